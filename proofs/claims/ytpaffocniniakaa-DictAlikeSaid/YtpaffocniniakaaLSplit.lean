/- list.Split: the makers of what is ranged over. -/
import Derived.Test.YtpaffocniniakaaLElems
namespace Go.Proofs.Ytpaffocniniakaa
set_option linter.unusedVariables false
set_option linter.unusedSimpArgs false
open Go.RowKit Go.Shelf
attribute [local go_sem] Oper.semAt_some wide_fn

abbrev tabV : Value := .agg #[.func (.func 86) #[] #[], .func (.func 87) #[] #[], .func (.func 88) #[] #[]]

theorem elements_stops (bx tx : Nat) (s : Bs) (hs : s.length ≤ 1000000) (w : World) (hbx : bx < w.heap.size) (htx : tx < w.heap.size) (hc : w.cell? ⟨bx, 0, none⟩ = some (.string ⟨s.toArray⟩))
    (ht0 : w.cell? ⟨tx, 0, none⟩ = some (.func (.func 86) #[] #[])) (ht1 : w.cell? ⟨tx, 1, none⟩ = some (.func (.func 87) #[] #[])) (ht2 : w.cell? ⟨tx, 2, none⟩ = some (.func (.func 88) #[] #[])) :
    SeqStopsK Fence.wide 2 Try.prog 78 #[.pointer (some ⟨bx, 0, none⟩), .pointer (some ⟨tx, 0, none⟩)] encE (K2 bx tx) (fun ys => ys = els s 0) (fun pre => pre <+: els s 0) s.length w := fun l J Jx W hW hJ _ hY h0 => by
  refine (elements1_in 2 (by omega) l bx tx s hs J Jx ?_ hY W ((hW.cell (p := ⟨bx, 0, none⟩) hbx).trans hc) ((hW.cell (p := ⟨tx, 0, none⟩) htx).trans ht0) ((hW.cell (p := ⟨tx, 1, none⟩) htx).trans ht1) ((hW.cell (p := ⟨tx, 2, none⟩) htx).trans ht2) h0)
  exact fun pre W W' hj hb => hJ pre W _ none hj ⟨hb.os, hb.tape, hb.output, hb.size, fun k hk _ => hb.block k hk⟩ (fun r e => by cases e)
end Go.Proofs.Ytpaffocniniakaa
