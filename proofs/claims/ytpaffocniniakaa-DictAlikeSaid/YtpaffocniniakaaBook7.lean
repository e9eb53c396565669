/- A list of marks at a function's end; a pairs' range in a loop; Merge. -/
import Derived.Test.YtpaffocniniakaaBook6
namespace Go.Proofs.Ytpaffocniniakaa
set_option linter.unusedVariables false
set_option linter.unusedSimpArgs false
open Go.RowKit Go.MapKept Go.WideMaps
attribute [local go_sem] Oper.semAt_some wide_fn

abbrev mark (D : Nat) : Deferred := { target := .collected D, args := #[] }
theorem kp_put (w : World) (D : Nat) (o : Obj) : Kp [D] w (w.putObj D o) := by
  have h := grownBy_putObj' w D o
  exact ⟨h.os, h.tape, h.output, h.size, fun k hk hn => h.block k hk (fun e => hn (by cases e; simp))⟩
theorem leaves_marks {F : Fence} {n : Nat} {P : Program} {fn : Func} {tmps : Array Value} {R : Ending → World → Prop} : ∀ (Ds : List Nat) (w : World), (∀ D ∈ Ds, w.heap[D]? = some (.deferred (some []))) → Ds.Nodup → (∀ w', Kp Ds w w' → LeavesInM F n P fn tmps R [] .returning w') → LeavesInM F n P fn tmps R (Ds.map mark) .returning w := by
  intro Ds
  induction Ds with
  | nil => intro w _ _ h; exact h w (Kp.refl _ _)
  | cons D Ds ih =>
    intro w hD hn h
    rw [List.nodup_cons] at hn
    refine ⟨by simp, .inl ⟨D, _, rfl, run_takeDeferred (hD D (by simp)), ?_⟩⟩
    have hk := kp_put w D (.deferred none)
    refine ih _ (fun E hE => ?_) hn.2 (fun w' k => h w' ?_)
    · have hE' := hD E (List.mem_cons_of_mem _ hE)
      exact (hk.block E (Array.getElem?_eq_some_iff.1 hE').1 (by simp; exact fun e => hn.1 (e ▸ hE))).trans hE'
    · exact (hk.mono (by simp)).from (k.mono (fun d hd => List.mem_cons_of_mem _ hd))
end Go.Proofs.Ytpaffocniniakaa
