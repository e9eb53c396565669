/- NamesPaths: trees: 'New'. -/
import Derived.Test.YtjgdfgpnmmkjfaaGreatDoorNRef3
import Derived.Deep.RegionHeld3
import Derived.Deep.RegionWith
namespace Go.Proofs.YtjgdfgpnmmkjfaaGreatDoor
set_option linter.unusedVariables false
set_option linter.unusedSimpArgs false
open Go.RowKit Go.MapKept

/-- A tree at block tb, its map at m: what node each path has. -/
structure TreeAt (w : World) (tb m : Nat) (nd : Bs → Option Nat) : Prop where
  cel : w.heap[tb]? = some (.cells #[.map (some m)] 52 (0, 0))
  map : MapAt Tryz.prog 9 sv w m (fun k => (nd k).map fun b => .pointer (some ⟨b, 0, none⟩))
  node : ∀ k b, nd k = some b → ∃ a c d, w.heap[b]? = some (.cells #[a, c, d] 49 (0, 0))
theorem nNew_any (w : World) : Calls Tryz.prog 8 #[] w fun e w' => ∃ tb m nb, e = .returned (.pointer (some ⟨tb, 0, none⟩)) ∧ TreeAt w' tb m (fun k => if k = rootN then some nb else none) ∧ Below w.heap.size w w' ∧ w.heap.size ≤ tb ∧ w.heap.size ≤ m ∧ w.heap.size ≤ nb ∧ w'.heap[nb]? = some (.cells #[.slice none 0 0, .slice none 0 0, .string ⟨#[]⟩] 49 (0, 0)) := by
  have hmk := fun W : World => run_makeMap (P := Tryz.prog) (w := W) 50
  have hm0 := (mapAt_new Tryz.prog 9 sv w).congr (w' := (w.alloc (.map #[] 0)).alloc (.cells #[.slice none 0 0, .slice none 0 0, .string ⟨#[]⟩] 49)) (Below.heap_alloc _ _ _ (by simp))
  have hn0 := heap_alloc_new (w.alloc (.map #[] 0)) (.cells #[.slice none 0 0, .slice none 0 0, .string ⟨#[]⟩] 49)
  simp only [World.size_alloc] at hn0
  obtain ⟨w3, hup, ho, hma⟩ := hm0.store Skeyed Tryz.underlying50 sv_inj (k := [58, 58]) (skey (by decide)) (.pointer (some ⟨w.heap.size + 1, 0, none⟩))
  rw [show sv [58, 58] = (Value.string ⟨#[58, 58]⟩) from rfl] at hup
  have HO := Lib.hid (And.intro ho (And.intro hma hn0))
  clear hm0 ho hma hn0
  go_enter Tryz.func8, Tryz.ntmps8
  go_wp2
  go_ret
  obtain ⟨ho, hma, hn0⟩ := HO.out
  have hs3 : w3.heap.size = w.heap.size + 1 + 1 := by rw [ho.size]; simp
  have hn3 := (ho.block (w.heap.size + 1) (by omega)).trans hn0
  have hb3 : Below w.heap.size w w3 := (((Below.refl _ w).alloc (Nat.le_refl _) _).alloc (by simp) _).trans ⟨ho.os, ho.tape, ho.output, Nat.le_of_eq ho.size.symm, fun j hj => ho.block j (by omega)⟩
  refine ⟨_, w.heap.size, w.heap.size + 1, rfl, ⟨heap_alloc_new w3 _, ?_, fun k b hk => ?_⟩, hb3.alloc hb3.size _, by omega, Nat.le_refl _, by omega, (Below.heap_alloc _ _ _ (by omega)).trans hn3⟩
  · have h := hma.congr (w' := w3.alloc (.cells #[.map (some w.heap.size)] 52)) (Below.heap_alloc _ _ _ (by omega))
    have e : (fun k : Bs => ((if k = rootN then some (w.heap.size + 1) else none : Option Nat)).map fun b => Value.pointer (some ⟨b, 0, none⟩)) = fun k' => if k' = [58, 58] then some (Value.pointer (some ⟨w.heap.size + 1, 0, none⟩)) else none := by
      funext k
      by_cases h : k = [58, 58]
      · rw [if_pos h, if_pos (show k = rootN from h)]; rfl
      · rw [if_neg h, if_neg (show ¬ k = rootN from h)]; rfl
    rw [e]
    exact h
  · by_cases h : k = rootN
    · simp only [if_pos h] at hk
      cases hk
      exact ⟨_, _, _, (Below.heap_alloc _ _ _ (by omega)).trans hn3⟩
    · simp only [if_neg h] at hk
      cases hk
theorem TreeAt.below {w w' : World} {tb m : Nat} {nd : Bs → Option Nat} (h : TreeAt w tb m nd) (k : Below w.heap.size w w') : TreeAt w' tb m nd :=
  ⟨(k.block tb (Array.getElem?_eq_some_iff.1 h.cel).1).trans h.cel, h.map.congr (k.block m h.map.lt), fun q b hq => by
    obtain ⟨a, c, d, hb⟩ := h.node q b hq
    exact ⟨a, c, d, (k.block b (Array.getElem?_eq_some_iff.1 hb).1).trans hb⟩⟩
def ptrN (o : Option Nat) : Value := .pointer (o.map fun b => ⟨b, 0, none⟩)
theorem zero_node (w : World) : (zeroValue 47).run Tryz.prog w = .ok (.pointer none) w := by kernel_rfl
theorem TreeAt.look {w : World} {tb m : Nat} {nd : Bs → Option Nat} (h : TreeAt w tb m nd) {k : Bs} (hk : k.length ≤ maxLen) :
    (Instr.lookup 50 (.map (some m)) (.string ⟨k.toArray⟩) false).run Tryz.prog w = .ok (ptrN (nd k)) w := by
  have hl := h.map.look Skeyed (t := 50) (et := 47) Tryz.underlying50 (z := .pointer none) (zero_node w) (skey hk)
  rw [show sv k = (Value.string ⟨k.toArray⟩) from rfl] at hl
  rw [hl]
  cases nd k <;> rfl
theorem canon_len (path : Bs) (hp : path.length ≤ 100000) : (canonN rootN path).length ≤ 1000000 := by
  rw [canon_root]
  have h1 := join_w (partsN path)
  have h2 := parts_w path
  unfold canN
  simp only [List.length_cons]
  omega
set_option maxHeartbeats 800000 in
theorem at_any {w : World} {tb m : Nat} {nd : Bs → Option Nat} (h : TreeAt w tb m nd) (path : Bs) (hp : path.length ≤ 100000) :
    Calls Tryz.prog 32 #[.pointer (some ⟨tb, 0, none⟩), .string ⟨path.toArray⟩] w fun e w' => e = .returned (ptrN (nd (canonN rootN path))) ∧ Below w.heap.size w w' := by
  have hql := canon_len path hp
  have htb : tb < w.heap.size := (Array.getElem?_eq_some_iff.1 h.cel).1
  have CA : Hid (∀ W, Calls Tryz.prog 19 #[.string ⟨#[58, 58]⟩, .string ⟨path.toArray⟩] W fun e w' => e = .returned (.string ⟨(canonN rootN path).toArray⟩) ∧ Below W.heap.size W w') := fun W => Canonical_any rootN path (by decide) hp W
  obtain ⟨q, hq⟩ : ∃ q, q = canonN rootN path := ⟨_, rfl⟩
  rw [← hq] at CA hql ⊢
  have HL : Hid (∀ W, Below w.heap.size w W → W.cell? ⟨tb, 0, none⟩ = some (.map (some m)) ∧ (Instr.lookup 50 (.map (some m)) (.string ⟨q.toArray⟩) false).run Tryz.prog W = .ok (ptrN (nd q)) W) := fun W hB => ⟨(vcells1 (h.below hB).cel).1, (h.below hB).look (by unfold maxLen; omega)⟩
  obtain ⟨c0, _⟩ := vcells1 h.cel
  generalize ptrN (nd q) = r at *
  clear h hq hp hql
  go_enter Tryz.func32, Tryz.ntmps32
  go_wp2_with fail
  go_region_held3 (fun w' => w'.cell? ⟨tb, 0, none⟩ = some (.map (some m))) (first | go_keep | (exact (HL.out _ hbx).1)) ((go_at_call 19; refine (CA.out _).mono ?_; rintro e w4 ⟨rfl, hbx0⟩; have hbx := ((Below.refl w.heap.size w).drew).trans hbx0; have hl1 := (HL.out _ hbx).2; clear hbx0))
  go_wp2_with fail
  go_ret
  exact ⟨rfl, hbx⟩
end Go.Proofs.YtjgdfgpnmmkjfaaGreatDoor
