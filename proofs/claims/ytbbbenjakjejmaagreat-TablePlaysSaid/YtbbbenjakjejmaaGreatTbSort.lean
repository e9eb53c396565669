/- 'slices.Sort' of an own row of numbers. -/
import Derived.Test.YtbbbenjakjejmaaGreatTbRep
import Derived.Test.YtbbbenjakjejmaaGreatShelf
import Derived.Lib.OwnBridge
import Derived.Lib.AppendIntMem
namespace Go.Proofs.YtbbbenjakjejmaaGreat
set_option linter.unusedVariables false
set_option linter.unusedSimpArgs false
open Go.RowKit Go.MapKept

def srtI (l : List Int) : List Int := l.mergeSort fun x y => decide (x ≤ y)
theorem srtI_perm (l : List Int) : (srtI l).Perm l := List.mergeSort_perm _ _
theorem srtI_len (l : List Int) : (srtI l).length = l.length := (srtI_perm l).length_eq
theorem sortI_any {w : World} {B : Nat} {v : Value} {ss : List Int} (h : w.ownsRow B 3 1 v ss.length (ss.map (Value.int .i64))) (hl : ss.length ≤ 1000000000) :
    Calls Tryz.prog 50 #[v] w fun e w' => e = .returned (.tuple #[]) ∧ w'.ownsRow B 3 1 v ss.length ((srtI ss).map (Value.int .i64)) ∧ Kp v.ownBlock.toList w w' := by
  by_cases hv : v = .slice none 0 0
  · subst hv
    have h0 : ss.length = 0 := by
      rcases h.2 with ⟨_, h0⟩ | ⟨g, cap, cur, e, _⟩
      · exact h0
      · cases e
    obtain rfl : ss = [] := List.length_eq_zero_iff.1 h0
    refine (Tryz.slices_Sort_int_none none 0 w).mono fun e w' ⟨he, hw⟩ => ⟨he, ?_, ?_⟩
    · subst hw; rw [show srtI [] = [] by simp [srtI]]; exact h
    · subst hw; exact Kp.refl _ _
  · obtain ⟨g, cap, rfl, hb, hg, hn, hm, hzl, hH⟩ := Lib.holds_of_ownsRow (enc := Value.int .i64) (zs := ss) h hv
    refine (Tryz.slices_Sort_int g 0 cap ss w hH hg (by omega)).mono fun e w' ⟨he, n, os, hw⟩ => ⟨he, ?_, ?_⟩
    · subst hw
      have h2 := Lib.ownsRow_putRow (enc := Value.int .i64) (q := n) (k := ss.length) (zs := ss) (ys := srtI ss) h (srtI_len ss) (Nat.le_refl _)
      rw [List.take_of_length_le (by rw [srtI_len]; exact Nat.le_refl _)] at h2
      exact Lib.ownsRow_grow h2 0 os
    · subst hw
      have e0 : ∀ j, j < w.heap.size → j ≠ g → (Sort.grow (Sort.putRow (Value.int .i64) (Sort.ahead w n) g 0 (srtI ss).toArray) os).heap[j]? = w.heap[j]? := fun j hj hne => by
        have hlt : j < (Sort.putRow (Value.int .i64) (Sort.ahead w n) g 0 (srtI ss).toArray).heap.size := by simpa [Sort.putRow, Sort.mapBlock, Sort.ahead] using hj
        unfold Sort.grow
        simp only
        rw [Array.getElem?_append_left hlt]
        simp [Sort.putRow, Sort.mapBlock, Sort.ahead, Array.getElem?_modify, Ne.symm hne]
      refine ⟨rfl, rfl, rfl, ?_, fun j hj hne => e0 j hj (by simpa [Value.ownBlock] using hne)⟩
      simp [Sort.grow, Sort.putRow, Sort.mapBlock, Sort.ahead]
end Go.Proofs.YtbbbenjakjejmaaGreat
