/- Rows of texts; 'slices.Sort' of them; 'Same' of two of them. -/
import Derived.Test.YtbbbenjakjejmaaGreatTbNms
import Derived.Test.YtbbbenjakjejmaaGreatTbSort
namespace Go.Proofs.YtbbbenjakjejmaaGreat
set_option linter.unusedVariables false
set_option linter.unusedSimpArgs false
open Go.RowKit Go.MapKept Go.WideMaps
def TxtRow (w : World) (v : Value) (ss : List Bs) : Prop := ∃ o c, v = .slice o ss.length c ∧ ss.length ≤ c ∧ c ≤ maxLen ∧ ∀ i (h : i < ss.length), ∃ b off, o = some ⟨b, off, none⟩ ∧ b < w.heap.size ∧ w.cell? ⟨b, off + i, none⟩ = some (sv ss[i])
theorem TxtRow.below {w w' : World} {v : Value} {ss : List Bs} (h : TxtRow w v ss) (hb : Below w.heap.size w w') : TxtRow w' v ss := by
  obtain ⟨o, c, h1, h2, h3, h4⟩ := h
  refine ⟨o, c, h1, h2, h3, fun i hi => ?_⟩
  obtain ⟨b, off, e, hl, hc⟩ := h4 i hi
  exact ⟨b, off, e, Nat.lt_of_lt_of_le hl hb.size, (hb.cell (p := ⟨b, off + i, none⟩) hl).trans hc⟩
theorem TxtRow.of_owns {w : World} {base : Nat} {v : Value} {ss : List Bs} (h : w.ownsRow base 9 1 v ss.length (ss.map sv)) : TxtRow w v ss := by
  rcases h.2 with ⟨h0, hl⟩ | ⟨g, cap, cur, rfl, hb, hg, h1, h2, h3, h4⟩
  · subst h0
    refine ⟨none, 0, ?_, by omega, by unfold maxLen; omega, fun i hi => by omega⟩
    rw [hl]
  · refine ⟨_, cap, rfl, h1, h2, fun i hi => ⟨g, 0, rfl, (Array.getElem?_eq_some_iff.1 hg).1, ?_⟩⟩
    have hj : (ss.map sv)[i]? = some (sv ss[i]) := by rw [List.getElem?_map, List.getElem?_eq_getElem hi]; rfl
    rw [← h4, List.getElem?_take, if_pos (by omega)] at hj
    simp only [World.cell?, hg, Nat.zero_add]
    simpa using hj
theorem TxtRow.at_ {w : World} {o : Option Addr} {n c : Nat} {ss : List Bs} (h : TxtRow w (.slice o n c) ss) : n = ss.length ∧ ss.length ≤ c ∧ c ≤ maxLen ∧ ∀ i (h : i < ss.length), ∃ b off, o = some ⟨b, off, none⟩ ∧ b < w.heap.size ∧ w.cell? ⟨b, off + i, none⟩ = some (sv ss[i]) := by
  obtain ⟨o', c', h1, h2, h3, h4⟩ := h
  cases h1
  exact ⟨rfl, h2, h3, h4⟩
theorem row_shape {W : World} {base : Nat} {e : TypeId} {v : Value} {n : Nat} {xs : List Value} (h : W.ownsRow base e 1 v n xs) : ∃ o c, v = .slice o n c := by
  rcases h.2 with ⟨rfl, rfl⟩ | ⟨g, cap, cur, rfl, _⟩
  · exact ⟨_, _, rfl⟩
  · exact ⟨_, _, rfl⟩
theorem infoStr : (Tryz.prog.info? 9).map (fun i => (i.zero, i.size, i.bytes)) = some (some (.string ⟨#[]⟩), 1, 16) := by kernel_rfl
theorem TxtRow.len {w : World} {v : Value} {ss : List Bs} (h : TxtRow w v ss) : ∃ o c, v = .slice o ss.length c := by
  obtain ⟨o, c, e, _⟩ := h
  exact ⟨o, c, e⟩
theorem row_ids {w : World} {B n : Nat} {e : TypeId} {v : Value} {xs : List Value} (h : w.ownsRow B e 1 v n xs) : ∀ g, v.ownBlock = some g → B ≤ g ∧ g < w.heap.size := by
  intro g hg
  rcases h.2 with ⟨rfl, _⟩ | ⟨g', cap, cur, rfl, hb, hh, _⟩
  · simp [Value.ownBlock] at hg
  · simp [Value.ownBlock] at hg; subst hg; exact ⟨hb, (Array.getElem?_eq_some_iff.1 hh).1⟩
theorem row_base {w : World} {B B' n : Nat} {e : TypeId} {v : Value} {xs : List Value} (h : w.ownsRow B e 1 v n xs) (hB : B' ≤ B) : w.ownsRow B' e 1 v n xs := by
  refine ⟨h.1, ?_⟩
  rcases h.2 with h0 | ⟨g, cap, cur, rfl, hb, rest⟩
  · exact .inl h0
  · exact .inr ⟨g, cap, cur, rfl, by omega, rest⟩
theorem infoStr' : ∃ i, Tryz.prog.info? 9 = some i ∧ i.zero = some (.string ⟨#[]⟩) ∧ i.size = 1 ∧ i.bytes = 16 := by
  have h := infoStr
  cases hi : Tryz.prog.info? 9 with
  | none => rw [hi] at h; cases h
  | some i => rw [hi] at h; simp at h; exact ⟨i, rfl, h.1, h.2.1, h.2.2⟩
def srt (l : List Bs) : List Bs := l.mergeSort fun x y => decide (x ≤ y)
theorem srt_perm (l : List Bs) : (srt l).Perm l := List.mergeSort_perm _ _
theorem srt_of_perm {l l' : List Bs} (h : l.Perm l') : srt l = srt l' := mergeSort_of_perm h
theorem srt_len (l : List Bs) : (srt l).length = l.length := (srt_perm l).length_eq
theorem sort_any {w : World} {B : Nat} {v : Value} {ss : List Bs} (h : w.ownsRow B 9 1 v ss.length (ss.map sv)) (hl : ss.length ≤ 1000000000) :
    Calls Tryz.prog 63 #[v] w fun e w' => e = .returned (.tuple #[]) ∧ w'.ownsRow B 9 1 v ss.length ((srt ss).map sv) ∧ Kp v.ownBlock.toList w w' := by
  by_cases hv : v = .slice none 0 0
  · subst hv
    have h0 : ss.length = 0 := by
      rcases h.2 with ⟨_, h0⟩ | ⟨g, cap, cur, e, _⟩
      · exact h0
      · cases e
    obtain rfl : ss = [] := List.length_eq_zero_iff.1 h0
    refine (Tryz.slices_Sort_string_none none 0 w).mono fun e w' ⟨he, hw⟩ => ⟨he, ?_, ?_⟩
    · subst hw; rw [show srt [] = [] by simp [srt]]; exact h
    · subst hw; exact Kp.refl _ _
  · obtain ⟨g, cap, rfl, hb, hg, hn, hm, hzl, hH⟩ := Lib.holds_of_ownsRow (enc := Proofs.encStr) (zs := ss) h hv
    refine (Tryz.slices_Sort_string g 0 cap ss w hH hg (by omega)).mono fun e w' ⟨he, n, os, hw⟩ => ⟨he, ?_, ?_⟩
    · subst hw
      have h2 := Lib.ownsRow_putRow (enc := Proofs.encStr) (q := n) (k := ss.length) (zs := ss) (ys := srt ss) h (srt_len ss) (Nat.le_refl _)
      rw [List.take_of_length_le (by rw [srt_len]; exact Nat.le_refl _)] at h2
      exact Lib.ownsRow_grow h2 0 os
    · subst hw
      have e0 : ∀ j, j < w.heap.size → j ≠ g → (Sort.grow (Sort.putRow Proofs.encStr (Sort.ahead w n) g 0 (srt ss).toArray) os).heap[j]? = w.heap[j]? := fun j hj hne => by
        have hlt : j < (Sort.putRow Proofs.encStr (Sort.ahead w n) g 0 (srt ss).toArray).heap.size := by simpa [Sort.putRow, Sort.mapBlock, Sort.ahead] using hj
        unfold Sort.grow
        simp only
        rw [Array.getElem?_append_left hlt]
        simp [Sort.putRow, Sort.mapBlock, Sort.ahead, Array.getElem?_modify, Ne.symm hne]
      refine ⟨rfl, rfl, rfl, ?_, fun j hj hne => e0 j hj (by simpa [Value.ownBlock] using hne)⟩
      simp [Sort.grow, Sort.putRow, Sort.mapBlock, Sort.ahead]
end Go.Proofs.YtbbbenjakjejmaaGreat
