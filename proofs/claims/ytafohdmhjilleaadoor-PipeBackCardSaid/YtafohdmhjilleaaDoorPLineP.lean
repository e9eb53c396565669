/- Lines of a closed pipe: what they tell. -/
import Derived.Test.YtafohdmhjilleaaDoorPTwo
namespace Go.Proofs.YtafohdmhjilleaaDoor
set_option linter.unusedVariables false
set_option linter.unusedSimpArgs false
open Go.RowKit Go.Shelf

theorem suffix_yes (a : Bs) : Lib.hasSuffix (a ++ [10]) [10] = true ∧ Lib.trimSuffix (a ++ [10]) [10] = a := by
  have h : Lib.hasSuffix (a ++ [10]) [10] = true := by
    unfold Lib.hasSuffix
    rw [List.isSuffixOf_iff_suffix]
    exact ⟨a, rfl⟩
  refine ⟨h, ?_⟩
  unfold Lib.trimSuffix
  rw [if_pos h]
  simp
theorem suffix_no {a : Bs} (h : (10 : UInt8) ∉ a) : Lib.hasSuffix a [10] = false ∧ Lib.trimSuffix a [10] = a := by
  have h' : Lib.hasSuffix a [10] = false := by
    rw [← Bool.not_eq_true]
    intro hs
    unfold Lib.hasSuffix at hs
    rw [List.isSuffixOf_iff_suffix] at hs
    obtain ⟨t, rfl⟩ := hs
    exact h (by simp)
  refine ⟨h', ?_⟩
  unfold Lib.trimSuffix
  rw [if_neg (by simp [h'])]
/-- A closed pipe of which k steps were taken. -/
structure Rk (mode raw : Bs) (q : PP) (s : Bs) (k : Nat) : Prop where
  inm : q.inm = mode
  closed : q.closed = true
  len : q.raw.length ≤ raw.length
  raw_ : q.raw = raw.drop (sumN ((stepsL mode true raw).take k))
  told_ : s = bytesL ((stepsL mode true raw).take k)
  le : k ≤ (stepsL mode true raw).length
theorem Fd.close_k {mode : Bs} {q : PP} {t : Bs} (h : Fd mode q t) : Rk mode t q.close [] 0 := ⟨h.inm, rfl, by show q.raw.length ≤ _; rw [h.raw]; exact Nat.le_refl _, by show q.raw = _; rw [h.raw]; simp [sumN], rfl, Nat.zero_le _⟩
section
variable {mode raw s : Bs} {q : PP} {k : Nat}
theorem Rk.steps (h : Rk mode raw q s k) : stepsL q.inm q.closed q.raw = (stepsL mode true raw).drop k := by
  rw [h.inm, h.closed, h.raw_, steps_drop]
theorem Rk.lineT (h : Rk mode raw q s k) : q.lineT = lineL ((stepsL mode true raw).drop k) := by
  unfold PP.lineT PP.taken
  rw [tkL_line (by omega), h.steps]
/-- Nothing is left: no line is told. -/
theorem Rk.none (h : Rk mode raw q s k) (hk : (stepsL mode true raw).drop k = []) : q.told = false ∧ q.lineS = [] ∧ q.line.eof = true ∧ Rk mode raw q.line s k ∧ s = bytesL (stepsL mode true raw) := by
  have hT : q.lineT = [] := by rw [h.lineT, hk]; rfl
  have hw : q.whole = false := by unfold PP.whole; rw [hT]; rfl
  have ht : q.told = false := by unfold PP.told; rw [hw, hT]; simp [bytesL]
  refine ⟨ht, ?_, ?_, ⟨h.inm, h.closed, ?_, ?_, h.told_, h.le⟩, ?_⟩
  · unfold PP.lineS; rw [ht]; rfl
  · show (q.closed && !q.whole) = true
    rw [h.closed, hw]; rfl
  · show (if q.told = true then _ else q.raw).length ≤ _
    rw [ht]; exact h.len
  · show (if q.told = true then _ else q.raw) = _
    rw [ht]; exact h.raw_
  · rw [h.told_, List.take_of_length_le (List.drop_eq_nil_iff.1 hk)]
theorem Rk.step (h : Rk mode raw q s k) {l : List (UInt8 × Nat)} (hl : l = ((stepsL mode true raw).drop k).take l.length) (ht : q.told = true) (hT : q.lineT = l) : Rk mode raw q.line (s ++ bytesL l) (k + l.length) := by
  have hle : l.length ≤ ((stepsL mode true raw).drop k).length := by
    have := congrArg List.length hl
    rw [List.length_take] at this
    omega
  refine ⟨h.inm, h.closed, ?_, ?_, ?_, ?_⟩
  · show (if q.told = true then q.raw.drop (sumN q.lineT) else q.raw).length ≤ _
    rw [if_pos ht]
    have := h.len
    simp; omega
  · show (if q.told = true then q.raw.drop (sumN q.lineT) else q.raw) = _
    rw [if_pos ht, hT, h.raw_, List.drop_drop, List.take_add, sumN_append, ← hl]
  · rw [h.told_, List.take_add, ← hl]; simp [bytesL]
  · have := h.le; simp at hle; omega
/-- A line with its line feed. -/
theorem Rk.whole (h : Rk mode raw q s k) {a : Bs} (ha : bytesL (lineL ((stepsL mode true raw).drop k)) = a ++ [10]) (h10 : (10 : UInt8) ∉ a) :
    q.told = true ∧ q.lineS = a ∧ q.line.eof = false ∧ ∃ k', k < k' ∧ Rk mode raw q.line (s ++ a ++ [10]) k' := by
  obtain ⟨s1, s2⟩ := suffix_yes a
  have hw : q.whole = true := by unfold PP.whole; rw [h.lineT, ha, s1]
  have ht : q.told = true := by unfold PP.told; rw [hw]; rfl
  refine ⟨ht, ?_, ?_, k + (lineL ((stepsL mode true raw).drop k)).length, ?_, ?_⟩
  · unfold PP.lineS; rw [if_pos ht, h.lineT, ha, s2]
  · show (q.closed && !q.whole) = false
    rw [hw]; simp
  · have := congrArg List.length ha
    rw [bytesL_len] at this
    simp at this; omega
  · have := h.step (lineL_prefix _) ht h.lineT
    rwa [ha, ← List.append_assoc] at this
/-- What is left has no line feed. -/
theorem Rk.rest (h : Rk mode raw q s k) (h1 : lineL ((stepsL mode true raw).drop k) = (stepsL mode true raw).drop k) (h10 : (10 : UInt8) ∉ bytesL ((stepsL mode true raw).drop k)) (hne : (stepsL mode true raw).drop k ≠ []) :
    q.told = true ∧ q.lineS = bytesL ((stepsL mode true raw).drop k) ∧ q.line.eof = true ∧ ∃ k', k < k' ∧ Rk mode raw q.line (s ++ bytesL ((stepsL mode true raw).drop k)) k' := by
  obtain ⟨s1, s2⟩ := suffix_no h10
  have hT : q.lineT = (stepsL mode true raw).drop k := by rw [h.lineT, h1]
  have hw : q.whole = false := by unfold PP.whole; rw [hT, s1]
  have hb : bytesL ((stepsL mode true raw).drop k) ≠ [] := fun e => hne (by simpa [bytesL] using e)
  have ht : q.told = true := by
    unfold PP.told
    rw [hw, hT, h.closed]
    simp [hb]
  refine ⟨ht, ?_, ?_, k + ((stepsL mode true raw).drop k).length, ?_, ?_⟩
  · unfold PP.lineS; rw [if_pos ht, hT, s2]
  · show (q.closed && !q.whole) = true
    rw [h.closed, hw]; rfl
  · have : 0 < ((stepsL mode true raw).drop k).length := List.length_pos_iff.2 hne
    omega
  · exact h.step (by rw [List.take_length]) ht hT
theorem Rk.short (h : Rk mode raw q s k) : s.length ≤ raw.length := by
  have h1 := (steps_le mode true raw).1
  rw [h.told_, bytesL_len, List.length_take]; omega
theorem Rk.kle (h : Rk mode raw q s k) : k ≤ raw.length := Nat.le_trans h.le (steps_le mode true raw).1
theorem Rk.rd (h : Rk mode raw q s k) : Rd mode raw q s := ⟨h.inm, h.closed, h.len, k, h.raw_, h.told_⟩
end
theorem indexByte_none {l : Bs} (h : (10 : UInt8) ∉ l) : decide (0 ≤ Lib.indexByte l 10) = false := by
  have : Lib.indexByte l 10 = -1 := by
    induction l with
    | nil => rfl
    | cons c r ih =>
      simp only [List.mem_cons, not_or] at h
      unfold Lib.indexByte
      rw [if_neg (by simp; exact fun e => h.1 e.symm), ih h.2]
      rfl
  rw [this]; rfl
section
variable {w W : World} {b1 b2 : Nat} {p q : PP} {mode raw s : Bs} {k : Nat}
theorem line_at (h : At2 w b1 p b2 q W) (hr : Rk mode raw p s k) (hm : isInM mode = true) (hl : raw.length ≤ 1000000) :
    Calls Tryd.prog 26 #[.pointer (some ⟨b1, 0, none⟩)] W fun e w' => e = .returned (.tuple #[.string ⟨p.lineS.toArray⟩, .bool p.told, .int .i64 0]) ∧ At2 w b1 p.line b2 q w' :=
  have h0 := hr.len
  (Line_any h.p1 (by rw [hr.inm]; exact hm) (by omega)).mono fun e w' ⟨h1, h2, h3⟩ => ⟨h1, h.s1 h2 h3⟩
theorem line_none (h : At2 w b1 p b2 q W) (hr : Rk mode raw p s k) (hm : isInM mode = true) (hl : raw.length ≤ 1000000) (hk : (stepsL mode true raw).drop k = []) :
    Calls Tryd.prog 26 #[.pointer (some ⟨b1, 0, none⟩)] W fun e w' => e = .returned (.tuple #[.string ⟨#[]⟩, .bool false, .int .i64 0]) ∧ ∃ p', At2 w b1 p' b2 q w' ∧ Rk mode raw p' s k ∧ p'.eof = true := by
  obtain ⟨h1, h2, h3, h4, _⟩ := hr.none hk
  refine (line_at h hr hm hl).mono fun e w' ⟨e1, e2⟩ => ⟨?_, _, e2, h4, h3⟩
  rw [e1, h1, h2]
theorem line_whole (h : At2 w b1 p b2 q W) (hr : Rk mode raw p s k) (hm : isInM mode = true) (hl : raw.length ≤ 1000000) {a : Bs} (ha : bytesL (lineL ((stepsL mode true raw).drop k)) = a ++ [10]) (h10 : (10 : UInt8) ∉ a) :
    Calls Tryd.prog 26 #[.pointer (some ⟨b1, 0, none⟩)] W fun e w' => e = .returned (.tuple #[.string ⟨a.toArray⟩, .bool true, .int .i64 0]) ∧ ∃ p', At2 w b1 p' b2 q w' ∧ p'.eof = false ∧ ∃ k', k < k' ∧ Rk mode raw p' (s ++ a ++ [10]) k' := by
  obtain ⟨h1, h2, h3, k', h4, h5⟩ := hr.whole ha h10
  refine (line_at h hr hm hl).mono fun e w' ⟨e1, e2⟩ => ⟨?_, _, e2, h3, k', h4, h5⟩
  rw [e1, h1, h2]
theorem line_rest (h : At2 w b1 p b2 q W) (hr : Rk mode raw p s k) (hm : isInM mode = true) (hl : raw.length ≤ 1000000) {a : Bs} (ha : bytesL ((stepsL mode true raw).drop k) = a) (h1 : lineL ((stepsL mode true raw).drop k) = (stepsL mode true raw).drop k) (h10 : (10 : UInt8) ∉ a) (hne : (stepsL mode true raw).drop k ≠ []) :
    Calls Tryd.prog 26 #[.pointer (some ⟨b1, 0, none⟩)] W fun e w' => e = .returned (.tuple #[.string ⟨a.toArray⟩, .bool true, .int .i64 0]) ∧ ∃ p', At2 w b1 p' b2 q w' ∧ p'.eof = true ∧ ∃ k', k < k' ∧ Rk mode raw p' (s ++ a) k' := by
  subst ha
  obtain ⟨h1', h2, h3, k', h4, h5⟩ := hr.rest h1 h10 hne
  refine (line_at h hr hm hl).mono fun e w' ⟨e1, e2⟩ => ⟨?_, _, e2, h3, k', h4, h5⟩
  rw [e1, h1', h2]
theorem eof_1' (h : At2 w b1 p b2 q W) {x : Bool} (he : p.eof = x) : Calls Tryd.prog 21 #[.pointer (some ⟨b1, 0, none⟩)] W fun e w' => e = .returned (.bool x) ∧ W = w' :=
  (Eof_any h.p1).mono fun e w' ⟨h1, h2⟩ => ⟨by rw [h1, he], h2⟩
theorem close_1k (h : At2 w b1 p b2 q W) (hf : Fd mode p raw) :
    Calls Tryd.prog 18 #[.pointer (some ⟨b1, 0, none⟩)] W fun e w' => e = .returned (.int .i64 0) ∧ ∃ p', At2 w b1 p' b2 q w' ∧ Rk mode raw p' [] 0 :=
  (Close_any h.p1 hf.closed).mono fun e w' ⟨h1, h2, h3⟩ => ⟨h1, _, h.s1 h2 h3, hf.close_k⟩
theorem contains_no {a : Bs} (h : (10 : UInt8) ∉ a) (W : World) : Calls Tryd.prog 27 #[.string ⟨a.toArray⟩, .string ⟨#[10]⟩] W fun e w' => e = .returned (.bool false) ∧ W = w' :=
  (Tryd.strings_Contains_one ⟨a.toArray⟩ 10 W).mono fun e w' ⟨h1, h2⟩ => ⟨by rw [h1]; exact congrArg (fun b => Ending.returned (.bool b)) (indexByte_none h), h2.symm⟩
end
end Go.Proofs.YtafohdmhjilleaaDoor
