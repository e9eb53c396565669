/- DictAlike: the walk. -/
import Derived.Test.YtpaffocniniakaaAlikeP
namespace Go.Proofs.Ytpaffocniniakaa
set_option linter.unusedVariables false
set_option linter.unusedSimpArgs false
open Go.RowKit

/-- 'Merge' of two texts in a slice just made. -/
theorem merge_new (a b : Bs) (w W : World) (hM : MaxIs w) (hB : Below w.heap.size w W) (hl : a.length + b.length ≤ 19999) :
    Calls Try.prog 11 #[.slice (some ⟨W.heap.size, 0, none⟩) 2 2] (W.alloc (.cells #[.string ⟨a.toArray⟩, .string ⟨b.toArray⟩] 9)) fun e w' => e = .returned (.tuple #[.string ⟨(mergeE [a, b]).1.toArray⟩, .int .i64 (mergeE [a, b]).2]) ∧ Below w.heap.size w w' := by
  have hB1 : Below W.heap.size W (W.alloc (.cells #[.string ⟨a.toArray⟩, .string ⟨b.toArray⟩] 9)) := (Below.refl _ _).alloc (Nat.le_refl _) _
  have hB2 := hB.trans (hB1.mono hB.size)
  have h := Merge_any _ [a, b] _ (hM.below hB2 hM.pos) (txt_new W [a, b] (by show 2 ≤ maxLen; decide)) (by simp [sumL]; omega)
  exact h.mono fun e w2 ⟨h1, h2⟩ => ⟨h1, hB2.trans (h2.mono hB2.size)⟩
set_option maxRecDepth 100000 in
set_option maxHeartbeats 1600000 in
theorem dictAlike_walk (a b c : Bs) (ha : a.length ≤ 1000000000000000) (hb : b.length ≤ 1000000000000000) (hc : c.length ≤ 1000000000000000) (w : World) (hM : MaxIs w) :
    Calls Try.prog 3 #[.string ⟨a.toArray⟩, .string ⟨b.toArray⟩, .string ⟨c.toArray⟩] w fun e w' => e = .returned (.bool true) ∧ Below w.heap.size w w' := by
  have AW : Hid (∀ W, Below w.heap.size w W → Calls Try.prog 8 #[] W fun e w' => e = .returned (.bool true) ∧ Below w.heap.size w w') := fun W hB => (awake_any W (hM.below hB hM.pos)).mono fun e w' ⟨h1, h2⟩ => ⟨h1, hB.trans (h2.mono hB.size)⟩
  have hB1 : Below w.heap.size w (w.alloc (.cells #[.string ⟨a.toArray⟩, .string ⟨b.toArray⟩, .string ⟨c.toArray⟩] 9)) := (Below.refl _ _).alloc (Nat.le_refl _) _
  have LG : Hid (Calls Try.prog 7 #[.slice (some ⟨w.heap.size, 0, none⟩) 3 3] (w.alloc (.cells #[.string ⟨a.toArray⟩, .string ⟨b.toArray⟩, .string ⟨c.toArray⟩] 9)) fun e w' => e = .returned (.bool (decide (1500 < longS [a, b, c]))) ∧ Below w.heap.size w w') :=
    (Long_any [a, b, c] _ _ (by simp [longS]; omega) (txt_new w [a, b, c] (by show 3 ≤ maxLen; decide))).mono fun e w' ⟨h1, h2⟩ => ⟨h1, h2 ▸ hB1⟩
  have hls : longS [a, b, c] = a.length + b.length + c.length + 3 := by simp only [longS]; omega
  by_cases hL : 1500 < longS [a, b, c]
  · rw [decide_eq_true hL] at LG
    clear hL hls ha hb hc hM hB1
    go_enter Try.func3, Try.ntmps3
    go_wp2_with (first | (go_at_call 7; refine LG.out.mono ?_; rintro e w1 ⟨rfl, hB1⟩; have H1 := Lib.hid hB1; clear hB1) | (go_at_call 8; refine (AW.out _ H1.out).mono ?_; rintro e w2 ⟨rfl, hB2⟩; have H2 := Lib.hid hB2; clear hB2))
    go_ret
    exact ⟨rfl, H2.out⟩
  · rw [decide_eq_false hL] at LG
    have AL : Hid (∀ x y W, x.length ≤ 19999 → y.length ≤ 19999 → Below w.heap.size w W → Calls Try.prog 9 #[.string ⟨x.toArray⟩, .string ⟨y.toArray⟩] W fun e w' => e = .returned (.bool (alikeC x y)) ∧ Below w.heap.size w w') := fun x y W hx hy hB => (Alike_any x y hx hy W).mono fun e w' ⟨h1, h2⟩ => ⟨h1, hB.trans (h2.mono hB.size)⟩
    have hla : a.length ≤ 1500 := by omega
    have hlb : b.length ≤ 1500 := by omega
    have hlc : c.length ≤ 1500 := by omega
    have AB : Hid (∀ W, Below w.heap.size w W → Calls Try.prog 9 #[.string ⟨a.toArray⟩, .string ⟨b.toArray⟩] W fun e w' => e = .returned (.bool (alikeC a b)) ∧ Below w.heap.size w w') := fun W => AL.out a b W (by omega) (by omega)
    have BA : Hid (∀ W, Below w.heap.size w W → Calls Try.prog 9 #[.string ⟨b.toArray⟩, .string ⟨a.toArray⟩] W fun e w' => e = .returned (.bool (alikeC a b)) ∧ Below w.heap.size w w') := fun W => by rw [alikeC_symm a b]; exact AL.out b a W (by omega) (by omega)
    have BC : Hid (∀ W, Below w.heap.size w W → Calls Try.prog 9 #[.string ⟨b.toArray⟩, .string ⟨c.toArray⟩] W fun e w' => e = .returned (.bool (alikeC b c)) ∧ Below w.heap.size w w') := fun W => AL.out b c W (by omega) (by omega)
    have AC : Hid (∀ W, Below w.heap.size w W → Calls Try.prog 9 #[.string ⟨a.toArray⟩, .string ⟨c.toArray⟩] W fun e w' => e = .returned (.bool (alikeC a c)) ∧ Below w.heap.size w w') := fun W => AL.out a c W (by omega) (by omega)
    have CN : Hid (∀ W, Below w.heap.size w W → Calls Try.prog 10 #[.string ⟨a.toArray⟩] W fun e w' => e = .returned (.tuple #[.string ⟨(canonC a).1.toArray⟩, .int .i64 (canonC a).2]) ∧ Below w.heap.size w w') := fun W hB => (Canonical_any a (by omega) W (hM.below hB hM.pos)).mono fun e w' ⟨h1, h2⟩ => ⟨h1, hB.trans (h2.mono hB.size)⟩
    have AX : Hid (∀ W, Below w.heap.size w W → Calls Try.prog 9 #[.string ⟨a.toArray⟩, .string ⟨(canonC a).1.toArray⟩] W fun e w' => e = .returned (.bool (alikeC a (canonC a).1)) ∧ Below w.heap.size w w') := fun W => AL.out a _ W (by omega) (by have := canonC_len a; omega)
    have M1 : Hid (∀ W, Below w.heap.size w W → Calls Try.prog 11 #[.slice (some ⟨W.heap.size, 0, none⟩) 2 2] (W.alloc (.cells #[.string ⟨a.toArray⟩, .string ⟨b.toArray⟩] 9)) fun e w' => e = .returned (.tuple #[.string ⟨(mergeE [a, b]).1.toArray⟩, .int .i64 (mergeE [a, b]).2]) ∧ Below w.heap.size w w') := fun W hB => merge_new a b w W hM hB (by omega)
    have M2 : Hid (∀ W, Below w.heap.size w W → Calls Try.prog 11 #[.slice (some ⟨W.heap.size, 0, none⟩) 2 2] (W.alloc (.cells #[.string ⟨b.toArray⟩, .string ⟨c.toArray⟩] 9)) fun e w' => e = .returned (.tuple #[.string ⟨(mergeE [b, c]).1.toArray⟩, .int .i64 (mergeE [b, c]).2]) ∧ Below w.heap.size w w') := fun W hB => merge_new b c w W hM hB (by omega)
    have M3 : Hid (∀ W, Below w.heap.size w W → Calls Try.prog 11 #[.slice (some ⟨W.heap.size, 0, none⟩) 2 2] (W.alloc (.cells #[.string ⟨(mergeE [a, b]).1.toArray⟩, .string ⟨c.toArray⟩] 9)) fun e w' => e = .returned (.tuple #[.string ⟨(mergeE [(mergeE [a, b]).1, c]).1.toArray⟩, .int .i64 (mergeE [(mergeE [a, b]).1, c]).2]) ∧ Below w.heap.size w w') := fun W hB => merge_new _ c w W hM hB (by have := merge_len a b; omega)
    have M4 : Hid (∀ W, Below w.heap.size w W → Calls Try.prog 11 #[.slice (some ⟨W.heap.size, 0, none⟩) 2 2] (W.alloc (.cells #[.string ⟨a.toArray⟩, .string ⟨(mergeE [b, c]).1.toArray⟩] 9)) fun e w' => e = .returned (.tuple #[.string ⟨(mergeE [a, (mergeE [b, c]).1]).1.toArray⟩, .int .i64 (mergeE [a, (mergeE [b, c]).1]).2]) ∧ Below w.heap.size w w') := fun W hB => merge_new a _ w W hM hB (by have := merge_len b c; omega)
    have T : alikeC a b = true → alikeC b c = true → alikeC a c = true := alikeC_trans
    have K : (canonC a).2 = 0 → alikeC a (canonC a).1 = true := canonC_alike
    have S : (mergeE [a, b]).2 = 0 → (mergeE [b, c]).2 = 0 → mergeE [(mergeE [a, b]).1, c] = mergeE [a, (mergeE [b, c]).1] := merge_assoc
    clear hL hls ha hb hc hM hB1 hla hlb hlc AL
    generalize mergeE [(mergeE [a, b]).1, c] = m3 at *
    generalize mergeE [a, (mergeE [b, c]).1] = m4 at *
    generalize mergeE [a, b] = m1 at *
    generalize mergeE [b, c] = m2 at *
    generalize alikeC a (canonC a).1 = p4 at *
    generalize canonC a = cn at *
    generalize alikeC a b = p1 at *
    generalize alikeC b c = p2 at *
    generalize alikeC a c = p3 at *
    obtain ⟨t1, e1⟩ := m1
    obtain ⟨t2, e2⟩ := m2
    obtain ⟨ct, ce⟩ := cn
    simp only at M1 M2 M3 M4 K S CN AX
    have P : (p1 = false) ∨ (p1 = true ∧ p2 = false) ∨ (p1 = true ∧ p2 = true ∧ p3 = true) := by
      cases p1
      · exact .inl rfl
      · cases p2
        · exact .inr (.inl ⟨rfl, rfl⟩)
        · exact .inr (.inr ⟨rfl, rfl, T rfl rfl⟩)
    clear T
    have Q : (ce = 0 ∧ p4 = true) ∨ Hid ((ce == 0) = false) := by
      by_cases h : ce = 0
      · exact .inl ⟨h, K h⟩
      · exact .inr (beq_eq_false_iff_ne.2 h)
    clear K
    have R : Hid ((e1 == 0) = false) ∨ (e1 = 0 ∧ Hid ((e2 == 0) = false)) ∨ (e1 = 0 ∧ e2 = 0 ∧ m3 = m4) := by
      by_cases h : e1 = 0
      · by_cases h2 : e2 = 0
        · exact .inr (.inr ⟨h, h2, S h h2⟩)
        · exact .inr (.inl ⟨h, beq_eq_false_iff_ne.2 h2⟩)
      · exact .inl (beq_eq_false_iff_ne.2 h)
    clear S
    rcases P with rfl | ⟨rfl, rfl⟩ | ⟨rfl, rfl, rfl⟩ <;> rcases Q with ⟨rfl, rfl⟩ | q1 <;> rcases R with r1 | ⟨rfl, r2⟩ | ⟨rfl, rfl, rfl⟩
    all_goals
      try have q1' := q1.out
      try have r1' := r1.out
      try have r2' := r2.out
      try clear q1
      try clear r1
      try clear r2
      go_enter Try.func3, Try.ntmps3
      go_wp2_with (first | (go_at_call 7; refine LG.out.mono ?_; rintro e w1 ⟨rfl, hB1⟩; have H := Lib.hid hB1; clear hB1) | (go_at_call 8; with_reducible refine (AW.out _ H.out).mono ?_; rintro e w1 ⟨rfl, hB1⟩; have H := Lib.hid hB1; clear hB1) | (go_at_call 10; with_reducible refine (CN.out _ H.out).mono ?_; rintro e w1 ⟨rfl, hB1⟩; have H := Lib.hid hB1; clear hB1) | (go_at_call 9; with_reducible refine (AB.out _ H.out).mono ?_; rintro e w1 ⟨rfl, hB1⟩; have H := Lib.hid hB1; clear hB1) | (go_at_call 9; with_reducible refine (BA.out _ H.out).mono ?_; rintro e w1 ⟨rfl, hB1⟩; have H := Lib.hid hB1; clear hB1) | (go_at_call 9; with_reducible refine (BC.out _ H.out).mono ?_; rintro e w1 ⟨rfl, hB1⟩; have H := Lib.hid hB1; clear hB1) | (go_at_call 9; with_reducible refine (AC.out _ H.out).mono ?_; rintro e w1 ⟨rfl, hB1⟩; have H := Lib.hid hB1; clear hB1) | (go_at_call 9; with_reducible refine (AX.out _ H.out).mono ?_; rintro e w1 ⟨rfl, hB1⟩; have H := Lib.hid hB1; clear hB1) | (go_at_call 11; with_reducible refine (M1.out _ H.out).mono ?_; rintro e w1 ⟨rfl, hB1⟩; have H := Lib.hid hB1; clear hB1) | (go_at_call 11; with_reducible refine (M2.out _ H.out).mono ?_; rintro e w1 ⟨rfl, hB1⟩; have H := Lib.hid hB1; clear hB1) | (go_at_call 11; with_reducible refine (M3.out _ H.out).mono ?_; rintro e w1 ⟨rfl, hB1⟩; have H := Lib.hid hB1; clear hB1) | (go_at_call 11; with_reducible refine (M4.out _ H.out).mono ?_; rintro e w1 ⟨rfl, hB1⟩; have H := Lib.hid hB1; clear hB1))
      go_ret
      exact ⟨rfl, H.out⟩
end Go.Proofs.Ytpaffocniniakaa
