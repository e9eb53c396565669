/- DictPaths: the walk. -/
import Derived.Test.YtpaffocniniakaaPathR7
namespace Go.Proofs.Ytpaffocniniakaa
set_option linter.unusedVariables false
set_option linter.unusedSimpArgs false
open Go.RowKit

def ABool (e : Ending) : Prop := ∃ b, e = .returned (.bool b)
set_option maxHeartbeats 400000 in
/-- 'Long' of many texts, whatever the sum does. -/
theorem Long_some (ss : List Bs) (v : Value) (w : World) (ht : TxtRow w v ss) :
    Calls Try.prog 7 #[v] w fun e w' => ABool e ∧ w = w' := by
  obtain ⟨o, c, rfl, _⟩ := id ht
  obtain ⟨_, h1, h2, h3⟩ := ht.at_
  have HT := Lib.hid h3
  unfold maxLen at h2
  clear ht h3
  go_enter Try.func7, Try.ntmps7
  go_wp2
  go_loop [3, 8] (fun a i => ∃ (k : Nat) (z : Int), k ≤ ss.length ∧ i = .int .i64 k ∧ a = .int .i64 z) (fun a i => ss.length - (intOf i).toNat)
  case atStart => exact ⟨0, 0, Nat.zero_le _, rfl, rfl⟩
  case round =>
    obtain ⟨k, z, hk, rfl, rfl⟩ := hrel
    by_cases hlt : k < ss.length
    · obtain ⟨b, off, rfl, hbb, hc⟩ := HT.out k hlt
      go_wp2
      go_round
      case rel => exact ⟨k + 1, _, by omega, by go_num, rfl⟩
      case measure => simp [intOf]; omega
    · obtain rfl : k = ss.length := by omega
      go_wp2
      go_ret
      exact ⟨⟨_, rfl⟩, rfl⟩
theorem longS_few : ∀ (ss : List Bs) (B : Nat), (∀ x ∈ ss, x.length ≤ B) → longS ss ≤ ss.length * (B + 1)
  | [], B, _ => by simp [longS]
  | s :: r, B, h => by
    have h1 := longS_few r B (fun x hx => h x (List.mem_cons_of_mem _ hx))
    have h2 := h s (by simp)
    simp only [longS, List.length_cons]
    rw [Nat.succ_mul]; omega
theorem longS_mem {ss : List Bs} {x : Bs} (h : x ∈ ss) : x.length ≤ longS ss := by
  induction ss with
  | nil => cases h
  | cons s r ih =>
    simp only [longS]
    rcases List.mem_cons.1 h with rfl | h
    · omega
    · have := ih h; omega
set_option maxRecDepth 100000 in
set_option maxHeartbeats 1600000 in
theorem dictPaths_walk (s value : Bs) (path : List Bs) (v : Value) (hs : s.length ≤ 1000000000000000) (hv : value.length ≤ 1000000000000000) (hp : ∀ x ∈ path, x.length ≤ 1000000000000000) (w : World) (hM : MaxIs w) (ht : TxtRow w v path) :
    Calls Try.prog 6 #[.string ⟨s.toArray⟩, v, .string ⟨value.toArray⟩] w fun e w' => e = .returned (.bool true) ∧ Below w.heap.size w w' := by
  obtain ⟨o, c, rfl⟩ := ht.len
  have AW : Hid (∀ W, Below w.heap.size w W → Calls Try.prog 8 #[] W fun e w' => e = .returned (.bool true) ∧ Below w.heap.size w w') := fun W hB => (awake_any W (hM.below hB hM.pos)).mono fun e w' ⟨h1, h2⟩ => ⟨h1, hB.trans (h2.mono hB.size)⟩
  have hB1 : Below w.heap.size w (w.alloc (.cells #[.string ⟨s.toArray⟩, .string ⟨value.toArray⟩] 9)) := (Below.refl _ _).alloc (Nat.le_refl _) _
  have LG : Hid (Calls Try.prog 7 #[.slice (some ⟨w.heap.size, 0, none⟩) 2 2] (w.alloc (.cells #[.string ⟨s.toArray⟩, .string ⟨value.toArray⟩] 9)) fun e w' => e = .returned (.bool (decide (1500 < longS [s, value]))) ∧ Below w.heap.size w w') :=
    (Long_any [s, value] _ _ (by simp [longS]; omega) (txt_new w [s, value] (by show 2 ≤ maxLen; decide))).mono fun e w' ⟨h1, h2⟩ => ⟨h1, h2 ▸ hB1⟩
  have hls : longS [s, value] = s.length + value.length + 2 := by simp only [longS]; omega
  have LP : Hid (∀ W, Below w.heap.size w W → Calls Try.prog 7 #[.slice o path.length c] W fun e w' => ABool e ∧ Below w.heap.size w w') := fun W hB => (Long_some path _ W (ht.below hB)).mono fun e w' ⟨h1, h2⟩ => ⟨h1, h2 ▸ hB⟩
  by_cases hL : 1500 < longS [s, value]
  · rw [decide_eq_true hL] at LG
    generalize path.length = n at *
    clear hL hls hs hv hp hM hB1 ht LP
    go_enter Try.func6, Try.ntmps6
    go_wp2_with (first | (go_at_call_of 7 (Value.slice (some ⟨w.heap.size, 0, none⟩) 2 2); refine LG.out.mono ?_; rintro e w1 ⟨rfl, hB1⟩; have H := Lib.hid hB1; clear hB1) | (go_at_call 8; refine (AW.out _ H.out).mono ?_; rintro e w2 ⟨rfl, hB2⟩; have H2 := Lib.hid hB2; clear hB2))
    go_ret
    exact ⟨rfl, H2.out⟩
  · rw [decide_eq_false hL] at LG
    by_cases h6 : 6 < path.length
    · generalize path.length = n at *
      have t6 : decide ((6 : Int) < (n : Int)) = true := by rw [decide_eq_true_eq]; omega
      clear hL hls hs hv hp hM hB1 ht
      go_enter Try.func6, Try.ntmps6
      go_wp2_with (first | (go_at_call_of 7 (Value.slice (some ⟨w.heap.size, 0, none⟩) 2 2); refine LG.out.mono ?_; rintro e w1 ⟨rfl, hB1⟩; have H := Lib.hid hB1; clear hB1 LG) | (go_at_call 7; refine (LP.out _ H.out).mono ?_; rintro e w2 ⟨⟨b, rfl⟩, hB1⟩; have H := Lib.hid hB1; clear hB1; cases b) | (go_at_call 8; refine (AW.out _ H.out).mono ?_; rintro e w2 ⟨rfl, hB2⟩; have H2 := Lib.hid hB2; clear hB2))
      all_goals
        go_ret
        exact ⟨rfl, H2.out⟩
    · have hlp := longS_few path _ hp
      have hlp2 : longS path ≤ 6 * (1000000000000000 + 1) := Nat.le_trans hlp (Nat.mul_le_mul_right _ (by omega))
      have LP2 : Hid (∀ W, Below w.heap.size w W → Calls Try.prog 7 #[.slice o path.length c] W fun e w' => e = .returned (.bool (decide (1500 < longS path))) ∧ Below w.heap.size w w') := fun W hB => (Long_any path _ W (by omega) (ht.below hB)).mono fun e w' ⟨h1, h2⟩ => ⟨h1, h2 ▸ hB⟩
      by_cases hPL : 1500 < longS path
      · rw [decide_eq_true hPL] at LP2
        generalize path.length = n at *
        clear hL hls hs hv hp hM hB1 ht LP hlp hlp2 hPL
        go_enter Try.func6, Try.ntmps6
        go_wp2_with (first | (go_at_call_of 7 (Value.slice (some ⟨w.heap.size, 0, none⟩) 2 2); refine LG.out.mono ?_; rintro e w1 ⟨rfl, hB1⟩; have H := Lib.hid hB1; clear hB1 LG) | (go_at_call 7; refine (LP2.out _ H.out).mono ?_; rintro e w2 ⟨rfl, hB1⟩; have H := Lib.hid hB1; clear hB1) | (go_at_call 8; refine (AW.out _ H.out).mono ?_; rintro e w2 ⟨rfl, hB2⟩; have H2 := Lib.hid hB2; clear hB2))
        go_ret
        exact ⟨rfl, H2.out⟩
      · rw [decide_eq_false hPL] at LP2
        have hkl : ∀ k ∈ path, k.length ≤ 1000000 := fun k hk => by have := longS_mem hk; omega
        have h1 : s.length ≤ 19999 := by omega
        have h2 : value.length ≤ 900000 := by omega
        have up : ∀ {W W' : World}, Below w.heap.size w W → Below W.heap.size W W' → Below w.heap.size w W' := fun a b => a.trans (b.mono a.size)
        have GE : Hid (∀ W, Below w.heap.size w W → Calls Try.prog 19 #[.string ⟨s.toArray⟩, .slice o path.length c] W fun e w' => e = .returned (.tuple #[.string ⟨(getC s path).1.toArray⟩, .int .i64 (getC s path).2]) ∧ Below w.heap.size w w') := fun W h => (Get_any s path _ W (hM.below h hM.pos) h1 hkl (ht.below h)).mono fun e w' ⟨q1, q2⟩ => ⟨q1, up h q2⟩
        have RG : Hid (∀ W, Below w.heap.size w W → Calls Try.prog 22 #[.string ⟨s.toArray⟩, .slice o path.length c] W fun e w' => e = .returned (.tuple #[.string ⟨(getC s path).1.toArray⟩, .int .i64 (getC s path).2]) ∧ Below w.heap.size w w') := fun W h => (rGet_any s path _ W h1 (ht.below h)).mono fun e w' ⟨q1, q2⟩ => ⟨q1, up h q2⟩
        have EX : Hid (∀ W, Below w.heap.size w W → Calls Try.prog 23 #[.string ⟨s.toArray⟩, .slice o path.length c] W fun e w' => e = .returned (.bool (existsC s path)) ∧ Below w.heap.size w w') := fun W h => (Exists_any s path _ W (hM.below h hM.pos) h1 hkl (ht.below h)).mono fun e w' ⟨q1, q2⟩ => ⟨q1, up h q2⟩
        have RE : Hid (∀ W, Below w.heap.size w W → Calls Try.prog 24 #[.string ⟨s.toArray⟩, .slice o path.length c] W fun e w' => e = .returned (.bool (existsC s path)) ∧ Below w.heap.size w w') := fun W h => (rExists_any s path _ W h1 (ht.below h)).mono fun e w' ⟨q1, q2⟩ => ⟨q1, up h q2⟩
        have SE : Hid (∀ W, Below w.heap.size w W → Calls Try.prog 18 #[.string ⟨s.toArray⟩, .slice o path.length c, .string ⟨value.toArray⟩] W fun e w' => e = .returned (.tuple #[.string ⟨(setC s path value).1.toArray⟩, .int .i64 (setC s path value).2]) ∧ Below w.heap.size w w') := fun W h => (Set_any s path value _ W (hM.below h hM.pos) h1 hkl (ht.below h)).mono fun e w' ⟨q1, q2⟩ => ⟨q1, up h q2⟩
        have RS : Hid (∀ W, Below w.heap.size w W → Calls Try.prog 25 #[.string ⟨s.toArray⟩, .slice o path.length c, .string ⟨value.toArray⟩] W fun e w' => e = .returned (.tuple #[.string ⟨(setC s path value).1.toArray⟩, .int .i64 (setC s path value).2]) ∧ Below w.heap.size w w') := fun W h => (rSet_any s path value _ W h1 h2 hkl (ht.below h)).mono fun e w' ⟨q1, q2⟩ => ⟨q1, up h q2⟩
        have UN : Hid (∀ W, Below w.heap.size w W → Calls Try.prog 21 #[.string ⟨s.toArray⟩, .slice o path.length c] W fun e w' => e = .returned (.tuple #[.string ⟨(unsC path s).1.toArray⟩, .int .i64 (unsC path s).2]) ∧ Below w.heap.size w w') := fun W h => (Unset_any path s _ W (hM.below h hM.pos) h1 hkl (ht.below h)).mono fun e w' ⟨q1, q2⟩ => ⟨q1, up h q2⟩
        have RU : Hid (∀ W, Below w.heap.size w W → Calls Try.prog 26 #[.string ⟨s.toArray⟩, .slice o path.length c] W fun e w' => e = .returned (.tuple #[.string ⟨(unsC path s).1.toArray⟩, .int .i64 (unsC path s).2]) ∧ Below w.heap.size w w') := fun W h => (rUnset_any path s _ W h1 hkl (ht.below h)).mono fun e w' ⟨q1, q2⟩ => ⟨q1, up h q2⟩
        have RM : Hid (∀ W, Below w.heap.size w W → Calls Try.prog 27 #[.string ⟨s.toArray⟩, .slice o path.length c] W fun e w' => e = .returned (.tuple #[.string ⟨(remC s path).1.toArray⟩, .int .i64 (remC s path).2]) ∧ Below w.heap.size w w') := fun W h => (Remove_any s path _ W (hM.below h hM.pos) h1 (ht.below h)).mono fun e w' ⟨q1, q2⟩ => ⟨q1, up h q2⟩
        have RR : Hid (∀ W, Below w.heap.size w W → Calls Try.prog 28 #[.string ⟨s.toArray⟩, .slice o path.length c] W fun e w' => e = .returned (.tuple #[.string ⟨(remC s path).1.toArray⟩, .int .i64 (remC s path).2]) ∧ Below w.heap.size w w') := fun W h => (rRemove_any s path _ W h1 (ht.below h)).mono fun e w' ⟨q1, q2⟩ => ⟨q1, up h q2⟩
        generalize getC s path = q1 at *
        generalize existsC s path = q2 at *
        generalize setC s path value = q3 at *
        generalize unsC path s = q4 at *
        generalize remC s path = q5 at *
        generalize path.length = n at *
        have t6 : decide ((6 : Int) < (n : Int)) = false := by rw [decide_eq_false_iff_not]; omega
        clear hL hls hs hv hp hM hB1 ht LP hlp hlp2 hPL hkl up h1 h2
        go_enter Try.func6, Try.ntmps6
        go_wp2_with (first | (go_at_call_of 7 (Value.slice (some ⟨w.heap.size, 0, none⟩) 2 2); refine LG.out.mono ?_; rintro e w1 ⟨rfl, hB1⟩; have H := Lib.hid hB1; clear hB1 LG) | (go_at_call 7; refine (LP2.out _ H.out).mono ?_; rintro e w2 ⟨rfl, hB1⟩; have H := Lib.hid hB1; clear hB1) | (go_at_call 19; refine (GE.out _ H.out).mono ?_; rintro e w2 ⟨rfl, hB⟩; have H := Lib.hid hB; clear hB) | (go_at_call 22; refine (RG.out _ H.out).mono ?_; rintro e w2 ⟨rfl, hB⟩; have H := Lib.hid hB; clear hB) | (go_at_call 23; refine (EX.out _ H.out).mono ?_; rintro e w2 ⟨rfl, hB⟩; have H := Lib.hid hB; clear hB) | (go_at_call 24; refine (RE.out _ H.out).mono ?_; rintro e w2 ⟨rfl, hB⟩; have H := Lib.hid hB; clear hB) | (go_at_call 18; refine (SE.out _ H.out).mono ?_; rintro e w2 ⟨rfl, hB⟩; have H := Lib.hid hB; clear hB) | (go_at_call 25; refine (RS.out _ H.out).mono ?_; rintro e w2 ⟨rfl, hB⟩; have H := Lib.hid hB; clear hB) | (go_at_call 21; refine (UN.out _ H.out).mono ?_; rintro e w2 ⟨rfl, hB⟩; have H := Lib.hid hB; clear hB) | (go_at_call 26; refine (RU.out _ H.out).mono ?_; rintro e w2 ⟨rfl, hB⟩; have H := Lib.hid hB; clear hB) | (go_at_call 27; refine (RM.out _ H.out).mono ?_; rintro e w2 ⟨rfl, hB⟩; have H := Lib.hid hB; clear hB) | (go_at_call 28; refine (RR.out _ H.out).mono ?_; rintro e w2 ⟨rfl, hB⟩; have H := Lib.hid hB; clear hB) | (go_at_call 8; refine (AW.out _ H.out).mono ?_; rintro e w2 ⟨rfl, hB2⟩; have H := Lib.hid hB2; clear hB2))
        go_ret
        exact ⟨rfl, H.out⟩
end Go.Proofs.Ytpaffocniniakaa
