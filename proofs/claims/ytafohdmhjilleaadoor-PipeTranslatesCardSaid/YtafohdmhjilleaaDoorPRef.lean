/- The reference's In and Outward. Printed by mkPR.py. -/
import Derived.Test.YtafohdmhjilleaaDoorPAwake
namespace Go.Proofs.YtafohdmhjilleaaDoor
set_option linter.unusedVariables false
set_option linter.unusedSimpArgs false
open Go.RowKit Go.Shelf
attribute [local go_sem] auto_auto auto_lf auto_cr lf_auto lf_lf lf_cr cr_auto cr_lf cr_cr crlf_auto crlf_lf crlf_cr ba_append

set_option maxRecDepth 100000 in
theorem risOut_any (m : Bs) (w : World) : Calls Tryd.prog 43 #[.string ⟨m.toArray⟩] w fun e w' => e = .returned (.bool (isOutM m)) ∧ w = w' := by
  by_cases h1 : m = lfM
  · subst h1
    go_enter Tryd.func43, Tryd.ntmps43
    go_wp2
    go_ret
    exact ⟨rfl, rfl⟩
  · by_cases h2 : m = crM
    · subst h2
      go_enter Tryd.func43, Tryd.ntmps43
      go_wp2
      go_ret
      exact ⟨rfl, rfl⟩
    · by_cases h3 : m = crlfM
      · subst h3
        go_enter Tryd.func43, Tryd.ntmps43
        go_wp2
        go_ret
        exact ⟨rfl, rfl⟩
      · have t1 : (m == ([108, 102] : Bs)) = false := beq_eq_false_iff_ne.2 h1
        have t2 : (m == ([99, 114] : Bs)) = false := beq_eq_false_iff_ne.2 h2
        have t3 : (m == ([99, 114, 108, 102] : Bs)) = false := beq_eq_false_iff_ne.2 h3
        have HE : Hid (isOutM m = false) := by show _ = _; simp [isOutM, h1, h2, h3]
        clear h1 h2 h3
        go_enter Tryd.func43, Tryd.ntmps43
        go_wp2
        go_ret
        exact ⟨by rw [HE.out]; rfl, rfl⟩
set_option maxRecDepth 100000 in
theorem risIn_any (m : Bs) (w : World) : Calls Tryd.prog 41 #[.string ⟨m.toArray⟩] w fun e w' => e = .returned (.bool (isInM m)) ∧ w = w' := by
  cases ho : isOutM m
  · by_cases h1 : m = autoM
    · subst h1
      have HO : Hid (∀ W, Calls Tryd.prog 43 #[.string ⟨autoM.toArray⟩] W fun e w' => e = .returned (.bool false) ∧ W = w') := fun W => by have := risOut_any autoM W; rwa [ho] at this
      clear ho
      go_enter Tryd.func41, Tryd.ntmps41
      go_wp2_with (go_at_call 43; refine (HO.out _).mono ?_; rintro e w' ⟨rfl, rfl⟩)
      go_ret
      exact ⟨rfl, rfl⟩
    · have HO : Hid (∀ W, Calls Tryd.prog 43 #[.string ⟨m.toArray⟩] W fun e w' => e = .returned (.bool false) ∧ W = w') := fun W => by have := risOut_any m W; rwa [ho] at this
      have HE : Hid (isInM m = false) := by show _ = _; simp [isInM, h1, ho]
      have t1 : (m == ([97, 117, 116, 111] : Bs)) = false := beq_eq_false_iff_ne.2 h1
      clear ho h1
      go_enter Tryd.func41, Tryd.ntmps41
      go_wp2_with (go_at_call 43; refine (HO.out _).mono ?_; rintro e w' ⟨rfl, rfl⟩)
      go_ret
      exact ⟨by rw [HE.out]; rfl, rfl⟩
  · have HO : Hid (∀ W, Calls Tryd.prog 43 #[.string ⟨m.toArray⟩] W fun e w' => e = .returned (.bool true) ∧ W = w') := fun W => by have := risOut_any m W; rwa [ho] at this
    have HE : Hid (isInM m = true) := by show _ = _; simp [isInM, ho]
    clear ho
    go_enter Tryd.func41, Tryd.ntmps41
    go_wp2_with (go_at_call 43; refine (HO.out _).mono ?_; rintro e w' ⟨rfl, rfl⟩)
    go_ret
    exact ⟨by rw [HE.out]; rfl, rfl⟩

set_option maxRecDepth 100000 in
theorem routward_any (s mode : Bs) (hm : isOutM mode = true) (hs : s.length ≤ 10000000) (w : World) (hM : MaxIs w) :
    Calls Tryd.prog 44 #[.string ⟨s.toArray⟩, .string ⟨mode.toArray⟩] w fun e w' => e = .returned (.string ⟨(outM mode s).toArray⟩) ∧ Below w.heap.size w w' := by
  rcases outM_cases hm with rfl | rfl | rfl
  · clear hm hM
    go_enter Tryd.func44, Tryd.ntmps44
    go_wp2
    go_ret
    exact ⟨rfl, Below.refl _ _⟩
  · have HR : Hid (Calls Tryd.prog 34 #[.string ⟨s.toArray⟩, .string ⟨#[10]⟩, .string ⟨#[13]⟩] w fun e w' => e = .returned (.string ⟨(outM crM s).toArray⟩) ∧ Below w.heap.size w w') := replace_any (mode := crM) (.inr (.inl rfl)) s hs w hM
    clear hm hM
    generalize outM crM s = o at *
    go_enter Tryd.func44, Tryd.ntmps44
    go_wp2_with (go_at_call 34; refine HR.out.mono ?_; rintro e w1 ⟨rfl, hb⟩; skip)
    go_ret
    exact ⟨rfl, hb⟩
  · have HR : Hid (Calls Tryd.prog 34 #[.string ⟨s.toArray⟩, .string ⟨#[10]⟩, .string ⟨#[13, 10]⟩] w fun e w' => e = .returned (.string ⟨(outM crlfM s).toArray⟩) ∧ Below w.heap.size w w') := replace_any (mode := crlfM) (.inr (.inr rfl)) s hs w hM
    clear hm hM
    generalize outM crlfM s = o at *
    have tc : (crlfM == ([99, 114, 108, 102] : Bs)) = true := by decide
    go_enter Tryd.func44, Tryd.ntmps44
    go_wp2_with (go_at_call 34; refine HR.out.mono ?_; rintro e w1 ⟨rfl, hb⟩; skip)
    go_ret
    exact ⟨rfl, hb⟩
set_option maxRecDepth 100000 in
theorem rOutward_yes (s mode : Bs) (hm : isOutM mode = true) (hs : s.length ≤ 10000000) (w : World) (hM : MaxIs w) :
    Calls Tryd.prog 23 #[.string ⟨s.toArray⟩, .string ⟨mode.toArray⟩] w fun e w' => e = .returned (.tuple #[.string ⟨(outM mode s).toArray⟩, .int .i64 0]) ∧ Below w.heap.size w w' := by
  have HR := Lib.hid (routward_any s mode hm hs w hM)
  have HO : Hid (∀ W, Calls Tryd.prog 43 #[.string ⟨mode.toArray⟩] W fun e w' => e = .returned (.bool true) ∧ W = w') := fun W => by have := risOut_any mode W; rwa [hm] at this
  clear hm hM
  go_enter Tryd.func23, Tryd.ntmps23
  go_wp2_with (first | (go_at_call 43; refine (HO.out _).mono ?_; rintro e w' ⟨rfl, rfl⟩) | (go_at_call 44; refine HR.out.mono ?_; rintro e w1 ⟨rfl, hb⟩))
  go_ret2
  exact ⟨rfl, hb⟩
set_option maxRecDepth 100000 in
theorem rOutward_no (s mode : Bs) (hm : isOutM mode = false) (w : World) :
    Calls Tryd.prog 23 #[.string ⟨s.toArray⟩, .string ⟨mode.toArray⟩] w fun e w' => e = .returned (.tuple #[.string ⟨#[]⟩, .int .i64 5]) ∧ Below w.heap.size w w' := by
  have HO : Hid (∀ W, Calls Tryd.prog 43 #[.string ⟨mode.toArray⟩] W fun e w' => e = .returned (.bool false) ∧ W = w') := fun W => by have := risOut_any mode W; rwa [hm] at this
  clear hm
  go_enter Tryd.func23, Tryd.ntmps23
  go_wp2_with (go_at_call 43; refine (HO.out _).mono ?_; rintro e w' ⟨rfl, rfl⟩)
  go_ret2
  exact ⟨rfl, Below.refl _ _⟩

/-- What 'unit' tells. -/
def unitV (mode : Bs) (closed : Bool) (raw : Bs) : Nat × Bs := match stepP mode closed raw with
  | none => (0, [])
  | some p => (p.2, [p.1])
theorem hasPrefix_two (d : UInt8) (r : Bs) : Lib.hasPrefix (13 :: d :: r) [13, 10] = decide (d = 10) := by
  by_cases h : d = 10
  · subst h; simp [Lib.hasPrefix]
  · have h' : ¬ (10 : UInt8) = d := fun e => h e.symm
    simp [Lib.hasPrefix, List.isPrefixOf, h, h']
set_option maxRecDepth 100000 in
set_option maxHeartbeats 1600000 in
theorem unit_nil (mode : Bs) (closed : Bool) (w : World) : Calls Tryd.prog 53 #[.string ⟨#[]⟩, .string ⟨mode.toArray⟩, .bool closed] w fun e w' => e = .returned (.tuple #[.int .i64 0, .string ⟨#[]⟩]) ∧ ∃ m, w' = w.drewN m := by
  go_enter Tryd.func53, Tryd.ntmps53
  go_wp2
  go_ret2
  exact ⟨rfl, 0, rfl⟩
set_option maxRecDepth 100000 in
set_option maxHeartbeats 1600000 in
theorem unit_other (c : UInt8) (r mode : Bs) (closed : Bool) (hc : c ≠ 13) (hr : r.length ≤ 1000000) (w : World) : Calls Tryd.prog 53 #[.string ⟨(c :: r).toArray⟩, .string ⟨mode.toArray⟩, .bool closed] w fun e w' => e = .returned (.tuple #[.int .i64 1, .string ⟨#[c]⟩]) ∧ ∃ m, w' = w.drewN m := by
  have t1 : ((c.toNat : Int) != 13) = true := by rw [bne, Bool.not_eq_true', beq_eq_false_iff_ne]; intro h; exact hc (byte_inj (by show _ = 13; omega))
  have h0 : 0 < (c :: r).length := by simp
  clear hc
  go_enter Tryd.func53, Tryd.ntmps53
  go_wp2
  go_quiet (fail)
  go_wp2
  go_ret2
  exact ⟨rfl, _, rfl⟩
set_option maxRecDepth 100000 in
set_option maxHeartbeats 1600000 in
theorem unit_auto_one (w : World) : Calls Tryd.prog 53 #[.string ⟨([13] : Bs).toArray⟩, .string ⟨autoM.toArray⟩, .bool false] w fun e w' => e = .returned (.tuple #[.int .i64 0, .string ⟨#[]⟩]) ∧ ∃ m, w' = w.drewN m := by
  go_enter Tryd.func53, Tryd.ntmps53
  go_wp2_with (fail)
  go_ret2
  exact ⟨rfl, 0, rfl⟩
set_option maxRecDepth 100000 in
set_option maxHeartbeats 1600000 in
theorem unit_auto_end (w : World) : Calls Tryd.prog 53 #[.string ⟨([13] : Bs).toArray⟩, .string ⟨autoM.toArray⟩, .bool true] w fun e w' => e = .returned (.tuple #[.int .i64 1, .string ⟨#[10]⟩]) ∧ ∃ m, w' = w.drewN m := by
  have HF : Hid (∀ W, Calls Tryd.prog 65 #[.string ⟨([13] : Bs).toArray⟩, .string ⟨#[13, 10]⟩] W fun e w' => e = .returned (.bool false) ∧ W = w') := fun W => by
    have := Tryd.strings_HasPrefix ⟨([13] : Bs).toArray⟩ ⟨#[13, 10]⟩ W
    rw [show Lib.hasPrefix (⟨([13] : Bs).toArray⟩ : ByteArray).data.toList (⟨#[13, 10]⟩ : ByteArray).data.toList = false from by decide] at this
    exact this.mono fun e w' h => ⟨h.1, h.2.symm⟩
  go_enter Tryd.func53, Tryd.ntmps53
  go_wp2_with ((go_at_call 65; refine (HF.out _).mono ?_; rintro e w1 ⟨rfl, rfl⟩))
  go_ret2
  exact ⟨rfl, 0, rfl⟩
set_option maxRecDepth 100000 in
set_option maxHeartbeats 1600000 in
theorem unit_auto_lf (r : Bs) (hr : r.length ≤ 1000000) (closed : Bool) (w : World) : Calls Tryd.prog 53 #[.string ⟨((13 :: 10 :: r) : Bs).toArray⟩, .string ⟨autoM.toArray⟩, .bool closed] w fun e w' => e = .returned (.tuple #[.int .i64 2, .string ⟨#[10]⟩]) ∧ ∃ m, w' = w.drewN m := by
  have HF : Hid (∀ W, Calls Tryd.prog 65 #[.string ⟨((13 :: 10 :: r) : Bs).toArray⟩, .string ⟨#[13, 10]⟩] W fun e w' => e = .returned (.bool true) ∧ W = w') := fun W => by
    have := Tryd.strings_HasPrefix ⟨((13 :: 10 :: r) : Bs).toArray⟩ ⟨#[13, 10]⟩ W
    rw [show Lib.hasPrefix (⟨((13 :: 10 :: r) : Bs).toArray⟩ : ByteArray).data.toList (⟨#[13, 10]⟩ : ByteArray).data.toList = true from by rw [hasPrefix_two]; rfl] at this
    exact this.mono fun e w' h => ⟨h.1, h.2.symm⟩
  have h2 : ((r.length : Int) + 1 + 1 == 1) = false := by rw [beq_eq_false_iff_ne]; omega
  have h3 : (((13 :: 10 :: r) : Bs).length : Int) = (r.length : Int) + 1 + 1 := by simp
  have h4 : ((((13 :: 10 :: r) : Bs).length : Int) == 1) = false := by rw [h3]; exact h2
  clear h3
  go_enter Tryd.func53, Tryd.ntmps53
  go_wp2_with ((go_at_call 65; refine (HF.out _).mono ?_; rintro e w1 ⟨rfl, rfl⟩))
  go_ret2
  exact ⟨rfl, 0, rfl⟩
set_option maxRecDepth 100000 in
set_option maxHeartbeats 1600000 in
theorem unit_auto_oth (d : UInt8) (r : Bs) (hd : d ≠ 10) (hr : r.length ≤ 1000000) (closed : Bool) (w : World) : Calls Tryd.prog 53 #[.string ⟨((13 :: d :: r) : Bs).toArray⟩, .string ⟨autoM.toArray⟩, .bool closed] w fun e w' => e = .returned (.tuple #[.int .i64 1, .string ⟨#[10]⟩]) ∧ ∃ m, w' = w.drewN m := by
  have HF : Hid (∀ W, Calls Tryd.prog 65 #[.string ⟨((13 :: d :: r) : Bs).toArray⟩, .string ⟨#[13, 10]⟩] W fun e w' => e = .returned (.bool false) ∧ W = w') := fun W => by
    have := Tryd.strings_HasPrefix ⟨((13 :: d :: r) : Bs).toArray⟩ ⟨#[13, 10]⟩ W
    rw [show Lib.hasPrefix (⟨((13 :: d :: r) : Bs).toArray⟩ : ByteArray).data.toList (⟨#[13, 10]⟩ : ByteArray).data.toList = false from by rw [hasPrefix_two]; simp [hd]] at this
    exact this.mono fun e w' h => ⟨h.1, h.2.symm⟩
  have h2 : ((r.length : Int) + 1 + 1 == 1) = false := by rw [beq_eq_false_iff_ne]; omega
  have h3 : (((13 :: d :: r) : Bs).length : Int) = (r.length : Int) + 1 + 1 := by simp
  have h4 : ((((13 :: d :: r) : Bs).length : Int) == 1) = false := by rw [h3]; exact h2
  clear h3
  clear hd
  go_enter Tryd.func53, Tryd.ntmps53
  go_wp2_with ((go_at_call 65; refine (HF.out _).mono ?_; rintro e w1 ⟨rfl, rfl⟩))
  go_ret2
  exact ⟨rfl, 0, rfl⟩
set_option maxRecDepth 100000 in
set_option maxHeartbeats 1600000 in
theorem unit_lf_one (w : World) : Calls Tryd.prog 53 #[.string ⟨([13] : Bs).toArray⟩, .string ⟨lfM.toArray⟩, .bool false] w fun e w' => e = .returned (.tuple #[.int .i64 1, .string ⟨#[13]⟩]) ∧ ∃ m, w' = w.drewN m := by
  go_enter Tryd.func53, Tryd.ntmps53
  go_wp2_with (fail)
  go_quiet (fail)
  go_wp2
  go_ret2
  exact ⟨rfl, _, rfl⟩
set_option maxRecDepth 100000 in
set_option maxHeartbeats 1600000 in
theorem unit_lf_end (w : World) : Calls Tryd.prog 53 #[.string ⟨([13] : Bs).toArray⟩, .string ⟨lfM.toArray⟩, .bool true] w fun e w' => e = .returned (.tuple #[.int .i64 1, .string ⟨#[13]⟩]) ∧ ∃ m, w' = w.drewN m := by
  go_enter Tryd.func53, Tryd.ntmps53
  go_wp2_with (fail)
  go_quiet (fail)
  go_wp2
  go_ret2
  exact ⟨rfl, _, rfl⟩
set_option maxRecDepth 100000 in
set_option maxHeartbeats 1600000 in
theorem unit_lf_lf (r : Bs) (hr : r.length ≤ 1000000) (closed : Bool) (w : World) : Calls Tryd.prog 53 #[.string ⟨((13 :: 10 :: r) : Bs).toArray⟩, .string ⟨lfM.toArray⟩, .bool closed] w fun e w' => e = .returned (.tuple #[.int .i64 1, .string ⟨#[13]⟩]) ∧ ∃ m, w' = w.drewN m := by
  have h2 : ((r.length : Int) + 1 + 1 == 1) = false := by rw [beq_eq_false_iff_ne]; omega
  have h3 : (((13 :: 10 :: r) : Bs).length : Int) = (r.length : Int) + 1 + 1 := by simp
  have h4 : ((((13 :: 10 :: r) : Bs).length : Int) == 1) = false := by rw [h3]; exact h2
  clear h3
  go_enter Tryd.func53, Tryd.ntmps53
  go_wp2_with (fail)
  go_quiet (fail)
  go_wp2
  go_ret2
  exact ⟨rfl, _, rfl⟩
set_option maxRecDepth 100000 in
set_option maxHeartbeats 1600000 in
theorem unit_lf_oth (d : UInt8) (r : Bs) (hd : d ≠ 10) (hr : r.length ≤ 1000000) (closed : Bool) (w : World) : Calls Tryd.prog 53 #[.string ⟨((13 :: d :: r) : Bs).toArray⟩, .string ⟨lfM.toArray⟩, .bool closed] w fun e w' => e = .returned (.tuple #[.int .i64 1, .string ⟨#[13]⟩]) ∧ ∃ m, w' = w.drewN m := by
  have h2 : ((r.length : Int) + 1 + 1 == 1) = false := by rw [beq_eq_false_iff_ne]; omega
  have h3 : (((13 :: d :: r) : Bs).length : Int) = (r.length : Int) + 1 + 1 := by simp
  have h4 : ((((13 :: d :: r) : Bs).length : Int) == 1) = false := by rw [h3]; exact h2
  clear h3
  clear hd
  go_enter Tryd.func53, Tryd.ntmps53
  go_wp2_with (fail)
  go_quiet (fail)
  go_wp2
  go_ret2
  exact ⟨rfl, _, rfl⟩
set_option maxRecDepth 100000 in
set_option maxHeartbeats 1600000 in
theorem unit_cr_one (w : World) : Calls Tryd.prog 53 #[.string ⟨([13] : Bs).toArray⟩, .string ⟨crM.toArray⟩, .bool false] w fun e w' => e = .returned (.tuple #[.int .i64 1, .string ⟨#[10]⟩]) ∧ ∃ m, w' = w.drewN m := by
  go_enter Tryd.func53, Tryd.ntmps53
  go_wp2_with (fail)
  go_ret2
  exact ⟨rfl, 0, rfl⟩
set_option maxRecDepth 100000 in
set_option maxHeartbeats 1600000 in
theorem unit_cr_end (w : World) : Calls Tryd.prog 53 #[.string ⟨([13] : Bs).toArray⟩, .string ⟨crM.toArray⟩, .bool true] w fun e w' => e = .returned (.tuple #[.int .i64 1, .string ⟨#[10]⟩]) ∧ ∃ m, w' = w.drewN m := by
  go_enter Tryd.func53, Tryd.ntmps53
  go_wp2_with (fail)
  go_ret2
  exact ⟨rfl, 0, rfl⟩
set_option maxRecDepth 100000 in
set_option maxHeartbeats 1600000 in
theorem unit_cr_lf (r : Bs) (hr : r.length ≤ 1000000) (closed : Bool) (w : World) : Calls Tryd.prog 53 #[.string ⟨((13 :: 10 :: r) : Bs).toArray⟩, .string ⟨crM.toArray⟩, .bool closed] w fun e w' => e = .returned (.tuple #[.int .i64 1, .string ⟨#[10]⟩]) ∧ ∃ m, w' = w.drewN m := by
  have h2 : ((r.length : Int) + 1 + 1 == 1) = false := by rw [beq_eq_false_iff_ne]; omega
  have h3 : (((13 :: 10 :: r) : Bs).length : Int) = (r.length : Int) + 1 + 1 := by simp
  have h4 : ((((13 :: 10 :: r) : Bs).length : Int) == 1) = false := by rw [h3]; exact h2
  clear h3
  go_enter Tryd.func53, Tryd.ntmps53
  go_wp2_with (fail)
  go_ret2
  exact ⟨rfl, 0, rfl⟩
set_option maxRecDepth 100000 in
set_option maxHeartbeats 1600000 in
theorem unit_cr_oth (d : UInt8) (r : Bs) (hd : d ≠ 10) (hr : r.length ≤ 1000000) (closed : Bool) (w : World) : Calls Tryd.prog 53 #[.string ⟨((13 :: d :: r) : Bs).toArray⟩, .string ⟨crM.toArray⟩, .bool closed] w fun e w' => e = .returned (.tuple #[.int .i64 1, .string ⟨#[10]⟩]) ∧ ∃ m, w' = w.drewN m := by
  have h2 : ((r.length : Int) + 1 + 1 == 1) = false := by rw [beq_eq_false_iff_ne]; omega
  have h3 : (((13 :: d :: r) : Bs).length : Int) = (r.length : Int) + 1 + 1 := by simp
  have h4 : ((((13 :: d :: r) : Bs).length : Int) == 1) = false := by rw [h3]; exact h2
  clear h3
  clear hd
  go_enter Tryd.func53, Tryd.ntmps53
  go_wp2_with (fail)
  go_ret2
  exact ⟨rfl, 0, rfl⟩
set_option maxRecDepth 100000 in
set_option maxHeartbeats 1600000 in
theorem unit_crlf_one (w : World) : Calls Tryd.prog 53 #[.string ⟨([13] : Bs).toArray⟩, .string ⟨crlfM.toArray⟩, .bool false] w fun e w' => e = .returned (.tuple #[.int .i64 0, .string ⟨#[]⟩]) ∧ ∃ m, w' = w.drewN m := by
  go_enter Tryd.func53, Tryd.ntmps53
  go_wp2_with (fail)
  go_ret2
  exact ⟨rfl, 0, rfl⟩
set_option maxRecDepth 100000 in
set_option maxHeartbeats 1600000 in
theorem unit_crlf_end (w : World) : Calls Tryd.prog 53 #[.string ⟨([13] : Bs).toArray⟩, .string ⟨crlfM.toArray⟩, .bool true] w fun e w' => e = .returned (.tuple #[.int .i64 1, .string ⟨#[13]⟩]) ∧ ∃ m, w' = w.drewN m := by
  have HF : Hid (∀ W, Calls Tryd.prog 65 #[.string ⟨([13] : Bs).toArray⟩, .string ⟨#[13, 10]⟩] W fun e w' => e = .returned (.bool false) ∧ W = w') := fun W => by
    have := Tryd.strings_HasPrefix ⟨([13] : Bs).toArray⟩ ⟨#[13, 10]⟩ W
    rw [show Lib.hasPrefix (⟨([13] : Bs).toArray⟩ : ByteArray).data.toList (⟨#[13, 10]⟩ : ByteArray).data.toList = false from by decide] at this
    exact this.mono fun e w' h => ⟨h.1, h.2.symm⟩
  go_enter Tryd.func53, Tryd.ntmps53
  go_wp2_with ((go_at_call 65; refine (HF.out _).mono ?_; rintro e w1 ⟨rfl, rfl⟩))
  go_quiet (fail)
  go_wp2
  go_ret2
  exact ⟨rfl, _, rfl⟩
set_option maxRecDepth 100000 in
set_option maxHeartbeats 1600000 in
theorem unit_crlf_lf (r : Bs) (hr : r.length ≤ 1000000) (closed : Bool) (w : World) : Calls Tryd.prog 53 #[.string ⟨((13 :: 10 :: r) : Bs).toArray⟩, .string ⟨crlfM.toArray⟩, .bool closed] w fun e w' => e = .returned (.tuple #[.int .i64 2, .string ⟨#[10]⟩]) ∧ ∃ m, w' = w.drewN m := by
  have HF : Hid (∀ W, Calls Tryd.prog 65 #[.string ⟨((13 :: 10 :: r) : Bs).toArray⟩, .string ⟨#[13, 10]⟩] W fun e w' => e = .returned (.bool true) ∧ W = w') := fun W => by
    have := Tryd.strings_HasPrefix ⟨((13 :: 10 :: r) : Bs).toArray⟩ ⟨#[13, 10]⟩ W
    rw [show Lib.hasPrefix (⟨((13 :: 10 :: r) : Bs).toArray⟩ : ByteArray).data.toList (⟨#[13, 10]⟩ : ByteArray).data.toList = true from by rw [hasPrefix_two]; rfl] at this
    exact this.mono fun e w' h => ⟨h.1, h.2.symm⟩
  have h2 : ((r.length : Int) + 1 + 1 == 1) = false := by rw [beq_eq_false_iff_ne]; omega
  have h3 : (((13 :: 10 :: r) : Bs).length : Int) = (r.length : Int) + 1 + 1 := by simp
  have h4 : ((((13 :: 10 :: r) : Bs).length : Int) == 1) = false := by rw [h3]; exact h2
  clear h3
  go_enter Tryd.func53, Tryd.ntmps53
  go_wp2_with ((go_at_call 65; refine (HF.out _).mono ?_; rintro e w1 ⟨rfl, rfl⟩))
  go_ret2
  exact ⟨rfl, 0, rfl⟩
set_option maxRecDepth 100000 in
set_option maxHeartbeats 1600000 in
theorem unit_crlf_oth (d : UInt8) (r : Bs) (hd : d ≠ 10) (hr : r.length ≤ 1000000) (closed : Bool) (w : World) : Calls Tryd.prog 53 #[.string ⟨((13 :: d :: r) : Bs).toArray⟩, .string ⟨crlfM.toArray⟩, .bool closed] w fun e w' => e = .returned (.tuple #[.int .i64 1, .string ⟨#[13]⟩]) ∧ ∃ m, w' = w.drewN m := by
  have HF : Hid (∀ W, Calls Tryd.prog 65 #[.string ⟨((13 :: d :: r) : Bs).toArray⟩, .string ⟨#[13, 10]⟩] W fun e w' => e = .returned (.bool false) ∧ W = w') := fun W => by
    have := Tryd.strings_HasPrefix ⟨((13 :: d :: r) : Bs).toArray⟩ ⟨#[13, 10]⟩ W
    rw [show Lib.hasPrefix (⟨((13 :: d :: r) : Bs).toArray⟩ : ByteArray).data.toList (⟨#[13, 10]⟩ : ByteArray).data.toList = false from by rw [hasPrefix_two]; simp [hd]] at this
    exact this.mono fun e w' h => ⟨h.1, h.2.symm⟩
  have h2 : ((r.length : Int) + 1 + 1 == 1) = false := by rw [beq_eq_false_iff_ne]; omega
  have h3 : (((13 :: d :: r) : Bs).length : Int) = (r.length : Int) + 1 + 1 := by simp
  have h4 : ((((13 :: d :: r) : Bs).length : Int) == 1) = false := by rw [h3]; exact h2
  clear h3
  clear hd
  go_enter Tryd.func53, Tryd.ntmps53
  go_wp2_with ((go_at_call 65; refine (HF.out _).mono ?_; rintro e w1 ⟨rfl, rfl⟩))
  go_quiet (fail)
  go_wp2
  go_ret2
  exact ⟨rfl, _, rfl⟩
theorem unit_any (mode : Bs) (hmo : mode = autoM ∨ mode = lfM ∨ mode = crM ∨ mode = crlfM) (closed : Bool) (raw : Bs) (hr : raw.length ≤ 1000000) (w : World) :
    Calls Tryd.prog 53 #[.string ⟨raw.toArray⟩, .string ⟨mode.toArray⟩, .bool closed] w fun e w' => e = .returned (.tuple #[.int .i64 ((unitV mode closed raw).1 : Int), .string ⟨(unitV mode closed raw).2.toArray⟩]) ∧ ∃ m, w' = w.drewN m := by
  cases raw with
  | nil => exact unit_nil mode closed w
  | cons c r =>
    have hr' : r.length ≤ 1000000 := by simp at hr; omega
    by_cases hc : c = 13
    · subst hc
      cases r with
      | nil =>
        cases closed
        · rcases hmo with rfl | rfl | rfl | rfl
          · exact unit_auto_one w
          · exact unit_lf_one w
          · exact unit_cr_one w
          · exact unit_crlf_one w
        · rcases hmo with rfl | rfl | rfl | rfl
          · exact unit_auto_end w
          · exact unit_lf_end w
          · exact unit_cr_end w
          · exact unit_crlf_end w
      | cons d r =>
        have hr2 : r.length ≤ 1000000 := by simp at hr'; omega
        by_cases hd : d = 10
        · subst hd
          have hv : ∀ m, m = autoM ∨ m = lfM ∨ m = crM ∨ m = crlfM → unitV m closed (13 :: 10 :: r) = if m = lfM then (1, [13]) else if m = crM then (1, [10]) else (2, [10]) := fun m hm => by
            rcases hm with rfl | rfl | rfl | rfl <;> simp [unitV, stepP_cons, autoM, lfM, crM, crlfM]
          rw [hv mode hmo]
          rcases hmo with rfl | rfl | rfl | rfl
          · exact unit_auto_lf r hr2 closed w
          · exact unit_lf_lf r hr2 closed w
          · exact unit_cr_lf r hr2 closed w
          · exact unit_crlf_lf r hr2 closed w
        · have hv : ∀ m, m = autoM ∨ m = lfM ∨ m = crM ∨ m = crlfM → unitV m closed (13 :: d :: r) = if m = lfM ∨ m = crlfM then (1, [13]) else (1, [10]) := fun m hm => by
            rcases hm with rfl | rfl | rfl | rfl <;> simp [unitV, stepP_cons, autoM, lfM, crM, crlfM, hd]
          rw [hv mode hmo]
          rcases hmo with rfl | rfl | rfl | rfl
          · exact unit_auto_oth d r hd hr2 closed w
          · exact unit_lf_oth d r hd hr2 closed w
          · exact unit_cr_oth d r hd hr2 closed w
          · exact unit_crlf_oth d r hd hr2 closed w
    · have hv : unitV mode closed (c :: r) = (1, [c]) := by simp [unitV, stepP_cons, hc]
      rw [hv]
      exact unit_other c r mode closed hc hr' w
end Go.Proofs.YtafohdmhjilleaaDoor
