/- 'digit', 'digits' and 'Unescape' of both packages. 'Unescape' of package text. 'Unescape' of threadbareref01. -/
import Derived.Test.YtpaffocniniakaaGreatShelf
import Derived.Test.YtpaffocniniakaaGreatLeaf
import Derived.Test.YtpaffocniniakaaGreatHeap
import Derived.Test.YtpaffocniniakaaGreatFind
import Derived.Test.YtpaffocniniakaaGreatFormP
import Derived.Deep.RegionWith
namespace Go.Proofs.YtpaffocniniakaaGreat
set_option linter.unusedVariables false
set_option linter.unusedSimpArgs false
open Go.RowKit

set_option maxHeartbeats 400000 in
theorem digit_any (c : Int) (h0 : 0 ≤ c) (h1 : c ≤ 255) (w : World) :
    Calls Tryz.prog 108 #[.int .u8 c] w fun e w' => e = .returned (.int .i64 (digI c)) ∧ w = w' := by
  have hl : 0 ≤ lowI c ∧ lowI c ≤ 255 := by unfold lowI; split <;> omega
  have HL := Lib.hid (lower_any c h0 h1 w)
  have HD : Hid (digI c = if 48 ≤ lowI c ∧ lowI c ≤ 57 then lowI c - 48 else if 97 ≤ lowI c ∧ lowI c ≤ 102 then lowI c - 87 else 16) := rfl
  generalize lowI c = d at *
  obtain ⟨hd0, hd1⟩ := hl
  go_enter Tryz.func108, Tryz.ntmps108
  go_wp2_with (first | (go_at_call 75; refine HL.out.mono ?_; rintro e w' ⟨rfl, rfl⟩) | (go_at_call 112; refine (decimal_any _ hd0 hd1 _).mono ?_; rintro e w' ⟨rfl, rfl⟩))
  all_goals (go_ret; exact ⟨ret_int (by rw [HD.out]; split <;> (try split) <;> simp_all [decI] <;> omega), rfl⟩)

set_option maxHeartbeats 400000 in
theorem rdigit_any (c b : Int) (h0 : 0 ≤ c) (h1 : c ≤ 255) (hb : 1 ≤ b) (hb' : b ≤ 16) (w : World) :
    Calls Tryz.prog 89 #[.int .u8 c, .int .i64 b] w fun e w' => e = .returned (.int .i64 (if digI c < b then digI c else -1)) ∧ w = w' := by
  have hl : 0 ≤ lowI c ∧ lowI c ≤ 255 := by unfold lowI; split <;> omega
  have hlc : Hid ((48 ≤ c ∧ c ≤ 57) ↔ (48 ≤ lowI c ∧ lowI c ≤ 57)) := by show _ ↔ _; unfold lowI; split <;> omega
  have hlc2 : Hid ((48 ≤ c ∧ c ≤ 57) → lowI c = c) := by show _ → _; unfold lowI; split <;> omega
  have HL := fun W => Lib.hid (small_any c h0 h1 W)
  have HD : Hid (digI c = if 48 ≤ lowI c ∧ lowI c ≤ 57 then lowI c - 48 else if 97 ≤ lowI c ∧ lowI c ≤ 102 then lowI c - 87 else 16) := rfl
  generalize lowI c = d at *
  obtain ⟨hd0, hd1⟩ := hl
  go_enter Tryz.func89, Tryz.ntmps89
  go_wp2_with (first | (go_at_call 78; refine (HL _).out.mono ?_; rintro e w' ⟨rfl, rfl⟩) | (go_at_call 66; refine (within_any _ _ _ _).mono ?_; rintro e w' ⟨rfl, rfl⟩))
  all_goals (go_ret; refine ⟨ret_int ?_, rfl⟩; have q1 := hlc.out; have q2 := hlc2.out; have q3 := HD.out; simp only [withinI, decide_eq_true_eq, decide_eq_false_iff_not] at * <;> (split at q3 <;> (try split at q3) <;> (try split) <;> omega))

set_option maxRecDepth 100000 in
set_option maxHeartbeats 1600000 in
theorem digits_any (s : Bs) (b : Int) (most : Nat) (hs : s.length ≤ 1000000) (hb : b = 8 ∨ b = 16) (hm : most ≤ 3) (w : World) :
    Calls Tryz.prog 106 #[.string ⟨s.toArray⟩, .int .i64 b, .int .i64 most] w fun e w' => e = .returned (.tuple #[.int .u8 ((byteI (digF b most s 0).1).toNat), .int .i64 ((digF b most s 0).2 : Int)]) ∧ w = w' := by
  obtain ⟨m, hmm, hm1, hm2, hm3⟩ : ∃ m : Nat, min (most : Int) (s.length : Int) = m ∧ m ≤ most ∧ m ≤ s.length ∧ (m = most ∨ s.length ≤ m) := ⟨min most s.length, by omega, by omega, by omega, by omega⟩
  have hb1 : 8 ≤ b ∧ b ≤ 16 := by omega
  have HM := Lib.hid hm3
  clear hm3
  go_enter Tryz.func106, Tryz.ntmps106
  go_wp2_with fail
  go_loop [8, 9] (fun a n => ∃ (k : Nat) (acc : Int), k ≤ m ∧ a = .int .i64 acc ∧ n = .int .i64 k ∧ 0 ≤ acc ∧ acc < 4096 ∧ (k = 2 → acc < 256) ∧ (k = 1 → acc < 16) ∧ (k = 0 → acc = 0) ∧ Hid (digF b most s 0 = ((digF b (most - k) (s.drop k) acc).1, (digF b (most - k) (s.drop k) acc).2 + k))) (fun _ n => m - (intOf n).toNat)
  case atStart => exact ⟨0, 0, Nat.zero_le _, rfl, rfl, by omega, by omega, by omega, by omega, by omega, by simp [Hid]⟩
  case round =>
    obtain ⟨k, acc, hk, rfl, rfl, ha0, ha1, ha2, ha3, ha4, H⟩ := hrel
    by_cases hkm : k < m
    · have hks : k < s.length := by omega
      have t1 : decide ((k : Int) < (m : Int)) = true := by rw [decide_eq_true_eq]; omega
      have h255 := byte_lt s[k]
      have h000 : (0 : Int) ≤ (s[k].toNat : Int) := by omega
      have HC := fun W => Lib.hid (digit_any _ h000 h255 W)
      have hn := digI_nn (s[k].toNat : Int)
      have hx := digI_le (s[k].toNat : Int)
      have HI : Hid (digI (s[k].toNat : Int) < b → digF b most s 0 = ((digF b (most - (k + 1)) (s.drop (k + 1)) (acc * b + digI (s[k].toNat : Int))).1, (digF b (most - (k + 1)) (s.drop (k + 1)) (acc * b + digI (s[k].toNat : Int))).2 + (k + 1))) := by
        intro hd
        rw [H.out, show most - k = (most - (k + 1)) + 1 from by omega, digF_in b acc hks hd]
        congr 1; omega
      have HO : Hid (¬ digI (s[k].toNat : Int) < b → digF b most s 0 = (acc, k)) := by
        intro hd
        rw [H.out, digF_out b acc hks hd]; simp
      generalize digI (s[k].toNat : Int) = d at *
      clear H
      by_cases hd : d < b
      · have t2 : decide (d < b) = true := by simpa using hd
        have HI2 := Lib.hid (HI.out hd)
        have hk3 : k < 3 := by omega
        have hac : 0 ≤ acc * b + d ∧ acc * b + d < 4096 ∧ (k + 1 = 2 → acc * b + d < 256) ∧ (k + 1 = 1 → acc * b + d < 16) := by
          rcases hb with rfl | rfl <;> (refine ⟨?_, ?_, ?_, ?_⟩ <;> omega)
        have hac2 : 0 ≤ acc * b ∧ acc * b < 100000 := by rcases hb with rfl | rfl <;> omega
        obtain ⟨c1, c2, c3, c4⟩ := hac
        obtain ⟨c5, c6⟩ := hac2
        clear HI HO
        go_wp2_with (go_at_call 108; refine (HC _).out.mono ?_; rintro e w' ⟨rfl, rfl⟩)
        go_round
        case rel => exact ⟨k + 1, acc * b + d, by omega, by go_num, by go_num, c1, c2, c3, c4, by omega, HI2⟩
        case measure => simp [intOf]; omega
      · have t2 : decide (d < b) = false := by simpa using hd
        have HO2 := Lib.hid (HO.out hd)
        clear HI HO
        have hwr : IntKind.u8.wrap acc = ((byteI acc).toNat : Int) := by rw [byteI_toNat _ ha0]; rfl
        go_wp2_with (go_at_call 108; refine (HC _).out.mono ?_; rintro e w' ⟨rfl, rfl⟩)
        go_ret2
        exact ⟨by rw [HO2.out]; rfl, rfl⟩
    · have hkm' : k = m := by omega
      have t1 : decide ((k : Int) < (m : Int)) = false := by rw [decide_eq_false_iff_not]; omega
      have HE : Hid (digF b most s 0 = (acc, k)) := by
        show _ = _
        rw [H.out, digF_end b acc (by have := HM.out; omega)]; simp
      clear H
      have hwr : IntKind.u8.wrap acc = ((byteI acc).toNat : Int) := by rw [byteI_toNat _ ha0]; rfl
      go_wp2_with fail
      go_ret2
      exact ⟨by rw [HE.out, hkm']; rfl, rfl⟩

theorem index_esc (c : UInt8) : Lib.indexByte [97, 98, 116, 110, 118, 102, 114] c = escI c.toNat := by
  by_cases h1 : c = 97
  · subst h1; decide
  by_cases h2 : c = 98
  · subst h2; decide
  by_cases h3 : c = 116
  · subst h3; decide
  by_cases h4 : c = 110
  · subst h4; decide
  by_cases h5 : c = 118
  · subst h5; decide
  by_cases h6 : c = 102
  · subst h6; decide
  by_cases h7 : c = 114
  · subst h7; decide
  have hh : ∀ x : UInt8, c ≠ x → (x == c) = false := fun x h => beq_eq_false_iff_ne.2 (Ne.symm h)
  have hn : ∀ (x : UInt8) (y : Int), (x.toNat : Int) = y → c ≠ x → ¬ ((c.toNat : Int) = y) := fun x y hy h e => h (byte_inj (by omega))
  have e1 := hn 97 97 rfl h1
  have e2 := hn 98 98 rfl h2
  have e3 := hn 116 116 rfl h3
  have e4 := hn 110 110 rfl h4
  have e5 := hn 118 118 rfl h5
  have e6 := hn 102 102 rfl h6
  have e7 := hn 114 114 rfl h7
  simp only [Lib.indexByte, hh _ h1, hh _ h2, hh _ h3, hh _ h4, hh _ h5, hh _ h6, hh _ h7]
  unfold escI
  rw [if_neg e1, if_neg e2, if_neg e3, if_neg e4, if_neg e5, if_neg e6, if_neg e7]
  rfl

theorem byteI_id (b : UInt8) : byteI (b.toNat : Int) = b := byte_inj (by have h := byteI_toNat (b.toNat : Int) (by omega); have := byte_lt b; omega)

/-- 'string([]byte{x})'. -/
theorem one_byte (x : Int) (h0 : 0 ≤ x) (h1 : x ≤ 255) (t : TypeId) (W : World) : (convert 100 9 (.slice (some ⟨W.heap.size, 0, none⟩) 1 1)).run Tryz.prog (W.alloc (.cells #[.int .u8 x] t)) = .ok (.string ⟨[byteI x].toArray⟩) (W.alloc (.cells #[.int .u8 x] t)) := by
  refine run_back (P := Tryz.prog) 100 9 5 Tryz.underlying100 Tryz.underlying5 Tryz.underlying9 (n := 1) (l := [byteI x]) ?_ rfl
  have hx : ((byteI x).toNat : Int) = x := by rw [byteI_toNat _ h0]; omega
  intro j hj
  have hb := heap_alloc_new W (.cells #[.int .u8 x] t)
  obtain rfl : j = 0 := by simpa using hj
  constructor
  · simp only [World.cell?, hb, List.getElem_cons_zero, hx]; rfl
  · simp only [World.frozen?, hb]; rfl

theorem unesc_no {s : Bs} (hl : 0 < s.length) (hc : ¬ (s[0].toNat : Int) = 92) : unesc s = ([], 0) := by
  unfold unesc
  split
  · rw [if_neg (by omega)]
  · rw [if_neg (by intro e; subst e; exact hc rfl)]
theorem unesc_one {s : Bs} (hl : 0 < s.length) (hc : (s[0].toNat : Int) = 92) (h1 : s.length = 1) : unesc s = (s, 1) := by
  unfold unesc
  rw [dif_neg (by omega), if_pos]
  obtain ⟨c, rfl⟩ := List.length_eq_one_iff.1 h1
  have : c = 92 := byte_inj (by simpa using (by simpa using hc : (c.toNat : Int) = 92) |> fun h : (c.toNat : Int) = 92 => (by show c.toNat = 92; omega))
  rw [this]
theorem unesc_two {s : Bs} (hl : 1 < s.length) (hc : (s[0].toNat : Int) = 92) : unesc s = unesc1 s[1] s := by
  unfold unesc
  rw [dif_pos hl, if_pos (by omega)]

theorem unesc1_esc {d : UInt8} {s : Bs} (h : (0 : Int) ≤ escI (d.toNat : Int)) : unesc1 d s = ([byteI ((7 : Int) + escI (d.toNat : Int))], 2) := by
  unfold unesc1; rw [if_pos h]
theorem escI_120 : escI 120 = -1 := by decide
theorem escI_10 : escI 10 = -1 := by decide
theorem oct_out {s : Bs} (h1 : 1 < s.length) (hd : ¬ digI (s[1].toNat : Int) < 8) : digF 8 3 (s.drop 1) 0 = (0, 0) := digF_out 8 0 h1 hd
theorem unesc1_hex {s : Bs} (h1 : 1 < s.length) (hd : s[1].toNat = 120) (hk : 0 < (digF 16 2 (s.drop 2) 0).2) : unesc1 s[1] s = ([byteI (digF 16 2 (s.drop 2) 0).1], 2 + (digF 16 2 (s.drop 2) 0).2) := by
  unfold unesc1
  rw [hd, if_neg (by decide), if_pos ⟨rfl, hk⟩]
theorem unesc1_x {s : Bs} (h1 : 1 < s.length) (hd : s[1].toNat = 120) (hk : ¬ 0 < (digF 16 2 (s.drop 2) 0).2) : unesc1 s[1] s = ([s[1]], 2) := by
  unfold unesc1
  rw [oct_out h1 (by rw [hd]; decide), hd, if_neg (by decide), if_neg (fun h => hk h.2), if_neg (by decide), if_neg (by decide)]
theorem unesc1_oct {s : Bs} (h1 : 1 < s.length) (he : ¬ (0 : Int) ≤ escI (s[1].toNat : Int)) (hd : ¬ s[1].toNat = 120) (hk : 0 < (digF 8 3 (s.drop 1) 0).2) : unesc1 s[1] s = ([byteI (digF 8 3 (s.drop 1) 0).1], 1 + (digF 8 3 (s.drop 1) 0).2) := by
  unfold unesc1
  rw [if_neg he, if_neg (fun h => hd h.1), if_pos hk]
theorem unesc1_nl {s : Bs} (h1 : 1 < s.length) (hd : s[1].toNat = 10) : unesc1 s[1] s = ([32], 2 + ((s.drop 2).takeWhile isBl).length) := by
  unfold unesc1
  rw [oct_out h1 (by rw [hd]; decide), hd, if_neg (by decide), if_neg (fun h => by omega), if_neg (by decide), if_pos rfl]
theorem unesc1_else {s : Bs} (h1 : 1 < s.length) (he : ¬ (0 : Int) ≤ escI (s[1].toNat : Int)) (hd : ¬ s[1].toNat = 120) (hk : ¬ 0 < (digF 8 3 (s.drop 1) 0).2) (hn : ¬ s[1].toNat = 10) : unesc1 s[1] s = ([s[1]], 2) := by
  unfold unesc1
  rw [if_neg he, if_neg (fun h => hd h.1), if_neg hk, if_neg hn]

theorem take_one {s : Bs} (h1 : 1 < s.length) : (s.tail).take 1 = [s[1]] := by
  rw [← List.drop_one, List.drop_eq_getElem_cons h1]; rfl
theorem tail_all (s : Bs) : s.tail.take (s.length - 1) = s.drop 1 := by rw [List.drop_one, List.take_of_length_le (by simp)]

theorem tw_in {s : Bs} {k : Nat} (h : k < s.length) (hc : isBl s[k] = true) : ((s.drop k).takeWhile isBl).length = ((s.drop (k + 1)).takeWhile isBl).length + 1 := by
  rw [List.drop_eq_getElem_cons h, List.takeWhile_cons, if_pos hc]; rfl
theorem tw_out {s : Bs} {k : Nat} (h : k < s.length) (hc : isBl s[k] = false) : ((s.drop k).takeWhile isBl).length = 0 := by
  rw [List.drop_eq_getElem_cons h, List.takeWhile_cons, if_neg (by simp [hc])]; rfl

end Go.Proofs.YtpaffocniniakaaGreat
namespace Go.Proofs.YtpaffocniniakaaGreat
set_option linter.unusedVariables false
set_option linter.unusedSimpArgs false
open Go.RowKit

set_option maxRecDepth 100000 in
set_option maxHeartbeats 3200000 in
theorem Unescape_any (s : Bs) (hs : s.length ≤ 1000000) (w : World) :
    Calls Tryz.prog 104 #[.string ⟨s.toArray⟩] w fun e w' => e = .returned (.tuple #[.string ⟨(unesc s).1.toArray⟩, .int .i64 ((unesc s).2 : Int)]) ∧ Below w.heap.size w w' := by
  by_cases h0 : s = []
  · subst h0
    go_enter Tryz.func104, Tryz.ntmps104
    go_wp2_with fail
    go_ret2
    exact ⟨rfl, Below.refl _ _⟩
  have hl : 0 < s.length := List.length_pos_iff.2 h0
  have he : s.isEmpty = false := by cases s with | nil => exact absurd rfl h0 | cons _ _ => rfl
  by_cases hc : (s[0].toNat : Int) = 92
  rotate_left
  · have HU := Lib.hid (unesc_no hl hc)
    have t1 : ((s[0].toNat : Int) != 92) = true := by simpa using hc
    go_enter Tryz.func104, Tryz.ntmps104
    go_wp2_with fail
    go_ret2
    exact ⟨by rw [HU.out]; rfl, Below.refl _ _⟩
  by_cases h1 : s.length = 1
  · have HU := Lib.hid (unesc_one hl hc h1)
    have t2 : ((s.length : Int) == 1) = true := by rw [beq_iff_eq]; omega
    go_enter Tryz.func104, Tryz.ntmps104
    go_wp2_with fail
    go_ret2
    exact ⟨by rw [HU.out]; rfl, Below.refl _ _⟩
  have hl2 : 1 < s.length := by omega
  have t2 : ((s.length : Int) == 1) = false := by rw [beq_eq_false_iff_ne]; omega
  have hlI : (2 : Int) ≤ (s.length : Int) := by omega
  have hlI1 : (1 : Int) ≤ (s.length : Int) := by omega
  have hlN : 2 ≤ s.length := by omega
  have HU := Lib.hid (unesc_two hl2 hc)
  have HIB : Hid (∀ W, Calls Tryz.prog 71 #[.string ⟨[97, 98, 116, 110, 118, 102, 114].toArray⟩, .int .u8 (s[1].toNat : Int)] W fun e w' => e = .returned (.int .i64 (escI s[1].toNat)) ∧ W = w') := by
    intro W
    have h := Tryz.strings_IndexByte ⟨[97, 98, 116, 110, 118, 102, 114].toArray⟩ (s[1].toNat : Int) W
    rw [show ((s[1].toNat : Int)).toNat.toUInt8 = s[1] from by rw [Int.toNat_natCast]; exact byte_inj (by simp), index_esc] at h
    exact h.mono fun e w' h => ⟨h.1, h.2.symm⟩
  have h255 := byte_lt s[1]
  have h000 : (0 : Int) ≤ (s[1].toNat : Int) := by omega
  by_cases e1 : (0 : Int) ≤ escI (s[1].toNat : Int)
  · have HV := Lib.hid (unesc1_esc (s := s) e1)
    have hi6 := (escI_nn (s[1].toNat : Int)).2
    have t3 : decide ((0 : Int) ≤ escI (s[1].toNat : Int)) = true := by simpa using e1
    have hone := one_byte ((7 : Int) + escI (s[1].toNat : Int)) (by omega) (by omega) 5 w
    generalize escI (s[1].toNat : Int) = i at *
    go_enter Tryz.func104, Tryz.ntmps104
    go_wp2_with (go_at_call 71; refine (HIB.out _).mono ?_; rintro e w' ⟨rfl, rfl⟩)
    go_ret2
    exact ⟨by rw [HU.out, HV.out]; rfl, (Below.refl _ _).alloc (Nat.le_refl _) _⟩
  have t4 : decide ((0 : Int) ≤ escI (s[1].toNat : Int)) = false := by simpa using e1
  have HOct := Lib.hid (unesc1_oct hl2 e1)
  have HEls := Lib.hid (unesc1_else hl2 e1)
  generalize hei : escI (s[1].toNat : Int) = i at *
  clear hei e1
  by_cases hx : s[1].toNat = 120
  · have t5 : ((s[1].toNat : Int) == 120) = true := by rw [beq_iff_eq]; omega
    have HD := Lib.hid (fun W => digits_any (s.drop 2) 16 2 (by simp; omega) (.inr rfl) (by omega) W)
    by_cases hk : 0 < (digF 16 2 (s.drop 2) 0).2
    · have HV := Lib.hid (unesc1_hex hl2 hx hk)
      have hle := (digF_le 16 2 (s.drop 2) 0).1
      generalize digF 16 2 (s.drop 2) 0 = q at *
      obtain ⟨qv, qn⟩ := q
      simp only at HD HV hk hle
      have t6 : decide (0 < (qn : Int)) = true := by rw [decide_eq_true_eq]; omega
      have hone := one_byte ((byteI qv).toNat : Int) (by omega) (byte_lt _) 5 w
      clear hx
      go_enter Tryz.func104, Tryz.ntmps104
      go_wp2_with (first | (go_at_call 71; refine (HIB.out _).mono ?_; rintro e w' ⟨rfl, rfl⟩) | (go_at_call 106; refine (HD.out _).mono ?_; rintro e w' ⟨rfl, rfl⟩))
      go_ret2
      exact ⟨by rw [HU.out, HV.out, byteI_id]; simp, (Below.refl _ _).alloc (Nat.le_refl _) _⟩
    · have HV := Lib.hid (unesc1_x hl2 hx hk)
      have HO := Lib.hid (fun W => digits_any (s.drop 1) 8 3 (by simp; omega) (.inl rfl) (by omega) W)
      have hzero := oct_out hl2 (by rw [hx]; decide)
      rw [hzero, ← tail_all] at HO
      have hq0 : (digF 16 2 (s.drop 2) 0).2 = 0 := by omega
      generalize digF 16 2 (s.drop 2) 0 = q at *
      obtain ⟨qv, qn⟩ := q
      simp only at HD HO hq0
      subst hq0
      have t6 : ((s[1].toNat : Int) == 10) = false := by rw [beq_eq_false_iff_ne]; omega
      have HT := Lib.hid (take_one hl2)
      clear hx hzero hk
      go_enter Tryz.func104, Tryz.ntmps104
      go_wp2_with (first | (go_at_call 71; refine (HIB.out _).mono ?_; rintro e w' ⟨rfl, rfl⟩) | (go_at_call_of 106 (Value.int IntKind.i64 16); refine (HD.out _).mono ?_; rintro e w' ⟨rfl, rfl⟩) | (go_at_call_of 106 (Value.int IntKind.i64 8); refine (HO.out _).mono ?_; rintro e w' ⟨rfl, rfl⟩))
      go_ret2
      exact ⟨by rw [HU.out, HV.out, ← HT.out]; rfl, Below.refl _ _⟩
  have t5 : ((s[1].toNat : Int) == 120) = false := by rw [beq_eq_false_iff_ne]; omega
  have HO := Lib.hid (fun W => digits_any (s.drop 1) 8 3 (by simp; omega) (.inl rfl) (by omega) W)
  by_cases hk : 0 < (digF 8 3 (s.drop 1) 0).2
  · have HV := Lib.hid (HOct.out hx hk)
    have hle := (digF_le 8 3 (s.drop 1) 0).1
    rw [← tail_all] at HO HV hk hle
    generalize digF 8 3 (s.tail.take (s.length - 1)) 0 = q at *
    obtain ⟨qv, qn⟩ := q
    simp only at HO HV hk hle
    have t6 : decide (0 < (qn : Int)) = true := by rw [decide_eq_true_eq]; omega
    have hone := one_byte ((byteI qv).toNat : Int) (by omega) (byte_lt _) 5 w
    clear hx
    go_enter Tryz.func104, Tryz.ntmps104
    go_wp2_with (first | (go_at_call 71; refine (HIB.out _).mono ?_; rintro e w' ⟨rfl, rfl⟩) | (go_at_call 106; refine (HO.out _).mono ?_; rintro e w' ⟨rfl, rfl⟩))
    go_ret2
    exact ⟨by rw [HU.out, HV.out, byteI_id]; simp, (Below.refl _ _).alloc (Nat.le_refl _) _⟩
  have HK := Lib.hid hk
  have hq0 : (digF 8 3 (s.drop 1) 0).2 = 0 := by omega
  by_cases hn : s[1].toNat = 10
  · have HV := Lib.hid (unesc1_nl hl2 hn)
    have t7 : ((s[1].toNat : Int) == 10) = true := by rw [beq_iff_eq]; omega
    rw [← tail_all] at HO hq0
    generalize digF 8 3 (s.tail.take (s.length - 1)) 0 = q at *
    obtain ⟨qv, qn⟩ := q
    simp only at HO hq0
    subst hq0
    clear hx hk hn HK
    go_enter Tryz.func104, Tryz.ntmps104
    go_wp2_with (first | (go_at_call 71; refine (HIB.out _).mono ?_; rintro e w' ⟨rfl, rfl⟩) | (go_at_call 106; refine (HO.out _).mono ?_; rintro e w' ⟨rfl, rfl⟩))
    go_loop [9] (fun n => ∃ k : Nat, 2 ≤ k ∧ k ≤ s.length ∧ n = .int .i64 k ∧ Hid (2 + ((s.drop 2).takeWhile isBl).length = k + ((s.drop k).takeWhile isBl).length)) (fun n => s.length - (intOf n).toNat)
    case atStart => exact ⟨2, Nat.le_refl _, hlN, rfl, rfl⟩
    case round =>
      obtain ⟨k, hk2, hk, rfl, H⟩ := hrel
      by_cases hlt : k < s.length
      · have hlt1 : decide ((k : Int) < (s.length : Int)) = true := by rw [decide_eq_true_eq]; omega
        have h255k := byte_lt s[k]
        have HB : Hid (isBl s[k] = ((s[k].toNat : Int) == 32 || (s[k].toNat : Int) == 9)) := rfl
        by_cases q1 : ((s[k].toNat : Int) == 32) = true
        · have HN : Hid (2 + ((s.drop 2).takeWhile isBl).length = (k + 1) + ((s.drop (k + 1)).takeWhile isBl).length) := by
            show _ = _
            rw [H.out, tw_in hlt (by rw [HB.out, q1]; rfl)]; omega
          clear H HB
          go_wp2_with fail
          go_round
          case rel => exact ⟨k + 1, by omega, by omega, by go_num, HN⟩
          case measure => simp [intOf]; omega
        · have q1f : ((s[k].toNat : Int) == 32) = false := by simpa using q1
          by_cases q2 : ((s[k].toNat : Int) == 9) = true
          · have HN : Hid (2 + ((s.drop 2).takeWhile isBl).length = (k + 1) + ((s.drop (k + 1)).takeWhile isBl).length) := by
              show _ = _
              rw [H.out, tw_in hlt (by rw [HB.out, q2, Bool.or_true])]; omega
            clear H HB q1
            go_wp2_with fail
            go_round
            case rel => exact ⟨k + 1, by omega, by omega, by go_num, HN⟩
            case measure => simp [intOf]; omega
          · have q2f : ((s[k].toNat : Int) == 9) = false := by simpa using q2
            have HN : Hid (2 + ((s.drop 2).takeWhile isBl).length = k) := by
              show _ = _
              rw [H.out, tw_out hlt (by rw [HB.out, q1f, q2f]; rfl)]; omega
            clear H HB q1 q2
            go_wp2_with fail
            go_ret2
            exact ⟨by rw [HU.out, HV.out, HN.out]; rfl, Below.refl _ _⟩
      · have hlt1 : decide ((k : Int) < (s.length : Int)) = false := by rw [decide_eq_false_iff_not]; omega
        have HN : Hid (2 + ((s.drop 2).takeWhile isBl).length = k) := by
          show _ = _
          rw [H.out, List.drop_eq_nil_of_le (by omega)]; rfl
        clear H
        go_wp2_with fail
        go_ret2
        exact ⟨by rw [HU.out, HV.out, HN.out]; rfl, Below.refl _ _⟩
  · have HV := Lib.hid (HEls.out hx hk hn)
    have t7 : ((s[1].toNat : Int) == 10) = false := by rw [beq_eq_false_iff_ne]; omega
    rw [← tail_all] at HO hq0
    generalize digF 8 3 (s.tail.take (s.length - 1)) 0 = q at *
    obtain ⟨qv, qn⟩ := q
    simp only at HO hq0
    subst hq0
    have HT := Lib.hid (take_one hl2)
    clear hx hk hn HK
    go_enter Tryz.func104, Tryz.ntmps104
    go_wp2_with (first | (go_at_call 71; refine (HIB.out _).mono ?_; rintro e w' ⟨rfl, rfl⟩) | (go_at_call 106; refine (HO.out _).mono ?_; rintro e w' ⟨rfl, rfl⟩))
    go_ret2
    exact ⟨by rw [HU.out, HV.out, ← HT.out]; rfl, Below.refl _ _⟩
end Go.Proofs.YtpaffocniniakaaGreat
namespace Go.Proofs.YtpaffocniniakaaGreat
set_option linter.unusedVariables false
set_option linter.unusedSimpArgs false
open Go.RowKit

def escR (d : Int) : Int := if d = 97 then 0 else if d = 98 then 1 else if d = 102 then 2 else if d = 110 then 3 else if d = 114 then 4 else if d = 116 then 5 else if d = 118 then 6 else -1
theorem first_esc (c : UInt8) : firstI [c] [97, 98, 102, 110, 114, 116, 118] 0 = escR (c.toNat : Int) := by
  by_cases h1 : c = 97
  · subst h1; decide
  by_cases h2 : c = 98
  · subst h2; decide
  by_cases h3 : c = 102
  · subst h3; decide
  by_cases h4 : c = 110
  · subst h4; decide
  by_cases h5 : c = 114
  · subst h5; decide
  by_cases h6 : c = 116
  · subst h6; decide
  by_cases h7 : c = 118
  · subst h7; decide
  have hn : ∀ (x : UInt8) (y : Int), (x.toNat : Int) = y → c ≠ x → ¬ ((c.toNat : Int) = y) := fun x y hy h e => h (byte_inj (by omega))
  unfold escR
  rw [if_neg (hn 97 97 rfl h1), if_neg (hn 98 98 rfl h2), if_neg (hn 102 102 rfl h3), if_neg (hn 110 110 rfl h4), if_neg (hn 114 114 rfl h5), if_neg (hn 116 116 rfl h6), if_neg (hn 118 118 rfl h7)]
  unfold firstI
  rcases fstG_spec (fun (i : Nat) => !([c] : Bs).isEmpty && decide ((0 : Int) ≤ i) && stB [c] [97, 98, 102, 110, 114, 116, 118] i) ([97, 98, 102, 110, 114, 116, 118] : Bs).length 0 with ⟨h, _⟩ | ⟨k, _, _, hk, hP, _⟩
  · exact h
  · exfalso
    simp only [List.length_cons, List.length_nil] at hk
    simp only [Bool.and_eq_true, stB, beq_iff_eq] at hP
    have hP2 := hP.2
    rcases (by omega : k = 0 ∨ k = 1 ∨ k = 2 ∨ k = 3 ∨ k = 4 ∨ k = 5 ∨ k = 6) with rfl | rfl | rfl | rfl | rfl | rfl | rfl
    · exact h1 (by simpa using hP2.symm)
    · exact h2 (by simpa using hP2.symm)
    · exact h3 (by simpa using hP2.symm)
    · exact h4 (by simpa using hP2.symm)
    · exact h5 (by simpa using hP2.symm)
    · exact h6 (by simpa using hP2.symm)
    · exact h7 (by simpa using hP2.symm)
theorem escR_law (d : Int) : (escR d = -1 ∧ ¬ (0 : Int) ≤ escI d) ∨ ∃ j : Nat, escR d = j ∧ j ≤ 6 ∧ (0 : Int) ≤ escI d ∧ (([7, 8, 12, 10, 13, 9, 11] : Bs).drop j).take 1 = [byteI ((7 : Int) + escI d)] := by
  unfold escR
  split
  · rename_i h; subst h; exact .inr ⟨0, rfl, by decide, by decide, by decide⟩
  split
  · rename_i h; subst h; exact .inr ⟨1, rfl, by decide, by decide, by decide⟩
  split
  · rename_i h; subst h; exact .inr ⟨2, rfl, by decide, by decide, by decide⟩
  split
  · rename_i h; subst h; exact .inr ⟨3, rfl, by decide, by decide, by decide⟩
  split
  · rename_i h; subst h; exact .inr ⟨4, rfl, by decide, by decide, by decide⟩
  split
  · rename_i h; subst h; exact .inr ⟨5, rfl, by decide, by decide, by decide⟩
  split
  · rename_i h; subst h; exact .inr ⟨6, rfl, by decide, by decide, by decide⟩
  · refine .inl ⟨rfl, ?_⟩
    unfold escI
    repeat' split
    all_goals omega

set_option maxRecDepth 100000 in
set_option maxHeartbeats 3200000 in
theorem rUnescape_any (s : Bs) (hs : s.length ≤ 1000000) (w : World) :
    Calls Tryz.prog 68 #[.string ⟨s.toArray⟩] w fun e w' => e = .returned (.tuple #[.string ⟨(unesc s).1.toArray⟩, .int .i64 ((unesc s).2 : Int)]) ∧ Below w.heap.size w w' := by
  by_cases h0 : s = []
  · subst h0
    go_enter Tryz.func68, Tryz.ntmps68
    go_wp2_with fail
    go_ret2
    exact ⟨rfl, Below.refl _ _⟩
  have hl : 0 < s.length := List.length_pos_iff.2 h0
  have he : s.isEmpty = false := by cases s with | nil => exact absurd rfl h0 | cons _ _ => rfl
  by_cases hc : (s[0].toNat : Int) = 92
  rotate_left
  · have HU := Lib.hid (unesc_no hl hc)
    have t1 : ((s[0].toNat : Int) != 92) = true := by simpa using hc
    go_enter Tryz.func68, Tryz.ntmps68
    go_wp2_with fail
    go_ret2
    exact ⟨by rw [HU.out]; rfl, Below.refl _ _⟩
  by_cases h1 : s.length = 1
  · have HU := Lib.hid (unesc_one hl hc h1)
    have t2 : ((s.length : Int) == 1) = true := by rw [beq_iff_eq]; omega
    go_enter Tryz.func68, Tryz.ntmps68
    go_wp2_with fail
    go_ret2
    exact ⟨by rw [HU.out]; rfl, Below.refl _ _⟩
  have hl2 : 1 < s.length := by omega
  have t2 : ((s.length : Int) == 1) = false := by rw [beq_eq_false_iff_ne]; omega
  have hlI : (2 : Int) ≤ (s.length : Int) := by omega
  have hlI1 : (1 : Int) ≤ (s.length : Int) := by omega
  have hlN : 2 ≤ s.length := by omega
  have HU := Lib.hid (unesc_two hl2 hc)
  have HT := Lib.hid (take_one hl2)
  have HF : Hid (∀ W, Calls Tryz.prog 76 #[.string ⟨(s.tail.take 1).toArray⟩, .string ⟨[97, 98, 102, 110, 114, 116, 118].toArray⟩, .int .i64 0] W fun e w' => e = .returned (.int .i64 (escR (s[1].toNat : Int))) ∧ W = w') := by
    intro W
    have h := rFirst_any [s[1]] [97, 98, 102, 110, 114, 116, 118] 0 (by simp) (by simp) W
    rw [first_esc] at h
    rw [take_one hl2]
    exact h
  have h255 := byte_lt s[1]
  have h000 : (0 : Int) ≤ (s[1].toNat : Int) := by omega
  rcases escR_law (s[1].toNat : Int) with ⟨hr, e1⟩ | ⟨j, hj, hj6, e1, hbyte⟩
  rotate_left
  · have HV := Lib.hid (unesc1_esc (s := s) e1)
    rw [hj] at HF
    have HB := Lib.hid hbyte
    have t3 : decide ((0 : Int) ≤ (j : Int)) = true := by simp
    have t4 : (j : Int) + 1 ≤ 7 := by omega
    have t5 : j + 1 ≤ 7 := by omega
    clear hj hbyte e1
    go_enter Tryz.func68, Tryz.ntmps68
    go_wp2_with (go_at_call 76; refine (HF.out _).mono ?_; rintro e w' ⟨rfl, rfl⟩)
    go_ret2
    exact ⟨by rw [HU.out, HV.out, ← HB.out]; simp, Below.refl _ _⟩
  rw [hr] at HF
  clear hr
  by_cases hn : s[1].toNat = 10
  · have HV := Lib.hid (unesc1_nl hl2 hn)
    have t7 : ((s[1].toNat : Int) == 10) = true := by rw [beq_iff_eq]; omega
    clear hn e1
    go_enter Tryz.func68, Tryz.ntmps68
    go_wp2_with (go_at_call 76; refine (HF.out _).mono ?_; rintro e w' ⟨rfl, rfl⟩)
    go_loop [3] (fun n => ∃ k : Nat, 2 ≤ k ∧ k ≤ s.length ∧ n = .int .i64 k ∧ Hid (2 + ((s.drop 2).takeWhile isBl).length = k + ((s.drop k).takeWhile isBl).length)) (fun n => s.length - (intOf n).toNat)
    case atStart => exact ⟨2, Nat.le_refl _, hlN, rfl, rfl⟩
    case round =>
      obtain ⟨k, hk2, hk, rfl, H⟩ := hrel
      by_cases hlt : k < s.length
      · have hlt1 : decide ((k : Int) < (s.length : Int)) = true := by rw [decide_eq_true_eq]; omega
        have h255k := byte_lt s[k]
        have HB : Hid (isBl s[k] = ((s[k].toNat : Int) == 32 || (s[k].toNat : Int) == 9)) := rfl
        by_cases q1 : ((s[k].toNat : Int) == 32) = true
        · have HN : Hid (2 + ((s.drop 2).takeWhile isBl).length = (k + 1) + ((s.drop (k + 1)).takeWhile isBl).length) := by
            show _ = _
            rw [H.out, tw_in hlt (by rw [HB.out, q1]; rfl)]; omega
          clear H HB
          go_wp2_with fail
          go_round
          case rel => exact ⟨k + 1, by omega, by omega, by go_num, HN⟩
          case measure => simp [intOf]; omega
        · have q1f : ((s[k].toNat : Int) == 32) = false := by simpa using q1
          by_cases q2 : ((s[k].toNat : Int) == 9) = true
          · have HN : Hid (2 + ((s.drop 2).takeWhile isBl).length = (k + 1) + ((s.drop (k + 1)).takeWhile isBl).length) := by
              show _ = _
              rw [H.out, tw_in hlt (by rw [HB.out, q2, Bool.or_true])]; omega
            clear H HB q1
            go_wp2_with fail
            go_round
            case rel => exact ⟨k + 1, by omega, by omega, by go_num, HN⟩
            case measure => simp [intOf]; omega
          · have q2f : ((s[k].toNat : Int) == 9) = false := by simpa using q2
            have HN : Hid (2 + ((s.drop 2).takeWhile isBl).length = k) := by
              show _ = _
              rw [H.out, tw_out hlt (by rw [HB.out, q1f, q2f]; rfl)]; omega
            clear H HB q1 q2
            go_wp2_with fail
            go_ret2
            exact ⟨by rw [HU.out, HV.out, HN.out]; rfl, Below.refl _ _⟩
      · have hlt1 : decide ((k : Int) < (s.length : Int)) = false := by rw [decide_eq_false_iff_not]; omega
        have HN : Hid (2 + ((s.drop 2).takeWhile isBl).length = k) := by
          show _ = _
          rw [H.out, List.drop_eq_nil_of_le (by omega)]; rfl
        clear H
        go_wp2_with fail
        go_ret2
        exact ⟨by rw [HU.out, HV.out, HN.out]; rfl, Below.refl _ _⟩
  have t7 : ((s[1].toNat : Int) == 10) = false := by rw [beq_eq_false_iff_ne]; omega
  by_cases hx : s[1].toNat = 120
  · have t8 : ((s[1].toNat : Int) == 120) = true := by rw [beq_iff_eq]; omega
    have HVY : Hid (0 < (digF 16 2 (s.drop 2) 0).2 → unesc1 s[1] s = ([byteI (digF 16 2 (s.drop 2) 0).1], 2 + (digF 16 2 (s.drop 2) 0).2)) := fun h => unesc1_hex hl2 hx h
    have HVN : Hid (¬ 0 < (digF 16 2 (s.drop 2) 0).2 → unesc1 s[1] s = ([s[1]], 2)) := fun h => unesc1_x hl2 hx h
    clear hx hn e1
    go_enter Tryz.func68, Tryz.ntmps68
    go_wp2_with (go_at_call 76; refine (HF.out _).mono ?_; rintro e w' ⟨rfl, rfl⟩)
    go_loop [3, 8] (fun n v => ∃ (k j acc : Nat), j + 2 = k ∧ k ≤ s.length ∧ j ≤ 2 ∧ n = .int .i64 (k : Int) ∧ v = .int .i64 (acc : Int) ∧ acc < 4096 ∧ (j = 2 → acc < 256) ∧ (j = 1 → acc < 16) ∧ (j = 0 → acc = 0) ∧ Hid (digF 16 2 (s.drop 2) 0 = ((digF 16 (2 - j) (s.drop k) (acc : Int)).1, (digF 16 (2 - j) (s.drop k) (acc : Int)).2 + j))) (fun n _ => s.length - (intOf n).toNat)
    case atStart => exact ⟨2, 0, 0, rfl, by omega, by omega, rfl, rfl, by omega, by omega, by omega, by omega, by simp [Hid]⟩
    case round =>
      obtain ⟨k, j, acc, hk, hj1, hj2, rfl, rfl, ha1, ha2, ha3, ha4, H⟩ := hrel
      have hwr : IntKind.u8.wrap ((acc : Int) % 256) = ((byteI (acc : Int)).toNat : Int) := by rw [byteI_toNat _ (by omega)]; simp [IntKind.wrap, IntKind.bits, IntKind.signed]
      have hone := one_byte ((byteI (acc : Int)).toNat : Int) (by omega) (byte_lt _) 5 w
      have HEND : Hid ((digF 16 (2 - j) (s.drop k) (acc : Int)) = ((acc : Int), 0) → unesc1 s[1] s = if j = 0 then ([s[1]], 2) else ([byteI (acc : Int)], k)) := by
        intro h
        have h2 := H.out
        rw [h] at h2
        by_cases h0 : j = 0
        · rw [if_pos h0]
          exact HVN.out (by rw [h2]; simp [h0])
        · rw [if_neg h0, HVY.out (by rw [h2]; simp; omega), h2, ← hk]
          simp [Nat.add_comm]
      by_cases hlt : k < s.length ∧ j < 2
      · obtain ⟨hkl, hjm⟩ := hlt
        have t9 : decide ((k : Int) < (s.length : Int)) = true := by rw [decide_eq_true_eq]; omega
        have t10 : decide ((k : Int) < 4) = true := by rw [decide_eq_true_eq]; omega
        have h255k := byte_lt s[k]
        have h000k : (0 : Int) ≤ (s[k].toNat : Int) := by omega
        have HC := fun W => Lib.hid (rdigit_any _ 16 h000k h255k (by omega) (by omega) W)
        have hn0 := digI_nn (s[k].toNat : Int)
        have hx0 := digI_le (s[k].toNat : Int)
        have HI : Hid (digI (s[k].toNat : Int) < 16 → digF 16 2 (s.drop 2) 0 = ((digF 16 (2 - (j + 1)) (s.drop (k + 1)) ((acc : Int) * 16 + digI (s[k].toNat : Int))).1, (digF 16 (2 - (j + 1)) (s.drop (k + 1)) ((acc : Int) * 16 + digI (s[k].toNat : Int))).2 + (j + 1))) := by
          intro hd
          rw [H.out, show 2 - j = (2 - (j + 1)) + 1 from by omega, digF_in 16 _ hkl hd]
          congr 1; omega
        have HO : Hid (¬ digI (s[k].toNat : Int) < 16 → digF 16 (2 - j) (s.drop k) (acc : Int) = ((acc : Int), 0)) := fun hd => digF_out 16 _ hkl hd
        generalize hdg : digI (s[k].toNat : Int) = d at *
        clear H hdg
        by_cases hd : d < 16
        · have HI2 := Lib.hid (HI.out hd)
          obtain ⟨dn, rfl⟩ : ∃ dn : Nat, d = dn := ⟨d.toNat, by omega⟩
          have HC2 := fun W => Lib.hid (HC W).out
          simp only [if_pos hd] at HC2
          have t11 : decide ((0 : Int) ≤ (dn : Int)) = true := by simp
          clear HI HO HC HEND hwr hone
          go_wp2_with (go_at_call 89; refine (HC2 _).out.mono ?_; rintro e w' ⟨rfl, rfl⟩)
          go_round
          case rel => exact ⟨k + 1, j + 1, acc * 16 + dn, by omega, by omega, by omega, by go_num, by go_num, by omega, by omega, by omega, by omega, by show _ = _; rw [HI2.out]; simp⟩
          case measure => simp [intOf]; omega
        · have HO2 := Lib.hid (HO.out hd)
          have HC2 := fun W => Lib.hid (HC W).out
          simp only [if_neg hd] at HC2
          have HE2 := Lib.hid (HEND.out HO2.out)
          clear HI HO HC HEND
          by_cases hj0 : j = 0
          · rw [if_pos hj0] at HE2
            have t12 : ((k : Int) == 2) = true := by rw [beq_iff_eq]; omega
            clear hwr hone
            go_wp2_with (go_at_call 89; refine (HC2 _).out.mono ?_; rintro e w' ⟨rfl, rfl⟩)
            go_ret2
            exact ⟨by rw [HU.out, HE2.out, ← HT.out]; rfl, Below.refl _ _⟩
          · rw [if_neg hj0] at HE2
            have t12 : ((k : Int) == 2) = false := by rw [beq_eq_false_iff_ne]; omega
            go_wp2_with (go_at_call 89; refine (HC2 _).out.mono ?_; rintro e w' ⟨rfl, rfl⟩)
            go_ret2
            exact ⟨by rw [HU.out, HE2.out, byteI_id]; rfl, (Below.refl _ _).alloc (Nat.le_refl _) _⟩
      · have HE2 := Lib.hid (HEND.out (digF_end 16 _ (by omega)))
        have hcond : (k < s.length ∧ decide ((k : Int) < (s.length : Int)) = true ∧ decide ((k : Int) < 4) = false) ∨ (decide ((k : Int) < (s.length : Int)) = false) := by
          by_cases hkl : k < s.length
          · left; exact ⟨hkl, by rw [decide_eq_true_eq]; omega, by rw [decide_eq_false_iff_not]; omega⟩
          · right; rw [decide_eq_false_iff_not]; omega
        clear HEND
        by_cases hj0 : j = 0
        · rw [if_pos hj0] at HE2
          have t12 : ((k : Int) == 2) = true := by rw [beq_iff_eq]; omega
          clear hwr hone
          rcases hcond with ⟨hkl, t9, t10⟩ | t9
          · go_wp2_with fail
            all_goals (go_ret2; exact ⟨by rw [HU.out, HE2.out, ← HT.out]; rfl, Below.refl _ _⟩)
          · go_wp2_with fail
            all_goals (go_ret2; exact ⟨by rw [HU.out, HE2.out, ← HT.out]; rfl, Below.refl _ _⟩)
        · rw [if_neg hj0] at HE2
          have t12 : ((k : Int) == 2) = false := by rw [beq_eq_false_iff_ne]; omega
          rcases hcond with ⟨hkl, t9, t10⟩ | t9
          · go_wp2_with fail
            all_goals (go_ret2; exact ⟨by rw [HU.out, HE2.out, byteI_id]; rfl, (Below.refl _ _).alloc (Nat.le_refl _) _⟩)
          · go_wp2_with fail
            all_goals (go_ret2; exact ⟨by rw [HU.out, HE2.out, byteI_id]; rfl, (Below.refl _ _).alloc (Nat.le_refl _) _⟩)
  · have t8 : ((s[1].toNat : Int) == 120) = false := by rw [beq_eq_false_iff_ne]; omega
    have HVY : Hid (0 < (digF 8 3 (s.drop 1) 0).2 → unesc1 s[1] s = ([byteI (digF 8 3 (s.drop 1) 0).1], 1 + (digF 8 3 (s.drop 1) 0).2)) := fun h => unesc1_oct hl2 e1 hx h
    have HVN : Hid (¬ 0 < (digF 8 3 (s.drop 1) 0).2 → unesc1 s[1] s = ([s[1]], 2)) := fun h => unesc1_else hl2 e1 hx h hn
    clear hx hn e1
    go_enter Tryz.func68, Tryz.ntmps68
    go_wp2_with (go_at_call 76; refine (HF.out _).mono ?_; rintro e w' ⟨rfl, rfl⟩)
    go_loop [3, 8] (fun n v => ∃ (k j acc : Nat), j + 1 = k ∧ k ≤ s.length ∧ j ≤ 3 ∧ n = .int .i64 (k : Int) ∧ v = .int .i64 (acc : Int) ∧ acc < 4096 ∧ (j = 2 → acc < 256) ∧ (j = 1 → acc < 16) ∧ (j = 0 → acc = 0) ∧ Hid (digF 8 3 (s.drop 1) 0 = ((digF 8 (3 - j) (s.drop k) (acc : Int)).1, (digF 8 (3 - j) (s.drop k) (acc : Int)).2 + j))) (fun n _ => s.length - (intOf n).toNat)
    case atStart => exact ⟨1, 0, 0, rfl, by omega, by omega, rfl, rfl, by omega, by omega, by omega, by omega, by simp [Hid]⟩
    case round =>
      obtain ⟨k, j, acc, hk, hj1, hj2, rfl, rfl, ha1, ha2, ha3, ha4, H⟩ := hrel
      have hwr : IntKind.u8.wrap ((acc : Int) % 256) = ((byteI (acc : Int)).toNat : Int) := by rw [byteI_toNat _ (by omega)]; simp [IntKind.wrap, IntKind.bits, IntKind.signed]
      have hone := one_byte ((byteI (acc : Int)).toNat : Int) (by omega) (byte_lt _) 5 w
      have HEND : Hid ((digF 8 (3 - j) (s.drop k) (acc : Int)) = ((acc : Int), 0) → unesc1 s[1] s = if j = 0 then ([s[1]], 2) else ([byteI (acc : Int)], k)) := by
        intro h
        have h2 := H.out
        rw [h] at h2
        by_cases h0 : j = 0
        · rw [if_pos h0]
          exact HVN.out (by rw [h2]; simp [h0])
        · rw [if_neg h0, HVY.out (by rw [h2]; simp; omega), h2, ← hk]
          simp [Nat.add_comm]
      by_cases hlt : k < s.length ∧ j < 3
      · obtain ⟨hkl, hjm⟩ := hlt
        have t9 : decide ((k : Int) < (s.length : Int)) = true := by rw [decide_eq_true_eq]; omega
        have t10 : decide ((k : Int) < 4) = true := by rw [decide_eq_true_eq]; omega
        have h255k := byte_lt s[k]
        have h000k : (0 : Int) ≤ (s[k].toNat : Int) := by omega
        have HC := fun W => Lib.hid (rdigit_any _ 8 h000k h255k (by omega) (by omega) W)
        have hn0 := digI_nn (s[k].toNat : Int)
        have hx0 := digI_le (s[k].toNat : Int)
        have HI : Hid (digI (s[k].toNat : Int) < 8 → digF 8 3 (s.drop 1) 0 = ((digF 8 (3 - (j + 1)) (s.drop (k + 1)) ((acc : Int) * 8 + digI (s[k].toNat : Int))).1, (digF 8 (3 - (j + 1)) (s.drop (k + 1)) ((acc : Int) * 8 + digI (s[k].toNat : Int))).2 + (j + 1))) := by
          intro hd
          rw [H.out, show 3 - j = (3 - (j + 1)) + 1 from by omega, digF_in 8 _ hkl hd]
          congr 1; omega
        have HO : Hid (¬ digI (s[k].toNat : Int) < 8 → digF 8 (3 - j) (s.drop k) (acc : Int) = ((acc : Int), 0)) := fun hd => digF_out 8 _ hkl hd
        generalize hdg : digI (s[k].toNat : Int) = d at *
        clear H hdg
        by_cases hd : d < 8
        · have HI2 := Lib.hid (HI.out hd)
          obtain ⟨dn, rfl⟩ : ∃ dn : Nat, d = dn := ⟨d.toNat, by omega⟩
          have HC2 := fun W => Lib.hid (HC W).out
          simp only [if_pos hd] at HC2
          have t11 : decide ((0 : Int) ≤ (dn : Int)) = true := by simp
          clear HI HO HC HEND hwr hone
          go_wp2_with (go_at_call 89; refine (HC2 _).out.mono ?_; rintro e w' ⟨rfl, rfl⟩)
          go_round
          case rel => exact ⟨k + 1, j + 1, acc * 8 + dn, by omega, by omega, by omega, by go_num, by go_num, by omega, by omega, by omega, by omega, by show _ = _; rw [HI2.out]; simp⟩
          case measure => simp [intOf]; omega
        · have HO2 := Lib.hid (HO.out hd)
          have HC2 := fun W => Lib.hid (HC W).out
          simp only [if_neg hd] at HC2
          have HE2 := Lib.hid (HEND.out HO2.out)
          clear HI HO HC HEND
          by_cases hj0 : j = 0
          · rw [if_pos hj0] at HE2
            have t12 : ((k : Int) == 1) = true := by rw [beq_iff_eq]; omega
            clear hwr hone
            go_wp2_with (go_at_call 89; refine (HC2 _).out.mono ?_; rintro e w' ⟨rfl, rfl⟩)
            go_ret2
            exact ⟨by rw [HU.out, HE2.out, ← HT.out]; rfl, Below.refl _ _⟩
          · rw [if_neg hj0] at HE2
            have t12 : ((k : Int) == 1) = false := by rw [beq_eq_false_iff_ne]; omega
            go_wp2_with (go_at_call 89; refine (HC2 _).out.mono ?_; rintro e w' ⟨rfl, rfl⟩)
            go_ret2
            exact ⟨by rw [HU.out, HE2.out, byteI_id]; rfl, (Below.refl _ _).alloc (Nat.le_refl _) _⟩
      · have HE2 := Lib.hid (HEND.out (digF_end 8 _ (by omega)))
        have hcond : (k < s.length ∧ decide ((k : Int) < (s.length : Int)) = true ∧ decide ((k : Int) < 4) = false) ∨ (decide ((k : Int) < (s.length : Int)) = false) := by
          by_cases hkl : k < s.length
          · left; exact ⟨hkl, by rw [decide_eq_true_eq]; omega, by rw [decide_eq_false_iff_not]; omega⟩
          · right; rw [decide_eq_false_iff_not]; omega
        clear HEND
        by_cases hj0 : j = 0
        · rw [if_pos hj0] at HE2
          have t12 : ((k : Int) == 1) = true := by rw [beq_iff_eq]; omega
          clear hwr hone
          rcases hcond with ⟨hkl, t9, t10⟩ | t9
          · go_wp2_with fail
            all_goals (go_ret2; exact ⟨by rw [HU.out, HE2.out, ← HT.out]; rfl, Below.refl _ _⟩)
          · go_wp2_with fail
            all_goals (go_ret2; exact ⟨by rw [HU.out, HE2.out, ← HT.out]; rfl, Below.refl _ _⟩)
        · rw [if_neg hj0] at HE2
          have t12 : ((k : Int) == 1) = false := by rw [beq_eq_false_iff_ne]; omega
          rcases hcond with ⟨hkl, t9, t10⟩ | t9
          · go_wp2_with fail
            all_goals (go_ret2; exact ⟨by rw [HU.out, HE2.out, byteI_id]; rfl, (Below.refl _ _).alloc (Nat.le_refl _) _⟩)
          · go_wp2_with fail
            all_goals (go_ret2; exact ⟨by rw [HU.out, HE2.out, byteI_id]; rfl, (Below.refl _ _).alloc (Nat.le_refl _) _⟩)
end Go.Proofs.YtpaffocniniakaaGreat
