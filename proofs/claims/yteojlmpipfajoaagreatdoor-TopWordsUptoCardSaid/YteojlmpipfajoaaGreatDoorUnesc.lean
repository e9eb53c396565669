/- 'digit', 'digits' and 'Unescape' of both packages. -/
import Derived.Test.YteojlmpipfajoaaGreatDoorShelf
import Derived.Test.YteojlmpipfajoaaGreatDoorLeaf
import Derived.Test.YteojlmpipfajoaaGreatDoorHeap
import Derived.Test.YteojlmpipfajoaaGreatDoorFind
import Derived.Test.YteojlmpipfajoaaGreatDoorFormP
namespace Go.Proofs.YteojlmpipfajoaaGreatDoor
set_option linter.unusedVariables false
set_option linter.unusedSimpArgs false
open Go.RowKit

set_option maxHeartbeats 400000 in
theorem digit_any (c : Int) (h0 : 0 ≤ c) (h1 : c ≤ 255) (w : World) :
    Calls Tryz.prog 113 #[.int .u8 c] w fun e w' => e = .returned (.int .i64 (digI c)) ∧ w = w' := by
  have hl : 0 ≤ lowI c ∧ lowI c ≤ 255 := by unfold lowI; split <;> omega
  have HL := Lib.hid (lower_any c h0 h1 w)
  have HD : Hid (digI c = if 48 ≤ lowI c ∧ lowI c ≤ 57 then lowI c - 48 else if 97 ≤ lowI c ∧ lowI c ≤ 102 then lowI c - 87 else 16) := rfl
  generalize lowI c = d at *
  obtain ⟨hd0, hd1⟩ := hl
  go_enter Tryz.func113, Tryz.ntmps113
  go_wp2_with (first | (go_at_call 116; refine HL.out.mono ?_; rintro e w' ⟨rfl, rfl⟩) | (go_at_call 117; refine (decimal_any _ hd0 hd1 _).mono ?_; rintro e w' ⟨rfl, rfl⟩))
  all_goals (go_ret; exact ⟨ret_int (by rw [HD.out]; split <;> (try split) <;> simp_all [decI] <;> omega), rfl⟩)

set_option maxRecDepth 100000 in
set_option maxHeartbeats 1600000 in
theorem digits_any (s : Bs) (b : Int) (most : Nat) (hs : s.length ≤ 1000000) (hb : b = 8 ∨ b = 16) (hm : most ≤ 3) (w : World) :
    Calls Tryz.prog 106 #[.string ⟨s.toArray⟩, .int .i64 b, .int .i64 most] w fun e w' => e = .returned (.tuple #[.int .u8 ((byteI (digF b most s 0).1).toNat), .int .i64 ((digF b most s 0).2 : Int)]) ∧ w = w' := by
  obtain ⟨m, hmm, hm1, hm2, hm3⟩ : ∃ m : Nat, min (most : Int) (s.length : Int) = m ∧ m ≤ most ∧ m ≤ s.length ∧ (m = most ∨ s.length ≤ m) := ⟨min most s.length, by omega, by omega, by omega, by omega⟩
  have hb1 : 8 ≤ b ∧ b ≤ 16 := by omega
  have HM := Lib.hid hm3
  clear hm3
  go_enter Tryz.func106, Tryz.ntmps106
  go_wp2_with fail
  go_loop [8, 9] (fun a n => ∃ (k : Nat) (acc : Int), k ≤ m ∧ a = .int .i64 acc ∧ n = .int .i64 k ∧ 0 ≤ acc ∧ acc < 4096 ∧ (k = 2 → acc < 256) ∧ (k = 1 → acc < 16) ∧ (k = 0 → acc = 0) ∧ Hid (digF b most s 0 = ((digF b (most - k) (s.drop k) acc).1, (digF b (most - k) (s.drop k) acc).2 + k))) (fun _ n => m - (intOf n).toNat)
  case atStart => exact ⟨0, 0, Nat.zero_le _, rfl, rfl, by omega, by omega, by omega, by omega, by omega, by simp [Hid]⟩
  case round =>
    obtain ⟨k, acc, hk, rfl, rfl, ha0, ha1, ha2, ha3, ha4, H⟩ := hrel
    by_cases hkm : k < m
    · have hks : k < s.length := by omega
      have t1 : decide ((k : Int) < (m : Int)) = true := by rw [decide_eq_true_eq]; omega
      have h255 := byte_lt s[k]
      have h000 : (0 : Int) ≤ (s[k].toNat : Int) := by omega
      have HC := fun W => Lib.hid (digit_any _ h000 h255 W)
      have hn := digI_nn (s[k].toNat : Int)
      have hx := digI_le (s[k].toNat : Int)
      have HI : Hid (digI (s[k].toNat : Int) < b → digF b most s 0 = ((digF b (most - (k + 1)) (s.drop (k + 1)) (acc * b + digI (s[k].toNat : Int))).1, (digF b (most - (k + 1)) (s.drop (k + 1)) (acc * b + digI (s[k].toNat : Int))).2 + (k + 1))) := by
        intro hd
        rw [H.out, show most - k = (most - (k + 1)) + 1 from by omega, digF_in b acc hks hd]
        congr 1; omega
      have HO : Hid (¬ digI (s[k].toNat : Int) < b → digF b most s 0 = (acc, k)) := by
        intro hd
        rw [H.out, digF_out b acc hks hd]; simp
      generalize digI (s[k].toNat : Int) = d at *
      clear H
      by_cases hd : d < b
      · have t2 : decide (d < b) = true := by simpa using hd
        have HI2 := Lib.hid (HI.out hd)
        have hk3 : k < 3 := by omega
        have hac : 0 ≤ acc * b + d ∧ acc * b + d < 4096 ∧ (k + 1 = 2 → acc * b + d < 256) ∧ (k + 1 = 1 → acc * b + d < 16) := by
          rcases hb with rfl | rfl <;> (refine ⟨?_, ?_, ?_, ?_⟩ <;> omega)
        have hac2 : 0 ≤ acc * b ∧ acc * b < 100000 := by rcases hb with rfl | rfl <;> omega
        obtain ⟨c1, c2, c3, c4⟩ := hac
        obtain ⟨c5, c6⟩ := hac2
        clear HI HO
        go_wp2_with (go_at_call 113; refine (HC _).out.mono ?_; rintro e w' ⟨rfl, rfl⟩)
        go_round
        case rel => exact ⟨k + 1, acc * b + d, by omega, by go_num, by go_num, c1, c2, c3, c4, by omega, HI2⟩
        case measure => simp [intOf]; omega
      · have t2 : decide (d < b) = false := by simpa using hd
        have HO2 := Lib.hid (HO.out hd)
        clear HI HO
        have hwr : IntKind.u8.wrap acc = ((byteI acc).toNat : Int) := by rw [byteI_toNat _ ha0]; rfl
        go_wp2_with (go_at_call 113; refine (HC _).out.mono ?_; rintro e w' ⟨rfl, rfl⟩)
        go_ret2
        exact ⟨by rw [HO2.out]; rfl, rfl⟩
    · have hkm' : k = m := by omega
      have t1 : decide ((k : Int) < (m : Int)) = false := by rw [decide_eq_false_iff_not]; omega
      have HE : Hid (digF b most s 0 = (acc, k)) := by
        show _ = _
        rw [H.out, digF_end b acc (by have := HM.out; omega)]; simp
      clear H
      have hwr : IntKind.u8.wrap acc = ((byteI acc).toNat : Int) := by rw [byteI_toNat _ ha0]; rfl
      go_wp2_with fail
      go_ret2
      exact ⟨by rw [HE.out, hkm']; rfl, rfl⟩

theorem index_esc (c : UInt8) : Lib.indexByte [97, 98, 116, 110, 118, 102, 114] c = escI c.toNat := by
  by_cases h1 : c = 97
  · subst h1; decide
  by_cases h2 : c = 98
  · subst h2; decide
  by_cases h3 : c = 116
  · subst h3; decide
  by_cases h4 : c = 110
  · subst h4; decide
  by_cases h5 : c = 118
  · subst h5; decide
  by_cases h6 : c = 102
  · subst h6; decide
  by_cases h7 : c = 114
  · subst h7; decide
  have hh : ∀ x : UInt8, c ≠ x → (x == c) = false := fun x h => beq_eq_false_iff_ne.2 (Ne.symm h)
  have hn : ∀ (x : UInt8) (y : Int), (x.toNat : Int) = y → c ≠ x → ¬ ((c.toNat : Int) = y) := fun x y hy h e => h (byte_inj (by omega))
  have e1 := hn 97 97 rfl h1
  have e2 := hn 98 98 rfl h2
  have e3 := hn 116 116 rfl h3
  have e4 := hn 110 110 rfl h4
  have e5 := hn 118 118 rfl h5
  have e6 := hn 102 102 rfl h6
  have e7 := hn 114 114 rfl h7
  simp only [Lib.indexByte, hh _ h1, hh _ h2, hh _ h3, hh _ h4, hh _ h5, hh _ h6, hh _ h7]
  unfold escI
  rw [if_neg e1, if_neg e2, if_neg e3, if_neg e4, if_neg e5, if_neg e6, if_neg e7]
  rfl

theorem byteI_id (b : UInt8) : byteI (b.toNat : Int) = b := byte_inj (by have h := byteI_toNat (b.toNat : Int) (by omega); have := byte_lt b; omega)

/-- 'string([]byte{x})'. -/
theorem one_byte (x : Int) (h0 : 0 ≤ x) (h1 : x ≤ 255) (t : TypeId) (W : World) : (convert 52 9 (.slice (some ⟨W.heap.size, 0, none⟩) 1 1)).run Tryz.prog (W.alloc (.cells #[.int .u8 x] t)) = .ok (.string ⟨[byteI x].toArray⟩) (W.alloc (.cells #[.int .u8 x] t)) := by
  refine run_back (P := Tryz.prog) 52 9 5 Tryz.underlying52 Tryz.underlying5 Tryz.underlying9 (n := 1) (l := [byteI x]) ?_ rfl
  have hx : ((byteI x).toNat : Int) = x := by rw [byteI_toNat _ h0]; omega
  intro j hj
  have hb := heap_alloc_new W (.cells #[.int .u8 x] t)
  obtain rfl : j = 0 := by simpa using hj
  constructor
  · simp only [World.cell?, hb, List.getElem_cons_zero, hx]; rfl
  · simp only [World.frozen?, hb]; rfl

theorem unesc_no {s : Bs} (hl : 0 < s.length) (hc : ¬ (s[0].toNat : Int) = 92) : unesc s = ([], 0) := by
  unfold unesc
  split
  · rw [if_neg (by omega)]
  · rw [if_neg (by intro e; subst e; exact hc rfl)]
theorem unesc_one {s : Bs} (hl : 0 < s.length) (hc : (s[0].toNat : Int) = 92) (h1 : s.length = 1) : unesc s = (s, 1) := by
  unfold unesc
  rw [dif_neg (by omega), if_pos]
  obtain ⟨c, rfl⟩ := List.length_eq_one_iff.1 h1
  have : c = 92 := byte_inj (by simpa using (by simpa using hc : (c.toNat : Int) = 92) |> fun h : (c.toNat : Int) = 92 => (by show c.toNat = 92; omega))
  rw [this]
theorem unesc_two {s : Bs} (hl : 1 < s.length) (hc : (s[0].toNat : Int) = 92) : unesc s = unesc1 s[1] s := by
  unfold unesc
  rw [dif_pos hl, if_pos (by omega)]

theorem unesc1_esc {d : UInt8} {s : Bs} (h : (0 : Int) ≤ escI (d.toNat : Int)) : unesc1 d s = ([byteI ((7 : Int) + escI (d.toNat : Int))], 2) := by
  unfold unesc1; rw [if_pos h]
theorem escI_120 : escI 120 = -1 := by decide
theorem escI_10 : escI 10 = -1 := by decide
theorem oct_out {s : Bs} (h1 : 1 < s.length) (hd : ¬ digI (s[1].toNat : Int) < 8) : digF 8 3 (s.drop 1) 0 = (0, 0) := digF_out 8 0 h1 hd
theorem unesc1_hex {s : Bs} (h1 : 1 < s.length) (hd : s[1].toNat = 120) (hk : 0 < (digF 16 2 (s.drop 2) 0).2) : unesc1 s[1] s = ([byteI (digF 16 2 (s.drop 2) 0).1], 2 + (digF 16 2 (s.drop 2) 0).2) := by
  unfold unesc1
  rw [hd, if_neg (by decide), if_pos ⟨rfl, hk⟩]
theorem unesc1_x {s : Bs} (h1 : 1 < s.length) (hd : s[1].toNat = 120) (hk : ¬ 0 < (digF 16 2 (s.drop 2) 0).2) : unesc1 s[1] s = ([s[1]], 2) := by
  unfold unesc1
  rw [oct_out h1 (by rw [hd]; decide), hd, if_neg (by decide), if_neg (fun h => hk h.2), if_neg (by decide), if_neg (by decide)]
theorem unesc1_oct {s : Bs} (h1 : 1 < s.length) (he : ¬ (0 : Int) ≤ escI (s[1].toNat : Int)) (hd : ¬ s[1].toNat = 120) (hk : 0 < (digF 8 3 (s.drop 1) 0).2) : unesc1 s[1] s = ([byteI (digF 8 3 (s.drop 1) 0).1], 1 + (digF 8 3 (s.drop 1) 0).2) := by
  unfold unesc1
  rw [if_neg he, if_neg (fun h => hd h.1), if_pos hk]
theorem unesc1_nl {s : Bs} (h1 : 1 < s.length) (hd : s[1].toNat = 10) : unesc1 s[1] s = ([32], 2 + ((s.drop 2).takeWhile isBl).length) := by
  unfold unesc1
  rw [oct_out h1 (by rw [hd]; decide), hd, if_neg (by decide), if_neg (fun h => by omega), if_neg (by decide), if_pos rfl]
theorem unesc1_else {s : Bs} (h1 : 1 < s.length) (he : ¬ (0 : Int) ≤ escI (s[1].toNat : Int)) (hd : ¬ s[1].toNat = 120) (hk : ¬ 0 < (digF 8 3 (s.drop 1) 0).2) (hn : ¬ s[1].toNat = 10) : unesc1 s[1] s = ([s[1]], 2) := by
  unfold unesc1
  rw [if_neg he, if_neg (fun h => hd h.1), if_neg hk, if_neg hn]

theorem take_one {s : Bs} (h1 : 1 < s.length) : (s.tail).take 1 = [s[1]] := by
  rw [← List.drop_one, List.drop_eq_getElem_cons h1]; rfl
theorem tail_all (s : Bs) : s.tail.take (s.length - 1) = s.drop 1 := by rw [List.drop_one, List.take_of_length_le (by simp)]

theorem tw_in {s : Bs} {k : Nat} (h : k < s.length) (hc : isBl s[k] = true) : ((s.drop k).takeWhile isBl).length = ((s.drop (k + 1)).takeWhile isBl).length + 1 := by
  rw [List.drop_eq_getElem_cons h, List.takeWhile_cons, if_pos hc]; rfl
theorem tw_out {s : Bs} {k : Nat} (h : k < s.length) (hc : isBl s[k] = false) : ((s.drop k).takeWhile isBl).length = 0 := by
  rw [List.drop_eq_getElem_cons h, List.takeWhile_cons, if_neg (by simp [hc])]; rfl

end Go.Proofs.YteojlmpipfajoaaGreatDoor
