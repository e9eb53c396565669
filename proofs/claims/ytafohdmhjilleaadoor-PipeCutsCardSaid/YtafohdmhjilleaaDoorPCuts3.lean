/- PipeCuts: the walk, by the ways in which the two slices may lie. Printed by mkPK.py. -/
import Derived.Test.YtafohdmhjilleaaDoorPCuts0
namespace Go.Proofs.YtafohdmhjilleaaDoor
set_option linter.unusedVariables false
set_option linter.unusedSimpArgs false
open Go.RowKit Go.Shelf
attribute [local go_sem] ba_append
set_option maxRecDepth 100000 in
set_option maxHeartbeats 3200000 in
theorem cuts_cel_nil (raw mode : Bs) (w : World) (hM : MaxIs w) (hm : isInM mode = true) (hs : raw.length ≤ 2000) (cb1 off1 n1 cap1 : Nat) (z1 : Nat → Int) (hnc1 : n1 ≤ cap1) (hcap1 : cap1 ≤ maxLen) (hcb1 : cb1 < w.heap.size) (hcell1 : ∀ i, i < n1 → w.cell? ⟨cb1, off1 + i, none⟩ = some (.int .u8 (z1 i))) (hby1 : ∀ i, i < n1 → 0 ≤ z1 i ∧ z1 i ≤ 255) :
    Calls Tryd.prog 4 #[.string ⟨raw.toArray⟩, .string ⟨mode.toArray⟩, .slice (some ⟨cb1, off1, none⟩) n1 cap1, .slice none 0 0] w fun e w' => e = .returned (.bool true) ∧ Below w.heap.size w w' := by
  have MM : Hid (∀ W, MaxIs W → Calls Tryd.prog 16 #[.string ⟨mode.toArray⟩, .string ⟨#[108, 102]⟩, .int .i64 10] W fun e w' => ∃ b, e = .returned (.pointer (some ⟨b, 0, none⟩)) ∧ At1 W b (madeP mode lfM) w') := fun W hW => made_at mode lfM hm rfl W hW
  have hN := fun W b => ptr_nil W b
  have HM := Lib.hid hm
  have H0 := Lib.hid hM
  have HP := Lib.hid (Fd.new mode lfM)
  have HQ := Lib.hid (Fd.new mode lfM)
  clear hm hM
  unfold maxLen at hcap1
  obtain ⟨L1, hL1⟩ : ∃ L : Nat, L = min n1 60 := ⟨_, rfl⟩
  have hLn1 : L1 ≤ n1 := by omega
  have hLs1 : L1 ≤ 60 := by omega
  have hmn1 : min (n1 : Int) 60 = (L1 : Int) := by omega
  have hmx1 : max (L1 : Int) 0 = (L1 : Int) := by omega
  have hLc1 : (L1 : Int) ≤ (cap1 : Int) := by omega
  have hLz1 : (0 : Int) ≤ (L1 : Int) := by omega
  clear hL1
  go_enter Tryd.func4, Tryd.ntmps4
  go_wp2_with (first | (go_at_call 16; refine (MM.out _ H0.out).mono ?_; rintro e w1 ⟨b1, rfl, h1⟩; have H1 := Lib.hid h1; clear h1 H0) | (go_at_call 16; refine (MM.out _ H1.out.max).mono ?_; rintro e w2 ⟨b2, rfl, h2⟩; have HA := Lib.hid (At2.of H1.out h2); clear h2 H1))
  generalize madeP mode lfM = pm at *
  go_loopw [11, 57] (fun v11 v57 wr => CutR1 w b1 b2 pm mode raw L1 v11 v57 wr) (fun _ v57 _ => L1 - (intOf v57).toNat)
  case atStart => exact ⟨0, [], raw, _, Nat.zero_le _, rfl, rfl, rfl, HA.out, HP.out⟩
  case round =>
    clear HA HP MM
    obtain ⟨i, t, r, p, hi, rfl, rfl, hts, hA, hP⟩ := hrel
    have hln : t.length + r.length = raw.length := by rw [← hts]; simp
    have HS := Lib.hid hts
    have HA := Lib.hid hA
    have HP := Lib.hid hP
    clear hts hA hP
    by_cases hlt : i < L1
    · obtain ⟨c, hc⟩ : ∃ c, c = z1 i := ⟨_, rfl⟩
      have hc1 := hby1 i (by omega)
      have hcc := (HA.out.below.cell (p := ⟨cb1, off1 + i, none⟩) hcb1).trans (hcell1 i (by omega))
      rw [← hc] at hc1 hcc
      obtain ⟨hc0, hc9⟩ := hc1
      obtain ⟨k, hk⟩ : ∃ k : Nat, (k : Int) = min c (r.length : Int) := ⟨(min c (r.length : Int)).toNat, by omega⟩
      have hkr : k ≤ r.length := by omega
      have hkI : (k : Int) ≤ (r.length : Int) := by omega
      have hk0 : (0 : Int) ≤ (k : Int) := by omega
      have hkm : min c (r.length : Int) = (k : Int) := hk.symm
      have hltk : (r.take k).length = k := by simp; omega
      clear hc hk hcell1 hby1
      go_wp2_with (go_at_call_of 17 (Value.pointer (some ⟨b1, 0, none⟩)); refine (feed_1 HA.out HP.out _ (by omega) (by omega)).mono ?_; rintro e w3 ⟨rfl, p3, ha3, hp3⟩; replace HA := Lib.hid ha3; replace HP := Lib.hid hp3; clear ha3 hp3)
      go_roundw
      case rel => exact ⟨i + 1, t ++ r.take k, r.drop k, _, by omega, by go_num, rfl, take_more' HS.out k, HA.out, HP.out⟩
      case measure => simp [intOf]; omega
    · obtain rfl : i = L1 := by omega
      clear hcell1 hby1
      go_wp2_with (first | (go_at_call_of 17 (Value.pointer (some ⟨b1, 0, none⟩)); refine (feed_1 HA.out HP.out _ (by omega) (by omega)).mono ?_; rintro e w3 ⟨rfl, p3, ha3, hp3⟩; replace HA := Lib.hid ha3; replace HP := Lib.hid hp3; clear ha3 hp3) | (go_at_call_of 17 (Value.pointer (some ⟨b2, 0, none⟩)); refine (feed_2 HA.out HQ.out _ (by omega) (by simp)).mono ?_; rintro e w3 ⟨rfl, q3, ha3, hq3⟩; replace HA := Lib.hid ha3; replace HQ := Lib.hid hq3; clear ha3 hq3) | (go_at_call_of 18 (Value.pointer (some ⟨b1, 0, none⟩)); refine (close_1 HA.out HP.out).mono ?_; rintro e w3 ⟨rfl, p3, ha3, hp3⟩; replace HA := Lib.hid ha3; replace HP := Lib.hid hp3; clear ha3 hp3) | (go_at_call_of 18 (Value.pointer (some ⟨b2, 0, none⟩)); refine (close_2 HA.out HQ.out).mono ?_; rintro e w3 ⟨rfl, q3, ha3, hq3⟩; replace HA := Lib.hid ha3; replace HQ := Lib.hid hq3; clear ha3 hq3))
      rw [HS.out] at HP
      rw [List.nil_append] at HQ
      go_loopw [15, 102] (fun v15 v102 wr => CutR2 w b1 b2 mode raw 0 v15 v102 wr) (fun _ v102 _ => 0 - (intOf v102).toNat)
      case atStart => exact ⟨0, [], _, _, Nat.zero_le _, rfl, rfl, HA.out, HP.out, HQ.out⟩
      case round =>
        clear HA HP HQ
        obtain ⟨i2, s2, p2, q2, hi2, rfl, rfl, hA, hP, hQ⟩ := hrel
        have HA := Lib.hid hA
        have HP := Lib.hid hP
        have HQ := Lib.hid hQ
        clear hA hP hQ
        obtain rfl : i2 = 0 := by omega
        go_wp2_with (first | (go_at_call_of 19 (Value.pointer (some ⟨b1, 0, none⟩)); refine (rest_1 HA.out HP.out HM.out (by omega)).mono ?_; rintro e w3 ⟨tt, p3, rfl, ha3, ht3, he3⟩; replace HA := Lib.hid ha3; have HE := Lib.hid he3; have hl5 := all_room ht3 (by omega); clear ha3 he3 HP) | (go_at_call_of 19 (Value.pointer (some ⟨b2, 0, none⟩)); refine (rest_2 HA.out HQ.out HM.out (by omega)).mono ?_; rintro e w3 ⟨q3, rfl, ha3, _⟩; replace HA := Lib.hid ha3; clear ha3 HQ) | (go_at_call 20; refine (In_yes raw mode true HM.out (by omega) _).mono ?_; rintro e w4 ⟨rfl, hb4⟩; replace HA := Lib.hid (HA.out.more hb4); clear hb4) | (go_at_call 21; refine (eof_1 HA.out HE.out).mono ?_; rintro e w5 ⟨rfl, rfl⟩) | (go_at_call 10; refine (awake_any _ HA.out.max).mono ?_; rintro e w7 ⟨rfl, hb7⟩; have HZ := Lib.hid (HA.out.below.trans (hb7.mono HA.out.below.size)); clear hb7))
        go_ret
        exact ⟨rfl, HZ.out⟩
set_option maxRecDepth 100000 in
set_option maxHeartbeats 3200000 in
theorem cuts_cel_emp (raw mode : Bs) (w : World) (hM : MaxIs w) (hm : isInM mode = true) (hs : raw.length ≤ 2000) (cb1 off1 n1 cap1 : Nat) (z1 : Nat → Int) (hnc1 : n1 ≤ cap1) (hcap1 : cap1 ≤ maxLen) (hcb1 : cb1 < w.heap.size) (hcell1 : ∀ i, i < n1 → w.cell? ⟨cb1, off1 + i, none⟩ = some (.int .u8 (z1 i))) (hby1 : ∀ i, i < n1 → 0 ≤ z1 i ∧ z1 i ≤ 255) (a2 : Addr) (cap2 : Nat) (hcap2 : cap2 ≤ maxLen) :
    Calls Tryd.prog 4 #[.string ⟨raw.toArray⟩, .string ⟨mode.toArray⟩, .slice (some ⟨cb1, off1, none⟩) n1 cap1, .slice (some a2) 0 cap2] w fun e w' => e = .returned (.bool true) ∧ Below w.heap.size w w' := by
  have MM : Hid (∀ W, MaxIs W → Calls Tryd.prog 16 #[.string ⟨mode.toArray⟩, .string ⟨#[108, 102]⟩, .int .i64 10] W fun e w' => ∃ b, e = .returned (.pointer (some ⟨b, 0, none⟩)) ∧ At1 W b (madeP mode lfM) w') := fun W hW => made_at mode lfM hm rfl W hW
  have hN := fun W b => ptr_nil W b
  have HM := Lib.hid hm
  have H0 := Lib.hid hM
  have HP := Lib.hid (Fd.new mode lfM)
  have HQ := Lib.hid (Fd.new mode lfM)
  clear hm hM
  unfold maxLen at hcap1
  obtain ⟨L1, hL1⟩ : ∃ L : Nat, L = min n1 60 := ⟨_, rfl⟩
  have hLn1 : L1 ≤ n1 := by omega
  have hLs1 : L1 ≤ 60 := by omega
  have hmn1 : min (n1 : Int) 60 = (L1 : Int) := by omega
  have hmx1 : max (L1 : Int) 0 = (L1 : Int) := by omega
  have hLc1 : (L1 : Int) ≤ (cap1 : Int) := by omega
  have hLz1 : (0 : Int) ≤ (L1 : Int) := by omega
  clear hL1
  unfold maxLen at hcap2
  go_enter Tryd.func4, Tryd.ntmps4
  go_wp2_with (first | (go_at_call 16; refine (MM.out _ H0.out).mono ?_; rintro e w1 ⟨b1, rfl, h1⟩; have H1 := Lib.hid h1; clear h1 H0) | (go_at_call 16; refine (MM.out _ H1.out.max).mono ?_; rintro e w2 ⟨b2, rfl, h2⟩; have HA := Lib.hid (At2.of H1.out h2); clear h2 H1))
  generalize madeP mode lfM = pm at *
  go_loopw [11, 57] (fun v11 v57 wr => CutR1 w b1 b2 pm mode raw L1 v11 v57 wr) (fun _ v57 _ => L1 - (intOf v57).toNat)
  case atStart => exact ⟨0, [], raw, _, Nat.zero_le _, rfl, rfl, rfl, HA.out, HP.out⟩
  case round =>
    clear HA HP MM
    obtain ⟨i, t, r, p, hi, rfl, rfl, hts, hA, hP⟩ := hrel
    have hln : t.length + r.length = raw.length := by rw [← hts]; simp
    have HS := Lib.hid hts
    have HA := Lib.hid hA
    have HP := Lib.hid hP
    clear hts hA hP
    by_cases hlt : i < L1
    · obtain ⟨c, hc⟩ : ∃ c, c = z1 i := ⟨_, rfl⟩
      have hc1 := hby1 i (by omega)
      have hcc := (HA.out.below.cell (p := ⟨cb1, off1 + i, none⟩) hcb1).trans (hcell1 i (by omega))
      rw [← hc] at hc1 hcc
      obtain ⟨hc0, hc9⟩ := hc1
      obtain ⟨k, hk⟩ : ∃ k : Nat, (k : Int) = min c (r.length : Int) := ⟨(min c (r.length : Int)).toNat, by omega⟩
      have hkr : k ≤ r.length := by omega
      have hkI : (k : Int) ≤ (r.length : Int) := by omega
      have hk0 : (0 : Int) ≤ (k : Int) := by omega
      have hkm : min c (r.length : Int) = (k : Int) := hk.symm
      have hltk : (r.take k).length = k := by simp; omega
      clear hc hk hcell1 hby1
      go_wp2_with (go_at_call_of 17 (Value.pointer (some ⟨b1, 0, none⟩)); refine (feed_1 HA.out HP.out _ (by omega) (by omega)).mono ?_; rintro e w3 ⟨rfl, p3, ha3, hp3⟩; replace HA := Lib.hid ha3; replace HP := Lib.hid hp3; clear ha3 hp3)
      go_roundw
      case rel => exact ⟨i + 1, t ++ r.take k, r.drop k, _, by omega, by go_num, rfl, take_more' HS.out k, HA.out, HP.out⟩
      case measure => simp [intOf]; omega
    · obtain rfl : i = L1 := by omega
      clear hcell1 hby1
      go_wp2_with (first | (go_at_call_of 17 (Value.pointer (some ⟨b1, 0, none⟩)); refine (feed_1 HA.out HP.out _ (by omega) (by omega)).mono ?_; rintro e w3 ⟨rfl, p3, ha3, hp3⟩; replace HA := Lib.hid ha3; replace HP := Lib.hid hp3; clear ha3 hp3) | (go_at_call_of 17 (Value.pointer (some ⟨b2, 0, none⟩)); refine (feed_2 HA.out HQ.out _ (by omega) (by simp)).mono ?_; rintro e w3 ⟨rfl, q3, ha3, hq3⟩; replace HA := Lib.hid ha3; replace HQ := Lib.hid hq3; clear ha3 hq3) | (go_at_call_of 18 (Value.pointer (some ⟨b1, 0, none⟩)); refine (close_1 HA.out HP.out).mono ?_; rintro e w3 ⟨rfl, p3, ha3, hp3⟩; replace HA := Lib.hid ha3; replace HP := Lib.hid hp3; clear ha3 hp3) | (go_at_call_of 18 (Value.pointer (some ⟨b2, 0, none⟩)); refine (close_2 HA.out HQ.out).mono ?_; rintro e w3 ⟨rfl, q3, ha3, hq3⟩; replace HA := Lib.hid ha3; replace HQ := Lib.hid hq3; clear ha3 hq3))
      rw [HS.out] at HP
      rw [List.nil_append] at HQ
      go_loopw [15, 102] (fun v15 v102 wr => CutR2 w b1 b2 mode raw 0 v15 v102 wr) (fun _ v102 _ => 0 - (intOf v102).toNat)
      case atStart => exact ⟨0, [], _, _, Nat.zero_le _, rfl, rfl, HA.out, HP.out, HQ.out⟩
      case round =>
        clear HA HP HQ
        obtain ⟨i2, s2, p2, q2, hi2, rfl, rfl, hA, hP, hQ⟩ := hrel
        have HA := Lib.hid hA
        have HP := Lib.hid hP
        have HQ := Lib.hid hQ
        clear hA hP hQ
        obtain rfl : i2 = 0 := by omega
        go_wp2_with (first | (go_at_call_of 19 (Value.pointer (some ⟨b1, 0, none⟩)); refine (rest_1 HA.out HP.out HM.out (by omega)).mono ?_; rintro e w3 ⟨tt, p3, rfl, ha3, ht3, he3⟩; replace HA := Lib.hid ha3; have HE := Lib.hid he3; have hl5 := all_room ht3 (by omega); clear ha3 he3 HP) | (go_at_call_of 19 (Value.pointer (some ⟨b2, 0, none⟩)); refine (rest_2 HA.out HQ.out HM.out (by omega)).mono ?_; rintro e w3 ⟨q3, rfl, ha3, _⟩; replace HA := Lib.hid ha3; clear ha3 HQ) | (go_at_call 20; refine (In_yes raw mode true HM.out (by omega) _).mono ?_; rintro e w4 ⟨rfl, hb4⟩; replace HA := Lib.hid (HA.out.more hb4); clear hb4) | (go_at_call 21; refine (eof_1 HA.out HE.out).mono ?_; rintro e w5 ⟨rfl, rfl⟩) | (go_at_call 10; refine (awake_any _ HA.out.max).mono ?_; rintro e w7 ⟨rfl, hb7⟩; have HZ := Lib.hid (HA.out.below.trans (hb7.mono HA.out.below.size)); clear hb7))
        go_ret
        exact ⟨rfl, HZ.out⟩
set_option maxRecDepth 100000 in
set_option maxHeartbeats 3200000 in
theorem cuts_cel_cel (raw mode : Bs) (w : World) (hM : MaxIs w) (hm : isInM mode = true) (hs : raw.length ≤ 2000) (cb1 off1 n1 cap1 : Nat) (z1 : Nat → Int) (hnc1 : n1 ≤ cap1) (hcap1 : cap1 ≤ maxLen) (hcb1 : cb1 < w.heap.size) (hcell1 : ∀ i, i < n1 → w.cell? ⟨cb1, off1 + i, none⟩ = some (.int .u8 (z1 i))) (hby1 : ∀ i, i < n1 → 0 ≤ z1 i ∧ z1 i ≤ 255) (cb2 off2 n2 cap2 : Nat) (z2 : Nat → Int) (hnc2 : n2 ≤ cap2) (hcap2 : cap2 ≤ maxLen) (hcb2 : cb2 < w.heap.size) (hcell2 : ∀ i, i < n2 → w.cell? ⟨cb2, off2 + i, none⟩ = some (.int .u8 (z2 i))) (hby2 : ∀ i, i < n2 → 0 ≤ z2 i ∧ z2 i ≤ 255) :
    Calls Tryd.prog 4 #[.string ⟨raw.toArray⟩, .string ⟨mode.toArray⟩, .slice (some ⟨cb1, off1, none⟩) n1 cap1, .slice (some ⟨cb2, off2, none⟩) n2 cap2] w fun e w' => e = .returned (.bool true) ∧ Below w.heap.size w w' := by
  have MM : Hid (∀ W, MaxIs W → Calls Tryd.prog 16 #[.string ⟨mode.toArray⟩, .string ⟨#[108, 102]⟩, .int .i64 10] W fun e w' => ∃ b, e = .returned (.pointer (some ⟨b, 0, none⟩)) ∧ At1 W b (madeP mode lfM) w') := fun W hW => made_at mode lfM hm rfl W hW
  have hN := fun W b => ptr_nil W b
  have HM := Lib.hid hm
  have H0 := Lib.hid hM
  have HP := Lib.hid (Fd.new mode lfM)
  have HQ := Lib.hid (Fd.new mode lfM)
  clear hm hM
  unfold maxLen at hcap1
  obtain ⟨L1, hL1⟩ : ∃ L : Nat, L = min n1 60 := ⟨_, rfl⟩
  have hLn1 : L1 ≤ n1 := by omega
  have hLs1 : L1 ≤ 60 := by omega
  have hmn1 : min (n1 : Int) 60 = (L1 : Int) := by omega
  have hmx1 : max (L1 : Int) 0 = (L1 : Int) := by omega
  have hLc1 : (L1 : Int) ≤ (cap1 : Int) := by omega
  have hLz1 : (0 : Int) ≤ (L1 : Int) := by omega
  clear hL1
  unfold maxLen at hcap2
  obtain ⟨L2, hL2⟩ : ∃ L : Nat, L = min n2 60 := ⟨_, rfl⟩
  have hLn2 : L2 ≤ n2 := by omega
  have hLs2 : L2 ≤ 60 := by omega
  have hmn2 : min (n2 : Int) 60 = (L2 : Int) := by omega
  have hmx2 : max (L2 : Int) 0 = (L2 : Int) := by omega
  have hLc2 : (L2 : Int) ≤ (cap2 : Int) := by omega
  have hLz2 : (0 : Int) ≤ (L2 : Int) := by omega
  clear hL2
  go_enter Tryd.func4, Tryd.ntmps4
  go_wp2_with (first | (go_at_call 16; refine (MM.out _ H0.out).mono ?_; rintro e w1 ⟨b1, rfl, h1⟩; have H1 := Lib.hid h1; clear h1 H0) | (go_at_call 16; refine (MM.out _ H1.out.max).mono ?_; rintro e w2 ⟨b2, rfl, h2⟩; have HA := Lib.hid (At2.of H1.out h2); clear h2 H1))
  generalize madeP mode lfM = pm at *
  go_loopw [11, 57] (fun v11 v57 wr => CutR1 w b1 b2 pm mode raw L1 v11 v57 wr) (fun _ v57 _ => L1 - (intOf v57).toNat)
  case atStart => exact ⟨0, [], raw, _, Nat.zero_le _, rfl, rfl, rfl, HA.out, HP.out⟩
  case round =>
    clear HA HP MM
    obtain ⟨i, t, r, p, hi, rfl, rfl, hts, hA, hP⟩ := hrel
    have hln : t.length + r.length = raw.length := by rw [← hts]; simp
    have HS := Lib.hid hts
    have HA := Lib.hid hA
    have HP := Lib.hid hP
    clear hts hA hP
    by_cases hlt : i < L1
    · obtain ⟨c, hc⟩ : ∃ c, c = z1 i := ⟨_, rfl⟩
      have hc1 := hby1 i (by omega)
      have hcc := (HA.out.below.cell (p := ⟨cb1, off1 + i, none⟩) hcb1).trans (hcell1 i (by omega))
      rw [← hc] at hc1 hcc
      obtain ⟨hc0, hc9⟩ := hc1
      obtain ⟨k, hk⟩ : ∃ k : Nat, (k : Int) = min c (r.length : Int) := ⟨(min c (r.length : Int)).toNat, by omega⟩
      have hkr : k ≤ r.length := by omega
      have hkI : (k : Int) ≤ (r.length : Int) := by omega
      have hk0 : (0 : Int) ≤ (k : Int) := by omega
      have hkm : min c (r.length : Int) = (k : Int) := hk.symm
      have hltk : (r.take k).length = k := by simp; omega
      clear hc hk hcell1 hby1 hcell2 hby2
      go_wp2_with (go_at_call_of 17 (Value.pointer (some ⟨b1, 0, none⟩)); refine (feed_1 HA.out HP.out _ (by omega) (by omega)).mono ?_; rintro e w3 ⟨rfl, p3, ha3, hp3⟩; replace HA := Lib.hid ha3; replace HP := Lib.hid hp3; clear ha3 hp3)
      go_roundw
      case rel => exact ⟨i + 1, t ++ r.take k, r.drop k, _, by omega, by go_num, rfl, take_more' HS.out k, HA.out, HP.out⟩
      case measure => simp [intOf]; omega
    · obtain rfl : i = L1 := by omega
      clear hcell1 hby1
      go_wp2_with (first | (go_at_call_of 17 (Value.pointer (some ⟨b1, 0, none⟩)); refine (feed_1 HA.out HP.out _ (by omega) (by omega)).mono ?_; rintro e w3 ⟨rfl, p3, ha3, hp3⟩; replace HA := Lib.hid ha3; replace HP := Lib.hid hp3; clear ha3 hp3) | (go_at_call_of 17 (Value.pointer (some ⟨b2, 0, none⟩)); refine (feed_2 HA.out HQ.out _ (by omega) (by simp)).mono ?_; rintro e w3 ⟨rfl, q3, ha3, hq3⟩; replace HA := Lib.hid ha3; replace HQ := Lib.hid hq3; clear ha3 hq3) | (go_at_call_of 18 (Value.pointer (some ⟨b1, 0, none⟩)); refine (close_1 HA.out HP.out).mono ?_; rintro e w3 ⟨rfl, p3, ha3, hp3⟩; replace HA := Lib.hid ha3; replace HP := Lib.hid hp3; clear ha3 hp3) | (go_at_call_of 18 (Value.pointer (some ⟨b2, 0, none⟩)); refine (close_2 HA.out HQ.out).mono ?_; rintro e w3 ⟨rfl, q3, ha3, hq3⟩; replace HA := Lib.hid ha3; replace HQ := Lib.hid hq3; clear ha3 hq3))
      rw [HS.out] at HP
      rw [List.nil_append] at HQ
      go_loopw [15, 102] (fun v15 v102 wr => CutR2 w b1 b2 mode raw L2 v15 v102 wr) (fun _ v102 _ => L2 - (intOf v102).toNat)
      case atStart => exact ⟨0, [], _, _, Nat.zero_le _, rfl, rfl, HA.out, HP.out, HQ.out⟩
      case round =>
        clear HA HP HQ
        obtain ⟨i2, s2, p2, q2, hi2, rfl, rfl, hA, hP, hQ⟩ := hrel
        have HA := Lib.hid hA
        have HP := Lib.hid hP
        have HQ := Lib.hid hQ
        clear hA hP hQ
        by_cases hlt2 : i2 < L2
        · obtain ⟨c, hc⟩ : ∃ c, c = z2 i2 := ⟨_, rfl⟩
          have hc1 := hby2 i2 (by omega)
          have hcc := (HA.out.below.cell (p := ⟨cb2, off2 + i2, none⟩) hcb2).trans (hcell2 i2 (by omega))
          rw [← hc] at hc1 hcc
          obtain ⟨hc0, hc9⟩ := hc1
          clear hc hcell2 hby2
          go_wp2_with (go_at_call_of 19 (Value.pointer (some ⟨b1, 0, none⟩)); refine (read_1 HA.out HP.out HM.out (by omega) hc0).mono ?_; rintro e w3 ⟨tt, p3, rfl, ha3, hp3, hl3⟩; replace HA := Lib.hid ha3; replace HP := Lib.hid hp3; have hl4 : decide (c < (tt.length : Int)) = false := (by simp <;> omega); have hl5 := hp3.room (by omega); clear ha3 hp3 hl3)
          go_roundw
          case rel => exact ⟨i2 + 1, s2 ++ tt, _, _, by omega, by go_num, rfl, HA.out, HP.out, HQ.out⟩
          case measure => simp [intOf]; omega
        · obtain rfl : i2 = L2 := by omega
          clear hcell2 hby2
          go_wp2_with (first | (go_at_call_of 19 (Value.pointer (some ⟨b1, 0, none⟩)); refine (rest_1 HA.out HP.out HM.out (by omega)).mono ?_; rintro e w3 ⟨tt, p3, rfl, ha3, ht3, he3⟩; replace HA := Lib.hid ha3; have HE := Lib.hid he3; have hl5 := all_room ht3 (by omega); clear ha3 he3 HP) | (go_at_call_of 19 (Value.pointer (some ⟨b2, 0, none⟩)); refine (rest_2 HA.out HQ.out HM.out (by omega)).mono ?_; rintro e w3 ⟨q3, rfl, ha3, _⟩; replace HA := Lib.hid ha3; clear ha3 HQ) | (go_at_call 20; refine (In_yes raw mode true HM.out (by omega) _).mono ?_; rintro e w4 ⟨rfl, hb4⟩; replace HA := Lib.hid (HA.out.more hb4); clear hb4) | (go_at_call 21; refine (eof_1 HA.out HE.out).mono ?_; rintro e w5 ⟨rfl, rfl⟩) | (go_at_call 10; refine (awake_any _ HA.out.max).mono ?_; rintro e w7 ⟨rfl, hb7⟩; have HZ := Lib.hid (HA.out.below.trans (hb7.mono HA.out.below.size)); clear hb7))
          go_ret
          exact ⟨rfl, HZ.out⟩
end Go.Proofs.YtafohdmhjilleaaDoor
