/- PipeGoes: the walk of its loop, for the three ways in which the cuts may lie. Printed by mkPG.py. -/
import Derived.Test.YtafohdmhjilleaaDoorPGoesW
namespace Go.Proofs.YtafohdmhjilleaaDoor
set_option linter.unusedVariables false
set_option linter.unusedSimpArgs false
open Go.RowKit Go.Shelf

/-- What holds at the loop's head. -/
def GoesR (w : World) (out buf s : Bs) (L : Nat) (v13 v48 : Value) (wr : World) : Prop := ∃ (i : Nat) (t r : Bs) (q : PP), i ≤ L ∧ v48 = .int .i64 (i : Int) ∧ v13 = .string ⟨r.toArray⟩ ∧ t ++ r = s ∧ At1 w w.heap.size q wr ∧ PInv out buf q t
theorem take_more {t r s : Bs} (h : t ++ r = s) (k : Nat) : (t ++ r.take k) ++ r.drop k = s := by rw [List.append_assoc, List.take_append_drop]; exact h
set_option maxRecDepth 100000 in
set_option maxHeartbeats 3200000 in
theorem goes_nil (s out buf : Bs) (size : Int) (w : World) (hM : MaxIs w) (h1 : isOutM out = true) (h2 : isBufM buf = true) (h3 : 1 ≤ size) (h4 : size ≤ 1000000) (hs : s.length ≤ 2000) :
    Calls Tryd.prog 3 #[.string ⟨s.toArray⟩, .string ⟨out.toArray⟩, .string ⟨buf.toArray⟩, .int .i64 size, .slice none 0 0] w fun e w' => e = .returned (.bool true) ∧ Below w.heap.size w w' := by
  have A0 : Hid (Calls Tryd.prog 9 #[.string ⟨#[108, 102]⟩, .string ⟨out.toArray⟩, .string ⟨buf.toArray⟩, .int .i64 size] w fun e w' => e = .returned (.tuple #[.pointer (some ⟨w.heap.size, 0, none⟩), .int .i64 0]) ∧ At1 w w.heap.size (PP.new lfM out buf size) w') := (New_yes lfM out buf size rfl h1 h2 h3 h4 w).mono fun e w' ⟨h1, h2⟩ => ⟨h1, by rw [h2]; exact At1.new w hM _⟩
  have hN := fun W => ptr_nil W w.heap.size
  have HO := Lib.hid h1
  clear h1 h2 h3 h4 hM
  go_enter Tryd.func3, Tryd.ntmps3
  go_wp2_with (go_at_call 9; refine A0.out.mono ?_; rintro e w1 ⟨rfl, h1⟩; have H := Lib.hid h1; clear h1 A0)
  obtain ⟨wi, rfl⟩ : ∃ wi : World, wi = w1 := ⟨_, rfl⟩
  go_loopw [13, 48] (fun v13 v48 wr => GoesR w out buf s 0 v13 v48 wr) (fun _ v48 _ => 0 - (intOf v48).toNat)
  case atStart => exact ⟨0, [], s, _, Nat.zero_le _, rfl, rfl, rfl, H.out, PInv.new out buf size⟩
  case round =>
    obtain ⟨i, t, r, q, hi, rfl, rfl, hts, hA, hI⟩ := hrel
    have hln : t.length + r.length = s.length := by rw [← hts]; simp
    have HS := Lib.hid hts
    have HA := Lib.hid hA
    have HI := Lib.hid hI
    clear hts hA hI H
    obtain rfl : i = 0 := by omega
    go_wp2_with (first | (go_at_call 11; refine (goes_write HA.out HI.out HO.out (by omega) _ (by omega)).mono ?_; rintro e w2 ⟨rfl, q2, ha2, hi2⟩; replace HA := Lib.hid ha2; replace HI := Lib.hid hi2; clear ha2 hi2) | (go_at_call 13; refine (goes_flush HA.out HI.out (by rw [HS.out]; omega)).mono ?_; rintro e w3 ⟨rfl, q3, ha3, hg3, hb3⟩; rw [HS.out] at hg3; replace HA := Lib.hid ha3; have HG := Lib.hid (And.intro hg3 hb3); clear ha3 hg3 hb3) | (go_at_call 14; refine (Outward_yes s out HO.out (by omega) _ HA.out.max).mono ?_; rintro e w4 ⟨rfl, hb4⟩; replace HA := Lib.hid (HA.out.more hb4); clear hb4) | (go_at_call 15; refine (goes_out HA.out HG.out.1 HG.out.2).mono ?_; rintro e w5 ⟨rfl, q5, ha5, hb5⟩; replace HA := Lib.hid ha5; have HB := Lib.hid hb5; clear ha5 hb5) | (go_at_call 12; refine (goes_pending HA.out HB.out).mono ?_; rintro e w6 ⟨rfl, rfl⟩) | (go_at_call 10; refine (awake_any _ HA.out.max).mono ?_; rintro e w7 ⟨rfl, hb7⟩; have HE := Lib.hid (HA.out.below.trans (hb7.mono HA.out.below.size)); clear hb7))
    go_ret
    exact ⟨rfl, HE.out⟩
set_option maxRecDepth 100000 in
set_option maxHeartbeats 3200000 in
theorem goes_emp (s out buf : Bs) (size : Int) (w : World) (hM : MaxIs w) (h1 : isOutM out = true) (h2 : isBufM buf = true) (h3 : 1 ≤ size) (h4 : size ≤ 1000000) (hs : s.length ≤ 2000) (a : Addr) (cap : Nat) (hcap : cap ≤ maxLen) :
    Calls Tryd.prog 3 #[.string ⟨s.toArray⟩, .string ⟨out.toArray⟩, .string ⟨buf.toArray⟩, .int .i64 size, .slice (some a) 0 cap] w fun e w' => e = .returned (.bool true) ∧ Below w.heap.size w w' := by
  have A0 : Hid (Calls Tryd.prog 9 #[.string ⟨#[108, 102]⟩, .string ⟨out.toArray⟩, .string ⟨buf.toArray⟩, .int .i64 size] w fun e w' => e = .returned (.tuple #[.pointer (some ⟨w.heap.size, 0, none⟩), .int .i64 0]) ∧ At1 w w.heap.size (PP.new lfM out buf size) w') := (New_yes lfM out buf size rfl h1 h2 h3 h4 w).mono fun e w' ⟨h1, h2⟩ => ⟨h1, by rw [h2]; exact At1.new w hM _⟩
  have hN := fun W => ptr_nil W w.heap.size
  have HO := Lib.hid h1
  clear h1 h2 h3 h4 hM
  unfold maxLen at hcap
  go_enter Tryd.func3, Tryd.ntmps3
  go_wp2_with (go_at_call 9; refine A0.out.mono ?_; rintro e w1 ⟨rfl, h1⟩; have H := Lib.hid h1; clear h1 A0)
  obtain ⟨wi, rfl⟩ : ∃ wi : World, wi = w1 := ⟨_, rfl⟩
  go_loopw [13, 48] (fun v13 v48 wr => GoesR w out buf s 0 v13 v48 wr) (fun _ v48 _ => 0 - (intOf v48).toNat)
  case atStart => exact ⟨0, [], s, _, Nat.zero_le _, rfl, rfl, rfl, H.out, PInv.new out buf size⟩
  case round =>
    obtain ⟨i, t, r, q, hi, rfl, rfl, hts, hA, hI⟩ := hrel
    have hln : t.length + r.length = s.length := by rw [← hts]; simp
    have HS := Lib.hid hts
    have HA := Lib.hid hA
    have HI := Lib.hid hI
    clear hts hA hI H
    obtain rfl : i = 0 := by omega
    go_wp2_with (first | (go_at_call 11; refine (goes_write HA.out HI.out HO.out (by omega) _ (by omega)).mono ?_; rintro e w2 ⟨rfl, q2, ha2, hi2⟩; replace HA := Lib.hid ha2; replace HI := Lib.hid hi2; clear ha2 hi2) | (go_at_call 13; refine (goes_flush HA.out HI.out (by rw [HS.out]; omega)).mono ?_; rintro e w3 ⟨rfl, q3, ha3, hg3, hb3⟩; rw [HS.out] at hg3; replace HA := Lib.hid ha3; have HG := Lib.hid (And.intro hg3 hb3); clear ha3 hg3 hb3) | (go_at_call 14; refine (Outward_yes s out HO.out (by omega) _ HA.out.max).mono ?_; rintro e w4 ⟨rfl, hb4⟩; replace HA := Lib.hid (HA.out.more hb4); clear hb4) | (go_at_call 15; refine (goes_out HA.out HG.out.1 HG.out.2).mono ?_; rintro e w5 ⟨rfl, q5, ha5, hb5⟩; replace HA := Lib.hid ha5; have HB := Lib.hid hb5; clear ha5 hb5) | (go_at_call 12; refine (goes_pending HA.out HB.out).mono ?_; rintro e w6 ⟨rfl, rfl⟩) | (go_at_call 10; refine (awake_any _ HA.out.max).mono ?_; rintro e w7 ⟨rfl, hb7⟩; have HE := Lib.hid (HA.out.below.trans (hb7.mono HA.out.below.size)); clear hb7))
    go_ret
    exact ⟨rfl, HE.out⟩
set_option maxRecDepth 100000 in
set_option maxHeartbeats 3200000 in
theorem goes_cel (s out buf : Bs) (size : Int) (w : World) (hM : MaxIs w) (h1 : isOutM out = true) (h2 : isBufM buf = true) (h3 : 1 ≤ size) (h4 : size ≤ 1000000) (hs : s.length ≤ 2000) (cb off n cap : Nat) (z : Nat → Int) (hnc : n ≤ cap) (hcap : cap ≤ maxLen) (hcb : cb < w.heap.size) (hcell : ∀ i, i < n → w.cell? ⟨cb, off + i, none⟩ = some (.int .u8 (z i))) (hby : ∀ i, i < n → 0 ≤ z i ∧ z i ≤ 255) :
    Calls Tryd.prog 3 #[.string ⟨s.toArray⟩, .string ⟨out.toArray⟩, .string ⟨buf.toArray⟩, .int .i64 size, .slice (some ⟨cb, off, none⟩) n cap] w fun e w' => e = .returned (.bool true) ∧ Below w.heap.size w w' := by
  have A0 : Hid (Calls Tryd.prog 9 #[.string ⟨#[108, 102]⟩, .string ⟨out.toArray⟩, .string ⟨buf.toArray⟩, .int .i64 size] w fun e w' => e = .returned (.tuple #[.pointer (some ⟨w.heap.size, 0, none⟩), .int .i64 0]) ∧ At1 w w.heap.size (PP.new lfM out buf size) w') := (New_yes lfM out buf size rfl h1 h2 h3 h4 w).mono fun e w' ⟨h1, h2⟩ => ⟨h1, by rw [h2]; exact At1.new w hM _⟩
  have hN := fun W => ptr_nil W w.heap.size
  have HO := Lib.hid h1
  clear h1 h2 h3 h4 hM
  unfold maxLen at hcap
  obtain ⟨L, hL⟩ : ∃ L : Nat, L = min n 60 := ⟨_, rfl⟩
  have hLn : L ≤ n := by omega
  have hL60 : L ≤ 60 := by omega
  have hmn : min (n : Int) 60 = (L : Int) := by omega
  have hmx : max (L : Int) 0 = (L : Int) := by omega
  have hLc : (L : Int) ≤ (cap : Int) := by omega
  have hL0 : (0 : Int) ≤ (L : Int) := by omega
  clear hL
  go_enter Tryd.func3, Tryd.ntmps3
  go_wp2_with (go_at_call 9; refine A0.out.mono ?_; rintro e w1 ⟨rfl, h1⟩; have H := Lib.hid h1; clear h1 A0)
  obtain ⟨wi, rfl⟩ : ∃ wi : World, wi = w1 := ⟨_, rfl⟩
  go_loopw [13, 48] (fun v13 v48 wr => GoesR w out buf s L v13 v48 wr) (fun _ v48 _ => L - (intOf v48).toNat)
  case atStart => exact ⟨0, [], s, _, Nat.zero_le _, rfl, rfl, rfl, H.out, PInv.new out buf size⟩
  case round =>
    obtain ⟨i, t, r, q, hi, rfl, rfl, hts, hA, hI⟩ := hrel
    have hln : t.length + r.length = s.length := by rw [← hts]; simp
    have HS := Lib.hid hts
    have HA := Lib.hid hA
    have HI := Lib.hid hI
    clear hts hA hI H
    by_cases hlt : i < L
    · obtain ⟨c, hc⟩ : ∃ c, c = z i := ⟨_, rfl⟩
      have hc1 := hby i (by omega)
      have hcc := (HA.out.below.cell (p := ⟨cb, off + i, none⟩) hcb).trans (hcell i (by omega))
      rw [← hc] at hc1 hcc
      obtain ⟨hc0, hc9⟩ := hc1
      obtain ⟨k, hk⟩ : ∃ k : Nat, (k : Int) = min c (r.length : Int) := ⟨(min c (r.length : Int)).toNat, by omega⟩
      have hkr : k ≤ r.length := by omega
      have hkI : (k : Int) ≤ (r.length : Int) := by omega
      have hk0 : (0 : Int) ≤ (k : Int) := by omega
      have hkm : min c (r.length : Int) = (k : Int) := hk.symm
      have hltk : (r.take k).length = k := by simp; omega
      clear hc hk hcell hby
      have hq : ∀ q' : PP, PInv out buf q' (t ++ r.take k) → buf = noneM → q'.buffer = [] := fun q' h e => h.empty e
      by_cases hb : buf = noneM
      · have tb : (buf == ([110, 111, 110, 101] : Bs)) = true := by rw [hb]; rfl
        have HBn := Lib.hid hb
        clear hb hq
        go_wp2_with (first | (go_at_call 11; refine (goes_write HA.out HI.out HO.out (by omega) _ (by omega)).mono ?_; rintro e w2 ⟨rfl, q2, ha2, hi2⟩; replace HA := Lib.hid ha2; replace HI := Lib.hid hi2; clear ha2 hi2) | (go_at_call 12; refine (goes_pending HA.out (HI.out.empty HBn.out)).mono ?_; rintro e w6 ⟨rfl, rfl⟩))
        go_roundw
        case rel => exact ⟨i + 1, t ++ r.take k, r.drop k, _, by omega, by go_num, rfl, take_more HS.out k, HA.out, HI.out⟩
        case measure => simp [intOf]; omega
      · have tb : (buf == ([110, 111, 110, 101] : Bs)) = false := beq_eq_false_iff_ne.2 hb
        clear hb hq
        go_wp2_with (go_at_call 11; refine (goes_write HA.out HI.out HO.out (by omega) _ (by omega)).mono ?_; rintro e w2 ⟨rfl, q2, ha2, hi2⟩; replace HA := Lib.hid ha2; replace HI := Lib.hid hi2; clear ha2 hi2)
        go_roundw
        case rel => exact ⟨i + 1, t ++ r.take k, r.drop k, _, by omega, by go_num, rfl, take_more HS.out k, HA.out, HI.out⟩
        case measure => simp [intOf]; omega
    · obtain rfl : i = L := by omega
      clear hcell hby
      go_wp2_with (first | (go_at_call 11; refine (goes_write HA.out HI.out HO.out (by omega) _ (by omega)).mono ?_; rintro e w2 ⟨rfl, q2, ha2, hi2⟩; replace HA := Lib.hid ha2; replace HI := Lib.hid hi2; clear ha2 hi2) | (go_at_call 13; refine (goes_flush HA.out HI.out (by rw [HS.out]; omega)).mono ?_; rintro e w3 ⟨rfl, q3, ha3, hg3, hb3⟩; rw [HS.out] at hg3; replace HA := Lib.hid ha3; have HG := Lib.hid (And.intro hg3 hb3); clear ha3 hg3 hb3) | (go_at_call 14; refine (Outward_yes s out HO.out (by omega) _ HA.out.max).mono ?_; rintro e w4 ⟨rfl, hb4⟩; replace HA := Lib.hid (HA.out.more hb4); clear hb4) | (go_at_call 15; refine (goes_out HA.out HG.out.1 HG.out.2).mono ?_; rintro e w5 ⟨rfl, q5, ha5, hb5⟩; replace HA := Lib.hid ha5; have HB := Lib.hid hb5; clear ha5 hb5) | (go_at_call 12; refine (goes_pending HA.out HB.out).mono ?_; rintro e w6 ⟨rfl, rfl⟩) | (go_at_call 10; refine (awake_any _ HA.out.max).mono ?_; rintro e w7 ⟨rfl, hb7⟩; have HE := Lib.hid (HA.out.below.trans (hb7.mono HA.out.below.size)); clear hb7))
      go_ret
      exact ⟨rfl, HE.out⟩
end Go.Proofs.YtafohdmhjilleaaDoor
