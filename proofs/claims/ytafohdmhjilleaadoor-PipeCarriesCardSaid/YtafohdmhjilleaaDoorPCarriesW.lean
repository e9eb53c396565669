/- PipeCarries: the walk. Printed by mkPY.py. -/
import Derived.Test.YtafohdmhjilleaaDoorPCarry
namespace Go.Proofs.YtafohdmhjilleaaDoor
set_option linter.unusedVariables false
set_option linter.unusedSimpArgs false
open Go.RowKit Go.Shelf

set_option maxRecDepth 100000 in
set_option maxHeartbeats 1600000 in
theorem carries_no (raw mode : Bs) (n : Int) (w : World) (hM : MaxIs w) (hm : ¬ isInM mode = true) :
    Calls Tryd.prog 6 #[.string ⟨raw.toArray⟩, .string ⟨mode.toArray⟩, .int .i64 n] w fun e w' => e = .returned (.bool true) ∧ Below w.heap.size w w' := by
  have MM : Hid (∀ W, Calls Tryd.prog 16 #[.string ⟨mode.toArray⟩, .string ⟨#[108, 102]⟩, .int .i64 10] W fun e w' => e = .returned (.pointer none) ∧ W = w') := fun W => made_no mode lfM (fun h => hm h.1) W
  have H0 := Lib.hid hM
  clear hm hM
  go_enter Tryd.func6, Tryd.ntmps6
  go_wp2_with (first | (go_at_call_of 16 (Value.string ⟨mode.toArray⟩); refine (MM.out _).mono ?_; rintro e w1 ⟨rfl, rfl⟩) | (go_at_call 16; refine (made_at lfM lfM rfl rfl _ H0.out).mono ?_; rintro e w3 ⟨b3, rfl, h3⟩; have H3 := Lib.hid h3; clear h3) | (go_at_call 10; refine (awake_any _ H3.out.max).mono ?_; rintro e w7 ⟨rfl, hb7⟩; have HZ := Lib.hid (H3.out.below.trans (hb7.mono H3.out.below.size)); clear hb7))
  go_ret
  exact ⟨rfl, HZ.out⟩
set_option maxRecDepth 100000 in
set_option maxHeartbeats 1600000 in
theorem carries_long (raw mode : Bs) (n : Int) (w : World) (hM : MaxIs w) (hm : isInM mode = true) (hs : 2000 < raw.length) :
    Calls Tryd.prog 6 #[.string ⟨raw.toArray⟩, .string ⟨mode.toArray⟩, .int .i64 n] w fun e w' => e = .returned (.bool true) ∧ Below w.heap.size w w' := by
  have MM : Hid (∀ W, MaxIs W → Calls Tryd.prog 16 #[.string ⟨mode.toArray⟩, .string ⟨#[108, 102]⟩, .int .i64 10] W fun e w' => ∃ b, e = .returned (.pointer (some ⟨b, 0, none⟩)) ∧ At1 W b (madeP mode lfM) w') := fun W hW => made_at mode lfM hm rfl W hW
  have hN := fun W b => ptr_nil W b
  have H0 := Lib.hid hM
  clear hm hM
  go_enter Tryd.func6, Tryd.ntmps6
  go_wp2_with (first | (go_at_call_of 16 (Value.string ⟨mode.toArray⟩); refine (MM.out _ H0.out).mono ?_; rintro e w1 ⟨b1, rfl, h1⟩; have H1 := Lib.hid h1; clear h1 H0) | (go_at_call_of 16 (Value.string ⟨mode.toArray⟩); refine (MM.out _ H1.out.max).mono ?_; rintro e w2 ⟨b2, rfl, h2⟩; have H2 := Lib.hid (At2.of H1.out h2); clear h2 H1 MM) | (go_at_call 16; refine (made_at lfM lfM rfl rfl _ H2.out.max).mono ?_; rintro e w3 ⟨b3, rfl, h3⟩; have HA := Lib.hid (At3.of H2.out h3); clear h3 H2) | (go_at_call 10; refine (awake_any _ HA.out.two.max).mono ?_; rintro e w7 ⟨rfl, hb7⟩; have HZ := Lib.hid (HA.out.two.below.trans (hb7.mono HA.out.two.below.size)); clear hb7))
  go_ret
  exact ⟨rfl, HZ.out⟩
set_option maxRecDepth 100000 in
set_option maxHeartbeats 3200000 in
theorem carries_yes (raw mode : Bs) (n : Int) (w : World) (hM : MaxIs w) (hm : isInM mode = true) (hs : raw.length ≤ 2000) :
    Calls Tryd.prog 6 #[.string ⟨raw.toArray⟩, .string ⟨mode.toArray⟩, .int .i64 n] w fun e w' => e = .returned (.bool true) ∧ Below w.heap.size w w' := by
  have MM : Hid (∀ W, MaxIs W → Calls Tryd.prog 16 #[.string ⟨mode.toArray⟩, .string ⟨#[108, 102]⟩, .int .i64 10] W fun e w' => ∃ b, e = .returned (.pointer (some ⟨b, 0, none⟩)) ∧ At1 W b (madeP mode lfM) w') := fun W hW => made_at mode lfM hm rfl W hW
  have hN := fun W b => ptr_nil W b
  have H0 := Lib.hid hM
  have HF := Lib.hid (Fd.new mode lfM)
  have HI : Hid (isInM ((madeP mode lfM).feed raw).inm = true ∧ ((madeP mode lfM).feed raw).raw.length ≤ 2000) := ⟨hm, by simpa [PP.feed, madeP, PP.new] using hs⟩
  have HI2 : Hid (isInM (((madeP mode lfM).feed raw).read n).inm = true ∧ (((madeP mode lfM).feed raw).read n).raw.length ≤ 2000) := ⟨hm, Nat.le_trans (read_len _ _) HI.out.2⟩
  have HS : Hid ((bytesL (((madeP mode lfM).feed raw).taken n false)).length ≤ 100000) := by
    have h1 := (taken_le ((madeP mode lfM).feed raw) n false).2
    have h2 := HI.out.2
    show _ ≤ _
    rw [bytesL_len]; omega
  have HT := Lib.hid (PInv.new lfM fullM 10)
  rw [show PP.new lfM lfM fullM 10 = madeP lfM lfM from rfl] at HT
  clear hm hM
  generalize madeP mode lfM = pm at *
  go_enter Tryd.func6, Tryd.ntmps6
  go_wp2_with (first | (go_at_call_of 16 (Value.string ⟨mode.toArray⟩); refine (MM.out _ H0.out).mono ?_; rintro e w1 ⟨b1, rfl, h1⟩; have H1 := Lib.hid h1; clear h1 H0) | (go_at_call_of 16 (Value.string ⟨mode.toArray⟩); refine (MM.out _ H1.out.max).mono ?_; rintro e w2 ⟨b2, rfl, h2⟩; have H2 := Lib.hid (At2.of H1.out h2); clear h2 H1 MM) | (go_at_call 16; refine (made_at lfM lfM rfl rfl _ H2.out.max).mono ?_; rintro e w3 ⟨b3, rfl, h3⟩; have HA := Lib.hid (At3.of H2.out h3); clear h3 H2) | (go_at_call_of 17 (Value.pointer (some ⟨b1, 0, none⟩)); refine (feed_31 HA.out HF.out raw (by omega)).mono ?_; rintro e w4 ⟨rfl, ha4⟩; replace HA := Lib.hid ha4; clear ha4) | (go_at_call_of 17 (Value.pointer (some ⟨b2, 0, none⟩)); refine (feed_32 HA.out HF.out raw (by omega)).mono ?_; rintro e w4 ⟨rfl, ha4⟩; replace HA := Lib.hid ha4; clear ha4) | (go_at_call 24; refine (carry_3 HA.out n HI.out.1 HI.out.2 HT.out).mono ?_; rintro e w4 ⟨rfl, t4, ha4, hi4⟩; replace HA := Lib.hid ha4; replace HT := Lib.hid hi4; clear ha4 hi4) | (go_at_call_of 19 (Value.pointer (some ⟨b1, 0, none⟩)); refine (read_31 HA.out (-1) HI2.out.1 (by have := HI2.out.2; omega)).mono ?_; rintro e w4 ⟨rfl, ha4⟩; replace HA := Lib.hid ha4; clear ha4; have D1 := Lib.hid trivial) | (go_at_call_of 19 (Value.pointer (some ⟨b2, 0, none⟩)); have := D1; refine (read_32 HA.out (-1) HI2.out.1 (by have := HI2.out.2; omega)).mono ?_; rintro e w4 ⟨rfl, ha4⟩; replace HA := Lib.hid ha4; clear ha4) | (go_at_call_of 19 (Value.pointer (some ⟨b2, 0, none⟩)); refine (read_32 HA.out n HI.out.1 (by have := HI.out.2; omega)).mono ?_; rintro e w4 ⟨rfl, ha4⟩; replace HA := Lib.hid ha4; clear ha4) | (go_at_call 13; refine (flush_3 HA.out HT.out HS.out).mono ?_; rintro e w4 ⟨rfl, t4, ha4, hg4⟩; replace HA := Lib.hid ha4; have HG := Lib.hid hg4; clear ha4 hg4) | (go_at_call 15; refine (out_3 HA.out HG.out).mono ?_; rintro e w4 ⟨rfl, t4, ha4⟩; replace HA := Lib.hid ha4; clear ha4) | (go_at_call_of 25 (Value.pointer (some ⟨b1, 0, none⟩)); refine (waits_31 HA.out).mono ?_; rintro e w4 ⟨rfl, rfl⟩; skip) | (go_at_call_of 25 (Value.pointer (some ⟨b2, 0, none⟩)); refine (waits_32 HA.out).mono ?_; rintro e w4 ⟨rfl, rfl⟩; skip) | (go_at_call 10; refine (awake_any _ HA.out.two.max).mono ?_; rintro e w7 ⟨rfl, hb7⟩; have HZ := Lib.hid (HA.out.two.below.trans (hb7.mono HA.out.two.below.size)); clear hb7))
  go_ret
  exact ⟨rfl, HZ.out⟩
end Go.Proofs.YtafohdmhjilleaaDoor
