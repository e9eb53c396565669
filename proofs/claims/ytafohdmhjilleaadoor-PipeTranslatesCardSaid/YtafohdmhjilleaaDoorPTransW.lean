/- PipeTranslates: the walk. -/
import Derived.Test.YtafohdmhjilleaaDoorPRef2
namespace Go.Proofs.YtafohdmhjilleaaDoor
set_option linter.unusedVariables false
set_option linter.unusedSimpArgs false
open Go.RowKit Go.Shelf

set_option maxRecDepth 100000 in
set_option maxHeartbeats 800000 in
theorem rIn_yes (raw mode : Bs) (closed : Bool) (hm : isInM mode = true) (hr : raw.length ≤ 1000000) (w : World) :
    Calls Tryd.prog 22 #[.string ⟨raw.toArray⟩, .string ⟨mode.toArray⟩, .bool closed] w fun e w' => e = .returned (.tuple #[.string ⟨(bytesL (stepsL mode closed raw)).toArray⟩, .string ⟨(raw.drop (sumN (stepsL mode closed raw))).toArray⟩, .int .i64 0]) ∧ Below w.heap.size w w' := by
  have HI : Hid (∀ W, Calls Tryd.prog 41 #[.string ⟨mode.toArray⟩] W fun e w' => e = .returned (.bool true) ∧ W = w') := fun W => by have := risIn_any mode W; rwa [hm] at this
  have HT : Hid (∀ W b, W.cell? ⟨b, 0, none⟩ = some (.string ⟨raw.toArray⟩) → W.cell? ⟨b, 1, none⟩ = some (.bool closed) → W.cell? ⟨b, 3, none⟩ = some (.string ⟨mode.toArray⟩) → Calls Tryd.prog 42 #[.pointer (some ⟨b, 0, none⟩), .int .i64 (-1), .bool false] W fun e w' => e = .returned (.tuple #[.string ⟨(bytesL (stepsL mode closed raw)).toArray⟩, .string ⟨(raw.drop (sumN (stepsL mode closed raw))).toArray⟩]) ∧ ∃ m, w' = W.drewN m) := fun W b h0 h1 h3 => take_all mode (mode_cases hm) closed raw hr b W h0 h1 h3
  clear hm
  generalize bytesL (stepsL mode closed raw) = s at *
  generalize raw.drop (sumN (stepsL mode closed raw)) = t at *
  go_enter Tryd.func22, Tryd.ntmps22
  go_wp2_with (first | (go_at_call 41; refine (HI.out _).mono ?_; rintro e w' ⟨rfl, rfl⟩) | (go_at_call 42; refine (HT.out _ _ (by simp) (by simp) (by simp)).mono ?_; rintro e w1 ⟨rfl, m, rfl⟩))
  go_ret3
  exact ⟨rfl, below_drewN ((Below.refl _ _).alloc (Nat.le_refl _) _) _⟩
set_option maxRecDepth 100000 in
theorem rIn_no (raw mode : Bs) (closed : Bool) (hm : isInM mode = false) (w : World) :
    Calls Tryd.prog 22 #[.string ⟨raw.toArray⟩, .string ⟨mode.toArray⟩, .bool closed] w fun e w' => e = .returned (.tuple #[.string ⟨#[]⟩, .string ⟨#[]⟩, .int .i64 5]) ∧ Below w.heap.size w w' := by
  have HI : Hid (∀ W, Calls Tryd.prog 41 #[.string ⟨mode.toArray⟩] W fun e w' => e = .returned (.bool false) ∧ W = w') := fun W => by have := risIn_any mode W; rwa [hm] at this
  clear hm
  go_enter Tryd.func22, Tryd.ntmps22
  go_wp2_with (go_at_call 41; refine (HI.out _).mono ?_; rintro e w' ⟨rfl, rfl⟩)
  go_ret3
  exact ⟨rfl, Below.refl _ _⟩

/-- One answer for both. -/
theorem in_two (raw mode : Bs) (closed : Bool) (hr : raw.length ≤ 1000000) : ∃ (s t : Bs) (c : Int),
    (∀ W, Calls Tryd.prog 20 #[.string ⟨raw.toArray⟩, .string ⟨mode.toArray⟩, .bool closed] W fun e w' => e = .returned (.tuple #[.string ⟨s.toArray⟩, .string ⟨t.toArray⟩, .int .i64 c]) ∧ Below W.heap.size W w') ∧
    (∀ W, Calls Tryd.prog 22 #[.string ⟨raw.toArray⟩, .string ⟨mode.toArray⟩, .bool closed] W fun e w' => e = .returned (.tuple #[.string ⟨s.toArray⟩, .string ⟨t.toArray⟩, .int .i64 c]) ∧ Below W.heap.size W w') := by
  cases hm : isInM mode
  · exact ⟨[], [], 5, fun W => In_no raw mode closed hm W, fun W => rIn_no raw mode closed hm W⟩
  · exact ⟨_, _, 0, fun W => In_yes raw mode closed hm hr W, fun W => rIn_yes raw mode closed hm hr W⟩
theorem out_two (s mode : Bs) (hs : s.length ≤ 1000000) : ∃ (t : Bs) (c : Int),
    (∀ W, MaxIs W → Calls Tryd.prog 14 #[.string ⟨s.toArray⟩, .string ⟨mode.toArray⟩] W fun e w' => e = .returned (.tuple #[.string ⟨t.toArray⟩, .int .i64 c]) ∧ Below W.heap.size W w') ∧
    (∀ W, MaxIs W → Calls Tryd.prog 23 #[.string ⟨s.toArray⟩, .string ⟨mode.toArray⟩] W fun e w' => e = .returned (.tuple #[.string ⟨t.toArray⟩, .int .i64 c]) ∧ Below W.heap.size W w') := by
  cases hm : isOutM mode
  · exact ⟨[], 5, fun W _ => Outward_no s mode hm W, fun W _ => rOutward_no s mode hm W⟩
  · exact ⟨_, 0, fun W h => Outward_yes s mode hm (by omega) W h, fun W h => rOutward_yes s mode hm (by omega) W h⟩

theorem grown_max {w W W' : World} (h : Hid (MaxIs W ∧ Below w.heap.size w W)) (hb : Below W.heap.size W W') : Hid (MaxIs W' ∧ Below w.heap.size w W') :=
  ⟨h.out.1.below hb h.out.1.pos, h.out.2.trans (hb.mono h.out.2.size)⟩
set_option maxRecDepth 100000 in
set_option maxHeartbeats 1600000 in
theorem trans_yes (s mode : Bs) (closed : Bool) (w : World) (hM : MaxIs w) (hs : s.length ≤ 2000) (ho : mode.length ≤ 40) :
    Calls Tryd.prog 5 #[.string ⟨s.toArray⟩, .string ⟨mode.toArray⟩, .bool closed] w fun e w' => e = .returned (.bool true) ∧ Below w.heap.size w w' := by
  obtain ⟨a, b, c, i1, i2⟩ := in_two s mode closed (by omega)
  obtain ⟨x, y, o1, o2⟩ := out_two s mode (by omega)
  have I1 := Lib.hid i1
  have I2 := Lib.hid i2
  have O1 := Lib.hid o1
  have O2 := Lib.hid o2
  have H : Hid (MaxIs w ∧ Below w.heap.size w w) := ⟨hM, Below.refl _ _⟩
  clear i1 i2 o1 o2 hM
  go_enter Tryd.func5, Tryd.ntmps5
  go_wp2_with (first | (go_at_call 20; refine (I1.out _).mono ?_; rintro e w' ⟨rfl, hb⟩; replace H := grown_max H hb; clear hb) | (go_at_call 22; refine (I2.out _).mono ?_; rintro e w' ⟨rfl, hb⟩; replace H := grown_max H hb; clear hb) | (go_at_call 14; refine (O1.out _ H.out.1).mono ?_; rintro e w' ⟨rfl, hb⟩; replace H := grown_max H hb; clear hb) | (go_at_call 23; refine (O2.out _ H.out.1).mono ?_; rintro e w' ⟨rfl, hb⟩; replace H := grown_max H hb; clear hb) | (go_at_call 10; refine (awake_any _ H.out.1).mono ?_; rintro e w' ⟨rfl, hb⟩; replace H := grown_max H hb; clear hb))
  go_ret
  exact ⟨rfl, H.out.2⟩
set_option maxRecDepth 100000 in
set_option maxHeartbeats 1600000 in
theorem trans_long (s mode : Bs) (closed : Bool) (w : World) (hM : MaxIs w) (h : 2000 < s.length ∨ (¬ 2000 < s.length ∧ 40 < mode.length)) :
    Calls Tryd.prog 5 #[.string ⟨s.toArray⟩, .string ⟨mode.toArray⟩, .bool closed] w fun e w' => e = .returned (.bool true) ∧ Below w.heap.size w w' := by
  have HW := Lib.hid (awake_any w hM)
  clear hM
  rcases h with h | ⟨h, h'⟩
  · go_enter Tryd.func5, Tryd.ntmps5
    go_wp2_with (go_at_call 10; refine HW.out.mono ?_; rintro e w' ⟨rfl, hb⟩; skip)
    go_ret
    exact ⟨rfl, hb⟩
  · go_enter Tryd.func5, Tryd.ntmps5
    go_wp2_with (go_at_call 10; refine HW.out.mono ?_; rintro e w' ⟨rfl, hb⟩; skip)
    go_ret
    exact ⟨rfl, hb⟩
end Go.Proofs.YtafohdmhjilleaaDoor
