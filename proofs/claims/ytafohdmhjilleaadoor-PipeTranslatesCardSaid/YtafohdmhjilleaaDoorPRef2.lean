/- The reference's take and In. -/
import Derived.Test.YtafohdmhjilleaaDoorPRef
namespace Go.Proofs.YtafohdmhjilleaaDoor
set_option linter.unusedVariables false
set_option linter.unusedSimpArgs false
open Go.RowKit Go.Shelf
attribute [local go_sem] ba_append

def strLen : Value → Nat
  | .string b => b.data.size
  | _ => 0
/-- What holds at the loop's head of take. -/
def TakeR (w : World) (mode : Bs) (closed : Bool) (raw : Bs) (v8 v9 : Value) (wr : World) : Prop := ∃ (pre : List (UInt8 × Nat)) (r : Bs), v8 = .string ⟨(bytesL pre).toArray⟩ ∧ v9 = .string ⟨r.toArray⟩ ∧ pre ++ stepsL mode closed r = stepsL mode closed raw ∧ raw.drop (sumN pre) = r ∧ ∃ m, wr = w.drewN m
theorem drew_more {W w : World} (h : ∃ m, W = w.drewN m) (n : Nat) : ∃ m, W.drewN n = w.drewN m := by
  obtain ⟨m, rfl⟩ := h
  exact ⟨_, World.drewN_drewN _ _ _⟩
theorem unit_at {mode : Bs} {closed : Bool} {r : Bs} (hmo : mode = autoM ∨ mode = lfM ∨ mode = crM ∨ mode = crlfM) (hr : r.length ≤ 1000000) {k : Nat} {s : Bs} (h : unitV mode closed r = (k, s)) (w : World) :
    Calls Tryd.prog 53 #[.string ⟨r.toArray⟩, .string ⟨mode.toArray⟩, .bool closed] w fun e w' => e = .returned (.tuple #[.int .i64 (k : Int), .string ⟨s.toArray⟩]) ∧ ∃ m, w' = w.drewN m := by
  have := unit_any mode hmo closed r hr w
  rwa [h] at this
set_option maxRecDepth 100000 in
set_option maxHeartbeats 1600000 in
theorem take_all (mode : Bs) (hmo : mode = autoM ∨ mode = lfM ∨ mode = crM ∨ mode = crlfM) (closed : Bool) (raw : Bs) (hr : raw.length ≤ 1000000) (b : Nat) (w : World) (c0 : w.cell? ⟨b, 0, none⟩ = some (.string ⟨raw.toArray⟩)) (c1 : w.cell? ⟨b, 1, none⟩ = some (.bool closed)) (c3 : w.cell? ⟨b, 3, none⟩ = some (.string ⟨mode.toArray⟩)) :
    Calls Tryd.prog 42 #[.pointer (some ⟨b, 0, none⟩), .int .i64 (-1), .bool false] w fun e w' => e = .returned (.tuple #[.string ⟨(bytesL (stepsL mode closed raw)).toArray⟩, .string ⟨(raw.drop (sumN (stepsL mode closed raw))).toArray⟩]) ∧ ∃ m, w' = w.drewN m := by
  have HMO := Lib.hid hmo
  clear hmo
  go_enter Tryd.func42, Tryd.ntmps42
  go_wp2
  go_quiet (fail)
  go_wp2
  go_loopw [8, 9] (fun v8 v9 wr => TakeR w mode closed raw v8 v9 wr) (fun _ v9 _ => strLen v9)
  case atStart => exact ⟨[], raw, rfl, rfl, rfl, rfl, nq, rfl⟩
  case round =>
    obtain ⟨pre, r, rfl, rfl, h1, h2, m, hwr⟩ := hrel
    have d0 : wr.cell? ⟨b, 0, none⟩ = some (.string ⟨raw.toArray⟩) := by rw [hwr]; exact c0
    have d1 : wr.cell? ⟨b, 1, none⟩ = some (.bool closed) := by rw [hwr]; exact c1
    have d3 : wr.cell? ⟨b, 3, none⟩ = some (.string ⟨mode.toArray⟩) := by rw [hwr]; exact c3
    have HWR := Lib.hid hwr
    clear hwr c0 c1 c3
    have hrl : r.length ≤ raw.length := by rw [← h2]; simp
    have hpl : (bytesL pre).length ≤ raw.length := by
      have := (steps_le mode closed raw).1
      rw [← h1] at this
      simp at this
      rw [bytesL_len]; omega
    cases hp : stepP mode closed r with
    | none =>
      have hv : unitV mode closed r = (0, []) := by unfold unitV; rw [hp]
      have HU := Lib.hid (fun W => unit_at HMO.out (by omega) hv W)
      have HS : Hid (bytesL pre = bytesL (stepsL mode closed raw) ∧ r = raw.drop (sumN (stepsL mode closed raw))) := by
        rw [stepsL_none hp, List.append_nil] at h1
        show _ ∧ _
        rw [← h1]; exact ⟨rfl, h2.symm⟩
      clear hp hv h1 h2
      go_wp2
      go_quiet ((go_at_call 53; exact Calls.quiet_of (HU.out _)))
      go_wp2
      go_ret2
      exact ⟨by rw [← HS.out.1, ← HS.out.2]; rfl, drew_more ⟨m, HWR.out⟩ _⟩
    | some q =>
      obtain ⟨c, k⟩ := q
      have hv : unitV mode closed r = (k, [c]) := by unfold unitV; rw [hp]
      have HU := Lib.hid (fun W => unit_at HMO.out (by omega) hv W)
      obtain ⟨hk1, hk2⟩ := stepP_pos hp
      simp only at hk1 hk2
      have HS : Hid ((pre ++ [(c, k)]) ++ stepsL mode closed (r.drop k) = stepsL mode closed raw) := by
        show _ = _
        rw [← h1, stepsL_some hp, List.append_assoc]; rfl
      have HD : Hid (raw.drop (sumN (pre ++ [(c, k)])) = r.drop k) := by
        show _ = _
        rw [sumN_snoc, ← List.drop_drop, h2]
      have t0 : ((k : Int) == 0) = false := by rw [beq_eq_false_iff_ne]; omega
      have t1 : (k : Int) ≤ (r.length : Int) := by omega
      have t2 : (0 : Int) ≤ (k : Int) := by omega
      have t3 : ¬ (9223372036854775807 < (bytesL pre).length + 1) := by omega
      have hb : bytesL pre ++ [c] = bytesL (pre ++ [(c, k)]) := (bytesL_snoc pre (c, k)).symm
      have HB := Lib.hid hb
      clear hp hv h1 h2 hb
      go_wp2
      go_quiet ((go_at_call 53; exact Calls.quiet_of (HU.out _)))
      go_wp2
      go_quiet (fail)
      go_wp2
      go_roundw
      case rel => exact ⟨pre ++ [(c, k)], r.drop k, by rw [← HB.out], rfl, HS.out, HD.out, by first | exact drew_more ⟨m, HWR.out⟩ _ | exact drew_more (drew_more ⟨m, HWR.out⟩ _) _⟩
      case measure => simp [strLen]; omega
end Go.Proofs.YtafohdmhjilleaaDoor
