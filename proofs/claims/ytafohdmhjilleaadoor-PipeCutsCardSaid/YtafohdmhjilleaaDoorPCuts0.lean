/- PipeCuts: nothing is made, or the text is too long. Printed by mkPK.py. -/
import Derived.Test.YtafohdmhjilleaaDoorPTwo
namespace Go.Proofs.YtafohdmhjilleaaDoor
set_option linter.unusedVariables false
set_option linter.unusedSimpArgs false
open Go.RowKit Go.Shelf
attribute [local go_sem] ba_append
/-- What holds at the heads of the two loops. -/
def CutR1 (w : World) (b1 b2 : Nat) (pm : PP) (mode raw : Bs) (L : Nat) (v11 v57 : Value) (wr : World) : Prop := ∃ (i : Nat) (t r : Bs) (p : PP), i ≤ L ∧ v57 = .int .i64 (i : Int) ∧ v11 = .string ⟨r.toArray⟩ ∧ t ++ r = raw ∧ At2 w b1 p b2 pm wr ∧ Fd mode p t
def CutR2 (w : World) (b1 b2 : Nat) (mode raw : Bs) (L : Nat) (v15 v102 : Value) (wr : World) : Prop := ∃ (i : Nat) (s : Bs) (p q : PP), i ≤ L ∧ v102 = .int .i64 (i : Int) ∧ v15 = .string ⟨s.toArray⟩ ∧ At2 w b1 p b2 q wr ∧ Rd mode raw p s ∧ Rd mode raw q []
theorem take_more' {t r s : Bs} (h : t ++ r = s) (k : Nat) : (t ++ r.take k) ++ r.drop k = s := by rw [List.append_assoc, List.take_append_drop]; exact h

set_option maxRecDepth 100000 in
set_option maxHeartbeats 1600000 in
theorem cuts_no (raw mode : Bs) (c1 c2 : Value) (w : World) (hM : MaxIs w) (hm : ¬ isInM mode = true) :
    Calls Tryd.prog 4 #[.string ⟨raw.toArray⟩, .string ⟨mode.toArray⟩, c1, c2] w fun e w' => e = .returned (.bool true) ∧ Below w.heap.size w w' := by
  have MM : Hid (∀ W, Calls Tryd.prog 16 #[.string ⟨mode.toArray⟩, .string ⟨#[108, 102]⟩, .int .i64 10] W fun e w' => e = .returned (.pointer none) ∧ W = w') := fun W => made_no mode lfM (fun h => hm h.1) W
  have HW := Lib.hid (awake_any w hM)
  clear hm hM
  go_enter Tryd.func4, Tryd.ntmps4
  go_wp2_with (first | (go_at_call 16; refine (MM.out _).mono ?_; rintro e w1 ⟨rfl, rfl⟩) | (go_at_call 10; refine HW.out.mono ?_; rintro e w7 ⟨rfl, hb⟩))
  go_ret
  exact ⟨rfl, hb⟩
set_option maxRecDepth 100000 in
set_option maxHeartbeats 1600000 in
theorem cuts_long (raw mode : Bs) (c1 c2 : Value) (w : World) (hM : MaxIs w) (hm : isInM mode = true) (hs : 2000 < raw.length) :
    Calls Tryd.prog 4 #[.string ⟨raw.toArray⟩, .string ⟨mode.toArray⟩, c1, c2] w fun e w' => e = .returned (.bool true) ∧ Below w.heap.size w w' := by
  have MM : Hid (∀ W, MaxIs W → Calls Tryd.prog 16 #[.string ⟨mode.toArray⟩, .string ⟨#[108, 102]⟩, .int .i64 10] W fun e w' => ∃ b, e = .returned (.pointer (some ⟨b, 0, none⟩)) ∧ At1 W b (madeP mode lfM) w') := fun W hW => made_at mode lfM hm rfl W hW
  have hN := fun W b => ptr_nil W b
  have H0 := Lib.hid hM
  clear hm hM
  go_enter Tryd.func4, Tryd.ntmps4
  go_wp2_with (first | (go_at_call 16; refine (MM.out _ H0.out).mono ?_; rintro e w1 ⟨b1, rfl, h1⟩; have H1 := Lib.hid h1; clear h1 H0) | (go_at_call 16; refine (MM.out _ H1.out.max).mono ?_; rintro e w2 ⟨b2, rfl, h2⟩; have HA := Lib.hid (At2.of H1.out h2); clear h2 H1) | (go_at_call 10; refine (awake_any _ HA.out.max).mono ?_; rintro e w7 ⟨rfl, hb7⟩; have HZ := Lib.hid (HA.out.below.trans (hb7.mono HA.out.below.size)); clear hb7))
  go_ret
  exact ⟨rfl, HZ.out⟩
end Go.Proofs.YtafohdmhjilleaaDoor
