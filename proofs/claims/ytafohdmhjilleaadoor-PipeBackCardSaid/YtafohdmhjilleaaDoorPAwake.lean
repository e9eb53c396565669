/- The document's example of a pipe; made. -/
import Derived.Test.YtafohdmhjilleaaDoorPWrite
namespace Go.Proofs.YtafohdmhjilleaaDoor
set_option linter.unusedVariables false
set_option linter.unusedSimpArgs false
open Go.RowKit Go.Shelf

/-- Where a call's pipe lies, and what is as it was. -/
structure At1 (w : World) (b : Nat) (p : PP) (W : World) : Prop where
  pat : PAt W b p
  max : MaxIs W
  below : Below w.heap.size w W
  le : w.heap.size ≤ b
theorem At1.step {w W W' : World} {b : Nat} {p p' : PP} (h : At1 w b p W) (h' : PAt W' b p') (k : Kp [b] W W') : At1 w b p' W' := by
  have hb : Below w.heap.size W W' := k.below h.below.size (by simpa using h.le)
  have h0 := h.max.pos
  have hne := h.pat.maxne h.max
  exact ⟨h', h.max.kp k (by simpa using hne), h.below.trans hb, h.le⟩
theorem At1.new (w : World) (hM : MaxIs w) (p : PP) : At1 w w.heap.size p (w.alloc (.cells p.cells 52)) :=
  have hb := (Below.refl w.heap.size w).alloc (Nat.le_refl _) (.cells p.cells 52)
  ⟨pat_new w p, hM.below hb hM.pos, hb, Nat.le_refl _⟩

def aw0 : PP := PP.new autoM lfM lineM 100
def aw1 : PP := aw0.feed [97, 13, 10, 98]
def aw2 : PP := aw1.close
def aw3 : PP := aw2.read (-1)
def aw4 : PP := aw3.write [97, 98, 10, 99]
theorem aw_s : bytesL (aw2.taken (-1) false) = [97, 10, 98] := by kernel_rfl
theorem aw_g : aw4.gone = [97, 98, 10] := by kernel_rfl
theorem aw_b : aw4.out.buffer.length = 1 := by kernel_rfl

set_option maxRecDepth 100000 in
set_option maxHeartbeats 1600000 in
theorem awake_any (w : World) (hM : MaxIs w) : Calls Tryd.prog 10 #[] w fun e w' => e = .returned (.bool true) ∧ Below w.heap.size w w' := by
  have A1 : Hid (∀ W, At1 w w.heap.size aw0 W → Calls Tryd.prog 17 #[.pointer (some ⟨w.heap.size, 0, none⟩), .string ⟨#[97, 13, 10, 98]⟩] W fun e w' => e = .returned (.int .i64 0) ∧ At1 w w.heap.size aw1 w') := fun W h => (Feed_plain h.pat [97, 13, 10, 98] rfl rfl rfl (by decide) (by decide)).mono fun e w' ⟨h1, h2, h3⟩ => ⟨h1, h.step h2 h3⟩
  have A2 : Hid (∀ W, At1 w w.heap.size aw1 W → Calls Tryd.prog 18 #[.pointer (some ⟨w.heap.size, 0, none⟩)] W fun e w' => e = .returned (.int .i64 0) ∧ At1 w w.heap.size aw2 w') := fun W h => (Close_any h.pat rfl).mono fun e w' ⟨h1, h2, h3⟩ => ⟨h1, h.step h2 h3⟩
  have A3 : Hid (∀ W, At1 w w.heap.size aw2 W → Calls Tryd.prog 19 #[.pointer (some ⟨w.heap.size, 0, none⟩), .int .i64 (-1)] W fun e w' => e = .returned (.tuple #[.string ⟨#[97, 10, 98]⟩, .int .i64 0]) ∧ At1 w w.heap.size aw3 w') := fun W h => (Read_any h.pat (-1) (by decide) (by decide)).mono fun e w' ⟨h1, h2, h3⟩ => ⟨by rw [h1, aw_s], h.step h2 h3⟩
  have A4 : Hid (∀ W, At1 w w.heap.size aw3 W → Calls Tryd.prog 11 #[.pointer (some ⟨w.heap.size, 0, none⟩), .string ⟨#[97, 98, 10, 99]⟩] W fun e w' => e = .returned (.int .i64 0) ∧ At1 w w.heap.size aw4 w') := fun W h => (Write_any h.pat h.max [97, 98, 10, 99] (by decide) (by decide) (by decide) rfl (by decide)).mono fun e w' ⟨h1, h2, h3⟩ => ⟨h1, h.step h2 h3⟩
  have A5 : Hid (∀ W, At1 w w.heap.size aw4 W → Calls Tryd.prog 15 #[.pointer (some ⟨w.heap.size, 0, none⟩)] W fun e w' => e = .returned (.string ⟨#[97, 98, 10]⟩) ∧ At1 w w.heap.size aw4.out w') := fun W h => (Out_any h.pat).mono fun e w' ⟨h1, h2, h3⟩ => ⟨by rw [h1, aw_g], h.step h2 h3⟩
  have A6 : Hid (∀ W, At1 w w.heap.size aw4.out W → Calls Tryd.prog 12 #[.pointer (some ⟨w.heap.size, 0, none⟩)] W fun e w' => e = .returned (.int .i64 1) ∧ W = w') := fun W h => (Pending_any h.pat).mono fun e w' ⟨h1, h2⟩ => ⟨by rw [h1, aw_b]; rfl, h2⟩
  have A0 : Hid (Calls Tryd.prog 9 #[.string ⟨#[97, 117, 116, 111]⟩, .string ⟨#[108, 102]⟩, .string ⟨#[108, 105, 110, 101]⟩, .int .i64 100] w fun e w' => e = .returned (.tuple #[.pointer (some ⟨w.heap.size, 0, none⟩), .int .i64 0]) ∧ At1 w w.heap.size aw0 w') := (New_yes autoM lfM lineM 100 rfl rfl rfl (by decide) (by decide) w).mono fun e w' ⟨h1, h2⟩ => ⟨h1, by rw [h2]; exact At1.new w hM aw0⟩
  have hN := fun W => ptr_nil W w.heap.size
  clear hM
  go_enter Tryd.func10, Tryd.ntmps10
  go_wp2_with (first | (go_at_call 9; refine A0.out.mono ?_; rintro e w1 ⟨rfl, h1⟩; have H := Lib.hid h1; clear h1) | (go_at_call 17; refine (A1.out _ H.out).mono ?_; rintro e w1 ⟨rfl, h1⟩; replace H := Lib.hid h1; clear h1) | (go_at_call 18; refine (A2.out _ H.out).mono ?_; rintro e w1 ⟨rfl, h1⟩; replace H := Lib.hid h1; clear h1) | (go_at_call 19; refine (A3.out _ H.out).mono ?_; rintro e w1 ⟨rfl, h1⟩; replace H := Lib.hid h1; clear h1) | (go_at_call 11; refine (A4.out _ H.out).mono ?_; rintro e w1 ⟨rfl, h1⟩; replace H := Lib.hid h1; clear h1) | (go_at_call 15; refine (A5.out _ H.out).mono ?_; rintro e w1 ⟨rfl, h1⟩; replace H := Lib.hid h1; clear h1) | (go_at_call 12; refine (A6.out _ H.out).mono ?_; rintro e w1 ⟨rfl, rfl⟩))
  go_ret
  exact ⟨rfl, H.out.below⟩

/-- 'made'. -/
def madeP (inm outm : Bs) : PP := PP.new inm outm fullM 10
set_option maxRecDepth 100000 in
theorem made_yes (inm outm : Bs) (h1 : isInM inm = true) (h2 : isOutM outm = true) (w : World) :
    Calls Tryd.prog 16 #[.string ⟨inm.toArray⟩, .string ⟨outm.toArray⟩, .int .i64 10] w fun e w' => e = .returned (.pointer (some ⟨w.heap.size, 0, none⟩)) ∧ w' = w.alloc (.cells (madeP inm outm).cells 52) := by
  have A0 : Hid (Calls Tryd.prog 9 #[.string ⟨inm.toArray⟩, .string ⟨outm.toArray⟩, .string ⟨#[102, 117, 108, 108]⟩, .int .i64 10] w fun e w' => e = .returned (.tuple #[.pointer (some ⟨w.heap.size, 0, none⟩), .int .i64 0]) ∧ w' = w.alloc (.cells (madeP inm outm).cells 52)) := New_yes inm outm fullM 10 h1 h2 rfl (by decide) (by decide) w
  clear h1 h2
  go_enter Tryd.func16, Tryd.ntmps16
  go_wp2_with (go_at_call 9; refine A0.out.mono ?_; rintro e w1 ⟨rfl, rfl⟩; skip)
  go_ret
  exact ⟨rfl, rfl⟩
set_option maxRecDepth 100000 in
theorem made_no (inm outm : Bs) (h1 : ¬ (isInM inm = true ∧ isOutM outm = true)) (w : World) :
    Calls Tryd.prog 16 #[.string ⟨inm.toArray⟩, .string ⟨outm.toArray⟩, .int .i64 10] w fun e w' => e = .returned (.pointer none) ∧ w = w' := by
  have A0 : Hid (Calls Tryd.prog 9 #[.string ⟨inm.toArray⟩, .string ⟨outm.toArray⟩, .string ⟨#[102, 117, 108, 108]⟩, .int .i64 10] w fun e w' => e = .returned (.tuple #[.pointer none, .int .i64 5]) ∧ w = w') := New_name inm outm fullM 10 (fun h => h1 ⟨h.1, h.2.1⟩) w
  clear h1
  go_enter Tryd.func16, Tryd.ntmps16
  go_wp2_with (go_at_call 9; refine A0.out.mono ?_; rintro e w1 ⟨rfl, rfl⟩; skip)
  go_ret
  exact ⟨rfl, rfl⟩
end Go.Proofs.YtafohdmhjilleaaDoor
