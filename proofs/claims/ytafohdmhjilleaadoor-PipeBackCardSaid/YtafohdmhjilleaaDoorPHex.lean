/- hex, digit: bytes as two digits. -/
import Derived.Test.YtafohdmhjilleaaDoorPRot
namespace Go.Proofs.YtafohdmhjilleaaDoor
set_option linter.unusedVariables false
set_option linter.unusedSimpArgs false
open Go.RowKit Go.Shelf

def hexT : Bs := [48, 49, 50, 51, 52, 53, 54, 55, 56, 57, 97, 98, 99, 100, 101, 102]
def hexD (k : Nat) : UInt8 := hexT.getD k 0
def hexB (c : UInt8) : Bs := [hexD (c.toNat / 16), hexD (c.toNat % 16)]
def hexS (l : Bs) : Bs := l.flatMap hexB
theorem hexS_snoc (l : Bs) (c : UInt8) : hexS (l ++ [c]) = hexS l ++ [hexD (c.toNat / 16)] ++ [hexD (c.toNat % 16)] := by simp [hexS, hexB]
theorem hexS_len (l : Bs) : (hexS l).length = 2 * l.length := by
  induction l with
  | nil => rfl
  | cons c r ih => simp [hexS, hexB] at ih ⊢; omega

theorem hexD_at (i : Nat) (h : i < ([48, 49, 50, 51, 52, 53, 54, 55, 56, 57, 97, 98, 99, 100, 101, 102] : Bs).length) : ([48, 49, 50, 51, 52, 53, 54, 55, 56, 57, 97, 98, 99, 100, 101, 102] : Bs)[i] = hexD i := by
  unfold hexD hexT
  rw [List.getD_eq_getElem?_getD, List.getElem?_eq_getElem h]
  rfl
theorem byte_put {B : Nat} {bs : Bs} {W : World} (h : IsB B B (Lib.byteCells bs) W) (c : UInt8) (hl : bs.length ≤ 1000000000) :
    Calls Tryd.prog 72 #[.pointer (some ⟨B, 0, none⟩), .int .u8 (c.toNat : Int)] W fun e w' => e = .returned .nilIface ∧ IsB B B (Lib.byteCells (bs ++ [c])) w' ∧ Below B W w' ∧ Lib.OthersKept 5 (some B) W w' := by
  have hlt : B < W.heap.size := by obtain ⟨c, hc⟩ := h.block; exact (Array.getElem?_eq_some_iff.1 hc).1
  refine (WriteByte_any B B _ c.toNat W h (by rw [byteCells_len]; omega) (by omega)).mono ?_
  rintro e w' ⟨rfl, h1, h2, h3⟩
  refine ⟨rfl, ?_, h2, h3⟩
  rw [byteCells_snoc] at h1
  exact .inr h1
/-- What holds at the loop's head of hex. -/
def HexR (w : World) (l : Bs) (v7 : Value) (wr : World) : Prop := ∃ k : Nat, k ≤ l.length ∧ v7 = .int .i64 (k : Int) ∧ IsB w.heap.size w.heap.size (Lib.byteCells (hexS (l.take k))) wr ∧ Below w.heap.size w wr
set_option maxRecDepth 100000 in
set_option maxHeartbeats 1600000 in
theorem hex_any (l : Bs) (hl : l.length ≤ 1000000) (w : World) :
    Calls Tryd.prog 59 #[.string ⟨l.toArray⟩] w fun e w' => e = .returned (.string ⟨(hexS l).toArray⟩) ∧ Below w.heap.size w w' := by
  go_enter Tryd.func59, Tryd.ntmps59
  go_wp2
  go_loopw [7] (fun v7 wr => HexR w l v7 wr) (fun v7 _ => l.length - (intOf v7).toNat)
  case atStart => exact ⟨0, Nat.zero_le _, rfl, IsB.new w, (Below.refl _ _).alloc (Nat.le_refl _) _⟩
  case round =>
    obtain ⟨k, hk, rfl, hb, hB⟩ := hrel
    by_cases hlt : k < l.length
    · have hx := hexS_snoc (l.take k) l[k]
      rw [← List.take_succ_eq_append_getElem hlt] at hx
      have hlen : (hexS (l.take k)).length = 2 * k := by rw [hexS_len, List.length_take]; omega
      obtain ⟨c, hcc⟩ : ∃ c, l[k] = c := ⟨_, rfl⟩
      rw [hcc] at hx
      have h255 := byte_lt c
      have q1 : (0 : Int) ≤ (c.toNat : Int) / 16 := by omega
      have q2 : (c.toNat : Int) / 16 < 16 := by omega
      have q3 : (0 : Int) ≤ (c.toNat : Int) % 16 := by omega
      have q4 : (c.toNat : Int) % 16 < 16 := by omega
      have HB := Lib.hid hb
      have HW := Lib.hid hB
      have HX := Lib.hid hx
      have HL := Lib.hid hlen
      clear hb hB hx hlen
      go_wp2_with (first | (go_at_call 72; refine (byte_put HB.out _ (by have := HL.out; omega)).mono ?_; rintro e w1 ⟨rfl, hb1, hB1, _⟩; have HB1 := Lib.hid hb1; have HW1 := Lib.hid (HW.out.trans hB1); clear hb1 hB1 HB HW) | (go_at_call 72; refine (byte_put HB1.out _ (by have := HL.out; simp; omega)).mono ?_; rintro e w2 ⟨rfl, hb2, hB2, _⟩; have HB2 := Lib.hid hb2; have HW2 := Lib.hid (HW1.out.trans hB2); clear hb2 hB2 HB1 HW1))
      go_roundw
      case rel => exact ⟨k + 1, by omega, by go_num, by have h := HB2.out; rw [hexD_at, hexD_at, ← HX.out] at h; exact h, HW2.out⟩
      case measure => simp [intOf]; omega
    · obtain rfl : k = l.length := by omega
      rw [List.take_length] at hb
      have hle : w.heap.size ≤ wr.heap.size := hB.size
      have HB := Lib.hid hb
      clear hb
      go_wp2_with (go_at_call 40; refine (Tryd.Builder_String_any_k w.heap.size w.heap.size (hexS l) _ HB.out hle).mono ?_; rintro e w1 ⟨rfl, _, hB1, _⟩; skip)
      go_ret
      exact ⟨rfl, hB.trans hB1⟩

theorem index_hex : ∀ k : Fin 16, Lib.indexByte [48, 49, 50, 51, 52, 53, 54, 55, 56, 57, 97, 98, 99, 100, 101, 102, 65, 66, 67, 68, 69, 70] (((hexD k.val).toNat : Int).toNat.toUInt8) = (k.val : Int) := by decide
set_option maxRecDepth 100000 in
theorem digit_hex (k : Nat) (hk : k < 16) (d : UInt8) (hd : d = hexD k) (w : World) : Calls Tryd.prog 71 #[.int .u8 (d.toNat : Int)] w fun e w' => e = .returned (.tuple #[.int .u8 (k : Int), .bool true]) ∧ w = w' := by
  have HI : Hid (∀ W, Calls Tryd.prog 82 #[.string ⟨#[48, 49, 50, 51, 52, 53, 54, 55, 56, 57, 97, 98, 99, 100, 101, 102, 65, 66, 67, 68, 69, 70]⟩, .int .u8 (d.toNat : Int)] W fun e w' => e = .returned (.int .i64 (k : Int)) ∧ w' = W) := fun W => by
    have := Tryd.strings_IndexByte ⟨#[48, 49, 50, 51, 52, 53, 54, 55, 56, 57, 97, 98, 99, 100, 101, 102, 65, 66, 67, 68, 69, 70]⟩ (d.toNat : Int) W
    rw [hd] at this ⊢
    rwa [show (⟨#[48, 49, 50, 51, 52, 53, 54, 55, 56, 57, 97, 98, 99, 100, 101, 102, 65, 66, 67, 68, 69, 70]⟩ : ByteArray).data.toList = [48, 49, 50, 51, 52, 53, 54, 55, 56, 57, 97, 98, 99, 100, 101, 102, 65, 66, 67, 68, 69, 70] from rfl, index_hex ⟨k, hk⟩] at this
  have t1 : decide ((15 : Int) < (k : Int)) = false := by simp <;> omega
  have t2 : decide ((0 : Int) ≤ (k : Int)) = true := by simp
  have t3 : IntKind.u8.wrap (k : Int) = (k : Int) := IntWalk.u8_in _ (by omega)
  clear hd
  go_enter Tryd.func71, Tryd.ntmps71
  go_wp2_with (go_at_call 82; refine (HI.out _).mono ?_; rintro e w' ⟨rfl, rfl⟩)
  go_ret2
  exact ⟨rfl, rfl⟩
end Go.Proofs.YtafohdmhjilleaaDoor
