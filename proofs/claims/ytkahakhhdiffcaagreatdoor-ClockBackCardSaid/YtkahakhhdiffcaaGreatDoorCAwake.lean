/- The clock's examples hold: 'awake' returns true. -/
import Derived.Test.YtkahakhhdiffcaaGreatDoorCEaster
import Derived.Test.YtkahakhhdiffcaaGreatDoorCWrite2
namespace Go.Proofs.YtkahakhhdiffcaaGreatDoor
set_option linter.unusedVariables false
set_option linter.unusedSimpArgs false
open Go.RowKit

def formA : Bs := [37, 89, 45, 37, 109, 45, 37, 100, 84, 37, 84]
def textA : Bs := [50, 48, 48, 48, 45, 48, 50, 45, 50, 57, 84, 48, 48, 58, 48, 48, 58, 48, 48]
theorem date_1 : dateC 951782400 = ⟨2000, 2, 29, 0, 0, 0⟩ := by
  have h := dateC_of (D := ⟨2000, 2, 29, 0, 0, 0⟩) ⟨⟨by decide, by decide, by decide, by decide, by decide⟩, by decide, by decide, by decide, by decide, by decide, by decide⟩
  rw [show DT.time ⟨2000, 2, 29, 0, 0, 0⟩ = 951782400 by decide] at h
  exact h
theorem date_2 : dateC 956448000 = ⟨2000, 4, 23, 0, 0, 0⟩ := by
  have h := dateC_of (D := ⟨2000, 4, 23, 0, 0, 0⟩) ⟨⟨by decide, by decide, by decide, by decide, by decide⟩, by decide, by decide, by decide, by decide, by decide, by decide⟩
  rw [show DT.time ⟨2000, 4, 23, 0, 0, 0⟩ = 956448000 by decide] at h
  exact h
theorem parts_A : partsC formA = some ([([], 89), ([45], 0), ([], 109), ([45], 0), ([], 100), ([84], 0)] ++ partT) := by decide +kernel
theorem i2000 : Lib.itoa 2000 = [50, 48, 48, 48] := by simp [Lib.itoa, Lib.decDigits]
theorem i29 : Lib.itoa 29 = [50, 57] := by simp [Lib.itoa, Lib.decDigits]
theorem i2 : Lib.itoa 2 = [50] := by simp [Lib.itoa, Lib.decDigits]
theorem i0 : Lib.itoa 0 = [48] := by simp [Lib.itoa, Lib.decDigits]
theorem tx_Y : textD 89 951782400 = [50, 48, 48, 48] := by
  show padC 4 (Lib.itoa (dateC 951782400).y) = _
  rw [date_1, i2000]; rfl
theorem tx_m : textD 109 951782400 = [48, 50] := by
  show padC 2 (Lib.itoa (dateC 951782400).m) = _
  rw [date_1, i2]; rfl
theorem tx_d : textD 100 951782400 = [50, 57] := by
  show padC 2 (Lib.itoa (dateC 951782400).d) = _
  rw [date_1, i29]; rfl
theorem tx_H : textD 72 951782400 = [48, 48] := by
  show padC 2 (Lib.itoa (dateC 951782400).h) = _
  rw [date_1, i0]; rfl
theorem tx_M : textD 77 951782400 = [48, 48] := by
  show padC 2 (Lib.itoa (dateC 951782400).mi) = _
  rw [date_1, i0]; rfl
theorem tx_S : textD 83 951782400 = [48, 48] := by
  show padC 2 (Lib.itoa (dateC 951782400).s) = _
  rw [date_1, i0]; rfl
theorem write_A : writeP 951782400 formA = (textA, 0) := by
  unfold writeP
  rw [if_pos (by decide), parts_A]
  simp only [writeC, partT, List.cons_append, List.nil_append, List.flatMap_cons, List.flatMap_nil, partText]
  simp [tx_Y, tx_m, tx_d, tx_H, tx_M, tx_S, textA]
theorem easter_A : easterC 2000 = (956448000, 0) := by
  unfold easterC
  rw [if_pos (by decide)]
  rw [show (dayNo 2000 (eMonth 2000) (eDom 2000) - 719162) * 86400 = 956448000 by decide +kernel]
theorem dates_A : datesC 956448000 = (⟨2000, 4, 23, 0, 0, 0⟩, 0) := by
  unfold datesC
  rw [if_pos (by decide), date_2]
set_option maxRecDepth 100000 in
set_option maxHeartbeats 1600000 in
theorem awake_any (w : World) (hT : SpaceIs w) (hP : PowIs w) :
    Calls Tryz.prog 6 #[] w fun e w' => e = .returned (.bool true) ∧ Below w.heap.size w w' := by
  have hw := Write_any 951782400 formA (by decide) w hT hP
  rw [write_A] at hw
  have HW := Lib.hid hw
  have HE := Lib.hid (fun W => Easter_any 2000 W)
  rw [easter_A] at HE
  have HD := Lib.hid (fun W => Date_any 956448000 W)
  rw [dates_A] at HD
  have htx : ((⟨textA.toArray⟩ : ByteArray) == ⟨#[50, 48, 48, 48, 45, 48, 50, 45, 50, 57, 84, 48, 48, 58, 48, 48, 58, 48, 48]⟩) = true := by decide
  simp only [DT.v, formA, textA] at HW HD htx
  clear hw hT hP
  go_enter Tryz.func6, Tryz.ntmps6
  go_wp2_with (first | (go_at_call 12; refine HW.out.mono ?_; rintro e w1 ⟨rfl, hb⟩) | (go_at_call 15; refine (HE.out _).mono ?_; rintro e w2 ⟨rfl, rfl⟩) | (go_at_call 16; refine (HD.out _).mono ?_; rintro e w3 ⟨rfl, hb3⟩))
  go_ret
  exact ⟨rfl, (hb.trans (hb3.mono hb.size)).alloc (Nat.le_trans hb.size hb3.size) _⟩
end Go.Proofs.YtkahakhhdiffcaaGreatDoor
