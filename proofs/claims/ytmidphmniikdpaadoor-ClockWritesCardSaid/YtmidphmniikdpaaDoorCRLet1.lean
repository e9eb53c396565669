/- Contracts of the reference's digits and names, and of what its letters write. -/
import Derived.Test.YtmidphmniikdpaaDoorCWeek2
import Derived.Test.YtmidphmniikdpaaDoorCWrite2
namespace Go.Proofs.YtmidphmniikdpaaDoor
set_option linter.unusedVariables false
set_option linter.unusedSimpArgs false
open Go.RowKit
attribute [local go_sem] ba_append

theorem padC_none {d : Int} {l : Bs} (h : d ≤ l.length) : padC d l = l := by
  unfold padC
  rw [show (d - l.length).toNat = 0 by omega]; rfl
theorem itoa_pos (n : Int) : 1 ≤ (Lib.itoa n).length := by
  unfold Lib.itoa
  split
  · simp
  · rw [Lib.decDigits_length]; exact Lib.nDigits_pos _
theorem repeatL_48 (j : Nat) (l : Bs) : Lib.repeatL [48] (j + 1) ++ l = 48 :: (Lib.repeatL [48] j ++ l) := rfl
set_option maxRecDepth 100000 in
theorem rdigits_any (n : Int) (k : Int) (h0 : -9223372036854775808 ≤ n) (h1 : n ≤ 9223372036854775807) (hk : 0 ≤ k) (hk2 : k ≤ 100) (w : World) (hP : PowIs w) :
    Calls Tryd.prog 90 #[.int .i64 n, .int .i64 k] w fun e w' => e = .returned (.string ⟨(padC k (Lib.itoa n)).toArray⟩) ∧ Below w.heap.size w w' := by
  have HI := Lib.hid (itoa_any n h0 h1 w hP)
  have hl := Lib.itoa_length_le n h0 h1
  generalize Lib.itoa n = q at *
  have HZ : Hid (∀ j : Nat, ⟨#[48]⟩ ++ (⟨(Lib.repeatL [48] j ++ q).toArray⟩ : ByteArray) = ⟨(Lib.repeatL [48] (j + 1) ++ q).toArray⟩) := fun j => ba_append [48] _
  have HLn : Hid (∀ j : Nat, (Lib.repeatL [48] j ++ q).length = j + q.length) := by intro j; rw [List.length_append, Lib.repeatL_length]; simp
  clear hP h0 h1
  go_enter Tryd.func90, Tryd.ntmps90
  go_wp2_with (go_at_call 88; refine HI.out.mono ?_; rintro e w1 ⟨rfl, hb⟩)
  go_loopw [5] (fun v5 wr => ∃ (j : Nat) (x : Bs), v5 = .string ⟨x.toArray⟩ ∧ Hid (x = Lib.repeatL [48] j ++ q) ∧ x.length = j + q.length ∧ wr = w1 ∧ (j = 0 ∨ (j : Int) + q.length ≤ k)) (fun v5 _ => (200 : Nat) - (match v5 with | .string s => s.size | _ => 0))
  case atStart => exact ⟨0, q, by first | trivial | rfl, rfl, by simp, by first | trivial | rfl, .inl rfl⟩
  case round =>
    obtain ⟨j, x, rfl, HX, hxl, rfl, hj⟩ := hrel
    have hxb : x.length ≤ 130 := by omega
    by_cases hlt : (x.length : Int) < k
    · go_wp2_with fail
      go_roundw
      case rel => exact ⟨j + 1, 48 :: x, by first | trivial | rfl, by show _ = _; rw [HX.out]; rfl, by simp; omega, by first | trivial | rfl, .inr (by push_cast; omega)⟩
      case measure => show 200 - (48 :: x).length < 200 - x.length; simp; omega
    · have hres : padC k q = x := by
        unfold padC
        rw [HX.out]
        congr 2
        omega
      go_wp2_with fail
      go_ret
      exact ⟨by first | rfl | rw [hres], hb⟩
set_option maxRecDepth 100000 in
theorem rmonths_any (w : World) :
    Calls Tryd.prog 91 #[] w fun e w' => e = .returned (.slice (some ⟨w.heap.size, 0, none⟩) 12 12) ∧ SRow w' w.heap.size monthsL ∧ Below w.heap.size w w' := by
  have hr := srow_new w monthsL 9
  have HR := Lib.hid hr
  clear hr
  go_enter Tryd.func91, Tryd.ntmps91
  go_wp2_with fail
  go_ret
  exact ⟨rfl, HR.out, below_alloc1 _ _⟩
set_option maxRecDepth 100000 in
theorem rweekdays_any (w : World) :
    Calls Tryd.prog 92 #[] w fun e w' => e = .returned (.slice (some ⟨w.heap.size, 0, none⟩) 7 7) ∧ SRow w' w.heap.size weekdaysL ∧ Below w.heap.size w w' := by
  have hr := srow_new w weekdaysL 9
  have HR := Lib.hid hr
  clear hr
  go_enter Tryd.func92, Tryd.ntmps92
  go_wp2_with fail
  go_ret
  exact ⟨rfl, HR.out, below_alloc1 _ _⟩
end Go.Proofs.YtmidphmniikdpaaDoor
