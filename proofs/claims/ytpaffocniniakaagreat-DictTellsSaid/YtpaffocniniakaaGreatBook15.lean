/- Long, awake. -/
import Derived.Test.YtpaffocniniakaaGreatBookC
namespace Go.Proofs.YtpaffocniniakaaGreat
set_option linter.unusedVariables false
set_option linter.unusedSimpArgs false
open Go.RowKit Go.MapKept Go.WideMaps

/-- The sum of lengths that 'Long' makes. -/
def longS : List Bs → Nat
  | [] => 0
  | s :: r => s.length + 1 + longS r
theorem longS_append (a b : List Bs) : longS (a ++ b) = longS a + longS b := by
  induction a with
  | nil => simp [longS]
  | cons s r ih => simp only [List.cons_append, longS, ih]; omega
theorem longS_take {ss : List Bs} {k : Nat} (h : k < ss.length) : longS (ss.take (k + 1)) = longS (ss.take k) + ss[k].length + 1 := by
  rw [List.take_succ_eq_append_getElem h, longS_append]
  simp only [longS]; omega
theorem longS_le (ss : List Bs) (k : Nat) : longS (ss.take k) ≤ longS ss := by
  conv => rhs; rw [← List.take_append_drop k ss, longS_append]
  omega
set_option maxHeartbeats 400000 in
theorem Long_any (ss : List Bs) (v : Value) (w : World) (hno : longS ss ≤ 9223372036854775807) (ht : TxtRow w v ss) :
    Calls Tryz.prog 4 #[v] w fun e w' => e = .returned (.bool (decide (1500 < longS ss))) ∧ w = w' := by
  obtain ⟨o, c, rfl, _⟩ := id ht
  obtain ⟨_, h1, h2, h3⟩ := ht.at_
  have HT := Lib.hid h3
  have HNO := Lib.hid hno
  unfold maxLen at h2
  clear ht hno h3
  go_enter Tryz.func4, Tryz.ntmps4
  go_wp2
  go_loop [3, 8] (fun a i => ∃ k : Nat, k ≤ ss.length ∧ i = .int .i64 k ∧ a = .int .i64 (longS (ss.take k))) (fun a i => ss.length - (intOf i).toNat)
  case atStart => exact ⟨0, Nat.zero_le _, rfl, rfl⟩
  case round =>
    obtain ⟨k, hk, rfl, rfl⟩ := hrel
    by_cases hlt : k < ss.length
    · obtain ⟨b, off, rfl, hbb, hc⟩ := HT.out k hlt
      have e1 := longS_take hlt
      have e2 := longS_le ss (k + 1)
      have e3 := HNO.out
      have hS : Hid (longS (ss.take (k + 1)) = longS (ss.take k) + ss[k].length + 1) := e1
      have b1 : longS (ss.take k) + (ss[k].length + 1) ≤ 9223372036854775807 := by omega
      clear e1 e2 e3
      generalize longS (ss.take k) = m at *
      go_wp2
      go_round
      case rel => exact ⟨k + 1, by omega, by go_num, by rw [hS.out]; go_num⟩
      case measure => simp [intOf]; omega
    · obtain rfl : k = ss.length := by omega
      rw [List.take_length]
      have e3 := HNO.out
      go_wp2
      go_ret
      exact ⟨by simp; omega, rfl⟩
/-- A slice of texts just made. -/
theorem txt_new (w : World) (ss : List Bs) (hl : ss.length ≤ maxLen) : TxtRow (w.alloc (.cells (ss.map sv).toArray 9)) (.slice (some ⟨w.heap.size, 0, none⟩) ss.length ss.length) ss := by
  refine ⟨_, _, rfl, Nat.le_refl _, hl, fun i hi => ⟨_, _, rfl, by simp, ?_⟩⟩
  have h := World.alloc_heap_new w (.cells (ss.map sv).toArray 9)
  simp only [World.cell?, h]
  simp [hi]
/-- What 'awake' asks. -/
theorem awake_can : canonC [97, 32, 49, 32, 98, 32, 50, 32, 97, 32, 51] = ([97, 32, 51, 32, 98, 32, 50], 0) := by decide +kernel
theorem awake_set : setC [] [[120], [121]] [53] = ([120, 32, 123, 121, 32, 53, 125], 0) := by decide +kernel
set_option maxRecDepth 100000 in
set_option maxHeartbeats 1600000 in
theorem awake_any (w : World) (hM : MaxIs w) : Calls Tryz.prog 5 #[] w fun e w' => e = .returned (.bool true) ∧ Below w.heap.size w w' := by
  have CAN : Hid (Calls Tryz.prog 6 #[.string ⟨([97, 32, 49, 32, 98, 32, 50, 32, 97, 32, 51] : Bs).toArray⟩] w fun e w' => e = .returned (.tuple #[.string ⟨([97, 32, 51, 32, 98, 32, 50] : Bs).toArray⟩, .int .i64 0]) ∧ Below w.heap.size w w') := by
    have h := Canonical_any [97, 32, 49, 32, 98, 32, 50, 32, 97, 32, 51] (by decide) w hM
    rw [awake_can] at h
    exact h
  have SET : Hid (∀ w', Below w.heap.size w w' → Calls Tryz.prog 23 #[.string ⟨#[]⟩, .slice (some ⟨w'.heap.size, 0, none⟩) 2 2, .string ⟨#[53]⟩] (w'.alloc (.cells #[.string ⟨#[120]⟩, .string ⟨#[121]⟩] 9)) fun e w2 => e = .returned (.tuple #[.string ⟨([120, 32, 123, 121, 32, 53, 125] : Bs).toArray⟩, .int .i64 0]) ∧ Below w.heap.size w w2) := by
    intro w' hB
    have hM1 := hM.below hB hM.pos
    have hB1 : Below w'.heap.size w' (w'.alloc (.cells #[.string ⟨#[120]⟩, .string ⟨#[121]⟩] 9)) := (Below.refl _ _).alloc (Nat.le_refl _) _
    have hT : TxtRow (w'.alloc (.cells #[.string ⟨#[120]⟩, .string ⟨#[121]⟩] 9)) (.slice (some ⟨w'.heap.size, 0, none⟩) 2 2) [[120], [121]] := by
      exact txt_new w' [[120], [121]] (by decide)
    have h := Set_any [] [[120], [121]] [53] _ _ (hM1.below hB1 hM1.pos) (by decide) (by decide) hT
    rw [awake_set] at h
    exact h.mono fun e w2 ⟨h1, h2⟩ => ⟨h1, hB.trans ((hB1.trans (h2.mono hB1.size)).mono hB.size)⟩
  have HW := Lib.hid hM
  clear hM
  go_enter Tryz.func5, Tryz.ntmps5
  go_wp2_with (first | (go_at_call 6; refine CAN.out.mono ?_; rintro e w1 ⟨rfl, hB1⟩; have H1 := Lib.hid hB1; clear hB1) | (go_at_call 23; refine (SET.out _ H1.out).mono ?_; rintro e w2 ⟨rfl, hB2⟩; have H2 := Lib.hid hB2; clear hB2))
  go_ret
  exact ⟨rfl, H2.out⟩
end Go.Proofs.YtpaffocniniakaaGreat
