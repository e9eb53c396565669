/- TopWords: 'awake9': the examples. -/
import Derived.Test.YteojlmpipfajoaaGreatDoorTopL
import Derived.Test.YteojlmpipfajoaaGreatDoorBookC
namespace Go.Proofs.YteojlmpipfajoaaGreatDoor
set_option linter.unusedVariables false
set_option linter.unusedSimpArgs false
open Go.RowKit
theorem awake9_quoted : joinL [[97, 32, 98], [36, 120]] = [123, 97, 32, 98, 125, 32, 123, 36, 120, 125] := by decide +kernel
theorem awake9_set : setC [123, 97, 32, 98, 125, 32, 123, 36, 120, 125] [[107]] [] = ([123, 97, 32, 98, 125, 32, 123, 36, 120, 125, 32, 107, 32, 123, 125], 0) := by decide +kernel
theorem awake9_any (w : World) (hM : MaxIs w) : Calls Tryz.prog 5 #[] w fun e w' => e = .returned (.bool true) ∧ Below w.heap.size w w' := by
  have QT : Hid (Calls Tryz.prog 8 #[.slice (some ⟨w.heap.size, 0, none⟩) 2 2] (w.alloc (.cells #[.string ⟨#[97, 32, 98]⟩, .string ⟨#[36, 120]⟩] 9)) fun e w' => e = .returned (.string ⟨([123, 97, 32, 98, 125, 32, 123, 36, 120, 125] : Bs).toArray⟩) ∧ Below w.heap.size w w') := by
    have hB1 : Below w.heap.size w (w.alloc (.cells #[.string ⟨#[97, 32, 98]⟩, .string ⟨#[36, 120]⟩] 9)) := (Below.refl _ _).alloc (Nat.le_refl _) _
    have h := Quoted_any [[97, 32, 98], [36, 120]] _ _ (hM.below hB1 hM.pos) (txt_new w [[97, 32, 98], [36, 120]] (by decide)) (by decide) (by decide) (by rw [awake9_quoted]; decide)
    rw [awake9_quoted] at h
    exact h.mono fun e w2 ⟨h1, h2⟩ => ⟨h1, hB1.trans (h2.mono hB1.size)⟩
  have LE : Hid (∀ w', Below w.heap.size w w' → Calls Tryz.prog 16 #[.string ⟨([123, 97, 32, 98, 125, 32, 123, 36, 120, 125] : Bs).toArray⟩] w' fun e w2 => e = .returned (.tuple #[.int .i64 2, .int .i64 0]) ∧ Below w.heap.size w w2) := by
    intro w' hB
    have h := Length_any [123, 97, 32, 98, 125, 32, 123, 36, 120, 125] (by decide) [[97, 32, 98], [36, 120]] (by rw [← awake9_quoted]; exact split_join _) (by decide) w'
    exact h.mono fun e w2 ⟨h1, h2⟩ => ⟨h1, hB.trans (h2.mono hB.size)⟩
  have SET : Hid (∀ w', Below w.heap.size w w' → Calls Tryz.prog 17 #[.string ⟨([123, 97, 32, 98, 125, 32, 123, 36, 120, 125] : Bs).toArray⟩, .slice (some ⟨w'.heap.size, 0, none⟩) 1 1, .string ⟨#[]⟩] (w'.alloc (.cells #[.string ⟨#[107]⟩] 9)) fun e w2 => e = .returned (.tuple #[.string ⟨([123, 97, 32, 98, 125, 32, 123, 36, 120, 125, 32, 107, 32, 123, 125] : Bs).toArray⟩, .int .i64 0]) ∧ Below w.heap.size w w2) := by
    intro w' hB
    have hM1 := hM.below hB hM.pos
    have hB1 : Below w'.heap.size w' (w'.alloc (.cells #[.string ⟨#[107]⟩] 9)) := (Below.refl _ _).alloc (Nat.le_refl _) _
    have hT : TxtRow (w'.alloc (.cells #[.string ⟨#[107]⟩] 9)) (.slice (some ⟨w'.heap.size, 0, none⟩) 1 1) [[107]] := txt_new w' [[107]] (by decide)
    have h := Set_any [123, 97, 32, 98, 125, 32, 123, 36, 120, 125] [[107]] [] _ _ (hM1.below hB1 hM1.pos) (by decide) (by decide) hT
    rw [awake9_set] at h
    exact h.mono fun e w2 ⟨h1, h2⟩ => ⟨h1, hB.trans ((hB1.trans (h2.mono hB1.size)).mono hB.size)⟩
  clear hM
  go_enter Tryz.func5, Tryz.ntmps5
  go_wp2_with (first | (go_at_call 8; refine QT.out.mono ?_; rintro e w1 ⟨rfl, hB1⟩; have H1 := Lib.hid hB1; clear hB1) | (go_at_call 16; refine (LE.out _ H1.out).mono ?_; rintro e w2 ⟨rfl, hB2⟩; have H2 := Lib.hid hB2; clear hB2) | (go_at_call 17; refine (SET.out _ H2.out).mono ?_; rintro e w3 ⟨rfl, hB3⟩; have H3 := Lib.hid hB3; clear hB3))
  go_ret
  exact ⟨rfl, H3.out⟩
end Go.Proofs.YteojlmpipfajoaaGreatDoor
