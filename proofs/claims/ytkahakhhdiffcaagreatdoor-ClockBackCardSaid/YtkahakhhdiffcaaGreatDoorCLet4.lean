/- The clock's map of letters, made: its contract. -/
import Derived.Test.YtkahakhhdiffcaaGreatDoorCLet3
namespace Go.Proofs.YtkahakhhdiffcaaGreatDoor
set_option linter.unusedVariables false
set_option linter.unusedSimpArgs false
open Go.RowKit
theorem cell1_new (w : World) (v : Value) (t : Nat) : (w.alloc (.cells #[v] t)).cell? ⟨w.heap.size, 0, none⟩ = some v := by
  have hb := heap_alloc_new w (.cells #[v] t)
  simp only [World.cell?, hb]; rfl
theorem of_any2 (f : Value) (hf : f.oneCell' = true) (W : World) : Calls Tryz.prog 61 #[f] W fun e w' => e = .returned (.func (.func 62) #[] #[.pointer (some ⟨W.heap.size, 0, none⟩)]) ∧ w'.cell? ⟨W.heap.size, 0, none⟩ = some f ∧ Below W.heap.size W w' :=
  (of_any f hf W).mono fun e w' ⟨h1, h2⟩ => ⟨h1, h2 ▸ cell1_new _ _ _, h2 ▸ below_alloc1 _ _⟩
theorem of_any3 (f : Value) (hf : f.oneCell' = true) (W : World) (n : Nat) (hn : W.heap.size = n) : Calls Tryz.prog 61 #[f] W fun e w' => e = .returned (.func (.func 62) #[] #[.pointer (some ⟨n, 0, none⟩)]) ∧ w'.cell? ⟨n, 0, none⟩ = some f ∧ Below W.heap.size W w' := by
  subst hn
  exact of_any2 f hf W
abbrev fv (n : Nat) : Value := .func (.func n) #[] #[]
theorem ls_new (w : World) : LS w (((w.alloc (.cells #[fv 63] 111)).alloc (.cells #[fv 64] 111)).alloc (.map #[] 0)) [] := by
  have s1 : (w.alloc (.cells #[fv 63] 111)).heap.size = w.heap.size + 1 := by simp
  have s2 : ((w.alloc (.cells #[fv 63] 111)).alloc (.cells #[fv 64] 111)).heap.size = w.heap.size + 2 := by simp
  have b1 := below_alloc1 w (.cells #[fv 63] 111)
  have b2 := below_alloc1 (w.alloc (.cells #[fv 63] 111)) (.cells #[fv 64] 111)
  have b3 := below_alloc1 ((w.alloc (.cells #[fv 63] 111)).alloc (.cells #[fv 64] 111)) (.map #[] 0)
  have c2 := cell1_new w (fv 63) 111
  have c3 := cell1_new (w.alloc (.cells #[fv 63] 111)) (fv 64) 111
  have hm := mapAt_new Tryz.prog 5 encU ((w.alloc (.cells #[fv 63] 111)).alloc (.cells #[fv 64] 111))
  rw [s1] at c3 b2
  rw [s2] at b3 hm
  refine ⟨b1.trans ((b2.mono (by omega)).trans (b3.mono (by omega))), by simp, ?_, ?_, _, hm, fun c hc => by simp at hc, fun _ _ => rfl⟩
  · exact (b3.cell (p := ⟨w.heap.size, 0, none⟩) (by show w.heap.size < _; omega)).trans ((b2.cell (p := ⟨w.heap.size, 0, none⟩) (by show w.heap.size < _; omega)).trans c2)
  · exact (b3.cell (p := ⟨w.heap.size + 1, 0, none⟩) (by show w.heap.size + 1 < _; omega)).trans c3
theorem short_v (l : List Bs) (hl0 : 0 < l.length) (b : Nat) (hl : l.length ≤ 100) (h3 : ∀ x ∈ l, 3 ≤ x.length ∧ x.length ≤ 1000) (w : World) (hb : b < w.heap.size) (hr : SRow w b l) :
    Calls Tryz.prog 77 #[.slice (some ⟨b, 0, none⟩) l.length l.length] w fun e w' => ∃ g cap, e = .returned (.slice (some ⟨g, 0, none⟩) l.length cap) ∧ w.heap.size ≤ g ∧ SRow w' g (l.map (·.take 3)) ∧ Below w.heap.size w w' := by
  refine (short_any l b hl h3 w hb hr).mono ?_
  rintro e w' ⟨v, rfl, hown, hbw⟩
  have hown2 := hown
  rcases hown2.2 with ⟨_, h0⟩ | ⟨g, cap, cur, rfl, hg, _⟩
  · omega
  · refine ⟨g, cap, rfl, hg, fun i x hi => ?_, hbw⟩
    have hil : i < l.length := by have := (List.getElem?_eq_some_iff.1 hi).1; simpa using this
    rw [hown.cellAt i (by omega)]
    simp only [List.getElem?_map] at hi ⊢
    obtain ⟨y, hy, rfl⟩ := Option.map_eq_some_iff.1 hi
    rw [hy]; rfl
theorem short_months (b : Nat) (w : World) (hb : b < w.heap.size) (hr : SRow w b monthsL) :
    Calls Tryz.prog 77 #[.slice (some ⟨b, 0, none⟩) 12 12] w fun e w' => ∃ g cap, e = .returned (.slice (some ⟨g, 0, none⟩) 12 cap) ∧ w.heap.size ≤ g ∧ SRow w' g (monthsL.map (·.take 3)) ∧ Below w.heap.size w w' :=
  short_v monthsL (by decide) b (by decide) (by decide) w hb hr
theorem short_weekdays (b : Nat) (w : World) (hb : b < w.heap.size) (hr : SRow w b weekdaysL) :
    Calls Tryz.prog 77 #[.slice (some ⟨b, 0, none⟩) 7 7] w fun e w' => ∃ g cap, e = .returned (.slice (some ⟨g, 0, none⟩) 7 cap) ∧ w.heap.size ≤ g ∧ SRow w' g (weekdaysL.map (·.take 3)) ∧ Below w.heap.size w w' :=
  short_v weekdaysL (by decide) b (by decide) (by decide) w hb hr
theorem pm_new (w : World) : SRow (w.alloc (.cells #[.string ⟨#[65, 77]⟩, .string ⟨#[80, 77]⟩] 9)) w.heap.size [[65, 77], [80, 77]] := srow_new w [[65, 77], [80, 77]] 9
def keysC : List Int := [115, 97, 65, 98, 66, 86, 71, 117, 106, 112, 73, 101, 83, 77, 72, 100, 109, 121, 89]

set_option maxRecDepth 100000 in
set_option maxHeartbeats 6400000 in
theorem letters_any (w : World) (hT : SpaceIs w) :
    Calls Tryz.prog 34 #[] w fun e w' => e = .returned (.map (some (w.heap.size + 2))) ∧ LS w w' keysC := by
  have HSP := Lib.hid hT
  have hmk := fun W : World => run_makeMap (P := Tryz.prog) (w := W) 78
  clear hT
  go_enter Tryz.func34, Tryz.ntmps34
  repeat (
    go_wp2_with (first
      | (go_at_call 61; have hne := Nat.ne_of_gt HS.out.lt; refine (of_any2 _ rfl _).mono ?_; rintro e w1 ⟨rfl, hcl, hb1⟩; replace HS := Lib.hid (HS.out.step hb1))
      | (go_at_call 61; refine (of_any3 _ rfl _ (w.heap.size + 3) (by simp)).mono ?_; rintro e w1 ⟨rfl, hcl, hb1⟩; have HS := Lib.hid ((ls_new w).step hb1); have hne : w.heap.size + 3 ≠ w.heap.size + 2 := (by omega))
      | (go_at_call 61; refine (of_any _ rfl _).mono ?_; rintro e w1 ⟨rfl, rfl⟩)
      | (go_at_call 76; have hne := Nat.ne_of_gt HS.out.lt; refine (months_any _ (HSP.out.below HS.out.below)).mono ?_; rintro e w1 ⟨rfl, hrow, hb1, hlt1⟩; replace HS := Lib.hid (HS.out.step hb1))
      | (go_at_call 78; have hne := Nat.ne_of_gt HS.out.lt; refine (weekdays_any _ (HSP.out.below HS.out.below)).mono ?_; rintro e w1 ⟨rfl, hrow, hb1, hlt1⟩; replace HS := Lib.hid (HS.out.step hb1))
      | (go_at_call 77; have hlt2 := HS.out.lt; first | (refine (short_months _ _ hlt1 hrow).mono ?_; rintro e w1 ⟨g, cap, rfl, hge, hrow, hb1⟩; replace HS := Lib.hid (HS.out.step hb1); have hne : g ≠ w.heap.size + 2 := (by omega)) | (refine (short_weekdays _ _ hlt1 hrow).mono ?_; rintro e w1 ⟨g, cap, rfl, hge, hrow, hb1⟩; replace HS := Lib.hid (HS.out.step hb1); have hne : g ≠ w.heap.size + 2 := (by omega))))
    first
      | (refine upon_letter HS.out ?_ ?_ ?_
         focus omega
         focus (first | exact ⟨_, _, _, rfl, rfl, rfl, .inl ⟨rfl, rfl⟩⟩ | exact ⟨_, _, _, rfl, rfl, ⟨_, hne, rfl, hcl⟩, .inl ⟨rfl, rfl⟩⟩ | exact ⟨_, _, _, rfl, rfl, ⟨_, by omega, rfl, HS.out.m2⟩, .inl ⟨rfl, rfl⟩⟩ | exact ⟨_, _, _, rfl, rfl, ⟨_, by omega, rfl, HS.out.m3⟩, .inl ⟨rfl, rfl⟩⟩ | exact ⟨_, _, _, rfl, rfl, ⟨_, by omega, rfl, HS.out.m2⟩, .inr ⟨_, _, hne, rfl, hrow, by decide⟩⟩ | exact ⟨_, _, _, rfl, rfl, rfl, .inr ⟨_, _, hne, rfl, hrow, by decide⟩⟩)
         intro w1 hs
         replace HS := Lib.hid hs
         clear hs)
      | (refine upon_letter (HS.out.step (below_alloc1 _ _)) ?_ ?_ ?_
         focus omega
         focus (exact ⟨_, _, _, rfl, rfl, ⟨_, hne, rfl, ((below_alloc1 _ _).cell (cell_lt hcl)).trans hcl⟩, .inr ⟨_, _, Nat.ne_of_gt HS.out.lt, rfl, pm_new _, by decide⟩⟩)
         intro w1 hs
         replace HS := Lib.hid hs
         clear hs))
  go_wp2_with fail
  go_ret
  exact ⟨rfl, HS.out⟩
end Go.Proofs.YtkahakhhdiffcaaGreatDoor
