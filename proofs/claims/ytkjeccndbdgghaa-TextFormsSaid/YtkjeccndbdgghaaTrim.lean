/- 'Detail', 'Title' and 'Trim' of both packages. -/
import Derived.Test.YtkjeccndbdgghaaShelf
import Derived.Test.YtkjeccndbdgghaaEach
import Derived.Test.YtkjeccndbdgghaaRef1
import Derived.Test.YtkjeccndbdgghaaFormP
import Derived.Test.YtkjeccndbdgghaaRepeat
import Derived.BigQuiet
import Derived.Deep.QuietTactic
import Derived.Deep.RegionHeld3
import Derived.Deep.LoopGhost
namespace Go.Proofs.Ytkjeccndbdgghaa
open Go.RowKit

set_option maxHeartbeats 400000 in
theorem Detail_any (s : Bs) (hs : s.length ≤ 1000000) (w : World) :
    Calls Try.prog 31 #[.string ⟨s.toArray⟩] w fun e w' => e = .returned (.string ⟨(s.take 40).toArray⟩) ∧ w = w' := by
  by_cases h : s.length ≤ 40
  · have h1 : min (s.length : Int) 40 = (s.length : Int) := by omega
    go_enter Try.func31, Try.ntmps31
    go_wp2_with fail
    go_ret
    exact ⟨by rw [List.take_of_length_le h]; simp, rfl⟩
  · have h1 : min (s.length : Int) 40 = 40 := by omega
    have h2 : (40 : Int) ≤ s.length := by omega
    have h3 : 40 ≤ s.length := by omega
    go_enter Try.func31, Try.ntmps31
    go_wp2_with fail
    go_ret
    exact ⟨rfl, rfl⟩

set_option maxHeartbeats 400000 in
theorem rDetail_any (s : Bs) (hs : s.length ≤ 1000000) (w : World) :
    Calls Try.prog 32 #[.string ⟨s.toArray⟩] w fun e w' => e = .returned (.string ⟨(s.take 40).toArray⟩) ∧ w = w' := by
  by_cases h : s.length ≤ 40
  · have h1 : min (s.length : Int) 40 = (s.length : Int) := by omega
    go_enter Try.func32, Try.ntmps32
    go_wp2_with fail
    go_ret
    exact ⟨by rw [List.take_of_length_le h]; simp, rfl⟩
  · have h1 : min (s.length : Int) 40 = 40 := by omega
    have h2 : (40 : Int) ≤ s.length := by omega
    have h3 : 40 ≤ s.length := by omega
    go_enter Try.func32, Try.ntmps32
    go_wp2_with fail
    go_ret
    exact ⟨rfl, rfl⟩

/-- 'Title'. -/
def titleS (s : Bs) : Bs := upS (s.take 1) ++ lowS (s.drop 1)

attribute [local go_sem] ba_append in
set_option maxRecDepth 100000 in
set_option maxHeartbeats 1600000 in
theorem Title_any (s : Bs) (hs : s.length ≤ 1000000) (w : World) :
    Calls Try.prog 23 #[.string ⟨s.toArray⟩] w fun e w' => e = .returned (.string ⟨(titleS s).toArray⟩) ∧ Below w.heap.size w w' := by
  by_cases h : s = []
  · subst h
    go_enter Try.func23, Try.ntmps23
    go_wp2_with fail
    go_ret
    exact ⟨rfl, Below.refl _ _⟩
  · have hl : 0 < s.length := List.length_pos_iff.2 h
    have h1 : 1 ≤ s.length := hl
    have h2 : (1 : Int) ≤ s.length := by omega
    have h3 : s.isEmpty = false := by cases s with | nil => exact absurd rfl h | cons _ _ => rfl
    have HU := Lib.hid (fun W => Upper_any (s.take 1) (by simp; omega) W)
    have hdt : s.drop 1 = s.tail.take (s.length - 1) := by rw [List.drop_one, List.take_of_length_le (by simp)]
    have HL := Lib.hid (fun W => Lower_any (s.drop 1) (by simp; omega) W)
    have HT : Hid (titleS s = upS (s.take 1) ++ lowS (s.drop 1)) := rfl
    have hlu : (upS (s.take 1)).length ≤ 1000000 := by simp [upS]; omega
    have hll : (lowS (s.drop 1)).length ≤ 1000000 := by simp [lowS]; omega
    have hcat : ¬ (9223372036854775807 < (upS (s.take 1)).length + (lowS (s.drop 1)).length) := by omega
    generalize upS (s.take 1) = a at *
    generalize lowS (s.drop 1) = b at *
    rw [hdt] at HL
    clear hdt
    obtain ⟨S0, hS0⟩ : ∃ S0 : World → Prop, S0 = fun w' => Below w.heap.size w w' := ⟨_, rfl⟩
    have k0 : S0 w := by rw [hS0]; exact Below.refl _ _
    have k1 : ∀ W, S0 W → S0 W.drew := by intro W hW; rw [hS0] at hW ⊢; exact hW.drew
    have k2 : ∀ W W', S0 W → Below W.heap.size W W' → S0 W' := by intro W W' hW hb; rw [hS0] at hW ⊢; exact hW.trans (hb.mono hW.size)
    have k3 : Hid (∀ W, S0 W → Below w.heap.size w W) := by intro W hW; rw [hS0] at hW; exact hW
    clear hS0
    go_enter Try.func23, Try.ntmps23
    go_wp2_with fail
    go_region_held3 (fun w' => S0 w') (first | assumption | (exact k1 _ (by assumption)) | (exact k2 _ _ (by assumption) hbx) | (exact k2 _ _ (k1 _ (by assumption)) hbx)) (first | (go_at_call 21; refine (HU.out _).mono ?_; rintro e w2 ⟨rfl, hbx⟩) | (go_at_call 19; refine (HL.out _).mono ?_; rintro e w2 ⟨rfl, hbx⟩))
    all_goals (go_wp2_with fail; go_ret; exact ⟨by rw [HT.out]; rfl, k3.out _ (by assumption)⟩)
attribute [local go_sem] ba_append in
set_option maxRecDepth 100000 in
set_option maxHeartbeats 1600000 in
theorem rTitle_any (s : Bs) (hs : s.length ≤ 1000000) (w : World) :
    Calls Try.prog 24 #[.string ⟨s.toArray⟩] w fun e w' => e = .returned (.string ⟨(titleS s).toArray⟩) ∧ Below w.heap.size w w' := by
  by_cases h : s = []
  · subst h
    go_enter Try.func24, Try.ntmps24
    go_wp2_with fail
    go_ret
    exact ⟨rfl, Below.refl _ _⟩
  · have hl : 0 < s.length := List.length_pos_iff.2 h
    have h1 : 1 ≤ s.length := hl
    have h2 : (1 : Int) ≤ s.length := by omega
    have h3 : s.isEmpty = false := by cases s with | nil => exact absurd rfl h | cons _ _ => rfl
    have HU := Lib.hid (fun W => rUpper_any (s.take 1) (by simp; omega) W)
    have hdt : s.drop 1 = s.tail.take (s.length - 1) := by rw [List.drop_one, List.take_of_length_le (by simp)]
    have HL := Lib.hid (fun W => rLower_any (s.drop 1) (by simp; omega) W)
    have HT : Hid (titleS s = upS (s.take 1) ++ lowS (s.drop 1)) := rfl
    have hlu : (upS (s.take 1)).length ≤ 1000000 := by simp [upS]; omega
    have hll : (lowS (s.drop 1)).length ≤ 1000000 := by simp [lowS]; omega
    have hcat : ¬ (9223372036854775807 < (upS (s.take 1)).length + (lowS (s.drop 1)).length) := by omega
    generalize upS (s.take 1) = a at *
    generalize lowS (s.drop 1) = b at *
    rw [hdt] at HL
    clear hdt
    obtain ⟨S0, hS0⟩ : ∃ S0 : World → Prop, S0 = fun w' => Below w.heap.size w w' := ⟨_, rfl⟩
    have k0 : S0 w := by rw [hS0]; exact Below.refl _ _
    have k1 : ∀ W, S0 W → S0 W.drew := by intro W hW; rw [hS0] at hW ⊢; exact hW.drew
    have k2 : ∀ W W', S0 W → Below W.heap.size W W' → S0 W' := by intro W W' hW hb; rw [hS0] at hW ⊢; exact hW.trans (hb.mono hW.size)
    have k3 : Hid (∀ W, S0 W → Below w.heap.size w W) := by intro W hW; rw [hS0] at hW; exact hW
    clear hS0
    go_enter Try.func24, Try.ntmps24
    go_wp2_with fail
    go_region_held3 (fun w' => S0 w') (first | assumption | (exact k1 _ (by assumption)) | (exact k2 _ _ (by assumption) hbx) | (exact k2 _ _ (k1 _ (by assumption)) hbx)) (first | (go_at_call 22; refine (HU.out _).mono ?_; rintro e w2 ⟨rfl, hbx⟩) | (go_at_call 20; refine (HL.out _).mono ?_; rintro e w2 ⟨rfl, hbx⟩))
    all_goals (go_wp2_with fail; go_ret; exact ⟨by rw [HT.out]; rfl, k3.out _ (by assumption)⟩)
end Go.Proofs.Ytkjeccndbdgghaa
