/- The sanity check of the statements on layer 1, and 'Long'. -/
import Derived.Test.YtkjeccndbdgghaaGlob2
import Derived.Test.YtkjeccndbdgghaaMap2
import Derived.Test.YtkjeccndbdgghaaPlace
namespace Go.Proofs.Ytkjeccndbdgghaa
open Go.RowKit

def isLong (ss : List Bs) : Bool := ss.any fun x => decide (400 < x.length)

set_option maxHeartbeats 400000 in
theorem Long_any (ss : List Bs) (ao : Option Addr) (cap : Nat) (hss : ss.length ≤ 9223372036854775807) (B : Nat) (w : World) (hR : SRow B w ao ss) :
    Calls Try.prog 9 #[.slice ao ss.length cap] w fun e w' => e = .returned (.bool (isLong ss)) ∧ w = w' := by
  have HR := Lib.hid hR
  clear hR
  go_enter Try.func9, Try.ntmps9
  go_wp2
  go_loop [7] (fun i => ∃ k : Nat, k ≤ ss.length ∧ i = .int .i64 k ∧ Hid (isLong (ss.take k) = false)) (fun i => ss.length - (intOf i).toNat)
  case atStart => exact ⟨0, Nat.zero_le _, rfl, rfl⟩
  case round =>
    obtain ⟨k, hk, rfl, H⟩ := hrel
    by_cases hlt : k < ss.length
    · obtain ⟨b, off, rfl, hbb, hcells⟩ := HR.out (by intro h; rw [h] at hlt; simp at hlt)
      have hc := hcells k hlt
      have HC := Lib.hid hcells
      clear hcells
      by_cases hlen : 400 < ss[k].length
      · have hr : isLong ss = true := List.any_eq_true.2 ⟨ss[k], List.getElem_mem _, by simpa using hlen⟩
        have Hr := Lib.hid hr
        clear hr
        go_wp2
        go_ret
        exact ⟨by rw [Hr.out]; rfl, rfl⟩
      · have HT : Hid (isLong (ss.take (k + 1)) = false) := by
          show _ = _
          rw [List.take_succ_eq_append_getElem hlt, isLong, List.any_append, ← isLong, H.out]
          simp; omega
        go_wp2
        go_round
        case rel => exact ⟨k + 1, by omega, by go_num, HT⟩
        case measure => simp [intOf]; omega
    · obtain rfl : k = ss.length := by omega
      rw [List.take_length] at H
      go_wp2
      go_ret
      exact ⟨by rw [H.out]; rfl, rfl⟩

theorem awake_map : lim (mapAll false [[97], [98], [98], [97]] [97, 98, 97, 98]) = ([98, 97, 98, 97], 0) := by decide +kernel
theorem awake_glob : globC [97, 42, 91, 120, 45, 122, 93, 63] [97, 98, 99, 122, 113] false = true := by decide +kernel

set_option maxRecDepth 100000 in
set_option maxHeartbeats 1000000 in
theorem awake_any (w : World) : Calls Try.prog 10 #[] w fun e w' => e = .returned (.bool true) ∧ Below w.heap.size w w' := by
  have hS : SRow (w.alloc (.cells #[.string ⟨#[97]⟩, .string ⟨#[98]⟩, .string ⟨#[98]⟩, .string ⟨#[97]⟩] 9)).heap.size (w.alloc (.cells #[.string ⟨#[97]⟩, .string ⟨#[98]⟩, .string ⟨#[98]⟩, .string ⟨#[97]⟩] 9)) (some ⟨w.heap.size, 0, none⟩) [[97], [98], [98], [97]] := by
    intro _
    refine ⟨w.heap.size, 0, rfl, by simp, fun i hi => ?_⟩
    have hb := heap_alloc_new w (.cells #[.string ⟨#[97]⟩, .string ⟨#[98]⟩, .string ⟨#[98]⟩, .string ⟨#[97]⟩] 9)
    simp only [World.cell?, hb]
    match i, hi with
    | 0, _ => rfl
    | 1, _ => rfl
    | 2, _ => rfl
    | 3, _ => rfl
  have hm := Map_any [97, 98, 97, 98] [[97], [98], [98], [97]] false _ 4 (by decide) (by decide) (by decide) (by decide) _ hS
  rw [awake_map] at hm
  have hg := fun W => Glob_any [97, 42, 91, 120, 45, 122, 93, 63] [97, 98, 99, 122, 113] false (by decide) (by decide) W
  rw [awake_glob] at hg
  have HM := Lib.hid hm
  have HG := Lib.hid hg
  clear hm hg hS
  go_enter Try.func10, Try.ntmps10
  go_wp2_with (first
    | (go_at_call 11; refine HM.out.mono ?_; rintro e w1 ⟨rfl, hb1⟩)
    | (go_at_call 47; refine (place_one _).mono ?_; rintro e w2 ⟨rfl, rfl⟩)
    | (go_at_call 13; refine (HG.out _).mono ?_; rintro e w3 ⟨rfl, hb3⟩))
  go_ret
  have hb0 : Below w.heap.size w w1 := ((Below.refl _ w).alloc (Nat.le_refl _) _).trans (hb1.mono (by simp))
  exact ⟨rfl, hb0.trans (hb3.mono hb0.size)⟩
end Go.Proofs.Ytkjeccndbdgghaa
