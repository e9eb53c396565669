/- Contracts of the units: seconds, months, unitOf, asked. -/
import Derived.Test.YtmidphmniikdpaaDoorCAddP
import Derived.Test.YtmidphmniikdpaaDoorCLet2
import Derived.Deep.RegionWith
namespace Go.Proofs.YtmidphmniikdpaaDoor
set_option linter.unusedVariables false
set_option linter.unusedSimpArgs false
open Go.RowKit

def unitL : List Bs := [[115, 101, 99, 111, 110, 100], [109, 105, 110, 117, 116, 101], [104, 111, 117, 114], [100, 97, 121], [119, 101, 101, 107], [109, 111, 110, 116, 104], [121, 101, 97, 114]]
def unitFrom : List Bs → Nat → Bs → Option Nat
  | [], _, _ => none
  | x :: r, i, s => if x = s then some i else unitFrom r (i + 1) s
def unitC (s : Bs) : Option Nat := unitFrom unitL 0 s
def unitV (i : Nat) : Value := .string ⟨(unitL.getD i []).toArray⟩
def unitA : Value := .agg #[.string ⟨#[115, 101, 99, 111, 110, 100]⟩, .string ⟨#[109, 105, 110, 117, 116, 101]⟩, .string ⟨#[104, 111, 117, 114]⟩, .string ⟨#[100, 97, 121]⟩, .string ⟨#[119, 101, 101, 107]⟩, .string ⟨#[109, 111, 110, 116, 104]⟩, .string ⟨#[121, 101, 97, 114]⟩]
def secA : Value := .agg #[.int .i64 1, .int .i64 60, .int .i64 3600, .int .i64 86400, .int .i64 604800, .int .i64 0, .int .i64 0]
def monA : Value := .agg #[.int .i64 0, .int .i64 0, .int .i64 0, .int .i64 0, .int .i64 0, .int .i64 1, .int .i64 12]
theorem nat7 {P : Nat → Prop} (h0 : P 0) (h1 : P 1) (h2 : P 2) (h3 : P 3) (h4 : P 4) (h5 : P 5) (h6 : P 6) : ∀ u : Nat, u < 7 → P u := by
  intro u hu
  have : u = 0 ∨ u = 1 ∨ u = 2 ∨ u = 3 ∨ u = 4 ∨ u = 5 ∨ u = 6 := by omega
  rcases this with rfl | rfl | rfl | rfl | rfl | rfl | rfl <;> assumption
theorem unit_ix : ∀ u : Nat, u < 7 → ∀ w, (Instr.index 113 unitA (.int .i64 (u : Int))).run Tryd.prog w = .ok (unitV u) w :=
  nat7 (fun w => by kernel_rfl) (fun w => by kernel_rfl) (fun w => by kernel_rfl) (fun w => by kernel_rfl) (fun w => by kernel_rfl) (fun w => by kernel_rfl) (fun w => by kernel_rfl)
theorem sec_ix : ∀ u : Nat, u < 7 → ∀ w, (Instr.index 101 secA (.int .i64 (u : Int))).run Tryd.prog w = .ok (.int .i64 (secU u)) w :=
  nat7 (fun w => by kernel_rfl) (fun w => by kernel_rfl) (fun w => by kernel_rfl) (fun w => by kernel_rfl) (fun w => by kernel_rfl) (fun w => by kernel_rfl) (fun w => by kernel_rfl)
theorem mon_ix : ∀ u : Nat, u < 7 → ∀ w, (Instr.index 101 monA (.int .i64 (u : Int))).run Tryd.prog w = .ok (.int .i64 (monU u)) w :=
  nat7 (fun w => by kernel_rfl) (fun w => by kernel_rfl) (fun w => by kernel_rfl) (fun w => by kernel_rfl) (fun w => by kernel_rfl) (fun w => by kernel_rfl) (fun w => by kernel_rfl)
set_option maxRecDepth 100000 in
theorem seconds_any (u : Nat) (hu : u ≤ 6) (w : World) : Calls Tryd.prog 66 #[.int .i64 (u : Int)] w fun e w' => e = .returned (.int .i64 (secU u)) ∧ w = w' := by
  have hx := sec_ix u (by omega) w
  unfold secA at hx
  generalize secU u = s at *
  go_enter Tryd.func66, Tryd.ntmps66
  go_wp2_with fail
  go_ret
  exact ⟨rfl, rfl⟩
set_option maxRecDepth 100000 in
theorem months_u (u : Nat) (hu : u ≤ 6) (w : World) : Calls Tryd.prog 67 #[.int .i64 (u : Int)] w fun e w' => e = .returned (.int .i64 (monU u)) ∧ w = w' := by
  have hx := mon_ix u (by omega) w
  unfold monA at hx
  generalize monU u = s at *
  go_enter Tryd.func67, Tryd.ntmps67
  go_wp2_with fail
  go_ret
  exact ⟨rfl, rfl⟩
theorem unitFrom_drop (s : Bs) : ∀ i : Nat, i < 7 → unitFrom (unitL.drop i) i s = if unitL.getD i [] = s then some i else unitFrom (unitL.drop (i + 1)) (i + 1) s :=
  nat7 rfl rfl rfl rfl rfl rfl rfl
set_option maxRecDepth 100000 in
set_option maxHeartbeats 1600000 in
theorem unitOf_any (s : Bs) (w : World) : Calls Tryd.prog 96 #[.string ⟨s.toArray⟩] w fun e w' => e = .returned (.tuple #[.int .i64 (((unitC s).getD 0 : Nat) : Int), .bool (unitC s).isSome]) ∧ w = w' := by
  have HX : Hid (∀ u : Nat, u < 7 → ∀ w, (Instr.index 113 unitA (.int .i64 (u : Int))).run Tryd.prog w = .ok (unitV u) w) := unit_ix
  go_enter Tryd.func96, Tryd.ntmps96
  go_wp2_with fail
  go_loopw [4, 5, 7] (fun v4 v5 v7 wr => ∃ k : Nat, v7 = .int .i64 k ∧ k ≤ 7 ∧ wr = w ∧ Hid (unitC s = unitFrom (unitL.drop k) k s)) (fun _ _ v7 _ => 7 - (intOf v7).toNat)
  case atStart => exact ⟨0, by go_num, by omega, by first | trivial | rfl, rfl⟩
  case round =>
    obtain ⟨k, rfl, hk, rfl, HU⟩ := hrel
    by_cases hlt : k < 7
    · have hx := HX.out k hlt wr
      unfold unitA unitV at hx
      have HD := Lib.hid (unitFrom_drop s k hlt)
      generalize hq : unitL.getD k [] = q at *
      by_cases he : q = s
      · have HR : Hid (unitC s = some k) := by show _ = _; rw [HU.out, HD.out, if_pos he]
        subst he
        go_wp2_with fail
        go_ret2
        exact ⟨by rw [HR.out]; rfl, rfl⟩
      · have HR : Hid (unitC s = unitFrom (unitL.drop (k + 1)) (k + 1) s) := by show _ = _; rw [HU.out, HD.out, if_neg he]
        have hqs : (q == s) = false := beq_eq_false_iff_ne.2 he
        go_wp2_with fail
        go_roundw
        case rel => exact ⟨k + 1, by go_num, by omega, by first | trivial | rfl, HR⟩
        case measure => simp [intOf]; omega
    · obtain rfl : k = 7 := by omega
      have HR : Hid (unitC s = none) := HU.out
      go_wp2_with fail
      go_ret2
      exact ⟨by rw [HR.out]; rfl, rfl⟩
end Go.Proofs.YtmidphmniikdpaaDoor
