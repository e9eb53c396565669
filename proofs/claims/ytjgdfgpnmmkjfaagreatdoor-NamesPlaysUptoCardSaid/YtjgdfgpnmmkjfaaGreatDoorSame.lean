/- Same, of like lists. -/
import Derived.Test.YtjgdfgpnmmkjfaaGreatDoorNBase
import Derived.BigQuiet
import Derived.Deep.QuietTactic
import Derived.Deep.LoopGhost
namespace Go.Proofs.YtjgdfgpnmmkjfaaGreatDoor
set_option linter.unusedVariables false
set_option linter.unusedSimpArgs false
open Go.RowKit

set_option maxRecDepth 100000 in
set_option maxHeartbeats 800000 in
theorem same_yes {va vb : Value} {ss : List Bs} (w : World) (ha : TxtRow w va ss) (hb : TxtRow w vb ss) :
    Calls Tryz.prog 16 #[va, vb] w fun e w' => e = .returned (.bool true) ∧ Below w.heap.size w w' := by
  obtain ⟨oa, ca, rfl, _⟩ := id ha
  obtain ⟨ob, cb, rfl, _⟩ := id hb
  obtain ⟨_, ha1, ha2, ha3⟩ := ha.at_
  obtain ⟨_, hb1, hb2, hb3⟩ := hb.at_
  unfold maxLen at ha2 hb2
  have HA := Lib.hid ha3
  have HB := Lib.hid hb3
  obtain ⟨n, hn⟩ : ∃ n, ss.length = n := ⟨_, rfl⟩
  have HN := Lib.hid hn
  rw [hn] at ha1 hb1 ⊢
  have t1 : ((n : Int) == (n : Int)) = true := by simp
  clear ha hb ha3 hb3 hn
  go_enter Tryz.func16, Tryz.ntmps16
  go_wp2_with fail
  go_loopg [5, 13] n (fun g _ i wr => ∃ k : Nat, k + g = n ∧ i = .int .i64 (k : Int) ∧ Below w.heap.size w wr)
  case atStart => exact ⟨0, by omega, rfl, Below.refl _ _⟩
  case round =>
    obtain ⟨k, hkg, rfl, hb⟩ := hrel
    have hn := HN.out
    by_cases hlt : k < n
    · obtain ⟨ga, fa, rfl, hla, hca⟩ := HA.out k (by omega)
      obtain ⟨gb, fb, rfl, hlb, hcb⟩ := HB.out k (by omega)
      have hcx : wr.cell? ⟨ga, fa + k, none⟩ = some (sv (ss[k]'(by omega))) := (hb.cell (p := ⟨ga, fa + k, none⟩) hla).trans hca
      have hcy : wr.cell? ⟨gb, fb + k, none⟩ = some (sv (ss[k]'(by omega))) := (hb.cell (p := ⟨gb, fb + k, none⟩) hlb).trans hcb
      generalize ss[k]'(by omega) = x at *
      have cx : wr.cell? ⟨ga, fa + k, none⟩ = some (.string ⟨x.toArray⟩) := hcx
      have cy : wr.cell? ⟨gb, fb + k, none⟩ = some (.string ⟨x.toArray⟩) := hcy
      have i1 : k < n := hlt
      have t0 : decide ((k : Int) < (n : Int)) = true := by rw [decide_eq_true_eq]; omega
      have HJ := Lib.hid hkg
      have HW := Lib.hid hb
      clear hkg hn hlt hca hcb hcx hcy hb
      go_wp2_with fail
      go_quiet (fail)
      go_wp2
      go_roundg (gk - 1)
      case measure => have := HJ.out; omega
      case rel => exact ⟨k + 1, by have := HJ.out; omega, by go_num, below_drewN HW.out nq⟩
    · obtain rfl : k = n := by omega
      have t0 : decide ((k : Int) < (k : Int)) = false := by rw [decide_eq_false_iff_not]; omega
      clear hkg hn hlt
      go_wp2_with fail
      go_ret
      exact ⟨rfl, hb⟩
end Go.Proofs.YtjgdfgpnmmkjfaaGreatDoor
