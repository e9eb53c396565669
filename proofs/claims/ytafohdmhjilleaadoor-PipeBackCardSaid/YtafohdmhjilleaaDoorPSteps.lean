/- The steps of a translation, one after another (package pipe: steps). -/
import Derived.RangeFuncNested
import Derived.RangeFuncBound
import Derived.RangeFuncCalls
import Derived.RangeFuncLeaves
import Derived.RangeFuncBox
import Derived.Shelf.Abstract
import Derived.Shelf.RegionOpen
import Derived.OwnWalkIn
import Derived.TacticsInMore
import Derived.LoopNIn
import Derived.LoopIn
import Derived.BigRegionIn
import Derived.Sort.QuietIn
import Derived.Test.YtafohdmhjilleaaDoorPPlain
import Derived.Test.YtafohdmhjilleaaDoorLeaf
import Derived.Test.YtafohdmhjilleaaDoorHeap
namespace Go.Proofs.YtafohdmhjilleaaDoor
set_option linter.unusedVariables false
set_option linter.unusedSimpArgs false
open Go.RowKit Go.Shelf
attribute [local go_sem] Oper.semAt_some

theorem auto_auto : (autoM == ([97, 117, 116, 111] : Bs)) = true := by decide
theorem auto_lf : (autoM == ([108, 102] : Bs)) = false := by decide
theorem auto_cr : (autoM == ([99, 114] : Bs)) = false := by decide
theorem lf_auto : (lfM == ([97, 117, 116, 111] : Bs)) = false := by decide
theorem lf_lf : (lfM == ([108, 102] : Bs)) = true := by decide
theorem lf_cr : (lfM == ([99, 114] : Bs)) = false := by decide
theorem cr_auto : (crM == ([97, 117, 116, 111] : Bs)) = false := by decide
theorem cr_lf : (crM == ([108, 102] : Bs)) = false := by decide
theorem cr_cr : (crM == ([99, 114] : Bs)) = true := by decide
theorem crlf_auto : (crlfM == ([97, 117, 116, 111] : Bs)) = false := by decide
theorem crlf_lf : (crlfM == ([108, 102] : Bs)) = false := by decide
theorem crlf_cr : (crlfM == ([99, 114] : Bs)) = false := by decide
attribute [local go_sem] auto_auto auto_lf auto_cr lf_auto lf_lf lf_cr cr_auto cr_lf cr_cr crlf_auto crlf_lf crlf_cr
/-- The three blocks stay. -/
structure K3 (b1 b2 b3 : Nat) (w w' : World) : Prop where
  k1 : w'.heap[b1]? = w.heap[b1]?
  k2 : w'.heap[b2]? = w.heap[b2]?
  k3 : w'.heap[b3]? = w.heap[b3]?
section
variable {b1 b2 b3 : Nat} {w w1 w2 : World}
theorem K3.refl (w : World) : K3 b1 b2 b3 w w := ⟨rfl, rfl, rfl⟩
theorem K3.trans (h : K3 b1 b2 b3 w w1) (k : K3 b1 b2 b3 w1 w2) : K3 b1 b2 b3 w w2 := ⟨k.k1.trans h.k1, k.k2.trans h.k2, k.k3.trans h.k3⟩
theorem K3.cell1 (h : K3 b1 b2 b3 w w1) : w1.cell? ⟨b1, 0, none⟩ = w.cell? ⟨b1, 0, none⟩ := by simp only [World.cell?, h.k1]
theorem K3.cell2 (h : K3 b1 b2 b3 w w1) : w1.cell? ⟨b2, 0, none⟩ = w.cell? ⟨b2, 0, none⟩ := by simp only [World.cell?, h.k2]
theorem K3.cell3 (h : K3 b1 b2 b3 w w1) : w1.cell? ⟨b3, 0, none⟩ = w.cell? ⟨b3, 0, none⟩ := by simp only [World.cell?, h.k3]
end
def clip (n : Nat) : Nat := min n 2
abbrev encS (x : UInt8 × Nat) : Array Value := #[.string ⟨#[x.1]⟩, .int .i64 ((clip x.2 : Nat) : Int)]
theorem clip1 : ((clip 1 : Nat) : Int) = 1 := rfl
theorem clip2 : ((clip 2 : Nat) : Int) = 2 := rfl
set_option maxRecDepth 100000 in
set_option maxHeartbeats 3200000 in
theorem steps1_in (n : Nat) (hn : 1 ≤ n) (l b1 b2 b3 : Nat) (raw mode : Bs) (closed : Bool) (hmo : mode = autoM ∨ mode = lfM ∨ mode = crM ∨ mode = crlfM) (hs : raw.length ≤ 1000000) (J Jx : List (UInt8 × Nat) → World → Prop)
    (hY : ∀ pre x W, J pre W → pre.length < raw.length → YieldAt Fence.wide (n - 1) Tryd.prog l (encS x) W fun e W' =>
      (e = .returned (.bool true) ∧ J (pre ++ [x]) W' ∧ K3 b1 b2 b3 W W') ∨ (e = .returned (.bool false) ∧ Jx (pre ++ [x]) W'))
    (W : World) (h1 : W.cell? ⟨b1, 0, none⟩ = some (.string ⟨raw.toArray⟩)) (h2 : W.cell? ⟨b2, 0, none⟩ = some (.string ⟨mode.toArray⟩)) (h3 : W.cell? ⟨b3, 0, none⟩ = some (.bool closed)) (h0 : J [] W) :
    CallsIn Fence.wide n Tryd.prog 51 #[.func (.yield l) #[] #[], .pointer (some ⟨b1, 0, none⟩), .pointer (some ⟨b2, 0, none⟩), .pointer (some ⟨b3, 0, none⟩)] W fun e W' => (∃ v, e = .returned v) ∧
      ((∃ ys, ys = stepsL mode closed raw ∧ J ys W') ∨ (∃ pre, pre <+: stepsL mode closed raw ∧ Jx pre W')) := by
  refine callsIn_of_wp Tryd.func51 rfl trivial ?_ rfl
  simp only [Tryd.ntmps51, List.size_toArray, List.length_cons, List.length_nil, Nat.reduceAdd, Nat.reduceSub, Array.replicate_succ, Array.replicate_zero, List.push_toArray, List.append_toArray, List.nil_append, List.cons_append]
  gi_wp2
  gi_loopw [5, 6, 7, 8, 9] (fun v5 v6 v7 v8 v9 wr => ∃ (i : Nat) (pre : List (UInt8 × Nat)), i ≤ raw.length ∧ v5 = .int .i64 i ∧ Hid (pre ++ stepsL mode closed (raw.drop i) = stepsL mode closed raw) ∧ J pre wr ∧ K3 b1 b2 b3 W wr ∧ pre.length ≤ i)
    (fun v5 _ _ _ _ _ => raw.length - (intOf v5).toNat)
  case atStart => exact ⟨0, [], Nat.zero_le _, rfl, rfl, h0, K3.refl _, by simp⟩
  case round =>
    obtain ⟨i, pre, hi, rfl, HP, hJs, hnx, hpl⟩ := hrel
    have hc1 := hnx.cell1.trans h1
    have hc2 := hnx.cell2.trans h2
    have hc3 := hnx.cell3.trans h3
    by_cases hlt : i < raw.length
    · have hdrop : raw.drop i = raw[i] :: raw.drop (i + 1) := List.drop_eq_getElem_cons hlt
      have hsl : (raw.drop i).take 1 = [raw[i]] := by rw [hdrop]; rfl
      have a1 : (i : Int) < (raw.length : Int) := by omega
      by_cases h13 : raw[i] = 13
      · have hd0 : (i + 1 < raw.length → raw.drop (i + 1) ≠ []) ∧ (i + 1 = raw.length → raw.drop (i + 1) = []) := ⟨fun h e => by have := congrArg List.length e; simp at this; omega, fun h => List.drop_eq_nil_of_le (by omega)⟩
        have hhd : ∀ h : i + 1 < raw.length, (raw.drop (i + 1)).head? = some raw[i + 1] := fun h => by rw [List.drop_eq_getElem_cons h]; rfl
        rw [h13] at hsl hdrop
        clear h1 h2 h3
        by_cases hla : i + 1 = raw.length
        · have hlb : ((i : Int) + 1 == (raw.length : Int)) = true := by simp; omega
          have hnil := hd0.2 hla
          clear hd0 hhd
          rcases hmo with rfl | rfl | rfl | rfl
          · cases closed
            · have HE : Hid (stepsL autoM false (raw.drop i) = []) := stepsL_none (by rw [hdrop, stepP_cons]; simp [autoM, lfM, crM, crlfM, hnil])
              clear hla hnil hdrop
              gi_wp2_with fail
              refine bodyPost_ret (results_none rfl _ _ _) rfl ?_
              exact ⟨⟨_, rfl⟩, .inl ⟨_, by have := HP.out; rw [HE.out, List.append_nil] at this; exact this, hJs⟩⟩
            · have HX : Hid (pre ++ ([((10, 1) : UInt8 × Nat)] ++ stepsL autoM true (raw.drop (i + 1))) = stepsL autoM true raw) := by
                show _ = _
                rw [← HP.out, stepsL_some (raw := raw.drop i) (p := (10, 1)) (by rw [hdrop, stepP_cons]; simp [autoM, lfM, crM, crlfM, hnil]), List.drop_drop]; rfl
              clear HP hdrop hnil hla
              obtain ⟨fn, tmps, assign, body, hy, hR⟩ := hY pre (10, 1) wr hJs (by omega)
              dsimp only [encS] at hy
              simp only [clip1, clip2] at hy
              gi_wp2_with fail
              refine hR.mono ?_
              rintro e W3 (⟨rfl, hJ3, hk3⟩ | ⟨rfl, hJx3⟩)
              · gi_wp2_with fail
                go_roundw
                case rel => exact ⟨i + 1, pre ++ [(10, 1)], by omega, by go_num, by rw [List.append_assoc]; exact HX.out, hJ3, hnx.trans hk3, by simp; omega⟩
                case measure => simp [intOf]; omega
              · gi_wp2_with fail
                refine bodyPost_ret (results_none rfl _ _ _) rfl ?_
                exact ⟨⟨_, rfl⟩, .inr ⟨_, ⟨stepsL autoM true (raw.drop (i + 1)), by rw [List.append_assoc]; exact HX.out⟩, hJx3⟩⟩
          · have HX : Hid (pre ++ ([((13, 1) : UInt8 × Nat)] ++ stepsL lfM closed (raw.drop (i + 1))) = stepsL lfM closed raw) := by
              show _ = _
              rw [← HP.out, stepsL_some (raw := raw.drop i) (p := (13, 1)) (by rw [hdrop, stepP_cons]; simp [autoM, lfM, crM, crlfM, hnil]), List.drop_drop]; rfl
            clear HP hdrop hnil hla
            obtain ⟨fn, tmps, assign, body, hy, hR⟩ := hY pre (13, 1) wr hJs (by omega)
            dsimp only [encS] at hy
            simp only [clip1, clip2] at hy
            gi_wp2_with fail
            refine hR.mono ?_
            rintro e W3 (⟨rfl, hJ3, hk3⟩ | ⟨rfl, hJx3⟩)
            · gi_wp2_with fail
              go_roundw
              case rel => exact ⟨i + 1, pre ++ [(13, 1)], by omega, by go_num, by rw [List.append_assoc]; exact HX.out, hJ3, hnx.trans hk3, by simp; omega⟩
              case measure => simp [intOf]; omega
            · gi_wp2_with fail
              refine bodyPost_ret (results_none rfl _ _ _) rfl ?_
              exact ⟨⟨_, rfl⟩, .inr ⟨_, ⟨stepsL lfM closed (raw.drop (i + 1)), by rw [List.append_assoc]; exact HX.out⟩, hJx3⟩⟩
          · have HX : Hid (pre ++ ([((10, 1) : UInt8 × Nat)] ++ stepsL crM closed (raw.drop (i + 1))) = stepsL crM closed raw) := by
              show _ = _
              rw [← HP.out, stepsL_some (raw := raw.drop i) (p := (10, 1)) (by rw [hdrop, stepP_cons]; simp [autoM, lfM, crM, crlfM, hnil]), List.drop_drop]; rfl
            clear HP hdrop hnil hla
            obtain ⟨fn, tmps, assign, body, hy, hR⟩ := hY pre (10, 1) wr hJs (by omega)
            dsimp only [encS] at hy
            simp only [clip1, clip2] at hy
            gi_wp2_with fail
            refine hR.mono ?_
            rintro e W3 (⟨rfl, hJ3, hk3⟩ | ⟨rfl, hJx3⟩)
            · gi_wp2_with fail
              go_roundw
              case rel => exact ⟨i + 1, pre ++ [(10, 1)], by omega, by go_num, by rw [List.append_assoc]; exact HX.out, hJ3, hnx.trans hk3, by simp; omega⟩
              case measure => simp [intOf]; omega
            · gi_wp2_with fail
              refine bodyPost_ret (results_none rfl _ _ _) rfl ?_
              exact ⟨⟨_, rfl⟩, .inr ⟨_, ⟨stepsL crM closed (raw.drop (i + 1)), by rw [List.append_assoc]; exact HX.out⟩, hJx3⟩⟩
          · cases closed
            · have HE : Hid (stepsL crlfM false (raw.drop i) = []) := stepsL_none (by rw [hdrop, stepP_cons]; simp [autoM, lfM, crM, crlfM, hnil])
              clear hla hnil hdrop
              gi_wp2_with fail
              refine bodyPost_ret (results_none rfl _ _ _) rfl ?_
              exact ⟨⟨_, rfl⟩, .inl ⟨_, by have := HP.out; rw [HE.out, List.append_nil] at this; exact this, hJs⟩⟩
            · have HX : Hid (pre ++ ([((13, 1) : UInt8 × Nat)] ++ stepsL crlfM true (raw.drop (i + 1))) = stepsL crlfM true raw) := by
                show _ = _
                rw [← HP.out, stepsL_some (raw := raw.drop i) (p := (13, 1)) (by rw [hdrop, stepP_cons]; simp [autoM, lfM, crM, crlfM, hnil]), List.drop_drop]; rfl
              clear HP hdrop hnil hla
              obtain ⟨fn, tmps, assign, body, hy, hR⟩ := hY pre (13, 1) wr hJs (by omega)
              dsimp only [encS] at hy
              simp only [clip1, clip2] at hy
              gi_wp2_with fail
              refine hR.mono ?_
              rintro e W3 (⟨rfl, hJ3, hk3⟩ | ⟨rfl, hJx3⟩)
              · gi_wp2_with fail
                go_roundw
                case rel => exact ⟨i + 1, pre ++ [(13, 1)], by omega, by go_num, by rw [List.append_assoc]; exact HX.out, hJ3, hnx.trans hk3, by simp; omega⟩
                case measure => simp [intOf]; omega
              · gi_wp2_with fail
                refine bodyPost_ret (results_none rfl _ _ _) rfl ?_
                exact ⟨⟨_, rfl⟩, .inr ⟨_, ⟨stepsL crlfM true (raw.drop (i + 1)), by rw [List.append_assoc]; exact HX.out⟩, hJx3⟩⟩
        · have hlb : ((i : Int) + 1 == (raw.length : Int)) = false := by rw [beq_eq_false_iff_ne]; omega
          have hi1 : i + 1 < raw.length := by omega
          have hnn := hd0.1 hi1
          have hh1 := hhd hi1
          have a2 : (i : Int) + 1 < (raw.length : Int) := by omega
          have a3 : (0 : Int) ≤ (i : Int) + 1 := by omega
          have a4 : ((i : Int) + 1).toNat = i + 1 := by omega
          clear hd0 hhd
          by_cases h10 : raw[i + 1] = 10
          · have hbt : ((raw[i + 1].toNat : Int) == 10) = true := by rw [h10]; rfl
            rw [h10] at hh1
            rcases hmo with rfl | rfl | rfl | rfl
            · have HX : Hid (pre ++ ([((10, 2) : UInt8 × Nat)] ++ stepsL autoM closed (raw.drop (i + 2))) = stepsL autoM closed raw) := by
                show _ = _
                rw [← HP.out, stepsL_some (raw := raw.drop i) (p := (10, 2)) (by rw [hdrop, stepP_cons]; simp [autoM, lfM, crM, crlfM, hnn, hh1]), List.drop_drop]; rfl
              clear HP
              obtain ⟨fn, tmps, assign, body, hy, hR⟩ := hY pre (10, 2) wr hJs (by omega)
              dsimp only [encS] at hy
              simp only [clip1, clip2] at hy
              gi_wp2_with fail
              refine hR.mono ?_
              rintro e W3 (⟨rfl, hJ3, hk3⟩ | ⟨rfl, hJx3⟩)
              · gi_wp2_with fail
                go_roundw
                case rel => exact ⟨i + 2, pre ++ [(10, 2)], by omega, by go_num, by rw [List.append_assoc]; exact HX.out, hJ3, hnx.trans hk3, by simp; omega⟩
                case measure => simp [intOf]; omega
              · gi_wp2_with fail
                refine bodyPost_ret (results_none rfl _ _ _) rfl ?_
                exact ⟨⟨_, rfl⟩, .inr ⟨_, ⟨stepsL autoM closed (raw.drop (i + 2)), by rw [List.append_assoc]; exact HX.out⟩, hJx3⟩⟩
            · have HX : Hid (pre ++ ([((13, 1) : UInt8 × Nat)] ++ stepsL lfM closed (raw.drop (i + 1))) = stepsL lfM closed raw) := by
                show _ = _
                rw [← HP.out, stepsL_some (raw := raw.drop i) (p := (13, 1)) (by rw [hdrop, stepP_cons]; simp [autoM, lfM, crM, crlfM, hnn, hh1]), List.drop_drop]; rfl
              clear HP
              obtain ⟨fn, tmps, assign, body, hy, hR⟩ := hY pre (13, 1) wr hJs (by omega)
              dsimp only [encS] at hy
              simp only [clip1, clip2] at hy
              gi_wp2_with fail
              refine hR.mono ?_
              rintro e W3 (⟨rfl, hJ3, hk3⟩ | ⟨rfl, hJx3⟩)
              · gi_wp2_with fail
                go_roundw
                case rel => exact ⟨i + 1, pre ++ [(13, 1)], by omega, by go_num, by rw [List.append_assoc]; exact HX.out, hJ3, hnx.trans hk3, by simp; omega⟩
                case measure => simp [intOf]; omega
              · gi_wp2_with fail
                refine bodyPost_ret (results_none rfl _ _ _) rfl ?_
                exact ⟨⟨_, rfl⟩, .inr ⟨_, ⟨stepsL lfM closed (raw.drop (i + 1)), by rw [List.append_assoc]; exact HX.out⟩, hJx3⟩⟩
            · have HX : Hid (pre ++ ([((10, 1) : UInt8 × Nat)] ++ stepsL crM closed (raw.drop (i + 1))) = stepsL crM closed raw) := by
                show _ = _
                rw [← HP.out, stepsL_some (raw := raw.drop i) (p := (10, 1)) (by rw [hdrop, stepP_cons]; simp [autoM, lfM, crM, crlfM, hnn, hh1]), List.drop_drop]; rfl
              clear HP
              obtain ⟨fn, tmps, assign, body, hy, hR⟩ := hY pre (10, 1) wr hJs (by omega)
              dsimp only [encS] at hy
              simp only [clip1, clip2] at hy
              gi_wp2_with fail
              refine hR.mono ?_
              rintro e W3 (⟨rfl, hJ3, hk3⟩ | ⟨rfl, hJx3⟩)
              · gi_wp2_with fail
                go_roundw
                case rel => exact ⟨i + 1, pre ++ [(10, 1)], by omega, by go_num, by rw [List.append_assoc]; exact HX.out, hJ3, hnx.trans hk3, by simp; omega⟩
                case measure => simp [intOf]; omega
              · gi_wp2_with fail
                refine bodyPost_ret (results_none rfl _ _ _) rfl ?_
                exact ⟨⟨_, rfl⟩, .inr ⟨_, ⟨stepsL crM closed (raw.drop (i + 1)), by rw [List.append_assoc]; exact HX.out⟩, hJx3⟩⟩
            · have HX : Hid (pre ++ ([((10, 2) : UInt8 × Nat)] ++ stepsL crlfM closed (raw.drop (i + 2))) = stepsL crlfM closed raw) := by
                show _ = _
                rw [← HP.out, stepsL_some (raw := raw.drop i) (p := (10, 2)) (by rw [hdrop, stepP_cons]; simp [autoM, lfM, crM, crlfM, hnn, hh1]), List.drop_drop]; rfl
              clear HP
              obtain ⟨fn, tmps, assign, body, hy, hR⟩ := hY pre (10, 2) wr hJs (by omega)
              dsimp only [encS] at hy
              simp only [clip1, clip2] at hy
              gi_wp2_with fail
              refine hR.mono ?_
              rintro e W3 (⟨rfl, hJ3, hk3⟩ | ⟨rfl, hJx3⟩)
              · gi_wp2_with fail
                go_roundw
                case rel => exact ⟨i + 2, pre ++ [(10, 2)], by omega, by go_num, by rw [List.append_assoc]; exact HX.out, hJ3, hnx.trans hk3, by simp; omega⟩
                case measure => simp [intOf]; omega
              · gi_wp2_with fail
                refine bodyPost_ret (results_none rfl _ _ _) rfl ?_
                exact ⟨⟨_, rfl⟩, .inr ⟨_, ⟨stepsL crlfM closed (raw.drop (i + 2)), by rw [List.append_assoc]; exact HX.out⟩, hJx3⟩⟩
          · have hbt : ((raw[i + 1].toNat : Int) == 10) = false := by rw [beq_eq_false_iff_ne]; intro h; exact h10 (byte_inj (by show _ = 10; omega))
            rcases hmo with rfl | rfl | rfl | rfl
            · have HX : Hid (pre ++ ([((10, 1) : UInt8 × Nat)] ++ stepsL autoM closed (raw.drop (i + 1))) = stepsL autoM closed raw) := by
                show _ = _
                rw [← HP.out, stepsL_some (raw := raw.drop i) (p := (10, 1)) (by rw [hdrop, stepP_cons]; simp [autoM, lfM, crM, crlfM, hnn, hh1, h10]), List.drop_drop]; rfl
              clear HP
              obtain ⟨fn, tmps, assign, body, hy, hR⟩ := hY pre (10, 1) wr hJs (by omega)
              dsimp only [encS] at hy
              simp only [clip1, clip2] at hy
              gi_wp2_with fail
              refine hR.mono ?_
              rintro e W3 (⟨rfl, hJ3, hk3⟩ | ⟨rfl, hJx3⟩)
              · gi_wp2_with fail
                go_roundw
                case rel => exact ⟨i + 1, pre ++ [(10, 1)], by omega, by go_num, by rw [List.append_assoc]; exact HX.out, hJ3, hnx.trans hk3, by simp; omega⟩
                case measure => simp [intOf]; omega
              · gi_wp2_with fail
                refine bodyPost_ret (results_none rfl _ _ _) rfl ?_
                exact ⟨⟨_, rfl⟩, .inr ⟨_, ⟨stepsL autoM closed (raw.drop (i + 1)), by rw [List.append_assoc]; exact HX.out⟩, hJx3⟩⟩
            · have HX : Hid (pre ++ ([((13, 1) : UInt8 × Nat)] ++ stepsL lfM closed (raw.drop (i + 1))) = stepsL lfM closed raw) := by
                show _ = _
                rw [← HP.out, stepsL_some (raw := raw.drop i) (p := (13, 1)) (by rw [hdrop, stepP_cons]; simp [autoM, lfM, crM, crlfM, hnn, hh1, h10]), List.drop_drop]; rfl
              clear HP
              obtain ⟨fn, tmps, assign, body, hy, hR⟩ := hY pre (13, 1) wr hJs (by omega)
              dsimp only [encS] at hy
              simp only [clip1, clip2] at hy
              gi_wp2_with fail
              refine hR.mono ?_
              rintro e W3 (⟨rfl, hJ3, hk3⟩ | ⟨rfl, hJx3⟩)
              · gi_wp2_with fail
                go_roundw
                case rel => exact ⟨i + 1, pre ++ [(13, 1)], by omega, by go_num, by rw [List.append_assoc]; exact HX.out, hJ3, hnx.trans hk3, by simp; omega⟩
                case measure => simp [intOf]; omega
              · gi_wp2_with fail
                refine bodyPost_ret (results_none rfl _ _ _) rfl ?_
                exact ⟨⟨_, rfl⟩, .inr ⟨_, ⟨stepsL lfM closed (raw.drop (i + 1)), by rw [List.append_assoc]; exact HX.out⟩, hJx3⟩⟩
            · have HX : Hid (pre ++ ([((10, 1) : UInt8 × Nat)] ++ stepsL crM closed (raw.drop (i + 1))) = stepsL crM closed raw) := by
                show _ = _
                rw [← HP.out, stepsL_some (raw := raw.drop i) (p := (10, 1)) (by rw [hdrop, stepP_cons]; simp [autoM, lfM, crM, crlfM, hnn, hh1, h10]), List.drop_drop]; rfl
              clear HP
              obtain ⟨fn, tmps, assign, body, hy, hR⟩ := hY pre (10, 1) wr hJs (by omega)
              dsimp only [encS] at hy
              simp only [clip1, clip2] at hy
              gi_wp2_with fail
              refine hR.mono ?_
              rintro e W3 (⟨rfl, hJ3, hk3⟩ | ⟨rfl, hJx3⟩)
              · gi_wp2_with fail
                go_roundw
                case rel => exact ⟨i + 1, pre ++ [(10, 1)], by omega, by go_num, by rw [List.append_assoc]; exact HX.out, hJ3, hnx.trans hk3, by simp; omega⟩
                case measure => simp [intOf]; omega
              · gi_wp2_with fail
                refine bodyPost_ret (results_none rfl _ _ _) rfl ?_
                exact ⟨⟨_, rfl⟩, .inr ⟨_, ⟨stepsL crM closed (raw.drop (i + 1)), by rw [List.append_assoc]; exact HX.out⟩, hJx3⟩⟩
            · have HX : Hid (pre ++ ([((13, 1) : UInt8 × Nat)] ++ stepsL crlfM closed (raw.drop (i + 1))) = stepsL crlfM closed raw) := by
                show _ = _
                rw [← HP.out, stepsL_some (raw := raw.drop i) (p := (13, 1)) (by rw [hdrop, stepP_cons]; simp [autoM, lfM, crM, crlfM, hnn, hh1, h10]), List.drop_drop]; rfl
              clear HP
              obtain ⟨fn, tmps, assign, body, hy, hR⟩ := hY pre (13, 1) wr hJs (by omega)
              dsimp only [encS] at hy
              simp only [clip1, clip2] at hy
              gi_wp2_with fail
              refine hR.mono ?_
              rintro e W3 (⟨rfl, hJ3, hk3⟩ | ⟨rfl, hJx3⟩)
              · gi_wp2_with fail
                go_roundw
                case rel => exact ⟨i + 1, pre ++ [(13, 1)], by omega, by go_num, by rw [List.append_assoc]; exact HX.out, hJ3, hnx.trans hk3, by simp; omega⟩
                case measure => simp [intOf]; omega
              · gi_wp2_with fail
                refine bodyPost_ret (results_none rfl _ _ _) rfl ?_
                exact ⟨⟨_, rfl⟩, .inr ⟨_, ⟨stepsL crlfM closed (raw.drop (i + 1)), by rw [List.append_assoc]; exact HX.out⟩, hJx3⟩⟩
      · have hsr : (([raw[i]] : Bs) == [13]) = false := beq_eq_false_iff_ne.2 (fun e => h13 (by simpa using e))
        have HX : Hid (pre ++ ([((raw[i], 1) : UInt8 × Nat)] ++ stepsL mode closed (raw.drop (i + 1))) = stepsL mode closed raw) := by
          show _ = _
          rw [← HP.out, stepsL_some (raw := raw.drop i) (p := (raw[i], 1)) (by rw [hdrop, stepP_cons]; rw [if_neg (fun h => h13 h.1)]), List.drop_drop]; rfl
        clear HP
        clear h1 h2 h3 hdrop
        obtain ⟨fn, tmps, assign, body, hy, hR⟩ := hY pre (raw[i], 1) wr hJs (by omega)
        dsimp only [encS] at hy
        simp only [clip1, clip2] at hy
        gi_wp2_with fail
        refine hR.mono ?_
        rintro e W3 (⟨rfl, hJ3, hk3⟩ | ⟨rfl, hJx3⟩)
        · gi_wp2_with fail
          go_roundw
          case rel => exact ⟨i + 1, pre ++ [(raw[i], 1)], by omega, by go_num, by rw [List.append_assoc]; exact HX.out, hJ3, hnx.trans hk3, by simp; omega⟩
          case measure => simp [intOf]; omega
        · gi_wp2_with fail
          refine bodyPost_ret (results_none rfl _ _ _) rfl ?_
          exact ⟨⟨_, rfl⟩, .inr ⟨_, ⟨stepsL mode closed (raw.drop (i + 1)), by rw [List.append_assoc]; exact HX.out⟩, hJx3⟩⟩
    · obtain rfl : i = raw.length := by omega
      gi_wp2
      go_end0
      exact ⟨⟨_, rfl⟩, .inl ⟨_, by have := HP.out; rw [List.drop_length, stepsL_nil, List.append_nil] at this; exact this, hJs⟩⟩
end Go.Proofs.YtafohdmhjilleaaDoor
