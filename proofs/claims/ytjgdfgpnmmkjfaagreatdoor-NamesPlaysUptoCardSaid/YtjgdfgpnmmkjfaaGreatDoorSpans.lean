/- 'spans' and 'in' of package text: a range over a function. -/
import Derived.RangeFuncNested
import Derived.RangeFuncBound
import Derived.RangeFuncCalls
import Derived.RangeFuncLeaves
import Derived.RangeFuncBox
import Derived.Shelf.Abstract
import Derived.Shelf.RegionOpen
import Derived.OwnWalkIn
import Derived.TacticsInMore
import Derived.LoopNIn
import Derived.LoopIn
import Derived.BigRegionIn
import Derived.Sort.QuietIn
import Derived.Test.YtjgdfgpnmmkjfaaGreatDoorLeaf
namespace Go.Proofs.YtjgdfgpnmmkjfaaGreatDoor
set_option linter.unusedVariables false
set_option linter.unusedSimpArgs false
open Go.RowKit Go.Shelf
attribute [local go_sem] Oper.semAt_some

def spansL : Bs → List (UInt8 × UInt8)
  | a :: d :: b :: r => if d = 45 then (min a b, max a b) :: spansL r else (a, a) :: spansL (d :: b :: r)
  | a :: r => (a, a) :: spansL r
  | [] => []

abbrev encU (x : UInt8 × UInt8) : Array Value := #[.int .u8 x.1.toNat, .int .u8 x.2.toNat]

theorem spansL_len : ∀ (n : Nat) (l : Bs), l.length ≤ n → (spansL l).length ≤ l.length := by
  intro n
  induction n with
  | zero => intro l h; have : l = [] := List.length_eq_zero_iff.1 (by omega); subst this; simp [spansL]
  | succ n ih =>
    intro l h
    match l with
    | [] => simp [spansL]
    | [a] => simp [spansL]
    | [a, d] => simp [spansL]
    | a :: d :: b :: r =>
      rw [spansL]
      split
      · have := ih r (by simp at h; omega); simp; omega
      · have := ih (d :: b :: r) (by simpa using h); simp at this ⊢; omega

theorem spansL_range {s : Bs} {i : Nat} (h : i + 2 < s.length) (hd : s[i + 1] = 45) : spansL (s.drop i) = (min s[i] s[i + 2], max s[i] s[i + 2]) :: spansL (s.drop (i + 3)) := by
  rw [List.drop_eq_getElem_cons (by omega), List.drop_eq_getElem_cons (by omega), List.drop_eq_getElem_cons h, spansL, if_pos hd]
theorem spansL_one {s : Bs} {i : Nat} (h : i < s.length) (hd : ∀ h : i + 2 < s.length, s[i + 1] ≠ 45) : spansL (s.drop i) = (s[i], s[i]) :: spansL (s.drop (i + 1)) := by
  rw [List.drop_eq_getElem_cons h]
  by_cases h2 : i + 2 < s.length
  · rw [List.drop_eq_getElem_cons (show i + 1 < s.length by omega), List.drop_eq_getElem_cons (show i + 1 + 1 < s.length from h2), spansL, if_neg (hd h2)]
  · by_cases h1 : i + 1 < s.length
    · rw [List.drop_eq_getElem_cons h1, List.drop_eq_nil_of_le (show s.length ≤ i + 1 + 1 by omega)]; simp [spansL]
    · rw [List.drop_eq_nil_of_le (show s.length ≤ i + 1 by omega)]; simp [spansL]
theorem min_toNat (a b : UInt8) : (((min a b).toNat : Nat) : Int) = if (a.toNat : Int) ≤ b.toNat then (a.toNat : Int) else b.toNat := by
  show (((if a ≤ b then a else b : UInt8).toNat : Nat) : Int) = _
  by_cases h : a ≤ b
  · rw [if_pos h, if_pos (by rw [UInt8.le_iff_toNat_le] at h; omega)]
  · rw [if_neg h, if_neg (by rw [UInt8.le_iff_toNat_le] at h; omega)]
theorem max_toNat (a b : UInt8) : (((max a b).toNat : Nat) : Int) = if (a.toNat : Int) ≤ b.toNat then (b.toNat : Int) else a.toNat := by
  show (((if a ≤ b then b else a : UInt8).toNat : Nat) : Int) = _
  by_cases h : a ≤ b
  · rw [if_pos h, if_pos (by rw [UInt8.le_iff_toNat_le] at h; omega)]
  · rw [if_neg h, if_neg (by rw [UInt8.le_iff_toNat_le] at h; omega)]

set_option maxRecDepth 100000 in
set_option maxHeartbeats 1000000 in
theorem spans1_in (n : Nat) (hn : 1 ≤ n) (l bx n₀ : Nat) (s : Bs) (hs : s.length ≤ 1000000) (hb : bx < n₀) (J Jx : List (UInt8 × UInt8) → World → Prop) (hJd : ∀ pre W k, J pre W → J pre (World.drewN W k))
    (hY : ∀ pre x W, J pre W → pre.length < s.length → YieldAt Fence.wide (n - 1) Tryz.prog l (encU x) W fun e W' =>
      (e = .returned (.bool true) ∧ J (pre ++ [x]) W' ∧ Below n₀ W W') ∨ (e = .returned (.bool false) ∧ Jx (pre ++ [x]) W'))
    (W : World) (hbx : W.cell? ⟨bx, 0, none⟩ = some (.string ⟨s.toArray⟩)) (h0 : J [] W) :
    CallsIn Fence.wide n Tryz.prog 145 #[.func (.yield l) #[] #[], .pointer (some ⟨bx, 0, none⟩)] W fun e W' => (∃ v, e = .returned v) ∧
      ((∃ ys, ys = spansL s ∧ J ys W') ∨ (∃ pre, pre <+: spansL s ∧ Jx pre W')) := by
  refine callsIn_of_wp Tryz.func145 rfl trivial ?_ rfl
  simp only [Tryz.ntmps145, List.size_toArray, List.length_cons, List.length_nil, Nat.reduceAdd, Nat.reduceSub, Array.replicate_succ, Array.replicate_zero, List.push_toArray, List.append_toArray, List.nil_append, List.cons_append]
  gi_wp2
  gi_loopw [3] (fun v wr => ∃ (i : Nat) (pre : List (UInt8 × UInt8)), i ≤ s.length ∧ v = .int .i64 i ∧ Hid (pre ++ spansL (s.drop i) = spansL s) ∧ J pre wr ∧ Below n₀ W wr ∧ pre.length ≤ i)
    (fun i _ => s.length - (intOf i).toNat)
  case atStart => exact ⟨0, [], Nat.zero_le _, rfl, rfl, h0, Below.refl _ _, by simp⟩
  case round =>
    obtain ⟨i, pre, hi, rfl, HP, hJs, hnx, hpl⟩ := hrel
    have hbc := (hnx.cell (p := ⟨bx, 0, none⟩) hb).trans hbx
    by_cases hlt : i < s.length
    · by_cases h2 : i + 2 < s.length
      · by_cases hd : s[i + 1] = 45
        · have hdd : ((s[i + 1].toNat : Int) == 45) = true := by rw [hd]; rfl
          have a1 : (i : Int) + 2 < (s.length : Int) := by omega
          have a2 : (0 : Int) ≤ (i : Int) + 2 := by omega
          have a3 : ((i : Int) + 2).toNat = i + 2 := by omega
          have hmi := min_toNat s[i] s[i + 2]
          have hma := max_toNat s[i] s[i + 2]
          by_cases hl : (s[i].toNat : Int) < s[i + 2].toNat
          · rw [if_pos (Int.le_of_lt hl)] at hmi hma
            have HX : Hid (pre ++ ([(min s[i] s[i + 2], max s[i] s[i + 2])] ++ spansL (s.drop (i + 3))) = spansL s) := by
              show _ = _
              rw [← HP.out, spansL_range h2 hd]; rfl
            clear HP
            gi_wp2_with fail
            gi_quiet (fail)
            gi_wp2_with fail
            gi_region
            obtain ⟨fn, tmps, assign, body, hy, hR⟩ := hY pre (min s[i] s[i + 2], max s[i] s[i + 2]) (wr.drewN (nq + 1)) (hJd _ _ _ hJs) (by omega)
            dsimp only [encU] at hy
            rw [hmi, hma] at hy
            clear hmi hma
            gi_wp2_with fail
            refine hR.mono ?_
            rintro e W3 (⟨rfl, hJ3, hk3⟩ | ⟨rfl, hJx3⟩)
            · gi_wp2_with fail
              go_roundw
              case rel => exact ⟨i + 3, pre ++ [(min s[i] s[i + 2], max s[i] s[i + 2])], by omega, by go_num, by rw [List.append_assoc]; exact HX.out, hJ3, (below_drewN hnx _).trans hk3, by simp; omega⟩
              case measure => simp [intOf]; omega
            · gi_wp2_with fail
              refine bodyPost_ret (results_none rfl _ _ _) rfl ?_
              exact ⟨⟨_, rfl⟩, .inr ⟨_, ⟨spansL (s.drop (i + 3)), by rw [List.append_assoc]; exact HX.out⟩, hJx3⟩⟩
          · by_cases hg : (s[i + 2].toNat : Int) < s[i].toNat
            · rw [if_neg (by omega)] at hmi hma
              have HX : Hid (pre ++ ([(min s[i] s[i + 2], max s[i] s[i + 2])] ++ spansL (s.drop (i + 3))) = spansL s) := by
                show _ = _
                rw [← HP.out, spansL_range h2 hd]; rfl
              clear HP
              gi_wp2_with fail
              gi_quiet (fail)
              gi_wp2_with fail
              gi_region
              obtain ⟨fn, tmps, assign, body, hy, hR⟩ := hY pre (min s[i] s[i + 2], max s[i] s[i + 2]) (wr.drewN (nq + 1)) (hJd _ _ _ hJs) (by omega)
              dsimp only [encU] at hy
              rw [hmi, hma] at hy
              clear hmi hma
              gi_wp2_with fail
              refine hR.mono ?_
              rintro e W3 (⟨rfl, hJ3, hk3⟩ | ⟨rfl, hJx3⟩)
              · gi_wp2_with fail
                go_roundw
                case rel => exact ⟨i + 3, pre ++ [(min s[i] s[i + 2], max s[i] s[i + 2])], by omega, by go_num, by rw [List.append_assoc]; exact HX.out, hJ3, (below_drewN hnx _).trans hk3, by simp; omega⟩
                case measure => simp [intOf]; omega
              · gi_wp2_with fail
                refine bodyPost_ret (results_none rfl _ _ _) rfl ?_
                exact ⟨⟨_, rfl⟩, .inr ⟨_, ⟨spansL (s.drop (i + 3)), by rw [List.append_assoc]; exact HX.out⟩, hJx3⟩⟩
            · have he : (s[i + 2].toNat : Int) = s[i].toNat := by omega
              have HE := Lib.hid he
              rw [if_pos (by omega)] at hmi
              rw [if_pos (by omega), he] at hma
              clear he
              have HX : Hid (pre ++ ([(min s[i] s[i + 2], max s[i] s[i + 2])] ++ spansL (s.drop (i + 3))) = spansL s) := by
                show _ = _
                rw [← HP.out, spansL_range h2 hd]; rfl
              clear HP
              gi_wp2_with fail
              gi_quiet (fail)
              gi_wp2_with fail
              gi_region
              obtain ⟨fn, tmps, assign, body, hy, hR⟩ := hY pre (min s[i] s[i + 2], max s[i] s[i + 2]) (wr.drewN (nq + 1)) (hJd _ _ _ hJs) (by omega)
              dsimp only [encU] at hy
              rw [hmi, hma] at hy
              clear hmi hma
              gi_wp2_with fail
              all_goals (try simp only [HE.out])
              all_goals gi_wp2_with fail
              refine hR.mono ?_
              rintro e W3 (⟨rfl, hJ3, hk3⟩ | ⟨rfl, hJx3⟩)
              · gi_wp2_with fail
                go_roundw
                case rel => exact ⟨i + 3, pre ++ [(min s[i] s[i + 2], max s[i] s[i + 2])], by omega, by go_num, by rw [List.append_assoc]; exact HX.out, hJ3, (below_drewN hnx _).trans hk3, by simp; omega⟩
                case measure => simp [intOf]; omega
              · gi_wp2_with fail
                refine bodyPost_ret (results_none rfl _ _ _) rfl ?_
                exact ⟨⟨_, rfl⟩, .inr ⟨_, ⟨spansL (s.drop (i + 3)), by rw [List.append_assoc]; exact HX.out⟩, hJx3⟩⟩
        · have hdd : ((s[i + 1].toNat : Int) == 45) = false := by rw [beq_eq_false_iff_ne]; intro h; exact hd (byte_inj (by show _ = 45; omega))
          have HX : Hid (pre ++ ([(s[i], s[i])] ++ spansL (s.drop (i + 1))) = spansL s) := by
            show _ = _
            rw [← HP.out, spansL_one hlt (fun _ => hd)]; rfl
          clear HP
          gi_wp2_with fail
          gi_quiet (fail)
          obtain ⟨fn, tmps, assign, body, hy, hR⟩ := hY pre (s[i], s[i]) (wr.drewN nq) (hJd _ _ _ hJs) (by omega)
          dsimp only [encU] at hy
          gi_wp2_with fail
          refine hR.mono ?_
          rintro e W3 (⟨rfl, hJ3, hk3⟩ | ⟨rfl, hJx3⟩)
          · gi_wp2_with fail
            go_roundw
            case rel => exact ⟨i + 1, pre ++ [(s[i], s[i])], by omega, by go_num, by rw [List.append_assoc]; exact HX.out, hJ3, (below_drewN hnx _).trans hk3, by simp; omega⟩
            case measure => simp [intOf]; omega
          · gi_wp2_with fail
            refine bodyPost_ret (results_none rfl _ _ _) rfl ?_
            exact ⟨⟨_, rfl⟩, .inr ⟨_, ⟨spansL (s.drop (i + 1)), by rw [List.append_assoc]; exact HX.out⟩, hJx3⟩⟩
      · have hd : ∀ h : i + 2 < s.length, s[i + 1] ≠ 45 := fun h => absurd h h2
        have HX : Hid (pre ++ ([(s[i], s[i])] ++ spansL (s.drop (i + 1))) = spansL s) := by
          show _ = _
          rw [← HP.out, spansL_one hlt hd]; rfl
        clear hd
        clear HP
        gi_wp2_with fail
        gi_quiet (fail)
        obtain ⟨fn, tmps, assign, body, hy, hR⟩ := hY pre (s[i], s[i]) (wr.drewN nq) (hJd _ _ _ hJs) (by omega)
        dsimp only [encU] at hy
        gi_wp2_with fail
        refine hR.mono ?_
        rintro e W3 (⟨rfl, hJ3, hk3⟩ | ⟨rfl, hJx3⟩)
        · gi_wp2_with fail
          go_roundw
          case rel => exact ⟨i + 1, pre ++ [(s[i], s[i])], by omega, by go_num, by rw [List.append_assoc]; exact HX.out, hJ3, (below_drewN hnx _).trans hk3, by simp; omega⟩
          case measure => simp [intOf]; omega
        · gi_wp2_with fail
          refine bodyPost_ret (results_none rfl _ _ _) rfl ?_
          exact ⟨⟨_, rfl⟩, .inr ⟨_, ⟨spansL (s.drop (i + 1)), by rw [List.append_assoc]; exact HX.out⟩, hJx3⟩⟩
    · obtain rfl : i = s.length := by omega
      gi_wp2
      go_end0
      exact ⟨⟨_, rfl⟩, .inl ⟨_, by have := HP.out; rw [List.drop_length] at this; simpa [spansL] using this, hJs⟩⟩
end Go.Proofs.YtjgdfgpnmmkjfaaGreatDoor
