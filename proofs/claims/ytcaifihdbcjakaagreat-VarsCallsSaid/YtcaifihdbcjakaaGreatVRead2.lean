/- 'Get', 'Kind', 'Linked' of a space of variables. -/
import Derived.Test.YtcaifihdbcjakaaGreatVFind
namespace Go.Proofs.YtcaifihdbcjakaaGreat
set_option linter.unusedVariables false
set_option linter.unusedSimpArgs false
open Go.RowKit
variable {N : Nat}

theorem stateC_vals {S : St} (h : WF S) {c : Nat} {k : Int} {v : Bs} {e p : Option Nat} (hc : S c = some (.cell k v e p)) :
    stateC S c = (0, 11) ∨ stateC S c = (0, 0) ∨ stateC S c = (1, 0) ∨ stateC S c = (2, 0) := by
  have hk := h.kinds hc
  unfold stateC
  cases p with
  | none => simp only [parOf, kindOf, hc]; rcases hk with rfl | rfl | rfl <;> simp
  | some p =>
    obtain ⟨kp, vp, ep, hp⟩ := h.par hc
    have hkp := h.kinds hp
    simp only [parOf, kindOf, hc, hp]
    rcases hk with rfl | rfl | rfl <;> rcases hkp with rfl | rfl | rfl <;> simp

set_option maxRecDepth 100000 in
set_option maxHeartbeats 1600000 in
theorem Get_any {B : Nat} {S : St} {w : World} (h : Rep B w S) {x sm : Nat} {g : Int → Option Nat} (hp : Sp N S x sm g) {i : Int} (hi : (Lit.int .i64 i).wf = true) {word : Bs} (hw : word.length ≤ maxLen) :
    Calls Tryz.prog 17 #[.pointer (some ⟨x, 0, none⟩), .int .i64 i, .string ⟨word.toArray⟩] w fun en w' => en = .returned (.tuple #[.string ⟨(getC S g i word).1.toArray⟩, .int .i64 (getC S g i word).2]) ∧ ∃ m, w' = w.drewN m := by
  have HF := Lib.hid (find_any h hp hi hw)
  have HG : Hid (getC S g i word = if (findC S g i word).2 ≠ 0 then ([], (findC S g i word).2) else match (findC S g i word).1 with
    | none => ([], 8)
    | some c => if (stateC S c).2 ≠ 0 ∨ (stateC S c).1 = 2 then ([], 11) else if (stateC S c).1 = 0 then ([], 8) else (valOf S c, 0)) := rfl
  have hcell := fun c => findC_cell (c := c) hp.wf hp.smap (i := i) (word := word)
  generalize findC S g i word = q at *
  obtain ⟨r, en⟩ := q
  simp only at HF HG hcell
  by_cases he : en = 0
  · subst he
    cases r with
    | none =>
      have HR : Hid (getC S g i word = ([], 8)) := by show _ = _; rw [HG.out]; simp
      simp only [Option.map_none] at HF
      clear HG hcell
      go_enter Tryz.func17, Tryz.ntmps17
      go_wp2_with (go_at_call 39; refine HF.out.mono ?_; rintro e w' ⟨rfl, m0, rfl⟩)
      go_ret2
      exact ⟨by rw [HR.out]; rfl, _, rfl⟩
    | some c =>
      obtain ⟨k, v, e, p, hc⟩ := hcell c rfl
      simp only [Option.map_some] at HF
      obtain ⟨_, c1, _⟩ := h.cell hc
      have HSt := Lib.hid (fun m0 => state_any (h.drewN m0) hp.wf hc)
      have hv : valOf S c = v := by simp [valOf, hc]
      simp only [hv] at HG
      have hst := stateC_vals hp.wf hc
      generalize stateC S c = st at *
      clear hcell hv
      rcases hst with rfl | rfl | rfl | rfl
      · have HR : Hid (getC S g i word = ([], 11)) := by show _ = _; rw [HG.out]; simp
        clear HG
        go_enter Tryz.func17, Tryz.ntmps17
        go_wp2_with (first | (go_at_call 39; refine HF.out.mono ?_; rintro e w' ⟨rfl, m0, rfl⟩) | (go_at_call 36; refine (HSt.out _).mono ?_; rintro e w' ⟨rfl, rfl⟩))
        go_ret2
        exact ⟨by rw [HR.out]; rfl, _, rfl⟩
      · have HR : Hid (getC S g i word = ([], 8)) := by show _ = _; rw [HG.out]; simp
        clear HG
        go_enter Tryz.func17, Tryz.ntmps17
        go_wp2_with (first | (go_at_call 39; refine HF.out.mono ?_; rintro e w' ⟨rfl, m0, rfl⟩) | (go_at_call 36; refine (HSt.out _).mono ?_; rintro e w' ⟨rfl, rfl⟩))
        go_ret2
        exact ⟨by rw [HR.out]; rfl, _, rfl⟩
      · have HR : Hid (getC S g i word = (v, 0)) := by show _ = _; rw [HG.out]; simp
        clear HG
        go_enter Tryz.func17, Tryz.ntmps17
        go_wp2_with (first | (go_at_call 39; refine HF.out.mono ?_; rintro e w' ⟨rfl, m0, rfl⟩) | (go_at_call 36; refine (HSt.out _).mono ?_; rintro e w' ⟨rfl, rfl⟩))
        go_ret2
        exact ⟨by rw [HR.out]; rfl, _, rfl⟩
      · have HR : Hid (getC S g i word = ([], 11)) := by show _ = _; rw [HG.out]; simp
        clear HG
        go_enter Tryz.func17, Tryz.ntmps17
        go_wp2_with (first | (go_at_call 39; refine HF.out.mono ?_; rintro e w' ⟨rfl, m0, rfl⟩) | (go_at_call 36; refine (HSt.out _).mono ?_; rintro e w' ⟨rfl, rfl⟩))
        go_ret2
        exact ⟨by rw [HR.out]; rfl, _, rfl⟩
  · have HR : Hid (getC S g i word = ([], en)) := by show _ = _; rw [HG.out]; simp [he]
    have te : ((en : Int) != 0) = true := by simpa using he
    clear HG hcell
    go_enter Tryz.func17, Tryz.ntmps17
    go_wp2_with (go_at_call 39; refine HF.out.mono ?_; rintro e w' ⟨rfl, m0, rfl⟩)
    go_ret2
    exact ⟨by rw [HR.out]; rfl, _, rfl⟩

set_option maxRecDepth 100000 in
set_option maxHeartbeats 1600000 in
theorem Kind_any {B : Nat} {S : St} {w : World} (h : Rep B w S) {x sm : Nat} {g : Int → Option Nat} (hp : Sp N S x sm g) {i : Int} (hi : (Lit.int .i64 i).wf = true) {word : Bs} (hw : word.length ≤ maxLen) :
    Calls Tryz.prog 13 #[.pointer (some ⟨x, 0, none⟩), .int .i64 i, .string ⟨word.toArray⟩] w fun en w' => en = .returned (.int .i64 (kindC S g i word)) ∧ ∃ m, w' = w.drewN m := by
  have HF := Lib.hid (find_any h hp hi hw)
  have HG : Hid (kindC S g i word = if (findC S g i word).2 ≠ 0 then 0 else match (findC S g i word).1 with
    | none => 0
    | some c => (stateC S c).1) := rfl
  have hcell := fun c => findC_cell (c := c) hp.wf hp.smap (i := i) (word := word)
  generalize findC S g i word = q at *
  obtain ⟨r, en⟩ := q
  simp only at HF HG hcell
  by_cases he : en = 0
  · subst he
    cases r with
    | none =>
      have HR : Hid (kindC S g i word = 0) := by show _ = _; rw [HG.out]; simp
      simp only [Option.map_none] at HF
      clear HG hcell
      go_enter Tryz.func13, Tryz.ntmps13
      go_wp2_with (go_at_call 39; refine HF.out.mono ?_; rintro e w' ⟨rfl, m0, rfl⟩)
      go_ret
      exact ⟨by rw [HR.out]; rfl, _, rfl⟩
    | some c =>
      obtain ⟨k, v, e, p, hc⟩ := hcell c rfl
      simp only [Option.map_some] at HF
      have HSt := Lib.hid (fun m0 => state_any (h.drewN m0) hp.wf hc)
      have HR : Hid (kindC S g i word = (stateC S c).1) := by show _ = _; rw [HG.out]; simp
      generalize stateC S c = st at *
      obtain ⟨st1, st2⟩ := st
      clear hcell HG
      go_enter Tryz.func13, Tryz.ntmps13
      go_wp2_with (first | (go_at_call 39; refine HF.out.mono ?_; rintro e w' ⟨rfl, m0, rfl⟩) | (go_at_call 36; refine (HSt.out _).mono ?_; rintro e w' ⟨rfl, rfl⟩))
      go_ret
      exact ⟨by rw [HR.out]; rfl, _, rfl⟩
  · have HR : Hid (kindC S g i word = 0) := by show _ = _; rw [HG.out]; simp [he]
    have te : ((en : Int) != 0) = true := by simpa using he
    clear HG hcell
    go_enter Tryz.func13, Tryz.ntmps13
    go_wp2_with (go_at_call 39; refine HF.out.mono ?_; rintro e w' ⟨rfl, m0, rfl⟩)
    go_ret
    exact ⟨by rw [HR.out]; rfl, _, rfl⟩

set_option maxRecDepth 100000 in
set_option maxHeartbeats 1600000 in
theorem Linked_any {B : Nat} {S : St} {w : World} (h : Rep B w S) {x sm : Nat} {g : Int → Option Nat} (hp : Sp N S x sm g) {i : Int} (hi : (Lit.int .i64 i).wf = true) {word : Bs} (hw : word.length ≤ maxLen) :
    Calls Tryz.prog 32 #[.pointer (some ⟨x, 0, none⟩), .int .i64 i, .string ⟨word.toArray⟩] w fun en w' => en = .returned (.bool (linkedC S g i word)) ∧ w = w' := by
  obtain ⟨cs, rm, r, hx, _⟩ := hp.space
  obtain ⟨x0, _⟩ := h.space hx
  have HT := Lib.hid (there_any h hp hi)
  have hl := h.lookScope hp.smap hi
  cases hg : g i with
  | none =>
    have HR : Hid (linkedC S g i word = false) := by show _ = _; simp [linkedC, hg]
    rw [hg] at HT hl
    go_enter Tryz.func32, Tryz.ntmps32
    go_wp2_with (go_at_call 35; refine HT.out.mono ?_; rintro e w' ⟨rfl, rfl⟩)
    go_ret
    exact ⟨by rw [HR.out]; rfl, rfl⟩
  | some m =>
    obtain ⟨f, hm⟩ := hp.wf.scope hp.smap hg
    have hl2 := h.lookName hm hw
    rw [hg] at HT hl
    cases hf : f word with
    | none =>
      have HR : Hid (linkedC S g i word = false) := by show _ = _; simp [linkedC, hg, nmOf, hm, hf]
      rw [hf] at hl2
      simp only [Option.map_none] at hl2
      clear hg hf
      go_enter Tryz.func32, Tryz.ntmps32
      go_wp2_with (go_at_call 35; refine HT.out.mono ?_; rintro e w' ⟨rfl, rfl⟩)
      go_ret
      exact ⟨by rw [HR.out]; rfl, rfl⟩
    | some n =>
      obtain ⟨c, l, hn⟩ := hp.wf.nm hm hf
      obtain ⟨n0, n1⟩ := h.name hn
      have HR : Hid (linkedC S g i word = l) := by show _ = _; simp [linkedC, hg, nmOf, hm, hf, linkC, hn]
      rw [hf] at hl2
      simp only [Option.map_some] at hl2
      clear hg hf
      go_enter Tryz.func32, Tryz.ntmps32
      go_wp2_with (go_at_call 35; refine HT.out.mono ?_; rintro e w' ⟨rfl, rfl⟩)
      go_ret
      exact ⟨by rw [HR.out]; rfl, rfl⟩
end Go.Proofs.YtcaifihdbcjakaaGreat
