/- 'Set' of a space of variables, with why it refuses. -/
import Derived.Test.YtcaifihdbcjakaaGreatVSet
namespace Go.Proofs.YtcaifihdbcjakaaGreat
set_option linter.unusedVariables false
set_option linter.unusedSimpArgs false
open Go.RowKit
variable {N : Nat}

/-- Why 'Set' refuses. -/
def SetNo (N : Nat) (S : St) (x sm : Nat) (g : Int → Option Nat) (i : Int) (word : Bs) : Prop :=
  (findC S g i word).2 ≠ 0 ∨ ∃ S1 c, Sp N S1 x sm g ∧ More S S1 ∧ findC S1 g i word = (some c, 0) ∧ stateC S1 c ≠ (0, 0) ∧ stateC S1 c ≠ (1, 0) ∧ Same S S1 g
/-- What 'Set' gives. -/
def SetRes2 (N B : Nat) (S : St) (w : World) (x sm : Nat) (g : Int → Option Nat) (i : Int) (word val : Bs) (en : Ending) (w' : World) : Prop :=
  ∃ r S', en = .returned (.int .i64 r) ∧ Goes B S w S' w' ∧ Sp N S' x sm g ∧ (r ≠ 0 ∧ Same S S' g ∧ SetNo N S x sm g i word ∨ r = 0 ∧ ∃ S1 c, Sp N S1 x sm g ∧ Same S S1 g ∧ More S S1 ∧ findC S1 g i word = (some c, 0) ∧ (stateC S1 c = (0, 0) ∨ stateC S1 c = (1, 0)) ∧ S' = setS S1 c val)

set_option maxRecDepth 100000 in
set_option maxHeartbeats 1600000 in
theorem Set_any2 {B : Nat} {S : St} {w : World} (hB : B ≤ w.heap.size) (h : Rep B w S) {x sm : Nat} {g : Int → Option Nat} (hp : Sp N S x sm g) {i : Int} (hi : (Lit.int .i64 i).wf = true) {word val : Bs} (hw : word.length ≤ maxLen) :
    Calls Tryz.prog 15 #[.pointer (some ⟨x, 0, none⟩), .int .i64 i, .string ⟨word.toArray⟩, .string ⟨val.toArray⟩] w fun en w' => SetRes2 N B S w x sm g i word val en w' := by
  have HF := Lib.hid (find_any h hp hi hw)
  have HD := Lib.hid (fun m0 => goes_drewN h m0)
  by_cases hfd : (findC S g i word).2 = 0
  · have HM := Lib.hid (fun m0 => make_any (B := B) (w := w.drewN m0) (by simpa using hB) (h.drewN m0) hp hi hw hfd)
    rw [hfd] at HF
    generalize (findC S g i word).1 = r at *
    clear hfd
    go_enter Tryz.func15, Tryz.ntmps15
    go_wp2_with (first | (go_at_call 39; refine HF.out.mono ?_; rintro e w' ⟨rfl, m0, rfl⟩) | (go_at_call 43; refine (HM.out _).mono ?_; rintro e w1 ⟨c, S1, rfl, hG1, hp1, hsame1, hmore1, hfind1⟩))
    have hcell := findC_cell hp1.wf hp1.smap (i := i) (word := word) (c := c) (by rw [hfind1])
    obtain ⟨k, v, e, p, hc⟩ := hcell
    have hst := stateC_vals hp1.wf hc
    have hstc := state_any hG1.rep hp1.wf hc
    obtain ⟨c0, c1, _, c3, ⟨n, c4⟩, cf⟩ := hG1.rep.cell hc
    have HG := Lib.hid ((HD.out m0).trans hG1)
    have hf0 := cf 0
    have hf1 := cf 1
    have hf4 := cf 4
    have HP := Lib.hid hp1
    have HSM := Lib.hid hsame1
    have HMO := Lib.hid hmore1
    have HFI := Lib.hid hfind1
    have HGR := Lib.hid (fun n' => ((HG.out).trans (goes_setCell (k' := 1) (v' := val) hG1.rep hc n')))
    have HST := Lib.hid hst
    have hkk := hp1.wf.kinds hc
    clear hst hfind1 hsame1 HM HF HD
    cases p with
    | none =>
      have hs : stateC S1 c = (k, 0) := by simp [stateC, parOf, kindOf, hc]
      have hset : setS S1 c val = S1.set c (.cell 1 val e none) := by simp [setS, hc]
      rw [hs] at hstc
      simp only [Option.map_none] at c3
      have HS := Lib.hid hs
      have HSET := Lib.hid hset
      by_cases hk2 : k = 2
      · subst hk2
        clear hs hset
        refine hstc.mono ?_
        rintro e2 w2 ⟨rfl, rfl⟩
        go_wp2_with fail
        go_ret
        exact ⟨11, S1, rfl, HG.out, HP.out, .inl ⟨by decide, HSM.out, .inr ⟨S1, c, HP.out, HMO.out, HFI.out, by rw [HS.out]; decide, by rw [HS.out]; decide, HSM.out⟩⟩⟩
      · have HWF := Lib.hid (HP.out.wf.setVar val hc hk2)
        have HK2 := Lib.hid hk2
        have hSP : Sp N (S1.set c (.cell 1 val e none)) x sm g := by
          obtain ⟨cs, rm, r', h1, h2, h3⟩ := HP.out.space
          have hsm := HP.out.smap
          refine ⟨HWF.out, by grind, cs, rm, r', by grind, by grind, fun b n c' e1 => ?_⟩
          obtain ⟨h4, l, h5, h6⟩ := h3 b n c' e1
          exact ⟨h4, l, by grind, h6⟩
        have HSP := Lib.hid hSP
        rcases (by omega : k = 0 ∨ k = 1) with rfl | rfl
        · clear hs hset hSP hk2 hkk
          refine hstc.mono ?_
          rintro e2 w2 ⟨rfl, rfl⟩
          go_wp2_with fail
          go_ret
          exact ⟨0, _, rfl, HGR.out _, HSP.out, .inr ⟨rfl, S1, c, HP.out, HSM.out, HMO.out, HFI.out, .inl HS.out, HSET.out.symm⟩⟩
        · clear hs hset hSP hk2 hkk
          refine hstc.mono ?_
          rintro e2 w2 ⟨rfl, rfl⟩
          go_wp2_with fail
          go_ret
          exact ⟨0, _, rfl, HGR.out _, HSP.out, .inr ⟨rfl, S1, c, HP.out, HSM.out, HMO.out, HFI.out, .inr HS.out, HSET.out.symm⟩⟩
    | some q =>
      obtain ⟨kq, vq, eq, hq⟩ := HP.out.wf.par hc
      have hkq := HP.out.wf.kinds hq
      have hcq : q ≠ c := by rintro rfl; rw [hc] at hq; cases hq
      simp only [Option.map_some] at c3
      by_cases hq1 : kq = 1
      · have hs : stateC S1 c = (0, 11) := by simp [stateC, parOf, kindOf, hc, hq, hq1]
        have HS := Lib.hid hs
        rw [hs] at hstc
        clear hs
        refine hstc.mono ?_
        rintro e2 w2 ⟨rfl, rfl⟩
        go_wp2_with fail
        go_ret
        exact ⟨11, S1, rfl, HG.out, HP.out, .inl ⟨by decide, HSM.out, .inr ⟨S1, c, HP.out, HMO.out, HFI.out, by rw [HS.out]; decide, by rw [HS.out]; decide, HSM.out⟩⟩⟩
      · have hk2 := HP.out.wf.elk hc
        have hs : stateC S1 c = (if kq = 0 then 0 else k, 0) := by simp only [stateC, parOf, kindOf, hc, hq]; rw [if_neg hq1]; split <;> rfl
        have hset : setS S1 c val = (S1.set c (.cell 1 val e (some q))).set q (.cell (if kq = 0 then 2 else kq) vq eq none) := by simp [setS, hc, hq]
        have hs2 : (if kq = 0 then 0 else k) = 0 ∨ (if kq = 0 then 0 else k) = 1 := by split <;> omega
        rw [hs] at hstc
        have HWF := Lib.hid (HP.out.wf.setEl (kq' := if kq = 0 then 2 else kq) val hc hq hq1 (by split <;> omega))
        have hSP : Sp N ((S1.set c (.cell 1 val e (some q))).set q (.cell (if kq = 0 then 2 else kq) vq eq none)) x sm g := by
          obtain ⟨cs, rm, r', h1, h2, h3⟩ := HP.out.space
          have hsm := HP.out.smap
          refine ⟨HWF.out, by grind, cs, rm, r', by grind, by grind, fun b n c' e1 => ?_⟩
          obtain ⟨h4, l, h5, h6⟩ := h3 b n c' e1
          exact ⟨h4, l, by grind, h6⟩
        have HSP := Lib.hid hSP
        have HSET := Lib.hid hset
        have hq3 : (S1.set c (.cell 1 val e (some q))) q = some (.cell kq vq eq none) := by simp only [St.set]; rw [if_neg hcq]; exact hq
        have HB := Lib.hid (fun n' => become_any (HGR.out n').rep hkq hq3)
        have HS2 : Hid (stateC S1 c = (0, 0) ∨ stateC S1 c = (1, 0)) := by
          show _ ∨ _
          rw [hs]; rcases hs2 with h | h <;> rw [h] <;> simp
        generalize (if kq = 0 then 0 else k) = ks at *
        clear hs hset hSP hk2 hkk hkq hq1 hq3
        rcases hs2 with rfl | rfl
        · refine hstc.mono ?_
          rintro e2 w2 ⟨rfl, rfl⟩
          go_wp2_with (go_at_call 44; refine (HB.out _).mono ?_; rintro e w3 ⟨rfl, hG3⟩)
          go_ret
          exact ⟨0, _, rfl, (HGR.out _).trans hG3, HSP.out, .inr ⟨rfl, S1, c, HP.out, HSM.out, HMO.out, HFI.out, HS2.out, HSET.out.symm⟩⟩
        · refine hstc.mono ?_
          rintro e2 w2 ⟨rfl, rfl⟩
          go_wp2_with (go_at_call 44; refine (HB.out _).mono ?_; rintro e w3 ⟨rfl, hG3⟩)
          go_ret
          exact ⟨0, _, rfl, (HGR.out _).trans hG3, HSP.out, .inr ⟨rfl, S1, c, HP.out, HSM.out, HMO.out, HFI.out, HS2.out, HSET.out.symm⟩⟩
  · have te : (((findC S g i word).2 : Int) != 0) = true := by simpa using hfd
    have HN := Lib.hid hfd
    have HNO : Hid (SetNo N S x sm g i word) := .inl hfd
    generalize (findC S g i word).2 = en at *
    generalize (findC S g i word).1 = r at *
    clear hfd
    go_enter Tryz.func15, Tryz.ntmps15
    go_wp2_with (go_at_call 39; refine HF.out.mono ?_; rintro e w' ⟨rfl, m0, rfl⟩)
    go_ret
    exact ⟨en, S, rfl, HD.out _, hp, .inl ⟨HN.out, Same.refl _ _, HNO.out⟩⟩
end Go.Proofs.YtcaifihdbcjakaaGreat
