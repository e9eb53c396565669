/- 'make' of a space of variables, walked. -/
import Derived.Test.YtcaifihdbcjakaaGreatVMake
namespace Go.Proofs.YtcaifihdbcjakaaGreat
set_option linter.unusedVariables false
set_option linter.unusedSimpArgs false
open Go.RowKit
variable {N : Nat}

def ElemRes (N B : Nat) (S : St) (w : World) (x sm c : Nat) (g : Int → Option Nat) (idx : Bs) (en : Ending) (w' : World) : Prop :=
  ∃ d S1 kd vd ed, en = .returned (.pointer (some ⟨d, 0, none⟩)) ∧ Goes B S w S1 w' ∧ Sp N S1 x sm g ∧ Same S S1 g ∧ More S S1 ∧ S1 d = some (.cell kd vd ed (some c)) ∧ elOf S1 c idx = some d

theorem elem_res {B : Nat} {S : St} {w : World} (hB : B ≤ w.heap.size) (h : Rep B w S) {x sm c : Nat} {g : Int → Option Nat} (hp : Sp N S x sm g) {k : Int} {v : Bs} {e : Option Nat} (hc : S c = some (.cell k v e none)) {idx : Bs} (hw : idx.length ≤ maxLen) :
    Calls Tryz.prog 68 #[.pointer (some ⟨c, 0, none⟩), .string ⟨idx.toArray⟩] w fun en w' => ElemRes N B S w x sm c g idx en w' := by
  refine (element_any hB h hp.wf hc hw).mono ?_
  rintro en w' ⟨d, S', rfl, hG, ⟨hel, rfl⟩ | ⟨hel, e0, f, S1, hS1, he0, hfi, hd, hde, rfl⟩⟩
  · obtain ⟨kd, vd, ed, hdc⟩ := el_cell hp.wf hel
    exact ⟨d, S', kd, vd, ed, rfl, hG, hp, Same.refl _ _, More.refl _, hdc, hel⟩
  · have hcd : c ≠ d := by rintro rfl; rw [hd] at hc; cases hc
    have key : Sp N S1 x sm g ∧ Same S S1 g ∧ More S S1 ∧ S1 c = some (.cell k v (some e0) none) ∧ S1 d = none := by
      rcases hS1 with ⟨rfl, rfl⟩ | ⟨rfl, hf0, rfl, rfl⟩
      · exact ⟨hp, Same.refl _ _, More.refl _, hc, hd⟩
      · have hwf := hp.wf.newEls (k := k) (v := v) hf0 hc
        obtain ⟨v1, v2, v3, v4, v5, v6, v7⟩ := els_view (k := k) (v := v) hp.wf hc hf0
        have hmo := more_els hp.wf hc hf0
        exact ⟨hp.more hwf hmo, (same_of_view g v1 v2 v3 v4 v5 v6 v7).1, hmo, by simp [elsS, St.set], by simp only [elsS, St.set]; rw [if_neg (Ne.symm hcd), if_neg hde]; exact hd⟩
    obtain ⟨hp1, hsame, hmore, hc1, hd1⟩ := key
    have hwf := hp1.wf.newEl idx hd1 hc1 he0 hfi
    have hmo := more_el (c := c) (i := idx) hp1.wf hc1 he0 hfi hd1
    have hce : c ≠ e0 := by rintro rfl; rw [hc1] at he0; cases he0
    refine ⟨d, _, 0, [], none, rfl, hG, hp1.more hwf hmo, hsame.trans (el_same hp1.wf hp1.smap hc1 he0 hfi hd1), hmore.trans hmo, ?_, ?_⟩
    · unfold elS; grind
    · unfold elOf elS; grind

/-- What 'make' gives. -/
def MakeRes (N B : Nat) (S : St) (w : World) (x sm : Nat) (g : Int → Option Nat) (i : Int) (word : Bs) (en : Ending) (w' : World) : Prop :=
  ∃ c S1, en = .returned (.pointer (some ⟨c, 0, none⟩)) ∧ Goes B S w S1 w' ∧ Sp N S1 x sm g ∧ Same S S1 g ∧ More S S1 ∧ findC S1 g i word = (some c, 0)

set_option maxRecDepth 100000 in
set_option maxHeartbeats 1600000 in
theorem make_any {B : Nat} {S : St} {w : World} (hB : B ≤ w.heap.size) (h : Rep B w S) {x sm : Nat} {g : Int → Option Nat} (hp : Sp N S x sm g) {i : Int} (hi : (Lit.int .i64 i).wf = true) {word : Bs} (hw : word.length ≤ maxLen) (hfind : (findC S g i word).2 = 0) :
    Calls Tryz.prog 43 #[.pointer (some ⟨x, 0, none⟩), .int .i64 i, .string ⟨word.toArray⟩] w fun en w' => MakeRes N B S w x sm g i word en w' := by
  have HS := Lib.hid (fun W => Split_any word hw W)
  have hsl := split_len word
  have HFC : Hid (∀ S' : St, findC S' g i word = match g i with
    | none => (none, 7)
    | some m => match nmOf S' m (splitC word).1 with
      | none => (none, 0)
      | some n => match nameC S' n with
        | none => (none, 0)
        | some c => if (splitC word).2.2 = false then (some c, 0) else if parOf S' c ≠ none then (none, 11) else if kindOf S' c = 1 then (none, 11) else (elOf S' c (splitC word).2.1, 0)) := fun _ => rfl
  have hfd := hfind
  rw [HFC.out S] at hfd
  generalize splitC word = q at *
  obtain ⟨s1, s2, el⟩ := q
  simp only at HS hsl HFC hfd
  obtain ⟨hs1, hs2⟩ := hsl
  have hs1' : s1.length ≤ maxLen := Nat.le_trans hs1 hw
  have hs2' : s2.length ≤ maxLen := Nat.le_trans hs2 hw
  cases hg : g i with
  | none => rw [hg] at hfd; simp at hfd
  | some m =>
    obtain ⟨f, hm⟩ := hp.wf.scope hp.smap hg
    have HO := Lib.hid (fun m0 => own_res (B := B) (w := w.drewN m0) (by simpa using hB) (h.drewN m0) hp hi hg hm hs1')
    have HD := Lib.hid (fun m0 => goes_drewN h m0)
    simp only [hg] at HFC hfd
    have HFD := Lib.hid hfd
    cases el with
    | false =>
      clear hg hfd
      go_enter Tryz.func43, Tryz.ntmps43
      go_wp2_with (first | (go_at_call 51; refine (HS.out _).mono ?_; rintro e w' ⟨rfl, m0, rfl⟩) | (go_at_call 67; refine (HO.out _).mono ?_; rintro e w' ⟨n, c, l, S1, f1, rfl, hG1, hp1, hsame1, hmore1, hn1, hm1, hf1, hcase⟩; obtain ⟨n0, _⟩ := hG1.rep.name hn1))
      go_ret
      refine ⟨c, S1, rfl, (HD.out m0).trans hG1, hp1, hsame1, hmore1, ?_⟩
      rw [HFC.out S1]
      simp [nmOf, hm1, hf1, nameC, hn1]
    | true =>
      have HC : Hid (∀ n c l S1, S1 n = some (.name c l) → (f s1 = some n ∧ S1 = S ∨ f s1 = none ∧ S1 c = some (.cell 0 [] none none)) → ∃ k v e, S1 c = some (.cell k v e none) ∧ k ≠ 1) := by
        rintro n c l S1 hn (⟨hf, rfl⟩ | ⟨_, hc⟩)
        · obtain ⟨k, v, e, p, hc⟩ := hp.wf.nc hn
          simp only [nmOf, hm, hf, nameC, hn, parOf, kindOf, hc] at hfd
          cases p with
          | none =>
            refine ⟨k, v, e, hc, fun hk => ?_⟩
            simp [hk] at hfd
          | some p => simp at hfd
        · exact ⟨0, [], none, hc, by decide⟩
      have HSZ : Hid (∀ m0, B ≤ (w.drewN m0).heap.size) := fun m0 => by simpa using hB
      clear hg hfd
      go_enter Tryz.func43, Tryz.ntmps43
      go_wp2_with (first | (go_at_call 51; refine (HS.out _).mono ?_; rintro e w' ⟨rfl, m0, rfl⟩) | (go_at_call 67; refine (HO.out _).mono ?_; rintro e w' ⟨n, c, l, S1, f1, rfl, hG1, hp1, hsame1, hmore1, hn1, hm1, hf1, hcase⟩; obtain ⟨n0, _⟩ := hG1.rep.name hn1; obtain ⟨k, v, ee, hc1, hk1⟩ := HC.out n c l S1 hn1 hcase) | (go_at_call 68; refine (elem_res (Nat.le_trans (HSZ.out m0) hG1.below.size) hG1.rep hp1 hc1 hs2').mono ?_; rintro e w2 ⟨d, S2, kd, vd, ed, rfl, hG2, hp2, hsame2, hmore2, hd2, hel2⟩))
      go_ret
      refine ⟨d, S2, rfl, ((HD.out m0).trans hG1).trans hG2, hp2, hsame1.trans hsame2, hmore1.trans hmore2, ?_⟩
      rw [HFC.out S2]
      obtain ⟨f2, hm2, hf2⟩ := hmore2.nmap hm1
      obtain ⟨e2, hc2⟩ := hmore2.cell hc1
      simp [nmOf, hm2, hf2 _ _ hf1, nameC, hmore2.name hn1, parOf, kindOf, hc2, hk1, hel2]
end Go.Proofs.YtcaifihdbcjakaaGreat
