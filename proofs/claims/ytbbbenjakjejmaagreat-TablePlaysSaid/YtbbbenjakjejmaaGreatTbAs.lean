/- What both tables are asked. -/
import Derived.Test.YtbbbenjakjejmaaGreatTbRg
import Derived.Test.YtbbbenjakjejmaaGreatTbRd4
namespace Go.Proofs.YtbbbenjakjejmaaGreat
set_option linter.unusedVariables false
set_option linter.unusedSimpArgs false
open Go.RowKit Go.MapKept Go.WideMaps
/-- Both tables tell the same, and what was there at first is there. -/
def Ask (B tb mn mh mk yb : Nat) (who : Own) (cb : Nat → Nat) (S : TS) (w0 W : World) : Prop := Tw W B tb mn mh mk yb who cb S S ∧ S.last ≤ 100000 ∧ S.epoch ≤ 100000 ∧ Below w0.heap.size w0 W
section
variable {W w0 : World} {B tb mn mh mk yb : Nat} {who : Own} {cb : Nat → Nat} {S : TS}
theorem Ask.low (h : Ask B tb mn mh mk yb who cb S w0 W) {w' : World} (hb : Below W.heap.size W w') : Ask B tb mn mh mk yb who cb S w0 w' := ⟨h.1.low hb, h.2.1, h.2.2.1, h.2.2.2.trans (hb.mono h.2.2.2.size)⟩
theorem Ask.drew (h : Ask B tb mn mh mk yb who cb S w0 W) : Ask B tb mn mh mk yb who cb S w0 W.drew := h.low (Below.refl _ _).drew
theorem Ask.rf (h : Ask B tb mn mh mk yb who cb S w0 W) : ∃ l v, Rf W B yb l S.epoch v ∧ Sim S l ∧ (∀ r ∈ l, r.name.length ≤ 1000000) := by
  obtain ⟨l, v, h1, h2, h3, _⟩ := h.1.ex
  exact ⟨l, v, h1, h2, fun r hr => Nat.le_trans (h3 r hr) (by omega)⟩
theorem Ask.find (h : Ask B tb mn mh mk yb who cb S w0 W) (s : Bs) (hs : s.length ≤ 100000) {q : Nat} (hq : (S.nm false s).getD 0 = q) : Calls Tryz.prog 29 #[.pointer (some ⟨tb, 0, none⟩), .string ⟨s.toArray⟩] W fun e w' => e = .returned (.int .i64 (q : Int)) ∧ Ask B tb mn mh mk yb who cb S w0 w' := by
  subst hq
  exact (Find_any h.1.tb h.1.wf s hs).mono fun e w' ⟨he, hb⟩ => ⟨he, h.low hb⟩
theorem Ask.rfind (h : Ask B tb mn mh mk yb who cb S w0 W) (s : Bs) {q : Nat} (hq : (S.nm false s).getD 0 = q) : Calls Tryz.prog 30 #[.pointer (some ⟨yb, 0, none⟩), .string ⟨s.toArray⟩] W fun e w' => e = .returned (.int .i64 (q : Int)) ∧ Ask B tb mn mh mk yb who cb S w0 w' := by
  obtain ⟨l, v, h1, h2, h3⟩ := h.rf
  exact (rFind_any h1 h2 h.1.wf h.2.1 s hq).mono fun e w' ⟨he, hb⟩ => ⟨he, h.low hb⟩
theorem Ask.findH (h : Ask B tb mn mh mk yb who cb S w0 W) (s : Bs) (hs : s.length ≤ 100000) {q : Nat} (hq : (S.nm true s).getD 0 = q) : Calls Tryz.prog 31 #[.pointer (some ⟨tb, 0, none⟩), .string ⟨s.toArray⟩] W fun e w' => e = .returned (.int .i64 (q : Int)) ∧ Ask B tb mn mh mk yb who cb S w0 w' := by
  subst hq
  exact (FindHidden_any h.1.tb h.1.wf s hs).mono fun e w' ⟨he, hb⟩ => ⟨he, h.low hb⟩
theorem Ask.rfindH (h : Ask B tb mn mh mk yb who cb S w0 W) (s : Bs) {q : Nat} (hq : (S.nm true s).getD 0 = q) : Calls Tryz.prog 32 #[.pointer (some ⟨yb, 0, none⟩), .string ⟨s.toArray⟩] W fun e w' => e = .returned (.int .i64 (q : Int)) ∧ Ask B tb mn mh mk yb who cb S w0 w' := by
  obtain ⟨l, v, h1, h2, h3⟩ := h.rf
  exact (rFindHidden_any h1 h2 h.1.wf h.2.1 s hq).mono fun e w' ⟨he, hb⟩ => ⟨he, h.low hb⟩
theorem Epoch_any (h : Tb W B tb mn mh mk who cb S) : Calls Tryz.prog 38 #[.pointer (some ⟨tb, 0, none⟩)] W fun e w' => e = .returned (.int .i64 (S.epoch : Int)) ∧ W = w' := by
  have c4 := h.cells.2.2.2.2.1
  clear h
  go_enter Tryz.func38, Tryz.ntmps38
  go_wp2_with fail
  go_ret
  exact ⟨rfl, rfl⟩
theorem Origin_none (h : Tb W B tb mn mh mk who cb S) {i : Int} (hi : (Lit.int .i64 i).wf = true) (hn : S.num i = none) : Calls Tryz.prog 13 #[.pointer (some ⟨tb, 0, none⟩), .int .i64 i] W fun e w' => e = .returned (.tuple #[.int .i64 0, .int .i64 8]) ∧ W = w' := by
  have AT := Lib.hid (at_any h hi)
  rw [hn] at AT
  simp only [ptrM, Option.map_none] at AT
  clear h
  go_enter Tryz.func13, Tryz.ntmps13
  go_wp2_with (go_at_call 44; refine AT.out.mono ?_; rintro e w2 ⟨rfl, rfl⟩)
  go_ret2
  exact ⟨rfl, rfl⟩
theorem Ask.epoch (h : Ask B tb mn mh mk yb who cb S w0 W)  : Calls Tryz.prog 38 #[.pointer (some ⟨tb, 0, none⟩)] W fun e w' => e = .returned (.int .i64 (S.epoch : Int)) ∧ Ask B tb mn mh mk yb who cb S w0 w' := by
  exact (Epoch_any h.1.tb).mono fun e w' ⟨he, hw⟩ => ⟨he, hw ▸ h⟩
theorem Ask.repoch (h : Ask B tb mn mh mk yb who cb S w0 W)  : Calls Tryz.prog 39 #[.pointer (some ⟨yb, 0, none⟩)] W fun e w' => e = .returned (.int .i64 (S.epoch : Int)) ∧ Ask B tb mn mh mk yb who cb S w0 w' := by
  obtain ⟨l, v, h1, h2, h3⟩ := h.rf
  exact (rEpoch_any h1).mono fun e w' ⟨he, hw⟩ => ⟨he, hw ▸ h⟩
theorem Ask.count (h : Ask B tb mn mh mk yb who cb S w0 W)  : Calls Tryz.prog 40 #[.pointer (some ⟨tb, 0, none⟩)] W fun e w' => e = .returned (.int .i64 (S.cnt : Int)) ∧ Ask B tb mn mh mk yb who cb S w0 w' := by
  exact (Count_any h.1.tb h.1.wf).mono fun e w' ⟨he, hw⟩ => ⟨he, hw ▸ h⟩
theorem Ask.rcount (h : Ask B tb mn mh mk yb who cb S w0 W)  : Calls Tryz.prog 41 #[.pointer (some ⟨yb, 0, none⟩)] W fun e w' => e = .returned (.int .i64 (S.cnt : Int)) ∧ Ask B tb mn mh mk yb who cb S w0 w' := by
  obtain ⟨l, v, h1, h2, h3⟩ := h.rf
  exact (rCount_any h1 h2 h.1.wf h.2.1).mono fun e w' ⟨he, hb⟩ => ⟨he, h.low hb⟩
theorem Ask.names (h : Ask B tb mn mh mk yb who cb S w0 W) (p : Bs) (hp : p.length ≤ 100000) {ks : List Bs} (hN : Nms S false ks) : Calls Tryz.prog 34 #[.pointer (some ⟨tb, 0, none⟩), .string ⟨p.toArray⟩] W fun e w' => ∃ vo, e = .returned vo ∧ TxtRow w' vo (srt (ks.filter (qB p))) ∧ Ask B tb mn mh mk yb who cb S w0 w' := by
  obtain ⟨ks', hN', hc⟩ := Names_any h.1.tb h.1.wf (by have := h.2.1; omega) p hp
  have e0 : srt (ks'.filter (qB p)) = srt (ks.filter (qB p)) := srt_of_perm ((Nms.perm hN hN' (fun _ => rfl)).filter _)
  refine hc.mono fun e w' hh => ?_
  obtain ⟨o, c, he, ho, hb⟩ := hh
  refine ⟨_, he, ?_, h.low hb⟩
  rw [← e0]
  refine TxtRow.of_owns (base := W.heap.size) ?_
  rw [srt_len]
  exact ho
theorem Ask.rnames (h : Ask B tb mn mh mk yb who cb S w0 W) (p : Bs) (hp : p.length ≤ 100000) {ks : List Bs} (hN : Nms S false ks) {va : Value} {ss : List Bs} (hr : TxtRow W va ss) : Calls Tryz.prog 35 #[.pointer (some ⟨yb, 0, none⟩), .string ⟨p.toArray⟩] W fun e w' => ∃ vo, e = .returned vo ∧ TxtRow w' va ss ∧ TxtRow w' vo (srt (ks.filter (qB p))) ∧ Ask B tb mn mh mk yb who cb S w0 w' := by
  obtain ⟨l, v, h1, h2, h3⟩ := h.rf
  exact (rNames_any h1 h2 h.1.wf h.2.1 h3 p (by omega) hN).mono fun e w' ⟨vo, he, ho, hb⟩ => ⟨vo, he, hr.below hb, ho, h.low hb⟩
theorem Ask.hidden (h : Ask B tb mn mh mk yb who cb S w0 W) (p : Bs) (hp : p.length ≤ 100000) {ks : List Bs} (hN : Nms S true ks) : Calls Tryz.prog 36 #[.pointer (some ⟨tb, 0, none⟩), .string ⟨p.toArray⟩] W fun e w' => ∃ vo, e = .returned vo ∧ TxtRow w' vo (srt (ks.filter (qB p))) ∧ Ask B tb mn mh mk yb who cb S w0 w' := by
  obtain ⟨ks', hN', hc⟩ := Hidden_any h.1.tb h.1.wf (by have := h.2.1; omega) p hp
  have e0 : srt (ks'.filter (qB p)) = srt (ks.filter (qB p)) := srt_of_perm ((Nms.perm hN hN' (fun _ => rfl)).filter _)
  refine hc.mono fun e w' hh => ?_
  obtain ⟨o, c, he, ho, hb⟩ := hh
  refine ⟨_, he, ?_, h.low hb⟩
  rw [← e0]
  refine TxtRow.of_owns (base := W.heap.size) ?_
  rw [srt_len]
  exact ho
theorem Ask.rhidden (h : Ask B tb mn mh mk yb who cb S w0 W) (p : Bs) (hp : p.length ≤ 100000) {ks : List Bs} (hN : Nms S true ks) {va : Value} {ss : List Bs} (hr : TxtRow W va ss) : Calls Tryz.prog 37 #[.pointer (some ⟨yb, 0, none⟩), .string ⟨p.toArray⟩] W fun e w' => ∃ vo, e = .returned vo ∧ TxtRow w' va ss ∧ TxtRow w' vo (srt (ks.filter (qB p))) ∧ Ask B tb mn mh mk yb who cb S w0 w' := by
  obtain ⟨l, v, h1, h2, h3⟩ := h.rf
  exact (rHidden_any h1 h2 h.1.wf h.2.1 h3 p (by omega) hN).mono fun e w' ⟨vo, he, ho, hb⟩ => ⟨vo, he, hr.below hb, ho, h.low hb⟩
theorem Ask.same (h : Ask B tb mn mh mk yb who cb S w0 W) {va vb : Value} {ss : List Bs} (ha : TxtRow W va ss) (hb : TxtRow W vb ss) : Calls Tryz.prog 33 #[va, vb] W fun e w' => e = .returned (.bool true) ∧ Ask B tb mn mh mk yb who cb S w0 w' := by
  exact (same_yes W ha hb).mono fun e w' ⟨he, hb⟩ => ⟨he, h.low hb⟩
theorem Ask.sints (h : Ask B tb mn mh mk yb who cb S w0 W) {va vb : Value} {zs : List Int} (ha : NRow W va zs) (hb : NRow W vb zs) : Calls Tryz.prog 16 #[va, vb] W fun e w' => e = .returned (.bool true) ∧ Ask B tb mn mh mk yb who cb S w0 w' := by
  exact (sameInts_yes W ha hb).mono fun e w' ⟨he, hb⟩ => ⟨he, h.low hb⟩
theorem Ask.origin0 (h : Ask B tb mn mh mk yb who cb S w0 W) {i : Int} (hi : (Lit.int .i64 i).wf = true) (hn : S.num i = none) : Calls Tryz.prog 13 #[.pointer (some ⟨tb, 0, none⟩), .int .i64 i] W fun e w' => e = .returned (.tuple #[.int .i64 0, .int .i64 8]) ∧ Ask B tb mn mh mk yb who cb S w0 w' := by
  exact (Origin_none h.1.tb hi hn).mono fun e w' ⟨he, hw⟩ => ⟨he, hw ▸ h⟩
theorem Ask.rorigin0 (h : Ask B tb mn mh mk yb who cb S w0 W) {i : Int} (hi : (Lit.int .i64 i).wf = true) (hn : S.num i = none) : Calls Tryz.prog 24 #[.pointer (some ⟨yb, 0, none⟩), .int .i64 i] W fun e w' => e = .returned (.tuple #[.int .i64 0, .int .i64 8]) ∧ Ask B tb mn mh mk yb who cb S w0 w' := by
  obtain ⟨l, v, h1, h2, h3⟩ := h.rf
  exact (rOrigin_none h1 h2 h.1.wf h.2.1 hi hn).mono fun e w' ⟨he, hw⟩ => ⟨he, hw ▸ h⟩
theorem Ask.name0 (h : Ask B tb mn mh mk yb who cb S w0 W) {i : Int} (hi : (Lit.int .i64 i).wf = true) (hn : S.num i = none) : Calls Tryz.prog 25 #[.pointer (some ⟨tb, 0, none⟩), .int .i64 i] W fun e w' => e = .returned (.tuple #[.string ⟨#[]⟩, .bool false, .bool false]) ∧ Ask B tb mn mh mk yb who cb S w0 w' := by
  exact (Name_none h.1.tb hi hn).mono fun e w' ⟨he, hw⟩ => ⟨he, hw ▸ h⟩
theorem Ask.rname0 (h : Ask B tb mn mh mk yb who cb S w0 W) {i : Int} (hi : (Lit.int .i64 i).wf = true) (hn : S.num i = none) : Calls Tryz.prog 26 #[.pointer (some ⟨yb, 0, none⟩), .int .i64 i] W fun e w' => e = .returned (.tuple #[.string ⟨#[]⟩, .bool false, .bool false]) ∧ Ask B tb mn mh mk yb who cb S w0 w' := by
  obtain ⟨l, v, h1, h2, h3⟩ := h.rf
  exact (rName_none h1 h2 h.1.wf h.2.1 hi hn).mono fun e w' ⟨he, hb⟩ => ⟨he, h.low hb⟩
theorem Ask.imports0 (h : Ask B tb mn mh mk yb who cb S w0 W) {i : Int} (hi : (Lit.int .i64 i).wf = true) (hn : S.num i = none) : Calls Tryz.prog 27 #[.pointer (some ⟨tb, 0, none⟩), .int .i64 i] W fun e w' => ∃ vo, e = .returned vo ∧ NRow w' vo [] ∧ Ask B tb mn mh mk yb who cb S w0 w' := by
  exact (Imports_none h.1.tb hi hn).mono fun e w' ⟨he, hw⟩ => ⟨_, he, ⟨none, 0, rfl, by simp, fun i hi => by simp at hi⟩, hw ▸ h⟩
theorem Ask.rimports0 (h : Ask B tb mn mh mk yb who cb S w0 W) {i : Int} (hi : (Lit.int .i64 i).wf = true) (hn : S.num i = none) {va : Value} {zs : List Int} (hr : NRow W va zs) : Calls Tryz.prog 28 #[.pointer (some ⟨yb, 0, none⟩), .int .i64 i] W fun e w' => ∃ vo, e = .returned vo ∧ NRow w' va zs ∧ NRow w' vo [] ∧ Ask B tb mn mh mk yb who cb S w0 w' := by
  obtain ⟨l, v, h1, h2, h3⟩ := h.rf
  exact (rImports_none h1 h2 h.1.wf h.2.1 hi hn).mono fun e w' ⟨he, hw⟩ => ⟨_, he, hw ▸ hr, ⟨none, 0, rfl, by simp, fun i hi => by simp at hi⟩, hw ▸ h⟩
theorem Ask.origin1 (h : Ask B tb mn mh mk yb who cb S w0 W) {n : Nat} {c : Cm} (hc : S.cm n = some c) : Calls Tryz.prog 13 #[.pointer (some ⟨tb, 0, none⟩), .int .i64 (n : Int)] W fun e w' => ∃ (r : Nat) (d : Cm), e = .returned (.tuple #[.int .i64 (r : Int), .int .i64 0]) ∧ (S.cm r = some d ∧ d.org = 0 ∧ Up S n r) ∧ Ask B tb mn mh mk yb who cb S w0 w' := by
  have hn : S.num (n : Int) = some n := by rw [num_nat, hc]; rfl
  have hp := h.1.wf.pos n c hc
  have := h.2.1
  exact (Origin_any h.1.tb h.1.wf (nat_wf (by omega)) hn).mono fun e w' ⟨r, d, he, q1, q2, q3, hw⟩ => ⟨r, d, he, ⟨q1, q2, q3⟩, hw ▸ h⟩
theorem Ask.rorigin1 (h : Ask B tb mn mh mk yb who cb S w0 W) {n : Nat} {c : Cm} (hc : S.cm n = some c) {r : Nat} {d : Cm} (hr : S.cm r = some d ∧ d.org = 0 ∧ Up S n r) : Calls Tryz.prog 24 #[.pointer (some ⟨yb, 0, none⟩), .int .i64 (n : Int)] W fun e w' => e = .returned (.tuple #[.int .i64 (r : Int), .int .i64 0]) ∧ Ask B tb mn mh mk yb who cb S w0 w' := by
  obtain ⟨l, v, h1, h2, h3⟩ := h.rf
  refine (rOrigin_any h1 h2 h.1.wf h.2.1 hc).mono fun e w' hh => ?_
  obtain ⟨r', d', he, q1, q2, q3, hw⟩ := hh
  have e1 := up_root hr.2.2 q3 hr.1 hr.2.1 q1 q2
  subst e1
  exact ⟨he, hw ▸ h⟩
theorem Ask.name1 (h : Ask B tb mn mh mk yb who cb S w0 W) {n : Nat} {c : Cm} (hc : S.cm n = some c) : Calls Tryz.prog 25 #[.pointer (some ⟨tb, 0, none⟩), .int .i64 (n : Int)] W fun e w' => e = .returned (.tuple #[.string ⟨c.name.toArray⟩, .bool c.hid, .bool true]) ∧ Ask B tb mn mh mk yb who cb S w0 w' := by
  have hn : S.num (n : Int) = some n := by rw [num_nat, hc]; rfl
  have hp := h.1.wf.pos n c hc
  have := h.2.1
  exact (Name_some h.1.tb (nat_wf (by omega)) hn hc).mono fun e w' ⟨he, hb⟩ => ⟨he, h.low hb⟩
theorem Ask.rname1 (h : Ask B tb mn mh mk yb who cb S w0 W) {n : Nat} {c : Cm} (hc : S.cm n = some c) : Calls Tryz.prog 26 #[.pointer (some ⟨yb, 0, none⟩), .int .i64 (n : Int)] W fun e w' => e = .returned (.tuple #[.string ⟨c.name.toArray⟩, .bool c.hid, .bool true]) ∧ Ask B tb mn mh mk yb who cb S w0 w' := by
  obtain ⟨l, v, h1, h2, h3⟩ := h.rf
  exact (rName_any h1 h2 h.1.wf h.2.1 hc).mono fun e w' ⟨he, hb⟩ => ⟨he, h.low hb⟩
theorem Ask.imports1 (h : Ask B tb mn mh mk yb who cb S w0 W) {n : Nat} {c : Cm} (hc : S.cm n = some c) : Calls Tryz.prog 27 #[.pointer (some ⟨tb, 0, none⟩), .int .i64 (n : Int)] W fun e w' => ∃ vo, e = .returned vo ∧ NRow w' vo (asI (impR S n (S.last + 1))) ∧ Ask B tb mn mh mk yb who cb S w0 w' := by
  exact (Imports_some h.1.tb h.1.wf h.2.1 hc).mono fun e w' ⟨vo, he, hr, hb⟩ => ⟨vo, he, hr, h.low hb⟩
theorem Ask.rimports1 (h : Ask B tb mn mh mk yb who cb S w0 W) {n : Nat} {c : Cm} (hc : S.cm n = some c) {va : Value} {zs : List Int} (hr : NRow W va zs) : Calls Tryz.prog 28 #[.pointer (some ⟨yb, 0, none⟩), .int .i64 (n : Int)] W fun e w' => ∃ vo, e = .returned vo ∧ NRow w' va zs ∧ NRow w' vo (asI (impR S n (S.last + 1))) ∧ Ask B tb mn mh mk yb who cb S w0 w' := by
  obtain ⟨l, v, h1, h2, h3⟩ := h.rf
  exact (rImports_any h1 h2 h.1.wf h.2.1 hc).mono fun e w' ⟨vo, he, ho, hb⟩ => ⟨vo, he, hr.low hb, ho, h.low hb⟩
end
end Go.Proofs.YtbbbenjakjejmaaGreat
