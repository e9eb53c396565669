/- Pop and Calls of a space of variables, told in full; Set in a scope that has nothing. -/
import Derived.Test.YtcaifihdbcjakaaGreatVPush2
import Derived.Test.YtcaifihdbcjakaaGreatVSet2
import Derived.Test.YtcaifihdbcjakaaGreatVPop
namespace Go.Proofs.YtcaifihdbcjakaaGreat
set_option linter.unusedVariables false
set_option linter.unusedSimpArgs false
open Go.RowKit
variable {N : Nat}

set_option maxHeartbeats 400000 in
theorem Calls_any {B : Nat} {S : St} {w : World} (h : Rep B w S) {x sm rm : Nat} {cs : Option (Nat × Nat × Nat)} (hx : S x = some (.space sm cs rm)) :
    Calls Tryz.prog 10 #[.pointer (some ⟨x, 0, none⟩)] w fun en w' => en = .returned (.int .i64 (cntS S x)) ∧ w = w' := by
  obtain ⟨_, x1, _⟩ := h.space hx
  have HC : Hid (cntS S x = callsN cs) := by show _ = _; rw [cntS, hx]
  cases cs with
  | none =>
    simp only [callsV] at x1
    go_enter Tryz.func10, Tryz.ntmps10
    go_wp2_with fail
    go_ret
    exact ⟨by rw [HC.out]; rfl, rfl⟩
  | some q =>
    obtain ⟨b, m, c⟩ := q
    simp only [callsV] at x1
    go_enter Tryz.func10, Tryz.ntmps10
    go_wp2_with fail
    go_ret
    exact ⟨by rw [HC.out]; rfl, rfl⟩

/-- What 'Pop' gives where a call is there. -/
def PopRes3 (N B : Nat) (S : St) (w : World) (x sm : Nat) (g : Int → Option Nat) (i : Int) (j : Nat) (en : Ending) (w' : World) : Prop :=
  en = .returned (.int .i64 0) ∧ ∃ S', Goes B S w S' w' ∧ Sp N S' x sm (fun k => if k = i then none else g k) ∧ cntS S' x = j

set_option maxRecDepth 100000 in
set_option maxHeartbeats 1600000 in
theorem Pop3 {B : Nat} {S : St} {w : World} (hN : N ≤ 100000) (h : Rep B w S) {x sm : Nat} {g : Int → Option Nat} (hp : Sp N S x sm g) {b j c rm : Nat} {l : List Int} {i : Int} (hx : S x = some (.space sm (some (b, j + 1, c)) rm)) (hb : S b = some (.row (l ++ [i]) c)) (hlj : l.length = j) :
    Calls Tryz.prog 16 #[.pointer (some ⟨x, 0, none⟩)] w fun en w' => PopRes3 N B S w x sm g i j en w' := by
  obtain ⟨cs0, rm0, r, hx0, hrm, hcs⟩ := hp.space
  rw [hx] at hx0
  cases hx0
  obtain ⟨hnN, l0, hb0, h1, h2, h3, h4⟩ := hcs b (j + 1) c rfl
  rw [hb] at hb0
  cases hb0
  obtain ⟨x0, x1, _, _, xf⟩ := h.space hx
  simp only [callsV] at x1
  have hjl : j < (l ++ [i]).length := by simp; omega
  have hlast : (l ++ [i])[j] = i := by subst hlj; simp
  have hc := row_cell h hb hjl
  have hli := h4 _ (List.getElem_mem hjl)
  rw [hlast] at hc hli
  have t3 : (((j + 1 : Nat) : Int) == 0) = false := by rw [beq_eq_false_iff_ne]; omega
  have hf1 := xf 1
  have e1 : (((j + 1 : Nat) : Int) - 1) = j := by omega
  have e2 : (j : Int) ≤ (c : Int) := by omega
  have e3 : j ≤ c := by omega
  have e4 : (0 : Int) ≤ (j : Int) := by omega
  have e5 : (j : Int) < (j : Int) + 1 := by omega
  have e6 : j < j + 1 := by omega
  have e7 : (j : Int) < ((j + 1 : Nat) : Int) := by omega
  have hsm := hp.smap
  have hwfl : (Lit.int .i64 i).wf = true := by
    simp only [Lit.wf, Bool.and_eq_true, decide_eq_true_eq]; exact hli
  obtain ⟨w2, hrun, ho, hma⟩ := MapAt.delete (ty := 0) (h.goes.drew.rep sm _ hsm).2 Ikeyed (t := 47) (et := 46) Tryz.underlying47 iv_inj (ikey hwfl)
  have g2 := h.goes.drew.write (k := .smap fun k => if k = i then none else g k) hsm ho (by
    show MapAt _ _ _ _ _ _
    rw [show (fun k => (if k = i then none else g k).map fun m => mv (some m)) = (fun k' => if k' = i then none else (g k').map fun m => mv (some m)) from by funext k; by_cases hk : k = i <;> simp [hk]]
    exact hma)
  have hx2 : (S.set sm (.smap fun k => if k = i then none else g k)) x = some (.space sm (some (b, j + 1, c)) rm) := by grind
  have hb2 : (S.set sm (.smap fun k => if k = i then none else g k)) b = some (.row (l ++ [i]) c) := by grind
  obtain ⟨z0, z1, _, _, zf⟩ := g2.rep.space hx2
  simp only [callsV] at z1
  have zc := row_cell g2.rep hb2 hjl
  rw [hlast] at zc
  have zf1 := zf 1
  have hwf2 := hp.wf.unbind i hsm
  have HF : Hid (∃ S', Goes B S w S' (w2.setCell ⟨x, 1, none⟩ (.slice (some ⟨b, 0, none⟩) j c)) ∧ Sp N S' x sm (fun k => if k = i then none else g k) ∧ cntS S' x = j) := by
    obtain ⟨_, n', hbx⟩ := g2.rep x _ hx2
    refine ⟨(S.set sm (.smap fun k => if k = i then none else g k)).set x (.space sm (some (b, j, c)) rm), g2.write hx2 (only_setCell _ _ 1 (.slice (some ⟨b, 0, none⟩) j c)) ⟨n', heap_setCell_same _ _ _ _ _ _ hbx⟩, ⟨hwf2.space hx2, by grind, some (b, j, c), rm, r, by simp [St.set], by grind, ?_⟩, by simp [cntS, St.set, callsN]⟩
    intro b' n1 c1 e
    cases e
    exact ⟨by omega, l ++ [i], by grind, by simp; omega, h2, h3, h4⟩
  have hrun' : (Builtin.delete_ #[47, 3] 0 #[.map (some sm), .int .i64 i]).run Tryz.prog w.drew = .ok (.tuple #[]) w2 := hrun
  clear hcs hrun g2 hma ho hx2 hb2 hwf2 h4 hlast hb hx hjl
  go_enter Tryz.func16, Tryz.ntmps16
  go_wp2_with fail
  go_region_held3 (fun w' => w'.cell? ⟨x, 0, none⟩ = some (.map (some sm)) ∧ w'.cell? ⟨x, 1, none⟩ = some (.slice (some ⟨b, 0, none⟩) (j + 1) c) ∧ w'.cell? ⟨b, j, none⟩ = some (.int .i64 i)) (first | go_keep) (fail)
  go_wp2_with fail
  go_ret
  exact ⟨rfl, HF.out⟩

/-- In a scope that has nothing 'Set' sets. -/
theorem set_ok {B : Nat} {S : St} {w w' : World} {x sm m : Nat} {g : Int → Option Nat} {i : Int} {name val : Bs} {e : Ending} (hgi : g i = some m) (hm : ∀ v, nmOf S m v = none) (h : SetRes2 N B S w x sm g i name val e w') :
    e = .returned (.int .i64 0) ∧ ∃ S', Goes B S w S' w' ∧ Sp N S' x sm g ∧ (∀ sm cs rm, S x = some (.space sm cs rm) → S' x = some (.space sm cs rm)) ∧ ∀ b l c, S b = some (.row l c) → S' b = some (.row l c) := by
  have hf0 : findC S g i name = (none, 0) := by unfold findC; rw [hgi]; simp only [hm]
  have hk0 : kindC S g i name = 0 := by unfold kindC; rw [hf0]; rfl
  have hg0 : getC S g i name = ([], 8) := by unfold getC; rw [hf0]; rfl
  obtain ⟨r, S', rfl, hG, hp, ⟨hr, _, hno⟩ | ⟨rfl, S1, c, hp1, hsame, hmore, hf, hst, hS'⟩⟩ := h
  · exfalso
    rcases hno with h1 | ⟨S1, c, hp1, hm1, hf1, h2, h3, hs⟩
    · rw [hf0] at h1; exact h1 rfl
    · have hk1 := (hs i name).2.1
      have hg1 := (hs i name).1
      rw [hk0] at hk1
      rw [hg0] at hg1
      unfold kindC at hk1
      rw [hf1] at hk1
      simp only [ne_eq, not_true_eq_false, if_false] at hk1
      unfold getC at hg1
      rw [hf1] at hg1
      simp only [ne_eq, not_true_eq_false, if_false] at hg1
      split at hg1
      · simp at hg1
      · rename_i hn
        refine h2 (Prod.ext hk1 ?_)
        exact Classical.byContradiction fun hne => hn (.inl hne)
  · refine ⟨rfl, S', hG, hp, fun sm' cs rm hx => ?_, fun b l c' hb => ?_⟩
    · have hx1 := hmore.space hx
      rw [hS']
      obtain ⟨k, v, e, p, hc⟩ := findC_cell hp1.wf hp1.smap (i := i) (word := name) (c := c) (by rw [hf])
      unfold setS
      rw [hc]
      cases p with
      | none => simp only [St.set]; rw [if_neg (by rintro rfl; rw [hc] at hx1; cases hx1)]; exact hx1
      | some q =>
        obtain ⟨kq, vq, eq, hq⟩ := hp1.wf.par hc
        simp only [hq, St.set]
        rw [if_neg (by rintro rfl; rw [hq] at hx1; cases hx1), if_neg (by rintro rfl; rw [hc] at hx1; cases hx1)]; exact hx1
    · have hx1 := hmore.row hb
      rw [hS']
      obtain ⟨k, v, e, p, hc⟩ := findC_cell hp1.wf hp1.smap (i := i) (word := name) (c := c) (by rw [hf])
      unfold setS
      rw [hc]
      cases p with
      | none => simp only [St.set]; rw [if_neg (by rintro rfl; rw [hc] at hx1; cases hx1)]; exact hx1
      | some q =>
        obtain ⟨kq, vq, eq, hq⟩ := hp1.wf.par hc
        simp only [hq, St.set]
        rw [if_neg (by rintro rfl; rw [hq] at hx1; cases hx1), if_neg (by rintro rfl; rw [hc] at hx1; cases hx1)]; exact hx1
end Go.Proofs.YtcaifihdbcjakaaGreat
