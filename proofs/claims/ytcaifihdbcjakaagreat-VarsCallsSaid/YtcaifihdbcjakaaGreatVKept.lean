/- Plain laws: what 'Set' keeps (P15.2). No program in sight. -/
import Derived.Test.YtcaifihdbcjakaaGreatVSame
namespace Go.Proofs.YtcaifihdbcjakaaGreat
set_option linter.unusedVariables false
set_option linter.unusedSimpArgs false
variable {N : Nat}

def setS' (S : St) (c : Nat) (val : Bs) : St := match S c with
  | some (.cell _ _ e none) => S.set c (.cell 1 val e none)
  | some (.cell _ _ e (some q)) => (match S q with
    | some (.cell kq vq eq pq) => (S.set c (.cell 1 val e (some q))).set q (.cell (if kq = 0 then 2 else kq) vq eq pq)
    | _ => S)
  | _ => S

theorem set_view {S : St} (h : WF S) {c : Nat} {k : Int} {v : Bs} {e p : Option Nat} (hc : S c = some (.cell k v e p)) (val : Bs) :
    (∀ m w, nmOf (setS' S c val) m w = nmOf S m w) ∧ (∀ n, nameC (setS' S c val) n = nameC S n) ∧ (∀ n, linkC (setS' S c val) n = linkC S n) ∧ (∀ n, parOf (setS' S c val) n = parOf S n) ∧
    (∀ n i, elOf (setS' S c val) n i = elOf S n i) ∧ (∀ n, valOf (setS' S c val) n = if n = c then val else valOf S n) ∧
    (∀ n, kindOf (setS' S c val) n = if n = c then 1 else if p = some n then (if kindOf S n = 0 then 2 else kindOf S n) else kindOf S n) := by
  have hel : ∀ n k' v' e' p', S n = some (.cell k' v' (some e') p') → ∃ f, S e' = some (.emap f) := fun n k' v' e' p' hn => h.els hn
  cases p with
  | none =>
    have hs : setS' S c val = S.set c (.cell 1 val e none) := by simp [setS', hc]
    rw [hs]
    refine ⟨?_, ?_, ?_, ?_, ?_, ?_, ?_⟩
    · intro m w; unfold nmOf; grind
    · intro n; unfold nameC; grind
    · intro n; unfold linkC; grind
    · intro n; unfold parOf; grind
    · intro n i
      cases hn : S n with
      | none => unfold elOf; grind
      | some kk =>
        cases kk with
        | cell k' v' e' p' =>
          cases e' with
          | none => unfold elOf; grind
          | some e' => obtain ⟨f, hf⟩ := hel n k' v' e' p' hn; unfold elOf; grind
        | _ => unfold elOf; grind
    · intro n; unfold valOf; grind
    · intro n; unfold kindOf; grind
  | some q =>
    obtain ⟨kq, vq, eq, hq⟩ := h.par hc
    have hcq : c ≠ q := by rintro rfl; rw [hc] at hq; cases hq
    have hs : setS' S c val = (S.set c (.cell 1 val e (some q))).set q (.cell (if kq = 0 then 2 else kq) vq eq none) := by simp [setS', hc, hq]
    rw [hs]
    refine ⟨?_, ?_, ?_, ?_, ?_, ?_, ?_⟩
    · intro m w; unfold nmOf; grind
    · intro n; unfold nameC; grind
    · intro n; unfold linkC; grind
    · intro n; unfold parOf; grind
    · intro n i
      cases hn : S n with
      | none => unfold elOf; grind
      | some kk =>
        cases kk with
        | cell k' v' e' p' =>
          cases e' with
          | none => unfold elOf; grind
          | some e' => obtain ⟨f, hf⟩ := hel n k' v' e' p' hn; unfold elOf; grind
        | _ => unfold elOf; grind
    · intro n; unfold valOf; grind
    · intro n; unfold kindOf; grind

theorem find_set {S : St} (h : WF S) {c : Nat} {k : Int} {v : Bs} {e p : Option Nat} (hc : S c = some (.cell k v e p)) (val : Bs) (g : Int → Option Nat) (j : Int) (w : Bs) :
    findC (setS' S c val) g j w = findC S g j w ∨ (findC (setS' S c val) g j w = (none, 11) ∧ (findC S g j w = (elOf S c (splitC w).2.1, 0) ∨ findC S g j w = (none, 11)) ∧ p = none) := by
  obtain ⟨v1, v2, v3, v4, v5, v6, v7⟩ := set_view h hc val
  have hpc : parOf S c = p := by simp [parOf, hc]
  unfold findC
  cases hg : g j with
  | none => exact .inl rfl
  | some m =>
    simp only [v1, v2, v4, v5, v7]
    cases hn : nmOf S m (splitC w).1 with
    | none => exact .inl rfl
    | some n =>
      simp only
      cases hcn : nameC S n with
      | none => exact .inl rfl
      | some c' =>
        simp only
        by_cases hel : (splitC w).2.2 = false
        · rw [if_pos hel, if_pos hel]; exact .inl rfl
        · rw [if_neg hel, if_neg hel]
          by_cases hp : parOf S c' ≠ none
          · rw [if_pos hp, if_pos hp]; exact .inl rfl
          · rw [if_neg hp, if_neg hp]
            by_cases hcc : c' = c
            · subst hcc
              right
              rw [hpc] at hp
              refine ⟨by simp, ?_, by simpa using hp⟩
              by_cases hk : kindOf S c' = 1
              · right; rw [if_pos hk]
              · left; rw [if_neg hk]
            · left
              rw [if_neg hcc]
              by_cases hpp : p = some c'
              · rw [if_pos hpp]
                by_cases hk0 : kindOf S c' = 0
                · rw [if_pos hk0, if_neg (by decide), if_neg (by omega)]
                · rw [if_neg hk0]
              · rw [if_neg hpp]

theorem kept {S : St} {x sm : Nat} {g : Int → Option Nat} (h : Sp N S x sm g) {c : Nat} {i : Int} {name : Bs} (hf : findC S g i name = (some c, 0)) (hst : stateC S c = (0, 0) ∨ stateC S c = (1, 0)) (val : Bs) :
    (getC (setS' S c val) g i name = (val, 0)) ∧ ∀ j w, getC (setS' S c val) g j w = getC S g j w ∨ getC (setS' S c val) g j w = (val, 0) ∨ (getC (setS' S c val) g j w).2 = 11 := by
  have hwf := h.wf
  obtain ⟨k, v, e, p, hc⟩ := findC_cell hwf h.smap (i := i) (word := name) (c := c) (by rw [hf])
  obtain ⟨v1, v2, v3, v4, v5, v6, v7⟩ := set_view hwf hc val
  have hpc : parOf S c = p := by simp [parOf, hc]
  have hkc : kindOf S c = k := by simp [kindOf, hc]
  -- the cell itself
  have hself : stateC (setS' S c val) c = (1, 0) ∧ valOf (setS' S c val) c = val := by
    refine ⟨?_, by rw [v6, if_pos rfl]⟩
    unfold stateC
    rw [v4, hpc]
    cases p with
    | none => simp [v7]
    | some q =>
      obtain ⟨kq, vq, eq, hq⟩ := hwf.par hc
      have hcq : q ≠ c := by rintro rfl; rw [hc] at hq; cases hq
      have hkq : kindOf S q = kq := by simp [kindOf, hq]
      have hq1 : kq ≠ 1 := by
        rintro rfl
        have : stateC S c = (0, 11) := by unfold stateC; rw [hpc]; simp [hkq]
        rw [this] at hst; simp at hst
      simp only [v7, if_neg hcq, if_true, hkq]
      by_cases h0 : kq = 0
      · simp [h0]
      · simp [h0, hq1]
  have hget : ∀ j w d, findC (setS' S c val) g j w = (some d, 0) → findC S g j w = (some d, 0) → getC (setS' S c val) g j w = getC S g j w ∨ getC (setS' S c val) g j w = (val, 0) ∨ (getC (setS' S c val) g j w).2 = 11 := by
    intro j w d e1 e2
    obtain ⟨kd, vd, ed, pd, hd⟩ := findC_cell hwf h.smap (i := j) (word := w) (c := d) (by rw [e2])
    have hpd : parOf S d = pd := by simp [parOf, hd]
    have hkd : kindOf S d = kd := by simp [kindOf, hd]
    unfold getC
    rw [e1, e2]
    simp only [ne_eq, not_true_eq_false, if_false]
    by_cases hdc : d = c
    · subst hdc
      rw [hself.1, hself.2]
      right; left; simp
    · have hval : valOf (setS' S c val) d = valOf S d := by rw [v6, if_neg hdc]
      by_cases hsame : stateC (setS' S c val) d = stateC S d
      · left; rw [hsame, hval]
      · -- the state has changed: it cannot be told any more
        have hch : stateC (setS' S c val) d = (2, 0) ∨ stateC (setS' S c val) d = (0, 11) := by
          revert hsame
          unfold stateC
          rw [v4, hpd]
          cases pd with
          | none =>
            simp only [v7, if_neg hdc]
            by_cases hpq : p = some d
            · rw [if_pos hpq]
              by_cases h0 : kindOf S d = 0
              · rw [if_pos h0]; intro _; exact .inl rfl
              · rw [if_neg h0]; intro hh; exact absurd rfl hh
            · rw [if_neg hpq]; intro hh; exact absurd rfl hh
          | some q =>
            obtain ⟨kq, vq, eq, hq⟩ := hwf.par hd
            have hkq : kindOf S q = kq := by simp [kindOf, hq]
            have hdk : kd ≠ 2 := hwf.elk hd
            simp only [v7, if_neg hdc]
            by_cases hqc : q = c
            · subst hqc; intro _; right; simp
            · rw [if_neg hqc]
              by_cases hpq : p = some q
              · rw [if_pos hpq, hkq, hkd]
                by_cases h0 : kq = 0
                · subst h0
                  have hl := hwf.low hd hq (by decide)
                  subst hl
                  have hpd2 : ¬ p = some d := by
                    rw [hpq]; intro e3; cases e3; rw [hd] at hq; cases hq
                  rw [if_neg hpd2]
                  intro hh; exact absurd (by simp) hh
                · have hpd2 : ¬ p = some d := by
                    rw [hpq]; intro e3; cases e3; rw [hd] at hq; cases hq
                  rw [if_neg h0, if_neg hpd2]
                  intro hh; exact absurd rfl hh
              · rw [if_neg hpq]
                by_cases hpd2 : p = some d
                · -- then d has no parent
                  obtain ⟨kz, vz, ez, hz⟩ := hwf.par (show S c = some (.cell k v e (some d)) by rw [← hpd2]; exact hc)
                  rw [hd] at hz; cases hz
                · rw [if_neg hpd2]; intro hh; exact absurd rfl hh
        right; right
        rcases hch with e3 | e3 <;> rw [e3] <;> simp
  constructor
  · rcases find_set hwf hc val g i name with e1 | ⟨_, e2, e3⟩
    · unfold getC
      rw [e1, hf]
      simp only [ne_eq, not_true_eq_false, if_false, hself.1, hself.2]
      simp
    · exfalso
      subst e3
      rw [hf] at e2
      rcases e2 with e2 | e2
      · have h1 : elOf S c (splitC name).2.1 = some c := by simpa using (congrArg Prod.fst e2).symm
        obtain ⟨k', v', e', h2⟩ := el_cell hwf h1
        rw [hc] at h2; cases h2
      · simp at e2
  · intro j w
    rcases find_set hwf hc val g j w with e1 | ⟨e1, _, _⟩
    · cases hr : findC S g j w with
      | mk r en =>
        by_cases hen : en = 0
        · subst hen
          cases r with
          | none => left; unfold getC; rw [e1, hr]
          | some d => exact hget j w d (e1.trans hr) hr
        · left; unfold getC; rw [e1, hr]; simp [hen]
    · right; right; unfold getC; rw [e1]; simp
end Go.Proofs.YtcaifihdbcjakaaGreat
