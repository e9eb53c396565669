/- What a space answers, when names and elements are made. No program in sight. -/
import Derived.Test.YtcaifihdbcjakaaGreatVSem
namespace Go.Proofs.YtcaifihdbcjakaaGreat
set_option linter.unusedVariables false
set_option linter.unusedSimpArgs false

/-- The answers are the same. -/
def Same (S S' : St) (g : Int → Option Nat) : Prop := ∀ i w, getC S' g i w = getC S g i w ∧ kindC S' g i w = kindC S g i w ∧ linkedC S' g i w = linkedC S g i w
theorem Same.refl (S : St) (g : Int → Option Nat) : Same S S g := fun _ _ => ⟨rfl, rfl, rfl⟩
theorem Same.trans {S S' S'' : St} {g : Int → Option Nat} (h : Same S S' g) (k : Same S' S'' g) : Same S S'' g := fun i w => ⟨(k i w).1.trans (h i w).1, (k i w).2.1.trans (h i w).2.1, (k i w).2.2.trans (h i w).2.2⟩

theorem nm_name {S : St} (h : WF S) {m : Nat} {w : Bs} {n : Nat} (hn : nmOf S m w = some n) : ∃ c l, S n = some (.name c l) := by
  unfold nmOf at hn
  split at hn
  · rename_i f hf; exact h.nm hf hn
  · cases hn
theorem nc_cell {S : St} (h : WF S) {n c : Nat} (hn : nameC S n = some c) : ∃ k v e p, S c = some (.cell k v e p) := by
  unfold nameC at hn
  split at hn
  · rename_i c' l hf; cases hn; exact h.nc hf
  · cases hn
theorem el_cell {S : St} (h : WF S) {c d : Nat} {i : Bs} (hn : elOf S c i = some d) : ∃ k v e, S d = some (.cell k v e (some c)) := by
  unfold elOf at hn
  split at hn
  · rename_i k v e p hc
    split at hn
    · rename_i f hf; exact h.kid hc hf hn
    · cases hn
  · cases hn

section
variable {S : St} {sm m b : Nat} {g : Int → Option Nat} {f : Bs → Option Nat} {word : Bs}

def ownS' (S : St) (m b : Nat) (f : Bs → Option Nat) (word : Bs) : St := ((S.set b (.cell 0 [] none none)).set (b + 1) (.name b false)).set m (.nmap fun k => if k = word then some (b + 1) else f k)

theorem own_nm (hm : S m = some (.nmap f)) (hb : S b = none) (hb1 : S (b + 1) = none) (m' : Nat) (w : Bs) : nmOf (ownS' S m b f word) m' w = if m' = m ∧ w = word then some (b + 1) else nmOf S m' w := by
  unfold nmOf ownS'; grind
theorem own_nc (hm : S m = some (.nmap f)) (hb : S b = none) (hb1 : S (b + 1) = none) (n : Nat) : nameC (ownS' S m b f word) n = if n = b + 1 then some b else nameC S n := by
  unfold nameC ownS'; grind
theorem own_lk (hm : S m = some (.nmap f)) (hb : S b = none) (hb1 : S (b + 1) = none) (n : Nat) : linkC (ownS' S m b f word) n = linkC S n := by
  unfold linkC ownS'; grind
theorem own_par (hm : S m = some (.nmap f)) (hb : S b = none) (hb1 : S (b + 1) = none) (n : Nat) : parOf (ownS' S m b f word) n = parOf S n := by
  unfold parOf ownS'; grind
theorem own_kind (hm : S m = some (.nmap f)) (hb : S b = none) (hb1 : S (b + 1) = none) (n : Nat) : kindOf (ownS' S m b f word) n = kindOf S n := by
  unfold kindOf ownS'; grind
theorem own_val (hm : S m = some (.nmap f)) (hb : S b = none) (hb1 : S (b + 1) = none) (n : Nat) : valOf (ownS' S m b f word) n = valOf S n := by
  unfold valOf ownS'; grind
theorem own_el (h : WF S) (hm : S m = some (.nmap f)) (hb : S b = none) (hb1 : S (b + 1) = none) (n : Nat) (i : Bs) : elOf (ownS' S m b f word) n i = elOf S n i := by
  cases hn : S n with
  | none => unfold elOf ownS'; grind
  | some k =>
    cases k with
    | cell k v e p =>
      cases e with
      | none => unfold elOf ownS'; grind
      | some e => obtain ⟨fe, he⟩ := h.els hn; unfold elOf ownS'; grind
    | _ => unfold elOf ownS'; grind
theorem own_state (hm : S m = some (.nmap f)) (hb : S b = none) (hb1 : S (b + 1) = none) (n : Nat) : stateC (ownS' S m b f word) n = stateC S n := by
  unfold stateC; rw [own_par hm hb hb1]; simp only [own_kind hm hb hb1]
theorem own_find (h : WF S) (hs : S sm = some (.smap g)) (hm : S m = some (.nmap f)) (hf : f word = none) (hb : S b = none) (hb1 : S (b + 1) = none) (i : Int) (w : Bs) :
    findC (ownS' S m b f word) g i w = findC S g i w ∨ (findC S g i w = (none, 0) ∧ findC (ownS' S m b f word) g i w = (some b, 0)) := by
  unfold findC
  cases hg : g i with
  | none => exact .inl rfl
  | some m' =>
    simp only [own_nm hm hb hb1, own_nc hm hb hb1, own_par hm hb hb1, own_kind hm hb hb1, own_el h hm hb hb1]
    by_cases hq : m' = m ∧ (splitC w).1 = word
    · obtain ⟨rfl, hw⟩ := hq
      have hn : nmOf S m' (splitC w).1 = none := by simp [nmOf, hm, hw, hf]
      have hpb : parOf S b = none := by simp [parOf, hb]
      have hkb : kindOf S b = 0 := by simp [kindOf, hb]
      have heb : ∀ j, elOf S b j = none := fun j => by simp [elOf, hb]
      rw [hn, if_pos ⟨rfl, hw⟩]
      simp only [if_true, hpb, hkb, heb]
      by_cases he : (splitC w).2.2 = false
      · rw [if_pos he]; exact .inr (by simp)
      · rw [if_neg he]; exact .inl (by simp)
    · rw [if_neg hq]
      cases hn : nmOf S m' (splitC w).1 with
      | none => exact .inl rfl
      | some n =>
        obtain ⟨c, l, hnn⟩ := nm_name h hn
        have : n ≠ b + 1 := by rintro rfl; rw [hb1] at hnn; cases hnn
        simp only [this, if_false]
        exact .inl (by first | trivial | rfl)
theorem own_same (h : WF S) (hs : S sm = some (.smap g)) (hm : S m = some (.nmap f)) (hf : f word = none) (hb : S b = none) (hb1 : S (b + 1) = none) : Same S (ownS' S m b f word) g := by
  have hsb : stateC S b = (0, 0) := by simp [stateC, parOf, kindOf, hb]
  intro i w
  refine ⟨?_, ?_, ?_⟩
  · unfold getC
    simp only [own_state hm hb hb1, own_val hm hb hb1]
    rcases own_find h hs hm hf hb hb1 i w with e | ⟨e1, e2⟩
    · rw [e]
    · rw [e1, e2]; simp [hsb]
  · unfold kindC
    simp only [own_state hm hb hb1]
    rcases own_find h hs hm hf hb hb1 i w with e | ⟨e1, e2⟩
    · rw [e]
    · rw [e1, e2]; simp [hsb]
  · unfold linkedC
    cases hg : g i with
    | none => rfl
    | some m' =>
      simp only [own_nm hm hb hb1, own_lk hm hb hb1]
      by_cases hq : m' = m ∧ w = word
      · obtain ⟨rfl, rfl⟩ := hq
        have hn : nmOf S m' w = none := by simp [nmOf, hm, hf]
        have hl : linkC S (b + 1) = false := by simp [linkC, hb1]
        rw [hn, if_pos ⟨rfl, rfl⟩, ← hl]
      · rw [if_neg hq]
end

section
variable {S : St} {c e d : Nat} {k : Int} {v : Bs}

/-- A map of elements more changes no answer. -/
theorem els_view (h : WF S) (hc : S c = some (.cell k v none none)) (he : S e = none) :
    (∀ m w, nmOf ((S.set e (.emap fun _ => none)).set c (.cell k v (some e) none)) m w = nmOf S m w) ∧ (∀ n, nameC ((S.set e (.emap fun _ => none)).set c (.cell k v (some e) none)) n = nameC S n) ∧
    (∀ n, linkC ((S.set e (.emap fun _ => none)).set c (.cell k v (some e) none)) n = linkC S n) ∧ (∀ n, parOf ((S.set e (.emap fun _ => none)).set c (.cell k v (some e) none)) n = parOf S n) ∧
    (∀ n, kindOf ((S.set e (.emap fun _ => none)).set c (.cell k v (some e) none)) n = kindOf S n) ∧ (∀ n, valOf ((S.set e (.emap fun _ => none)).set c (.cell k v (some e) none)) n = valOf S n) ∧
    (∀ n i, elOf ((S.set e (.emap fun _ => none)).set c (.cell k v (some e) none)) n i = elOf S n i) := by
  have hce : c ≠ e := by rintro rfl; rw [hc] at he; cases he
  refine ⟨?_, ?_, ?_, ?_, ?_, ?_, ?_⟩
  · intro m w; unfold nmOf; grind
  · intro n; unfold nameC; grind
  · intro n; unfold linkC; grind
  · intro n; unfold parOf; grind
  · intro n; unfold kindOf; grind
  · intro n; unfold valOf; grind
  · intro n i
    by_cases hnc : n = c
    · subst hnc; unfold elOf; grind
    · cases hn : S n with
      | none => unfold elOf; grind
      | some kk =>
        cases kk with
        | cell k' v' e' p' =>
          cases e' with
          | none => unfold elOf; grind
          | some e' => obtain ⟨fe, hfe⟩ := h.els hn; unfold elOf; grind
        | _ => unfold elOf; grind

theorem same_of_view {S S' : St} (g : Int → Option Nat) (h1 : ∀ m w, nmOf S' m w = nmOf S m w) (h2 : ∀ n, nameC S' n = nameC S n) (h3 : ∀ n, linkC S' n = linkC S n) (h4 : ∀ n, parOf S' n = parOf S n) (h5 : ∀ n, kindOf S' n = kindOf S n) (h6 : ∀ n, valOf S' n = valOf S n) (h7 : ∀ n i, elOf S' n i = elOf S n i) :
    Same S S' g ∧ ∀ i w, findC S' g i w = findC S g i w := by
  have hst : ∀ c, stateC S' c = stateC S c := by intro c; unfold stateC; simp only [h4, h5]
  have hfi : ∀ i w, findC S' g i w = findC S g i w := by intro i w; unfold findC; simp only [h1, h2, h4, h5, h7]
  refine ⟨fun i w => ⟨?_, ?_, ?_⟩, hfi⟩
  · unfold getC; simp only [hfi, hst, h6]
  · unfold kindC; simp only [hfi, hst]
  · unfold linkedC; simp only [h1, h3]
end

section
variable {S : St} {sm c e d : Nat} {k : Int} {v : Bs} {g : Int → Option Nat} {f : Bs → Option Nat} {ix : Bs}

def elS' (S : St) (c e b : Nat) (f : Bs → Option Nat) (i : Bs) : St := (S.set b (.cell 0 [] none (some c))).set e (.emap fun j => if j = i then some b else f j)

theorem el_view (h : WF S) (hc : S c = some (.cell k v (some e) none)) (he : S e = some (.emap f)) (hd : S d = none) :
    (∀ m w, nmOf (elS' S c e d f ix) m w = nmOf S m w) ∧ (∀ n, nameC (elS' S c e d f ix) n = nameC S n) ∧ (∀ n, linkC (elS' S c e d f ix) n = linkC S n) ∧ (∀ n, parOf (elS' S c e d f ix) n = if n = d then some c else parOf S n) ∧
    (∀ n, kindOf (elS' S c e d f ix) n = kindOf S n) ∧ (∀ n, valOf (elS' S c e d f ix) n = valOf S n) ∧ (∀ n i, elOf (elS' S c e d f ix) n i = if n = c ∧ i = ix then some d else elOf S n i) := by
  have hde : d ≠ e := by rintro rfl; rw [hd] at he; cases he
  have hdc : d ≠ c := by rintro rfl; rw [hd] at hc; cases hc
  have hce : c ≠ e := by rintro rfl; rw [hc] at he; cases he
  refine ⟨?_, ?_, ?_, ?_, ?_, ?_, ?_⟩
  · intro m w; unfold nmOf elS'; grind
  · intro n; unfold nameC elS'; grind
  · intro n; unfold linkC elS'; grind
  · intro n; unfold parOf elS'; grind
  · intro n; unfold kindOf elS'; grind
  · intro n; unfold valOf elS'; grind
  · intro n i
    by_cases hnc : n = c
    · subst hnc; unfold elOf elS'; grind
    · cases hn : S n with
      | none => unfold elOf elS'; grind
      | some kk =>
        cases kk with
        | cell k' v' e' p' =>
          cases e' with
          | none => unfold elOf elS'; grind
          | some e' =>
            obtain ⟨fe, hfe⟩ := h.els hn
            have : e' ≠ e := by rintro rfl; exact hnc (h.own hn hc)
            unfold elOf elS'; grind
        | _ => unfold elOf elS'; grind

theorem el_find (h : WF S) (hs : S sm = some (.smap g)) (hc : S c = some (.cell k v (some e) none)) (he : S e = some (.emap f)) (hi : f ix = none) (hd : S d = none) (i : Int) (w : Bs) :
    (findC (elS' S c e d f ix) g i w = findC S g i w ∧ ∀ c', (findC S g i w).1 = some c' → c' ≠ d) ∨ (findC S g i w = (none, 0) ∧ findC (elS' S c e d f ix) g i w = (some d, 0) ∧ k ≠ 1) := by
  obtain ⟨v1, v2, v3, v4, v5, v6, v7⟩ := el_view (ix := ix) h hc he hd
  have hcd : ∀ c', (findC S g i w).1 = some c' → c' ≠ d := by
    intro c' hc' e1
    obtain ⟨k', v', e', p', hq⟩ := findC_cell h hs hc'
    rw [e1, hd] at hq; cases hq
  have hkc : kindOf S c = k := by simp [kindOf, hc]
  by_cases hmain : findC (elS' S c e d f ix) g i w = findC S g i w
  · exact .inl ⟨hmain, hcd⟩
  · right
    revert hmain
    unfold findC
    cases hg : g i with
    | none => exact fun h => absurd rfl h
    | some m' =>
      simp only [v1, v2, v4, v5, v7]
      cases hn : nmOf S m' (splitC w).1 with
      | none => exact fun h => absurd rfl h
      | some n =>
        simp only
        cases hnc : nameC S n with
        | none => exact fun h => absurd rfl h
        | some c1 =>
          obtain ⟨k1, v1', e1, p1, hc1⟩ := nc_cell h hnc
          have hne : c1 ≠ d := by rintro rfl; rw [hd] at hc1; cases hc1
          simp only [hne, if_false]
          by_cases hq : c1 = c ∧ (splitC w).2.1 = ix
          · obtain ⟨rfl, hix⟩ := hq
            have hel : elOf S c1 (splitC w).2.1 = none := by simp [elOf, hc, he, hix, hi]
            have hcnd : c1 = c1 ∧ (splitC w).2.1 = ix := ⟨rfl, hix⟩
            rw [if_pos hcnd, hel, hkc]
            intro hx
            by_cases hb : (splitC w).2.2 = false
            · simp [hb] at hx
            · by_cases hp : parOf S c1 = none
              · by_cases hk1 : k = 1
                · simp [hp, hk1] at hx
                · exact ⟨by simp [hb, hp, hk1], by simp [hb, hp, hk1], hk1⟩
              · simp [hp] at hx
          · rw [if_neg hq]; exact fun h => absurd rfl h

theorem el_state (h : WF S) (hc : S c = some (.cell k v (some e) none)) (he : S e = some (.emap f)) (hd : S d = none) (n : Nat) (hn : n ≠ d) : stateC (elS' S c e d f ix) n = stateC S n := by
  obtain ⟨v1, v2, v3, v4, v5, v6, v7⟩ := el_view (ix := ix) h hc he hd
  unfold stateC; rw [v4, if_neg hn]; simp only [v5]
theorem el_same (h : WF S) (hs : S sm = some (.smap g)) (hc : S c = some (.cell k v (some e) none)) (he : S e = some (.emap f)) (hi : f ix = none) (hd : S d = none) : Same S (elS' S c e d f ix) g := by
  obtain ⟨v1, v2, v3, v4, v5, v6, v7⟩ := el_view (ix := ix) h hc he hd
  have hkd : kindOf S d = 0 := by simp [kindOf, hd]
  have hkc : kindOf S c = k := by simp [kindOf, hc]
  have hsd : k ≠ 1 → stateC (elS' S c e d f ix) d = (0, 0) := by
    intro hk
    unfold stateC; rw [v4, if_pos rfl]; simp only [v5, hkc, hkd, if_neg hk]; split <;> rfl
  intro i w
  refine ⟨?_, ?_, ?_⟩
  · unfold getC
    rcases el_find (ix := ix) h hs hc he hi hd i w with ⟨e1, e2⟩ | ⟨e1, e2, hk⟩
    · rw [e1]
      cases hr : (findC S g i w).1 with
      | none => rfl
      | some c' => simp only [el_state (ix := ix) h hc he hd c' (e2 c' hr), v6]
    · rw [e1, e2]; simp [hsd hk]
  · unfold kindC
    rcases el_find (ix := ix) h hs hc he hi hd i w with ⟨e1, e2⟩ | ⟨e1, e2, hk⟩
    · rw [e1]
      cases hr : (findC S g i w).1 with
      | none => rfl
      | some c' => simp only [el_state (ix := ix) h hc he hd c' (e2 c' hr)]
    · rw [e1, e2]; simp [hsd hk]
  · unfold linkedC; simp only [v1, v3]
end
end Go.Proofs.YtcaifihdbcjakaaGreat
