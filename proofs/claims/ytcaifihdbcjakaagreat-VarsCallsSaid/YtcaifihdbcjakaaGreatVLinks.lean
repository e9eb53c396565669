/- Plain laws: behind a link both names mean the same cell (P15.4). No program in sight. -/
import Derived.Test.YtcaifihdbcjakaaGreatVKept
namespace Go.Proofs.YtcaifihdbcjakaaGreat
set_option linter.unusedVariables false
set_option linter.unusedSimpArgs false
variable {N : Nat}

theorem split_plain {s : Bs} (h : (splitC s).2.2 = false) : (splitC s).1 = s := by
  unfold splitC at h ⊢
  split
  · rfl
  · rename_i hc; rw [if_neg hc] at h; cases h

def linkS' (S : St) (m n c : Nat) (f : Bs → Option Nat) (word : Bs) : St := (S.set n (.name c true)).set m (.nmap fun k => if k = word then some n else f k)

theorem link_view {S : St} (h : WF S) {m n c : Nat} {f : Bs → Option Nat} {word : Bs} (hm : S m = some (.nmap f)) (hn : S n = none) :
    (∀ m' w, nmOf (linkS' S m n c f word) m' w = if m' = m ∧ w = word then some n else nmOf S m' w) ∧ (∀ n', nameC (linkS' S m n c f word) n' = if n' = n then some c else nameC S n') ∧ (∀ n', linkC (linkS' S m n c f word) n' = if n' = n then true else linkC S n') ∧
    (∀ d, parOf (linkS' S m n c f word) d = parOf S d) ∧ (∀ d i, elOf (linkS' S m n c f word) d i = elOf S d i) ∧ (∀ d, valOf (linkS' S m n c f word) d = valOf S d) ∧ (∀ d, kindOf (linkS' S m n c f word) d = kindOf S d) := by
  have hel : ∀ n k' v' e' p', S n = some (.cell k' v' (some e') p') → ∃ f, S e' = some (.emap f) := fun n k' v' e' p' hn => h.els hn
  have hmn : m ≠ n := by rintro rfl; rw [hn] at hm; cases hm
  refine ⟨?_, ?_, ?_, ?_, ?_, ?_, ?_⟩
  · intro m' w; unfold nmOf linkS'; grind
  · intro n'; unfold nameC linkS'; grind
  · intro n'; unfold linkC linkS'; grind
  · intro d; unfold parOf linkS'; grind
  · intro d i
    cases hd : S d with
    | none => unfold elOf linkS'; grind
    | some kk =>
      cases kk with
      | cell k' v' e' p' =>
        cases e' with
        | none => unfold elOf linkS'; grind
        | some e' => obtain ⟨f, hf⟩ := hel d k' v' e' p' hd; unfold elOf linkS'; grind
      | _ => unfold elOf linkS'; grind
  · intro d; unfold valOf linkS'; grind
  · intro d; unfold kindOf linkS'; grind

theorem link_sp {S : St} {x sm : Nat} {g : Int → Option Nat} (h : Sp N S x sm g) {m n c : Nat} {f : Bs → Option Nat} {word : Bs} (hm : S m = some (.nmap f)) (hn : S n = none) {k : Int} {v : Bs} {e p : Option Nat} (hc : S c = some (.cell k v e p)) : Sp N (linkS' S m n c f word) x sm g := by
  have hmn : m ≠ n := by rintro rfl; rw [hn] at hm; cases hm
  have h1 := h.wf.newName (l := true) hn hc
  have h2 := h1.named (m0 := m) (n0 := n) (c0 := c) (l0 := true) (f0 := f) word (by simp only [St.set]; rw [if_neg hmn]; exact hm) (by simp [St.set])
  obtain ⟨cs, rm, r, q1, q2, q3⟩ := h.space
  have hsm := h.smap
  refine ⟨h2, by unfold linkS'; grind, cs, rm, r, by unfold linkS'; grind, by unfold linkS'; grind, fun b n' c' e1 => ?_⟩
  obtain ⟨h4, l, h5, h6⟩ := q3 b n' c' e1
  exact ⟨h4, l, by unfold linkS'; grind, h6⟩

theorem link_find {S : St} {x sm : Nat} {g : Int → Option Nat} (h : Sp N S x sm g) {a b : Int} {m n c : Nat} {f : Bs → Option Nat} {word target : Bs} (hm : S m = some (.nmap f)) (hn : S n = none) (hga : g a = some m) (hf : findC S g b target = (some c, 0)) (hel : (splitC word).2.2 = false) (hns : ¬ (a = b ∧ (splitC target).1 = word)) :
    findC (linkS' S m n c f word) g a word = (some c, 0) ∧ findC (linkS' S m n c f word) g b target = (some c, 0) ∧ linkedC (linkS' S m n c f word) g a word = true := by
  obtain ⟨v1, v2, v3, v4, v5, v6, v7⟩ := link_view (c := c) (word := word) h.wf hm hn
  have hsw := split_plain hel
  refine ⟨?_, ?_, ?_⟩
  · unfold findC
    simp only [hga, hsw, v1, and_self, if_true, v2, hel]
  · have hf' := hf
    unfold findC at hf ⊢
    cases hgb : g b with
    | none => simp [hgb] at hf
    | some mb =>
      simp only [hgb, v1, v2, v4, v5, v7] at hf ⊢
      have hne : ¬ (mb = m ∧ (splitC target).1 = word) := by
        rintro ⟨rfl, e2⟩
        exact hns ⟨h.wf.inj h.smap hga hgb, e2⟩
      rw [if_neg hne]
      cases hnb : nmOf S mb (splitC target).1 with
      | none => rw [hnb] at hf; simp at hf
      | some nb =>
        obtain ⟨cb, lb, hnn⟩ := nm_name h.wf hnb
        have hnn2 : nb ≠ n := by rintro rfl; rw [hn] at hnn; cases hnn
        rw [hnb] at hf
        simp only [if_neg hnn2] at hf ⊢
        exact hf
  · unfold linkedC
    simp only [hga, v1, and_self, if_true, v3]

theorem get_of_find {S : St} {g : Int → Option Nat} {a b : Int} {v w : Bs} (h : findC S g a v = findC S g b w) : getC S g a v = getC S g b w ∧ kindC S g a v = kindC S g b w := by
  unfold getC kindC; rw [h]; exact ⟨rfl, rfl⟩

/-- What was meant is meant, where more is there. -/
theorem find_more {S S' : St} {x sm : Nat} {g : Int → Option Nat} (h : Sp N S x sm g) (hname : ∀ {n c l}, S n = some (.name c l) → S' n = some (.name c l)) (hnmap : ∀ {m f}, S m = some (.nmap f) → ∃ f', S' m = some (.nmap f') ∧ ∀ w n, f w = some n → f' w = some n)
    (hcell : ∀ {c k v e p}, S c = some (.cell k v e p) → ∃ e', S' c = some (.cell k v e' p)) (hel : ∀ {c i d}, elOf S c i = some d → elOf S' c i = some d) {i : Int} {w : Bs} {c : Nat} (hf : findC S g i w = (some c, 0)) : findC S' g i w = (some c, 0) := by
  unfold findC at hf ⊢
  cases hg : g i with
  | none => simp [hg] at hf
  | some m =>
    obtain ⟨f, hm⟩ := h.wf.scope h.smap hg
    obtain ⟨f', hm', hff⟩ := hnmap hm
    simp only [hg] at hf ⊢
    cases hn : nmOf S m (splitC w).1 with
    | none => rw [hn] at hf; simp at hf
    | some n =>
      have hfn : f (splitC w).1 = some n := by simpa [nmOf, hm] using hn
      have hn' : nmOf S' m (splitC w).1 = some n := by simp [nmOf, hm', hff _ _ hfn]
      obtain ⟨c0, l0, hnn⟩ := h.wf.nm hm hfn
      obtain ⟨k0, v0, e0, p0, hc0⟩ := h.wf.nc hnn
      obtain ⟨e0', hc0'⟩ := hcell hc0
      rw [hn] at hf
      rw [hn']
      simp only [nameC, hnn, hname hnn, parOf, kindOf, hc0, hc0'] at hf ⊢
      by_cases he : (splitC w).2.2 = false
      · rw [if_pos he] at hf ⊢; exact hf
      · rw [if_neg he] at hf ⊢
        by_cases hp : p0 ≠ none
        · rw [if_pos hp] at hf; simp at hf
        · rw [if_neg hp] at hf ⊢
          by_cases hk : k0 = 1
          · rw [if_pos hk] at hf; simp at hf
          · rw [if_neg hk] at hf ⊢
            have : elOf S c0 (splitC w).2.1 = some c := by simpa using congrArg Prod.fst hf
            rw [hel this]
end Go.Proofs.YtcaifihdbcjakaaGreat
