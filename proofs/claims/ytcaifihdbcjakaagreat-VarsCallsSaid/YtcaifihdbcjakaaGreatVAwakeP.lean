/- Plain laws: the example of the document. No program in sight. -/
import Derived.Test.YtcaifihdbcjakaaGreatVLinks
import Derived.Test.YtcaifihdbcjakaaGreatVSet2
import Derived.Test.YtcaifihdbcjakaaGreatVLink
namespace Go.Proofs.YtcaifihdbcjakaaGreat
set_option linter.unusedVariables false
set_option linter.unusedSimpArgs false
variable {N : Nat}

def bA1 : Bs := [97, 40, 49, 41]
def bA : Bs := [97]
def bX : Bs := [120]
def bV : Bs := [53]
theorem spA1 : splitC bA1 = ([97], [49], true) := by decide
theorem spA : splitC bA = ([97], [], false) := by decide
theorem spX : splitC bX = ([120], [], false) := by decide

theorem linkS_eq (S : St) (m n c : Nat) (f : Bs → Option Nat) (word : Bs) : linkS S m n c f word = linkS' S m n c f word := rfl
theorem setS_eq {S : St} (h : WF S) {c : Nat} {k : Int} {v : Bs} {e p : Option Nat} (hc : S c = some (.cell k v e p)) (val : Bs) : setS S c val = setS' S c val := by
  cases p with
  | none => simp [setS, setS', hc]
  | some q =>
    obtain ⟨kq, vq, eq, hq⟩ := h.par hc
    simp [setS, setS', hc, hq]

/-- The example's state: the array (not yet one), its element. -/
structure Ex (S : St) (g : Int → Option Nat) (i : Int) (a c : Nat) : Prop where
  fA : findC S g 0 bA = (some a, 0)
  fA1 : findC S g 0 bA1 = (some c, 0)
  fX : findC S g i bX = (some c, 0)
  ca : ∃ v e, S a = some (.cell 0 v e none)
  cc : ∃ k v e, S c = some (.cell k v e (some a))

theorem Ex.more {S S' : St} {x sm : Nat} {g : Int → Option Nat} (hp : Sp N S x sm g) {i : Int} {a c : Nat} (h : Ex S g i a c) (hm : More S S') : Ex S' g i a c := by
  refine ⟨find_more hp hm.name hm.nmap hm.cell hm.el h.fA, find_more hp hm.name hm.nmap hm.cell hm.el h.fA1, find_more hp hm.name hm.nmap hm.cell hm.el h.fX, ?_, ?_⟩
  · obtain ⟨v, e, hc⟩ := h.ca
    obtain ⟨e', hc'⟩ := hm.cell hc
    exact ⟨v, e', hc'⟩
  · obtain ⟨k, v, e, hc⟩ := h.cc
    obtain ⟨e', hc'⟩ := hm.cell hc
    exact ⟨k, v, e', hc'⟩

theorem Ex.state {S : St} {g : Int → Option Nat} {i : Int} {a c : Nat} (h : Ex S g i a c) : stateC S c = (0, 0) := by
  obtain ⟨v, e, ha⟩ := h.ca
  obtain ⟨k, v', e', hc⟩ := h.cc
  simp [stateC, parOf, kindOf, hc, ha]

theorem ex_link {S S1 : St} {x sm : Nat} {g : Int → Option Nat} {i : Int} (hE : ∀ m w, nmOf S m w = none) (h0 : ∃ m, g 0 = some m) (hp1 : Sp N S1 x sm g) (hs : Same S S1 g) {m n c : Nat} {f : Bs → Option Nat} (hf : findC S1 g 0 bA1 = (some c, 0)) (hgi : g i = some m) (hm : S1 m = some (.nmap f)) (hn : S1 n = none) :
    Sp N (linkS S1 m n c f bX) x sm g ∧ ∃ a, Ex (linkS S1 m n c f bX) g i a c := by
  rw [linkS_eq]
  obtain ⟨m0, hm0⟩ := h0
  obtain ⟨k, v, e, p, hc⟩ := findC_cell hp1.wf hp1.smap (i := 0) (word := bA1) (c := c) (by rw [hf])
  have hkA : kindC S1 g 0 bA = 0 := by
    rw [(hs 0 bA).2.1]; simp [kindC, findC, hm0, hE]
  have hlf := link_find (word := bX) (a := i) (b := 0) hp1 hm hn hgi hf (by rw [spX]) (by rw [spA1]; rintro ⟨_, h⟩; revert h; decide)
  have hlf2 := fun a ha => link_find (c := a) (target := bA) (word := bX) (a := i) (b := 0) hp1 hm hn hgi ha (by rw [spX]) (by rw [spA]; rintro ⟨_, h⟩; revert h; decide)
  refine ⟨link_sp hp1 hm hn hc, ?_⟩
  have hf0 := hf
  unfold findC at hf
  simp only [hm0, spA1] at hf
  cases hn0 : nmOf S1 m0 [97] with
  | none => rw [hn0] at hf; simp at hf
  | some n0 =>
    rw [hn0] at hf
    simp only at hf
    cases hc0 : nameC S1 n0 with
    | none => rw [hc0] at hf; simp at hf
    | some a =>
      rw [hc0] at hf
      simp only [Bool.true_eq_false, if_false] at hf
      obtain ⟨ka, va, ea, pa, ha⟩ := nc_cell hp1.wf hc0
      have hfA : findC S1 g 0 bA = (some a, 0) := by
        unfold findC; simp only [hm0, spA, hn0, hc0, if_true]
      have hpa : pa = none := by
        cases pa with
        | none => rfl
        | some q => simp [parOf, ha] at hf
      subst hpa
      have hka : ka = 0 := by
        have h1 := hkA
        unfold kindC at h1
        rw [hfA] at h1
        simpa [stateC, parOf, kindOf, ha] using h1
      subst hka
      have hel : elOf S1 a [49] = some c := by simpa [parOf, kindOf, ha] using hf
      obtain ⟨k2, v2, e2, hcc⟩ := el_cell hp1.wf hel
      rw [hc] at hcc; cases hcc
      have hmn : m ≠ n := by rintro rfl; rw [hn] at hm; cases hm
      have keep : ∀ d kd vd ed pd, S1 d = some (.cell kd vd ed pd) → linkS' S1 m n c f bX d = some (.cell kd vd ed pd) := by
        intro d kd vd ed pd hd
        simp only [linkS', St.set]
        rw [if_neg (by rintro rfl; rw [hm] at hd; cases hd), if_neg (by rintro rfl; rw [hn] at hd; cases hd)]
        exact hd
      refine ⟨a, ?_, hlf.2.1, hlf.1, ⟨va, ea, keep _ _ _ _ _ ha⟩, ⟨_, _, _, keep _ _ _ _ _ hc⟩⟩
      have hn00 := nm_name hp1.wf hn0
      obtain ⟨c9, l9, hn9⟩ := hn00
      unfold findC
      simp only [hm0, spA, if_true]
      have h1 : nmOf (linkS' S1 m n c f bX) m0 [97] = some n0 := by
        rw [(link_view (c := c) hp1.wf hm hn).1, if_neg (by rintro ⟨_, h⟩; revert h; decide)]; exact hn0
      have h2 : nameC (linkS' S1 m n c f bX) n0 = some a := by
        rw [(link_view (c := c) hp1.wf hm hn).2.1, if_neg (by rintro rfl; rw [hn] at hn9; cases hn9)]; exact hc0
      rw [h1]
      simp only [h2]

theorem Ex.notNo {S : St} {x sm : Nat} {g : Int → Option Nat} (hp : Sp N S x sm g) {i : Int} {a c : Nat} (h : Ex S g i a c) : ¬ SetNo N S x sm g i bX := by
  rintro (h1 | ⟨S1, c1, hp1, hm1, hf1, h2, h3, _⟩)
  · rw [h.fX] at h1; exact h1 rfl
  · have h4 := h.more hp hm1
    have h5 := h4.fX
    rw [hf1] at h5
    cases h5
    exact h2 h4.state

theorem Ex.set {S : St} {x sm : Nat} {g : Int → Option Nat} (hp : Sp N S x sm g) {i : Int} {a c : Nat} (h : Ex S g i a c) : getC (setS S c bV) g 0 bA1 = (bV, 0) ∧ kindC (setS S c bV) g 0 bA = 2 := by
  obtain ⟨v, e, ha⟩ := h.ca
  obtain ⟨k, v', e', hc⟩ := h.cc
  have hst := h.state
  have hac : a ≠ c := by rintro rfl; rw [ha] at hc; cases hc
  rw [setS_eq hp.wf hc]
  obtain ⟨v1, v2, v3, v4, v5, v6, v7⟩ := set_view hp.wf hc bV
  have f1 : findC (setS' S c bV) g 0 bA1 = (some c, 0) := by
    rcases find_set hp.wf hc bV g 0 bA1 with h1 | ⟨_, _, h1⟩
    · rw [h1, h.fA1]
    · cases h1
  have f2 : findC (setS' S c bV) g 0 bA = (some a, 0) := by
    rcases find_set hp.wf hc bV g 0 bA with h1 | ⟨_, _, h1⟩
    · rw [h1, h.fA]
    · cases h1
  have hk0 : kindOf S a = 0 := by simp [kindOf, ha]
  refine ⟨?_, ?_⟩
  · unfold getC
    rw [f1]
    have : stateC (setS' S c bV) c = (1, 0) := by
      unfold stateC
      rw [v4]
      simp [parOf, hc, v7, hac, hk0]
    simp [this, v6]
  · unfold kindC
    rw [f2]
    have : stateC (setS' S c bV) a = (2, 0) := by
      unfold stateC
      rw [v4]
      simp [parOf, ha, v7, hac, hk0]
    simp [this]
end Go.Proofs.YtcaifihdbcjakaaGreat
