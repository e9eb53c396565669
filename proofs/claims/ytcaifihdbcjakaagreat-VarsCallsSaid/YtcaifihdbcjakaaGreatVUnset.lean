/- 'Unset' of a space of variables. -/
import Derived.Test.YtcaifihdbcjakaaGreatVClear
namespace Go.Proofs.YtcaifihdbcjakaaGreat
set_option linter.unusedVariables false
set_option linter.unusedSimpArgs false
open Go.RowKit
variable {N : Nat}

theorem Sp.cleared {S S' : St} {x sm c : Nat} {g : Int → Option Nat} (h : Sp N S x sm g) {k : Int} {v : Bs} {e p : Option Nat} (hc : S c = some (.cell k v e p)) (hC : Cleared S S' c) : Sp N S' x sm g := by
  have eqv : ∀ {n b}, (∀ k v e p, b ≠ Blk.cell k v e p) → S n = some b → S' n = some b := by
    intro n b hb hn
    have hnc : n ≠ c := by rintro rfl; rw [hc] at hn; cases hn; exact absurd rfl (hb _ _ _ _)
    rw [hC.other hnc (fun k' v' e' h' => by rw [hn] at h'; cases h'; exact absurd rfl (hb _ _ _ _)), hn]
  obtain ⟨cs, rm, r, h1, h2, h3⟩ := h.space
  refine ⟨h.wf.cleared hc hC, eqv (by intros; simp) h.smap, cs, rm, r, eqv (by intros; simp) h1, eqv (by intros; simp) h2, fun b n c e => ?_⟩
  obtain ⟨h4, l, h5, h6⟩ := h3 b n c e
  exact ⟨h4, l, eqv (by intros; simp) h5, h6⟩

set_option maxRecDepth 100000 in
set_option maxHeartbeats 1600000 in
theorem Unset_any {B : Nat} {S : St} {w : World} (hB : B ≤ w.heap.size) (h : Rep B w S) {x sm : Nat} {g : Int → Option Nat} (hp : Sp N S x sm g) {i : Int} (hi : (Lit.int .i64 i).wf = true) {word : Bs} (hw : word.length ≤ maxLen) :
    Calls Tryz.prog 25 #[.pointer (some ⟨x, 0, none⟩), .int .i64 i, .string ⟨word.toArray⟩] w fun en w' => (∃ r, en = .returned (.int .i64 r)) ∧ ActRes N B S w x sm w' := by
  have HF := Lib.hid (find_any h hp hi hw)
  have HA : Hid (∀ m, ActRes N B S w x sm (w.drewN m)) := fun m => ⟨S, g, goes_drewN h m, hp⟩
  have hcell := fun c => findC_cell (c := c) hp.wf hp.smap (i := i) (word := word)
  generalize findC S g i word = q at *
  obtain ⟨r, en⟩ := q
  simp only at HF hcell
  by_cases he : en = 0
  · subst he
    cases r with
    | none =>
      simp only [Option.map_none] at HF
      clear hcell
      go_enter Tryz.func25, Tryz.ntmps25
      go_wp2_with (go_at_call 39; refine HF.out.mono ?_; rintro e w' ⟨rfl, m0, rfl⟩)
      go_ret
      exact ⟨⟨_, rfl⟩, HA.out m0⟩
    | some c =>
      obtain ⟨k, v, e, p, hc⟩ := hcell c rfl
      simp only [Option.map_some] at HF
      have HSt := Lib.hid (fun m0 => state_any (h.drewN m0) hp.wf hc)
      have HC := Lib.hid (fun m0 => clear_any (B := B) (w := w.drewN m0) (by simpa using hB) (h.drewN m0) hp.wf hc)
      have HE : Hid (∀ m0 S' w', Goes B S (w.drewN m0) S' w' → Cleared S S' c → ActRes N B S w x sm w') := fun m0 S' w' h1 h2 => ⟨S', g, (goes_drewN h m0).trans h1, hp.cleared hc h2⟩
      have hst := stateC_vals hp.wf hc
      generalize stateC S c = st at *
      clear hcell
      rcases hst with rfl | rfl | rfl | rfl
      · go_enter Tryz.func25, Tryz.ntmps25
        go_wp2_with (first | (go_at_call 39; refine HF.out.mono ?_; rintro e w' ⟨rfl, m0, rfl⟩) | (go_at_call 36; refine (HSt.out _).mono ?_; rintro e w' ⟨rfl, rfl⟩))
        go_ret
        exact ⟨⟨_, rfl⟩, HA.out m0⟩
      · go_enter Tryz.func25, Tryz.ntmps25
        go_wp2_with (first | (go_at_call 39; refine HF.out.mono ?_; rintro e w' ⟨rfl, m0, rfl⟩) | (go_at_call 36; refine (HSt.out _).mono ?_; rintro e w' ⟨rfl, rfl⟩))
        go_ret
        exact ⟨⟨_, rfl⟩, HA.out m0⟩
      · go_enter Tryz.func25, Tryz.ntmps25
        go_wp2_with (first | (go_at_call 39; refine HF.out.mono ?_; rintro e w' ⟨rfl, m0, rfl⟩) | (go_at_call 36; refine (HSt.out _).mono ?_; rintro e w' ⟨rfl, rfl⟩) | (go_at_call 54; refine (HC.out _).mono ?_; rintro e w2 ⟨rfl, S', hG2, hC2⟩))
        go_ret
        exact ⟨⟨_, rfl⟩, HE.out _ _ _ hG2 hC2⟩
      · go_enter Tryz.func25, Tryz.ntmps25
        go_wp2_with (first | (go_at_call 39; refine HF.out.mono ?_; rintro e w' ⟨rfl, m0, rfl⟩) | (go_at_call 36; refine (HSt.out _).mono ?_; rintro e w' ⟨rfl, rfl⟩) | (go_at_call 54; refine (HC.out _).mono ?_; rintro e w2 ⟨rfl, S', hG2, hC2⟩))
        go_ret
        exact ⟨⟨_, rfl⟩, HE.out _ _ _ hG2 hC2⟩
  · have te : ((en : Int) != 0) = true := by simpa using he
    clear hcell
    go_enter Tryz.func25, Tryz.ntmps25
    go_wp2_with (go_at_call 39; refine HF.out.mono ?_; rintro e w' ⟨rfl, m0, rfl⟩)
    go_ret
    exact ⟨⟨_, rfl⟩, HA.out m0⟩
end Go.Proofs.YtcaifihdbcjakaaGreat
