/- 'find' of a space of variables. -/
import Derived.Test.YtcaifihdbcjakaaGreatVRead
namespace Go.Proofs.YtcaifihdbcjakaaGreat
set_option linter.unusedVariables false
set_option linter.unusedSimpArgs false
open Go.RowKit
variable {N : Nat}

theorem Rep.drewN {B : Nat} {w : World} {S : St} (h : Rep B w S) (m : Nat) : Rep B (w.drewN m) S := fun b k hb => ⟨(h b k hb).1, (h b k hb).2.congr (by simp)⟩
theorem lookEl_nil (w : World) {s : Bs} (hs : s.length ≤ maxLen) : (Instr.lookup 76 (.map none) (.string ⟨s.toArray⟩) false).run Tryz.prog w = .ok (.pointer none) w := by
  have h1 := Skeyed.check w true (skey hs)
  have h2 := Skeyed.find w (skey hs) [] (by simp)
  rcases h2 with ⟨h2, _⟩ | ⟨j, e, _, h3, _⟩
  · rw [show (Value.string ⟨s.toArray⟩) = sv s from rfl]
    simp [Instr.lookup, run_underlying (show Tryz.prog.underlying 76 = _ from Tryz.underlying76), h1, h2, zeroCell, Result.andThen]
  · simp at h3

set_option maxRecDepth 100000 in
set_option maxHeartbeats 1600000 in
theorem find_any {B : Nat} {S : St} {w : World} (h : Rep B w S) {x sm : Nat} {g : Int → Option Nat} (hp : Sp N S x sm g) {i : Int} (hi : (Lit.int .i64 i).wf = true) {word : Bs} (hw : word.length ≤ maxLen) :
    Calls Tryz.prog 39 #[.pointer (some ⟨x, 0, none⟩), .int .i64 i, .string ⟨word.toArray⟩] w fun en w' => en = .returned (.tuple #[.pointer ((findC S g i word).1.map fun b => ⟨b, 0, none⟩), .int .i64 (findC S g i word).2]) ∧ ∃ m, w' = w.drewN m := by
  obtain ⟨cs, rm, r, hx, _⟩ := hp.space
  obtain ⟨x0, _⟩ := h.space hx
  have HT := Lib.hid (there_any h hp hi)
  have HL := Lib.hid (fun m => (h.drewN m).lookScope hp.smap hi)
  have HS := Lib.hid (fun W => Split_any word hw W)
  have hsl := split_len word
  have HF : Hid (findC S g i word = match g i with
    | none => (none, 7)
    | some m => match nmOf S m (splitC word).1 with
      | none => (none, 0)
      | some n => match nameC S n with
        | none => (none, 0)
        | some c => if (splitC word).2.2 = false then (some c, 0) else if parOf S c ≠ none then (none, 11) else if kindOf S c = 1 then (none, 11) else (elOf S c (splitC word).2.1, 0)) := rfl
  generalize splitC word = q at *
  obtain ⟨s1, s2, el⟩ := q
  simp only at HS hsl HF
  obtain ⟨hs1, hs2⟩ := hsl
  have hs1' : s1.length ≤ maxLen := Nat.le_trans hs1 hw
  have hs2' : s2.length ≤ maxLen := Nat.le_trans hs2 hw
  cases hg : g i with
  | none =>
    rw [hg] at HT
    have HR : Hid (findC S g i word = (none, 7)) := by show _ = _; rw [HF.out, hg]
    clear HF hg
    go_enter Tryz.func39, Tryz.ntmps39
    go_wp2_with (go_at_call 35; refine HT.out.mono ?_; rintro e w' ⟨rfl, rfl⟩)
    go_ret2
    exact ⟨by rw [HR.out]; rfl, 0, rfl⟩
  | some m =>
    rw [hg] at HT
    simp only [hg] at HL
    obtain ⟨f, hm⟩ := hp.wf.scope hp.smap hg
    have HN := Lib.hid (fun m0 => (h.drewN m0).lookName hm hs1')
    cases hf : f s1 with
    | none =>
      simp only [hf] at HN
      have HR : Hid (findC S g i word = (none, 0)) := by show _ = _; rw [HF.out, hg]; simp [nmOf, hm, hf]
      clear HF hg
      go_enter Tryz.func39, Tryz.ntmps39
      go_wp2_with (first | (go_at_call 35; refine HT.out.mono ?_; rintro e w' ⟨rfl, rfl⟩) | (go_at_call 51; refine (HS.out _).mono ?_; rintro e w' ⟨rfl, m0, rfl⟩; have hl := HL.out m0; have hl2 := HN.out m0))
      go_ret2
      exact ⟨by rw [HR.out]; rfl, _, rfl⟩
    | some n =>
      simp only [hf] at HN
      obtain ⟨c, l, hn⟩ := hp.wf.nm hm hf
      obtain ⟨k, v, e, p, hc⟩ := hp.wf.nc hn
      obtain ⟨n0, n1⟩ := h.name hn
      have HC : Hid (findC S g i word = if el = false then (some c, 0) else if p ≠ none then (none, 11) else if k = 1 then (none, 11) else (elOf S c s2, 0)) := by
        show _ = _; rw [HF.out, hg]; simp [nmOf, hm, hf, nameC, hn, parOf, kindOf, hc]
      clear HF hg
      cases el with
      | false =>
        have HR : Hid (findC S g i word = (some c, 0)) := by show _ = _; rw [HC.out]; rfl
        clear HC
        go_enter Tryz.func39, Tryz.ntmps39
        go_wp2_with (first | (go_at_call 35; refine HT.out.mono ?_; rintro e w' ⟨rfl, rfl⟩) | (go_at_call 51; refine (HS.out _).mono ?_; rintro e w' ⟨rfl, m0, rfl⟩; have hl := HL.out m0; have hl2 := HN.out m0))
        go_ret2
        exact ⟨by rw [HR.out]; rfl, _, rfl⟩
      | true =>
        obtain ⟨c0, c1, c2, c3, _, _⟩ := h.cell hc
        cases p with
        | some p =>
          have HR : Hid (findC S g i word = (none, 11)) := by show _ = _; rw [HC.out]; simp
          simp only [Option.map_some] at c3
          clear HC
          go_enter Tryz.func39, Tryz.ntmps39
          go_wp2_with (first | (go_at_call 35; refine HT.out.mono ?_; rintro e w' ⟨rfl, rfl⟩) | (go_at_call 51; refine (HS.out _).mono ?_; rintro e w' ⟨rfl, m0, rfl⟩; have hl := HL.out m0; have hl2 := HN.out m0))
          go_ret2
          exact ⟨by rw [HR.out]; rfl, _, rfl⟩
        | none =>
          simp only [Option.map_none] at c3
          have HSt := Lib.hid (fun m0 => state_any (h.drewN m0) hp.wf hc)
          have hst : stateC S c = (k, 0) := by simp [stateC, parOf, kindOf, hc]
          rw [hst] at HSt
          by_cases hk : k = 1
          · subst hk
            have HR : Hid (findC S g i word = (none, 11)) := by show _ = _; rw [HC.out]; simp
            clear HC
            go_enter Tryz.func39, Tryz.ntmps39
            go_wp2_with (first | (go_at_call 35; refine HT.out.mono ?_; rintro e w' ⟨rfl, rfl⟩) | (go_at_call 51; refine (HS.out _).mono ?_; rintro e w' ⟨rfl, m0, rfl⟩; have hl := HL.out m0; have hl2 := HN.out m0) | (go_at_call 36; refine (HSt.out _).mono ?_; rintro e w' ⟨rfl, rfl⟩))
            go_ret2
            exact ⟨by rw [HR.out]; rfl, _, rfl⟩
          · have HR : Hid (findC S g i word = (elOf S c s2, 0)) := by show _ = _; rw [HC.out]; simp [hk]
            have tk : ((k : Int) == 1) = false := by simpa using hk
            have HE : Hid (∀ m0, (Instr.lookup 76 (.map e) (.string ⟨s2.toArray⟩) false).run Tryz.prog (w.drewN m0) = .ok (.pointer ((elOf S c s2).map fun b => ⟨b, 0, none⟩)) (w.drewN m0)) := by
              intro m0
              cases e with
              | none => rw [lookEl_nil _ hs2']; simp [elOf, hc]
              | some e =>
                obtain ⟨fe, he⟩ := hp.wf.els hc
                rw [(h.drewN m0).lookEl he hs2']; simp [elOf, hc, he]
            clear HC hk
            go_enter Tryz.func39, Tryz.ntmps39
            go_wp2_with (first | (go_at_call 35; refine HT.out.mono ?_; rintro e w' ⟨rfl, rfl⟩) | (go_at_call 51; refine (HS.out _).mono ?_; rintro e w' ⟨rfl, m0, rfl⟩; have hl := HL.out m0; have hl2 := HN.out m0; have hl3 := HE.out m0) | (go_at_call 36; refine (HSt.out _).mono ?_; rintro e w' ⟨rfl, rfl⟩))
            go_ret2
            exact ⟨by rw [HR.out]; rfl, _, rfl⟩
end Go.Proofs.YtcaifihdbcjakaaGreat
