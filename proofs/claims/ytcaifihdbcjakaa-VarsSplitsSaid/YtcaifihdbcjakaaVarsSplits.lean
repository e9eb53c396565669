/- For all words, 'VarsSplits' returns true: Split is that of the reference, and a word put together again is the word. No condition. -/
import Derived.Test.YtcaifihdbcjakaaRows
import Derived.Test.YtcaifihdbcjakaaVAwake
import Derived.Test.YtcaifihdbcjakaaVFirst
import Derived.ProofKit
namespace Go.Proofs.Ytcaifihdbcjakaa
set_option linter.unusedVariables false
set_option linter.unusedSimpArgs false
open Go.RowKit
theorem ba_append (a b : Bs) : (⟨a.toArray⟩ : ByteArray) ++ ⟨b.toArray⟩ = ⟨(a ++ b).toArray⟩ := by
  apply ByteArray.ext; simp
theorem split_back {s : Bs} (h : (splitC s).2.2 = true) : (splitC s).1 ++ (40 :: ((splitC s).2.1 ++ [41])) = s := by
  unfold splitC at h ⊢
  split
  · rename_i hc; rw [if_pos hc] at h; cases h
  · rename_i hc
    have h1 : ¬ Lib.indexByte s 40 = -1 := fun e => hc (.inl e)
    have h2 : s.getLast? = some 41 := Classical.byContradiction fun e => hc (.inr e)
    have hge := Lib.indexByte_ge s 40
    obtain ⟨k, hk⟩ : ∃ k : Nat, Lib.indexByte s 40 = k := ⟨(Lib.indexByte s 40).toNat, by omega⟩
    obtain ⟨hkl, hke⟩ := List.getElem?_eq_some_iff.1 (Lib.indexByte_some hk).1
    rw [hk]
    simp only [Int.toNat_natCast]
    have hq : s.length - 1 < s.length := by omega
    have hlast : s[s.length - 1]'hq = 41 := by
      rw [List.getLast?_eq_getElem?, List.getElem?_eq_getElem hq] at h2
      exact Option.some.inj h2
    have hk2 : k < s.length - 1 := by
      rcases Nat.lt_or_ge k (s.length - 1) with h | h
      · exact h
      · have : k = s.length - 1 := by omega
        subst this
        rw [hke] at hlast; exact absurd hlast (by decide)
    apply List.ext_getElem
    · simp; omega
    · intro i h1 h2
      simp only [List.getElem_append, List.getElem_cons, List.getElem_take, List.getElem_drop, List.length_take, List.length_drop]
      split
      · rfl
      · split
        · have : i = k := by omega
          subst this; exact hke.symm
        · split
          · congr 1; omega
          · have hi : i = s.length - 1 := by simp at h1; omega
            have h9 : i - min k s.length - 1 - min (s.length - 1 - (k + 1)) (s.length - (k + 1)) = 0 := by omega
            subst hi; rw [hlast]; simp [h9]
end Go.Proofs.Ytcaifihdbcjakaa
namespace Go.Proofs.Ytcaifihdbcjakaa.varsSplits
open Go.ChangeShapes Go.WideShapes Go.ChangeAt Go.RowKit
open Go.ChangeMaps (open_string shut_string)
set_option linter.unusedVariables false

theorem own : ownKnob Try.prog.godebug = none := by kernel_rfl
theorem laidOut : laidOutB Try.prog = true := by kernel_rfl

attribute [local go_sem] ba_append in
set_option maxRecDepth 100000 in
set_option maxHeartbeats 3200000 in
theorem walk (s : Bs) (hs : s.length ≤ 9223372036854775807) (w : World) :
    Calls Try.prog 3 #[.string ⟨s.toArray⟩] w fun e w' => e = .returned (.bool true) ∧ Below w.heap.size w w' := by
  by_cases h1 : 300 < s.length
  · go_enter Try.func3, Try.ntmps3
    go_wp2_with (go_at_call 6; refine (awake_any _).mono ?_; rintro e w2 ⟨rfl, hb⟩)
    go_ret
    exact ⟨rfl, hb⟩
  · have H1 := Lib.hid (fun W => Split_any s (by simp [maxLen]; omega) W)
    have H2 := Lib.hid (fun W => rSplit_any s (by omega) W)
    have hl := split_len s
    have hb : (splitC s).2.2 = true → (splitC s).1 ++ (40 :: ((splitC s).2.1 ++ [41])) = s := split_back
    have hp : (splitC s).2.2 = false → (splitC s).1 = s := split_plain
    generalize splitC s = q at *
    obtain ⟨a, b, is⟩ := q
    simp only at H1 H2 hl hb hp
    cases is with
    | true =>
      have hbb : a ++ [40] ++ b ++ [41] = s := by simpa using hb rfl
      clear hb hp
      have h4 : ¬ (9223372036854775807 < a.length + 1) := by omega
      have h5 : ¬ (9223372036854775807 < a.length + 1 + b.length) := by omega
      have h6 : ¬ (9223372036854775807 < a.length + 1 + b.length + 1) := by omega
      have HT := Lib.hid hbb
      clear hbb
      go_enter Try.func3, Try.ntmps3
      go_wp2_with (first | (go_at_call 7; refine (H1.out _).mono ?_; rintro e w1 ⟨rfl, m1, rfl⟩) | (go_at_call 8; refine (H2.out _).mono ?_; rintro e w1 ⟨rfl, m2, rfl⟩) | (go_at_call 6; refine (awake_any _).mono ?_; rintro e w2 ⟨rfl, hb2⟩))
      · go_ret
        exact ⟨rfl, (below_drewN (Below.refl _ w) _).trans (hb2.mono (by simp))⟩
      all_goals (exfalso; rename_i hx; exact hx (by simpa using HT.out))
    | false =>
      have hbb := hp rfl
      subst hbb
      clear hb hp
      go_enter Try.func3, Try.ntmps3
      go_wp2_with (first | (go_at_call 7; refine (H1.out _).mono ?_; rintro e w1 ⟨rfl, m1, rfl⟩) | (go_at_call 8; refine (H2.out _).mono ?_; rintro e w1 ⟨rfl, m2, rfl⟩) | (go_at_call 6; refine (awake_any _).mono ?_; rintro e w2 ⟨rfl, hb2⟩))
      go_ret
      exact ⟨rfl, (below_drewN (Below.refl _ w) _).trans (hb2.mono (by simp))⟩

theorem walkB (a0 : ByteArray) (w0 : a0.size ≤ maxLen) (w : World) :
    Calls Try.prog 3 #[.string a0] w fun e w' => e = .returned (.bool true) ∧ Below w.heap.size w w' := by
  cases a0 with
  | mk d0 => cases d0 with
      | mk l0 => exact walk l0 (by simpa [ByteArray.size, maxLen] using w0) w

set_option maxRecDepth 100000 in
theorem lifted (os : Os) (started : os.Started) (H : Type) (enc : TypeId × Value → H) :
    ReturnsInHanded {} Try.checked os 3 .any (Rows.varsSplitsSpec.pre6 enc Try.prog Try.f3 Rows.varsSplitsRow.domain false) (Rows.varsSplitsSpec.post enc Try.prog Try.f3 false true false false) := by
  refine returnsInHanded_of_change (C := Try.checked) own started (by kernel_rfl) Try.func3
    (ChangeSpec.witness6 (enc := enc) (C := Try.checked) false ⟨#[], #[.string ByteArray.empty], []⟩ 8 (by kernel_rfl) (by kernel_rfl) (by kernel_rfl) (by kernel_rfl)) ?_
  intro W base args ds gs before hval0 hW hcnd _
  have hval : ∀ (j : Nat) t v, Try.f3.params[j]? = some t → args[j]? = some v → Value.okWide Try.prog W .any base t v := hval0
  have hW' := hW
  obtain ⟨p, q, hA0, hV, rfl, hfz, hnd⟩ := hW
  have hA : DataW.TrodAll enc Try.prog W 0 (fun _ => true) true Try.f3.params.toList args.toList ds p := hA0
  rw [Try.params3] at hA hval
  obtain ⟨v0, vs0, d0, ds0, p0, q0, hargs, rfl, rfl, h0, r0⟩ := trodAll_cons hA
  obtain ⟨rfl, rfl, rfl⟩ := trodAll_nil r0
  obtain rfl : args = #[v0] := by cases args; simp_all
  obtain ⟨rfl, rfl⟩ := trodVars_none hV
  obtain ⟨a0, rfl, rfl, rfl, w0⟩ := open_string Try.underlying9 (hval 0 9 v0 rfl rfl) h0
  clear hA0 hval0
  simp only [List.append_nil] at hW'
  refine (walkB a0 w0 W).mono fun e W' ⟨he, hb⟩ => ?_
  subst he
  exact ⟨_, rfl, _, _, _, [], [] ++ [], [], hW', trodAll_cons_mk (shut_bool Try.underlying4 _) trodAll_mk0,
    trodAll_cons_mk (shut_string Try.underlying9 w0) trodAll_mk0, rfl, hb.frame _, fun h => by cases h⟩

theorem over : Rows.varsSplitsRow.holds Try.pinned (OpenSpec.ofChange Rows.varsSplitsSpec) :=
  OpenClaim.holds_of_wide 3 Try.f3 rfl rfl rfl rfl rfl rfl rfl ⟨rfl, rfl, rfl, rfl, rfl⟩ rfl rfl rfl rfl rfl (by kernel_rfl) Try.func3 (by kernel_rfl)
    (of_decide_eq_true (by kernel_rfl)) (by unfold Func.isWrapper; first | (rw [if_pos (by decide +kernel)]; kernel_rfl) | (rw [if_neg (by decide +kernel)]; exact ⟨rfl, rfl⟩))
    (fun os started H enc _ => lifted os started H enc)

theorem proved : Rows.VarsSplitsSaid :=
  over
#print axioms proved
end Go.Proofs.Ytcaifihdbcjakaa.varsSplits
