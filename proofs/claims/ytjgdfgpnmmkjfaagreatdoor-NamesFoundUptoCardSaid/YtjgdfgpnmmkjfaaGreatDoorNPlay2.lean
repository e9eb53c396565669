/- 'play' of an act that deletes, or does nothing; any act. -/
import Derived.Test.YtjgdfgpnmmkjfaaGreatDoorNPlay
namespace Go.Proofs.YtjgdfgpnmmkjfaaGreatDoor
set_option linter.unusedVariables false
set_option linter.unusedSimpArgs false
open Go.RowKit Go.MapKept

set_option maxRecDepth 100000 in
set_option maxHeartbeats 1600000 in
theorem play_1 {w w0 : World} {B tb m By yb : Nat} {S : Bs → Option ND} (h : Two w B tb m S By yb w0) (a : AN) (hF : Fit S a) (hk : a.k = 1) :
    Calls Tryz.prog 9 #[.pointer (some ⟨tb, 0, none⟩), .pointer (some ⟨yb, 0, none⟩), .agg #[.int .i64 a.k, .string ⟨a.s.toArray⟩, .string ⟨a.t.toArray⟩, .slice a.lo a.L.length a.lc, .bool a.cl]] w0 (PlayE w B tb m S a) := by
  obtain ⟨⟨who, nd, whoY, ndY, hT0, hy0, hd, hlo⟩, hB, hle⟩ := h
  have hbn : who w0.heap.size = none := hT0.none_at (Nat.le_refl _)
  have hbY0 : ∀ j, w0.heap.size ≤ j → whoY j = none := fun j hj => hy0.none_at hj
  have hBw := hT0.base
  obtain ⟨ks, hks⟩ := keys_of hF.cnt
  have MX : Hid (∀ W, Below w0.heap.size w0 W → W.heap[w0.heap.size]? = some (boxA a) → Calls Tryz.prog 15 #[.pointer (some ⟨tb, 0, none⟩), .string ⟨a.s.toArray⟩] W fun e w' => ∃ o n c A r S', e = .returned (.tuple #[.slice o n c, .int .i64 r]) ∧ TxtRow w' (.slice o n c) A ∧ (∀ ad, o = some ad → w0.heap.size ≤ ad.block) ∧ PlayR S a S' ∧ Mid w B tb m S' By yb w0.heap.size (boxA a) w') := fun W hb hbx => by
    have hT := hT0.low hb
    refine (Delete_any hT hF.cnt hF.key hks a.s hF.s).mono fun e w' hR => ?_
    unfold DelR at hR
    cases hS : S (canonN rootN a.s) with
    | none =>
      rw [hS] at hR
      obtain ⟨he, hT', hSt⟩ := hR
      exact ⟨none, 0, 0, [], 8, S, he, TxtRow.nil _, (fun ad h => by cases h), (by unfold PlayR; rw [hk]; exact .inl ⟨hS, rfl⟩), Two.step hT (hy0.low hb) hd hlo (hB.trans (hb.mono hBw)) hle hbx hbn hbY0 hT' hSt⟩
    | some n =>
      rw [hS] at hR
      obtain ⟨o, c, who', nd', he, hrow, hT', hSt, hun⟩ := hR
      refine ⟨o, (goneL (canonN rootN a.s) ks).length, c, srt (goneL (canonN rootN a.s) ks), 0, _, he, ?_, fun ad h => Nat.le_trans hb.size (TxtRow.nilOr hrow ad h), (by unfold PlayR; rw [hk]; exact .inr ⟨ks, hks, by rw [hS]; rfl, rfl⟩), Two.step hT (hy0.low hb) hd hlo (hB.trans (hb.mono hBw)) hle hbx hbn hbY0 hT' hSt⟩
      rw [← srt_len] at hrow ⊢
      exact TxtRow.of_owns hrow
  have MY : Hid (∀ W S', Mid w B tb m S' By yb w0.heap.size (boxA a) W → ∀ o n c A, TxtRow W (.slice o n c) A → (∀ ad, o = some ad → w0.heap.size ≤ ad.block) → Calls Tryz.prog 25 #[.pointer (some ⟨yb, 0, none⟩), .string ⟨a.s.toArray⟩] W fun e w' => ∃ r, e = .returned (.tuple #[.slice none 0 0, .int .i64 r]) ∧ (∃ who nd, Tr w' B tb m who nd S' ∧ Below B w w') ∧ TxtRow w' (.slice o n c) A) := fun W S' hM o n c A ht hto => by
    obtain ⟨⟨who, nd, whoY', ndY', hT, hy, hd, hbY⟩, hb, hle, hbx⟩ := hM
    -- the tree of the reference is of this call: New's, so its state is newS
    refine (rDelete_new hy a.s hF.s).mono fun e w' ⟨r, he, hf⟩ => ⟨r, he, Mid.fin hT hy hd hb hle hf, ?_⟩
    exact ht.fr (who := whoY') (fun ad had => hbY _ (hto ad had)) hf
  have SA : Hid (∀ W va vb A B', TxtRow W va A → TxtRow W vb B' → Calls Tryz.prog 16 #[va, vb] W fun e w' => ABool e ∧ Below W.heap.size W w') := fun W va vb A B' ha hb => same_any W ha hb
  have hB0 : Below w0.heap.size w0 (w0.alloc (boxA a)) := (Below.refl _ w0).alloc (Nat.le_refl _) _
  have hbx0 := heap_alloc_new w0 (boxA a)
  have HB0 := Lib.hid (And.intro hB0 hbx0)
  have HMX : Hid (∀ w1 : World, w1.heap[w0.heap.size]? = some (boxA a) → w1.cell? ⟨w0.heap.size, 1, none⟩ = some (.string ⟨a.s.toArray⟩)) := fun w1 hM => by
    obtain ⟨_, e1, e2, e3, e4⟩ := vcells5 hM
    exact e1
  have HPE : Hid (∀ e w' S', ABool e → PlayR S a S' → (∃ who nd, Tr w' B tb m who nd S' ∧ Below B w w') → PlayE w B tb m S a e w') := fun e w' S' h1 h2 ⟨who, nd, h3, h4⟩ => ⟨h1, S', who, nd, h2, h3, h4⟩
  have HLOW : Hid (∀ (W W' : World) S', (∃ who nd, Tr W B tb m who nd S' ∧ Below B w W) → Below W.heap.size W W' → ∃ who nd, Tr W' B tb m who nd S' ∧ Below B w W') := fun W W' S' ⟨who, nd, h3, h4⟩ hb => ⟨who, nd, h3.low hb, h4.trans (hb.mono h3.base)⟩
  generalize hP : PlayE w B tb m S a = PE at *
  generalize hPR : PlayR S a = PRS at *
  unfold boxA at MX MY HB0 HMX
  obtain ⟨ak, as_, at_, aL, acl, alo, alc⟩ := a
  simp only at hk MX MY HB0 HMX ⊢
  subst hk
  generalize aL.length = an at *
  clear hF hT0 hy0 hd hlo hB hle hbn hB0 hbx0 hBw hbY0 hks hP hPR
  go_enter Tryz.func9, Tryz.ntmps9
  go_wp2_with (first | (go_at_call 15; refine (MX.out _ (by exact HB0.out.1) (by exact HB0.out.2)).mono ?_; rintro e w1 ⟨o, n, c, A, r, S', rfl, ht, hto, hpr, hM⟩; have c1 := HMX.out _ hM.box; have HM := Lib.hid (And.intro ht (And.intro hto (And.intro hpr hM))); clear ht hto hpr hM) | (go_at_call 25; refine (MY.out _ _ HM.out.2.2.2 _ _ _ _ HM.out.1 HM.out.2.1).mono ?_; rintro e w2 ⟨r2, rfl, hE, ht⟩; have HE := Lib.hid (And.intro hE ht); clear hE ht) | (go_at_call 16; refine (SA.out _ _ _ _ [] HE.out.2 (TxtRow.nil _)).mono ?_; rintro e w3 ⟨⟨bb, rfl⟩, hB3⟩; have HE3 := Lib.hid (HLOW.out _ _ _ HE.out.1 hB3); clear hB3; cases bb))
  all_goals
    go_wp2_with fail
    exact HPE.out _ _ _ ⟨_, rfl⟩ HM.out.2.2.1 HE3.out
set_option maxRecDepth 100000 in
set_option maxHeartbeats 1600000 in
theorem play_o {w w0 : World} {B tb m By yb : Nat} {S : Bs → Option ND} (h : Two w B tb m S By yb w0) (a : AN) (hk : a.k ≠ 0 ∧ a.k ≠ 1 ∧ a.k ≠ 2 ∧ a.k ≠ 3 ∧ a.k ≠ 4) :
    Calls Tryz.prog 9 #[.pointer (some ⟨tb, 0, none⟩), .pointer (some ⟨yb, 0, none⟩), .agg #[.int .i64 a.k, .string ⟨a.s.toArray⟩, .string ⟨a.t.toArray⟩, .slice a.lo a.L.length a.lc, .bool a.cl]] w0 (PlayE w B tb m S a) := by
  obtain ⟨⟨who, nd, whoY, ndY, hT0, hy0, hd, hlo⟩, hB, hle⟩ := h
  have HE : Hid (∀ w', Below w0.heap.size w0 w' → PlayE w B tb m S a (.returned (.bool true)) w') := fun w' hb => ⟨⟨_, rfl⟩, S, who, nd, by unfold PlayR; rw [if_neg hk.1, if_neg hk.2.1, if_neg hk.2.2.1, if_neg hk.2.2.2.1, if_neg hk.2.2.2.2], hT0.low hb, hB.trans (hb.mono hT0.base)⟩
  generalize PlayE w B tb m S a = PE at *
  obtain ⟨ak, as_, at_, aL, acl, alo, alc⟩ := a
  simp only at hk ⊢
  have e0 : (ak == 0) = false := beq_eq_false_iff_ne.2 hk.1
  have e1 : (ak == 1) = false := beq_eq_false_iff_ne.2 hk.2.1
  have e2 : (ak == 2) = false := beq_eq_false_iff_ne.2 hk.2.2.1
  have e3 : (ak == 3) = false := beq_eq_false_iff_ne.2 hk.2.2.2.1
  have e4 : (ak == 4) = false := beq_eq_false_iff_ne.2 hk.2.2.2.2
  generalize aL.length = an at *
  clear hT0 hy0 hd hlo hB hle hk
  go_enter Tryz.func9, Tryz.ntmps9
  go_wp2_with fail
  exact HE.out _ ((Below.refl _ w0).alloc (Nat.le_refl _) _)
/-- Any act. -/
theorem play_any {w w0 : World} {B tb m By yb : Nat} {S : Bs → Option ND} (h : Two w B tb m S By yb w0) (a : AN) (hF : Fit S a) (hv0 : TxtRow w0 (.slice a.lo a.L.length a.lc) a.L) (hvw : ∀ W, Below B w W → TxtRow W (.slice a.lo a.L.length a.lc) a.L) (hvb : ∀ o, a.lo = some o → 0 < a.L.length → o.block < B) :
    Calls Tryz.prog 9 #[.pointer (some ⟨tb, 0, none⟩), .pointer (some ⟨yb, 0, none⟩), .agg #[.int .i64 a.k, .string ⟨a.s.toArray⟩, .string ⟨a.t.toArray⟩, .slice a.lo a.L.length a.lc, .bool a.cl]] w0 (PlayE w B tb m S a) := by
  by_cases h0 : a.k = 0
  · exact play_0 h a hF h0 hv0 hvw hvb
  · by_cases h1 : a.k = 1
    · exact play_1 h a hF h1
    · by_cases h2 : a.k = 2
      · exact play_2 h a hF h2 hv0 hvw hvb
      · by_cases h3 : a.k = 3
        · exact play_3 h a hF h3 hv0 hvw hvb
        · by_cases h4 : a.k = 4
          · exact play_4 h a hF h4 hv0 hvw hvb
          · exact play_o h a ⟨h0, h1, h2, h3, h4⟩
end Go.Proofs.YtjgdfgpnmmkjfaaGreatDoor
