/- The reference's Unset. -/
import Derived.Test.YtpaffocniniakaaPathR6
namespace Go.Proofs.Ytpaffocniniakaa
set_option linter.unusedVariables false
set_option linter.unusedSimpArgs false
open Go.RowKit

theorem chgE_len (s : Bs) (err : Prs → Int) (res : Prs → Prs) : (chgE s err res).1.length ≤ 65536 := by
  unfold chgE
  split
  · exact Nat.zero_le _
  · split
    · exact joinE_short _
    · exact Nat.zero_le _
theorem unsC_len (path : List Bs) (s : Bs) : (unsC path s).1.length ≤ 65536 := by
  cases path with
  | nil => rw [unsC]; exact chgE_len _ _ _
  | cons k r =>
    rw [unsC]
    split <;> exact chgE_len _ _ _
theorem uns_none {s : Bs} (h : readC s = none) (path : List Bs) : unsC path s = ([], 11) := by
  cases path with
  | nil => rw [unsC, chgE, h]
  | cons k r =>
    rw [unsC]
    split <;> (rw [chgE, h])
theorem uns_along : ∀ (path : List Bs) (s : Bs), path ≠ [] → alongC s path ≠ 0 → unsC path s = ([], alongC s path)
  | [], _, h, _ => absurd rfl h
  | k :: r, s, _, h => by
    rw [alongC] at h ⊢
    cases hr : readC s with
    | none => exact uns_none hr _
    | some ps =>
      rw [hr] at h
      simp only at h ⊢
      by_cases h0 : r = []
      · rw [if_pos h0] at h; exact absurd rfl h
      · rw [if_neg h0] at h ⊢
        rw [unsC, if_neg h0, chgE, hr]
        simp only
        cases hg : getP ps k with
        | none => simp
        | some v =>
          rw [hg] at h
          simp only at h
          have := uns_along r v h0 h
          rw [valC_some hg]
          simp only [Option.isSome_some, if_true, this]
          rw [if_neg h]
theorem uns_one (k s : Bs) : unsC [k] s = remC s [k] := by
  rw [unsC, if_pos rfl, remC]
  congr 1
  funext ps
  congr 1
  funext p
  rw [Bool.eq_iff_iff]
  simp
theorem uns_two {s k : Bs} {ps : Prs} {v : Bs} {r : List Bs} (hr : readC s = some ps) (hg : getP ps k = some v) (h0 : r ≠ []) : unsC (k :: r) s = if (unsC r v).2 = 0 then putC [k] s (unsC r v).1 else ([], (unsC r v).2) := by
  have hp : ∀ x, putC [k] s x = joinE (flatP (setP ps k x)) := fun x => by
    show chgE s (fun ps => (putC [] (valC ps k) x).2) (fun ps => setP ps k (putC [] (valC ps k) x).1) = _
    rw [chgE, hr]; rfl
  have hu : unsC (k :: r) s = chgE s (fun ps => if (getP ps k).isSome then (unsC r (valC ps k)).2 else 8) (fun ps => setP ps k (unsC r (valC ps k)).1) := by rw [unsC, if_neg h0]
  rw [hu, hp, chgE, hr]
  simp only [hg, Option.isSome_some, if_true, valC_some hg]
theorem along_two {s k : Bs} {r : List Bs} (h0 : r ≠ []) (h : alongC s (k :: r) = 0) : ∃ ps v, readC s = some ps ∧ getP ps k = some v ∧ getC s [k] = (v, 0) := by
  rw [alongC] at h
  cases hr : readC s with
  | none => rw [hr] at h; cases h
  | some ps =>
    rw [hr] at h
    simp only at h
    rw [if_neg h0] at h
    cases hg : getP ps k with
    | none => rw [hg] at h; cases h
    | some v =>
      refine ⟨ps, v, rfl, hg, ?_⟩
      unfold getC
      rw [if_neg (by simp), getL, hr]
      simp only [hg, getL]
theorem TxtRow.one {W : World} {b off n c : Nat} {k : Bs} {r : List Bs} (h : TxtRow W (.slice (some ⟨b, off, none⟩) n c) (k :: r)) : TxtRow W (.slice (some ⟨b, off, none⟩) 1 c) [k] := by
  obtain ⟨_, h1, h2, h3⟩ := h.at_
  obtain ⟨b', off', e, hl, hc⟩ := h3 0 (by simp)
  cases e
  refine ⟨_, _, rfl, by simp at h1 ⊢; omega, h2, fun i hi => ?_⟩
  obtain rfl : i = 0 := by simp at hi; exact hi
  exact ⟨_, _, rfl, hl, hc⟩
set_option maxRecDepth 100000 in
set_option maxHeartbeats 1600000 in
theorem rUnset_any : ∀ (path : List Bs) (s : Bs) (v : Value) (w : World), s.length ≤ 19999 → (∀ k ∈ path, k.length ≤ 1000000) → TxtRow w v path →
    Calls Try.prog 26 #[.string ⟨s.toArray⟩, v] w fun e w' => e = .returned (.tuple #[.string ⟨(unsC path s).1.toArray⟩, .int .i64 (unsC path s).2]) ∧ Below w.heap.size w w' := by
  intro path
  induction path with
  | nil =>
    intro s v w hs _ ht
    have VA := Lib.hid (rValid_any s hs w)
    obtain ⟨o, c, rfl, _⟩ := id ht
    cases hr : readC s with
    | none =>
      rw [uns_none hr]
      rw [hr] at VA
      simp only [Option.isSome_none] at VA
      clear hr ht
      go_enter Try.func26, Try.ntmps26
      go_wp2_with (go_at_call 50; refine VA.out.mono ?_; rintro e w1 ⟨rfl, hB1⟩; have H1 := Lib.hid hB1; clear hB1)
      go_ret2
      exact ⟨rfl, H1.out⟩
    | some ps =>
      have hu : unsC [] s = ([], 7) := by rw [unsC, chgE, hr]; rfl
      rw [hu]
      rw [hr] at VA
      simp only [Option.isSome_some] at VA
      have AL : Hid (∀ W, Below w.heap.size w W → Calls Try.prog 51 #[.string ⟨s.toArray⟩, .slice o 0 c] W fun e w' => e = .returned (.int .i64 0) ∧ Below w.heap.size w w') := fun W h => (along_any s [] _ W hs (ht.below h)).mono fun e w' ⟨h1, h2⟩ => ⟨h1, h.trans (h2.mono h.size)⟩
      clear hr hu ht
      go_enter Try.func26, Try.ntmps26
      go_wp2_with (first | (go_at_call 50; refine VA.out.mono ?_; rintro e w1 ⟨rfl, hB1⟩; have H1 := Lib.hid hB1; clear hB1) | (go_at_call 51; refine (AL.out _ H1.out).mono ?_; rintro e w2 ⟨rfl, hB2⟩; have H2 := Lib.hid hB2; clear hB2))
      go_ret2
      exact ⟨rfl, H2.out⟩
  | cons k r ih =>
    intro s v w hs hkl ht
    have VA := Lib.hid (rValid_any s hs w)
    obtain ⟨o, c, rfl, _⟩ := id ht
    obtain ⟨cb, off, rfl, hcl, hcm, hbl, hc0, ht1⟩ := ht.first
    have hk := hkl k (by simp)
    have AL : Hid (∀ W, Below w.heap.size w W → Calls Try.prog 51 #[.string ⟨s.toArray⟩, .slice (some ⟨cb, off, none⟩) (k :: r).length c] W fun e w' => e = .returned (.int .i64 (alongC s (k :: r))) ∧ Below w.heap.size w w') := fun W h => (along_any s (k :: r) _ W hs (ht.below h)).mono fun e w' ⟨h1, h2⟩ => ⟨h1, h.trans (h2.mono h.size)⟩
    have RM : Hid (r = [] → ∀ W, Below w.heap.size w W → Calls Try.prog 28 #[.string ⟨s.toArray⟩, .slice (some ⟨cb, off, none⟩) (k :: r).length c] W fun e w' => e = .returned (.tuple #[.string ⟨(unsC (k :: r) s).1.toArray⟩, .int .i64 (unsC (k :: r) s).2]) ∧ Below w.heap.size w w') := fun hr W h => by
      subst hr
      rw [uns_one]
      exact (rRemove_any s [k] _ W hs (ht.below h)).mono fun e w' ⟨h1, h2⟩ => ⟨h1, h.trans (h2.mono h.size)⟩
    have TO : Hid (∀ W, Below w.heap.size w W → TxtRow W (.slice (some ⟨cb, off, none⟩) 1 c) [k]) := fun W h => (ht.below h).one
    have TT : Hid (∀ W, Below w.heap.size w W → TxtRow W (.slice (some ⟨cb, off + 1, none⟩) r.length (c - 1)) r) := fun W h => ht1.below h
    have GE : Hid (∀ W, Below w.heap.size w W → Calls Try.prog 22 #[.string ⟨s.toArray⟩, .slice (some ⟨cb, off, none⟩) 1 c] W fun e w' => e = .returned (.tuple #[.string ⟨(getC s [k]).1.toArray⟩, .int .i64 (getC s [k]).2]) ∧ Below w.heap.size w w') := fun W h => (rGet_any s [k] _ W hs (TO.out W h)).mono fun e w' ⟨h1, h2⟩ => ⟨h1, h.trans (h2.mono h.size)⟩
    have UN : Hid (∀ s' W, s'.length ≤ 19999 → Below w.heap.size w W → Calls Try.prog 26 #[.string ⟨s'.toArray⟩, .slice (some ⟨cb, off + 1, none⟩) r.length (c - 1)] W fun e w' => e = .returned (.tuple #[.string ⟨(unsC r s').1.toArray⟩, .int .i64 (unsC r s').2]) ∧ Below w.heap.size w w') := fun s' W h1 h => (ih s' _ W h1 (fun x hx => hkl x (List.mem_cons_of_mem _ hx)) (TT.out W h)).mono fun e w' ⟨h1, h2⟩ => ⟨h1, h.trans (h2.mono h.size)⟩
    have PU : Hid (∀ x W, x.length ≤ 65536 → Below w.heap.size w W → Calls Try.prog 52 #[.string ⟨s.toArray⟩, .slice (some ⟨cb, off, none⟩) 1 c, .string ⟨x.toArray⟩] W fun e w' => e = .returned (.tuple #[.string ⟨(putC [k] s x).1.toArray⟩, .int .i64 (putC [k] s x).2]) ∧ Below w.heap.size w w') := fun x W hx h => (rput_any (by omega) [k] s _ W hs (fun y hy => by simp at hy; subst hy; exact hk) (TO.out W h)).mono fun e w' ⟨h1, h2⟩ => ⟨h1, h.trans (h2.mono h.size)⟩
    have hlen : (k :: r).length = r.length + 1 := rfl
    rw [hlen] at AL RM hcl ⊢
    unfold maxLen at hcm
    clear ih ht ht1 hc0 hkl TO TT hlen
    by_cases hr : readC s = none
    · rw [uns_none hr]
      rw [hr] at VA
      simp only [Option.isSome_none] at VA
      clear hr AL RM GE UN PU
      go_enter Try.func26, Try.ntmps26
      go_wp2_with (go_at_call 50; refine VA.out.mono ?_; rintro e w1 ⟨rfl, hB1⟩; have H1 := Lib.hid hB1; clear hB1)
      go_ret2
      exact ⟨rfl, H1.out⟩
    · have hi : (readC s).isSome = true := by cases h : readC s with | none => exact absurd h hr | some x => rfl
      rw [hi] at VA
      clear hi hr
      have t9 : ((r.length : Int) + 1 == 0) = false := by rw [beq_eq_false_iff_ne]; omega
      obtain ⟨al, hal⟩ : ∃ al, alongC s (k :: r) = al := ⟨_, rfl⟩
      rw [hal] at AL
      by_cases ha : al = 0
      · subst ha
        by_cases h0 : r = []
        · have RM2 := Lib.hid (RM.out h0)
          have hl : r.length = 0 := by rw [h0]; rfl
          rw [hl] at RM2 AL ⊢
          generalize unsC (k :: r) s = q at *
          clear hal h0 RM GE UN PU hl t9 hcl
          go_enter Try.func26, Try.ntmps26
          go_wp2_with (first | (go_at_call 50; refine VA.out.mono ?_; rintro e w1 ⟨rfl, hB1⟩; have H := Lib.hid hB1; clear hB1) | (go_at_call 51; refine (AL.out _ H.out).mono ?_; rintro e w2 ⟨rfl, hB2⟩; have H := Lib.hid hB2; clear hB2) | (go_at_call 28; refine (RM2.out _ H.out).mono ?_; rintro e w3 ⟨rfl, hB3⟩; have H := Lib.hid hB3; clear hB3))
          go_ret2
          exact ⟨rfl, H.out⟩
        · obtain ⟨ps, x, hr, hg, hgc⟩ := along_two h0 hal
          rw [uns_two hr hg h0]
          rw [hgc] at GE
          simp only at GE
          have hxl : x.length ≤ 19999 := by have := val_len hr k; rw [valC_some hg] at this; omega
          have UN2 := Lib.hid (fun W => UN.out x W hxl)
          have hul := unsC_len r x
          have PU2 := Lib.hid (fun W => PU.out (unsC r x).1 W hul)
          have hr1 : 1 ≤ r.length := List.length_pos_iff.2 h0
          have t8 : ((r.length : Int) + 1 == 1) = false := by rw [beq_eq_false_iff_ne]; omega
          have c1 : (1 : Int) ≤ (c : Int) := by omega
          have c2 : (1 : Int) ≤ (r.length : Int) + 1 := by omega
          have c3 : (r.length : Int) + 1 ≤ (c : Int) := by omega
          have c4 : ¬ c = 1 := by omega
          obtain ⟨⟨ut, ue⟩, hu⟩ : ∃ u, unsC r x = u := ⟨_, rfl⟩
          rw [hu] at UN2 PU2 ⊢
          simp only at UN2 PU2 ⊢
          generalize r.length = m at *
          clear hal h0 RM UN PU hr hg hgc hul hu hk
          by_cases hue : ue = 0
          · subst hue
            rw [if_pos rfl]
            generalize putC [k] s ut = q at *
            go_enter Try.func26, Try.ntmps26
            go_wp2_with (first | (go_at_call 50; refine VA.out.mono ?_; rintro e w1 ⟨rfl, hB1⟩; have H := Lib.hid hB1; clear hB1) | (go_at_call 51; refine (AL.out _ H.out).mono ?_; rintro e w2 ⟨rfl, hB2⟩; have H := Lib.hid hB2; clear hB2) | (go_at_call 22; refine (GE.out _ H.out).mono ?_; rintro e w3 ⟨rfl, hB3⟩; have H := Lib.hid hB3; clear hB3) | (go_at_call 26; refine (UN2.out _ H.out).mono ?_; rintro e w4 ⟨rfl, hB4⟩; have H := Lib.hid hB4; clear hB4) | (go_at_call 52; refine (PU2.out _ H.out).mono ?_; rintro e w5 ⟨rfl, hB5⟩; have H := Lib.hid hB5; clear hB5))
            go_ret2
            exact ⟨rfl, H.out⟩
          · rw [if_neg hue]
            have t1 : (ue == 0) = false := beq_eq_false_iff_ne.2 hue
            clear hue PU2
            go_enter Try.func26, Try.ntmps26
            go_wp2_with (first | (go_at_call 50; refine VA.out.mono ?_; rintro e w1 ⟨rfl, hB1⟩; have H := Lib.hid hB1; clear hB1) | (go_at_call 51; refine (AL.out _ H.out).mono ?_; rintro e w2 ⟨rfl, hB2⟩; have H := Lib.hid hB2; clear hB2) | (go_at_call 22; refine (GE.out _ H.out).mono ?_; rintro e w3 ⟨rfl, hB3⟩; have H := Lib.hid hB3; clear hB3) | (go_at_call 26; refine (UN2.out _ H.out).mono ?_; rintro e w4 ⟨rfl, hB4⟩; have H := Lib.hid hB4; clear hB4))
            go_ret2
            exact ⟨rfl, H.out⟩
      · have hu := uns_along (k :: r) s (by simp) (by rw [hal]; exact ha)
        rw [hal] at hu
        rw [hu]
        clear hu hal RM GE UN PU hk
        generalize r.length = m at *
        have t1 : (al == 0) = false := beq_eq_false_iff_ne.2 ha
        by_cases h11 : al = 11
        · subst h11
          clear ha
          go_enter Try.func26, Try.ntmps26
          go_wp2_with (first | (go_at_call 50; refine VA.out.mono ?_; rintro e w1 ⟨rfl, hB1⟩; have H := Lib.hid hB1; clear hB1) | (go_at_call 51; refine (AL.out _ H.out).mono ?_; rintro e w2 ⟨rfl, hB2⟩; have H := Lib.hid hB2; clear hB2))
          go_ret2
          exact ⟨rfl, H.out⟩
        · have t2 : (al == 11) = false := beq_eq_false_iff_ne.2 h11
          clear ha h11
          go_enter Try.func26, Try.ntmps26
          go_wp2_with (first | (go_at_call 50; refine VA.out.mono ?_; rintro e w1 ⟨rfl, hB1⟩; have H := Lib.hid hB1; clear hB1) | (go_at_call 51; refine (AL.out _ H.out).mono ?_; rintro e w2 ⟨rfl, hB2⟩; have H := Lib.hid hB2; clear hB2))
          go_ret2
          exact ⟨rfl, H.out⟩
end Go.Proofs.Ytpaffocniniakaa
