/- DictSets: the walk. -/
import Derived.Test.YtpaffocniniakaaSetsP
import Derived.Test.YtpaffocniniakaaUns
import Derived.BigQuiet
import Derived.Deep.QuietTactic
import Derived.Deep.LoopGhost
import Derived.IntWalk
namespace Go.Proofs.Ytpaffocniniakaa
set_option linter.unusedVariables false
set_option linter.unusedSimpArgs false
open Go.RowKit

theorem sets_get {T key value : Bs} {ps : Prs} (h : readC T = some (setP ps key value)) : getC T [key] = (value, 0) := by
  unfold getC
  rw [if_neg (by simp), getL, h]
  simp only [get_set, getL]
theorem sets_uns {T key value : Bs} {ps : Prs} (h : readC T = some (setP ps key value)) (hn : (setP ps key value).length ≠ ps.length) (hl : ps.length ≤ 10000) (hw : wt (flatP ps) ≤ 65536) (hl2 : (flatP ps).length ≤ 10000) : unsC [key] T = (joinL (flatP ps), 0) := by
  rw [unsC, if_pos rfl, chgE, h]
  simp only [if_true]
  rw [set_back hn, joinE_ok hl2 (Nat.le_trans (join_len _) hw)]
theorem sets_none {s key value : Bs} (h : readC s = none) : setC s [key] value = ([], 11) := by
  unfold setC
  have hw : walkC s [key] = 11 := by unfold walkC; rw [h]
  rw [hw, if_neg (by decide)]
theorem sets_canon {s : Bs} {ps : Prs} (h : readC s = some ps) (hw : wt (flatP ps) ≤ 65536) (hl2 : (flatP ps).length ≤ 10000) : canonC s = (joinL (flatP ps), 0) := by
  unfold canonC
  rw [h]
  exact joinE_ok hl2 (Nat.le_trans (join_len _) hw)
/-- A path of one key, just made. -/
theorem one_new (k : Bs) (W : World) : Below W.heap.size W (W.alloc (.cells #[.string ⟨k.toArray⟩] 9)) ∧ TxtRow (W.alloc (.cells #[.string ⟨k.toArray⟩] 9)) (.slice (some ⟨W.heap.size, 0, none⟩) 1 1) [k] :=
  ⟨(Below.refl _ _).alloc (Nat.le_refl _) _, txt_new W [k] (by show 1 ≤ maxLen; decide)⟩
theorem flat_at {ps : Prs} {j : Nat} (h : j < ps.length) : (flatP ps)[2 * j]'(by rw [flatP_len]; omega) = ps[j].1 ∧ (flatP ps)[2 * j + 1]'(by rw [flatP_len]; omega) = ps[j].2 := by
  obtain ⟨h1, h2⟩ := flat_get ps j h
  rw [List.getElem?_eq_getElem (by rw [flatP_len]; omega)] at h1 h2
  exact ⟨Option.some.inj h1, Option.some.inj h2⟩
set_option maxRecDepth 100000 in
set_option maxHeartbeats 1600000 in
theorem dictSets_some (s key value : Bs) (ps : Prs) (hr : readC s = some ps) (hl : s.length + key.length + value.length ≤ 1500) (w : World) (hM : MaxIs w)
    (LG : Hid (Calls Try.prog 7 #[.slice (some ⟨w.heap.size, 0, none⟩) 3 3] (w.alloc (.cells #[.string ⟨s.toArray⟩, .string ⟨key.toArray⟩, .string ⟨value.toArray⟩] 9)) fun e w' => e = .returned (.bool false) ∧ Below w.heap.size w w'))
    (AW : Hid (∀ W, Below w.heap.size w W → Calls Try.prog 8 #[] W fun e w' => e = .returned (.bool true) ∧ Below w.heap.size w w')) :
    Calls Try.prog 5 #[.string ⟨s.toArray⟩, .string ⟨key.toArray⟩, .string ⟨value.toArray⟩] w fun e w' => e = .returned (.bool true) ∧ Below w.heap.size w w' := by
  obtain ⟨e1, e2, e3⟩ := sets_ok hr hl
  have hrl := read_len hr
  have hrw := read_wt hr
  have hfl := flatP_len ps
  have hfl' := flatP_len (setP ps key value)
  have hsl := set_len ps key value
  have eg := sets_get e2
  have ec := sets_canon hr (by omega) (by omega)
  obtain ⟨T, hT⟩ : ∃ T, T = joinL (flatP (setP ps key value)) := ⟨_, rfl⟩
  rw [← hT] at e1 e2 e3 eg
  have PR : Hid (∀ W, Below w.heap.size w W → Calls Try.prog 17 #[.string ⟨s.toArray⟩] W fun e w' => ∃ o c, e = .returned (.tuple #[.slice o (flatP ps).length c, .int .i64 0]) ∧ Below W.heap.size W w' ∧ TxtRow w' (.slice o (flatP ps).length c) (flatP ps)) := fun W _ => (rPairs_any s (by omega) W).mono fun e w' ⟨r, err, he, hb, h⟩ => by
    rcases h with ⟨h', _⟩ | ⟨ps', h', rfl, ho⟩
    · rw [hr] at h'; cases h'
    · rw [hr] at h'; cases h'
      obtain ⟨o, c, rfl⟩ := owns_slice ho
      exact ⟨o, c, he, hb, TxtRow.of_owns ho⟩
  have PT : Hid (∀ W, Below w.heap.size w W → Calls Try.prog 20 #[.string ⟨T.toArray⟩] W fun e w' => ∃ o c, e = .returned (.tuple #[.slice o (flatP (setP ps key value)).length c, .int .i64 0]) ∧ Below W.heap.size W w' ∧ TxtRow w' (.slice o (flatP (setP ps key value)).length c) (flatP (setP ps key value))) := fun W _ => (Pairs_any T e3 W).mono fun e w' ⟨r, err, he, hb, h⟩ => by
    rcases h with ⟨h', _⟩ | ⟨ps', h', rfl, ho⟩
    · rw [e2] at h'; cases h'
    · rw [e2] at h'; cases h'
      obtain ⟨o, c, rfl⟩ := owns_slice ho
      exact ⟨o, c, he, hb, TxtRow.of_owns ho⟩
  have SE : Hid (∀ W, Below w.heap.size w W → Calls Try.prog 18 #[.string ⟨s.toArray⟩, .slice (some ⟨W.heap.size, 0, none⟩) 1 1, .string ⟨value.toArray⟩] (W.alloc (.cells #[.string ⟨key.toArray⟩] 9)) fun e w' => e = .returned (.tuple #[.string ⟨T.toArray⟩, .int .i64 0]) ∧ Below W.heap.size W w') := fun W hB => by
    obtain ⟨h1, h2⟩ := one_new key W
    have h := Set_any s [key] value _ _ (hM.below (hB.trans (h1.mono hB.size)) hM.pos) (by omega) (fun k hk => by simp at hk; subst hk; omega) h2
    rw [e1] at h
    exact h.mono fun e w' ⟨h3, h4⟩ => ⟨h3, h1.trans (h4.mono h1.size)⟩
  have GE : Hid (∀ W, Below w.heap.size w W → Calls Try.prog 19 #[.string ⟨T.toArray⟩, .slice (some ⟨W.heap.size, 0, none⟩) 1 1] (W.alloc (.cells #[.string ⟨key.toArray⟩] 9)) fun e w' => e = .returned (.tuple #[.string ⟨value.toArray⟩, .int .i64 0]) ∧ Below W.heap.size W w') := fun W hB => by
    obtain ⟨h1, h2⟩ := one_new key W
    have h := Get_any T [key] _ _ (hM.below (hB.trans (h1.mono hB.size)) hM.pos) e3 (fun k hk => by simp at hk; subst hk; omega) h2
    rw [eg] at h
    exact h.mono fun e w' ⟨h3, h4⟩ => ⟨h3, h1.trans (h4.mono h1.size)⟩
  have UN : Hid (¬ (setP ps key value).length = ps.length → ∀ W, Below w.heap.size w W → Calls Try.prog 21 #[.string ⟨T.toArray⟩, .slice (some ⟨W.heap.size, 0, none⟩) 1 1] (W.alloc (.cells #[.string ⟨key.toArray⟩] 9)) fun e w' => e = .returned (.tuple #[.string ⟨(joinL (flatP ps)).toArray⟩, .int .i64 0]) ∧ Below w.heap.size w w') := fun hn W hB => by
    obtain ⟨h1, h2⟩ := one_new key W
    have hB2 := hB.trans (h1.mono hB.size)
    have h := Unset_any [key] T _ _ (hM.below hB2 hM.pos) e3 (fun k hk => by simp at hk; subst hk; omega) h2
    rw [sets_uns e2 hn (by omega) (by omega) (by omega)] at h
    exact h.mono fun e w' ⟨h3, h4⟩ => ⟨h3, hB2.trans (h4.mono hB2.size)⟩
  have CN : Hid (∀ W, Below w.heap.size w W → Calls Try.prog 16 #[.string ⟨s.toArray⟩] W fun e w' => e = .returned (.tuple #[.string ⟨(joinL (flatP ps)).toArray⟩, .int .i64 0]) ∧ Below w.heap.size w w') := fun W hB => by
    have h := rCanonical_any s (by omega) W
    rw [ec] at h
    exact h.mono fun e w' ⟨h3, h4⟩ => ⟨h3, hB.trans (h4.mono hB.size)⟩
  have KE : Hid (∀ j (h : j < ps.length), ∃ h' : j < (setP ps key value).length, (setP ps key value)[j].1 = ps[j].1 ∧ (ps[j].1 = key ∨ (setP ps key value)[j].2 = ps[j].2)) := fun j h => set_keeps ps key value j h
  clear e1 e2 e3 eg ec hT hr hrw hM
  generalize joinL (flatP ps) = J at *
  obtain ⟨qs, hqs⟩ : ∃ qs, setP ps key value = qs := ⟨_, rfl⟩
  rw [hqs] at PT UN KE hfl' hsl
  clear hqs
  obtain ⟨n0, hn0⟩ : ∃ n0, (flatP ps).length = n0 := ⟨_, rfl⟩
  obtain ⟨n1, hn1⟩ : ∃ n1, (flatP qs).length = n1 := ⟨_, rfl⟩
  rw [hn0] at PR hfl
  rw [hn1] at PT hfl'
  have HN := Lib.hid (And.intro hn0 (And.intro hn1 (And.intro hfl (And.intro hfl' hsl))))
  have b1 : ¬ n1 < n0 := by omega
  have b0 : decide (n1 < n0) = false := decide_eq_false_iff_not.2 b1
  have hb2 : n1 ≤ 100000 := by omega
  have hb3 : n0 ≤ n1 := by omega
  clear hn0 hn1 hfl hfl' hsl hl hrl
  go_enter Try.func5, Try.ntmps5
  go_wp2_with (first | (go_at_call 7; refine LG.out.mono ?_; rintro e w1 ⟨rfl, hB1⟩; have H1 := Lib.hid hB1; clear hB1) | (go_at_call 17; refine (PR.out _ H1.out).mono ?_; rintro e w2 ⟨o0, c0, rfl, hB2, ht0⟩; have H2 := Lib.hid (And.intro (H1.out.trans (hB2.mono H1.out.size)) ht0); clear hB2 ht0) | (go_at_call 18; refine (SE.out _ H2.out.1).mono ?_; rintro e w3 ⟨rfl, hB3⟩; have H3 := Lib.hid (And.intro (H2.out.1.trans (hB3.mono H2.out.1.size)) (H2.out.2.below hB3)); clear hB3) | (go_at_call 19; refine (GE.out _ H3.out.1).mono ?_; rintro e w4 ⟨rfl, hB4⟩; have H4 := Lib.hid (And.intro (H3.out.1.trans (hB4.mono H3.out.1.size)) (H3.out.2.below hB4)); clear hB4) | (go_at_call 20; refine (PT.out _ H4.out.1).mono ?_; rintro e w5 ⟨o1, c1, rfl, hB5, ht1⟩; have H5 := Lib.hid (And.intro (H4.out.1.trans (hB5.mono H4.out.1.size)) (And.intro (H4.out.2.below hB5) ht1)); clear hB5 ht1))
  go_loopg [15, 82, 84] n0 (fun g v _ _ wr => ∃ j : Nat, 2 * j + g = n0 ∧ v = .int .i64 ((2 * j : Nat) : Int) ∧ Below w5.heap.size w5 wr)
  case atStart => exact ⟨0, by omega, rfl, Below.refl _ _⟩
  case round =>
    obtain ⟨j, hjg, rfl, hb⟩ := hrel
    obtain ⟨q1, q2, q3, q4, q5⟩ := HN.out
    have hbw : Hid (Below w.heap.size w wr) := H5.out.1.trans (hb.mono H5.out.1.size)
    obtain ⟨jj, hjj⟩ : ∃ jj, 2 * j = jj := ⟨_, rfl⟩
    by_cases hlt : j < ps.length
    · obtain ⟨hlt', hk, hv⟩ := KE.out j hlt
      obtain ⟨q6, hc0, hcm0, h0⟩ := (H5.out.2.1.below hb).at_
      obtain ⟨q7, hc1, hcm1, h1⟩ := (H5.out.2.2.below hb).at_
      obtain ⟨g0, f0, rfl, hl0, hc00⟩ := h0 (2 * j) (by omega)
      obtain ⟨g0', f0', e, _, hc01⟩ := h0 (2 * j + 1) (by omega)
      cases e
      obtain ⟨g1, f1, rfl, hl1, hc10⟩ := h1 (2 * j) (by omega)
      obtain ⟨g1', f1', e, _, hc11⟩ := h1 (2 * j + 1) (by omega)
      cases e
      rw [(flat_at hlt).1] at hc00
      rw [(flat_at hlt).2] at hc01
      rw [(flat_at hlt').1, hk] at hc10
      rw [(flat_at hlt').2] at hc11
      generalize ps[j].1 = k at *
      generalize ps[j].2 = x at *
      generalize qs[j].2 = y at *
      rw [hjj] at hc00 hc01 hc10 hc11 ⊢
      have hA : wr.cell? ⟨g0, f0 + jj, none⟩ = some (.string ⟨k.toArray⟩) := hc00
      have hB : wr.cell? ⟨g0, f0 + (jj + 1), none⟩ = some (.string ⟨x.toArray⟩) := hc01
      have hC : wr.cell? ⟨g1, f1 + jj, none⟩ = some (.string ⟨k.toArray⟩) := hc10
      have hD : wr.cell? ⟨g1, f1 + (jj + 1), none⟩ = some (.string ⟨y.toArray⟩) := hc11
      have i1 : jj < n0 := by omega
      have i2 : jj < n1 := by omega
      have i3 : (0 : Int) ≤ (jj : Int) + 1 := by omega
      have i4 : (jj : Int) + 1 < (n0 : Int) := by omega
      have i5 : (jj : Int) + 1 < (n1 : Int) := by omega
      have i6 : jj ≤ 100000 := by omega
      have hj5 : IntKind.i64.wrap ((jj : Int) + 1) = (jj : Int) + 1 := IntWalk.i64_in _ (by omega)
      have HJ := Lib.hid (And.intro hjj hjg)
      have HB := Lib.hid hb
      clear hjj hjg q1 q2 q3 q4 q5 q6 q7 h0 h1 hc00 hc01 hc10 hc11 hk hb hcm0 hcm1 hlt hlt'
      by_cases hkk : k = key
      · subst hkk
        go_wp2_with fail
        go_quiet (fail)
        go_wp2
        go_roundg (gk - 2)
        case measure => have := HJ.out; omega
        case rel => exact ⟨j + 1, by have := HJ.out; omega, by have := HJ.out; rw [show 2 * (j + 1) = jj + 2 by omega]; go_num, below_drewN HB.out nq⟩
      · have hxy : x = y := (hv.resolve_left hkk).symm
        subst hxy
        have hne : (⟨k.toArray⟩ : ByteArray) ≠ ⟨key.toArray⟩ := fun e => hkk (by simpa using e)
        have hk2 : (k == key) = false := beq_eq_false_iff_ne.2 hkk
        have hk3 : decide (k = key) = false := decide_eq_false_iff_not.2 hkk
        clear hv
        go_wp2_with fail
        go_quiet (fail)
        go_wp2
        go_roundg (gk - 2)
        case measure => have := HJ.out; omega
        case rel => exact ⟨j + 1, by have := HJ.out; omega, by have := HJ.out; rw [show 2 * (j + 1) = jj + 2 by omega]; go_num, below_drewN HB.out nq⟩
    · obtain rfl : 2 * j = n0 := by omega
      have t0 : decide (((2 * j : Nat) : Int) + 1 < ((2 * j : Nat) : Int)) = false := by rw [decide_eq_false_iff_not]; omega
      have HJ := Lib.hid hjj
      have AW2 := Lib.hid (AW.out wr hbw.out)
      rw [hjj] at t0 hb3 b1 b0 q1 q3 ⊢
      by_cases heq : n1 = jj
      · have t1 : ((n1 : Int) == (jj : Int)) = true := by rw [beq_iff_eq]; omega
        clear q1 q2 q3 q4 q5 hjg hjj b1 b0 hb
        subst heq
        go_wp2_with (go_at_call 8; refine AW2.out.mono ?_; rintro e w6 ⟨rfl, hB6⟩; have H6 := Lib.hid hB6; clear hB6)
        go_ret
        exact ⟨rfl, H6.out⟩
      · have t1 : ((n1 : Int) == (jj : Int)) = false := by rw [beq_eq_false_iff_ne]; omega
        have UN2 := Lib.hid (UN.out (by omega))
        clear q1 q2 q3 q4 q5 hjg hjj b1 b0 hb heq
        go_wp2_with (first | (go_at_call 21; refine (UN2.out _ hbw.out).mono ?_; rintro e w6 ⟨rfl, hB6⟩; have H6 := Lib.hid hB6; clear hB6) | (go_at_call 16; refine (CN.out _ H6.out).mono ?_; rintro e w7 ⟨rfl, hB7⟩; have H7 := Lib.hid hB7; clear hB7) | (go_at_call 8; refine (AW.out _ H7.out).mono ?_; rintro e w8 ⟨rfl, hB8⟩; have H8 := Lib.hid hB8; clear hB8))
        go_ret
        exact ⟨rfl, H8.out⟩
set_option maxRecDepth 100000 in
set_option maxHeartbeats 1600000 in
theorem dictSets_walk (s key value : Bs) (ha : s.length ≤ 1000000000000000) (hb : key.length ≤ 1000000000000000) (hc : value.length ≤ 1000000000000000) (w : World) (hM : MaxIs w) :
    Calls Try.prog 5 #[.string ⟨s.toArray⟩, .string ⟨key.toArray⟩, .string ⟨value.toArray⟩] w fun e w' => e = .returned (.bool true) ∧ Below w.heap.size w w' := by
  have AW : Hid (∀ W, Below w.heap.size w W → Calls Try.prog 8 #[] W fun e w' => e = .returned (.bool true) ∧ Below w.heap.size w w') := fun W hB => (awake_any W (hM.below hB hM.pos)).mono fun e w' ⟨h1, h2⟩ => ⟨h1, hB.trans (h2.mono hB.size)⟩
  have hB1 : Below w.heap.size w (w.alloc (.cells #[.string ⟨s.toArray⟩, .string ⟨key.toArray⟩, .string ⟨value.toArray⟩] 9)) := (Below.refl _ _).alloc (Nat.le_refl _) _
  have LG : Hid (Calls Try.prog 7 #[.slice (some ⟨w.heap.size, 0, none⟩) 3 3] (w.alloc (.cells #[.string ⟨s.toArray⟩, .string ⟨key.toArray⟩, .string ⟨value.toArray⟩] 9)) fun e w' => e = .returned (.bool (decide (1500 < longS [s, key, value]))) ∧ Below w.heap.size w w') :=
    (Long_any [s, key, value] _ _ (by simp [longS]; omega) (txt_new w [s, key, value] (by show 3 ≤ maxLen; decide))).mono fun e w' ⟨h1, h2⟩ => ⟨h1, h2 ▸ hB1⟩
  have hls : longS [s, key, value] = s.length + key.length + value.length + 3 := by simp only [longS]; omega
  by_cases hL : 1500 < longS [s, key, value]
  · rw [decide_eq_true hL] at LG
    clear hL hls ha hb hc hM hB1
    go_enter Try.func5, Try.ntmps5
    go_wp2_with (first | (go_at_call 7; refine LG.out.mono ?_; rintro e w1 ⟨rfl, hB1⟩; have H1 := Lib.hid hB1; clear hB1) | (go_at_call 8; refine (AW.out _ H1.out).mono ?_; rintro e w2 ⟨rfl, hB2⟩; have H2 := Lib.hid hB2; clear hB2))
    go_ret
    exact ⟨rfl, H2.out⟩
  · rw [decide_eq_false hL] at LG
    cases hr : readC s with
    | some ps => exact dictSets_some s key value ps hr (by omega) w hM LG AW
    | none =>
      have PR : Hid (∀ W, Below w.heap.size w W → Calls Try.prog 17 #[.string ⟨s.toArray⟩] W fun e w' => e = .returned (.tuple #[.slice none 0 0, .int .i64 11]) ∧ Below w.heap.size w w') := fun W hB => (rPairs_any s (by omega) W).mono fun e w' ⟨r, err, he, hb, h⟩ => by
        rcases h with ⟨_, rfl, rfl⟩ | ⟨ps', h', rfl, ho⟩
        · exact ⟨he, hB.trans (hb.mono hB.size)⟩
        · rw [hr] at h'; cases h'
      have SE : Hid (∀ W, Below w.heap.size w W → Calls Try.prog 18 #[.string ⟨s.toArray⟩, .slice (some ⟨W.heap.size, 0, none⟩) 1 1, .string ⟨value.toArray⟩] (W.alloc (.cells #[.string ⟨key.toArray⟩] 9)) fun e w' => e = .returned (.tuple #[.string ⟨#[]⟩, .int .i64 11]) ∧ Below w.heap.size w w') := fun W hB => by
        obtain ⟨h1, h2⟩ := one_new key W
        have hB2 := hB.trans (h1.mono hB.size)
        have h := Set_any s [key] value _ _ (hM.below hB2 hM.pos) (by omega) (fun k hk => by simp at hk; subst hk; omega) h2
        rw [sets_none hr] at h
        exact h.mono fun e w' ⟨h3, h4⟩ => ⟨h3, hB2.trans (h4.mono hB2.size)⟩
      clear hL hls ha hb hc hM hB1 hr
      go_enter Try.func5, Try.ntmps5
      go_wp2_with (first | (go_at_call 7; refine LG.out.mono ?_; rintro e w1 ⟨rfl, hB1⟩; have H1 := Lib.hid hB1; clear hB1) | (go_at_call 17; refine (PR.out _ H1.out).mono ?_; rintro e w2 ⟨rfl, hB2⟩; have H2 := Lib.hid hB2; clear hB2) | (go_at_call 18; refine (SE.out _ H2.out).mono ?_; rintro e w3 ⟨rfl, hB3⟩; have H3 := Lib.hid hB3; clear hB3) | (go_at_call 8; refine (AW.out _ H3.out).mono ?_; rintro e w4 ⟨rfl, hB4⟩; have H4 := Lib.hid hB4; clear hB4))
      go_ret
      exact ⟨rfl, H4.out⟩
end Go.Proofs.Ytpaffocniniakaa
