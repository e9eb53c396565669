/- The reference's Alike. -/
import Derived.Test.YtpaffocniniakaaMergeR
namespace Go.Proofs.Ytpaffocniniakaa
set_option linter.unusedVariables false
set_option linter.unusedSimpArgs false
open Go.RowKit

theorem find_get : ∀ {ps : Prs} {k : Bs} {j : Nat} (h : findP ps k = some j) (hj : j < ps.length), getP ps k = some ps[j].2
  | p :: r, k, j, h, hj => by
    rw [findP] at h
    rw [getP]
    by_cases e : p.1 = k
    · rw [if_pos e] at h; cases h; rw [if_pos e]; rfl
    · rw [if_neg e] at h
      rw [if_neg e]
      cases hf : findP r k with
      | none => rw [hf] at h; cases h
      | some i =>
        rw [hf] at h; cases h
        rw [find_get hf (by simpa using hj)]; rfl
theorem find_none : ∀ {ps : Prs} {k : Bs}, findP ps k = none → getP ps k = none
  | [], k, _ => rfl
  | p :: r, k, h => by
    rw [findP] at h
    rw [getP]
    by_cases e : p.1 = k
    · rw [if_pos e] at h; cases h
    · rw [if_neg e] at h
      rw [if_neg e]
      cases hf : findP r k with
      | none => exact find_none hf
      | some i => rw [hf] at h; cases h
theorem told_take {y x : Prs} {j : Nat} (h : j < x.length) : toldP y (x.take (j + 1)) = (toldP y (x.take j) && (getP y x[j].1 == some x[j].2)) := by
  rw [List.take_succ_eq_append_getElem h, toldP_snoc]
theorem told_no {y x : Prs} {j : Nat} (h : j < x.length) (hn : (getP y x[j].1 == some x[j].2) = false) : toldP y x = false := by
  have : toldP y (x.take (j + 1)) = false := by rw [told_take h, hn, Bool.and_false]
  unfold toldP at *
  rw [← List.take_append_drop (j + 1) x, List.all_append, this]; rfl
set_option maxRecDepth 100000 in
set_option maxHeartbeats 1600000 in
theorem rAlike_no (a b : Bs) (ha : a.length ≤ 19999) (hb : b.length ≤ 19999) (h : (readC a = none) ∨ (readC b = none) ∨ ∃ x y, readC a = some x ∧ readC b = some y ∧ x.length ≠ y.length) (w : World) :
    Calls Try.prog 15 #[.string ⟨a.toArray⟩, .string ⟨b.toArray⟩] w fun e w' => e = .returned (.bool false) ∧ Below w.heap.size w w' := by
  have key : ∃ (nx ny : Nat) (e1 e2 : Int), Hid (Calls Try.prog 17 #[.string ⟨a.toArray⟩] w fun e w' => ∃ (o : Option Addr) (c : Nat), e = .returned (.tuple #[.slice o nx c, .int .i64 e1]) ∧ Below w.heap.size w w') ∧ (∀ W, Calls Try.prog 17 #[.string ⟨b.toArray⟩] W fun e w' => ∃ (o : Option Addr) (c : Nat), e = .returned (.tuple #[.slice o ny c, .int .i64 e2]) ∧ Below W.heap.size W w') ∧ ((e1 = 11) ∨ (e1 = 0 ∧ e2 = 11) ∨ (e1 = 0 ∧ e2 = 0 ∧ ((nx : Int) == (ny : Int)) = false)) := by
    have one : ∀ (s : Bs) (hs : s.length ≤ 19999), ∃ (n0 : Nat) (e0 : Int), (∀ W, Calls Try.prog 17 #[.string ⟨s.toArray⟩] W fun e w' => ∃ (o : Option Addr) (c : Nat), e = .returned (.tuple #[.slice o n0 c, .int .i64 e0]) ∧ Below W.heap.size W w') ∧ ((readC s = none ∧ e0 = 11) ∨ ∃ ps, readC s = some ps ∧ e0 = 0 ∧ n0 = (flatP ps).length) := fun s hs => by
      cases hr : readC s with
      | none =>
        refine ⟨0, 11, fun W => (rPairs_any s hs W).mono fun e w' ⟨r, err, he, hb, h⟩ => ?_, .inl ⟨rfl, rfl⟩⟩
        rcases h with ⟨_, rfl, rfl⟩ | ⟨ps, h', _⟩
        · exact ⟨none, 0, he, hb⟩
        · rw [hr] at h'; cases h'
      | some ps =>
        refine ⟨_, 0, fun W => (rPairs_any s hs W).mono fun e w' ⟨r, err, he, hb, h⟩ => ?_, .inr ⟨ps, rfl, rfl, rfl⟩⟩
        rcases h with ⟨h', _⟩ | ⟨ps', h', rfl, ho⟩
        · rw [hr] at h'; cases h'
        · rw [hr] at h'; cases h'
          obtain ⟨o1, c1, rfl⟩ := owns_slice ho
          exact ⟨o1, c1, he, hb⟩
    obtain ⟨n1, e1, A1, A2⟩ := one a ha
    obtain ⟨n2, e2, B1, B2⟩ := one b hb
    refine ⟨n1, n2, e1, e2, A1 w, B1, ?_⟩
    rcases A2 with ⟨_, rfl⟩ | ⟨x, hx, rfl, rfl⟩
    · exact .inl rfl
    · rcases B2 with ⟨_, rfl⟩ | ⟨y, hy, rfl, rfl⟩
      · exact .inr (.inl ⟨rfl, rfl⟩)
      · refine .inr (.inr ⟨rfl, rfl, ?_⟩)
        rcases h with h | h | ⟨x', y', h1, h2, h3⟩
        · rw [hx] at h; cases h
        · rw [hy] at h; cases h
        · rw [hx] at h1; rw [hy] at h2; cases h1; cases h2
          rw [beq_eq_false_iff_ne, flatP_len, flatP_len]; omega
  obtain ⟨nx, ny, e1, e2, PA, PB, hcase⟩ := key
  have PB' := Lib.hid PB
  clear h PB
  rcases hcase with rfl | ⟨rfl, rfl⟩ | ⟨rfl, rfl, t1⟩
  all_goals
    go_enter Try.func15, Try.ntmps15
    go_wp2_with (first | (go_at_call 17; refine PA.out.mono ?_; rintro e w1 ⟨o1, c1, rfl, hB1⟩; have H1 := Lib.hid hB1; clear hB1 PA) | (go_at_call 17; refine (PB'.out _).mono ?_; rintro e w2 ⟨o2, c2, rfl, hB2⟩; have H2 := Lib.hid hB2; clear hB2))
    go_ret
    exact ⟨rfl, H1.out.trans (H2.out.mono H1.out.size)⟩
set_option maxRecDepth 100000 in
set_option maxHeartbeats 1600000 in
theorem rAlike_yes (a b : Bs) (ha : a.length ≤ 19999) (hb : b.length ≤ 19999) {x y : Prs} (hx : readC a = some x) (hy : readC b = some y) (hxy : x.length = y.length) (w : World) :
    Calls Try.prog 15 #[.string ⟨a.toArray⟩, .string ⟨b.toArray⟩] w fun e w' => e = .returned (.bool (toldP y x)) ∧ Below w.heap.size w w' := by
  have hxl := read_len hx
  have hfx := flatP_len x
  have hfy := flatP_len y
  obtain ⟨n, hn⟩ : ∃ n, (flatP x).length = n := ⟨_, rfl⟩
  have hny : (flatP y).length = n := by omega
  have PA : Hid (Calls Try.prog 17 #[.string ⟨a.toArray⟩] w fun e w' => ∃ o c, e = .returned (.tuple #[.slice o n c, .int .i64 0]) ∧ Below w.heap.size w w' ∧ TxtRow w' (.slice o n c) (flatP x)) := (rPairs_any a ha w).mono fun e w' ⟨r, err, he, hb, h⟩ => by
    rcases h with ⟨h', _⟩ | ⟨ps', h', rfl, ho⟩
    · rw [hx] at h'; cases h'
    · rw [hx] at h'; cases h'
      rw [hn] at ho
      obtain ⟨o1, c1, rfl⟩ := owns_slice ho
      exact ⟨o1, c1, he, hb, TxtRow.of_owns (by rw [hn]; exact ho)⟩
  have PB : Hid (∀ W, Calls Try.prog 17 #[.string ⟨b.toArray⟩] W fun e w' => ∃ o c, e = .returned (.tuple #[.slice o n c, .int .i64 0]) ∧ Below W.heap.size W w' ∧ TxtRow w' (.slice o n c) (flatP y)) := fun W => (rPairs_any b hb W).mono fun e w' ⟨r, err, he, hb, h⟩ => by
    rcases h with ⟨h', _⟩ | ⟨ps', h', rfl, ho⟩
    · rw [hy] at h'; cases h'
    · rw [hy] at h'; cases h'
      rw [hny] at ho
      obtain ⟨o1, c1, rfl⟩ := owns_slice ho
      exact ⟨o1, c1, he, hb, TxtRow.of_owns (by rw [hny]; exact ho)⟩
  have t1 : ((n : Int) == (n : Int)) = true := by simp
  obtain ⟨res, hres⟩ : ∃ res, toldP y x = res := ⟨_, rfl⟩
  rw [hres]
  have HRES := Lib.hid hres
  clear hres
  have HN := Lib.hid (And.intro hn (And.intro hny (And.intro hfx (And.intro hfy (And.intro hxl (And.intro hxy ha))))))
  clear hn hny hfx hfy hxl hx hy ha hb hxy
  go_enter Try.func15, Try.ntmps15
  go_wp2_with (first | (go_at_call 17; refine PA.out.mono ?_; rintro e w1 ⟨o1, c1, rfl, hB1, hT1⟩; have H1 := Lib.hid (And.intro hB1 hT1); clear hB1 hT1 PA) | (go_at_call 17; refine (PB.out _).mono ?_; rintro e w2 ⟨o2, c2, rfl, hB2, hT2⟩; have H2 := Lib.hid (And.intro (H1.out.1.trans (hB2.mono H1.out.1.size)) (And.intro (H1.out.2.below hB2) hT2)); clear hB2 hT2))
  go_loopg [9, 10] n (fun g v _ wr => ∃ j : Nat, 2 * j + g = n ∧ v = .int .i64 ((2 * j : Nat) : Int) ∧ Below w2.heap.size w2 wr ∧ Hid (toldP y (x.take j) = true))
  case atStart => exact ⟨0, by omega, rfl, Below.refl _ _, rfl⟩
  case round =>
    obtain ⟨j, hjg, rfl, hb, HI⟩ := hrel
    obtain ⟨q1, q2, q3, q4, q5, q6, q7⟩ := HN.out
    have hbw : Hid (Below w.heap.size w wr) := H2.out.1.trans (hb.mono H2.out.1.size)
    obtain ⟨jj, hjj⟩ : ∃ jj, 2 * j = jj := ⟨_, rfl⟩
    by_cases hlt : j < x.length
    · have HTX := (H2.out.2.1.below hb)
      have HTY := (H2.out.2.2.below hb)
      obtain ⟨z1, hc0, hcm0, h0⟩ := HTX.at_
      obtain ⟨z2, hc1, hcm1, h1⟩ := HTY.at_
      obtain ⟨g0, f0, rfl, hl0, hc00⟩ := h0 (2 * j) (by omega)
      obtain ⟨g0', f0', e, _, hc01⟩ := h0 (2 * j + 1) (by omega)
      cases e
      rw [(flat_at' hlt).1] at hc00
      rw [(flat_at' hlt).2] at hc01
      have FI : Hid (Calls Try.prog 40 #[.slice o2 n c2, .string ⟨x[j].1.toArray⟩] wr fun e w' => e = .returned (.int .i64 (findI y x[j].1)) ∧ wr = w') := rfind_any _ y x[j].1 wr HTY (by omega)
      have HTK : Hid (toldP y (x.take (j + 1)) = (toldP y (x.take j) && (getP y x[j].1 == some x[j].2))) := told_take hlt
      have HNO : Hid ((getP y x[j].1 == some x[j].2) = false → toldP y x = false) := fun h => told_no hlt h
      have FG : Hid (∀ i (h : i < y.length), findP y x[j].1 = some i → getP y x[j].1 = some y[i].2) := fun i h h' => find_get h' h
      have FN : Hid (findP y x[j].1 = none → getP y x[j].1 = none) := find_none
      generalize x[j].1 = k at *
      generalize x[j].2 = u at *
      rw [hjj] at hc00 hc01 ⊢
      have hA : wr.cell? ⟨g0, f0 + jj, none⟩ = some (.string ⟨k.toArray⟩) := hc00
      have hB : wr.cell? ⟨g0, f0 + (jj + 1), none⟩ = some (.string ⟨u.toArray⟩) := hc01
      have i1 : jj < n := by omega
      have i3 : (0 : Int) ≤ (jj : Int) + 1 := by omega
      have i4 : (jj : Int) + 1 < (n : Int) := by omega
      have i6 : jj ≤ 100000 := by omega
      have i7 : n ≤ 100000 := by omega
      have hj5 : IntKind.i64.wrap ((jj : Int) + 1) = (jj : Int) + 1 := IntWalk.i64_in _ (by omega)
      have t0 : decide ((jj : Int) < (n : Int)) = true := by rw [decide_eq_true_eq]; omega
      have HJ := Lib.hid (And.intro hjj hjg)
      have HB := Lib.hid hb
      cases hf : findP y k with
      | none =>
        have hfi : findI y k = -1 := by unfold findI; rw [hf]
        have hres : toldP y x = false := HNO.out (by rw [FN.out hf]; rfl)
        rw [hfi] at FI
        rw [HRES.out] at hres
        subst hres
        clear hjj hjg q1 q2 q3 q4 q5 q6 q7 z1 z2 h0 h1 hc00 hc01 hb hcm0 hcm1 hlt hf hfi HTX HTY
        go_wp2_with (go_at_call 40; refine FI.out.mono ?_; rintro e w3 ⟨rfl, rfl⟩)
        go_quiet (fail)
        go_wp2
        go_ret
        exact ⟨rfl, below_drewN hbw.out nq⟩
      | some i =>
        obtain ⟨hil, _⟩ := find_lt hf
        have hfi : findI y k = ((2 * i + 1 : Nat) : Int) := by unfold findI; rw [hf]
        have hg := FG.out i hil hf
        obtain ⟨g1, f1, rfl, hl1, hc11⟩ := h1 (2 * i + 1) (by omega)
        rw [(flat_at' hil).2] at hc11
        generalize y[i].2 = u2 at *
        rw [hfi] at FI
        have i8 : 2 * i + 1 < n := by omega
        obtain ⟨m, hm⟩ : ∃ m, 2 * i + 1 = m := ⟨_, rfl⟩
        rw [hm] at FI hc11 i8
        have hC : wr.cell? ⟨g1, f1 + m, none⟩ = some (.string ⟨u2.toArray⟩) := hc11
        have t3 : decide ((m : Int) < 0) = false := by rw [decide_eq_false_iff_not]; omega
        by_cases hu : u2 = u
        · subst hu
          have HT : Hid (toldP y (x.take (j + 1)) = true) := by show _ = _; rw [HTK.out, HI.out, hg]; simp
          clear hjj hjg q1 q2 q3 q4 q5 q6 q7 z1 z2 h0 h1 hc00 hc01 hc11 hb hcm0 hcm1 hlt hf hfi hg hm HTX HTY
          go_wp2_with (go_at_call 40; refine FI.out.mono ?_; rintro e w3 ⟨rfl, rfl⟩)
          go_quiet (fail)
          go_wp2
          go_roundg (gk - 2)
          case measure => have := HJ.out; omega
          case rel => exact ⟨j + 1, by have := HJ.out; omega, by have := HJ.out; rw [show 2 * (j + 1) = jj + 2 by omega]; go_num, below_drewN HB.out nq, HT⟩
        · have hres : toldP y x = false := HNO.out (by rw [hg, beq_eq_false_iff_ne]; exact fun e => hu (Option.some.inj e))
          rw [HRES.out] at hres
          subst hres
          have hne : (⟨u2.toArray⟩ : ByteArray) ≠ ⟨u.toArray⟩ := fun e => hu (by simpa using e)
          have hk2 : (u2 == u) = false := beq_eq_false_iff_ne.2 hu
          have hk3 : decide (u2 = u) = false := decide_eq_false_iff_not.2 hu
          clear hjj hjg q1 q2 q3 q4 q5 q6 q7 z1 z2 h0 h1 hc00 hc01 hc11 hb hcm0 hcm1 hlt hf hfi hg hm HTX HTY
          go_wp2_with (go_at_call 40; refine FI.out.mono ?_; rintro e w3 ⟨rfl, rfl⟩)
          go_quiet (fail)
          go_wp2
          go_ret
          exact ⟨rfl, below_drewN hbw.out nq⟩
    · have hjl : j = x.length := by omega
      have hres : toldP y x = true := by
        have := HI.out
        rw [hjl, List.take_length] at this
        exact this
      rw [HRES.out] at hres
      subst hres
      obtain rfl : jj = n := by omega
      have t0 : decide ((jj : Int) < (jj : Int)) = false := by rw [decide_eq_false_iff_not]; omega
      rw [hjj]
      clear hjj hjg q1 q2 q3 q4 q5 q6 q7 hb hlt hjl
      go_wp2_with fail
      go_ret
      exact ⟨rfl, hbw.out⟩
theorem rAlike_any (a b : Bs) (ha : a.length ≤ 19999) (hb : b.length ≤ 19999) (w : World) :
    Calls Try.prog 15 #[.string ⟨a.toArray⟩, .string ⟨b.toArray⟩] w fun e w' => e = .returned (.bool (alikeC a b)) ∧ Below w.heap.size w w' := by
  unfold alikeC
  cases hx : readC a with
  | none => exact rAlike_no a b ha hb (.inl hx) w
  | some x =>
    cases hy : readC b with
    | none => exact rAlike_no a b ha hb (.inr (.inl hy)) w
    | some y =>
      by_cases hl : x.length = y.length
      · have h := rAlike_yes a b ha hb hx hy hl w
        have e : alikeP x y = toldP y x := by unfold alikeP toldP; rw [beq_iff_eq.2 hl, Bool.true_and]
        simp only [e]
        exact h
      · have h := rAlike_no a b ha hb (.inr (.inr ⟨x, y, hx, hy, hl⟩)) w
        have e : alikeP x y = false := by unfold alikeP; rw [beq_eq_false_iff_ne.2 hl, Bool.false_and]
        simp only [e]
        exact h
end Go.Proofs.Ytpaffocniniakaa
