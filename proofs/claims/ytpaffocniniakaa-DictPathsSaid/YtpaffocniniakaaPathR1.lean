/- The reference's Valid, Get, Exists, along; Valid, Exists. -/
import Derived.Test.YtpaffocniniakaaMergeA
import Derived.Test.YtpaffocniniakaaBookD
namespace Go.Proofs.Ytpaffocniniakaa
set_option linter.unusedVariables false
set_option linter.unusedSimpArgs false
open Go.RowKit

theorem rp_none {s : Bs} (hs : s.length ≤ 19999) (hr : readC s = none) (W : World) : Calls Try.prog 17 #[.string ⟨s.toArray⟩] W fun e w' => e = .returned (.tuple #[.slice none 0 0, .int .i64 11]) ∧ Below W.heap.size W w' := (rPairs_any s hs W).mono fun e w' ⟨r, err, he, hb, h⟩ => by
  rcases h with ⟨_, rfl, rfl⟩ | ⟨ps', h', _⟩
  · exact ⟨he, hb⟩
  · rw [hr] at h'; cases h'
theorem rp_some {s : Bs} {ps : Prs} (hs : s.length ≤ 19999) (hr : readC s = some ps) (W : World) : Calls Try.prog 17 #[.string ⟨s.toArray⟩] W fun e w' => ∃ o c, e = .returned (.tuple #[.slice o (flatP ps).length c, .int .i64 0]) ∧ Below W.heap.size W w' ∧ TxtRow w' (.slice o (flatP ps).length c) (flatP ps) := (rPairs_any s hs W).mono fun e w' ⟨r, err, he, hb, h⟩ => by
  rcases h with ⟨h', _⟩ | ⟨ps', h', rfl, ho⟩
  · rw [hr] at h'; cases h'
  · rw [hr] at h'; cases h'
    obtain ⟨o, c, rfl⟩ := owns_slice ho
    exact ⟨o, c, he, hb, TxtRow.of_owns ho⟩
theorem valC_some {ps : Prs} {k v : Bs} (h : getP ps k = some v) : valC ps k = v := by unfold valC; rw [h]; rfl
/-- What 'find' tells, and what lies there. -/
theorem find_lies {W : World} {o : Option Addr} {n c : Nat} {ps : Prs} (k : Bs) (ht : TxtRow W (.slice o n c) (flatP ps)) :
    (getP ps k = none ∧ findI ps k = -1) ∨ ∃ m b off, getP ps k = some (valC ps k) ∧ findI ps k = ((m : Nat) : Int) ∧ m < n ∧ o = some ⟨b, off, none⟩ ∧ b < W.heap.size ∧ W.cell? ⟨b, off + m, none⟩ = some (.string ⟨(valC ps k).toArray⟩) := by
  obtain ⟨z1, _, _, h0⟩ := ht.at_
  cases hf : findP ps k with
  | none => exact .inl ⟨find_none hf, by unfold findI; rw [hf]⟩
  | some i =>
    obtain ⟨hil, _⟩ := find_lt hf
    have hfl := flatP_len ps
    obtain ⟨b, off, rfl, hl, hc⟩ := h0 (2 * i + 1) (by omega)
    rw [(flat_at' hil).2] at hc
    have hg := find_get hf hil
    refine .inr ⟨2 * i + 1, b, off, by rw [valC_some hg]; exact hg, by unfold findI; rw [hf], by omega, rfl, hl, ?_⟩
    rw [valC_some hg]; exact hc
set_option maxHeartbeats 400000 in
theorem rValid_any (s : Bs) (hs : s.length ≤ 19999) (w : World) : Calls Try.prog 50 #[.string ⟨s.toArray⟩] w fun e w' => e = .returned (.bool (readC s).isSome) ∧ Below w.heap.size w w' := by
  cases hr : readC s with
  | none =>
    have P1 := Lib.hid (rp_none hs hr w)
    clear hr
    simp only [Option.isSome_none]
    go_enter Try.func50, Try.ntmps50
    go_wp2_with (go_at_call 17; refine P1.out.mono ?_; rintro e w1 ⟨rfl, hB1⟩; have H1 := Lib.hid hB1; clear hB1)
    go_ret
    exact ⟨rfl, H1.out⟩
  | some ps =>
    have P1 := Lib.hid (rp_some hs hr w)
    clear hr
    simp only [Option.isSome_some]
    go_enter Try.func50, Try.ntmps50
    go_wp2_with (go_at_call 17; refine P1.out.mono ?_; rintro e w1 ⟨o, c, rfl, hB1, _⟩; have H1 := Lib.hid hB1; clear hB1)
    go_ret
    exact ⟨rfl, H1.out⟩
set_option maxHeartbeats 400000 in
theorem Valid_any (s : Bs) (hs : s.length ≤ 19999) (w : World) : Calls Try.prog 49 #[.string ⟨s.toArray⟩] w fun e w' => e = .returned (.bool (readC s).isSome) ∧ Below w.heap.size w w' := by
  have RD := read_any s hs w
  cases hr : readC s with
  | none =>
    have RD2 : Hid (Calls Try.prog 29 #[.string ⟨s.toArray⟩] w fun e w' => Below w.heap.size w w' ∧ e = .returned (.tuple #[.pointer none, .int .i64 11])) := RD.mono fun e w' ⟨h1, h2⟩ => ⟨h1, by
      rcases h2 with ⟨_, h'⟩ | ⟨_, _, _, h', _⟩
      · exact h'
      · rw [hr] at h'; cases h'⟩
    clear RD hr
    simp only [Option.isSome_none]
    go_enter Try.func49, Try.ntmps49
    go_wp2_with (go_at_call 29; refine RD2.out.mono ?_; rintro e w1 ⟨hB1, rfl⟩; have H1 := Lib.hid hB1; clear hB1)
    go_ret
    exact ⟨rfl, H1.out⟩
  | some ps =>
    have RD2 : Hid (Calls Try.prog 29 #[.string ⟨s.toArray⟩] w fun e w' => Below w.heap.size w w' ∧ ∃ b, e = .returned (.tuple #[.pointer b, .int .i64 0])) := RD.mono fun e w' ⟨h1, h2⟩ => ⟨h1, by
      rcases h2 with ⟨h', _⟩ | ⟨b2, F2, ps', h', he, hb, hF⟩
      · rw [hr] at h'; cases h'
      · exact ⟨_, he⟩⟩
    clear RD hr
    simp only [Option.isSome_some]
    go_enter Try.func49, Try.ntmps49
    go_wp2_with (go_at_call 29; refine RD2.out.mono ?_; rintro e w1 ⟨hB1, b, rfl⟩; have H1 := Lib.hid hB1; clear hB1)
    go_ret
    exact ⟨rfl, H1.out⟩
set_option maxRecDepth 100000 in
set_option maxHeartbeats 1600000 in
theorem rGet_any (s : Bs) (path : List Bs) (v : Value) (w : World) (hs : s.length ≤ 19999) (ht : TxtRow w v path) :
    Calls Try.prog 22 #[.string ⟨s.toArray⟩, v] w fun e w' => e = .returned (.tuple #[.string ⟨(getC s path).1.toArray⟩, .int .i64 (getC s path).2]) ∧ Below w.heap.size w w' := by
  obtain ⟨o, c, rfl, _⟩ := id ht
  obtain ⟨_, h1, h2, h3⟩ := ht.at_
  unfold maxLen at h2
  by_cases h0 : path = []
  · subst h0
    have CA := Lib.hid (rCanonical_any s hs w)
    have HG : Hid (getC s [] = canonC s) := if_pos rfl
    rw [HG.out]
    clear ht h3
    go_enter Try.func22, Try.ntmps22
    go_wp2_with (go_at_call 16; refine CA.out.mono ?_; rintro e w1 ⟨rfl, hB1⟩; have H1 := Lib.hid hB1; clear hB1)
    go_ret2
    exact ⟨rfl, H1.out⟩
  · have HG : Hid (getC s path = getL s path) := if_neg h0
    rw [HG.out]
    have hl0 : 0 < path.length := List.length_pos_iff.2 h0
    have t9 : ((path.length : Int) == 0) = false := by rw [beq_eq_false_iff_ne]; omega
    have HT := Lib.hid h3
    clear ht h3 h0
    go_enter Try.func22, Try.ntmps22
    go_wp2_with fail
    go_loopg [0, 7, 8, 9, 10, 20] path.length (fun g v0 _ _ _ _ i wr => ∃ (j : Nat) (t : Bs), j + g = path.length ∧ i = .int .i64 (j : Int) ∧ v0 = .string ⟨t.toArray⟩ ∧ t.length ≤ 19999 ∧ Below w.heap.size w wr ∧ Hid (getL s path = getL t (path.drop j)))
    case atStart => exact ⟨0, s, by omega, rfl, rfl, hs, Below.refl _ _, rfl⟩
    case round =>
      obtain ⟨j, t, hjg, rfl, rfl, htl, hb, HI⟩ := hrel
      by_cases hlt : j < path.length
      · obtain ⟨b, off, rfl, hbl, hc⟩ := HT.out j hlt
        have hdr : path.drop j = path[j] :: path.drop (j + 1) := List.drop_eq_getElem_cons hlt
        obtain ⟨k, hke⟩ : ∃ k, k = path[j] := ⟨_, rfl⟩
        rw [← hke] at hc hdr
        have hcx : wr.cell? ⟨b, off + j, none⟩ = some (.string ⟨k.toArray⟩) := (hb.cell (p := ⟨b, off + j, none⟩) hbl).trans hc
        have t0 : decide ((j : Int) < (path.length : Int)) = true := by rw [decide_eq_true_eq]; omega
        cases hr : readC t with
        | none =>
          have P1 := Lib.hid (rp_none htl hr wr)
          have HR : Hid (getL s path = ([], 11)) := by show _ = _; rw [HI.out, hdr, getL, hr]
          clear hr HI hdr hc hke
          go_wp2_with (go_at_call 17; refine P1.out.mono ?_; rintro e w1 ⟨rfl, hB1⟩; have H1 := Lib.hid hB1; clear hB1)
          go_ret2
          exact ⟨ret2_si (by rw [HR.out]) (by rw [HR.out]), hb.trans (H1.out.mono hb.size)⟩
        | some ps =>
          have hvl := val_len hr k
          have hrl := read_len hr
          have P1 := Lib.hid (rp_some htl hr wr)
          have hfl := flatP_len ps
          obtain ⟨n, hn⟩ : ∃ n, (flatP ps).length = n := ⟨_, rfl⟩
          have FI : Hid (∀ v W, TxtRow W v (flatP ps) → Calls Try.prog 40 #[v, .string ⟨k.toArray⟩] W fun e w' => e = .returned (.int .i64 (findI ps k)) ∧ W = w') := fun v W h => rfind_any v ps k W h (by omega)
          have FL : Hid (∀ W o n c, TxtRow W (.slice o n c) (flatP ps) → (getP ps k = none ∧ findI ps k = -1) ∨ ∃ m b off, getP ps k = some (valC ps k) ∧ findI ps k = ((m : Nat) : Int) ∧ m < n ∧ o = some ⟨b, off, none⟩ ∧ b < W.heap.size ∧ W.cell? ⟨b, off + m, none⟩ = some (.string ⟨(valC ps k).toArray⟩)) := fun W o n c h => find_lies k h
          have hgl : getL t (k :: path.drop (j + 1)) = match getP ps k with | none => ([], 8) | some v => getL v (path.drop (j + 1)) := by rw [getL, hr]; rfl
          have HI2 : Hid (getL s path = match getP ps k with | none => ([], 8) | some v => getL v (path.drop (j + 1))) := by
            show _ = _
            rw [HI.out, hdr, hgl]
          have hn2 : n ≤ 1000000 := by omega
          rw [hn] at P1
          have HB := Lib.hid hb
          clear hr HI hdr hc hke hgl hn hfl hrl hb
          generalize valC ps k = vv at *
          cases hg : getP ps k with
          | none =>
            rw [hg] at HI2
            have FI2 : Hid (∀ v W, TxtRow W v (flatP ps) → Calls Try.prog 40 #[v, .string ⟨k.toArray⟩] W fun e w' => e = .returned (.int .i64 (-1)) ∧ W = w') := fun v W h => by
              obtain ⟨o, c, rfl⟩ := h.len
              rcases FL.out W o _ c h with ⟨_, e⟩ | ⟨m, b, off, h', _⟩
              · rw [← e]; exact FI.out _ W h
              · rw [hg] at h'; cases h'
            clear hg FI FL
            go_wp2_with (first | (go_at_call 17; refine P1.out.mono ?_; rintro e w1 ⟨o1, c1, rfl, hB1, hT1⟩; have H1 := Lib.hid (And.intro hB1 hT1); clear hB1 hT1) | (go_at_call 40; refine (FI2.out _ _ H1.out.2).mono ?_; rintro e w2 ⟨rfl, rfl⟩))
            go_ret2
            exact ⟨ret2_si (by rw [HI2.out]) (by rw [HI2.out]), HB.out.trans (H1.out.1.mono HB.out.size)⟩
          | some x =>
            rw [hg] at HI2
            have FI2 : Hid (∀ W o c, TxtRow W (.slice o n c) (flatP ps) → ∃ m b off, x = vv ∧ m < n ∧ o = some ⟨b, off, none⟩ ∧ W.cell? ⟨b, off + m, none⟩ = some (.string ⟨vv.toArray⟩) ∧ Calls Try.prog 40 #[.slice o n c, .string ⟨k.toArray⟩] W fun e w' => e = .returned (.int .i64 (m : Int)) ∧ W = w') := fun W o c h => by
              rcases FL.out W o n c h with ⟨h', _⟩ | ⟨m, b, off, h1, h2, h3, h4, _, h5⟩
              · rw [hg] at h'; cases h'
              · rw [hg] at h1
                exact ⟨m, b, off, Option.some.inj h1, h3, h4, h5, by rw [← h2]; exact FI.out _ W h⟩
            clear hg FI FL
            go_wp2_with (first | (go_at_call 17; refine P1.out.mono ?_; rintro e w1 ⟨o1, c1, rfl, hB1, hT1⟩; obtain ⟨m, b1, f1, hxv, hm1, ho1, hm2, hFF⟩ := FI2.out _ _ _ hT1; subst ho1; have hm3 : decide ((m : Int) < 0) = false := (by rw [decide_eq_false_iff_not]; omega); have H1 := Lib.hid (And.intro hB1 (And.intro hxv hFF)); clear hB1 hT1 hFF hxv) | (go_at_call 40; refine H1.out.2.2.mono ?_; rintro e w2 ⟨rfl, rfl⟩))
            go_roundg (gk - 1)
            case measure => omega
            case rel => exact ⟨j + 1, vv, by omega, by go_num, rfl, by omega, HB.out.trans (H1.out.1.mono HB.out.size), by show _ = _; rw [HI2.out, H1.out.2.1]⟩
      · obtain rfl : j = path.length := by omega
        have t0 : decide ((path.length : Int) < (path.length : Int)) = false := by rw [decide_eq_false_iff_not]; omega
        have HR : Hid (getL s path = (t, 0)) := by show _ = _; rw [HI.out, List.drop_length, getL]
        clear HI
        go_wp2_with fail
        go_ret2
        exact ⟨ret2_si (by rw [HR.out]) (by rw [HR.out]), hb⟩
end Go.Proofs.Ytpaffocniniakaa
