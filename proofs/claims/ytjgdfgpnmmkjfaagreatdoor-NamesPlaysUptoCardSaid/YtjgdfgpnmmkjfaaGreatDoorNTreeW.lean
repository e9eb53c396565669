/- The walk of 'NamesTree'. -/
import Derived.Test.YtjgdfgpnmmkjfaaGreatDoorNPlay
import Derived.Deep.RegionWith
namespace Go.Proofs.YtjgdfgpnmmkjfaaGreatDoor
set_option linter.unusedVariables false
set_option linter.unusedSimpArgs false
open Go.RowKit Go.MapKept

theorem tree_not (l : List AN) (ao : Option Addr) (cap : Nat) (hl : l.length ≤ 2000000) (hs : sumN l ≤ 4611686018427387904) (path : Bs) (w : World) (hR : AR w.heap.size w ao l) (h : lightN l = false ∨ 100 < path.length) (hp : path.length ≤ 140737488355328) :
    Calls Tryz.prog 3 #[.slice ao l.length cap, .string ⟨path.toArray⟩] w fun e w' => e = .returned (.bool true) ∧ Below w.heap.size w w' := by
  have LI := Lib.hid (light_any l ao cap hl hs w hR)
  have AW := Lib.hid (fun W => awake_any W)
  generalize l.length = n at *
  clear hR hl hs
  cases hb : lightN l with
  | false =>
    rw [hb] at LI
    clear h hp hb
    go_enter Tryz.func3, Tryz.ntmps3
    go_wp2_with (first | (go_at_call 6; refine LI.out.mono ?_; rintro e w1 ⟨rfl, hB⟩; have H1 := Lib.hid hB; clear hB) | (go_at_call 7; refine (AW.out _).mono ?_; rintro e w2 ⟨rfl, hB⟩; have H2 := Lib.hid (H1.out.trans (hB.mono H1.out.size)); clear hB))
    go_ret
    exact ⟨rfl, H2.out⟩
  | true =>
    rw [hb] at LI h
    have hpl : 100 < path.length := by rcases h with h | h; cases h; exact h
    have t1 : decide ((100 : Int) < (path.length : Int)) = true := by rw [decide_eq_true_eq]; omega
    clear h hb
    go_enter Tryz.func3, Tryz.ntmps3
    go_wp2_with (first | (go_at_call 6; refine LI.out.mono ?_; rintro e w1 ⟨rfl, hB⟩; have H1 := Lib.hid hB; clear hB) | (go_at_call 7; refine (AW.out _).mono ?_; rintro e w2 ⟨rfl, hB⟩; have H2 := Lib.hid (H1.out.trans (hB.mono H1.out.size)); clear hB))
    go_ret
    exact ⟨rfl, H2.out⟩
theorem two_new {w1 W W' : World} {B tb m : Nat} {who : Own} {nd : Bs → Option Nat} {S : Bs → Option ND} (hT : Tr W B tb m who nd S) (hb : Below B w1 W) {yb : Nat} {whoY : Own} {ndY : Bs → Option Nat} (hy : RTr W' W.heap.size yb whoY ndY newS [rootN]) (hB : Below W.heap.size W W') : Two w1 B tb m S W.heap.size yb W' := by
  have hd : ∀ j, whoY j ≠ none → W.heap.size ≤ j := fun j hj => (hy.lo j hj).1
  have hwy : ∀ j, j < W.heap.size → whoY j = none := fun j hj => by
    cases hc : whoY j with
    | none => rfl
    | some t => have := hd j (by rw [hc]; simp); omega
  refine ⟨⟨who, nd, whoY, ndY, hT.low hB, hy, fun j hj => hwy j (hT.lo j hj).2, fun j hj => ⟨?_, hwy j (by have := hT.base; omega)⟩⟩, hb.trans (hB.mono hT.base), hT.base⟩
  cases hc : who j with
  | none => rfl
  | some t => have := (hT.lo j (by rw [hc]; simp)).1; omega
/-- Where the acts have led. -/
structure Led (w1 : World) (tb m : Nat) (n : Nat) (wr : World) : Prop where
  ex : ∃ S who nd, Gd S n ∧ Tr wr w1.heap.size tb m who nd S
  below : Below w1.heap.size w1 wr
/-- A tree kept as it was, since a world wA. -/
structure Kpt (w1 : World) (tb m : Nat) (S : Bs → Option ND) (whoA : Own) (wA : World) (W : World) : Prop where
  ex : ∃ who nd, Tr W w1.heap.size tb m who nd S ∧ Stp whoA who wA W
theorem Kpt.low {w1 wA W W' : World} {tb m : Nat} {S : Bs → Option ND} {whoA : Own} (h : Kpt w1 tb m S whoA wA W) (hb : Below W.heap.size W W') : Kpt w1 tb m S whoA wA W' := by
  obtain ⟨who, nd, hT, hS⟩ := h.ex
  exact ⟨who, nd, hT.low hb, hS.low hb⟩
theorem Kpt.bel {w1 wA W : World} {tb m : Nat} {S : Bs → Option ND} {whoA : Own} (h : Kpt w1 tb m S whoA wA W) (hA : Below w1.heap.size w1 wA) (hlo : ∀ j, whoA j ≠ none → w1.heap.size ≤ j) : Below w1.heap.size w1 W := by
  obtain ⟨who, nd, hT, hS⟩ := h.ex
  exact hA.trans (hS.below hA.size hlo)
theorem gd_all {w1 W : World} {tb m : Nat} {who : Own} {nd : Bs → Option Nat} {S : Bs → Option ND} {n : Nat} (hG : Gd S n) (hn : n ≤ 100000) (h : Tr W w1.heap.size tb m who nd S) {ks : List Bs} (hk : KeysOf S ks) :
    Calls Tryz.prog 11 #[.pointer (some ⟨tb, 0, none⟩)] W fun e w' => ∃ o c, e = .returned (.slice o ks.length c) ∧ w'.ownsRow W.heap.size 9 1 (.slice o ks.length c) ks.length (ks.map sv) ∧ Below W.heap.size W w' :=
  (All_any h (cnt_mono hG.cnt (by omega))).mono fun e w' ⟨o, c, ks', he, hk', ho, hB⟩ => by
    have := KeysOf.eq hk' hk
    subst this
    exact ⟨o, c, he, ho, hB⟩
set_option maxRecDepth 100000 in
set_option maxHeartbeats 3200000 in
theorem tree_yes (l : List AN) (ao : Option Addr) (cap : Nat) (h40 : l.length ≤ 40) (hs : sumN l ≤ 1500) (path : Bs) (hp : path.length ≤ 100) (w : World) (hR : AR w.heap.size w ao l) :
    Calls Tryz.prog 3 #[.slice ao l.length cap, .string ⟨path.toArray⟩] w fun e w' => e = .returned (.bool true) ∧ Below w.heap.size w w' := by
  have hlt0 : lightN l = true := by unfold lightN; rw [Bool.and_eq_true]; simp [h40, hs]
  have LI : Hid (Calls Tryz.prog 6 #[.slice ao l.length cap] w fun e w' => e = .returned (.bool true) ∧ Below w.heap.size w w') := by
    have := light_any l ao cap (by omega) (by omega) w hR
    rw [hlt0] at this
    exact this
  have AW := Lib.hid (fun W => awake_any W)
  have NW := Lib.hid (fun W => nNew_tr W)
  have HR := Lib.hid hR
  obtain ⟨N, hN⟩ : ∃ N, l.length = N := ⟨_, rfl⟩
  have HN := Lib.hid (And.intro hN hs)
  rw [hN] at LI h40 ⊢
  have t1 : decide ((100 : Int) < (path.length : Int)) = false := by rw [decide_eq_false_iff_not]; omega
  clear hR hlt0 hN hs
  go_enter Tryz.func3, Tryz.ntmps3
  go_wp2_with (first | (go_at_call 6; refine LI.out.mono ?_; rintro e w1 ⟨rfl, hB⟩; have H1 := Lib.hid hB; clear hB) | (go_at_call 8; refine (NW.out _).mono ?_; rintro e w2 ⟨tb, m, who0, nd0, rfl, hT, hB⟩; have H2 : Hid (Led w1 tb m 1 w2) := ⟨⟨newS, who0, nd0, gd_new, hT⟩, hB⟩; clear hT hB))
  go_loopw [25] (fun i wr => ∃ k : Nat, k ≤ N ∧ i = .int .i64 (k : Int) ∧ Led w1 tb m (1 + 5 * sumN (l.take k)) wr) (fun i _ => N - (intOf i).toNat)
  case atStart => exact ⟨0, Nat.zero_le _, rfl, by simpa [sumN] using H2.out⟩
  case round =>
    obtain ⟨k, hk, rfl, hled⟩ := hrel
    have HLED := Lib.hid hled
    have hB1 : Below w.heap.size w wr := H1.out.trans (hled.below.mono H1.out.size)
    by_cases hlt : k < N
    · have hkl : k < l.length := by have := HN.out.1; omega
      obtain ⟨b, off, rfl, hbl, hc⟩ := HR.out.row (by intro h; rw [h] at hkl; simp at hkl)
      obtain ⟨c0, c1, c2, c3, c4⟩ := hc k hkl
      have d0 := (hB1.cell (p := ⟨b, _, none⟩) hbl).trans c0
      have d1 := (hB1.cell (p := ⟨b, _, none⟩) hbl).trans c1
      have d2 := (hB1.cell (p := ⟨b, _, none⟩) hbl).trans c2
      have d3 := (hB1.cell (p := ⟨b, _, none⟩) hbl).trans c3
      have d4 := (hB1.cell (p := ⟨b, _, none⟩) hbl).trans c4
      have hst := sumN_take hkl
      have hle := sumN_le l (k + 1)
      have hN2 := HN.out.2
      obtain ⟨hT, hTb⟩ := HR.out.txt l[k] (List.getElem_mem _)
      generalize l[k] = x at *
      have HX : Hid (sumN (l.take (k + 1)) = sumN (l.take k) + x.sum ∧ x.sum ≤ 1500 ∧ sumN (l.take k) ≤ 1500 ∧ k < N) := ⟨hst, by omega, by omega, hlt⟩
      have HV : Hid (∀ W, Below w1.heap.size w1 W → TxtRow W (.slice x.lo x.L.length x.lc) x.L) := fun W hb => hT.base hTb (H1.out.trans (hb.mono H1.out.size))
      have HVB : Hid (∀ o, x.lo = some o → 0 < x.L.length → o.block < w1.heap.size) := fun o ho hp => by have := hTb o ho hp; have := H1.out.size; omega
      have HY : Hid (∀ W, Below wr.heap.size wr W → Calls Tryz.prog 10 #[] W fun e w' => ∃ yb, e = .returned (.pointer (some ⟨yb, 0, none⟩)) ∧ (∃ S By, Gd S (1 + 5 * sumN (l.take k)) ∧ Two w1 w1.heap.size tb m S By yb w') ∧ Below W.heap.size W w') := fun W hb => by
        obtain ⟨S, who, nd, hG, hTr⟩ := HLED.out.ex
        exact (rNew_tr W).mono fun e w' ⟨yb, whoY, ndY, he, hy, hB⟩ => ⟨yb, he, ⟨S, _, hG, two_new (hTr.low hb) (HLED.out.below.trans (hb.mono HLED.out.below.size)) hy hB⟩, hB⟩
      have HPL : Hid (∀ W yb, (∃ S By, Gd S (1 + 5 * sumN (l.take k)) ∧ Two w1 w1.heap.size tb m S By yb W) → Calls Tryz.prog 9 #[.pointer (some ⟨tb, 0, none⟩), .pointer (some ⟨yb, 0, none⟩), .agg #[.int .i64 x.k, .string ⟨x.s.toArray⟩, .string ⟨x.t.toArray⟩, .slice x.lo x.L.length x.lc, .bool x.cl]] W fun e w' => ABool e ∧ Led w1 tb m (1 + 5 * sumN (l.take (k + 1))) w') := fun W yb ⟨S, By, hG, h2⟩ => by
        have hx := HX.out
        refine (play_any h2 x (hG.fit (by omega) x hx.2.1) (HV.out W h2.below) HV.out HVB.out).mono fun e w' hE => ?_
        obtain ⟨hb, S', who, nd, hpr, hT', hB'⟩ := hE
        exact ⟨hb, ⟨S', who, nd, (gd_play hG hx.2.1 hpr).mono (by omega), hT'⟩, hB'⟩
      have HBX : Hid (∀ W, Below (wr.heap.size + 1) (wr.alloc (boxA x)) W → W.cell? ⟨wr.heap.size, 0, none⟩ = some (.int .i64 x.k) ∧ W.cell? ⟨wr.heap.size, 1, none⟩ = some (.string ⟨x.s.toArray⟩) ∧ W.cell? ⟨wr.heap.size, 2, none⟩ = some (.string ⟨x.t.toArray⟩) ∧ W.cell? ⟨wr.heap.size, 3, none⟩ = some (.slice x.lo x.L.length x.lc) ∧ W.cell? ⟨wr.heap.size, 4, none⟩ = some (.bool x.cl)) := fun W hb => vcells5 ((hb.block wr.heap.size (by omega)).trans (heap_alloc_new wr (boxA x)))
      have hw1 : IntKind.i64.wrap ((k : Int) + 1) = (k : Int) + 1 := IntWalk.i64_in _ (by omega)
      unfold boxA at HBX
      obtain ⟨n2, hn2⟩ : ∃ n2, 1 + 5 * sumN (l.take (k + 1)) = n2 := ⟨_, rfl⟩
      have HN2 := Lib.hid hn2
      rw [hn2] at HPL
      clear hn2
      generalize 1 + 5 * sumN (l.take k) = n1 at *
      obtain ⟨xk, xs, xt, xL, xc, xo, xlc⟩ := x
      simp only at d0 d1 d2 d3 d4 HBX HPL
      generalize xL.length = xn at *
      have i1 : k < N := hlt
      clear c0 c1 c2 c3 c4 hc hT hTb hst hle hN2 hk hkl hlt HV HVB hled hB1
      go_wp2_with fail
      obtain ⟨e0, e1, e2, e3, e4⟩ := HBX.out _ (Below.refl _ _)
      go_region_with (first | (go_at_call 10; refine (HY.out _ (by exact ((Below.refl _ wr).alloc (Nat.le_refl _) _).drew)).mono ?_; rintro e w5 ⟨yb, rfl, h2, hB⟩; obtain ⟨r0, r1, r2, r3, r4⟩ := HBX.out w5 (((Below.refl _ _).drew).trans (hB.mono (by simp))); have H5 := Lib.hid h2; clear h2 hB) | (go_at_call 9; refine (HPL.out _ _ H5.out).mono ?_; rintro e w6 ⟨⟨bb, rfl⟩, hled⟩; have H6 := Lib.hid hled; clear hled))
      all_goals
        go_wp2_with fail
        exact ⟨⟨k + 1, by have := HX.out; omega, by go_num, by rw [HN2.out]; exact H6.out⟩, by have := HX.out; simp [intOf]; omega⟩
    · have i1 : decide ((k : Int) < (N : Int)) = false := by rw [decide_eq_false_iff_not]; omega
      obtain ⟨S, who, nd, hG0, hT⟩ := hled.ex
      have hG : Gd S 7501 := hG0.mono (by have h1 := sumN_le l k; have h2 := HN.out.2; omega)
      obtain ⟨ks, hks⟩ := keys_of hG.cnt
      have hlo := hT.lo
      have hcan := hG.key
      have AL : Hid (∀ W who nd, Tr W w1.heap.size tb m who nd S → Calls Tryz.prog 11 #[.pointer (some ⟨tb, 0, none⟩)] W fun e w' => ∃ o c, e = .returned (.slice o ks.length c) ∧ w'.ownsRow W.heap.size 9 1 (.slice o ks.length c) ks.length (ks.map sv) ∧ Below W.heap.size W w') := fun W who nd h => gd_all hG (by omega) h hks
      have HT := Lib.hid hT
      have HB := Lib.hid hled.below
      have HKN : Hid (ks.length ≤ 7501 ∧ ∀ p ∈ ks, (S p).isSome = true) := ⟨hG.cnt ks hks.nodup (fun q hq => (hks.mem q).1 hq), fun q hq => (hks.mem q).1 hq⟩
      obtain ⟨K, hK⟩ : ∃ K, ks.length = K := ⟨_, rfl⟩
      have HK := Lib.hid hK
      rw [hK] at AL
      have HG := Lib.hid hG
      have HKS := Lib.hid hks
      clear hG0 hG hT hlo hcan hled hks hK hB1 HLED
      go_wp2_with (first | (go_at_call 11; refine (AL.out wr _ _ HT.out).mono ?_; rintro e wA ⟨oA, cA, rfl, ho, hB⟩; have HA : Hid (wA.ownsRow wr.heap.size 9 1 (.slice oA K cA) K (ks.map sv) ∧ Below wr.heap.size wr wA) := ⟨ho, hB⟩; clear ho hB))
      have HTR : Hid (TxtRow wA (.slice oA K cA) ks ∧ ∀ a, oA = some a → who a.block = none) := by
        have h1 := HA.out.1
        refine ⟨by rw [← HK.out] at h1 ⊢; exact TxtRow.of_owns h1, fun a ha => ?_⟩
        have h2 := TxtRow.nilOr h1 a ha
        cases hc : who a.block with
        | none => rfl
        | some t => have := (HT.out.lo a.block (by rw [hc]; simp)).2; omega
      have HLO : Hid (∀ j, who j ≠ none → w1.heap.size ≤ j) := fun j hj => (HT.out.lo j hj).1
      have HAB : Hid (Below w1.heap.size w1 wA) := HB.out.trans (HA.out.2.mono HB.out.size)
      have HK0 : Hid (Kpt w1 tb m S who wA wA) := ⟨who, nd, HT.out.low HA.out.2, Stp.refl _ _⟩
      have hK : K ≤ 7501 := by have h1 := HKN.out.1; have h2 := HK.out; omega
      clear HT HB HA
      go_loopw [37] (fun i wq => ∃ j : Nat, j ≤ K ∧ i = .int .i64 (j : Int) ∧ Kpt w1 tb m S who wA wq) (fun i _ => K - (intOf i).toNat)
      case atStart => exact ⟨0, Nat.zero_le _, rfl, HK0.out⟩
      case round =>
        obtain ⟨j, hj, rfl, hkp⟩ := hrel
        have HKP := Lib.hid hkp
        by_cases hlt : j < K
        · have hjl : j < ks.length := by have h2 := HK.out; omega
          obtain ⟨_, _, hS⟩ := hkp.ex
          obtain ⟨b, off, rfl, hbl, hc⟩ := (HTR.out.1.fr HTR.out.2 hS.2.fr).at_.2.2.2 j hjl
          obtain ⟨hp1, hp2⟩ := head_there HG.out (HKN.out.2 ks[j] (List.getElem_mem _))
          have hp3 := make_same HG.out (HKN.out.2 ks[j] (List.getElem_mem _))
          have hh : (headN ks[j]).length ≤ 100000 := by
            obtain ⟨lq, hcq, _, hiq⟩ := HG.out.key _ (HKN.out.2 ks[j] (List.getElem_mem _))
            obtain ⟨i, hi⟩ := head_in hcq
            obtain ⟨_, _, h3, _⟩ := HG.out.key _ (hiq i)
            rw [hi]
            omega
          generalize ks[j] = p at *
          have HD := Lib.hid (fun W => Head_any p (by omega) W)
          have EX : Hid (∀ W, Kpt w1 tb m S who wA W → Calls Tryz.prog 12 #[.pointer (some ⟨tb, 0, none⟩), .string ⟨(headN p).toArray⟩] W fun e w' => e = .returned (.bool true) ∧ Kpt w1 tb m S who wA w') := fun W h => by
            obtain ⟨who', nd', hT, hS⟩ := h.ex
            have := Exists_any hT (headN p) hh
            rw [hp1] at this
            exact this.mono fun e w' ⟨he, hB⟩ => ⟨he, h.low hB⟩
          have MK : Hid (∀ W, Kpt w1 tb m S who wA W → Calls Tryz.prog 14 #[.pointer (some ⟨tb, 0, none⟩), .string ⟨p.toArray⟩] W fun e w' => e = .returned (.int .i64 0) ∧ Kpt w1 tb m S who wA w') := fun W h => by
            obtain ⟨who', nd', hT, hS⟩ := h.ex
            have := Make_any hT p (by omega)
            rw [hp3] at this
            exact this.mono fun e w' ⟨he, who'', nd'', hT', hS'⟩ => ⟨he, who'', nd'', hT', hS.trans hS'⟩
          have hw1 : IntKind.i64.wrap ((j : Int) + 1) = (j : Int) + 1 := IntWalk.i64_in _ (by omega)
          have j1 : decide ((j : Int) < (K : Int)) = true := by rw [decide_eq_true_eq]; omega
          clear hS hp1 hp2 hp3 hh hj hjl hkp
          go_wp2_with (first | (go_at_call 13; refine (HD.out _).mono ?_; rintro e w4 ⟨rfl, hB⟩; have H4 := Lib.hid (HKP.out.low hB); clear hB) | (go_at_call 12; refine (EX.out _ H4.out).mono ?_; rintro e w5 ⟨rfl, hB⟩; have H5 := Lib.hid hB; clear hB) | (go_at_call 14; refine (MK.out _ H5.out).mono ?_; rintro e w6 ⟨rfl, hB⟩; have H6 := Lib.hid hB; clear hB))
          exact ⟨⟨j + 1, by omega, by go_num, H6.out⟩, by simp [intOf]; omega⟩
        · have j1 : decide ((j : Int) < (K : Int)) = false := by rw [decide_eq_false_iff_not]; omega
          obtain ⟨who2, nd2, hT2, hS2⟩ := hkp.ex
          have HT := Lib.hid hT2
          have HB : Hid (Below w1.heap.size w1 wr) := hkp.bel HAB.out HLO.out
          have hlen := HG.out.key
          have hpc : (canonN rootN path).length ≤ 100000 ∨ True := .inr trivial
          clear HK0 HTR HAB HLO hkp HKP hS2 hT2
          have HT2 : Hid (∀ W, Below wr.heap.size wr W → Tr W w1.heap.size tb m who2 nd2 S) := fun W hb => HT.out.low hb
          have HLO : Hid ((∀ j, who2 j ≠ none → w1.heap.size ≤ j) ∧ ∀ j, who2 j ≠ none → j < wr.heap.size) := ⟨fun j hj => (HT.out.lo j hj).1, fun j hj => (HT.out.lo j hj).2⟩
          have HROW : Hid (∀ {oB : Option Addr} {cB : Nat} {wB wD : World} {who' : Own}, wB.ownsRow wr.heap.size 9 1 (.slice oB K cB) K (ks.map sv) → Stp who2 who' wB wD → TxtRow wD (.slice oB K cB) ks) := fun {oB cB wB wD who'} ho hs => by
            have h1 : TxtRow wB (.slice oB K cB) ks := by rw [← HK.out] at ho ⊢; exact TxtRow.of_owns ho
            refine h1.fr (fun a ha => ?_) hs.fr
            have h2 := TxtRow.nilOr ho a ha
            cases hc : who2 a.block with
            | none => rfl
            | some t => have := HLO.out.2 a.block (by rw [hc]; simp); omega
          cases hSk : S (canonN rootN path) with
          | none =>
            have DL : Hid (∀ W, Tr W w1.heap.size tb m who2 nd2 S → Calls Tryz.prog 15 #[.pointer (some ⟨tb, 0, none⟩), .string ⟨path.toArray⟩] W fun e w' => e = .returned (.tuple #[.slice none 0 0, .int .i64 8]) ∧ Tr w' w1.heap.size tb m who2 nd2 S ∧ Stp who2 who2 W w') := fun W h => by
              have := Delete_any h (cnt_mono HG.out.cnt (by omega)) (fun k hk => by obtain ⟨_, _, h3, _⟩ := hlen k hk; omega) HKS.out path (by omega)
              unfold DelR at this
              rw [hSk] at this
              exact this
            have SY : Hid (∀ W va vb, TxtRow W va ks → TxtRow W vb ks → Calls Tryz.prog 16 #[va, vb] W fun e w' => e = .returned (.bool true) ∧ Below W.heap.size W w') := fun W va vb ha hb => same_yes W ha hb
            clear hlen hpc hSk
            go_wp2_with (first
              | (go_at_call 15; refine (DL.out _ (HT2.out _ HA.out.2)).mono ?_; rintro e wD ⟨rfl, hT, hS⟩; have HD : Hid (Tr wD w1.heap.size tb m who2 nd2 S ∧ TxtRow wD (.slice oB K cB) ks ∧ Below w1.heap.size w1 wD) := ⟨hT, HROW.out HA.out.1 hS, (HB.out.trans (HA.out.2.mono HB.out.size)).trans (hS.below (Nat.le_trans HB.out.size HA.out.2.size) HLO.out.1)⟩; clear hT hS HA)
              | (go_at_call 11; refine (AL.out wr _ _ HT.out).mono ?_; rintro e wB ⟨oB, cB, rfl, ho, hB⟩; have HA : Hid (wB.ownsRow wr.heap.size 9 1 (.slice oB K cB) K (ks.map sv) ∧ Below wr.heap.size wr wB) := ⟨ho, hB⟩; clear ho hB HT)
              | (go_at_call 11; refine (AL.out wD _ _ HD.out.1).mono ?_; rintro e wE ⟨oE, cE, rfl, ho, hB⟩; have HE : Hid (TxtRow wE (.slice oE K cE) ks ∧ TxtRow wE (.slice oB K cB) ks ∧ Below w1.heap.size w1 wE) := ⟨by rw [← HK.out] at ho ⊢; exact TxtRow.of_owns ho, HD.out.2.1.below hB, HD.out.2.2.trans (hB.mono HD.out.2.2.size)⟩; clear ho hB HD)
              | (go_at_call 16; refine (SY.out _ _ _ HE.out.2.1 HE.out.1).mono ?_; rintro e wF ⟨rfl, hB⟩; have HF := Lib.hid (HE.out.2.2.trans (hB.mono HE.out.2.2.size)); clear hB HE)
              | (go_at_call 7; refine (AW.out _).mono ?_; rintro e wG ⟨rfl, hB⟩; have HGo := Lib.hid (H1.out.trans ((HF.out.trans (hB.mono HF.out.size)).mono H1.out.size)); clear hB HF))
            go_ret
            exact ⟨rfl, HGo.out⟩
          | some nk =>
            have hdel := gd_del HG.out HKS.out (key := canonN rootN path) (by rw [hSk]; rfl)
            obtain ⟨kd, hkd⟩ := keys_of hdel.cnt
            have hcnt := del_count HG.out HKS.out (key := canonN rootN path) (by rw [hSk]; rfl) hkd
            have DL : Hid (∀ W, Tr W w1.heap.size tb m who2 nd2 S → Calls Tryz.prog 15 #[.pointer (some ⟨tb, 0, none⟩), .string ⟨path.toArray⟩] W fun e w' => ∃ o c, e = .returned (.tuple #[.slice o (goneL (canonN rootN path) ks).length c, .int .i64 0]) ∧ (∃ who nd, Tr w' w1.heap.size tb m who nd (delS S (canonN rootN path) ks)) ∧ ∃ who', Stp who2 who' W w') := fun W h => by
              have := Delete_any h (cnt_mono HG.out.cnt (by omega)) (fun k hk => by obtain ⟨_, _, h3, _⟩ := hlen k hk; omega) HKS.out path (by omega)
              unfold DelR at this
              rw [hSk] at this
              exact this.mono fun e w' ⟨o, c, who', nd', he, _, hT, hS, _⟩ => ⟨o, c, he, ⟨who', nd', hT⟩, who', hS⟩
            have AL2 : Hid (∀ W, (∃ who nd, Tr W w1.heap.size tb m who nd (delS S (canonN rootN path) ks)) → Calls Tryz.prog 11 #[.pointer (some ⟨tb, 0, none⟩)] W fun e w' => ∃ o c, e = .returned (.slice o kd.length c) ∧ Below W.heap.size W w') := fun W ⟨who, nd, h⟩ => (gd_all hdel (by omega) h hkd).mono fun e w' ⟨o, c, he, _, hB⟩ => ⟨o, c, he, hB⟩
            have EX : Hid (∀ W, (∃ who nd, Tr W w1.heap.size tb m who nd (delS S (canonN rootN path) ks)) → Calls Tryz.prog 12 #[.pointer (some ⟨tb, 0, none⟩), .string ⟨#[58, 58]⟩] W fun e w' => e = .returned (.bool true) ∧ Below W.heap.size W w') := fun W ⟨who, nd, h⟩ => by
              have := Exists_any h rootN (by decide)
              rw [show canonN rootN rootN = rootN from by decide, hdel.root] at this
              exact this
            rw [HK.out] at hcnt
            generalize kd.length = kl at *
            generalize (goneL (canonN rootN path) ks).length = gl at *
            have hkl : kl ≤ K ∧ gl ≤ K := by omega
            have hw2 : IntKind.i64.wrap ((kl : Int) + (gl : Int)) = (kl : Int) + (gl : Int) := IntWalk.i64_in _ (by omega)
            have hq : decide ((kl : Int) + (gl : Int) = (K : Int)) = true := by rw [decide_eq_true_eq]; omega
            have HTR : Hid (∀ W W', (∃ who nd, Tr W w1.heap.size tb m who nd (delS S (canonN rootN path) ks)) → Below W.heap.size W W' → (∃ who nd, Tr W' w1.heap.size tb m who nd (delS S (canonN rootN path) ks))) := fun W W' ⟨who, nd, h⟩ hb => ⟨who, nd, h.low hb⟩
            clear hlen hpc hSk hdel hkd
            go_wp2_with (first
              | (go_at_call 15; refine (DL.out _ (HT2.out _ HA.out.2)).mono ?_; rintro e wD ⟨oD, cD, rfl, hT, who', hS⟩; have HD : Hid ((∃ who nd, Tr wD w1.heap.size tb m who nd (delS S (canonN rootN path) ks)) ∧ Below w1.heap.size w1 wD) := ⟨hT, (HB.out.trans (HA.out.2.mono HB.out.size)).trans (hS.below (Nat.le_trans HB.out.size HA.out.2.size) HLO.out.1)⟩; clear hT hS HA)
              | (go_at_call 11; refine (AL.out wr _ _ HT.out).mono ?_; rintro e wB ⟨oB, cB, rfl, ho, hB⟩; have HA : Hid (wB.ownsRow wr.heap.size 9 1 (.slice oB K cB) K (ks.map sv) ∧ Below wr.heap.size wr wB) := ⟨ho, hB⟩; clear ho hB HT)
              | (go_at_call 11; refine (AL2.out wD HD.out.1).mono ?_; rintro e wE ⟨oE, cE, rfl, hB⟩; have HE : Hid ((∃ who nd, Tr wE w1.heap.size tb m who nd (delS S (canonN rootN path) ks)) ∧ Below w1.heap.size w1 wE) := ⟨HTR.out _ _ HD.out.1 hB, HD.out.2.trans (hB.mono HD.out.2.size)⟩; clear hB HD)
              | (go_at_call 12; refine (EX.out _ HE.out.1).mono ?_; rintro e wF ⟨rfl, hB⟩; have HF := Lib.hid (HE.out.2.trans (hB.mono HE.out.2.size)); clear hB HE)
              | (go_at_call 7; refine (AW.out _).mono ?_; rintro e wG ⟨rfl, hB⟩; have HGo := Lib.hid (H1.out.trans ((HF.out.trans (hB.mono HF.out.size)).mono H1.out.size)); clear hB HF))
            go_ret
            exact ⟨rfl, HGo.out⟩
theorem tree_any (l : List AN) (ao : Option Addr) (cap : Nat) (hl : l.length ≤ 2000000) (hs : sumN l ≤ 4611686018427387904) (path : Bs) (hp : path.length ≤ 140737488355328) (w : World) (hR : AR w.heap.size w ao l) :
    Calls Tryz.prog 3 #[.slice ao l.length cap, .string ⟨path.toArray⟩] w fun e w' => e = .returned (.bool true) ∧ Below w.heap.size w w' := by
  by_cases h1 : lightN l = true
  · by_cases h2 : path.length ≤ 100
    · have h3 := h1
      unfold lightN at h3
      simp only [Bool.and_eq_true, decide_eq_true_eq] at h3
      exact tree_yes l ao cap h3.1 h3.2 path h2 w hR
    · exact tree_not l ao cap hl hs path w hR (.inr (by omega)) hp
  · exact tree_not l ao cap hl hs path w hR (.inl (by simpa using h1)) hp
end Go.Proofs.YtjgdfgpnmmkjfaaGreatDoor
