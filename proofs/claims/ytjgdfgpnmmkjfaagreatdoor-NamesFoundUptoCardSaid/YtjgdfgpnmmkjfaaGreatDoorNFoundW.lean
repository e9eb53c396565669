/- The walk of 'NamesFound'. -/
import Derived.Test.YtjgdfgpnmmkjfaaGreatDoorNTreeW
import Derived.Test.YtjgdfgpnmmkjfaaGreatDoorNTold
import Derived.Test.YtjgdfgpnmmkjfaaGreatDoorNFoundP
import Derived.Deep.RegionWith
namespace Go.Proofs.YtjgdfgpnmmkjfaaGreatDoor
set_option linter.unusedVariables false
set_option linter.unusedSimpArgs false
open Go.RowKit Go.MapKept
set_option maxRecDepth 100000 in
set_option maxHeartbeats 1600000 in
theorem lhas_any {w : World} {v : Value} {L : List Bs} (h : TxtRow w v L) (hn : L.length ≤ 1000000) (x : Bs) : Calls Tryz.prog 20 #[v, .string ⟨x.toArray⟩] w fun e w' => e = .returned (.bool (hasB L x)) ∧ w = w' := by
  obtain ⟨o, c, rfl⟩ := h.len
  obtain ⟨hh, h1, h2, h3⟩ := h.at_
  unfold maxLen at h2
  have HC := Lib.hid h3
  obtain ⟨n, hnn⟩ : ∃ n, L.length = n := ⟨_, rfl⟩
  have HN := Lib.hid hnn
  rw [hnn] at hn h1 ⊢
  clear h h3 hnn hh
  go_enter Tryz.func20, Tryz.ntmps20
  go_wp2_with fail
  go_loopw [9] (fun q wr => ∃ k : Nat, k ≤ n ∧ q = .int .i64 (k : Int) ∧ hasB (L.take k) x = false ∧ w = wr) (fun q _ => n - (intOf q).toNat)
  case atStart => exact ⟨0, Nat.zero_le _, rfl, rfl, rfl⟩
  case round =>
    obtain ⟨k, hk, rfl, hno, rfl⟩ := hrel
    have hnl := HN.out
    by_cases hlt : k < n
    · obtain ⟨gb, off, rfl, hgl, hc0⟩ := HC.out k (by omega)
      have hst := has_take (L := L) (k := k) (by omega) x
      have hin : L[k]'(by omega) = x → hasB L x = true := fun e => List.any_eq_true.2 ⟨L[k]'(by omega), List.getElem_mem _, by rw [e]; simp⟩
      generalize L[k]'(by omega) = p at *
      have hcx : w.cell? ⟨gb, off + k, none⟩ = some (.string ⟨p.toArray⟩) := hc0
      have t0 : decide ((k : Int) < (n : Int)) = true := by rw [decide_eq_true_eq]; omega
      have i1 : k < n := hlt
      have hw1 : IntKind.i64.wrap ((k : Int) + 1) = (k : Int) + 1 := IntWalk.i64_in _ (by omega)
      by_cases hpx : p = x
      · subst hpx
        have HI := Lib.hid (hin rfl)
        clear hst hin hno hc0 hlt hk hnl
        go_wp2_with fail
        go_ret
        exact ⟨by rw [HI.out]; rfl, rfl⟩
      · have e1 : (p == x) = false := beq_eq_false_iff_ne.2 hpx
        have e2 : (⟨p.toArray⟩ : ByteArray) ≠ ⟨x.toArray⟩ := fun e => hpx (by simpa using e)
        have HI : Hid (k < n ∧ hasB (L.take (k + 1)) x = false) := ⟨hlt, by rw [hst, hno, e1]; rfl⟩
        clear hst hin hno hc0 hlt hk hnl hpx
        go_wp2_with fail
        exact ⟨⟨k + 1, by have := HI.out; omega, by go_num, HI.out.2, trivial⟩, by have := HI.out; simp [intOf]; omega⟩
    · have hkn : k = n := by omega
      subst hkn
      rw [List.take_of_length_le (by omega)] at hno
      have t0 : decide ((k : Int) < (k : Int)) = false := by rw [decide_eq_false_iff_not]; omega
      have HI := Lib.hid hno
      clear hno hk hlt hnl
      go_wp2_with fail
      go_ret
      exact ⟨by rw [HI.out]; rfl, rfl⟩
theorem below_drewN {B : Nat} {a w : World} (h : Below B a w) (n : Nat) : Below B a (w.drewN n) := h.trans ⟨rfl, rfl, rfl, Nat.le_refl _, fun _ _ => rfl⟩
theorem found_not (l : List AN) (ao : Option Addr) (cap : Nat) (hl : l.length ≤ 2000000) (hs : sumN l ≤ 4611686018427387904) (space name : Bs) (w : World) (hR : AR w.heap.size w ao l) (h : lightN l = false ∨ 100 < space.length + name.length) (hp : space.length ≤ 140737488355328) (hq : name.length ≤ 140737488355328) :
    Calls Tryz.prog 4 #[.slice ao l.length cap, .string ⟨space.toArray⟩, .string ⟨name.toArray⟩] w fun e w' => e = .returned (.bool true) ∧ Below w.heap.size w w' := by
  have LI := Lib.hid (light_any l ao cap hl hs w hR)
  have AW := Lib.hid (fun W => awake_any W)
  generalize l.length = n at *
  clear hR hl hs
  cases hb : lightN l with
  | false =>
    rw [hb] at LI
    clear h hp hq hb
    go_enter Tryz.func4, Tryz.ntmps4
    go_wp2_with (first | (go_at_call 6; refine LI.out.mono ?_; rintro e w1 ⟨rfl, hB⟩; have H1 := Lib.hid hB; clear hB) | (go_at_call 7; refine (AW.out _).mono ?_; rintro e w2 ⟨rfl, hB⟩; have H2 := Lib.hid (H1.out.trans (hB.mono H1.out.size)); clear hB))
    go_ret
    exact ⟨rfl, H2.out⟩
  | true =>
    rw [hb] at LI h
    have hw0 : IntKind.i64.wrap ((space.length : Int) + (name.length : Int)) = (space.length : Int) + (name.length : Int) := IntWalk.i64_in _ (by omega)
    have hpl : 100 < space.length + name.length := by rcases h with h | h; cases h; exact h
    have t1 : decide ((100 : Int) < (space.length : Int) + (name.length : Int)) = true := by rw [decide_eq_true_eq]; omega
    clear h hb
    go_enter Tryz.func4, Tryz.ntmps4
    go_wp2_with (first | (go_at_call 6; refine LI.out.mono ?_; rintro e w1 ⟨rfl, hB⟩; have H1 := Lib.hid hB; clear hB) | (go_at_call 7; refine (AW.out _).mono ?_; rintro e w2 ⟨rfl, hB⟩; have H2 := Lib.hid (H1.out.trans (hB.mono H1.out.size)); clear hB))
    go_ret
    exact ⟨rfl, H2.out⟩
set_option maxRecDepth 100000 in
set_option maxHeartbeats 3200000 in
theorem found_yes (l : List AN) (ao : Option Addr) (cap : Nat) (h40 : l.length ≤ 40) (hs : sumN l ≤ 1500) (space name : Bs) (hp : space.length + name.length ≤ 100) (w : World) (hR : AR w.heap.size w ao l) :
    Calls Tryz.prog 4 #[.slice ao l.length cap, .string ⟨space.toArray⟩, .string ⟨name.toArray⟩] w fun e w' => e = .returned (.bool true) ∧ Below w.heap.size w w' := by
  have hlt0 : lightN l = true := by unfold lightN; rw [Bool.and_eq_true]; simp [h40, hs]
  have LI : Hid (Calls Tryz.prog 6 #[.slice ao l.length cap] w fun e w' => e = .returned (.bool true) ∧ Below w.heap.size w w') := by
    have := light_any l ao cap (by omega) (by omega) w hR
    rw [hlt0] at this
    exact this
  have AW := Lib.hid (fun W => awake_any W)
  have NW := Lib.hid (fun W => nNew_tr W)
  have HR := Lib.hid hR
  obtain ⟨N, hN⟩ : ∃ N, l.length = N := ⟨_, rfl⟩
  have HN := Lib.hid (And.intro hN hs)
  rw [hN] at LI h40 ⊢
  have hw0 : IntKind.i64.wrap ((space.length : Int) + (name.length : Int)) = (space.length : Int) + (name.length : Int) := IntWalk.i64_in _ (by omega)
  have t1 : decide ((100 : Int) < (space.length : Int) + (name.length : Int)) = false := by rw [decide_eq_false_iff_not]; omega
  clear hR hlt0 hN hs
  go_enter Tryz.func4, Tryz.ntmps4
  go_wp2_with (first | (go_at_call 6; refine LI.out.mono ?_; rintro e w1 ⟨rfl, hB⟩; have H1 := Lib.hid hB; clear hB) | (go_at_call 8; refine (NW.out _).mono ?_; rintro e w2 ⟨tb, m, who0, nd0, rfl, hT, hB⟩; have H2 : Hid (Led w1 tb m 1 w2) := ⟨⟨newS, who0, nd0, gd_new, hT⟩, hB⟩; clear hT hB))
  go_loopw [32] (fun i wr => ∃ k : Nat, k ≤ N ∧ i = .int .i64 (k : Int) ∧ Led w1 tb m (1 + 5 * sumN (l.take k)) wr) (fun i _ => N - (intOf i).toNat)
  case atStart => exact ⟨0, Nat.zero_le _, rfl, by simpa [sumN] using H2.out⟩
  case round =>
    obtain ⟨k, hk, rfl, hled⟩ := hrel
    have HLED := Lib.hid hled
    have hB1 : Below w.heap.size w wr := H1.out.trans (hled.below.mono H1.out.size)
    by_cases hlt : k < N
    · have hkl : k < l.length := by have := HN.out.1; omega
      obtain ⟨b, off, rfl, hbl, hc⟩ := HR.out.row (by intro h; rw [h] at hkl; simp at hkl)
      obtain ⟨c0, c1, c2, c3, c4⟩ := hc k hkl
      have d0 := (hB1.cell (p := ⟨b, _, none⟩) hbl).trans c0
      have d1 := (hB1.cell (p := ⟨b, _, none⟩) hbl).trans c1
      have d2 := (hB1.cell (p := ⟨b, _, none⟩) hbl).trans c2
      have d3 := (hB1.cell (p := ⟨b, _, none⟩) hbl).trans c3
      have d4 := (hB1.cell (p := ⟨b, _, none⟩) hbl).trans c4
      have hst := sumN_take hkl
      have hle := sumN_le l (k + 1)
      have hN2 := HN.out.2
      obtain ⟨hT, hTb⟩ := HR.out.txt l[k] (List.getElem_mem _)
      generalize l[k] = x at *
      have HX : Hid (sumN (l.take (k + 1)) = sumN (l.take k) + x.sum ∧ x.sum ≤ 1500 ∧ sumN (l.take k) ≤ 1500 ∧ k < N) := ⟨hst, by omega, by omega, hlt⟩
      have HV : Hid (∀ W, Below w1.heap.size w1 W → TxtRow W (.slice x.lo x.L.length x.lc) x.L) := fun W hb => hT.base hTb (H1.out.trans (hb.mono H1.out.size))
      have HVB : Hid (∀ o, x.lo = some o → 0 < x.L.length → o.block < w1.heap.size) := fun o ho hp => by have := hTb o ho hp; have := H1.out.size; omega
      have HY : Hid (∀ W, Below wr.heap.size wr W → Calls Tryz.prog 10 #[] W fun e w' => ∃ yb, e = .returned (.pointer (some ⟨yb, 0, none⟩)) ∧ (∃ S By, Gd S (1 + 5 * sumN (l.take k)) ∧ Two w1 w1.heap.size tb m S By yb w') ∧ Below W.heap.size W w') := fun W hb => by
        obtain ⟨S, who, nd, hG, hTr⟩ := HLED.out.ex
        exact (rNew_tr W).mono fun e w' ⟨yb, whoY, ndY, he, hy, hB⟩ => ⟨yb, he, ⟨S, _, hG, two_new (hTr.low hb) (HLED.out.below.trans (hb.mono HLED.out.below.size)) hy hB⟩, hB⟩
      have HPL : Hid (∀ W yb, (∃ S By, Gd S (1 + 5 * sumN (l.take k)) ∧ Two w1 w1.heap.size tb m S By yb W) → Calls Tryz.prog 9 #[.pointer (some ⟨tb, 0, none⟩), .pointer (some ⟨yb, 0, none⟩), .agg #[.int .i64 x.k, .string ⟨x.s.toArray⟩, .string ⟨x.t.toArray⟩, .slice x.lo x.L.length x.lc, .bool x.cl]] W fun e w' => ABool e ∧ Led w1 tb m (1 + 5 * sumN (l.take (k + 1))) w') := fun W yb ⟨S, By, hG, h2⟩ => by
        have hx := HX.out
        refine (play_any h2 x (hG.fit (by omega) x hx.2.1) (HV.out W h2.below) HV.out HVB.out).mono fun e w' hE => ?_
        obtain ⟨hb, S', who, nd, hpr, hT', hB'⟩ := hE
        exact ⟨hb, ⟨S', who, nd, (gd_play hG hx.2.1 hpr).mono (by omega), hT'⟩, hB'⟩
      have HBX : Hid (∀ W, Below (wr.heap.size + 1) (wr.alloc (boxA x)) W → W.cell? ⟨wr.heap.size, 0, none⟩ = some (.int .i64 x.k) ∧ W.cell? ⟨wr.heap.size, 1, none⟩ = some (.string ⟨x.s.toArray⟩) ∧ W.cell? ⟨wr.heap.size, 2, none⟩ = some (.string ⟨x.t.toArray⟩) ∧ W.cell? ⟨wr.heap.size, 3, none⟩ = some (.slice x.lo x.L.length x.lc) ∧ W.cell? ⟨wr.heap.size, 4, none⟩ = some (.bool x.cl)) := fun W hb => vcells5 ((hb.block wr.heap.size (by omega)).trans (heap_alloc_new wr (boxA x)))
      have hw1 : IntKind.i64.wrap ((k : Int) + 1) = (k : Int) + 1 := IntWalk.i64_in _ (by omega)
      unfold boxA at HBX
      obtain ⟨n2, hn2⟩ : ∃ n2, 1 + 5 * sumN (l.take (k + 1)) = n2 := ⟨_, rfl⟩
      have HN2 := Lib.hid hn2
      rw [hn2] at HPL
      clear hn2
      generalize 1 + 5 * sumN (l.take k) = n1 at *
      obtain ⟨xk, xs, xt, xL, xc, xo, xlc⟩ := x
      simp only at d0 d1 d2 d3 d4 HBX HPL
      generalize xL.length = xn at *
      have i1 : k < N := hlt
      clear c0 c1 c2 c3 c4 hc hT hTb hst hle hN2 hk hkl hlt HV HVB hled hB1
      go_wp2_with fail
      obtain ⟨e0, e1, e2, e3, e4⟩ := HBX.out _ (Below.refl _ _)
      go_region_with (first | (go_at_call 10; refine (HY.out _ (by exact ((Below.refl _ wr).alloc (Nat.le_refl _) _).drew)).mono ?_; rintro e w5 ⟨yb, rfl, h2, hB⟩; obtain ⟨r0, r1, r2, r3, r4⟩ := HBX.out w5 (((Below.refl _ _).drew).trans (hB.mono (by simp))); have H5 := Lib.hid h2; clear h2 hB) | (go_at_call 9; refine (HPL.out _ _ H5.out).mono ?_; rintro e w6 ⟨⟨bb, rfl⟩, hled⟩; have H6 := Lib.hid hled; clear hled))
      all_goals
        go_wp2_with fail
        exact ⟨⟨k + 1, by have := HX.out; omega, by go_num, by rw [HN2.out]; exact H6.out⟩, by have := HX.out; simp [intOf]; omega⟩
    · have i1 : decide ((k : Int) < (N : Int)) = false := by rw [decide_eq_false_iff_not]; omega
      obtain ⟨S, who, nd, hG0, hT⟩ := hled.ex
      have hG : Gd S 7501 := hG0.mono (by have h1 := sumN_le l k; have h2 := HN.out.2; omega)
      have HT : Hid (∀ W, Below wr.heap.size wr W → Tr W w1.heap.size tb m who nd S) := fun W hb => hT.low hb
      have HB : Hid (Below w.heap.size w wr ∧ w.heap.size ≤ wr.heap.size) := ⟨hB1, hB1.size⟩
      have CD0 := Candidates_any hT space name (by omega) (by omega) (fun n hn => ⟨by have := (hG.srch _ _ hn).1; omega, fun p hp => by have := ((hG.srch _ _ hn).2 p hp).1; omega⟩)
      have CD : Hid (Calls Tryz.prog 17 #[.pointer (some ⟨tb, 0, none⟩), .string ⟨space.toArray⟩, .string ⟨name.toArray⟩] wr fun e w' => ∃ o c, e = .returned (.tuple #[.slice o (candS S space name).2.length c, .int .i64 (candS S space name).1]) ∧ TxtRow w' (.slice o (candS S space name).2.length c) (candS S space name).2 ∧ Below wr.heap.size wr w') := CD0.mono fun e w' ⟨o, c, he, ho, hB⟩ => ⟨o, c, he, TxtRow.of_owns ho, hB⟩
      clear CD0
      have HG := Lib.hid hG
      clear hG0 hG hT hled hB1 HLED
      cases hSk : S (canonN rootN space) with
      | none =>
        have EX : Hid (∀ W, Below wr.heap.size wr W → Calls Tryz.prog 12 #[.pointer (some ⟨tb, 0, none⟩), .string ⟨space.toArray⟩] W fun e w' => e = .returned (.bool false) ∧ Below W.heap.size W w') := fun W hb => by
          have := Exists_any (HT.out W hb) space (by omega)
          rw [hSk] at this
          exact this
        unfold candS at CD
        rw [hSk] at CD
        clear hSk
        simp only [List.length_nil] at CD
        go_wp2_with (first
          | (go_at_call 17; refine CD.out.mono ?_; rintro e w3 ⟨o3, c3, rfl, _, hB⟩; have H3 := Lib.hid hB; clear hB)
          | (go_at_call 12; refine (EX.out _ H3.out).mono ?_; rintro e w4 ⟨rfl, hB⟩; have H4 := Lib.hid (H3.out.trans (hB.mono H3.out.size)); clear hB H3)
          | (go_at_call 7; refine (AW.out _).mono ?_; rintro e wG ⟨rfl, hB⟩; have HGo := Lib.hid (HB.out.1.trans ((H4.out.trans (hB.mono H4.out.size)).mono HB.out.2)); clear hB H4))
        go_ret
        exact ⟨rfl, HGo.out⟩
      | some nn =>
        have hcp := canon_cp space
        by_cases hab : absN name = true
        · have hC : candS S space name = (0, [canonN rootN name]) := by unfold candS; rw [hSk]; simp only [hab, if_true]
          rw [hC] at CD
          obtain ⟨cn, hcn1⟩ : ∃ cn, cn = 1 := ⟨_, rfl⟩
          have CD2 : Hid (Calls Tryz.prog 17 #[.pointer (some ⟨tb, 0, none⟩), .string ⟨space.toArray⟩, .string ⟨name.toArray⟩] wr fun e w' => ∃ o c, e = .returned (.tuple #[.slice o cn c, .int .i64 0]) ∧ TxtRow w' (.slice o cn c) [canonN rootN name] ∧ Below wr.heap.size wr w') := by subst hcn1; exact CD
          have AB : Hid (∀ W, Calls Tryz.prog 18 #[.string ⟨name.toArray⟩] W fun e w' => e = .returned (.bool (absN name)) ∧ W = w') := fun W => Absolute_any name W
          rw [hab] at AB
          have C2 : Hid (∀ W, Calls Tryz.prog 19 #[.string ⟨#[58, 58]⟩, .string ⟨name.toArray⟩] W fun e w' => e = .returned (.string ⟨(canonN rootN name).toArray⟩) ∧ Below W.heap.size W w') := fun W => Canonical_any rootN name (by decide) (by omega) W
          clear CD hC hSk hcp
          generalize canonN rootN name = top at *
          go_wp2_with (go_at_call 17; refine CD2.out.mono ?_; rintro e w3 ⟨o3, c3, rfl, hR, hB⟩; have H3 : Hid (TxtRow w3 (.slice o3 cn c3) [top] ∧ Below wr.heap.size wr w3) := ⟨hR, hB⟩; clear hB hR)
          go_loopw [59] (fun q wq => ∃ i : Nat, i ≤ cn ∧ q = .int .i64 (i : Int) ∧ Below w3.heap.size w3 wq) (fun q _ => cn - (intOf q).toNat)
          case atStart => exact ⟨0, Nat.zero_le _, rfl, Below.refl _ _⟩
          case round =>
            obtain ⟨i, hi, rfl, hBi⟩ := hrel
            have HBI := Lib.hid hBi
            clear hBi
            by_cases hil : i < cn
            · have HI : Hid (i < cn ∧ cn = 1) := ⟨hil, hcn1⟩
              have i3 : decide ((i : Int) < (cn : Int)) = true := by rw [decide_eq_true_eq]; omega
              have hw1 : IntKind.i64.wrap ((i : Int) + 1) = (i : Int) + 1 := IntWalk.i64_in _ (by omega)
              go_wp2_with fail
              go_loopw [63] (fun q wq => ∃ j : Nat, j ≤ i ∧ q = .int .i64 (j : Int) ∧ Below w3.heap.size w3 wq) (fun q _ => i - (intOf q).toNat)
              case atStart => exact ⟨0, Nat.zero_le _, rfl, HBI.out⟩
              case round =>
                obtain ⟨j, hj, rfl, hBj⟩ := hrel
                have HBJ := Lib.hid hBj
                clear hBj
                have j3 : decide ((j : Int) < (i : Int)) = false := by rw [decide_eq_false_iff_not]; omega
                go_wp2_with fail
                exact ⟨⟨i + 1, by have := HI.out; omega, by go_num, HBJ.out⟩, by have := HI.out; simp [intOf]; omega⟩
            · have i3 : decide ((i : Int) < (cn : Int)) = false := by rw [decide_eq_false_iff_not]; omega
              obtain ⟨b, off, rfl, hbl, hc0⟩ := H3.out.1.at_.2.2.2 0 (by simp)
              have HC0 : Hid (∀ W, Below w3.heap.size w3 W → W.cell? ⟨b, off, none⟩ = some (.string ⟨top.toArray⟩)) := fun W hb => (hb.cell (p := ⟨b, off, none⟩) hbl).trans hc0
              have HP := HBI
              have d0 := HC0.out _ HP.out
              have l1 : 0 < cn := by omega
              have z1 : decide ((cn : Int) = 1) = true := by rw [decide_eq_true_eq]; omega
              have z2 : decide (cn = 1) = true := by rw [decide_eq_true_eq]; omega
              clear hc0 hi hil hcn1
              go_wp2_with (go_at_call 18; refine (AB.out _).mono ?_; rintro e w4 ⟨rfl, rfl⟩)
              all_goals first
                | (exfalso; have h1 := of_decide_eq_true z1; have h2 := of_decide_eq_false i3; rename_i h; omega)
                | skip
              go_region_held3 (fun w' => w'.cell? ⟨b, off, none⟩ = some (.string ⟨top.toArray⟩)) (first | go_keep | exact d0) (first
                | (go_at_call 19; refine (C2.out _).mono ?_; rintro e w6 ⟨rfl, hB⟩; have HP := Lib.hid ((show Below w3.heap.size w3 _ from by first | exact HP.out | exact HP.out.drew | exact below_drewN HP.out _).trans (hB.mono HP.out.size)); have d0 := HC0.out _ HP.out; clear hB)
                | (go_at_call 7; refine (AW.out _).mono ?_; rintro e wG ⟨rfl, hB⟩; have HP := Lib.hid ((show Below w3.heap.size w3 _ from by first | exact HP.out | exact HP.out.drew | exact below_drewN HP.out _).trans (hB.mono HP.out.size)); have d0 := HC0.out _ HP.out; have HGo := Lib.hid (HB.out.1.trans ((H3.out.2.trans (HP.out.mono H3.out.2.size)).mono HB.out.2)); clear hB))
              all_goals go_wp2_with fail
              all_goals (go_ret; exact ⟨rfl, HGo.out⟩)
        · rw [Bool.not_eq_true] at hab
          have hF := found_plain HG.out hSk hcp hab
          unfold candS at CD
          rw [hSk] at CD
          simp only [hab, if_false, Bool.false_eq_true] at CD
          have hcl : (candL S name ([canonN rootN space] ++ nn.search ++ [rootN])).length ≤ 10000 := by
            have h1 := cand_len S name ([canonN rootN space] ++ nn.search ++ [rootN]) []
            have h2 := (HG.out.srch _ _ hSk).1
            simp only [List.length_append, List.length_cons, List.length_nil] at h1
            unfold candL
            omega
          generalize candL S name ([canonN rootN space] ++ nn.search ++ [rootN]) = C at *
          obtain ⟨cn, hcn⟩ : ∃ cn, C.length = cn := ⟨_, rfl⟩
          have HC := Lib.hid hcn
          rw [hcn] at CD hcl
          have HF := Lib.hid hF
          clear hF hcn
          go_wp2_with (go_at_call 17; refine CD.out.mono ?_; rintro e w3 ⟨o3, c3, rfl, hR, hB⟩; have H3 : Hid (TxtRow w3 (.slice o3 cn c3) C ∧ Below wr.heap.size wr w3) := ⟨hR, hB⟩; clear hB hR)
          go_loopw [59] (fun q wq => ∃ i : Nat, i ≤ cn ∧ q = .int .i64 (i : Int) ∧ Below w3.heap.size w3 wq) (fun q _ => cn - (intOf q).toNat)
          case atStart => exact ⟨0, Nat.zero_le _, rfl, Below.refl _ _⟩
          case round =>
            obtain ⟨i, hi, rfl, hBi⟩ := hrel
            have HBI := Lib.hid hBi
            clear hBi
            by_cases hil : i < cn
            · obtain ⟨b, off, rfl, hbl, hci⟩ := H3.out.1.at_.2.2.2 i (by have := HC.out; omega)
              have hxi : C[i]? = some (C[i]'(by have := HC.out; omega)) := List.getElem?_eq_getElem _
              generalize C[i]'(by have := HC.out; omega) = x at *
              have HI : Hid (i < cn ∧ C[i]? = some x) := ⟨hil, hxi⟩
              have i3 : decide ((i : Int) < (cn : Int)) = true := by rw [decide_eq_true_eq]; omega
              have hw1 : IntKind.i64.wrap ((i : Int) + 1) = (i : Int) + 1 := IntWalk.i64_in _ (by omega)
              clear hi hxi
              go_wp2_with fail
              go_loopw [63] (fun q wq => ∃ j : Nat, j ≤ i ∧ q = .int .i64 (j : Int) ∧ Below w3.heap.size w3 wq) (fun q _ => i - (intOf q).toNat)
              case atStart => exact ⟨0, Nat.zero_le _, rfl, HBI.out⟩
              case round =>
                obtain ⟨j, hj, rfl, hBj⟩ := hrel
                have HBJ := Lib.hid hBj
                clear hBj
                by_cases hjl : j < i
                · have hjc : j < cn := by omega
                  have hjC : j < C.length := by have := HC.out; omega
                  obtain ⟨b', off', e, _, hcj⟩ := H3.out.1.at_.2.2.2 j hjC
                  cases e
                  have hne : (⟨x.toArray⟩ : ByteArray) ≠ ⟨(C[j]'hjC).toArray⟩ := fun e => by
                    have e' : x = C[j]'hjC := by simpa using e
                    have h1 := (List.getElem?_eq_some_iff.1 HI.out.2)
                    obtain ⟨h2, h3⟩ := h1
                    rw [← h3] at e'
                    exact (List.pairwise_iff_getElem.1 HF.out.nodup) j i hjC h2 hjl e'.symm
                  generalize C[j]'hjC = y at *
                  have hcx := (HBJ.out.cell (p := ⟨b, off + i, none⟩) hbl).trans hci
                  have hcy := (HBJ.out.cell (p := ⟨b, off + j, none⟩) hbl).trans hcj
                  unfold sv at hcx hcy
                  have hxy : (x == y) = false := by
                    rw [beq_eq_false_iff_ne]
                    intro e
                    exact hne (by rw [e])
                  have j3 : decide ((j : Int) < (i : Int)) = true := by rw [decide_eq_true_eq]; omega
                  have hw2 : IntKind.i64.wrap ((j : Int) + 1) = (j : Int) + 1 := IntWalk.i64_in _ (by omega)
                  have HJ : Hid (j < i) := hjl
                  clear hci hcj hj hjC
                  go_wp2_with fail
                  go_quiet (fail)
                  go_wp2_with fail
                  all_goals first | (rename_i hq; exact absurd hq (by rw [hxy]; simp)) | exact ⟨⟨j + 1, by have := HJ.out; omega, by go_num, below_drewN HBJ.out _⟩, by have := HJ.out; simp [intOf]; omega⟩
                · have j3 : decide ((j : Int) < (i : Int)) = false := by rw [decide_eq_false_iff_not]; omega
                  go_wp2_with fail
                  exact ⟨⟨i + 1, by have := HI.out; omega, by go_num, HBJ.out⟩, by have := HI.out; simp [intOf]; omega⟩
            · have i3 : decide ((i : Int) < (cn : Int)) = false := by rw [decide_eq_false_iff_not]; omega
              have hBX := HBI.out
              have AB : Hid (∀ W, Calls Tryz.prog 18 #[.string ⟨name.toArray⟩] W fun e w' => e = .returned (.bool (absN name)) ∧ W = w') := fun W => Absolute_any name W
              rw [hab] at AB
              have HBE := Lib.hid hBX
              clear hi hBX
              have hspl : (canonN rootN space).length ≤ 10000 := by
                obtain ⟨_, _, h3, _⟩ := HG.out.key (canonN rootN space) (by rw [hSk]; rfl)
                exact h3
              have C1 : Hid (∀ W, Calls Tryz.prog 19 #[.string ⟨#[58, 58]⟩, .string ⟨space.toArray⟩] W fun e w' => e = .returned (.string ⟨(canonN rootN space).toArray⟩) ∧ Below W.heap.size W w') := fun W => Canonical_any rootN space (by decide) (by omega) W
              have C2 : Hid (∀ W, Calls Tryz.prog 19 #[.string ⟨#[58, 58]⟩, .string ⟨name.toArray⟩] W fun e w' => e = .returned (.string ⟨(canonN rootN name).toArray⟩) ∧ Below W.heap.size W w') := fun W => Canonical_any rootN name (by decide) (by omega) W
              have C3 : Hid (∀ W, Calls Tryz.prog 19 #[.string ⟨(canonN rootN space).toArray⟩, .string ⟨name.toArray⟩] W fun e w' => e = .returned (.string ⟨(canonN (canonN rootN space) name).toArray⟩) ∧ Below W.heap.size W w') := fun W => Canonical_any (canonN rootN space) name (by omega) (by omega) W
              have SE : Hid (∀ W, Below w3.heap.size w3 W → Calls Tryz.prog 21 #[.pointer (some ⟨tb, 0, none⟩), .string ⟨(canonN rootN space).toArray⟩] W fun e w' => ∃ o c, e = .returned (.tuple #[.slice o nn.search.length c, .int .i64 0]) ∧ TxtRow w' (.slice o nn.search.length c) nn.search ∧ Below w3.heap.size w3 w') := fun W hb =>
                (Search_any (HT.out W (H3.out.2.trans (hb.mono H3.out.2.size))) (canonN rootN space) (by omega) (by rw [cp_self hcp]; exact hSk) (by have := (HG.out.srch _ _ hSk).1; omega)).mono fun e w' ⟨o, c, he, ho, hB⟩ => ⟨o, c, he, TxtRow.of_owns ho, hb.trans (hB.mono hb.size)⟩
              have LH : Hid (∀ W, Below w3.heap.size w3 W → Calls Tryz.prog 20 #[.slice o3 cn c3, .string ⟨(canonN rootN name).toArray⟩] W fun e w' => e = .returned (.bool true) ∧ W = w') := fun W hb => by
                have := lhas_any (H3.out.1.below hb) (by have := HC.out; omega) (canonN rootN name)
                rw [hasB_iff.2 HF.out.top] at this
                exact this
              have LS : Hid (∀ W o c, TxtRow W (.slice o nn.search.length c) nn.search → Calls Tryz.prog 20 #[.slice o nn.search.length c, .string ⟨#[58, 58]⟩] W fun e w' => e = .returned (.bool (hasB nn.search rootN)) ∧ W = w') := fun W o c h => lhas_any h (by have := (HG.out.srch _ _ hSk).1; omega) rootN
              have hx0 : ∃ h : 0 < C.length, C[0]'h = canonN (canonN rootN space) name := by
                obtain ⟨r, hr⟩ := HF.out.first
                subst hr
                exact ⟨by simp, rfl⟩
              obtain ⟨h0, hx0⟩ := hx0
              obtain ⟨b, off, rfl, hbl, hc0⟩ := H3.out.1.at_.2.2.2 0 h0
              obtain ⟨b', off', e, _, hcl1⟩ := H3.out.1.at_.2.2.2 (cn - 1) (by have := HC.out; omega)
              cases e
              rw [hx0] at hc0
              have hlast : canonN rootN space = rootN ∨ hasB nn.search rootN = true ∨ C[cn - 1]'(by have := HC.out; omega) = canonN rootN name := by
                rcases HF.out.last with h | h | ⟨r, hr⟩
                · exact .inl h
                · exact .inr (.inl (hasB_iff.2 h))
                · refine .inr (.inr ?_)
                  have := HC.out
                  subst hr
                  simp at this
                  simp [← this]
              have hcn0 : 0 < cn := by have := HC.out; omega
              generalize C[cn - 1]'(by have := HC.out; omega) = xl at *
              generalize canonN (canonN rootN space) name = x0 at *
              generalize canonN rootN space = sp at *
              generalize canonN rootN name = top at *
              have HC0 : Hid (∀ W, Below w3.heap.size w3 W → W.cell? ⟨b, off, none⟩ = some (.string ⟨x0.toArray⟩)) := fun W hb => (hb.cell (p := ⟨b, off, none⟩) hbl).trans hc0
              have HC1 : Hid (∀ W, Below w3.heap.size w3 W → W.cell? ⟨b, off + (cn - 1), none⟩ = some (.string ⟨xl.toArray⟩)) := fun W hb => (hb.cell (p := ⟨b, off + (cn - 1), none⟩) hbl).trans hcl1
              have z1 : decide ((cn : Int) = 0) = false := by rw [decide_eq_false_iff_not]; omega
              have hwl : IntKind.i64.wrap ((cn : Int) - 1) = ((cn - 1 : Nat) : Int) := by rw [IntWalk.i64_in _ (by omega)]; omega
              clear hc0 hcl1 hx0 h0 hSk hcp
              have HP := HBE
              go_wp2_with (first
                | (go_at_call 18; refine (AB.out _).mono ?_; rintro e w4 ⟨rfl, rfl⟩)
                | (go_at_call 19; (with_reducible first | refine (C1.out _).mono ?_ | refine (C2.out _).mono ?_); rintro e w5 ⟨rfl, hB⟩; have HP := Lib.hid (HP.out.trans (hB.mono HP.out.size)); clear hB))
              have d0 := HC0.out _ HP.out
              have l1 : 0 < cn := hcn0
              have z2 : decide (cn = 0) = false := by rw [decide_eq_false_iff_not]; omega
              have z3 : (cn == 0) = false := by rw [beq_eq_false_iff_ne]; omega
              have z4 : ((cn : Int) == 0) = false := by rw [beq_eq_false_iff_ne]; omega
              have z5 : cn ≠ 0 := by omega
              have z6 : (cn : Int) ≠ 0 := by omega
              go_region_held3 (fun w' => w'.cell? ⟨b, off, none⟩ = some (.string ⟨x0.toArray⟩)) (first | go_keep | exact d0) (first
                | (go_at_call 19; (with_reducible refine (C3.out _).mono ?_); rintro e w6 ⟨rfl, hB⟩; have HP := Lib.hid ((show Below w3.heap.size w3 _ from by first | exact HP.out | exact HP.out.drew | exact below_drewN HP.out _).trans (hB.mono HP.out.size)); have d0 := HC0.out _ HP.out; clear hB)
                | (go_at_call 20; refine (LH.out _ (by first | exact HP.out | exact HP.out.drew | exact below_drewN HP.out _)).mono ?_; rintro e w7 ⟨rfl, rfl⟩))
              all_goals
                cases hsb : hasB nn.search rootN
                all_goals
                  rw [hsb] at hlast
                  have LS2 : Hid (∀ W o c, TxtRow W (.slice o nn.search.length c) nn.search → Calls Tryz.prog 20 #[.slice o nn.search.length c, .string ⟨#[58, 58]⟩] W fun e w' => e = .returned (.bool _) ∧ W = w') := fun W o c h => by have := LS.out W o c h; rw [hsb] at this; exact this
                  clear LS
                  go_wp2_with (first
                    | (go_at_call 21; refine (SE.out _ (by first | exact HP.out | exact HP.out.drew | exact below_drewN HP.out _)).mono ?_; rintro e w8 ⟨o8, c8, rfl, hR8, hB⟩; have HP := Lib.hid hB; have HR8 := Lib.hid hR8; have dl := HC1.out _ HP.out; clear hB hR8)
                    | (go_at_call 20; refine (LS2.out _ _ _ HR8.out).mono ?_; rintro e w9 ⟨rfl, rfl⟩)
                    | (go_at_call 7; refine (AW.out _).mono ?_; rintro e wG ⟨rfl, hB⟩; have HGo := Lib.hid (HB.out.1.trans ((H3.out.2.trans (((show Below w3.heap.size w3 _ from by first | exact HP.out | exact HP.out.drew | exact below_drewN HP.out _).trans (hB.mono HP.out.size)).mono H3.out.2.size)).mono HB.out.2)); clear hB))
                  all_goals first
                    | (go_ret; exact ⟨rfl, HGo.out⟩)
                    | exact hlast.elim (fun h => absurd (show sp = [58, 58] from h) (by assumption)) (fun h => h.elim (fun h => by cases h) (fun h => absurd h (by assumption)))
theorem found_any (l : List AN) (ao : Option Addr) (cap : Nat) (hl : l.length ≤ 2000000) (hs : sumN l ≤ 4611686018427387904) (space name : Bs) (hp : space.length ≤ 140737488355328) (hq : name.length ≤ 140737488355328) (w : World) (hR : AR w.heap.size w ao l) :
    Calls Tryz.prog 4 #[.slice ao l.length cap, .string ⟨space.toArray⟩, .string ⟨name.toArray⟩] w fun e w' => e = .returned (.bool true) ∧ Below w.heap.size w w' := by
  by_cases h1 : lightN l = true
  · by_cases h2 : space.length + name.length ≤ 100
    · have h3 := h1
      unfold lightN at h3
      simp only [Bool.and_eq_true, decide_eq_true_eq] at h3
      exact found_yes l ao cap h3.1 h3.2 space name h2 w hR
    · exact found_not l ao cap hl hs space name w hR (.inr (by omega)) hp hq
  · exact found_not l ao cap hl hs space name w hR (.inl (by simpa using h1)) hp hq
end Go.Proofs.YtjgdfgpnmmkjfaaGreatDoor
