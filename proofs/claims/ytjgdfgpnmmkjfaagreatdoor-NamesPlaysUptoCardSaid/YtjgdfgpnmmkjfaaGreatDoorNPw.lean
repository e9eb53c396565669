/- The walk of 'NamesPlays'. -/
import Derived.Test.YtjgdfgpnmmkjfaaGreatDoorNPm
import Derived.Test.YtjgdfgpnmmkjfaaGreatDoorNPs
import Derived.Test.YtjgdfgpnmmkjfaaGreatDoorNTreeW
import Derived.Deep.RegionWith
namespace Go.Proofs.YtjgdfgpnmmkjfaaGreatDoor
set_option linter.unusedVariables false
set_option linter.unusedSimpArgs false
open Go.RowKit Go.MapKept
theorem RNodeAt.down {w : World} {B B' : Nat} {who : Own} {k : Bs} {b : Nat} {n : ND} (h : RNodeAt w B who k b n) (hB : B' ≤ B) : RNodeAt w B' who k b n := by
  obtain ⟨h1, vs, ve, h2, h3, h4, h5, h6⟩ := h
  exact ⟨h1, vs, ve, h2, row_base h3 hB, h4, row_base h5 hB, h6⟩
theorem RTr.down {w : World} {B B' yb : Nat} {who : Own} {nd : Bs → Option Nat} {S : Bs → Option ND} {l : List Bs} (h : RTr w B yb who nd S l) (hB : B' ≤ B) : RTr w B' yb who nd S l := by
  obtain ⟨lv, c1, c2, c3⟩ := h.cel
  exact ⟨⟨lv, c1, row_base c2 hB, c3⟩, h.mem, h.nodup, h.wyb, h.same, fun k b n h1 h2 => (h.node k b n h1 h2).down hB, fun j hj => ⟨by have := (h.lo j hj).1; omega, (h.lo j hj).2⟩⟩
theorem tn_new {W W' : World} {B tb m yb : Nat} {who whoY : Own} {nd ndY : Bs → Option Nat} (hT : Tr W B tb m who nd newS) (hy : RTr W' W.heap.size yb whoY ndY newS [rootN]) (hB : Below W.heap.size W W') : Tn W' B tb m yb who whoY newS newS :=
  ⟨⟨nd, hT.low hB⟩, ⟨ndY, _, hy.down hT.base⟩, fun j hj => none_of_lo hy.lo (.inr (hT.lo j hj).2)⟩
/-- What the acts have left. -/
structure LedN (w1 : World) (B tb m yb n : Nat) (w : World) : Prop where
  ex : ∃ S who whoY, Tn w B tb m yb who whoY S S ∧ Gd S n ∧ Gx S
  below : Below B w1 w
/-- Behind the act: the box of the act is what it was. -/
structure LedO (w1 : World) (B tb m yb n : Nat) (b : Nat) (x : AN) (w : World) : Prop where
  led : LedN w1 B tb m yb n w
  box : w.heap[b]? = some (boxA x)
theorem LedN.play {w1 wr W : World} {B tb m yb n n2 : Nat} (h : LedN w1 B tb m yb n wr) (hn : n ≤ 50000) (x : AN) (hx : x.sum ≤ 1500) (hn2 : n + 5 * x.sum = n2) (hv : ∀ W, Below B w1 W → TxtRow W (.slice x.lo x.L.length x.lc) x.L) (hvb : ∀ o, x.lo = some o → 0 < x.L.length → o.block < B) (hb : Below (wr.heap.size + 1) (wr.alloc (boxA x)) W) :
    Calls Tryz.prog 9 #[.pointer (some ⟨tb, 0, none⟩), .pointer (some ⟨yb, 0, none⟩), .agg #[.int .i64 x.k, .string ⟨x.s.toArray⟩, .string ⟨x.t.toArray⟩, .slice x.lo x.L.length x.lc, .bool x.cl]] W fun e w' => e = .returned (.bool true) ∧ LedO w1 B tb m yb n2 wr.heap.size x w' := by
  subst hn2
  obtain ⟨S, who, whoY, hT, hG, hX⟩ := h.ex
  have hb0 : Below wr.heap.size wr (wr.alloc (boxA x)) := (Below.refl _ wr).alloc (Nat.le_refl _) _
  have hb1 : Below wr.heap.size wr W := hb0.trans (hb.mono (Nat.le_succ _))
  have hbx : W.heap[wr.heap.size]? = some (boxA x) := (hb.block wr.heap.size (by omega)).trans (heap_alloc_new wr (boxA x))
  have hlo : Below B wr W := lowBl hb1 hT.base
  refine (nl_any (hT.low hb1) ⟨hG, hn⟩ x hx (hv W (h.below.trans hlo)) hvb).mono ?_
  rintro e w' ⟨he2, q⟩
  obtain ⟨S', who', whoY', hp, q1⟩ := q.ex
  refine ⟨he2, ⟨⟨S', who', whoY', q1, gd_play hG hx hp, gx_play hX hx hp⟩, h.below.trans (hlo.trans q.below)⟩, ?_⟩
  exact (q.keep wr.heap.size _ _ (0, 0) hbx (none_of_lo hT.lo (.inl (Nat.le_refl _))) (none_of_lo hT.loY (.inl (Nat.le_refl _)))).trans hbx
theorem LedO.same {w1 W : World} {B tb m yb n b : Nat} {x : AN} (h : LedO w1 B tb m yb n b x W) (hn : n ≤ 50000) (hx : x.sum ≤ 1500) :
    Calls Tryz.prog 22 #[.pointer (some ⟨tb, 0, none⟩), .pointer (some ⟨yb, 0, none⟩), .agg #[.int .i64 x.k, .string ⟨x.s.toArray⟩, .string ⟨x.t.toArray⟩, .slice x.lo x.L.length x.lc, .bool x.cl]] W fun e w' => e = .returned (.bool true) ∧ LedN w1 B tb m yb n w' := by
  obtain ⟨S, who, whoY, hT, hG, hX⟩ := h.led.ex
  obtain ⟨ks, hks⟩ := keys_of hG.cnt
  obtain ⟨h1, h2, _, _⟩ := an_fit hx
  refine (ns_any hT ⟨hG, hn⟩ hX hks x.k x.s x.t h1 h2 x.lo x.L.length x.lc x.cl).mono ?_
  rintro e w' ⟨he2, q, hb⟩
  exact ⟨he2, ⟨S, who, whoY, q, hG, hX⟩, h.led.below.trans (lowBl hb hT.base)⟩
theorem nplays_not (l : List AN) (ao : Option Addr) (cap : Nat) (hl : l.length ≤ 2000000) (hs : sumN l ≤ 4611686018427387904) (w : World) (hR : AR w.heap.size w ao l) (h : lightN l = false) :
    Calls Tryz.prog 5 #[.slice ao l.length cap] w fun e w' => e = .returned (.bool true) ∧ Below w.heap.size w w' := by
  have LI := Lib.hid (light_any l ao cap hl hs w hR)
  have AW := Lib.hid (fun W => awake_any W)
  generalize l.length = n at *
  clear hR hl hs
  rw [h] at LI
  clear h
  go_enter Tryz.func5, Tryz.ntmps5
  go_wp2_with (first | (go_at_call 6; refine LI.out.mono ?_; rintro e w1 ⟨rfl, hB⟩; have H1 := Lib.hid hB; clear hB) | (go_at_call 7; refine (AW.out _).mono ?_; rintro e w2 ⟨rfl, hB⟩; have H2 := Lib.hid (H1.out.trans (hB.mono H1.out.size)); clear hB))
  go_ret
  exact ⟨rfl, H2.out⟩
set_option maxRecDepth 100000 in
set_option maxHeartbeats 3200000 in
theorem nplays_yes (l : List AN) (ao : Option Addr) (cap : Nat) (h40 : l.length ≤ 40) (hs : sumN l ≤ 1500) (w : World) (hR : AR w.heap.size w ao l) :
    Calls Tryz.prog 5 #[.slice ao l.length cap] w fun e w' => e = .returned (.bool true) ∧ Below w.heap.size w w' := by
  have hlt0 : lightN l = true := by unfold lightN; rw [Bool.and_eq_true]; simp [h40, hs]
  have LI : Hid (Calls Tryz.prog 6 #[.slice ao l.length cap] w fun e w' => e = .returned (.bool true) ∧ Below w.heap.size w w') := by
    have := light_any l ao cap (by omega) (by omega) w hR
    rw [hlt0] at this
    exact this
  have AW := Lib.hid (fun W => awake_any W)
  have NW := Lib.hid (fun W => nNew_tr W)
  have NY : Hid (∀ (W : World) (tb m : Nat) (who : Own) (nd : Bs → Option Nat) (B : Nat), Tr W B tb m who nd newS → Calls Tryz.prog 10 #[] W fun e w' => ∃ yb whoY, e = .returned (.pointer (some ⟨yb, 0, none⟩)) ∧ Tn w' B tb m yb who whoY newS newS ∧ Below W.heap.size W w') := fun W tb m who nd B h => (rNew_tr W).mono fun e w' ⟨yb, whoY, ndY, he, hy, hB⟩ => ⟨yb, whoY, he, tn_new h hy hB, hB⟩
  have HR := Lib.hid hR
  obtain ⟨N, hN⟩ : ∃ N, l.length = N := ⟨_, rfl⟩
  have HN := Lib.hid (And.intro hN hs)
  rw [hN] at LI h40 ⊢
  clear hR hlt0 hN hs
  go_enter Tryz.func5, Tryz.ntmps5
  go_wp2_with (first
    | (go_at_call 6; refine LI.out.mono ?_; rintro e w1 ⟨rfl, hB⟩; have H1 := Lib.hid hB; clear hB)
    | (go_at_call 8; refine (NW.out _).mono ?_; rintro e w2 ⟨tb, m, who0, nd0, rfl, hT, hB⟩; have H2 := Lib.hid (And.intro hT hB); clear hT hB)
    | (go_at_call 10; refine (NY.out _ _ _ _ _ _ H2.out.1).mono ?_; rintro e w3 ⟨yb, whoY0, rfl, hT, hB⟩; have H3 : Hid (LedN w1 w1.heap.size tb m yb 1 w3) := ⟨⟨newS, who0, whoY0, hT, gd_new, gx_new⟩, H2.out.2.trans (hB.mono H2.out.2.size)⟩; clear hT hB))
  go_loopw [15] (fun i wr => ∃ k : Nat, k ≤ N ∧ i = .int .i64 (k : Int) ∧ LedN w1 w1.heap.size tb m yb (1 + 5 * sumN (l.take k)) wr) (fun i _ => N - (intOf i).toNat)
  case atStart => exact ⟨0, Nat.zero_le _, rfl, by simpa [sumN] using H3.out⟩
  case round =>
    obtain ⟨k, hk, rfl, hled⟩ := hrel
    have HLED := Lib.hid hled
    have hB1 : Below w.heap.size w wr := H1.out.trans (hled.below.mono H1.out.size)
    by_cases hlt : k < N
    · have hkl : k < l.length := by have := HN.out.1; omega
      obtain ⟨b, off, rfl, hbl, hc⟩ := HR.out.row (by intro h; rw [h] at hkl; simp at hkl)
      obtain ⟨c0, c1, c2, c3, c4⟩ := hc k hkl
      have d0 := (hB1.cell (p := ⟨b, _, none⟩) hbl).trans c0
      have d1 := (hB1.cell (p := ⟨b, _, none⟩) hbl).trans c1
      have d2 := (hB1.cell (p := ⟨b, _, none⟩) hbl).trans c2
      have d3 := (hB1.cell (p := ⟨b, _, none⟩) hbl).trans c3
      have d4 := (hB1.cell (p := ⟨b, _, none⟩) hbl).trans c4
      have hst := sumN_take hkl
      have hle := sumN_le l (k + 1)
      have hN2 := HN.out.2
      obtain ⟨hT, hTb⟩ := HR.out.txt l[k] (List.getElem_mem _)
      generalize l[k] = x at *
      have HX : Hid (x.sum ≤ 1500 ∧ 1 + 5 * sumN (l.take (k + 1)) ≤ 50000) := ⟨by omega, by omega⟩
      have hn12 : 1 + 5 * sumN (l.take k) + 5 * x.sum = 1 + 5 * sumN (l.take (k + 1)) := by omega
      have HV : Hid (∀ W, Below w1.heap.size w1 W → TxtRow W (.slice x.lo x.L.length x.lc) x.L) := fun W hb => hT.base hTb (H1.out.trans (hb.mono H1.out.size))
      have HVB : Hid (∀ o, x.lo = some o → 0 < x.L.length → o.block < w1.heap.size) := fun o ho hp => by have := hTb o ho hp; have := H1.out.size; omega
      obtain ⟨n2, hn2⟩ : ∃ n2, 1 + 5 * sumN (l.take (k + 1)) = n2 := ⟨_, rfl⟩
      have HN2 := Lib.hid hn2
      rw [hn2] at hn12 HX
      have HPL : Hid (∀ W, Below (wr.heap.size + 1) (wr.alloc (boxA x)) W → Calls Tryz.prog 9 #[.pointer (some ⟨tb, 0, none⟩), .pointer (some ⟨yb, 0, none⟩), .agg #[.int .i64 x.k, .string ⟨x.s.toArray⟩, .string ⟨x.t.toArray⟩, .slice x.lo x.L.length x.lc, .bool x.cl]] W fun e w' => e = .returned (.bool true) ∧ LedO w1 w1.heap.size tb m yb n2 wr.heap.size x w') := fun W hb => HLED.out.play (by have := HX.out.2; omega) x HX.out.1 hn12 HV.out HVB.out hb
      have HSA : Hid (∀ W, LedO w1 w1.heap.size tb m yb n2 wr.heap.size x W → Calls Tryz.prog 22 #[.pointer (some ⟨tb, 0, none⟩), .pointer (some ⟨yb, 0, none⟩), .agg #[.int .i64 x.k, .string ⟨x.s.toArray⟩, .string ⟨x.t.toArray⟩, .slice x.lo x.L.length x.lc, .bool x.cl]] W fun e w' => e = .returned (.bool true) ∧ LedN w1 w1.heap.size tb m yb n2 w') := fun W h => h.same HX.out.2 HX.out.1
      have HBX : Hid (∀ W, Below (wr.heap.size + 1) (wr.alloc (boxA x)) W → W.cell? ⟨wr.heap.size, 0, none⟩ = some (.int .i64 x.k) ∧ W.cell? ⟨wr.heap.size, 1, none⟩ = some (.string ⟨x.s.toArray⟩) ∧ W.cell? ⟨wr.heap.size, 2, none⟩ = some (.string ⟨x.t.toArray⟩) ∧ W.cell? ⟨wr.heap.size, 3, none⟩ = some (.slice x.lo x.L.length x.lc) ∧ W.cell? ⟨wr.heap.size, 4, none⟩ = some (.bool x.cl)) := fun W hb => vcells5 ((hb.block wr.heap.size (by omega)).trans (heap_alloc_new wr (boxA x)))
      have HBY : Hid (∀ W, LedO w1 w1.heap.size tb m yb n2 wr.heap.size x W → W.cell? ⟨wr.heap.size, 0, none⟩ = some (.int .i64 x.k) ∧ W.cell? ⟨wr.heap.size, 1, none⟩ = some (.string ⟨x.s.toArray⟩) ∧ W.cell? ⟨wr.heap.size, 2, none⟩ = some (.string ⟨x.t.toArray⟩) ∧ W.cell? ⟨wr.heap.size, 3, none⟩ = some (.slice x.lo x.L.length x.lc) ∧ W.cell? ⟨wr.heap.size, 4, none⟩ = some (.bool x.cl)) := fun W hb => vcells5 hb.box
      have hw1 : IntKind.i64.wrap ((k : Int) + 1) = (k : Int) + 1 := IntWalk.i64_in _ (by omega)
      clear hn2 hn12 hst hle hN2 HV HVB hT hTb
      unfold boxA at HBX HPL
      obtain ⟨xk, xs, xt, xL, xc, xo, xlc⟩ := x
      simp only at d0 d1 d2 d3 d4 HBX HBY HPL HSA
      generalize 1 + 5 * sumN (l.take k) = n1 at *
      generalize xL.length = xn at *
      have i1 : k < N := hlt
      have HK := Lib.hid hlt
      obtain ⟨e0, e1, e2, e3, e4⟩ := HBX.out _ (Below.refl _ _)
      clear c0 c1 c2 c3 c4 hc hk hkl hlt hled hB1 HX HLED
      go_wp2_with (first
        | (go_at_call 9; refine (HPL.out _ (by exact Below.refl _ _)).mono ?_; rintro e w5 ⟨rfl, hled⟩; obtain ⟨r0, r1, r2, r3, r4⟩ := HBY.out w5 hled; have H5 := Lib.hid hled; clear hled)
        | (go_at_call 22; refine (HSA.out _ H5.out).mono ?_; rintro e w6 ⟨rfl, hled⟩; have H6 := Lib.hid hled; clear hled))
      exact ⟨⟨k + 1, by have := HK.out; omega, by go_num, by rw [HN2.out]; exact H6.out⟩, by have := HK.out; simp [intOf]; omega⟩
    · obtain rfl : k = N := by omega
      have i1 : decide ((k : Int) < (k : Int)) = false := by rw [decide_eq_false_iff_not]; omega
      have HB := Lib.hid hB1
      clear hB1 hled hk hlt
      go_wp2_with (go_at_call 7; refine (AW.out _).mono ?_; rintro e w7 ⟨rfl, hB⟩; have H7 := Lib.hid (HB.out.trans (hB.mono HB.out.size)); clear hB)
      go_ret
      exact ⟨rfl, H7.out⟩
theorem nplays_any (l : List AN) (ao : Option Addr) (cap : Nat) (hl : l.length ≤ 2000000) (hs : sumN l ≤ 4611686018427387904) (w : World) (hR : AR w.heap.size w ao l) :
    Calls Tryz.prog 5 #[.slice ao l.length cap] w fun e w' => e = .returned (.bool true) ∧ Below w.heap.size w w' := by
  by_cases h1 : lightN l = true
  · have h3 := h1
    unfold lightN at h3
    simp only [Bool.and_eq_true, decide_eq_true_eq] at h3
    exact nplays_yes l ao cap h3.1 h3.2 w hR
  · exact nplays_not l ao cap hl hs w hR (by simpa using h1)
end Go.Proofs.YtjgdfgpnmmkjfaaGreatDoor
