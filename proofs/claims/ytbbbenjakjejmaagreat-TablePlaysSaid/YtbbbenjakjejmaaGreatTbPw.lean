/- The walk of 'TablePlays'. -/
import Derived.Test.YtbbbenjakjejmaaGreatTbPl
import Derived.Test.YtbbbenjakjejmaaGreatTbPs
import Derived.Test.YtbbbenjakjejmaaGreatTbAwake
import Derived.Deep.RegionWith
namespace Go.Proofs.YtbbbenjakjejmaaGreat
set_option linter.unusedVariables false
set_option linter.unusedSimpArgs false
open Go.RowKit Go.MapKept Go.WideMaps
theorem light_len {l : List ActV} (h : lightB l = true) : l.length ≤ 60 ∧ ∀ x ∈ l, x.s.length ≤ 1500 ∧ x.t.length ≤ 1500 := by
  unfold lightB at h
  simp only [Bool.and_eq_true, decide_eq_true_eq] at h
  refine ⟨h.1, fun x hx => ?_⟩
  have := sumA_mem hx
  omega
def boxX (x : ActV) : Obj := .cells #[.int .i64 x.k, .int .i64 x.a, .string ⟨x.s.toArray⟩, .string ⟨x.t.toArray⟩] 30
theorem boxX_cells {w : World} {b : Nat} {x : ActV} (h : w.heap[b]? = some (boxX x)) : w.cell? ⟨b, 0, none⟩ = some (.int .i64 x.k) ∧ w.cell? ⟨b, 1, none⟩ = some (.int .i64 x.a) ∧ w.cell? ⟨b, 2, none⟩ = some (.string ⟨x.s.toArray⟩) ∧ w.cell? ⟨b, 3, none⟩ = some (.string ⟨x.t.toArray⟩) := by
  unfold boxX at h
  refine ⟨?_, ?_, ?_, ?_⟩ <;> simp [World.cell?, h]
theorem sa_any {B tb mn mh mk yb : Nat} {who : Own} {cb : Nat → Nat} {w : World} {S : TS} (h : Tw w B tb mn mh mk yb who cb S S) (hl : S.last ≤ 100000) (he : S.epoch ≤ 100000) (k a : Int) (ha : (Lit.int .i64 a).wf = true) (s t : Bs) (hs : s.length ≤ 100000) (ht : t.length ≤ 100000) :
    Calls Tryz.prog 9 #[.pointer (some ⟨tb, 0, none⟩), .pointer (some ⟨yb, 0, none⟩), .agg #[.int .i64 k, .int .i64 a, .string ⟨s.toArray⟩, .string ⟨t.toArray⟩]] w fun e w' => e = .returned (.bool true) ∧ Tw w' B tb mn mh mk yb who cb S S ∧ Below w.heap.size w w' := by
  cases hn : S.num a with
  | none => exact same_0 h hl he k a ha hn s t hs ht
  | some n =>
    obtain ⟨rfl, c, hc⟩ := num_some hn
    exact same_1 h hl he k hc s t hs ht
/-- The reference's table, just made, beside the program's. -/
theorem tw_new {w1 w w' : World} {B tb mn mh mk : Nat} {who : Own} {cb : Nat → Nat} (h : Tb w B tb mn mh mk who cb newT) : Calls Tryz.prog 7 #[] w fun e w' => ∃ yb, e = .returned (.pointer (some ⟨yb, 0, none⟩)) ∧ Tw w' B tb mn mh mk yb who cb newT newT ∧ Below w.heap.size w w' := by
  have H : Hid (∀ w', Below w.heap.size w w' → w'.heap[w.heap.size]? = some (.cells #[.slice none 0 0, .int .i64 0] 49 (0, 0)) → Tw w' B tb mn mh mk w.heap.size who cb newT newT) := fun w' hb hc =>
    ⟨h.low hb, wf_new, wf_new, h.none_at (Nat.le_refl _), [], .slice none 0 0, ⟨hc, ⟨rfl, .inl ⟨rfl, rfl⟩⟩, by simp [Value.ownBlock], h.base⟩, sim_new, fun r hr => (by cases hr), fun g hg => by simp [Value.ownBlock] at hg⟩
  clear h
  go_enter Tryz.func7, Tryz.ntmps7
  go_wp2
  go_ret
  exact ⟨w.heap.size, rfl, H.out _ ((Below.refl _ w).alloc (Nat.le_refl _) _) (heap_alloc_new w _), (Below.refl _ w).alloc (Nat.le_refl _) _⟩
/-- What the acts have left. -/
structure LedT (w1 : World) (B tb mn mh mk yb n : Nat) (w : World) : Prop where
  ex : ∃ S who cb, Tw w B tb mn mh mk yb who cb S S ∧ S.last ≤ n ∧ S.epoch ≤ n
  below : Below B w1 w
/-- Behind the act: the box of the act is what it was. -/
structure LedB (w1 : World) (B tb mn mh mk yb n : Nat) (b : Nat) (x : ActV) (w : World) : Prop where
  led : LedT w1 B tb mn mh mk yb n w
  box : w.heap[b]? = some (boxX x)
theorem LedT.play {w1 wr W : World} {B tb mn mh mk yb n : Nat} (h : LedT w1 B tb mn mh mk yb n wr) (hn : n ≤ 80000) (x : ActV) (hx : (Lit.int .i64 x.a).wf = true) (hs : x.s.length ≤ 100000) (ht : x.t.length ≤ 100000) (hb : Below (wr.heap.size + 1) (wr.alloc (boxX x)) W) :
    Calls Tryz.prog 8 #[.pointer (some ⟨tb, 0, none⟩), .pointer (some ⟨yb, 0, none⟩), .agg #[.int .i64 x.k, .int .i64 x.a, .string ⟨x.s.toArray⟩, .string ⟨x.t.toArray⟩]] W fun e w' => e = .returned (.bool true) ∧ LedB w1 B tb mn mh mk yb (n + 1) wr.heap.size x w' := by
  obtain ⟨S, who, cb, hT, hl, he⟩ := h.ex
  have hb0 : Below wr.heap.size wr (wr.alloc (boxX x)) := (Below.refl _ wr).alloc (Nat.le_refl _) _
  have hb1 : Below wr.heap.size wr W := hb0.trans (hb.mono (Nat.le_succ _))
  have hbx : W.heap[wr.heap.size]? = some (boxX x) := (hb.block wr.heap.size (by omega)).trans (heap_alloc_new wr (boxX x))
  refine (pl_any (hT.low hb1) (by omega) (by omega) x.k x.a hx x.s x.t hs ht).mono ?_
  rintro e w' ⟨he2, q⟩
  obtain ⟨S', who', cb', q1, q2, q3⟩ := q.ex
  have hlo : Below B wr W := ⟨hb1.os, hb1.tape, hb1.output, hb1.size, fun k hk => hb1.block k (by have := hT.tb.base; omega)⟩
  refine ⟨he2, ⟨⟨S', who', cb', q1, by omega, by omega⟩, h.below.trans (hlo.trans q.below)⟩, ?_⟩
  exact (q.keep wr.heap.size _ (0, 0) hbx (hT.tb.none_at (Nat.le_refl _))).trans hbx
theorem LedB.same {w1 W : World} {B tb mn mh mk yb n b : Nat} {x : ActV} (h : LedB w1 B tb mn mh mk yb n b x W) (hn : n ≤ 80000) (hx : (Lit.int .i64 x.a).wf = true) (hs : x.s.length ≤ 100000) (ht : x.t.length ≤ 100000) :
    Calls Tryz.prog 9 #[.pointer (some ⟨tb, 0, none⟩), .pointer (some ⟨yb, 0, none⟩), .agg #[.int .i64 x.k, .int .i64 x.a, .string ⟨x.s.toArray⟩, .string ⟨x.t.toArray⟩]] W fun e w' => e = .returned (.bool true) ∧ LedT w1 B tb mn mh mk yb n w' := by
  obtain ⟨S, who, cb, hT, hl, he⟩ := h.led.ex
  refine (sa_any hT (by omega) (by omega) x.k x.a hx x.s x.t hs ht).mono ?_
  rintro e w' ⟨he2, q, hb⟩
  exact ⟨he2, ⟨S, who, cb, q, hl, he⟩, h.led.below.trans ⟨hb.os, hb.tape, hb.output, hb.size, fun k hk => hb.block k (by have := hT.tb.base; omega)⟩⟩
theorem plays_not (l : List ActV) (ao : Option Addr) (cap : Nat) (hl : l.length ≤ 9223372036854775807) (hok : ∀ x ∈ l, AOk x) (w : World) (hR : ARow w.heap.size w ao l) (h : lightB l = false) :
    Calls Tryz.prog 3 #[.slice ao l.length cap] w fun e w' => e = .returned (.bool true) ∧ Below w.heap.size w w' := by
  have LI := Lib.hid (light_any l ao cap hl hok w hR)
  have AW := Lib.hid (fun W => awake_any W)
  generalize l.length = n at *
  clear hR hl hok
  rw [h] at LI
  clear h
  go_enter Tryz.func3, Tryz.ntmps3
  go_wp2_with (first | (go_at_call 4; refine LI.out.mono ?_; rintro e w1 ⟨rfl, hB⟩; have H1 := Lib.hid hB; clear hB) | (go_at_call 5; refine (AW.out _).mono ?_; rintro e w2 ⟨rfl, hB⟩; have H2 := Lib.hid (H1.out.trans (hB.mono H1.out.size)); clear hB))
  go_ret
  exact ⟨rfl, H2.out⟩
set_option maxRecDepth 100000 in
set_option maxHeartbeats 3200000 in
theorem plays_yes (l : List ActV) (ao : Option Addr) (cap : Nat) (hlt : lightB l = true) (hok : ∀ x ∈ l, AOk x) (w : World) (hR : ARow w.heap.size w ao l) :
    Calls Tryz.prog 3 #[.slice ao l.length cap] w fun e w' => e = .returned (.bool true) ∧ Below w.heap.size w w' := by
  obtain ⟨hl60, hlen⟩ := light_len hlt
  have LI : Hid (Calls Tryz.prog 4 #[.slice ao l.length cap] w fun e w' => e = .returned (.bool true) ∧ Below w.heap.size w w') := by
    have := light_any l ao cap (by omega) hok w hR
    rw [hlt] at this
    exact this
  have AW := Lib.hid (fun W => awake_any W)
  have NW := Lib.hid (fun W => tNew_any W)
  have NY : Hid (∀ (W : World) (tb mn mh mk : Nat) (who : Own) (cb : Nat → Nat) (B : Nat), Tb W B tb mn mh mk who cb newT → Calls Tryz.prog 7 #[] W fun e w' => ∃ yb, e = .returned (.pointer (some ⟨yb, 0, none⟩)) ∧ Tw w' B tb mn mh mk yb who cb newT newT ∧ Below W.heap.size W w') := fun W tb mn mh mk who cb B h => tw_new (w1 := W) (w' := W) h
  have HR := Lib.hid hR
  have HL := Lib.hid (And.intro hlen hok)
  obtain ⟨N, hN⟩ : ∃ N, l.length = N := ⟨_, rfl⟩
  have HN := Lib.hid hN
  rw [hN] at LI hl60 ⊢
  clear hR hlt hN hlen hok
  go_enter Tryz.func3, Tryz.ntmps3
  go_wp2_with (first
    | (go_at_call 4; refine LI.out.mono ?_; rintro e w1 ⟨rfl, hB⟩; have H1 := Lib.hid hB; clear hB)
    | (go_at_call 6; refine (NW.out _).mono ?_; rintro e w2 ⟨tb, mn, mh, mk, who0, cb0, rfl, hT, hB⟩; have H2 := Lib.hid (And.intro hT hB); clear hT hB)
    | (go_at_call 7; refine (NY.out _ _ _ _ _ _ _ _ H2.out.1).mono ?_; rintro e w3 ⟨yb, rfl, hT, hB⟩; have H3 : Hid (LedT w1 w1.heap.size tb mn mh mk yb 0 w3) := ⟨⟨newT, who0, cb0, hT, Nat.le_refl _, Nat.le_refl _⟩, H2.out.2.trans (hB.mono H2.out.2.size)⟩; clear hT hB))
  go_loopw [15] (fun i wr => ∃ k : Nat, k ≤ N ∧ i = .int .i64 (k : Int) ∧ LedT w1 w1.heap.size tb mn mh mk yb k wr) (fun i _ => N - (intOf i).toNat)
  case atStart => exact ⟨0, Nat.zero_le _, rfl, H3.out⟩
  case round =>
    obtain ⟨k, hk, rfl, hled⟩ := hrel
    have HLED := Lib.hid hled
    have hB1 : Below w.heap.size w wr := H1.out.trans (hled.below.mono H1.out.size)
    by_cases hlt : k < N
    · have hkl : k < l.length := by have := HN.out; omega
      obtain ⟨b, off, rfl, hbl, hc⟩ := HR.out (by intro h; rw [h] at hkl; simp at hkl)
      obtain ⟨c0, c1, c2, c3⟩ := hc k hkl
      have d0 := (hB1.cell (p := ⟨b, _, none⟩) hbl).trans c0
      have d1 := (hB1.cell (p := ⟨b, _, none⟩) hbl).trans c1
      have d2 := (hB1.cell (p := ⟨b, _, none⟩) hbl).trans c2
      have d3 := (hB1.cell (p := ⟨b, _, none⟩) hbl).trans c3
      have hxl := HL.out.1 l[k] (List.getElem_mem _)
      have hxo := HL.out.2 l[k] (List.getElem_mem _)
      generalize l[k] = x at *
      have HPL : Hid (∀ W, Below (wr.heap.size + 1) (wr.alloc (boxX x)) W → Calls Tryz.prog 8 #[.pointer (some ⟨tb, 0, none⟩), .pointer (some ⟨yb, 0, none⟩), .agg #[.int .i64 x.k, .int .i64 x.a, .string ⟨x.s.toArray⟩, .string ⟨x.t.toArray⟩]] W fun e w' => e = .returned (.bool true) ∧ LedB w1 w1.heap.size tb mn mh mk yb (k + 1) wr.heap.size x w') := fun W hb => HLED.out.play (by omega) x hxo.2.1 (by omega) (by omega) hb
      have HSA : Hid (∀ W, LedB w1 w1.heap.size tb mn mh mk yb (k + 1) wr.heap.size x W → Calls Tryz.prog 9 #[.pointer (some ⟨tb, 0, none⟩), .pointer (some ⟨yb, 0, none⟩), .agg #[.int .i64 x.k, .int .i64 x.a, .string ⟨x.s.toArray⟩, .string ⟨x.t.toArray⟩]] W fun e w' => e = .returned (.bool true) ∧ LedT w1 w1.heap.size tb mn mh mk yb (k + 1) w') := fun W h => h.same (by omega) hxo.2.1 (by omega) (by omega)
      have HBX : Hid (∀ W, Below (wr.heap.size + 1) (wr.alloc (boxX x)) W → W.cell? ⟨wr.heap.size, 0, none⟩ = some (.int .i64 x.k) ∧ W.cell? ⟨wr.heap.size, 1, none⟩ = some (.int .i64 x.a) ∧ W.cell? ⟨wr.heap.size, 2, none⟩ = some (.string ⟨x.s.toArray⟩) ∧ W.cell? ⟨wr.heap.size, 3, none⟩ = some (.string ⟨x.t.toArray⟩)) := fun W hb => boxX_cells ((hb.block wr.heap.size (by omega)).trans (heap_alloc_new wr (boxX x)))
      have HBY : Hid (∀ W, LedB w1 w1.heap.size tb mn mh mk yb (k + 1) wr.heap.size x W → W.cell? ⟨wr.heap.size, 0, none⟩ = some (.int .i64 x.k) ∧ W.cell? ⟨wr.heap.size, 1, none⟩ = some (.int .i64 x.a) ∧ W.cell? ⟨wr.heap.size, 2, none⟩ = some (.string ⟨x.s.toArray⟩) ∧ W.cell? ⟨wr.heap.size, 3, none⟩ = some (.string ⟨x.t.toArray⟩)) := fun W hb => boxX_cells hb.box
      have hw1 : IntKind.i64.wrap ((k : Int) + 1) = (k : Int) + 1 := IntWalk.i64_in _ (by omega)
      obtain ⟨xk, xa, xs, xt⟩ := x
      unfold boxX at HBX HPL
      simp only at d0 d1 d2 d3 HBX HBY HPL HSA
      have i1 : k < N := hlt
      have HK := Lib.hid hlt
      obtain ⟨e0, e1, e2, e3⟩ := HBX.out _ (Below.refl _ _)
      clear c0 c1 c2 c3 hc hk hkl hlt hled hB1 hxl hxo
      go_wp2_with (first
        | (go_at_call 8; refine (HPL.out _ (by exact Below.refl _ _)).mono ?_; rintro e w5 ⟨rfl, hled⟩; obtain ⟨r0, r1, r2, r3⟩ := HBY.out w5 hled; have H5 := Lib.hid hled; clear hled)
        | (go_at_call 9; refine (HSA.out _ H5.out).mono ?_; rintro e w6 ⟨rfl, hled⟩; have H6 := Lib.hid hled; clear hled))
      exact ⟨⟨k + 1, by have := HK.out; omega, by go_num, H6.out⟩, by have := HK.out; simp [intOf]; omega⟩
    · obtain rfl : k = N := by omega
      have i1 : decide ((k : Int) < (k : Int)) = false := by rw [decide_eq_false_iff_not]; omega
      have HB := Lib.hid hB1
      clear hB1 hled hk hlt
      go_wp2_with (go_at_call 5; refine (AW.out _).mono ?_; rintro e w7 ⟨rfl, hB⟩; have H7 := Lib.hid (HB.out.trans (hB.mono HB.out.size)); clear hB)
      go_ret
      exact ⟨rfl, H7.out⟩
theorem plays_any (l : List ActV) (ao : Option Addr) (cap : Nat) (hl : l.length ≤ 9223372036854775807) (hok : ∀ x ∈ l, AOk x) (w : World) (hR : ARow w.heap.size w ao l) :
    Calls Tryz.prog 3 #[.slice ao l.length cap] w fun e w' => e = .returned (.bool true) ∧ Below w.heap.size w w' := by
  cases h : lightB l with
  | false => exact plays_not l ao cap hl hok w hR h
  | true => exact plays_yes l ao cap h hok w hR
end Go.Proofs.YtbbbenjakjejmaaGreat
