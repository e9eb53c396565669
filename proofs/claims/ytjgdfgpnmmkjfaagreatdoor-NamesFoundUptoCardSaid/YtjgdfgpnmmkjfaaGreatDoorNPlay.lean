/- 'play' of an act upon a tree and upon one of the reference's that was just made. -/
import Derived.Test.YtjgdfgpnmmkjfaaGreatDoorNLight
import Derived.Deep.RegionHeld3
namespace Go.Proofs.YtjgdfgpnmmkjfaaGreatDoor
set_option linter.unusedVariables false
set_option linter.unusedSimpArgs false
open Go.RowKit Go.MapKept

/-- What an act makes of a tree. -/
def PlayR (S : Bs → Option ND) (a : AN) (S' : Bs → Option ND) : Prop :=
  if a.k = 0 then S' = makeS S a.s
  else if a.k = 1 then (S (canonN rootN a.s) = none ∧ S' = S) ∨ ∃ ks, KeysOf S ks ∧ (S (canonN rootN a.s)).isSome = true ∧ S' = delS S (canonN rootN a.s) ks
  else if a.k = 2 then S' = (srchS S a.s a.L).2
  else if a.k = 3 then S' = (expS S a.s a.L a.cl).2
  else if a.k = 4 then S' = (unkS S a.s a.t).2
  else S' = S
def boxA (a : AN) : Obj := .cells #[.int .i64 a.k, .string ⟨a.s.toArray⟩, .string ⟨a.t.toArray⟩, .slice a.lo a.L.length a.lc, .bool a.cl] 29
theorem vcells5 {W : World} {b : Nat} {u v x y z : Value} {t : TypeId} (h : W.heap[b]? = some (.cells #[u, v, x, y, z] t (0, 0))) : W.cell? ⟨b, 0, none⟩ = some u ∧ W.cell? ⟨b, 1, none⟩ = some v ∧ W.cell? ⟨b, 2, none⟩ = some x ∧ W.cell? ⟨b, 3, none⟩ = some y ∧ W.cell? ⟨b, 4, none⟩ = some z := by
  refine ⟨?_, ?_, ?_, ?_, ?_⟩ <;> (simp only [World.cell?, h]; rfl)
/-- An act that a tree bears. -/
structure Fit (S : Bs → Option ND) (a : AN) : Prop where
  s : a.s.length ≤ 20000
  L : ∀ p ∈ a.L, p.length ≤ 20000
  n : a.L.length ≤ 100000
  cnt : Cnt S 100000
  key : ∀ k, (S k).isSome = true → k.length ≤ 100000
  exp : ∀ k n, S k = some n → n.exports.length ≤ 100000
/-- Two trees apart. -/
structure Two (w : World) (B tb m : Nat) (S : Bs → Option ND) (By yb : Nat) (W : World) : Prop where
  ex : ∃ who nd whoY ndY, Tr W B tb m who nd S ∧ RTr W By yb whoY ndY newS [rootN] ∧ (∀ j, who j ≠ none → whoY j = none) ∧ ∀ j, j < B → who j = none ∧ whoY j = none
  below : Below B w W
  le : B ≤ By
/-- Between the two calls of an act. -/
structure Mid (w : World) (B tb m : Nat) (S' : Bs → Option ND) (By yb : Nat) (bx : Nat) (o : Obj) (w1 : World) : Prop where
  ex : ∃ who nd whoY ndY, Tr w1 B tb m who nd S' ∧ RTr w1 By yb whoY ndY newS [rootN] ∧ (∀ j, who j ≠ none → whoY j = none) ∧ ∀ j, bx ≤ j → whoY j = none
  below : Below B w w1
  le : B ≤ By
  box : w1.heap[bx]? = some o
/-- Behind an act. -/
def PlayE (w : World) (B tb m : Nat) (S : Bs → Option ND) (a : AN) (e : Ending) (w' : World) : Prop := ABool e ∧ ∃ S' who nd, PlayR S a S' ∧ Tr w' B tb m who nd S' ∧ Below B w w'
theorem TxtRow.base {w w' : World} {B : Nat} {o : Option Addr} {n c : Nat} {L : List Bs} (h : TxtRow w (.slice o n c) L) (hn : ∀ a, o = some a → 0 < L.length → a.block < B) (hb : Below B w w') : TxtRow w' (.slice o n c) L := by
  obtain ⟨o', c', h1, h2, h3, h4⟩ := h
  cases h1
  refine ⟨_, _, rfl, h2, h3, fun i hi => ?_⟩
  obtain ⟨b, off, e, hl, hc⟩ := h4 i hi
  exact ⟨b, off, e, Nat.lt_of_lt_of_le hl hb.size, (hb.cell (p := ⟨b, off + i, none⟩) (hn ⟨b, off, none⟩ e (by omega))).trans hc⟩
theorem new_exp {k : Bs} {n : ND} (h : newS k = some n) : n.exports.length = 0 := by
  unfold newS at h
  by_cases hk : k = rootN
  · rw [if_pos hk] at h; cases h; rfl
  · rw [if_neg hk] at h; cases h
theorem Two.step {w W w1 : World} {B tb m : Nat} {S S' : Bs → Option ND} {By yb bx : Nat} {o : Obj} {who who' : Own} {nd nd' : Bs → Option Nat} {whoY : Own} {ndY : Bs → Option Nat}
    (hT : Tr W B tb m who nd S) (hy : RTr W By yb whoY ndY newS [rootN]) (hd : ∀ j, who j ≠ none → whoY j = none) (hlo : ∀ j, j < B → who j = none ∧ whoY j = none) (hb : Below B w W) (hle : B ≤ By)
    (hbx : W.heap[bx]? = some o) (hbn : who bx = none) (hbY : ∀ j, bx ≤ j → whoY j = none) (hT' : Tr w1 B tb m who' nd' S') (hS : Stp who who' W w1) : Mid w B tb m S' By yb bx o w1 := by
  refine ⟨⟨who', nd', whoY, ndY, hT', hy.other hS (fun j hj => ?_), fun j hj => ?_, hbY⟩, hb.trans (hS.below hT.base (fun j hj => (hT.lo j hj).1)), hle, (hS.fr.block bx (Array.getElem?_eq_some_iff.1 hbx).1 hbn).trans hbx⟩
  · cases hc : who j with
    | none => rfl
    | some t => exact absurd (hd j (by rw [hc]; simp)) hj
  · by_cases hl : j < W.heap.size
    · exact hd j (by rw [← hS.ext j hl]; exact hj)
    · exact hy.none_at (by omega)
theorem Mid.lowY {W : World} {B By yb : Nat} {whoY : Own} {ndY : Bs → Option Nat} (hy : RTr W By yb whoY ndY newS [rootN]) (hle : B ≤ By) {j : Nat} (hj : j < B) : whoY j = none := by
  cases hc : whoY j with
  | none => rfl
  | some t => have := (hy.lo j (by rw [hc]; simp)).1; omega
/-- The reference's part of an act. -/
theorem Mid.fin {w w1 w2 : World} {B tb m : Nat} {S : Bs → Option ND} {By yb : Nat} {who : Own} {nd : Bs → Option Nat} {whoY : Own} {ndY : Bs → Option Nat} (hT : Tr w1 B tb m who nd S) (hy : RTr w1 By yb whoY ndY newS [rootN]) (hd : ∀ j, who j ≠ none → whoY j = none) (hb : Below B w w1) (hle : B ≤ By) (hf : Fr whoY w1 w2) :
    ∃ who nd, Tr w2 B tb m who nd S ∧ Below B w w2 := by
  refine ⟨who, nd, hT.keep hf.size (fun j hj => hf.block j (hT.lo j hj).2 (hd j hj)), hb.trans ⟨hf.os, hf.tape, hf.output, hf.size, fun j hj => hf.block j (by have := hT.base; omega) ?_⟩⟩
  cases hc : whoY j with
  | none => rfl
  | some t => have := (hy.lo j (by rw [hc]; simp)).1; omega
set_option maxRecDepth 100000 in
set_option maxHeartbeats 3200000 in
theorem play_0 {w w0 : World} {B tb m By yb : Nat} {S : Bs → Option ND} (h : Two w B tb m S By yb w0) (a : AN) (hF : Fit S a) (hk : a.k = 0) (hv0 : TxtRow w0 (.slice a.lo a.L.length a.lc) a.L) (hvw : ∀ W, Below B w W → TxtRow W (.slice a.lo a.L.length a.lc) a.L) (hvb : ∀ o, a.lo = some o → 0 < a.L.length → o.block < B) :
    Calls Tryz.prog 9 #[.pointer (some ⟨tb, 0, none⟩), .pointer (some ⟨yb, 0, none⟩), .agg #[.int .i64 a.k, .string ⟨a.s.toArray⟩, .string ⟨a.t.toArray⟩, .slice a.lo a.L.length a.lc, .bool a.cl]] w0 (PlayE w B tb m S a) := by
  obtain ⟨⟨who, nd, whoY, ndY, hT0, hy0, hd, hlo⟩, hB, hle⟩ := h
  have hbn : who w0.heap.size = none := hT0.none_at (Nat.le_refl _)
  have hbY0 : ∀ j, w0.heap.size ≤ j → whoY j = none := fun j hj => hy0.none_at hj
  have hBw := hT0.base
  have MX : Hid (∀ W, Below w0.heap.size w0 W → W.heap[w0.heap.size]? = some (boxA a) → Calls Tryz.prog 14 #[.pointer (some ⟨tb, 0, none⟩), .string ⟨a.s.toArray⟩] W fun e w' => e = .returned (.int .i64 (0)) ∧ Mid w B tb m (makeS S a.s) By yb w0.heap.size (boxA a) w') := fun W hb hbx => by
    have hT := hT0.low hb
    have hv := hv0.below hb
    exact (Make_any hT a.s (by have := hF.s; omega)).mono fun e w' ⟨he, who', nd', hT', hS⟩ => ⟨he, Two.step hT (hy0.low hb) hd hlo (hB.trans (hb.mono hBw)) hle hbx hbn hbY0 hT' hS⟩
  have HV : Hid (∀ W, Below B w W → TxtRow W (.slice a.lo a.L.length a.lc) a.L) := hvw
  have MY : Hid (∀ W, Mid w B tb m (makeS S a.s) By yb w0.heap.size (boxA a) W → Calls Tryz.prog 24 #[.pointer (some ⟨yb, 0, none⟩), .string ⟨a.s.toArray⟩] W fun e w' => e = .returned (.int .i64 (0)) ∧ (∃ who nd, Tr w' B tb m who nd (makeS S a.s) ∧ Below B w w') ∧ w'.heap[w0.heap.size]? = some (boxA a)) := fun W hM => by
    obtain ⟨⟨who, nd, whoY, ndY, hT, hy, hd, hbY⟩, hb, hle, hbx⟩ := hM
    have hv : TxtRow W (.slice a.lo a.L.length a.lc) a.L := HV.out W hb
    exact (rMake_any hy (by decide) a.s hF.s).mono fun e w' ⟨he, who', nd', l', hT', hS⟩ => ⟨he, Mid.fin hT hy hd hb hle hS.fr, (hS.fr.block _ (Array.getElem?_eq_some_iff.1 hbx).1 (hbY _ (Nat.le_refl _))).trans hbx⟩
  have HPR : Hid (PlayR S a (makeS S a.s)) := by show PlayR _ _ _; unfold PlayR; rw [hk]; rfl
  have hB0 : Below w0.heap.size w0 (w0.alloc (boxA a)) := (Below.refl _ w0).alloc (Nat.le_refl _) _
  have hbx0 := heap_alloc_new w0 (boxA a)
  have HB0 := Lib.hid (And.intro hB0 hbx0)
  generalize (makeS S a.s) = S2 at *
  have HMX : Hid (∀ w1 : World, w1.heap[w0.heap.size]? = some (boxA a) → w1.cell? ⟨w0.heap.size, 1, none⟩ = some (.string ⟨a.s.toArray⟩)) := fun w1 hM => by
    obtain ⟨_, e1, e2, e3, e4⟩ := vcells5 hM
    exact e1
  unfold boxA at MX MY HB0 HMX
  obtain ⟨ak, as_, at_, aL, acl, alo, alc⟩ := a
  simp only at hk hv0 hvb hvw HV MX MY HB0 HMX ⊢
  subst hk
  generalize aL.length = an at *
  clear hF hT0 hy0 hd hlo hB hle hbn hv0 hvb hvw HV hB0 hbx0 hBw
  go_enter Tryz.func9, Tryz.ntmps9
  go_wp2_with fail
  go_region_held3 (fun w' => w'.cell? ⟨w0.heap.size, 1, none⟩ = some (.string ⟨as_.toArray⟩)) (first | go_keep | (first | exact CX | exact CY)) ((first | (go_at_call 14; refine (MX.out _ (by exact HB0.out.1.drew) (by exact HB0.out.2)).mono ?_; rintro e w1 ⟨rfl, hM⟩; have CX := HMX.out _ hM.box; have HM := Lib.hid hM; clear hM) | (go_at_call 24; refine (MY.out _ HM.out).mono ?_; rintro e w2 ⟨rfl, hE, hbx⟩; have CY := HMX.out _ hbx; have HE := Lib.hid hE; clear hE hbx)))
  all_goals
    go_wp2_with fail
    go_ret
    obtain ⟨who, nd, hT, hb⟩ := HE.out
    exact ⟨⟨_, rfl⟩, S2, who, nd, HPR.out, hT, hb⟩
set_option maxRecDepth 100000 in
set_option maxHeartbeats 3200000 in
theorem play_2 {w w0 : World} {B tb m By yb : Nat} {S : Bs → Option ND} (h : Two w B tb m S By yb w0) (a : AN) (hF : Fit S a) (hk : a.k = 2) (hv0 : TxtRow w0 (.slice a.lo a.L.length a.lc) a.L) (hvw : ∀ W, Below B w W → TxtRow W (.slice a.lo a.L.length a.lc) a.L) (hvb : ∀ o, a.lo = some o → 0 < a.L.length → o.block < B) :
    Calls Tryz.prog 9 #[.pointer (some ⟨tb, 0, none⟩), .pointer (some ⟨yb, 0, none⟩), .agg #[.int .i64 a.k, .string ⟨a.s.toArray⟩, .string ⟨a.t.toArray⟩, .slice a.lo a.L.length a.lc, .bool a.cl]] w0 (PlayE w B tb m S a) := by
  obtain ⟨⟨who, nd, whoY, ndY, hT0, hy0, hd, hlo⟩, hB, hle⟩ := h
  have hbn : who w0.heap.size = none := hT0.none_at (Nat.le_refl _)
  have hbY0 : ∀ j, w0.heap.size ≤ j → whoY j = none := fun j hj => hy0.none_at hj
  have hBw := hT0.base
  have MX : Hid (∀ W, Below w0.heap.size w0 W → W.heap[w0.heap.size]? = some (boxA a) → Calls Tryz.prog 23 #[.pointer (some ⟨tb, 0, none⟩), .string ⟨a.s.toArray⟩, .slice a.lo a.L.length a.lc] W fun e w' => e = .returned (.int .i64 ((srchS S a.s a.L).1)) ∧ Mid w B tb m ((srchS S a.s a.L).2) By yb w0.heap.size (boxA a) w') := fun W hb hbx => by
    have hT := hT0.low hb
    have hv := hv0.below hb
    exact (SetSearch_any hT a.s (by have := hF.s; omega) a.L (fun p hp => by have := hF.L p hp; omega) hF.n hv).mono fun e w' ⟨he, who', nd', hT', hS⟩ => ⟨he, Two.step hT (hy0.low hb) hd hlo (hB.trans (hb.mono hBw)) hle hbx hbn hbY0 hT' hS⟩
  have HV : Hid (∀ W, Below B w W → TxtRow W (.slice a.lo a.L.length a.lc) a.L) := hvw
  have MY : Hid (∀ W, Mid w B tb m ((srchS S a.s a.L).2) By yb w0.heap.size (boxA a) W → Calls Tryz.prog 26 #[.pointer (some ⟨yb, 0, none⟩), .string ⟨a.s.toArray⟩, .slice a.lo a.L.length a.lc] W fun e w' => e = .returned (.int .i64 ((srchS newS a.s a.L).1)) ∧ (∃ who nd, Tr w' B tb m who nd ((srchS S a.s a.L).2) ∧ Below B w w') ∧ w'.heap[w0.heap.size]? = some (boxA a)) := fun W hM => by
    obtain ⟨⟨who, nd, whoY, ndY, hT, hy, hd, hbY⟩, hb, hle, hbx⟩ := hM
    have hv : TxtRow W (.slice a.lo a.L.length a.lc) a.L := HV.out W hb
    exact (rSetSearch_any hy (by decide) a.s (by have := hF.s; omega) a.L (fun p hp => by have := hF.L p hp; omega) hF.n hv).mono fun e w' ⟨he, who', nd', l', hT', hS⟩ => ⟨he, Mid.fin hT hy hd hb hle hS.fr, (hS.fr.block _ (Array.getElem?_eq_some_iff.1 hbx).1 (hbY _ (Nat.le_refl _))).trans hbx⟩
  have HPR : Hid (PlayR S a ((srchS S a.s a.L).2)) := by show PlayR _ _ _; unfold PlayR; rw [hk]; rfl
  have hB0 : Below w0.heap.size w0 (w0.alloc (boxA a)) := (Below.refl _ w0).alloc (Nat.le_refl _) _
  have hbx0 := heap_alloc_new w0 (boxA a)
  have HB0 := Lib.hid (And.intro hB0 hbx0)
  generalize ((srchS S a.s a.L).1) = r1 at *
  generalize ((srchS newS a.s a.L).1) = r2 at *
  generalize ((srchS S a.s a.L).2) = S2 at *
  have HMX : Hid (∀ w1 : World, w1.heap[w0.heap.size]? = some (boxA a) → w1.cell? ⟨w0.heap.size, 1, none⟩ = some (.string ⟨a.s.toArray⟩) ∧ w1.cell? ⟨w0.heap.size, 3, none⟩ = some (.slice a.lo a.L.length a.lc)) := fun w1 hM => by
    obtain ⟨_, e1, e2, e3, e4⟩ := vcells5 hM
    exact ⟨e1, e3⟩
  unfold boxA at MX MY HB0 HMX
  obtain ⟨ak, as_, at_, aL, acl, alo, alc⟩ := a
  simp only at hk hv0 hvb hvw HV MX MY HB0 HMX ⊢
  subst hk
  generalize aL.length = an at *
  clear hF hT0 hy0 hd hlo hB hle hbn hv0 hvb hvw HV hB0 hbx0 hBw
  go_enter Tryz.func9, Tryz.ntmps9
  go_wp2_with fail
  go_region_held3 (fun w' => w'.cell? ⟨w0.heap.size, 1, none⟩ = some (.string ⟨as_.toArray⟩) ∧ w'.cell? ⟨w0.heap.size, 3, none⟩ = some (.slice alo an alc)) (first | go_keep | (first | exact CX | exact CY)) ((first | (go_at_call 23; refine (MX.out _ (by exact HB0.out.1.drew) (by exact HB0.out.2)).mono ?_; rintro e w1 ⟨rfl, hM⟩; have CX := HMX.out _ hM.box; have HM := Lib.hid hM; clear hM) | (go_at_call 26; refine (MY.out _ HM.out).mono ?_; rintro e w2 ⟨rfl, hE, hbx⟩; have CY := HMX.out _ hbx; have HE := Lib.hid hE; clear hE hbx)))
  all_goals
    go_wp2_with fail
    go_ret
    obtain ⟨who, nd, hT, hb⟩ := HE.out
    exact ⟨⟨_, rfl⟩, S2, who, nd, HPR.out, hT, hb⟩
set_option maxRecDepth 100000 in
set_option maxHeartbeats 3200000 in
theorem play_3 {w w0 : World} {B tb m By yb : Nat} {S : Bs → Option ND} (h : Two w B tb m S By yb w0) (a : AN) (hF : Fit S a) (hk : a.k = 3) (hv0 : TxtRow w0 (.slice a.lo a.L.length a.lc) a.L) (hvw : ∀ W, Below B w W → TxtRow W (.slice a.lo a.L.length a.lc) a.L) (hvb : ∀ o, a.lo = some o → 0 < a.L.length → o.block < B) :
    Calls Tryz.prog 9 #[.pointer (some ⟨tb, 0, none⟩), .pointer (some ⟨yb, 0, none⟩), .agg #[.int .i64 a.k, .string ⟨a.s.toArray⟩, .string ⟨a.t.toArray⟩, .slice a.lo a.L.length a.lc, .bool a.cl]] w0 (PlayE w B tb m S a) := by
  obtain ⟨⟨who, nd, whoY, ndY, hT0, hy0, hd, hlo⟩, hB, hle⟩ := h
  have hbn : who w0.heap.size = none := hT0.none_at (Nat.le_refl _)
  have hbY0 : ∀ j, w0.heap.size ≤ j → whoY j = none := fun j hj => hy0.none_at hj
  have hBw := hT0.base
  have MX : Hid (∀ W, Below w0.heap.size w0 W → W.heap[w0.heap.size]? = some (boxA a) → Calls Tryz.prog 27 #[.pointer (some ⟨tb, 0, none⟩), .string ⟨a.s.toArray⟩, .slice a.lo a.L.length a.lc, .bool a.cl] W fun e w' => e = .returned (.int .i64 ((expS S a.s a.L a.cl).1)) ∧ Mid w B tb m ((expS S a.s a.L a.cl).2) By yb w0.heap.size (boxA a) w') := fun W hb hbx => by
    have hT := hT0.low hb
    have hv := hv0.below hb
    exact (Export_any hT a.s (by have := hF.s; omega) a.L a.cl hF.n (fun n hn => hF.exp _ n hn) hv (fun o n c e hpos => by injection e with e1 e2; exact (hlo _ (hvb o e1 (by omega))).1)).mono fun e w' ⟨he, who', nd', hT', hS⟩ => ⟨he, Two.step hT (hy0.low hb) hd hlo (hB.trans (hb.mono hBw)) hle hbx hbn hbY0 hT' hS⟩
  have HV : Hid (∀ W, Below B w W → TxtRow W (.slice a.lo a.L.length a.lc) a.L) := hvw
  have MY : Hid (∀ W, Mid w B tb m ((expS S a.s a.L a.cl).2) By yb w0.heap.size (boxA a) W → Calls Tryz.prog 28 #[.pointer (some ⟨yb, 0, none⟩), .string ⟨a.s.toArray⟩, .slice a.lo a.L.length a.lc, .bool a.cl] W fun e w' => e = .returned (.int .i64 ((expS newS a.s a.L a.cl).1)) ∧ (∃ who nd, Tr w' B tb m who nd ((expS S a.s a.L a.cl).2) ∧ Below B w w') ∧ w'.heap[w0.heap.size]? = some (boxA a)) := fun W hM => by
    obtain ⟨⟨who, nd, whoY, ndY, hT, hy, hd, hbY⟩, hb, hle, hbx⟩ := hM
    have hv : TxtRow W (.slice a.lo a.L.length a.lc) a.L := HV.out W hb
    exact (rExport_any hy (by decide) a.s (by have := hF.s; omega) a.L a.cl hF.n (fun n hn => by have := new_exp hn; omega) hv (fun o n c e hpos => by injection e with e1 e2; exact (Mid.lowY hy hle (hvb o e1 (by omega))))).mono fun e w' ⟨he, who', nd', l', hT', hS⟩ => ⟨he, Mid.fin hT hy hd hb hle hS.fr, (hS.fr.block _ (Array.getElem?_eq_some_iff.1 hbx).1 (hbY _ (Nat.le_refl _))).trans hbx⟩
  have HPR : Hid (PlayR S a ((expS S a.s a.L a.cl).2)) := by show PlayR _ _ _; unfold PlayR; rw [hk]; rfl
  have hB0 : Below w0.heap.size w0 (w0.alloc (boxA a)) := (Below.refl _ w0).alloc (Nat.le_refl _) _
  have hbx0 := heap_alloc_new w0 (boxA a)
  have HB0 := Lib.hid (And.intro hB0 hbx0)
  generalize ((expS S a.s a.L a.cl).1) = r1 at *
  generalize ((expS newS a.s a.L a.cl).1) = r2 at *
  generalize ((expS S a.s a.L a.cl).2) = S2 at *
  have HMX : Hid (∀ w1 : World, w1.heap[w0.heap.size]? = some (boxA a) → w1.cell? ⟨w0.heap.size, 1, none⟩ = some (.string ⟨a.s.toArray⟩) ∧ w1.cell? ⟨w0.heap.size, 3, none⟩ = some (.slice a.lo a.L.length a.lc) ∧ w1.cell? ⟨w0.heap.size, 4, none⟩ = some (.bool a.cl)) := fun w1 hM => by
    obtain ⟨_, e1, e2, e3, e4⟩ := vcells5 hM
    exact ⟨e1, e3, e4⟩
  unfold boxA at MX MY HB0 HMX
  obtain ⟨ak, as_, at_, aL, acl, alo, alc⟩ := a
  simp only at hk hv0 hvb hvw HV MX MY HB0 HMX ⊢
  subst hk
  generalize aL.length = an at *
  clear hF hT0 hy0 hd hlo hB hle hbn hv0 hvb hvw HV hB0 hbx0 hBw
  go_enter Tryz.func9, Tryz.ntmps9
  go_wp2_with fail
  go_region_held3 (fun w' => w'.cell? ⟨w0.heap.size, 1, none⟩ = some (.string ⟨as_.toArray⟩) ∧ w'.cell? ⟨w0.heap.size, 3, none⟩ = some (.slice alo an alc) ∧ w'.cell? ⟨w0.heap.size, 4, none⟩ = some (.bool acl)) (first | go_keep | (first | exact CX | exact CY)) ((first | (go_at_call 27; refine (MX.out _ (by exact HB0.out.1.drew) (by exact HB0.out.2)).mono ?_; rintro e w1 ⟨rfl, hM⟩; have CX := HMX.out _ hM.box; have HM := Lib.hid hM; clear hM) | (go_at_call 28; refine (MY.out _ HM.out).mono ?_; rintro e w2 ⟨rfl, hE, hbx⟩; have CY := HMX.out _ hbx; have HE := Lib.hid hE; clear hE hbx)))
  all_goals
    go_wp2_with fail
    go_ret
    obtain ⟨who, nd, hT, hb⟩ := HE.out
    exact ⟨⟨_, rfl⟩, S2, who, nd, HPR.out, hT, hb⟩
set_option maxRecDepth 100000 in
set_option maxHeartbeats 3200000 in
theorem play_4 {w w0 : World} {B tb m By yb : Nat} {S : Bs → Option ND} (h : Two w B tb m S By yb w0) (a : AN) (hF : Fit S a) (hk : a.k = 4) (hv0 : TxtRow w0 (.slice a.lo a.L.length a.lc) a.L) (hvw : ∀ W, Below B w W → TxtRow W (.slice a.lo a.L.length a.lc) a.L) (hvb : ∀ o, a.lo = some o → 0 < a.L.length → o.block < B) :
    Calls Tryz.prog 9 #[.pointer (some ⟨tb, 0, none⟩), .pointer (some ⟨yb, 0, none⟩), .agg #[.int .i64 a.k, .string ⟨a.s.toArray⟩, .string ⟨a.t.toArray⟩, .slice a.lo a.L.length a.lc, .bool a.cl]] w0 (PlayE w B tb m S a) := by
  obtain ⟨⟨who, nd, whoY, ndY, hT0, hy0, hd, hlo⟩, hB, hle⟩ := h
  have hbn : who w0.heap.size = none := hT0.none_at (Nat.le_refl _)
  have hbY0 : ∀ j, w0.heap.size ≤ j → whoY j = none := fun j hj => hy0.none_at hj
  have hBw := hT0.base
  have MX : Hid (∀ W, Below w0.heap.size w0 W → W.heap[w0.heap.size]? = some (boxA a) → Calls Tryz.prog 29 #[.pointer (some ⟨tb, 0, none⟩), .string ⟨a.s.toArray⟩, .string ⟨a.t.toArray⟩] W fun e w' => e = .returned (.int .i64 ((unkS S a.s a.t).1)) ∧ Mid w B tb m ((unkS S a.s a.t).2) By yb w0.heap.size (boxA a) w') := fun W hb hbx => by
    have hT := hT0.low hb
    have hv := hv0.below hb
    exact (SetUnknown_any hT a.s a.t (by have := hF.s; omega)).mono fun e w' ⟨he, who', nd', hT', hS⟩ => ⟨he, Two.step hT (hy0.low hb) hd hlo (hB.trans (hb.mono hBw)) hle hbx hbn hbY0 hT' hS⟩
  have HV : Hid (∀ W, Below B w W → TxtRow W (.slice a.lo a.L.length a.lc) a.L) := hvw
  have MY : Hid (∀ W, Mid w B tb m ((unkS S a.s a.t).2) By yb w0.heap.size (boxA a) W → Calls Tryz.prog 30 #[.pointer (some ⟨yb, 0, none⟩), .string ⟨a.s.toArray⟩, .string ⟨a.t.toArray⟩] W fun e w' => e = .returned (.int .i64 ((unkS newS a.s a.t).1)) ∧ (∃ who nd, Tr w' B tb m who nd ((unkS S a.s a.t).2) ∧ Below B w w') ∧ w'.heap[w0.heap.size]? = some (boxA a)) := fun W hM => by
    obtain ⟨⟨who, nd, whoY, ndY, hT, hy, hd, hbY⟩, hb, hle, hbx⟩ := hM
    have hv : TxtRow W (.slice a.lo a.L.length a.lc) a.L := HV.out W hb
    exact (rSetUnknown_any hy (by decide) a.s a.t (by have := hF.s; omega)).mono fun e w' ⟨he, who', nd', l', hT', hS⟩ => ⟨he, Mid.fin hT hy hd hb hle hS.fr, (hS.fr.block _ (Array.getElem?_eq_some_iff.1 hbx).1 (hbY _ (Nat.le_refl _))).trans hbx⟩
  have HPR : Hid (PlayR S a ((unkS S a.s a.t).2)) := by show PlayR _ _ _; unfold PlayR; rw [hk]; rfl
  have hB0 : Below w0.heap.size w0 (w0.alloc (boxA a)) := (Below.refl _ w0).alloc (Nat.le_refl _) _
  have hbx0 := heap_alloc_new w0 (boxA a)
  have HB0 := Lib.hid (And.intro hB0 hbx0)
  generalize ((unkS S a.s a.t).1) = r1 at *
  generalize ((unkS newS a.s a.t).1) = r2 at *
  generalize ((unkS S a.s a.t).2) = S2 at *
  have HMX : Hid (∀ w1 : World, w1.heap[w0.heap.size]? = some (boxA a) → w1.cell? ⟨w0.heap.size, 1, none⟩ = some (.string ⟨a.s.toArray⟩) ∧ w1.cell? ⟨w0.heap.size, 2, none⟩ = some (.string ⟨a.t.toArray⟩)) := fun w1 hM => by
    obtain ⟨_, e1, e2, e3, e4⟩ := vcells5 hM
    exact ⟨e1, e2⟩
  unfold boxA at MX MY HB0 HMX
  obtain ⟨ak, as_, at_, aL, acl, alo, alc⟩ := a
  simp only at hk hv0 hvb hvw HV MX MY HB0 HMX ⊢
  subst hk
  generalize aL.length = an at *
  clear hF hT0 hy0 hd hlo hB hle hbn hv0 hvb hvw HV hB0 hbx0 hBw
  go_enter Tryz.func9, Tryz.ntmps9
  go_wp2_with fail
  go_region_held3 (fun w' => w'.cell? ⟨w0.heap.size, 1, none⟩ = some (.string ⟨as_.toArray⟩) ∧ w'.cell? ⟨w0.heap.size, 2, none⟩ = some (.string ⟨at_.toArray⟩)) (first | go_keep | (first | exact CX | exact CY)) ((first | (go_at_call 29; refine (MX.out _ (by exact HB0.out.1.drew) (by exact HB0.out.2)).mono ?_; rintro e w1 ⟨rfl, hM⟩; have CX := HMX.out _ hM.box; have HM := Lib.hid hM; clear hM) | (go_at_call 30; refine (MY.out _ HM.out).mono ?_; rintro e w2 ⟨rfl, hE, hbx⟩; have CY := HMX.out _ hbx; have HE := Lib.hid hE; clear hE hbx)))
  all_goals
    go_wp2_with fail
    go_ret
    obtain ⟨who, nd, hT, hb⟩ := HE.out
    exact ⟨⟨_, rfl⟩, S2, who, nd, HPR.out, hT, hb⟩
end Go.Proofs.YtjgdfgpnmmkjfaaGreatDoor
