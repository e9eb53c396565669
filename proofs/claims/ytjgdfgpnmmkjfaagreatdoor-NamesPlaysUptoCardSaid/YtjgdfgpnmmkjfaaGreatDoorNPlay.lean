/- 'play' of an act upon a tree and upon one of the reference's that was just made. 'play' of an act that deletes, or does nothing; any act. What every tree made by acts keeps (plain). Deleting, and any act (plain). The head of a path that is there is there (plain). -/
import Derived.Test.YtjgdfgpnmmkjfaaGreatDoorNPl0
import Derived.Deep.RegionHeld3
namespace Go.Proofs.YtjgdfgpnmmkjfaaGreatDoor
set_option linter.unusedVariables false
set_option linter.unusedSimpArgs false
open Go.RowKit Go.MapKept

/-- What an act makes of a tree. -/
def PlayR (S : Bs → Option ND) (a : AN) (S' : Bs → Option ND) : Prop :=
  if a.k = 0 then S' = makeS S a.s
  else if a.k = 1 then (S (canonN rootN a.s) = none ∧ S' = S) ∨ ∃ ks, KeysOf S ks ∧ (S (canonN rootN a.s)).isSome = true ∧ S' = delS S (canonN rootN a.s) ks
  else if a.k = 2 then S' = (srchS S a.s a.L).2
  else if a.k = 3 then S' = (expS S a.s a.L a.cl).2
  else if a.k = 4 then S' = (unkS S a.s a.t).2
  else S' = S
def boxA (a : AN) : Obj := .cells #[.int .i64 a.k, .string ⟨a.s.toArray⟩, .string ⟨a.t.toArray⟩, .slice a.lo a.L.length a.lc, .bool a.cl] 29
theorem vcells5 {W : World} {b : Nat} {u v x y z : Value} {t : TypeId} (h : W.heap[b]? = some (.cells #[u, v, x, y, z] t (0, 0))) : W.cell? ⟨b, 0, none⟩ = some u ∧ W.cell? ⟨b, 1, none⟩ = some v ∧ W.cell? ⟨b, 2, none⟩ = some x ∧ W.cell? ⟨b, 3, none⟩ = some y ∧ W.cell? ⟨b, 4, none⟩ = some z := by
  refine ⟨?_, ?_, ?_, ?_, ?_⟩ <;> (simp only [World.cell?, h]; rfl)
/-- An act that a tree bears. -/
structure Fit (S : Bs → Option ND) (a : AN) : Prop where
  s : a.s.length ≤ 20000
  L : ∀ p ∈ a.L, p.length ≤ 20000
  n : a.L.length ≤ 100000
  cnt : Cnt S 100000
  key : ∀ k, (S k).isSome = true → k.length ≤ 100000
  exp : ∀ k n, S k = some n → n.exports.length ≤ 100000
/-- Two trees apart. -/
structure Two (w : World) (B tb m : Nat) (S : Bs → Option ND) (By yb : Nat) (W : World) : Prop where
  ex : ∃ who nd whoY ndY, Tr W B tb m who nd S ∧ RTr W By yb whoY ndY newS [rootN] ∧ (∀ j, who j ≠ none → whoY j = none) ∧ ∀ j, j < B → who j = none ∧ whoY j = none
  below : Below B w W
  le : B ≤ By
/-- Between the two calls of an act. -/
structure Mid (w : World) (B tb m : Nat) (S' : Bs → Option ND) (By yb : Nat) (bx : Nat) (o : Obj) (w1 : World) : Prop where
  ex : ∃ who nd whoY ndY, Tr w1 B tb m who nd S' ∧ RTr w1 By yb whoY ndY newS [rootN] ∧ (∀ j, who j ≠ none → whoY j = none) ∧ ∀ j, bx ≤ j → whoY j = none
  below : Below B w w1
  le : B ≤ By
  box : w1.heap[bx]? = some o
/-- Behind an act. -/
def PlayE (w : World) (B tb m : Nat) (S : Bs → Option ND) (a : AN) (e : Ending) (w' : World) : Prop := ABool e ∧ ∃ S' who nd, PlayR S a S' ∧ Tr w' B tb m who nd S' ∧ Below B w w'
theorem TxtRow.base {w w' : World} {B : Nat} {o : Option Addr} {n c : Nat} {L : List Bs} (h : TxtRow w (.slice o n c) L) (hn : ∀ a, o = some a → 0 < L.length → a.block < B) (hb : Below B w w') : TxtRow w' (.slice o n c) L := by
  obtain ⟨o', c', h1, h2, h3, h4⟩ := h
  cases h1
  refine ⟨_, _, rfl, h2, h3, fun i hi => ?_⟩
  obtain ⟨b, off, e, hl, hc⟩ := h4 i hi
  exact ⟨b, off, e, Nat.lt_of_lt_of_le hl hb.size, (hb.cell (p := ⟨b, off + i, none⟩) (hn ⟨b, off, none⟩ e (by omega))).trans hc⟩
theorem new_exp {k : Bs} {n : ND} (h : newS k = some n) : n.exports.length = 0 := by
  unfold newS at h
  by_cases hk : k = rootN
  · rw [if_pos hk] at h; cases h; rfl
  · rw [if_neg hk] at h; cases h
theorem Two.step {w W w1 : World} {B tb m : Nat} {S S' : Bs → Option ND} {By yb bx : Nat} {o : Obj} {who who' : Own} {nd nd' : Bs → Option Nat} {whoY : Own} {ndY : Bs → Option Nat}
    (hT : Tr W B tb m who nd S) (hy : RTr W By yb whoY ndY newS [rootN]) (hd : ∀ j, who j ≠ none → whoY j = none) (hlo : ∀ j, j < B → who j = none ∧ whoY j = none) (hb : Below B w W) (hle : B ≤ By)
    (hbx : W.heap[bx]? = some o) (hbn : who bx = none) (hbY : ∀ j, bx ≤ j → whoY j = none) (hT' : Tr w1 B tb m who' nd' S') (hS : Stp who who' W w1) : Mid w B tb m S' By yb bx o w1 := by
  refine ⟨⟨who', nd', whoY, ndY, hT', hy.other hS (fun j hj => ?_), fun j hj => ?_, hbY⟩, hb.trans (hS.below hT.base (fun j hj => (hT.lo j hj).1)), hle, (hS.fr.block bx (Array.getElem?_eq_some_iff.1 hbx).1 hbn).trans hbx⟩
  · cases hc : who j with
    | none => rfl
    | some t => exact absurd (hd j (by rw [hc]; simp)) hj
  · by_cases hl : j < W.heap.size
    · exact hd j (by rw [← hS.ext j hl]; exact hj)
    · exact hy.none_at (by omega)
theorem Mid.lowY {W : World} {B By yb : Nat} {whoY : Own} {ndY : Bs → Option Nat} (hy : RTr W By yb whoY ndY newS [rootN]) (hle : B ≤ By) {j : Nat} (hj : j < B) : whoY j = none := by
  cases hc : whoY j with
  | none => rfl
  | some t => have := (hy.lo j (by rw [hc]; simp)).1; omega
/-- The reference's part of an act. -/
theorem Mid.fin {w w1 w2 : World} {B tb m : Nat} {S : Bs → Option ND} {By yb : Nat} {who : Own} {nd : Bs → Option Nat} {whoY : Own} {ndY : Bs → Option Nat} (hT : Tr w1 B tb m who nd S) (hy : RTr w1 By yb whoY ndY newS [rootN]) (hd : ∀ j, who j ≠ none → whoY j = none) (hb : Below B w w1) (hle : B ≤ By) (hf : Fr whoY w1 w2) :
    ∃ who nd, Tr w2 B tb m who nd S ∧ Below B w w2 := by
  refine ⟨who, nd, hT.keep hf.size (fun j hj => hf.block j (hT.lo j hj).2 (hd j hj)), hb.trans ⟨hf.os, hf.tape, hf.output, hf.size, fun j hj => hf.block j (by have := hT.base; omega) ?_⟩⟩
  cases hc : whoY j with
  | none => rfl
  | some t => have := (hy.lo j (by rw [hc]; simp)).1; omega
set_option maxRecDepth 100000 in
set_option maxHeartbeats 3200000 in
theorem play_0 {w w0 : World} {B tb m By yb : Nat} {S : Bs → Option ND} (h : Two w B tb m S By yb w0) (a : AN) (hF : Fit S a) (hk : a.k = 0) (hv0 : TxtRow w0 (.slice a.lo a.L.length a.lc) a.L) (hvw : ∀ W, Below B w W → TxtRow W (.slice a.lo a.L.length a.lc) a.L) (hvb : ∀ o, a.lo = some o → 0 < a.L.length → o.block < B) :
    Calls Tryz.prog 9 #[.pointer (some ⟨tb, 0, none⟩), .pointer (some ⟨yb, 0, none⟩), .agg #[.int .i64 a.k, .string ⟨a.s.toArray⟩, .string ⟨a.t.toArray⟩, .slice a.lo a.L.length a.lc, .bool a.cl]] w0 (PlayE w B tb m S a) := by
  obtain ⟨⟨who, nd, whoY, ndY, hT0, hy0, hd, hlo⟩, hB, hle⟩ := h
  have hbn : who w0.heap.size = none := hT0.none_at (Nat.le_refl _)
  have hbY0 : ∀ j, w0.heap.size ≤ j → whoY j = none := fun j hj => hy0.none_at hj
  have hBw := hT0.base
  have MX : Hid (∀ W, Below w0.heap.size w0 W → W.heap[w0.heap.size]? = some (boxA a) → Calls Tryz.prog 14 #[.pointer (some ⟨tb, 0, none⟩), .string ⟨a.s.toArray⟩] W fun e w' => e = .returned (.int .i64 (0)) ∧ Mid w B tb m (makeS S a.s) By yb w0.heap.size (boxA a) w') := fun W hb hbx => by
    have hT := hT0.low hb
    have hv := hv0.below hb
    exact (Make_any hT a.s (by have := hF.s; omega)).mono fun e w' ⟨he, who', nd', hT', hS⟩ => ⟨he, Two.step hT (hy0.low hb) hd hlo (hB.trans (hb.mono hBw)) hle hbx hbn hbY0 hT' hS⟩
  have HV : Hid (∀ W, Below B w W → TxtRow W (.slice a.lo a.L.length a.lc) a.L) := hvw
  have MY : Hid (∀ W, Mid w B tb m (makeS S a.s) By yb w0.heap.size (boxA a) W → Calls Tryz.prog 24 #[.pointer (some ⟨yb, 0, none⟩), .string ⟨a.s.toArray⟩] W fun e w' => e = .returned (.int .i64 (0)) ∧ (∃ who nd, Tr w' B tb m who nd (makeS S a.s) ∧ Below B w w') ∧ w'.heap[w0.heap.size]? = some (boxA a)) := fun W hM => by
    obtain ⟨⟨who, nd, whoY, ndY, hT, hy, hd, hbY⟩, hb, hle, hbx⟩ := hM
    have hv : TxtRow W (.slice a.lo a.L.length a.lc) a.L := HV.out W hb
    exact (rMake_any hy (by decide) a.s hF.s).mono fun e w' ⟨he, who', nd', l', hT', hS⟩ => ⟨he, Mid.fin hT hy hd hb hle hS.fr, (hS.fr.block _ (Array.getElem?_eq_some_iff.1 hbx).1 (hbY _ (Nat.le_refl _))).trans hbx⟩
  have HPR : Hid (PlayR S a (makeS S a.s)) := by show PlayR _ _ _; unfold PlayR; rw [hk]; rfl
  have hB0 : Below w0.heap.size w0 (w0.alloc (boxA a)) := (Below.refl _ w0).alloc (Nat.le_refl _) _
  have hbx0 := heap_alloc_new w0 (boxA a)
  have HB0 := Lib.hid (And.intro hB0 hbx0)
  generalize (makeS S a.s) = S2 at *
  have HMX : Hid (∀ w1 : World, w1.heap[w0.heap.size]? = some (boxA a) → w1.cell? ⟨w0.heap.size, 1, none⟩ = some (.string ⟨a.s.toArray⟩)) := fun w1 hM => by
    obtain ⟨_, e1, e2, e3, e4⟩ := vcells5 hM
    exact e1
  unfold boxA at MX MY HB0 HMX
  obtain ⟨ak, as_, at_, aL, acl, alo, alc⟩ := a
  simp only at hk hv0 hvb hvw HV MX MY HB0 HMX ⊢
  subst hk
  generalize aL.length = an at *
  clear hF hT0 hy0 hd hlo hB hle hbn hv0 hvb hvw HV hB0 hbx0 hBw
  go_enter Tryz.func9, Tryz.ntmps9
  go_wp2_with fail
  go_region_held3 (fun w' => w'.cell? ⟨w0.heap.size, 1, none⟩ = some (.string ⟨as_.toArray⟩)) (first | go_keep | (first | exact CX | exact CY)) ((first | (go_at_call 14; refine (MX.out _ (by exact HB0.out.1.drew) (by exact HB0.out.2)).mono ?_; rintro e w1 ⟨rfl, hM⟩; have CX := HMX.out _ hM.box; have HM := Lib.hid hM; clear hM) | (go_at_call 24; refine (MY.out _ HM.out).mono ?_; rintro e w2 ⟨rfl, hE, hbx⟩; have CY := HMX.out _ hbx; have HE := Lib.hid hE; clear hE hbx)))
  all_goals
    go_wp2_with fail
    go_ret
    obtain ⟨who, nd, hT, hb⟩ := HE.out
    exact ⟨⟨_, rfl⟩, S2, who, nd, HPR.out, hT, hb⟩
set_option maxRecDepth 100000 in
set_option maxHeartbeats 3200000 in
theorem play_2 {w w0 : World} {B tb m By yb : Nat} {S : Bs → Option ND} (h : Two w B tb m S By yb w0) (a : AN) (hF : Fit S a) (hk : a.k = 2) (hv0 : TxtRow w0 (.slice a.lo a.L.length a.lc) a.L) (hvw : ∀ W, Below B w W → TxtRow W (.slice a.lo a.L.length a.lc) a.L) (hvb : ∀ o, a.lo = some o → 0 < a.L.length → o.block < B) :
    Calls Tryz.prog 9 #[.pointer (some ⟨tb, 0, none⟩), .pointer (some ⟨yb, 0, none⟩), .agg #[.int .i64 a.k, .string ⟨a.s.toArray⟩, .string ⟨a.t.toArray⟩, .slice a.lo a.L.length a.lc, .bool a.cl]] w0 (PlayE w B tb m S a) := by
  obtain ⟨⟨who, nd, whoY, ndY, hT0, hy0, hd, hlo⟩, hB, hle⟩ := h
  have hbn : who w0.heap.size = none := hT0.none_at (Nat.le_refl _)
  have hbY0 : ∀ j, w0.heap.size ≤ j → whoY j = none := fun j hj => hy0.none_at hj
  have hBw := hT0.base
  have MX : Hid (∀ W, Below w0.heap.size w0 W → W.heap[w0.heap.size]? = some (boxA a) → Calls Tryz.prog 23 #[.pointer (some ⟨tb, 0, none⟩), .string ⟨a.s.toArray⟩, .slice a.lo a.L.length a.lc] W fun e w' => e = .returned (.int .i64 ((srchS S a.s a.L).1)) ∧ Mid w B tb m ((srchS S a.s a.L).2) By yb w0.heap.size (boxA a) w') := fun W hb hbx => by
    have hT := hT0.low hb
    have hv := hv0.below hb
    exact (SetSearch_any hT a.s (by have := hF.s; omega) a.L (fun p hp => by have := hF.L p hp; omega) hF.n hv).mono fun e w' ⟨he, who', nd', hT', hS⟩ => ⟨he, Two.step hT (hy0.low hb) hd hlo (hB.trans (hb.mono hBw)) hle hbx hbn hbY0 hT' hS⟩
  have HV : Hid (∀ W, Below B w W → TxtRow W (.slice a.lo a.L.length a.lc) a.L) := hvw
  have MY : Hid (∀ W, Mid w B tb m ((srchS S a.s a.L).2) By yb w0.heap.size (boxA a) W → Calls Tryz.prog 26 #[.pointer (some ⟨yb, 0, none⟩), .string ⟨a.s.toArray⟩, .slice a.lo a.L.length a.lc] W fun e w' => e = .returned (.int .i64 ((srchS newS a.s a.L).1)) ∧ (∃ who nd, Tr w' B tb m who nd ((srchS S a.s a.L).2) ∧ Below B w w') ∧ w'.heap[w0.heap.size]? = some (boxA a)) := fun W hM => by
    obtain ⟨⟨who, nd, whoY, ndY, hT, hy, hd, hbY⟩, hb, hle, hbx⟩ := hM
    have hv : TxtRow W (.slice a.lo a.L.length a.lc) a.L := HV.out W hb
    exact (rSetSearch_any hy (by decide) a.s (by have := hF.s; omega) a.L (fun p hp => by have := hF.L p hp; omega) hF.n hv).mono fun e w' ⟨he, who', nd', l', hT', hS⟩ => ⟨he, Mid.fin hT hy hd hb hle hS.fr, (hS.fr.block _ (Array.getElem?_eq_some_iff.1 hbx).1 (hbY _ (Nat.le_refl _))).trans hbx⟩
  have HPR : Hid (PlayR S a ((srchS S a.s a.L).2)) := by show PlayR _ _ _; unfold PlayR; rw [hk]; rfl
  have hB0 : Below w0.heap.size w0 (w0.alloc (boxA a)) := (Below.refl _ w0).alloc (Nat.le_refl _) _
  have hbx0 := heap_alloc_new w0 (boxA a)
  have HB0 := Lib.hid (And.intro hB0 hbx0)
  generalize ((srchS S a.s a.L).1) = r1 at *
  generalize ((srchS newS a.s a.L).1) = r2 at *
  generalize ((srchS S a.s a.L).2) = S2 at *
  have HMX : Hid (∀ w1 : World, w1.heap[w0.heap.size]? = some (boxA a) → w1.cell? ⟨w0.heap.size, 1, none⟩ = some (.string ⟨a.s.toArray⟩) ∧ w1.cell? ⟨w0.heap.size, 3, none⟩ = some (.slice a.lo a.L.length a.lc)) := fun w1 hM => by
    obtain ⟨_, e1, e2, e3, e4⟩ := vcells5 hM
    exact ⟨e1, e3⟩
  unfold boxA at MX MY HB0 HMX
  obtain ⟨ak, as_, at_, aL, acl, alo, alc⟩ := a
  simp only at hk hv0 hvb hvw HV MX MY HB0 HMX ⊢
  subst hk
  generalize aL.length = an at *
  clear hF hT0 hy0 hd hlo hB hle hbn hv0 hvb hvw HV hB0 hbx0 hBw
  go_enter Tryz.func9, Tryz.ntmps9
  go_wp2_with fail
  go_region_held3 (fun w' => w'.cell? ⟨w0.heap.size, 1, none⟩ = some (.string ⟨as_.toArray⟩) ∧ w'.cell? ⟨w0.heap.size, 3, none⟩ = some (.slice alo an alc)) (first | go_keep | (first | exact CX | exact CY)) ((first | (go_at_call 23; refine (MX.out _ (by exact HB0.out.1.drew) (by exact HB0.out.2)).mono ?_; rintro e w1 ⟨rfl, hM⟩; have CX := HMX.out _ hM.box; have HM := Lib.hid hM; clear hM) | (go_at_call 26; refine (MY.out _ HM.out).mono ?_; rintro e w2 ⟨rfl, hE, hbx⟩; have CY := HMX.out _ hbx; have HE := Lib.hid hE; clear hE hbx)))
  all_goals
    go_wp2_with fail
    go_ret
    obtain ⟨who, nd, hT, hb⟩ := HE.out
    exact ⟨⟨_, rfl⟩, S2, who, nd, HPR.out, hT, hb⟩
set_option maxRecDepth 100000 in
set_option maxHeartbeats 3200000 in
theorem play_3 {w w0 : World} {B tb m By yb : Nat} {S : Bs → Option ND} (h : Two w B tb m S By yb w0) (a : AN) (hF : Fit S a) (hk : a.k = 3) (hv0 : TxtRow w0 (.slice a.lo a.L.length a.lc) a.L) (hvw : ∀ W, Below B w W → TxtRow W (.slice a.lo a.L.length a.lc) a.L) (hvb : ∀ o, a.lo = some o → 0 < a.L.length → o.block < B) :
    Calls Tryz.prog 9 #[.pointer (some ⟨tb, 0, none⟩), .pointer (some ⟨yb, 0, none⟩), .agg #[.int .i64 a.k, .string ⟨a.s.toArray⟩, .string ⟨a.t.toArray⟩, .slice a.lo a.L.length a.lc, .bool a.cl]] w0 (PlayE w B tb m S a) := by
  obtain ⟨⟨who, nd, whoY, ndY, hT0, hy0, hd, hlo⟩, hB, hle⟩ := h
  have hbn : who w0.heap.size = none := hT0.none_at (Nat.le_refl _)
  have hbY0 : ∀ j, w0.heap.size ≤ j → whoY j = none := fun j hj => hy0.none_at hj
  have hBw := hT0.base
  have MX : Hid (∀ W, Below w0.heap.size w0 W → W.heap[w0.heap.size]? = some (boxA a) → Calls Tryz.prog 27 #[.pointer (some ⟨tb, 0, none⟩), .string ⟨a.s.toArray⟩, .slice a.lo a.L.length a.lc, .bool a.cl] W fun e w' => e = .returned (.int .i64 ((expS S a.s a.L a.cl).1)) ∧ Mid w B tb m ((expS S a.s a.L a.cl).2) By yb w0.heap.size (boxA a) w') := fun W hb hbx => by
    have hT := hT0.low hb
    have hv := hv0.below hb
    exact (Export_any hT a.s (by have := hF.s; omega) a.L a.cl hF.n (fun n hn => hF.exp _ n hn) hv (fun o n c e hpos => by injection e with e1 e2; exact (hlo _ (hvb o e1 (by omega))).1)).mono fun e w' ⟨he, who', nd', hT', hS⟩ => ⟨he, Two.step hT (hy0.low hb) hd hlo (hB.trans (hb.mono hBw)) hle hbx hbn hbY0 hT' hS⟩
  have HV : Hid (∀ W, Below B w W → TxtRow W (.slice a.lo a.L.length a.lc) a.L) := hvw
  have MY : Hid (∀ W, Mid w B tb m ((expS S a.s a.L a.cl).2) By yb w0.heap.size (boxA a) W → Calls Tryz.prog 28 #[.pointer (some ⟨yb, 0, none⟩), .string ⟨a.s.toArray⟩, .slice a.lo a.L.length a.lc, .bool a.cl] W fun e w' => e = .returned (.int .i64 ((expS newS a.s a.L a.cl).1)) ∧ (∃ who nd, Tr w' B tb m who nd ((expS S a.s a.L a.cl).2) ∧ Below B w w') ∧ w'.heap[w0.heap.size]? = some (boxA a)) := fun W hM => by
    obtain ⟨⟨who, nd, whoY, ndY, hT, hy, hd, hbY⟩, hb, hle, hbx⟩ := hM
    have hv : TxtRow W (.slice a.lo a.L.length a.lc) a.L := HV.out W hb
    exact (rExport_any hy (by decide) a.s (by have := hF.s; omega) a.L a.cl hF.n (fun n hn => by have := new_exp hn; omega) hv (fun o n c e hpos => by injection e with e1 e2; exact (Mid.lowY hy hle (hvb o e1 (by omega))))).mono fun e w' ⟨he, who', nd', l', hT', hS⟩ => ⟨he, Mid.fin hT hy hd hb hle hS.fr, (hS.fr.block _ (Array.getElem?_eq_some_iff.1 hbx).1 (hbY _ (Nat.le_refl _))).trans hbx⟩
  have HPR : Hid (PlayR S a ((expS S a.s a.L a.cl).2)) := by show PlayR _ _ _; unfold PlayR; rw [hk]; rfl
  have hB0 : Below w0.heap.size w0 (w0.alloc (boxA a)) := (Below.refl _ w0).alloc (Nat.le_refl _) _
  have hbx0 := heap_alloc_new w0 (boxA a)
  have HB0 := Lib.hid (And.intro hB0 hbx0)
  generalize ((expS S a.s a.L a.cl).1) = r1 at *
  generalize ((expS newS a.s a.L a.cl).1) = r2 at *
  generalize ((expS S a.s a.L a.cl).2) = S2 at *
  have HMX : Hid (∀ w1 : World, w1.heap[w0.heap.size]? = some (boxA a) → w1.cell? ⟨w0.heap.size, 1, none⟩ = some (.string ⟨a.s.toArray⟩) ∧ w1.cell? ⟨w0.heap.size, 3, none⟩ = some (.slice a.lo a.L.length a.lc) ∧ w1.cell? ⟨w0.heap.size, 4, none⟩ = some (.bool a.cl)) := fun w1 hM => by
    obtain ⟨_, e1, e2, e3, e4⟩ := vcells5 hM
    exact ⟨e1, e3, e4⟩
  unfold boxA at MX MY HB0 HMX
  obtain ⟨ak, as_, at_, aL, acl, alo, alc⟩ := a
  simp only at hk hv0 hvb hvw HV MX MY HB0 HMX ⊢
  subst hk
  generalize aL.length = an at *
  clear hF hT0 hy0 hd hlo hB hle hbn hv0 hvb hvw HV hB0 hbx0 hBw
  go_enter Tryz.func9, Tryz.ntmps9
  go_wp2_with fail
  go_region_held3 (fun w' => w'.cell? ⟨w0.heap.size, 1, none⟩ = some (.string ⟨as_.toArray⟩) ∧ w'.cell? ⟨w0.heap.size, 3, none⟩ = some (.slice alo an alc) ∧ w'.cell? ⟨w0.heap.size, 4, none⟩ = some (.bool acl)) (first | go_keep | (first | exact CX | exact CY)) ((first | (go_at_call 27; refine (MX.out _ (by exact HB0.out.1.drew) (by exact HB0.out.2)).mono ?_; rintro e w1 ⟨rfl, hM⟩; have CX := HMX.out _ hM.box; have HM := Lib.hid hM; clear hM) | (go_at_call 28; refine (MY.out _ HM.out).mono ?_; rintro e w2 ⟨rfl, hE, hbx⟩; have CY := HMX.out _ hbx; have HE := Lib.hid hE; clear hE hbx)))
  all_goals
    go_wp2_with fail
    go_ret
    obtain ⟨who, nd, hT, hb⟩ := HE.out
    exact ⟨⟨_, rfl⟩, S2, who, nd, HPR.out, hT, hb⟩
set_option maxRecDepth 100000 in
set_option maxHeartbeats 3200000 in
theorem play_4 {w w0 : World} {B tb m By yb : Nat} {S : Bs → Option ND} (h : Two w B tb m S By yb w0) (a : AN) (hF : Fit S a) (hk : a.k = 4) (hv0 : TxtRow w0 (.slice a.lo a.L.length a.lc) a.L) (hvw : ∀ W, Below B w W → TxtRow W (.slice a.lo a.L.length a.lc) a.L) (hvb : ∀ o, a.lo = some o → 0 < a.L.length → o.block < B) :
    Calls Tryz.prog 9 #[.pointer (some ⟨tb, 0, none⟩), .pointer (some ⟨yb, 0, none⟩), .agg #[.int .i64 a.k, .string ⟨a.s.toArray⟩, .string ⟨a.t.toArray⟩, .slice a.lo a.L.length a.lc, .bool a.cl]] w0 (PlayE w B tb m S a) := by
  obtain ⟨⟨who, nd, whoY, ndY, hT0, hy0, hd, hlo⟩, hB, hle⟩ := h
  have hbn : who w0.heap.size = none := hT0.none_at (Nat.le_refl _)
  have hbY0 : ∀ j, w0.heap.size ≤ j → whoY j = none := fun j hj => hy0.none_at hj
  have hBw := hT0.base
  have MX : Hid (∀ W, Below w0.heap.size w0 W → W.heap[w0.heap.size]? = some (boxA a) → Calls Tryz.prog 29 #[.pointer (some ⟨tb, 0, none⟩), .string ⟨a.s.toArray⟩, .string ⟨a.t.toArray⟩] W fun e w' => e = .returned (.int .i64 ((unkS S a.s a.t).1)) ∧ Mid w B tb m ((unkS S a.s a.t).2) By yb w0.heap.size (boxA a) w') := fun W hb hbx => by
    have hT := hT0.low hb
    have hv := hv0.below hb
    exact (SetUnknown_any hT a.s a.t (by have := hF.s; omega)).mono fun e w' ⟨he, who', nd', hT', hS⟩ => ⟨he, Two.step hT (hy0.low hb) hd hlo (hB.trans (hb.mono hBw)) hle hbx hbn hbY0 hT' hS⟩
  have HV : Hid (∀ W, Below B w W → TxtRow W (.slice a.lo a.L.length a.lc) a.L) := hvw
  have MY : Hid (∀ W, Mid w B tb m ((unkS S a.s a.t).2) By yb w0.heap.size (boxA a) W → Calls Tryz.prog 30 #[.pointer (some ⟨yb, 0, none⟩), .string ⟨a.s.toArray⟩, .string ⟨a.t.toArray⟩] W fun e w' => e = .returned (.int .i64 ((unkS newS a.s a.t).1)) ∧ (∃ who nd, Tr w' B tb m who nd ((unkS S a.s a.t).2) ∧ Below B w w') ∧ w'.heap[w0.heap.size]? = some (boxA a)) := fun W hM => by
    obtain ⟨⟨who, nd, whoY, ndY, hT, hy, hd, hbY⟩, hb, hle, hbx⟩ := hM
    have hv : TxtRow W (.slice a.lo a.L.length a.lc) a.L := HV.out W hb
    exact (rSetUnknown_any hy (by decide) a.s a.t (by have := hF.s; omega)).mono fun e w' ⟨he, who', nd', l', hT', hS⟩ => ⟨he, Mid.fin hT hy hd hb hle hS.fr, (hS.fr.block _ (Array.getElem?_eq_some_iff.1 hbx).1 (hbY _ (Nat.le_refl _))).trans hbx⟩
  have HPR : Hid (PlayR S a ((unkS S a.s a.t).2)) := by show PlayR _ _ _; unfold PlayR; rw [hk]; rfl
  have hB0 : Below w0.heap.size w0 (w0.alloc (boxA a)) := (Below.refl _ w0).alloc (Nat.le_refl _) _
  have hbx0 := heap_alloc_new w0 (boxA a)
  have HB0 := Lib.hid (And.intro hB0 hbx0)
  generalize ((unkS S a.s a.t).1) = r1 at *
  generalize ((unkS newS a.s a.t).1) = r2 at *
  generalize ((unkS S a.s a.t).2) = S2 at *
  have HMX : Hid (∀ w1 : World, w1.heap[w0.heap.size]? = some (boxA a) → w1.cell? ⟨w0.heap.size, 1, none⟩ = some (.string ⟨a.s.toArray⟩) ∧ w1.cell? ⟨w0.heap.size, 2, none⟩ = some (.string ⟨a.t.toArray⟩)) := fun w1 hM => by
    obtain ⟨_, e1, e2, e3, e4⟩ := vcells5 hM
    exact ⟨e1, e2⟩
  unfold boxA at MX MY HB0 HMX
  obtain ⟨ak, as_, at_, aL, acl, alo, alc⟩ := a
  simp only at hk hv0 hvb hvw HV MX MY HB0 HMX ⊢
  subst hk
  generalize aL.length = an at *
  clear hF hT0 hy0 hd hlo hB hle hbn hv0 hvb hvw HV hB0 hbx0 hBw
  go_enter Tryz.func9, Tryz.ntmps9
  go_wp2_with fail
  go_region_held3 (fun w' => w'.cell? ⟨w0.heap.size, 1, none⟩ = some (.string ⟨as_.toArray⟩) ∧ w'.cell? ⟨w0.heap.size, 2, none⟩ = some (.string ⟨at_.toArray⟩)) (first | go_keep | (first | exact CX | exact CY)) ((first | (go_at_call 29; refine (MX.out _ (by exact HB0.out.1.drew) (by exact HB0.out.2)).mono ?_; rintro e w1 ⟨rfl, hM⟩; have CX := HMX.out _ hM.box; have HM := Lib.hid hM; clear hM) | (go_at_call 30; refine (MY.out _ HM.out).mono ?_; rintro e w2 ⟨rfl, hE, hbx⟩; have CY := HMX.out _ hbx; have HE := Lib.hid hE; clear hE hbx)))
  all_goals
    go_wp2_with fail
    go_ret
    obtain ⟨who, nd, hT, hb⟩ := HE.out
    exact ⟨⟨_, rfl⟩, S2, who, nd, HPR.out, hT, hb⟩
end Go.Proofs.YtjgdfgpnmmkjfaaGreatDoor
namespace Go.Proofs.YtjgdfgpnmmkjfaaGreatDoor
set_option linter.unusedVariables false
set_option linter.unusedSimpArgs false
open Go.RowKit Go.MapKept

set_option maxRecDepth 100000 in
set_option maxHeartbeats 1600000 in
theorem play_1 {w w0 : World} {B tb m By yb : Nat} {S : Bs → Option ND} (h : Two w B tb m S By yb w0) (a : AN) (hF : Fit S a) (hk : a.k = 1) :
    Calls Tryz.prog 9 #[.pointer (some ⟨tb, 0, none⟩), .pointer (some ⟨yb, 0, none⟩), .agg #[.int .i64 a.k, .string ⟨a.s.toArray⟩, .string ⟨a.t.toArray⟩, .slice a.lo a.L.length a.lc, .bool a.cl]] w0 (PlayE w B tb m S a) := by
  obtain ⟨⟨who, nd, whoY, ndY, hT0, hy0, hd, hlo⟩, hB, hle⟩ := h
  have hbn : who w0.heap.size = none := hT0.none_at (Nat.le_refl _)
  have hbY0 : ∀ j, w0.heap.size ≤ j → whoY j = none := fun j hj => hy0.none_at hj
  have hBw := hT0.base
  obtain ⟨ks, hks⟩ := keys_of hF.cnt
  have MX : Hid (∀ W, Below w0.heap.size w0 W → W.heap[w0.heap.size]? = some (boxA a) → Calls Tryz.prog 15 #[.pointer (some ⟨tb, 0, none⟩), .string ⟨a.s.toArray⟩] W fun e w' => ∃ o n c A r S', e = .returned (.tuple #[.slice o n c, .int .i64 r]) ∧ TxtRow w' (.slice o n c) A ∧ (∀ ad, o = some ad → w0.heap.size ≤ ad.block) ∧ PlayR S a S' ∧ Mid w B tb m S' By yb w0.heap.size (boxA a) w') := fun W hb hbx => by
    have hT := hT0.low hb
    refine (Delete_any hT hF.cnt hF.key hks a.s hF.s).mono fun e w' hR => ?_
    unfold DelR at hR
    cases hS : S (canonN rootN a.s) with
    | none =>
      rw [hS] at hR
      obtain ⟨he, hT', hSt⟩ := hR
      exact ⟨none, 0, 0, [], 8, S, he, TxtRow.nil _, (fun ad h => by cases h), (by unfold PlayR; rw [hk]; exact .inl ⟨hS, rfl⟩), Two.step hT (hy0.low hb) hd hlo (hB.trans (hb.mono hBw)) hle hbx hbn hbY0 hT' hSt⟩
    | some n =>
      rw [hS] at hR
      obtain ⟨o, c, who', nd', he, hrow, hT', hSt, hun⟩ := hR
      refine ⟨o, (goneL (canonN rootN a.s) ks).length, c, srt (goneL (canonN rootN a.s) ks), 0, _, he, ?_, fun ad h => Nat.le_trans hb.size (TxtRow.nilOr hrow ad h), (by unfold PlayR; rw [hk]; exact .inr ⟨ks, hks, by rw [hS]; rfl, rfl⟩), Two.step hT (hy0.low hb) hd hlo (hB.trans (hb.mono hBw)) hle hbx hbn hbY0 hT' hSt⟩
      rw [← srt_len] at hrow ⊢
      exact TxtRow.of_owns hrow
  have MY : Hid (∀ W S', Mid w B tb m S' By yb w0.heap.size (boxA a) W → ∀ o n c A, TxtRow W (.slice o n c) A → (∀ ad, o = some ad → w0.heap.size ≤ ad.block) → Calls Tryz.prog 25 #[.pointer (some ⟨yb, 0, none⟩), .string ⟨a.s.toArray⟩] W fun e w' => ∃ r, e = .returned (.tuple #[.slice none 0 0, .int .i64 r]) ∧ (∃ who nd, Tr w' B tb m who nd S' ∧ Below B w w') ∧ TxtRow w' (.slice o n c) A) := fun W S' hM o n c A ht hto => by
    obtain ⟨⟨who, nd, whoY', ndY', hT, hy, hd, hbY⟩, hb, hle, hbx⟩ := hM
    -- the tree of the reference is of this call: New's, so its state is newS
    refine (rDelete_new hy a.s hF.s).mono fun e w' ⟨r, he, hf⟩ => ⟨r, he, Mid.fin hT hy hd hb hle hf, ?_⟩
    exact ht.fr (who := whoY') (fun ad had => hbY _ (hto ad had)) hf
  have SA : Hid (∀ W va vb A B', TxtRow W va A → TxtRow W vb B' → Calls Tryz.prog 16 #[va, vb] W fun e w' => ABool e ∧ Below W.heap.size W w') := fun W va vb A B' ha hb => same_any W ha hb
  have hB0 : Below w0.heap.size w0 (w0.alloc (boxA a)) := (Below.refl _ w0).alloc (Nat.le_refl _) _
  have hbx0 := heap_alloc_new w0 (boxA a)
  have HB0 := Lib.hid (And.intro hB0 hbx0)
  have HMX : Hid (∀ w1 : World, w1.heap[w0.heap.size]? = some (boxA a) → w1.cell? ⟨w0.heap.size, 1, none⟩ = some (.string ⟨a.s.toArray⟩)) := fun w1 hM => by
    obtain ⟨_, e1, e2, e3, e4⟩ := vcells5 hM
    exact e1
  have HPE : Hid (∀ e w' S', ABool e → PlayR S a S' → (∃ who nd, Tr w' B tb m who nd S' ∧ Below B w w') → PlayE w B tb m S a e w') := fun e w' S' h1 h2 ⟨who, nd, h3, h4⟩ => ⟨h1, S', who, nd, h2, h3, h4⟩
  have HLOW : Hid (∀ (W W' : World) S', (∃ who nd, Tr W B tb m who nd S' ∧ Below B w W) → Below W.heap.size W W' → ∃ who nd, Tr W' B tb m who nd S' ∧ Below B w W') := fun W W' S' ⟨who, nd, h3, h4⟩ hb => ⟨who, nd, h3.low hb, h4.trans (hb.mono h3.base)⟩
  generalize hP : PlayE w B tb m S a = PE at *
  generalize hPR : PlayR S a = PRS at *
  unfold boxA at MX MY HB0 HMX
  obtain ⟨ak, as_, at_, aL, acl, alo, alc⟩ := a
  simp only at hk MX MY HB0 HMX ⊢
  subst hk
  generalize aL.length = an at *
  clear hF hT0 hy0 hd hlo hB hle hbn hB0 hbx0 hBw hbY0 hks hP hPR
  go_enter Tryz.func9, Tryz.ntmps9
  go_wp2_with (first | (go_at_call 15; refine (MX.out _ (by exact HB0.out.1) (by exact HB0.out.2)).mono ?_; rintro e w1 ⟨o, n, c, A, r, S', rfl, ht, hto, hpr, hM⟩; have c1 := HMX.out _ hM.box; have HM := Lib.hid (And.intro ht (And.intro hto (And.intro hpr hM))); clear ht hto hpr hM) | (go_at_call 25; refine (MY.out _ _ HM.out.2.2.2 _ _ _ _ HM.out.1 HM.out.2.1).mono ?_; rintro e w2 ⟨r2, rfl, hE, ht⟩; have HE := Lib.hid (And.intro hE ht); clear hE ht) | (go_at_call 16; refine (SA.out _ _ _ _ [] HE.out.2 (TxtRow.nil _)).mono ?_; rintro e w3 ⟨⟨bb, rfl⟩, hB3⟩; have HE3 := Lib.hid (HLOW.out _ _ _ HE.out.1 hB3); clear hB3; cases bb))
  all_goals
    go_wp2_with fail
    exact HPE.out _ _ _ ⟨_, rfl⟩ HM.out.2.2.1 HE3.out
set_option maxRecDepth 100000 in
set_option maxHeartbeats 1600000 in
theorem play_o {w w0 : World} {B tb m By yb : Nat} {S : Bs → Option ND} (h : Two w B tb m S By yb w0) (a : AN) (hk : a.k ≠ 0 ∧ a.k ≠ 1 ∧ a.k ≠ 2 ∧ a.k ≠ 3 ∧ a.k ≠ 4) :
    Calls Tryz.prog 9 #[.pointer (some ⟨tb, 0, none⟩), .pointer (some ⟨yb, 0, none⟩), .agg #[.int .i64 a.k, .string ⟨a.s.toArray⟩, .string ⟨a.t.toArray⟩, .slice a.lo a.L.length a.lc, .bool a.cl]] w0 (PlayE w B tb m S a) := by
  obtain ⟨⟨who, nd, whoY, ndY, hT0, hy0, hd, hlo⟩, hB, hle⟩ := h
  have HE : Hid (∀ w', Below w0.heap.size w0 w' → PlayE w B tb m S a (.returned (.bool true)) w') := fun w' hb => ⟨⟨_, rfl⟩, S, who, nd, by unfold PlayR; rw [if_neg hk.1, if_neg hk.2.1, if_neg hk.2.2.1, if_neg hk.2.2.2.1, if_neg hk.2.2.2.2], hT0.low hb, hB.trans (hb.mono hT0.base)⟩
  generalize PlayE w B tb m S a = PE at *
  obtain ⟨ak, as_, at_, aL, acl, alo, alc⟩ := a
  simp only at hk ⊢
  have e0 : (ak == 0) = false := beq_eq_false_iff_ne.2 hk.1
  have e1 : (ak == 1) = false := beq_eq_false_iff_ne.2 hk.2.1
  have e2 : (ak == 2) = false := beq_eq_false_iff_ne.2 hk.2.2.1
  have e3 : (ak == 3) = false := beq_eq_false_iff_ne.2 hk.2.2.2.1
  have e4 : (ak == 4) = false := beq_eq_false_iff_ne.2 hk.2.2.2.2
  generalize aL.length = an at *
  clear hT0 hy0 hd hlo hB hle hk
  go_enter Tryz.func9, Tryz.ntmps9
  go_wp2_with fail
  exact HE.out _ ((Below.refl _ w0).alloc (Nat.le_refl _) _)
/-- Any act. -/
theorem play_any {w w0 : World} {B tb m By yb : Nat} {S : Bs → Option ND} (h : Two w B tb m S By yb w0) (a : AN) (hF : Fit S a) (hv0 : TxtRow w0 (.slice a.lo a.L.length a.lc) a.L) (hvw : ∀ W, Below B w W → TxtRow W (.slice a.lo a.L.length a.lc) a.L) (hvb : ∀ o, a.lo = some o → 0 < a.L.length → o.block < B) :
    Calls Tryz.prog 9 #[.pointer (some ⟨tb, 0, none⟩), .pointer (some ⟨yb, 0, none⟩), .agg #[.int .i64 a.k, .string ⟨a.s.toArray⟩, .string ⟨a.t.toArray⟩, .slice a.lo a.L.length a.lc, .bool a.cl]] w0 (PlayE w B tb m S a) := by
  by_cases h0 : a.k = 0
  · exact play_0 h a hF h0 hv0 hvw hvb
  · by_cases h1 : a.k = 1
    · exact play_1 h a hF h1
    · by_cases h2 : a.k = 2
      · exact play_2 h a hF h2 hv0 hvw hvb
      · by_cases h3 : a.k = 3
        · exact play_3 h a hF h3 hv0 hvw hvb
        · by_cases h4 : a.k = 4
          · exact play_4 h a hF h4 hv0 hvw hvb
          · exact play_o h a ⟨h0, h1, h2, h3, h4⟩
end Go.Proofs.YtjgdfgpnmmkjfaaGreatDoor
namespace Go.Proofs.YtjgdfgpnmmkjfaaGreatDoor
set_option linter.unusedVariables false
set_option linter.unusedSimpArgs false
open Go.RowKit Go.MapKept

/-- A canonical path of parts l. -/
def Cp (k : Bs) (l : List Bs) : Prop := k = canN l ∧ ∀ q ∈ l, Gp q
theorem canon_cp (path : Bs) : Cp (canonN rootN path) (partsN path) := ⟨canon_root path, parts_good path⟩
theorem cp_take {k : Bs} {l : List Bs} (h : Cp k l) (i : Nat) : Cp (canN (l.take i)) (l.take i) := ⟨rfl, fun q hq => h.2 q (List.mem_of_mem_take hq)⟩
theorem cp_inj {k : Bs} {l m : List Bs} (h : Cp k l) (h' : Cp k m) : l = m := by
  have e : canN l = canN m := by rw [← h.1, ← h'.1]
  rw [← parts_can l h.2, ← parts_can m h'.2, e]
theorem cp_self {k : Bs} {l : List Bs} (h : Cp k l) : canonN rootN k = k := by rw [h.1]; exact can_id l h.2
theorem cp_root : Cp rootN [] := ⟨rfl, by simp⟩
theorem canN_nil : canN [] = rootN := rfl
/-- What the trees of the statements are. -/
structure Gd (S : Bs → Option ND) (n : Nat) : Prop where
  cnt : Cnt S n
  key : ∀ k, (S k).isSome = true → ∃ l, Cp k l ∧ k.length ≤ 10000 ∧ ∀ i, (S (canN (l.take i))).isSome = true
  exp : ∀ k nd, S k = some nd → nd.exports.length ≤ n
  srch : ∀ k nd, S k = some nd → nd.search.length ≤ n ∧ ∀ p ∈ nd.search, p.length ≤ 10000 ∧ ∃ l, Cp p l
  root : (S rootN).isSome = true
theorem Gd.fit {S : Bs → Option ND} {n : Nat} (h : Gd S n) (hn : n ≤ 100000) (a : AN) (ha : a.sum ≤ 1500) : Fit S a := by
  unfold AN.sum at ha
  have hl := longS_len a.L
  refine ⟨by omega, fun p hp => by have := longS_mem hp; omega, by omega, fun ks h1 h2 => Nat.le_trans (h.cnt ks h1 h2) hn, fun k hk => ?_, fun k nd hk => Nat.le_trans (h.exp k nd hk) hn⟩
  obtain ⟨l, _, h2, _⟩ := h.key k hk
  omega
theorem cnt_mono {S : Bs → Option ND} {n m : Nat} (h : Cnt S n) (hnm : n ≤ m) : Cnt S m := fun ks h1 h2 => Nat.le_trans (h ks h1 h2) hnm
theorem cnt_sub {S S' : Bs → Option ND} {n : Nat} (h : Cnt S n) (hs : ∀ k, (S' k).isSome = true → (S k).isSome = true) : Cnt S' n := fun ks h1 h2 => h ks h1 (fun k hk => hs k (h2 k hk))
theorem cnt_put {S : Bs → Option ND} {n : Nat} (h : Cnt S n) (k : Bs) (nd : ND) : Cnt (setS S k nd) (n + 1) := fun ks h1 h2 => by
  have hnd : (ks.erase k).Nodup := h1.erase k
  have := h (ks.erase k) hnd (fun q hq => by
    have hm := (h1.mem_erase_iff.1 hq)
    have := h2 q hm.2
    unfold setS at this
    rwa [if_neg hm.1] at this)
  have hl : ks.length ≤ (ks.erase k).length + 1 := by
    rw [List.length_erase]; split <;> omega
  omega
theorem set_some {S : Bs → Option ND} {k q : Bs} {nd : ND} : (setS S k nd q).isSome = true ↔ q = k ∨ (S q).isSome = true := by
  unfold setS
  by_cases h : q = k
  · simp [h]
  · simp [h]
/-- A node told anew keeps it. -/
theorem Gd.told {S : Bs → Option ND} {n m : Nat} (h : Gd S n) (hnm : n ≤ m) {k : Bs} {nd nd' : ND} (hk : S k = some nd) (he : nd'.exports.length ≤ m) (hs : nd'.search.length ≤ m ∧ ∀ p ∈ nd'.search, p.length ≤ 10000 ∧ ∃ l, Cp p l) : Gd (setS S k nd') m := by
  have hks : (S k).isSome = true := by rw [hk]; rfl
  have hsub : ∀ q, (setS S k nd' q).isSome = true → (S q).isSome = true := fun q hq => by
    rcases set_some.1 hq with rfl | hq
    · exact hks
    · exact hq
  have hsup : ∀ q, (S q).isSome = true → (setS S k nd' q).isSome = true := fun q hq => set_some.2 (.inr hq)
  refine ⟨cnt_mono (cnt_sub h.cnt hsub) hnm, fun q hq => ?_, fun q x hx => ?_, fun q x hx => ?_, hsup _ h.root⟩
  · obtain ⟨l, h1, h2, h3⟩ := h.key q (hsub q hq)
    exact ⟨l, h1, h2, fun i => hsup _ (h3 i)⟩
  · unfold setS at hx
    by_cases hqk : q = k
    · rw [if_pos hqk] at hx; cases hx; exact he
    · rw [if_neg hqk] at hx; exact Nat.le_trans (h.exp q x hx) hnm
  · unfold setS at hx
    by_cases hqk : q = k
    · rw [if_pos hqk] at hx; cases hx; exact hs
    · rw [if_neg hqk] at hx
      exact ⟨Nat.le_trans (h.srch q x hx).1 hnm, (h.srch q x hx).2⟩
theorem Gd.mono {S : Bs → Option ND} {n m : Nat} (h : Gd S n) (hnm : n ≤ m) : Gd S m :=
  ⟨cnt_mono h.cnt hnm, h.key, fun k nd hk => Nat.le_trans (h.exp k nd hk) hnm, fun k nd hk => ⟨Nat.le_trans (h.srch k nd hk).1 hnm, (h.srch k nd hk).2⟩, h.root⟩
theorem gd_new : Gd newS 1 := by
  have hk : ∀ k, (newS k).isSome = true → k = rootN := fun k hk => by
    unfold newS at hk
    by_cases h : k = rootN
    · exact h
    · rw [if_neg h] at hk; cases hk
  refine ⟨fun ks h1 h2 => ?_, fun k hk' => ?_, fun k nd hx => ?_, fun k nd hx => ?_, by simp [newS]⟩
  · have hall : ∀ q ∈ ks, q = rootN := fun q hq => hk q (h2 q hq)
    match ks, h1, hall with
    | [], _, _ => simp
    | [a], _, _ => simp
    | a :: b :: r, h1, hall =>
      have ha := hall a (by simp)
      have hb := hall b (by simp)
      rw [List.nodup_cons] at h1
      exact absurd (by rw [ha, hb]; simp) h1.1
  · obtain rfl := hk k hk'
    exact ⟨[], cp_root, by decide, fun i => by simp [canN_nil, newS]⟩
  · rw [new_exp hx]; omega
  · unfold newS at hx
    by_cases h : k = rootN
    · rw [if_pos h] at hx; cases hx; simp [ND.new]
    · rw [if_neg h] at hx; cases hx
theorem put1_some {S : Bs → Option ND} {k q : Bs} : (put1 S k q).isSome = true ↔ q = k ∨ (S q).isSome = true := by
  unfold put1
  cases hk : S k with
  | none => simp only [Option.isNone_none, if_true]; exact set_some
  | some x =>
    simp only [Option.isNone_some, Bool.false_eq_true, if_false]
    constructor
    · exact .inr
    · rintro (rfl | h)
      · rw [hk]; rfl
      · exact h
theorem mkS_some {S : Bs → Option ND} {ps : List Bs} : ∀ {j : Nat} {q : Bs}, (mkS S ps j q).isSome = true ↔ (∃ i, i < j ∧ q = canN (ps.take i)) ∨ (S q).isSome = true
  | 0, q => by simp [mkS_zero]
  | j + 1, q => by
    rw [mkS_succ, put1_some, mkS_some]
    constructor
    · rintro (h | ⟨i, hi, h⟩ | h)
      · exact .inl ⟨j, by omega, h⟩
      · exact .inl ⟨i, by omega, h⟩
      · exact .inr h
    · rintro (⟨i, hi, h⟩ | h)
      · by_cases hij : i = j
        · subst hij; exact .inl h
        · exact .inr (.inl ⟨i, by omega, h⟩)
      · exact .inr (.inr h)
theorem mkS_val {S : Bs → Option ND} {ps : List Bs} : ∀ {j : Nat} {q : Bs} {nd : ND}, mkS S ps j q = some nd → nd = .new ∨ S q = some nd
  | 0, q, nd, h => .inr h
  | j + 1, q, nd, h => by
    rw [mkS_succ] at h
    unfold put1 at h
    split at h
    · unfold setS at h
      split at h
      · cases h; exact .inl rfl
      · exact mkS_val h
    · exact mkS_val h
theorem mkS_cnt {S : Bs → Option ND} {ps : List Bs} {n : Nat} (h : Cnt S n) : ∀ j, Cnt (mkS S ps j) (n + j)
  | 0 => h
  | j + 1 => by
    rw [mkS_succ]
    unfold put1
    split
    · exact cnt_put (mkS_cnt h j) _ _
    · exact cnt_mono (mkS_cnt h j) (by omega)
theorem gd_make {S : Bs → Option ND} {n : Nat} (h : Gd S n) (path : Bs) (hp : path.length ≤ 1500) : Gd (makeS S path) (n + 5 * (path.length + 1)) := by
  have hw := parts_w path
  have hl := len_w (partsN path)
  unfold makeS
  refine ⟨cnt_mono (mkS_cnt h.cnt _) (by omega), fun k hk => ?_, fun k nd hk => ?_, fun k nd hk => ?_, mkS_some.2 (.inr h.root)⟩
  · rcases mkS_some.1 hk with ⟨i, hi, rfl⟩ | hk
    · refine ⟨(partsN path).take i, cp_take (canon_cp path) i, ?_, fun j => mkS_some.2 (.inl ⟨min j i, by omega, by rw [List.take_take]⟩)⟩
      have h1 := can_len ((partsN path).take i)
      have h2 := wN_take_le (partsN path) i
      omega
    · obtain ⟨l, h1, h2, h3⟩ := h.key k hk
      exact ⟨l, h1, h2, fun i => mkS_some.2 (.inr (h3 i))⟩
  · rcases mkS_val hk with rfl | hk
    · simp [ND.new]
    · have := h.exp k nd hk; omega
  · rcases mkS_val hk with rfl | hk
    · simp [ND.new]
    · have := h.srch k nd hk
      exact ⟨by omega, this.2⟩
end Go.Proofs.YtjgdfgpnmmkjfaaGreatDoor
namespace Go.Proofs.YtjgdfgpnmmkjfaaGreatDoor
set_option linter.unusedVariables false
set_option linter.unusedSimpArgs false
open Go.RowKit Go.MapKept

theorem pre_iff {s p : Bs} : Lib.hasPrefix s p = true ↔ ∃ t, s = p ++ t := by
  unfold Lib.hasPrefix
  rw [List.isPrefixOf_iff_prefix]
  exact ⟨fun ⟨t, h⟩ => ⟨t, h.symm⟩, fun ⟨t, h⟩ => ⟨t, h.symm⟩⟩
theorem gone_mem {key p : Bs} {ks : List Bs} : p ∈ goneL key ks ↔ (p ∈ ks ∧ inBel key (headB key) p = true) ∨ (key ≠ rootN ∧ p = key) := by
  unfold goneL belowL
  rw [List.mem_append, List.mem_filter]
  by_cases h : key = rootN
  · rw [if_pos h]; simp [h]
  · rw [if_neg h]; simp [h]
theorem root_kept {ks : List Bs} : rootN ∉ goneL rootN ks := fun h => by
  rcases gone_mem.1 h with ⟨_, h⟩ | ⟨h, _⟩
  · unfold inBel at h; simp at h
  · exact h rfl
theorem del_some {S : Bs → Option ND} {key : Bs} {ks : List Bs} (hkey : (S key).isSome = true) (k : Bs) : (delS S key ks k).isSome = true ↔ (S k).isSome = true ∧ k ∉ goneL key ks := by
  unfold delS
  by_cases h : key = rootN
  · subst h
    rw [if_pos rfl, set_some, delAll_at]
    by_cases hk : k = rootN
    · subst hk; simp [hkey, root_kept]
    · by_cases hg : k ∈ goneL rootN ks
      · simp [hk, hg]
      · rw [if_neg hg, set_some]; simp [hk, hg]
  · rw [if_neg h, delAll_at]
    by_cases hg : k ∈ goneL key ks
    · simp [hg]
    · rw [if_neg hg]; simp [hg]
theorem del_val {S : Bs → Option ND} {key : Bs} {ks : List Bs} {k : Bs} {nd : ND} (h : delS S key ks k = some nd) : nd = .new ∨ S k = some nd := by
  unfold delS at h
  split at h
  · unfold setS at h
    split at h
    · cases h; exact .inl rfl
    · rw [delAll_at] at h
      split at h
      · cases h
      · split at h
        · cases h; exact .inl rfl
        · exact .inr h
  · rw [delAll_at] at h
    split at h
    · cases h
    · exact .inr h
theorem ofN_cons (q : Bs) (r : List Bs) : ofN (q :: r) = 58 :: 58 :: (q ++ ofN r) := by simp [ofN]
/-- A path begins with what its heads begin their lower ones with. -/
theorem can_pre {l : List Bs} (hg : ∀ q ∈ l, Gp q) {i : Nat} (hi : i < l.length) : Lib.hasPrefix (canN l) (headB (canN (l.take i))) = true := by
  have hne : l ≠ [] := by intro h; rw [h] at hi; simp at hi
  have hd : l.drop i ≠ [] := by intro h; have := congrArg List.length h; simp at this; omega
  obtain ⟨q, r, hqr⟩ := List.exists_cons_of_ne_nil hd
  rw [pre_iff]
  by_cases ht : l.take i = []
  · rw [ht]
    exact ⟨joinN l, by rw [canN_nil]; rfl⟩
  · have hroot : canN (l.take i) ≠ rootN := fun e => by
      rw [← of_can _ ht] at e
      obtain ⟨a, b, hab⟩ := List.exists_cons_of_ne_nil ht
      rw [hab, ofN_cons] at e
      have hl : (a ++ ofN b).length = 0 := by have := congrArg List.length e; simp [rootN] at this ⊢; omega
      have ha : a ∈ l := List.mem_of_mem_take (by rw [hab]; simp)
      obtain ⟨c, r', hc, _⟩ := (hg a ha).h
      rw [hc] at hl; simp at hl
    refine ⟨q ++ ofN r, ?_⟩
    rw [show headB (canN (l.take i)) = canN (l.take i) ++ rootN from if_neg hroot, ← of_can _ ht, ← of_can _ hne]
    conv => lhs; rw [← List.take_append_drop i l, of_app, hqr, ofN_cons]
    simp [rootN]
theorem head_len_lt {key : Bs} (h : key ≠ rootN) : key.length < (headB key).length := by
  rw [show headB key = key ++ rootN from if_neg h]; simp [rootN]
theorem gone_down {key k : Bs} {ks l : List Bs} {i : Nat} (hc : Cp k l) (hk : k ∈ ks) (hkey : key = rootN ∨ True) (h : canN (l.take i) ∈ goneL key ks) : k ∈ goneL key ks := by
  by_cases hi : i < l.length
  · have hp := can_pre hc.2 hi
    rw [← hc.1] at hp
    obtain ⟨t, ht⟩ := pre_iff.1 hp
    have hru : ∃ t', k = canN (l.take i) ++ t' := by
      by_cases hr : canN (l.take i) = rootN
      · rw [show headB (canN (l.take i)) = rootN from if_pos hr] at ht; exact ⟨t, by rw [hr]; exact ht⟩
      · rw [show headB (canN (l.take i)) = canN (l.take i) ++ rootN from if_neg hr] at ht; exact ⟨rootN ++ t, by rw [← List.append_assoc]; exact ht⟩
    have hne : k ≠ canN (l.take i) := fun e => by
      have := cp_inj hc (e ▸ cp_take hc i)
      have := congrArg List.length this
      simp at this; omega
    rcases gone_mem.1 h with ⟨_, hin⟩ | ⟨hkr, hu⟩
    · unfold inBel at hin
      rw [Bool.and_eq_true] at hin
      obtain ⟨t1, ht1⟩ := pre_iff.1 hin.2
      obtain ⟨t2, ht2⟩ := hru
      refine gone_mem.2 (.inl ⟨hk, ?_⟩)
      unfold inBel
      rw [Bool.and_eq_true]
      refine ⟨?_, pre_iff.2 ⟨t1 ++ t2, by rw [← List.append_assoc, ← ht1]; exact ht2⟩⟩
      have hkk : k ≠ key := fun e => by
        by_cases hr : key = rootN
        · have h0 := cp_inj (k := k) hc (by rw [e, hr]; exact cp_root)
          rw [h0] at hi; simp at hi
        · have h1 := head_len_lt hr
          have h2 := congrArg List.length ht1
          have h3 := congrArg List.length ht2
          rw [e] at h3
          simp at h2 h3; omega
      simp [hkk]
    · refine gone_mem.2 (.inl ⟨hk, ?_⟩)
      unfold inBel
      rw [Bool.and_eq_true]
      rw [hu] at hne hp
      exact ⟨by simp [hne], hp⟩
  · rw [List.take_of_length_le (by omega), ← hc.1] at h
    exact h
theorem gd_del {S : Bs → Option ND} {n : Nat} (h : Gd S n) {key : Bs} {ks : List Bs} (hks : KeysOf S ks) (hkey : (S key).isSome = true) : Gd (delS S key ks) n := by
  have hsub : ∀ k, (delS S key ks k).isSome = true → (S k).isSome = true := fun k hk => ((del_some hkey k).1 hk).1
  refine ⟨cnt_sub h.cnt hsub, fun k hk => ?_, fun k nd hk => ?_, fun k nd hk => ?_, ?_⟩
  · obtain ⟨h1, h2⟩ := (del_some hkey k).1 hk
    obtain ⟨l, hc, h3, h4⟩ := h.key k h1
    exact ⟨l, hc, h3, fun i => (del_some hkey _).2 ⟨h4 i, fun hg => h2 (gone_down hc ((hks.mem k).2 h1) (.inr trivial) hg)⟩⟩
  · rcases del_val hk with rfl | hk
    · simp [ND.new]
    · exact h.exp k nd hk
  · rcases del_val hk with rfl | hk
    · simp [ND.new]
    · exact h.srch k nd hk
  · refine (del_some hkey _).2 ⟨h.root, fun hg => ?_⟩
    by_cases hr : key = rootN
    · subst hr; exact root_kept hg
    · rcases gone_mem.1 hg with ⟨_, hin⟩ | ⟨_, e⟩
      · unfold inBel at hin
        rw [Bool.and_eq_true] at hin
        obtain ⟨t0, ht0⟩ := pre_iff.1 hin.2
        have h1 := congrArg List.length ht0
        rw [List.length_append] at h1
        have h2 := head_len_lt hr
        obtain ⟨l, hc, _⟩ := h.key key hkey
        have h3 : 2 ≤ key.length := by rw [hc.1]; simp [canN]
        simp [rootN] at h1; omega
      · exact hr e.symm
theorem gd_play {S S' : Bs → Option ND} {n : Nat} (h : Gd S n) {a : AN} (ha : a.sum ≤ 1500) (hp : PlayR S a S') : Gd S' (n + 5 * a.sum) := by
  have hs : a.sum = a.s.length + a.t.length + 1 + longS a.L := rfl
  have hL := longS_len a.L
  unfold PlayR at hp
  split at hp
  · subst hp; exact (gd_make h a.s (by omega)).mono (by omega)
  · split at hp
    · rcases hp with ⟨_, rfl⟩ | ⟨ks, hks, hkey, rfl⟩
      · exact h.mono (by omega)
      · exact (gd_del h hks hkey).mono (by omega)
    · split at hp
      · subst hp
        unfold srchS
        cases hk : S (canonN rootN a.s) with
        | none => exact h.mono (by omega)
        | some nd =>
          simp only
          split
          · refine h.told (by omega) hk (by have := h.exp _ nd hk; simp only; omega) ⟨by simp only [List.length_map]; omega, fun p hp => ?_⟩
            obtain ⟨q, hq, rfl⟩ := List.mem_map.1 hp
            have h1 := canon_len3 q
            have h2 := longS_mem hq
            exact ⟨by omega, _, canon_cp q⟩
          · exact h.mono (by omega)
      · split at hp
        · subst hp
          unfold expS
          cases hk : S (canonN rootN a.s) with
          | none => exact h.mono (by omega)
          | some nd =>
            have h1 := exp_len a.L (ex0 nd a.cl)
            have h2 := h.exp _ nd hk
            have h3 : (ex0 nd a.cl).length ≤ nd.exports.length := by unfold ex0; split <;> simp
            exact h.told (by omega) hk (by simp only; omega) ⟨by have := (h.srch _ nd hk).1; simp only; omega, (h.srch _ nd hk).2⟩
        · split at hp
          · subst hp
            unfold unkS
            cases hk : S (canonN rootN a.s) with
            | none => exact h.mono (by omega)
            | some nd => exact h.told (by omega) hk (by have := h.exp _ nd hk; simp only; omega) ⟨by have := (h.srch _ nd hk).1; simp only; omega, (h.srch _ nd hk).2⟩
          · subst hp; exact h.mono (by omega)
/-- A path that is there with its heads: 'Make' changes nothing. -/
theorem mkS_same {S : Bs → Option ND} {ps : List Bs} (h : ∀ i, (S (canN (ps.take i))).isSome = true) : ∀ j, mkS S ps j = S
  | 0 => rfl
  | j + 1 => by
    rw [mkS_succ, mkS_same h j]
    unfold put1
    have := h j
    cases hx : S (canN (ps.take j)) with
    | none => rw [hx] at this; cases this
    | some x => rfl
theorem make_same {S : Bs → Option ND} {n : Nat} (h : Gd S n) {p : Bs} (hp : (S p).isSome = true) : makeS S p = S := by
  obtain ⟨l, hc, _, h3⟩ := h.key p hp
  unfold makeS
  rw [hc.1, parts_can l hc.2]
  exact mkS_same h3 _
theorem filter_count (p : Bs → Bool) : ∀ l : List Bs, (l.filter p).length + (l.filter fun x => !p x).length = l.length
  | [] => rfl
  | x :: r => by
    have ih := filter_count p r
    by_cases h : p x = true
    · rw [List.filter_cons_of_pos h, List.filter_cons_of_neg (by simp [h])]; simp only [List.length_cons]; omega
    · rw [List.filter_cons_of_neg h, List.filter_cons_of_pos (by simpa using h)]; simp only [List.length_cons]; omega
/-- What is left and what is gone. -/
theorem del_count {S : Bs → Option ND} {n : Nat} (h : Gd S n) {key : Bs} {ks ks' : List Bs} (hks : KeysOf S ks) (hkey : (S key).isSome = true) (hks' : KeysOf (delS S key ks) ks') : ks'.length + (goneL key ks).length = ks.length := by
  have hgn : (goneL key ks).Nodup := by
    unfold goneL belowL
    by_cases hr : key = rootN
    · rw [if_pos hr, List.append_nil]; exact hks.nodup.filter _
    · rw [if_neg hr]
      refine List.nodup_append.2 ⟨hks.nodup.filter _, by simp, fun a ha b hb => ?_⟩
      simp at hb; subst hb
      rintro rfl
      have := (List.mem_filter.1 ha).2
      unfold inBel at this; simp at this
  have hgs : ∀ p ∈ goneL key ks, p ∈ ks := fun p hp => by
    rcases gone_mem.1 hp with ⟨h1, _⟩ | ⟨_, rfl⟩
    · exact h1
    · exact (hks.mem _).2 hkey
  have h1 : ks'.Perm (ks.filter fun p => decide (p ∉ goneL key ks)) := (List.perm_ext_iff_of_nodup hks'.nodup (hks.nodup.filter _)).2 fun p => by
    rw [hks'.mem p, del_some hkey p, List.mem_filter, hks.mem p]; simp
  have h2 : (goneL key ks).Perm (ks.filter fun p => !decide (p ∉ goneL key ks)) := (List.perm_ext_iff_of_nodup hgn (hks.nodup.filter _)).2 fun p => by
    rw [List.mem_filter]
    constructor
    · intro hp; exact ⟨hgs p hp, by simp [hp]⟩
    · intro hp; simpa using hp.2
  rw [h1.length_eq, h2.length_eq]
  exact filter_count _ ks
end Go.Proofs.YtjgdfgpnmmkjfaaGreatDoor
namespace Go.Proofs.YtjgdfgpnmmkjfaaGreatDoor
set_option linter.unusedVariables false
set_option linter.unusedSimpArgs false
open Go.RowKit Go.MapKept

theorem all58_last : ∀ {s : Bs}, s ≠ [] → (∀ x ∈ s, x = 58) → s.getLast? = some 58
  | [], h, _ => absurd rfl h
  | [x], _, h => by rw [h x (by simp)]; rfl
  | x :: y :: r, _, h => by
    have := all58_last (s := y :: r) (by simp) (fun z hz => h z (List.mem_cons_of_mem _ hz))
    simpa using this
theorem can_last {l : List Bs} (hne : l ≠ []) (h : ∀ q ∈ l, Gp q) : (canN l).getLast? ≠ some 58 := by
  have hj := join_last l h
  have hn : joinN l ≠ [] := by
    obtain ⟨q, r, rfl⟩ := List.exists_cons_of_ne_nil hne
    obtain ⟨c, r', rfl, _⟩ := (h q (by simp)).h
    cases r <;> simp [joinN]
  obtain ⟨x, y, hxy⟩ := List.exists_cons_of_ne_nil hn
  unfold canN
  rw [hxy] at hj ⊢
  simpa using hj
theorem abs_head {s : Bs} (h : s.head? ≠ some 58) : absN s = false := by
  cases hb : absN s with
  | false => rfl
  | true =>
    exfalso
    unfold absN at hb
    split at hb
    · exact h rfl
    · cases hb
theorem head_in {p : Bs} {l : List Bs} (hc : Cp p l) : ∃ i, headN p = canN (l.take i) := by
  by_cases hl : l = []
  · subst hl
    refine ⟨0, ?_⟩
    rw [hc.1]
    decide
  · have hlen : 2 ≤ p.length := by rw [hc.1]; simp [canN]
    have hrun : RunAt p 0 := ⟨by rw [hc.1]; simp [canN, col], .inl rfl⟩
    cases hcut : cutN p with
    | none => exact absurd hrun (last_none hcut 0 (by omega))
    | some ft =>
      obtain ⟨f, t⟩ := ft
      obtain ⟨h1, h2, h3, h4⟩ := last_some hcut
      have htail : tailN p = p.drop t := by unfold tailN; rw [hcut]
      have hdd : p.drop t = (p.drop f).drop (col (p.drop f)) := by rw [List.drop_drop, h3]
      obtain ⟨hct1, hct2⟩ := col_take (p.drop f)
      have habs : absN (tailN p) = false := by rw [htail, hdd]; exact abs_head hct2
      have hne : tailN p ≠ [] := fun e => by
        rw [htail, hdd] at e
        have hlen2 : (p.drop f).length ≤ col (p.drop f) := by have := congrArg List.length e; simp at this ⊢; omega
        have hall : ∀ x ∈ p.drop f, x = 58 := by rwa [List.take_of_length_le hlen2] at hct1
        have hcl := col_le (p.drop f)
        have hcol := h2.1
        have hnn : p.drop f ≠ [] := fun e => by rw [e] at hcl hcol; simp at hcl; omega
        have hlast := all58_last hnn hall
        have hp : p.getLast? = some 58 := by
          conv => lhs; rw [← List.take_append_drop f p]
          rw [List.getLast?_append, hlast]; rfl
        rw [hc.1] at hp
        exact can_last hl hc.2 hp
      have ht := head_tail p hne
      rw [cp_self hc] at ht
      unfold canonN at ht
      rw [if_neg (by rw [habs]; simp)] at ht
      have hgood : ∀ q ∈ partsN (headN p) ++ partsN (tailN p), Gp q := fun q hq => by
        rcases List.mem_append.1 hq with h | h
        · exact parts_good _ q h
        · exact parts_good _ q h
      have hli := cp_inj (k := p) ⟨ht.symm, hgood⟩ hc
      have hhd : headN p = canN (partsN (p.take f)) := by unfold headN; rw [hcut]; exact canon_root _
      refine ⟨(partsN (headN p)).length, ?_⟩
      rw [← hli, List.take_left]
      rw [hhd, parts_can _ (parts_good _)]
theorem head_there {S : Bs → Option ND} {n : Nat} (h : Gd S n) {p : Bs} (hp : (S p).isSome = true) : (S (canonN rootN (headN p))).isSome = true ∧ p.length ≤ 10000 := by
  obtain ⟨l, hc, h2, h3⟩ := h.key p hp
  obtain ⟨i, hi⟩ := head_in hc
  rw [hi, cp_self (cp_take hc i)]
  exact ⟨h3 i, h2⟩
end Go.Proofs.YtjgdfgpnmmkjfaaGreatDoor
