/- 'play' of both trees. -/
import Derived.Test.YtjgdfgpnmmkjfaaGreatDoorNRDl
import Derived.Test.YtjgdfgpnmmkjfaaGreatDoorSame
import Derived.Deep.RegionHeld3
namespace Go.Proofs.YtjgdfgpnmmkjfaaGreatDoor
set_option linter.unusedVariables false
set_option linter.unusedSimpArgs false
open Go.RowKit Go.MapKept
/-- What 'play' leaves. -/
structure NlQ (w : World) (B tb m yb : Nat) (who whoY : Own) (S : Bs → Option ND) (a : AN) (w' : World) : Prop where
  ex : ∃ S' who' whoY', PlayR S a S' ∧ Tn w' B tb m yb who' whoY' S' S'
  below : Below B w w'
  keep : ∀ (j : Nat) (cs : Array Value) (t : TypeId) (f : Nat × Nat), w.heap[j]? = some (.cells cs t f) → who j = none → whoY j = none → w'.heap[j]? = w.heap[j]?
section
variable {B tb m yb : Nat} {who whoY : Own}
theorem lowBl {a b : World} {B : Nat} (hx : Below a.heap.size a b) (hB : B ≤ a.heap.size) : Below B a b := ⟨hx.os, hx.tape, hx.output, hx.size, fun k hk => hx.block k (by omega)⟩
theorem NlQ.of_ {w W w1 w2 w3 : World} {S S' : Bs → Option ND} {a : AN} (h : Tn w B tb m yb who whoY S S) (hb : Below w.heap.size w W) (hb1 : Below W.heap.size W w1) (hH : HalfN w1 B tb m yb who whoY S S' w2) (hF : WholeN w2 B tb m yb whoY S S' w3) (hp : PlayR S a S') : NlQ w B tb m yb who whoY S a w3 := by
  obtain ⟨who2, _, hS1⟩ := hH.ex
  obtain ⟨who3, whoY3, hT, hS2⟩ := hF.ex
  have hB := h.base
  have hB1 := Nat.le_trans (Nat.le_trans hB hb.size) hb1.size
  refine ⟨⟨S', who3, whoY3, hp, hT⟩, (((lowBl hb hB).trans (lowBl hb1 (Nat.le_trans hB hb.size))).trans (hS1.below hB1 (fun j hj => (h.lo j hj).1))).trans (hS2.below (Nat.le_trans hB1 hS1.fr.size) (fun j hj => (h.loY j hj).1)), fun j cs t f hj h1 h2 => ?_⟩
  have hl := (Array.getElem?_eq_some_iff.1 hj).1
  have l1 := Nat.lt_of_lt_of_le hl hb.size
  have l2 := Nat.lt_of_lt_of_le l1 hb1.size
  exact (hS2.fr.block j (Nat.lt_of_lt_of_le l2 hS1.fr.size) h2).trans ((hS1.fr.block j l2 h1).trans ((hb1.block j l1).trans (hb.block j hl)))
theorem NlQ.low {w w1 w2 : World} {S : Bs → Option ND} {a : AN} (h : NlQ w B tb m yb who whoY S a w1) (hb : Below w1.heap.size w1 w2) : NlQ w B tb m yb who whoY S a w2 := by
  obtain ⟨S', who', whoY', hp, hT⟩ := h.ex
  exact ⟨⟨S', who', whoY', hp, hT.low hb⟩, h.below.trans (lowBl hb hT.base), fun j cs t f hj h1 h2 => by
    have e := h.keep j cs t f hj h1 h2
    exact (hb.block j (Array.getElem?_eq_some_iff.1 (e.trans hj)).1).trans e⟩
theorem NlQ.none {w w1 : World} {S : Bs → Option ND} {a : AN} (h : Tn w B tb m yb who whoY S S) (hb : Below w.heap.size w w1) (hp : PlayR S a S) : NlQ w B tb m yb who whoY S a w1 :=
  ⟨⟨S, who, whoY, hp, h.low hb⟩, lowBl hb h.base, fun j cs t f hj _ _ => hb.block j (Array.getElem?_eq_some_iff.1 hj).1⟩
theorem an_fit {a : AN} (ha : a.sum ≤ 1500) : a.s.length ≤ 1500 ∧ a.t.length ≤ 1500 ∧ (∀ p ∈ a.L, p.length ≤ 1500) ∧ a.L.length ≤ 1500 := by
  unfold AN.sum at ha
  have h1 := longS_len a.L
  exact ⟨by omega, by omega, fun p hp => by have := longS_mem hp; omega, by omega⟩
set_option maxRecDepth 100000 in
set_option maxHeartbeats 3200000 in
theorem nl_0 {w : World} {S : Bs → Option ND} (h : Tn w B tb m yb who whoY S S) {n : Nat} (hF : FitN S n) (a : AN) (ha : a.sum ≤ 1500) (hv0 : TxtRow w (.slice a.lo a.L.length a.lc) a.L) (hvb : ∀ o, a.lo = some o → 0 < a.L.length → o.block < B) (hk : a.k = 0) :
    Calls Tryz.prog 9 #[.pointer (some ⟨tb, 0, none⟩), .pointer (some ⟨yb, 0, none⟩), .agg #[.int .i64 a.k, .string ⟨a.s.toArray⟩, .string ⟨a.t.toArray⟩, .slice a.lo a.L.length a.lc, .bool a.cl]] w fun e w' => e = .returned (.bool true) ∧ NlQ w B tb m yb who whoY S a w' := by
  obtain ⟨hs1, hs2, hs3, hs4⟩ := an_fit ha
  have hb : Below w.heap.size w (w.alloc (boxA a)) := (Below.refl _ w).alloc (Nat.le_refl _) _
  have hbn := heap_alloc_new w (boxA a)
  have hT := h.low hb
  have hBw := h.base
  have hvw : ∀ W, Below B w W → TxtRow W (.slice a.lo a.L.length a.lc) a.L := fun W hB => TxtRow.base hv0 hvb hB
  have hvb2 : ∀ o n c, Value.slice a.lo a.L.length a.lc = .slice (some o) n c → 0 < n → o.block < B := fun o n c e hn => by
    injection e with e1 e2 e3
    exact hvb o e1 (by omega)
  obtain ⟨ab, hab⟩ : ∃ ab, w.heap.size = ab := ⟨_, rfl⟩
  obtain ⟨W, hWd⟩ : ∃ W, w.alloc (boxA a) = W := ⟨_, rfl⟩
  rw [hWd] at hb hbn hT
  rw [hab] at hbn
  have hal : ab < W.heap.size := (Array.getElem?_eq_some_iff.1 hbn).1
  have hwa : who ab = none := none_of_lo h.lo (.inl (by omega))
  have hwb : whoY ab = none := none_of_lo h.loY (.inl (by omega))
  have CE : Hid (∀ W' : World, W'.heap[ab]? = W.heap[ab]? → W'.cell? ⟨ab, 0, none⟩ = some (.int .i64 a.k) ∧ W'.cell? ⟨ab, 1, none⟩ = some (.string ⟨a.s.toArray⟩) ∧ W'.cell? ⟨ab, 2, none⟩ = some (.string ⟨a.t.toArray⟩) ∧ W'.cell? ⟨ab, 3, none⟩ = some (.slice a.lo a.L.length a.lc) ∧ W'.cell? ⟨ab, 4, none⟩ = some (.bool a.cl)) := fun W' e => vcells5 (e.trans hbn)
  have KS : Hid (∀ (W1 w2 : World) (S' : Bs → Option ND), Below W.heap.size W W1 → HalfN W1 B tb m yb who whoY S S' w2 → w2.heap[ab]? = W.heap[ab]?) := fun W1 w2 S' h1 hH => by
    obtain ⟨_, _, hS⟩ := hH.ex
    exact (hS.fr.block ab (Nat.lt_of_lt_of_le hal h1.size) hwa).trans (h1.block ab hal)
  have KT : Hid (∀ (w2 w3 : World) (S' : Bs → Option ND), w2.heap[ab]? = W.heap[ab]? → WholeN w2 B tb m yb whoY S S' w3 → w3.heap[ab]? = W.heap[ab]?) := fun w2 w3 S' h1 hF => by
    obtain ⟨_, _, _, hS⟩ := hF.ex
    exact (hS.fr.block ab (by have := (Array.getElem?_eq_some_iff.1 (h1.trans hbn)).1; exact this) hwb).trans h1
  have FIN : Hid (∀ (W1 w2 w3 : World) (S' : Bs → Option ND), Below W.heap.size W W1 → HalfN W1 B tb m yb who whoY S S' w2 → WholeN w2 B tb m yb whoY S S' w3 → PlayR S a S' → NlQ w B tb m yb who whoY S a w3) := fun W1 w2 w3 S' h1 hH hF hp => NlQ.of_ h hb h1 hH hF hp
  have hBW : Below B w W := lowBl hb hBw
  have HVM : Hid (∀ (W1 w2 : World) (S' : Bs → Option ND), Below W.heap.size W W1 → HalfN W1 B tb m yb who whoY S S' w2 → TxtRow w2 (.slice a.lo a.L.length a.lc) a.L) := fun W1 w2 S' h1 hH => by
    obtain ⟨_, _, hS⟩ := hH.ex
    have hB1 : B ≤ W1.heap.size := Nat.le_trans (Nat.le_trans hBw hb.size) h1.size
    exact hvw _ ((hBW.trans (lowBl h1 (Nat.le_trans hBw hb.size))).trans (hS.below hB1 (fun j hj => (h.lo j hj).1)))
  have XC : Hid (∀ W1, Below W.heap.size W W1 → Calls Tryz.prog 14 #[.pointer (some ⟨tb, 0, none⟩), .string ⟨a.s.toArray⟩] W1 fun e w2 => e = .returned (.int .i64 (0)) ∧ HalfN W1 B tb m yb who whoY S (makeS S a.s) w2) := fun W1 h1 => by
    have hv := hvw W1 (hBW.trans (lowBl h1 (Nat.le_trans hBw hb.size)))
    exact tMake a.s hs1 (hT.low h1) hF
  have XU : Hid (∀ (W1 w2 : World), Below W.heap.size W W1 → HalfN W1 B tb m yb who whoY S (makeS S a.s) w2 → Calls Tryz.prog 24 #[.pointer (some ⟨yb, 0, none⟩), .string ⟨a.s.toArray⟩] w2 fun e w3 => e = .returned (.int .i64 (0)) ∧ WholeN w2 B tb m yb whoY S (makeS S a.s) w3) := fun W1 w2 h1 hH => by
    have hv := HVM.out W1 w2 _ h1 hH
    obtain ⟨_, hTw, _⟩ := hH.ex
    exact uMake a.s hs1 hTw hF
  have HPR : Hid (PlayR S a (makeS S a.s)) := by show PlayR _ _ _; unfold PlayR; rw [hk]; rfl
  generalize makeS S a.s = S2 at *
  obtain ⟨x0, x1, x2, x3, x4⟩ := CE.out W rfl
  clear h hb hbn hT hwa hwb hF hvw hv0 hvb hvb2 hBW hBw HVM ha hal hs1 hs2 hs3 hs4
  unfold boxA at hWd
  obtain ⟨ak, as_, at_, aL, acl, alo, alc⟩ := a
  simp only at hk XC XU CE FIN HPR x0 x1 x2 x3 x4 hWd ⊢
  subst hk
  generalize aL.length = an at *
  go_enter Tryz.func9, Tryz.ntmps9
  go_wp2_with fail
  go_region_held3 (fun w' => w'.cell? ⟨ab, 1, none⟩ = some (.string ⟨as_.toArray⟩) ∧ w'.cell? ⟨ab, 2, none⟩ = some (.string ⟨at_.toArray⟩) ∧ w'.cell? ⟨ab, 3, none⟩ = some (.slice alo an alc) ∧ w'.cell? ⟨ab, 4, none⟩ = some (.bool acl)) (first | go_keep | exact ⟨z1, z2, z3, z4⟩) (first
    | (go_at_call 14; refine (XC.out _ (by exact (Below.refl _ _).drew)).mono ?_; rintro e w2 ⟨rfl, hH⟩; have y1 := KS.out _ w2 _ (by exact (Below.refl _ _).drew) hH; obtain ⟨z0, z1, z2, z3, z4⟩ := CE.out w2 y1; have H2 := Lib.hid (And.intro hH y1); clear hH y1)
    | (go_at_call 24; refine (XU.out _ w2 (by exact (Below.refl _ _).drew) H2.out.1).mono ?_; rintro e w3 ⟨rfl, hF⟩; have y1 := KT.out w2 w3 _ H2.out.2 hF; obtain ⟨z0, z1, z2, z3, z4⟩ := CE.out w3 y1; have H3 := Lib.hid (FIN.out _ _ _ _ (by exact (Below.refl _ _).drew) H2.out.1 hF HPR.out); clear hF y1))
  all_goals
    go_wp2_with fail
    go_ret
    exact ⟨ret_bool (by simp), H3.out⟩
set_option maxRecDepth 100000 in
set_option maxHeartbeats 3200000 in
theorem nl_1 {w : World} {S : Bs → Option ND} (h : Tn w B tb m yb who whoY S S) {n : Nat} (hF : FitN S n) (a : AN) (ha : a.sum ≤ 1500) (hv0 : TxtRow w (.slice a.lo a.L.length a.lc) a.L) (hvb : ∀ o, a.lo = some o → 0 < a.L.length → o.block < B) (hk : a.k = 1) :
    Calls Tryz.prog 9 #[.pointer (some ⟨tb, 0, none⟩), .pointer (some ⟨yb, 0, none⟩), .agg #[.int .i64 a.k, .string ⟨a.s.toArray⟩, .string ⟨a.t.toArray⟩, .slice a.lo a.L.length a.lc, .bool a.cl]] w fun e w' => e = .returned (.bool true) ∧ NlQ w B tb m yb who whoY S a w' := by
  obtain ⟨hs1, hs2, hs3, hs4⟩ := an_fit ha
  have hb : Below w.heap.size w (w.alloc (boxA a)) := (Below.refl _ w).alloc (Nat.le_refl _) _
  have hbn := heap_alloc_new w (boxA a)
  have hT := h.low hb
  have hBw := h.base
  have hvw : ∀ W, Below B w W → TxtRow W (.slice a.lo a.L.length a.lc) a.L := fun W hB => TxtRow.base hv0 hvb hB
  have hvb2 : ∀ o n c, Value.slice a.lo a.L.length a.lc = .slice (some o) n c → 0 < n → o.block < B := fun o n c e hn => by
    injection e with e1 e2 e3
    exact hvb o e1 (by omega)
  obtain ⟨ab, hab⟩ : ∃ ab, w.heap.size = ab := ⟨_, rfl⟩
  obtain ⟨W, hWd⟩ : ∃ W, w.alloc (boxA a) = W := ⟨_, rfl⟩
  rw [hWd] at hb hbn hT
  rw [hab] at hbn
  have hal : ab < W.heap.size := (Array.getElem?_eq_some_iff.1 hbn).1
  have hwa : who ab = none := none_of_lo h.lo (.inl (by omega))
  have hwb : whoY ab = none := none_of_lo h.loY (.inl (by omega))
  have CE : Hid (∀ W' : World, W'.heap[ab]? = W.heap[ab]? → W'.cell? ⟨ab, 0, none⟩ = some (.int .i64 a.k) ∧ W'.cell? ⟨ab, 1, none⟩ = some (.string ⟨a.s.toArray⟩) ∧ W'.cell? ⟨ab, 2, none⟩ = some (.string ⟨a.t.toArray⟩) ∧ W'.cell? ⟨ab, 3, none⟩ = some (.slice a.lo a.L.length a.lc) ∧ W'.cell? ⟨ab, 4, none⟩ = some (.bool a.cl)) := fun W' e => vcells5 (e.trans hbn)
  have KS : Hid (∀ (W1 w2 : World) (S' : Bs → Option ND), Below W.heap.size W W1 → HalfN W1 B tb m yb who whoY S S' w2 → w2.heap[ab]? = W.heap[ab]?) := fun W1 w2 S' h1 hH => by
    obtain ⟨_, _, hS⟩ := hH.ex
    exact (hS.fr.block ab (Nat.lt_of_lt_of_le hal h1.size) hwa).trans (h1.block ab hal)
  have KT : Hid (∀ (w2 w3 : World) (S' : Bs → Option ND), w2.heap[ab]? = W.heap[ab]? → WholeN w2 B tb m yb whoY S S' w3 → w3.heap[ab]? = W.heap[ab]?) := fun w2 w3 S' h1 hF => by
    obtain ⟨_, _, _, hS⟩ := hF.ex
    exact (hS.fr.block ab (by have := (Array.getElem?_eq_some_iff.1 (h1.trans hbn)).1; exact this) hwb).trans h1
  have FIN : Hid (∀ (W1 w2 w3 : World) (S' : Bs → Option ND), Below W.heap.size W W1 → HalfN W1 B tb m yb who whoY S S' w2 → WholeN w2 B tb m yb whoY S S' w3 → PlayR S a S' → NlQ w B tb m yb who whoY S a w3) := fun W1 w2 w3 S' h1 hH hF hp => NlQ.of_ h hb h1 hH hF hp
  have hBW : Below B w W := lowBl hb hBw
  have HVM : Hid (∀ (W1 w2 : World) (S' : Bs → Option ND), Below W.heap.size W W1 → HalfN W1 B tb m yb who whoY S S' w2 → TxtRow w2 (.slice a.lo a.L.length a.lc) a.L) := fun W1 w2 S' h1 hH => by
    obtain ⟨_, _, hS⟩ := hH.ex
    have hB1 : B ≤ W1.heap.size := Nat.le_trans (Nat.le_trans hBw hb.size) h1.size
    exact hvw _ ((hBW.trans (lowBl h1 (Nat.le_trans hBw hb.size))).trans (hS.below hB1 (fun j hj => (h.lo j hj).1)))
  obtain ⟨ks, hks⟩ := keys_of hF.gd.cnt
  have XC : Hid (∀ W1, Below W.heap.size W W1 → Calls Tryz.prog 15 #[.pointer (some ⟨tb, 0, none⟩), .string ⟨a.s.toArray⟩] W1 fun e w2 => ∃ u r gl S', e = .returned (.tuple #[u, .int .i64 r]) ∧ DelN S a.s ks r gl S' ∧ TxtRow w2 u gl ∧ (∀ o n c, u = .slice (some o) n c → whoY o.block = none) ∧ HalfN W1 B tb m yb who whoY S S' w2) := fun W1 h1 => tDelete (hT.low h1) hF hks a.s hs1
  have XU : Hid (∀ (W1 w2 : World) (r : Int) (gl : List Bs) (S' : Bs → Option ND) (u : Value), HalfN W1 B tb m yb who whoY S S' w2 → DelN S a.s ks r gl S' → TxtRow w2 u gl → (∀ o n c, u = .slice (some o) n c → whoY o.block = none) → Calls Tryz.prog 25 #[.pointer (some ⟨yb, 0, none⟩), .string ⟨a.s.toArray⟩] w2 fun e w3 => ∃ vo, e = .returned (.tuple #[vo, .int .i64 r]) ∧ WholeN w2 B tb m yb whoY S S' w3 ∧ TxtRow w3 u gl ∧ TxtRow w3 vo gl) := fun W1 w2 r gl S' u hH hD hu hub => by
    obtain ⟨_, hTw, _⟩ := hH.ex
    exact uDelete hTw hF hks a.s hs1 hD hu hub
  have HPR : Hid (∀ r gl S', DelN S a.s ks r gl S' → PlayR S a S') := fun r gl S' hD => by
    show PlayR _ _ _
    unfold PlayR
    rw [hk]
    rcases hD with ⟨h1, _, _, h2⟩ | ⟨h1, _, _, h2⟩
    · exact .inl ⟨h1, h2⟩
    · exact .inr ⟨ks, hks, h1, h2⟩
  obtain ⟨x0, x1, x2, x3, x4⟩ := CE.out W rfl
  clear h hb hbn hT hwa hwb hF hvw hv0 hvb hvb2 hBW hBw HVM ha hal hs1 hs2 hs3 hs4 hks
  unfold boxA at hWd
  obtain ⟨ak, as_, at_, aL, acl, alo, alc⟩ := a
  simp only at hk XC XU CE FIN HPR x0 x1 x2 x3 x4 hWd ⊢
  subst hk
  generalize aL.length = an at *
  go_enter Tryz.func9, Tryz.ntmps9
  go_wp2_with (first
    | (go_at_call 15; refine (XC.out _ (Below.refl _ _)).mono ?_; rintro e w2 ⟨u, r, gl, S2, rfl, hD, hu, hub, hH⟩; have y1 := KS.out _ w2 _ (Below.refl _ _) hH; obtain ⟨z0, z1, z2, z3, z4⟩ := CE.out w2 y1; have H2 := Lib.hid (And.intro hH (And.intro hD (And.intro hu (And.intro hub y1)))); clear hH y1 hD hu hub)
    | (go_at_call 25; refine (XU.out _ w2 _ _ _ _ H2.out.1 H2.out.2.1 H2.out.2.2.1 H2.out.2.2.2.1).mono ?_; rintro e w3 ⟨vo, rfl, hF, hr1, hr2⟩; have y1 := KT.out w2 w3 _ H2.out.2.2.2.2 hF; obtain ⟨z0, z1, z2, z3, z4⟩ := CE.out w3 y1; have H3 := Lib.hid (FIN.out _ _ _ _ (Below.refl _ _) H2.out.1 hF (HPR.out _ _ _ H2.out.2.1)); have HR := Lib.hid (And.intro hr1 hr2); clear hF y1 hr1 hr2)
    | (go_at_call 16; refine (same_yes _ HR.out.1 HR.out.2).mono ?_; rintro e w4 ⟨rfl, hB4⟩; have H4 := Lib.hid hB4; clear hB4))
  go_ret
  exact ⟨ret_bool (by simp), H3.out.low H4.out⟩
set_option maxRecDepth 100000 in
set_option maxHeartbeats 3200000 in
theorem nl_2 {w : World} {S : Bs → Option ND} (h : Tn w B tb m yb who whoY S S) {n : Nat} (hF : FitN S n) (a : AN) (ha : a.sum ≤ 1500) (hv0 : TxtRow w (.slice a.lo a.L.length a.lc) a.L) (hvb : ∀ o, a.lo = some o → 0 < a.L.length → o.block < B) (hk : a.k = 2) :
    Calls Tryz.prog 9 #[.pointer (some ⟨tb, 0, none⟩), .pointer (some ⟨yb, 0, none⟩), .agg #[.int .i64 a.k, .string ⟨a.s.toArray⟩, .string ⟨a.t.toArray⟩, .slice a.lo a.L.length a.lc, .bool a.cl]] w fun e w' => e = .returned (.bool true) ∧ NlQ w B tb m yb who whoY S a w' := by
  obtain ⟨hs1, hs2, hs3, hs4⟩ := an_fit ha
  have hb : Below w.heap.size w (w.alloc (boxA a)) := (Below.refl _ w).alloc (Nat.le_refl _) _
  have hbn := heap_alloc_new w (boxA a)
  have hT := h.low hb
  have hBw := h.base
  have hvw : ∀ W, Below B w W → TxtRow W (.slice a.lo a.L.length a.lc) a.L := fun W hB => TxtRow.base hv0 hvb hB
  have hvb2 : ∀ o n c, Value.slice a.lo a.L.length a.lc = .slice (some o) n c → 0 < n → o.block < B := fun o n c e hn => by
    injection e with e1 e2 e3
    exact hvb o e1 (by omega)
  obtain ⟨ab, hab⟩ : ∃ ab, w.heap.size = ab := ⟨_, rfl⟩
  obtain ⟨W, hWd⟩ : ∃ W, w.alloc (boxA a) = W := ⟨_, rfl⟩
  rw [hWd] at hb hbn hT
  rw [hab] at hbn
  have hal : ab < W.heap.size := (Array.getElem?_eq_some_iff.1 hbn).1
  have hwa : who ab = none := none_of_lo h.lo (.inl (by omega))
  have hwb : whoY ab = none := none_of_lo h.loY (.inl (by omega))
  have CE : Hid (∀ W' : World, W'.heap[ab]? = W.heap[ab]? → W'.cell? ⟨ab, 0, none⟩ = some (.int .i64 a.k) ∧ W'.cell? ⟨ab, 1, none⟩ = some (.string ⟨a.s.toArray⟩) ∧ W'.cell? ⟨ab, 2, none⟩ = some (.string ⟨a.t.toArray⟩) ∧ W'.cell? ⟨ab, 3, none⟩ = some (.slice a.lo a.L.length a.lc) ∧ W'.cell? ⟨ab, 4, none⟩ = some (.bool a.cl)) := fun W' e => vcells5 (e.trans hbn)
  have KS : Hid (∀ (W1 w2 : World) (S' : Bs → Option ND), Below W.heap.size W W1 → HalfN W1 B tb m yb who whoY S S' w2 → w2.heap[ab]? = W.heap[ab]?) := fun W1 w2 S' h1 hH => by
    obtain ⟨_, _, hS⟩ := hH.ex
    exact (hS.fr.block ab (Nat.lt_of_lt_of_le hal h1.size) hwa).trans (h1.block ab hal)
  have KT : Hid (∀ (w2 w3 : World) (S' : Bs → Option ND), w2.heap[ab]? = W.heap[ab]? → WholeN w2 B tb m yb whoY S S' w3 → w3.heap[ab]? = W.heap[ab]?) := fun w2 w3 S' h1 hF => by
    obtain ⟨_, _, _, hS⟩ := hF.ex
    exact (hS.fr.block ab (by have := (Array.getElem?_eq_some_iff.1 (h1.trans hbn)).1; exact this) hwb).trans h1
  have FIN : Hid (∀ (W1 w2 w3 : World) (S' : Bs → Option ND), Below W.heap.size W W1 → HalfN W1 B tb m yb who whoY S S' w2 → WholeN w2 B tb m yb whoY S S' w3 → PlayR S a S' → NlQ w B tb m yb who whoY S a w3) := fun W1 w2 w3 S' h1 hH hF hp => NlQ.of_ h hb h1 hH hF hp
  have hBW : Below B w W := lowBl hb hBw
  have HVM : Hid (∀ (W1 w2 : World) (S' : Bs → Option ND), Below W.heap.size W W1 → HalfN W1 B tb m yb who whoY S S' w2 → TxtRow w2 (.slice a.lo a.L.length a.lc) a.L) := fun W1 w2 S' h1 hH => by
    obtain ⟨_, _, hS⟩ := hH.ex
    have hB1 : B ≤ W1.heap.size := Nat.le_trans (Nat.le_trans hBw hb.size) h1.size
    exact hvw _ ((hBW.trans (lowBl h1 (Nat.le_trans hBw hb.size))).trans (hS.below hB1 (fun j hj => (h.lo j hj).1)))
  have XC : Hid (∀ W1, Below W.heap.size W W1 → Calls Tryz.prog 23 #[.pointer (some ⟨tb, 0, none⟩), .string ⟨a.s.toArray⟩, .slice a.lo a.L.length a.lc] W1 fun e w2 => e = .returned (.int .i64 ((srchS S a.s a.L).1)) ∧ HalfN W1 B tb m yb who whoY S ((srchS S a.s a.L).2) w2) := fun W1 h1 => by
    have hv := hvw W1 (hBW.trans (lowBl h1 (Nat.le_trans hBw hb.size)))
    exact tSetSearch a.s hs1 a.L hs3 hs4 _ hv (hT.low h1) hF
  have XU : Hid (∀ (W1 w2 : World), Below W.heap.size W W1 → HalfN W1 B tb m yb who whoY S ((srchS S a.s a.L).2) w2 → Calls Tryz.prog 26 #[.pointer (some ⟨yb, 0, none⟩), .string ⟨a.s.toArray⟩, .slice a.lo a.L.length a.lc] w2 fun e w3 => e = .returned (.int .i64 ((srchS S a.s a.L).1)) ∧ WholeN w2 B tb m yb whoY S ((srchS S a.s a.L).2) w3) := fun W1 w2 h1 hH => by
    have hv := HVM.out W1 w2 _ h1 hH
    obtain ⟨_, hTw, _⟩ := hH.ex
    exact uSetSearch a.s hs1 a.L hs3 hs4 _ hv hTw hF
  have HPR : Hid (PlayR S a ((srchS S a.s a.L).2)) := by show PlayR _ _ _; unfold PlayR; rw [hk]; rfl
  obtain ⟨rr, hrr⟩ : ∃ x, (srchS S a.s a.L).1 = x := ⟨_, rfl⟩
  rw [hrr] at XC XU
  generalize (srchS S a.s a.L).2 = S2 at *
  obtain ⟨x0, x1, x2, x3, x4⟩ := CE.out W rfl
  clear h hb hbn hT hwa hwb hF hvw hv0 hvb hvb2 hBW hBw HVM ha hal hs1 hs2 hs3 hs4
  unfold boxA at hWd
  obtain ⟨ak, as_, at_, aL, acl, alo, alc⟩ := a
  simp only at hk XC XU CE FIN HPR x0 x1 x2 x3 x4 hWd ⊢
  subst hk
  generalize aL.length = an at *
  go_enter Tryz.func9, Tryz.ntmps9
  go_wp2_with fail
  go_region_held3 (fun w' => w'.cell? ⟨ab, 1, none⟩ = some (.string ⟨as_.toArray⟩) ∧ w'.cell? ⟨ab, 2, none⟩ = some (.string ⟨at_.toArray⟩) ∧ w'.cell? ⟨ab, 3, none⟩ = some (.slice alo an alc) ∧ w'.cell? ⟨ab, 4, none⟩ = some (.bool acl)) (first | go_keep | exact ⟨z1, z2, z3, z4⟩) (first
    | (go_at_call 23; refine (XC.out _ (by exact (Below.refl _ _).drew)).mono ?_; rintro e w2 ⟨rfl, hH⟩; have y1 := KS.out _ w2 _ (by exact (Below.refl _ _).drew) hH; obtain ⟨z0, z1, z2, z3, z4⟩ := CE.out w2 y1; have H2 := Lib.hid (And.intro hH y1); clear hH y1)
    | (go_at_call 26; refine (XU.out _ w2 (by exact (Below.refl _ _).drew) H2.out.1).mono ?_; rintro e w3 ⟨rfl, hF⟩; have y1 := KT.out w2 w3 _ H2.out.2 hF; obtain ⟨z0, z1, z2, z3, z4⟩ := CE.out w3 y1; have H3 := Lib.hid (FIN.out _ _ _ _ (by exact (Below.refl _ _).drew) H2.out.1 hF HPR.out); clear hF y1))
  all_goals
    go_wp2_with fail
    go_ret
    exact ⟨ret_bool (by simp), H3.out⟩
set_option maxRecDepth 100000 in
set_option maxHeartbeats 3200000 in
theorem nl_3 {w : World} {S : Bs → Option ND} (h : Tn w B tb m yb who whoY S S) {n : Nat} (hF : FitN S n) (a : AN) (ha : a.sum ≤ 1500) (hv0 : TxtRow w (.slice a.lo a.L.length a.lc) a.L) (hvb : ∀ o, a.lo = some o → 0 < a.L.length → o.block < B) (hk : a.k = 3) :
    Calls Tryz.prog 9 #[.pointer (some ⟨tb, 0, none⟩), .pointer (some ⟨yb, 0, none⟩), .agg #[.int .i64 a.k, .string ⟨a.s.toArray⟩, .string ⟨a.t.toArray⟩, .slice a.lo a.L.length a.lc, .bool a.cl]] w fun e w' => e = .returned (.bool true) ∧ NlQ w B tb m yb who whoY S a w' := by
  obtain ⟨hs1, hs2, hs3, hs4⟩ := an_fit ha
  have hb : Below w.heap.size w (w.alloc (boxA a)) := (Below.refl _ w).alloc (Nat.le_refl _) _
  have hbn := heap_alloc_new w (boxA a)
  have hT := h.low hb
  have hBw := h.base
  have hvw : ∀ W, Below B w W → TxtRow W (.slice a.lo a.L.length a.lc) a.L := fun W hB => TxtRow.base hv0 hvb hB
  have hvb2 : ∀ o n c, Value.slice a.lo a.L.length a.lc = .slice (some o) n c → 0 < n → o.block < B := fun o n c e hn => by
    injection e with e1 e2 e3
    exact hvb o e1 (by omega)
  obtain ⟨ab, hab⟩ : ∃ ab, w.heap.size = ab := ⟨_, rfl⟩
  obtain ⟨W, hWd⟩ : ∃ W, w.alloc (boxA a) = W := ⟨_, rfl⟩
  rw [hWd] at hb hbn hT
  rw [hab] at hbn
  have hal : ab < W.heap.size := (Array.getElem?_eq_some_iff.1 hbn).1
  have hwa : who ab = none := none_of_lo h.lo (.inl (by omega))
  have hwb : whoY ab = none := none_of_lo h.loY (.inl (by omega))
  have CE : Hid (∀ W' : World, W'.heap[ab]? = W.heap[ab]? → W'.cell? ⟨ab, 0, none⟩ = some (.int .i64 a.k) ∧ W'.cell? ⟨ab, 1, none⟩ = some (.string ⟨a.s.toArray⟩) ∧ W'.cell? ⟨ab, 2, none⟩ = some (.string ⟨a.t.toArray⟩) ∧ W'.cell? ⟨ab, 3, none⟩ = some (.slice a.lo a.L.length a.lc) ∧ W'.cell? ⟨ab, 4, none⟩ = some (.bool a.cl)) := fun W' e => vcells5 (e.trans hbn)
  have KS : Hid (∀ (W1 w2 : World) (S' : Bs → Option ND), Below W.heap.size W W1 → HalfN W1 B tb m yb who whoY S S' w2 → w2.heap[ab]? = W.heap[ab]?) := fun W1 w2 S' h1 hH => by
    obtain ⟨_, _, hS⟩ := hH.ex
    exact (hS.fr.block ab (Nat.lt_of_lt_of_le hal h1.size) hwa).trans (h1.block ab hal)
  have KT : Hid (∀ (w2 w3 : World) (S' : Bs → Option ND), w2.heap[ab]? = W.heap[ab]? → WholeN w2 B tb m yb whoY S S' w3 → w3.heap[ab]? = W.heap[ab]?) := fun w2 w3 S' h1 hF => by
    obtain ⟨_, _, _, hS⟩ := hF.ex
    exact (hS.fr.block ab (by have := (Array.getElem?_eq_some_iff.1 (h1.trans hbn)).1; exact this) hwb).trans h1
  have FIN : Hid (∀ (W1 w2 w3 : World) (S' : Bs → Option ND), Below W.heap.size W W1 → HalfN W1 B tb m yb who whoY S S' w2 → WholeN w2 B tb m yb whoY S S' w3 → PlayR S a S' → NlQ w B tb m yb who whoY S a w3) := fun W1 w2 w3 S' h1 hH hF hp => NlQ.of_ h hb h1 hH hF hp
  have hBW : Below B w W := lowBl hb hBw
  have HVM : Hid (∀ (W1 w2 : World) (S' : Bs → Option ND), Below W.heap.size W W1 → HalfN W1 B tb m yb who whoY S S' w2 → TxtRow w2 (.slice a.lo a.L.length a.lc) a.L) := fun W1 w2 S' h1 hH => by
    obtain ⟨_, _, hS⟩ := hH.ex
    have hB1 : B ≤ W1.heap.size := Nat.le_trans (Nat.le_trans hBw hb.size) h1.size
    exact hvw _ ((hBW.trans (lowBl h1 (Nat.le_trans hBw hb.size))).trans (hS.below hB1 (fun j hj => (h.lo j hj).1)))
  have XC : Hid (∀ W1, Below W.heap.size W W1 → Calls Tryz.prog 27 #[.pointer (some ⟨tb, 0, none⟩), .string ⟨a.s.toArray⟩, .slice a.lo a.L.length a.lc, .bool a.cl] W1 fun e w2 => e = .returned (.int .i64 ((expS S a.s a.L a.cl).1)) ∧ HalfN W1 B tb m yb who whoY S ((expS S a.s a.L a.cl).2) w2) := fun W1 h1 => by
    have hv := hvw W1 (hBW.trans (lowBl h1 (Nat.le_trans hBw hb.size)))
    exact tExport a.s hs1 a.L hs4 a.cl _ hv hvb2 (hT.low h1) hF
  have XU : Hid (∀ (W1 w2 : World), Below W.heap.size W W1 → HalfN W1 B tb m yb who whoY S ((expS S a.s a.L a.cl).2) w2 → Calls Tryz.prog 28 #[.pointer (some ⟨yb, 0, none⟩), .string ⟨a.s.toArray⟩, .slice a.lo a.L.length a.lc, .bool a.cl] w2 fun e w3 => e = .returned (.int .i64 ((expS S a.s a.L a.cl).1)) ∧ WholeN w2 B tb m yb whoY S ((expS S a.s a.L a.cl).2) w3) := fun W1 w2 h1 hH => by
    have hv := HVM.out W1 w2 _ h1 hH
    obtain ⟨_, hTw, _⟩ := hH.ex
    exact uExport a.s hs1 a.L hs4 a.cl _ hv hvb2 hTw hF
  have HPR : Hid (PlayR S a ((expS S a.s a.L a.cl).2)) := by show PlayR _ _ _; unfold PlayR; rw [hk]; rfl
  obtain ⟨rr, hrr⟩ : ∃ x, (expS S a.s a.L a.cl).1 = x := ⟨_, rfl⟩
  rw [hrr] at XC XU
  generalize (expS S a.s a.L a.cl).2 = S2 at *
  obtain ⟨x0, x1, x2, x3, x4⟩ := CE.out W rfl
  clear h hb hbn hT hwa hwb hF hvw hv0 hvb hvb2 hBW hBw HVM ha hal hs1 hs2 hs3 hs4
  unfold boxA at hWd
  obtain ⟨ak, as_, at_, aL, acl, alo, alc⟩ := a
  simp only at hk XC XU CE FIN HPR x0 x1 x2 x3 x4 hWd ⊢
  subst hk
  generalize aL.length = an at *
  go_enter Tryz.func9, Tryz.ntmps9
  go_wp2_with fail
  go_region_held3 (fun w' => w'.cell? ⟨ab, 1, none⟩ = some (.string ⟨as_.toArray⟩) ∧ w'.cell? ⟨ab, 2, none⟩ = some (.string ⟨at_.toArray⟩) ∧ w'.cell? ⟨ab, 3, none⟩ = some (.slice alo an alc) ∧ w'.cell? ⟨ab, 4, none⟩ = some (.bool acl)) (first | go_keep | exact ⟨z1, z2, z3, z4⟩) (first
    | (go_at_call 27; refine (XC.out _ (by exact (Below.refl _ _).drew)).mono ?_; rintro e w2 ⟨rfl, hH⟩; have y1 := KS.out _ w2 _ (by exact (Below.refl _ _).drew) hH; obtain ⟨z0, z1, z2, z3, z4⟩ := CE.out w2 y1; have H2 := Lib.hid (And.intro hH y1); clear hH y1)
    | (go_at_call 28; refine (XU.out _ w2 (by exact (Below.refl _ _).drew) H2.out.1).mono ?_; rintro e w3 ⟨rfl, hF⟩; have y1 := KT.out w2 w3 _ H2.out.2 hF; obtain ⟨z0, z1, z2, z3, z4⟩ := CE.out w3 y1; have H3 := Lib.hid (FIN.out _ _ _ _ (by exact (Below.refl _ _).drew) H2.out.1 hF HPR.out); clear hF y1))
  all_goals
    go_wp2_with fail
    go_ret
    exact ⟨ret_bool (by simp), H3.out⟩
set_option maxRecDepth 100000 in
set_option maxHeartbeats 3200000 in
theorem nl_4 {w : World} {S : Bs → Option ND} (h : Tn w B tb m yb who whoY S S) {n : Nat} (hF : FitN S n) (a : AN) (ha : a.sum ≤ 1500) (hv0 : TxtRow w (.slice a.lo a.L.length a.lc) a.L) (hvb : ∀ o, a.lo = some o → 0 < a.L.length → o.block < B) (hk : a.k = 4) :
    Calls Tryz.prog 9 #[.pointer (some ⟨tb, 0, none⟩), .pointer (some ⟨yb, 0, none⟩), .agg #[.int .i64 a.k, .string ⟨a.s.toArray⟩, .string ⟨a.t.toArray⟩, .slice a.lo a.L.length a.lc, .bool a.cl]] w fun e w' => e = .returned (.bool true) ∧ NlQ w B tb m yb who whoY S a w' := by
  obtain ⟨hs1, hs2, hs3, hs4⟩ := an_fit ha
  have hb : Below w.heap.size w (w.alloc (boxA a)) := (Below.refl _ w).alloc (Nat.le_refl _) _
  have hbn := heap_alloc_new w (boxA a)
  have hT := h.low hb
  have hBw := h.base
  have hvw : ∀ W, Below B w W → TxtRow W (.slice a.lo a.L.length a.lc) a.L := fun W hB => TxtRow.base hv0 hvb hB
  have hvb2 : ∀ o n c, Value.slice a.lo a.L.length a.lc = .slice (some o) n c → 0 < n → o.block < B := fun o n c e hn => by
    injection e with e1 e2 e3
    exact hvb o e1 (by omega)
  obtain ⟨ab, hab⟩ : ∃ ab, w.heap.size = ab := ⟨_, rfl⟩
  obtain ⟨W, hWd⟩ : ∃ W, w.alloc (boxA a) = W := ⟨_, rfl⟩
  rw [hWd] at hb hbn hT
  rw [hab] at hbn
  have hal : ab < W.heap.size := (Array.getElem?_eq_some_iff.1 hbn).1
  have hwa : who ab = none := none_of_lo h.lo (.inl (by omega))
  have hwb : whoY ab = none := none_of_lo h.loY (.inl (by omega))
  have CE : Hid (∀ W' : World, W'.heap[ab]? = W.heap[ab]? → W'.cell? ⟨ab, 0, none⟩ = some (.int .i64 a.k) ∧ W'.cell? ⟨ab, 1, none⟩ = some (.string ⟨a.s.toArray⟩) ∧ W'.cell? ⟨ab, 2, none⟩ = some (.string ⟨a.t.toArray⟩) ∧ W'.cell? ⟨ab, 3, none⟩ = some (.slice a.lo a.L.length a.lc) ∧ W'.cell? ⟨ab, 4, none⟩ = some (.bool a.cl)) := fun W' e => vcells5 (e.trans hbn)
  have KS : Hid (∀ (W1 w2 : World) (S' : Bs → Option ND), Below W.heap.size W W1 → HalfN W1 B tb m yb who whoY S S' w2 → w2.heap[ab]? = W.heap[ab]?) := fun W1 w2 S' h1 hH => by
    obtain ⟨_, _, hS⟩ := hH.ex
    exact (hS.fr.block ab (Nat.lt_of_lt_of_le hal h1.size) hwa).trans (h1.block ab hal)
  have KT : Hid (∀ (w2 w3 : World) (S' : Bs → Option ND), w2.heap[ab]? = W.heap[ab]? → WholeN w2 B tb m yb whoY S S' w3 → w3.heap[ab]? = W.heap[ab]?) := fun w2 w3 S' h1 hF => by
    obtain ⟨_, _, _, hS⟩ := hF.ex
    exact (hS.fr.block ab (by have := (Array.getElem?_eq_some_iff.1 (h1.trans hbn)).1; exact this) hwb).trans h1
  have FIN : Hid (∀ (W1 w2 w3 : World) (S' : Bs → Option ND), Below W.heap.size W W1 → HalfN W1 B tb m yb who whoY S S' w2 → WholeN w2 B tb m yb whoY S S' w3 → PlayR S a S' → NlQ w B tb m yb who whoY S a w3) := fun W1 w2 w3 S' h1 hH hF hp => NlQ.of_ h hb h1 hH hF hp
  have hBW : Below B w W := lowBl hb hBw
  have HVM : Hid (∀ (W1 w2 : World) (S' : Bs → Option ND), Below W.heap.size W W1 → HalfN W1 B tb m yb who whoY S S' w2 → TxtRow w2 (.slice a.lo a.L.length a.lc) a.L) := fun W1 w2 S' h1 hH => by
    obtain ⟨_, _, hS⟩ := hH.ex
    have hB1 : B ≤ W1.heap.size := Nat.le_trans (Nat.le_trans hBw hb.size) h1.size
    exact hvw _ ((hBW.trans (lowBl h1 (Nat.le_trans hBw hb.size))).trans (hS.below hB1 (fun j hj => (h.lo j hj).1)))
  have XC : Hid (∀ W1, Below W.heap.size W W1 → Calls Tryz.prog 29 #[.pointer (some ⟨tb, 0, none⟩), .string ⟨a.s.toArray⟩, .string ⟨a.t.toArray⟩] W1 fun e w2 => e = .returned (.int .i64 ((unkS S a.s a.t).1)) ∧ HalfN W1 B tb m yb who whoY S ((unkS S a.s a.t).2) w2) := fun W1 h1 => by
    have hv := hvw W1 (hBW.trans (lowBl h1 (Nat.le_trans hBw hb.size)))
    exact tSetUnknown a.s a.t hs1 (hT.low h1) hF
  have XU : Hid (∀ (W1 w2 : World), Below W.heap.size W W1 → HalfN W1 B tb m yb who whoY S ((unkS S a.s a.t).2) w2 → Calls Tryz.prog 30 #[.pointer (some ⟨yb, 0, none⟩), .string ⟨a.s.toArray⟩, .string ⟨a.t.toArray⟩] w2 fun e w3 => e = .returned (.int .i64 ((unkS S a.s a.t).1)) ∧ WholeN w2 B tb m yb whoY S ((unkS S a.s a.t).2) w3) := fun W1 w2 h1 hH => by
    have hv := HVM.out W1 w2 _ h1 hH
    obtain ⟨_, hTw, _⟩ := hH.ex
    exact uSetUnknown a.s a.t hs1 hTw hF
  have HPR : Hid (PlayR S a ((unkS S a.s a.t).2)) := by show PlayR _ _ _; unfold PlayR; rw [hk]; rfl
  obtain ⟨rr, hrr⟩ : ∃ x, (unkS S a.s a.t).1 = x := ⟨_, rfl⟩
  rw [hrr] at XC XU
  generalize (unkS S a.s a.t).2 = S2 at *
  obtain ⟨x0, x1, x2, x3, x4⟩ := CE.out W rfl
  clear h hb hbn hT hwa hwb hF hvw hv0 hvb hvb2 hBW hBw HVM ha hal hs1 hs2 hs3 hs4
  unfold boxA at hWd
  obtain ⟨ak, as_, at_, aL, acl, alo, alc⟩ := a
  simp only at hk XC XU CE FIN HPR x0 x1 x2 x3 x4 hWd ⊢
  subst hk
  generalize aL.length = an at *
  go_enter Tryz.func9, Tryz.ntmps9
  go_wp2_with fail
  go_region_held3 (fun w' => w'.cell? ⟨ab, 1, none⟩ = some (.string ⟨as_.toArray⟩) ∧ w'.cell? ⟨ab, 2, none⟩ = some (.string ⟨at_.toArray⟩) ∧ w'.cell? ⟨ab, 3, none⟩ = some (.slice alo an alc) ∧ w'.cell? ⟨ab, 4, none⟩ = some (.bool acl)) (first | go_keep | exact ⟨z1, z2, z3, z4⟩) (first
    | (go_at_call 29; refine (XC.out _ (by exact (Below.refl _ _).drew)).mono ?_; rintro e w2 ⟨rfl, hH⟩; have y1 := KS.out _ w2 _ (by exact (Below.refl _ _).drew) hH; obtain ⟨z0, z1, z2, z3, z4⟩ := CE.out w2 y1; have H2 := Lib.hid (And.intro hH y1); clear hH y1)
    | (go_at_call 30; refine (XU.out _ w2 (by exact (Below.refl _ _).drew) H2.out.1).mono ?_; rintro e w3 ⟨rfl, hF⟩; have y1 := KT.out w2 w3 _ H2.out.2 hF; obtain ⟨z0, z1, z2, z3, z4⟩ := CE.out w3 y1; have H3 := Lib.hid (FIN.out _ _ _ _ (by exact (Below.refl _ _).drew) H2.out.1 hF HPR.out); clear hF y1))
  all_goals
    go_wp2_with fail
    go_ret
    exact ⟨ret_bool (by simp), H3.out⟩
set_option maxRecDepth 100000 in
set_option maxHeartbeats 1600000 in
theorem nl_any {w : World} {S : Bs → Option ND} (h : Tn w B tb m yb who whoY S S) {n : Nat} (hF : FitN S n) (a : AN) (ha : a.sum ≤ 1500) (hv0 : TxtRow w (.slice a.lo a.L.length a.lc) a.L) (hvb : ∀ o, a.lo = some o → 0 < a.L.length → o.block < B) :
    Calls Tryz.prog 9 #[.pointer (some ⟨tb, 0, none⟩), .pointer (some ⟨yb, 0, none⟩), .agg #[.int .i64 a.k, .string ⟨a.s.toArray⟩, .string ⟨a.t.toArray⟩, .slice a.lo a.L.length a.lc, .bool a.cl]] w fun e w' => e = .returned (.bool true) ∧ NlQ w B tb m yb who whoY S a w' := by
  by_cases h0 : a.k = 0
  · exact nl_0 h hF a ha hv0 hvb h0
  by_cases h1 : a.k = 1
  · exact nl_1 h hF a ha hv0 hvb h1
  by_cases h2 : a.k = 2
  · exact nl_2 h hF a ha hv0 hvb h2
  by_cases h3 : a.k = 3
  · exact nl_3 h hF a ha hv0 hvb h3
  by_cases h4 : a.k = 4
  · exact nl_4 h hF a ha hv0 hvb h4
  have HPR : PlayR S a S := by unfold PlayR; rw [if_neg h0, if_neg h1, if_neg h2, if_neg h3, if_neg h4]
  have HF : Hid (∀ o, NlQ w B tb m yb who whoY S a (w.alloc o)) := fun o => NlQ.none h ((Below.refl _ w).alloc (Nat.le_refl _) _) HPR
  have t0 : decide (a.k = 0) = false := by simpa using h0
  have t1 : decide (a.k = 1) = false := by simpa using h1
  have t2 : decide (a.k = 2) = false := by simpa using h2
  have t3 : decide (a.k = 3) = false := by simpa using h3
  have t4 : decide (a.k = 4) = false := by simpa using h4
  clear h hF hv0 hvb HPR ha
  obtain ⟨ak, as_, at_, aL, acl, alo, alc⟩ := a
  simp only at h0 h1 h2 h3 h4 t0 t1 t2 t3 t4 HF ⊢
  generalize aL.length = an at *
  go_enter Tryz.func9, Tryz.ntmps9
  go_wp2_with fail
  go_ret
  exact ⟨rfl, HF.out _⟩
end
end Go.Proofs.YtjgdfgpnmmkjfaaGreatDoor
