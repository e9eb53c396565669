/- 'play' of both tables. -/
import Derived.Test.YtbbbenjakjejmaaGreatTbRg
import Derived.Test.YtbbbenjakjejmaaGreatTbLight
namespace Go.Proofs.YtbbbenjakjejmaaGreat
set_option linter.unusedVariables false
set_option linter.unusedSimpArgs false
open Go.RowKit Go.MapKept Go.WideMaps
/-- What 'play' leaves. -/
structure PlQ (w : World) (B tb mn mh mk yb : Nat) (who : Own) (S : TS) (w' : World) : Prop where
  ex : ∃ S' who' cb', Tw w' B tb mn mh mk yb who' cb' S' S' ∧ S'.last ≤ S.last + 1 ∧ S'.epoch ≤ S.epoch + 1
  below : Below B w w'
  keep : ∀ (j : Nat) (cs : Array Value) (f : Nat × Nat), w.heap[j]? = some (.cells cs 30 f) → who j = none → w'.heap[j]? = w.heap[j]?
section
variable {B tb mn mh mk yb : Nat} {who : Own} {cb : Nat → Nat}
theorem PlQ.of_ {w W w1 w2 w3 : World} {S S' : TS} (h : Tw w B tb mn mh mk yb who cb S S) (hb : Below w.heap.size w W) (hb1 : Below W.heap.size W w1) (hH : HalfT w1 B tb mn mh mk yb who S S' w2) (hF : WholeT w2 B tb mn mh mk yb S S' w3) : PlQ w B tb mn mh mk yb who S w3 := by
  obtain ⟨who', cb', hT⟩ := hF.ex
  obtain ⟨who2, cb2, _, hS⟩ := hH.ex
  have hB := h.tb.base
  have lo : ∀ {a b : World}, Below a.heap.size a b → B ≤ a.heap.size → Below B a b := fun hx hB => ⟨hx.os, hx.tape, hx.output, hx.size, fun k hk => hx.block k (by omega)⟩
  have h1 := lo hb hB
  have h2 := lo hb1 (Nat.le_trans hB hb.size)
  have h3 : Below B w1 w2 := hS.below (Nat.le_trans (Nat.le_trans hB hb.size) hb1.size) (fun j hj => (h.tb.lo j hj).1)
  refine ⟨⟨S', who', cb', hT, hH.last, hH.epoch⟩, ((h1.trans h2).trans h3).trans hF.below, fun j cs f hj hw => ?_⟩
  have hlt := (Array.getElem?_eq_some_iff.1 hj).1
  have a1 := hb.block j hlt
  have a2 := hb1.block j (Nat.lt_of_lt_of_le hlt hb.size)
  have a3 := hS.fr.block j (Nat.lt_of_lt_of_le (Nat.lt_of_lt_of_le hlt hb.size) hb1.size) hw
  have a4 := (a3.trans a2).trans a1
  exact (hF.kr.block j cs _ f (a4.trans hj) (by decide) (by decide)).trans a4
theorem PlQ.low {w w1 : World} {S : TS} (h : Tw w B tb mn mh mk yb who cb S S) (hb : Below w.heap.size w w1) : PlQ w B tb mn mh mk yb who S w1 :=
  ⟨⟨S, who, cb, h.low hb, Nat.le_succ _, Nat.le_succ _⟩, ⟨hb.os, hb.tape, hb.output, hb.size, fun k hk => hb.block k (by have := h.tb.base; omega)⟩, fun j cs f hj _ => hb.block j (Array.getElem?_eq_some_iff.1 hj).1⟩
set_option maxRecDepth 100000 in
set_option maxHeartbeats 3200000 in
theorem pl_0 {w : World} {S : TS} (h : Tw w B tb mn mh mk yb who cb S S) (hl : S.last ≤ 90000) (he : S.epoch ≤ 90000) (a : Int) (ha : (Lit.int .i64 a).wf = true) (s t : Bs) (hs : s.length ≤ 100000) (ht : t.length ≤ 100000) :
    Calls Tryz.prog 8 #[.pointer (some ⟨tb, 0, none⟩), .pointer (some ⟨yb, 0, none⟩), .agg #[.int .i64 0, .int .i64 a, .string ⟨s.toArray⟩, .string ⟨t.toArray⟩]] w fun e w' => e = .returned (.bool true) ∧ PlQ w B tb mn mh mk yb who S w' := by
  have hb : Below w.heap.size w (w.alloc (.cells #[.int .i64 0, .int .i64 a, .string ⟨s.toArray⟩, .string ⟨t.toArray⟩] 30)) := (Below.refl _ w).alloc (Nat.le_refl _) _
  have hbn := heap_alloc_new w (.cells #[.int .i64 0, .int .i64 a, .string ⟨s.toArray⟩, .string ⟨t.toArray⟩] 30)
  have hT := h.low hb
  obtain ⟨ab, hab⟩ : ∃ ab, w.heap.size = ab := ⟨_, rfl⟩
  obtain ⟨W, hWd⟩ : ∃ W, w.alloc (.cells #[.int .i64 0, .int .i64 a, .string ⟨s.toArray⟩, .string ⟨t.toArray⟩] 30) = W := ⟨_, rfl⟩
  rw [hWd] at hb hbn hT
  rw [hab] at hbn
  have hwa : who ab = none := by rw [← hab]; exact h.tb.none_at (Nat.le_refl _)
  have CE : Hid (∀ W' : World, W'.heap[ab]? = W.heap[ab]? → W'.cell? ⟨ab, 0, none⟩ = some (.int .i64 0) ∧ W'.cell? ⟨ab, 1, none⟩ = some (.int .i64 a) ∧ W'.cell? ⟨ab, 2, none⟩ = some (.string ⟨s.toArray⟩) ∧ W'.cell? ⟨ab, 3, none⟩ = some (.string ⟨t.toArray⟩)) := fun W' e => by
    have e2 := e.trans hbn
    refine ⟨?_, ?_, ?_, ?_⟩ <;> simp [World.cell?, e2]
  have KS : Hid (∀ (W1 w2 : World) (S' : TS), Below W.heap.size W W1 → HalfT W1 B tb mn mh mk yb who S S' w2 → w2.heap[ab]? = W.heap[ab]?) := fun W1 w2 S' h1 hH => by
    have hal : ab < W.heap.size := (Array.getElem?_eq_some_iff.1 hbn).1
    obtain ⟨_, _, _, hS⟩ := hH.ex
    exact (hS.fr.block ab (Nat.lt_of_lt_of_le hal h1.size) hwa).trans (h1.block ab hal)
  have KT : Hid (∀ (w2 w3 : World) (S' : TS), w2.heap[ab]? = W.heap[ab]? → WholeT w2 B tb mn mh mk yb S S' w3 → w3.heap[ab]? = W.heap[ab]?) := fun w2 w3 S' h1 hF => by
    exact (hF.kr.block ab _ _ _ (h1.trans hbn) (by decide) (by decide)).trans h1
  have FIN : Hid (∀ (W1 w2 w3 : World) (S' : TS), Below W.heap.size W W1 → HalfT W1 B tb mn mh mk yb who S S' w2 → WholeT w2 B tb mn mh mk yb S S' w3 → PlQ w B tb mn mh mk yb who S w3) := fun W1 w2 w3 S' h1 hH hF => PlQ.of_ h hb h1 hH hF
  have LOW : Hid (∀ (w3 w4 : World), PlQ w B tb mn mh mk yb who S w3 → Below w3.heap.size w3 w4 → PlQ w B tb mn mh mk yb who S w4) := fun w3 w4 hq hb4 => by
    obtain ⟨S', who', cb', q1, q2, q3⟩ := hq.ex
    exact ⟨⟨S', who', cb', q1.low hb4, q2, q3⟩, hq.below.trans ⟨hb4.os, hb4.tape, hb4.output, hb4.size, fun k hk => hb4.block k (by have := q1.tb.base; omega)⟩, fun j cs f hj hw => by have e := hq.keep j cs f hj hw; exact (hb4.block j (Array.getElem?_eq_some_iff.1 (e.trans hj)).1).trans e⟩
  obtain ⟨x0, x1, x2, x3⟩ := CE.out W rfl
  have XC : Hid (∀ W1, Below W.heap.size W W1 → Calls Tryz.prog 10 #[.pointer (some ⟨tb, 0, none⟩), .string ⟨s.toArray⟩] W1 fun e w2 => ∃ n S2 L u, e = .returned (.tuple #[.int .i64 n, u]) ∧ Told w2 u (srtI (asI L)) ∧ (n = (S2.last : Int) ∧ AddR S s 0 S2 L) ∧ HalfT W1 B tb mn mh mk yb who S S2 w2) := fun W1 h1 => (tDefine (hT.low h1) hl he s hs).mono fun e w2 ⟨S2, L, u, he2, h3, h4, h5⟩ => ⟨_, S2, L, u, he2, h3, ⟨rfl, h4⟩, h5⟩
  have XU : Hid (∀ (W1 w2 : World) (n : Int) (S2 : TS) (L : List Nat) (u : Value), Told w2 u (srtI (asI L)) → (n = (S2.last : Int) ∧ AddR S s 0 S2 L) → HalfT W1 B tb mn mh mk yb who S S2 w2 → Calls Tryz.prog 15 #[.pointer (some ⟨yb, 0, none⟩), .string ⟨s.toArray⟩] w2 fun e w3 => ∃ vo, e = .returned (.tuple #[.int .i64 n, vo]) ∧ WholeT w2 B tb mn mh mk yb S S2 w3 ∧ NRow w3 u (srtI (asI L)) ∧ NRow w3 vo (srtI (asI L))) := fun W1 w2 n S2 L u hu hr hH => by obtain ⟨who', cb', hTw, _⟩ := hH.ex; obtain ⟨rfl, hr⟩ := hr; exact uDefine hTw hl he s hs hr hu
  clear h hb hbn hT hwa
  go_enter Tryz.func8, Tryz.ntmps8
  go_wp2_with (first
    | (go_at_call 10; refine (XC.out _ (Below.refl _ _)).mono ?_; rintro e w2 ⟨n, S2, L, u, rfl, hu, hr, hH⟩; have y1 := KS.out _ w2 _ (Below.refl _ _) hH; obtain ⟨x0, x1, x2, x3⟩ := CE.out w2 y1; have H2 := Lib.hid (And.intro hu (And.intro hr (And.intro hH y1))); clear hu hr hH y1)
    | (go_at_call 15; refine (XU.out _ w2 _ _ _ _ H2.out.1 H2.out.2.1 H2.out.2.2.1).mono ?_; rintro e w3 ⟨vo, rfl, hF, hr1, hr2⟩; have y1 := KT.out w2 w3 _ H2.out.2.2.2 hF; obtain ⟨x0, x1, x2, x3⟩ := CE.out w3 y1; have HR := Lib.hid (And.intro hr1 hr2); have H3 := Lib.hid (FIN.out _ _ _ _ (Below.refl _ _) H2.out.2.2.1 hF); clear hF hr1 hr2 y1)
    | (go_at_call 16; refine (sameInts_yes _ HR.out.1 HR.out.2).mono ?_; rintro e w4 ⟨rfl, hB4⟩; have H4 := Lib.hid hB4; clear hB4))
  go_ret
  exact ⟨rfl, LOW.out _ _ H3.out H4.out⟩
set_option maxRecDepth 100000 in
set_option maxHeartbeats 3200000 in
theorem pl_1 {w : World} {S : TS} (h : Tw w B tb mn mh mk yb who cb S S) (hl : S.last ≤ 90000) (he : S.epoch ≤ 90000) (a : Int) (ha : (Lit.int .i64 a).wf = true) (s t : Bs) (hs : s.length ≤ 100000) (ht : t.length ≤ 100000) :
    Calls Tryz.prog 8 #[.pointer (some ⟨tb, 0, none⟩), .pointer (some ⟨yb, 0, none⟩), .agg #[.int .i64 1, .int .i64 a, .string ⟨s.toArray⟩, .string ⟨t.toArray⟩]] w fun e w' => e = .returned (.bool true) ∧ PlQ w B tb mn mh mk yb who S w' := by
  have hb : Below w.heap.size w (w.alloc (.cells #[.int .i64 1, .int .i64 a, .string ⟨s.toArray⟩, .string ⟨t.toArray⟩] 30)) := (Below.refl _ w).alloc (Nat.le_refl _) _
  have hbn := heap_alloc_new w (.cells #[.int .i64 1, .int .i64 a, .string ⟨s.toArray⟩, .string ⟨t.toArray⟩] 30)
  have hT := h.low hb
  obtain ⟨ab, hab⟩ : ∃ ab, w.heap.size = ab := ⟨_, rfl⟩
  obtain ⟨W, hWd⟩ : ∃ W, w.alloc (.cells #[.int .i64 1, .int .i64 a, .string ⟨s.toArray⟩, .string ⟨t.toArray⟩] 30) = W := ⟨_, rfl⟩
  rw [hWd] at hb hbn hT
  rw [hab] at hbn
  have hwa : who ab = none := by rw [← hab]; exact h.tb.none_at (Nat.le_refl _)
  have CE : Hid (∀ W' : World, W'.heap[ab]? = W.heap[ab]? → W'.cell? ⟨ab, 0, none⟩ = some (.int .i64 1) ∧ W'.cell? ⟨ab, 1, none⟩ = some (.int .i64 a) ∧ W'.cell? ⟨ab, 2, none⟩ = some (.string ⟨s.toArray⟩) ∧ W'.cell? ⟨ab, 3, none⟩ = some (.string ⟨t.toArray⟩)) := fun W' e => by
    have e2 := e.trans hbn
    refine ⟨?_, ?_, ?_, ?_⟩ <;> simp [World.cell?, e2]
  have KS : Hid (∀ (W1 w2 : World) (S' : TS), Below W.heap.size W W1 → HalfT W1 B tb mn mh mk yb who S S' w2 → w2.heap[ab]? = W.heap[ab]?) := fun W1 w2 S' h1 hH => by
    have hal : ab < W.heap.size := (Array.getElem?_eq_some_iff.1 hbn).1
    obtain ⟨_, _, _, hS⟩ := hH.ex
    exact (hS.fr.block ab (Nat.lt_of_lt_of_le hal h1.size) hwa).trans (h1.block ab hal)
  have KT : Hid (∀ (w2 w3 : World) (S' : TS), w2.heap[ab]? = W.heap[ab]? → WholeT w2 B tb mn mh mk yb S S' w3 → w3.heap[ab]? = W.heap[ab]?) := fun w2 w3 S' h1 hF => by
    exact (hF.kr.block ab _ _ _ (h1.trans hbn) (by decide) (by decide)).trans h1
  have FIN : Hid (∀ (W1 w2 w3 : World) (S' : TS), Below W.heap.size W W1 → HalfT W1 B tb mn mh mk yb who S S' w2 → WholeT w2 B tb mn mh mk yb S S' w3 → PlQ w B tb mn mh mk yb who S w3) := fun W1 w2 w3 S' h1 hH hF => PlQ.of_ h hb h1 hH hF
  have LOW : Hid (∀ (w3 w4 : World), PlQ w B tb mn mh mk yb who S w3 → Below w3.heap.size w3 w4 → PlQ w B tb mn mh mk yb who S w4) := fun w3 w4 hq hb4 => by
    obtain ⟨S', who', cb', q1, q2, q3⟩ := hq.ex
    exact ⟨⟨S', who', cb', q1.low hb4, q2, q3⟩, hq.below.trans ⟨hb4.os, hb4.tape, hb4.output, hb4.size, fun k hk => hb4.block k (by have := q1.tb.base; omega)⟩, fun j cs f hj hw => by have e := hq.keep j cs f hj hw; exact (hb4.block j (Array.getElem?_eq_some_iff.1 (e.trans hj)).1).trans e⟩
  obtain ⟨x0, x1, x2, x3⟩ := CE.out W rfl
  have XC : Hid (∀ W1, Below W.heap.size W W1 → Calls Tryz.prog 11 #[.pointer (some ⟨tb, 0, none⟩), .string ⟨s.toArray⟩, .int .i64 a] W1 fun e w2 => ∃ n r S2 L u, e = .returned (.tuple #[.int .i64 n, u, .int .i64 r]) ∧ Told w2 u (srtI (asI L)) ∧ ImpR S s a n r S2 L ∧ HalfT W1 B tb mn mh mk yb who S S2 w2) := fun W1 h1 => tImport (hT.low h1) hl he s hs a ha
  have XU : Hid (∀ (W1 w2 : World) (n r : Int) (S2 : TS) (L : List Nat) (u : Value), Told w2 u (srtI (asI L)) → ImpR S s a n r S2 L → HalfT W1 B tb mn mh mk yb who S S2 w2 → Calls Tryz.prog 17 #[.pointer (some ⟨yb, 0, none⟩), .string ⟨s.toArray⟩, .int .i64 a] w2 fun e w3 => ∃ vo, e = .returned (.tuple #[.int .i64 n, vo, .int .i64 r]) ∧ WholeT w2 B tb mn mh mk yb S S2 w3 ∧ NRow w3 u (srtI (asI L)) ∧ NRow w3 vo (srtI (asI L))) := fun W1 w2 n r S2 L u hu hr hH => by obtain ⟨who', cb', hTw, _⟩ := hH.ex; exact uImport hTw hl he s hs a ha hr hu
  clear h hb hbn hT hwa
  go_enter Tryz.func8, Tryz.ntmps8
  go_wp2_with (first
    | (go_at_call 11; refine (XC.out _ (Below.refl _ _)).mono ?_; rintro e w2 ⟨n, r, S2, L, u, rfl, hu, hr, hH⟩; have y1 := KS.out _ w2 _ (Below.refl _ _) hH; obtain ⟨x0, x1, x2, x3⟩ := CE.out w2 y1; have H2 := Lib.hid (And.intro hu (And.intro hr (And.intro hH y1))); clear hu hr hH y1)
    | (go_at_call 17; refine (XU.out _ w2 _ _ _ _ _ H2.out.1 H2.out.2.1 H2.out.2.2.1).mono ?_; rintro e w3 ⟨vo, rfl, hF, hr1, hr2⟩; have y1 := KT.out w2 w3 _ H2.out.2.2.2 hF; obtain ⟨x0, x1, x2, x3⟩ := CE.out w3 y1; have HR := Lib.hid (And.intro hr1 hr2); have H3 := Lib.hid (FIN.out _ _ _ _ (Below.refl _ _) H2.out.2.2.1 hF); clear hF hr1 hr2 y1)
    | (go_at_call 16; refine (sameInts_yes _ HR.out.1 HR.out.2).mono ?_; rintro e w4 ⟨rfl, hB4⟩; have H4 := Lib.hid hB4; clear hB4))
  go_ret
  exact ⟨rfl, LOW.out _ _ H3.out H4.out⟩
set_option maxRecDepth 100000 in
set_option maxHeartbeats 3200000 in
theorem pl_2 {w : World} {S : TS} (h : Tw w B tb mn mh mk yb who cb S S) (hl : S.last ≤ 90000) (he : S.epoch ≤ 90000) (a : Int) (ha : (Lit.int .i64 a).wf = true) (s t : Bs) (hs : s.length ≤ 100000) (ht : t.length ≤ 100000) :
    Calls Tryz.prog 8 #[.pointer (some ⟨tb, 0, none⟩), .pointer (some ⟨yb, 0, none⟩), .agg #[.int .i64 2, .int .i64 a, .string ⟨s.toArray⟩, .string ⟨t.toArray⟩]] w fun e w' => e = .returned (.bool true) ∧ PlQ w B tb mn mh mk yb who S w' := by
  have hb : Below w.heap.size w (w.alloc (.cells #[.int .i64 2, .int .i64 a, .string ⟨s.toArray⟩, .string ⟨t.toArray⟩] 30)) := (Below.refl _ w).alloc (Nat.le_refl _) _
  have hbn := heap_alloc_new w (.cells #[.int .i64 2, .int .i64 a, .string ⟨s.toArray⟩, .string ⟨t.toArray⟩] 30)
  have hT := h.low hb
  obtain ⟨ab, hab⟩ : ∃ ab, w.heap.size = ab := ⟨_, rfl⟩
  obtain ⟨W, hWd⟩ : ∃ W, w.alloc (.cells #[.int .i64 2, .int .i64 a, .string ⟨s.toArray⟩, .string ⟨t.toArray⟩] 30) = W := ⟨_, rfl⟩
  rw [hWd] at hb hbn hT
  rw [hab] at hbn
  have hwa : who ab = none := by rw [← hab]; exact h.tb.none_at (Nat.le_refl _)
  have CE : Hid (∀ W' : World, W'.heap[ab]? = W.heap[ab]? → W'.cell? ⟨ab, 0, none⟩ = some (.int .i64 2) ∧ W'.cell? ⟨ab, 1, none⟩ = some (.int .i64 a) ∧ W'.cell? ⟨ab, 2, none⟩ = some (.string ⟨s.toArray⟩) ∧ W'.cell? ⟨ab, 3, none⟩ = some (.string ⟨t.toArray⟩)) := fun W' e => by
    have e2 := e.trans hbn
    refine ⟨?_, ?_, ?_, ?_⟩ <;> simp [World.cell?, e2]
  have KS : Hid (∀ (W1 w2 : World) (S' : TS), Below W.heap.size W W1 → HalfT W1 B tb mn mh mk yb who S S' w2 → w2.heap[ab]? = W.heap[ab]?) := fun W1 w2 S' h1 hH => by
    have hal : ab < W.heap.size := (Array.getElem?_eq_some_iff.1 hbn).1
    obtain ⟨_, _, _, hS⟩ := hH.ex
    exact (hS.fr.block ab (Nat.lt_of_lt_of_le hal h1.size) hwa).trans (h1.block ab hal)
  have KT : Hid (∀ (w2 w3 : World) (S' : TS), w2.heap[ab]? = W.heap[ab]? → WholeT w2 B tb mn mh mk yb S S' w3 → w3.heap[ab]? = W.heap[ab]?) := fun w2 w3 S' h1 hF => by
    exact (hF.kr.block ab _ _ _ (h1.trans hbn) (by decide) (by decide)).trans h1
  have FIN : Hid (∀ (W1 w2 w3 : World) (S' : TS), Below W.heap.size W W1 → HalfT W1 B tb mn mh mk yb who S S' w2 → WholeT w2 B tb mn mh mk yb S S' w3 → PlQ w B tb mn mh mk yb who S w3) := fun W1 w2 w3 S' h1 hH hF => PlQ.of_ h hb h1 hH hF
  have LOW : Hid (∀ (w3 w4 : World), PlQ w B tb mn mh mk yb who S w3 → Below w3.heap.size w3 w4 → PlQ w B tb mn mh mk yb who S w4) := fun w3 w4 hq hb4 => by
    obtain ⟨S', who', cb', q1, q2, q3⟩ := hq.ex
    exact ⟨⟨S', who', cb', q1.low hb4, q2, q3⟩, hq.below.trans ⟨hb4.os, hb4.tape, hb4.output, hb4.size, fun k hk => hb4.block k (by have := q1.tb.base; omega)⟩, fun j cs f hj hw => by have e := hq.keep j cs f hj hw; exact (hb4.block j (Array.getElem?_eq_some_iff.1 (e.trans hj)).1).trans e⟩
  obtain ⟨x0, x1, x2, x3⟩ := CE.out W rfl
  have XC : Hid (∀ W1, Below W.heap.size W W1 → Calls Tryz.prog 12 #[.pointer (some ⟨tb, 0, none⟩), .string ⟨s.toArray⟩, .string ⟨t.toArray⟩] W1 fun e w2 => ∃ r S2, e = .returned (.int .i64 r) ∧ MoveR S false s false t r S2 ∧ HalfT W1 B tb mn mh mk yb who S S2 w2) := fun W1 h1 => tRename (hT.low h1) hl he s t hs ht
  have XU : Hid (∀ (W1 w2 : World) (r : Int) (S2 : TS), MoveR S false s false t r S2 → HalfT W1 B tb mn mh mk yb who S S2 w2 → Calls Tryz.prog 18 #[.pointer (some ⟨yb, 0, none⟩), .string ⟨s.toArray⟩, .string ⟨t.toArray⟩] w2 fun e w3 => e = .returned (.int .i64 r) ∧ WholeT w2 B tb mn mh mk yb S S2 w3) := fun W1 w2 r S2 hr hH => by obtain ⟨who', cb', hTw, _⟩ := hH.ex; exact uRename hTw hl he s t ht hr
  clear h hb hbn hT hwa
  go_enter Tryz.func8, Tryz.ntmps8
  go_wp2_with fail
  go_region_held3 (fun w' => w'.cell? ⟨ab, 2, none⟩ = some (.string ⟨s.toArray⟩) ∧ w'.cell? ⟨ab, 3, none⟩ = some (.string ⟨t.toArray⟩)) (first | go_keep | exact ⟨z2, z3⟩) (first
    | (go_at_call 12; refine (XC.out _ (by exact (Below.refl _ _).drew)).mono ?_; rintro e w2 ⟨r, S2, rfl, hr, hH⟩; have y1 := KS.out _ w2 _ (by exact (Below.refl _ _).drew) hH; obtain ⟨z0, z1, z2, z3⟩ := CE.out w2 y1; have H2 := Lib.hid (And.intro hr (And.intro hH y1)); clear hr hH y1)
    | (go_at_call 18; refine (XU.out _ w2 _ _ H2.out.1 H2.out.2.1).mono ?_; rintro e w3 ⟨rfl, hF⟩; have y1 := KT.out w2 w3 _ H2.out.2.2 hF; obtain ⟨z0, z1, z2, z3⟩ := CE.out w3 y1; have H3 := Lib.hid (FIN.out _ _ _ _ (by exact (Below.refl _ _).drew) H2.out.2.1 hF); clear hF y1))
  all_goals
    go_wp2_with fail
    go_ret
    exact ⟨ret_bool (by simp), H3.out⟩
set_option maxRecDepth 100000 in
set_option maxHeartbeats 3200000 in
theorem pl_3 {w : World} {S : TS} (h : Tw w B tb mn mh mk yb who cb S S) (hl : S.last ≤ 90000) (he : S.epoch ≤ 90000) (a : Int) (ha : (Lit.int .i64 a).wf = true) (s t : Bs) (hs : s.length ≤ 100000) (ht : t.length ≤ 100000) :
    Calls Tryz.prog 8 #[.pointer (some ⟨tb, 0, none⟩), .pointer (some ⟨yb, 0, none⟩), .agg #[.int .i64 3, .int .i64 a, .string ⟨s.toArray⟩, .string ⟨t.toArray⟩]] w fun e w' => e = .returned (.bool true) ∧ PlQ w B tb mn mh mk yb who S w' := by
  have hb : Below w.heap.size w (w.alloc (.cells #[.int .i64 3, .int .i64 a, .string ⟨s.toArray⟩, .string ⟨t.toArray⟩] 30)) := (Below.refl _ w).alloc (Nat.le_refl _) _
  have hbn := heap_alloc_new w (.cells #[.int .i64 3, .int .i64 a, .string ⟨s.toArray⟩, .string ⟨t.toArray⟩] 30)
  have hT := h.low hb
  obtain ⟨ab, hab⟩ : ∃ ab, w.heap.size = ab := ⟨_, rfl⟩
  obtain ⟨W, hWd⟩ : ∃ W, w.alloc (.cells #[.int .i64 3, .int .i64 a, .string ⟨s.toArray⟩, .string ⟨t.toArray⟩] 30) = W := ⟨_, rfl⟩
  rw [hWd] at hb hbn hT
  rw [hab] at hbn
  have hwa : who ab = none := by rw [← hab]; exact h.tb.none_at (Nat.le_refl _)
  have CE : Hid (∀ W' : World, W'.heap[ab]? = W.heap[ab]? → W'.cell? ⟨ab, 0, none⟩ = some (.int .i64 3) ∧ W'.cell? ⟨ab, 1, none⟩ = some (.int .i64 a) ∧ W'.cell? ⟨ab, 2, none⟩ = some (.string ⟨s.toArray⟩) ∧ W'.cell? ⟨ab, 3, none⟩ = some (.string ⟨t.toArray⟩)) := fun W' e => by
    have e2 := e.trans hbn
    refine ⟨?_, ?_, ?_, ?_⟩ <;> simp [World.cell?, e2]
  have KS : Hid (∀ (W1 w2 : World) (S' : TS), Below W.heap.size W W1 → HalfT W1 B tb mn mh mk yb who S S' w2 → w2.heap[ab]? = W.heap[ab]?) := fun W1 w2 S' h1 hH => by
    have hal : ab < W.heap.size := (Array.getElem?_eq_some_iff.1 hbn).1
    obtain ⟨_, _, _, hS⟩ := hH.ex
    exact (hS.fr.block ab (Nat.lt_of_lt_of_le hal h1.size) hwa).trans (h1.block ab hal)
  have KT : Hid (∀ (w2 w3 : World) (S' : TS), w2.heap[ab]? = W.heap[ab]? → WholeT w2 B tb mn mh mk yb S S' w3 → w3.heap[ab]? = W.heap[ab]?) := fun w2 w3 S' h1 hF => by
    exact (hF.kr.block ab _ _ _ (h1.trans hbn) (by decide) (by decide)).trans h1
  have FIN : Hid (∀ (W1 w2 w3 : World) (S' : TS), Below W.heap.size W W1 → HalfT W1 B tb mn mh mk yb who S S' w2 → WholeT w2 B tb mn mh mk yb S S' w3 → PlQ w B tb mn mh mk yb who S w3) := fun W1 w2 w3 S' h1 hH hF => PlQ.of_ h hb h1 hH hF
  have LOW : Hid (∀ (w3 w4 : World), PlQ w B tb mn mh mk yb who S w3 → Below w3.heap.size w3 w4 → PlQ w B tb mn mh mk yb who S w4) := fun w3 w4 hq hb4 => by
    obtain ⟨S', who', cb', q1, q2, q3⟩ := hq.ex
    exact ⟨⟨S', who', cb', q1.low hb4, q2, q3⟩, hq.below.trans ⟨hb4.os, hb4.tape, hb4.output, hb4.size, fun k hk => hb4.block k (by have := q1.tb.base; omega)⟩, fun j cs f hj hw => by have e := hq.keep j cs f hj hw; exact (hb4.block j (Array.getElem?_eq_some_iff.1 (e.trans hj)).1).trans e⟩
  obtain ⟨x0, x1, x2, x3⟩ := CE.out W rfl
  have XC : Hid (∀ W1, Below W.heap.size W W1 → Calls Tryz.prog 14 #[.pointer (some ⟨tb, 0, none⟩), .string ⟨s.toArray⟩] W1 fun e w2 => ∃ r S2 L u, e = .returned (.tuple #[u, .int .i64 r]) ∧ Told w2 u (srtI (asI L)) ∧ DelR S s r S2 L ∧ HalfT W1 B tb mn mh mk yb who S S2 w2) := fun W1 h1 => tDelete (hT.low h1) hl he s hs
  have XU : Hid (∀ (W1 w2 : World) (r : Int) (S2 : TS) (L : List Nat) (u : Value), Told w2 u (srtI (asI L)) → DelR S s r S2 L → HalfT W1 B tb mn mh mk yb who S S2 w2 → Calls Tryz.prog 19 #[.pointer (some ⟨yb, 0, none⟩), .string ⟨s.toArray⟩] w2 fun e w3 => ∃ vo, e = .returned (.tuple #[vo, .int .i64 r]) ∧ WholeT w2 B tb mn mh mk yb S S2 w3 ∧ NRow w3 u (srtI (asI L)) ∧ NRow w3 vo (srtI (asI L))) := fun W1 w2 r S2 L u hu hr hH => by obtain ⟨who', cb', hTw, _⟩ := hH.ex; exact uDelete hTw hl he s hr hu
  clear h hb hbn hT hwa
  go_enter Tryz.func8, Tryz.ntmps8
  go_wp2_with (first
    | (go_at_call 14; refine (XC.out _ (Below.refl _ _)).mono ?_; rintro e w2 ⟨r, S2, L, u, rfl, hu, hr, hH⟩; have y1 := KS.out _ w2 _ (Below.refl _ _) hH; obtain ⟨x0, x1, x2, x3⟩ := CE.out w2 y1; have H2 := Lib.hid (And.intro hu (And.intro hr (And.intro hH y1))); clear hu hr hH y1)
    | (go_at_call 19; refine (XU.out _ w2 _ _ _ _ H2.out.1 H2.out.2.1 H2.out.2.2.1).mono ?_; rintro e w3 ⟨vo, rfl, hF, hr1, hr2⟩; have y1 := KT.out w2 w3 _ H2.out.2.2.2 hF; obtain ⟨x0, x1, x2, x3⟩ := CE.out w3 y1; have HR := Lib.hid (And.intro hr1 hr2); have H3 := Lib.hid (FIN.out _ _ _ _ (Below.refl _ _) H2.out.2.2.1 hF); clear hF hr1 hr2 y1)
    | (go_at_call 16; refine (sameInts_yes _ HR.out.1 HR.out.2).mono ?_; rintro e w4 ⟨rfl, hB4⟩; have H4 := Lib.hid hB4; clear hB4))
  go_ret
  exact ⟨rfl, LOW.out _ _ H3.out H4.out⟩
set_option maxRecDepth 100000 in
set_option maxHeartbeats 3200000 in
theorem pl_4 {w : World} {S : TS} (h : Tw w B tb mn mh mk yb who cb S S) (hl : S.last ≤ 90000) (he : S.epoch ≤ 90000) (a : Int) (ha : (Lit.int .i64 a).wf = true) (s t : Bs) (hs : s.length ≤ 100000) (ht : t.length ≤ 100000) :
    Calls Tryz.prog 8 #[.pointer (some ⟨tb, 0, none⟩), .pointer (some ⟨yb, 0, none⟩), .agg #[.int .i64 4, .int .i64 a, .string ⟨s.toArray⟩, .string ⟨t.toArray⟩]] w fun e w' => e = .returned (.bool true) ∧ PlQ w B tb mn mh mk yb who S w' := by
  have hb : Below w.heap.size w (w.alloc (.cells #[.int .i64 4, .int .i64 a, .string ⟨s.toArray⟩, .string ⟨t.toArray⟩] 30)) := (Below.refl _ w).alloc (Nat.le_refl _) _
  have hbn := heap_alloc_new w (.cells #[.int .i64 4, .int .i64 a, .string ⟨s.toArray⟩, .string ⟨t.toArray⟩] 30)
  have hT := h.low hb
  obtain ⟨ab, hab⟩ : ∃ ab, w.heap.size = ab := ⟨_, rfl⟩
  obtain ⟨W, hWd⟩ : ∃ W, w.alloc (.cells #[.int .i64 4, .int .i64 a, .string ⟨s.toArray⟩, .string ⟨t.toArray⟩] 30) = W := ⟨_, rfl⟩
  rw [hWd] at hb hbn hT
  rw [hab] at hbn
  have hwa : who ab = none := by rw [← hab]; exact h.tb.none_at (Nat.le_refl _)
  have CE : Hid (∀ W' : World, W'.heap[ab]? = W.heap[ab]? → W'.cell? ⟨ab, 0, none⟩ = some (.int .i64 4) ∧ W'.cell? ⟨ab, 1, none⟩ = some (.int .i64 a) ∧ W'.cell? ⟨ab, 2, none⟩ = some (.string ⟨s.toArray⟩) ∧ W'.cell? ⟨ab, 3, none⟩ = some (.string ⟨t.toArray⟩)) := fun W' e => by
    have e2 := e.trans hbn
    refine ⟨?_, ?_, ?_, ?_⟩ <;> simp [World.cell?, e2]
  have KS : Hid (∀ (W1 w2 : World) (S' : TS), Below W.heap.size W W1 → HalfT W1 B tb mn mh mk yb who S S' w2 → w2.heap[ab]? = W.heap[ab]?) := fun W1 w2 S' h1 hH => by
    have hal : ab < W.heap.size := (Array.getElem?_eq_some_iff.1 hbn).1
    obtain ⟨_, _, _, hS⟩ := hH.ex
    exact (hS.fr.block ab (Nat.lt_of_lt_of_le hal h1.size) hwa).trans (h1.block ab hal)
  have KT : Hid (∀ (w2 w3 : World) (S' : TS), w2.heap[ab]? = W.heap[ab]? → WholeT w2 B tb mn mh mk yb S S' w3 → w3.heap[ab]? = W.heap[ab]?) := fun w2 w3 S' h1 hF => by
    exact (hF.kr.block ab _ _ _ (h1.trans hbn) (by decide) (by decide)).trans h1
  have FIN : Hid (∀ (W1 w2 w3 : World) (S' : TS), Below W.heap.size W W1 → HalfT W1 B tb mn mh mk yb who S S' w2 → WholeT w2 B tb mn mh mk yb S S' w3 → PlQ w B tb mn mh mk yb who S w3) := fun W1 w2 w3 S' h1 hH hF => PlQ.of_ h hb h1 hH hF
  have LOW : Hid (∀ (w3 w4 : World), PlQ w B tb mn mh mk yb who S w3 → Below w3.heap.size w3 w4 → PlQ w B tb mn mh mk yb who S w4) := fun w3 w4 hq hb4 => by
    obtain ⟨S', who', cb', q1, q2, q3⟩ := hq.ex
    exact ⟨⟨S', who', cb', q1.low hb4, q2, q3⟩, hq.below.trans ⟨hb4.os, hb4.tape, hb4.output, hb4.size, fun k hk => hb4.block k (by have := q1.tb.base; omega)⟩, fun j cs f hj hw => by have e := hq.keep j cs f hj hw; exact (hb4.block j (Array.getElem?_eq_some_iff.1 (e.trans hj)).1).trans e⟩
  obtain ⟨x0, x1, x2, x3⟩ := CE.out W rfl
  have XC : Hid (∀ W1, Below W.heap.size W W1 → Calls Tryz.prog 20 #[.pointer (some ⟨tb, 0, none⟩), .string ⟨s.toArray⟩, .string ⟨t.toArray⟩] W1 fun e w2 => ∃ r S2, e = .returned (.int .i64 r) ∧ MoveR S false s true t r S2 ∧ HalfT W1 B tb mn mh mk yb who S S2 w2) := fun W1 h1 => tHide (hT.low h1) hl he s t hs ht
  have XU : Hid (∀ (W1 w2 : World) (r : Int) (S2 : TS), MoveR S false s true t r S2 → HalfT W1 B tb mn mh mk yb who S S2 w2 → Calls Tryz.prog 21 #[.pointer (some ⟨yb, 0, none⟩), .string ⟨s.toArray⟩, .string ⟨t.toArray⟩] w2 fun e w3 => e = .returned (.int .i64 r) ∧ WholeT w2 B tb mn mh mk yb S S2 w3) := fun W1 w2 r S2 hr hH => by obtain ⟨who', cb', hTw, _⟩ := hH.ex; exact uHide hTw hl he s t ht hr
  clear h hb hbn hT hwa
  go_enter Tryz.func8, Tryz.ntmps8
  go_wp2_with fail
  go_region_held3 (fun w' => w'.cell? ⟨ab, 2, none⟩ = some (.string ⟨s.toArray⟩) ∧ w'.cell? ⟨ab, 3, none⟩ = some (.string ⟨t.toArray⟩)) (first | go_keep | exact ⟨z2, z3⟩) (first
    | (go_at_call 20; refine (XC.out _ (by exact (Below.refl _ _).drew)).mono ?_; rintro e w2 ⟨r, S2, rfl, hr, hH⟩; have y1 := KS.out _ w2 _ (by exact (Below.refl _ _).drew) hH; obtain ⟨z0, z1, z2, z3⟩ := CE.out w2 y1; have H2 := Lib.hid (And.intro hr (And.intro hH y1)); clear hr hH y1)
    | (go_at_call 21; refine (XU.out _ w2 _ _ H2.out.1 H2.out.2.1).mono ?_; rintro e w3 ⟨rfl, hF⟩; have y1 := KT.out w2 w3 _ H2.out.2.2 hF; obtain ⟨z0, z1, z2, z3⟩ := CE.out w3 y1; have H3 := Lib.hid (FIN.out _ _ _ _ (by exact (Below.refl _ _).drew) H2.out.2.1 hF); clear hF y1))
  all_goals
    go_wp2_with fail
    go_ret
    exact ⟨ret_bool (by simp), H3.out⟩
set_option maxRecDepth 100000 in
set_option maxHeartbeats 3200000 in
theorem pl_5 {w : World} {S : TS} (h : Tw w B tb mn mh mk yb who cb S S) (hl : S.last ≤ 90000) (he : S.epoch ≤ 90000) (a : Int) (ha : (Lit.int .i64 a).wf = true) (s t : Bs) (hs : s.length ≤ 100000) (ht : t.length ≤ 100000) :
    Calls Tryz.prog 8 #[.pointer (some ⟨tb, 0, none⟩), .pointer (some ⟨yb, 0, none⟩), .agg #[.int .i64 5, .int .i64 a, .string ⟨s.toArray⟩, .string ⟨t.toArray⟩]] w fun e w' => e = .returned (.bool true) ∧ PlQ w B tb mn mh mk yb who S w' := by
  have hb : Below w.heap.size w (w.alloc (.cells #[.int .i64 5, .int .i64 a, .string ⟨s.toArray⟩, .string ⟨t.toArray⟩] 30)) := (Below.refl _ w).alloc (Nat.le_refl _) _
  have hbn := heap_alloc_new w (.cells #[.int .i64 5, .int .i64 a, .string ⟨s.toArray⟩, .string ⟨t.toArray⟩] 30)
  have hT := h.low hb
  obtain ⟨ab, hab⟩ : ∃ ab, w.heap.size = ab := ⟨_, rfl⟩
  obtain ⟨W, hWd⟩ : ∃ W, w.alloc (.cells #[.int .i64 5, .int .i64 a, .string ⟨s.toArray⟩, .string ⟨t.toArray⟩] 30) = W := ⟨_, rfl⟩
  rw [hWd] at hb hbn hT
  rw [hab] at hbn
  have hwa : who ab = none := by rw [← hab]; exact h.tb.none_at (Nat.le_refl _)
  have CE : Hid (∀ W' : World, W'.heap[ab]? = W.heap[ab]? → W'.cell? ⟨ab, 0, none⟩ = some (.int .i64 5) ∧ W'.cell? ⟨ab, 1, none⟩ = some (.int .i64 a) ∧ W'.cell? ⟨ab, 2, none⟩ = some (.string ⟨s.toArray⟩) ∧ W'.cell? ⟨ab, 3, none⟩ = some (.string ⟨t.toArray⟩)) := fun W' e => by
    have e2 := e.trans hbn
    refine ⟨?_, ?_, ?_, ?_⟩ <;> simp [World.cell?, e2]
  have KS : Hid (∀ (W1 w2 : World) (S' : TS), Below W.heap.size W W1 → HalfT W1 B tb mn mh mk yb who S S' w2 → w2.heap[ab]? = W.heap[ab]?) := fun W1 w2 S' h1 hH => by
    have hal : ab < W.heap.size := (Array.getElem?_eq_some_iff.1 hbn).1
    obtain ⟨_, _, _, hS⟩ := hH.ex
    exact (hS.fr.block ab (Nat.lt_of_lt_of_le hal h1.size) hwa).trans (h1.block ab hal)
  have KT : Hid (∀ (w2 w3 : World) (S' : TS), w2.heap[ab]? = W.heap[ab]? → WholeT w2 B tb mn mh mk yb S S' w3 → w3.heap[ab]? = W.heap[ab]?) := fun w2 w3 S' h1 hF => by
    exact (hF.kr.block ab _ _ _ (h1.trans hbn) (by decide) (by decide)).trans h1
  have FIN : Hid (∀ (W1 w2 w3 : World) (S' : TS), Below W.heap.size W W1 → HalfT W1 B tb mn mh mk yb who S S' w2 → WholeT w2 B tb mn mh mk yb S S' w3 → PlQ w B tb mn mh mk yb who S w3) := fun W1 w2 w3 S' h1 hH hF => PlQ.of_ h hb h1 hH hF
  have LOW : Hid (∀ (w3 w4 : World), PlQ w B tb mn mh mk yb who S w3 → Below w3.heap.size w3 w4 → PlQ w B tb mn mh mk yb who S w4) := fun w3 w4 hq hb4 => by
    obtain ⟨S', who', cb', q1, q2, q3⟩ := hq.ex
    exact ⟨⟨S', who', cb', q1.low hb4, q2, q3⟩, hq.below.trans ⟨hb4.os, hb4.tape, hb4.output, hb4.size, fun k hk => hb4.block k (by have := q1.tb.base; omega)⟩, fun j cs f hj hw => by have e := hq.keep j cs f hj hw; exact (hb4.block j (Array.getElem?_eq_some_iff.1 (e.trans hj)).1).trans e⟩
  obtain ⟨x0, x1, x2, x3⟩ := CE.out W rfl
  have XC : Hid (∀ W1, Below W.heap.size W W1 → Calls Tryz.prog 22 #[.pointer (some ⟨tb, 0, none⟩), .string ⟨s.toArray⟩, .string ⟨t.toArray⟩] W1 fun e w2 => ∃ r S2, e = .returned (.int .i64 r) ∧ MoveR S true s false t r S2 ∧ HalfT W1 B tb mn mh mk yb who S S2 w2) := fun W1 h1 => tExpose (hT.low h1) hl he s t hs ht
  have XU : Hid (∀ (W1 w2 : World) (r : Int) (S2 : TS), MoveR S true s false t r S2 → HalfT W1 B tb mn mh mk yb who S S2 w2 → Calls Tryz.prog 23 #[.pointer (some ⟨yb, 0, none⟩), .string ⟨s.toArray⟩, .string ⟨t.toArray⟩] w2 fun e w3 => e = .returned (.int .i64 r) ∧ WholeT w2 B tb mn mh mk yb S S2 w3) := fun W1 w2 r S2 hr hH => by obtain ⟨who', cb', hTw, _⟩ := hH.ex; exact uExpose hTw hl he s t ht hr
  clear h hb hbn hT hwa
  go_enter Tryz.func8, Tryz.ntmps8
  go_wp2_with fail
  go_region_held3 (fun w' => w'.cell? ⟨ab, 2, none⟩ = some (.string ⟨s.toArray⟩) ∧ w'.cell? ⟨ab, 3, none⟩ = some (.string ⟨t.toArray⟩)) (first | go_keep | exact ⟨z2, z3⟩) (first
    | (go_at_call 22; refine (XC.out _ (by exact (Below.refl _ _).drew)).mono ?_; rintro e w2 ⟨r, S2, rfl, hr, hH⟩; have y1 := KS.out _ w2 _ (by exact (Below.refl _ _).drew) hH; obtain ⟨z0, z1, z2, z3⟩ := CE.out w2 y1; have H2 := Lib.hid (And.intro hr (And.intro hH y1)); clear hr hH y1)
    | (go_at_call 23; refine (XU.out _ w2 _ _ H2.out.1 H2.out.2.1).mono ?_; rintro e w3 ⟨rfl, hF⟩; have y1 := KT.out w2 w3 _ H2.out.2.2 hF; obtain ⟨z0, z1, z2, z3⟩ := CE.out w3 y1; have H3 := Lib.hid (FIN.out _ _ _ _ (by exact (Below.refl _ _).drew) H2.out.2.1 hF); clear hF y1))
  all_goals
    go_wp2_with fail
    go_ret
    exact ⟨ret_bool (by simp), H3.out⟩
set_option maxRecDepth 100000 in
set_option maxHeartbeats 1600000 in
theorem pl_any {w : World} {S : TS} (h : Tw w B tb mn mh mk yb who cb S S) (hl : S.last ≤ 90000) (he : S.epoch ≤ 90000) (k a : Int) (ha : (Lit.int .i64 a).wf = true) (s t : Bs) (hs : s.length ≤ 100000) (ht : t.length ≤ 100000) :
    Calls Tryz.prog 8 #[.pointer (some ⟨tb, 0, none⟩), .pointer (some ⟨yb, 0, none⟩), .agg #[.int .i64 k, .int .i64 a, .string ⟨s.toArray⟩, .string ⟨t.toArray⟩]] w fun e w' => e = .returned (.bool true) ∧ PlQ w B tb mn mh mk yb who S w' := by
  by_cases h0 : k = 0
  · subst h0; exact pl_0 h hl he a ha s t hs ht
  by_cases h1 : k = 1
  · subst h1; exact pl_1 h hl he a ha s t hs ht
  by_cases h2 : k = 2
  · subst h2; exact pl_2 h hl he a ha s t hs ht
  by_cases h3 : k = 3
  · subst h3; exact pl_3 h hl he a ha s t hs ht
  by_cases h4 : k = 4
  · subst h4; exact pl_4 h hl he a ha s t hs ht
  by_cases h5 : k = 5
  · subst h5; exact pl_5 h hl he a ha s t hs ht
  have t0 : decide (k = 0) = false := by simpa using h0
  have t1 : decide (k = 1) = false := by simpa using h1
  have t2 : decide (k = 2) = false := by simpa using h2
  have t3 : decide (k = 3) = false := by simpa using h3
  have t4 : decide (k = 4) = false := by simpa using h4
  have t5 : decide (k = 5) = false := by simpa using h5
  have HF : Hid (∀ o, PlQ w B tb mn mh mk yb who S (w.alloc o)) := fun o => PlQ.low h ((Below.refl _ w).alloc (Nat.le_refl _) _)
  clear h
  go_enter Tryz.func8, Tryz.ntmps8
  go_wp2_with fail
  go_ret
  exact ⟨rfl, HF.out _⟩
end
end Go.Proofs.YtbbbenjakjejmaaGreat
