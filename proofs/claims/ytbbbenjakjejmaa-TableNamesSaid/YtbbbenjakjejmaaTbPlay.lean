/- 'play' of a table, beside a table of the reference just made. -/
import Derived.Test.YtbbbenjakjejmaaTbRef0
import Derived.Test.YtbbbenjakjejmaaTbLight
namespace Go.Proofs.Ytbbbenjakjejmaa
set_option linter.unusedVariables false
set_option linter.unusedSimpArgs false
open Go.RowKit Go.MapKept Go.WideMaps
theorem sameInts0 (w : World) (o : Option Addr) (n c : Nat) (hn : n ≤ 1000000) : Calls Try.prog 28 #[.slice o n c, .slice none 0 0] w fun e w' => (∃ q, e = .returned (.bool q)) ∧ w = w' := by
  by_cases h : n = 0
  · subst h
    go_enter Try.func28, Try.ntmps28
    go_wp2_with fail
    go_loopw [13] (fun q wr => q = .int .i64 0 ∧ w = wr) (fun _ _ => 0)
    case atStart => exact ⟨rfl, rfl⟩
    case round =>
      obtain ⟨rfl, rfl⟩ := hrel
      go_wp2_with fail
      go_ret
      exact ⟨⟨_, rfl⟩, rfl⟩
  · have t0 : decide ((n : Int) = 0) = false := by rw [decide_eq_false_iff_not]; omega
    have t1 : decide (n = 0) = false := by rw [decide_eq_false_iff_not]; exact h
    go_enter Try.func28, Try.ntmps28
    go_wp2_with fail
    go_ret
    exact ⟨⟨_, rfl⟩, rfl⟩
theorem moveR_wf {S S' : TS} {was now : Bool} {old new : Bs} {r : Int} (hW : WF S) (hn : new.length ≤ 100000) (h : MoveR S was old now new r S') : WF S' ∧ S'.last ≤ S.last + 1 ∧ S'.epoch ≤ S.epoch + 1 := by
  rcases h with ⟨_, _, rfl⟩ | ⟨_, _, _, _, _, rfl⟩ | ⟨n, h1, h2, _, rfl⟩
  · exact ⟨hW, Nat.le_succ _, Nat.le_succ _⟩
  · exact ⟨hW, Nat.le_succ _, Nat.le_succ _⟩
  · exact ⟨wf_moveT hW hn h1 h2, Nat.le_succ _, Nat.le_refl _⟩
theorem delR_wf {S S' : TS} {name : Bs} {r : Int} {L : List Nat} (hW : WF S) (h : DelR S name r S' L) : WF S' ∧ S'.last ≤ S.last + 1 ∧ S'.epoch ≤ S.epoch + 1 ∧ L.length ≤ S.cnt := by
  rcases h with ⟨_, _, rfl, rfl⟩ | ⟨n, h1, _, g⟩
  · exact ⟨hW, Nat.le_succ _, Nat.le_succ _, by simp⟩
  · have hc := g.cnt (wf_epoch hW (S.epoch + 1))
    have hl := g.last
    have he := g.epoch
    refine ⟨g.wf, by simp only at hl; omega, by simp only at he; omega, ?_⟩
    have e : ({ S with epoch := S.epoch + 1 } : TS).cnt = S.cnt := rfl
    omega
/-- What 'play' leaves. -/
def PlayQ (w : World) (B tb mn mh mk : Nat) (S : TS) (w' : World) : Prop :=
  (∃ S' who' cb', WF S' ∧ S'.last ≤ S.last + 1 ∧ S'.epoch ≤ S.epoch + 1 ∧ Tb w' B tb mn mh mk who' cb' S') ∧ Below B w w'
section
variable {B tb mn mh mk : Nat} {who : Own} {cb : Nat → Nat}
theorem play_fin {w W w2 w3 : World} {S S' : TS} {who' : Own} {cb' : Nat → Nat} {yb : Nat} (h : Tb w B tb mn mh mk who cb S) (hb : Below w.heap.size w W) (hS : Stp who who' W w2) (hT : Tb w2 B tb mn mh mk who' cb' S') (hK : Kp [yb] w2 w3) (hy : who yb = none) (hyB : B ≤ yb) (hyl : yb < w.heap.size)
    (hw : WF S' ∧ S'.last ≤ S.last + 1 ∧ S'.epoch ≤ S.epoch + 1) : PlayQ w B tb mn mh mk S w3 := by
  have hy' : who' yb = none := by rw [hS.ext yb (Nat.lt_of_lt_of_le hyl hb.size)]; exact hy
  refine ⟨⟨S', who', cb', hw.1, hw.2.1, hw.2.2, hT.keep hK.size (fun j hj => hK.block j (hT.lo j hj).2 (fun hm => by simp at hm; subst hm; exact hj hy'))⟩, ?_⟩
  have h1 : Below B w W := ⟨hb.os, hb.tape, hb.output, hb.size, fun k hk => hb.block k (by have := h.base; omega)⟩
  have h2 : Below B W w2 := hS.below (Nat.le_trans h.base hb.size) (fun j hj => (h.lo j hj).1)
  have h3 : Below B w2 w3 := hK.below (Nat.le_trans (Nat.le_trans h.base hb.size) hS.fr.size) (fun d hd => by simp at hd; omega)
  exact (h1.trans h2).trans h3
set_option maxRecDepth 100000 in
set_option maxHeartbeats 3200000 in
theorem play_0 {w : World} {S : TS} {yb : Nat} (h : Tb w B tb mn mh mk who cb S) (hW : WF S) (hl : S.last ≤ 700000) (he : S.epoch ≤ 700000) (hr : RN w yb) (hy : who yb = none) (hyB : B ≤ yb) (a : Int) (ha : (Lit.int .i64 a).wf = true) (s t : Bs) (hs : s.length ≤ 100000) (ht : t.length ≤ 100000) :
    Calls Try.prog 9 #[.pointer (some ⟨tb, 0, none⟩), .pointer (some ⟨yb, 0, none⟩), .agg #[.int .i64 0, .int .i64 a, .string ⟨s.toArray⟩, .string ⟨t.toArray⟩]] w fun e w' => (∃ q, e = .returned (.bool q)) ∧ PlayQ w B tb mn mh mk S w' := by
  have hb : Below w.heap.size w (w.alloc (.cells #[.int .i64 0, .int .i64 a, .string ⟨s.toArray⟩, .string ⟨t.toArray⟩] 28)) := (Below.refl _ w).alloc (Nat.le_refl _) _
  have hbn := heap_alloc_new w (.cells #[.int .i64 0, .int .i64 a, .string ⟨s.toArray⟩, .string ⟨t.toArray⟩] 28)
  have hyl := hr.lt
  have hcnt := S.cnt_le
  have hT := h.low hb
  have hR := hr.low hb
  obtain ⟨ab, hab⟩ : ∃ ab, w.heap.size = ab := ⟨_, rfl⟩
  obtain ⟨W, hWd⟩ : ∃ W, w.alloc (.cells #[.int .i64 0, .int .i64 a, .string ⟨s.toArray⟩, .string ⟨t.toArray⟩] 28) = W := ⟨_, rfl⟩
  rw [hWd] at hb hbn hT hR
  rw [hab] at hbn
  have hwa : who ab = none := by rw [← hab]; exact h.none_at (Nat.le_refl _)
  have CE : Hid (∀ W' : World, W'.heap[ab]? = W.heap[ab]? → W'.cell? ⟨ab, 0, none⟩ = some (.int .i64 0) ∧ W'.cell? ⟨ab, 1, none⟩ = some (.int .i64 a) ∧ W'.cell? ⟨ab, 2, none⟩ = some (.string ⟨s.toArray⟩) ∧ W'.cell? ⟨ab, 3, none⟩ = some (.string ⟨t.toArray⟩)) := fun W' e => by
    have e2 := e.trans hbn
    refine ⟨?_, ?_, ?_, ?_⟩ <;> simp [World.cell?, e2]
  have KS : Hid (∀ (W1 w2 : World) (who' : Own), Below W.heap.size W W1 → Stp who who' W1 w2 → w2.heap[ab]? = W.heap[ab]? ∧ RN w2 yb) := fun W1 w2 who' h1 hS => by
    have hal : ab < W.heap.size := (Array.getElem?_eq_some_iff.1 hbn).1
    exact ⟨(hS.fr.block ab (Nat.lt_of_lt_of_le hal h1.size) hwa).trans (h1.block ab hal), (hS.fr.block yb (Nat.lt_of_lt_of_le hR.lt h1.size) hy).trans (hR.low h1)⟩
  have FIN : Hid (∀ (W1 w2 w3 : World) (S' : TS) (who' : Own) (cb' : Nat → Nat), Below W.heap.size W W1 → Stp who who' W1 w2 → Tb w2 B tb mn mh mk who' cb' S' → Kp [yb] w2 w3 → (WF S' ∧ S'.last ≤ S.last + 1 ∧ S'.epoch ≤ S.epoch + 1) → PlayQ w B tb mn mh mk S w3) := fun W1 w2 w3 S' who' cb' h1 hS hT' hK hw =>
    play_fin h (hb.trans (h1.mono hb.size)) hS hT' hK hy hyB hyl hw
  obtain ⟨x0, x1, x2, x3⟩ := CE.out W rfl
  have XC : Hid (∀ W1, Below W.heap.size W W1 → Calls Try.prog 15 #[.pointer (some ⟨tb, 0, none⟩), .string ⟨s.toArray⟩] W1 (AddP W1 B tb mn mh mk who S s 0)) := fun W1 h1 => Define_any (hT.low h1) hW (by omega) (by omega) s hs
  clear h hb hbn hyl hT hR hwa hr hy hyB
  go_enter Try.func9, Try.ntmps9
  go_wp2_with (first
    | (go_at_call 15; refine (XC.out _ (Below.refl _ _)).mono ?_; rintro e w2 ⟨who', cb', o, cap, S', L, rfl, hA, hT2, hI, hS⟩; have hwf := addR_wf hW hs (.inl rfl) hA; obtain ⟨y1, y2⟩ := KS.out _ w2 _ (Below.refl _ _) hS; obtain ⟨x0, x1, x2, x3⟩ := CE.out w2 y1; have H2 : Hid (Stp who who' W w2 ∧ Tb w2 B tb mn mh mk who' cb' S' ∧ (WF S' ∧ S'.last ≤ S.last + 1 ∧ S'.epoch ≤ S.epoch + 1) ∧ L.length ≤ 1000000) := ⟨hS, hT2, ⟨hwf.1, by omega, by omega⟩, by omega⟩; have HY := Lib.hid y2; clear hA hT2 hI hS hwf y1 y2)
    | (go_at_call 27; refine (rDefine0 HY.out s).mono ?_; rintro e w3 ⟨rfl, hK⟩; have HK := Lib.hid hK; clear hK)
    | (go_at_call 28; refine (sameInts0 _ _ _ _ H2.out.2.2.2).mono ?_; rintro e w4 ⟨⟨q, rfl⟩, rfl⟩))
  all_goals
    go_ret
    exact ⟨⟨_, rfl⟩, FIN.out _ _ _ _ _ _ (Below.refl _ _) H2.out.1 H2.out.2.1 HK.out H2.out.2.2.1⟩
set_option maxRecDepth 100000 in
set_option maxHeartbeats 3200000 in
theorem play_1 {w : World} {S : TS} {yb : Nat} (h : Tb w B tb mn mh mk who cb S) (hW : WF S) (hl : S.last ≤ 700000) (he : S.epoch ≤ 700000) (hr : RN w yb) (hy : who yb = none) (hyB : B ≤ yb) (a : Int) (ha : (Lit.int .i64 a).wf = true) (s t : Bs) (hs : s.length ≤ 100000) (ht : t.length ≤ 100000) :
    Calls Try.prog 9 #[.pointer (some ⟨tb, 0, none⟩), .pointer (some ⟨yb, 0, none⟩), .agg #[.int .i64 1, .int .i64 a, .string ⟨s.toArray⟩, .string ⟨t.toArray⟩]] w fun e w' => (∃ q, e = .returned (.bool q)) ∧ PlayQ w B tb mn mh mk S w' := by
  have hb : Below w.heap.size w (w.alloc (.cells #[.int .i64 1, .int .i64 a, .string ⟨s.toArray⟩, .string ⟨t.toArray⟩] 28)) := (Below.refl _ w).alloc (Nat.le_refl _) _
  have hbn := heap_alloc_new w (.cells #[.int .i64 1, .int .i64 a, .string ⟨s.toArray⟩, .string ⟨t.toArray⟩] 28)
  have hyl := hr.lt
  have hcnt := S.cnt_le
  have hT := h.low hb
  have hR := hr.low hb
  obtain ⟨ab, hab⟩ : ∃ ab, w.heap.size = ab := ⟨_, rfl⟩
  obtain ⟨W, hWd⟩ : ∃ W, w.alloc (.cells #[.int .i64 1, .int .i64 a, .string ⟨s.toArray⟩, .string ⟨t.toArray⟩] 28) = W := ⟨_, rfl⟩
  rw [hWd] at hb hbn hT hR
  rw [hab] at hbn
  have hwa : who ab = none := by rw [← hab]; exact h.none_at (Nat.le_refl _)
  have CE : Hid (∀ W' : World, W'.heap[ab]? = W.heap[ab]? → W'.cell? ⟨ab, 0, none⟩ = some (.int .i64 1) ∧ W'.cell? ⟨ab, 1, none⟩ = some (.int .i64 a) ∧ W'.cell? ⟨ab, 2, none⟩ = some (.string ⟨s.toArray⟩) ∧ W'.cell? ⟨ab, 3, none⟩ = some (.string ⟨t.toArray⟩)) := fun W' e => by
    have e2 := e.trans hbn
    refine ⟨?_, ?_, ?_, ?_⟩ <;> simp [World.cell?, e2]
  have KS : Hid (∀ (W1 w2 : World) (who' : Own), Below W.heap.size W W1 → Stp who who' W1 w2 → w2.heap[ab]? = W.heap[ab]? ∧ RN w2 yb) := fun W1 w2 who' h1 hS => by
    have hal : ab < W.heap.size := (Array.getElem?_eq_some_iff.1 hbn).1
    exact ⟨(hS.fr.block ab (Nat.lt_of_lt_of_le hal h1.size) hwa).trans (h1.block ab hal), (hS.fr.block yb (Nat.lt_of_lt_of_le hR.lt h1.size) hy).trans (hR.low h1)⟩
  have FIN : Hid (∀ (W1 w2 w3 : World) (S' : TS) (who' : Own) (cb' : Nat → Nat), Below W.heap.size W W1 → Stp who who' W1 w2 → Tb w2 B tb mn mh mk who' cb' S' → Kp [yb] w2 w3 → (WF S' ∧ S'.last ≤ S.last + 1 ∧ S'.epoch ≤ S.epoch + 1) → PlayQ w B tb mn mh mk S w3) := fun W1 w2 w3 S' who' cb' h1 hS hT' hK hw =>
    play_fin h (hb.trans (h1.mono hb.size)) hS hT' hK hy hyB hyl hw
  obtain ⟨x0, x1, x2, x3⟩ := CE.out W rfl
  have XC : Hid (∀ W1, Below W.heap.size W W1 → Calls Try.prog 25 #[.pointer (some ⟨tb, 0, none⟩), .string ⟨s.toArray⟩, .int .i64 a] W1 fun e w2 => ∃ n o c m r S' who' cb', e = .returned (.tuple #[.int .i64 n, .slice o m c, .int .i64 r]) ∧ Stp who who' W1 w2 ∧ Tb w2 B tb mn mh mk who' cb' S' ∧ (WF S' ∧ S'.last ≤ S.last + 1 ∧ S'.epoch ≤ S.epoch + 1) ∧ m ≤ 1000000) := fun W1 h1 => (Import_any (hT.low h1) hW (by omega) (by omega) s hs a ha).mono fun e w2 hp => by
    rcases hp with ⟨r, rfl, _, hT2, hS⟩ | ⟨org, who', cb', o, cap, S', L, _, ho, rfl, hA, hT2, hI, hS⟩
    · exact ⟨0, none, 0, 0, r, S, who, cb, rfl, hS, hT2, ⟨hW, Nat.le_succ _, Nat.le_succ _⟩, by omega⟩
    · have hwf := addR_wf hW hs ho hA
      exact ⟨_, o, cap, L.length, 0, S', who', cb', rfl, hS, hT2, ⟨hwf.1, by omega, by omega⟩, by omega⟩
  clear h hb hbn hyl hT hR hwa hr hy hyB
  go_enter Try.func9, Try.ntmps9
  go_wp2_with (first
    | (go_at_call 25; refine (XC.out _ (Below.refl _ _)).mono ?_; rintro e w2 ⟨n, o, c, m, r, S', who', cb', rfl, hS, hT2, hwf, hm⟩; obtain ⟨y1, y2⟩ := KS.out _ w2 _ (Below.refl _ _) hS; obtain ⟨x0, x1, x2, x3⟩ := CE.out w2 y1; have H2 : Hid (Stp who who' W w2 ∧ Tb w2 B tb mn mh mk who' cb' S' ∧ (WF S' ∧ S'.last ≤ S.last + 1 ∧ S'.epoch ≤ S.epoch + 1) ∧ m ≤ 1000000) := ⟨hS, hT2, hwf, hm⟩; have HY := Lib.hid y2; clear hT2 hS hwf y1 y2 hm)
    | (go_at_call 29; refine (rImport0 HY.out s a).mono ?_; rintro e w3 ⟨rfl, hK⟩; have HK : Hid (Kp [yb] w2 w3) := (kp_of_below hK).mono (by simp); clear hK)
    | (go_at_call 28; refine (sameInts0 _ _ _ _ H2.out.2.2.2).mono ?_; rintro e w4 ⟨⟨q, rfl⟩, rfl⟩))
  all_goals
    go_ret
    exact ⟨⟨_, rfl⟩, FIN.out _ _ _ _ _ _ (Below.refl _ _) H2.out.1 H2.out.2.1 HK.out H2.out.2.2.1⟩
set_option maxRecDepth 100000 in
set_option maxHeartbeats 3200000 in
theorem play_2 {w : World} {S : TS} {yb : Nat} (h : Tb w B tb mn mh mk who cb S) (hW : WF S) (hl : S.last ≤ 700000) (he : S.epoch ≤ 700000) (hr : RN w yb) (hy : who yb = none) (hyB : B ≤ yb) (a : Int) (ha : (Lit.int .i64 a).wf = true) (s t : Bs) (hs : s.length ≤ 100000) (ht : t.length ≤ 100000) :
    Calls Try.prog 9 #[.pointer (some ⟨tb, 0, none⟩), .pointer (some ⟨yb, 0, none⟩), .agg #[.int .i64 2, .int .i64 a, .string ⟨s.toArray⟩, .string ⟨t.toArray⟩]] w fun e w' => (∃ q, e = .returned (.bool q)) ∧ PlayQ w B tb mn mh mk S w' := by
  have hb : Below w.heap.size w (w.alloc (.cells #[.int .i64 2, .int .i64 a, .string ⟨s.toArray⟩, .string ⟨t.toArray⟩] 28)) := (Below.refl _ w).alloc (Nat.le_refl _) _
  have hbn := heap_alloc_new w (.cells #[.int .i64 2, .int .i64 a, .string ⟨s.toArray⟩, .string ⟨t.toArray⟩] 28)
  have hyl := hr.lt
  have hcnt := S.cnt_le
  have hT := h.low hb
  have hR := hr.low hb
  obtain ⟨ab, hab⟩ : ∃ ab, w.heap.size = ab := ⟨_, rfl⟩
  obtain ⟨W, hWd⟩ : ∃ W, w.alloc (.cells #[.int .i64 2, .int .i64 a, .string ⟨s.toArray⟩, .string ⟨t.toArray⟩] 28) = W := ⟨_, rfl⟩
  rw [hWd] at hb hbn hT hR
  rw [hab] at hbn
  have hwa : who ab = none := by rw [← hab]; exact h.none_at (Nat.le_refl _)
  have CE : Hid (∀ W' : World, W'.heap[ab]? = W.heap[ab]? → W'.cell? ⟨ab, 0, none⟩ = some (.int .i64 2) ∧ W'.cell? ⟨ab, 1, none⟩ = some (.int .i64 a) ∧ W'.cell? ⟨ab, 2, none⟩ = some (.string ⟨s.toArray⟩) ∧ W'.cell? ⟨ab, 3, none⟩ = some (.string ⟨t.toArray⟩)) := fun W' e => by
    have e2 := e.trans hbn
    refine ⟨?_, ?_, ?_, ?_⟩ <;> simp [World.cell?, e2]
  have KS : Hid (∀ (W1 w2 : World) (who' : Own), Below W.heap.size W W1 → Stp who who' W1 w2 → w2.heap[ab]? = W.heap[ab]? ∧ RN w2 yb) := fun W1 w2 who' h1 hS => by
    have hal : ab < W.heap.size := (Array.getElem?_eq_some_iff.1 hbn).1
    exact ⟨(hS.fr.block ab (Nat.lt_of_lt_of_le hal h1.size) hwa).trans (h1.block ab hal), (hS.fr.block yb (Nat.lt_of_lt_of_le hR.lt h1.size) hy).trans (hR.low h1)⟩
  have FIN : Hid (∀ (W1 w2 w3 : World) (S' : TS) (who' : Own) (cb' : Nat → Nat), Below W.heap.size W W1 → Stp who who' W1 w2 → Tb w2 B tb mn mh mk who' cb' S' → Kp [yb] w2 w3 → (WF S' ∧ S'.last ≤ S.last + 1 ∧ S'.epoch ≤ S.epoch + 1) → PlayQ w B tb mn mh mk S w3) := fun W1 w2 w3 S' who' cb' h1 hS hT' hK hw =>
    play_fin h (hb.trans (h1.mono hb.size)) hS hT' hK hy hyB hyl hw
  obtain ⟨x0, x1, x2, x3⟩ := CE.out W rfl
  have XC : Hid (∀ W1, Below W.heap.size W W1 → Calls Try.prog 19 #[.pointer (some ⟨tb, 0, none⟩), .string ⟨s.toArray⟩, .string ⟨t.toArray⟩] W1 fun e w2 => ∃ r S', e = .returned (.int .i64 r) ∧ Stp who who W1 w2 ∧ Tb w2 B tb mn mh mk who cb S' ∧ (WF S' ∧ S'.last ≤ S.last + 1 ∧ S'.epoch ≤ S.epoch + 1)) := fun W1 h1 => (Rename_any (hT.low h1) hW (by omega) s t hs ht).mono fun e w2 hp => by
    obtain ⟨r, S', rfl, hM, hT2, hS⟩ := hp
    exact ⟨r, S', rfl, hS, hT2, moveR_wf hW ht hM⟩
  clear h hb hbn hyl hT hR hwa hr hy hyB
  go_enter Try.func9, Try.ntmps9
  go_wp2_with fail
  go_region_held3 (fun w' => w'.cell? ⟨ab, 2, none⟩ = some (.string ⟨s.toArray⟩) ∧ w'.cell? ⟨ab, 3, none⟩ = some (.string ⟨t.toArray⟩)) (first | go_keep | exact ⟨z2, z3⟩) (first
    | (go_at_call 19; refine (XC.out _ (by exact (Below.refl _ _).drew)).mono ?_; rintro e w2 ⟨r, S', rfl, hS, hT2, hwf⟩; obtain ⟨y1, y2⟩ := KS.out _ w2 _ (by exact (Below.refl _ _).drew) hS; obtain ⟨z0, z1, z2, z3⟩ := CE.out w2 y1; have H2 : Hid (Stp who who W.drew w2 ∧ Tb w2 B tb mn mh mk who cb S' ∧ (WF S' ∧ S'.last ≤ S.last + 1 ∧ S'.epoch ≤ S.epoch + 1)) := ⟨hS, hT2, hwf⟩; have HY := Lib.hid y2; clear hT2 hS hwf y1 y2)
    | (go_at_call 30; refine (rRename0 HY.out s t).mono ?_; rintro e w3 ⟨rfl, rfl⟩))
  all_goals
    go_wp2_with fail
    go_ret
    exact ⟨⟨_, rfl⟩, FIN.out _ _ _ _ _ _ (by exact (Below.refl _ _).drew) H2.out.1 H2.out.2.1 (Kp.refl _ _) H2.out.2.2⟩
set_option maxRecDepth 100000 in
set_option maxHeartbeats 3200000 in
theorem play_3 {w : World} {S : TS} {yb : Nat} (h : Tb w B tb mn mh mk who cb S) (hW : WF S) (hl : S.last ≤ 700000) (he : S.epoch ≤ 700000) (hr : RN w yb) (hy : who yb = none) (hyB : B ≤ yb) (a : Int) (ha : (Lit.int .i64 a).wf = true) (s t : Bs) (hs : s.length ≤ 100000) (ht : t.length ≤ 100000) :
    Calls Try.prog 9 #[.pointer (some ⟨tb, 0, none⟩), .pointer (some ⟨yb, 0, none⟩), .agg #[.int .i64 3, .int .i64 a, .string ⟨s.toArray⟩, .string ⟨t.toArray⟩]] w fun e w' => (∃ q, e = .returned (.bool q)) ∧ PlayQ w B tb mn mh mk S w' := by
  have hb : Below w.heap.size w (w.alloc (.cells #[.int .i64 3, .int .i64 a, .string ⟨s.toArray⟩, .string ⟨t.toArray⟩] 28)) := (Below.refl _ w).alloc (Nat.le_refl _) _
  have hbn := heap_alloc_new w (.cells #[.int .i64 3, .int .i64 a, .string ⟨s.toArray⟩, .string ⟨t.toArray⟩] 28)
  have hyl := hr.lt
  have hcnt := S.cnt_le
  have hT := h.low hb
  have hR := hr.low hb
  obtain ⟨ab, hab⟩ : ∃ ab, w.heap.size = ab := ⟨_, rfl⟩
  obtain ⟨W, hWd⟩ : ∃ W, w.alloc (.cells #[.int .i64 3, .int .i64 a, .string ⟨s.toArray⟩, .string ⟨t.toArray⟩] 28) = W := ⟨_, rfl⟩
  rw [hWd] at hb hbn hT hR
  rw [hab] at hbn
  have hwa : who ab = none := by rw [← hab]; exact h.none_at (Nat.le_refl _)
  have CE : Hid (∀ W' : World, W'.heap[ab]? = W.heap[ab]? → W'.cell? ⟨ab, 0, none⟩ = some (.int .i64 3) ∧ W'.cell? ⟨ab, 1, none⟩ = some (.int .i64 a) ∧ W'.cell? ⟨ab, 2, none⟩ = some (.string ⟨s.toArray⟩) ∧ W'.cell? ⟨ab, 3, none⟩ = some (.string ⟨t.toArray⟩)) := fun W' e => by
    have e2 := e.trans hbn
    refine ⟨?_, ?_, ?_, ?_⟩ <;> simp [World.cell?, e2]
  have KS : Hid (∀ (W1 w2 : World) (who' : Own), Below W.heap.size W W1 → Stp who who' W1 w2 → w2.heap[ab]? = W.heap[ab]? ∧ RN w2 yb) := fun W1 w2 who' h1 hS => by
    have hal : ab < W.heap.size := (Array.getElem?_eq_some_iff.1 hbn).1
    exact ⟨(hS.fr.block ab (Nat.lt_of_lt_of_le hal h1.size) hwa).trans (h1.block ab hal), (hS.fr.block yb (Nat.lt_of_lt_of_le hR.lt h1.size) hy).trans (hR.low h1)⟩
  have FIN : Hid (∀ (W1 w2 w3 : World) (S' : TS) (who' : Own) (cb' : Nat → Nat), Below W.heap.size W W1 → Stp who who' W1 w2 → Tb w2 B tb mn mh mk who' cb' S' → Kp [yb] w2 w3 → (WF S' ∧ S'.last ≤ S.last + 1 ∧ S'.epoch ≤ S.epoch + 1) → PlayQ w B tb mn mh mk S w3) := fun W1 w2 w3 S' who' cb' h1 hS hT' hK hw =>
    play_fin h (hb.trans (h1.mono hb.size)) hS hT' hK hy hyB hyl hw
  obtain ⟨x0, x1, x2, x3⟩ := CE.out W rfl
  have XC : Hid (∀ W1, Below W.heap.size W W1 → Calls Try.prog 12 #[.pointer (some ⟨tb, 0, none⟩), .string ⟨s.toArray⟩] W1 fun e w2 => ∃ o c m r S', e = .returned (.tuple #[.slice o m c, .int .i64 r]) ∧ Stp who who W1 w2 ∧ Tb w2 B tb mn mh mk who cb S' ∧ (WF S' ∧ S'.last ≤ S.last + 1 ∧ S'.epoch ≤ S.epoch + 1) ∧ m ≤ 1000000) := fun W1 h1 => (Delete_any (hT.low h1) hW (by omega) (by omega) s hs).mono fun e w2 hp => by
    obtain ⟨r, o, cap, S', L, rfl, hD, hT2, _, hS⟩ := hp
    have hwf := delR_wf hW hD
    exact ⟨o, cap, L.length, r, S', rfl, hS, hT2, ⟨hwf.1, hwf.2.1, hwf.2.2.1⟩, by have := hwf.2.2.2; omega⟩
  clear h hb hbn hyl hT hR hwa hr hy hyB
  go_enter Try.func9, Try.ntmps9
  go_wp2_with (first
    | (go_at_call 12; refine (XC.out _ (Below.refl _ _)).mono ?_; rintro e w2 ⟨o, c, m, r, S', rfl, hS, hT2, hwf, hm⟩; obtain ⟨y1, y2⟩ := KS.out _ w2 _ (Below.refl _ _) hS; obtain ⟨x0, x1, x2, x3⟩ := CE.out w2 y1; have H2 : Hid (Stp who who W w2 ∧ Tb w2 B tb mn mh mk who cb S' ∧ (WF S' ∧ S'.last ≤ S.last + 1 ∧ S'.epoch ≤ S.epoch + 1) ∧ m ≤ 1000000) := ⟨hS, hT2, hwf, hm⟩; have HY := Lib.hid y2; clear hT2 hS hwf y1 y2 hm)
    | (go_at_call 31; refine (rDelete0 HY.out s).mono ?_; rintro e w3 ⟨rfl, rfl⟩; have HK : Hid (Kp [yb] w2 w2) := Kp.refl _ _)
    | (go_at_call 28; refine (sameInts0 _ _ _ _ H2.out.2.2.2).mono ?_; rintro e w4 ⟨⟨q, rfl⟩, rfl⟩))
  all_goals
    go_ret
    exact ⟨⟨_, rfl⟩, FIN.out _ _ _ _ _ _ (Below.refl _ _) H2.out.1 H2.out.2.1 HK.out H2.out.2.2.1⟩
set_option maxRecDepth 100000 in
set_option maxHeartbeats 3200000 in
theorem play_4 {w : World} {S : TS} {yb : Nat} (h : Tb w B tb mn mh mk who cb S) (hW : WF S) (hl : S.last ≤ 700000) (he : S.epoch ≤ 700000) (hr : RN w yb) (hy : who yb = none) (hyB : B ≤ yb) (a : Int) (ha : (Lit.int .i64 a).wf = true) (s t : Bs) (hs : s.length ≤ 100000) (ht : t.length ≤ 100000) :
    Calls Try.prog 9 #[.pointer (some ⟨tb, 0, none⟩), .pointer (some ⟨yb, 0, none⟩), .agg #[.int .i64 4, .int .i64 a, .string ⟨s.toArray⟩, .string ⟨t.toArray⟩]] w fun e w' => (∃ q, e = .returned (.bool q)) ∧ PlayQ w B tb mn mh mk S w' := by
  have hb : Below w.heap.size w (w.alloc (.cells #[.int .i64 4, .int .i64 a, .string ⟨s.toArray⟩, .string ⟨t.toArray⟩] 28)) := (Below.refl _ w).alloc (Nat.le_refl _) _
  have hbn := heap_alloc_new w (.cells #[.int .i64 4, .int .i64 a, .string ⟨s.toArray⟩, .string ⟨t.toArray⟩] 28)
  have hyl := hr.lt
  have hcnt := S.cnt_le
  have hT := h.low hb
  have hR := hr.low hb
  obtain ⟨ab, hab⟩ : ∃ ab, w.heap.size = ab := ⟨_, rfl⟩
  obtain ⟨W, hWd⟩ : ∃ W, w.alloc (.cells #[.int .i64 4, .int .i64 a, .string ⟨s.toArray⟩, .string ⟨t.toArray⟩] 28) = W := ⟨_, rfl⟩
  rw [hWd] at hb hbn hT hR
  rw [hab] at hbn
  have hwa : who ab = none := by rw [← hab]; exact h.none_at (Nat.le_refl _)
  have CE : Hid (∀ W' : World, W'.heap[ab]? = W.heap[ab]? → W'.cell? ⟨ab, 0, none⟩ = some (.int .i64 4) ∧ W'.cell? ⟨ab, 1, none⟩ = some (.int .i64 a) ∧ W'.cell? ⟨ab, 2, none⟩ = some (.string ⟨s.toArray⟩) ∧ W'.cell? ⟨ab, 3, none⟩ = some (.string ⟨t.toArray⟩)) := fun W' e => by
    have e2 := e.trans hbn
    refine ⟨?_, ?_, ?_, ?_⟩ <;> simp [World.cell?, e2]
  have KS : Hid (∀ (W1 w2 : World) (who' : Own), Below W.heap.size W W1 → Stp who who' W1 w2 → w2.heap[ab]? = W.heap[ab]? ∧ RN w2 yb) := fun W1 w2 who' h1 hS => by
    have hal : ab < W.heap.size := (Array.getElem?_eq_some_iff.1 hbn).1
    exact ⟨(hS.fr.block ab (Nat.lt_of_lt_of_le hal h1.size) hwa).trans (h1.block ab hal), (hS.fr.block yb (Nat.lt_of_lt_of_le hR.lt h1.size) hy).trans (hR.low h1)⟩
  have FIN : Hid (∀ (W1 w2 w3 : World) (S' : TS) (who' : Own) (cb' : Nat → Nat), Below W.heap.size W W1 → Stp who who' W1 w2 → Tb w2 B tb mn mh mk who' cb' S' → Kp [yb] w2 w3 → (WF S' ∧ S'.last ≤ S.last + 1 ∧ S'.epoch ≤ S.epoch + 1) → PlayQ w B tb mn mh mk S w3) := fun W1 w2 w3 S' who' cb' h1 hS hT' hK hw =>
    play_fin h (hb.trans (h1.mono hb.size)) hS hT' hK hy hyB hyl hw
  obtain ⟨x0, x1, x2, x3⟩ := CE.out W rfl
  have XC : Hid (∀ W1, Below W.heap.size W W1 → Calls Try.prog 20 #[.pointer (some ⟨tb, 0, none⟩), .string ⟨s.toArray⟩, .string ⟨t.toArray⟩] W1 fun e w2 => ∃ r S', e = .returned (.int .i64 r) ∧ Stp who who W1 w2 ∧ Tb w2 B tb mn mh mk who cb S' ∧ (WF S' ∧ S'.last ≤ S.last + 1 ∧ S'.epoch ≤ S.epoch + 1)) := fun W1 h1 => (Hide_any (hT.low h1) hW (by omega) s t hs ht).mono fun e w2 hp => by
    obtain ⟨r, S', rfl, hM, hT2, hS⟩ := hp
    exact ⟨r, S', rfl, hS, hT2, moveR_wf hW ht hM⟩
  clear h hb hbn hyl hT hR hwa hr hy hyB
  go_enter Try.func9, Try.ntmps9
  go_wp2_with fail
  go_region_held3 (fun w' => w'.cell? ⟨ab, 2, none⟩ = some (.string ⟨s.toArray⟩) ∧ w'.cell? ⟨ab, 3, none⟩ = some (.string ⟨t.toArray⟩)) (first | go_keep | exact ⟨z2, z3⟩) (first
    | (go_at_call 20; refine (XC.out _ (by exact (Below.refl _ _).drew)).mono ?_; rintro e w2 ⟨r, S', rfl, hS, hT2, hwf⟩; obtain ⟨y1, y2⟩ := KS.out _ w2 _ (by exact (Below.refl _ _).drew) hS; obtain ⟨z0, z1, z2, z3⟩ := CE.out w2 y1; have H2 : Hid (Stp who who W.drew w2 ∧ Tb w2 B tb mn mh mk who cb S' ∧ (WF S' ∧ S'.last ≤ S.last + 1 ∧ S'.epoch ≤ S.epoch + 1)) := ⟨hS, hT2, hwf⟩; have HY := Lib.hid y2; clear hT2 hS hwf y1 y2)
    | (go_at_call 32; refine (rHide0 HY.out s t).mono ?_; rintro e w3 ⟨rfl, rfl⟩))
  all_goals
    go_wp2_with fail
    go_ret
    exact ⟨⟨_, rfl⟩, FIN.out _ _ _ _ _ _ (by exact (Below.refl _ _).drew) H2.out.1 H2.out.2.1 (Kp.refl _ _) H2.out.2.2⟩
set_option maxRecDepth 100000 in
set_option maxHeartbeats 3200000 in
theorem play_5 {w : World} {S : TS} {yb : Nat} (h : Tb w B tb mn mh mk who cb S) (hW : WF S) (hl : S.last ≤ 700000) (he : S.epoch ≤ 700000) (hr : RN w yb) (hy : who yb = none) (hyB : B ≤ yb) (a : Int) (ha : (Lit.int .i64 a).wf = true) (s t : Bs) (hs : s.length ≤ 100000) (ht : t.length ≤ 100000) :
    Calls Try.prog 9 #[.pointer (some ⟨tb, 0, none⟩), .pointer (some ⟨yb, 0, none⟩), .agg #[.int .i64 5, .int .i64 a, .string ⟨s.toArray⟩, .string ⟨t.toArray⟩]] w fun e w' => (∃ q, e = .returned (.bool q)) ∧ PlayQ w B tb mn mh mk S w' := by
  have hb : Below w.heap.size w (w.alloc (.cells #[.int .i64 5, .int .i64 a, .string ⟨s.toArray⟩, .string ⟨t.toArray⟩] 28)) := (Below.refl _ w).alloc (Nat.le_refl _) _
  have hbn := heap_alloc_new w (.cells #[.int .i64 5, .int .i64 a, .string ⟨s.toArray⟩, .string ⟨t.toArray⟩] 28)
  have hyl := hr.lt
  have hcnt := S.cnt_le
  have hT := h.low hb
  have hR := hr.low hb
  obtain ⟨ab, hab⟩ : ∃ ab, w.heap.size = ab := ⟨_, rfl⟩
  obtain ⟨W, hWd⟩ : ∃ W, w.alloc (.cells #[.int .i64 5, .int .i64 a, .string ⟨s.toArray⟩, .string ⟨t.toArray⟩] 28) = W := ⟨_, rfl⟩
  rw [hWd] at hb hbn hT hR
  rw [hab] at hbn
  have hwa : who ab = none := by rw [← hab]; exact h.none_at (Nat.le_refl _)
  have CE : Hid (∀ W' : World, W'.heap[ab]? = W.heap[ab]? → W'.cell? ⟨ab, 0, none⟩ = some (.int .i64 5) ∧ W'.cell? ⟨ab, 1, none⟩ = some (.int .i64 a) ∧ W'.cell? ⟨ab, 2, none⟩ = some (.string ⟨s.toArray⟩) ∧ W'.cell? ⟨ab, 3, none⟩ = some (.string ⟨t.toArray⟩)) := fun W' e => by
    have e2 := e.trans hbn
    refine ⟨?_, ?_, ?_, ?_⟩ <;> simp [World.cell?, e2]
  have KS : Hid (∀ (W1 w2 : World) (who' : Own), Below W.heap.size W W1 → Stp who who' W1 w2 → w2.heap[ab]? = W.heap[ab]? ∧ RN w2 yb) := fun W1 w2 who' h1 hS => by
    have hal : ab < W.heap.size := (Array.getElem?_eq_some_iff.1 hbn).1
    exact ⟨(hS.fr.block ab (Nat.lt_of_lt_of_le hal h1.size) hwa).trans (h1.block ab hal), (hS.fr.block yb (Nat.lt_of_lt_of_le hR.lt h1.size) hy).trans (hR.low h1)⟩
  have FIN : Hid (∀ (W1 w2 w3 : World) (S' : TS) (who' : Own) (cb' : Nat → Nat), Below W.heap.size W W1 → Stp who who' W1 w2 → Tb w2 B tb mn mh mk who' cb' S' → Kp [yb] w2 w3 → (WF S' ∧ S'.last ≤ S.last + 1 ∧ S'.epoch ≤ S.epoch + 1) → PlayQ w B tb mn mh mk S w3) := fun W1 w2 w3 S' who' cb' h1 hS hT' hK hw =>
    play_fin h (hb.trans (h1.mono hb.size)) hS hT' hK hy hyB hyl hw
  obtain ⟨x0, x1, x2, x3⟩ := CE.out W rfl
  have XC : Hid (∀ W1, Below W.heap.size W W1 → Calls Try.prog 22 #[.pointer (some ⟨tb, 0, none⟩), .string ⟨s.toArray⟩, .string ⟨t.toArray⟩] W1 fun e w2 => ∃ r S', e = .returned (.int .i64 r) ∧ Stp who who W1 w2 ∧ Tb w2 B tb mn mh mk who cb S' ∧ (WF S' ∧ S'.last ≤ S.last + 1 ∧ S'.epoch ≤ S.epoch + 1)) := fun W1 h1 => (Expose_any (hT.low h1) hW (by omega) s t hs ht).mono fun e w2 hp => by
    obtain ⟨r, S', rfl, hM, hT2, hS⟩ := hp
    exact ⟨r, S', rfl, hS, hT2, moveR_wf hW ht hM⟩
  clear h hb hbn hyl hT hR hwa hr hy hyB
  go_enter Try.func9, Try.ntmps9
  go_wp2_with fail
  go_region_held3 (fun w' => w'.cell? ⟨ab, 2, none⟩ = some (.string ⟨s.toArray⟩) ∧ w'.cell? ⟨ab, 3, none⟩ = some (.string ⟨t.toArray⟩)) (first | go_keep | exact ⟨z2, z3⟩) (first
    | (go_at_call 22; refine (XC.out _ (by exact (Below.refl _ _).drew)).mono ?_; rintro e w2 ⟨r, S', rfl, hS, hT2, hwf⟩; obtain ⟨y1, y2⟩ := KS.out _ w2 _ (by exact (Below.refl _ _).drew) hS; obtain ⟨z0, z1, z2, z3⟩ := CE.out w2 y1; have H2 : Hid (Stp who who W.drew w2 ∧ Tb w2 B tb mn mh mk who cb S' ∧ (WF S' ∧ S'.last ≤ S.last + 1 ∧ S'.epoch ≤ S.epoch + 1)) := ⟨hS, hT2, hwf⟩; have HY := Lib.hid y2; clear hT2 hS hwf y1 y2)
    | (go_at_call 33; refine (rExpose0 HY.out s t).mono ?_; rintro e w3 ⟨rfl, rfl⟩))
  all_goals
    go_wp2_with fail
    go_ret
    exact ⟨⟨_, rfl⟩, FIN.out _ _ _ _ _ _ (by exact (Below.refl _ _).drew) H2.out.1 H2.out.2.1 (Kp.refl _ _) H2.out.2.2⟩
end
end Go.Proofs.Ytbbbenjakjejmaa
