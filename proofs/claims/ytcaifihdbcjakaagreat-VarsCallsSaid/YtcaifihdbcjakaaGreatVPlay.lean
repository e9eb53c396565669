/- 'play' of the statements on layer 15: an act upon a sound space and upon one of the reference's that was just made. -/
import Derived.Test.YtcaifihdbcjakaaGreatVR10
import Derived.Test.YtcaifihdbcjakaaGreatVAwake
import Derived.Deep.RegionHeld3
namespace Go.Proofs.YtcaifihdbcjakaaGreat
set_option linter.unusedVariables false
set_option linter.unusedSimpArgs false
open Go.RowKit
variable {N : Nat}

theorem Sp.more1 {S : St} {x sm : Nat} {g : Int → Option Nat} (h : Sp N S x sm g) : Sp (N + 1) S x sm g := by
  refine ⟨h.wf, h.smap, ?_⟩
  obtain ⟨cs, rm, r, h1, h2, h3⟩ := h.space
  exact ⟨cs, rm, r, h1, h2, fun b n c e => ⟨by have := (h3 b n c e).1; omega, (h3 b n c e).2⟩⟩
theorem ActRes.more1 {B : Nat} {S : St} {w w' : World} {x sm : Nat} (h : ActRes N B S w x sm w') : ActRes (N + 1) B S w x sm w' := by
  obtain ⟨S', g', hG, hp⟩ := h
  exact ⟨S', g', hG, hp.more1⟩
theorem SetRes.act {B : Nat} {S : St} {w w' : World} {x sm : Nat} {g : Int → Option Nat} {i : Int} {word val : Bs} {e : Ending} (h : SetRes N B S w x sm g i word val e w') : (∃ r, e = .returned (.int .i64 r)) ∧ ActRes (N + 1) B S w x sm w' := by
  obtain ⟨r, S', rfl, hG, hp, _⟩ := h
  exact ⟨⟨r, rfl⟩, (show ActRes N B S w x sm w' from ⟨S', g, hG, hp⟩).more1⟩
theorem LinkRes.act {B : Nat} {S : St} {w w' : World} {x sm : Nat} {g : Int → Option Nat} (hp : Sp N S x sm g) {i j : Int} {word target : Bs} {e : Ending} (h : LinkRes N B S w x sm g i j word target e w') : (∃ r, e = .returned (.int .i64 r)) ∧ ActRes (N + 1) B S w x sm w' := by
  obtain ⟨r, rfl, ⟨_, _, hG⟩ | ⟨_, S1, c, n, m, f, hp1, _, _, hf, hgi, hm, hn, _, _, hG⟩⟩ := h
  · exact ⟨⟨r, rfl⟩, (show ActRes N B S w x sm w' from ⟨S, g, hG, hp⟩).more1⟩
  · obtain ⟨k, v, e', p, hc⟩ := findC_cell hp1.wf hp1.smap (i := j) (word := target) (c := c) (by rw [hf])
    rw [linkS_eq] at hG
    exact ⟨⟨r, rfl⟩, (show ActRes N B S w x sm w' from ⟨_, g, hG, link_sp hp1 hm hn hc⟩).more1⟩

/-- Types that no block of a space has. -/
def NotX (t : TypeId) : Prop := t ≠ 78 ∧ t ≠ 69 ∧ t ≠ 3 ∧ t ≠ 51
theorem Rep.notX {B : Nat} {w : World} {S : St} (h : Rep B w S) {b : Nat} (hb : Typed NotX w b) : S b = none := by
  obtain ⟨cur, t, ht, h1, h2, h3, h4⟩ := hb
  cases hk : S b with
  | none => rfl
  | some k =>
    exfalso
    have hh := (h b k hk).2
    cases k with
    | cell k v e p => obtain ⟨n, hh⟩ := hh; rw [ht] at hh; simp at hh; exact h1 hh.2
    | emap f => obtain ⟨cur', n', hh, _⟩ := hh; rw [ht] at hh; simp at hh
    | name c l => rw [show w.heap[b]? = _ from hh] at ht; simp at ht; exact h2 ht.2.symm
    | nmap f => obtain ⟨cur', n', hh, _⟩ := hh; rw [ht] at hh; simp at hh
    | smap f => obtain ⟨cur', n', hh, _⟩ := hh; rw [ht] at hh; simp at hh
    | rmap f => obtain ⟨cur', n', hh, _⟩ := hh; rw [ht] at hh; simp at hh
    | row l c => obtain ⟨cur', hh, _⟩ := hh; rw [ht] at hh; simp at hh; exact h3 hh.2
    | space a b c => obtain ⟨n, hh⟩ := hh; rw [ht] at hh; simp at hh; exact h4 hh.2

theorem Rep.kp {B : Nat} {w w' : World} {S : St} (h : Rep B w S) {D : List Nat} (hk : Kp D w w') (hD : ∀ d ∈ D, S d = none) : Rep B w' S := fun b k hb =>
  ⟨(h b k hb).1, (h b k hb).2.congr (hk.block b (h b k hb).2.lt (fun hm => by rw [hD b hm] at hb; cases hb))⟩

abbrev actB (k a b : Int) (s t : Bs) : Obj := .cells #[.int .i64 k, .int .i64 a, .int .i64 b, .string ⟨s.toArray⟩, .string ⟨t.toArray⟩] 25 (0, 0)

/-- Between the two acts. -/
structure XMid (N B : Nat) (w : World) (o : Obj) (x sm y row sc : Nat) (w1 : World) : Prop where
  st : ∃ S' g', Rep B w1 S' ∧ Sp (N + 1) S' x sm g'
  bel : Below B w w1
  box : w1.heap[w.heap.size]? = some o
  ns : Ns B w1 y row sc nilS []
  lo : B ≤ w1.heap.size
def PlayRes (N B : Nat) (w : World) (x sm : Nat) (w' : World) : Prop := ∃ S' g', Rep B w' S' ∧ Sp (N + 1) S' x sm g' ∧ Below B w w'

theorem ns_typed {B : Nat} {w : World} {y row sc : Nat} {nv : Value} {L : List (Bs × Nat × Nat)} (h : Ns B w y row sc nv L) {T : TypeId → Prop} (h1 : T 63) (h2 : T 57) (h3 : T 60) : ∀ d ∈ [y, row, sc], Typed T w d := by
  intro d hd
  simp only [List.mem_cons, List.not_mem_nil, or_false] at hd
  rcases hd with rfl | rfl | rfl
  · exact ⟨_, _, h.spc.sp, h1⟩
  · exact ⟨_, _, h.spc.ro, h2⟩
  · exact ⟨_, _, h.spc.sc, h3⟩
theorem xSp : NotX 63 := ⟨by decide, by decide, by decide, by decide⟩
theorem xRo : NotX 57 := ⟨by decide, by decide, by decide, by decide⟩
theorem xSc : NotX 60 := ⟨by decide, by decide, by decide, by decide⟩
theorem xNm : NotX 104 := ⟨by decide, by decide, by decide, by decide⟩

theorem xmid {B : Nat} {w W w1 : World} {S : St} {x sm y row sc : Nat} {k a b : Int} {s t : Bs} (hB : B ≤ w.heap.size) (hR : Rep B w S) (hns : Ns B w y row sc nilS []) (hk : Kp [] w W) (ho : W.heap[w.heap.size]? = some (actB k a b s t)) (hA : ActRes (N + 1) B S W x sm w1) :
    XMid N B w (actB k a b s t) x sm y row sc w1 := by
  obtain ⟨S', g', hG, hp⟩ := hA
  have hW := hns.keep hk
  have hT := fun d hd => (hR.kp hk (by simp)).notX (ns_typed hW xSp xRo xSc d hd)
  refine ⟨⟨S', g', hG.rep, hp⟩, (hk.below hB (by simp)).trans hG.below, (hG.keep _ (Array.getElem?_eq_some_iff.1 ho).1 (hR.free (Nat.le_refl _))).trans ho, ?_, Nat.le_trans (Nat.le_trans hB hk.size) hG.below.size⟩
  refine ⟨⟨?_, ?_, ?_⟩, hW.lo, World.ownsRow_nil _ _ _ _, by simp⟩
  · exact (hG.keep _ hW.spc.lt.1 (hT _ (by simp))).trans hW.spc.sp
  · exact (hG.keep _ hW.spc.lt.2.1 (hT _ (by simp))).trans hW.spc.ro
  · exact (hG.keep _ hW.spc.lt.2.2 (hT _ (by simp))).trans hW.spc.sc

theorem xend {B : Nat} {w w1 w2 : World} {x sm y row sc : Nat} {k a b : Int} {s t : Bs} (hM : XMid N B w (actB k a b s t) x sm y row sc w1) {D : List Nat} (hk : Kp D w1 w2) (hD : ∀ d ∈ D, d ∈ [y, row, sc]) :
    Hid (PlayRes N B w x sm w2) ∧ w2.heap[w.heap.size]? = some (actB k a b s t) := by
  obtain ⟨⟨S', g', hR, hp⟩, hb, hbox, hns, hlo⟩ := hM
  refine ⟨⟨S', g', hR.kp hk (fun d hd => hR.notX (ns_typed hns xSp xRo xSc d (hD d hd))), hp, hb.trans (hk.below hlo (fun d hd => ?_))⟩, (hk.block _ (Array.getElem?_eq_some_iff.1 hbox).1 (fun hm => ?_)).trans hbox⟩
  · have := hD d hd
    simp only [List.mem_cons, List.not_mem_nil, or_false] at this
    rcases this with rfl | rfl | rfl
    · exact hns.lo.1
    · exact hns.lo.2.1
    · exact hns.lo.2.2
  · obtain ⟨cur, t', h1, h2⟩ := ns_typed (T := (· ≠ 25)) hns (by decide) (by decide) (by decide) _ (hD _ hm)
    rw [hbox] at h1; simp at h1; exact h2 h1.2.symm

theorem cells5 {w : World} {b : Nat} {x0 x1 x2 x3 x4 : Value} {t : TypeId} (h : w.heap[b]? = some (.cells #[x0, x1, x2, x3, x4] t (0, 0))) :
    (w.cell? ⟨b, 0, none⟩ = some x0 ∧ w.cell? ⟨b, 1, none⟩ = some x1 ∧ w.cell? ⟨b, 2, none⟩ = some x2 ∧ w.cell? ⟨b, 3, none⟩ = some x3 ∧ w.cell? ⟨b, 4, none⟩ = some x4) ∧ b < w.heap.size := by
  refine ⟨⟨?_, ?_, ?_, ?_, ?_⟩, (Array.getElem?_eq_some_iff.1 h).1⟩
  all_goals (simp only [World.cell?, h]; rfl)

def PlayPost (N B : Nat) (w : World) (x sm : Nat) (e : Ending) (w' : World) : Prop := (∃ b : Bool, e = .returned (.bool b)) ∧ PlayRes N B w x sm w'

set_option maxRecDepth 100000 in
set_option maxHeartbeats 1600000 in
theorem play_push {B : Nat} {w : World} {S : St} {x sm y row sc : Nat} {g : Int → Option Nat} (hN : N ≤ 100000) (hB : B ≤ w.heap.size) (hR : Rep B w S) (hp : Sp N S x sm g) (hns : Ns B w y row sc nilS []) (a b : Int) (s t : Bs) :
    Calls Tryz.prog 8 #[.pointer (some ⟨x, 0, none⟩), .pointer (some ⟨y, 0, none⟩), .agg #[.int .i64 0, .int .i64 a, .int .i64 b, .string ⟨s.toArray⟩, .string ⟨t.toArray⟩]] w fun e w' => PlayPost N B w x sm e w' := by
  have HX : Hid (∀ W, Kp [] w W → W.heap[w.heap.size]? = some (actB 0 a b s t) → Calls Tryz.prog 11 #[.pointer (some ⟨x, 0, none⟩)] W fun e w1 => (∃ i, e = .returned (.int .i64 i)) ∧ Hid (XMid N B w (actB 0 a b s t) x sm y row sc w1)) := fun W hk ho =>
    (Push_any hN (Nat.le_trans hB hk.size) (hR.kp hk (by simp)) hp).mono fun e w1 ⟨hi, hA⟩ => ⟨hi, xmid hB hR hns hk ho hA⟩
  have HY : Hid (∀ w1, XMid N B w (actB 0 a b s t) x sm y row sc w1 → Calls Tryz.prog 20 #[.pointer (some ⟨y, 0, none⟩)] w1 fun e w2 => (∃ i, e = .returned (.int .i64 i)) ∧ Hid (PlayRes N B w x sm w2) ∧ w2.heap[w.heap.size]? = some (actB 0 a b s t)) := fun w1 hM =>
    (rPush_any hM.ns.spc).mono fun e w2 ⟨hi, hk⟩ => ⟨hi, xend hM hk (by simp)⟩
  clear hR hp hns
  go_enter Tryz.func8, Tryz.ntmps8
  go_wp2_with (first | (go_at_call 11; refine (HX.out _ (by exact (Kp.refl [] w).alloc _) (by exact heap_alloc_new w _)).mono ?_; rintro e w1 ⟨⟨i, rfl⟩, HM⟩) | (go_at_call 20; refine (HY.out _ HM.out).mono ?_; rintro e w2 ⟨⟨j, rfl⟩, HP, _⟩))
  go_ret
  exact ⟨⟨_, rfl⟩, HP.out⟩
end Go.Proofs.YtcaifihdbcjakaaGreat
