/- The reference's inner and Find. -/
import Derived.Test.YtcaifihdbcjakaaGreatVR4
import Derived.Deep.RegionHeld3
import Derived.Test.YtcaifihdbcjakaaGreatVFirst
namespace Go.Proofs.YtcaifihdbcjakaaGreat
set_option linter.unusedVariables false
set_option linter.unusedSimpArgs false
open Go.RowKit

/-- What 'inner' gives. -/
def InnRes (B : Nat) (w : World) (c : Nat) (kv cv ofv : Value) (K : List (Bs × Nat)) (idx : Bs) (e : Ending) (w' : World) : Prop :=
  ∃ d kv' cv' K', e = .returned (fndV d true (some c)) ∧ Cel B w' c kv' cv' ofv K' ∧ Kp (c :: kv.ownBlock.toList ++ cv.ownBlock.toList) w w' ∧ (idx, d) ∈ K' ∧ ((idx, d) ∈ K ∧ K' = K ∧ kv' = kv ∧ cv' = cv ∧ Kp [] w w' ∨ K' = K ++ [(idx, d)] ∧ (∀ t ∈ K, t.1 ≠ idx) ∧ w.heap.size ≤ d)

theorem cel_after {B : Nat} {w w' : World} {c : Nat} {kv cv ofv : Value} {K : List (Bs × Nat)} (h : Cel B w c kv cv ofv K) (hk : Kp [] w w') : Cel B w' c kv cv ofv K := h.keep hk (by simp) (by simp) (by simp) (by simp)

theorem cel_dom {B : Nat} {w : World} {c : Nat} {kv cv ofv : Value} {K : List (Bs × Nat)} (h : Cel B w c kv cv ofv K) : ∀ d ∈ c :: kv.ownBlock.toList ++ cv.ownBlock.toList, d < w.heap.size ∧ B ≤ d := by
  intro d hd
  simp only [List.cons_append, List.mem_cons, List.mem_append, Option.mem_toList] at hd
  rcases hd with rfl | hd | hd
  · exact ⟨(Array.getElem?_eq_some_iff.1 h.blk).1, h.lo⟩
  · obtain ⟨h1, cur, hc⟩ := ownsRow_type h.ko d hd; exact ⟨(Array.getElem?_eq_some_iff.1 hc).1, h1⟩
  · obtain ⟨h1, cur, hc⟩ := ownsRow_type h.co d hd; exact ⟨(Array.getElem?_eq_some_iff.1 hc).1, h1⟩

abbrev bx1 (c : Nat) : Obj := .cells #[.pointer (some ⟨c, 0, none⟩), .bool false, .bool false, .pointer none] 90 (0, 0)
abbrev bx0 : Obj := .cells #[.pointer none, .bool false, .bool false, .pointer none] 90 (0, 0)
theorem two_kept {w W w1 : World} {a b : Obj} {D : List Nat} (hW : W.heap = ((w.alloc a).alloc b).heap) (hD : ∀ d ∈ D, d < w.heap.size) (hk : Kp D W w1) : w1.heap[w.heap.size]? = some a ∧ w1.heap[w.heap.size + 1]? = some b := by
  have hs : W.heap.size = w.heap.size + 2 := by rw [hW]; simp
  constructor
  · refine (hk.block _ (by omega) (fun h => by have := hD _ h; omega)).trans ?_
    rw [hW, Below.heap_alloc _ _ _ (by simp)]; exact heap_alloc_new w a
  · refine (hk.block _ (by omega) (fun h => by have := hD _ h; omega)).trans ?_
    rw [hW]; exact new1 w a b

def InnMid (B : Nat) (w W : World) (c : Nat) (kv cv ofv : Value) (K : List (Bs × Nat)) (idx : Bs) (e : Ending) (w1 : World) : Prop :=
  ∃ d, e = .returned (.pointer (some ⟨d, 0, none⟩)) ∧ Hid (AtRes B W c kv cv ofv K idx e w1) ∧ w1.heap[w.heap.size]? = some (bx1 c) ∧ w1.heap[w.heap.size + 1]? = some bx0

theorem at_boxed {B : Nat} {w : World} {c : Nat} {kv cv ofv : Value} {K : List (Bs × Nat)} (hB : B ≤ w.heap.size) (h : Cel B w c kv cv ofv K) (hK : K.length ≤ 100) {idx : Bs} (W : World) (hW : W.heap = ((w.alloc (bx1 c)).alloc bx0).heap) (hk : Kp [] w W) :
    Calls Tryz.prog 104 #[.pointer (some ⟨c, 0, none⟩), .string ⟨idx.toArray⟩, .bool true] W fun e w' => InnMid B w W c kv cv ofv K idx e w' := by
  refine (At_any (Nat.le_trans hB hk.size) (cel_after h hk) hK).mono ?_
  intro e w1 hr
  have hr0 := hr
  obtain ⟨d, kv1, cv1, K1, rfl, hc1, hkp1, hm1, hcase⟩ := hr0
  have hkk := two_kept (w := w) hW (fun d hd => (cel_dom h d hd).1) hkp1
  exact ⟨d, rfl, hr, hkk.1, hkk.2⟩

theorem inn_end {B : Nat} {w W w1 w2 : World} {c d : Nat} {kv cv ofv : Value} {K : List (Bs × Nat)} {idx : Bs} (h : Cel B w c kv cv ofv K) (hk : Kp [] w W) (hr : AtRes B W c kv cv ofv K idx (.returned (.pointer (some ⟨d, 0, none⟩))) w1) (h2 : w1.heap[w.heap.size + 1]? = some bx0) (hq : Kp [w.heap.size + 1] w1 w2) :
    InnRes B w c kv cv ofv K idx (.returned (fndV d true (some c))) w2 := by
  obtain ⟨d', kv1, cv1, K1, hd, hc1, hkp1, hm1, hcase⟩ := hr
  cases hd
  have hc2 : Cel B w2 c kv1 cv1 ofv K1 := by
    refine hc1.keep hq ?_ (fun b hb => ?_) (fun b hb => ?_) (fun t ht => ?_)
    · simpa using ne_of_type hc1.blk h2 (by decide)
    · obtain ⟨_, cur, hc⟩ := ownsRow_type hc1.ko b hb; simpa using ne_of_type hc h2 (by decide)
    · obtain ⟨_, cur, hc⟩ := ownsRow_type hc1.co b hb; simpa using ne_of_type hc h2 (by decide)
    · simpa using ne_of_type (hc1.el t ht) h2 (by decide)
  refine ⟨d, kv1, cv1, K1, rfl, hc2, ((hk.mono (D' := c :: kv.ownBlock.toList ++ cv.ownBlock.toList) (by simp)).trans hkp1 (fun d hd => .inl hd)).trans hq (by simp), hm1, ?_⟩
  rcases hcase with ⟨q1, rfl, rfl⟩ | ⟨q1, q2, q3⟩
  · refine .inl ⟨q1, rfl, ?_, ?_, hk.trans hq (by simp)⟩
    · have := hc1.blk.symm.trans (cel_after h hk).blk; simp at this; exact this.1
    · have := hc1.blk.symm.trans (cel_after h hk).blk; simp at this; exact this.2
  · exact .inr ⟨q1, q2, Nat.le_trans hk.size q3⟩

set_option maxRecDepth 100000 in
set_option maxHeartbeats 1600000 in
theorem inner_any {B : Nat} {w : World} {c : Nat} {kv cv ofv : Value} {K : List (Bs × Nat)} (hB : B ≤ w.heap.size) (h : Cel B w c kv cv ofv K) (hK : K.length ≤ 100) {idx : Bs} :
    Calls Tryz.prog 77 #[fndV c false none, .string ⟨idx.toArray⟩] w fun e w' => InnRes B w c kv cv ofv K idx e w' := by
  obtain ⟨k0, k1, _, _, _, _, cf, hcl⟩ := cell9 h.blk
  have HA := Lib.hid (fun W => at_boxed (idx := idx) hB h hK W)
  have HH := Lib.hid h
  clear h cf
  go_enter Tryz.func77, Tryz.ntmps77
  go_wp2_with fail
  go_region_held3 (fun w' => w'.cell? ⟨w.heap.size, 0, none⟩ = some (.pointer (some ⟨c, 0, none⟩))) (first | go_keep | exact p0) ((go_at_call 104; go_loud (refine (HA.out _ (by rfl) (by exact (((Kp.refl [] w).alloc _).alloc _).drew)).mono ?_; rintro e w1 ⟨d, rfl, HR, h1, h2⟩; obtain ⟨⟨p0, p1, p2, p3⟩, _, hz1⟩ := cells4 h1; obtain ⟨⟨q0, q1, q2, q3⟩, ⟨f0, f1, f2, f3⟩, hz2⟩ := cells4 h2; have H2 := Lib.hid h2; clear h1 h2)))
  go_wp2_with fail
  exact bodyPost_ret (v := fndV d true (some c)) (by simp [results, Tryz.results77, go_sem, q0, q1, q2, q3, hz2]) rfl (inn_end HH.out (((Kp.refl [] w).alloc _).alloc _).drew HR.out H2.out (((((Kp.refl _ w1).setCell _ _ _ (by simp)).setCell _ _ _ (by simp)).setCell _ _ _ (by simp)).setCell _ _ _ (by simp)))
end Go.Proofs.YtcaifihdbcjakaaGreat
