/- The reference's Find, walked. -/
import Derived.Test.YtcaifihdbcjakaaGreatVR5
namespace Go.Proofs.YtcaifihdbcjakaaGreat
set_option linter.unusedVariables false
set_option linter.unusedSimpArgs false
open Go.RowKit

abbrev TF : TypeId := 90
/-- What was found, boxed, stays. -/
def KeepF (w w' : World) : Prop := ∀ (b : Nat) (cur : Array Value), w.heap[b]? = some (Obj.cells cur TF (0, 0)) → w'.heap[b]? = some (Obj.cells cur TF (0, 0))
/-- Blocks of that type alone are written, and none that is elder than n. -/
def WroteF (n : Nat) (w w' : World) : Prop := ∃ D, (∀ d ∈ D, n ≤ d ∧ ∃ cur : Array Value, w.heap[d]? = some (Obj.cells cur TF (0, 0))) ∧ Kp D w w'

theorem keepF_of_kp {w w' : World} {D : List Nat} (hk : Kp D w w') (hD : ∀ d ∈ D, ∀ cur : Array Value, w.heap[d]? ≠ some (Obj.cells cur TF (0, 0))) : KeepF w w' := fun b cur hb =>
  (hk.block b (Array.getElem?_eq_some_iff.1 hb).1 (fun h => hD b h cur hb)).trans hb

def FEnt (P : World → World → Nat → Prop) (s1 : Bs) (W : World) (e : Ending) (w1 : World) : Prop := ∃ nm own, e = .returned (.pointer (some ⟨nm, 0, none⟩)) ∧ w1.heap[nm]? = some (nmB s1 own) ∧ KeepF W w1 ∧ W.heap.size ≤ w1.heap.size ∧ Hid (P W w1 own)
def FInn (R : World → World → Nat → Nat → Prop) (own : Nat) (w2 : World) (e : Ending) (w3 : World) : Prop := ∃ d, e = .returned (fndV d true (some own)) ∧ KeepF w2 w3 ∧ w2.heap.size ≤ w3.heap.size ∧ Hid (R w2 w3 own d)

def FRes0 (P : World → World → Nat → Prop) (w : World) (e : Ending) (w' : World) : Prop := ∃ W w1 own, Kp [] w W ∧ P W w1 own ∧ e = .returned (.tuple #[fndV own false none, .int .i64 0]) ∧ WroteF w.heap.size w1 w'
def FRes1 (P : World → World → Nat → Prop) (R : World → World → Nat → Nat → Prop) (w : World) (e : Ending) (w' : World) : Prop := ∃ W w1 own w2 w3 d, Kp [] w W ∧ P W w1 own ∧ Kp [] w1 w2 ∧ R w2 w3 own d ∧ e = .returned (.tuple #[fndV d true (some own), .int .i64 0]) ∧ WroteF w.heap.size w3 w'

theorem eq_scp_nil (b : Nat) (W : World) : (binOp .eql 57 (.pointer (some ⟨b, 0, none⟩)) (.pointer none)).run Tryz.prog W = .ok (.bool false) W := by kernel_rfl

set_option maxRecDepth 100000 in
set_option maxHeartbeats 1600000 in
theorem rFind_no {w : World} {y row sc : Nat} {nv : Value} (h : Sc w y row sc nv) {n : Int} (hn : (Lit.int .i64 n).wf = true) (hn0 : n ≠ 0) (word : Bs) :
    Calls Tryz.prog 52 #[.pointer (some ⟨y, 0, none⟩), .int .i64 n, .string ⟨word.toArray⟩] w fun e w' => e = .returned (.tuple #[.agg #[.pointer none, .bool false, .bool false, .pointer none], .int .i64 7]) ∧ Below w.heap.size w w' := by
  have HA : Hid (∀ o, Calls Tryz.prog 58 #[.pointer (some ⟨y, 0, none⟩), .int .i64 n] (w.alloc o) fun e w' => e = .returned (.pointer none) ∧ w.alloc o = w') := fun o => by
    have := rat_any (h.keep ((Kp.refl [] w).alloc o) (by simp) (by simp) (by simp)) hn
    rwa [if_neg hn0] at this
  have heq := eq_sc_nil
  clear h
  go_enter Tryz.func52, Tryz.ntmps52
  go_wp2_with (go_at_call 58; refine (HA.out _).mono ?_; rintro e w1 ⟨rfl, rfl⟩)
  exact bodyPost_ret (v := .tuple #[.agg #[.pointer none, .bool false, .bool false, .pointer none], .int .i64 7]) (by simp [results, Tryz.results52, go_sem]) rfl ⟨rfl, (Below.refl _ w).alloc (Nat.le_refl _) _⟩

theorem keep_below {w w' : World} {b : Nat} {o : Obj} (h : w.heap[b]? = some o) (hb : Below w.heap.size w w') : w'.heap[b]? = some o := (hb.block b (Array.getElem?_eq_some_iff.1 h).1).trans h
theorem keep_alloc {w : World} {b : Nat} {o o' : Obj} (h : w.heap[b]? = some o) : (w.alloc o').heap[b]? = some o := (Below.heap_alloc _ _ _ (Array.getElem?_eq_some_iff.1 h).1).trans h
theorem keep_drewN {w : World} {b : Nat} {o : Obj} (h : w.heap[b]? = some o) (m : Nat) : (w.drewN m).heap[b]? = some o := by simpa using h

set_option maxRecDepth 100000 in
set_option maxHeartbeats 1600000 in
theorem rFind_plain {w : World} {y row sc : Nat} {nv : Value} (h : Sc w y row sc nv) {word : Bs} (hw : word.length ≤ 1000000) {s1 s2 : Bs} (hs : splitC word = (s1, s2, false)) {P : World → World → Nat → Prop}
    (hE : ∀ W, Kp [] w W → Calls Tryz.prog 59 #[.pointer (some ⟨sc, 0, none⟩), .string ⟨s1.toArray⟩] W fun e w1 => FEnt P s1 W e w1) :
    Calls Tryz.prog 52 #[.pointer (some ⟨y, 0, none⟩), .int .i64 0, .string ⟨word.toArray⟩] w fun e w' => FRes0 P w e w' := by
  have HA : Hid (∀ o, Calls Tryz.prog 58 #[.pointer (some ⟨y, 0, none⟩), .int .i64 0] (w.alloc o) fun e w' => e = .returned (.pointer (some ⟨sc, 0, none⟩)) ∧ w.alloc o = w') := fun o => rat_any (h.keep ((Kp.refl [] w).alloc o) (by simp) (by simp) (by simp)) (by decide)
  have HS := Lib.hid (fun W => rSplit_any word hw W)
  rw [hs] at HS
  have HE := Lib.hid hE
  have heq := fun W => eq_scp_nil sc W
  clear h hE hs
  go_enter Tryz.func52, Tryz.ntmps52
  go_wp2_with (first | (go_at_call 58; refine (HA.out _).mono ?_; rintro e w1 ⟨rfl, rfl⟩) | (go_at_call 76; refine (HS.out _).mono ?_; rintro e w1 ⟨rfl, m, rfl⟩) | (go_at_call 59; refine (HE.out _ (by exact ((Kp.refl [] w).alloc bx0).drewN m)).mono ?_; rintro e w1 ⟨nm, own, rfl, hnm, hkf, hsz1, HP⟩; have hr := hkf w.heap.size _ (keep_drewN (heap_alloc_new w bx0) m); have HR := Lib.hid hr; have HNM := Lib.hid hnm; have HSZ := Lib.hid hsz1; clear hr hnm hkf hsz1) | (go_at_call 70; refine (found_any HNM.out).mono ?_; rintro e w2 ⟨rfl, hb2⟩; obtain ⟨⟨p0, p1, p2, p3⟩, ⟨f0, f1, f2, f3⟩, hz⟩ := cells4 (keep_below HR.out hb2); have HB2 := Lib.hid hb2; clear hb2))
  have HWF : Hid (WroteF w.heap.size w1 (((((w2.setCell ⟨w.heap.size, 0, none⟩ (.pointer (some ⟨own, 0, none⟩))).setCell ⟨w.heap.size, 1, none⟩ (.bool false)).setCell ⟨w.heap.size, 2, none⟩ (.bool false)).setCell ⟨w.heap.size, 3, none⟩ (.pointer none)).alloc (.cells #[.pointer (some ⟨own, 0, none⟩), .bool false, .bool false, .pointer none] 90))) :=
    ⟨[w.heap.size], by intro d hd; simp at hd; subst hd; exact ⟨Nat.le_refl _, _, HR.out⟩, ((((((kp_of_below HB2.out).mono (D' := [w.heap.size]) (by simp)).setCell _ _ _ (by simp)).setCell _ _ _ (by simp)).setCell _ _ _ (by simp)).setCell _ _ _ (by simp)).alloc _⟩
  exact bodyPost_ret (v := .tuple #[fndV own false none, .int .i64 0]) (by simp [results, Tryz.results52, go_sem, p0, p1, p2, p3, hz]) rfl ⟨_, w1, own, ((Kp.refl [] w).alloc bx0).drewN m, HP.out, rfl, HWF.out⟩

set_option maxRecDepth 100000 in
set_option maxHeartbeats 1600000 in
theorem rFind_el {w : World} {y row sc : Nat} {nv : Value} (h : Sc w y row sc nv) {word : Bs} (hw : word.length ≤ 1000000) {s1 s2 : Bs} (hs : splitC word = (s1, s2, true)) {P : World → World → Nat → Prop} {R : World → World → Nat → Nat → Prop}
    (hE : ∀ W, Kp [] w W → Calls Tryz.prog 59 #[.pointer (some ⟨sc, 0, none⟩), .string ⟨s1.toArray⟩] W fun e w1 => FEnt P s1 W e w1)
    (hI : ∀ W w1 w2 own, P W w1 own → Kp [] w1 w2 → Calls Tryz.prog 77 #[fndV own false none, .string ⟨s2.toArray⟩] w2 fun e w3 => FInn R own w2 e w3) :
    Calls Tryz.prog 52 #[.pointer (some ⟨y, 0, none⟩), .int .i64 0, .string ⟨word.toArray⟩] w fun e w' => FRes1 P R w e w' := by
  have HA : Hid (∀ o, Calls Tryz.prog 58 #[.pointer (some ⟨y, 0, none⟩), .int .i64 0] (w.alloc o) fun e w' => e = .returned (.pointer (some ⟨sc, 0, none⟩)) ∧ w.alloc o = w') := fun o => rat_any (h.keep ((Kp.refl [] w).alloc o) (by simp) (by simp) (by simp)) (by decide)
  have HS := Lib.hid (fun W => rSplit_any word hw W)
  rw [hs] at HS
  have HE := Lib.hid hE
  have HI := Lib.hid hI
  have heq := fun W => eq_scp_nil sc W
  clear h hE hI hs
  go_enter Tryz.func52, Tryz.ntmps52
  go_wp2_with (first | (go_at_call 58; refine (HA.out _).mono ?_; rintro e w1 ⟨rfl, rfl⟩) | (go_at_call 76; refine (HS.out _).mono ?_; rintro e w1 ⟨rfl, m, rfl⟩) | (go_at_call 59; refine (HE.out _ (by exact ((Kp.refl [] w).alloc bx0).drewN m)).mono ?_; rintro e w1 ⟨nm, own, rfl, hnm, hkf, hsz1, HP⟩; have hr := hkf w.heap.size _ (keep_drewN (heap_alloc_new w bx0) m); have HR := Lib.hid hr; have HNM := Lib.hid hnm; have HSZ : Hid (w.heap.size ≤ w1.heap.size) := (by simp at hsz1; show _ ≤ _; omega); clear hr hnm hkf hsz1) | (go_at_call 70; refine (found_any HNM.out).mono ?_; rintro e w2 ⟨rfl, hb2⟩; obtain ⟨⟨p0, p1, p2, p3⟩, ⟨f0, f1, f2, f3⟩, hz⟩ := cells4 (keep_below HR.out hb2); have HB2 := Lib.hid hb2; clear hb2) | (go_at_call 77; refine (HI.out _ _ _ _ HP.out (by exact (kp_of_below HB2.out).alloc _)).mono ?_; rintro e w3 ⟨d, rfl, hkf, hsz3, HD⟩; have hr0 := hkf w.heap.size _ (keep_alloc (keep_below HR.out HB2.out)); have hr1 := hkf w2.heap.size _ (heap_alloc_new w2 (bx1 own)); obtain ⟨⟨q0, q1, q2, q3⟩, ⟨g0, g1, g2, g3⟩, hz3⟩ := cells4 hr0; obtain ⟨⟨r0, r1, r2, r3⟩, ⟨e0, e1, e2, e3⟩, hy3⟩ := cells4 hr1; have HR0 := Lib.hid hr0; have HR1 := Lib.hid hr1; have hne : w.heap.size ≠ w2.heap.size := (Nat.ne_of_lt hz); clear hr0 hr1 hkf hsz3))
  have HWF : Hid (∀ w', Kp [w.heap.size, w2.heap.size] w3 w' → WroteF w.heap.size w3 w') := fun w' hk => ⟨_, by
    intro d hd
    simp only [List.mem_cons, List.not_mem_nil, or_false] at hd
    rcases hd with rfl | rfl
    · exact ⟨Nat.le_refl _, _, HR0.out⟩
    · exact ⟨by have := HB2.out.size; have := HSZ.out; omega, _, HR1.out⟩, hk⟩
  exact bodyPost_ret (v := .tuple #[fndV d true (some own), .int .i64 0]) (by simp [results, Tryz.results52, go_sem, q0, q1, q2, q3, hz3]) rfl ⟨_, w1, own, _, w3, d, ((Kp.refl [] w).alloc bx0).drewN m, HP.out, (kp_of_below HB2.out).alloc _, HD.out, rfl, HWF.out _ ((((((((((Kp.refl _ w3).setCell _ _ _ (by simp)).setCell _ _ _ (by simp)).setCell _ _ _ (by simp)).setCell _ _ _ (by simp)).setCell _ _ _ (by simp)).setCell _ _ _ (by simp)).setCell _ _ _ (by simp)).setCell _ _ _ (by simp)))⟩
end Go.Proofs.YtcaifihdbcjakaaGreat
