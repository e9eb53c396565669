/- Carry; three pipes. -/
import Derived.Test.YtafohdmhjilleaaDoorPTwo
import Derived.Test.YtafohdmhjilleaaDoorPGoesW
import Derived.LaidEqlPtr
namespace Go.Proofs.YtafohdmhjilleaaDoor
set_option linter.unusedVariables false
set_option linter.unusedSimpArgs false
open Go.RowKit Go.Shelf

theorem infoPipe : (Tryd.prog.info? 52).map (·.size) = some 13 := by kernel_rfl
theorem ptr_two {W : World} {b1 b2 : Nat} {p q : PP} (h1 : PAt W b1 p) (h2 : PAt W b2 q) (hne : b1 ≠ b2) : (binOp .eql 23 (.pointer (some ⟨b1, 0, none⟩)) (.pointer (some ⟨b2, 0, none⟩))).run Tryd.prog W = .ok (.bool false) W := by
  obtain ⟨j, hj, hjs⟩ := Option.map_eq_some_iff.1 infoPipe
  exact run_eql_ptr_other W Tryd.underlying23 hj (by rw [hjs]; decide) (by intro e; exact hne (by cases e; rfl)) h1 h2

/-- A pipe and another one. -/
structure Pair (W0 : World) (b1 : Nat) (p : PP) (b3 : Nat) (t : PP) (W : World) : Prop where
  p1 : PAt W b1 p
  p3 : PAt W b3 t
  max : MaxIs W
  kp : Kp [b1, b3] W0 W
theorem Pair.more {W0 W W' : World} {b1 b3 : Nat} {p t : PP} (h : Pair W0 b1 p b3 t W) (hb : Below W.heap.size W W') : Pair W0 b1 p b3 t W' :=
  ⟨h.p1.below hb h.p1.lt, h.p3.below hb h.p3.lt, h.max.below hb h.max.pos, h.kp.from ((kp_of_below hb).mono (by simp))⟩
theorem Pair.s1 {W0 W W' : World} {b1 b3 : Nat} {p t p' : PP} (h : Pair W0 b1 p b3 t W) (hne : b1 ≠ b3) (h' : PAt W' b1 p') (k : Kp [b1] W W') : Pair W0 b1 p' b3 t W' :=
  ⟨h', h.p3.keep k (by simpa using fun e => hne e.symm), h.max.kp k (by simpa using h.p1.maxne h.max), h.kp.from (k.mono (by simp))⟩
theorem Pair.s3 {W0 W W' : World} {b1 b3 : Nat} {p t t' : PP} (h : Pair W0 b1 p b3 t W) (hne : b1 ≠ b3) (h' : PAt W' b3 t') (k : Kp [b3] W W') : Pair W0 b1 p b3 t' W' :=
  ⟨h.p1.keep k (by simpa using hne), h', h.max.kp k (by simpa using h.p3.maxne h.max), h.kp.from (k.mono (by simp))⟩

set_option maxRecDepth 100000 in
set_option maxHeartbeats 1600000 in
theorem Carry_any {W : World} {b1 b3 : Nat} {p t : PP} (h1 : PAt W b1 p) (h3 : PAt W b3 t) (hM : MaxIs W) (hne : b1 ≠ b3) (n : Int) (hm : isInM p.inm = true) (hr : p.raw.length ≤ 100000) (ho : isOutM t.outm = true) (hl : t.buffer.length + t.gone.length ≤ 1000000) (hf : t.fv = .slice none 0 0) (hfi : t.fin ≤ t.buffer.length) :
    Calls Tryd.prog 24 #[.pointer (some ⟨b1, 0, none⟩), .pointer (some ⟨b3, 0, none⟩), .int .i64 n] W fun e w' => e = .returned (.tuple #[.int .i64 ((bytesL (p.taken n false)).length : Int), .int .i64 0]) ∧ Pair W b1 (p.read n) b3 (t.write (bytesL (p.taken n false))) w' := by
  obtain ⟨_, hle2⟩ := taken_le p n false
  have hlb : (bytesL (p.taken n false)).length = (p.taken n false).length := bytesL_len _
  rw [← hlb] at hle2
  have HT : Hid (∀ W, PAt W b1 p → Calls Tryd.prog 36 #[.pointer (some ⟨b1, 0, none⟩), .int .i64 n, .bool false] W fun e w' => e = .returned (.tuple #[.string ⟨(bytesL (p.taken n false)).toArray⟩, .int .i64 (sumN (p.taken n false) : Int)]) ∧ Below W.heap.size W w') := fun W h => there_any h n false hm (by omega)
  have HR : Hid (∀ W, PAt W b1 p → Calls Tryd.prog 19 #[.pointer (some ⟨b1, 0, none⟩), .int .i64 n] W fun e w' => e = .returned (.tuple #[.string ⟨(bytesL (p.taken n false)).toArray⟩, .int .i64 0]) ∧ PAt w' b1 (p.read n) ∧ Kp [b1] W w') := fun W h => Read_any h n hm (by omega)
  have HW : Hid (∀ W, PAt W b3 t → MaxIs W → Calls Tryd.prog 11 #[.pointer (some ⟨b3, 0, none⟩), .string ⟨(bytesL (p.taken n false)).toArray⟩] W fun e w' => e = .returned (.int .i64 0) ∧ PAt w' b3 (t.write (bytesL (p.taken n false))) ∧ Kp [b3] W w') := fun W h hM => Write_any h hM _ ho (by omega) hl hf hfi
  have hN := fun W b => ptr_nil W b
  have hE := ptr_two h1 h3 hne
  have H0 : Hid (Pair W b1 p b3 t W) := ⟨h1, h3, hM, Kp.refl _ _⟩
  have HN := Lib.hid hne
  clear h1 h3 hM hne hlb hm hr ho hl hf hfi
  generalize bytesL (p.taken n false) = s at *
  generalize t.write s = t' at *
  generalize p.read n = p' at *
  go_enter Tryd.func24, Tryd.ntmps24
  go_wp2_with (first | (go_at_call 36; refine (HT.out _ H0.out.p1).mono ?_; rintro e w1 ⟨rfl, hb1⟩; have H1 := Lib.hid (H0.out.more hb1); clear hb1 hE) | (go_at_call 11; refine (HW.out _ H1.out.p3 H1.out.max).mono ?_; rintro e w2 ⟨rfl, h2, k2⟩; have H2 := Lib.hid (H1.out.s3 HN.out h2 k2); clear h2 k2) | (go_at_call 19; refine (HR.out _ H2.out.p1).mono ?_; rintro e w3 ⟨rfl, h3, k3⟩; have H3 := Lib.hid (H2.out.s1 HN.out h3 k3); clear h3 k3))
  go_ret2
  exact ⟨rfl, H3.out⟩

/-- Three pipes of the call's own. -/
structure At3 (w : World) (b1 : Nat) (p : PP) (b2 : Nat) (q : PP) (b3 : Nat) (t : PP) (W : World) : Prop where
  two : At2 w b1 p b2 q W
  p3 : PAt W b3 t
  l3 : w.heap.size ≤ b3
  n1 : b1 ≠ b3
  n2 : b2 ≠ b3
section
variable {w W W' : World} {b1 b2 b3 : Nat} {p p' q q' t t' : PP}
theorem At3.of (h : At2 w b1 p b2 q W) (h' : At1 W b3 t W') : At3 w b1 p b2 q b3 t W' :=
  ⟨h.more h'.below, h'.pat, Nat.le_trans h.below.size h'.le, fun e => by have := h.p1.lt; have := h'.le; omega, fun e => by have := h.p2.lt; have := h'.le; omega⟩
theorem At3.s1 (h : At3 w b1 p b2 q b3 t W) (h' : PAt W' b1 p') (k : Kp [b1] W W') : At3 w b1 p' b2 q b3 t W' :=
  ⟨h.two.s1 h' k, h.p3.keep k (by simpa using fun e => h.n1 e.symm), h.l3, h.n1, h.n2⟩
theorem At3.s2 (h : At3 w b1 p b2 q b3 t W) (h' : PAt W' b2 q') (k : Kp [b2] W W') : At3 w b1 p b2 q' b3 t W' :=
  ⟨h.two.s2 h' k, h.p3.keep k (by simpa using fun e => h.n2 e.symm), h.l3, h.n1, h.n2⟩
theorem At3.s3 (h : At3 w b1 p b2 q b3 t W) (h' : PAt W' b3 t') (k : Kp [b3] W W') : At3 w b1 p b2 q b3 t' W' := by
  have hb : Below w.heap.size W W' := k.below h.two.below.size (by simpa using h.l3)
  exact ⟨⟨h.two.p1.keep k (by simpa using h.n1), h.two.p2.keep k (by simpa using h.n2), h.two.max.kp k (by simpa using h.p3.maxne h.two.max), h.two.below.trans hb, h.two.l1, h.two.l2, h.two.ne⟩, h', h.l3, h.n1, h.n2⟩
theorem At3.s13 (h : At3 w b1 p b2 q b3 t W) (h' : Pair W b1 p' b3 t' W') : At3 w b1 p' b2 q b3 t' W' := by
  have hb : Below w.heap.size W W' := h'.kp.below h.two.below.size (by simpa using ⟨h.two.l1, h.l3⟩)
  exact ⟨⟨h'.p1, h.two.p2.keep h'.kp (by simpa using ⟨fun e => h.two.ne e.symm, h.n2⟩), h'.max, h.two.below.trans hb, h.two.l1, h.two.l2, h.two.ne⟩, h'.p3, h.l3, h.n1, h.n2⟩
end
theorem outM_lf (s : Bs) : outM lfM s = s := rfl
section
variable {w W : World} {b1 b2 b3 : Nat} {p q t : PP} {mode raw s : Bs} {n : Int}
theorem feed_31 (h : At3 w b1 p b2 q b3 t W) (hf : Fd mode p []) (u : Bs) (hu : u.length ≤ 1000000) :
    Calls Tryd.prog 17 #[.pointer (some ⟨b1, 0, none⟩), .string ⟨u.toArray⟩] W fun e w' => e = .returned (.int .i64 0) ∧ At3 w b1 (p.feed u) b2 q b3 t w' :=
  (Feed_plain h.two.p1 u hf.closed hf.broken hf.fv hu (by rw [hf.raw]; simp)).mono fun e w' ⟨h1, h2, h3⟩ => ⟨h1, h.s1 h2 h3⟩
theorem feed_32 (h : At3 w b1 p b2 q b3 t W) (hf : Fd mode q []) (u : Bs) (hu : u.length ≤ 1000000) :
    Calls Tryd.prog 17 #[.pointer (some ⟨b2, 0, none⟩), .string ⟨u.toArray⟩] W fun e w' => e = .returned (.int .i64 0) ∧ At3 w b1 p b2 (q.feed u) b3 t w' :=
  (Feed_plain h.two.p2 u hf.closed hf.broken hf.fv hu (by rw [hf.raw]; simp)).mono fun e w' ⟨h1, h2, h3⟩ => ⟨h1, h.s2 h2 h3⟩
theorem read_31 (h : At3 w b1 p b2 q b3 t W) (n : Int) (hm : isInM p.inm = true) (hl : p.raw.length ≤ 1000000) :
    Calls Tryd.prog 19 #[.pointer (some ⟨b1, 0, none⟩), .int .i64 n] W fun e w' => e = .returned (.tuple #[.string ⟨(bytesL (p.taken n false)).toArray⟩, .int .i64 0]) ∧ At3 w b1 (p.read n) b2 q b3 t w' :=
  (Read_any h.two.p1 n hm hl).mono fun e w' ⟨h1, h2, h3⟩ => ⟨h1, h.s1 h2 h3⟩
theorem read_32 (h : At3 w b1 p b2 q b3 t W) (n : Int) (hm : isInM q.inm = true) (hl : q.raw.length ≤ 1000000) :
    Calls Tryd.prog 19 #[.pointer (some ⟨b2, 0, none⟩), .int .i64 n] W fun e w' => e = .returned (.tuple #[.string ⟨(bytesL (q.taken n false)).toArray⟩, .int .i64 0]) ∧ At3 w b1 p b2 (q.read n) b3 t w' :=
  (Read_any h.two.p2 n hm hl).mono fun e w' ⟨h1, h2, h3⟩ => ⟨h1, h.s2 h2 h3⟩
theorem carry_3 (h : At3 w b1 p b2 q b3 t W) (n : Int) (hm : isInM p.inm = true) (hl : p.raw.length ≤ 2000) (hi : PInv lfM fullM t []) :
    Calls Tryd.prog 24 #[.pointer (some ⟨b1, 0, none⟩), .pointer (some ⟨b3, 0, none⟩), .int .i64 n] W fun e w' => e = .returned (.tuple #[.int .i64 ((bytesL (p.taken n false)).length : Int), .int .i64 0]) ∧ ∃ t', At3 w b1 (p.read n) b2 q b3 t' w' ∧ PInv lfM fullM t' (bytesL (p.taken n false)) := by
  have hs := hi.sum
  exact (Carry_any h.two.p1 h.p3 h.two.max h.n1 n hm (by omega) (by rw [hi.outm]; rfl) (by have h0 : ([] : Bs).length = 0 := rfl; omega) hi.fv hi.fin).mono fun e w' ⟨h1, h2⟩ => ⟨h1, _, h.s13 h2, hi.write _⟩
theorem flush_3 (h : At3 w b1 p b2 q b3 t W) (hi : PInv lfM fullM t s) (hs : s.length ≤ 100000) :
    Calls Tryd.prog 13 #[.pointer (some ⟨b3, 0, none⟩)] W fun e w' => e = .returned (.int .i64 0) ∧ ∃ t', At3 w b1 p b2 q b3 t' w' ∧ t'.gone = s := by
  have hs' := hi.sum
  have hf := hi.fin
  exact (Flush_plain h.p3 (by omega) hi.fv (by omega) (by omega)).mono fun e w' ⟨h1, h2, h3⟩ => ⟨h1, _, h.s3 h2 h3, by simp only [PP.flush, PP.leave, List.take_length]; exact hi.all⟩
theorem out_3 (h : At3 w b1 p b2 q b3 t W) (hg : t.gone = s) :
    Calls Tryd.prog 15 #[.pointer (some ⟨b3, 0, none⟩)] W fun e w' => e = .returned (.string ⟨s.toArray⟩) ∧ ∃ t', At3 w b1 p b2 q b3 t' w' :=
  (Out_any h.p3).mono fun e w' ⟨h1, h2, h3⟩ => ⟨by rw [h1, hg], _, h.s3 h2 h3⟩
theorem waits_31 (h : At3 w b1 p b2 q b3 t W) : Calls Tryd.prog 25 #[.pointer (some ⟨b1, 0, none⟩)] W fun e w' => e = .returned (.int .i64 p.raw.length) ∧ W = w' := Waiting_any h.two.p1
theorem waits_32 (h : At3 w b1 p b2 q b3 t W) : Calls Tryd.prog 25 #[.pointer (some ⟨b2, 0, none⟩)] W fun e w' => e = .returned (.int .i64 q.raw.length) ∧ W = w' := Waiting_any h.two.p2
theorem read_len (p : PP) (n : Int) : (p.read n).raw.length ≤ p.raw.length := by show (p.raw.drop _).length ≤ _; simp
end
end Go.Proofs.YtafohdmhjilleaaDoor
