/- Two pipes; what is fed and what is read. -/
import Derived.Test.YtafohdmhjilleaaDoorPAwake
namespace Go.Proofs.YtafohdmhjilleaaDoor
set_option linter.unusedVariables false
set_option linter.unusedSimpArgs false
open Go.RowKit Go.Shelf

theorem made_at (inm outm : Bs) (h1 : isInM inm = true) (h2 : isOutM outm = true) (w : World) (hM : MaxIs w) :
    Calls Tryd.prog 16 #[.string ⟨inm.toArray⟩, .string ⟨outm.toArray⟩, .int .i64 10] w fun e w' => ∃ b, e = .returned (.pointer (some ⟨b, 0, none⟩)) ∧ At1 w b (madeP inm outm) w' :=
  (made_yes inm outm h1 h2 w).mono fun e w' ⟨h1, h2⟩ => ⟨_, h1, by rw [h2]; exact At1.new w hM _⟩
/-- Two pipes of the call's own. -/
structure At2 (w : World) (b1 : Nat) (p : PP) (b2 : Nat) (q : PP) (W : World) : Prop where
  p1 : PAt W b1 p
  p2 : PAt W b2 q
  max : MaxIs W
  below : Below w.heap.size w W
  l1 : w.heap.size ≤ b1
  l2 : w.heap.size ≤ b2
  ne : b1 ≠ b2
section
variable {w W W' : World} {b1 b2 : Nat} {p p' q q' : PP}
theorem At2.of (h : At1 w b1 p W) (h' : At1 W b2 q W') : At2 w b1 p b2 q W' :=
  ⟨h.pat.below h'.below h.pat.lt, h'.pat, h'.max, h.below.trans (h'.below.mono h.below.size), h.le, Nat.le_trans h.below.size h'.le, fun e => by have := h.pat.lt; have := h'.le; omega⟩
theorem At2.s1 (h : At2 w b1 p b2 q W) (h' : PAt W' b1 p') (k : Kp [b1] W W') : At2 w b1 p' b2 q W' := by
  have hb : Below w.heap.size W W' := k.below h.below.size (by simpa using h.l1)
  have hne := h.p1.maxne h.max
  exact ⟨h', h.p2.keep k (by simpa using fun e => h.ne e.symm), h.max.kp k (by simpa using hne), h.below.trans hb, h.l1, h.l2, h.ne⟩
theorem At2.s2 (h : At2 w b1 p b2 q W) (h' : PAt W' b2 q') (k : Kp [b2] W W') : At2 w b1 p b2 q' W' := by
  have hb : Below w.heap.size W W' := k.below h.below.size (by simpa using h.l2)
  have hne := h.p2.maxne h.max
  exact ⟨h.p1.keep k (by simpa using h.ne), h', h.max.kp k (by simpa using hne), h.below.trans hb, h.l1, h.l2, h.ne⟩
theorem At2.more (h : At2 w b1 p b2 q W) (hb : Below W.heap.size W W') : At2 w b1 p b2 q W' :=
  ⟨h.p1.below hb h.p1.lt, h.p2.below hb h.p2.lt, h.max.below hb h.max.pos, h.below.trans (hb.mono h.below.size), h.l1, h.l2, h.ne⟩
end

/-- A pipe that was fed with t. -/
structure Fd (mode : Bs) (q : PP) (t : Bs) : Prop where
  inm : q.inm = mode
  closed : q.closed = false
  broken : q.broken = false
  fv : q.fv = .slice none 0 0
  raw : q.raw = t
theorem Fd.new (mode outm : Bs) : Fd mode (madeP mode outm) [] := ⟨rfl, rfl, rfl, rfl, rfl⟩
theorem Fd.feed {mode : Bs} {q : PP} {t : Bs} (h : Fd mode q t) (u : Bs) : Fd mode (q.feed u) (t ++ u) := ⟨h.inm, h.closed, h.broken, h.fv, by simp [PP.feed, h.raw]⟩
/-- A closed pipe of which s was read. -/
structure Rd (mode raw : Bs) (q : PP) (s : Bs) : Prop where
  inm : q.inm = mode
  closed : q.closed = true
  len : q.raw.length ≤ raw.length
  at_ : ∃ k, q.raw = raw.drop (sumN ((stepsL mode true raw).take k)) ∧ s = bytesL ((stepsL mode true raw).take k)
theorem Fd.close {mode : Bs} {q : PP} {t : Bs} (h : Fd mode q t) : Rd mode t q.close [] := ⟨h.inm, rfl, by show q.raw.length ≤ _; rw [h.raw]; exact Nat.le_refl _, 0, by show q.raw = _; rw [h.raw]; simp [sumN], rfl⟩
theorem Rd.read {mode raw : Bs} {q : PP} {s : Bs} (h : Rd mode raw q s) {n : Int} (hn : 0 ≤ n) : Rd mode raw (q.read n) (s ++ bytesL (q.taken n false)) ∧ ((bytesL (q.taken n false)).length : Int) ≤ n := by
  obtain ⟨h1, h2, h3, k, h4, h5⟩ := h
  have hT : q.taken n false = ((stepsL mode true raw).drop k).take n.toNat := by
    unfold PP.taken
    rw [tkL_take hn, h1, h2, h4, steps_drop]; rfl
  refine ⟨⟨h1, h2, ?_, k + n.toNat, ?_, ?_⟩, ?_⟩
  · have : (q.read n).raw = q.raw.drop (sumN (q.taken n false)) := rfl
    rw [this]; simp; omega
  · show q.raw.drop (sumN (q.taken n false)) = _
    rw [hT, h4, List.drop_drop, List.take_add, sumN_append]
  · rw [hT, h5, List.take_add]; simp [bytesL]
  · rw [hT, bytesL_len, List.length_take]; omega
theorem Rd.all {mode raw : Bs} {q : PP} {s : Bs} (h : Rd mode raw q s) : s ++ bytesL (q.taken (-1) false) = bytesL (stepsL mode true raw) ∧ (q.read (-1)).eof = true := by
  obtain ⟨h1, h2, h3, k, h4, h5⟩ := h
  have hT : q.taken (-1) false = (stepsL mode true raw).drop k := by
    unfold PP.taken
    rw [tkL_all (by omega), h1, h2, h4, steps_drop]
  refine ⟨?_, ?_⟩
  · rw [hT, h5]
    unfold bytesL
    rw [← List.map_append, List.take_append_drop]
  · have hr : q.raw.drop (sumN (q.taken (-1) false)) = [] := by
      apply List.drop_eq_nil_of_le
      have e1 : stepsL mode true q.raw = (stepsL mode true raw).drop k := by rw [h4, steps_drop]
      rw [hT, ← e1, steps_closed]
      exact Nat.le_refl _
    show (q.closed && ((q.raw.drop (sumN (q.taken (-1) false))).isEmpty && (decide ((-1 : Int) < 0) || _))) = true
    rw [h2, hr]; rfl

theorem Rd.short {mode raw : Bs} {q : PP} {s : Bs} (h : Rd mode raw q s) : s.length ≤ raw.length := by
  obtain ⟨k, _, h5⟩ := h.at_
  have := (steps_le mode true raw).1
  rw [h5, bytesL_len, List.length_take]; omega
theorem Rd.room {mode raw : Bs} {q : PP} {s t : Bs} (h : Rd mode raw q (s ++ t)) (hl : raw.length ≤ 1000000) : ¬ (9223372036854775807 < s.length + t.length) := by
  have := h.short
  simp only [List.length_append] at this
  omega
theorem all_room {mode raw s t : Bs} (h : s ++ t = bytesL (stepsL mode true raw)) (hl : raw.length ≤ 1000000) : ¬ (9223372036854775807 < s.length + t.length) := by
  have h1 := (steps_le mode true raw).1
  have h2 := congrArg List.length h
  simp only [List.length_append, bytesL_len] at h2
  omega

section
variable {w W : World} {b1 b2 : Nat} {p q : PP} {mode t raw s : Bs}
theorem feed_1 (h : At2 w b1 p b2 q W) (hf : Fd mode p t) (u : Bs) (hu : u.length ≤ 1000000) (ht : t.length ≤ 1000000) :
    Calls Tryd.prog 17 #[.pointer (some ⟨b1, 0, none⟩), .string ⟨u.toArray⟩] W fun e w' => e = .returned (.int .i64 0) ∧ ∃ p', At2 w b1 p' b2 q w' ∧ Fd mode p' (t ++ u) :=
  (Feed_plain h.p1 u hf.closed hf.broken hf.fv hu (by rw [hf.raw]; exact ht)).mono fun e w' ⟨h1, h2, h3⟩ => ⟨h1, _, h.s1 h2 h3, hf.feed u⟩
theorem feed_2 (h : At2 w b1 p b2 q W) (hf : Fd mode q t) (u : Bs) (hu : u.length ≤ 1000000) (ht : t.length ≤ 1000000) :
    Calls Tryd.prog 17 #[.pointer (some ⟨b2, 0, none⟩), .string ⟨u.toArray⟩] W fun e w' => e = .returned (.int .i64 0) ∧ ∃ q', At2 w b1 p b2 q' w' ∧ Fd mode q' (t ++ u) :=
  (Feed_plain h.p2 u hf.closed hf.broken hf.fv hu (by rw [hf.raw]; exact ht)).mono fun e w' ⟨h1, h2, h3⟩ => ⟨h1, _, h.s2 h2 h3, hf.feed u⟩
theorem close_1 (h : At2 w b1 p b2 q W) (hf : Fd mode p t) :
    Calls Tryd.prog 18 #[.pointer (some ⟨b1, 0, none⟩)] W fun e w' => e = .returned (.int .i64 0) ∧ ∃ p', At2 w b1 p' b2 q w' ∧ Rd mode t p' [] :=
  (Close_any h.p1 hf.closed).mono fun e w' ⟨h1, h2, h3⟩ => ⟨h1, _, h.s1 h2 h3, hf.close⟩
theorem close_2 (h : At2 w b1 p b2 q W) (hf : Fd mode q t) :
    Calls Tryd.prog 18 #[.pointer (some ⟨b2, 0, none⟩)] W fun e w' => e = .returned (.int .i64 0) ∧ ∃ q', At2 w b1 p b2 q' w' ∧ Rd mode t q' [] :=
  (Close_any h.p2 hf.closed).mono fun e w' ⟨h1, h2, h3⟩ => ⟨h1, _, h.s2 h2 h3, hf.close⟩
theorem read_1 (h : At2 w b1 p b2 q W) (hr : Rd mode raw p s) (hm : isInM mode = true) (hl : raw.length ≤ 1000000) {n : Int} (hn : 0 ≤ n) :
    Calls Tryd.prog 19 #[.pointer (some ⟨b1, 0, none⟩), .int .i64 n] W fun e w' => ∃ t p', e = .returned (.tuple #[.string ⟨t.toArray⟩, .int .i64 0]) ∧ At2 w b1 p' b2 q w' ∧ Rd mode raw p' (s ++ t) ∧ (t.length : Int) ≤ n :=
  have h0 := hr.len
  (Read_any h.p1 n (by rw [hr.inm]; exact hm) (by omega)).mono fun e w' ⟨h1, h2, h3⟩ => ⟨_, _, h1, h.s1 h2 h3, (hr.read hn).1, (hr.read hn).2⟩
theorem rest_1 (h : At2 w b1 p b2 q W) (hr : Rd mode raw p s) (hm : isInM mode = true) (hl : raw.length ≤ 1000000) :
    Calls Tryd.prog 19 #[.pointer (some ⟨b1, 0, none⟩), .int .i64 (-1)] W fun e w' => ∃ t p', e = .returned (.tuple #[.string ⟨t.toArray⟩, .int .i64 0]) ∧ At2 w b1 p' b2 q w' ∧ s ++ t = bytesL (stepsL mode true raw) ∧ p'.eof = true :=
  have h0 := hr.len
  (Read_any h.p1 (-1) (by rw [hr.inm]; exact hm) (by omega)).mono fun e w' ⟨h1, h2, h3⟩ => ⟨_, _, h1, h.s1 h2 h3, hr.all.1, hr.all.2⟩
theorem rest_2 (h : At2 w b1 p b2 q W) (hr : Rd mode raw q []) (hm : isInM mode = true) (hl : raw.length ≤ 1000000) :
    Calls Tryd.prog 19 #[.pointer (some ⟨b2, 0, none⟩), .int .i64 (-1)] W fun e w' => ∃ q', e = .returned (.tuple #[.string ⟨(bytesL (stepsL mode true raw)).toArray⟩, .int .i64 0]) ∧ At2 w b1 p b2 q' w' ∧ q'.eof = true :=
  have h0 := hr.len
  (Read_any h.p2 (-1) (by rw [hr.inm]; exact hm) (by omega)).mono fun e w' ⟨h1, h2, h3⟩ => ⟨_, by rw [h1, ← hr.all.1]; rfl, h.s2 h2 h3, hr.all.2⟩
theorem eof_1 (h : At2 w b1 p b2 q W) (he : p.eof = true) : Calls Tryd.prog 21 #[.pointer (some ⟨b1, 0, none⟩)] W fun e w' => e = .returned (.bool true) ∧ W = w' :=
  (Eof_any h.p1).mono fun e w' ⟨h1, h2⟩ => ⟨by rw [h1, he], h2⟩
end
end Go.Proofs.YtafohdmhjilleaaDoor
