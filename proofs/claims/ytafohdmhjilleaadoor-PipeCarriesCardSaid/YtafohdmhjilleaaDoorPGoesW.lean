/- PipeGoes: the walk. -/
import Derived.Test.YtafohdmhjilleaaDoorPAwake
namespace Go.Proofs.YtafohdmhjilleaaDoor
set_option linter.unusedVariables false
set_option linter.unusedSimpArgs false
open Go.RowKit Go.Shelf

/-- A pipe to which t was written. -/
structure PInv (om bm : Bs) (q : PP) (t : Bs) : Prop where
  outm : q.outm = om
  buf : q.buf = bm
  fv : q.fv = .slice none 0 0
  fin : q.fin ≤ q.buffer.length
  all : q.gone ++ q.buffer = outM om t
  empty : bm = noneM → q.buffer = []
theorem PInv.sum {out buf : Bs} {q : PP} {t : Bs} (h : PInv out buf q t) : q.buffer.length + q.gone.length ≤ 2 * t.length := by
  have h1 := congrArg List.length h.all
  have h2 := (outM_len out t).2
  simp only [List.length_append] at h1
  omega
theorem leave_all (q : PP) (n : Nat) : (q.leave n).gone ++ (q.leave n).buffer = q.gone ++ q.buffer := by
  simp only [PP.leave]
  rw [List.append_assoc, List.take_append_drop]
theorem write_all (q : PP) (u : Bs) : (q.write u).gone ++ (q.write u).buffer = q.gone ++ q.buffer ++ outM q.outm u := by
  have h0 : (q.put u).gone ++ (q.put u).buffer = q.gone ++ q.buffer ++ outM q.outm u := by simp only [PP.put, List.append_assoc]
  unfold PP.write
  simp only
  repeat' split
  all_goals simp only [leave_all, h0]
theorem leave_fin (q : PP) (n : Nat) (h : q.fin ≤ q.buffer.length) : (q.leave n).fin ≤ (q.leave n).buffer.length := by simp [PP.leave]; omega
theorem write_fin (q : PP) (u : Bs) (h : q.fin ≤ q.buffer.length) : (q.write u).fin ≤ (q.write u).buffer.length := by
  have h0 := put_fin q u h
  unfold PP.write
  simp only
  repeat' split
  · exact leave_fin _ _ (leave_fin _ _ h0)
  · exact leave_fin _ _ h0
  · exact leave_fin _ _ h0
  · exact h0
theorem write_same (q : PP) (u : Bs) : (q.write u).outm = q.outm ∧ (q.write u).buf = q.buf ∧ (q.write u).fv = q.fv := by
  unfold PP.write
  simp only
  repeat' split
  all_goals exact ⟨rfl, rfl, rfl⟩
theorem write_none (q : PP) (u : Bs) (h : q.buf = noneM) : (q.write u).buffer = [] := by
  unfold PP.write
  simp only
  rw [if_pos (.inl h)]
  simp [PP.leave]
theorem PInv.write {out buf : Bs} {q : PP} {t : Bs} (h : PInv out buf q t) (u : Bs) : PInv out buf (q.write u) (t ++ u) := by
  obtain ⟨h1, h2, h3⟩ := write_same q u
  refine ⟨h1.trans h.outm, h2.trans h.buf, h3.trans h.fv, write_fin q u h.fin, ?_, fun e => write_none q u (h.buf.trans e)⟩
  rw [write_all, h.all, h.outm, outM_append]

section
variable {w : World} {b : Nat} {out buf : Bs}
theorem goes_write {W : World} {q : PP} {t : Bs} (h : At1 w b q W) (hi : PInv out buf q t) (hm : isOutM out = true) (ht : t.length ≤ 100000) (u : Bs) (hu : u.length ≤ 100000) :
    Calls Tryd.prog 11 #[.pointer (some ⟨b, 0, none⟩), .string ⟨u.toArray⟩] W fun e w' => e = .returned (.int .i64 0) ∧ ∃ q', At1 w b q' w' ∧ PInv out buf q' (t ++ u) := by
  have hs := hi.sum
  exact (Write_any h.pat h.max u (by rw [hi.outm]; exact hm) hu (by omega) hi.fv hi.fin).mono fun e w' ⟨h1, h2, h3⟩ => ⟨h1, _, h.step h2 h3, hi.write u⟩
theorem goes_flush {W : World} {q : PP} {t : Bs} (h : At1 w b q W) (hi : PInv out buf q t) (ht : t.length ≤ 100000) :
    Calls Tryd.prog 13 #[.pointer (some ⟨b, 0, none⟩)] W fun e w' => e = .returned (.int .i64 0) ∧ ∃ q', At1 w b q' w' ∧ q'.gone = outM out t ∧ q'.buffer = [] := by
  have hs := hi.sum
  have hf := hi.fin
  exact (Flush_plain h.pat (by omega) hi.fv (by omega) (by omega)).mono fun e w' ⟨h1, h2, h3⟩ => ⟨h1, _, h.step h2 h3, by simp only [PP.flush, PP.leave, List.take_length]; exact hi.all, by simp [PP.flush, PP.leave]⟩
theorem goes_out {W : World} {q : PP} (h : At1 w b q W) {g : Bs} (hg : q.gone = g) (hb : q.buffer = []) :
    Calls Tryd.prog 15 #[.pointer (some ⟨b, 0, none⟩)] W fun e w' => e = .returned (.string ⟨g.toArray⟩) ∧ ∃ q', At1 w b q' w' ∧ q'.buffer = [] :=
  (Out_any h.pat).mono fun e w' ⟨h1, h2, h3⟩ => ⟨by rw [h1, hg], _, h.step h2 h3, hb⟩
theorem goes_pending {W : World} {q : PP} (h : At1 w b q W) (hb : q.buffer = []) :
    Calls Tryd.prog 12 #[.pointer (some ⟨b, 0, none⟩)] W fun e w' => e = .returned (.int .i64 0) ∧ W = w' :=
  (Pending_any h.pat).mono fun e w' ⟨h1, h2⟩ => ⟨by rw [h1, hb]; rfl, h2⟩
theorem At1.more {W W' : World} {q : PP} (h : At1 w b q W) (hb : Below W.heap.size W W') : At1 w b q W' :=
  ⟨h.pat.below hb h.pat.lt, h.max.below hb h.max.pos, h.below.trans (hb.mono h.below.size), h.le⟩
theorem PInv.new (out buf : Bs) (size : Int) : PInv out buf (PP.new lfM out buf size) [] := ⟨rfl, rfl, rfl, Nat.le_refl _, by rw [outM_nil]; rfl, fun _ => rfl⟩
end
/-- A slice of bytes among the arguments. -/
def Cuts (W : World) (v : Value) (l : List Int) : Prop := (v = .slice none 0 0 ∧ l = []) ∨ ∃ (a : Addr) (cap : Nat), v = .slice (some a) l.length cap ∧ l.length ≤ cap ∧ cap ≤ maxLen ∧ (∀ i, i < l.length → W.cell? (a.add i) = some (.int .u8 (l.getD i 0))) ∧ ∀ n ∈ l, 0 ≤ n ∧ n ≤ 255

set_option maxRecDepth 100000 in
set_option maxHeartbeats 1600000 in
theorem goes_no (s out buf : Bs) (size : Int) (cv : Value) (w : World) (hM : MaxIs w) (h : ¬ (isOutM out = true ∧ isBufM buf = true) ∨ size < 1 ∨ 1000000 < size) :
    Calls Tryd.prog 3 #[.string ⟨s.toArray⟩, .string ⟨out.toArray⟩, .string ⟨buf.toArray⟩, .int .i64 size, cv] w fun e w' => e = .returned (.bool true) ∧ Below w.heap.size w w' := by
  have hw := Lib.hid (awake_any w hM)
  clear hM
  by_cases h0 : isOutM out = true ∧ isBufM buf = true
  · have A0 : Hid (Calls Tryd.prog 9 #[.string ⟨#[108, 102]⟩, .string ⟨out.toArray⟩, .string ⟨buf.toArray⟩, .int .i64 size] w fun e w' => e = .returned (.tuple #[.pointer none, .int .i64 7]) ∧ w = w') := New_range lfM out buf size rfl h0.1 h0.2 (by rcases h with h | h; exact absurd h0 h; exact h) w
    clear h h0
    go_enter Tryd.func3, Tryd.ntmps3
    go_wp2_with (first | (go_at_call 9; refine A0.out.mono ?_; rintro e w1 ⟨rfl, rfl⟩) | (go_at_call 10; refine hw.out.mono ?_; rintro e w' ⟨rfl, hb⟩))
    go_ret
    exact ⟨rfl, hb⟩
  · have A0 : Hid (Calls Tryd.prog 9 #[.string ⟨#[108, 102]⟩, .string ⟨out.toArray⟩, .string ⟨buf.toArray⟩, .int .i64 size] w fun e w' => e = .returned (.tuple #[.pointer none, .int .i64 5]) ∧ w = w') := New_name lfM out buf size (fun h' => h0 h'.2) w
    clear h h0
    go_enter Tryd.func3, Tryd.ntmps3
    go_wp2_with (first | (go_at_call 9; refine A0.out.mono ?_; rintro e w1 ⟨rfl, rfl⟩) | (go_at_call 10; refine hw.out.mono ?_; rintro e w' ⟨rfl, hb⟩))
    go_ret
    exact ⟨rfl, hb⟩
set_option maxRecDepth 100000 in
set_option maxHeartbeats 1600000 in
theorem goes_long (s out buf : Bs) (size : Int) (cv : Value) (w : World) (hM : MaxIs w) (h1 : isOutM out = true) (h2 : isBufM buf = true) (h3 : 1 ≤ size) (h4 : size ≤ 1000000) (hs : 2000 < s.length) :
    Calls Tryd.prog 3 #[.string ⟨s.toArray⟩, .string ⟨out.toArray⟩, .string ⟨buf.toArray⟩, .int .i64 size, cv] w fun e w' => e = .returned (.bool true) ∧ Below w.heap.size w w' := by
  have A0 : Hid (Calls Tryd.prog 9 #[.string ⟨#[108, 102]⟩, .string ⟨out.toArray⟩, .string ⟨buf.toArray⟩, .int .i64 size] w fun e w' => e = .returned (.tuple #[.pointer (some ⟨w.heap.size, 0, none⟩), .int .i64 0]) ∧ At1 w w.heap.size (PP.new lfM out buf size) w') := (New_yes lfM out buf size rfl h1 h2 h3 h4 w).mono fun e w' ⟨h1, h2⟩ => ⟨h1, by rw [h2]; exact At1.new w hM _⟩
  have hN := fun W => ptr_nil W w.heap.size
  clear h1 h2 h3 h4 hM
  go_enter Tryd.func3, Tryd.ntmps3
  go_wp2_with (first | (go_at_call 9; refine A0.out.mono ?_; rintro e w1 ⟨rfl, h1⟩; have H := Lib.hid h1; clear h1) | (go_at_call 10; refine (awake_any _ H.out.max).mono ?_; rintro e w' ⟨rfl, hb⟩))
  go_ret
  exact ⟨rfl, H.out.below.trans (hb.mono H.out.below.size)⟩
end Go.Proofs.YtafohdmhjilleaaDoor
