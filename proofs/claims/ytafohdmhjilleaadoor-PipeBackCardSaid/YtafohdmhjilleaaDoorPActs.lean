/- The small acts of a pipe: New, Feed (without filters), Close, Eof, Waiting, Pending, Out. -/
import Derived.Test.YtafohdmhjilleaaDoorPPipe
namespace Go.Proofs.YtafohdmhjilleaaDoor
set_option linter.unusedVariables false
set_option linter.unusedSimpArgs false
open Go.RowKit Go.Shelf

def PP.new (inm outm buf : Bs) (size : Int) : PP := { inm, outm, buf, size, fv := .slice none 0 0, raw := [], closed := false, broken := false, eof := false, blocked := false, buffer := [], gone := [], fin := 0 }
def newE (inm outm buf : Bs) (size : Int) : Int := if isInM inm = true ∧ isOutM outm = true ∧ isBufM buf = true then (if size < 1 ∨ size > 1000000 then 7 else 0) else 5

set_option maxRecDepth 100000 in
set_option maxHeartbeats 400000 in
theorem New_yes (inm outm buf : Bs) (size : Int) (h1 : isInM inm = true) (h2 : isOutM outm = true) (h3 : isBufM buf = true) (h4 : 1 ≤ size) (h5 : size ≤ 1000000) (w : World) :
    Calls Tryd.prog 9 #[.string ⟨inm.toArray⟩, .string ⟨outm.toArray⟩, .string ⟨buf.toArray⟩, .int .i64 size] w fun e w' => e = .returned (.tuple #[.pointer (some ⟨w.heap.size, 0, none⟩), .int .i64 0]) ∧ w' = w.alloc (.cells (PP.new inm outm buf size).cells 52) := by
  have V1 : Hid (∀ W, Calls Tryd.prog 29 #[.string ⟨inm.toArray⟩] W fun e w' => e = .returned (.bool true) ∧ W = w') := fun W => by have := inName_any inm W; rwa [h1] at this
  have V2 : Hid (∀ W, Calls Tryd.prog 30 #[.string ⟨outm.toArray⟩] W fun e w' => e = .returned (.bool true) ∧ W = w') := fun W => by have := outName_any outm W; rwa [h2] at this
  have V3 : Hid (∀ W, Calls Tryd.prog 31 #[.string ⟨buf.toArray⟩] W fun e w' => e = .returned (.bool true) ∧ W = w') := fun W => by have := bufferName_any buf W; rwa [h3] at this
  clear h1 h2 h3
  have t1 : decide (size < 1) = false := by simp; omega
  have t2 : decide (1000000 < size) = false := by simp; omega
  go_enter Tryd.func9, Tryd.ntmps9
  go_wp2_with (first | (go_at_call 29; refine (V1.out _).mono ?_; rintro e w' ⟨rfl, rfl⟩) | (go_at_call 30; refine (V2.out _).mono ?_; rintro e w' ⟨rfl, rfl⟩) | (go_at_call 31; refine (V3.out _).mono ?_; rintro e w' ⟨rfl, rfl⟩))
  go_ret2
  exact ⟨rfl, rfl⟩
theorem pat_new (w : World) (p : PP) : PAt (w.alloc (.cells p.cells 52)) w.heap.size p := heap_alloc_new w _

set_option maxRecDepth 100000 in
theorem New_range (inm outm buf : Bs) (size : Int) (h1 : isInM inm = true) (h2 : isOutM outm = true) (h3 : isBufM buf = true) (h4 : size < 1 ∨ 1000000 < size) (w : World) :
    Calls Tryd.prog 9 #[.string ⟨inm.toArray⟩, .string ⟨outm.toArray⟩, .string ⟨buf.toArray⟩, .int .i64 size] w fun e w' => e = .returned (.tuple #[.pointer none, .int .i64 7]) ∧ w = w' := by
  have V1 : Hid (∀ W, Calls Tryd.prog 29 #[.string ⟨inm.toArray⟩] W fun e w' => e = .returned (.bool true) ∧ W = w') := fun W => by have := inName_any inm W; rwa [h1] at this
  have V2 : Hid (∀ W, Calls Tryd.prog 30 #[.string ⟨outm.toArray⟩] W fun e w' => e = .returned (.bool true) ∧ W = w') := fun W => by have := outName_any outm W; rwa [h2] at this
  have V3 : Hid (∀ W, Calls Tryd.prog 31 #[.string ⟨buf.toArray⟩] W fun e w' => e = .returned (.bool true) ∧ W = w') := fun W => by have := bufferName_any buf W; rwa [h3] at this
  clear h1 h2 h3
  rcases (by omega : size < 1 ∨ (¬ size < 1 ∧ 1000000 < size)) with h | ⟨h, h'⟩
  · have t1 : decide (size < 1) = true := by simp; omega
    clear h4
    go_enter Tryd.func9, Tryd.ntmps9
    go_wp2_with (first | (go_at_call 29; refine (V1.out _).mono ?_; rintro e w' ⟨rfl, rfl⟩) | (go_at_call 30; refine (V2.out _).mono ?_; rintro e w' ⟨rfl, rfl⟩) | (go_at_call 31; refine (V3.out _).mono ?_; rintro e w' ⟨rfl, rfl⟩))
    go_ret2
    exact ⟨rfl, rfl⟩
  · have t1 : decide (size < 1) = false := by simp; omega
    have t2 : decide (1000000 < size) = true := by simp; omega
    clear h4
    go_enter Tryd.func9, Tryd.ntmps9
    go_wp2_with (first | (go_at_call 29; refine (V1.out _).mono ?_; rintro e w' ⟨rfl, rfl⟩) | (go_at_call 30; refine (V2.out _).mono ?_; rintro e w' ⟨rfl, rfl⟩) | (go_at_call 31; refine (V3.out _).mono ?_; rintro e w' ⟨rfl, rfl⟩))
    go_ret2
    exact ⟨rfl, rfl⟩
set_option maxRecDepth 100000 in
theorem New_name (inm outm buf : Bs) (size : Int) (h1 : ¬ (isInM inm = true ∧ isOutM outm = true ∧ isBufM buf = true)) (w : World) :
    Calls Tryd.prog 9 #[.string ⟨inm.toArray⟩, .string ⟨outm.toArray⟩, .string ⟨buf.toArray⟩, .int .i64 size] w fun e w' => e = .returned (.tuple #[.pointer none, .int .i64 5]) ∧ w = w' := by
  have V1 : Hid (∀ W, Calls Tryd.prog 29 #[.string ⟨inm.toArray⟩] W fun e w' => e = .returned (.bool (isInM inm)) ∧ W = w') := fun W => inName_any inm W
  have V2 : Hid (∀ W, Calls Tryd.prog 30 #[.string ⟨outm.toArray⟩] W fun e w' => e = .returned (.bool (isOutM outm)) ∧ W = w') := fun W => outName_any outm W
  have V3 : Hid (∀ W, Calls Tryd.prog 31 #[.string ⟨buf.toArray⟩] W fun e w' => e = .returned (.bool (isBufM buf)) ∧ W = w') := fun W => bufferName_any buf W
  generalize isInM inm = x1 at *
  generalize isOutM outm = x2 at *
  generalize isBufM buf = x3 at *
  cases x1 <;> cases x2 <;> cases x3 <;> first
    | (exact absurd ⟨rfl, rfl, rfl⟩ h1)
    | (clear h1
       go_enter Tryd.func9, Tryd.ntmps9
       go_wp2_with (first | (go_at_call 29; refine (V1.out _).mono ?_; rintro e w' ⟨rfl, rfl⟩) | (go_at_call 30; refine (V2.out _).mono ?_; rintro e w' ⟨rfl, rfl⟩) | (go_at_call 31; refine (V3.out _).mono ?_; rintro e w' ⟨rfl, rfl⟩))
       go_ret2
       exact ⟨rfl, rfl⟩)

section
variable {w : World} {b : Nat} {p : PP}
theorem kp2 (i j : Nat) (u v : Value) : Kp [b] w ((w.setCell ⟨b, i, none⟩ u).setCell ⟨b, j, none⟩ v) := ((Kp.refl [b] w).setCell b i u (.inl (by simp))).setCell b j v (.inl (by simp))
def PP.close (p : PP) : PP := { p with eof := false, blocked := false, closed := true }
set_option maxRecDepth 100000 in
theorem Close_any (h : PAt w b p) (hc : p.closed = false) : Calls Tryd.prog 18 #[.pointer (some ⟨b, 0, none⟩)] w fun e w' => e = .returned (.int .i64 0) ∧ PAt w' b p.close ∧ Kp [b] w w' := by
  have c6 := h.c6; have f6 := h.fz 6
  rw [hc] at c6
  have H := Lib.hid h
  have HP := Lib.hid (fresh_any h)
  have hN := fun W => ptr_nil W b
  clear h hc
  go_enter Tryd.func18, Tryd.ntmps18
  go_wp2_with (go_at_call 35; refine HP.out.mono ?_; rintro e w1 ⟨rfl, rfl⟩)
  go_ret
  refine ⟨rfl, ((H.out.set 8 _ { p with eof := false } rfl).set 9 _ { p with eof := false, blocked := false } rfl).set 6 _ p.close rfl, (kp2 _ _ _ _).setCell b 6 _ (.inl (by simp))⟩
def PP.feed (p : PP) (s : Bs) : PP := { p with eof := false, blocked := false, raw := p.raw ++ s }
set_option maxRecDepth 100000 in
theorem Feed_plain (h : PAt w b p) (s : Bs) (hc : p.closed = false) (hb : p.broken = false) (hf : p.fv = .slice none 0 0) (hs : s.length ≤ 1000000) (hr : p.raw.length ≤ 1000000) : Calls Tryd.prog 17 #[.pointer (some ⟨b, 0, none⟩), .string ⟨s.toArray⟩] w fun e w' => e = .returned (.int .i64 0) ∧ PAt w' b (p.feed s) ∧ Kp [b] w w' := by
  have c6 := h.c6; have c4 := h.c4; have c5 := h.c5; have c7 := h.c7; have f5 := h.fz 5
  rw [hc] at c6
  rw [hb] at c7
  rw [hf] at c4
  have H := Lib.hid h
  have HP := Lib.hid (fresh_any h)
  have hN := fun W => ptr_nil W b
  clear h hc hf hb
  go_enter Tryd.func17, Tryd.ntmps17
  go_wp2_with (go_at_call 35; refine HP.out.mono ?_; rintro e w1 ⟨rfl, rfl⟩)
  go_loop [1, 5, 30] (fun v1 v5 v30 => v1 = .string ⟨s.toArray⟩ ∧ v5 = .bool true ∧ v30 = .int .i64 0) (fun _ _ _ => 0)
  case atStart => exact ⟨rfl, rfl, rfl⟩
  case round =>
    obtain ⟨rfl, rfl, rfl⟩ := hrel
    go_wp2
    go_ret
    exact ⟨rfl, ((H.out.set 8 _ { p with eof := false } rfl).set 9 _ { p with eof := false, blocked := false } rfl).set 5 _ (p.feed s) rfl, (kp2 _ _ _ _).setCell b 5 _ (.inl (by simp))⟩
theorem Eof_any (h : PAt w b p) : Calls Tryd.prog 21 #[.pointer (some ⟨b, 0, none⟩)] w fun e w' => e = .returned (.bool p.eof) ∧ w = w' := by
  have c8 := h.c8
  have hN := fun W => ptr_nen W b
  clear h
  go_enter Tryd.func21, Tryd.ntmps21
  go_wp2
  go_ret
  exact ⟨rfl, rfl⟩
theorem Waiting_any (h : PAt w b p) : Calls Tryd.prog 25 #[.pointer (some ⟨b, 0, none⟩)] w fun e w' => e = .returned (.int .i64 p.raw.length) ∧ w = w' := by
  have c5 := h.c5
  have hN := fun W => ptr_nil W b
  clear h
  go_enter Tryd.func25, Tryd.ntmps25
  go_wp2
  go_ret
  exact ⟨rfl, rfl⟩
theorem Pending_any (h : PAt w b p) : Calls Tryd.prog 12 #[.pointer (some ⟨b, 0, none⟩)] w fun e w' => e = .returned (.int .i64 p.buffer.length) ∧ w = w' := by
  have c10 := h.c10
  have hN := fun W => ptr_nil W b
  clear h
  go_enter Tryd.func12, Tryd.ntmps12
  go_wp2
  go_ret
  exact ⟨rfl, rfl⟩
def PP.out (p : PP) : PP := { p with gone := [] }
theorem Out_any (h : PAt w b p) : Calls Tryd.prog 15 #[.pointer (some ⟨b, 0, none⟩)] w fun e w' => e = .returned (.string ⟨p.gone.toArray⟩) ∧ PAt w' b p.out ∧ Kp [b] w w' := by
  have c11 := h.c11; have f11 := h.fz 11
  have hN := fun W => ptr_nil W b
  have H := Lib.hid h
  clear h
  go_enter Tryd.func15, Tryd.ntmps15
  go_wp2
  go_ret
  exact ⟨rfl, H.out.set 11 _ p.out rfl, (Kp.refl [b] w).setCell b 11 _ (.inl (by simp))⟩
/-- The first bytes of the buffer go out (there is no filter). -/
def PP.leave (p : PP) (n : Nat) : PP := { p with buffer := p.buffer.drop n, fin := p.fin - n, gone := p.gone ++ p.buffer.take n }
set_option maxRecDepth 100000 in
theorem leave_plain (h : PAt w b p) (n : Nat) (hn : n ≤ p.buffer.length) (hl : p.buffer.length ≤ 100000000) (hf : p.fv = .slice none 0 0) (hg : p.gone.length ≤ 100000000) (hfi : p.fin ≤ 100000000) :
    Calls Tryd.prog 33 #[.pointer (some ⟨b, 0, none⟩), .int .i64 (n : Int)] w fun e w' => e = .returned (.tuple #[]) ∧ PAt w' b (p.leave n) ∧ Kp [b] w w' := by
  have c10 := h.c10; have c12 := h.c12; have c11 := h.c11; have c4 := h.c4; have f10 := h.fz 10; have f11 := h.fz 11; have f12 := h.fz 12
  rw [hf] at c4
  have H := Lib.hid h
  clear h hf
  have hmx : max (0 : Int) ((p.fin : Int) - (n : Int)) = ((p.fin - n : Nat) : Int) := by omega
  have hw0 : (0 : Int) ≤ (n : Int) := by omega
  have hnI : (n : Int) ≤ (p.buffer.length : Int) := by omega
  go_enter Tryd.func33, Tryd.ntmps33
  go_wp2
  go_region
  go_wp2
  go_loop [4, 5] (fun v4 v5 => v4 = .string ⟨(p.buffer.take n).toArray⟩ ∧ v5 = .int .i64 (-1)) (fun _ _ => 0)
  case atStart => exact ⟨rfl, rfl⟩
  case round =>
    obtain ⟨rfl, rfl⟩ := hrel
    go_wp2
    go_end0
    exact ⟨rfl, ((H.out.set 10 _ { p with buffer := p.buffer.drop n } rfl).set 12 _ { p with buffer := p.buffer.drop n, fin := p.fin - n } rfl).set 11 _ (p.leave n) rfl, ((kp2 (b := b) 10 12 _ _).setCell b 11 _ (.inl (by simp))).drew⟩
theorem Kp.from {D : List Nat} {w w1 w2 : World} (h : Kp D w w1) (k : Kp D w1 w2) : Kp D w w2 := h.trans k (fun d hd => .inl hd)
def PP.flush (p : PP) : PP := p.leave p.buffer.length
set_option maxRecDepth 100000 in
theorem Flush_plain (h : PAt w b p) (hl : p.buffer.length ≤ 100000000) (hf : p.fv = .slice none 0 0) (hg : p.gone.length ≤ 100000000) (hfi : p.fin ≤ 100000000) :
    Calls Tryd.prog 13 #[.pointer (some ⟨b, 0, none⟩)] w fun e w' => e = .returned (.int .i64 0) ∧ PAt w' b p.flush ∧ Kp [b] w w' := by
  have c10 := h.c10
  have HL := Lib.hid (leave_plain h p.buffer.length (Nat.le_refl _) hl hf hg hfi)
  have hN := fun W => ptr_nil W b
  clear h hf
  go_enter Tryd.func13, Tryd.ntmps13
  go_wp2_with (go_at_call 33; refine HL.out.mono ?_; rintro e w1 ⟨rfl, h1, hk1⟩)
  go_ret
  exact ⟨rfl, h1, hk1⟩
end
end Go.Proofs.YtafohdmhjilleaaDoor
