/- A pipe with filters: leave, Feed. -/
import Derived.Test.YtafohdmhjilleaaDoorPLay
namespace Go.Proofs.YtafohdmhjilleaaDoor
set_option linter.unusedVariables false
set_option linter.unusedSimpArgs false
open Go.RowKit Go.Shelf
attribute [local go_sem] ba_append

/-- What a filter makes of what goes out. -/
def outF (k : Bool) (s : Bs) : Bs := if k then hexS s else s.map rotB
def enc : List (Nat × Bool) → Bs → Bs
  | [], s => s
  | x :: r, s => outF x.2 (enc r s)
theorem enc_nil (fs : List (Nat × Bool)) : enc fs [] = [] := by
  induction fs with
  | nil => rfl
  | cons x r ih =>
    show outF x.2 (enc r []) = []
    rw [ih]
    unfold outF
    split <;> rfl
theorem outF_len (k : Bool) (s : Bs) : (outF k s).length ≤ 2 * s.length := by
  unfold outF
  split
  · rw [hexS_len]; omega
  · simp; omega
theorem enc_len (fs : List (Nat × Bool)) (s : Bs) : (enc fs s).length ≤ 2 ^ fs.length * s.length := by
  induction fs with
  | nil => simp [enc]
  | cons x r ih =>
    have h1 := outF_len x.2 (enc r s)
    show (outF x.2 (enc r s)).length ≤ _
    rw [List.length_cons, Nat.pow_succ, Nat.mul_comm (2 ^ r.length) 2, Nat.mul_assoc]
    omega
theorem enc_short (fs : List (Nat × Bool)) (s : Bs) (h3 : fs.length ≤ 3) (i : Nat) : (enc (fs.drop i) s).length ≤ 8 * s.length := by
  have h1 := enc_len (fs.drop i) s
  have h2 : 2 ^ (fs.drop i).length ≤ 8 := by
    have : (fs.drop i).length ≤ 3 := by simp; omega
    calc 2 ^ (fs.drop i).length ≤ 2 ^ 3 := Nat.pow_le_pow_right (by omega) this
      _ = 8 := rfl
  have h3 : 2 ^ (fs.drop i).length * s.length ≤ 8 * s.length := Nat.mul_le_mul_right _ h2
  omega
theorem enc_at (fs : List (Nat × Bool)) (s : Bs) (i : Nat) (h : i < fs.length) : enc (fs.drop i) s = outF fs[i].2 (enc (fs.drop (i + 1)) s) := by
  rw [List.drop_eq_getElem_cons h]; rfl
theorem fls_cell {B : Nat} {W : World} {fv : Value} {fs : List (Nat × Bool)} (h : Fls B W fv fs) (hne : fs ≠ []) : ∃ g cap, fv = .slice (some ⟨g, 0, none⟩) fs.length cap ∧ fs.length ≤ cap ∧ cap ≤ maxLen := by
  rcases h.row.2 with ⟨_, h0⟩ | ⟨g, cap, cur, rfl, _, _, h1, h2, _⟩
  · exact absurd (List.length_eq_zero_iff.1 h0) hne
  · exact ⟨g, cap, rfl, h1, h2⟩
theorem fls_row {B : Nat} {W : World} {g cap : Nat} {fs : List (Nat × Bool)} (h : Fls B W (.slice (some ⟨g, 0, none⟩) fs.length cap) fs) (i : Nat) (hi : i < fs.length) : W.cell? ⟨g, i, none⟩ = some (.pointer (some ⟨fs[i].1, 0, none⟩)) := by
  have := (row_cells h.row).2.2 i (ptrV fs[i]) (by rw [List.getElem?_map, List.getElem?_eq_getElem hi]; rfl)
  cases i with
  | zero => exact this
  | succ i => simpa [Addr.add] using this
theorem fls_flt {B : Nat} {W : World} {fv : Value} {fs : List (Nat × Bool)} (h : Fls B W fv fs) (i : Nat) (hi : i < fs.length) : W.heap[fs[i].1]? = some (.cells (fltC fs[i].2) 62 (0, 0)) := (h.flt fs[i] (List.getElem_mem hi)).2
theorem flt_cells {W : World} {fb : Nat} {k : Bool} (h : W.heap[fb]? = some (.cells (fltC k) 62 (0, 0))) :
    W.cell? ⟨fb, 0, none⟩ = some (if k then .func (.func 58) #[] #[] else .func (.func 56) #[] #[]) ∧ W.cell? ⟨fb, 1, none⟩ = some (if k then .func (.func 59) #[] #[] else .func (.func 57) #[] #[]) := by
  cases k
  · exact ⟨by simp only [World.cell?, h]; rfl, by simp only [World.cell?, h]; rfl⟩
  · exact ⟨by simp only [World.cell?, h]; rfl, by simp only [World.cell?, h]; rfl⟩
theorem kp_then' {w W W' : World} {D : List Nat} (k : Kp D w W) (h : Below W.heap.size W W') : Kp D w W' := k.from ((kp_of_below h).mono (by simp))
def PP.leaveF (p : PP) (fs : List (Nat × Bool)) (n : Nat) : PP := { p with buffer := p.buffer.drop n, fin := p.fin - n, gone := p.gone ++ enc fs (p.buffer.take n) }
/-- What holds at the loop's head of leave. -/
def LvR (B : Nat) (W : World) (b : Nat) (p : PP) (fs : List (Nat × Bool)) (s0 : Bs) (v4 v5 : Value) (wr : World) : Prop := ∃ i : Nat, i ≤ fs.length ∧ v5 = .int .i64 ((i : Int) - 1) ∧ v4 = .string ⟨(enc (fs.drop i) s0).toArray⟩ ∧ PAt wr b p ∧ Fls B wr p.fv fs ∧ Kp [b] W wr

set_option maxRecDepth 100000 in
set_option maxHeartbeats 1600000 in
theorem leave_f {B : Nat} {W : World} {b : Nat} {p : PP} {fs : List (Nat × Bool)} (h : PAt W b p) (hF : Fls B W p.fv fs) (hne : fs ≠ []) (h3 : fs.length ≤ 3) (n : Nat) (hn : n ≤ p.buffer.length) (hl : p.buffer.length ≤ 100000) (hg : p.gone.length ≤ 1000000) (hfi : p.fin ≤ 100000) :
    Calls Tryd.prog 33 #[.pointer (some ⟨b, 0, none⟩), .int .i64 (n : Int)] W fun e w' => e = .returned (.tuple #[]) ∧ PAt w' b (p.leaveF fs n) ∧ Fls B w' p.fv fs ∧ Kp [b] W w' := by
  obtain ⟨g, cap, hfv, hfc, hcm⟩ := fls_cell hF hne
  unfold maxLen at hcm
  have c10 := h.c10; have c12 := h.c12; have c4 := h.c4; have f10 := h.fz 10; have f12 := h.fz 12
  rw [hfv] at c4
  have hmx : max (0 : Int) ((p.fin : Int) - (n : Int)) = ((p.fin - n : Nat) : Int) := by omega
  have hw0 : (0 : Int) ≤ (n : Int) := by omega
  have hnI : (n : Int) ≤ (p.buffer.length : Int) := by omega
  have hL : 0 < fs.length := List.length_pos_iff.2 hne
  obtain ⟨p1, hp1⟩ : ∃ p1 : PP, p1 = { p with buffer := p.buffer.drop n, fin := p.fin - n } := ⟨_, rfl⟩
  have hP1 : PAt ((W.setCell ⟨b, 10, none⟩ (.string ⟨(p.buffer.drop n).toArray⟩)).setCell ⟨b, 12, none⟩ (.int .i64 ((p.fin - n : Nat) : Int))).drew b p1 := by
    rw [hp1]
    exact (h.set 10 _ { p with buffer := p.buffer.drop n } rfl).set 12 _ { p with buffer := p.buffer.drop n, fin := p.fin - n } rfl
  have hK1 := (kp2 (w := W) (b := b) 10 12 (.string ⟨(p.buffer.drop n).toArray⟩) (.int .i64 ((p.fin - n : Nat) : Int))).drew
  have hfv1 : p1.fv = p.fv := by rw [hp1]
  have hF1 := hF.keep hK1 (fun d hd => by simp at hd; subst hd; exact ⟨p, h⟩)
  have hs0 : (p.buffer.take n).length ≤ 100000 := by simp; omega
  have hg1 : p1.gone = p.gone := by rw [hp1]
  have hPE : p.leaveF fs n = { p1 with gone := p1.gone ++ enc fs (p.buffer.take n) } := by rw [hp1]; rfl
  rw [hPE, ← hfv1]
  rw [← hfv1] at hF1 hfv
  rw [← hg1] at hg
  have HFV := Lib.hid hfv
  have HX := Lib.hid (And.intro hP1 (And.intro hF1 hK1))
  obtain ⟨s0, hs⟩ : ∃ s0, p.buffer.take n = s0 := ⟨_, rfl⟩
  rw [hs] at hs0 ⊢
  have HS0 := Lib.hid hs
  clear h hF hfv hne hp1 hfv1 hg1 hPE hs hP1 hK1 hF1
  go_enter Tryd.func33, Tryd.ntmps33
  go_wp2
  go_region
  go_wp2
  rw [HS0.out]
  clear c10 c12 c4 f10 f12 hmx hw0 hnI
  go_loopw [4, 5] (fun v4 v5 wr => LvR B W b p1 fs s0 v4 v5 wr) (fun _ v5 _ => (intOf v5 + 1).toNat)
  case atStart => exact ⟨fs.length, Nat.le_refl _, rfl, by rw [List.drop_length]; rfl, HX.out.1, HX.out.2.1, HX.out.2.2⟩
  case round =>
    clear HX
    obtain ⟨i, hi, rfl, rfl, hP, hF, hK⟩ := hrel
    have c4 := hP.c4; have c11 := hP.c11; have f11 := hP.fz 11
    rw [HFV.out] at c4
    have hshort := enc_short fs s0 h3 i
    cases i with
    | zero =>
      have hov : ¬ (9223372036854775807 < p1.gone.length + (enc fs s0).length) := by rw [List.drop_zero] at hshort; omega
      have H := Lib.hid (And.intro hP (And.intro hF hK))
      clear hP hF hK hshort
      rw [List.drop_zero]
      rw [show (((0 : Nat) : Int) - 1) = -1 from rfl]
      obtain ⟨s, hsE⟩ : ∃ s, enc fs s0 = s := ⟨_, rfl⟩
      rw [hsE] at hov ⊢
      have HSE := Lib.hid hsE
      clear hsE
      go_wp2
      go_end0
      have hk2 := (Kp.refl [b] wr).setCell b 11 (.string ⟨(p1.gone ++ s).toArray⟩) (.inl (by simp))
      rw [HSE.out]
      refine ⟨rfl, H.out.1.set 11 _ { p1 with gone := p1.gone ++ s } rfl, H.out.2.1.keep hk2 (fun d hd => by simp at hd; subst hd; exact ⟨p1, H.out.1⟩), H.out.2.2.from hk2⟩
    | succ k =>
      have hF' := hF
      rw [HFV.out] at hF'
      have r1 := fls_row hF' k (by omega)
      have r2 := (flt_cells (fls_flt hF k (by omega))).2
      have hea := enc_at fs s0 k (by omega)
      have hsh2 := enc_short fs s0 h3 (k + 1)
      have hkc : (k : Int) < (cap : Int) := by omega
      have hkl : (k : Int) < (fs.length : Int) := by omega
      have hk0 : (0 : Int) ≤ (k : Int) := by omega
      have e1 : (((k + 1 : Nat) : Int) - 1) = (k : Int) := by omega
      obtain ⟨x, hx⟩ : ∃ x, fs[k]'(by omega) = x := ⟨_, rfl⟩
      rw [hx] at r1 r2 hea
      obtain ⟨fb, kk⟩ := x
      have HEA := Lib.hid hea
      have H := Lib.hid (And.intro hP (And.intro hF hK))
      have HI := Lib.hid hi
      clear hP hF hK hea hF' hx hi hshort
      rw [e1]
      simp only at r1 r2
      have hs2l : (enc (fs.drop (k + 1)) s0).length ≤ 1000000 := by omega
      generalize enc (fs.drop (k + 1)) s0 = s2 at *
      cases kk
      · simp only [Bool.false_eq_true, if_false] at r2
        go_wp2_with (go_at_call 57; refine (rot_any s2 hs2l _).mono ?_; rintro e w1 ⟨rfl, hb1⟩; skip)
        go_roundw
        case rel => exact ⟨k, by have := HI.out; omega, rfl, by rw [HEA.out]; rfl, H.out.1.below hb1 H.out.1.lt, H.out.2.1.below hb1, kp_then' H.out.2.2 hb1⟩
        case measure => simp [intOf]
      · simp only [if_true] at r2
        go_wp2_with (go_at_call 59; refine (hex_any s2 hs2l _).mono ?_; rintro e w1 ⟨rfl, hb1⟩; skip)
        go_roundw
        case rel => exact ⟨k, by have := HI.out; omega, rfl, by rw [HEA.out]; rfl, H.out.1.below hb1 H.out.1.lt, H.out.2.1.below hb1, kp_then' H.out.2.2 hb1⟩
        case measure => simp [intOf]
end Go.Proofs.YtafohdmhjilleaaDoor
