/- A pipe with filters: Flush, Write, Feed. -/
import Derived.Test.YtafohdmhjilleaaDoorPFilt
namespace Go.Proofs.YtafohdmhjilleaaDoor
set_option linter.unusedVariables false
set_option linter.unusedSimpArgs false
open Go.RowKit Go.Shelf
attribute [local go_sem] ba_append

theorem leave_pf {B : Nat} {W : World} {b : Nat} {p : PP} {fs : List (Nat × Bool)} (h : PAt W b p) (hF : Fls B W p.fv fs) (hnil : fs = [] → p.fv = .slice none 0 0) (h3 : fs.length ≤ 3) (n : Nat) (hn : n ≤ p.buffer.length) (hl : p.buffer.length ≤ 100000) (hg : p.gone.length ≤ 1000000) (hfi : p.fin ≤ 100000) :
    Calls Tryd.prog 33 #[.pointer (some ⟨b, 0, none⟩), .int .i64 (n : Int)] W fun e w' => e = .returned (.tuple #[]) ∧ PAt w' b (p.leaveF fs n) ∧ Fls B w' p.fv fs ∧ Kp [b] W w' := by
  by_cases h0 : fs = []
  · subst h0
    exact (leave_plain h n hn (by omega) (hnil rfl) (by omega) (by omega)).mono fun e w' ⟨h1, h2, h3⟩ => ⟨h1, h2, hF.keep h3 (fun d hd => by simp at hd; subst hd; exact ⟨p, h⟩), h3⟩
  · exact leave_f h hF h0 h3 n hn hl hg hfi
set_option maxRecDepth 100000 in
theorem Flush_pf {B : Nat} {W : World} {b : Nat} {p : PP} {fs : List (Nat × Bool)} (h : PAt W b p) (hF : Fls B W p.fv fs) (hnil : fs = [] → p.fv = .slice none 0 0) (h3 : fs.length ≤ 3) (hl : p.buffer.length ≤ 100000) (hg : p.gone.length ≤ 1000000) (hfi : p.fin ≤ 100000) :
    Calls Tryd.prog 13 #[.pointer (some ⟨b, 0, none⟩)] W fun e w' => e = .returned (.int .i64 0) ∧ PAt w' b (p.leaveF fs p.buffer.length) ∧ Fls B w' p.fv fs ∧ Kp [b] W w' := by
  have c10 := h.c10
  have HL := Lib.hid (leave_pf h hF hnil h3 p.buffer.length (Nat.le_refl _) hl hg hfi)
  have hN := fun W => ptr_nil W b
  clear h hF hnil
  go_enter Tryd.func13, Tryd.ntmps13
  go_wp2_with (go_at_call 33; refine HL.out.mono ?_; rintro e w1 ⟨rfl, h1, hf1, hk1⟩)
  go_ret
  exact ⟨rfl, h1, hf1, hk1⟩
theorem fls_shape {B : Nat} {W : World} {fv : Value} {fs : List (Nat × Bool)} (h : Fls B W fv fs) : ∃ o n c, fv = .slice o n c := by
  rcases h.row.2 with ⟨h0, _⟩ | ⟨g, cap, cur, rfl, _⟩
  · exact ⟨_, _, _, h0⟩
  · exact ⟨_, _, _, rfl⟩
/-- A pipe behind Write, at the buffering "full". -/
def PP.writeF (p : PP) (fs : List (Nat × Bool)) (s : Bs) : PP := if p.size ≤ (p.put s).buffer.length then (p.put s).leaveF fs (p.put s).buffer.length else p.put s
set_option maxRecDepth 100000 in
set_option maxHeartbeats 1600000 in
theorem Write_pf {B : Nat} {w : World} {b : Nat} {p : PP} {fs : List (Nat × Bool)} (h : PAt w b p) (hF : Fls B w p.fv fs) (hnil : fs = [] → p.fv = .slice none 0 0) (h3 : fs.length ≤ 3) (hM : MaxIs w) (s : Bs) (hm : isOutM p.outm = true) (hs : s.length ≤ 1000) (hb : p.buffer = []) (hg : p.gone = []) (hfi : p.fin = 0) (hbm : p.buf = fullM) :
    Calls Tryd.prog 11 #[.pointer (some ⟨b, 0, none⟩), .string ⟨s.toArray⟩] w fun e w' => e = .returned (.int .i64 0) ∧ PAt w' b (p.writeF fs s) ∧ Fls B w' p.fv fs ∧ Kp [b] w w' := by
  have hD : ∀ {W : World} {q : PP}, PAt W b q → ∀ d ∈ [b], ∃ p, PAt W d p := fun {W q} hq d hd => by simp at hd; subst hd; exact ⟨q, hq⟩
  have HA : Hid (∀ o, PAt (w.alloc o) b p ∧ MaxIs (w.alloc o) ∧ Fls B (w.alloc o) p.fv fs ∧ Kp [b] w (w.alloc o)) := fun o =>
    have hb := (Below.refl w.heap.size w).alloc (Nat.le_refl _) o
    ⟨h.below hb h.lt, hM.below hb hM.pos, hF.below hb, kp_below hb⟩
  have hlen := (outM_len p.outm s).2
  have hqb : (p.put s).buffer.length ≤ 2000 := by simp [PP.put, hb]; omega
  have hqg : (p.put s).gone = [] := hg
  have hqf : (p.put s).fin ≤ 2000 := by have := put_fin p s (by rw [hfi]; exact Nat.zero_le _); omega
  have hqv : (p.put s).fv = p.fv := rfl
  have hq3 : (p.put s).size = p.size := rfl
  have hq2 : (p.put s).buf = p.buf := rfl
  have PUT : Hid (∀ W, PAt W b p → MaxIs W → Fls B W p.fv fs → Calls Tryd.prog 32 #[.pointer (some ⟨b, 0, none⟩), .string ⟨s.toArray⟩] W fun e w' => e = .returned (.tuple #[]) ∧ PAt w' b (p.put s) ∧ Fls B w' (p.put s).fv fs ∧ Kp [b] W w') := fun W h1 h2 h4 => (put_any h1 h2 s hm (by omega) (by rw [hb]; simp)).mono fun e w' ⟨g1, g2, g3⟩ => ⟨g1, g2, h4.keep g3 (hD h1), g3⟩
  have tl : (p.buf == ([108, 105, 110, 101] : Bs)) = false := by rw [hbm]; rfl
  have tn : (p.buf == ([110, 111, 110, 101] : Bs)) = false := by rw [hbm]; rfl
  have c0 := h.c0; have c1 := h.c1; have c2 := h.c2; have c3 := h.c3; have c4 := h.c4; have c5 := h.c5; have c6 := h.c6; have c7 := h.c7; have c8 := h.c8; have c9 := h.c9; have c10 := h.c10; have c11 := h.c11; have c12 := h.c12
  obtain ⟨fo, fn, fc, hfv⟩ := fls_shape hF
  rw [hfv] at c4
  have hN := fun W => ptr_nil W b
  have HW : Hid (p.writeF fs s = if p.size ≤ (p.put s).buffer.length then (p.put s).leaveF fs (p.put s).buffer.length else p.put s) := rfl
  rw [HW.out]
  rw [← hqv] at hnil
  have HV := Lib.hid hqv
  clear h hM hm hb hg hfi hbm HW hlen hF hqv hfv
  generalize p.put s = q at *
  have LV2 : Hid (∀ W, PAt W b q → Fls B W q.fv fs → Calls Tryd.prog 33 #[.pointer (some ⟨b, 0, none⟩), .int .i64 (q.buffer.length : Int)] W fun e w' => e = .returned (.tuple #[]) ∧ PAt w' b (q.leaveF fs q.buffer.length) ∧ Fls B w' q.fv fs ∧ Kp [b] W w') := fun W h1 h2 => leave_pf h1 h2 hnil h3 q.buffer.length (Nat.le_refl _) (by omega) (by rw [hqg]; simp) (by omega)
  have hzl := enc_short fs (q.buffer.take q.buffer.length) h3 0
  rw [List.take_length, List.drop_zero] at hzl
  have hz1 : (q.leaveF fs q.buffer.length).gone.length ≤ 20000 := by simp only [PP.leaveF, hqg, List.nil_append, List.take_length]; omega
  have hz2 : (q.leaveF fs q.buffer.length).buffer.length ≤ 2000 := by simp [PP.leaveF]
  have hqg2 : q.gone.length ≤ 0 := by rw [hqg]; simp
  generalize q.leaveF fs q.buffer.length = z at *
  clear hnil hqg hzl
  by_cases hsz : p.size ≤ q.buffer.length
  · have ts : decide (p.size ≤ (q.buffer.length : Int)) = true := by simpa using hsz
    rw [if_pos hsz]
    clear hsz
    go_enter Tryd.func11, Tryd.ntmps11
    go_wp2_with (go_at_call 32; refine (PUT.out _ (HA.out _).1 (HA.out _).2.1 (HA.out _).2.2.1).mono ?_; rintro e w1 ⟨rfl, h1, hf1, k1⟩; have H := Lib.hid (And.intro h1 (And.intro hf1 ((HA.out _).2.2.2.from k1))); clear hf1 k1 c0 c1 c2 c3 c4 c5 c6 c7 c8 c9 c10 c11 c12; have c2 := h1.c2; have c3 := h1.c3; have c10 := h1.c10; have c11 := h1.c11; have c12 := h1.c12; rw [hq2] at c2; rw [hq3] at c3; clear h1)
    go_quiet (fail)
    replace H := Lib.hid (And.intro (show PAt (World.drewN _ nq) b _ from H.out.1) (And.intro (H.out.2.1.keep ((Kp.refl [] _).drewN nq) (by simp)) (H.out.2.2.drewN nq)))
    go_wp2_with ((go_at_call 33; refine (LV2.out _ H.out.1 H.out.2.1).mono ?_; rintro e w3 ⟨rfl, h1, hf1, k1⟩; replace H := Lib.hid (And.intro h1 (And.intro hf1 (H.out.2.2.from k1))); clear k1 hf1 LV2 c2 c3 c10 c11 c12; have c2 := h1.c2; have c3 := h1.c3; have c10 := h1.c10; have c11 := h1.c11; have c12 := h1.c12; clear h1))
    go_ret
    exact ⟨rfl, H.out.1, HV.out ▸ H.out.2.1, H.out.2.2⟩
  · have ts : decide (p.size ≤ (q.buffer.length : Int)) = false := by simpa using hsz
    rw [if_neg hsz]
    clear hsz
    go_enter Tryd.func11, Tryd.ntmps11
    go_wp2_with (go_at_call 32; refine (PUT.out _ (HA.out _).1 (HA.out _).2.1 (HA.out _).2.2.1).mono ?_; rintro e w1 ⟨rfl, h1, hf1, k1⟩; have H := Lib.hid (And.intro h1 (And.intro hf1 ((HA.out _).2.2.2.from k1))); clear hf1 k1 c0 c1 c2 c3 c4 c5 c6 c7 c8 c9 c10 c11 c12; have c2 := h1.c2; have c3 := h1.c3; have c10 := h1.c10; have c11 := h1.c11; have c12 := h1.c12; rw [hq2] at c2; rw [hq3] at c3; clear h1)
    go_quiet (fail)
    replace H := Lib.hid (And.intro (show PAt (World.drewN _ nq) b _ from H.out.1) (And.intro (H.out.2.1.keep ((Kp.refl [] _).drewN nq) (by simp)) (H.out.2.2.drewN nq)))
    go_wp2_with (fail)
    go_ret
    exact ⟨rfl, H.out.1, HV.out ▸ H.out.2.1, H.out.2.2⟩

theorem filterOf1_any (l : Bs) (hl : l.length ≤ 1000000) (v : Value) (w : World) :
    Calls Tryd.prog 56 #[v, .string ⟨l.toArray⟩] w fun e w' => e = .returned (.tuple #[.string ⟨(l.map rotB).toArray⟩, .bool true]) ∧ Below w.heap.size w w' := by
  go_enter Tryd.func56, Tryd.ntmps56
  go_wp2_with (go_at_call 57; refine (rot_any l hl _).mono ?_; rintro e w1 ⟨rfl, hb1⟩; skip)
  go_ret2
  exact ⟨rfl, hb1⟩
theorem map_rot (l : Bs) : (l.map rotB).map rotB = l := by
  rw [List.map_map]
  conv => rhs; rw [← List.map_id l]
  exact List.map_congr_left fun c _ => rot_rot c
/-- What holds at the loop's head of Feed. -/
def FdR (B : Nat) (W : World) (b : Nat) (p : PP) (fs : List (Nat × Bool)) (s0 : Bs) (v1 v5 v30 : Value) (wr : World) : Prop := ∃ i : Nat, i ≤ fs.length ∧ v30 = .int .i64 (i : Int) ∧ v5 = .bool true ∧ v1 = .string ⟨(enc (fs.drop i) s0).toArray⟩ ∧ PAt wr b p ∧ Fls B wr p.fv fs ∧ Kp [b] W wr
set_option maxRecDepth 100000 in
set_option maxHeartbeats 1600000 in
theorem Feed_f {B : Nat} {w : World} {b : Nat} {p : PP} {fs : List (Nat × Bool)} (h : PAt w b p) (hF : Fls B w p.fv fs) (hne : fs ≠ []) (h3 : fs.length ≤ 3) (s0 : Bs) (hc : p.closed = false) (hb : p.broken = false) (hs : s0.length ≤ 10000) (hr : p.raw.length ≤ 1000000) :
    Calls Tryd.prog 17 #[.pointer (some ⟨b, 0, none⟩), .string ⟨(enc fs s0).toArray⟩] w fun e w' => e = .returned (.int .i64 0) ∧ PAt w' b (p.feed s0) ∧ Fls B w' p.fv fs ∧ Kp [b] w w' := by
  obtain ⟨g, cap, hfv, hfc, hcm⟩ := fls_cell hF hne
  unfold maxLen at hcm
  have c6 := h.c6; have c4 := h.c4; have c7 := h.c7
  rw [hc] at c6
  rw [hb] at c7
  rw [hfv] at c4
  have HFV := Lib.hid hfv
  have H := Lib.hid (And.intro h hF)
  have HP := Lib.hid (fresh_any h)
  have hN := fun W => ptr_nil W b
  have hL : 0 < fs.length := List.length_pos_iff.2 hne
  have hP1 : Hid (PAt ((w.setCell ⟨b, 8, none⟩ (.bool false)).setCell ⟨b, 9, none⟩ (.bool false)) b p.fresh) := (h.set 8 _ { p with eof := false } rfl).set 9 _ { p with eof := false, blocked := false } rfl
  have hK1 : Hid (Kp [b] w ((w.setCell ⟨b, 8, none⟩ (.bool false)).setCell ⟨b, 9, none⟩ (.bool false))) := kp2 _ _ _ _
  have hF1 : Hid (Fls B ((w.setCell ⟨b, 8, none⟩ (.bool false)).setCell ⟨b, 9, none⟩ (.bool false)) p.fresh.fv fs) := hF.keep hK1.out (fun d hd => by simp at hd; subst hd; exact ⟨p, h⟩)
  have HPE : Hid (p.feed s0 = { p.fresh with raw := p.fresh.raw ++ s0 }) := rfl
  have HE : Hid (p.fv = p.fresh.fv) := rfl
  have hr1 : p.fresh.raw.length ≤ 1000000 := hr
  have HB1 : Hid (p.fresh.broken = false) := hb
  rw [HPE.out, HE.out]
  rw [HE.out] at HFV
  clear h hF hne hfv hc hb HPE HE H hr
  generalize p.fresh = p1 at *
  go_enter Tryd.func17, Tryd.ntmps17
  go_wp2_with (go_at_call 35; refine HP.out.mono ?_; rintro e w1 ⟨rfl, rfl⟩)
  clear c4 c6 c7 HP
  go_loopw [1, 5, 30] (fun v1 v5 v30 wr => FdR B w b p1 fs s0 v1 v5 v30 wr) (fun _ _ v30 _ => fs.length - (intOf v30).toNat)
  case atStart => exact ⟨0, Nat.zero_le _, rfl, rfl, rfl, hP1.out, hF1.out, hK1.out⟩
  case round =>
    clear hP1 hF1 hK1
    obtain ⟨i, hi, rfl, rfl, rfl, hP, hF, hK⟩ := hrel
    have c5 := hP.c5; have f5 := hP.fz 5
    by_cases hlt : i < fs.length
    · have hF' := hF
      rw [HFV.out] at hF'
      have r1 := fls_row hF' i hlt
      have r2 := (flt_cells (fls_flt hF i hlt)).1
      have r3 := fls_flt hF i hlt
      have hea := enc_at fs s0 i hlt
      have hsh2 := enc_short fs s0 h3 (i + 1)
      have hic : (i : Int) < (cap : Int) := by omega
      obtain ⟨x, hx⟩ : ∃ x, fs[i] = x := ⟨_, rfl⟩
      rw [hx] at r1 r2 r3 hea
      obtain ⟨fb, kk⟩ := x
      have H := Lib.hid (And.intro hP (And.intro hF hK))
      have R3 := Lib.hid r3
      rw [hea]
      clear hP hF hK hea hF' hx r3
      simp only at r1 r2 R3
      have hs2l : (enc (fs.drop (i + 1)) s0).length ≤ 100000 := by omega
      have HG : Hid (∀ v1 v5 v30 wr', v1 = .string ⟨(enc (fs.drop (i + 1)) s0).toArray⟩ → v5 = .bool true → v30 = .int .i64 ((i + 1 : Nat) : Int) → PAt wr' b p1 → Fls B wr' p1.fv fs → Kp [b] w wr' → FdR B w b p1 fs s0 v1 v5 v30 wr') := fun v1 v5 v30 wr' e1 e5 e30 g1 g2 g3 => ⟨i + 1, hlt, e30, e5, e1, g1, g2, g3⟩
      generalize enc (fs.drop (i + 1)) s0 = s2 at *
      cases kk
      · simp only [Bool.false_eq_true, if_false] at r2
        rw [show outF false s2 = s2.map rotB from rfl]
        have HF1 : Hid (∀ v W, Calls Tryd.prog 56 #[v, .string ⟨(s2.map rotB).toArray⟩] W fun e w' => e = .returned (.tuple #[.string ⟨s2.toArray⟩, .bool true]) ∧ Below W.heap.size W w') := fun v W => by have := filterOf1_any (s2.map rotB) (by simp; omega) v W; rwa [map_rot] at this
        generalize s2.map rotB = s3 at *
        go_wp2_with (go_at_call 56; refine (HF1.out _ _).mono ?_; rintro e w1 ⟨rfl, hb1⟩; skip)
        go_roundw
        case rel => exact HG.out _ _ _ _ rfl rfl (by go_num) (H.out.1.below hb1 H.out.1.lt) (H.out.2.1.below hb1) (kp_then' H.out.2.2 hb1)
        case measure => simp [intOf]; omega
      · simp only [if_true] at r2
        rw [show outF true s2 = hexS s2 from rfl]
        have HF1 : Hid (∀ W, W.heap[fb]? = some (.cells (hexF []) 62 (0, 0)) → Calls Tryd.prog 58 #[.pointer (some ⟨fb, 0, none⟩), .string ⟨(hexS s2).toArray⟩] W fun e w' => e = .returned (.tuple #[.string ⟨s2.toArray⟩, .bool true]) ∧ Below W.heap.size W w') := fun W hW => unhex_any s2 hs2l fb W hW
        generalize hexS s2 = s3 at *
        go_wp2_with (go_at_call 58; refine (HF1.out _ R3.out).mono ?_; rintro e w1 ⟨rfl, hb1⟩; skip)
        go_roundw
        case rel => exact HG.out _ _ _ _ rfl rfl (by go_num) (H.out.1.below hb1 H.out.1.lt) (H.out.2.1.below hb1) (kp_then' H.out.2.2 hb1)
        case measure => simp [intOf]; omega
    · obtain rfl : i = fs.length := by omega
      have H := Lib.hid (And.intro hP (And.intro hF hK))
      clear hP hF hK
      rw [List.drop_length, show enc [] s0 = s0 from rfl]
      go_wp2
      go_ret
      have hk2 := (Kp.refl [b] wr).setCell b 5 (.string ⟨(p1.raw ++ s0).toArray⟩) (.inl (by simp))
      exact ⟨rfl, H.out.1.set 5 _ { p1 with raw := p1.raw ++ s0 } rfl, H.out.2.1.keep hk2 (fun d hd => by simp at hd; subst hd; exact ⟨p1, H.out.1⟩), H.out.2.2.from hk2⟩
theorem Feed_pf {B : Nat} {w : World} {b : Nat} {p : PP} {fs : List (Nat × Bool)} (h : PAt w b p) (hF : Fls B w p.fv fs) (hnil : fs = [] → p.fv = .slice none 0 0) (h3 : fs.length ≤ 3) (s0 : Bs) (hc : p.closed = false) (hb : p.broken = false) (hs : s0.length ≤ 10000) (hr : p.raw.length ≤ 1000000) :
    Calls Tryd.prog 17 #[.pointer (some ⟨b, 0, none⟩), .string ⟨(enc fs s0).toArray⟩] w fun e w' => e = .returned (.int .i64 0) ∧ PAt w' b (p.feed s0) ∧ Fls B w' p.fv fs ∧ Kp [b] w w' := by
  by_cases h0 : fs = []
  · subst h0
    exact (Feed_plain h s0 hc hb (hnil rfl) (by omega) hr).mono fun e w' ⟨h1, h2, h3⟩ => ⟨h1, h2, hF.keep h3 (fun d hd => by simp at hd; subst hd; exact ⟨p, h⟩), h3⟩
  · exact Feed_f h hF h0 h3 s0 hc hb hs hr
end Go.Proofs.YtafohdmhjilleaaDoor
