/- Write of a pipe (without filters). -/
import Derived.Test.YtafohdmhjilleaaDoorPRead
import Derived.IntWalk
namespace Go.Proofs.YtafohdmhjilleaaDoor
set_option linter.unusedVariables false
set_option linter.unusedSimpArgs false
open Go.RowKit Go.Shelf

theorem ba_append (a b : Bs) : (⟨a.toArray⟩ : ByteArray) ++ ⟨b.toArray⟩ = ⟨(a ++ b).toArray⟩ := by
  apply ByteArray.ext
  simp
attribute [local go_sem] ba_append wide_fn
/-- The place of the last line feed; -1 if there is none. -/
def lastT (s : Bs) : Int := Lib.lastIndexByte ⟨s.toArray⟩ 10
theorem lastT_spec (s : Bs) : (lastT s = -1 ∧ (10 : UInt8) ∉ s) ∨ ∃ i : Nat, i < s.length ∧ lastT s = i ∧ (10 : UInt8) ∉ s.drop (i + 1) := by
  have hg : ∀ j (h : j < s.length), (⟨s.toArray⟩ : ByteArray).data[j]! = s[j] := fun j h => by simp [h]
  rcases Lib.lastIdx_spec ⟨s.toArray⟩ 10 s.length with ⟨h1, h2⟩ | ⟨i, hi, h1, h2, h3⟩
  · left
    refine ⟨h1, fun hm => ?_⟩
    obtain ⟨j, hj, he⟩ := List.getElem_of_mem hm
    have := h2 j hj
    rw [hg j hj, he] at this
    exact this rfl
  · right
    refine ⟨i, hi, h1, fun hm => ?_⟩
    obtain ⟨j, hj, he⟩ := List.getElem_of_mem hm
    simp at hj
    have h4 : i + 1 + j < s.length := by omega
    have := h3 (i + 1 + j) (by omega) h4
    rw [hg _ h4] at this
    rw [List.getElem_drop] at he
    rw [he] at this
    exact this rfl

set_option maxRecDepth 100000 in
theorem Last_ten (s : Bs) (hs : s.length ≤ 100000000) (w : World) : Calls Tryd.prog 48 #[.string ⟨#[10]⟩, .string ⟨s.toArray⟩, .int .i64 (s.length : Int)] w fun e w' => e = .returned (.int .i64 (lastT s)) ∧ w = w' := by
  have HL : Hid (∀ W, Calls Tryd.prog 60 #[.string ⟨s.toArray⟩, .string ⟨#[10]⟩] W fun e w' => e = .returned (.int .i64 (lastT s)) ∧ w' = W) := fun W => Tryd.strings_LastIndex_one ⟨s.toArray⟩ ⟨#[10]⟩ rfl (by show s.length < _; omega) W
  have t1 : decide ((s.length : Int) < 0) = false := by simp <;> omega
  have t2 : decide ((s.length : Int) < (s.length : Int) - 1) = false := by simp <;> omega
  go_enter Tryd.func48, Tryd.ntmps48
  go_wp2_with (go_at_call 60; refine (HL.out _).mono ?_; rintro e w' ⟨rfl, rfl⟩)
  go_ret
  exact ⟨rfl, rfl⟩

/-- A text put into the buffer. -/
def PP.put (p : PP) (s : Bs) : PP := { p with buffer := p.buffer ++ outM p.outm s, fin := if 0 ≤ lastT s then (p.buffer ++ outM p.outm s).length - (s.length - ((lastT s).toNat + 1)) else p.fin }
section
variable {w : World} {b : Nat} {p : PP}
theorem put_fin (p : PP) (s : Bs) (h : p.fin ≤ p.buffer.length) : (p.put s).fin ≤ (p.put s).buffer.length := by
  simp only [PP.put]
  split
  · omega
  · simp; omega

def PutP (w : World) (b : Nat) (p : PP) (W : World) : Prop := PAt W b p ∧ MaxIs W ∧ Kp [b] w W
theorem put_held {w : World} {b : Nat} {p : PP} {f : FuncId} {args : Array Value} {v : Value} {r : Nat} (h : ∀ W, MaxIs W → Calls Tryd.prog f args W fun e w' => e = .returned v ∧ Below W.heap.size W w') {x : HeldP (PutP w b p)} :
    CallsIn Fence.wide r Tryd.prog f args x.val fun e w'' => e = .returned v ∧ ∃ y : HeldP (PutP w b p), w'' = y.val := by
  obtain ⟨W, h1, h2, h3⟩ := x
  refine heldP_call (x := ⟨W, h1, h2, h3⟩) (callsIn_wide.2 ((h W h2).mono ?_))
  rintro e w' ⟨rfl, hb⟩
  exact ⟨rfl, h1.below hb h1.lt, h2.below hb h2.pos, h3.from (kp_below hb)⟩
set_option maxRecDepth 100000 in
set_option maxHeartbeats 1600000 in
theorem put_any (h : PAt w b p) (hM : MaxIs w) (s : Bs) (hm : isOutM p.outm = true) (hs : s.length ≤ 1000000) (hl : p.buffer.length ≤ 1000000) :
    Calls Tryd.prog 32 #[.pointer (some ⟨b, 0, none⟩), .string ⟨s.toArray⟩] w fun e w' => e = .returned (.tuple #[]) ∧ PAt w' b (p.put s) ∧ Kp [b] w w' := by
  have c1 := h.c1; have c10 := h.c10; have f10 := h.fz 10
  have ho := outM_len p.outm s
  have hb0 := h.maxne hM
  have HO := Lib.hid (Outward_yes s p.outm hm (by omega) w hM)
  have HO2 : Hid (∀ W, MaxIs W → ∀ t, t.length ≤ 1000000 → Calls Tryd.prog 14 #[.string ⟨t.toArray⟩, .string ⟨p.outm.toArray⟩] W fun e w' => e = .returned (.tuple #[.string ⟨(outM p.outm t).toArray⟩, .int .i64 0]) ∧ Below W.heap.size W w') := fun W hW t ht => Outward_yes t p.outm hm (by omega) W hW
  have HL := Lib.hid (fun W => Last_ten s (by omega) W)
  have H := Lib.hid (And.intro h hM)
  rcases lastT_spec s with ⟨h1, h2⟩ | ⟨i, hi, h1, h2⟩
  · rw [h1] at HL
    have HP : Hid (p.put s = { p with buffer := p.buffer ++ outM p.outm s }) := by show _ = _; unfold PP.put; rw [if_neg (by omega)]
    rw [HP.out]
    clear h h1 h2 hm hM HO2
    generalize outM p.outm s = o at *
    go_enter Tryd.func32, Tryd.ntmps32
    go_wp2_with (first | (go_at_call 14; refine HO.out.mono ?_; rintro e w1 ⟨rfl, hb1⟩; have K := Lib.hid (kp_below (b := b) hb1); replace H := Lib.hid (H.out.1.below hb1 H.out.1.lt); have c10 := H.out.c10; have f10 := H.out.fz 10) | (go_at_call 48; refine (HL.out _).mono ?_; rintro e w' ⟨rfl, rfl⟩))
    go_end0
    exact ⟨rfl, H.out.set 10 _ { p with buffer := p.buffer ++ o } rfl, K.out.setCell b 10 _ (.inl (by simp))⟩
  · rw [h1] at HL
    have HP : Hid (p.put s = { p with buffer := p.buffer ++ outM p.outm s, fin := (p.buffer ++ outM p.outm s).length - (s.length - (i + 1)) }) := by show _ = _; unfold PP.put; rw [if_pos (by omega), h1]; rfl
    have hbe : (s.drop (i + 1)).length = s.length - (i + 1) := by simp
    have HO3 : Hid (∀ W, MaxIs W → Calls Tryd.prog 14 #[.string ⟨(s.drop (i + 1)).toArray⟩, .string ⟨p.outm.toArray⟩] W fun e w' => e = .returned (.tuple #[.string ⟨(s.drop (i + 1)).toArray⟩, .int .i64 0]) ∧ Below W.heap.size W w') := fun W hW => by
      have := HO2.out W hW (s.drop (i + 1)) (by omega)
      rwa [outM_same _ _ h2] at this
    have HI : Hid (i < s.length) := hi
    have i1 : (0 : Int) ≤ (i : Int) + 1 := by omega
    have i2 : (i : Int) + 1 ≤ (s.length : Int) := by omega
    have i3 : ((i : Int) + 1).toNat = i + 1 := by omega
    have hob : s.length - (i + 1) ≤ (p.buffer ++ outM p.outm s).length := by simp; omega
    have i4 : ((p.buffer.length : Int) + ((outM p.outm s).length : Int) - ((s.length - (i + 1) : Nat) : Int)) = (((p.buffer ++ outM p.outm s).length - (s.length - (i + 1)) : Nat) : Int) := by simp at hob ⊢; omega
    have HI4 := Lib.hid i4
    have iw : IntKind.i64.wrap ((i : Int) + 1) = (i : Int) + 1 := IntWalk.i64_in _ (by omega)
    rw [HP.out]
    clear h h1 h2 hm hM HO2 i4 HP
    generalize outM p.outm s = o at *
    go_enter Tryd.func32, Tryd.ntmps32
    go_wp2_with (first | (go_at_call 14; refine HO.out.mono ?_; rintro e w1 ⟨rfl, hb1⟩; have K := Lib.hid (kp_below (b := b) hb1); replace H := Lib.hid (And.intro (H.out.1.below hb1 H.out.1.lt) (H.out.2.below hb1 H.out.2.pos)); have c10 := H.out.1.c10; have f10 := H.out.1.fz 10; have d1 := H.out.1.c1) | (go_at_call 48; refine (HL.out _).mono ?_; rintro e w' ⟨rfl, rfl⟩))
    have H1 := Lib.hid (H.out.1.set 10 (.string ⟨(p.buffer ++ o).toArray⟩) { p with buffer := p.buffer ++ o } rfl)
    have K1 := Lib.hid (K.out.setCell b 10 (.string ⟨(p.buffer ++ o).toArray⟩) (.inl (by simp)))
    have M1 : Hid (MaxIs (w1.setCell ⟨b, 10, none⟩ (.string ⟨(p.buffer ++ o).toArray⟩))) := H.out.2.kp ((Kp.refl [b] w1).setCell b 10 _ (.inl (by simp))) (by simpa using hb0)
    clear c10 f10 d1 H HO K
    generalize w1.setCell ⟨b, 10, none⟩ (.string ⟨(p.buffer ++ o).toArray⟩) = w2 at *
    refine (wpIn_wide (n := 3)).1 ?_
    refine wpIn_region_heldP (PutP w b { p with buffer := p.buffer ++ o }) ⟨H1.out, M1.out, K1.out.drew⟩ rfl (by kernel_rfl) (by kernel_rfl) ?_
    haveI hne : Nonempty (HeldP (PutP w b { p with buffer := p.buffer ++ o })) := ⟨⟨w2, H1.out, M1.out, K1.out⟩⟩
    have cx : ∀ x : HeldP (PutP w b { p with buffer := p.buffer ++ o }), x.val.cell? ⟨b, 1, none⟩ = some (.string ⟨p.outm.toArray⟩) := fun x => x.is.1.c1
    repeat (gi_big_quiet_step ((gi_at_call 14; exact put_held HO3.out)))
    refine wpQuietIn_nil ?_
    rintro _ ⟨⟨w3, h3, m3, k3⟩, rfl⟩
    have c10 := h3.c10; have c12 := h3.c12; have f12 := h3.fz 12
    simp only at c10 c12
    have H3 := Lib.hid h3
    have K3' := Lib.hid k3
    clear h3 m3 k3 cx hne H1 M1 K1
    go_wp2
    go_end0
    refine ⟨rfl, ?_, K3'.out.setCell b 12 _ (.inl (by simp))⟩
    rw [HI4.out]
    exact H3.out.set 12 _ { p with buffer := p.buffer ++ o, fin := (p.buffer ++ o).length - (s.length - (i + 1)) } rfl
/-- A pipe behind Write (there is no filter, and the text has room). -/
def PP.write (p : PP) (s : Bs) : PP :=
  let q := if p.buf = lineM then (p.put s).leave (p.put s).fin else p.put s
  if p.buf = noneM ∨ p.size ≤ q.buffer.length then q.leave q.buffer.length else q
theorem cellOfP : Tryd.prog.cellsOf 52 = 13 := by kernel_rfl
/-- What Write leaves as it was, and its bounds. -/
structure POk (p r : PP) : Prop where
  buf : r.buf = p.buf
  size : r.size = p.size
  fv : r.fv = .slice none 0 0
  sum : r.buffer.length + r.gone.length ≤ 1200000
  fin : r.fin ≤ r.buffer.length
theorem POk.l1 {p r : PP} (h : POk p r) : r.buffer.length ≤ 100000000 := by have := h.sum; omega
theorem POk.l2 {p r : PP} (h : POk p r) : r.gone.length ≤ 100000000 := by have := h.sum; omega
theorem POk.l3 {p r : PP} (h : POk p r) : r.fin ≤ 100000000 := by have := h.sum; have := h.fin; omega
theorem POk.leave {p r : PP} (h : POk p r) (n : Nat) : POk p (r.leave n) := by
  have h1 := h.sum; have h2 := h.fin
  refine ⟨h.buf, h.size, h.fv, ?_, ?_⟩ <;> simp [PP.leave] <;> omega
theorem POk.put (p : PP) (s : Bs) (hs : s.length ≤ 100000) (hl : p.buffer.length + p.gone.length ≤ 1000000) (hf : p.fv = .slice none 0 0) (hfi : p.fin ≤ p.buffer.length) : POk p (p.put s) := by
  have h1 := (outM_len p.outm s).2
  refine ⟨rfl, rfl, hf, ?_, put_fin p s hfi⟩
  simp [PP.put]; omega
set_option maxRecDepth 100000 in
set_option maxHeartbeats 1600000 in
theorem write_l_z (h : PAt w b p) (hM : MaxIs w) (s : Bs) (hm : isOutM p.outm = true) (hs : s.length ≤ 100000) (hl : p.buffer.length + p.gone.length ≤ 1000000) (hf : p.fv = .slice none 0 0) (hfi : p.fin ≤ p.buffer.length) (hb1 : p.buf = lineM) (hb2 : ¬ p.buf = noneM) (hsz : p.size ≤ ((p.put s).leave (p.put s).fin).buffer.length) :
    Calls Tryd.prog 11 #[.pointer (some ⟨b, 0, none⟩), .string ⟨s.toArray⟩] w fun e w' => e = .returned (.int .i64 0) ∧ PAt w' b (p.write s) ∧ Kp [b] w w' := by
  have HA : Hid (∀ o, PAt (w.alloc o) b p ∧ MaxIs (w.alloc o) ∧ Kp [b] w (w.alloc o)) := fun o =>
    have hb := (Below.refl w.heap.size w).alloc (Nat.le_refl _) o
    ⟨h.below hb h.lt, hM.below hb hM.pos, kp_below hb⟩
  have PUT : Hid (∀ W, PAt W b p → MaxIs W → Calls Tryd.prog 32 #[.pointer (some ⟨b, 0, none⟩), .string ⟨s.toArray⟩] W fun e w' => e = .returned (.tuple #[]) ∧ PAt w' b (p.put s) ∧ Kp [b] W w') := fun W h1 h2 => put_any h1 h2 s hm (by omega) (by omega)
  have ok := POk.put p s hs hl hf hfi
  have HW : Hid (p.write s = (((p.put s).leave (p.put s).fin).leave ((p.put s).leave (p.put s).fin).buffer.length)) := by
    show _ = _
    unfold PP.write
    rw [if_pos hb1]
    simp only
    rw [if_pos (.inr hsz)]
  rw [HW.out]
  have tl : (p.buf == ([108, 105, 110, 101] : Bs)) = true := by rw [hb1]; rfl
  have tn : (p.buf == ([110, 111, 110, 101] : Bs)) = false := beq_eq_false_iff_ne.2 hb2
  have c0 := h.c0; have c1 := h.c1; have c2 := h.c2; have c3 := h.c3; have c4 := h.c4; have c5 := h.c5; have c6 := h.c6; have c7 := h.c7; have c8 := h.c8; have c9 := h.c9; have c10 := h.c10; have c11 := h.c11; have c12 := h.c12
  rw [hf] at c4
  have hN := fun W => ptr_nil W b
  clear h hM hm hl hf hfi hb1 hb2 HW
  generalize p.put s = q at *
  have LV1 : Hid (∀ W, PAt W b q → Calls Tryd.prog 33 #[.pointer (some ⟨b, 0, none⟩), .int .i64 (q.fin : Int)] W fun e w' => e = .returned (.tuple #[]) ∧ PAt w' b (q.leave q.fin) ∧ Kp [b] W w') := fun W h1 => leave_plain h1 q.fin ok.fin ok.l1 ok.fv ok.l2 ok.l3
  have okr := ok.leave q.fin
  generalize q.leave q.fin = r at *
  have LV2 : Hid (∀ W, PAt W b r → Calls Tryd.prog 33 #[.pointer (some ⟨b, 0, none⟩), .int .i64 (r.buffer.length : Int)] W fun e w' => e = .returned (.tuple #[]) ∧ PAt w' b (r.leave r.buffer.length) ∧ Kp [b] W w') := fun W h1 => leave_plain h1 r.buffer.length (Nat.le_refl _) okr.l1 okr.fv okr.l2 okr.l3
  have okz := okr.leave r.buffer.length
  generalize r.leave r.buffer.length = z at *
  have b1 := ok.sum; have b2 := okr.sum
  have b3 := okz.sum
  have ts : decide (p.size ≤ (r.buffer.length : Int)) = true := by simpa using hsz
  clear hsz
  go_enter Tryd.func11, Tryd.ntmps11
  go_wp2_with (first | (go_at_call 32; refine (PUT.out _ (HA.out _).1 (HA.out _).2.1).mono ?_; rintro e w1 ⟨rfl, h1, k1⟩; have H := Lib.hid (And.intro h1 ((HA.out _).2.2.from k1)); clear k1 c0 c1 c2 c3 c4 c5 c6 c7 c8 c9 c10 c11 c12; have c2 := h1.c2; have c3 := h1.c3; have c10 := h1.c10; have c11 := h1.c11; have c12 := h1.c12; rw [ok.buf] at c2; rw [ok.size] at c3; clear h1) | (go_at_call 33; refine (LV1.out _ H.out.1).mono ?_; rintro e w2 ⟨rfl, h1, k1⟩; replace H := Lib.hid (And.intro h1 (H.out.2.from k1)); clear k1 LV1 c2 c3 c10 c11 c12; have c2 := h1.c2; have c3 := h1.c3; have c10 := h1.c10; have c11 := h1.c11; have c12 := h1.c12; rw [okr.buf] at c2; rw [okr.size] at c3; clear h1))
  go_quiet (fail)
  replace H := Lib.hid (And.intro (show PAt (World.drewN _ nq) b _ from H.out.1) (H.out.2.drewN nq))
  go_wp2_with ((go_at_call 33; refine (LV2.out _ H.out.1).mono ?_; rintro e w3 ⟨rfl, h1, k1⟩; replace H := Lib.hid (And.intro h1 (H.out.2.from k1)); clear k1 LV2 c2 c3 c10 c11 c12; have c2 := h1.c2; have c3 := h1.c3; have c10 := h1.c10; have c11 := h1.c11; have c12 := h1.c12; rw [okz.buf] at c2; rw [okz.size] at c3; clear h1))
  go_ret
  exact ⟨rfl, H.out.1, H.out.2⟩
set_option maxRecDepth 100000 in
set_option maxHeartbeats 1600000 in
theorem write_l_s (h : PAt w b p) (hM : MaxIs w) (s : Bs) (hm : isOutM p.outm = true) (hs : s.length ≤ 100000) (hl : p.buffer.length + p.gone.length ≤ 1000000) (hf : p.fv = .slice none 0 0) (hfi : p.fin ≤ p.buffer.length) (hb1 : p.buf = lineM) (hb2 : ¬ p.buf = noneM) (hsz : ¬ p.size ≤ ((p.put s).leave (p.put s).fin).buffer.length) :
    Calls Tryd.prog 11 #[.pointer (some ⟨b, 0, none⟩), .string ⟨s.toArray⟩] w fun e w' => e = .returned (.int .i64 0) ∧ PAt w' b (p.write s) ∧ Kp [b] w w' := by
  have HA : Hid (∀ o, PAt (w.alloc o) b p ∧ MaxIs (w.alloc o) ∧ Kp [b] w (w.alloc o)) := fun o =>
    have hb := (Below.refl w.heap.size w).alloc (Nat.le_refl _) o
    ⟨h.below hb h.lt, hM.below hb hM.pos, kp_below hb⟩
  have PUT : Hid (∀ W, PAt W b p → MaxIs W → Calls Tryd.prog 32 #[.pointer (some ⟨b, 0, none⟩), .string ⟨s.toArray⟩] W fun e w' => e = .returned (.tuple #[]) ∧ PAt w' b (p.put s) ∧ Kp [b] W w') := fun W h1 h2 => put_any h1 h2 s hm (by omega) (by omega)
  have ok := POk.put p s hs hl hf hfi
  have HW : Hid (p.write s = ((p.put s).leave (p.put s).fin)) := by
    show _ = _
    unfold PP.write
    rw [if_pos hb1]
    simp only
    rw [if_neg (fun h => h.elim hb2 hsz)]
  rw [HW.out]
  have tl : (p.buf == ([108, 105, 110, 101] : Bs)) = true := by rw [hb1]; rfl
  have tn : (p.buf == ([110, 111, 110, 101] : Bs)) = false := beq_eq_false_iff_ne.2 hb2
  have c0 := h.c0; have c1 := h.c1; have c2 := h.c2; have c3 := h.c3; have c4 := h.c4; have c5 := h.c5; have c6 := h.c6; have c7 := h.c7; have c8 := h.c8; have c9 := h.c9; have c10 := h.c10; have c11 := h.c11; have c12 := h.c12
  rw [hf] at c4
  have hN := fun W => ptr_nil W b
  clear h hM hm hl hf hfi hb1 hb2 HW
  generalize p.put s = q at *
  have LV1 : Hid (∀ W, PAt W b q → Calls Tryd.prog 33 #[.pointer (some ⟨b, 0, none⟩), .int .i64 (q.fin : Int)] W fun e w' => e = .returned (.tuple #[]) ∧ PAt w' b (q.leave q.fin) ∧ Kp [b] W w') := fun W h1 => leave_plain h1 q.fin ok.fin ok.l1 ok.fv ok.l2 ok.l3
  have okr := ok.leave q.fin
  generalize q.leave q.fin = r at *
  have b1 := ok.sum; have b2 := okr.sum
  have ts : decide (p.size ≤ (r.buffer.length : Int)) = false := by simpa using hsz
  clear hsz
  go_enter Tryd.func11, Tryd.ntmps11
  go_wp2_with (first | (go_at_call 32; refine (PUT.out _ (HA.out _).1 (HA.out _).2.1).mono ?_; rintro e w1 ⟨rfl, h1, k1⟩; have H := Lib.hid (And.intro h1 ((HA.out _).2.2.from k1)); clear k1 c0 c1 c2 c3 c4 c5 c6 c7 c8 c9 c10 c11 c12; have c2 := h1.c2; have c3 := h1.c3; have c10 := h1.c10; have c11 := h1.c11; have c12 := h1.c12; rw [ok.buf] at c2; rw [ok.size] at c3; clear h1) | (go_at_call 33; refine (LV1.out _ H.out.1).mono ?_; rintro e w2 ⟨rfl, h1, k1⟩; replace H := Lib.hid (And.intro h1 (H.out.2.from k1)); clear k1 LV1 c2 c3 c10 c11 c12; have c2 := h1.c2; have c3 := h1.c3; have c10 := h1.c10; have c11 := h1.c11; have c12 := h1.c12; rw [okr.buf] at c2; rw [okr.size] at c3; clear h1))
  go_quiet (fail)
  replace H := Lib.hid (And.intro (show PAt (World.drewN _ nq) b _ from H.out.1) (H.out.2.drewN nq))
  go_wp2_with (fail)
  go_ret
  exact ⟨rfl, H.out.1, H.out.2⟩
set_option maxRecDepth 100000 in
set_option maxHeartbeats 1600000 in
theorem write_n (h : PAt w b p) (hM : MaxIs w) (s : Bs) (hm : isOutM p.outm = true) (hs : s.length ≤ 100000) (hl : p.buffer.length + p.gone.length ≤ 1000000) (hf : p.fv = .slice none 0 0) (hfi : p.fin ≤ p.buffer.length) (hb1 : ¬ p.buf = lineM) (hb2 : p.buf = noneM) :
    Calls Tryd.prog 11 #[.pointer (some ⟨b, 0, none⟩), .string ⟨s.toArray⟩] w fun e w' => e = .returned (.int .i64 0) ∧ PAt w' b (p.write s) ∧ Kp [b] w w' := by
  have HA : Hid (∀ o, PAt (w.alloc o) b p ∧ MaxIs (w.alloc o) ∧ Kp [b] w (w.alloc o)) := fun o =>
    have hb := (Below.refl w.heap.size w).alloc (Nat.le_refl _) o
    ⟨h.below hb h.lt, hM.below hb hM.pos, kp_below hb⟩
  have PUT : Hid (∀ W, PAt W b p → MaxIs W → Calls Tryd.prog 32 #[.pointer (some ⟨b, 0, none⟩), .string ⟨s.toArray⟩] W fun e w' => e = .returned (.tuple #[]) ∧ PAt w' b (p.put s) ∧ Kp [b] W w') := fun W h1 h2 => put_any h1 h2 s hm (by omega) (by omega)
  have ok := POk.put p s hs hl hf hfi
  have HW : Hid (p.write s = ((p.put s).leave (p.put s).buffer.length)) := by
    show _ = _
    unfold PP.write
    rw [if_neg hb1]
    simp only
    rw [if_pos (.inl hb2)]
  rw [HW.out]
  have tl : (p.buf == ([108, 105, 110, 101] : Bs)) = false := beq_eq_false_iff_ne.2 hb1
  have tn : (p.buf == ([110, 111, 110, 101] : Bs)) = true := by rw [hb2]; rfl
  have c0 := h.c0; have c1 := h.c1; have c2 := h.c2; have c3 := h.c3; have c4 := h.c4; have c5 := h.c5; have c6 := h.c6; have c7 := h.c7; have c8 := h.c8; have c9 := h.c9; have c10 := h.c10; have c11 := h.c11; have c12 := h.c12
  rw [hf] at c4
  have hN := fun W => ptr_nil W b
  clear h hM hm hl hf hfi hb1 hb2 HW
  generalize p.put s = q at *
  have okr := ok
  obtain ⟨r, hr⟩ : ∃ r, q = r := ⟨_, rfl⟩
  subst hr
  have LV2 : Hid (∀ W, PAt W b q → Calls Tryd.prog 33 #[.pointer (some ⟨b, 0, none⟩), .int .i64 (q.buffer.length : Int)] W fun e w' => e = .returned (.tuple #[]) ∧ PAt w' b (q.leave q.buffer.length) ∧ Kp [b] W w') := fun W h1 => leave_plain h1 q.buffer.length (Nat.le_refl _) okr.l1 okr.fv okr.l2 okr.l3
  have okz := okr.leave q.buffer.length
  generalize q.leave q.buffer.length = z at *
  have b1 := ok.sum; have b2 := okr.sum
  have b3 := okz.sum
  go_enter Tryd.func11, Tryd.ntmps11
  go_wp2_with (first | (go_at_call 32; refine (PUT.out _ (HA.out _).1 (HA.out _).2.1).mono ?_; rintro e w1 ⟨rfl, h1, k1⟩; have H := Lib.hid (And.intro h1 ((HA.out _).2.2.from k1)); clear k1 c0 c1 c2 c3 c4 c5 c6 c7 c8 c9 c10 c11 c12; have c2 := h1.c2; have c3 := h1.c3; have c10 := h1.c10; have c11 := h1.c11; have c12 := h1.c12; rw [ok.buf] at c2; rw [ok.size] at c3; clear h1))
  go_quiet (fail)
  replace H := Lib.hid (And.intro (show PAt (World.drewN _ nq) b _ from H.out.1) (H.out.2.drewN nq))
  go_wp2_with ((go_at_call 33; refine (LV2.out _ H.out.1).mono ?_; rintro e w3 ⟨rfl, h1, k1⟩; replace H := Lib.hid (And.intro h1 (H.out.2.from k1)); clear k1 LV2 c2 c3 c10 c11 c12; have c2 := h1.c2; have c3 := h1.c3; have c10 := h1.c10; have c11 := h1.c11; have c12 := h1.c12; rw [okz.buf] at c2; rw [okz.size] at c3; clear h1))
  go_ret
  exact ⟨rfl, H.out.1, H.out.2⟩
set_option maxRecDepth 100000 in
set_option maxHeartbeats 1600000 in
theorem write_f_z (h : PAt w b p) (hM : MaxIs w) (s : Bs) (hm : isOutM p.outm = true) (hs : s.length ≤ 100000) (hl : p.buffer.length + p.gone.length ≤ 1000000) (hf : p.fv = .slice none 0 0) (hfi : p.fin ≤ p.buffer.length) (hb1 : ¬ p.buf = lineM) (hb2 : ¬ p.buf = noneM) (hsz : p.size ≤ (p.put s).buffer.length) :
    Calls Tryd.prog 11 #[.pointer (some ⟨b, 0, none⟩), .string ⟨s.toArray⟩] w fun e w' => e = .returned (.int .i64 0) ∧ PAt w' b (p.write s) ∧ Kp [b] w w' := by
  have HA : Hid (∀ o, PAt (w.alloc o) b p ∧ MaxIs (w.alloc o) ∧ Kp [b] w (w.alloc o)) := fun o =>
    have hb := (Below.refl w.heap.size w).alloc (Nat.le_refl _) o
    ⟨h.below hb h.lt, hM.below hb hM.pos, kp_below hb⟩
  have PUT : Hid (∀ W, PAt W b p → MaxIs W → Calls Tryd.prog 32 #[.pointer (some ⟨b, 0, none⟩), .string ⟨s.toArray⟩] W fun e w' => e = .returned (.tuple #[]) ∧ PAt w' b (p.put s) ∧ Kp [b] W w') := fun W h1 h2 => put_any h1 h2 s hm (by omega) (by omega)
  have ok := POk.put p s hs hl hf hfi
  have HW : Hid (p.write s = ((p.put s).leave (p.put s).buffer.length)) := by
    show _ = _
    unfold PP.write
    rw [if_neg hb1]
    simp only
    rw [if_pos (.inr hsz)]
  rw [HW.out]
  have tl : (p.buf == ([108, 105, 110, 101] : Bs)) = false := beq_eq_false_iff_ne.2 hb1
  have tn : (p.buf == ([110, 111, 110, 101] : Bs)) = false := beq_eq_false_iff_ne.2 hb2
  have c0 := h.c0; have c1 := h.c1; have c2 := h.c2; have c3 := h.c3; have c4 := h.c4; have c5 := h.c5; have c6 := h.c6; have c7 := h.c7; have c8 := h.c8; have c9 := h.c9; have c10 := h.c10; have c11 := h.c11; have c12 := h.c12
  rw [hf] at c4
  have hN := fun W => ptr_nil W b
  clear h hM hm hl hf hfi hb1 hb2 HW
  generalize p.put s = q at *
  have okr := ok
  obtain ⟨r, hr⟩ : ∃ r, q = r := ⟨_, rfl⟩
  subst hr
  have LV2 : Hid (∀ W, PAt W b q → Calls Tryd.prog 33 #[.pointer (some ⟨b, 0, none⟩), .int .i64 (q.buffer.length : Int)] W fun e w' => e = .returned (.tuple #[]) ∧ PAt w' b (q.leave q.buffer.length) ∧ Kp [b] W w') := fun W h1 => leave_plain h1 q.buffer.length (Nat.le_refl _) okr.l1 okr.fv okr.l2 okr.l3
  have okz := okr.leave q.buffer.length
  generalize q.leave q.buffer.length = z at *
  have b1 := ok.sum; have b2 := okr.sum
  have b3 := okz.sum
  have ts : decide (p.size ≤ (q.buffer.length : Int)) = true := by simpa using hsz
  clear hsz
  go_enter Tryd.func11, Tryd.ntmps11
  go_wp2_with (first | (go_at_call 32; refine (PUT.out _ (HA.out _).1 (HA.out _).2.1).mono ?_; rintro e w1 ⟨rfl, h1, k1⟩; have H := Lib.hid (And.intro h1 ((HA.out _).2.2.from k1)); clear k1 c0 c1 c2 c3 c4 c5 c6 c7 c8 c9 c10 c11 c12; have c2 := h1.c2; have c3 := h1.c3; have c10 := h1.c10; have c11 := h1.c11; have c12 := h1.c12; rw [ok.buf] at c2; rw [ok.size] at c3; clear h1))
  go_quiet (fail)
  replace H := Lib.hid (And.intro (show PAt (World.drewN _ nq) b _ from H.out.1) (H.out.2.drewN nq))
  go_wp2_with ((go_at_call 33; refine (LV2.out _ H.out.1).mono ?_; rintro e w3 ⟨rfl, h1, k1⟩; replace H := Lib.hid (And.intro h1 (H.out.2.from k1)); clear k1 LV2 c2 c3 c10 c11 c12; have c2 := h1.c2; have c3 := h1.c3; have c10 := h1.c10; have c11 := h1.c11; have c12 := h1.c12; rw [okz.buf] at c2; rw [okz.size] at c3; clear h1))
  go_ret
  exact ⟨rfl, H.out.1, H.out.2⟩
set_option maxRecDepth 100000 in
set_option maxHeartbeats 1600000 in
theorem write_f_s (h : PAt w b p) (hM : MaxIs w) (s : Bs) (hm : isOutM p.outm = true) (hs : s.length ≤ 100000) (hl : p.buffer.length + p.gone.length ≤ 1000000) (hf : p.fv = .slice none 0 0) (hfi : p.fin ≤ p.buffer.length) (hb1 : ¬ p.buf = lineM) (hb2 : ¬ p.buf = noneM) (hsz : ¬ p.size ≤ (p.put s).buffer.length) :
    Calls Tryd.prog 11 #[.pointer (some ⟨b, 0, none⟩), .string ⟨s.toArray⟩] w fun e w' => e = .returned (.int .i64 0) ∧ PAt w' b (p.write s) ∧ Kp [b] w w' := by
  have HA : Hid (∀ o, PAt (w.alloc o) b p ∧ MaxIs (w.alloc o) ∧ Kp [b] w (w.alloc o)) := fun o =>
    have hb := (Below.refl w.heap.size w).alloc (Nat.le_refl _) o
    ⟨h.below hb h.lt, hM.below hb hM.pos, kp_below hb⟩
  have PUT : Hid (∀ W, PAt W b p → MaxIs W → Calls Tryd.prog 32 #[.pointer (some ⟨b, 0, none⟩), .string ⟨s.toArray⟩] W fun e w' => e = .returned (.tuple #[]) ∧ PAt w' b (p.put s) ∧ Kp [b] W w') := fun W h1 h2 => put_any h1 h2 s hm (by omega) (by omega)
  have ok := POk.put p s hs hl hf hfi
  have HW : Hid (p.write s = (p.put s)) := by
    show _ = _
    unfold PP.write
    rw [if_neg hb1]
    simp only
    rw [if_neg (fun h => h.elim hb2 hsz)]
  rw [HW.out]
  have tl : (p.buf == ([108, 105, 110, 101] : Bs)) = false := beq_eq_false_iff_ne.2 hb1
  have tn : (p.buf == ([110, 111, 110, 101] : Bs)) = false := beq_eq_false_iff_ne.2 hb2
  have c0 := h.c0; have c1 := h.c1; have c2 := h.c2; have c3 := h.c3; have c4 := h.c4; have c5 := h.c5; have c6 := h.c6; have c7 := h.c7; have c8 := h.c8; have c9 := h.c9; have c10 := h.c10; have c11 := h.c11; have c12 := h.c12
  rw [hf] at c4
  have hN := fun W => ptr_nil W b
  clear h hM hm hl hf hfi hb1 hb2 HW
  generalize p.put s = q at *
  have okr := ok
  obtain ⟨r, hr⟩ : ∃ r, q = r := ⟨_, rfl⟩
  subst hr
  have b1 := ok.sum; have b2 := okr.sum
  have ts : decide (p.size ≤ (q.buffer.length : Int)) = false := by simpa using hsz
  clear hsz
  go_enter Tryd.func11, Tryd.ntmps11
  go_wp2_with (first | (go_at_call 32; refine (PUT.out _ (HA.out _).1 (HA.out _).2.1).mono ?_; rintro e w1 ⟨rfl, h1, k1⟩; have H := Lib.hid (And.intro h1 ((HA.out _).2.2.from k1)); clear k1 c0 c1 c2 c3 c4 c5 c6 c7 c8 c9 c10 c11 c12; have c2 := h1.c2; have c3 := h1.c3; have c10 := h1.c10; have c11 := h1.c11; have c12 := h1.c12; rw [ok.buf] at c2; rw [ok.size] at c3; clear h1))
  go_quiet (fail)
  replace H := Lib.hid (And.intro (show PAt (World.drewN _ nq) b _ from H.out.1) (H.out.2.drewN nq))
  go_wp2_with (fail)
  go_ret
  exact ⟨rfl, H.out.1, H.out.2⟩
theorem Write_any (h : PAt w b p) (hM : MaxIs w) (s : Bs) (hm : isOutM p.outm = true) (hs : s.length ≤ 100000) (hl : p.buffer.length + p.gone.length ≤ 1000000) (hf : p.fv = .slice none 0 0) (hfi : p.fin ≤ p.buffer.length) :
    Calls Tryd.prog 11 #[.pointer (some ⟨b, 0, none⟩), .string ⟨s.toArray⟩] w fun e w' => e = .returned (.int .i64 0) ∧ PAt w' b (p.write s) ∧ Kp [b] w w' := by
  by_cases hb1 : p.buf = lineM
  · have hb2 : ¬ p.buf = noneM := by rw [hb1]; decide
    by_cases hsz : p.size ≤ ((p.put s).leave (p.put s).fin).buffer.length
    · exact write_l_z h hM s hm hs hl hf hfi hb1 hb2 hsz
    · exact write_l_s h hM s hm hs hl hf hfi hb1 hb2 hsz
  · by_cases hb2 : p.buf = noneM
    · exact write_n h hM s hm hs hl hf hfi hb1 hb2
    · by_cases hsz : p.size ≤ (p.put s).buffer.length
      · exact write_f_z h hM s hm hs hl hf hfi hb1 hb2 hsz
      · exact write_f_s h hM s hm hs hl hf hfi hb1 hb2 hsz
end
end Go.Proofs.YtafohdmhjilleaaDoor
