/- Set. -/
import Derived.Test.YtpaffocniniakaaBook11
namespace Go.Proofs.Ytpaffocniniakaa
set_option linter.unusedVariables false
set_option linter.unusedSimpArgs false
open Go.RowKit Go.MapKept Go.WideMaps

/-- The text of 's' with a value put at a path. -/
def putC : List Bs → Bs → Bs → Bs × Int
  | [], _, value => (value, 0)
  | k :: r, s, value => chgE s (fun ps => (putC r (valC ps k) value).2) (fun ps => setP ps k (putC r (valC ps k) value).1)
/-- 'Set'. -/
def setC (s : Bs) (path : List Bs) (value : Bs) : Bs × Int := if walkC s path = 0 then putC path s value else ([], walkC s path)
/-- The two boxes of a 'Set': the value, and 'put' itself. -/
structure PutBx (W : World) (vb pb : Nat) (value : Bs) : Prop where
  v : W.cell? ⟨vb, 0, none⟩ = some (.string ⟨value.toArray⟩)
  p : W.cell? ⟨pb, 0, none⟩ = some (.func (.func 42) #[] #[.pointer (some ⟨vb, 0, none⟩), .pointer (some ⟨pb, 0, none⟩)])
  vl : vb < W.heap.size
  pl : pb < W.heap.size
theorem PutBx.below {W W' : World} {vb pb : Nat} {value : Bs} (h : PutBx W vb pb value) (hb : Below W.heap.size W W') : PutBx W' vb pb value :=
  ⟨(hb.cell (p := ⟨vb, 0, none⟩) h.vl).trans h.v, (hb.cell (p := ⟨pb, 0, none⟩) h.pl).trans h.p, Nat.lt_of_lt_of_le h.vl hb.size, Nat.lt_of_lt_of_le h.pl hb.size⟩
set_option maxRecDepth 100000 in
set_option maxHeartbeats 400000 in
/-- The function that 'put' hands to 'changed', put itself being known for the rest of the path. -/
theorem put_in1 {value k : Bs} {vb pb xb cb off : Nat} {w W : World} {ps : Prs} {b : Nat} {F : List Nat} (hM : MaxIs w)
    (IH : ∀ s v W, s.length ≤ 19999 → Below w.heap.size w W → TxtRow W v [] → Calls Try.prog 42 #[.string ⟨s.toArray⟩, v, .pointer (some ⟨vb, 0, none⟩), .pointer (some ⟨pb, 0, none⟩)] W fun e w' => e = .returned (.tuple #[.string ⟨(putC [] s value).1.toArray⟩, .int .i64 (putC [] s value).2]) ∧ Below W.heap.size W w')
    (hk : k.length ≤ 1000000) (hbx : PutBx w vb pb value) (hps : ps.length ≤ 100000) (hvl : (valC ps k).length ≤ 19999)
    (hx : W.cell? ⟨xb, 0, none⟩ = some (.slice (some ⟨cb, off, none⟩) 1 1)) (hxl : xb < W.heap.size) (hcbl : cb < w.heap.size) (hck : w.cell? ⟨cb, off, none⟩ = some (.string ⟨k.toArray⟩))
    (hW : Below w.heap.size w W) (hb : Bk W b F ps) (hF : ∀ d ∈ F, w.heap.size ≤ d ∧ d ≠ xb) :
    Calls Try.prog 43 #[.pointer (some ⟨b, 0, none⟩), .pointer (some ⟨xb, 0, none⟩), .pointer (some ⟨pb, 0, none⟩)] W (ChF w ((putC [] (valC ps k) value).2) (setP ps k (putC [] (valC ps k) value).1)) := by
  have hlo := hW.size
  have hp0 := (hW.cell (p := ⟨pb, 0, none⟩) hbx.pl).trans hbx.p
  have hk0 := (hW.cell (p := ⟨cb, off, none⟩) hcbl).trans hck
  have GET : Hid (Calls Try.prog 31 #[.pointer (some ⟨b, 0, none⟩), .string ⟨k.toArray⟩] W fun e w' => e = .returned (.tuple #[.string ⟨(valC ps k).toArray⟩, .bool (getP ps k).isSome]) ∧ w' = W) := get_any hb k (by unfold maxLen; omega)
  have PUT : Hid (∀ W' v, Below W.heap.size W W' → TxtRow W' v [] → Calls Try.prog 42 #[.string ⟨(valC ps k).toArray⟩, v, .pointer (some ⟨vb, 0, none⟩), .pointer (some ⟨pb, 0, none⟩)] W' fun e w' => e = .returned (.tuple #[.string ⟨(putC [] (valC ps k) value).1.toArray⟩, .int .i64 (putC [] (valC ps k) value).2]) ∧ Below W'.heap.size W' w') := fun W' v h1 h2 => IH _ v W' hvl (hW.trans (h1.mono hlo)) h2
  have HT : Hid (TxtRow w (.slice (some ⟨cb, off, none⟩) 0 0) []) := by
    show TxtRow _ _ _
    exact ⟨_, _, rfl, Nat.zero_le _, by unfold maxLen; omega, fun i hi => by simp at hi⟩
  have HB := Lib.hid hb
  have HWW := Lib.hid hW
  have HF := Lib.hid hF
  clear IH hb hF hW hbx hM hck
  generalize (getP ps k).isSome = iss at *
  generalize valC ps k = vv at *
  obtain ⟨⟨pt, pe⟩, hpq⟩ : ∃ q, putC [] vv value = q := ⟨_, rfl⟩
  rw [hpq] at PUT ⊢
  simp only at PUT ⊢
  clear hpq
  have REG : Hid (∀ W' v, Below w.heap.size W W' → Below W.heap.size W W' → TxtRow W' v [] → Calls Try.prog 42 #[.string ⟨vv.toArray⟩, v, .pointer (some ⟨vb, 0, none⟩), .pointer (some ⟨pb, 0, none⟩)] W' fun e w' => e = .returned (.tuple #[.string ⟨pt.toArray⟩, .int .i64 pe]) ∧ Below W'.heap.size W' w') := fun W' v _ h1 h2 => PUT.out W' v h1 h2
  have hdr : Hid (Below W.heap.size W W.drew ∧ TxtRow W.drew (.slice (some ⟨cb, off, none⟩) 0 0) []) := ⟨(Below.refl _ _).drew, HT.out.below (HWW.out.drew)⟩
  by_cases hpe : pe = 0
  · subst hpe
    have hk1 := hk0
    have hx1 := hx
    go_enter Try.func43, Try.ntmps43
    go_wp2_with (go_at_call 31; refine GET.out.mono ?_; rintro e w2 ⟨rfl, rfl⟩; skip)
    go_region_with (go_at_call 42; refine (PUT.out _ _ hdr.out.1 hdr.out.2).mono ?_; rintro e w3 ⟨rfl, hB3⟩; have H3 := Lib.hid hB3; clear hB3)
    all_goals
      have hx3 := (H3.out.cell (p := ⟨xb, 0, none⟩) hxl).trans hx1
      have hk3 := (H3.out.cell (p := ⟨cb, off, none⟩) (Nat.lt_of_lt_of_le hcbl hlo)).trans hk1
      have hb3 := HB.out.below ((Below.refl _ _).drew.trans H3.out)
      have SET : Hid (Calls Try.prog 35 #[.pointer (some ⟨b, 0, none⟩), .string ⟨k.toArray⟩, .string ⟨pt.toArray⟩] w3 fun e w' => e = .returned (.tuple #[]) ∧ SetRes w3 b F (setP ps k pt) w') := set_any hb3 k pt (by unfold maxLen; omega) (by omega)
      clear hb3
      go_wp2_with (go_at_call 35; refine SET.out.mono ?_; rintro e w4 ⟨rfl, F4, hb4, hk4, hf4, _⟩; have H4 := Lib.hid (And.intro hb4 hk4); clear hb4 hk4 hf4)
      go_ret2
      have hs3 := H3.out.size
      exact ⟨(HWW.out.trans (((Below.refl _ _).drew.trans H3.out).mono hlo)).trans (H4.out.2.below (Nat.le_trans hlo hs3) (fun d hd => (HF.out d hd).1)), .inr ⟨rfl, b, F4, rfl, H4.out.1⟩⟩
  · have t1 : (pe == 0) = false := beq_eq_false_iff_ne.2 hpe
    have HPE := Lib.hid hpe
    clear hpe
    go_enter Try.func43, Try.ntmps43
    go_wp2_with (go_at_call 31; refine GET.out.mono ?_; rintro e w2 ⟨rfl, rfl⟩; skip)
    go_region_with (go_at_call 42; refine (PUT.out _ _ hdr.out.1 hdr.out.2).mono ?_; rintro e w3 ⟨rfl, hB3⟩; have H3 := Lib.hid hB3; clear hB3)
    all_goals
      go_wp2
      go_ret2
      exact ⟨HWW.out.trans (((Below.refl _ _).drew.trans H3.out).mono hlo), .inl ⟨HPE.out, rfl⟩⟩
set_option maxRecDepth 100000 in
set_option maxHeartbeats 400000 in
/-- The function that 'put' hands to 'changed', put itself being known for the rest of the path. -/
theorem put_in2 {r : List Bs} {value k : Bs} {vb pb xb cb off c : Nat} {w W : World} {ps : Prs} {b : Nat} {F : List Nat} (hM : MaxIs w)
    (IH : ∀ s v W, s.length ≤ 19999 → Below w.heap.size w W → TxtRow W v r → Calls Try.prog 42 #[.string ⟨s.toArray⟩, v, .pointer (some ⟨vb, 0, none⟩), .pointer (some ⟨pb, 0, none⟩)] W fun e w' => e = .returned (.tuple #[.string ⟨(putC r s value).1.toArray⟩, .int .i64 (putC r s value).2]) ∧ Below W.heap.size W w')
    (hk : k.length ≤ 1000000) (hbx : PutBx w vb pb value) (hps : ps.length ≤ 100000) (hvl : (valC ps k).length ≤ 19999)
    (hx : W.cell? ⟨xb, 0, none⟩ = some (.slice (some ⟨cb, off, none⟩) (r.length + 1) c)) (hxl : xb < W.heap.size) (hcl : r.length + 1 ≤ c) (hcm : c ≤ maxLen) (hc1 : ¬ c = 1) (hcbl : cb < w.heap.size) (hck : w.cell? ⟨cb, off, none⟩ = some (.string ⟨k.toArray⟩)) (ht : TxtRow w (.slice (some ⟨cb, off + 1, none⟩) r.length (c - 1)) r)
    (hW : Below w.heap.size w W) (hb : Bk W b F ps) (hF : ∀ d ∈ F, w.heap.size ≤ d ∧ d ≠ xb) :
    Calls Try.prog 43 #[.pointer (some ⟨b, 0, none⟩), .pointer (some ⟨xb, 0, none⟩), .pointer (some ⟨pb, 0, none⟩)] W (ChF w ((putC r (valC ps k) value).2) (setP ps k (putC r (valC ps k) value).1)) := by
  have hlo := hW.size
  have hp0 := (hW.cell (p := ⟨pb, 0, none⟩) hbx.pl).trans hbx.p
  have hk0 := (hW.cell (p := ⟨cb, off, none⟩) hcbl).trans hck
  have GET : Hid (Calls Try.prog 31 #[.pointer (some ⟨b, 0, none⟩), .string ⟨k.toArray⟩] W fun e w' => e = .returned (.tuple #[.string ⟨(valC ps k).toArray⟩, .bool (getP ps k).isSome]) ∧ w' = W) := get_any hb k (by unfold maxLen; omega)
  have PUT : Hid (∀ W' v, Below W.heap.size W W' → TxtRow W' v r → Calls Try.prog 42 #[.string ⟨(valC ps k).toArray⟩, v, .pointer (some ⟨vb, 0, none⟩), .pointer (some ⟨pb, 0, none⟩)] W' fun e w' => e = .returned (.tuple #[.string ⟨(putC r (valC ps k) value).1.toArray⟩, .int .i64 (putC r (valC ps k) value).2]) ∧ Below W'.heap.size W' w') := fun W' v h1 h2 => IH _ v W' hvl (hW.trans (h1.mono hlo)) h2
  have HT := Lib.hid ht
  have HB := Lib.hid hb
  have HWW := Lib.hid hW
  have HF := Lib.hid hF
  have c1 : (1 : Int) ≤ (c : Int) := by omega
  have c2 : (1 : Int) ≤ (r.length : Int) + 1 := by omega
  have c3 : (r.length : Int) + 1 ≤ (c : Int) := by omega
  unfold maxLen at hcm
  clear IH ht hb hF hW hbx hM hck
  generalize (getP ps k).isSome = iss at *
  generalize valC ps k = vv at *
  obtain ⟨⟨pt, pe⟩, hpq⟩ : ∃ q, putC r vv value = q := ⟨_, rfl⟩
  rw [hpq] at PUT ⊢
  simp only at PUT ⊢
  clear hpq
  have REG : Hid (∀ W' v, Below w.heap.size W W' → Below W.heap.size W W' → TxtRow W' v r → Calls Try.prog 42 #[.string ⟨vv.toArray⟩, v, .pointer (some ⟨vb, 0, none⟩), .pointer (some ⟨pb, 0, none⟩)] W' fun e w' => e = .returned (.tuple #[.string ⟨pt.toArray⟩, .int .i64 pe]) ∧ Below W'.heap.size W' w') := fun W' v _ h1 h2 => PUT.out W' v h1 h2
  have hdr : Hid (Below W.heap.size W W.drew ∧ TxtRow W.drew (.slice (some ⟨cb, off + 1, none⟩) r.length (c - 1)) r) := ⟨(Below.refl _ _).drew, HT.out.below (HWW.out.drew)⟩
  by_cases hpe : pe = 0
  · subst hpe
    have hk1 := hk0
    have hx1 := hx
    go_enter Try.func43, Try.ntmps43
    go_wp2_with (go_at_call 31; refine GET.out.mono ?_; rintro e w2 ⟨rfl, rfl⟩; skip)
    go_region_with (go_at_call 42; refine (PUT.out _ _ hdr.out.1 hdr.out.2).mono ?_; rintro e w3 ⟨rfl, hB3⟩; have H3 := Lib.hid hB3; clear hB3)
    all_goals
      have hx3 := (H3.out.cell (p := ⟨xb, 0, none⟩) hxl).trans hx1
      have hk3 := (H3.out.cell (p := ⟨cb, off, none⟩) (Nat.lt_of_lt_of_le hcbl hlo)).trans hk1
      have hb3 := HB.out.below ((Below.refl _ _).drew.trans H3.out)
      have SET : Hid (Calls Try.prog 35 #[.pointer (some ⟨b, 0, none⟩), .string ⟨k.toArray⟩, .string ⟨pt.toArray⟩] w3 fun e w' => e = .returned (.tuple #[]) ∧ SetRes w3 b F (setP ps k pt) w') := set_any hb3 k pt (by unfold maxLen; omega) (by omega)
      clear hb3
      go_wp2_with (go_at_call 35; refine SET.out.mono ?_; rintro e w4 ⟨rfl, F4, hb4, hk4, hf4, _⟩; have H4 := Lib.hid (And.intro hb4 hk4); clear hb4 hk4 hf4)
      go_ret2
      have hs3 := H3.out.size
      exact ⟨(HWW.out.trans (((Below.refl _ _).drew.trans H3.out).mono hlo)).trans (H4.out.2.below (Nat.le_trans hlo hs3) (fun d hd => (HF.out d hd).1)), .inr ⟨rfl, b, F4, rfl, H4.out.1⟩⟩
  · have t1 : (pe == 0) = false := beq_eq_false_iff_ne.2 hpe
    have HPE := Lib.hid hpe
    clear hpe
    go_enter Try.func43, Try.ntmps43
    go_wp2_with (go_at_call 31; refine GET.out.mono ?_; rintro e w2 ⟨rfl, rfl⟩; skip)
    go_region_with (go_at_call 42; refine (PUT.out _ _ hdr.out.1 hdr.out.2).mono ?_; rintro e w3 ⟨rfl, hB3⟩; have H3 := Lib.hid hB3; clear hB3)
    all_goals
      go_wp2
      go_ret2
      exact ⟨HWW.out.trans (((Below.refl _ _).drew.trans H3.out).mono hlo), .inl ⟨HPE.out, rfl⟩⟩
end Go.Proofs.Ytpaffocniniakaa
