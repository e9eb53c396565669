/- Unset. -/
import Derived.Test.YtpaffocniniakaaKeptU
import Derived.Test.YtpaffocniniakaaBookD
namespace Go.Proofs.Ytpaffocniniakaa
set_option linter.unusedVariables false
set_option linter.unusedSimpArgs false
open Go.RowKit Go.MapKept Go.WideMaps

/-- 'Unset'. -/
def unsC : List Bs → Bs → Bs × Int
  | [], s => chgE s (fun _ => 7) (fun ps => ps)
  | k :: r, s => if r = [] then chgE s (fun _ => 0) (fun ps => ps.filter fun p => p.1 != k) else chgE s (fun ps => if (getP ps k).isSome then (unsC r (valC ps k)).2 else 8) (fun ps => setP ps k (unsC r (valC ps k)).1)
set_option maxRecDepth 100000 in
set_option maxHeartbeats 400000 in
theorem uns_in0 {xb c : Nat} {o : Option Addr} {w W : World} {ps : Prs} {b : Nat} (hx : W.cell? ⟨xb, 0, none⟩ = some (.slice o 0 c)) (hW : Below w.heap.size w W) :
    Calls Try.prog 46 #[.pointer (some ⟨b, 0, none⟩), .pointer (some ⟨xb, 0, none⟩)] W (ChF w 7 ps) := by
  have HWW := Lib.hid hW
  clear hW
  go_enter Try.func46, Try.ntmps46
  go_wp2_with fail
  go_ret2
  exact ⟨HWW.out, .inl ⟨by decide, rfl⟩⟩
set_option maxRecDepth 100000 in
set_option maxHeartbeats 400000 in
theorem uns_in1 {xb cb off c : Nat} {k : Bs} {w W : World} {ps : Prs} {b : Nat} {F : List Nat} (hk : k.length ≤ 1000000) (hps : ps.length ≤ 100000) (hcl : ∀ p ∈ ps, clip2 p = p)
    (hx : W.cell? ⟨xb, 0, none⟩ = some (.slice (some ⟨cb, off, none⟩) 1 c)) (hxl : xb < W.heap.size) (hc1 : 1 ≤ c) (hcbl : cb < w.heap.size) (hck : w.cell? ⟨cb, off, none⟩ = some (.string ⟨k.toArray⟩))
    (hW : Below w.heap.size w W) (hb : Bk W b F ps) :
    Calls Try.prog 46 #[.pointer (some ⟨b, 0, none⟩), .pointer (some ⟨xb, 0, none⟩)] W (ChF w 0 (ps.filter fun p => p.1 != k)) := by
  have hlo := hW.size
  have hk0 := (hW.cell (p := ⟨cb, off, none⟩) hcbl).trans hck
  have GET : Hid (Calls Try.prog 31 #[.pointer (some ⟨b, 0, none⟩), .string ⟨k.toArray⟩] W fun e w' => e = .returned (.tuple #[.string ⟨(valC ps k).toArray⟩, .bool (getP ps k).isSome]) ∧ w' = W) := get_any hb k (by unfold maxLen; omega)
  have KEPT : Hid (Calls Try.prog 47 #[.pointer (some ⟨b, 0, none⟩), .func (.func 48) #[] #[.pointer (some ⟨xb, 0, none⟩)]] W fun e w' => Below W.heap.size W w' ∧ ∃ b F, e = .returned (.pointer (some ⟨b, 0, none⟩)) ∧ Bk w' b F (ps.filter fun p => p.1 != k) ∧ ∀ d ∈ F, W.heap.size ≤ d) :=
    kept_uns hb hps hcl (fun k' _ => k' != k) (fun W' k' x' h1 _ _ => (unset_keep k' x' W' ((h1.cell (p := ⟨xb, 0, none⟩) hxl).trans hx) (by omega) ((h1.cell (p := ⟨cb, off, none⟩) (by show cb < W.heap.size; omega)).trans hk0)).mono fun e w' ⟨h2, h3⟩ => ⟨h2, h3 ▸ Below.refl _ _⟩)
  have HWW := Lib.hid hW
  clear hb hW hck
  generalize (getP ps k).isSome = iss at *
  generalize valC ps k = vv at *
  generalize (ps.filter fun p => p.1 != k) = rs at *
  have i1 : (0 : Int) < (c : Int) := by omega
  go_enter Try.func46, Try.ntmps46
  go_wp2_with (first | (go_at_call 31; refine GET.out.mono ?_; rintro e w2 ⟨rfl, rfl⟩; skip) | (go_at_call 47; refine KEPT.out.mono ?_; rintro e w3 ⟨hB3, b3, F3, rfl, hb3, hF3⟩; have H3 := Lib.hid (And.intro hB3 (And.intro hb3 hF3)); clear hB3 hb3 hF3))
  go_ret2
  exact ⟨HWW.out.trans (H3.out.1.mono hlo), .inr ⟨rfl, b3, F3, rfl, H3.out.2.1⟩⟩
set_option maxRecDepth 100000 in
set_option maxHeartbeats 400000 in
theorem uns_in2 {r : List Bs} {k : Bs} {xb cb off c : Nat} {w W : World} {ps : Prs} {b : Nat} {F : List Nat} (hM : MaxIs w)
    (IH : ∀ s v W, s.length ≤ 19999 → Below w.heap.size w W → TxtRow W v r → Calls Try.prog 21 #[.string ⟨s.toArray⟩, v] W fun e w' => e = .returned (.tuple #[.string ⟨(unsC r s).1.toArray⟩, .int .i64 (unsC r s).2]) ∧ Below W.heap.size W w')
    (hk : k.length ≤ 1000000) (hps : ps.length ≤ 100000) (hvl : (valC ps k).length ≤ 19999) (hr0 : 1 ≤ r.length)
    (hx : W.cell? ⟨xb, 0, none⟩ = some (.slice (some ⟨cb, off, none⟩) (r.length + 1) c)) (hxl : xb < W.heap.size) (hcl : r.length + 1 ≤ c) (hcm : c ≤ maxLen) (hcbl : cb < w.heap.size) (hck : w.cell? ⟨cb, off, none⟩ = some (.string ⟨k.toArray⟩)) (ht : TxtRow w (.slice (some ⟨cb, off + 1, none⟩) r.length (c - 1)) r)
    (hW : Below w.heap.size w W) (hb : Bk W b F ps) (hF : ∀ d ∈ F, w.heap.size ≤ d ∧ d ≠ xb) :
    Calls Try.prog 46 #[.pointer (some ⟨b, 0, none⟩), .pointer (some ⟨xb, 0, none⟩)] W (ChF w (if (getP ps k).isSome then (unsC r (valC ps k)).2 else 8) (setP ps k (unsC r (valC ps k)).1)) := by
  have hlo := hW.size
  have hk0 := (hW.cell (p := ⟨cb, off, none⟩) hcbl).trans hck
  have GET : Hid (Calls Try.prog 31 #[.pointer (some ⟨b, 0, none⟩), .string ⟨k.toArray⟩] W fun e w' => e = .returned (.tuple #[.string ⟨(valC ps k).toArray⟩, .bool (getP ps k).isSome]) ∧ w' = W) := get_any hb k (by unfold maxLen; omega)
  have PUT : Hid (∀ W' v, Below W.heap.size W W' → TxtRow W' v r → Calls Try.prog 21 #[.string ⟨(valC ps k).toArray⟩, v] W' fun e w' => e = .returned (.tuple #[.string ⟨(unsC r (valC ps k)).1.toArray⟩, .int .i64 (unsC r (valC ps k)).2]) ∧ Below W'.heap.size W' w') := fun W' v h1 h2 => IH _ v W' hvl (hW.trans (h1.mono hlo)) h2
  have HT := Lib.hid ht
  have HB := Lib.hid hb
  have HWW := Lib.hid hW
  have HF := Lib.hid hF
  have c1 : (1 : Int) ≤ (c : Int) := by omega
  have c2 : (1 : Int) ≤ (r.length : Int) + 1 := by omega
  have c3 : (r.length : Int) + 1 ≤ (c : Int) := by omega
  have c4 : ¬ c = 1 := by omega
  have t4 : ((r.length : Int) + 1 == 1) = false := by rw [beq_eq_false_iff_ne]; omega
  have t5 : ((r.length : Int) + 1 == 0) = false := by rw [beq_eq_false_iff_ne]; omega
  unfold maxLen at hcm
  clear IH ht hb hF hW hM hck
  cases hg : (getP ps k).isSome with
  | false =>
    rw [hg] at GET
    clear hg PUT
    generalize setP ps k _ = rs at *
    rw [if_neg (by simp)]
    generalize valC ps k = vv at *
    go_enter Try.func46, Try.ntmps46
    go_wp2_with (go_at_call 31; refine GET.out.mono ?_; rintro e w2 ⟨rfl, rfl⟩; skip)
    go_ret2
    exact ⟨HWW.out, .inl ⟨by decide, rfl⟩⟩
  | true =>
    rw [hg] at GET
    clear hg
    rw [if_pos rfl]
    generalize valC ps k = vv at *
    obtain ⟨⟨pt, pe⟩, hpq⟩ : ∃ q, unsC r vv = q := ⟨_, rfl⟩
    rw [hpq] at PUT ⊢
    simp only at PUT ⊢
    clear hpq
    have hdr : Hid (TxtRow W (.slice (some ⟨cb, off + 1, none⟩) r.length (c - 1)) r) := HT.out.below HWW.out
    have hk1 := hk0
    have hx1 := hx
    by_cases hpe : pe = 0
    · subst hpe
      have SET : Hid (∀ w3, Below W.heap.size W w3 → w3.cell? ⟨xb, 0, none⟩ = some (.slice (some ⟨cb, off, none⟩) (r.length + 1) c) ∧ w3.cell? ⟨cb, off, none⟩ = some (.string ⟨k.toArray⟩) ∧ Calls Try.prog 35 #[.pointer (some ⟨b, 0, none⟩), .string ⟨k.toArray⟩, .string ⟨pt.toArray⟩] w3 fun e w' => e = .returned (.tuple #[]) ∧ SetRes w3 b F (setP ps k pt) w') := fun w3 h => ⟨(h.cell (p := ⟨xb, 0, none⟩) hxl).trans hx, (h.cell (p := ⟨cb, off, none⟩) (Nat.lt_of_lt_of_le hcbl hlo)).trans hk1, set_any (HB.out.below h) k pt (by unfold maxLen; omega) (by omega)⟩
      go_enter Try.func46, Try.ntmps46
      go_wp2_with (first | (go_at_call 31; refine GET.out.mono ?_; rintro e w2 ⟨rfl, rfl⟩; skip) | (go_at_call 21; refine (PUT.out _ _ (Below.refl _ _) hdr.out).mono ?_; rintro e w3 ⟨rfl, hB3⟩; obtain ⟨hx3, hk3, hs3⟩ := SET.out _ hB3; have H3 := Lib.hid (And.intro hB3 hs3); clear hB3 hs3) | (go_at_call 35; refine H3.out.2.mono ?_; rintro e w4 ⟨rfl, F4, hb4, hk4, hf4, _⟩; have H4 := Lib.hid (And.intro hb4 hk4); clear hb4 hk4 hf4))
      go_ret2
      have hs3 := H3.out.1.size
      exact ⟨(HWW.out.trans (H3.out.1.mono hlo)).trans (H4.out.2.below (Nat.le_trans hlo hs3) (fun d hd => (HF.out d hd).1)), .inr ⟨rfl, b, F4, rfl, H4.out.1⟩⟩
    · have t1 : (pe == 0) = false := beq_eq_false_iff_ne.2 hpe
      have HPE := Lib.hid hpe
      clear hpe
      go_enter Try.func46, Try.ntmps46
      go_wp2_with (first | (go_at_call 31; refine GET.out.mono ?_; rintro e w2 ⟨rfl, rfl⟩; skip) | (go_at_call 21; refine (PUT.out _ _ (Below.refl _ _) hdr.out).mono ?_; rintro e w3 ⟨rfl, hB3⟩; have H3 := Lib.hid hB3; clear hB3))
      go_ret2
      exact ⟨HWW.out.trans (H3.out.mono hlo), .inl ⟨HPE.out, rfl⟩⟩
theorem read_clip2 {s : Bs} {ps : Prs} (h : readC s = some ps) (hs : s.length ≤ 19999) : ∀ p ∈ ps, clip2 p = p := fun p hp => by
  have := read_mem h hp
  exact clip2_id (by omega) (by omega)
set_option maxRecDepth 100000 in
set_option maxHeartbeats 1600000 in
theorem Unset_any : ∀ (path : List Bs) (s : Bs) (v : Value) (w : World), MaxIs w → s.length ≤ 19999 → (∀ k ∈ path, k.length ≤ 1000000) → TxtRow w v path →
    Calls Try.prog 21 #[.string ⟨s.toArray⟩, v] w fun e w' => e = .returned (.tuple #[.string ⟨(unsC path s).1.toArray⟩, .int .i64 (unsC path s).2]) ∧ Below w.heap.size w w' := by
  intro path
  induction path with
  | nil =>
    intro s v w hM hs _ ht
    obtain ⟨o, c, rfl, _⟩ := ht
    have hB1 : Below w.heap.size w (w.alloc (.cells #[.slice o 0 c] 29)) := (Below.refl _ w).alloc (Nat.le_refl _) _
    have hx1 := (Boxed.new w 29 (.slice o 0 c)).cell
    have hsz : (w.alloc (.cells #[.slice o 0 c] 29)).heap.size = w.heap.size + 1 := by simp
    have CH : Hid (Calls Try.prog 32 #[.string ⟨s.toArray⟩, .func (.func 46) #[] #[.pointer (some ⟨w.heap.size, 0, none⟩)]] (w.alloc (.cells #[.slice o 0 c] 29)) fun e w' => e = .returned (.tuple #[.string ⟨(unsC [] s).1.toArray⟩, .int .i64 (unsC [] s).2]) ∧ Below w.heap.size w w') := by
      generalize w.alloc (.cells #[.slice o 0 c] 29) = w1 at *
      have hM1 := hM.below hB1 hM.pos
      refine (changed_uns s hs w1 hM1 (fun _ => 7) (fun ps => ps) (fun ps hr W b F hW hb hF => ?_) (fun ps hr => ?_)).mono fun e w' ⟨h1, h2⟩ => ⟨h1, hB1.trans (h2.mono (by omega))⟩
      · exact uns_in0 ((hW.cell (p := ⟨w.heap.size, 0, none⟩) (by show w.heap.size < w1.heap.size; omega)).trans hx1) hW
      · have h2 := read_len hr
        omega
    clear hx1 hsz hM
    generalize unsC [] s = q at *
    have HB1 := Lib.hid hB1
    clear hB1
    go_enter Try.func21, Try.ntmps21
    go_wp2_with (go_at_call 32; refine CH.out.mono ?_; rintro e w3 ⟨rfl, hB3⟩; have H3 := Lib.hid hB3; clear hB3)
    go_ret2
    exact ⟨rfl, H3.out⟩
  | cons k r ih =>
    intro s v w hM hs hkl ht
    obtain ⟨o, c, rfl, _⟩ := id ht
    obtain ⟨cb, off, rfl, hcl, hcm, hbl, hc0, ht1⟩ := ht.first
    have hk := hkl k (by simp)
    have hB1 : Below w.heap.size w (w.alloc (.cells #[.slice (some ⟨cb, off, none⟩) (k :: r).length c] 29)) := (Below.refl _ w).alloc (Nat.le_refl _) _
    have hx1 := (Boxed.new w 29 (.slice (some ⟨cb, off, none⟩) (k :: r).length c)).cell
    have hsz : (w.alloc (.cells #[.slice (some ⟨cb, off, none⟩) (k :: r).length c] 29)).heap.size = w.heap.size + 1 := by simp
    have CH : Hid (Calls Try.prog 32 #[.string ⟨s.toArray⟩, .func (.func 46) #[] #[.pointer (some ⟨w.heap.size, 0, none⟩)]] (w.alloc (.cells #[.slice (some ⟨cb, off, none⟩) (k :: r).length c] 29)) fun e w' => e = .returned (.tuple #[.string ⟨(unsC (k :: r) s).1.toArray⟩, .int .i64 (unsC (k :: r) s).2]) ∧ Below w.heap.size w w') := by
      generalize w.alloc (.cells #[.slice (some ⟨cb, off, none⟩) (k :: r).length c] 29) = w1 at *
      have hM1 := hM.below hB1 hM.pos
      have hcl1 : cb < w1.heap.size := by omega
      have hck1 := (hB1.cell (p := ⟨cb, off, none⟩) hbl).trans hc0
      by_cases hr0 : r = []
      · subst hr0
        rw [unsC, if_pos rfl]
        refine (changed_uns s hs w1 hM1 (fun _ => 0) (fun ps => ps.filter fun p => p.1 != k) (fun ps hr W b F hW hb hF => ?_) (fun ps hr => ?_)).mono fun e w' ⟨h1, h2⟩ => ⟨h1, hB1.trans (h2.mono (by omega))⟩
        · have hps := read_len hr
          have hlo := hW.size
          have hxW := (hW.cell (p := ⟨w.heap.size, 0, none⟩) (by show w.heap.size < w1.heap.size; omega)).trans hx1
          exact uns_in1 hk (by omega) (read_clip2 hr hs) (by simpa using hxW) (by omega) (by simpa using hcl) hcl1 hck1 hW hb
        · have h1 := List.length_filter_le (fun p => p.1 != k) ps
          have h2 := read_len hr
          omega
      · rw [unsC, if_neg hr0]
        have hrl : 1 ≤ r.length := List.length_pos_iff.2 hr0
        refine (changed_uns s hs w1 hM1 (fun ps => if (getP ps k).isSome then (unsC r (valC ps k)).2 else 8) (fun ps => setP ps k (unsC r (valC ps k)).1) (fun ps hr W b F hW hb hF => ?_) (fun ps hr => ?_)).mono fun e w' ⟨h1, h2⟩ => ⟨h1, hB1.trans (h2.mono (by omega))⟩
        · have hps := read_len hr
          have hvl := val_len hr k
          have hlo := hW.size
          have hxW := (hW.cell (p := ⟨w.heap.size, 0, none⟩) (by show w.heap.size < w1.heap.size; omega)).trans hx1
          have hF' : ∀ d ∈ F, w1.heap.size ≤ d ∧ d ≠ w.heap.size := fun d hd => ⟨hF d hd, by have := hF d hd; omega⟩
          exact uns_in2 hM1 (fun s' v' W' h1 h2 h3 => ih s' v' W' (hM1.below h2 hM1.pos) h1 (fun x hx => hkl x (List.mem_cons_of_mem _ hx)) h3) hk (by omega) (by omega) hrl (by simpa using hxW) (by omega) (by simpa using hcl) hcm hcl1 hck1 (ht1.below hB1) hW hb hF'
        · have h1 := setP_len ps k (unsC r (valC ps k)).1
          have h2 := read_len hr
          omega
    clear ih ht ht1 hc0 hkl hx1 hsz hM hcl
    generalize unsC (k :: r) s = q at *
    have HB1 := Lib.hid hB1
    clear hB1
    obtain ⟨m, hm⟩ : ∃ m, (k :: r).length = m + 1 := ⟨r.length, by simp⟩
    rw [hm] at CH ⊢
    clear hm
    go_enter Try.func21, Try.ntmps21
    go_wp2_with (go_at_call 32; refine CH.out.mono ?_; rintro e w3 ⟨rfl, hB3⟩; have H3 := Lib.hid hB3; clear hB3)
    go_ret2
    exact ⟨rfl, H3.out⟩
end Go.Proofs.Ytpaffocniniakaa
