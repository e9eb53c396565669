/- put. -/
import Derived.Test.YtpaffocniniakaaBook12
import Derived.Laws.EntriesVeiled
namespace Go.Proofs.Ytpaffocniniakaa
set_option linter.unusedVariables false
set_option linter.unusedSimpArgs false
open Go.RowKit Go.MapKept Go.WideMaps

theorem setP_len (a : Prs) (k v : Bs) : (setP a k v).length ≤ a.length + 1 := by
  induction a with
  | nil => simp [setP]
  | cons q a ih => rw [setP]; split <;> simp <;> omega
set_option maxRecDepth 100000 in
set_option maxHeartbeats 1600000 in
theorem put_any {value : Bs} {vb pb : Nat} : ∀ (path : List Bs) (s : Bs) (v : Value) (w : World), MaxIs w → s.length ≤ 19999 → (∀ k ∈ path, k.length ≤ 1000000) → TxtRow w v path → PutBx w vb pb value →
    Calls Try.prog 42 #[.string ⟨s.toArray⟩, v, .pointer (some ⟨vb, 0, none⟩), .pointer (some ⟨pb, 0, none⟩)] w fun e w' => e = .returned (.tuple #[.string ⟨(putC path s value).1.toArray⟩, .int .i64 (putC path s value).2]) ∧ Below w.heap.size w w' := by
  intro path
  induction path with
  | nil =>
    intro s v w hM hs _ ht hbx
    obtain ⟨o, c, rfl, _⟩ := ht
    have hv0 := hbx.v
    have hp0 := hbx.p
    have hvl := hbx.vl
    go_enter Try.func42, Try.ntmps42
    go_wp2_with (fail)
    go_ret2
    exact ⟨rfl, (Below.refl _ _).alloc (Nat.le_refl _) _⟩
  | cons k r ih =>
    intro s v w hM hs hkl ht hbx
    obtain ⟨o, c, rfl, _⟩ := id ht
    obtain ⟨cb, off, rfl, hcl, hcm, hbl, hc0, ht1⟩ := ht.first
    have hk := hkl k (by simp)
    have hB1 : Below w.heap.size w (w.alloc (.cells #[.slice (some ⟨cb, off, none⟩) (k :: r).length c] 29)) := (Below.refl _ w).alloc (Nat.le_refl _) _
    have hx1 := (Boxed.new w 29 (.slice (some ⟨cb, off, none⟩) (k :: r).length c)).cell
    have hsz : (w.alloc (.cells #[.slice (some ⟨cb, off, none⟩) (k :: r).length c] 29)).heap.size = w.heap.size + 1 := by simp
    have CH : Hid (Calls Try.prog 32 #[.string ⟨s.toArray⟩, .func (.func 43) #[] #[.pointer (some ⟨w.heap.size, 0, none⟩), .pointer (some ⟨pb, 0, none⟩)]] (w.alloc (.cells #[.slice (some ⟨cb, off, none⟩) (k :: r).length c] 29)) fun e w' => e = .returned (.tuple #[.string ⟨(putC (k :: r) s value).1.toArray⟩, .int .i64 (putC (k :: r) s value).2]) ∧ Below w.heap.size w w') := by
      generalize w.alloc (.cells #[.slice (some ⟨cb, off, none⟩) (k :: r).length c] 29) = w1 at *
      have hM1 := hM.below hB1 hM.pos
      refine (changed_put s hs w1 hM1 (fun ps => (putC r (valC ps k) value).2) (fun ps => setP ps k (putC r (valC ps k) value).1) (fun ps hr W b F hW hb hF => ?_) (fun ps hr => ?_)).mono fun e w' ⟨h1, h2⟩ => ⟨h1, hB1.trans (h2.mono (by omega))⟩
      · have hps := read_len hr
        have hvl := val_len hr k
        have hlo := hW.size
        have hxW := (hW.cell (p := ⟨w.heap.size, 0, none⟩) (by show w.heap.size < w1.heap.size; omega)).trans hx1
        have hcl1 : cb < w1.heap.size := by omega
        have hck1 := (hB1.cell (p := ⟨cb, off, none⟩) hbl).trans hc0
        have hF' : ∀ d ∈ F, w1.heap.size ≤ d ∧ d ≠ w.heap.size := fun d hd => ⟨hF d hd, by have := hF d hd; omega⟩
        have hbx1 := hbx.below hB1
        by_cases c1 : c = 1
        · subst c1
          obtain rfl : r = [] := List.length_eq_zero_iff.1 (by have h9 : (k :: r).length = r.length + 1 := rfl; omega)
          exact put_in1 hM1 (fun s' v' W' h1 h2 h3 => ih s' v' W' (hM1.below h2 hM1.pos) h1 (by simp) h3 (hbx1.below h2)) hk hbx1 (by omega) (by omega) (by simpa using hxW) (by omega) hcl1 hck1 hW hb hF'
        · exact put_in2 hM1 (fun s' v' W' h1 h2 h3 => ih s' v' W' (hM1.below h2 hM1.pos) h1 (fun x hx => hkl x (List.mem_cons_of_mem _ hx)) h3 (hbx1.below h2)) hk hbx1 (by omega) (by omega) (by simpa using hxW) (by omega) (by simpa using hcl) hcm c1 hcl1 hck1 (ht1.below hB1) hW hb hF'
      · have h1 := setP_len ps k (putC r (valC ps k) value).1
        have h2 := read_len hr
        omega
    obtain ⟨m, hm⟩ : ∃ m, (k :: r).length = m + 1 := ⟨r.length, by simp⟩
    rw [hm] at CH ⊢
    clear hm ih ht ht1 hc0 hkl hx1 hsz hM hcl
    generalize putC (k :: r) s value = q at *
    have hp0 := hbx.p
    clear hbx
    have HB1 := Lib.hid hB1
    clear hB1
    go_enter Try.func42, Try.ntmps42
    go_wp2_with (go_at_call 32; refine CH.out.mono ?_; rintro e w3 ⟨rfl, hB3⟩; have H3 := Lib.hid hB3; clear hB3)
    go_ret2
    exact ⟨rfl, H3.out⟩
end Go.Proofs.Ytpaffocniniakaa
