/- Set. -/
import Derived.Test.YtpaffocniniakaaBook13
import Derived.Laws.EntriesVeiled
namespace Go.Proofs.Ytpaffocniniakaa
set_option linter.unusedVariables false
set_option linter.unusedSimpArgs false
open Go.RowKit Go.MapKept Go.WideMaps

/-- The world in which 'Set' has its two boxes. -/
theorem put_boxes (w : World) (value : Bs) : ∃ w2, w2 = ((w.alloc (.cells #[.string ⟨value.toArray⟩] 9)).alloc (.cells #[.func (.func 42) #[] #[.pointer (some ⟨w.heap.size, 0, none⟩), .pointer (some ⟨w.heap.size + 1, 0, none⟩)]] 35)) ∧ PutBx w2 w.heap.size (w.heap.size + 1) value ∧ Below w.heap.size w w2 := by
  refine ⟨_, rfl, ⟨?_, ?_, ?_, ?_⟩, ?_⟩
  · exact ((Boxed.new w 9 (.string ⟨value.toArray⟩)).alloc _).cell
  · have h := (Boxed.new (w.alloc (.cells #[.string ⟨value.toArray⟩] 9)) 35 (.func (.func 42) #[] #[.pointer (some ⟨w.heap.size, 0, none⟩), .pointer (some ⟨w.heap.size + 1, 0, none⟩)])).cell
    rw [show (w.alloc (.cells #[.string ⟨value.toArray⟩] 9)).heap.size = w.heap.size + 1 by simp] at h
    exact h
  · simp; omega
  · simp
  · exact ((Below.refl _ w).alloc (Nat.le_refl _) _).alloc (by simp) _
set_option maxRecDepth 100000 in
set_option maxHeartbeats 1600000 in
theorem Set_any (s : Bs) (path : List Bs) (value : Bs) (v : Value) (w : World) (hM : MaxIs w) (hs : s.length ≤ 19999) (hkl : ∀ k ∈ path, k.length ≤ 1000000) (ht : TxtRow w v path) :
    Calls Try.prog 18 #[.string ⟨s.toArray⟩, v, .string ⟨value.toArray⟩] w fun e w' => e = .returned (.tuple #[.string ⟨(setC s path value).1.toArray⟩, .int .i64 (setC s path value).2]) ∧ Below w.heap.size w w' := by
  obtain ⟨o, c, rfl, _⟩ := id ht
  have hnc : path.length ≤ c := ht.at_.2.1
  obtain ⟨w2, hw2, hbx, hB2⟩ := put_boxes w value
  have hp0 := hbx.p
  have hpl := hbx.pl
  have hlo := hB2.size
  have WK : Hid (Calls Try.prog 44 #[.string ⟨s.toArray⟩, .slice o path.length c] w2 fun e w' => e = .returned (.int .i64 (walkC s path)) ∧ Below w2.heap.size w2 w') := walk_any path s _ w2 hs hkl (ht.below hB2)
  have PUT : Hid (∀ w3, Below w2.heap.size w2 w3 → Calls Try.prog 42 #[.string ⟨s.toArray⟩, .slice o path.length c, .pointer (some ⟨w.heap.size, 0, none⟩), .pointer (some ⟨w.heap.size + 1, 0, none⟩)] w3 fun e w' => e = .returned (.tuple #[.string ⟨(putC path s value).1.toArray⟩, .int .i64 (putC path s value).2]) ∧ Below w3.heap.size w3 w') := fun w3 h3 =>
    put_any path s _ w3 (hM.below (hB2.trans (h3.mono hlo)) hM.pos) hs hkl (ht.below (hB2.trans (h3.mono hlo))) (hbx.below h3)
  have HB2 := Lib.hid hB2
  have HP0 := Lib.hid (And.intro hp0 (And.intro hpl hlo))
  unfold setC
  clear hB2 hbx ht hkl hM hp0 hpl hlo
  generalize putC path s value = q at *
  generalize walkC s path = k at *
  by_cases hk : k = 0
  · subst hk
    rw [if_pos rfl]
    subst hw2
    go_enter Try.func18, Try.ntmps18
    go_wp2_with (first | (go_at_call 44; refine WK.out.mono ?_; rintro e w3 ⟨rfl, hB3⟩; have hp3 := (hB3.cell (p := ⟨w.heap.size + 1, 0, none⟩) HP0.out.2.1).trans HP0.out.1; have H3 := Lib.hid hB3; clear hB3) | (go_at_call 42; refine (PUT.out _ H3.out).mono ?_; rintro e w4 ⟨rfl, hB4⟩; have H4 := Lib.hid hB4; clear hB4))
    go_ret2
    exact ⟨rfl, HB2.out.trans ((H3.out.mono HP0.out.2.2).trans (H4.out.mono (Nat.le_trans HP0.out.2.2 H3.out.size)))⟩
  · rw [if_neg hk]
    have t1 : (k == 0) = false := beq_eq_false_iff_ne.2 hk
    clear hk
    subst hw2
    go_enter Try.func18, Try.ntmps18
    go_wp2_with (first | (go_at_call 44; refine WK.out.mono ?_; rintro e w3 ⟨rfl, hB3⟩; have H3 := Lib.hid hB3; clear hB3))
    go_ret2
    exact ⟨rfl, HB2.out.trans (H3.out.mono HP0.out.2.2)⟩
end Go.Proofs.Ytpaffocniniakaa
