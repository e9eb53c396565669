/- The reference's table, just made: what each call tells and leaves. -/
import Derived.Test.YtbbbenjakjejmaaTbImp
namespace Go.Proofs.Ytbbbenjakjejmaa
set_option linter.unusedVariables false
set_option linter.unusedSimpArgs false
open Go.RowKit Go.MapKept Go.WideMaps
/-- A table of the reference, with nothing in it. -/
def RN (w : World) (yb : Nat) : Prop := w.heap[yb]? = some (.cells #[.slice none 0 0, .int .i64 0] 61 (0, 0))
theorem RN.cells {w : World} {yb : Nat} (h : RN w yb) : w.cell? ⟨yb, 0, none⟩ = some (.slice none 0 0) ∧ w.cell? ⟨yb, 1, none⟩ = some (.int .i64 0) ∧ ∀ i, w.frozen? ⟨yb, i, none⟩ = false := by
  unfold RN at h
  refine ⟨by simp [World.cell?, h], by simp [World.cell?, h], fun i => by simp [World.frozen?, h]⟩
theorem RN.lt {w : World} {yb : Nat} (h : RN w yb) : yb < w.heap.size := (Array.getElem?_eq_some_iff.1 h).1
theorem RN.low {w w' : World} {yb : Nat} (h : RN w yb) (hb : Below w.heap.size w w') : RN w' yb := (hb.block yb h.lt).trans h
theorem rNew_any (w : World) : Calls Try.prog 10 #[] w fun e w' => ∃ yb, e = .returned (.pointer (some ⟨yb, 0, none⟩)) ∧ RN w' yb ∧ Below w.heap.size w w' ∧ w.heap.size ≤ yb := by
  go_enter Try.func10, Try.ntmps10
  go_wp2
  go_ret
  exact ⟨w.heap.size, rfl, heap_alloc_new w _, (Below.refl _ w).alloc (Nat.le_refl _) _, Nat.le_refl _⟩
section
variable {w : World} {yb : Nat}
theorem rfind0 (h : RN w yb) (name : Bs) (hid : Bool) : Calls Try.prog 57 #[.pointer (some ⟨yb, 0, none⟩), .string ⟨name.toArray⟩, .bool hid] w fun e w' => e = .returned (.int .i64 0) ∧ w = w' := by
  obtain ⟨c0, _⟩ := h.cells
  go_enter Try.func57, Try.ntmps57
  go_wp2_with fail
  go_loopw [16] (fun q wr => q = .int .i64 0 ∧ w = wr) (fun _ _ => 0)
  case atStart => exact ⟨rfl, rfl⟩
  case round =>
    obtain ⟨rfl, rfl⟩ := hrel
    go_wp2_with fail
    go_ret
    exact ⟨rfl, rfl⟩
theorem rthere0 (h : RN w yb) (i : Int) : Calls Try.prog 43 #[.pointer (some ⟨yb, 0, none⟩), .int .i64 i] w fun e w' => e = .returned (.bool false) ∧ Below w.heap.size w w' := by
  obtain ⟨c0, _⟩ := h.cells
  by_cases h1 : 1 ≤ i
  · have t1 : decide (1 ≤ i) = true := by simpa using h1
    have t2 : decide (i ≤ 0) = false := by rw [decide_eq_false_iff_not]; omega
    go_enter Try.func43, Try.ntmps43
    go_wp2_with fail
    go_ret
    exact ⟨rfl, by first | exact Below.refl _ _ | exact (Below.refl _ _).drew⟩
  · have t1 : decide (1 ≤ i) = false := by simpa using h1
    go_enter Try.func43, Try.ntmps43
    go_wp2_with fail
    go_ret
    exact ⟨rfl, by first | exact Below.refl _ _ | exact (Below.refl _ _).drew⟩
theorem rgone0 (h : RN w yb) (i : Int) : Calls Try.prog 41 #[.pointer (some ⟨yb, 0, none⟩), .int .i64 i] w fun e w' => e = .returned (.slice none 0 0) ∧ Below w.heap.size w w' := by
  have TH := Lib.hid (rthere0 h i)
  clear h
  go_enter Try.func41, Try.ntmps41
  go_wp2_with (go_at_call 43; refine TH.out.mono ?_; rintro e w2 ⟨rfl, hB⟩; have H := Lib.hid hB; clear hB)
  go_ret
  exact ⟨rfl, H.out⟩
theorem rFind0 (h : RN w yb) (name : Bs) : Calls Try.prog 42 #[.pointer (some ⟨yb, 0, none⟩), .string ⟨name.toArray⟩] w fun e w' => e = .returned (.int .i64 0) ∧ w = w' := by
  have TH := Lib.hid (rfind0 h name false)
  clear h
  go_enter Try.func42, Try.ntmps42
  go_wp2_with (go_at_call 57; refine TH.out.mono ?_; rintro e w2 ⟨rfl, rfl⟩)
  go_ret
  exact ⟨rfl, rfl⟩
theorem rcall0 (h : RN w yb) (old new : Bs) (was now : Bool) : Calls Try.prog 45 #[.pointer (some ⟨yb, 0, none⟩), .string ⟨old.toArray⟩, .bool was, .string ⟨new.toArray⟩, .bool now] w fun e w' => e = .returned (.int .i64 8) ∧ w = w' := by
  have TH := Lib.hid (rfind0 h old was)
  clear h
  go_enter Try.func45, Try.ntmps45
  go_wp2_with (go_at_call 57; refine TH.out.mono ?_; rintro e w2 ⟨rfl, rfl⟩)
  go_ret
  exact ⟨rfl, rfl⟩
theorem rRename0 (h : RN w yb) (old new : Bs) : Calls Try.prog 30 #[.pointer (some ⟨yb, 0, none⟩), .string ⟨old.toArray⟩, .string ⟨new.toArray⟩] w fun e w' => e = .returned (.int .i64 8) ∧ w = w' := by
  have TH := Lib.hid (rcall0 h old new false false)
  clear h
  go_enter Try.func30, Try.ntmps30
  go_wp2_with (go_at_call 45; refine TH.out.mono ?_; rintro e w2 ⟨rfl, rfl⟩)
  go_ret
  exact ⟨rfl, rfl⟩
theorem rHide0 (h : RN w yb) (old new : Bs) : Calls Try.prog 32 #[.pointer (some ⟨yb, 0, none⟩), .string ⟨old.toArray⟩, .string ⟨new.toArray⟩] w fun e w' => e = .returned (.int .i64 8) ∧ w = w' := by
  have TH := Lib.hid (rcall0 h old new false true)
  clear h
  go_enter Try.func32, Try.ntmps32
  go_wp2_with (go_at_call 45; refine TH.out.mono ?_; rintro e w2 ⟨rfl, rfl⟩)
  go_ret
  exact ⟨rfl, rfl⟩
theorem rExpose0 (h : RN w yb) (old new : Bs) : Calls Try.prog 33 #[.pointer (some ⟨yb, 0, none⟩), .string ⟨old.toArray⟩, .string ⟨new.toArray⟩] w fun e w' => e = .returned (.int .i64 8) ∧ w = w' := by
  have TH := Lib.hid (rcall0 h old new true false)
  clear h
  go_enter Try.func33, Try.ntmps33
  go_wp2_with (go_at_call 45; refine TH.out.mono ?_; rintro e w2 ⟨rfl, rfl⟩)
  go_ret
  exact ⟨rfl, rfl⟩
theorem rDelete0 (h : RN w yb) (name : Bs) : Calls Try.prog 31 #[.pointer (some ⟨yb, 0, none⟩), .string ⟨name.toArray⟩] w fun e w' => e = .returned (.tuple #[.slice none 0 0, .int .i64 8]) ∧ w = w' := by
  have TH := Lib.hid (rFind0 h name)
  clear h
  go_enter Try.func31, Try.ntmps31
  go_wp2_with (go_at_call 42; refine TH.out.mono ?_; rintro e w2 ⟨rfl, rfl⟩)
  go_ret2
  exact ⟨rfl, rfl⟩
theorem rImport0 (h : RN w yb) (name : Bs) (i : Int) : Calls Try.prog 29 #[.pointer (some ⟨yb, 0, none⟩), .string ⟨name.toArray⟩, .int .i64 i] w fun e w' => e = .returned (.tuple #[.int .i64 0, .slice none 0 0, .int .i64 8]) ∧ Below w.heap.size w w' := by
  have TH := Lib.hid (rthere0 h i)
  clear h
  go_enter Try.func29, Try.ntmps29
  go_wp2_with (go_at_call 43; refine TH.out.mono ?_; rintro e w2 ⟨rfl, hB⟩; have H := Lib.hid hB; clear hB)
  go_ret3
  exact ⟨rfl, H.out⟩
theorem infoRC : (Try.prog.info? 75).map (fun i => (i.zero, i.size, i.bytes)) = some (some (.agg #[.string ⟨#[]⟩, .bool false, .bool false, .int .i64 0]), 4, 32) := by kernel_rfl
set_option maxHeartbeats 800000 in
theorem rDefine0 (h : RN w yb) (name : Bs) : Calls Try.prog 27 #[.pointer (some ⟨yb, 0, none⟩), .string ⟨name.toArray⟩] w fun e w' => e = .returned (.tuple #[.int .i64 1, .slice none 0 0]) ∧ Kp [yb] w w' := by
  have F0 := Lib.hid (rFind0 h name)
  have G0 := Lib.hid (rgone0 h 0)
  have H0 := Lib.hid h
  clear h
  go_enter Try.func27, Try.ntmps27
  go_wp2_with (first
    | (go_at_call 42; refine F0.out.mono ?_; rintro e w2 ⟨rfl, rfl⟩)
    | (go_at_call 41; refine G0.out.mono ?_; rintro e w3 ⟨rfl, hB⟩; obtain ⟨c0, c1, cf⟩ := (H0.out.low hB).cells; have H3 := Lib.hid (And.intro (H0.out.low hB) hB); clear hB cf)
    | (at_builtin; go_loud (refine wpList_pushK rfl (.tmp 18) (.tmp 21) 59 rfl w3.heap.size 75 (.agg #[.string ⟨#[]⟩, .bool false, .bool false, .int .i64 0]) 4 32 Try.underlying59 infoRC (by rfl) (by decide) (.slice none 0 0) 0 [] rfl ⟨rfl, .inl ⟨rfl, rfl⟩⟩ [.string ⟨name.toArray⟩, .bool false, .bool true, .int .i64 0] rfl _ rfl rfl rfl (by unfold maxLen; decide) (by decide) (Nat.le_refl _) ?_); intro g c4 w4 hg4 hr4 hb4 hk4; obtain ⟨x0, x1, xf⟩ := (H3.out.1.low hb4).cells; have f0 := xf 0; have f1 := xf 1; have H4 := Lib.hid hb4; clear hg4 hr4 hb4 hk4 xf))
  go_ret2
  exact ⟨rfl, (((kp_of_below (H3.out.2.trans (H4.out.mono H3.out.2.size))).mono (by simp)).setCell yb 0 _ (.inl (by simp))).setCell yb 1 _ (.inl (by simp))⟩
end
end Go.Proofs.Ytbbbenjakjejmaa
