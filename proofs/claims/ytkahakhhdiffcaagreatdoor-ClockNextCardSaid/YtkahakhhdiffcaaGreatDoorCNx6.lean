/- The program's 'Next'. -/
import Derived.Test.YtkahakhhdiffcaaGreatDoorCNx5
import Derived.RangeFuncLeaves
namespace Go.Proofs.YtkahakhhdiffcaaGreatDoor
set_option linter.unusedVariables false
set_option linter.unusedSimpArgs false
open Go.RowKit Go.Shelf
attribute [local go_sem] Oper.semAt_some wide_fnD
/-- The boxes that 'Next' begins with: a time, its two results. -/
theorem nx_start (t : Int) (w : World) {w3 : World} (h : w3 = ((w.alloc (.cells #[.int .i64 t] 3)).alloc (.cells #[.int .i64 0] 3)).alloc (.cells #[.int .i64 0] 23)) :
    w3.heap.size = w.heap.size + 3 ∧ Boxed w3 w.heap.size 3 (.int .i64 t) ∧ Boxed w3 (w.heap.size + 1) 3 (.int .i64 0) ∧ Boxed w3 (w.heap.size + 1 + 1) 23 (.int .i64 0) ∧ Below w.heap.size w w3 := by
  subst h
  have c0 := Boxed.new w 3 (.int .i64 t)
  have c1 := Boxed.new (w.alloc (.cells #[.int .i64 t] 3)) 3 (.int .i64 0)
  have c2 := Boxed.new ((w.alloc (.cells #[.int .i64 t] 3)).alloc (.cells #[.int .i64 0] 3)) 23 (.int .i64 0)
  simp only [World.size_alloc] at c1 c2
  exact ⟨by simp, (c0.alloc _).alloc _, c1.alloc _, c2, (((Below.refl _ w).alloc (Nat.le_refl _) _).alloc (by simp) _).alloc (by simp <;> omega) _⟩
/-- The two results told. -/
theorem nx_put {W w : World} {b4 : Nat} {u v : Value} (h4 : Boxed W b4 3 u) (h5 : Boxed W (b4 + 1) 23 v) (a e : Int) (hB : Below w.heap.size w W) (hb : w.heap.size ≤ b4) :
    Boxed ((W.setCell ⟨b4, 0, none⟩ (.int .i64 a)).setCell ⟨b4 + 1, 0, none⟩ (.int .i64 e)) b4 3 (.int .i64 a) ∧ Boxed ((W.setCell ⟨b4, 0, none⟩ (.int .i64 a)).setCell ⟨b4 + 1, 0, none⟩ (.int .i64 e)) (b4 + 1) 23 (.int .i64 e) ∧ Below w.heap.size w ((W.setCell ⟨b4, 0, none⟩ (.int .i64 a)).setCell ⟨b4 + 1, 0, none⟩ (.int .i64 e)) ∧ KeepsOthers W ((W.setCell ⟨b4, 0, none⟩ (.int .i64 a)).setCell ⟨b4 + 1, 0, none⟩ (.int .i64 e)) :=
  ⟨(h4.set _).other (by omega) _, (h5.other (by omega) _).set _, (hB.setCell (p := ⟨b4, 0, none⟩) hb _).setCell (p := ⟨b4 + 1, 0, none⟩) (by show w.heap.size ≤ b4 + 1; omega) _, (KeepsOthers.setCell W _ _).trans (KeepsOthers.setCell _ _ _)⟩
set_option maxRecDepth 100000 in
set_option maxHeartbeats 1600000 in
theorem Next_bad (t : Int) (rule : Bs) (hv : validI t = false) (w : World) :
    Calls Tryz.prog 7 #[.int .i64 t, .string ⟨rule.toArray⟩] w fun e w' => e = .returned (.tuple #[.int .i64 0, .int .i64 7]) ∧ Below w.heap.size w w' := by
  have VA := Lib.hid (fun W => valid_any t W)
  rw [hv] at VA
  obtain ⟨w3, hw3⟩ : ∃ w3, w3 = ((w.alloc (.cells #[.int .i64 t] 3)).alloc (.cells #[.int .i64 0] 3)).alloc (.cells #[.int .i64 0] 23) := ⟨_, rfl⟩
  obtain ⟨hsz, h2, h4, h5, hB⟩ := nx_start t w hw3
  have c2 := h2.cell
  have c4 := h4.cell
  have c5 := h5.cell
  have f4 := h4.frozen
  have f5 := (h5.other (by omega : w.heap.size + 1 + 1 ≠ w.heap.size + 1) (.int .i64 0)).frozen
  obtain ⟨k4, k5, kB, -⟩ := nx_put h4 h5 0 7 hB (by omega)
  have r4 := k4.cell
  have r5 := k5.cell
  have HW3 := Lib.hid hw3
  clear hw3
  go_enter Tryz.func7, Tryz.ntmps7
  go_wp2_with (go_at_call 17; refine (VA.out _).mono ?_; rintro e w1 ⟨rfl, hw⟩; have hw' := HW3.out.trans hw; clear hw; subst hw')
  refine bodyPost_ret (v := .tuple #[.int .i64 0, .int .i64 7]) ?_ rfl ⟨rfl, kB⟩
  simp [results, Tryz.f7, go_sem, r4, r5]
/-- The words of a rule. -/
theorem words_any (rule : Bs) (hs : rule.length ≤ 100000) (w : World) (hM : MaxIs w) : Calls Tryz.prog 18 #[.string ⟨rule.toArray⟩, .string ⟨#[32]⟩] w fun e w' => e = .returned (.slice (some ⟨w.heap.size, 0, none⟩) (Lib.split rule [32]).length (Lib.split rule [32]).length) ∧ SpR w' w.heap.size (Lib.split rule [32]) ∧ Below w.heap.size w w' := split_any rule 32 hs w hM
set_option maxRecDepth 100000 in
set_option maxHeartbeats 1600000 in
theorem Next_words (t : Int) (rule : Bs) (hs : rule.length ≤ 100000) (hv : validI t = true) (hn : (Lib.split rule [32]).length ≠ 5) (w : World) (hM : MaxIs w) (hM0 : 0 < w.heap.size) :
    Calls Tryz.prog 7 #[.int .i64 t, .string ⟨rule.toArray⟩] w fun e w' => e = .returned (.tuple #[.int .i64 0, .int .i64 2]) ∧ Below w.heap.size w w' := by
  have VA := Lib.hid (fun W => valid_any t W)
  rw [hv] at VA
  obtain ⟨w3, hw3⟩ : ∃ w3, w3 = ((w.alloc (.cells #[.int .i64 t] 3)).alloc (.cells #[.int .i64 0] 3)).alloc (.cells #[.int .i64 0] 23) := ⟨_, rfl⟩
  obtain ⟨hsz, h2, h4, h5, hB⟩ := nx_start t w hw3
  have HM : MaxIs w3 := by
    obtain ⟨m, hm⟩ := hM
    exact ⟨m, (hB.cell (p := ⟨0, 0, none⟩) hM0).trans hm⟩
  have SP := Lib.hid (words_any rule hs w3 HM)
  obtain ⟨L, hL⟩ : ∃ L, (Lib.split rule [32]).length = L := ⟨_, rfl⟩
  rw [hL] at SP hn
  have t5 : ((L : Int) == 5) = false := by rw [beq_eq_false_iff_ne]; omega
  have c2 := h2.cell
  have HW3 := Lib.hid hw3
  have H := Lib.hid (And.intro h4 (And.intro h5 hB))
  clear hw3 hn hL h2 h4 h5 hB HM hM
  go_enter Tryz.func7, Tryz.ntmps7
  go_wp2_with (first
    | (go_at_call 17; refine (VA.out _).mono ?_; rintro e w1 ⟨rfl, hw⟩; have hw' := HW3.out.trans hw; clear hw; subst hw')
    | (go_at_call 18; refine SP.out.mono ?_; rintro e w1 ⟨rfl, hsr, hBs⟩; have h4' : Boxed w1 (w.heap.size + 1) 3 (.int .i64 0) := (hBs.block _ (by omega)).trans H.out.1; have h5' : Boxed w1 (w.heap.size + 1 + 1) 23 (.int .i64 0) := (hBs.block _ (by omega)).trans H.out.2.1; have hB' := H.out.2.2.trans (hBs.mono (by omega)); have c4 := h4'.cell; have c5 := h5'.cell; have f4 := h4'.frozen; have f5 := (h5'.other (by omega : w.heap.size + 1 + 1 ≠ w.heap.size + 1) (.int .i64 0)).frozen; have K := Lib.hid (nx_put h4' h5' 0 2 hB' (by omega)); clear h4' h5' hB' hsr hBs))
  obtain ⟨k4, k5, kB, -⟩ := K.out
  have r4 := k4.cell
  have r5 := k5.cell
  refine bodyPost_ret (v := .tuple #[.int .i64 0, .int .i64 2]) ?_ rfl ⟨rfl, kB⟩
  simp [results, Tryz.f7, go_sem, r4, r5]
end Go.Proofs.YtkahakhhdiffcaaGreatDoor
