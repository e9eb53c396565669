/- pipe.In: all that raw bytes become by a translation. -/
import Derived.Test.YtafohdmhjilleaaDoorPIter
namespace Go.Proofs.YtafohdmhjilleaaDoor
set_option linter.unusedVariables false
set_option linter.unusedSimpArgs false
open Go.RowKit Go.Shelf
attribute [local go_sem] Oper.semAt_some
theorem wide_fn (f : FuncId) : Fence.wide.fn f = True := rfl
attribute [local go_sem] wide_fn

set_option maxRecDepth 100000 in
theorem outName_any (m : Bs) (w : World) : Calls Tryd.prog 30 #[.string ⟨m.toArray⟩] w fun e w' => e = .returned (.bool (isOutM m)) ∧ w = w' := by
  by_cases h1 : m = lfM
  · subst h1
    go_enter Tryd.func30, Tryd.ntmps30
    go_wp2
    go_ret
    exact ⟨rfl, rfl⟩
  · by_cases h2 : m = crM
    · subst h2
      go_enter Tryd.func30, Tryd.ntmps30
      go_wp2
      go_ret
      exact ⟨rfl, rfl⟩
    · by_cases h3 : m = crlfM
      · subst h3
        go_enter Tryd.func30, Tryd.ntmps30
        go_wp2
        go_ret
        exact ⟨rfl, rfl⟩
      · have t1 : (m == ([108, 102] : Bs)) = false := beq_eq_false_iff_ne.2 h1
        have t2 : (m == ([99, 114] : Bs)) = false := beq_eq_false_iff_ne.2 h2
        have t3 : (m == ([99, 114, 108, 102] : Bs)) = false := beq_eq_false_iff_ne.2 h3
        have HE : Hid (isOutM m = false) := by show _ = _; simp [isOutM, h1, h2, h3]
        clear h1 h2 h3
        go_enter Tryd.func30, Tryd.ntmps30
        go_wp2
        go_ret
        exact ⟨by rw [HE.out]; rfl, rfl⟩

set_option maxRecDepth 100000 in
theorem inName_any (m : Bs) (w : World) : Calls Tryd.prog 29 #[.string ⟨m.toArray⟩] w fun e w' => e = .returned (.bool (isInM m)) ∧ w = w' := by
  by_cases h1 : m = autoM
  · subst h1
    go_enter Tryd.func29, Tryd.ntmps29
    go_wp2
    go_ret
    exact ⟨rfl, rfl⟩
  · have t1 : (m == ([97, 117, 116, 111] : Bs)) = false := beq_eq_false_iff_ne.2 h1
    have HE : Hid (isInM m = isOutM m) := by show _ = _; simp [isInM, h1]
    clear h1
    go_enter Tryd.func29, Tryd.ntmps29
    go_wp2_with (go_at_call 30; refine (outName_any _ _).mono ?_; rintro e w' ⟨rfl, rfl⟩)
    go_ret
    exact ⟨by rw [HE.out]; rfl, rfl⟩

def noneM : Bs := [110, 111, 110, 101]
def lineM : Bs := [108, 105, 110, 101]
def fullM : Bs := [102, 117, 108, 108]
def isBufM (m : Bs) : Bool := decide (m = noneM) || decide (m = lineM) || decide (m = fullM)
set_option maxRecDepth 100000 in
theorem bufferName_any (m : Bs) (w : World) : Calls Tryd.prog 31 #[.string ⟨m.toArray⟩] w fun e w' => e = .returned (.bool (isBufM m)) ∧ w = w' := by
  by_cases h1 : m = noneM
  · subst h1
    go_enter Tryd.func31, Tryd.ntmps31
    go_wp2
    go_ret
    exact ⟨rfl, rfl⟩
  · by_cases h2 : m = lineM
    · subst h2
      go_enter Tryd.func31, Tryd.ntmps31
      go_wp2
      go_ret
      exact ⟨rfl, rfl⟩
    · by_cases h3 : m = fullM
      · subst h3
        go_enter Tryd.func31, Tryd.ntmps31
        go_wp2
        go_ret
        exact ⟨rfl, rfl⟩
      · have t1 : (m == ([110, 111, 110, 101] : Bs)) = false := beq_eq_false_iff_ne.2 h1
        have t2 : (m == ([108, 105, 110, 101] : Bs)) = false := beq_eq_false_iff_ne.2 h2
        have t3 : (m == ([102, 117, 108, 108] : Bs)) = false := beq_eq_false_iff_ne.2 h3
        have HE : Hid (isBufM m = false) := by show _ = _; simp [isBufM, h1, h2, h3]
        clear h1 h2 h3
        go_enter Tryd.func31, Tryd.ntmps31
        go_wp2
        go_ret
        exact ⟨by rw [HE.out]; rfl, rfl⟩
theorem mode_cases {m : Bs} (h : isInM m = true) : m = autoM ∨ m = lfM ∨ m = crM ∨ m = crlfM := by
  simp only [isInM, isOutM, Bool.or_eq_true, decide_eq_true_eq] at h
  rcases h with h | (h | h) | h <;> simp [h]

abbrev inE (n : Nat) (raw mode : Bs) (closed : Bool) : Ext := [(n + 1 + 1, #[.string ⟨raw.toArray⟩], 9), (n + 1 + 1 + 1, #[.string ⟨mode.toArray⟩], 9), (n + 1 + 1 + 1 + 1, #[.bool closed], 4)]
theorem inE_ok (n : Nat) (raw mode : Bs) (closed : Bool) : EOk (n + 1) (inE n raw mode closed) := by
  refine ⟨?_, ?_, ?_⟩ <;> (intro e he; simp at he; rcases he with rfl | rfl | rfl <;> simp <;> omega)
theorem inE_k3 {n : Nat} {raw mode : Bs} {closed : Bool} {W W1 : World} (h : ∀ e ∈ inE n raw mode closed, W1.heap[e.1]? = W.heap[e.1]?) : K3 (n + 1 + 1) (n + 1 + 1 + 1) (n + 1 + 1 + 1 + 1) W W1 :=
  ⟨h _ (.head _), h _ (.tail _ (.head _)), h _ (.tail _ (.tail _ (.head _)))⟩
theorem in_start (w : World) (raw mode : Bs) (closed : Bool) {w5 : World} (h : w5 = ((((w.alloc (.cells #[.pointer none, .slice none 0 0] 67)).alloc (.cells #[.int .i64 0] 3)).alloc (.cells #[.string ⟨raw.toArray⟩] 9)).alloc (.cells #[.string ⟨mode.toArray⟩] 9)).alloc (.cells #[.bool closed] 4)) :
    w5.heap.size = w.heap.size + 5 ∧ Gath w.heap.size w.heap.size (w.heap.size + 1) (inE w.heap.size raw mode closed) w [] 0 w5 := by
  subst h
  refine ⟨by simp, ?_, ?_, ?_, ?_⟩
  · exact (IsB.new w).below ((((Below.refl _ _).alloc (by simp) _).alloc (by simp <;> omega) _).alloc (by simp <;> omega) _ |>.alloc (by simp <;> omega) _)
  · rw [Below.heap_alloc _ _ _ (by simp <;> omega), Below.heap_alloc _ _ _ (by simp <;> omega), Below.heap_alloc _ _ _ (by simp)]
    have := heap_alloc_new (w.alloc (.cells #[.pointer none, .slice none 0 0] 67)) (.cells #[.int .i64 0] 3)
    simpa using this
  · intro e he
    simp at he
    rcases he with rfl | rfl | rfl
    · rw [Below.heap_alloc _ _ _ (by simp <;> omega), Below.heap_alloc _ _ _ (by simp)]
      have := heap_alloc_new ((w.alloc (.cells #[.pointer none, .slice none 0 0] 67)).alloc (.cells #[.int .i64 0] 3)) (.cells #[.string ⟨raw.toArray⟩] 9)
      simpa using this
    · rw [Below.heap_alloc _ _ _ (by simp)]
      have := heap_alloc_new (((w.alloc (.cells #[.pointer none, .slice none 0 0] 67)).alloc (.cells #[.int .i64 0] 3)).alloc (.cells #[.string ⟨raw.toArray⟩] 9)) (.cells #[.string ⟨mode.toArray⟩] 9)
      simpa using this
    · have := heap_alloc_new ((((w.alloc (.cells #[.pointer none, .slice none 0 0] 67)).alloc (.cells #[.int .i64 0] 3)).alloc (.cells #[.string ⟨raw.toArray⟩] 9)).alloc (.cells #[.string ⟨mode.toArray⟩] 9)) (.cells #[.bool closed] 4)
      simpa using this
  · exact ((((((Below.refl _ _).alloc (Nat.le_refl _) _).alloc (by simp) _).alloc (by simp <;> omega) _).alloc (by simp <;> omega) _).alloc (by simp <;> omega) _)

set_option maxRecDepth 100000 in
set_option maxHeartbeats 1600000 in
theorem In_yes (raw mode : Bs) (closed : Bool) (hm : isInM mode = true) (hs : raw.length ≤ 1000000) (w : World) :
    Calls Tryd.prog 20 #[.string ⟨raw.toArray⟩, .string ⟨mode.toArray⟩, .bool closed] w fun e w' => e = .returned (.tuple #[.string ⟨(bytesL (stepsL mode closed raw)).toArray⟩, .string ⟨(raw.drop (sumN (stepsL mode closed raw))).toArray⟩, .int .i64 0]) ∧ Below w.heap.size w w' := by
  have hmo := mode_cases hm
  have HM : Hid (∀ W, Calls Tryd.prog 29 #[.string ⟨mode.toArray⟩] W fun e w' => e = .returned (.bool true) ∧ W = w') := fun W => by have := inName_any mode W; rwa [hm] at this
  clear hm
  refine callsIn_wide (n := 3) |>.1 ?_
  refine callsIn_of_wp_marks Tryd.func20 rfl trivial ?_ rfl
  simp only [Tryd.ntmps20, List.size_toArray, List.length_cons, List.length_nil, Nat.reduceAdd, Nat.reduceSub, Array.replicate_succ, Array.replicate_zero, List.push_toArray, List.append_toArray, List.nil_append, List.cons_append]
  gi_wp2_with (first | (gi_at_call 29; refine (callsIn_wide.2 (HM.out _)).mono ?_; rintro e w' ⟨rfl, rfl⟩) | (gi_at_call 38; refine (callsIn_wide.2 (steps_any _ _ _ _)).mono ?_; rintro e w' ⟨rfl, rfl⟩))
  obtain ⟨w5, hw5⟩ : ∃ w5, w5 = ((((w.alloc (.cells #[.pointer none, .slice none 0 0] 67)).alloc (.cells #[.int .i64 0] 3)).alloc (.cells #[.string ⟨raw.toArray⟩] 9)).alloc (.cells #[.string ⟨mode.toArray⟩] 9)).alloc (.cells #[.bool closed] 4) := ⟨_, rfl⟩
  obtain ⟨hsz, hG0⟩ := in_start w raw mode closed hw5
  rw [← hw5]
  clear hw5
  have hE := inE_ok w.heap.size raw mode closed
  have HT := steps_two mode closed raw
  refine wpIn_rangeFunc_ownF rfl (by omega) (gf := 51) (lb := #[.pointer (some ⟨w.heap.size + 1 + 1, 0, none⟩), .pointer (some ⟨w.heap.size + 1 + 1 + 1, 0, none⟩), .pointer (some ⟨w.heap.size + 1 + 1 + 1 + 1, 0, none⟩)]) rfl trivial (enters_of Tryd.func51 (by kernel_rfl) rfl)
    (steps_stops (w.heap.size + 1 + 1) (w.heap.size + 1 + 1 + 1) (w.heap.size + 1 + 1 + 1 + 1) raw mode closed hmo hs w5 (by omega) (by omega) (by omega) (hG0.extcell (t := 9) (by simp)) (hG0.extcell (t := 9) (by simp)) (hG0.extcell (t := 4) (by simp)))
    K3.trans (k3_put (by omega) (by omega) (by omega)) (Below.refl _ _) (fun _ => rfl)
    (fun pre W => Gath w.heap.size w.heap.size (w.heap.size + 1) (inE w.heap.size raw mode closed) w (bytesL pre) (sumC pre) W)
    (fun c' pre W => False)
    (gath_own (Nat.le_refl _) (by omega) _ _)
    (fun c => fun _ _ _ _ hs _ _ => hs)
    hG0
    (fun x => { tmps := #[.string ⟨raw.toArray⟩, .string ⟨mode.toArray⟩, .bool closed, undef, undef, undef, .string ⟨#[]⟩, .string ⟨#[]⟩, .int .i64 0, .pointer (some ⟨w.heap.size, 0, none⟩), .pointer (some ⟨w.heap.size + 1, 0, none⟩), .string ⟨#[x.1]⟩, .int .i64 ((clip x.2 : Nat) : Int), .string ⟨mode.toArray⟩, .bool true, .bool false, .string ⟨raw.toArray⟩, .string ⟨mode.toArray⟩, .bool closed, .func (.func 51) #[] #[.pointer (some ⟨w.heap.size + 1 + 1, 0, none⟩), .pointer (some ⟨w.heap.size + 1 + 1 + 1, 0, none⟩), .pointer (some ⟨w.heap.size + 1 + 1 + 1 + 1, 0, none⟩)], .string ⟨#[x.1]⟩, .int .i64 ((clip x.2 : Nat) : Int), undef, undef, undef, undef, undef, undef, undef, undef, undef], defers := [] }) ?assign ?body ?done ?stop
  case assign =>
    intro l x W K hK
    gi_wp2
    exact hK
  case body =>
    rintro l pre x W hG hpl
    have h1 := sumC_le pre
    have h2 := clip_le x.2
    obtain ⟨hc, hf⟩ := hG.cell
    clear HT hmo
    gi_wp2_with (gi_at_call 39; refine (callsIn_wide.2 (write_gath hG hE (Nat.le_refl _) (by omega) (by rw [bytesL_len]; omega) x.1)).mono ?_; rintro e W1 ⟨rfl, hG1, hk1, he1⟩; obtain ⟨hc1, hf1⟩ := hG1.cell; clear hc hf)
    obtain ⟨hG2, hk2, he2⟩ := hG1.count hE (by omega) (sumC pre + clip x.2)
    refine ⟨hk1.trans hk2, inE_k3 (fun e he => (he2 e he).trans (he1 e he)), ?_⟩
    show Gath _ _ _ _ _ (bytesL (pre ++ [x])) (sumC (pre ++ [x])) _
    rw [bytesL_snoc, sumC_snoc]
    exact hG2
  case done =>
    rintro D ys W hD hys hG hK
    have hsum := sumC_eq HT
    have hle := (steps_le mode closed raw).2
    rw [← hys] at hsum hle
    rw [hsum] at hG
    have HY := Lib.hid hys
    clear hys HT hmo HM
    gi_wp2
    have hK0 : D < W.heap.size := (Array.getElem?_eq_some_iff.1 hK).1
    refine wpIn_region_heldP (GathD w.heap.size w.heap.size (w.heap.size + 1) (inE w.heap.size raw mode closed) w (bytesL ys) (sumN ys) D) ⟨hG.grown (Nat.le_refl _) (Nat.le_refl _) (W1 := W.drew) (row := none) ⟨rfl, rfl, rfl, Nat.le_refl _, fun _ _ _ => rfl⟩ (fun r e => by cases e), hK⟩ rfl (by kernel_rfl) (by kernel_rfl) ?_
    haveI hne : Nonempty (HeldP (GathD w.heap.size w.heap.size (w.heap.size + 1) (inE w.heap.size raw mode closed) w (bytesL ys) (sumN ys) D)) := ⟨⟨W, hG, hK⟩⟩
    have cx : ∀ x : HeldP (GathD w.heap.size w.heap.size (w.heap.size + 1) (inE w.heap.size raw mode closed) w (bytesL ys) (sumN ys) D), x.val.cell? ⟨w.heap.size + 1, 0, none⟩ = some (.int .i64 (sumN ys : Int)) := fun x => x.is.1.cell.1
    have hle2 : (sumN ys : Int) ≤ (raw.length : Int) := by omega
    repeat (gi_big_quiet_step ((gi_at_call 40; exact string_held hE (Nat.le_refl _) (by omega))))
    refine wpQuietIn_nil ?_
    rintro _ ⟨x, rfl⟩
    gi_wp2
    obtain ⟨W', hG', hK'⟩ := x
    refine ⟨by simp, .inl ⟨_, _, rfl, run_takeDeferred hK', ?_⟩⟩
    refine ⟨.tuple #[.string ⟨(bytesL ys).toArray⟩, .string ⟨(raw.drop (sumN ys)).toArray⟩, .int .i64 0], ?_, by rw [← HY.out], hG'.below.trans (belowK_b (w := w) (Nat.le_refl _) _ D _ _ (by omega) hK' rfl rfl)⟩
    simp [results, Tryd.f20, go_sem]
  case stop => rintro D c' pre W hD hpre h _; cases h
end Go.Proofs.YtafohdmhjilleaaDoor
