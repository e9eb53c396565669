/- What is there to be read of a pipe. -/
import Derived.Test.YtafohdmhjilleaaDoorPActs
import Derived.StillTailTactics
namespace Go.Proofs.YtafohdmhjilleaaDoor
set_option linter.unusedVariables false
set_option linter.unusedSimpArgs false
open Go.RowKit Go.Shelf
attribute [local go_sem] Oper.semAt_some wide_fn

abbrev thE (N : Nat) (n : Int) (line : Bool) (raw mode : Bs) (closed : Bool) : Ext := [(N, #[.int .i64 n], 3), (N + 1, #[.bool line], 4), (N + 1 + 1 + 1 + 1, #[.string ⟨raw.toArray⟩], 9), (N + 1 + 1 + 1 + 1 + 1, #[.string ⟨mode.toArray⟩], 9), (N + 1 + 1 + 1 + 1 + 1 + 1, #[.bool closed], 4)]
theorem thE_ok (N : Nat) (n : Int) (line : Bool) (raw mode : Bs) (closed : Bool) : EOk (N + 1 + 1 + 1) (thE N n line raw mode closed) := by
  refine ⟨?_, ?_, ?_⟩ <;> (intro e he; simp at he; rcases he with rfl | rfl | rfl | rfl | rfl <;> simp <;> omega)
theorem thE_k3 {N : Nat} {n : Int} {line : Bool} {raw mode : Bs} {closed : Bool} {W W1 : World} (h : ∀ e ∈ thE N n line raw mode closed, W1.heap[e.1]? = W.heap[e.1]?) : K3 (N + 1 + 1 + 1 + 1) (N + 1 + 1 + 1 + 1 + 1) (N + 1 + 1 + 1 + 1 + 1 + 1) W W1 :=
  ⟨h _ (.tail _ (.tail _ (.head _))), h _ (.tail _ (.tail _ (.tail _ (.head _)))), h _ (.tail _ (.tail _ (.tail _ (.tail _ (.head _)))))⟩
theorem KeepsOthers.drewN' (W : World) (n : Nat) : KeepsOthers W (W.drewN n) := ⟨Nat.le_refl _, fun _ _ h _ => h⟩
/-- What is read: the bytes taken. -/
def PP.taken (p : PP) (n : Int) (line : Bool) : List (UInt8 × Nat) := tkL n line 0 (stepsL p.inm p.closed p.raw)

theorem still_tail {P : Program} {id : Nat} {Q : Exit → Act → World → Prop} {a : Act} {w : World} {l : List Oper} (n : Nat) (hm : P.follows .mixedOrders = true) (hB : Region.lexTailB .any l.toArray n = true)
    (h : wpStill P l.toArray w.drew (fun a' => wpList P l.toArray Q (l.drop n) a' w.drew) (l.take n) a) : (Code.region id l.toArray true).wp P Q a w := wp_region_still_tail n hm hB h
theorem th_start (w : World) (n : Int) (line : Bool) (raw mode : Bs) (closed : Bool) {w4 w7 : World} (h4 : w4 = (((w.alloc (.cells #[.int .i64 n] 3)).alloc (.cells #[.bool line] 4)).alloc (.cells #[.pointer none, .slice none 0 0] 67)).alloc (.cells #[.int .i64 0] 3))
    (h7 : w7 = ((w4.drew.alloc (.cells #[.string ⟨raw.toArray⟩] 9)).alloc (.cells #[.string ⟨mode.toArray⟩] 9)).alloc (.cells #[.bool closed] 4)) :
    w4.heap.size = w.heap.size + 4 ∧ Below w.heap.size w w4 ∧ w7.heap.size = w.heap.size + 7 ∧ Gath w.heap.size (w.heap.size + 1 + 1) (w.heap.size + 1 + 1 + 1) (thE w.heap.size n line raw mode closed) w [] 0 w7 := by
  have hs4 : w4.heap.size = w.heap.size + 4 := by subst h4; simp
  have hb4 : Below w.heap.size w w4 := by
    subst h4
    exact ((((Below.refl _ _).alloc (Nat.le_refl _) _).alloc (by simp) _).alloc (by simp <;> omega) _).alloc (by simp <;> omega) _
  have hbi : IsB (w.heap.size + 1 + 1) (w.heap.size + 1 + 1) [] w4 := by
    subst h4
    have := IsB.new ((w.alloc (.cells #[.int .i64 n] 3)).alloc (.cells #[.bool line] 4))
    simp only [World.size_alloc] at this
    exact this.below ((Below.refl _ _).alloc (by simp) _)
  have k0 : w4.heap[w.heap.size]? = some (.cells #[.int .i64 n] 3 (0, 0)) := by
    subst h4
    rw [Below.heap_alloc _ _ _ (by simp <;> omega), Below.heap_alloc _ _ _ (by simp <;> omega), Below.heap_alloc _ _ _ (by simp)]
    exact heap_alloc_new w _
  have k1 : w4.heap[w.heap.size + 1]? = some (.cells #[.bool line] 4 (0, 0)) := by
    subst h4
    rw [Below.heap_alloc _ _ _ (by simp <;> omega), Below.heap_alloc _ _ _ (by simp <;> omega)]
    have := heap_alloc_new (w.alloc (.cells #[.int .i64 n] 3)) (.cells #[.bool line] 4)
    simpa using this
  have k3 : w4.heap[w.heap.size + 1 + 1 + 1]? = some (.cells #[.int .i64 0] 3 (0, 0)) := by
    subst h4
    have := heap_alloc_new (((w.alloc (.cells #[.int .i64 n] 3)).alloc (.cells #[.bool line] 4)).alloc (.cells #[.pointer none, .slice none 0 0] 67)) (.cells #[.int .i64 0] 3)
    simpa using this
  clear h4
  have hd : w4.drew.heap = w4.heap := rfl
  have hB : Below w4.heap.size w4 w7 := by
    subst h7
    exact ((((Below.refl _ _).drew).alloc (by simp [hd]) _).alloc (by simp [hd] <;> omega) _).alloc (by simp [hd] <;> omega) _
  have keep : ∀ k o, k < w4.heap.size → w4.heap[k]? = some o → w7.heap[k]? = some o := fun k o hk hh => (hB.block k hk).trans hh
  refine ⟨hs4, hb4, by subst h7; simp [hd]; omega, hbi.below hB, keep _ _ (by omega) k3, ?_, hb4.trans (hB.mono (by omega))⟩
  intro e he
  simp at he
  rcases he with rfl | rfl | rfl | rfl | rfl
  · exact keep _ _ (by simp; omega) k0
  · exact keep _ _ (by simp; omega) k1
  · subst h7
    rw [Below.heap_alloc _ _ _ (by simp [hd] <;> omega), Below.heap_alloc _ _ _ (by simp [hd] <;> omega)]
    have := heap_alloc_new w4.drew (.cells #[.string ⟨raw.toArray⟩] 9)
    rw [hd, hs4] at this
    exact this
  · subst h7
    rw [Below.heap_alloc _ _ _ (by simp [hd] <;> omega)]
    have := heap_alloc_new (w4.drew.alloc (.cells #[.string ⟨raw.toArray⟩] 9)) (.cells #[.string ⟨mode.toArray⟩] 9)
    rw [World.size_alloc, hd, hs4] at this
    exact this
  · subst h7
    have := heap_alloc_new ((w4.drew.alloc (.cells #[.string ⟨raw.toArray⟩] 9)).alloc (.cells #[.string ⟨mode.toArray⟩] 9)) (.cells #[.bool closed] 4)
    rw [World.size_alloc, World.size_alloc, hd, hs4] at this
    exact this

set_option maxRecDepth 100000 in
set_option maxHeartbeats 1600000 in
theorem there_any {w : World} {b : Nat} {p : PP} (h : PAt w b p) (n : Int) (line : Bool) (hm : isInM p.inm = true) (hs : p.raw.length ≤ 1000000) :
    Calls Tryd.prog 36 #[.pointer (some ⟨b, 0, none⟩), .int .i64 n, .bool line] w fun e w' => e = .returned (.tuple #[.string ⟨(bytesL (p.taken n line)).toArray⟩, .int .i64 (sumN (p.taken n line) : Int)]) ∧ Below w.heap.size w w' := by
  have hmo := mode_cases hm
  obtain ⟨inm, outm, buf, size, fv, raw, closed, broken, eof, blocked, buffer, gone, fin⟩ := p
  simp only [PP.taken] at hmo hs ⊢
  have c0 := h.c0; have c5 := h.c5; have c6 := h.c6
  simp only at c0 c5 c6
  have hlt := h.lt
  clear h hm
  refine callsIn_wide (n := 3) |>.1 ?_
  refine callsIn_of_wp_marks Tryd.func36 rfl trivial ?_ rfl
  simp only [Tryd.ntmps36, List.size_toArray, List.length_cons, List.length_nil, Nat.reduceAdd, Nat.reduceSub, Array.replicate_succ, Array.replicate_zero, List.push_toArray, List.append_toArray, List.nil_append, List.cons_append]
  gi_wp2
  obtain ⟨w4, h4⟩ : ∃ w4, w4 = (((w.alloc (.cells #[.int .i64 n] 3)).alloc (.cells #[.bool line] 4)).alloc (.cells #[.pointer none, .slice none 0 0] 67)).alloc (.cells #[.int .i64 0] 3) := ⟨_, rfl⟩
  obtain ⟨w7, h7⟩ : ∃ w7, w7 = ((w4.drew.alloc (.cells #[.string ⟨raw.toArray⟩] 9)).alloc (.cells #[.string ⟨inm.toArray⟩] 9)).alloc (.cells #[.bool closed] 4) := ⟨_, rfl⟩
  obtain ⟨hs4, hb4, hs7, hG0⟩ := th_start w n line raw inm closed h4 h7
  rw [← h4]
  clear h4
  have d0 := (hb4.cell (p := ⟨b, 0, none⟩) hlt).trans c0
  have d5 := (hb4.cell (p := ⟨b, 5, none⟩) hlt).trans c5
  have d6 := (hb4.cell (p := ⟨b, 6, none⟩) hlt).trans c6
  clear c0 c5 c6
  refine wpIn_wide.2 ?_
  refine still_tail 12 (by kernel_rfl) (by kernel_rfl) ?_
  simp only [List.take_succ_cons, List.take_zero, List.drop_succ_cons, List.drop_zero]
  repeat still_step
  refine wpStill_nil ?_
  have HST := Lib.hid (steps_any raw inm closed w4.drew)
  rw [show w4.drew.heap.size = w.heap.size + 1 + 1 + 1 + 1 from hs4] at HST
  rw [← h7] at HST
  clear h7 d0 d5 d6
  go_wp2_with (go_at_call 38; refine HST.out.mono ?_; rintro e w7 ⟨rfl, rfl⟩)
  clear HST
  gi_wp2
  have hE := thE_ok w.heap.size n line raw inm closed
  have HT := steps_two inm closed raw
  have HL := (steps_le inm closed raw).2
  refine wpIn_rangeFunc_ownF rfl (by omega) (gf := 51) (lb := #[.pointer (some ⟨w.heap.size + 1 + 1 + 1 + 1, 0, none⟩), .pointer (some ⟨w.heap.size + 1 + 1 + 1 + 1 + 1, 0, none⟩), .pointer (some ⟨w.heap.size + 1 + 1 + 1 + 1 + 1 + 1, 0, none⟩)]) rfl trivial (enters_of Tryd.func51 (by kernel_rfl) rfl)
    (steps_stops (w.heap.size + 1 + 1 + 1 + 1) (w.heap.size + 1 + 1 + 1 + 1 + 1) (w.heap.size + 1 + 1 + 1 + 1 + 1 + 1) raw inm closed hmo hs w7 (by omega) (by omega) (by omega) (hG0.extcell (t := 9) (by simp)) (hG0.extcell (t := 9) (by simp)) (hG0.extcell (t := 4) (by simp)))
    K3.trans (k3_put (by omega) (by omega) (by omega)) (Below.refl _ _) (fun _ => rfl)
    (fun pre W => Taken n line pre ∧ Gath w.heap.size (w.heap.size + 1 + 1) (w.heap.size + 1 + 1 + 1) (thE w.heap.size n line raw inm closed) w (bytesL pre) (sumC pre) W)
    (fun c' pre W => c' = Code.exit 0 ∧ ∃ out, Ended n line pre out ∧ Gath w.heap.size (w.heap.size + 1 + 1) (w.heap.size + 1 + 1 + 1) (thE w.heap.size n line raw inm closed) w (bytesL out) (sumC out) W)
    (OwnFrom.and (ownFrom_pure _ _) (gath_own (Nat.le_refl _) (by omega) _ _))
    (fun c => fun pre W W' row hs hg hr => ⟨hs.1, by obtain ⟨out, h1, h2⟩ := hs.2; exact ⟨out, h1, h2.grown (Nat.le_refl _) (by omega) hg hr⟩⟩)
    ⟨taken_nil n line, hG0⟩
    (fun x => { tmps := #[.pointer (some ⟨b, 0, none⟩), .int .i64 n, .bool line, undef, .pointer (some ⟨w.heap.size, 0, none⟩), .pointer (some ⟨w.heap.size + 1, 0, none⟩), .string ⟨#[]⟩, .int .i64 0, .pointer (some ⟨w.heap.size + 1 + 1, 0, none⟩), .pointer (some ⟨w.heap.size + 1 + 1 + 1, 0, none⟩), .string ⟨#[x.1]⟩, .int .i64 ((clip x.2 : Nat) : Int), .pointer (some ⟨b, 0, none⟩), .pointer (some ⟨b, 0, none⟩), .pointer (some ⟨b, 5, none⟩), .string ⟨raw.toArray⟩, .pointer (some ⟨b, 0, none⟩), .pointer (some ⟨b, 0, none⟩), .pointer (some ⟨b, 0, none⟩), .string ⟨inm.toArray⟩, .pointer (some ⟨b, 0, none⟩), .pointer (some ⟨b, 0, none⟩), .pointer (some ⟨b, 6, none⟩), .bool closed, .func (.func 51) #[] #[.pointer (some ⟨w.heap.size + 1 + 1 + 1 + 1, 0, none⟩), .pointer (some ⟨w.heap.size + 1 + 1 + 1 + 1 + 1, 0, none⟩), .pointer (some ⟨w.heap.size + 1 + 1 + 1 + 1 + 1 + 1, 0, none⟩)], .string ⟨#[x.1]⟩, .int .i64 ((clip x.2 : Nat) : Int), undef, undef, undef, undef, undef, undef, undef, undef, undef, undef, undef, undef, undef, undef, undef, undef, undef, undef, undef], defers := [] }) ?assign ?body ?done ?stop
  case assign =>
    intro l x W K hK
    gi_wp2
    exact hK
  case body =>
    rintro l pre x W ⟨hT, hG⟩ hpl
    have HTK := Lib.hid hT
    have h1 := sumC_le pre
    have h2 := clip_le x.2
    have hcn := hG.extcell (b := w.heap.size) (v := .int .i64 n) (t := 3) (by simp)
    have hcl := hG.extcell (b := w.heap.size + 1) (v := .bool line) (t := 4) (by simp)
    have hGd := fun nq => hG.grown (Nat.le_refl _) (Nat.le_refl _) (W1 := W.drewN nq) (row := none) ⟨rfl, rfl, rfl, Nat.le_refl _, fun _ _ _ => rfl⟩ (fun r e => by cases e)
    have HLen := Lib.hid (fun nq => Tryd.Builder_Len_f (w.heap.size + 1 + 1) (w.heap.size + 1 + 1) (Lib.byteCells (bytesL pre)) (W.drewN nq) (hGd nq).isb)
    rw [byteCells_len, bytesL_len] at HLen
    clear HT HL hmo hT
    by_cases h0 : 0 ≤ n
    · have t0 : decide (0 ≤ n) = true := by simpa using h0
      by_cases h3 : n ≤ pre.length
      · have t1 : decide (n ≤ (pre.length : Int)) = true := by simpa using h3
        gi_wp2
        refine wpIn_region_quiet_round rfl (by kernel_rfl) (by kernel_rfl) (by kernel_rfl) ?_
        repeat (gi_big_quiet_step ((gi_at_call 50; exact CallsIn.quiet_of_same (callsIn_wide.2 (HLen.out _)))))
        refine wpQuietIn_nil ?_
        rintro _ ⟨nq, rfl⟩
        gi_wp2
        exact ⟨KeepsOthers.drewN' W nq, rfl, pre, ended_full HTK.out h0 h3 x, hGd nq⟩
      · have t1 : decide (n ≤ (pre.length : Int)) = false := by simpa using h3
        have h4 : ¬ (0 ≤ n ∧ n ≤ (pre.length : Int)) := fun h => h3 h.2
        have H4 := Lib.hid h4
        clear h4
        gi_wp2
        refine wpIn_region_quiet_round rfl (by kernel_rfl) (by kernel_rfl) (by kernel_rfl) ?_
        repeat (gi_big_quiet_step ((gi_at_call 50; exact CallsIn.quiet_of_same (callsIn_wide.2 (HLen.out _)))))
        refine wpQuietIn_nil ?_
        rintro _ ⟨nq, rfl⟩
        have hG' := hGd nq
        have hkq := KeepsOthers.drewN' W nq
        have heq : ∀ e ∈ thE w.heap.size n line raw inm closed, (W.drewN nq).heap[e.1]? = W.heap[e.1]? := fun e _ => rfl
        generalize W.drewN nq = Wq at hG' hkq heq ⊢
        clear hGd HLen hcn hcl t0
        cases line
        · gi_wp2_with (gi_at_call 39; refine (callsIn_wide.2 (write_gath hG' hE (by omega) (by omega) (by rw [bytesL_len]; omega) x.1)).mono ?_; rintro e W1 ⟨rfl, hG1, hk1, he1⟩; obtain ⟨hc1, hf1⟩ := hG1.cell; have hl1 := hG1.extcell (b := w.heap.size + 1) (v := .bool false) (t := 4) (by simp))
          obtain ⟨hG2, hk2, he2⟩ := hG1.count hE (by omega) (sumC pre + clip x.2)
          refine ⟨(hkq.trans hk1).trans hk2, thE_k3 (fun e he => ((he2 e he).trans (he1 e he)).trans (heq e he)), taken_on HTK.out H4.out (by simp), ?_⟩
          show Gath _ _ _ _ _ (bytesL (pre ++ [x])) (sumC (pre ++ [x])) _
          rw [bytesL_snoc, sumC_snoc]
          exact hG2
        · by_cases hx : x.1 = 10
          · have hxb : (([x.1] : Bs) == [10]) = true := by rw [hx]; rfl
            have HX := Lib.hid hx
            clear hx
            gi_wp2_with (gi_at_call 39; refine (callsIn_wide.2 (write_gath hG' hE (by omega) (by omega) (by rw [bytesL_len]; omega) x.1)).mono ?_; rintro e W1 ⟨rfl, hG1, hk1, he1⟩; obtain ⟨hc1, hf1⟩ := hG1.cell; have hl1 := hG1.extcell (b := w.heap.size + 1) (v := .bool true) (t := 4) (by simp))
            obtain ⟨hG2, hk2, he2⟩ := hG1.count hE (by omega) (sumC pre + clip x.2)
            refine ⟨(hkq.trans hk1).trans hk2, rfl, pre ++ [x], ended_line HTK.out H4.out HX.out, ?_⟩
            rw [bytesL_snoc, sumC_snoc]
            exact hG2
          · have hxb : (([x.1] : Bs) == [10]) = false := beq_eq_false_iff_ne.2 (fun e => hx (by simpa using e))
            have HX : Hid (¬ x.1 = 10) := hx
            clear hx
            gi_wp2_with (gi_at_call 39; refine (callsIn_wide.2 (write_gath hG' hE (by omega) (by omega) (by rw [bytesL_len]; omega) x.1)).mono ?_; rintro e W1 ⟨rfl, hG1, hk1, he1⟩; obtain ⟨hc1, hf1⟩ := hG1.cell; have hl1 := hG1.extcell (b := w.heap.size + 1) (v := .bool true) (t := 4) (by simp))
            obtain ⟨hG2, hk2, he2⟩ := hG1.count hE (by omega) (sumC pre + clip x.2)
            refine ⟨(hkq.trans hk1).trans hk2, thE_k3 (fun e he => ((he2 e he).trans (he1 e he)).trans (heq e he)), taken_on HTK.out H4.out (fun h => HX.out h.2), ?_⟩
            show Gath _ _ _ _ _ (bytesL (pre ++ [x])) (sumC (pre ++ [x])) _
            rw [bytesL_snoc, sumC_snoc]
            exact hG2
    · have t0 : decide (0 ≤ n) = false := by simpa using h0
      have H4 := Lib.hid (show ¬ (0 ≤ n ∧ n ≤ (pre.length : Int)) from fun h => h0 h.1)
      gi_wp2
      refine wpIn_region_quiet_round rfl (by kernel_rfl) (by kernel_rfl) (by kernel_rfl) ?_
      repeat (gi_big_quiet_step ((gi_at_call 50; exact CallsIn.quiet_of_same (callsIn_wide.2 (HLen.out _)))))
      refine wpQuietIn_nil ?_
      rintro _ ⟨nq, rfl⟩
      have hG' := hGd nq
      have hkq := KeepsOthers.drewN' W nq
      have heq : ∀ e ∈ thE w.heap.size n line raw inm closed, (W.drewN nq).heap[e.1]? = W.heap[e.1]? := fun e _ => rfl
      generalize W.drewN nq = Wq at hG' hkq heq ⊢
      clear hGd HLen hcn hcl t0
      cases line
      · gi_wp2_with (gi_at_call 39; refine (callsIn_wide.2 (write_gath hG' hE (by omega) (by omega) (by rw [bytesL_len]; omega) x.1)).mono ?_; rintro e W1 ⟨rfl, hG1, hk1, he1⟩; obtain ⟨hc1, hf1⟩ := hG1.cell; have hl1 := hG1.extcell (b := w.heap.size + 1) (v := .bool false) (t := 4) (by simp))
        obtain ⟨hG2, hk2, he2⟩ := hG1.count hE (by omega) (sumC pre + clip x.2)
        refine ⟨(hkq.trans hk1).trans hk2, thE_k3 (fun e he => ((he2 e he).trans (he1 e he)).trans (heq e he)), taken_on HTK.out H4.out (by simp), ?_⟩
        show Gath _ _ _ _ _ (bytesL (pre ++ [x])) (sumC (pre ++ [x])) _
        rw [bytesL_snoc, sumC_snoc]
        exact hG2
      · by_cases hx : x.1 = 10
        · have hxb : (([x.1] : Bs) == [10]) = true := by rw [hx]; rfl
          have HX := Lib.hid hx
          clear hx
          gi_wp2_with (gi_at_call 39; refine (callsIn_wide.2 (write_gath hG' hE (by omega) (by omega) (by rw [bytesL_len]; omega) x.1)).mono ?_; rintro e W1 ⟨rfl, hG1, hk1, he1⟩; obtain ⟨hc1, hf1⟩ := hG1.cell; have hl1 := hG1.extcell (b := w.heap.size + 1) (v := .bool true) (t := 4) (by simp))
          obtain ⟨hG2, hk2, he2⟩ := hG1.count hE (by omega) (sumC pre + clip x.2)
          refine ⟨(hkq.trans hk1).trans hk2, rfl, pre ++ [x], ended_line HTK.out H4.out HX.out, ?_⟩
          rw [bytesL_snoc, sumC_snoc]
          exact hG2
        · have hxb : (([x.1] : Bs) == [10]) = false := beq_eq_false_iff_ne.2 (fun e => hx (by simpa using e))
          have HX : Hid (¬ x.1 = 10) := hx
          clear hx
          gi_wp2_with (gi_at_call 39; refine (callsIn_wide.2 (write_gath hG' hE (by omega) (by omega) (by rw [bytesL_len]; omega) x.1)).mono ?_; rintro e W1 ⟨rfl, hG1, hk1, he1⟩; obtain ⟨hc1, hf1⟩ := hG1.cell; have hl1 := hG1.extcell (b := w.heap.size + 1) (v := .bool true) (t := 4) (by simp))
          obtain ⟨hG2, hk2, he2⟩ := hG1.count hE (by omega) (sumC pre + clip x.2)
          refine ⟨(hkq.trans hk1).trans hk2, thE_k3 (fun e he => ((he2 e he).trans (he1 e he)).trans (heq e he)), taken_on HTK.out H4.out (fun h => HX.out h.2), ?_⟩
          show Gath _ _ _ _ _ (bytesL (pre ++ [x])) (sumC (pre ++ [x])) _
          rw [bytesL_snoc, sumC_snoc]
          exact hG2
  case done =>
    rintro D out W hD hys ⟨hT, hG⟩ hK
    have hout : tkL n line 0 (stepsL inm closed raw) = out := by rw [← hys]; exact taken_end hT
    clear hys hT
    have htwo : ∀ q ∈ out, q.2 ≤ 2 := fun q hq => HT q ((tkL_prefix n line _ 0).subset (by rw [hout]; exact hq))
    have hsum := sumC_eq htwo
    have hle : sumN out ≤ raw.length := by
      have := sumN_prefix (tkL_prefix n line (stepsL inm closed raw) 0)
      rw [hout] at this
      omega
    rw [hsum] at hG
    have HY := Lib.hid hout
    clear hout HT hmo HL htwo hsum
    gi_wp2
    have hK0 : D < W.heap.size := (Array.getElem?_eq_some_iff.1 hK).1
    refine wpIn_region_heldP (GathD w.heap.size (w.heap.size + 1 + 1) (w.heap.size + 1 + 1 + 1) (thE w.heap.size n line raw inm closed) w (bytesL out) (sumN out) D) ⟨hG.grown (Nat.le_refl _) (Nat.le_refl _) (W1 := W.drew) (row := none) ⟨rfl, rfl, rfl, Nat.le_refl _, fun _ _ _ => rfl⟩ (fun r e => by cases e), hK⟩ rfl (by kernel_rfl) (by kernel_rfl) ?_
    haveI hne : Nonempty (HeldP (GathD w.heap.size (w.heap.size + 1 + 1) (w.heap.size + 1 + 1 + 1) (thE w.heap.size n line raw inm closed) w (bytesL out) (sumN out) D)) := ⟨⟨W, hG, hK⟩⟩
    have cx : ∀ x : HeldP (GathD w.heap.size (w.heap.size + 1 + 1) (w.heap.size + 1 + 1 + 1) (thE w.heap.size n line raw inm closed) w (bytesL out) (sumN out) D), x.val.cell? ⟨w.heap.size + 1 + 1 + 1, 0, none⟩ = some (.int .i64 (sumN out : Int)) := fun x => x.is.1.cell.1
    repeat (gi_big_quiet_step ((gi_at_call 40; exact string_held hE (by omega) (by omega))))
    refine wpQuietIn_nil ?_
    rintro _ ⟨x, rfl⟩
    gi_wp2
    obtain ⟨W', hG', hK'⟩ := x
    refine ⟨by simp, .inl ⟨_, _, rfl, run_takeDeferred hK', ?_⟩⟩
    refine ⟨.tuple #[.string ⟨(bytesL out).toArray⟩, .int .i64 (sumN out : Int)], ?_, by rw [HY.out], hG'.below.trans (belowK_b (w := w) (Nat.le_refl _) _ D _ _ (by omega) hK' rfl rfl)⟩
    simp [results, Tryd.f36, go_sem]
  case stop =>
    rintro D c' pre W hD hpre ⟨rfl, out, hen, hG⟩ hK
    have hout : tkL n line 0 (stepsL inm closed raw) = out := ended_end hen hpre
    clear hen hpre
    have htwo : ∀ q ∈ out, q.2 ≤ 2 := fun q hq => HT q ((tkL_prefix n line _ 0).subset (by rw [hout]; exact hq))
    have hsum := sumC_eq htwo
    have hle : sumN out ≤ raw.length := by
      have := sumN_prefix (tkL_prefix n line (stepsL inm closed raw) 0)
      rw [hout] at this
      omega
    rw [hsum] at hG
    have HY := Lib.hid hout
    clear hout HT hmo HL htwo hsum
    gi_wp2
    have hK0 : D < W.heap.size := (Array.getElem?_eq_some_iff.1 hK).1
    refine wpIn_region_heldP (GathD w.heap.size (w.heap.size + 1 + 1) (w.heap.size + 1 + 1 + 1) (thE w.heap.size n line raw inm closed) w (bytesL out) (sumN out) D) ⟨hG.grown (Nat.le_refl _) (Nat.le_refl _) (W1 := W.drew) (row := none) ⟨rfl, rfl, rfl, Nat.le_refl _, fun _ _ _ => rfl⟩ (fun r e => by cases e), hK⟩ rfl (by kernel_rfl) (by kernel_rfl) ?_
    haveI hne : Nonempty (HeldP (GathD w.heap.size (w.heap.size + 1 + 1) (w.heap.size + 1 + 1 + 1) (thE w.heap.size n line raw inm closed) w (bytesL out) (sumN out) D)) := ⟨⟨W, hG, hK⟩⟩
    have cx : ∀ x : HeldP (GathD w.heap.size (w.heap.size + 1 + 1) (w.heap.size + 1 + 1 + 1) (thE w.heap.size n line raw inm closed) w (bytesL out) (sumN out) D), x.val.cell? ⟨w.heap.size + 1 + 1 + 1, 0, none⟩ = some (.int .i64 (sumN out : Int)) := fun x => x.is.1.cell.1
    repeat (gi_big_quiet_step ((gi_at_call 40; exact string_held hE (by omega) (by omega))))
    refine wpQuietIn_nil ?_
    rintro _ ⟨x, rfl⟩
    gi_wp2
    obtain ⟨W', hG', hK'⟩ := x
    refine ⟨by simp, .inl ⟨_, _, rfl, run_takeDeferred hK', ?_⟩⟩
    refine ⟨.tuple #[.string ⟨(bytesL out).toArray⟩, .int .i64 (sumN out : Int)], ?_, by rw [HY.out], hG'.below.trans (belowK_b (w := w) (Nat.le_refl _) _ D _ _ (by omega) hK' rfl rfl)⟩
    simp [results, Tryd.f36, go_sem]
end Go.Proofs.YtafohdmhjilleaaDoor
