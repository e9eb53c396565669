/- pairs, text. -/
import Derived.Test.YtpaffocniniakaaBook5
import Derived.Test.YtpaffocniniakaaPush
namespace Go.Proofs.Ytpaffocniniakaa
set_option linter.unusedVariables false
set_option linter.unusedSimpArgs false
open Go.RowKit Go.MapKept Go.WideMaps
attribute [local go_sem] Oper.semAt_some wide_fn

theorem flatP_snoc (pre : Prs) (x : Bs × Bs) : flatP (pre ++ [x]) = flatP pre ++ [x.1, x.2] := by rw [flatP_append]; rfl
/-- What holds while pairs are gathered. -/
structure PaJ (w : World) (pre : Prs) (W : World) : Prop where
  row : ∃ v, Boxed W w.heap.size 29 v ∧ W.ownsRow (w.heap.size + 2) 9 1 v (flatP pre).length ((flatP pre).map sv) ∧ True
  size : w.heap.size + 2 ≤ W.heap.size
  below : Below w.heap.size w W
theorem paj_own {w : World} {C : Nat} (hC : w.heap.size ≤ C) : OwnFrom C (PaJ w) := fun pre W W' row h hg hr => by
  have hr' := fun r e => (hr r e).2
  exact ⟨holdsRow_own (w.heap.size + 2) w.heap.size 29 9 1 (fun pre => (flatP pre).length) (fun pre => (flatP pre).map sv) (fun _ _ => True) pre W W' row h.row hg hr', Nat.le_trans h.size hg.size, h.below.grown hg h.below.size (fun r e => Nat.le_trans hC (hr r e).1)⟩
theorem pre_len {l p : Prs} {N : Nat} (h : l.length < N) (hN : N ≤ 1000000) : (flatP l).length ≤ 2000000 := by rw [flatP_len]; omega
set_option maxRecDepth 100000 in
set_option maxHeartbeats 1600000 in
theorem pairs_any {w : World} {b : Nat} {F : List Nat} {ps : Prs} (h : Bk w b F ps) (hps : ps.length ≤ 1000000) :
    Calls Try.prog 45 #[.pointer (some ⟨b, 0, none⟩)] w fun e w' => ∃ v, e = .returned v ∧ w'.ownsRow w.heap.size 9 1 v (flatP ps).length ((flatP ps).map sv) ∧ Below w.heap.size w w' := by
  obtain ⟨i0, hi, hz0, hz1, hz2⟩ := info_parts infoS
  have hFlt := h.lt
  refine callsIn_wide (n := 3) |>.1 ?_
  refine callsIn_of_wp_marks Try.func45 rfl trivial ?_ rfl
  simp only [Try.ntmps45, List.size_toArray, List.length_cons, List.length_nil, Nat.reduceAdd, Nat.reduceSub, Array.replicate_succ, Array.replicate_zero, List.push_toArray, List.append_toArray, List.nil_append, List.cons_append]
  gi_wp2_with (gi_at_call 30; refine (callsIn_wide.2 (all_any _ _)).mono ?_; rintro e w' ⟨rfl, rfl⟩)
  have bO := Boxed.new w 29 (.slice none 0 0)
  have bN := Boxed.new (w.alloc (.cells #[.slice none 0 0] 29)) 38 (.pointer (some ⟨b, 0, none⟩))
  rw [World.size_alloc] at bN
  have hB0 : Below w.heap.size w ((w.alloc (.cells #[.slice none 0 0] 29)).alloc (.cells #[.pointer (some ⟨b, 0, none⟩)] 38)) := ((Below.refl _ w).alloc (Nat.le_refl _) _).alloc (by simp) _
  have hBk := h.below hB0
  have hJ0 : PaJ w [] ((w.alloc (.cells #[.slice none 0 0] 29)).alloc (.cells #[.pointer (some ⟨b, 0, none⟩)] 38)) := ⟨⟨_, bO.alloc _, World.ownsRow_nil _ _ _ _, trivial⟩, by simp, hB0⟩
  have hsz : ((w.alloc (.cells #[.slice none 0 0] 29)).alloc (.cells #[.pointer (some ⟨b, 0, none⟩)] 38)).heap.size = w.heap.size + 2 := by simp
  generalize ((w.alloc (.cells #[.slice none 0 0] 29)).alloc (.cells #[.pointer (some ⟨b, 0, none⟩)] 38)) = w2 at *
  have hbxc := bN.cell
  clear h hB0 bO bN
  refine wpIn_rangeFunc_ownG rfl (by omega) (gf := 57) (lb := #[.pointer (some ⟨w.heap.size + 1, 0, none⟩)]) rfl trivial (enters_of Try.func57 (by kernel_rfl) rfl)
    (all_stops (w.heap.size + 1) b F ps hps id (fun _ _ => rfl) w2 (by omega) hbxc hBk) KB.trans (kb_put (by omega) (fun d hd => by have := hFlt d hd; omega)) (Below.refl _ _) (fun _ => rfl)
    (PaJ w) (fun _ _ _ => False) (paj_own (by omega)) (fun _ _ _ _ _ hs _ _ => hs) hJ0
    (fun x => { tmps := #[.pointer (some ⟨b, 0, none⟩), undef, .slice none 0 0, .pointer (some ⟨w.heap.size, 0, none⟩), .string ⟨x.1.toArray⟩, .string ⟨x.2.toArray⟩, .pointer (some ⟨b, 0, none⟩), .func (.func 57) #[] #[.pointer (some ⟨w.heap.size + 1, 0, none⟩)], .string ⟨x.1.toArray⟩, .string ⟨x.2.toArray⟩, undef, undef, undef, undef, undef, undef], defers := [] }) ?assign ?body ?done ?stop
  case assign =>
    intro l x W K hK
    gi_wp2
    exact hK
  case body =>
    rintro l pre ⟨x1, x2⟩ W ⟨⟨v, hv, hrow, _⟩, hs, hB⟩ hlt
    have cv := hv.cell
    have HJ := Lib.hid (And.intro hv (And.intro hrow hB))
    obtain ⟨o, cp, hve⟩ := row_shape hrow
    have hfl := pre_len (p := pre) hlt hps
    clear hv hrow hB hBk hbxc hJ0
    subst hve
    gi_wp2_with (gi_at_builtin; go_loud (refine wpListIn_append_own _ rfl _ _ 29 rfl (w.heap.size + 2) 9 i0 (sv []) 1 16 Try.underlying29 hi hz0 hz1 hz2 rfl (by decide) (.slice o (flatP pre).length cp) (flatP pre).length ((flatP pre).map sv) rfl (HJ.out.2.1.alloc _) ⟨W.heap.size, 0, none⟩ 2 2 [sv x1, sv x2] rfl rfl (row_new W [sv x1, sv x2] 9) (by simp [Value.oneCell', sv]) (by unfold maxLen; omega) (by omega) (Nat.le_trans hs (by simp)) ?_); intro v' w1 hown' hgrow _; obtain ⟨g', cap', rfl⟩ := ownsRow_succ (k := (flatP pre).length + 1) hown'; have HG := Lib.hid (And.intro hown' hgrow); obtain ⟨hv1, hv2, _, hk2, hb2⟩ := HJ.out.1.appended (by decide) (ownsRow_mono HJ.out.2.1 (by omega : w.heap.size ≤ w.heap.size + 2)) (by omega) (Nat.le_refl _) (ownsRow_mono hown' (by omega : w.heap.size ≤ w.heap.size + 2)) hgrow; have hc1 := hv1.cell; have hf1 := hv1.frozen; have HV := Lib.hid (And.intro hv1 (And.intro hv2 (And.intro hk2 hb2))); clear hown' hgrow hv1 hv2 hk2 hb2)
    refine ⟨HV.out.2.2.1.from _, ⟨?_, fun d hd => HV.out.2.2.2.block d (hFlt d hd)⟩, ⟨_, HV.out.2.1, ?_, trivial⟩, ?_, HJ.out.2.2.trans HV.out.2.2.2⟩
    · exact (Below.heap_setCell _ ⟨w.heap.size, 0, none⟩ _ _ (by simp)).trans ((HG.out.2.block _ (by simp; omega) (fun e => by have := (HJ.out.2.1.lt _ e.symm).1; omega)).trans (Below.heap_alloc _ _ _ (by omega)))
    · rw [flatP_snoc, List.length_append, List.map_append]
      exact HG.out.1.kept (grownBy_setCell' w1 _ _) (.inr (HV.out.1.not_row (by decide) HG.out.1).symm)
    · have := HV.out.2.2.2.size; omega
  case done =>
    rintro D ys W hD rfl ⟨⟨v, hv, hrow, _⟩, hs, hB⟩ hK
    have hc := hv.cell
    gi_wp2
    refine ⟨by simp, .inl ⟨_, _, rfl, run_takeDeferred hK, ?_⟩⟩
    exact ⟨_, results_tmp rfl _ _ _, v, rfl, ownsRow_putObj (ownsRow_mono hrow (by omega)) _ hK rfl, hB.trans (belowK_b (w := w) (Nat.le_refl _) W D _ _ (by omega) hK rfl rfl)⟩
  case stop =>
    rintro D c pre W _ _ h _
    exact h.elim
theorem read_len {s : Bs} {ps : Prs} (h : readC s = some ps) : 2 * ps.length ≤ 5 * s.length := by
  have h1 := read_wt h
  have h2 := wt_len (flatP ps)
  rw [flatP_len] at h2
  omega
set_option maxRecDepth 100000 in
theorem text_any {w : World} {b : Nat} {F : List Nat} {ps : Prs} (h : Bk w b F ps) (hps : ps.length ≤ 1000000) (hM : MaxIs w) :
    Calls Try.prog 36 #[.pointer (some ⟨b, 0, none⟩)] w fun e w' => e = .returned (.tuple #[.string ⟨(joinE (flatP ps)).1.toArray⟩, .int .i64 (joinE (flatP ps)).2]) ∧ Below w.heap.size w w' := by
  have PA := Lib.hid (pairs_any h hps)
  have JO : Hid (∀ v W, Below w.heap.size w W → TxtRow W v (flatP ps) → Calls Try.prog 58 #[v] W fun e w' => e = .returned (.tuple #[.string ⟨(joinE (flatP ps)).1.toArray⟩, .int .i64 (joinE (flatP ps)).2]) ∧ Below W.heap.size W w') := fun v W hW ht => Join_any v (flatP ps) W (hM.below hW hM.pos) ht
  clear h hM
  generalize joinE (flatP ps) = je at *
  go_enter Try.func36, Try.ntmps36
  go_wp2_with (first | (go_at_call 45; refine PA.out.mono ?_; rintro e w1 ⟨v, rfl, hr, hB⟩; have H1 := Lib.hid (And.intro hr hB); clear hr hB) | (go_at_call 58; refine (JO.out _ _ H1.out.2 (TxtRow.of_owns H1.out.1)).mono ?_; rintro e w2 ⟨rfl, hB2⟩; skip))
  go_ret2
  exact ⟨rfl, H1.out.2.trans (hB2.mono H1.out.2.size)⟩
end Go.Proofs.Ytpaffocniniakaa
