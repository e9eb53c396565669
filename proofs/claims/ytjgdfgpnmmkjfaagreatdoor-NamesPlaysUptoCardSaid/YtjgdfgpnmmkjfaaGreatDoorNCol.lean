/- 'slices.AppendSeq' and 'slices.Collect' of what 'below' yields; 'below' itself. -/
import Derived.Test.YtjgdfgpnmmkjfaaGreatDoorNBel
import Derived.Test.YtjgdfgpnmmkjfaaGreatDoorNCat
import Derived.Maps.OwnIn
import Derived.RangeFuncWrites
namespace Go.Proofs.YtjgdfgpnmmkjfaaGreatDoor
set_option linter.unusedVariables false
set_option linter.unusedSimpArgs false
open Go.RowKit Go.Shelf
attribute [local go_sem] Oper.semAt_some wide_fn

theorem ownAt_boxed {W : World} {D : Nat} {t : TypeId} {v : Value} (h : Boxed W D t v) : ownAt W D = v.ownBlock := by
  unfold ownAt
  rw [show W.heap[D]? = _ from h]; rfl
/-- What holds while texts are gathered. -/
structure GaJ (w : World) (pre : List Bs) (W : World) : Prop where
  row : ∃ v, Boxed W w.heap.size 27 v ∧ W.ownsRow (w.heap.size + 1) 9 1 v pre.length (pre.map sv) ∧ True
  size : w.heap.size + 1 ≤ W.heap.size
  below : Below w.heap.size w W
theorem gaj_own {w : World} {C : Nat} (hC : w.heap.size ≤ C) : OwnFrom C (GaJ w) := fun pre W W' row h hg hr => by
  have hr' := fun r e => (hr r e).2
  exact ⟨holdsRow_own (w.heap.size + 1) w.heap.size 27 9 1 (fun pre : List Bs => pre.length) (fun pre => pre.map sv) (fun _ _ => True) pre W W' row h.row hg hr', Nat.le_trans h.size hg.size, h.below.grown hg h.below.size (fun r e => Nat.le_trans hC (hr r e).1)⟩
set_option maxRecDepth 100000 in
set_option maxHeartbeats 1600000 in
theorem appendSeq_any {w : World} (b1 b2 b3 : Nat) (L : List Bs) (N : Nat) (hN : N ≤ 1000000) (Sp : List Bs → Prop)
    (hseq : SeqStopsK Fence.wide 2 Tryz.prog 68 #[.pointer (some ⟨b1, 0, none⟩), .pointer (some ⟨b2, 0, none⟩), .pointer (some ⟨b3, 0, none⟩)] encS1 (KD w.heap.size) (fun ys => ys = L) Sp N (w.alloc (.cells #[.slice none 0 0] 27))) :
    Calls Tryz.prog 67 #[.slice none 0 0, .func (.func 68) #[] #[.pointer (some ⟨b1, 0, none⟩), .pointer (some ⟨b2, 0, none⟩), .pointer (some ⟨b3, 0, none⟩)]] w fun e w' => ∃ o c, e = .returned (.slice o L.length c) ∧ w'.ownsRow w.heap.size 9 1 (.slice o L.length c) L.length (L.map sv) ∧ Below w.heap.size w w' := by
  obtain ⟨i0, hi, hz0, hz1, hz2⟩ := infoStr'
  refine callsIn_wide (n := 3) |>.1 ?_
  refine callsIn_of_wp_marks Tryz.func67 rfl trivial ?_ rfl
  simp only [Tryz.ntmps67, List.size_toArray, List.length_cons, List.length_nil, Nat.reduceAdd, Nat.reduceSub, Array.replicate_succ, Array.replicate_zero, List.push_toArray, List.append_toArray, List.nil_append, List.cons_append]
  gi_wp2
  have bO := Boxed.new w 27 (.slice none 0 0)
  have hB0 : Below w.heap.size w (w.alloc (.cells #[.slice none 0 0] 27)) := (Below.refl _ w).alloc (Nat.le_refl _) _
  have hJ0 : GaJ w [] (w.alloc (.cells #[.slice none 0 0] 27)) := ⟨⟨_, bO, ⟨rfl, .inl ⟨rfl, rfl⟩⟩, trivial⟩, by simp, hB0⟩
  have hsz : (w.alloc (.cells #[.slice none 0 0] 27)).heap.size = w.heap.size + 1 := by simp
  generalize w.alloc (.cells #[.slice none 0 0] 27) = w2 at *
  refine wpIn_rangeFunc_ownG rfl (by omega) (gf := 68) (lb := #[.pointer (some ⟨b1, 0, none⟩), .pointer (some ⟨b2, 0, none⟩), .pointer (some ⟨b3, 0, none⟩)]) rfl trivial (enters_of Tryz.func68 (by kernel_rfl) rfl)
    hseq KD.trans (fun W l o o' hl h hc hw => kd_put (w := w) (c0 := #[]) (t0 := 0) (f0 := (0, 0)) W l o o' (by omega) h hc hw (by omega)) (Below.refl _ _) (fun _ => rfl)
    (GaJ w) (fun _ _ _ => False) (gaj_own (by omega)) (fun _ _ _ _ _ hs _ _ => hs) hJ0
    (fun x => { tmps := #[.slice none 0 0, .func (.func 68) #[] #[.pointer (some ⟨b1, 0, none⟩), .pointer (some ⟨b2, 0, none⟩), .pointer (some ⟨b3, 0, none⟩)], .pointer (some ⟨w.heap.size, 0, none⟩), undef, .slice none 0 0, .string ⟨x.toArray⟩, .func (.func 68) #[] #[.pointer (some ⟨b1, 0, none⟩), .pointer (some ⟨b2, 0, none⟩), .pointer (some ⟨b3, 0, none⟩)], .string ⟨x.toArray⟩, undef, undef, undef, undef, undef], defers := [] }) ?assign ?body ?done ?stop
  case assign =>
    intro l x W K hK
    gi_wp2
    exact hK
  case body =>
    rintro l pre x W ⟨⟨v, hv, hrow, _⟩, hs, hB⟩ hlt
    have cv := hv.cell
    have HJ := Lib.hid (And.intro hv (And.intro hrow hB))
    obtain ⟨o, cp, hve⟩ := row_shape hrow
    have hpl : pre.length ≤ 1000000 := by omega
    clear hv hrow hB hJ0
    subst hve
    gi_wp2_with (gi_at_builtin; go_loud (refine wpListIn_append_own_at _ rfl _ _ 27 rfl (w.heap.size + 1) 9 i0 (sv []) 1 16 Tryz.underlying27 hi hz0 hz1 hz2 rfl (by decide) (.slice o pre.length cp) pre.length (pre.map sv) rfl (HJ.out.2.1.alloc _) ⟨W.heap.size, 0, none⟩ 1 1 [sv x] rfl rfl (row_new W [sv x] 9) (by simp [Value.oneCell', sv]) (by unfold maxLen; omega) (by omega) (Nat.le_trans hs (by simp)) ?_); intro v' w1 hown' hgrow _ hloc; obtain ⟨g', cap', rfl⟩ := ownsRow_succ (k := pre.length) hown'; have HG := Lib.hid (And.intro hown' (And.intro hgrow hloc)); obtain ⟨hv1, hv2, _, hk2, hb2⟩ := HJ.out.1.appended (by decide) (row_base HJ.out.2.1 (by omega : w.heap.size ≤ w.heap.size + 1)) (by omega) (Nat.le_refl _) (row_base hown' (by omega : w.heap.size ≤ w.heap.size + 1)) hgrow; have hc1 := hv1.cell; have hf1 := hv1.frozen; have HV := Lib.hid (And.intro hv1 (And.intro hv2 (And.intro hk2 hb2))); clear hown' hgrow hv1 hv2 hk2 hb2 hloc)
    have hrow1 := HG.out.1
    have hne1 : g' ≠ w.heap.size := by have := (row_ids hrow1 g' rfl).1; omega
    refine ⟨HV.out.2.2.1.from _, ⟨HV.out.2.2.2.size, fun j c t f hj hjD ho => ?_, ?_⟩, ⟨⟨_, HV.out.2.1, ?_, trivial⟩, ?_, HJ.out.2.2.trans HV.out.2.2.2⟩⟩
    · have hl := (Array.getElem?_eq_some_iff.1 hj).1
      rw [ownAt_boxed HJ.out.1] at ho
      exact (Below.heap_setCell _ ⟨w.heap.size, 0, none⟩ _ j hjD).trans ((HG.out.2.1.block j (by simp; omega) (fun e => ho e.symm)).trans (Below.heap_alloc _ _ _ hl))
    · rw [ownAt_boxed HJ.out.1, ownAt_boxed HV.out.2.1]
      rcases HG.out.2.2 with e | e
      · exact .inl e
      · refine .inr ⟨g', rfl, ?_⟩
        have : g' = (W.alloc (.cells #[sv x] 9)).heap.size := by simpa [Value.ownBlock] using e
        rw [this]; simp
    · rw [List.length_append, List.map_append]
      refine row_keep hrow1 (fun j hj => Below.heap_setCell _ ⟨w.heap.size, 0, none⟩ _ j ?_)
      have : g' = j := by simpa [Value.ownBlock] using hj
      subst this; exact hne1
    · have := HV.out.2.2.2.size; omega
  case done =>
    rintro D ys W hD rfl ⟨⟨v, hv, hrow, _⟩, hs, hB⟩ hK
    have hc := hv.cell
    obtain ⟨o, cp, rfl⟩ := row_shape hrow
    gi_wp2
    refine ⟨by simp, .inl ⟨_, _, rfl, run_takeDeferred hK, ?_⟩⟩
    exact ⟨_, results_tmp rfl _ _ _, o, cp, rfl, ownsRow_putObj (row_base hrow (by omega)) _ hK rfl, hB.trans (belowK_b (w := w) (Nat.le_refl _) W D _ _ (by omega) hK rfl rfl)⟩
  case stop =>
    rintro D c pre W _ _ h _
    exact h.elim
end Go.Proofs.YtjgdfgpnmmkjfaaGreatDoor
