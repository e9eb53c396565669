/- 'slices.AppendSeq', 'Collect', 'Sorted' of what 'matched' yields; 'Names' and 'Hidden' of a table. -/
import Derived.Test.YtbbbenjakjejmaaGreatTbMatch
import Derived.Test.YtbbbenjakjejmaaGreatTbTxt
import Derived.Maps.OwnIn
import Derived.RangeFuncWrites
namespace Go.Proofs.YtbbbenjakjejmaaGreat
set_option linter.unusedVariables false
set_option linter.unusedSimpArgs false
open Go.RowKit Go.Shelf Go.Maps
attribute [local go_sem] Oper.semAt_some wide_fn
structure GaJ (w : World) (pre : List Bs) (W : World) : Prop where
  row : ∃ v, Boxed W w.heap.size 56 v ∧ W.ownsRow (w.heap.size + 1) 9 1 v pre.length (pre.map sv) ∧ True
  size : w.heap.size + 1 ≤ W.heap.size
  below : Below w.heap.size w W
theorem gaj_own {w : World} {C : Nat} (hC : w.heap.size ≤ C) : OwnFrom C (GaJ w) := fun pre W W' row h hg hr => by
  have hr' := fun r e => (hr r e).2
  exact ⟨holdsRow_own (w.heap.size + 1) w.heap.size 56 9 1 (fun pre : List Bs => pre.length) (fun pre => pre.map sv) (fun _ _ => True) pre W W' row h.row hg hr', Nat.le_trans h.size hg.size, h.below.grown hg h.below.size (fun r e => Nat.le_trans hC (hr r e).1)⟩
set_option maxRecDepth 100000 in
set_option maxHeartbeats 1600000 in
theorem appendSeq_any {w : World} (b1 b2 : Nat) (L : List Bs) (N : Nat) (hN : N ≤ 1000000) (Sp : List Bs → Prop)
    (hseq : SeqStopsK Fence.wide 2 Tryz.prog 64 #[.pointer (some ⟨b1, 0, none⟩), .pointer (some ⟨b2, 0, none⟩)] encS1 (KW w.heap.size) (fun ys => ys.Perm L) Sp N (w.alloc (.cells #[.slice none 0 0] 56))) :
    Calls Tryz.prog 80 #[.slice none 0 0, .func (.func 64) #[] #[.pointer (some ⟨b1, 0, none⟩), .pointer (some ⟨b2, 0, none⟩)]] w fun e w' => ∃ o c, ∃ ys : List Bs, ys.Perm L ∧ e = .returned (.slice o L.length c) ∧ w'.ownsRow w.heap.size 9 1 (.slice o L.length c) L.length (ys.map sv) ∧ Below w.heap.size w w' := by
  obtain ⟨i0, hi, hz0, hz1, hz2⟩ := infoStr'
  refine callsIn_wide (n := 3) |>.1 ?_
  refine callsIn_of_wp_marks Tryz.func80 rfl trivial ?_ rfl
  simp only [Tryz.ntmps80, List.size_toArray, List.length_cons, List.length_nil, Nat.reduceAdd, Nat.reduceSub, Array.replicate_succ, Array.replicate_zero, List.push_toArray, List.append_toArray, List.nil_append, List.cons_append]
  gi_wp2
  have bO := Boxed.new w 56 (.slice none 0 0)
  have hB0 : Below w.heap.size w (w.alloc (.cells #[.slice none 0 0] 56)) := (Below.refl _ w).alloc (Nat.le_refl _) _
  have hJ0 : GaJ w [] (w.alloc (.cells #[.slice none 0 0] 56)) := ⟨⟨_, bO, ⟨rfl, .inl ⟨rfl, rfl⟩⟩, trivial⟩, by simp, hB0⟩
  have hsz : (w.alloc (.cells #[.slice none 0 0] 56)).heap.size = w.heap.size + 1 := by simp
  generalize w.alloc (.cells #[.slice none 0 0] 56) = w2 at *
  refine wpIn_rangeFunc_ownG rfl (by omega) (gf := 64) (lb := #[.pointer (some ⟨b1, 0, none⟩), .pointer (some ⟨b2, 0, none⟩)]) rfl trivial (enters_of Tryz.func64 (by kernel_rfl) rfl)
    hseq KW.trans (fun W l o o' hl h hc hw => ⟨walksK_b (w := w) W l o o' (by omega) h hc hw, belowK_b (w := w) (Nat.le_refl _) W l o o' (by omega) h hc hw⟩) (Below.refl _ _) (fun _ => rfl)
    (GaJ w) (fun _ _ _ => False) (gaj_own (by omega)) (fun _ _ _ _ _ hs _ _ => hs) hJ0
    (fun x => { tmps := #[.slice none 0 0, .func (.func 64) #[] #[.pointer (some ⟨b1, 0, none⟩), .pointer (some ⟨b2, 0, none⟩)], .pointer (some ⟨w.heap.size, 0, none⟩), undef, .slice none 0 0, .string ⟨x.toArray⟩, .func (.func 64) #[] #[.pointer (some ⟨b1, 0, none⟩), .pointer (some ⟨b2, 0, none⟩)], .string ⟨x.toArray⟩, undef, undef, undef, undef, undef], defers := [] }) ?assign ?body ?done ?stop
  case assign =>
    intro l x W K hK
    gi_wp2
    exact hK
  case body =>
    rintro l pre x W ⟨⟨v, hv, hrow, _⟩, hs, hB⟩ hlt
    have cv := hv.cell
    have HJ := Lib.hid (And.intro hv (And.intro hrow hB))
    obtain ⟨o, cp, hve⟩ := row_shape hrow
    have hpl : pre.length ≤ 1000000 := by omega
    clear hv hrow hB hJ0
    subst hve
    gi_wp2_with (gi_at_builtin; go_loud (refine wpListIn_append_own_at _ rfl _ _ 56 rfl (w.heap.size + 1) 9 i0 (sv []) 1 16 Tryz.underlying56 hi hz0 hz1 hz2 rfl (by decide) (.slice o pre.length cp) pre.length (pre.map sv) rfl (HJ.out.2.1.alloc _) ⟨W.heap.size, 0, none⟩ 1 1 [sv x] rfl rfl (row_new W [sv x] 9) (by simp [Value.oneCell', sv]) (by unfold maxLen; omega) (by omega) (Nat.le_trans hs (by simp)) ?_); intro v' w1 hown' hgrow _ hloc; obtain ⟨g', cap', rfl⟩ := ownsRow_succ (k := pre.length) hown'; have HG := Lib.hid (And.intro hown' (And.intro hgrow hloc)); obtain ⟨hv1, hv2, _, hk2, hb2⟩ := HJ.out.1.appended (by decide) (row_base HJ.out.2.1 (by omega : w.heap.size ≤ w.heap.size + 1)) (by omega) (Nat.le_refl _) (row_base hown' (by omega : w.heap.size ≤ w.heap.size + 1)) hgrow; have hc1 := hv1.cell; have hf1 := hv1.frozen; have HV := Lib.hid (And.intro hv1 (And.intro hv2 (And.intro hk2 hb2))); clear hown' hgrow hv1 hv2 hk2 hb2 hloc)
    have hrow1 := HG.out.1
    have hne1 : g' ≠ w.heap.size := by have := (row_ids hrow1 g' rfl).1; omega
    refine ⟨HV.out.2.2.1.from _, ⟨HV.out.2.2.1.walks, HV.out.2.2.2⟩, ⟨⟨_, HV.out.2.1, ?_, trivial⟩, ?_, HJ.out.2.2.trans HV.out.2.2.2⟩⟩
    · rw [List.length_append, List.map_append]
      refine row_keep hrow1 (fun j hj => Below.heap_setCell _ ⟨w.heap.size, 0, none⟩ _ j ?_)
      have : g' = j := by simpa [Value.ownBlock] using hj
      subst this; exact hne1
    · have := HV.out.2.2.2.size; omega
  case done =>
    rintro D ys W hD hperm ⟨⟨v, hv, hrow, _⟩, hs, hB⟩ hK
    rw [hperm.length_eq] at hrow
    have hc := hv.cell
    obtain ⟨o, cp, rfl⟩ := row_shape hrow
    gi_wp2
    refine ⟨by simp, .inl ⟨_, _, rfl, run_takeDeferred hK, ?_⟩⟩
    exact ⟨_, results_tmp rfl _ _ _, o, cp, ys, hperm, rfl, ownsRow_putObj (row_base hrow (by omega)) _ hK rfl, hB.trans (belowK_b (w := w) (Nat.le_refl _) W D _ _ (by omega) hK rfl rfl)⟩
  case stop =>
    rintro D c pre W _ _ h _
    exact h.elim
theorem owns_low {H : Type} {P : Program} {k : TypeId} {R : Value → Option (DataW H × List MemPlace)} {w w' : World} {b n : Nat} {D : DataW H} (h : w.ownsMap P k R b n D) (hb : Below w.heap.size w w') : w'.ownsMap P k R b n D := by
  obtain ⟨es, clock, h1, h2, h3, h4⟩ := h
  exact ⟨es, clock, (hb.block b (Array.getElem?_eq_some_iff.1 h1).1).trans h1, h2, h3, h4⟩
theorem matched_stops {w0 : World} {b1 b2 m N0 : Nat} {D0 : DataW Unit} {pat : Bs} (hp : pat.length ≤ 100000) {ks : List Bs} (hks : (strKeys D0).Perm ks) (hkl : ∀ k ∈ ks, k.length ≤ 100000)
    (h1 : Boxed w0 b1 43 (.map (some m))) (h2 : Boxed w0 b2 9 (.string ⟨pat.toArray⟩)) (hlt : b2 < N0) (hown : w0.ownsMap Tryz.prog 9 Rc m 1000000 D0) :
    SeqStopsK Fence.wide 2 Tryz.prog 64 #[.pointer (some ⟨b1, 0, none⟩), .pointer (some ⟨b2, 0, none⟩)] encS1 (KW N0) (fun ys => ys.Perm (ks.filter (qB pat))) (fun _ => True) ks.length w0 := fun l J Jx W hW hJ _ hY h0 =>
  (matched1_in 2 (by omega) l b1 b2 m N0 D0 pat hp ks hks hkl J Jx W hJ hY ((hW.block b1 h1.lt).trans h1) ((hW.block b2 h2.lt).trans h2) hlt (owns_low hown hW) h0).mono fun e W' ⟨he, hr⟩ => ⟨he, hr.imp id (fun ⟨pre, h⟩ => ⟨pre, trivial, h⟩)⟩
section
variable {W : World} {b1 b2 m : Nat} {D0 : DataW Unit} {pat : Bs} {ks : List Bs}
theorem collect_any (hp : pat.length ≤ 100000) (hks : (strKeys D0).Perm ks) (hkl : ∀ k ∈ ks, k.length ≤ 100000) (hkn : ks.length ≤ 1000000)
    (h1 : Boxed W b1 43 (.map (some m))) (h2 : Boxed W b2 9 (.string ⟨pat.toArray⟩)) (hown : W.ownsMap Tryz.prog 9 Rc m 1000000 D0) :
    Calls Tryz.prog 62 #[.func (.func 64) #[] #[.pointer (some ⟨b1, 0, none⟩), .pointer (some ⟨b2, 0, none⟩)]] W fun e w' => ∃ o c, ∃ ys : List Bs, ys.Perm (ks.filter (qB pat)) ∧ e = .returned (.slice o (ks.filter (qB pat)).length c) ∧ w'.ownsRow W.heap.size 9 1 (.slice o (ks.filter (qB pat)).length c) (ks.filter (qB pat)).length (ys.map sv) ∧ Below W.heap.size W w' := by
  have l2 := h2.lt
  have hst := matched_stops (N0 := W.heap.size) (w0 := W.alloc (.cells #[.slice none 0 0] 56)) hp hks hkl (h1.alloc _) (h2.alloc _) l2 (owns_low hown ((Below.refl _ W).alloc (Nat.le_refl _) _))
  have HA := Lib.hid (appendSeq_any b1 b2 (ks.filter (qB pat)) ks.length hkn _ hst)
  generalize ks.filter (qB pat) = L at *
  clear hks hkl h1 h2 hst hown
  go_enter Tryz.func62, Tryz.ntmps62
  go_wp2_with (go_at_call 80; refine HA.out.mono ?_; rintro e w1 ⟨o, c, ys, hy, rfl, hr, hb⟩; have H1 := Lib.hid (And.intro hy (And.intro hr hb)); clear hy hr hb)
  go_ret
  exact ⟨o, c, ys, H1.out.1, rfl, H1.out.2⟩
theorem sorted_any (hp : pat.length ≤ 100000) (hks : (strKeys D0).Perm ks) (hkl : ∀ k ∈ ks, k.length ≤ 100000) (hkn : ks.length ≤ 1000000)
    (h1 : Boxed W b1 43 (.map (some m))) (h2 : Boxed W b2 9 (.string ⟨pat.toArray⟩)) (hown : W.ownsMap Tryz.prog 9 Rc m 1000000 D0) :
    Calls Tryz.prog 52 #[.func (.func 64) #[] #[.pointer (some ⟨b1, 0, none⟩), .pointer (some ⟨b2, 0, none⟩)]] W fun e w' => ∃ o c, e = .returned (.slice o (ks.filter (qB pat)).length c) ∧ w'.ownsRow W.heap.size 9 1 (.slice o (ks.filter (qB pat)).length c) (ks.filter (qB pat)).length ((srt (ks.filter (qB pat))).map sv) ∧ Below W.heap.size W w' := by
  have CO := Lib.hid (collect_any hp hks hkl hkn h1 h2 hown)
  have hfl : (ks.filter (qB pat)).length ≤ ks.length := List.length_filter_le _ _
  generalize ks.filter (qB pat) = L at *
  have SO : Hid (∀ (w1 : World) o c (ys : List Bs), ys.Perm L → w1.ownsRow W.heap.size 9 1 (.slice o L.length c) L.length (ys.map sv) → Calls Tryz.prog 63 #[.slice o L.length c] w1 fun e w' => e = .returned (.tuple #[]) ∧ w'.ownsRow W.heap.size 9 1 (.slice o L.length c) L.length ((srt L).map sv) ∧ Kp (Value.slice o L.length c).ownBlock.toList w1 w') := fun w1 o c ys hy ho => by
    have hl := hy.length_eq
    rw [← hl] at ho ⊢
    refine (sort_any ho (by omega)).mono ?_
    rintro e w' ⟨he, h2, h3⟩
    rw [srt_of_perm hy] at h2
    exact ⟨he, h2, h3⟩
  clear hks hkl h1 h2 hown
  go_enter Tryz.func52, Tryz.ntmps52
  go_wp2_with (first
    | (go_at_call 62; refine CO.out.mono ?_; rintro e w1 ⟨o, c, ys, hy, rfl, hr, hb⟩; have H1 := Lib.hid (And.intro hy (And.intro hr hb)); clear hy hr hb)
    | (go_at_call 63; refine (SO.out _ _ _ _ H1.out.1 H1.out.2.1).mono ?_; rintro e w2 ⟨rfl, hr, hk⟩; have H2 := Lib.hid (And.intro hr hk); clear hr hk))
  go_ret
  refine ⟨o, c, rfl, H2.out.1, H1.out.2.2.trans (H2.out.2.below H1.out.2.2.size (fun d hd => ?_))⟩
  exact (row_ids H1.out.2.1 d (by simpa using hd)).1
end
section
variable {w : World} {B tb mn mh mk : Nat} {who : Own} {cb : Nat → Nat} {S : TS}
theorem matched_any (w : World) (m : Nat) (pat : Bs) : Calls Tryz.prog 53 #[.map (some m), .string ⟨pat.toArray⟩] w fun e w' => ∃ b1 b2, e = .returned (.func (.func 64) #[] #[.pointer (some ⟨b1, 0, none⟩), .pointer (some ⟨b2, 0, none⟩)]) ∧ Boxed w' b1 43 (.map (some m)) ∧ Boxed w' b2 9 (.string ⟨pat.toArray⟩) ∧ Below w.heap.size w w' := by
  have h1 := Boxed.new w 43 (.map (some m))
  have h2 := Boxed.new (w.alloc (.cells #[.map (some m)] 43)) 9 (.string ⟨pat.toArray⟩)
  rw [World.size_alloc] at h2
  have H := Lib.hid (And.intro (h1.alloc (.cells #[.string ⟨pat.toArray⟩] 9)) h2)
  clear h1 h2
  go_enter Tryz.func53, Tryz.ntmps53
  go_wp2
  go_ret
  exact ⟨_, _, rfl, H.out.1, H.out.2, ((Below.refl _ w).alloc (Nat.le_refl _) _).alloc (by simp) _⟩
set_option maxHeartbeats 400000 in
theorem Names_any (h : Tb w B tb mn mh mk who cb S) (hW : WF S) (hl : S.last ≤ 900000) (pat : Bs) (hp : pat.length ≤ 100000) : ∃ ks, Nms S false ks ∧ Calls Tryz.prog 34 #[.pointer (some ⟨tb, 0, none⟩), .string ⟨pat.toArray⟩] w fun e w' => ∃ o c, e = .returned (.slice o (ks.filter (qB pat)).length c) ∧ w'.ownsRow w.heap.size 9 1 (.slice o (ks.filter (qB pat)).length c) (ks.filter (qB pat)).length ((srt (ks.filter (qB pat))).map sv) ∧ Below w.heap.size w w' := by
  obtain ⟨D0, ks, hown, hks, hN⟩ := h.ownsNames hW hl false
  rw [show kindB mn mh false = mn from rfl] at hown
  refine ⟨ks, hN, ?_⟩
  have hkn : ks.length ≤ 1000000 := by have h1 := hN.le hW; have h2 := S.cnt_le; omega
  obtain ⟨c0, c1, _⟩ := h.cells
  have MA := Lib.hid (fun W => matched_any W mn pat)
  have SO : Hid (∀ W b1 b2, Below w.heap.size w W → Boxed W b1 43 (.map (some mn)) → Boxed W b2 9 (.string ⟨pat.toArray⟩) → Calls Tryz.prog 52 #[.func (.func 64) #[] #[.pointer (some ⟨b1, 0, none⟩), .pointer (some ⟨b2, 0, none⟩)]] W fun e w' => ∃ o c, e = .returned (.slice o (ks.filter (qB pat)).length c) ∧ w'.ownsRow w.heap.size 9 1 (.slice o (ks.filter (qB pat)).length c) (ks.filter (qB pat)).length ((srt (ks.filter (qB pat))).map sv) ∧ Below w.heap.size w w') := fun W b1 b2 hb x1 x2 => (sorted_any hp hks (hN.len hW) hkn x1 x2 (owns_low hown hb)).mono fun e w' ⟨o, c, he, hr, hB⟩ => ⟨o, c, he, row_base hr hb.size, hb.trans (hB.mono hb.size)⟩
  generalize ks.filter (qB pat) = L at *
  clear h hown hks hN hW
  go_enter Tryz.func34, Tryz.ntmps34
  go_wp2_with (first
    | (go_at_call 53; refine (MA.out _).mono ?_; rintro e w1 ⟨b1, b2, rfl, x1, x2, hB⟩; have H1 := Lib.hid (And.intro hB (And.intro x1 x2)); clear x1 x2 hB)
    | (go_at_call 52; refine (SO.out _ _ _ H1.out.1 H1.out.2.1 H1.out.2.2).mono ?_; rintro e w2 ⟨o, c, rfl, hr, hB⟩; have H2 := Lib.hid (And.intro hr hB); clear hr hB))
  go_ret
  exact ⟨o, c, rfl, H2.out.1, H2.out.2⟩
set_option maxHeartbeats 400000 in
theorem Hidden_any (h : Tb w B tb mn mh mk who cb S) (hW : WF S) (hl : S.last ≤ 900000) (pat : Bs) (hp : pat.length ≤ 100000) : ∃ ks, Nms S true ks ∧ Calls Tryz.prog 36 #[.pointer (some ⟨tb, 0, none⟩), .string ⟨pat.toArray⟩] w fun e w' => ∃ o c, e = .returned (.slice o (ks.filter (qB pat)).length c) ∧ w'.ownsRow w.heap.size 9 1 (.slice o (ks.filter (qB pat)).length c) (ks.filter (qB pat)).length ((srt (ks.filter (qB pat))).map sv) ∧ Below w.heap.size w w' := by
  obtain ⟨D0, ks, hown, hks, hN⟩ := h.ownsNames hW hl true
  rw [show kindB mn mh true = mh from rfl] at hown
  refine ⟨ks, hN, ?_⟩
  have hkn : ks.length ≤ 1000000 := by have h1 := hN.le hW; have h2 := S.cnt_le; omega
  obtain ⟨c0, c1, _⟩ := h.cells
  have MA := Lib.hid (fun W => matched_any W mh pat)
  have SO : Hid (∀ W b1 b2, Below w.heap.size w W → Boxed W b1 43 (.map (some mh)) → Boxed W b2 9 (.string ⟨pat.toArray⟩) → Calls Tryz.prog 52 #[.func (.func 64) #[] #[.pointer (some ⟨b1, 0, none⟩), .pointer (some ⟨b2, 0, none⟩)]] W fun e w' => ∃ o c, e = .returned (.slice o (ks.filter (qB pat)).length c) ∧ w'.ownsRow w.heap.size 9 1 (.slice o (ks.filter (qB pat)).length c) (ks.filter (qB pat)).length ((srt (ks.filter (qB pat))).map sv) ∧ Below w.heap.size w w') := fun W b1 b2 hb x1 x2 => (sorted_any hp hks (hN.len hW) hkn x1 x2 (owns_low hown hb)).mono fun e w' ⟨o, c, he, hr, hB⟩ => ⟨o, c, he, row_base hr hb.size, hb.trans (hB.mono hb.size)⟩
  generalize ks.filter (qB pat) = L at *
  clear h hown hks hN hW
  go_enter Tryz.func36, Tryz.ntmps36
  go_wp2_with (first
    | (go_at_call 53; refine (MA.out _).mono ?_; rintro e w1 ⟨b1, b2, rfl, x1, x2, hB⟩; have H1 := Lib.hid (And.intro hB (And.intro x1 x2)); clear x1 x2 hB)
    | (go_at_call 52; refine (SO.out _ _ _ H1.out.1 H1.out.2.1 H1.out.2.2).mono ?_; rintro e w2 ⟨o, c, rfl, hr, hB⟩; have H2 := Lib.hid (And.intro hr hB); clear hr hB))
  go_ret
  exact ⟨o, c, rfl, H2.out.1, H2.out.2⟩
end
end Go.Proofs.YtbbbenjakjejmaaGreat
