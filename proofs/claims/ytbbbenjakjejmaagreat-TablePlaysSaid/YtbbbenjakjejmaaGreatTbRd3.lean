/- 'sameInts' of equal rows; 'Imports' of both tables. -/
import Derived.Test.YtbbbenjakjejmaaGreatTbRd2
import Derived.Test.YtbbbenjakjejmaaGreatTbTell
namespace Go.Proofs.YtbbbenjakjejmaaGreat
set_option linter.unusedVariables false
set_option linter.unusedSimpArgs false
open Go.RowKit Go.MapKept Go.WideMaps
/-- A row of numbers, read. -/
def NRow (w : World) (v : Value) (zs : List Int) : Prop := ∃ o c, v = .slice o zs.length c ∧ zs.length ≤ maxLen ∧ ∀ i (h : i < zs.length), ∃ b, o = some ⟨b, 0, none⟩ ∧ b < w.heap.size ∧ w.cell? ⟨b, i, none⟩ = some (.int .i64 zs[i])
theorem NRow.of_owns {w : World} {base : Nat} {v : Value} {zs : List Int} (h : w.ownsRow base 3 1 v zs.length (zs.map (Value.int .i64))) : NRow w v zs := by
  rcases h.2 with ⟨h0, hl⟩ | ⟨g, cap, cur, rfl, hb, hg, h1, h2, h3, h4⟩
  · subst h0
    refine ⟨none, 0, by rw [hl], by unfold maxLen; omega, fun i hi => by omega⟩
  · refine ⟨_, cap, rfl, by omega, fun i hi => ⟨g, rfl, (Array.getElem?_eq_some_iff.1 hg).1, ?_⟩⟩
    have hj : (zs.map (Value.int .i64))[i]? = some (.int .i64 zs[i]) := by rw [List.getElem?_map, List.getElem?_eq_getElem hi]; rfl
    rw [← h4, List.getElem?_take, if_pos (by omega)] at hj
    simp only [World.cell?, hg]
    simpa using hj
theorem NRow.low {w w' : World} {v : Value} {zs : List Int} (h : NRow w v zs) (hb : Below w.heap.size w w') : NRow w' v zs := by
  obtain ⟨o, c, h1, h2, h3⟩ := h
  refine ⟨o, c, h1, h2, fun i hi => ?_⟩
  obtain ⟨b, e, hl, hc⟩ := h3 i hi
  exact ⟨b, e, Nat.lt_of_lt_of_le hl hb.size, (hb.cell (p := ⟨b, i, none⟩) hl).trans hc⟩
set_option maxRecDepth 100000 in
set_option maxHeartbeats 800000 in
theorem sameInts_yes {va vb : Value} {zs : List Int} (w : World) (ha : NRow w va zs) (hb : NRow w vb zs) :
    Calls Tryz.prog 16 #[va, vb] w fun e w' => e = .returned (.bool true) ∧ Below w.heap.size w w' := by
  obtain ⟨oa, ca, rfl, ha2, ha3⟩ := ha
  obtain ⟨ob, cb, rfl, hb2, hb3⟩ := hb
  unfold maxLen at ha2
  have HA := Lib.hid ha3
  have HB := Lib.hid hb3
  obtain ⟨n, hn⟩ : ∃ n, zs.length = n := ⟨_, rfl⟩
  have HN := Lib.hid hn
  rw [hn] at ha2 ⊢
  have t1 : ((n : Int) == (n : Int)) = true := by simp
  clear ha3 hb3 hn hb2
  go_enter Tryz.func16, Tryz.ntmps16
  go_wp2_with fail
  go_loopg [13] n (fun g i wr => ∃ k : Nat, k + g = n ∧ i = .int .i64 (k : Int) ∧ Below w.heap.size w wr)
  case atStart => exact ⟨0, by omega, rfl, Below.refl _ _⟩
  case round =>
    obtain ⟨k, hkg, rfl, hb⟩ := hrel
    have hn := HN.out
    by_cases hlt : k < n
    · obtain ⟨ga, rfl, hla, hca⟩ := HA.out k (by omega)
      obtain ⟨gb, rfl, hlb, hcb⟩ := HB.out k (by omega)
      have cx : wr.cell? ⟨ga, k, none⟩ = some (.int .i64 (zs[k]'(by omega))) := (hb.cell (p := ⟨ga, k, none⟩) hla).trans hca
      have cy : wr.cell? ⟨gb, k, none⟩ = some (.int .i64 (zs[k]'(by omega))) := (hb.cell (p := ⟨gb, k, none⟩) hlb).trans hcb
      generalize zs[k]'(by omega) = x at *
      have i1 : k < n := hlt
      have t0 : decide ((k : Int) < (n : Int)) = true := by rw [decide_eq_true_eq]; omega
      have t2 : (x == x) = true := by simp
      have hw1 : IntKind.i64.wrap ((k : Int) + 1) = (k : Int) + 1 := IntWalk.i64_in _ (by omega)
      have HJ := Lib.hid hkg
      have HW := Lib.hid hb
      clear hkg hn hlt hca hcb hb
      go_wp2_with fail
      go_quiet (fail)
      go_wp2_with fail
      go_roundg (gk - 1)
      case measure => have := HJ.out; omega
      case rel => exact ⟨k + 1, by have := HJ.out; omega, by go_num, below_drewN HW.out nq⟩
    · obtain rfl : k = n := by omega
      have t0 : decide ((k : Int) < (k : Int)) = false := by rw [decide_eq_false_iff_not]; omega
      clear hkg hn hlt
      go_wp2_with fail
      go_ret
      exact ⟨rfl, hb⟩
/-- The commands that stand for n, ascending, of those before k. -/
def impR (S : TS) (n k : Nat) : List Nat := (List.range k).filter fun j => (S.cm j).any fun d => d.org == n
theorem impR_snoc (S : TS) (n k : Nat) : impR S n (k + 1) = impR S n k ++ (if (S.cm k).any (fun d => d.org == n) = true then [k] else []) := by
  unfold impR
  rw [List.range_succ, List.filter_append]
  congr 1
  by_cases h : (S.cm k).any (fun d => d.org == n) = true <;> simp [List.filter_cons, h]
theorem impR_len (S : TS) (n : Nat) : ∀ k, (impR S n k).length ≤ k := fun k => by
  have := List.length_filter_le (fun j => (S.cm j).any fun d => d.org == n) (List.range k)
  unfold impR
  simpa using this
def asI (l : List Nat) : List Int := l.map fun k : Nat => (k : Int)
theorem asI_len (l : List Nat) : (asI l).length = l.length := by simp [asI]
/-- An ascending row is the sorted one. -/
theorem srtI_of {l m : List Nat} (hp : l.Perm m) (ha : m.Pairwise (· < ·)) : srtI (asI l) = asI m := by
  have hs : (asI m).Pairwise (fun x y => decide (x ≤ y) = true) := by
    unfold asI
    rw [List.pairwise_map]
    exact ha.imp (fun {a b} h => by rw [decide_eq_true_eq]; omega)
  have h1 : (srtI (asI l)).Perm (asI m) := (srtI_perm _).trans (hp.map _)
  have h2 : (srtI (asI l)).Pairwise (fun x y => decide (x ≤ y) = true) := List.pairwise_mergeSort (fun a b c h k => by simp only [decide_eq_true_eq] at *; omega) (fun a b => by rcases Int.le_total a b with h | h <;> simp [h]) _
  exact h1.eq_of_pairwise (fun a b _ _ h k => by simp only [decide_eq_true_eq] at h k; omega) h2 hs
theorem imp_eq {S : TS} (hW : WF S) {n : Nat} {c : Cm} (hc : S.cm n = some c) : srtI (asI c.imp) = asI (impR S n (S.last + 1)) := by
  have hn := hW.pos n c hc
  refine srtI_of ?_ (List.Pairwise.filter _ List.pairwise_lt_range)
  refine (List.perm_ext_iff_of_nodup (hW.once n c hc) (List.nodup_range.filter _)).2 fun i => ?_
  rw [List.mem_filter, List.mem_range]
  constructor
  · intro hi
    obtain ⟨d, hd, ho⟩ := hW.imp n c hc i hi
    exact ⟨by have := (hW.pos i d hd).2; omega, by rw [hd]; simp [ho]⟩
  · rintro ⟨_, hi⟩
    cases hd : S.cm i with
    | none => rw [hd] at hi; cases hi
    | some d =>
      rw [hd] at hi
      have ho : d.org = n := by simpa using hi
      obtain ⟨p, hp, hm, _⟩ := hW.org i d hd (by omega)
      rw [ho, hc] at hp
      cases hp
      exact hm
theorem infoInt : (Tryz.prog.info? 3).map (fun i => (i.zero, i.size, i.bytes)) = some (some (.int .i64 0), 1, 8) := by kernel_rfl
section
variable {w : World} {B yb ep : Nat} {l : List RC} {v : Value} {S : TS}
theorem rImports_none (h : Rf w B yb l ep v) (hs : Sim S l) (hW : WF S) (hl : S.last ≤ 100000) {i : Int} (hi : (Lit.int .i64 i).wf = true) (hn : S.num i = none) :
    Calls Tryz.prog 28 #[.pointer (some ⟨yb, 0, none⟩), .int .i64 i] w fun e w' => e = .returned (.slice none 0 0) ∧ w = w' := by
  have TH := Lib.hid (rthere_any h hs hW hl i hi (q := false) (by rw [hn]; rfl))
  clear h hs hW
  go_enter Tryz.func28, Tryz.ntmps28
  go_wp2_with (go_at_call 47; refine TH.out.mono ?_; rintro e w2 ⟨rfl, rfl⟩)
  go_ret
  exact ⟨rfl, rfl⟩
set_option maxRecDepth 100000 in
set_option maxHeartbeats 1600000 in
theorem rImports_any (h : Rf w B yb l ep v) (hs : Sim S l) (hW : WF S) (hl : S.last ≤ 100000) {n : Nat} {c : Cm} (hc : S.cm n = some c) :
    Calls Tryz.prog 28 #[.pointer (some ⟨yb, 0, none⟩), .int .i64 (n : Int)] w fun e w' => ∃ vo, e = .returned vo ∧ NRow w' vo (asI (impR S n (S.last + 1))) ∧ Below w.heap.size w w' := by
  have hnl := hW.pos n c hc
  have TH := Lib.hid (rthere_any h hs hW hl (n : Int) (nat_wf (by omega)) (q := true) (by rw [num_nat, hc]; rfl))
  have hlen := hs.len
  obtain ⟨c0, _⟩ := h.cells
  obtain ⟨vo, vc, hv⟩ := h.shape
  obtain ⟨N, hN⟩ : ∃ N, l.length = N := ⟨_, rfl⟩
  have H := Lib.hid (And.intro h (And.intro hs (And.intro hW (And.intro hN hv))))
  rw [hv, hN] at c0
  have hNl : N ≤ 100000 := by omega
  have HL : Hid (S.last = N ∧ 1 ≤ n) := ⟨by omega, hnl.1⟩
  have hz0 : S.cm 0 = none := by
    cases e : S.cm 0 with
    | none => rfl
    | some d => have := (hW.pos 0 d e).1; omega
  have H0 := Lib.hid hz0
  clear h hs hW hlen hN hv hl hz0 hnl hc
  go_enter Tryz.func28, Tryz.ntmps28
  go_wp2_with (go_at_call 47; refine TH.out.mono ?_; rintro e w2 ⟨rfl, rfl⟩)
  go_loopw [5, 17] (fun vo i wr => ∃ k : Nat, k ≤ N ∧ i = .int .i64 (k : Int) ∧ wr.ownsRow w.heap.size 3 1 vo (impR S n (k + 1)).length ((asI (impR S n (k + 1))).map (Value.int .i64)) ∧ Below w.heap.size w wr) (fun _ i _ => N - (intOf i).toNat)
  case atStart =>
    refine ⟨0, Nat.zero_le _, rfl, ?_, Below.refl _ _⟩
    have : impR S n 1 = [] := by rw [show (1 : Nat) = 0 + 1 from rfl, impR_snoc, H0.out]; rfl
    rw [show (0 + 1 : Nat) = 1 from rfl, this]
    exact ⟨rfl, .inl ⟨rfl, rfl⟩⟩
  case round =>
    obtain ⟨k, hk, rfl, hrow, hB⟩ := hrel
    by_cases hlt : k < N
    · have hkl : k < l.length := by have := H.out.2.2.2.1; omega
      have hr : l[k]? = some l[k] := List.getElem?_eq_getElem hkl
      obtain ⟨g, cap, hv, hg, d0, d1, d2, d3, _⟩ := (H.out.1.low hB).at_ hr
      rw [H.out.2.2.2.2] at hv
      injection hv with hv1 hv2 hv3
      subst hv1
      have hcm := H.out.2.1.cm k _ hr
      generalize l[k] = r at *
      obtain ⟨e0, e1, e2, e3⟩ := boxR_cells (heap_alloc_new wr (boxR r))
      unfold boxR at e0 e1 e2 e3
      have i1 : k < N := hlt
      have hw1 : IntKind.i64.wrap ((k : Int) + 1) = (k : Int) + 1 := IntWalk.i64_in _ (by omega)
      have hbx := hB.alloc (o := boxR r) hB.size
      have hil := impR_len S n (k + 1)
      have hsn := impR_snoc S n (k + 1)
      obtain ⟨oo, oc, hoe⟩ := row_shape hrow
      have hrow1 := hrow.alloc (boxR r)
      have hszb := hbx.size
      have HB := Lib.hid (And.intro hbx (And.intro hrow1 (And.intro hcm (And.intro hlt hsn))))
      rw [hoe] at HB hrow1
      subst hoe
      obtain ⟨wb, hwb⟩ : ∃ wb, wr.alloc (boxR r) = wb := ⟨_, rfl⟩
      have hro := H.out.2.2.1
      unfold boxR at HB
      obtain ⟨rn, rh, rt, ro⟩ := r
      simp only at d0 d1 d2 d3 e0 e1 e2 e3 HB
      clear hkl hr hg hB hk hlt hv2 hv3 hcm hbx hrow hrow1 hsn hro hwb hszb
      cases rt with
      | false =>
        go_wp2_with fail
        refine ⟨⟨k + 1, by have := HB.out.2.2.2.1; omega, by go_num, ?_, HB.out.1⟩, by have := HB.out.2.2.2.1; simp [intOf]; omega⟩
        rw [HB.out.2.2.2.2, HB.out.2.2.1.2 rfl]
        simpa using HB.out.2.1
      | true =>
        by_cases hro : ro = n
        · subst hro
          have t1 : ((ro : Int) == (ro : Int)) = true := by simp
          obtain ⟨d, hd, _, _, ho⟩ := HB.out.2.2.1.1 rfl
          have hx : impR S ro (k + 1 + 1) = impR S ro (k + 1) ++ [k + 1] := by rw [HB.out.2.2.2.2, hd]; simp [ho]
          have HX := Lib.hid hx
          generalize impR S ro (k + 1) = zs at *
          have hzl : zs.length ≤ 100001 := by omega
          clear hd ho hx
          go_wp2_with (at_builtin; go_loud (refine wpList_push1 rfl (.tmp 30) (.tmp 33) 32 rfl w.heap.size 3 (.int .i64 0) 8 Tryz.underlying32 infoInt rfl (.slice oo zs.length oc) zs.length _ rfl HB.out.2.1 (.int .i64 ((k : Int) + 1)) (wr.heap.size + 1) (by simp) rfl rfl (by unfold maxLen; omega) (by omega) (by have := HB.out.1.size; omega) ?_); intro g1 c1 w3 hg1 hown3 hk3 hloc; have H3 := Lib.hid (And.intro hown3 hk3); clear hg1 hown3 hk3 hloc)
          refine ⟨⟨k + 1, by have := HB.out.2.2.2.1; omega, by go_num, ?_, HB.out.1.trans (H3.out.2.below HB.out.1.size (fun d hd => (row_ids HB.out.2.1 d (by simpa using hd)).1))⟩, by have := HB.out.2.2.2.1; simp [intOf]; omega⟩
          rw [HX.out]
          simpa [asI] using H3.out.1
        · have t1 : ((ro : Int) == (n : Int)) = false := beq_eq_false_iff_ne.2 (by omega)
          have t2 : ¬ ro = n := hro
          obtain ⟨d, hd, _, _, ho⟩ := HB.out.2.2.1.1 rfl
          have hx : impR S n (k + 1 + 1) = impR S n (k + 1) := by rw [HB.out.2.2.2.2, hd]; simp [ho, hro]
          have HX := Lib.hid hx
          clear hd ho hx
          go_wp2_with fail
          refine ⟨⟨k + 1, by have := HB.out.2.2.2.1; omega, by go_num, ?_, HB.out.1⟩, by have := HB.out.2.2.2.1; simp [intOf]; omega⟩
          rw [HX.out]
          exact HB.out.2.1
    · obtain rfl : k = N := by omega
      have i1 : decide ((k : Int) < (k : Int)) = false := by rw [decide_eq_false_iff_not]; omega
      have HB := Lib.hid (And.intro hB hrow)
      clear hB hk hlt hrow
      go_wp2_with fail
      go_ret
      refine ⟨_, rfl, NRow.of_owns (base := w.heap.size) ?_, HB.out.1⟩
      rw [HL.out.1, asI_len]
      exact HB.out.2
end
section
variable {w : World} {B tb mn mh mk : Nat} {who : Own} {cb : Nat → Nat} {S : TS}
set_option maxRecDepth 100000 in
set_option maxHeartbeats 1600000 in
theorem Imports_some (h : Tb w B tb mn mh mk who cb S) (hW : WF S) (hl : S.last ≤ 100000) {n : Nat} {c : Cm} (hc : S.cm n = some c) :
    Calls Tryz.prog 27 #[.pointer (some ⟨tb, 0, none⟩), .int .i64 (n : Int)] w fun e w' => ∃ vo, e = .returned vo ∧ NRow w' vo (asI (impR S n (S.last + 1))) ∧ Below w.heap.size w w' := by
  have hnl := hW.pos n c hc
  have AT := Lib.hid (at_any h (i := (n : Int)) (nat_wf (by omega)))
  rw [num_nat, hc] at AT
  simp only [Option.isSome_some, if_true, ptrM, Option.map_some] at AT
  have hE := imp_eq hW hc
  have hil : c.imp.length ≤ 100001 := by
    have h1 := congrArg List.length hE
    rw [srtI_len, asI_len, asI_len] at h1
    have h2 := impR_len S n (S.last + 1)
    omega
  obtain ⟨_, v, hcel, hrow, _⟩ := h.cmd n c hc
  obtain ⟨io, ic, rfl⟩ := row_shape hrow
  have q4 : w.cell? ⟨cb n, 4, none⟩ = some (.slice io c.imp.length ic) := by simp [World.cell?, hcel]
  have HI : Hid (∀ i (h : i < c.imp.length), ∃ b, io = some ⟨b, 0, none⟩ ∧ w.cell? ⟨b, i, none⟩ = some (.pointer (some ⟨cb c.imp[i], 0, none⟩)) ∧ b < w.heap.size ∧ cb c.imp[i] < w.heap.size ∧ w.cell? ⟨cb c.imp[i], 0, none⟩ = some (.int .i64 (c.imp[i] : Int)) ∧ c.imp[i] ≤ 100000) := fun i hi => by
    obtain ⟨g, c', e, _⟩ := row_some hrow (by omega)
    have hc1 := hrow
    rw [e] at hc1
    have h2 := hc1.cellAt i (by omega)
    rw [List.getElem?_map, List.getElem?_eq_getElem hi] at h2
    injection e with e1 e2 e3
    obtain ⟨d, hd, _⟩ := hW.imp n c hc c.imp[i] (List.getElem_mem hi)
    have h3 := (h.cmd _ d hd)
    obtain ⟨h4, v4, h5, _⟩ := h3
    refine ⟨g, e1, by simpa [ptrC] using h2, (row_ids hc1 g rfl).2, (Array.getElem?_eq_some_iff.1 h5).1, by simp [World.cell?, h5], by have := (hW.pos _ d hd).2; omega⟩
  have HE := Lib.hid hE
  obtain ⟨N, hN⟩ : ∃ N, c.imp.length = N := ⟨_, rfl⟩
  have HN := Lib.hid hN
  rw [hN] at q4 hil
  generalize cb n = cn at *
  have hEn : ∀ W, (binOp .eql 60 (.pointer (some ⟨cn, 0, none⟩)) (.pointer none)).run Tryz.prog W = .ok (.bool false) W := fun W => eql_nil _ W
  clear h hW hc hcel hrow hE hN hnl hl
  go_enter Tryz.func27, Tryz.ntmps27
  go_wp2_with (go_at_call 44; refine AT.out.mono ?_; rintro e w2 ⟨rfl, rfl⟩)
  go_loopw [6, 19] (fun vo i wr => ∃ k : Nat, k ≤ N ∧ i = .int .i64 (k : Int) ∧ wr.ownsRow w.heap.size 3 1 vo k ((asI (c.imp.take k)).map (Value.int .i64)) ∧ Below w.heap.size w wr) (fun _ i _ => N - (intOf i).toNat)
  case atStart => exact ⟨0, Nat.zero_le _, rfl, ⟨rfl, .inl ⟨rfl, rfl⟩⟩, Below.refl _ _⟩
  case round =>
    obtain ⟨k, hk, rfl, hrow, hB⟩ := hrel
    by_cases hlt : k < N
    · have hkl : k < c.imp.length := by have := HN.out; omega
      obtain ⟨b, hio, hcb, hbl, hcl, hcx, hxl⟩ := HI.out k hkl
      subst hio
      have hx : c.imp.take (k + 1) = c.imp.take k ++ [c.imp[k]] := by rw [List.take_add_one, List.getElem?_eq_getElem hkl]; rfl
      have d0 := (hB.cell (p := ⟨b, k, none⟩) hbl).trans hcb
      have d1 := (hB.cell (p := ⟨cb c.imp[k], 0, none⟩) hcl).trans hcx
      generalize cb c.imp[k] = cx at *
      generalize c.imp[k] = x at *
      have i1 : k < N := hlt
      have hw1 : IntKind.i64.wrap ((k : Int) + 1) = (k : Int) + 1 := IntWalk.i64_in _ (by omega)
      obtain ⟨oo, oc, rfl⟩ := row_shape hrow
      have HB := Lib.hid (And.intro hB (And.intro hrow (And.intro hlt hx)))
      clear hkl hB hk hlt hrow hx hcb hbl hcl hcx hxl
      go_wp2_with (at_builtin; go_loud (refine wpList_push1 rfl (.tmp 23) (.tmp 28) 32 rfl w.heap.size 3 (.int .i64 0) 8 Tryz.underlying32 infoInt rfl (.slice oo k oc) k _ rfl HB.out.2.1 (.int .i64 (x : Int)) _ rfl rfl rfl (by unfold maxLen; omega) (by omega) (by exact HB.out.1.size) ?_); intro g1 c1 w3 hg1 hown3 hk3 hloc; have H3 := Lib.hid (And.intro hown3 hk3); clear hg1 hown3 hk3 hloc)
      refine ⟨⟨k + 1, by have := HB.out.2.2.1; omega, by go_num, ?_, HB.out.1.trans (H3.out.2.below HB.out.1.size (fun d hd => (row_ids HB.out.2.1 d (by simpa using hd)).1))⟩, by have := HB.out.2.2.1; simp [intOf]; omega⟩
      rw [HB.out.2.2.2]
      simpa [asI] using H3.out.1
    · obtain rfl : k = N := by omega
      have i1 : decide ((k : Int) < (k : Int)) = false := by rw [decide_eq_false_iff_not]; omega
      have htk : c.imp.take k = c.imp := List.take_of_length_le (by have := HN.out; omega)
      rw [htk] at hrow
      have hk2 : k = (asI c.imp).length := by rw [asI_len]; exact HN.out.symm
      obtain ⟨oo, oc, rfl⟩ := row_shape hrow
      have SO : Hid (Calls Tryz.prog 50 #[.slice oo k oc] wr fun e w' => e = .returned (.tuple #[]) ∧ NRow w' (.slice oo k oc) (srtI (asI c.imp)) ∧ Below w.heap.size wr w') := by
        have hrow2 : wr.ownsRow w.heap.size 3 1 (.slice oo k oc) (asI c.imp).length ((asI c.imp).map (Value.int .i64)) := by rw [← hk2]; exact hrow
        refine (sortI_any hrow2 (by rw [← hk2]; omega)).mono ?_
        rintro e w' ⟨he, h2, h3⟩
        refine ⟨he, NRow.of_owns (base := w.heap.size) (by rw [srtI_len]; exact h2), h3.below hB.size (fun d hd => (row_ids hrow d (by simpa using hd)).1)⟩
      have HB := Lib.hid hB
      clear hB hk hlt hrow htk hk2
      go_wp2_with (go_at_call 50; refine SO.out.mono ?_; rintro e w3 ⟨rfl, hr, hb⟩; have H3 := Lib.hid (And.intro hr hb); clear hr hb)
      go_ret
      refine ⟨_, rfl, ?_, HB.out.trans H3.out.2⟩
      rw [← HE.out]
      exact H3.out.1
end
end Go.Proofs.YtbbbenjakjejmaaGreat
