/- read. all: what ranges over a dictionary's pairs. pairs, text. A list of marks at a function's end; a pairs' range in a loop; Merge. -/
import Derived.Test.YteojlmpipfajoaaGreatDoorBookA
import Derived.Test.YteojlmpipfajoaaGreatDoorPush
namespace Go.Proofs.YteojlmpipfajoaaGreatDoor
set_option linter.unusedVariables false
set_option linter.unusedSimpArgs false
open Go.RowKit Go.MapKept Go.WideMaps

theorem split_count : ∀ (n : Nat) (s : Bs), s.length ≤ n → ∀ l, splitL s = some l → 2 * l.length ≤ s.length + 1 := by
  intro n
  induction n with
  | zero =>
    intro s h l hl
    obtain rfl : s = [] := List.length_eq_zero_iff.1 (by omega)
    rw [splitL_nil] at hl; cases hl; simp
  | succ n ih =>
    intro s h l hl
    cases s with
    | nil => rw [splitL_nil] at hl; cases hl; simp
    | cons c r =>
      simp only [List.length_cons] at h ⊢
      by_cases hw : isW c = true
      · rw [splitL_white hw] at hl
        have := ih r (by omega) l hl
        omega
      · have hw' : isW c = false := by simpa using hw
        rw [splitL_elem hw'] at hl
        cases he : elemC (c :: r) with
        | none => rw [he] at hl; cases hl
        | some q =>
          have h1 := elem_le (t := q.1) (k := q.2) he
          have h2 := elem_pos hw' (t := q.1) (k := q.2) he
          rw [he, Option.bind_some] at hl
          simp only [List.length_cons] at h1
          split at hl
          · rename_i hae
            cases hs : splitL ((c :: r).drop q.2) with
            | none => rw [hs] at hl; cases hl
            | some m =>
              rw [hs] at hl; cases hl
              have hdl : ((c :: r).drop q.2).length = r.length + 1 - q.2 := by simp
              cases hd : (c :: r).drop q.2 with
              | nil => rw [hd, splitL_nil] at hs; cases hs; simp
              | cons d t =>
                rw [hd] at hs hae hdl
                rw [splitL_white hae] at hs
                simp only [List.length_cons] at hdl
                have := ih t (by omega) m hs
                simp only [List.length_cons]; omega
          · cases hl
theorem split_few {s : Bs} (h : s.length ≤ 19999) {l : List Bs} (hl : splitL s = some l) : l.length ≤ 10000 := by
  have := split_count s.length s (Nat.le_refl _) l hl
  omega
theorem split_short {s : Bs} (h : s.length ≤ 19999) {l : List Bs} (hl : splitL s = some l) : ∀ x ∈ l, x.length ≤ 1000000 := fun x hx => by
  have h1 := split_wt s.length s (Nat.le_refl _) l hl
  have h2 := wt_mem hx
  omega
/-- What 'read' gives. -/
def ReadRes (s : Bs) (w : World) (e : Ending) (w' : World) : Prop := Below w.heap.size w w' ∧
  ((readC s = none ∧ e = .returned (.tuple #[.pointer none, .int .i64 11])) ∨ ∃ b F ps, readC s = some ps ∧ e = .returned (.tuple #[.pointer (some ⟨b, 0, none⟩), .int .i64 0]) ∧ Bk w' b F ps ∧ ∀ d ∈ F, w.heap.size ≤ d)
set_option maxRecDepth 100000 in
set_option maxHeartbeats 800000 in
theorem read_any (s : Bs) (hs : s.length ≤ 19999) (w : World) : Calls Tryz.prog 58 #[.string ⟨s.toArray⟩] w (ReadRes s w) := by
  have SP := Split_any s (by omega) w
  cases hl : splitL s with
  | none =>
    have HR : Hid (readC s = none) := by show _ = _; unfold readC; rw [hl]; rfl
    have SP2 : Hid (Calls Tryz.prog 35 #[.string ⟨s.toArray⟩] w fun e w' => Below w.heap.size w w' ∧ ∃ i : Int, e = .returned (.tuple #[.slice none 0 0, .int .i64 i, .int .i64 2])) := SP.mono fun e w' ⟨h1, h2⟩ => by
      refine ⟨h1, ?_⟩
      rcases h2 with ⟨_, h⟩ | ⟨l, h, _⟩ | ⟨l, h, _⟩
      · exact h
      · rw [hl] at h; cases h
      · rw [hl] at h; cases h
    clear SP hl
    go_enter Tryz.func58, Tryz.ntmps58
    go_wp2_with (go_at_call 35; refine SP2.out.mono ?_; rintro e w1 ⟨hb1, i, rfl⟩; skip)
    go_ret2
    exact ⟨hb1, .inl ⟨HR.out, rfl⟩⟩
  | some l =>
    have hfew := split_few hs hl
    have hshort := split_short hs hl
    have SP2 : Hid (Calls Tryz.prog 35 #[.string ⟨s.toArray⟩] w fun e w' => Below w.heap.size w w' ∧ ∃ o c, e = .returned (.tuple #[.slice o l.length c, .int .i64 0, .int .i64 0]) ∧ TxtRow w' (.slice o l.length c) l) := SP.mono fun e w' ⟨h1, h2⟩ => by
      refine ⟨h1, ?_⟩
      rcases h2 with ⟨h, _⟩ | ⟨l', h, h', _⟩ | ⟨l', h, _, v, he, hr⟩
      · rw [hl] at h; cases h
      · rw [hl] at h; cases h; omega
      · rw [hl] at h; cases h
        have ht := TxtRow.of_owns hr
        obtain ⟨o, c, rfl, _⟩ := id ht
        exact ⟨o, c, he, ht⟩
    clear SP
    by_cases hp : l.length % 2 = 0
    · have HR : Hid (readC s = some (addP [] (pairsOf l))) := by show _ = _; unfold readC; rw [hl, Option.bind_some, if_pos hp]
      have OF : Hid (∀ W v, TxtRow W v l → Calls Tryz.prog 70 #[v] W fun e w' => ∃ b F, e = .returned (.pointer (some ⟨b, 0, none⟩)) ∧ Bk w' b F (addP [] (pairsOf l)) ∧ Below W.heap.size W w' ∧ ∀ d ∈ F, W.heap.size ≤ d) := fun W v hr => of_any v l W hr (by omega) hshort
      have t1 : ((l.length : Int) % 2) = 0 := by omega
      clear hl hshort hp
      go_enter Tryz.func58, Tryz.ntmps58
      go_wp2_with (first | (go_at_call 35; refine SP2.out.mono ?_; rintro e w1 ⟨hb1, o, c, rfl, ht⟩; have H1 := Lib.hid (And.intro hb1 ht); clear hb1 ht) | (go_at_call 70; refine (OF.out _ _ H1.out.2).mono ?_; rintro e w2 ⟨b, F, rfl, hb, hB, hF⟩; have H2 := Lib.hid (And.intro hb (And.intro hB hF)); clear hb hB hF))
      go_ret2
      have hs1 := H1.out.1.size
      exact ⟨H1.out.1.trans (H2.out.2.1.mono hs1), .inr ⟨b, F, _, HR.out, rfl, H2.out.1, fun d hd => Nat.le_trans hs1 (H2.out.2.2 d hd)⟩⟩
    · have HR : Hid (readC s = none) := by show _ = _; unfold readC; rw [hl, Option.bind_some, if_neg hp]
      have t1 : ((l.length : Int) % 2) = 1 := by omega
      clear hl hshort hp
      go_enter Tryz.func58, Tryz.ntmps58
      go_wp2_with (go_at_call 35; refine SP2.out.mono ?_; rintro e w1 ⟨hb1, o, c, rfl, ht⟩; have H1 := Lib.hid (And.intro hb1 ht); clear hb1 ht)
      go_ret2
      exact ⟨H1.out.1, .inl ⟨HR.out, rfl⟩⟩
end Go.Proofs.YteojlmpipfajoaaGreatDoor
namespace Go.Proofs.YteojlmpipfajoaaGreatDoor
set_option linter.unusedVariables false
set_option linter.unusedSimpArgs false
open Go.RowKit Go.MapKept Go.WideMaps
attribute [local go_sem] Oper.semAt_some wide_fn

/-- The blocks of F, and block x, stay. -/
def KB (F : List Nat) (x : Nat) (w w' : World) : Prop := w'.heap[x]? = w.heap[x]? ∧ ∀ d ∈ F, w'.heap[d]? = w.heap[d]?
theorem KB.refl (F : List Nat) (x : Nat) (w : World) : KB F x w w := ⟨rfl, fun _ _ => rfl⟩
theorem KB.trans {F : List Nat} {x : Nat} {w w1 w2 : World} (h : KB F x w w1) (k : KB F x w1 w2) : KB F x w w2 := ⟨k.1.trans h.1, fun d hd => (k.2 d hd).trans (h.2 d hd)⟩
theorem kb_put {F : List Nat} {x : Nat} {w : World} (hx : x < w.heap.size) (hF : ∀ d ∈ F, d < w.heap.size) (W : World) (l : Nat) (o o' : Obj) (hl : w.heap.size ≤ l) (h : W.heap[l]? = some o) (_ : o.isCells = false) (_ : o.isWalk = false) : KB F x W (W.putObj l o') :=
  ⟨World.putObj_heap_other (by omega), fun d hd => World.putObj_heap_other (by have := hF d hd; omega)⟩
theorem Bk.kb {W W' : World} {b x : Nat} {F : List Nat} {ps : Prs} (h : Bk W b F ps) (k : KB F x W W') : Bk W' b F ps := by
  obtain ⟨kv, vv, m, hb, hk, hv, hm, hF, hne⟩ := h.ex
  have own : ∀ {v : Value} {xs : List Value}, W.ownsRow 0 9 1 v ps.length xs → (∀ g, v.ownBlock = some g → g ∈ F) → W'.ownsRow 0 9 1 v ps.length xs := fun {v xs} hr hg => by
    refine ⟨hr.1, ?_⟩
    rcases hr.2 with h0 | ⟨g, cap, cur, rfl, hb, hgb, r⟩
    · exact .inl h0
    · exact .inr ⟨g, cap, cur, rfl, hb, (k.2 g (hg g rfl)).trans hgb, r⟩
  refine ⟨h.uniq, kv, vv, m, (k.2 b (by rw [hF]; simp)).trans hb, own hk (fun g hg => by rw [hF]; simp [hg]), own hv (fun g hg => by rw [hF]; simp [hg]), hm.congr (k.2 m (by rw [hF]; simp)), hF, hne⟩
/-- A pair as it is yielded; 'cl' leaves the pairs that there are, and makes of others what can be borne. -/
abbrev encP (cl : Bs × Bs → Bs × Bs) (x : Bs × Bs) : Array Value := #[.string ⟨(cl x).1.toArray⟩, .string ⟨(cl x).2.toArray⟩]
theorem Bk.key {W : World} {b : Nat} {F : List Nat} {ps : Prs} (h : Bk W b F ps) : ∃ kv vv m, W.heap[b]? = some (.cells #[kv, .map (some m), vv] 125 (0, 0)) ∧ (∃ o c, kv = .slice o ps.length c) ∧
    ∀ i (hi : i < ps.length), ∃ g1 c1 g2 c2, kv = .slice (some ⟨g1, 0, none⟩) ps.length c1 ∧ vv = .slice (some ⟨g2, 0, none⟩) ps.length c2 ∧ ps.length ≤ c1 ∧ ps.length ≤ c2 ∧ W.cell? ⟨g1, i, none⟩ = some (.string ⟨ps[i].1.toArray⟩) ∧ W.cell? ⟨g2, i, none⟩ = some (.string ⟨ps[i].2.toArray⟩) := by
  obtain ⟨kv, vv, m, hb, hk, hv, hm, hF, hne⟩ := h.ex
  refine ⟨kv, vv, m, hb, row_shape hk, fun i hi => ?_⟩
  obtain ⟨g1, c1, rfl, h1, _, _⟩ := row_slice hk (by omega)
  obtain ⟨g2, c2, rfl, h2, _, _⟩ := row_slice hv (by omega)
  have e1 := hk.cellAt i (by omega)
  have e2 := hv.cellAt i (by omega)
  rw [List.getElem?_map, keysP, List.getElem?_map, List.getElem?_eq_getElem hi] at e1
  rw [List.getElem?_map, valsP, List.getElem?_map, List.getElem?_eq_getElem hi] at e2
  exact ⟨g1, c1, g2, c2, rfl, rfl, h1, h2, e1, e2⟩

set_option maxRecDepth 100000 in
set_option maxHeartbeats 1600000 in
theorem all1_in (n : Nat) (hn : 1 ≤ n) (l bx b : Nat) (F : List Nat) (ps : Prs) (hps : ps.length ≤ 1000000) (cl : Bs × Bs → Bs × Bs) (hcl : ∀ p ∈ ps, cl p = p) (J Jx : Prs → World → Prop)
    (hY : ∀ pre x W, J pre W → pre.length < ps.length → YieldAt Fence.wide (n - 1) Tryz.prog l (encP cl x) W fun e W' =>
      (e = .returned (.bool true) ∧ J (pre ++ [x]) W' ∧ KB F bx W W') ∨ (e = .returned (.bool false) ∧ Jx (pre ++ [x]) W'))
    (W : World) (hbx : W.cell? ⟨bx, 0, none⟩ = some (.pointer (some ⟨b, 0, none⟩))) (hB : Bk W b F ps) (h0 : J [] W) :
    CallsIn Fence.wide n Tryz.prog 97 #[.func (.yield l) #[] #[], .pointer (some ⟨bx, 0, none⟩)] W fun e W' => (∃ v, e = .returned v) ∧
      ((∃ ys, ys = ps ∧ J ys W') ∨ (∃ pre, pre <+: ps ∧ Jx pre W')) := by
  obtain ⟨kv, vv, m, hb, ⟨ko, kc, hko⟩, hcells⟩ := hB.key
  obtain ⟨c0, c1, c2, _⟩ := cells3 hb
  have HB := Lib.hid hB
  have HBX := Lib.hid hbx
  subst hko
  have HBB := Lib.hid hb
  clear hB hcells hb
  refine callsIn_of_wp Tryz.func97 rfl trivial ?_ rfl
  simp only [Tryz.ntmps97, List.size_toArray, List.length_cons, List.length_nil, Nat.reduceAdd, Nat.reduceSub, Array.replicate_succ, Array.replicate_zero, List.push_toArray, List.append_toArray, List.nil_append, List.cons_append]
  gi_wp2
  gi_loopw [11] (fun v wr => ∃ i : Nat, i ≤ ps.length ∧ v = .int .i64 i ∧ J (ps.take i) wr ∧ KB F bx W wr) (fun i _ => ps.length - (intOf i).toNat)
  case atStart => exact ⟨0, Nat.zero_le _, rfl, h0, KB.refl _ _ _⟩
  case round =>
    obtain ⟨i, hi, rfl, hJ, hK⟩ := hrel
    clear c0 c1 c2 hbx
    by_cases hlt : i < ps.length
    · have hBr := HB.out.kb hK
      obtain ⟨kv', vv', m', hb', _, hcells'⟩ := hBr.key
      have hbb := ((hK.2 b HB.out.mem).trans HBB.out).symm.trans hb'
      obtain ⟨g1, k1, g2, k2, rfl, rfl, l1, l2, e1, e2⟩ := hcells' i hlt
      cases hbb
      obtain ⟨d0, d1, d2, _⟩ := cells3 hb'
      have hbx' : wr.cell? ⟨bx, 0, none⟩ = some (.pointer (some ⟨b, 0, none⟩)) := by
        have := HBX.out
        simp only [World.cell?, hK.1] at this ⊢
        exact this
      have htk : ps.take i ++ [ps[i]] = ps.take (i + 1) := (List.take_succ_eq_append_getElem hlt).symm
      have HJ := Lib.hid hJ
      have HT := Lib.hid htk
      have HK := Lib.hid hK
      have hY' := hY (ps.take i) ps[i] wr hJ (by simp; omega)
      unfold encP at hY'
      rw [hcl _ (List.getElem_mem hlt)] at hY'
      generalize ps[i] = x at *
      have i1 : (i : Int) < (kc : Int) := by omega
      have i2 : (i : Int) < (k2 : Int) := by omega
      clear hJ htk hK hb' hcells' hBr hY
      gi_wp2_with fail
      obtain ⟨fn, tmps, assign, body, hy, hR⟩ := hY'
      gi_wp2_with fail
      first | refine hR.mono ?_ | (rw [hy]; gi_wp2_with fail; refine hR.mono ?_)
      rintro e W3 (⟨rfl, hJ3, hk3⟩ | ⟨rfl, hJx3⟩)
      · gi_wp2_with fail
        go_roundw
        case rel => exact ⟨i + 1, hlt, by go_num, by rw [← HT.out]; exact hJ3, HK.out.trans hk3⟩
        case measure => simp [intOf]; omega
      · gi_wp2_with fail
        refine bodyPost_ret (results_none rfl _ _ _) rfl ?_
        exact ⟨⟨_, rfl⟩, .inr ⟨_, ⟨ps.drop (i + 1), by rw [HT.out, List.take_append_drop]⟩, hJx3⟩⟩
    · obtain rfl : i = ps.length := by omega
      rw [List.take_length] at hJ
      gi_wp2_with fail
      go_end0
      exact ⟨⟨_, rfl⟩, .inl ⟨_, rfl, hJ⟩⟩
theorem all_stops (bx b : Nat) (F : List Nat) (ps : Prs) (hps : ps.length ≤ 1000000) (cl : Bs × Bs → Bs × Bs) (hcl : ∀ p ∈ ps, cl p = p) (w : World) (hbx : bx < w.heap.size) (hc : w.cell? ⟨bx, 0, none⟩ = some (.pointer (some ⟨b, 0, none⟩))) (hB : Bk w b F ps) :
    SeqStopsK Fence.wide 2 Tryz.prog 97 #[.pointer (some ⟨bx, 0, none⟩)] (encP cl) (KB F bx) (fun ys => ys = ps) (fun pre => pre <+: ps) ps.length w := fun l J Jx W hW hJ _ hY h0 =>
  all1_in 2 (by omega) l bx b F ps hps cl hcl J Jx hY W ((hW.cell (p := ⟨bx, 0, none⟩) hbx).trans hc) (hB.below hW) h0
theorem all_any (b : Nat) (w : World) :
    Calls Tryz.prog 84 #[.pointer (some ⟨b, 0, none⟩)] w fun e w' => e = .returned (.func (.func 97) #[] #[.pointer (some ⟨w.heap.size, 0, none⟩)]) ∧ w' = w.alloc (.cells #[.pointer (some ⟨b, 0, none⟩)] 87) := by
  go_enter Tryz.func84, Tryz.ntmps84
  go_wp2
  go_ret
  exact ⟨rfl, rfl⟩
end Go.Proofs.YteojlmpipfajoaaGreatDoor
namespace Go.Proofs.YteojlmpipfajoaaGreatDoor
set_option linter.unusedVariables false
set_option linter.unusedSimpArgs false
open Go.RowKit Go.MapKept Go.WideMaps
attribute [local go_sem] Oper.semAt_some wide_fn

theorem flatP_snoc (pre : Prs) (x : Bs × Bs) : flatP (pre ++ [x]) = flatP pre ++ [x.1, x.2] := by rw [flatP_append]; rfl
/-- What holds while pairs are gathered. -/
structure PaJ (w : World) (pre : Prs) (W : World) : Prop where
  row : ∃ v, Boxed W w.heap.size 22 v ∧ W.ownsRow (w.heap.size + 2) 9 1 v (flatP pre).length ((flatP pre).map sv) ∧ True
  size : w.heap.size + 2 ≤ W.heap.size
  below : Below w.heap.size w W
theorem paj_own {w : World} {C : Nat} (hC : w.heap.size ≤ C) : OwnFrom C (PaJ w) := fun pre W W' row h hg hr => by
  have hr' := fun r e => (hr r e).2
  exact ⟨holdsRow_own (w.heap.size + 2) w.heap.size 22 9 1 (fun pre => (flatP pre).length) (fun pre => (flatP pre).map sv) (fun _ _ => True) pre W W' row h.row hg hr', Nat.le_trans h.size hg.size, h.below.grown hg h.below.size (fun r e => Nat.le_trans hC (hr r e).1)⟩
theorem pre_len {l p : Prs} {N : Nat} (h : l.length < N) (hN : N ≤ 1000000) : (flatP l).length ≤ 2000000 := by rw [flatP_len]; omega
set_option maxRecDepth 100000 in
set_option maxHeartbeats 1600000 in
theorem pairs_any {w : World} {b : Nat} {F : List Nat} {ps : Prs} (h : Bk w b F ps) (hps : ps.length ≤ 1000000) :
    Calls Tryz.prog 71 #[.pointer (some ⟨b, 0, none⟩)] w fun e w' => ∃ v, e = .returned v ∧ w'.ownsRow w.heap.size 9 1 v (flatP ps).length ((flatP ps).map sv) ∧ Below w.heap.size w w' := by
  obtain ⟨i0, hi, hz0, hz1, hz2⟩ := info_parts infoS
  have hFlt := h.lt
  refine callsIn_wide (n := 3) |>.1 ?_
  refine callsIn_of_wp_marks Tryz.func71 rfl trivial ?_ rfl
  simp only [Tryz.ntmps71, List.size_toArray, List.length_cons, List.length_nil, Nat.reduceAdd, Nat.reduceSub, Array.replicate_succ, Array.replicate_zero, List.push_toArray, List.append_toArray, List.nil_append, List.cons_append]
  gi_wp2_with (gi_at_call 84; refine (callsIn_wide.2 (all_any _ _)).mono ?_; rintro e w' ⟨rfl, rfl⟩)
  have bO := Boxed.new w 22 (.slice none 0 0)
  have bN := Boxed.new (w.alloc (.cells #[.slice none 0 0] 22)) 87 (.pointer (some ⟨b, 0, none⟩))
  rw [World.size_alloc] at bN
  have hB0 : Below w.heap.size w ((w.alloc (.cells #[.slice none 0 0] 22)).alloc (.cells #[.pointer (some ⟨b, 0, none⟩)] 87)) := ((Below.refl _ w).alloc (Nat.le_refl _) _).alloc (by simp) _
  have hBk := h.below hB0
  have hJ0 : PaJ w [] ((w.alloc (.cells #[.slice none 0 0] 22)).alloc (.cells #[.pointer (some ⟨b, 0, none⟩)] 87)) := ⟨⟨_, bO.alloc _, World.ownsRow_nil _ _ _ _, trivial⟩, by simp, hB0⟩
  have hsz : ((w.alloc (.cells #[.slice none 0 0] 22)).alloc (.cells #[.pointer (some ⟨b, 0, none⟩)] 87)).heap.size = w.heap.size + 2 := by simp
  generalize ((w.alloc (.cells #[.slice none 0 0] 22)).alloc (.cells #[.pointer (some ⟨b, 0, none⟩)] 87)) = w2 at *
  have hbxc := bN.cell
  clear h hB0 bO bN
  refine wpIn_rangeFunc_ownG rfl (by omega) (gf := 97) (lb := #[.pointer (some ⟨w.heap.size + 1, 0, none⟩)]) rfl trivial (enters_of Tryz.func97 (by kernel_rfl) rfl)
    (all_stops (w.heap.size + 1) b F ps hps id (fun _ _ => rfl) w2 (by omega) hbxc hBk) KB.trans (kb_put (by omega) (fun d hd => by have := hFlt d hd; omega)) (Below.refl _ _) (fun _ => rfl)
    (PaJ w) (fun _ _ _ => False) (paj_own (by omega)) (fun _ _ _ _ _ hs _ _ => hs) hJ0
    (fun x => { tmps := #[.pointer (some ⟨b, 0, none⟩), undef, .slice none 0 0, .pointer (some ⟨w.heap.size, 0, none⟩), .string ⟨x.1.toArray⟩, .string ⟨x.2.toArray⟩, .pointer (some ⟨b, 0, none⟩), .func (.func 97) #[] #[.pointer (some ⟨w.heap.size + 1, 0, none⟩)], .string ⟨x.1.toArray⟩, .string ⟨x.2.toArray⟩, undef, undef, undef, undef, undef, undef], defers := [] }) ?assign ?body ?done ?stop
  case assign =>
    intro l x W K hK
    gi_wp2
    exact hK
  case body =>
    rintro l pre ⟨x1, x2⟩ W ⟨⟨v, hv, hrow, _⟩, hs, hB⟩ hlt
    have cv := hv.cell
    have HJ := Lib.hid (And.intro hv (And.intro hrow hB))
    obtain ⟨o, cp, hve⟩ := row_shape hrow
    have hfl := pre_len (p := pre) hlt hps
    clear hv hrow hB hBk hbxc hJ0
    subst hve
    gi_wp2_with (gi_at_builtin; go_loud (refine wpListIn_append_own _ rfl _ _ 22 rfl (w.heap.size + 2) 9 i0 (sv []) 1 16 Tryz.underlying22 hi hz0 hz1 hz2 rfl (by decide) (.slice o (flatP pre).length cp) (flatP pre).length ((flatP pre).map sv) rfl (HJ.out.2.1.alloc _) ⟨W.heap.size, 0, none⟩ 2 2 [sv x1, sv x2] rfl rfl (row_new W [sv x1, sv x2] 9) (by simp [Value.oneCell', sv]) (by unfold maxLen; omega) (by omega) (Nat.le_trans hs (by simp)) ?_); intro v' w1 hown' hgrow _; obtain ⟨g', cap', rfl⟩ := ownsRow_succ (k := (flatP pre).length + 1) hown'; have HG := Lib.hid (And.intro hown' hgrow); obtain ⟨hv1, hv2, _, hk2, hb2⟩ := HJ.out.1.appended (by decide) (ownsRow_mono HJ.out.2.1 (by omega : w.heap.size ≤ w.heap.size + 2)) (by omega) (Nat.le_refl _) (ownsRow_mono hown' (by omega : w.heap.size ≤ w.heap.size + 2)) hgrow; have hc1 := hv1.cell; have hf1 := hv1.frozen; have HV := Lib.hid (And.intro hv1 (And.intro hv2 (And.intro hk2 hb2))); clear hown' hgrow hv1 hv2 hk2 hb2)
    refine ⟨HV.out.2.2.1.from _, ⟨?_, fun d hd => HV.out.2.2.2.block d (hFlt d hd)⟩, ⟨_, HV.out.2.1, ?_, trivial⟩, ?_, HJ.out.2.2.trans HV.out.2.2.2⟩
    · exact (Below.heap_setCell _ ⟨w.heap.size, 0, none⟩ _ _ (by simp)).trans ((HG.out.2.block _ (by simp; omega) (fun e => by have := (HJ.out.2.1.lt _ e.symm).1; omega)).trans (Below.heap_alloc _ _ _ (by omega)))
    · rw [flatP_snoc, List.length_append, List.map_append]
      exact HG.out.1.kept (grownBy_setCell' w1 _ _) (.inr (HV.out.1.not_row (by decide) HG.out.1).symm)
    · have := HV.out.2.2.2.size; omega
  case done =>
    rintro D ys W hD rfl ⟨⟨v, hv, hrow, _⟩, hs, hB⟩ hK
    have hc := hv.cell
    gi_wp2
    refine ⟨by simp, .inl ⟨_, _, rfl, run_takeDeferred hK, ?_⟩⟩
    exact ⟨_, results_tmp rfl _ _ _, v, rfl, ownsRow_putObj (ownsRow_mono hrow (by omega)) _ hK rfl, hB.trans (belowK_b (w := w) (Nat.le_refl _) W D _ _ (by omega) hK rfl rfl)⟩
  case stop =>
    rintro D c pre W _ _ h _
    exact h.elim
theorem read_len {s : Bs} {ps : Prs} (h : readC s = some ps) : 2 * ps.length ≤ 5 * s.length := by
  have h1 := read_wt h
  have h2 := wt_len (flatP ps)
  rw [flatP_len] at h2
  omega
set_option maxRecDepth 100000 in
theorem text_any {w : World} {b : Nat} {F : List Nat} {ps : Prs} (h : Bk w b F ps) (hps : ps.length ≤ 1000000) (hM : MaxIs w) :
    Calls Tryz.prog 59 #[.pointer (some ⟨b, 0, none⟩)] w fun e w' => e = .returned (.tuple #[.string ⟨(joinE (flatP ps)).1.toArray⟩, .int .i64 (joinE (flatP ps)).2]) ∧ Below w.heap.size w w' := by
  have PA := Lib.hid (pairs_any h hps)
  have JO : Hid (∀ v W, Below w.heap.size w W → TxtRow W v (flatP ps) → Calls Tryz.prog 6 #[v] W fun e w' => e = .returned (.tuple #[.string ⟨(joinE (flatP ps)).1.toArray⟩, .int .i64 (joinE (flatP ps)).2]) ∧ Below W.heap.size W w') := fun v W hW ht => Join_any v (flatP ps) W (hM.below hW hM.pos) ht
  clear h hM
  generalize joinE (flatP ps) = je at *
  go_enter Tryz.func59, Tryz.ntmps59
  go_wp2_with (first | (go_at_call 71; refine PA.out.mono ?_; rintro e w1 ⟨v, rfl, hr, hB⟩; have H1 := Lib.hid (And.intro hr hB); clear hr hB) | (go_at_call 6; refine (JO.out _ _ H1.out.2 (TxtRow.of_owns H1.out.1)).mono ?_; rintro e w2 ⟨rfl, hB2⟩; skip))
  go_ret2
  exact ⟨rfl, H1.out.2.trans (hB2.mono H1.out.2.size)⟩
end Go.Proofs.YteojlmpipfajoaaGreatDoor
namespace Go.Proofs.YteojlmpipfajoaaGreatDoor
set_option linter.unusedVariables false
set_option linter.unusedSimpArgs false
open Go.RowKit Go.MapKept Go.WideMaps
attribute [local go_sem] Oper.semAt_some wide_fn

abbrev mark (D : Nat) : Deferred := { target := .collected D, args := #[] }
theorem kp_put (w : World) (D : Nat) (o : Obj) : Kp [D] w (w.putObj D o) := by
  have h := grownBy_putObj' w D o
  exact ⟨h.os, h.tape, h.output, h.size, fun k hk hn => h.block k hk (fun e => hn (by cases e; simp))⟩
theorem leaves_marks {F : Fence} {n : Nat} {P : Program} {fn : Func} {tmps : Array Value} {R : Ending → World → Prop} : ∀ (Ds : List Nat) (w : World), (∀ D ∈ Ds, w.heap[D]? = some (.deferred (some []))) → Ds.Nodup → (∀ w', Kp Ds w w' → LeavesInM F n P fn tmps R [] .returning w') → LeavesInM F n P fn tmps R (Ds.map mark) .returning w := by
  intro Ds
  induction Ds with
  | nil => intro w _ _ h; exact h w (Kp.refl _ _)
  | cons D Ds ih =>
    intro w hD hn h
    rw [List.nodup_cons] at hn
    refine ⟨by simp, .inl ⟨D, _, rfl, run_takeDeferred (hD D (by simp)), ?_⟩⟩
    have hk := kp_put w D (.deferred none)
    refine ih _ (fun E hE => ?_) hn.2 (fun w' k => h w' ?_)
    · have hE' := hD E (List.mem_cons_of_mem _ hE)
      exact (hk.block E (Array.getElem?_eq_some_iff.1 hE').1 (by simp; exact fun e => hn.1 (e ▸ hE))).trans hE'
    · exact (hk.mono (by simp)).from (k.mono (fun d hd => List.mem_cons_of_mem _ hd))
end Go.Proofs.YteojlmpipfajoaaGreatDoor
