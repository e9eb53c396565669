/- What goes with a command, as the reference finds it: plain laws. The reference's 'gone'. Both tables in memory. The reference's 'Define', 'Import'. The reference's 'Rename', 'Hide', 'Expose', 'Delete'. The acts of both tables. -/
import Derived.Test.YtbbbenjakjejmaaGreatTbRd3
namespace Go.Proofs.YtbbbenjakjejmaaGreat
set_option linter.unusedVariables false
set_option linter.unusedSimpArgs false
/-- Of the commands, those with A are there no more. -/
def offR (l : List RC) (A : Nat → Bool) : List RC := l.mapIdx fun i r => if A (i + 1) = true then { r with there := false } else r
theorem offR_len (l : List RC) (A : Nat → Bool) : (offR l A).length = l.length := by simp [offR]
theorem offR_at {l : List RC} {A : Nat → Bool} {i : Nat} {r : RC} (h : l[i]? = some r) : (offR l A)[i]? = some (if A (i + 1) = true then { r with there := false } else r) := by
  simp [offR, List.getElem?_mapIdx, h]
theorem offR_congr {l : List RC} {A A' : Nat → Bool} (h : ∀ i, i < l.length → A (i + 1) = A' (i + 1)) : offR l A = offR l A' := by
  apply List.ext_getElem?
  intro i
  by_cases hi : i < l.length
  · rw [offR_at (List.getElem?_eq_getElem hi), offR_at (List.getElem?_eq_getElem hi), h i hi]
  · rw [List.getElem?_eq_none (by rw [offR_len]; omega), List.getElem?_eq_none (by rw [offR_len]; omega)]
theorem offR_set {l : List RC} {A A' : Nat → Bool} {i : Nat} {r r' : RC} (h : l[i]? = some r) (hr : (offR l A)[i]? = some r') (hA : ∀ j, A' j = (A j || j == i + 1)) : (offR l A).set i { r' with there := false } = offR l A' := by
  apply List.ext_getElem?
  intro j
  have hi := (List.getElem?_eq_some_iff.1 h).1
  by_cases hj : j < l.length
  · rw [offR_at (List.getElem?_eq_getElem hj), List.getElem?_set]
    by_cases e : i = j
    · subst e
      rw [if_pos rfl, if_pos (by rw [offR_len]; exact hi), hA, List.getElem?_eq_getElem hi] at *
      cases h
      rw [offR_at (List.getElem?_eq_getElem hi)] at hr
      cases hr
      simp
      split <;> simp
    · rw [if_neg e, offR_at (List.getElem?_eq_getElem hj), hA]
      have : (j + 1 == i + 1) = false := beq_eq_false_iff_ne.2 (by omega)
      rw [this, Bool.or_false]
  · rw [List.getElem?_eq_none (by rw [List.length_set, offR_len]; omega), List.getElem?_eq_none (by rw [offR_len]; omega)]
theorem Gone.mem_iff {S S' : TS} {n : Nat} {L : List Nat} (hW : WF S) (g : Gone S n L S') {k : Nat} {d : Cm} (hd : S.cm k = some d) : k ∈ L ↔ k = n ∨ d.org ∈ L := by
  constructor
  · intro h
    rcases g.sub k h with h | ⟨d', hd', ho⟩
    · exact .inl h
    · rw [hd] at hd'; cases hd'; exact .inr ho
  · rintro (rfl | h)
    · exact g.top
    · by_cases hk : k ∈ L
      · exact hk
      · exfalso
        have h1 : S'.cm k = some (dropI n d) := by rw [g.cm, if_neg hk, hd]; rfl
        obtain ⟨p, hp⟩ := g.was d.org h
        have h0 : d.org ≠ 0 := by have := (hW.pos _ p hp).1; omega
        obtain ⟨q, hq, _⟩ := g.wf.org k _ h1 h0
        have h2 : S'.cm d.org = none := by rw [g.cm, if_pos h]
        have h3 : (dropI n d).org = d.org := rfl
        rw [h3, h2] at hq
        cases hq
/-- The numbers found so far. -/
def glR (L : List Nat) (n k : Nat) : List Nat := n :: (List.range (k + 1)).filter fun j => decide (j ∈ L ∧ j ≠ n)
theorem glR_snoc (L : List Nat) (n k : Nat) : glR L n (k + 1) = glR L n k ++ (if k + 1 ∈ L ∧ k + 1 ≠ n then [k + 1] else []) := by
  unfold glR
  rw [List.range_succ, List.filter_append, List.cons_append]
  congr 2
  by_cases h : k + 1 ∈ L ∧ k + 1 ≠ n <;> simp [List.filter_cons, h]
theorem glR_mem {L : List Nat} {n k j : Nat} : j ∈ glR L n k ↔ j = n ∨ (j ≤ k ∧ j ∈ L ∧ j ≠ n) := by
  unfold glR
  rw [List.mem_cons, List.mem_filter, List.mem_range, decide_eq_true_eq]
  constructor
  · rintro (h | ⟨h1, h2⟩)
    · exact .inl h
    · exact .inr ⟨by omega, h2⟩
  · rintro (h | ⟨h1, h2⟩)
    · exact .inl h
    · exact .inr ⟨by omega, h2⟩
theorem glR_len (L : List Nat) (n k : Nat) : (glR L n k).length ≤ k + 2 := by
  unfold glR
  have := List.length_filter_le (fun j => decide (j ∈ L ∧ j ≠ n)) (List.range (k + 1))
  simp at this ⊢
  omega
theorem glR_zero {S S' : TS} {n : Nat} {L : List Nat} (hW : WF S) (g : Gone S n L S') : glR L n 0 = [n] := by
  have h0 : (0 : Nat) ∉ L := fun h => by obtain ⟨d, hd⟩ := g.was 0 h; have := (hW.pos 0 d hd).1; omega
  unfold glR
  simp [List.range_succ, h0]
theorem glR_all {S S' : TS} {n : Nat} {L : List Nat} (hW : WF S) (g : Gone S n L S') : srtI (asI L) = asI (glR L n S.last) := by
  have hasc : (glR L n S.last).Pairwise (· < ·) := by
    unfold glR
    refine List.pairwise_cons.2 ⟨fun j hj => ?_, List.Pairwise.filter _ List.pairwise_lt_range⟩
    rw [List.mem_filter, decide_eq_true_eq] at hj
    have := g.ge j hj.2.1
    omega
  refine srtI_of ((List.perm_ext_iff_of_nodup g.nodup (hasc.imp (fun h => by omega))).2 fun j => ?_) hasc
  rw [glR_mem]
  constructor
  · intro hj
    by_cases e : j = n
    · exact .inl e
    · obtain ⟨d, hd⟩ := g.was j hj
      exact .inr ⟨(hW.pos j d hd).2, hj, e⟩
  · rintro (rfl | ⟨_, h, _⟩)
    · exact g.top
    · exact h
/-- Those found when the numbers up to k have been looked at. -/
def offA (L : List Nat) (n k : Nat) : Nat → Bool := fun j => decide (j = n ∨ (j ≤ k ∧ j ∈ L))
theorem offA_one {L : List Nat} {n k : Nat} (h : k + 1 ∉ L ∨ k + 1 = n) : ∀ j, offA L n (k + 1) j = offA L n k j := by
  intro j
  unfold offA
  apply decide_eq_decide.2
  constructor
  · rintro (e | ⟨h1, h2⟩)
    · exact .inl e
    · by_cases e : j = k + 1
      · subst e
        rcases h with h | h
        · exact absurd h2 h
        · exact .inl h
      · exact .inr ⟨by omega, h2⟩
  · rintro (e | ⟨h1, h2⟩)
    · exact .inl e
    · exact .inr ⟨by omega, h2⟩
theorem offA_two {L : List Nat} {n k : Nat} (h : k + 1 ∈ L) : ∀ j, offA L n (k + 1) j = (offA L n k j || j == k + 1) := by
  intro j
  unfold offA
  rw [Bool.eq_iff_iff]
  simp only [decide_eq_true_eq, Bool.or_eq_true, beq_iff_eq]
  constructor
  · rintro (e | ⟨h1, h2⟩)
    · exact .inl (.inl e)
    · by_cases e : j = k + 1
      · exact .inr e
      · exact .inl (.inr ⟨by omega, h2⟩)
  · rintro ((e | ⟨h1, h2⟩) | e)
    · exact .inl e
    · exact .inr ⟨by omega, h2⟩
    · subst e; exact .inr ⟨Nat.le_refl _, h⟩
theorem sim_off {S S' : TS} {l : List RC} {n : Nat} {L : List Nat} (hW : WF S) (hs : Sim S l) (g : Gone S n L S') : Sim S' (offR l (offA L n S.last)) := by
  have hAL : ∀ j, j ≤ S.last → (offA L n S.last j = true ↔ j ∈ L) := fun j hj => by
    unfold offA
    rw [decide_eq_true_eq]
    constructor
    · rintro (rfl | h)
      · exact g.top
      · exact h.2
    · exact fun h => .inr ⟨hj, h⟩
  refine ⟨by rw [offR_len, hs.len, g.last], fun i r hr => ?_⟩
  have hil : i < l.length := by have := (List.getElem?_eq_some_iff.1 hr).1; rw [offR_len] at this; exact this
  rw [offR_at (List.getElem?_eq_getElem hil)] at hr
  have hcm := hs.cm i _ (List.getElem?_eq_getElem hil)
  have hlen := hs.len
  generalize l[i] = r0 at *
  have hA := hAL (i + 1) (by omega)
  by_cases hm : i + 1 ∈ L
  · rw [if_pos (hA.2 hm)] at hr
    cases hr
    exact ⟨(fun h => by cases h), fun _ => by rw [g.cm, if_pos hm]⟩
  · rw [if_neg (fun h => hm (hA.1 h))] at hr
    cases hr
    refine ⟨fun h => ?_, fun h => ?_⟩
    · obtain ⟨c, hc, q⟩ := hcm.1 h
      exact ⟨dropI n c, by rw [g.cm, if_neg hm, hc]; rfl, q⟩
    · rw [g.cm, if_neg hm, hcm.2 h]; rfl
theorem offR_name {l : List RC} {A : Nat → Bool} {b : Nat} (h : ∀ r ∈ l, r.name.length ≤ b) : ∀ r ∈ offR l A, r.name.length ≤ b := fun r hr => by
  obtain ⟨i, hi⟩ := List.mem_iff_getElem?.1 hr
  have hil : i < l.length := by have := (List.getElem?_eq_some_iff.1 hi).1; rw [offR_len] at this; exact this
  rw [offR_at (List.getElem?_eq_getElem hil)] at hi
  have hb := h l[i] (List.getElem_mem _)
  split at hi <;> (cases hi; exact hb)
/-- A command at the end. -/
theorem sim_add {S : TS} {l : List RC} (hs : Sim S l) (hW : WF S) (name : Bs) (org : Nat) : Sim (addT S name org) (l ++ [⟨name, false, true, org⟩]) := by
  have hlen := hs.len
  refine ⟨by simp [addT, hlen], fun i r hr => ?_⟩
  by_cases hi : i < l.length
  · rw [List.getElem?_append_left hi] at hr
    have hcm := hs.cm i r hr
    have e : (addT S name org).cm (i + 1) = (S.cm (i + 1)).map fun d => if i + 1 = org then { d with imp := d.imp ++ [S.last + 1] } else d := by
      show (if i + 1 = S.last + 1 then _ else _) = _
      rw [if_neg (by omega)]
    refine ⟨fun h => ?_, fun h => by rw [e, hcm.2 h]; rfl⟩
    obtain ⟨c, hc, q1, q2, q3⟩ := hcm.1 h
    refine ⟨_, by rw [e, hc]; rfl, ?_⟩
    split <;> exact ⟨q1, q2, q3⟩
  · have hi2 : i = l.length := by
      have := (List.getElem?_eq_some_iff.1 hr).1
      simp at this
      omega
    subst hi2
    simp at hr
    subst hr
    refine ⟨fun _ => ⟨⟨name, false, org, []⟩, ?_, rfl, rfl, rfl⟩, fun h => by cases h⟩
    show (if l.length + 1 = S.last + 1 then _ else _) = _
    rw [if_pos (by omega)]
/-- A command under another name. -/
theorem sim_move {S : TS} {l : List RC} (hs : Sim S l) {i : Nat} {r : RC} (hi : l[i]? = some r) (ht : r.there = true) (was now : Bool) (old new : Bs) : Sim (moveT S (i + 1) was old now new) (l.set i { r with name := new, hid := now }) := by
  refine ⟨by rw [List.length_set]; exact hs.len, fun j r' hr => ?_⟩
  have hil := (List.getElem?_eq_some_iff.1 hi).1
  have e : (moveT S (i + 1) was old now new).cm (j + 1) = (S.cm (j + 1)).map fun d => if j + 1 = i + 1 then { d with name := new, hid := now } else d := rfl
  rw [List.getElem?_set] at hr
  by_cases hij : i = j
  · subst hij
    rw [if_pos rfl, if_pos hil] at hr
    cases hr
    obtain ⟨c, hc, q1, q2, q3⟩ := (hs.cm i r hi).1 ht
    refine ⟨fun _ => ⟨{ c with name := new, hid := now }, by rw [e, hc]; simp, rfl, rfl, q3⟩, fun h => by rw [ht] at h; cases h⟩
  · rw [if_neg hij] at hr
    have hcm := hs.cm j r' hr
    refine ⟨fun h => ?_, fun h => by rw [e, hcm.2 h]; rfl⟩
    obtain ⟨c, hc, q⟩ := hcm.1 h
    exact ⟨c, by rw [e, hc]; simp [show ¬ j = i from fun h => hij h.symm], q⟩
end Go.Proofs.YtbbbenjakjejmaaGreat
namespace Go.Proofs.YtbbbenjakjejmaaGreat
set_option linter.unusedVariables false
set_option linter.unusedSimpArgs false
open Go.RowKit Go.MapKept Go.WideMaps
theorem row_one (w : World) (B : Nat) (hB : B ≤ w.heap.size) (z : Int) : (w.alloc (.cells #[.int .i64 z] 3)).ownsRow B 3 1 (.slice (some ⟨w.heap.size, 0, none⟩) 1 1) 1 [.int .i64 z] :=
  ⟨rfl, .inr ⟨w.heap.size, 1, #[.int .i64 z], rfl, hB, heap_alloc_new w _, Nat.le_refl _, by unfold maxLen; omega, rfl, rfl⟩⟩
section
variable {w : World} {B yb ep : Nat} {l : List RC} {v : Value} {S S' : TS}
theorem rgone_none (h : Rf w B yb l ep v) (hs : Sim S l) (hW : WF S) (hl : S.last ≤ 100000) {i : Int} (hi : (Lit.int .i64 i).wf = true) (hn : S.num i = none) :
    Calls Tryz.prog 46 #[.pointer (some ⟨yb, 0, none⟩), .int .i64 i] w fun e w' => e = .returned (.slice none 0 0) ∧ w = w' := by
  have TH := Lib.hid (rthere_any h hs hW hl i hi (q := false) (by rw [hn]; rfl))
  clear h hs hW
  go_enter Tryz.func46, Tryz.ntmps46
  go_wp2_with (go_at_call 47; refine TH.out.mono ?_; rintro e w2 ⟨rfl, rfl⟩)
  go_ret
  exact ⟨rfl, rfl⟩
/-- While the reference goes over its commands: what lies in memory. -/
structure Gn (w : World) (B yb : Nat) (l : List RC) (ep : Nat) (v : Value) (L : List Nat) (n k : Nat) (o : Option Addr) (c m : Nat) (wr : World) : Prop where
  rf : Rf wr B yb (offR l (offA L n k)) ep v
  stp : RStp yb v v w wr
  own : wr.ownsRow w.heap.size 3 1 (.slice o m c) m ((asI (glR L n k)).map (Value.int .i64))
  len : (glR L n k).length = m
  gl : ∀ g, v.ownBlock = some g → g < w.heap.size
  yl : yb < w.heap.size
theorem Gn.at_ {k n m c : Nat} {L : List Nat} {o : Option Addr} {wr : World} (h : Gn w B yb l ep v L n k o c m wr) {j : Nat} (hj : j < m) : ∃ b x, o = some ⟨b, 0, none⟩ ∧ (glR L n k)[j]? = some x ∧ wr.cell? ⟨b, j, none⟩ = some (.int .i64 (x : Int)) := by
  obtain ⟨g, c', e, _⟩ := row_some h.own (by omega)
  have hc := h.own
  rw [e] at hc
  have h2 := hc.cellAt j (by omega)
  have hx : (glR L n k)[j]? = some ((glR L n k)[j]'(by rw [h.len]; exact hj)) := List.getElem?_eq_getElem _
  unfold asI at h2
  rw [List.map_map, List.getElem?_map, hx] at h2
  injection e with e1 e2 e3
  exact ⟨g, _, e1, hx, by simpa using h2⟩
theorem Gn.one {k n m c : Nat} {L : List Nat} {o : Option Addr} {wr : World} (h : Gn w B yb l ep v L n k o c m wr) (hk : k + 1 ∉ L ∨ k + 1 = n) : Gn w B yb l ep v L n (k + 1) o c m wr := by
  have e : glR L n (k + 1) = glR L n k := by rw [glR_snoc, if_neg (fun ⟨a, b⟩ => hk.elim (fun h => h a) b), List.append_nil]
  refine ⟨?_, h.stp, by rw [e]; exact h.own, by rw [e]; exact h.len, h.gl, h.yl⟩
  rw [show offA L n (k + 1) = offA L n k from funext (offA_one hk)]
  exact h.rf
set_option maxRecDepth 100000 in
set_option maxHeartbeats 3200000 in
theorem rgone_any (h : Rf w B yb l ep v) (hs : Sim S l) (hW : WF S) (hl : S.last ≤ 100000) {n : Nat} {c : Cm} (hc : S.cm n = some c) {L : List Nat} (G : Gone S n L S') (hBw : B ≤ w.heap.size) :
    Calls Tryz.prog 46 #[.pointer (some ⟨yb, 0, none⟩), .int .i64 (n : Int)] w fun e w' => ∃ vo, e = .returned vo ∧ Rf w' B yb (offR l (offA L n S.last)) ep v ∧ RStp yb v v w w' ∧ w'.ownsRow w.heap.size 3 1 vo (srtI (asI L)).length ((srtI (asI L)).map (Value.int .i64)) := by
  have hnl := hW.pos n c hc
  have TH := Lib.hid (rthere_any h hs hW hl (n : Int) (nat_wf (by omega)) (q := true) (by rw [num_nat, hc]; rfl))
  have hlen := hs.len
  obtain ⟨i0, r, hni, hi, ht, hy1, hy2, hy3⟩ := hs.at_ hW hc
  clear hy1 hy2 hy3
  obtain ⟨g, cap, hv, hg, q0, q1, q2, q3, qf⟩ := h.at_ hi
  obtain ⟨c0, c1, cf⟩ := h.cells
  obtain ⟨N, hN⟩ : ∃ N, l.length = N := ⟨_, rfl⟩
  have hsub : ∀ (w2 : World), Rf w2 B yb l ep v → RStp yb v v w w2 → w2.heap.size = w.heap.size → Gn w B yb l ep v L n 0 (some ⟨w2.heap.size, 0, none⟩) 1 1 ((w2.setCell ⟨g, i0 * 4 + 2, none⟩ (.bool false)).alloc (.cells #[.int .i64 (n : Int)] 3)) := fun w2 h2 hs2 hsz => by
    subst hv
    obtain ⟨k1, k2⟩ := h2.setCell (o := none) (r' := { r with there := false }) hi 2 (.bool false) rfl (by omega)
    have hsz2 : (w2.setCell ⟨g, i0 * 4 + 2, none⟩ (.bool false)).heap.size = w2.heap.size := set_size _ _ _
    have hlow : Below (w2.setCell ⟨g, i0 * 4 + 2, none⟩ (.bool false)).heap.size (w2.setCell ⟨g, i0 * 4 + 2, none⟩ (.bool false)) ((w2.setCell ⟨g, i0 * 4 + 2, none⟩ (.bool false)).alloc (.cells #[.int .i64 (n : Int)] 3)) := (Below.refl _ _).alloc (Nat.le_refl _) _
    have ho := row_one (w2.setCell ⟨g, i0 * 4 + 2, none⟩ (.bool false)) w.heap.size (by rw [hsz2, hsz]; exact Nat.le_refl _) (n : Int)
    rw [hsz2] at ho
    refine ⟨?_, (hs2.trans k2).trans (TkStp.of_stp (Stp.of_below hlow)), ?_, ?_, fun g' hg' => (h.row_lt g' hg').2, h.lt⟩
    · have e : l.set i0 { r with there := false } = offR l (offA L n 0) := by
        apply List.ext_getElem?
        intro j
        have h00 : ∀ j : Nat, offA L n 0 (j + 1) = decide (j = i0) := fun j => decide_eq_decide.2 ⟨fun h => by rcases h with e | ⟨e, _⟩ <;> omega, fun e => .inl (by omega)⟩
        by_cases hj : j < l.length
        · rw [offR_at (List.getElem?_eq_getElem hj), List.getElem?_set, h00]
          by_cases e : i0 = j
          · subst e
            rw [if_pos rfl, if_pos hj]
            rw [List.getElem?_eq_getElem hj] at hi
            cases hi
            simp
          · rw [if_neg e, List.getElem?_eq_getElem hj]
            have : ¬ j = i0 := fun h => e h.symm
            simp [this]
        · rw [List.getElem?_eq_none (by rw [List.length_set]; omega), List.getElem?_eq_none (by rw [offR_len]; omega)]
      rw [← e]
      exact k1.low hlow
    · rw [glR_zero hW G]; exact ho
    · rw [glR_zero hW G]; rfl
  have HS := Lib.hid (hsub w h (TkStp.refl _ _ _ _) rfl)
  have HX := Lib.hid (And.intro hs (And.intro hW (And.intro G (And.intro hv (And.intro hN (And.intro hlen hnl))))))
  rw [hv, hN] at c0
  have qf2 := qf (i0 * 4 + 2)
  have hw1 : IntKind.i64.wrap ((n : Int) - 1) = (i0 : Int) := by rw [IntWalk.i64_in _ (by omega)]; omega
  have hin : i0 < N := by have := (List.getElem?_eq_some_iff.1 hi).1; omega
  have hNl : N ≤ 100000 := by omega
  have c0' := HS.out.rf.cells.1
  rw [hv, hN] at c0'
  rw [ht] at q2
  clear h hs hW hc hni hi ht hsub q0 q1 q3 qf hlen hnl hl hN hg G hBw c1 cf
  go_enter Tryz.func46, Tryz.ntmps46
  go_wp2_with (go_at_call 47; refine TH.out.mono ?_; rintro e w2 ⟨rfl, rfl⟩)
  go_loopw [5, 28] (fun vo q wr => ∃ (k : Nat) (o : Option Addr) (c m : Nat), k ≤ N ∧ q = .int .i64 (k : Int) ∧ vo = .slice o m c ∧ Gn w B yb l ep v L n k o c m wr) (fun _ q _ => N - (intOf q).toNat)
  case atStart => exact ⟨0, _, 1, 1, Nat.zero_le _, rfl, rfl, HS.out⟩
  case round =>
    obtain ⟨k, o, c, m, hk, rfl, rfl, hgn⟩ := hrel
    have HG := Lib.hid hgn
    have r0 := hgn.rf.cells.1
    rw [hv, HX.out.2.2.2.2.1] at r0
    by_cases hlt : k < N
    · have hkl : k < l.length := by have := HX.out.2.2.2.2.1; omega
      have hr : l[k]? = some l[k] := List.getElem?_eq_getElem hkl
      have hr2 := offR_at (A := offA L n k) hr
      obtain ⟨r', hr'⟩ : ∃ r', (if offA L n k (k + 1) = true then { l[k] with there := false } else l[k]) = r' := ⟨_, rfl⟩
      rw [hr'] at hr2
      have hro : r'.org = l[k].org ∧ (r'.there = true → l[k].there = true ∧ k + 1 ≠ n) ∧ (k + 1 ≠ n → r'.there = l[k].there) := by
        have h1 : offA L n k (k + 1) = decide (k + 1 = n) := decide_eq_decide.2 ⟨fun h => by rcases h with h | ⟨h, _⟩ <;> omega, fun h => .inl h⟩
        rw [← hr', h1]
        by_cases hkn : k + 1 = n
        · simp [hkn]
        · simp [hkn]
      have hcm := HX.out.1.cm k _ hr
      obtain ⟨g2, cap2, hv2, hg2, d0, d1, d2, d3, df⟩ := hgn.rf.at_ hr2
      rw [hv] at hv2
      injection hv2 with hv3 hv4 hv5
      injection hv3 with hv3
      injection hv3 with hv3 hv6 hv7
      subst hv3
      generalize l[k] = rr at *
      have HR := Lib.hid (And.intro hr (And.intro hr2 (And.intro hro (And.intro hcm hlt))))
      have i1 : k < N := hlt
      have hw2 : IntKind.i64.wrap ((k : Int) + 1) = (k : Int) + 1 := IntWalk.i64_in _ (by omega)
      have df2 := df (k * 4 + 2)
      have hml : m ≤ 100002 := by have h1 := hgn.len; have h2 := glR_len L n k; omega
      clear hr hr2 hr' hro hcm hkl hlt hk d0 d1 df hv4 hv5 hg2
      obtain ⟨rn, rh, rt, ro⟩ := r'
      simp only at d2 d3
      clear hgn
      obtain ⟨w5, rfl⟩ : ∃ q : World, q = wr := ⟨_, rfl⟩
      go_wp2_with fail
      go_loopw [5, 33] (fun vo q wq => ∃ j : Nat, j ≤ m ∧ q = .int .i64 (j : Int) ∧ vo = .slice o m c ∧ w5 = wq ∧ ∀ (j' : Nat) (x : Nat), j' < j → (glR L n k)[j']? = some x → ¬ (rt = true ∧ ro = x)) (fun _ q _ => m - (intOf q).toNat)
      case atStart => exact ⟨0, Nat.zero_le _, rfl, rfl, rfl, fun j' x hj => by omega⟩
      case round =>
        obtain ⟨j, hj, rfl, rfl, rfl, hno⟩ := hrel
        by_cases hjl : j < m
        · obtain ⟨b, x, rfl, hx, hcx⟩ := HG.out.at_ hjl
          have j1 : j < m := hjl
          have hw3 : IntKind.i64.wrap ((j : Int) + 1) = (j : Int) + 1 := IntWalk.i64_in _ (by omega)
          have HJ := Lib.hid (And.intro hjl (And.intro hno hx))
          clear hjl hno hx hj
          cases rt with
          | false =>
            go_wp2_with fail
            exact ⟨⟨j + 1, by have := HJ.out.1; omega, by go_num, rfl, trivial, fun j' x hj hx hh => by simp at hh⟩, by have := HJ.out.1; simp [intOf]; omega⟩
          | true =>
            by_cases hrx : ro = x
            · subst hrx
              have b1 : ((ro : Int) == (ro : Int)) = true := by simp
              have hkL : k + 1 ∈ L := by
                obtain ⟨q1, q2⟩ := HR.out.2.2.1.2.1 rfl
                obtain ⟨d, hd, _, _, hdo⟩ := HR.out.2.2.2.1.1 q1
                refine (HX.out.2.2.1.mem_iff HX.out.2.1 hd).2 (.inr ?_)
                rw [hdo, ← HR.out.2.2.1.1]
                rcases glR_mem.1 (List.mem_of_getElem? HJ.out.2.2) with h | h
                · rw [h]; exact HX.out.2.2.1.top
                · exact h.2.1
              have hkn : k + 1 ≠ n := (HR.out.2.2.1.2.1 rfl).2
              have hgl : glR L n (k + 1) = glR L n k ++ [k + 1] := by rw [glR_snoc, if_pos ⟨hkL, hkn⟩]
              have hrf := HG.out.rf
              have hgv : v.ownBlock = some g := by rw [hv]; rfl
              have hbw : w.heap.size ≤ b := by
                have h1 := row_ids HG.out.own b rfl
                exact h1.1
              have hbg : b ≠ g := fun e => by have := HG.out.gl g hgv; omega
              have hby : b ≠ yb := fun e => by have := HG.out.yl; omega
              have hset : Rf (w5.setCell ⟨g, k * 4 + 2, none⟩ (.bool false)) B yb (offR l (offA L n (k + 1))) ep v ∧ RStp yb v v w (w5.setCell ⟨g, k * 4 + 2, none⟩ (.bool false)) := by
                have h1 := HG.out.stp
                subst hv
                obtain ⟨k1, k2⟩ := hrf.setCell (o := none) (r' := ⟨rn, rh, false, ro⟩) HR.out.2.1 2 (.bool false) rfl (by omega)
                rw [offR_set HR.out.1 HR.out.2.1 (offA_two hkL)] at k1
                exact ⟨k1, h1.trans k2⟩
              have hown6 : (w5.setCell ⟨g, k * 4 + 2, none⟩ (.bool false)).ownsRow w.heap.size 3 1 (.slice (some ⟨b, 0, none⟩) m c) m ((asI (glR L n k)).map (Value.int .i64)) := row_keep HG.out.own (fun g' hg' => by
                simp [Value.ownBlock] at hg'
                subst hg'
                exact set_other w5 _ hbg)
              have hsz6 : (w5.setCell ⟨g, k * 4 + 2, none⟩ (.bool false)).heap.size = w5.heap.size := set_size _ _ _
              have hbase : w.heap.size ≤ (w5.setCell ⟨g, k * 4 + 2, none⟩ (.bool false)).heap.size := hset.2.size
              have HM : Hid (∀ w3 g1 c1, w3.ownsRow w.heap.size 3 1 (.slice (some ⟨g1, 0, none⟩) (m + 1) c1) (m + 1) ((asI (glR L n k)).map (Value.int .i64) ++ [.int .i64 ((k : Int) + 1)]) → Kp [b] (w5.setCell ⟨g, k * 4 + 2, none⟩ (.bool false)) w3 → Gn w B yb l ep v L n (k + 1) (some ⟨g1, 0, none⟩) c1 (m + 1) w3) := fun w3 g1 c1 ho hk3 => by
                refine ⟨hset.1.keep (hk3.block yb (by rw [hsz6]; exact hrf.lt) (by simpa using hby.symm)) (fun g' hg' => hk3.block g' (by rw [hsz6]; exact (hrf.row_lt g' hg').2) (by rw [hgv] at hg'; cases hg'; simpa using hbg.symm)), ?_, ?_, ?_, HG.out.gl, HG.out.yl⟩
                · have h1 := hset.2
                  exact ⟨hk3.os.trans h1.os, hk3.tape.trans h1.tape, hk3.output.trans h1.output, Nat.le_trans h1.size hk3.size, fun j' hj' a1 a2 a3 => (hk3.block j' (Nat.lt_of_lt_of_le hj' h1.size) (by simp; omega)).trans (h1.block j' hj' a1 a2 a3), .inl rfl⟩
                · rw [hgl]
                  simpa [asI] using ho
                · rw [hgl, List.length_append, HG.out.len]; rfl
              have HL := Lib.hid (And.intro hown6 hbase)
              have HK := Lib.hid HR.out.2.2.2.2
              clear hkL hkn hgl hrf hgv hbw hbg hby hset hown6 hbase HJ
              go_wp2_with (at_builtin; (refine wpList_push1 rfl (.tmp 64) (.tmp 67) 32 rfl w.heap.size 3 (.int .i64 0) 8 Tryz.underlying32 infoInt rfl (.slice (some ⟨b, 0, none⟩) m c) m _ rfl HL.out.1 (.int .i64 ((k : Int) + 1)) _ rfl (by first | rfl | (rw [hsz6]; rfl)) rfl (by unfold maxLen; omega) (by omega) HL.out.2 ?_); intro g1 c1 w3 hg1 hown3 hk3 hloc; have H3 := Lib.hid (HM.out w3 g1 c1 hown3 hk3); clear hg1 hown3 hk3 hloc)
              exact ⟨⟨k + 1, _, c1, m + 1, by have := HK.out; omega, by go_num, rfl, H3.out⟩, by have := HK.out; simp [intOf]; omega⟩
            · have b1 : ((ro : Int) == (x : Int)) = false := beq_eq_false_iff_ne.2 (by omega)
              have b2 : ¬ ro = x := hrx
              go_wp2_with fail
              exact ⟨⟨j + 1, by have := HJ.out.1; omega, by go_num, rfl, trivial, fun j' x' hj hx hh => by
                rcases Nat.lt_succ_iff_lt_or_eq.1 hj with h | rfl
                · exact HJ.out.2.1 j' x' h hx ⟨rfl, hh.2⟩
                · rw [HJ.out.2.2] at hx; cases hx; exact b2 hh.2⟩, by have := HJ.out.1; simp [intOf]; omega⟩
        · obtain rfl : j = m := by omega
          have j1 : decide ((j : Int) < (j : Int)) = false := by rw [decide_eq_false_iff_not]; omega
          have HJ := Lib.hid hno
          clear hjl hno hj
          go_wp2_with fail
          have hkL : k + 1 ∉ L ∨ k + 1 = n := by
            by_cases hkn : k + 1 = n
            · exact .inr hkn
            · refine .inl fun hL => ?_
              obtain ⟨d, hd⟩ := HX.out.2.2.1.was _ hL
              cases hth : rr.there with
              | false => have := HR.out.2.2.2.1.2 hth; rw [hd] at this; cases this
              | true =>
                have hrt : rt = true := (HR.out.2.2.1.2.2 hkn).trans hth
                obtain ⟨d', hd', _, _, hdo⟩ := HR.out.2.2.2.1.1 hth
                rw [hd] at hd'
                cases hd'
                rcases (HX.out.2.2.1.mem_iff HX.out.2.1 hd).1 hL with h | h
                · exact hkn h
                · have hne : d.org ≠ 0 := by
                    obtain ⟨p, hp⟩ := HX.out.2.2.1.was _ h
                    have := (HX.out.2.1.pos _ p hp).1
                    omega
                  obtain ⟨p, _, _, hlt⟩ := HX.out.2.1.org _ d hd hne
                  have hm2 : d.org ∈ glR L n k := glR_mem.2 (by by_cases e : d.org = n; exact .inl e; exact .inr ⟨by omega, h, e⟩)
                  obtain ⟨j', hj'⟩ := List.mem_iff_getElem?.1 hm2
                  have hl2 := (List.getElem?_eq_some_iff.1 hj').1
                  rw [HG.out.len] at hl2
                  exact HJ.out j' _ hl2 hj' ⟨hrt, HR.out.2.2.1.1.trans hdo.symm⟩
          exact ⟨⟨k + 1, _, _, _, by have := HR.out.2.2.2.2; omega, by go_num, rfl, HG.out.one hkL⟩, by have := HR.out.2.2.2.2; simp [intOf]; omega⟩
    · obtain rfl : k = N := by omega
      have i1 : decide ((k : Int) < (k : Int)) = false := by rw [decide_eq_false_iff_not]; omega
      clear hgn hk hlt
      go_wp2_with fail
      go_ret
      have hal := glR_all HX.out.2.1 HX.out.2.2.1
      have hkl : k = S.last := HX.out.2.2.2.2.1.symm.trans HX.out.2.2.2.2.2.1
      rw [hal, ← hkl]
      refine ⟨_, rfl, HG.out.rf, HG.out.stp, ?_⟩
      rw [asI_len, HG.out.len]
      exact HG.out.own
end
end Go.Proofs.YtbbbenjakjejmaaGreat
namespace Go.Proofs.YtbbbenjakjejmaaGreat
set_option linter.unusedVariables false
set_option linter.unusedSimpArgs false
open Go.RowKit Go.MapKept Go.WideMaps
theorem sim_epoch {S : TS} {l : List RC} (h : Sim S l) (e : Nat) : Sim { S with epoch := e } l := ⟨h.len, h.cm⟩
theorem row_nil0 (w : World) (B : Nat) : w.ownsRow B 3 1 (.slice none 0 0) (srtI (asI [])).length ((srtI (asI [])).map (Value.int .i64)) := by
  have e : srtI (asI []) = [] := by simp [asI, srtI]
  rw [e]
  exact ⟨rfl, .inl ⟨rfl, rfl⟩⟩
/-- But for the reference's kinds of blocks all stays. -/
structure KR (w w' : World) : Prop where
  os : w'.os = w.os
  tape : w'.tape = w.tape
  output : w'.output = w.output
  size : w.heap.size ≤ w'.heap.size
  block : ∀ (j : Nat) (cs : Array Value) (ty : TypeId) (f : Nat × Nat), w.heap[j]? = some (.cells cs ty f) → ty ≠ 49 → ty ≠ 68 → w'.heap[j]? = w.heap[j]?
theorem KR.refl (w : World) : KR w w := ⟨rfl, rfl, rfl, Nat.le_refl _, fun _ _ _ _ _ _ _ => rfl⟩
theorem KR.trans {w w1 w2 : World} (h : KR w w1) (k : KR w1 w2) : KR w w2 :=
  ⟨k.os.trans h.os, k.tape.trans h.tape, k.output.trans h.output, Nat.le_trans h.size k.size, fun j cs ty f hj h1 h2 => by
    have e := h.block j cs ty f hj h1 h2
    exact (k.block j cs ty f (e.trans hj) h1 h2).trans e⟩
theorem KR.of_below {w w' : World} (h : Below w.heap.size w w') : KR w w' := ⟨h.os, h.tape, h.output, h.size, fun j cs ty f hj _ _ => h.block j (Array.getElem?_eq_some_iff.1 hj).1⟩
theorem KR.row {w w' : World} (h : KR w w') {B n : Nat} {u : Value} {xs : List Value} (hr : w.ownsRow B 3 1 u n xs) : w'.ownsRow B 3 1 u n xs :=
  row_keep hr (fun g hg => by
    obtain ⟨_, cur, hc⟩ := ownsRow_type hr g hg
    exact h.block g cur _ _ hc (by decide) (by decide))
theorem own4_type {w : World} {B : Nat} {e : TypeId} {v : Value} {n : Nat} {xs : List Value} (h : w.ownsRow B e 4 v n xs) : ∀ b, v.ownBlock = some b → B ≤ b ∧ ∃ cur, w.heap[b]? = some (.cells cur e (0, 0)) := by
  intro b hb
  rcases h.2 with ⟨rfl, _⟩ | ⟨g, cap, cur, rfl, hB, hg, _⟩
  · simp [Value.ownBlock] at hb
  · simp [Value.ownBlock] at hb; subst hb; exact ⟨hB, cur, hg⟩
section
variable {w w' : World} {B yb ep : Nat} {l : List RC} {v v' : Value}
theorem Rf.kr (h : Rf w B yb l ep v) (hs : RStp yb v v' w w') : KR w w' :=
  ⟨hs.os, hs.tape, hs.output, hs.size, fun j cs ty f hj h1 h2 => hs.block j (Array.getElem?_eq_some_iff.1 hj).1 rfl (fun e => by
    subst e
    rw [h.cel] at hj
    simp only [Option.some.injEq, Obj.cells.injEq] at hj
    exact h1 hj.2.1.symm) (fun e => by
    obtain ⟨_, cur, hc⟩ := own4_type h.own j e
    rw [hj] at hc
    simp only [Option.some.injEq, Obj.cells.injEq] at hc
    exact h2 hc.2.1)⟩
theorem Rf.below (h : Rf w B yb l ep v) (hs : RStp yb v v' w w') (hB : B ≤ w.heap.size) : Below B w w' :=
  ⟨hs.os, hs.tape, hs.output, hs.size, fun j hj => hs.block j (by omega) rfl (by have := h.lo; omega) (fun e => by have := (h.row_lt j e).1; omega)⟩
end
/-- Both tables: the program's is S, the reference's is R. -/
structure Tw (w : World) (B tb mn mh mk yb : Nat) (who : Own) (cb : Nat → Nat) (S R : TS) : Prop where
  tb : Tb w B tb mn mh mk who cb S
  wf : WF S
  wr : WF R
  wy : who yb = none
  ex : ∃ l v, Rf w B yb l R.epoch v ∧ Sim R l ∧ (∀ r ∈ l, r.name.length ≤ 100000) ∧ ∀ g, v.ownBlock = some g → who g = none
section
variable {w w' : World} {B tb mn mh mk yb : Nat} {who who' : Own} {cb cb' : Nat → Nat} {S S' R R' : TS}
theorem Tw.low (h : Tw w B tb mn mh mk yb who cb S R) (hb : Below w.heap.size w w') : Tw w' B tb mn mh mk yb who cb S R := by
  obtain ⟨l, v, h1, h2, h3, h4⟩ := h.ex
  exact ⟨h.tb.low hb, h.wf, h.wr, h.wy, l, v, h1.low hb, h2, h3, h4⟩
/-- A step of the program's table. -/
theorem Tw.tab (h : Tw w B tb mn mh mk yb who cb S R) (hs : Stp who who' w w') (hT : Tb w' B tb mn mh mk who' cb' S') (hW : WF S') : Tw w' B tb mn mh mk yb who' cb' S' R := by
  obtain ⟨l, v, h1, h2, h3, h4⟩ := h.ex
  have hlt := h1.lt
  refine ⟨hT, hW, h.wr, by rw [hs.ext yb hlt]; exact h.wy, l, v, h1.keep (hs.fr.block yb hlt h.wy) (fun g hg => hs.fr.block g (h1.row_lt g hg).2 (h4 g hg)), h2, h3, fun g hg => ?_⟩
  rw [hs.ext g (h1.row_lt g hg).2]
  exact h4 g hg
/-- A step of the reference's table. -/
theorem Tw.ref (h : Tw w B tb mn mh mk yb who cb S R) {l l' : List RC} {v v' : Value} (h1 : Rf w B yb l R.epoch v) (h4 : ∀ g, v.ownBlock = some g → who g = none) (hs : RStp yb v v' w w') (h1' : Rf w' B yb l' R'.epoch v') (h2' : Sim R' l') (h3' : ∀ r ∈ l', r.name.length ≤ 100000) (hR : WF R') : Tw w' B tb mn mh mk yb who cb S R' := by
  refine ⟨h.tb.keep hs.size (fun j hj => hs.block j (h.tb.lo j hj).2 rfl (fun e => hj (e ▸ h.wy)) (fun e => hj (h4 j e))), h.wf, hR, h.wy, l', v', h1', h2', h3', fun g hg => ?_⟩
  rcases hs.row with e | ⟨g', e, hg'⟩
  · rw [e] at hg; exact h4 g hg
  · rw [e] at hg; cases hg; exact h.tb.none_at hg'
end
end Go.Proofs.YtbbbenjakjejmaaGreat
namespace Go.Proofs.YtbbbenjakjejmaaGreat
set_option linter.unusedVariables false
set_option linter.unusedSimpArgs false
open Go.RowKit Go.MapKept Go.WideMaps
theorem infoRC : (Tryz.prog.info? 68).map (fun i => (i.zero, i.size, i.bytes)) = some (some (.agg #[.string ⟨#[]⟩, .bool false, .bool false, .int .i64 0]), 4, 32) := by kernel_rfl
section
variable {w w1 w3 : World} {B yb ep : Nat} {l l1 : List RC} {v : Value} {S S1 S' : TS} {L : List Nat} {name : Bs} {org : Nat}
/-- What a call that makes a command leaves of the reference's table. -/
def AddQ (w : World) (B yb ep : Nat) (v : Value) (S' : TS) (L : List Nat) (vo : Value) (w' : World) : Prop :=
  ∃ l' v', Rf w' B yb l' (ep + 1) v' ∧ RStp yb v v' w w' ∧ Sim S' l' ∧ (∀ r ∈ l', r.name.length ≤ 100000) ∧ w'.ownsRow w.heap.size 3 1 vo (srtI (asI L)).length ((srtI (asI L)).map (Value.int .i64))
/-- What 'gone' leaves ahead of the new command. -/
structure GoneQ (w : World) (B yb ep : Nat) (v : Value) (name : Bs) (org : Nat) (S S' : TS) (L : List Nat) (vo : Value) (l1 : List RC) (S1 : TS) (w1 : World) : Prop where
  rf : Rf w1 B yb l1 ep v
  stp : RStp yb v v w w1
  sim : Sim S1 l1
  wf : WF S1
  nml : ∀ r ∈ l1, r.name.length ≤ 100000
  eq : S' = addT S1 name org
  last : S1.last = S.last
  row : w1.ownsRow w.heap.size 3 1 vo (srtI (asI L)).length ((srtI (asI L)).map (Value.int .i64))
theorem rgone_add (h : Rf w B yb l ep v) (hs : Sim S l) (hW : WF S) (hl : S.last ≤ 100000) (hn : ∀ r ∈ l, r.name.length ≤ 100000) (hBw : B ≤ w.heap.size) (hA : AddR S name org S' L) {q : Nat} (hq : (S.nm false name).getD 0 = q) :
    Calls Tryz.prog 46 #[.pointer (some ⟨yb, 0, none⟩), .int .i64 (q : Int)] w fun e w1 => ∃ vo l1 S1, e = .returned vo ∧ GoneQ w B yb ep v name org S S' L vo l1 S1 w1 := by
  rcases hA with ⟨h1, rfl, rfl⟩ | ⟨n, S1, h1, g, rfl⟩
  · rw [h1] at hq
    simp only [Option.getD_none] at hq
    subst hq
    refine (rgone_none h hs hW hl (i := ((0 : Nat) : Int)) (by decide) (num_neg (by omega) hW)).mono ?_
    rintro e w1 ⟨rfl, rfl⟩
    exact ⟨_, l, S, rfl, h, TkStp.refl _ _ _ _, hs, hW, hn, rfl, rfl, row_nil0 _ _⟩
  · rw [h1] at hq
    simp only [Option.getD_some] at hq
    subst hq
    obtain ⟨c, hc, _⟩ := (hW.names _ _ _).1 h1
    refine (rgone_any h hs hW hl hc g hBw).mono ?_
    rintro e w1 ⟨vo, rfl, hr, hst, ho⟩
    exact ⟨vo, _, S1, rfl, hr, hst, sim_off hW hs g, g.wf, offR_name hn, rfl, g.last, ho⟩
theorem GoneQ.from_ {W : World} {vo : Value} (H : GoneQ W B yb ep v name org S S' L vo l1 S1 w1) (hb : Below w.heap.size w W) : GoneQ w B yb ep v name org S S' L vo l1 S1 w1 :=
  ⟨H.rf, (TkStp.of_stp (Stp.of_below hb)).trans H.stp, H.sim, H.wf, H.nml, H.eq, H.last, row_base H.row hb.size⟩
theorem radd_fin {vo : Value} (H : GoneQ w B yb ep v name org S S' L vo l1 S1 w1) (hnl : name.length ≤ 100000) {g n c : Nat} (hk : Kp v.ownBlock.toList w1 w3) (hl : v.ownBlock = some g ∨ w1.heap.size ≤ g)
    (ho : w3.ownsRow B 68 4 (.slice (some ⟨g, 0, none⟩) n c) n (rcs l1 ++ [.string ⟨name.toArray⟩, .bool false, .bool true, .int .i64 (org : Int)])) (hn : l1.length + 1 = n) {e1 : Int} (he : e1 = ((ep + 1 : Nat) : Int)) :
    AddQ w B yb ep v S' L vo ((w3.setCell ⟨yb, 0, none⟩ (.slice (some ⟨g, 0, none⟩) n c)).setCell ⟨yb, 1, none⟩ (.int .i64 e1)) := by
  subst he
  obtain ⟨p1, p2⟩ := H.rf.push ⟨name, false, true, org⟩ hk hl (by rw [rcs_snoc]; exact ho) hn
  obtain ⟨p3, p4⟩ := p1.setEp (ep + 1)
  have hst := p2.trans p4
  refine ⟨_, _, p3, H.stp.trans hst, by rw [H.eq]; exact sim_add H.sim H.wf name org, fun r hr => ?_, (H.rf.kr hst).row H.row⟩
  rcases List.mem_append.1 hr with hr | hr
  · exact H.nml r hr
  · simp at hr; subst hr; exact hnl
/-- Ahead of the push: cells and so on. -/
theorem GoneQ.at_ {vo : Value} (H : GoneQ w B yb ep v name org S S' L vo l1 S1 w1) (hs : Sim S l) : ∃ o c, v = .slice o l.length c ∧ w1.cell? ⟨yb, 0, none⟩ = some (.slice o l.length c) ∧ l1.length = l.length ∧ w1.ownsRow B 68 4 (.slice o l.length c) l.length (rcs l1) := by
  have e : l1.length = l.length := by rw [H.sim.len, H.last, hs.len]
  obtain ⟨o, c, hv⟩ := H.rf.shape
  have h0 := H.rf.cells.1
  have h1 := H.rf.own
  rw [hv] at h0 h1
  rw [e] at hv h0 h1
  exact ⟨o, c, hv, h0, e, h1⟩
set_option maxRecDepth 100000 in
set_option maxHeartbeats 1600000 in
theorem rDefine_any (h : Rf w B yb l ep v) (hs : Sim S l) (hW : WF S) (hl : S.last ≤ 100000) (hn : ∀ r ∈ l, r.name.length ≤ 100000) (hep : ep ≤ 100000) (hBw : B ≤ w.heap.size) (hnl : name.length ≤ 100000) (hA : AddR S name 0 S' L) :
    Calls Tryz.prog 15 #[.pointer (some ⟨yb, 0, none⟩), .string ⟨name.toArray⟩] w fun e w' => ∃ vo, e = .returned (.tuple #[.int .i64 (S'.last : Int), vo]) ∧ AddQ w B yb ep v S' L vo w' := by
  obtain ⟨q, hq⟩ : ∃ q, (S.nm false name).getD 0 = q := ⟨_, rfl⟩
  have FI := Lib.hid (rFind_any h hs hW hl name hq)
  have GN : Hid (∀ W, Below w.heap.size w W → Calls Tryz.prog 46 #[.pointer (some ⟨yb, 0, none⟩), .int .i64 (q : Int)] W fun e w1 => ∃ vo l1 S1, e = .returned vo ∧ GoneQ w B yb ep v name 0 S S' L vo l1 S1 w1) := fun W hb => (rgone_add (h.low hb) hs hW hl hn (Nat.le_trans hBw hb.size) hA hq).mono fun e w1 ⟨vo, l1, S1, he, hg⟩ => ⟨vo, l1, S1, he, hg.from_ hb⟩
  obtain ⟨vo0, vc0, hv⟩ := h.shape
  have hlen := hs.len
  obtain ⟨N, hN⟩ : ∃ N, l.length = N := ⟨_, rfl⟩
  have HP : Hid (∀ vo l1 S1 w1, GoneQ w B yb ep v name 0 S S' L vo l1 S1 w1 → w1.cell? ⟨yb, 0, none⟩ = some (.slice vo0 N vc0) ∧ B ≤ w1.heap.size ∧ w1.ownsRow B 68 4 (.slice vo0 N vc0) N (rcs l1)) := fun vo l1 S1 w1 H => by
    obtain ⟨o, c, e, h0, _, h1⟩ := H.at_ hs
    rw [hv] at e
    cases e
    rw [hN] at h0 h1
    exact ⟨h0, Nat.le_trans hBw H.stp.size, h1⟩
  have HC : Hid (∀ w1 w4 vo l1 S1 (g : Nat), GoneQ w B yb ep v name 0 S S' L vo l1 S1 w1 → Kp (Value.slice vo0 N vc0).ownBlock.toList w1 w4 → ((Value.slice vo0 N vc0).ownBlock = some g ∨ w1.heap.size ≤ g) → w4.frozen? ⟨yb, 0, none⟩ = false ∧ w4.frozen? ⟨yb, 1, none⟩ = false ∧ w4.cell? ⟨yb, 1, none⟩ = some (.int .i64 (ep : Int)) ∧ w4.cell? ⟨yb, 0, none⟩ = some (.slice vo0 N vc0)) := fun w1 w4 vo l1 S1 g H hk _ => by
    rw [← hN, ← hv] at hk
    have h4 := H.rf.keep (hk.block yb H.rf.lt (fun hm => H.rf.ne (by simpa using hm))) 
    have e4 := (hk.block yb H.rf.lt (fun hm => H.rf.ne (by simpa using hm))).trans H.rf.cel
    rw [hv, hN] at e4
    refine ⟨by simp [World.frozen?, e4], by simp [World.frozen?, e4], by simp [World.cell?, e4], by simp [World.cell?, e4]⟩
  have FIN : Hid (∀ w1 w4 vo l1 S1 (g c : Nat) (e1 : Int), GoneQ w B yb ep v name 0 S S' L vo l1 S1 w1 → Kp (Value.slice vo0 N vc0).ownBlock.toList w1 w4 → ((Value.slice vo0 N vc0).ownBlock = some g ∨ w1.heap.size ≤ g) → w4.ownsRow B 68 4 (.slice (some ⟨g, 0, none⟩) (N + 1) c) (N + 1) (rcs l1 ++ [.string ⟨name.toArray⟩, .bool false, .bool true, .int .i64 0]) → e1 = ((ep + 1 : Nat) : Int) → AddQ w B yb ep v S' L vo ((w4.setCell ⟨yb, 0, none⟩ (.slice (some ⟨g, 0, none⟩) (N + 1) c)).setCell ⟨yb, 1, none⟩ (.int .i64 e1))) := fun w1 w4 vo l1 S1 g c e1 H hk hl ho he => by
    rw [← hN, ← hv] at hk hl
    obtain ⟨_, _, _, _, e, _⟩ := H.at_ hs
    exact radd_fin H hnl hk hl (by simpa using ho) (by rw [e, hN]) he
  have hNl : N ≤ 100000 := by omega
  have hlS : Hid (∀ S1, S' = addT S1 name 0 → S1.last = S.last → ((N + 1 : Nat) : Int) = (S'.last : Int)) := fun S1 e1 e2 => by
    rw [e1]
    show ((N + 1 : Nat) : Int) = ((S1.last + 1 : Nat) : Int)
    rw [e2, ← hlen, hN]
  have hw1 : IntKind.i64.wrap ((ep : Int) + 1) = (ep : Int) + 1 := IntWalk.i64_in _ (by omega)
  clear h hs hW hl hn hA hBw hep hnl hlen hN hv hq
  go_enter Tryz.func15, Tryz.ntmps15
  go_wp2_with (first
    | (go_at_call 30; refine FI.out.mono ?_; rintro e w2 ⟨rfl, hB⟩; have HB := Lib.hid hB; clear hB)
    | (go_at_call 46; refine (GN.out _ HB.out).mono ?_; rintro e w1 ⟨vo, l1, S1, rfl, hg⟩; obtain ⟨e1, e2⟩ := HP.out vo l1 S1 w1 hg; have HG := Lib.hid (And.intro hg e2); clear hg e2)
    | (at_builtin; go_loud (refine wpList_pushK1 rfl (.tmp 18) (.tmp 21) 47 rfl B 68 (.agg #[.string ⟨#[]⟩, .bool false, .bool false, .int .i64 0]) 4 32 Tryz.underlying47 infoRC rfl (by decide) (.slice vo0 N vc0) N _ rfl HG.out.2.2 [.string ⟨name.toArray⟩, .bool false, .bool true, .int .i64 0] rfl _ rfl rfl rfl (by unfold maxLen; omega) (by omega) HG.out.2.1 ?_); intro g c4 w4 hg4 hr4 hk4 hl4; obtain ⟨x0, x1, x2, x3⟩ := HC.out w1 w4 vo l1 S1 g HG.out.1 hk4 hl4; have H4 := Lib.hid (And.intro hk4 (And.intro hl4 hr4)); clear hg4 hr4 hk4 hl4))
  go_ret2
  exact ⟨_, by rw [← hlS.out S1 HG.out.1.eq HG.out.1.last]; rfl, FIN.out w1 w4 vo l1 S1 g c4 _ HG.out.1 H4.out.1 H4.out.2.1 H4.out.2.2 (by omega)⟩
set_option maxRecDepth 100000 in
set_option maxHeartbeats 1600000 in
theorem rImport_any (h : Rf w B yb l ep v) (hs : Sim S l) (hW : WF S) (hl : S.last ≤ 100000) (hn : ∀ r ∈ l, r.name.length ≤ 100000) (hep : ep ≤ 100000) (hBw : B ≤ w.heap.size) (hnl : name.length ≤ 100000) (hcm : ∃ d, S.cm org = some d) (hO : OrgOk S name org) (hA : AddR S name org S' L) :
    Calls Tryz.prog 17 #[.pointer (some ⟨yb, 0, none⟩), .string ⟨name.toArray⟩, .int .i64 (org : Int)] w fun e w' => ∃ vo, e = .returned (.tuple #[.int .i64 (S'.last : Int), vo, .int .i64 0]) ∧ AddQ w B yb ep v S' L vo w' := by
  obtain ⟨d, hd⟩ := hcm
  have hop := hW.pos org d hd
  obtain ⟨q, hq⟩ : ∃ q, (S.nm false name).getD 0 = q := ⟨_, rfl⟩
  have TH := Lib.hid (rthere_any h hs hW hl (org : Int) (nat_wf (by omega)) (q := true) (by rw [num_nat, hd]; rfl))
  have FI := Lib.hid (rFind_any h hs hW hl name hq)
  have GN : Hid (∀ W, Below w.heap.size w W → Calls Tryz.prog 46 #[.pointer (some ⟨yb, 0, none⟩), .int .i64 (q : Int)] W fun e w1 => ∃ vo l1 S1, e = .returned vo ∧ GoneQ w B yb ep v name org S S' L vo l1 S1 w1) := fun W hb => (rgone_add (h.low hb) hs hW hl hn (Nat.le_trans hBw hb.size) hA hq).mono fun e w1 ⟨vo, l1, S1, he, hg⟩ => ⟨vo, l1, S1, he, hg.from_ hb⟩
  have LE : Hid (0 < q → ∀ W, Below w.heap.size w W → Calls Tryz.prog 48 #[.pointer (some ⟨yb, 0, none⟩), .int .i64 (org : Int), .int .i64 (q : Int)] W fun e w' => e = .returned (.bool false) ∧ W = w') := fun h0 W hb => (rleads_any (h.low hb) hs hW hl hd q h0).mono fun e w' ⟨b, he, hu, hw⟩ => by
    refine ⟨?_, hw⟩
    cases hnm : S.nm false name with
    | none => rw [hnm] at hq; simp at hq; omega
    | some n =>
      rw [hnm] at hq
      simp only [Option.getD_some] at hq
      subst hq
      rcases hO with h1 | ⟨_, h1⟩
      · omega
      · cases b with
        | false => exact he
        | true => exact absurd (hu.1 rfl) (h1 n hnm)
  obtain ⟨vo0, vc0, hv⟩ := h.shape
  have hlen := hs.len
  obtain ⟨N, hN⟩ : ∃ N, l.length = N := ⟨_, rfl⟩
  have HP : Hid (∀ vo l1 S1 w1, GoneQ w B yb ep v name org S S' L vo l1 S1 w1 → w1.cell? ⟨yb, 0, none⟩ = some (.slice vo0 N vc0) ∧ B ≤ w1.heap.size ∧ w1.ownsRow B 68 4 (.slice vo0 N vc0) N (rcs l1)) := fun vo l1 S1 w1 H => by
    obtain ⟨o, c, e, h0, _, h1⟩ := H.at_ hs
    rw [hv] at e
    cases e
    rw [hN] at h0 h1
    exact ⟨h0, Nat.le_trans hBw H.stp.size, h1⟩
  have HC : Hid (∀ w1 w4 vo l1 S1 (g : Nat), GoneQ w B yb ep v name org S S' L vo l1 S1 w1 → Kp (Value.slice vo0 N vc0).ownBlock.toList w1 w4 → ((Value.slice vo0 N vc0).ownBlock = some g ∨ w1.heap.size ≤ g) → w4.frozen? ⟨yb, 0, none⟩ = false ∧ w4.frozen? ⟨yb, 1, none⟩ = false ∧ w4.cell? ⟨yb, 1, none⟩ = some (.int .i64 (ep : Int)) ∧ w4.cell? ⟨yb, 0, none⟩ = some (.slice vo0 N vc0)) := fun w1 w4 vo l1 S1 g H hk _ => by
    rw [← hN, ← hv] at hk
    have h4 := H.rf.keep (hk.block yb H.rf.lt (fun hm => H.rf.ne (by simpa using hm))) 
    have e4 := (hk.block yb H.rf.lt (fun hm => H.rf.ne (by simpa using hm))).trans H.rf.cel
    rw [hv, hN] at e4
    refine ⟨by simp [World.frozen?, e4], by simp [World.frozen?, e4], by simp [World.cell?, e4], by simp [World.cell?, e4]⟩
  have FIN : Hid (∀ w1 w4 vo l1 S1 (g c : Nat) (e1 : Int), GoneQ w B yb ep v name org S S' L vo l1 S1 w1 → Kp (Value.slice vo0 N vc0).ownBlock.toList w1 w4 → ((Value.slice vo0 N vc0).ownBlock = some g ∨ w1.heap.size ≤ g) → w4.ownsRow B 68 4 (.slice (some ⟨g, 0, none⟩) (N + 1) c) (N + 1) (rcs l1 ++ [.string ⟨name.toArray⟩, .bool false, .bool true, .int .i64 (org : Int)]) → e1 = ((ep + 1 : Nat) : Int) → AddQ w B yb ep v S' L vo ((w4.setCell ⟨yb, 0, none⟩ (.slice (some ⟨g, 0, none⟩) (N + 1) c)).setCell ⟨yb, 1, none⟩ (.int .i64 e1))) := fun w1 w4 vo l1 S1 g c e1 H hk hl ho he => by
    rw [← hN, ← hv] at hk hl
    obtain ⟨_, _, _, _, e, _⟩ := H.at_ hs
    exact radd_fin H hnl hk hl (by simpa using ho) (by rw [e, hN]) he
  have hNl : N ≤ 100000 := by omega
  have hlS : Hid (∀ S1, S' = addT S1 name org → S1.last = S.last → ((N + 1 : Nat) : Int) = (S'.last : Int)) := fun S1 e1 e2 => by
    rw [e1]
    show ((N + 1 : Nat) : Int) = ((S1.last + 1 : Nat) : Int)
    rw [e2, ← hlen, hN]
  have hw1 : IntKind.i64.wrap ((ep : Int) + 1) = (ep : Int) + 1 := IntWalk.i64_in _ (by omega)
  clear h hs hW hl hn hA hBw hep hnl hlen hN hv hq hd hO hop
  by_cases hq0 : q = 0
  · subst hq0
    clear LE
    go_enter Tryz.func17, Tryz.ntmps17
    go_wp2_with (first
      | (go_at_call 47; refine TH.out.mono ?_; rintro e w2 ⟨rfl, rfl⟩)
      | (go_at_call 30; refine FI.out.mono ?_; rintro e w2 ⟨rfl, hB⟩; have HB := Lib.hid hB; clear hB)
      | (go_at_call 46; refine (GN.out _ HB.out).mono ?_; rintro e w1 ⟨vo, l1, S1, rfl, hg⟩; obtain ⟨e1, e2⟩ := HP.out vo l1 S1 w1 hg; have HG := Lib.hid (And.intro hg e2); clear hg e2)
      | (at_builtin; go_loud (refine wpList_pushK1 rfl (.tmp 33) (.tmp 37) 47 rfl B 68 (.agg #[.string ⟨#[]⟩, .bool false, .bool false, .int .i64 0]) 4 32 Tryz.underlying47 infoRC rfl (by decide) (.slice vo0 N vc0) N _ rfl HG.out.2.2 [.string ⟨name.toArray⟩, .bool false, .bool true, .int .i64 (org : Int)] rfl _ rfl rfl rfl (by unfold maxLen; omega) (by omega) HG.out.2.1 ?_); intro g c4 w4 hg4 hr4 hk4 hl4; obtain ⟨x0, x1, x2, x3⟩ := HC.out w1 w4 vo l1 S1 g HG.out.1 hk4 hl4; have H4 := Lib.hid (And.intro hk4 (And.intro hl4 hr4)); clear hg4 hr4 hk4 hl4))
    go_ret3
    exact ⟨_, by rw [← hlS.out S1 HG.out.1.eq HG.out.1.last]; rfl, FIN.out w1 w4 vo l1 S1 g c4 _ HG.out.1 H4.out.1 H4.out.2.1 H4.out.2.2 (by omega)⟩
  · have t0 : decide (0 < (q : Int)) = true := by rw [decide_eq_true_eq]; omega
    have t1 : 0 < q := by omega
    go_enter Tryz.func17, Tryz.ntmps17
    go_wp2_with (first
      | (go_at_call 47; refine TH.out.mono ?_; rintro e w2 ⟨rfl, rfl⟩)
      | (go_at_call 30; refine FI.out.mono ?_; rintro e w2 ⟨rfl, hB⟩; have HB := Lib.hid hB; clear hB)
      | (go_at_call 48; refine (LE.out t1 _ HB.out).mono ?_; rintro e w5 ⟨rfl, rfl⟩)
      | (go_at_call 46; refine (GN.out _ HB.out).mono ?_; rintro e w1 ⟨vo, l1, S1, rfl, hg⟩; obtain ⟨e1, e2⟩ := HP.out vo l1 S1 w1 hg; have HG := Lib.hid (And.intro hg e2); clear hg e2)
      | (at_builtin; go_loud (refine wpList_pushK1 rfl (.tmp 33) (.tmp 37) 47 rfl B 68 (.agg #[.string ⟨#[]⟩, .bool false, .bool false, .int .i64 0]) 4 32 Tryz.underlying47 infoRC rfl (by decide) (.slice vo0 N vc0) N _ rfl HG.out.2.2 [.string ⟨name.toArray⟩, .bool false, .bool true, .int .i64 (org : Int)] rfl _ rfl rfl rfl (by unfold maxLen; omega) (by omega) HG.out.2.1 ?_); intro g c4 w4 hg4 hr4 hk4 hl4; obtain ⟨x0, x1, x2, x3⟩ := HC.out w1 w4 vo l1 S1 g HG.out.1 hk4 hl4; have H4 := Lib.hid (And.intro hk4 (And.intro hl4 hr4)); clear hg4 hr4 hk4 hl4))
    go_ret3
    exact ⟨_, by rw [← hlS.out S1 HG.out.1.eq HG.out.1.last]; rfl, FIN.out w1 w4 vo l1 S1 g c4 _ HG.out.1 H4.out.1 H4.out.2.1 H4.out.2.2 (by omega)⟩
theorem rImport_none (h : Rf w B yb l ep v) (hs : Sim S l) (hW : WF S) (hl : S.last ≤ 100000) {i : Int} (hi : (Lit.int .i64 i).wf = true) (hn : S.num i = none) :
    Calls Tryz.prog 17 #[.pointer (some ⟨yb, 0, none⟩), .string ⟨name.toArray⟩, .int .i64 i] w fun e w' => e = .returned (.tuple #[.int .i64 0, .slice none 0 0, .int .i64 8]) ∧ Below w.heap.size w w' := by
  have TH := Lib.hid (rthere_any h hs hW hl i hi (q := false) (by rw [hn]; rfl))
  clear h hs hW
  go_enter Tryz.func17, Tryz.ntmps17
  go_wp2_with (go_at_call 47; refine TH.out.mono ?_; rintro e w2 ⟨rfl, rfl⟩)
  go_ret3
  exact ⟨rfl, Below.refl _ _⟩
set_option maxHeartbeats 800000 in
theorem rImport_loop (h : Rf w B yb l ep v) (hs : Sim S l) (hW : WF S) (hl : S.last ≤ 100000) {d : Cm} (hd : S.cm org = some d) {n : Nat} (hnm : S.nm false name = some n) (hu : Up S org n) :
    Calls Tryz.prog 17 #[.pointer (some ⟨yb, 0, none⟩), .string ⟨name.toArray⟩, .int .i64 (org : Int)] w fun e w' => e = .returned (.tuple #[.int .i64 0, .slice none 0 0, .int .i64 9]) ∧ Below w.heap.size w w' := by
  have hop := hW.pos org d hd
  obtain ⟨c, hc, _⟩ := (hW.names _ _ _).1 hnm
  have hnp := (hW.pos n c hc).1
  have TH := Lib.hid (rthere_any h hs hW hl (org : Int) (nat_wf (by omega)) (q := true) (by rw [num_nat, hd]; rfl))
  have FI := Lib.hid (rFind_any h hs hW hl name (q := n) (by rw [hnm]; rfl))
  have LE : Hid (∀ W, Below w.heap.size w W → Calls Tryz.prog 48 #[.pointer (some ⟨yb, 0, none⟩), .int .i64 (org : Int), .int .i64 (n : Int)] W fun e w' => e = .returned (.bool true) ∧ W = w') := fun W hb => (rleads_any (h.low hb) hs hW hl hd n hnp).mono fun e w' ⟨b, he, hu2, hw⟩ => by
    rw [hu2.2 hu] at he
    exact ⟨he, hw⟩
  have t0 : decide (0 < (n : Int)) = true := by rw [decide_eq_true_eq]; omega
  have t1 : 0 < n := hnp
  clear h hs hW hl hd hnm hu hop hc hnp
  go_enter Tryz.func17, Tryz.ntmps17
  go_wp2_with (first
    | (go_at_call 47; refine TH.out.mono ?_; rintro e w2 ⟨rfl, rfl⟩)
    | (go_at_call 30; refine FI.out.mono ?_; rintro e w2 ⟨rfl, hB⟩; have HB := Lib.hid hB; clear hB)
    | (go_at_call 48; refine (LE.out _ HB.out).mono ?_; rintro e w5 ⟨rfl, rfl⟩))
  go_ret3
  exact ⟨rfl, HB.out⟩
end
end Go.Proofs.YtbbbenjakjejmaaGreat
namespace Go.Proofs.YtbbbenjakjejmaaGreat
set_option linter.unusedVariables false
set_option linter.unusedSimpArgs false
open Go.RowKit Go.MapKept Go.WideMaps
section
variable {w w1 w3 : World} {B yb : Nat} {l : List RC} {v : Value} {S S' : TS} {L : List Nat}
/-- What a call leaves of the reference's table. -/
def CalQ (w : World) (B yb : Nat) (v : Value) (S' : TS) (w' : World) : Prop :=
  ∃ l', Rf w' B yb l' S'.epoch v ∧ RStp yb v v w w' ∧ Sim S' l' ∧ (∀ r ∈ l', r.name.length ≤ 100000)
theorem CalQ.stay (h : Rf w B yb l S.epoch v) (hs : Sim S l) (hn : ∀ r ∈ l, r.name.length ≤ 100000) (hb : Below w.heap.size w w1) : CalQ w B yb v S w1 := ⟨l, h.low hb, TkStp.of_stp (Stp.of_below hb), hs, hn⟩
set_option maxRecDepth 100000 in
set_option maxHeartbeats 1600000 in
theorem rcall_any (h : Rf w B yb l S.epoch v) (hs : Sim S l) (hW : WF S) (hl : S.last ≤ 100000) (hn : ∀ r ∈ l, r.name.length ≤ 100000) (hep : S.epoch ≤ 100000) {was now : Bool} {old new : Bs} (hnl : new.length ≤ 100000) {r : Int} (hM : MoveR S was old now new r S') :
    Calls Tryz.prog 49 #[.pointer (some ⟨yb, 0, none⟩), .string ⟨old.toArray⟩, .bool was, .string ⟨new.toArray⟩, .bool now] w fun e w' => e = .returned (.int .i64 r) ∧ CalQ w B yb v S' w' := by
  rcases hM with ⟨h1, rfl, rfl⟩ | ⟨n, k, h1, h2, rfl, rfl⟩ | ⟨n, h1, h2, rfl, rfl⟩
  · have F0 := rfind_any h hs hW hl old was (q := 0) (by rw [h1]; rfl)
    rw [show ((0 : Nat) : Int) = 0 from rfl] at F0
    have F1 := Lib.hid F0
    clear F0
    have FIN : Hid (∀ w1, Below w.heap.size w w1 → CalQ w B yb v S' w1) := fun w1 hb => CalQ.stay h hs hn hb
    clear h hs hW hn
    go_enter Tryz.func49, Tryz.ntmps49
    go_wp2_with (go_at_call 51; refine F1.out.mono ?_; rintro e w2 ⟨rfl, hB⟩; have HB := Lib.hid hB; clear hB)
    go_ret
    exact ⟨rfl, FIN.out _ HB.out⟩
  · have hp1 : 1 ≤ n := by obtain ⟨c, hc, _⟩ := (hW.names _ _ _).1 h1; exact (hW.pos n c hc).1
    have hp2 : 1 ≤ k := by obtain ⟨c, hc, _⟩ := (hW.names _ _ _).1 h2; exact (hW.pos k c hc).1
    have F1 := Lib.hid (rfind_any h hs hW hl old was (q := n) (by rw [h1]; rfl))
    have F2 : Hid (∀ W, Below w.heap.size w W → Calls Tryz.prog 51 #[.pointer (some ⟨yb, 0, none⟩), .string ⟨new.toArray⟩, .bool now] W fun e w' => e = .returned (.int .i64 (k : Int)) ∧ Below W.heap.size W w') := fun W hb => rfind_any (h.low hb) hs hW hl new now (q := k) (by rw [h2]; rfl)
    have FIN : Hid (∀ w1, Below w.heap.size w w1 → CalQ w B yb v S' w1) := fun w1 hb => CalQ.stay h hs hn hb
    have t0 : decide ((n : Int) = 0) = false := by rw [decide_eq_false_iff_not]; omega
    have t1 : ¬ n = 0 := by omega
    have t2 : decide (0 < (k : Int)) = true := by rw [decide_eq_true_eq]; omega
    have t3 : 0 < k := hp2
    clear h hs hW hn h1 h2 hp1 hp2
    go_enter Tryz.func49, Tryz.ntmps49
    go_wp2_with (first
      | (go_at_call 51; with_reducible refine F1.out.mono ?_; rintro e w2 ⟨rfl, hB⟩; have HB := Lib.hid hB; clear hB F1)
      | (go_at_call 51; refine (F2.out _ HB.out).mono ?_; rintro e w5 ⟨rfl, hB⟩; have HB2 := Lib.hid (HB.out.trans (hB.mono HB.out.size)); clear hB))
    go_ret
    exact ⟨rfl, FIN.out _ HB2.out⟩
  · obtain ⟨c, hc, hc1, hc2⟩ := (hW.names _ _ _).1 h1
    have hp1 := hW.pos n c hc
    have F1 := Lib.hid (rfind_any h hs hW hl old was (q := n) (by rw [h1]; rfl))
    have F2 : Hid (∀ W, Below w.heap.size w W → Calls Tryz.prog 51 #[.pointer (some ⟨yb, 0, none⟩), .string ⟨new.toArray⟩, .bool now] W fun e w' => e = .returned (.int .i64 0) ∧ Below W.heap.size W w') := fun W hb => rfind_any (h.low hb) hs hW hl new now (q := 0) (by rw [h2]; rfl)
    obtain ⟨i, rc, rfl, hi, ht, _, _, _⟩ := hs.at_ hW hc
    obtain ⟨g, cap, hv, hg, _⟩ := h.at_ hi
    obtain ⟨N, hN⟩ : ∃ N, l.length = N := ⟨_, rfl⟩
    have hlen := hs.len
    subst hv
    rw [hN] at *
    have hr1 : ({ rc with name := new } : RC).cells = rc.cells.set 0 (.string ⟨new.toArray⟩) := rfl
    have STEP : Hid (∀ W, Below w.heap.size w W → W.cell? ⟨yb, 0, none⟩ = some (.slice (some ⟨g, 0, none⟩) N cap) ∧ W.frozen? ⟨g, i * 4, none⟩ = false ∧ W.cell? ⟨g, i * 4, none⟩ = some (.string ⟨rc.name.toArray⟩) ∧ W.cell? ⟨g, i * 4 + 1, none⟩ = some (.bool rc.hid) ∧
        (W.setCell ⟨g, i * 4, none⟩ (.string ⟨new.toArray⟩)).cell? ⟨yb, 0, none⟩ = some (.slice (some ⟨g, 0, none⟩) N cap) ∧ (W.setCell ⟨g, i * 4, none⟩ (.string ⟨new.toArray⟩)).frozen? ⟨g, i * 4 + 1, none⟩ = false ∧
        ((W.setCell ⟨g, i * 4, none⟩ (.string ⟨new.toArray⟩)).setCell ⟨g, i * 4 + 1, none⟩ (.bool now)).cell? ⟨yb, 1, none⟩ = some (.int .i64 (S.epoch : Int)) ∧ ((W.setCell ⟨g, i * 4, none⟩ (.string ⟨new.toArray⟩)).setCell ⟨g, i * 4 + 1, none⟩ (.bool now)).frozen? ⟨yb, 1, none⟩ = false ∧
        CalQ w B yb (.slice (some ⟨g, 0, none⟩) N cap) (moveT S (i + 1) was old now new) (((W.setCell ⟨g, i * 4, none⟩ (.string ⟨new.toArray⟩)).setCell ⟨g, i * 4 + 1, none⟩ (.bool now)).setCell ⟨yb, 1, none⟩ (.int .i64 ((S.epoch + 1 : Nat) : Int)))) := fun W hb => by
      have hW0 := h.low hb
      obtain ⟨k1, s1⟩ := hW0.setCell (o := none) (r' := { rc with name := new }) hi 0 (.string ⟨new.toArray⟩) rfl (by omega)
      have hi1 : (l.set i { rc with name := new })[i]? = some { rc with name := new } := by rw [List.getElem?_set]; simp [(List.getElem?_eq_some_iff.1 hi).1]
      obtain ⟨k2, s2⟩ := k1.setCell (o := none) (r' := { rc with name := new, hid := now }) hi1 1 (.bool now) rfl (by omega)
      obtain ⟨k3, s3⟩ := k2.setEp (S.epoch + 1)
      have a0 := hW0.cells
      have a1 := k1.cells
      have a2 := k2.cells
      obtain ⟨_, _, b0, _, z0, z1, _, _, bf⟩ := hW0.at_ hi
      obtain ⟨_, _, b1, _, _, _, _, _, bf1⟩ := k1.at_ hi1
      cases b0
      injection b1 with b2 b3 b4
      injection b2 with b2
      injection b2 with b2 _ _
      subst b2
      refine ⟨a0.1, bf _, z0, z1, a1.1, bf1 _, a2.2.1, a2.2.2 1, ?_⟩
      rw [List.set_set] at k3
      refine ⟨_, k3, (TkStp.of_stp (Stp.of_below hb)).trans ((s1.trans s2).trans s3), sim_move hs hi ht was now old new, fun r hr => ?_⟩
      rcases List.mem_or_eq_of_mem_set hr with h | rfl
      · exact hn r h
      · exact hnl
    have t0 : decide (((i + 1 : Nat) : Int) = 0) = false := by rw [decide_eq_false_iff_not]; omega
    have t1 : ¬ i + 1 = 0 := by omega
    have hw1 : IntKind.i64.wrap (((i + 1 : Nat) : Int) - 1) = (i : Int) := by rw [IntWalk.i64_in _ (by omega)]; omega
    have hw2 : IntKind.i64.wrap ((S.epoch : Int) + 1) = ((S.epoch + 1 : Nat) : Int) := by rw [IntWalk.i64_in _ (by omega)]; omega
    have i1 : i < N := by have := (List.getElem?_eq_some_iff.1 hi).1; omega
    generalize S.epoch + 1 = e1 at *
    generalize i + 1 = n at *
    clear h hs hW hn h1 h2 hp1 hc hc1 hc2 hi hg ht hN hlen hr1
    go_enter Tryz.func49, Tryz.ntmps49
    go_wp2_with (first
      | (go_at_call 51; with_reducible refine F1.out.mono ?_; rintro e w2 ⟨rfl, hB⟩; have HB := Lib.hid hB; clear hB F1)
      | (go_at_call 51; refine (F2.out _ HB.out).mono ?_; rintro e w5 ⟨rfl, hB⟩; have hB2 := HB.out.trans (hB.mono HB.out.size); obtain ⟨x0, x1, x2, x3, x4, x5, x6, x7, x8⟩ := STEP.out _ hB2; have HX := Lib.hid x8; clear hB hB2 x8))
    go_ret
    exact ⟨rfl, HX.out⟩
theorem rRename_any (h : Rf w B yb l S.epoch v) (hs : Sim S l) (hW : WF S) (hl : S.last ≤ 100000) (hn : ∀ r ∈ l, r.name.length ≤ 100000) (hep : S.epoch ≤ 100000) {old new : Bs} (hnl : new.length ≤ 100000) {r : Int} (hM : MoveR S false old false new r S') :
    Calls Tryz.prog 18 #[.pointer (some ⟨yb, 0, none⟩), .string ⟨old.toArray⟩, .string ⟨new.toArray⟩] w fun e w' => e = .returned (.int .i64 r) ∧ CalQ w B yb v S' w' := by
  have CA := Lib.hid (rcall_any h hs hW hl hn hep hnl hM)
  clear h hs hW hn hM
  go_enter Tryz.func18, Tryz.ntmps18
  go_wp2_with (go_at_call 49; refine CA.out.mono ?_; rintro e w2 ⟨rfl, hB⟩; have HB := Lib.hid hB; clear hB)
  go_ret
  exact ⟨rfl, HB.out⟩
theorem rHide_any (h : Rf w B yb l S.epoch v) (hs : Sim S l) (hW : WF S) (hl : S.last ≤ 100000) (hn : ∀ r ∈ l, r.name.length ≤ 100000) (hep : S.epoch ≤ 100000) {old new : Bs} (hnl : new.length ≤ 100000) {r : Int} (hM : MoveR S false old true new r S') :
    Calls Tryz.prog 21 #[.pointer (some ⟨yb, 0, none⟩), .string ⟨old.toArray⟩, .string ⟨new.toArray⟩] w fun e w' => e = .returned (.int .i64 r) ∧ CalQ w B yb v S' w' := by
  have CA := Lib.hid (rcall_any h hs hW hl hn hep hnl hM)
  clear h hs hW hn hM
  go_enter Tryz.func21, Tryz.ntmps21
  go_wp2_with (go_at_call 49; refine CA.out.mono ?_; rintro e w2 ⟨rfl, hB⟩; have HB := Lib.hid hB; clear hB)
  go_ret
  exact ⟨rfl, HB.out⟩
theorem rExpose_any (h : Rf w B yb l S.epoch v) (hs : Sim S l) (hW : WF S) (hl : S.last ≤ 100000) (hn : ∀ r ∈ l, r.name.length ≤ 100000) (hep : S.epoch ≤ 100000) {old new : Bs} (hnl : new.length ≤ 100000) {r : Int} (hM : MoveR S true old false new r S') :
    Calls Tryz.prog 23 #[.pointer (some ⟨yb, 0, none⟩), .string ⟨old.toArray⟩, .string ⟨new.toArray⟩] w fun e w' => e = .returned (.int .i64 r) ∧ CalQ w B yb v S' w' := by
  have CA := Lib.hid (rcall_any h hs hW hl hn hep hnl hM)
  clear h hs hW hn hM
  go_enter Tryz.func23, Tryz.ntmps23
  go_wp2_with (go_at_call 49; refine CA.out.mono ?_; rintro e w2 ⟨rfl, hB⟩; have HB := Lib.hid hB; clear hB)
  go_ret
  exact ⟨rfl, HB.out⟩
theorem CalQ.of_gone {n : Nat} {w2 : World} {l1 : List RC} (h1 : Rf w1 B yb l1 S.epoch v) (hst : RStp yb v v w w1) (h2 : Rf w2 B yb (offR l1 (offA L n S.last)) S.epoch v) (hs2 : RStp yb v v w1 w2) (hs : Sim S l1) (hW : WF S) (hn : ∀ r ∈ l1, r.name.length ≤ 100000) (g : Gone S n L S') : CalQ w B yb v S' w2 :=
  ⟨_, by rw [g.epoch]; exact h2, hst.trans hs2, sim_off hW hs g, offR_name hn⟩
set_option maxRecDepth 100000 in
set_option maxHeartbeats 1600000 in
theorem rDelete_any (h : Rf w B yb l S.epoch v) (hs : Sim S l) (hW : WF S) (hl : S.last ≤ 100000) (hn : ∀ r ∈ l, r.name.length ≤ 100000) (hep : S.epoch ≤ 100000) (hBw : B ≤ w.heap.size) {name : Bs} {r : Int} (hD : DelR S name r S' L) :
    Calls Tryz.prog 19 #[.pointer (some ⟨yb, 0, none⟩), .string ⟨name.toArray⟩] w fun e w' => ∃ vo, e = .returned (.tuple #[vo, .int .i64 r]) ∧ CalQ w B yb v S' w' ∧ w'.ownsRow w.heap.size 3 1 vo (srtI (asI L)).length ((srtI (asI L)).map (Value.int .i64)) := by
  rcases hD with ⟨h1, rfl, rfl, rfl⟩ | ⟨n, h1, rfl, g⟩
  · have F0 := rFind_any h hs hW hl name (q := 0) (by rw [h1]; rfl)
    rw [show ((0 : Nat) : Int) = 0 from rfl] at F0
    have F1 := Lib.hid F0
    clear F0
    have FIN : Hid (∀ w1, Below w.heap.size w w1 → CalQ w B yb v S' w1) := fun w1 hb => CalQ.stay h hs hn hb
    clear h hs hW hn
    go_enter Tryz.func19, Tryz.ntmps19
    go_wp2_with (go_at_call 30; refine F1.out.mono ?_; rintro e w2 ⟨rfl, hB⟩; have HB := Lib.hid hB; clear hB)
    go_ret2
    exact ⟨_, rfl, FIN.out _ HB.out, row_nil0 _ _⟩
  · obtain ⟨c, hc, _⟩ := (hW.names _ _ _).1 h1
    have hp1 := hW.pos n c hc
    have F1 := Lib.hid (rFind_any h hs hW hl name (q := n) (by rw [h1]; rfl))
    have STEP : Hid (∀ W, Below w.heap.size w W → W.cell? ⟨yb, 1, none⟩ = some (.int .i64 (S.epoch : Int)) ∧ W.frozen? ⟨yb, 1, none⟩ = false ∧
        Calls Tryz.prog 46 #[.pointer (some ⟨yb, 0, none⟩), .int .i64 (n : Int)] (W.setCell ⟨yb, 1, none⟩ (.int .i64 ((S.epoch + 1 : Nat) : Int))) fun e w' => ∃ vo, e = .returned vo ∧ CalQ w B yb v S' w' ∧ w'.ownsRow w.heap.size 3 1 vo (srtI (asI L)).length ((srtI (asI L)).map (Value.int .i64))) := fun W hb => by
      have hW0 := h.low hb
      obtain ⟨k1, s1⟩ := hW0.setEp (S.epoch + 1)
      have hs1 := sim_epoch hs (S.epoch + 1)
      have hw1 := wf_epoch hW (S.epoch + 1)
      refine ⟨hW0.cells.2.1, hW0.cells.2.2 1, ?_⟩
      refine (rgone_any (S := { S with epoch := S.epoch + 1 }) k1 hs1 hw1 hl hc g (by rw [set_size]; exact Nat.le_trans hBw hb.size)).mono ?_
      rintro e w' ⟨vo, rfl, q1, q2, q3⟩
      exact ⟨vo, rfl, CalQ.of_gone (S := { S with epoch := S.epoch + 1 }) k1 ((TkStp.of_stp (Stp.of_below hb)).trans s1) q1 q2 hs1 hw1 hn g, row_base q3 (by rw [set_size]; exact hb.size)⟩
    have t0 : decide ((n : Int) = 0) = false := by rw [decide_eq_false_iff_not]; omega
    have t1 : ¬ n = 0 := by omega
    have hw2 : IntKind.i64.wrap ((S.epoch : Int) + 1) = ((S.epoch + 1 : Nat) : Int) := by rw [IntWalk.i64_in _ (by omega)]; omega
    generalize S.epoch + 1 = e1 at *
    clear h hs hW hn h1 hp1 hc g
    go_enter Tryz.func19, Tryz.ntmps19
    go_wp2_with (first
      | (go_at_call 30; refine F1.out.mono ?_; rintro e w2 ⟨rfl, hB⟩; obtain ⟨x0, x1, x2⟩ := STEP.out _ hB; have GN := Lib.hid x2; clear hB x2)
      | (go_at_call 46; refine GN.out.mono ?_; rintro e w5 ⟨vo, rfl, q1, q2⟩; have HG := Lib.hid (And.intro q1 q2); clear q1 q2))
    go_ret2
    exact ⟨_, rfl, HG.out⟩
end
end Go.Proofs.YtbbbenjakjejmaaGreat
namespace Go.Proofs.YtbbbenjakjejmaaGreat
set_option linter.unusedVariables false
set_option linter.unusedSimpArgs false
open Go.RowKit Go.MapKept Go.WideMaps
section
variable {w w1 w' : World} {B tb mn mh mk yb : Nat} {who who' : Own} {cb cb' : Nat → Nat} {S S' : TS} {L : List Nat}
/-- The program's act is done: its table is S', the reference's is S still. -/
structure HalfT (w : World) (B tb mn mh mk yb : Nat) (who : Own) (S S' : TS) (w' : World) : Prop where
  ex : ∃ who' cb', Tw w' B tb mn mh mk yb who' cb' S' S ∧ Stp who who' w w'
  last : S'.last ≤ S.last + 1
  epoch : S'.epoch ≤ S.epoch + 1
/-- Both acts are done. -/
structure WholeT (w : World) (B tb mn mh mk yb : Nat) (S S' : TS) (w' : World) : Prop where
  ex : ∃ who' cb', Tw w' B tb mn mh mk yb who' cb' S' S'
  kr : KR w w'
  below : Below B w w'
theorem WholeT.of_add {v vo : Value} {l : List RC} (h : Tw w B tb mn mh mk yb who cb S' S) (h1 : Rf w B yb l S.epoch v) (h4 : ∀ g, v.ownBlock = some g → who g = none) (hW : WF S') (hep : S'.epoch = S.epoch + 1) (q : AddQ w B yb S.epoch v S' L vo w') {u : Value} {zs : List Int} {B2 : Nat} (hu : w.ownsRow B2 3 1 u zs.length (zs.map (Value.int .i64))) :
    WholeT w B tb mn mh mk yb S S' w' ∧ NRow w' u zs ∧ NRow w' vo (srtI (asI L)) := by
  obtain ⟨l', v', p1, p2, p3, p4, p5⟩ := q
  rw [← hep] at p1
  exact ⟨⟨⟨who, cb, h.ref h1 h4 p2 p1 p3 p4 hW⟩, h1.kr p2, h1.below p2 h.tb.base⟩, NRow.of_owns ((h1.kr p2).row hu), NRow.of_owns p5⟩
theorem WholeT.of_call {v : Value} {l : List RC} (h : Tw w B tb mn mh mk yb who cb S' S) (h1 : Rf w B yb l S.epoch v) (h4 : ∀ g, v.ownBlock = some g → who g = none) (hW : WF S') (q : CalQ w B yb v S' w') : WholeT w B tb mn mh mk yb S S' w' := by
  obtain ⟨l', p1, p2, p3, p4⟩ := q
  exact ⟨⟨who, cb, h.ref h1 h4 p2 p1 p3 p4 hW⟩, h1.kr p2, h1.below p2 h.tb.base⟩
theorem WholeT.stay (h : Tw w B tb mn mh mk yb who cb S S) (hb : Below w.heap.size w w') : WholeT w B tb mn mh mk yb S S w' := ⟨⟨who, cb, h.low hb⟩, KR.of_below hb, ⟨hb.os, hb.tape, hb.output, hb.size, fun k hk => hb.block k (by have := h.tb.base; omega)⟩⟩
/-- A row of numbers that the program told. -/
def Told (w : World) (u : Value) (zs : List Int) : Prop := ∃ B2, w.ownsRow B2 3 1 u zs.length (zs.map (Value.int .i64))
theorem Told.nrow {u : Value} {zs : List Int} (h : Told w u zs) : NRow w u zs := by obtain ⟨B2, h⟩ := h; exact NRow.of_owns h
theorem Told.kr {u : Value} {zs : List Int} (h : Told w u zs) (k : KR w w') : Told w' u zs := by obtain ⟨B2, h⟩ := h; exact ⟨B2, k.row h⟩
theorem tDefine (h : Tw w B tb mn mh mk yb who cb S S) (hl : S.last ≤ 90000) (he : S.epoch ≤ 90000) (s : Bs) (hs : s.length ≤ 100000) :
    Calls Tryz.prog 10 #[.pointer (some ⟨tb, 0, none⟩), .string ⟨s.toArray⟩] w fun e w' => ∃ S' L u, e = .returned (.tuple #[.int .i64 (S'.last : Int), u]) ∧ Told w' u (srtI (asI L)) ∧ AddR S s 0 S' L ∧ HalfT w B tb mn mh mk yb who S S' w' := by
  refine (Define_any h.tb h.wf (by omega) (by omega) s hs).mono ?_
  rintro e w' ⟨who', cb', o, c, S', L, he2, hA, hT, hI, hS⟩
  have hw := addR_wf h.wf hs (.inl rfl) hA
  exact ⟨S', L, _, he2, ⟨B, by have := hI.own; unfold asI; exact this⟩, hA, ⟨who', cb', h.tab hS hT hw.1, hS⟩, by omega, by omega⟩
theorem uDefine (h : Tw w B tb mn mh mk yb who cb S' S) (hl : S.last ≤ 90000) (he : S.epoch ≤ 90000) (s : Bs) (hs : s.length ≤ 100000) (hA : AddR S s 0 S' L) {u : Value} (hu : Told w u (srtI (asI L))) :
    Calls Tryz.prog 15 #[.pointer (some ⟨yb, 0, none⟩), .string ⟨s.toArray⟩] w fun e w' => ∃ vo, e = .returned (.tuple #[.int .i64 (S'.last : Int), vo]) ∧ WholeT w B tb mn mh mk yb S S' w' ∧ NRow w' u (srtI (asI L)) ∧ NRow w' vo (srtI (asI L)) := by
  obtain ⟨l, v, h1, h2, h3, h4⟩ := h.ex
  obtain ⟨B2, hu⟩ := hu
  refine (rDefine_any h1 h2 h.wr (by omega) h3 (by omega) h.tb.base hs hA).mono ?_
  rintro e w' ⟨vo, he2, q⟩
  have hw := addR_wf h.wr hs (.inl rfl) hA
  exact ⟨vo, he2, WholeT.of_add h h1 h4 hw.1 hw.2.2.1 q hu⟩
/-- What 'Import' does. -/
def ImpR (S : TS) (name : Bs) (i : Int) (n r : Int) (S' : TS) (L : List Nat) : Prop :=
  (S.num i = none ∧ n = 0 ∧ r = 8 ∧ S' = S ∧ L = []) ∨ (∃ org n0, S.num i = some org ∧ S.nm false name = some n0 ∧ Up S org n0 ∧ n = 0 ∧ r = 9 ∧ S' = S ∧ L = []) ∨ ∃ org, S.num i = some org ∧ OrgOk S name org ∧ AddR S name org S' L ∧ n = (S'.last : Int) ∧ r = 0
theorem tImport (h : Tw w B tb mn mh mk yb who cb S S) (hl : S.last ≤ 90000) (he : S.epoch ≤ 90000) (s : Bs) (hs : s.length ≤ 100000) (i : Int) (hi : (Lit.int .i64 i).wf = true) :
    Calls Tryz.prog 11 #[.pointer (some ⟨tb, 0, none⟩), .string ⟨s.toArray⟩, .int .i64 i] w fun e w' => ∃ n r S' L u, e = .returned (.tuple #[.int .i64 n, u, .int .i64 r]) ∧ Told w' u (srtI (asI L)) ∧ ImpR S s i n r S' L ∧ HalfT w B tb mn mh mk yb who S S' w' := by
  refine (Import_any h.tb h.wf (by omega) (by omega) s hs i hi).mono ?_
  rintro e w' hp
  rcases hp with ⟨r, he2, hc, hT, hS⟩ | ⟨org, who', cb', o, c, S', L, hn, ho, he2, hA, hT, hI, hS⟩
  · refine ⟨0, r, S, [], _, he2, ⟨0, row_nil0 _ _⟩, ?_, ⟨who, cb, h.tab hS hT h.wf, hS⟩, by omega, by omega⟩
    rcases hc with ⟨a, b⟩ | ⟨org, n0, a, b, c, d⟩
    · exact .inl ⟨a, rfl, b, rfl, rfl⟩
    · exact .inr (.inl ⟨org, n0, a, b, c, rfl, d, rfl, rfl⟩)
  · have hw := addR_wf h.wf hs ho hA
    exact ⟨_, 0, S', L, _, he2, ⟨B, by have := hI.own; unfold asI; exact this⟩, .inr (.inr ⟨org, hn, ho, hA, rfl, rfl⟩), ⟨who', cb', h.tab hS hT hw.1, hS⟩, by omega, by omega⟩
theorem uImport (h : Tw w B tb mn mh mk yb who cb S' S) (hl : S.last ≤ 90000) (he : S.epoch ≤ 90000) (s : Bs) (hs : s.length ≤ 100000) (i : Int) (hi : (Lit.int .i64 i).wf = true) {n r : Int} (hI : ImpR S s i n r S' L) {u : Value} (hu : Told w u (srtI (asI L))) :
    Calls Tryz.prog 17 #[.pointer (some ⟨yb, 0, none⟩), .string ⟨s.toArray⟩, .int .i64 i] w fun e w' => ∃ vo, e = .returned (.tuple #[.int .i64 n, vo, .int .i64 r]) ∧ WholeT w B tb mn mh mk yb S S' w' ∧ NRow w' u (srtI (asI L)) ∧ NRow w' vo (srtI (asI L)) := by
  obtain ⟨l, v, h1, h2, h3, h4⟩ := h.ex
  rcases hI with ⟨hn, rfl, rfl, rfl, rfl⟩ | ⟨org, n0, hn, hm, hup, rfl, rfl, rfl, rfl⟩ | ⟨org, hn, ho, hA, rfl, rfl⟩
  · refine (rImport_none h1 h2 h.wr (by omega) hi hn).mono ?_
    rintro e w' ⟨he2, hb⟩
    exact ⟨_, he2, WholeT.stay h hb, (hu.kr (KR.of_below hb)).nrow, NRow.of_owns (row_nil0 _ 0)⟩
  · obtain ⟨rfl, d, hd⟩ := num_some hn
    refine (rImport_loop h1 h2 h.wr (by omega) hd hm hup).mono ?_
    rintro e w' ⟨he2, hb⟩
    exact ⟨_, he2, WholeT.stay h hb, (hu.kr (KR.of_below hb)).nrow, NRow.of_owns (row_nil0 _ 0)⟩
  · obtain ⟨rfl, d, hd⟩ := num_some hn
    obtain ⟨B2, hu⟩ := hu
    refine (rImport_any h1 h2 h.wr (by omega) h3 (by omega) h.tb.base hs ⟨d, hd⟩ ho hA).mono ?_
    rintro e w' ⟨vo, he2, q⟩
    have hw := addR_wf h.wr hs ho hA
    exact ⟨vo, he2, WholeT.of_add h h1 h4 hw.1 hw.2.2.1 q hu⟩
theorem moveR_wf {was now : Bool} {old new : Bs} {r : Int} (hW : WF S) (hn : new.length ≤ 100000) (h : MoveR S was old now new r S') : WF S' ∧ S'.last ≤ S.last + 1 ∧ S'.epoch ≤ S.epoch + 1 := by
  rcases h with ⟨_, _, rfl⟩ | ⟨_, _, _, _, _, rfl⟩ | ⟨n, h1, h2, _, rfl⟩
  · exact ⟨hW, Nat.le_succ _, Nat.le_succ _⟩
  · exact ⟨hW, Nat.le_succ _, Nat.le_succ _⟩
  · exact ⟨wf_moveT hW hn h1 h2, Nat.le_succ _, Nat.le_refl _⟩
theorem delR_wf {name : Bs} {r : Int} (hW : WF S) (h : DelR S name r S' L) : WF S' ∧ S'.last ≤ S.last + 1 ∧ S'.epoch ≤ S.epoch + 1 := by
  rcases h with ⟨_, _, rfl, rfl⟩ | ⟨n, h1, _, g⟩
  · exact ⟨hW, Nat.le_succ _, Nat.le_succ _⟩
  · have hl := g.last
    have he := g.epoch
    exact ⟨g.wf, by simp only at hl; omega, by simp only at he; omega⟩
theorem tDelete (h : Tw w B tb mn mh mk yb who cb S S) (hl : S.last ≤ 90000) (he : S.epoch ≤ 90000) (s : Bs) (hs : s.length ≤ 100000) :
    Calls Tryz.prog 14 #[.pointer (some ⟨tb, 0, none⟩), .string ⟨s.toArray⟩] w fun e w' => ∃ r S' L u, e = .returned (.tuple #[u, .int .i64 r]) ∧ Told w' u (srtI (asI L)) ∧ DelR S s r S' L ∧ HalfT w B tb mn mh mk yb who S S' w' := by
  refine (Delete_any h.tb h.wf (by omega) (by omega) s hs).mono ?_
  rintro e w' ⟨r, o, c, S', L, he2, hD, hT, hI, hS⟩
  have hw := delR_wf h.wf hD
  exact ⟨r, S', L, _, he2, ⟨B, by have := hI.own; unfold asI; exact this⟩, hD, ⟨who, cb, h.tab hS hT hw.1, hS⟩, hw.2.1, hw.2.2⟩
theorem uDelete (h : Tw w B tb mn mh mk yb who cb S' S) (hl : S.last ≤ 90000) (he : S.epoch ≤ 90000) (s : Bs) {r : Int} (hD : DelR S s r S' L) {u : Value} (hu : Told w u (srtI (asI L))) :
    Calls Tryz.prog 19 #[.pointer (some ⟨yb, 0, none⟩), .string ⟨s.toArray⟩] w fun e w' => ∃ vo, e = .returned (.tuple #[vo, .int .i64 r]) ∧ WholeT w B tb mn mh mk yb S S' w' ∧ NRow w' u (srtI (asI L)) ∧ NRow w' vo (srtI (asI L)) := by
  obtain ⟨l, v, h1, h2, h3, h4⟩ := h.ex
  refine (rDelete_any h1 h2 h.wr (by omega) h3 (by omega) h.tb.base hD).mono ?_
  rintro e w' ⟨vo, he2, q, hrow⟩
  have hq := WholeT.of_call h h1 h4 (delR_wf h.wr hD).1 q
  exact ⟨vo, he2, hq, (hu.kr hq.kr).nrow, NRow.of_owns hrow⟩
theorem tRename (h : Tw w B tb mn mh mk yb who cb S S) (hl : S.last ≤ 90000) (he : S.epoch ≤ 90000) (s t : Bs) (hs : s.length ≤ 100000) (ht : t.length ≤ 100000) :
    Calls Tryz.prog 12 #[.pointer (some ⟨tb, 0, none⟩), .string ⟨s.toArray⟩, .string ⟨t.toArray⟩] w fun e w' => ∃ r S', e = .returned (.int .i64 r) ∧ MoveR S false s false t r S' ∧ HalfT w B tb mn mh mk yb who S S' w' := by
  refine (Rename_any h.tb h.wf (by omega) s t hs ht).mono ?_
  rintro e w' ⟨r, S', he2, hM, hT, hS⟩
  have hw := moveR_wf h.wf ht hM
  exact ⟨r, S', he2, hM, ⟨who, cb, h.tab hS hT hw.1, hS⟩, hw.2.1, hw.2.2⟩
theorem uRename (h : Tw w B tb mn mh mk yb who cb S' S) (hl : S.last ≤ 90000) (he : S.epoch ≤ 90000) (s t : Bs) (ht : t.length ≤ 100000) {r : Int} (hM : MoveR S false s false t r S') :
    Calls Tryz.prog 18 #[.pointer (some ⟨yb, 0, none⟩), .string ⟨s.toArray⟩, .string ⟨t.toArray⟩] w fun e w' => e = .returned (.int .i64 r) ∧ WholeT w B tb mn mh mk yb S S' w' := by
  obtain ⟨l, v, h1, h2, h3, h4⟩ := h.ex
  refine (rRename_any h1 h2 h.wr (by omega) h3 (by omega) ht hM).mono ?_
  rintro e w' ⟨he2, q⟩
  exact ⟨he2, WholeT.of_call h h1 h4 (moveR_wf h.wr ht hM).1 q⟩
theorem tHide (h : Tw w B tb mn mh mk yb who cb S S) (hl : S.last ≤ 90000) (he : S.epoch ≤ 90000) (s t : Bs) (hs : s.length ≤ 100000) (ht : t.length ≤ 100000) :
    Calls Tryz.prog 20 #[.pointer (some ⟨tb, 0, none⟩), .string ⟨s.toArray⟩, .string ⟨t.toArray⟩] w fun e w' => ∃ r S', e = .returned (.int .i64 r) ∧ MoveR S false s true t r S' ∧ HalfT w B tb mn mh mk yb who S S' w' := by
  refine (Hide_any h.tb h.wf (by omega) s t hs ht).mono ?_
  rintro e w' ⟨r, S', he2, hM, hT, hS⟩
  have hw := moveR_wf h.wf ht hM
  exact ⟨r, S', he2, hM, ⟨who, cb, h.tab hS hT hw.1, hS⟩, hw.2.1, hw.2.2⟩
theorem uHide (h : Tw w B tb mn mh mk yb who cb S' S) (hl : S.last ≤ 90000) (he : S.epoch ≤ 90000) (s t : Bs) (ht : t.length ≤ 100000) {r : Int} (hM : MoveR S false s true t r S') :
    Calls Tryz.prog 21 #[.pointer (some ⟨yb, 0, none⟩), .string ⟨s.toArray⟩, .string ⟨t.toArray⟩] w fun e w' => e = .returned (.int .i64 r) ∧ WholeT w B tb mn mh mk yb S S' w' := by
  obtain ⟨l, v, h1, h2, h3, h4⟩ := h.ex
  refine (rHide_any h1 h2 h.wr (by omega) h3 (by omega) ht hM).mono ?_
  rintro e w' ⟨he2, q⟩
  exact ⟨he2, WholeT.of_call h h1 h4 (moveR_wf h.wr ht hM).1 q⟩
theorem tExpose (h : Tw w B tb mn mh mk yb who cb S S) (hl : S.last ≤ 90000) (he : S.epoch ≤ 90000) (s t : Bs) (hs : s.length ≤ 100000) (ht : t.length ≤ 100000) :
    Calls Tryz.prog 22 #[.pointer (some ⟨tb, 0, none⟩), .string ⟨s.toArray⟩, .string ⟨t.toArray⟩] w fun e w' => ∃ r S', e = .returned (.int .i64 r) ∧ MoveR S true s false t r S' ∧ HalfT w B tb mn mh mk yb who S S' w' := by
  refine (Expose_any h.tb h.wf (by omega) s t hs ht).mono ?_
  rintro e w' ⟨r, S', he2, hM, hT, hS⟩
  have hw := moveR_wf h.wf ht hM
  exact ⟨r, S', he2, hM, ⟨who, cb, h.tab hS hT hw.1, hS⟩, hw.2.1, hw.2.2⟩
theorem uExpose (h : Tw w B tb mn mh mk yb who cb S' S) (hl : S.last ≤ 90000) (he : S.epoch ≤ 90000) (s t : Bs) (ht : t.length ≤ 100000) {r : Int} (hM : MoveR S true s false t r S') :
    Calls Tryz.prog 23 #[.pointer (some ⟨yb, 0, none⟩), .string ⟨s.toArray⟩, .string ⟨t.toArray⟩] w fun e w' => e = .returned (.int .i64 r) ∧ WholeT w B tb mn mh mk yb S S' w' := by
  obtain ⟨l, v, h1, h2, h3, h4⟩ := h.ex
  refine (rExpose_any h1 h2 h.wr (by omega) h3 (by omega) ht hM).mono ?_
  rintro e w' ⟨he2, q⟩
  exact ⟨he2, WholeT.of_call h h1 h4 (moveR_wf h.wr ht hM).1 q⟩
end
end Go.Proofs.YtbbbenjakjejmaaGreat
