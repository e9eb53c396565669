/- all: what ranges over a dictionary's pairs. -/
import Derived.Test.YtpaffocniniakaaBook4
namespace Go.Proofs.Ytpaffocniniakaa
set_option linter.unusedVariables false
set_option linter.unusedSimpArgs false
open Go.RowKit Go.MapKept Go.WideMaps
attribute [local go_sem] Oper.semAt_some wide_fn

/-- The blocks of F, and block x, stay. -/
def KB (F : List Nat) (x : Nat) (w w' : World) : Prop := w'.heap[x]? = w.heap[x]? ∧ ∀ d ∈ F, w'.heap[d]? = w.heap[d]?
theorem KB.refl (F : List Nat) (x : Nat) (w : World) : KB F x w w := ⟨rfl, fun _ _ => rfl⟩
theorem KB.trans {F : List Nat} {x : Nat} {w w1 w2 : World} (h : KB F x w w1) (k : KB F x w1 w2) : KB F x w w2 := ⟨k.1.trans h.1, fun d hd => (k.2 d hd).trans (h.2 d hd)⟩
theorem kb_put {F : List Nat} {x : Nat} {w : World} (hx : x < w.heap.size) (hF : ∀ d ∈ F, d < w.heap.size) (W : World) (l : Nat) (o o' : Obj) (hl : w.heap.size ≤ l) (h : W.heap[l]? = some o) (_ : o.isCells = false) (_ : o.isWalk = false) : KB F x W (W.putObj l o') :=
  ⟨World.putObj_heap_other (by omega), fun d hd => World.putObj_heap_other (by have := hF d hd; omega)⟩
theorem Bk.kb {W W' : World} {b x : Nat} {F : List Nat} {ps : Prs} (h : Bk W b F ps) (k : KB F x W W') : Bk W' b F ps := by
  obtain ⟨kv, vv, m, hb, hk, hv, hm, hF, hne⟩ := h.ex
  have own : ∀ {v : Value} {xs : List Value}, W.ownsRow 0 9 1 v ps.length xs → (∀ g, v.ownBlock = some g → g ∈ F) → W'.ownsRow 0 9 1 v ps.length xs := fun {v xs} hr hg => by
    refine ⟨hr.1, ?_⟩
    rcases hr.2 with h0 | ⟨g, cap, cur, rfl, hb, hgb, r⟩
    · exact .inl h0
    · exact .inr ⟨g, cap, cur, rfl, hb, (k.2 g (hg g rfl)).trans hgb, r⟩
  refine ⟨h.uniq, kv, vv, m, (k.2 b (by rw [hF]; simp)).trans hb, own hk (fun g hg => by rw [hF]; simp [hg]), own hv (fun g hg => by rw [hF]; simp [hg]), hm.congr (k.2 m (by rw [hF]; simp)), hF, hne⟩
/-- A pair as it is yielded; 'cl' leaves the pairs that there are, and makes of others what can be borne. -/
abbrev encP (cl : Bs × Bs → Bs × Bs) (x : Bs × Bs) : Array Value := #[.string ⟨(cl x).1.toArray⟩, .string ⟨(cl x).2.toArray⟩]
theorem Bk.key {W : World} {b : Nat} {F : List Nat} {ps : Prs} (h : Bk W b F ps) : ∃ kv vv m, W.heap[b]? = some (.cells #[kv, .map (some m), vv] 45 (0, 0)) ∧ (∃ o c, kv = .slice o ps.length c) ∧
    ∀ i (hi : i < ps.length), ∃ g1 c1 g2 c2, kv = .slice (some ⟨g1, 0, none⟩) ps.length c1 ∧ vv = .slice (some ⟨g2, 0, none⟩) ps.length c2 ∧ ps.length ≤ c1 ∧ ps.length ≤ c2 ∧ W.cell? ⟨g1, i, none⟩ = some (.string ⟨ps[i].1.toArray⟩) ∧ W.cell? ⟨g2, i, none⟩ = some (.string ⟨ps[i].2.toArray⟩) := by
  obtain ⟨kv, vv, m, hb, hk, hv, hm, hF, hne⟩ := h.ex
  refine ⟨kv, vv, m, hb, row_shape hk, fun i hi => ?_⟩
  obtain ⟨g1, c1, rfl, h1, _, _⟩ := row_slice hk (by omega)
  obtain ⟨g2, c2, rfl, h2, _, _⟩ := row_slice hv (by omega)
  have e1 := hk.cellAt i (by omega)
  have e2 := hv.cellAt i (by omega)
  rw [List.getElem?_map, keysP, List.getElem?_map, List.getElem?_eq_getElem hi] at e1
  rw [List.getElem?_map, valsP, List.getElem?_map, List.getElem?_eq_getElem hi] at e2
  exact ⟨g1, c1, g2, c2, rfl, rfl, h1, h2, e1, e2⟩

set_option maxRecDepth 100000 in
set_option maxHeartbeats 1600000 in
theorem all1_in (n : Nat) (hn : 1 ≤ n) (l bx b : Nat) (F : List Nat) (ps : Prs) (hps : ps.length ≤ 1000000) (cl : Bs × Bs → Bs × Bs) (hcl : ∀ p ∈ ps, cl p = p) (J Jx : Prs → World → Prop)
    (hY : ∀ pre x W, J pre W → pre.length < ps.length → YieldAt Fence.wide (n - 1) Try.prog l (encP cl x) W fun e W' =>
      (e = .returned (.bool true) ∧ J (pre ++ [x]) W' ∧ KB F bx W W') ∨ (e = .returned (.bool false) ∧ Jx (pre ++ [x]) W'))
    (W : World) (hbx : W.cell? ⟨bx, 0, none⟩ = some (.pointer (some ⟨b, 0, none⟩))) (hB : Bk W b F ps) (h0 : J [] W) :
    CallsIn Fence.wide n Try.prog 57 #[.func (.yield l) #[] #[], .pointer (some ⟨bx, 0, none⟩)] W fun e W' => (∃ v, e = .returned v) ∧
      ((∃ ys, ys = ps ∧ J ys W') ∨ (∃ pre, pre <+: ps ∧ Jx pre W')) := by
  obtain ⟨kv, vv, m, hb, ⟨ko, kc, hko⟩, hcells⟩ := hB.key
  obtain ⟨c0, c1, c2, _⟩ := cells3 hb
  have HB := Lib.hid hB
  have HBX := Lib.hid hbx
  subst hko
  have HBB := Lib.hid hb
  clear hB hcells hb
  refine callsIn_of_wp Try.func57 rfl trivial ?_ rfl
  simp only [Try.ntmps57, List.size_toArray, List.length_cons, List.length_nil, Nat.reduceAdd, Nat.reduceSub, Array.replicate_succ, Array.replicate_zero, List.push_toArray, List.append_toArray, List.nil_append, List.cons_append]
  gi_wp2
  gi_loopw [11] (fun v wr => ∃ i : Nat, i ≤ ps.length ∧ v = .int .i64 i ∧ J (ps.take i) wr ∧ KB F bx W wr) (fun i _ => ps.length - (intOf i).toNat)
  case atStart => exact ⟨0, Nat.zero_le _, rfl, h0, KB.refl _ _ _⟩
  case round =>
    obtain ⟨i, hi, rfl, hJ, hK⟩ := hrel
    clear c0 c1 c2 hbx
    by_cases hlt : i < ps.length
    · have hBr := HB.out.kb hK
      obtain ⟨kv', vv', m', hb', _, hcells'⟩ := hBr.key
      have hbb := ((hK.2 b HB.out.mem).trans HBB.out).symm.trans hb'
      obtain ⟨g1, k1, g2, k2, rfl, rfl, l1, l2, e1, e2⟩ := hcells' i hlt
      cases hbb
      obtain ⟨d0, d1, d2, _⟩ := cells3 hb'
      have hbx' : wr.cell? ⟨bx, 0, none⟩ = some (.pointer (some ⟨b, 0, none⟩)) := by
        have := HBX.out
        simp only [World.cell?, hK.1] at this ⊢
        exact this
      have htk : ps.take i ++ [ps[i]] = ps.take (i + 1) := (List.take_succ_eq_append_getElem hlt).symm
      have HJ := Lib.hid hJ
      have HT := Lib.hid htk
      have HK := Lib.hid hK
      have hY' := hY (ps.take i) ps[i] wr hJ (by simp; omega)
      unfold encP at hY'
      rw [hcl _ (List.getElem_mem hlt)] at hY'
      generalize ps[i] = x at *
      have i1 : (i : Int) < (kc : Int) := by omega
      have i2 : (i : Int) < (k2 : Int) := by omega
      clear hJ htk hK hb' hcells' hBr hY
      gi_wp2_with fail
      obtain ⟨fn, tmps, assign, body, hy, hR⟩ := hY'
      gi_wp2_with fail
      first | refine hR.mono ?_ | (rw [hy]; gi_wp2_with fail; refine hR.mono ?_)
      rintro e W3 (⟨rfl, hJ3, hk3⟩ | ⟨rfl, hJx3⟩)
      · gi_wp2_with fail
        go_roundw
        case rel => exact ⟨i + 1, hlt, by go_num, by rw [← HT.out]; exact hJ3, HK.out.trans hk3⟩
        case measure => simp [intOf]; omega
      · gi_wp2_with fail
        refine bodyPost_ret (results_none rfl _ _ _) rfl ?_
        exact ⟨⟨_, rfl⟩, .inr ⟨_, ⟨ps.drop (i + 1), by rw [HT.out, List.take_append_drop]⟩, hJx3⟩⟩
    · obtain rfl : i = ps.length := by omega
      rw [List.take_length] at hJ
      gi_wp2_with fail
      go_end0
      exact ⟨⟨_, rfl⟩, .inl ⟨_, rfl, hJ⟩⟩
theorem all_stops (bx b : Nat) (F : List Nat) (ps : Prs) (hps : ps.length ≤ 1000000) (cl : Bs × Bs → Bs × Bs) (hcl : ∀ p ∈ ps, cl p = p) (w : World) (hbx : bx < w.heap.size) (hc : w.cell? ⟨bx, 0, none⟩ = some (.pointer (some ⟨b, 0, none⟩))) (hB : Bk w b F ps) :
    SeqStopsK Fence.wide 2 Try.prog 57 #[.pointer (some ⟨bx, 0, none⟩)] (encP cl) (KB F bx) (fun ys => ys = ps) (fun pre => pre <+: ps) ps.length w := fun l J Jx W hW hJ _ hY h0 =>
  all1_in 2 (by omega) l bx b F ps hps cl hcl J Jx hY W ((hW.cell (p := ⟨bx, 0, none⟩) hbx).trans hc) (hB.below hW) h0
theorem all_any (b : Nat) (w : World) :
    Calls Try.prog 30 #[.pointer (some ⟨b, 0, none⟩)] w fun e w' => e = .returned (.func (.func 57) #[] #[.pointer (some ⟨w.heap.size, 0, none⟩)]) ∧ w' = w.alloc (.cells #[.pointer (some ⟨b, 0, none⟩)] 38) := by
  go_enter Try.func30, Try.ntmps30
  go_wp2
  go_ret
  exact ⟨rfl, rfl⟩
end Go.Proofs.Ytpaffocniniakaa
