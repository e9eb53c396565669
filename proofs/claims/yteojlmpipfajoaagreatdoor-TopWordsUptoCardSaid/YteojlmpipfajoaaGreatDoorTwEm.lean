/- The reader of scripts: a command of quoted words. The reader of scripts: a command of quoted words: the walk. The reader of scripts: the commands of a text that is a list. -/
import Derived.Test.YteojlmpipfajoaaGreatDoorTwVm
namespace Go.Proofs.YteojlmpipfajoaaGreatDoor
set_option linter.unusedVariables false
set_option linter.unusedSimpArgs false
open Go.RowKit
/-- A call of a Go function as one step of a region that draws. -/
theorem step_callF {P : Program} {ops : Array Oper} {o : Oper} {a : Act} {w : World} {K : Act → World → Prop} {Q : Exit → Act → World → Prop} {E : Prop}
    (hg : o.guard = none) (f : FuncId) (xs : Array Operand) (ts : Array TypeId) (hop : o.op = Op.call { callee := Callee.value (.func f), args := xs, argTypes := ts }) (vs : Array Value) (hx : xs.map a.eval = vs) (hf : ∀ w, (callFunc f vs).run P w = .ok (.enter f vs) w)
    (hc : Calls P f vs w fun e w' => ∃ v, e = .returned v ∧ K (a.put o.dst v) w') :
    if Region.wanted o (yielded ops a.tmps) = true then Oper.wp P o a w K Q else E := by
  have hwn : Region.wanted o (yielded ops a.tmps) = true := by simp [Region.wanted, hg]
  rw [if_pos hwn]
  unfold Oper.wp
  simp [execOp, hop, resolve, invoke, hx, Result.andThen, go_sem, hf]
  refine hc.mono ?_
  rintro _ w' ⟨v, rfl, hk⟩
  exact hk
theorem infoWd : (Tryz.prog.info? 41).map (fun i => (i.zero, i.size, i.bytes)) = some (some (.agg #[.bool false, .slice none 0 0]), 2, 32) := by kernel_rfl
section
variable {rb i j : Nat} {s x R : Bs}
/-- Where a quoted word begins. -/
theorem word_head (hd : s.drop j = quote x ++ R) : ∃ h : j < s.length, s[j] ≠ 10 ∧ s[j] ≠ 59 ∧ s[j] ≠ 35 ∧ isW s[j] = false ∧ jnB s j = false ∧ StopB s j := by
  obtain ⟨c, r, h1, h2, h3, h4, h5, h6, h7⟩ := quote_head x
  have hjl : j < s.length := by
    rcases Nat.lt_or_ge j s.length with h' | h'
    · exact h'
    · rw [List.drop_eq_nil_of_le h', h1] at hd; cases hd
  have hsj : s[j] = c := by
    have hd2 := hd
    rw [List.drop_eq_getElem_cons hjl, h1] at hd2
    injection hd2
  have hjn : jnB s j = false := by
    have h8 := h7 R
    rw [← hd] at h8
    unfold jnB Lib.hasPrefix
    cases hp : ([92, 10] : Bs).isPrefixOf (s.drop j) with
    | false => rfl
    | true =>
      exfalso
      apply h8
      obtain ⟨t, ht⟩ := List.isPrefixOf_iff_prefix.1 hp
      rw [← ht]
      rfl
  exact ⟨hjl, by rw [hsj]; exact h3, by rw [hsj]; exact h4, by rw [hsj]; exact h5, by rw [hsj]; exact h2, hjn, .inr ⟨hjl, by rw [hsj]; exact h2, hjn⟩⟩
end
/-- The cells of words whose tokens are told. -/
def flatW : List Value → List Value
  | [] => []
  | t :: ts => .bool false :: t :: flatW ts
theorem flatW_len : ∀ ts : List Value, (flatW ts).length = 2 * ts.length
  | [] => rfl
  | t :: ts => by simp only [flatW, List.length_cons, flatW_len ts]; omega
theorem flatW_snoc : ∀ (ts : List Value) (t : Value), flatW (ts ++ [t]) = flatW ts ++ [.bool false, t]
  | [], t => rfl
  | u :: ts, t => by simp only [List.cons_append, flatW, flatW_snoc ts t]
theorem flatW_get : ∀ (ts : List Value) (j : Nat) (h : j < ts.length), (flatW ts)[2 * j]? = some (.bool false) ∧ (flatW ts)[2 * j + 1]? = some ts[j]
  | t :: ts, 0, _ => ⟨rfl, rfl⟩
  | t :: ts, j + 1, h => flatW_get ts j (by simpa using h)
/-- Words that lie in a row of one's own: the texts l. -/
structure WdsR (w : World) (B : Nat) (V : Value) (ts : List Value) (l : List Bs) : Prop where
  len : ts.length = l.length
  row : w.ownsRow B 41 2 V l.length (flatW ts)
  tok : ∀ j (h : j < ts.length) (h2 : j < l.length), TokAt w ts[j] l[j] ∧ ∀ g c n, ts[j] = .slice (some ⟨g, 0, none⟩) n c → V.ownBlock ≠ some g ∧ B ≤ g
/-- What the loop over words keeps. -/
structure CmI (w wr : World) (rb : Nat) (s : Bs) (l : List Bs) (k : Nat) (V : Value) (i0 : Int) : Prop where
  rd : ∃ j, Rd wr rb s j ∧ (if h : k < l.length then s.drop j = quote l[k] ++ restJ (l.drop (k + 1)) else j = s.length)
  cb : wr.heap[w.heap.size + 1]? = some (.cells #[.int .i64 i0, V] 34 (0, 0))
  rb0 : wr.heap[w.heap.size]? = some (.cells #[.int .i64 0, .slice none 0 0] 34 (0, 0))
  ws : ∃ ts, WdsR wr (w.heap.size + 2) V ts (l.take k)
  kp : Kp [rb] w wr
theorem ownsRow_kpS {w w' : World} {B sz : Nat} {e : TypeId} {v : Value} {n : Nat} {xs : List Value} (h : w.ownsRow B e sz v n xs) {D : List Nat} (hk : Kp D w w') (hd : ∀ b, v.ownBlock = some b → b ∉ D) : w'.ownsRow B e sz v n xs := by
  refine ⟨h.1, ?_⟩
  rcases h.2 with h0 | ⟨g, cap, cur, rfl, hb, hg, rest⟩
  · exact .inl h0
  · exact .inr ⟨g, cap, cur, rfl, hb, (hk.block g (Array.getElem?_eq_some_iff.1 hg).1 (hd g rfl)).trans hg, rest⟩
theorem ownsRow_baseS {w : World} {B sz : Nat} {e : TypeId} {v : Value} {n : Nat} {xs : List Value} (h : w.ownsRow B e sz v n xs) : ∀ b, v.ownBlock = some b → B ≤ b ∧ b < w.heap.size := by
  intro b hb
  rcases h.2 with ⟨rfl, _⟩ | ⟨g, cap, cur, rfl, hB, hg, _⟩
  · simp [Value.ownBlock] at hb
  · simp [Value.ownBlock] at hb; subst hb; exact ⟨hB, (Array.getElem?_eq_some_iff.1 hg).1⟩
theorem WdsR.kp {w w' : World} {B : Nat} {V : Value} {ts : List Value} {l : List Bs} {D : List Nat} (h : WdsR w B V ts l) (hk : Kp D w w') (hD : ∀ d ∈ D, d < B) : WdsR w' B V ts l :=
  ⟨h.len, ownsRow_kpS h.row hk (fun b hb hd => by have := hD b hd; have := (ownsRow_baseS h.row b hb).1; omega), fun j h1 h2 => ⟨(h.tok j h1 h2).1.kp hk (fun g c n e hd => by have := hD g hd; have := ((h.tok j h1 h2).2 g c n e).2; omega), (h.tok j h1 h2).2⟩⟩
section
variable {rb J : Nat} {s : Bs} {l : List Bs}
/-- One word more. -/
theorem cm_next {w wr W w5 w6 : World} {k g5 c5 g6 c6 : Nat} {V : Value} {ts : List Value} {i0 : Int} (hrb : rb < w.heap.size) (H : CmI w wr rb s l k V i0) (hk : k < l.length) (hT : WdsR wr (w.heap.size + 2) V ts (l.take k)) (hW : Below wr.heap.size wr W)
    (ht5 : TokAt w5 (.slice (some ⟨g5, 0, none⟩) 1 c5) l[k]) (hf5 : W.heap.size ≤ g5) (hr5 : Rd w5 rb s J) (hk5 : Kp [rb] W w5) (hk6 : Kp V.ownBlock.toList w5 w6)
    (hown6 : w6.ownsRow (w.heap.size + 2) 41 2 (.slice (some ⟨g6, 0, none⟩) (k + 1) c6) (k + 1) (flatW ts ++ [.bool false, .slice (some ⟨g5, 0, none⟩) 1 c5])) (hat : V.ownBlock = some g6 ∨ g6 = w5.heap.size + 1) (hg6 : g6 < w6.heap.size) :
    Hid (Rd (w6.setCell ⟨w.heap.size + 1, 1, none⟩ (.slice (some ⟨g6, 0, none⟩) (k + 1) c6)) rb s J ∧ (w6.setCell ⟨w.heap.size + 1, 1, none⟩ (.slice (some ⟨g6, 0, none⟩) (k + 1) c6)).heap[w.heap.size + 1]? = some (.cells #[.int .i64 i0, .slice (some ⟨g6, 0, none⟩) (k + 1) c6] 34 (0, 0)) ∧ (w6.setCell ⟨w.heap.size + 1, 1, none⟩ (.slice (some ⟨g6, 0, none⟩) (k + 1) c6)).heap[w.heap.size]? = some (.cells #[.int .i64 0, .slice none 0 0] 34 (0, 0)) ∧ WdsR (w6.setCell ⟨w.heap.size + 1, 1, none⟩ (.slice (some ⟨g6, 0, none⟩) (k + 1) c6)) (w.heap.size + 2) (.slice (some ⟨g6, 0, none⟩) (k + 1) c6) (ts ++ [.slice (some ⟨g5, 0, none⟩) 1 c5]) (l.take (k + 1)) ∧ Kp [rb] w (w6.setCell ⟨w.heap.size + 1, 1, none⟩ (.slice (some ⟨g6, 0, none⟩) (k + 1) c6))) := by
  have hcl : w.heap.size + 1 < wr.heap.size := (Array.getElem?_eq_some_iff.1 H.cb).1
  have hob : ∀ b, V.ownBlock = some b → w.heap.size + 2 ≤ b ∧ b < wr.heap.size := ownsRow_baseS hT.row
  have hobl : ∀ d ∈ V.ownBlock.toList, w.heap.size + 2 ≤ d ∧ d < wr.heap.size := fun d hd => by
    cases hv : V.ownBlock with
    | none => rw [hv] at hd; simp at hd
    | some b => rw [hv] at hd; simp at hd; subst hd; exact hob _ hv
  have s1 := hW.size
  have s2 := hk5.size
  have s3 := hk6.size
  have hK5 : Kp [rb] wr w5 := ((kp_of_below hW).mono (D' := [rb]) (by simp)).trans hk5 (by simp)
  have hK6 : Kp (rb :: V.ownBlock.toList) wr w6 := (hK5.mono (D' := rb :: V.ownBlock.toList) (by simp)).trans hk6 (by intro d hd; left; simp [hd])
  have hKw : Kp [rb] w w6 := H.kp.trans hK6 (by
    intro d hd
    rcases List.mem_cons.1 hd with rfl | hd
    · left; simp
    · right; have := hobl d hd; omega)
  have hne : ∀ d ∈ V.ownBlock.toList, d ≠ rb ∧ d ≠ w.heap.size ∧ d ≠ w.heap.size + 1 := fun d hd => by have := hobl d hd; omega
  have hcb6 : w6.heap[w.heap.size + 1]? = some (.cells #[.int .i64 i0, V] 34 (0, 0)) := (hK6.block _ hcl (by
    intro hm
    rcases List.mem_cons.1 hm with e | hm
    · omega
    · exact (hne _ hm).2.2 rfl)).trans H.cb
  have hr06 : w6.heap[w.heap.size]? = some (.cells #[.int .i64 0, .slice none 0 0] 34 (0, 0)) := (hK6.block _ (by omega) (by
    intro hm
    rcases List.mem_cons.1 hm with e | hm
    · omega
    · exact (hne _ hm).2.1 rfl)).trans H.rb0
  have hr6 : Rd w6 rb s J := hr5.kp hk6 (fun hm => (hne _ hm).1 rfl)
  have hg6b : w.heap.size + 2 ≤ g6 := (ownsRow_baseS hown6 g6 rfl).1
  have hS : Kp [w.heap.size + 1] w6 (w6.setCell ⟨w.heap.size + 1, 1, none⟩ (.slice (some ⟨g6, 0, none⟩) (k + 1) c6)) := (Kp.refl _ w6).setCell _ 1 _ (.inl (by simp))
  have hW6 : WdsR w6 (w.heap.size + 2) (.slice (some ⟨g6, 0, none⟩) (k + 1) c6) (ts ++ [.slice (some ⟨g5, 0, none⟩) 1 c5]) (l.take (k + 1)) := by
    have hlk : (l.take k).length = k := by rw [List.length_take]; omega
    have hlk1 : (l.take (k + 1)).length = k + 1 := by rw [List.length_take]; omega
    have htl : ts.length = k := hT.len.trans hlk
    refine ⟨by rw [List.length_append, htl, hlk1]; rfl, by rw [hlk1, flatW_snoc]; exact hown6, fun j h1 h2 => ?_⟩
    rcases Nat.lt_or_ge j k with hjk | hjk
    · have e1 : (ts ++ [.slice (some ⟨g5, 0, none⟩) 1 c5])[j] = ts[j]'(by omega) := List.getElem_append_left (by omega)
      have e2 : (l.take (k + 1))[j] = (l.take k)[j]'(by omega) := by rw [List.getElem_take, List.getElem_take]
      rw [e1, e2]
      obtain ⟨q1, q2⟩ := hT.tok j (by omega) (by omega)
      obtain ⟨g, c, he, _, hgl, _⟩ := q1.ex
      have hgb := q2 g c 1 he
      refine ⟨q1.kp hK6 (fun g' c' n' e' hm => ?_), fun g' c' n' e' => ?_⟩
      · have hg := q2 g' c' n' e'
        rcases List.mem_cons.1 hm with e | hm
        · omega
        · cases hv : V.ownBlock with
          | none => rw [hv] at hm; simp at hm
          | some b => rw [hv] at hm; simp at hm; subst hm; exact hg.1 hv
      · have hg := q2 g' c' n' e'
        rw [he] at e'
        cases e'
        refine ⟨fun e => ?_, hg.2⟩
        simp [Value.ownBlock] at e
        rcases hat with ha | ha
        · exact hg.1 (by rw [ha, e])
        · omega
    · have hjk' : j = k := by omega
      subst hjk'
      have e1 : (ts ++ [.slice (some ⟨g5, 0, none⟩) 1 c5])[j] = .slice (some ⟨g5, 0, none⟩) 1 c5 := by
        rw [List.getElem_append_right (by omega)]; simp
      have e2 : (l.take (j + 1))[j] = l[j] := by rw [List.getElem_take]
      rw [e1, e2]
      have hn5 : g5 ∉ V.ownBlock.toList := fun hm => by have := hobl _ hm; omega
      refine ⟨ht5.kp hk6 (fun g' c' n' e' => by cases e'; exact hn5), fun g' c' n' e' => ?_⟩
      cases e'
      refine ⟨fun e => ?_, by omega⟩
      simp [Value.ownBlock] at e
      rcases hat with ha | ha
      · have := hob _ ha; omega
      · obtain ⟨g, c, he, _, hgl, _⟩ := ht5.ex
        cases he
        omega
  refine ⟨hr6.kp hS (by simp; omega), ?_, ?_, hW6.kp hS (by simp), hKw.setCell _ 1 _ (.inr (by omega))⟩
  · exact heap_setCell_same w6 (w.heap.size + 1) 1 _ _ _ hcb6
  · exact (hS.block _ (by have := (Array.getElem?_eq_some_iff.1 hr06).1; exact this) (by simp)).trans hr06
end
end Go.Proofs.YteojlmpipfajoaaGreatDoor
namespace Go.Proofs.YteojlmpipfajoaaGreatDoor
set_option linter.unusedVariables false
set_option linter.unusedSimpArgs false
open Go.RowKit
/-- A command that is read. -/
def CmdR (rb : Nat) (s : Bs) (l : List Bs) (i0 : Int) (w : World) : Ending → World → Prop := fun e w' => ∃ V ts, e = .returned (.agg #[.int .i64 i0, V]) ∧ WdsR w' (w.heap.size + 2) V ts l ∧ Rd w' rb s s.length ∧ Kp [rb] w w'
section
variable {rb i : Nat} {s : Bs} {l : List Bs}
theorem cmd_cells {W : World} {b : Nat} {u V : Value} (h : W.heap[b]? = some (.cells #[u, V] 34 (0, 0))) : W.cell? ⟨b, 1, none⟩ = some V ∧ W.frozen? ⟨b, 1, none⟩ = false := by
  refine ⟨?_, by simp [World.frozen?, h]⟩
  simp only [World.cell?, h]; rfl
theorem cm_cb5 {w wr W w5 : World} {k : Nat} {V : Value} {i0 : Int} (hrb : rb < w.heap.size) (H : CmI w wr rb s l k V i0) (hW : Below wr.heap.size wr W) (hk : Kp [rb] W w5) : w5.heap[w.heap.size + 1]? = some (.cells #[.int .i64 i0, V] 34 (0, 0)) := by
  have hcl : w.heap.size + 1 < wr.heap.size := (Array.getElem?_eq_some_iff.1 H.cb).1
  have := hW.size
  exact (hk.block _ (by omega) (by simp; omega)).trans ((hW.block _ hcl).trans H.cb)
theorem cm_row5 {wr W w5 : World} {B n : Nat} {V : Value} {xs : List Value} (hrb : rb < B) (h : wr.ownsRow B 41 2 V n xs) (hW : Below wr.heap.size wr W) (hk : Kp [rb] W w5) : w5.ownsRow B 41 2 V n xs :=
  ownsRow_kpS (ownsRow_kpS h (kp_of_below hW) (by simp)) hk (fun b hb => by have := (ownsRow_baseS h b hb).1; simp; omega)
theorem cm_cb6 {w5 w6 : World} {B n : Nat} {u V : Value} {xs : List Value} {o : Obj} (h5 : w5.heap[B]? = some (.cells #[u, V] 34 (0, 0))) (hr : w5.ownsRow (B + 1) 41 2 V n xs) (hg : (w5.alloc o).grownBy w6 V.ownBlock) : w6.heap[B]? = some (.cells #[u, V] 34 (0, 0)) := by
  have hl := (Array.getElem?_eq_some_iff.1 h5).1
  exact (hg.block B (by simp; omega) (fun e => by have := (ownsRow_baseS hr B e.symm).1; omega)).trans ((Below.heap_alloc w5 o _ hl).trans h5)
theorem cm_blk {w8 W7 : World} {b : Nat} {o : Obj} (h : W7.heap[b]? = some o) (hk : Kp [rb] W7 w8) (hb : b ≠ rb) : w8.heap[b]? = some o :=
  (hk.block b (Array.getElem?_eq_some_iff.1 h).1 (by simpa using hb)).trans h
set_option maxRecDepth 100000 in
set_option maxHeartbeats 6400000 in
theorem command_any {w : World} (h : Rd w rb s i) (hl : l ≠ []) (hd : s.drop i = joinL l) (hln : l.length ≤ 100000) (hxl : ∀ x ∈ l, x.length ≤ 100000) :
    Calls Tryz.prog 50 #[.pointer (some ⟨rb, 0, none⟩), .bool false] w (CmdR rb s l (i : Int) w) := by
  have hrb := h.lt
  have hlen := h.len
  have hlp : 0 < l.length := List.length_pos_iff.2 hl
  obtain ⟨i0, e0, e1, e2, e3⟩ := info_parts infoWd
  have hA1 := (Below.refl w.heap.size w).alloc (Nat.le_refl _) (.cells #[.int .i64 0, .slice none 0 0] 34)
  have hA2 := hA1.alloc (by simp) (.cells #[.int .i64 (i : Int), .slice none 0 0] 34)
  have hI0 : CmI w ((w.alloc (.cells #[.int .i64 0, .slice none 0 0] 34)).alloc (.cells #[.int .i64 (i : Int), .slice none 0 0] 34)) rb s l 0 (.slice none 0 0) (i : Int) := by
    refine ⟨⟨i, h.below hA2, ?_⟩, ?_, ?_, ⟨[], rfl, World.ownsRow_nil _ _ _ _, fun j hj => by simp at hj⟩, (kp_of_below hA2).mono (by simp)⟩
    · rw [dif_pos hlp]
      cases l with
      | nil => exact absurd rfl hl
      | cons x r => rw [hd, join_rest]; rfl
    · have hz : (w.alloc (.cells #[.int .i64 0, .slice none 0 0] 34)).heap.size = w.heap.size + 1 := by simp
      have := heap_alloc_new (w.alloc (.cells #[.int .i64 0, .slice none 0 0] 34)) (.cells #[.int .i64 (i : Int), .slice none 0 0] 34)
      rw [hz] at this
      exact this
    · exact (Below.heap_alloc _ _ _ (by simp)).trans (heap_alloc_new w _)
  obtain ⟨c0, c1, -, -, -, fz⟩ := (h.below hA1).f
  have HI0 := Lib.hid hI0
  have HXL := Lib.hid hxl
  clear h hl hd hA1 hA2 hI0 hxl
  go_enter Tryz.func50, Tryz.ntmps50
  go_wp2_with fail
  go_loopg [] l.length (fun g wr => ∃ k V, k + g = l.length ∧ Hid (CmI w wr rb s l k V (i : Int)))
  case atStart => exact ⟨0, _, by omega, HI0.out⟩
  case round =>
    obtain ⟨k, V, hkg, HI⟩ := hrel
    obtain ⟨j, hj, hdj⟩ := HI.out.rd
    clear c0 c1 fz
    by_cases hlt : k < l.length
    · rw [dif_pos hlt] at hdj
      obtain ⟨hjl, n1, n2, -, n4, n5, -⟩ := word_head hdj
      have PN := Lib.hid (parted_no hj hjl n1 n2)
      unfold QB at PN
      have HRR : Rest (restJ (l.drop (k + 1))) := restJ_rest _
      obtain ⟨x, hx⟩ : ∃ x, l[k] = x := ⟨_, rfl⟩
      rw [hx] at hdj
      have hxlen : x.length ≤ 100000 := by rw [← hx]; exact HXL.out _ (List.getElem_mem hlt)
      have WD := Lib.hid (fun W (hW : Below wr.heap.size wr W) => word_any (hj.below hW) hdj HRR hxlen)
      obtain ⟨J, hJ⟩ : ∃ J, j + (quote x).length = J := ⟨_, rfl⟩
      rw [hJ] at WD
      have hdJ : s.drop J = restJ (l.drop (k + 1)) := by rw [← hJ]; exact drop_more hdj
      have HDJ := Lib.hid hdJ
      have HBd := Lib.hid (fun n => below_drewN (Below.refl wr.heap.size wr) n)
      obtain ⟨ts, hT⟩ := HI.out.ws
      have HT := Lib.hid hT
      have HXE := Lib.hid hx
      have hcl : w.heap.size + 1 < wr.heap.size := (Array.getElem?_eq_some_iff.1 HI.out.cb).1
      have hc1 : wr.cell? ⟨w.heap.size + 1, 1, none⟩ = some V := by have := HI.out.cb; simp only [World.cell?, this]; rfl
      have hf1 : wr.frozen? ⟨w.heap.size + 1, 1, none⟩ = false := by have := HI.out.cb; simp [World.frozen?, this]
      have HC := Lib.hid (And.intro hc1 hf1)
      obtain ⟨ao, cp, hV⟩ : ∃ ao cp, V = .slice ao k cp := by
        rcases hT.row.2 with ⟨hV, hn⟩ | ⟨g, cap, cur, hV, _⟩
        · exact ⟨none, 0, by rw [hV]; have : (l.take k).length = k := by rw [List.length_take]; omega
                             rw [this] at hn; rw [hn]⟩
        · exact ⟨_, _, by rw [hV]; congr 1; rw [List.length_take]; omega⟩
      subst hV
      have hrow : wr.ownsRow (w.heap.size + 2) 41 2 (.slice ao k cp) k (flatW ts) := by
        have := hT.row
        rwa [show (l.take k).length = k by rw [List.length_take]; omega] at this
      have HRO := Lib.hid hrow
      clear hj hdj hJ hdJ HRR hT hx n1 n2 n4 n5 hrow hxlen
      go_wp2_with (go_at_call 48; refine PN.out.mono ?_; rintro e w1 ⟨rfl, m1, rfl⟩)
      have HBW := Lib.hid (show Below wr.heap.size wr (wr.drewN m1).drew from (below_drewN (Below.refl _ _) m1).drew)
      go_region_law (first | (refine step_callF rfl 65 _ _ rfl #[.pointer (some ⟨rb, 0, none⟩), .bool false] (by first | rfl | simp [Act.eval, Act.put]) (fun w => enters_of Tryz.func65 (by kernel_rfl) rfl _ w) ?_; refine (WD.out _ (by exact HBW.out)).mono ?_; rintro e w5 ⟨v, rfl, ht5, hf5, hr5, hk5⟩; obtain ⟨g5, c5, rfl, -⟩ := id ht5.ex; refine ⟨_, rfl, ?_⟩; have hb5 := cm_cb5 hrb HI.out HBW.out hk5; have hro := cm_row5 (by omega) HRO.out HBW.out hk5; have hc5 := (cmd_cells hb5).1; have hc5a := (fun o => (cmd_cells ((Below.heap_alloc w5 o _ (Array.getElem?_eq_some_iff.1 hb5).1).trans hb5)).1); have H5 := Lib.hid (And.intro ht5 (And.intro (hf5 g5 c5 1 rfl) (And.intro hr5 (And.intro hk5 (And.intro hb5 hro))))); have hs5b : wr.heap.size ≤ w5.heap.size := (Nat.le_trans HBW.out.size hk5.size); clear ht5 hf5 hr5 hk5 hb5 hro) | (refine step_append_lies _ rfl (.tmp 16) (.tmp 20) 32 (by rfl) (w.heap.size + 2) 41 i0 (.agg #[.bool false, .slice none 0 0]) 2 32 Tryz.underlying32 e0 e1 e2 e3 rfl (by decide) _ k _ (by rfl) (H5.out.2.2.2.2.2.alloc _) ⟨w5.heap.size, 0, none⟩ 1 1 [.bool false, .slice (some ⟨g5, 0, none⟩) 1 c5] (by rfl) rfl (World.news_of_block (cs := #[.bool false, .slice (some ⟨g5, 0, none⟩) 1 c5]) (heap_alloc_new _ _)) (by simp [Value.oneCell']) (by decide) (by unfold maxLen; omega) (by omega) (by simp <;> omega) (w5.heap.size + 1) (by simp) ?_; intro g6 c6 w6 hown6 hgrow hat hlt6; have hb6 := cm_cb6 H5.out.2.2.2.2.1 H5.out.2.2.2.2.2 hgrow; obtain ⟨f6, ff6⟩ := cmd_cells hb6; have H6 := Lib.hid (And.intro hown6 (And.intro hgrow (And.intro hat hlt6))); clear hown6 hgrow hat hlt6 hb6))
      all_goals
        have hk6 : Kp (Value.slice ao k cp).ownBlock.toList w5 w6 := ((Kp.refl _ w5).alloc _).grown H6.out.2.1 (fun b hb => .inl (by rw [hb]; simp))
        have hN := cm_next hrb HI.out hlt HT.out HBW.out (by rw [HXE.out]; exact H5.out.1) H5.out.2.1 H5.out.2.2.1 H5.out.2.2.2.1 hk6 H6.out.1 H6.out.2.2.1 H6.out.2.2.2
        generalize w6.setCell ⟨w.heap.size + 1, 1, none⟩ (.slice (some ⟨g6, 0, none⟩) (k + 1) c6) = W7 at *
        clear hk6
        rcases Nat.lt_or_ge (k + 1) l.length with hk1 | hk1
        · have hdc : l.drop (k + 1) = l[k + 1] :: l.drop (k + 1 + 1) := List.drop_eq_getElem_cons hk1
          have hd3 : s.drop J = 32 :: (quote l[k + 1] ++ restJ (l.drop (k + 1 + 1))) := by rw [HDJ.out, hdc]; rfl
          have hd4 : s.drop (J + 1) = quote l[k + 1] ++ restJ (l.drop (k + 1 + 1)) := by rw [← List.drop_drop, hd3]; rfl
          obtain ⟨_, _, _, _, _, _, hst⟩ := word_head hd4
          have hJl : ∃ h : J < s.length, s[J] = 32 := by
            have hh : J < s.length := by
              rcases Nat.lt_or_ge J s.length with h' | h'
              · exact h'
              · rw [List.drop_eq_nil_of_le h'] at hd3; cases hd3
            refine ⟨hh, ?_⟩
            rw [List.drop_eq_getElem_cons hh] at hd3
            injection hd3
          have BL := Lib.hid (blanks_any hN.out.1 (J + 1) (by omega) (fun q h1 h2 => (show J = q by omega) ▸ hJl) hst)
          have HD4 := Lib.hid hd4
          clear hd3 hd4 hst hJl hdc
          go_wp2_with (go_at_call 46; refine BL.out.mono ?_; rintro e w8 ⟨rfl, hr8, hk8⟩; have H8 := Lib.hid (And.intro hr8 hk8); clear hr8 hk8)
          go_roundg (gk - 1)
          case measure => omega
          case rel =>
            obtain ⟨q1, q2, q3, q4, q5⟩ := hN.out
            exact ⟨k + 1, _, by omega, ⟨J + 1, H8.out.1, by rw [dif_pos hk1]; exact HD4.out⟩, cm_blk q2 H8.out.2 (by omega), cm_blk q3 H8.out.2 (by omega), ⟨_, q4.kp H8.out.2 (by simp; omega)⟩, q5.trans H8.out.2 (by simp)⟩
        · have hJl : J = s.length := by
            have e1 := HDJ.out
            rw [List.drop_eq_nil_of_le (show l.length ≤ k + 1 by omega)] at e1
            have := congrArg List.length e1
            have h2 := hN.out.1.le
            simp [restJ] at this
            omega
          have BL := Lib.hid (blanks_any hN.out.1 J (Nat.le_refl _) (fun j h1 h2 => by omega) (.inl hJl))
          have HJL := Lib.hid hJl
          clear hJl
          go_wp2_with (go_at_call 46; refine BL.out.mono ?_; rintro e w8 ⟨rfl, hr8, hk8⟩; have H8 := Lib.hid (And.intro hr8 hk8); clear hr8 hk8)
          go_roundg (gk - 1)
          case measure => omega
          case rel =>
            obtain ⟨q1, q2, q3, q4, q5⟩ := hN.out
            exact ⟨k + 1, _, by omega, ⟨J, H8.out.1, by rw [dif_neg (by omega)]; exact HJL.out⟩, cm_blk q2 H8.out.2 (by omega), cm_blk q3 H8.out.2 (by omega), ⟨_, q4.kp H8.out.2 (by simp; omega)⟩, q5.trans H8.out.2 (by simp)⟩
    · obtain rfl : k = l.length := by omega
      rw [dif_neg (by omega)] at hdj
      subst hdj
      have PN := Lib.hid (parted_end hj)
      unfold QB at PN
      obtain ⟨ts, hT⟩ := HI.out.ws
      rw [List.take_length] at hT
      obtain ⟨ao, cp, hV⟩ : ∃ ao cp, V = .slice ao l.length cp := by
        rcases hT.row.2 with ⟨hV, hn⟩ | ⟨g, cap, cur, hV, _⟩
        · exact ⟨none, 0, by rw [hV, hn]⟩
        · exact ⟨_, _, hV⟩
      subst hV
      have hcb := HI.out.cb
      have hr0 := HI.out.rb0
      have p0 : wr.cell? ⟨w.heap.size + 1, 0, none⟩ = some (.int .i64 (i : Int)) := by simp only [World.cell?, hcb]; rfl
      have p1 : wr.cell? ⟨w.heap.size + 1, 1, none⟩ = some (.slice ao l.length cp) := by simp only [World.cell?, hcb]; rfl
      have p2 : wr.cell? ⟨w.heap.size, 0, none⟩ = some (.int .i64 0) := by simp only [World.cell?, hr0]; rfl
      have p3 : wr.cell? ⟨w.heap.size, 1, none⟩ = some (.slice none 0 0) := by simp only [World.cell?, hr0]; rfl
      have p4 : wr.frozen? ⟨w.heap.size, 0, none⟩ = false := by simp [World.frozen?, hr0]
      have p5 : wr.frozen? ⟨w.heap.size, 1, none⟩ = false := by simp [World.frozen?, hr0]
      have HT := Lib.hid hT
      have HJ := Lib.hid hj
      have HKp := Lib.hid HI.out.kp
      clear hT hj hcb hr0
      go_wp2_with (go_at_call 48; refine PN.out.mono ?_; rintro e w1 ⟨rfl, m1, rfl⟩)
      have hS : Kp [w.heap.size] wr (((wr.drewN m1).setCell ⟨w.heap.size, 0, none⟩ (.int .i64 (i : Int))).setCell ⟨w.heap.size, 1, none⟩ (.slice ao l.length cp)) :=
        (((Kp.refl _ wr).drewN m1).setCell _ 0 _ (.inl (by simp))).setCell _ 1 _ (.inl (by simp))
      exact bodyPost_ret (v := .agg #[.int .i64 (i : Int), .slice ao l.length cp]) (by simp [results, Tryz.results50, go_sem, p0, p1, p2, p3, p4, p5]) rfl ⟨_, ts, rfl, HT.out.kp hS (by simp), HJ.out.kp hS (by simp; omega), HKp.out.trans hS (by simp)⟩
end
end Go.Proofs.YteojlmpipfajoaaGreatDoor
namespace Go.Proofs.YteojlmpipfajoaaGreatDoor
set_option linter.unusedVariables false
set_option linter.unusedSimpArgs false
open Go.RowKit
theorem infoCm : (Tryz.prog.info? 34).map (fun i => (i.zero, i.size, i.bytes)) = some (some (.agg #[.int .i64 0, .slice none 0 0]), 2, 32) := by kernel_rfl
/-- One command whose words are the texts l. -/
structure CmdsAt (w : World) (lo : Nat) (v : Value) (l : List Bs) : Prop where
  ex : ∃ g c V ts B i0, lo ≤ g ∧ lo ≤ B ∧ v = .slice (some ⟨g, 0, none⟩) 1 c ∧ g < w.heap.size ∧ w.cell? ⟨g, 0, none⟩ = some (.int .i64 i0) ∧ w.cell? ⟨g, 1, none⟩ = some V ∧ WdsR w B V ts l
theorem CmdsAt.kp {w w' : World} {lo : Nat} {v : Value} {l : List Bs} {D : List Nat} (h : CmdsAt w lo v l) (hk : Kp D w w') (hD : ∀ d ∈ D, d < lo) : CmdsAt w' lo v l := by
  obtain ⟨g, c, V, ts, B, i0, b1, b2, h1, h3, h4, h5, h6⟩ := h.ex
  have e : ∀ j, w'.cell? ⟨g, j, none⟩ = w.cell? ⟨g, j, none⟩ := fun j => by simp only [World.cell?]; rw [hk.block g h3 (fun hd => by have := hD g hd; omega)]
  exact ⟨g, c, V, ts, B, i0, b1, b2, h1, Nat.lt_of_lt_of_le h3 hk.size, (e 0).trans h4, (e 1).trans h5, h6.kp hk (fun d hd => by have := hD d hd; omega)⟩
theorem CmdsAt.below {w w' : World} {lo : Nat} {v : Value} {l : List Bs} (h : CmdsAt w lo v l) (hb : Below w.heap.size w w') : CmdsAt w' lo v l := h.kp (kp_of_below hb) (by simp)
theorem cmds_new {lo : Nat} {w5 : World} {o : Obj} {V : Value} {ts : List Value} {l : List Bs} {B : Nat} {i0 : Int} (zs : Array Value) (c : Nat) (h : WdsR w5 B V ts l) (hl1 : lo ≤ w5.heap.size) (hl2 : lo ≤ B) : Below w5.heap.size w5 ((w5.alloc o).alloc (.cells (#[.int .i64 i0, V] ++ zs) 34)).drew ∧ CmdsAt ((w5.alloc o).alloc (.cells (#[.int .i64 i0, V] ++ zs) 34)).drew lo (.slice (some ⟨w5.heap.size + 1, 0, none⟩) 1 c) l := by
  have hb : Below w5.heap.size w5 ((w5.alloc o).alloc (.cells (#[.int .i64 i0, V] ++ zs) 34)).drew := (((Below.refl _ _).alloc (Nat.le_refl _) _).alloc (by simp) _).drew
  have hz : (w5.alloc o).heap.size = w5.heap.size + 1 := by simp
  have hn := heap_alloc_new (w5.alloc o) (.cells (#[.int .i64 i0, V] ++ zs) 34)
  rw [hz] at hn
  have hn2 : ((w5.alloc o).alloc (.cells (#[.int .i64 i0, V] ++ zs) 34)).drew.heap[w5.heap.size + 1]? = some (.cells (#[.int .i64 i0, V] ++ zs) 34 (0, 0)) := hn
  refine ⟨hb, ⟨_, _, V, ts, B, i0, by omega, hl2, rfl, (Array.getElem?_eq_some_iff.1 hn2).1, ?_, ?_, h.kp (kp_of_below hb) (by simp)⟩⟩
  · simp only [World.cell?, hn2]; simp [Array.getElem?_append]
  · simp only [World.cell?, hn2]; simp [Array.getElem?_append]
theorem wds_shape {w : World} {B : Nat} {V : Value} {ts : List Value} {l : List Bs} (h : WdsR w B V ts l) : ∃ ao cp, V = .slice ao l.length cp := by
  rcases h.row.2 with ⟨hV, hn⟩ | ⟨g, cap, cur, hV, _⟩
  · exact ⟨none, 0, by rw [hV, hn]⟩
  · exact ⟨_, _, hV⟩
section
variable {rb : Nat} {s : Bs} {l : List Bs}
theorem cm_more {w w1 V w5 w6 : World} (h1 : Kp [rb] w w1) (h5 : Kp [rb] V w5) (h6 : Below w5.heap.size w5 w6) (hV : V.heap = w1.heap := by rfl) (ho : V.os = w1.os := by rfl) (ht : V.tape = w1.tape := by rfl) (hu : V.output = w1.output := by rfl) : Kp [rb] w w6 := by
  have h0 : Kp [rb] w1 V := ⟨ho, ht, hu, by rw [hV]; exact Nat.le_refl _, fun k _ _ => by rw [hV]⟩
  exact ((h1.trans h0 (by simp)).trans h5 (by simp)).trans (kp_of_below h6) (by simp)
set_option maxRecDepth 100000 in
set_option maxHeartbeats 3200000 in
theorem commands_any {w : World} (h : Rd w rb s 0) (hl : l ≠ []) (hd : s = joinL l) (hln : l.length ≤ 100000) (hxl : ∀ x ∈ l, x.length ≤ 100000) :
    Calls Tryz.prog 26 #[.pointer (some ⟨rb, 0, none⟩), .bool false] w fun e w' => ∃ v, e = .returned v ∧ CmdsAt w' w.heap.size v l ∧ Kp [rb] w w' := by
  have hrb := h.lt
  obtain ⟨i0, e0, e1, e2, e3⟩ := info_parts infoCm
  have hd0 : s.drop 0 = joinL l := by rw [List.drop_zero]; exact hd
  have hw0 : ∃ x R, s.drop 0 = quote x ++ R := by
    cases l with
    | nil => exact absurd rfl hl
    | cons x r => exact ⟨x, restJ r, by rw [hd0, join_rest]⟩
  obtain ⟨x, R, hxR⟩ := hw0
  obtain ⟨hjl, n1, n2, n3, -, -, hst⟩ := word_head hxR
  have B0 := Lib.hid (blanks_any h 0 (Nat.le_refl _) (fun j h1 h2 => by omega) hst)
  have CM : Hid (∀ W, Rd W rb s 0 → Calls Tryz.prog 50 #[.pointer (some ⟨rb, 0, none⟩), .bool false] W (CmdR rb s l 0 W)) := fun W hW => command_any hW hl hd0 hln hxl
  have B1 := Lib.hid (fun W (hW : Rd W rb s s.length) => blanks_any hW s.length (Nat.le_refl _) (fun j h1 h2 => by omega) (.inl rfl))
  have t35 : ((s[0].toNat : Int) == 35) = false := u8_ne (n := 35) n3
  have HN12 := Lib.hid (And.intro n1 n2)
  have HW0 := Lib.hid h
  have z1 : (0 : Int) < (s.length : Int) := by omega
  clear h hl hd hd0 hxR hst n1 n2 n3 hxl
  go_enter Tryz.func26, Tryz.ntmps26
  go_wp2_with fail
  go_step3
  go_wp2_with fail
  go_step3
  go_wp2_with fail
  go_loopg [5, 14, 32, 43] 1 (fun g v5 _ _ _ wr => (g = 1 ∧ v5 = .slice none 0 0 ∧ w = wr) ∨ (g = 0 ∧ Hid (CmdsAt wr w.heap.size v5 l ∧ Rd wr rb s s.length ∧ Kp [rb] w wr)))
  case atStart => exact .inl ⟨rfl, rfl, rfl⟩
  case round =>
    rcases hrel with ⟨rfl, rfl, rfl⟩ | ⟨rfl, HI⟩
    · go_wp2_with (go_at_call 46; refine B0.out.mono ?_; rintro e w1 ⟨rfl, hr1, hk1⟩; have H1 := Lib.hid (And.intro hr1 hk1); clear hr1 hk1)
      have EN := Lib.hid (fun n => end_no (H1.out.1.drewN n) hjl)
      have PN := Lib.hid (fun W (hW : Rd W rb s 0) => parted_no hW hjl HN12.out.1 HN12.out.2)
      unfold QB at PN
      obtain ⟨c0, c1, -, -, -, -⟩ := H1.out.1.f
      go_quiet ((go_at_call 47; exact Calls.quiet_of (EN.out _)))
      go_wp2_with (go_at_call 48; refine (PN.out _ (by first | exact H1.out.1.drewN _ | exact (H1.out.1.drewN _).drewN _)).mono ?_; rintro e w2 ⟨rfl, m2, rfl⟩)
      go_quiet (fail)
      go_wp2_with (first | (go_at_call 50; refine (CM.out _ (by first | exact H1.out.1.drewN _ | exact (H1.out.1.drewN _).drewN _ | exact ((H1.out.1.drewN _).drewN _).drewN _)).mono ?_; rintro e w5 ⟨V, ts, rfl, hw5, hr5, hk5⟩; obtain ⟨ao, cp, rfl⟩ := wds_shape hw5; have H5 := Lib.hid (And.intro hw5 (And.intro hr5 hk5)); clear hw5 hr5 hk5))
      obtain ⟨q1, q2, q3⟩ := H5.out
      go_roundg 0
      case measure => omega
      case rel =>
        obtain ⟨r1, r2⟩ := cmds_new (lo := w.heap.size) (o := .cells #[.int .i64 0, .slice ao l.length cp] 34) (i0 := 0) (Builtin.zeroCells #[.int .i64 0, .slice none 0 0] ((Question.appendCap 1 0 34).cut (w5.tape w5.drawn (Question.appendCap 1 0 34)) - 1)) ((Question.appendCap 1 0 34).cut (w5.tape w5.drawn (Question.appendCap 1 0 34))) q1 (Nat.le_trans H1.out.2.size q3.size) (Nat.le_trans H1.out.2.size (Nat.le_add_right _ 2))
        exact .inr ⟨rfl, r2, q2.below r1, cm_more (H1.out.2) q3 r1⟩
    · have EN : Hid (∀ W, Rd W rb s s.length → ∀ n, Calls Tryz.prog 47 #[.pointer (some ⟨rb, 0, none⟩)] (W.drewN n) fun e w' => e = .returned (.bool true) ∧ ∃ m, w' = (W.drewN n).drewN m) := fun W hW n => end_yes (hW.drewN n)
      go_wp2_with (go_at_call 46; refine (B1.out _ HI.out.2.1).mono ?_; rintro e w1 ⟨rfl, hr1, hk1⟩; have H1 := Lib.hid (And.intro hr1 hk1); clear hr1 hk1)
      go_quiet ((go_at_call 47; exact Calls.quiet_of (EN.out _ H1.out.1 _)))
      go_wp2_with fail
      rw [Exit.noGoto_ret]
      go_ret
      exact ⟨_, rfl, (HI.out.1.kp H1.out.2 (by simp; exact hrb)).below (below_drewN (Below.refl _ _) _), (HI.out.2.2.trans H1.out.2 (by simp)).drewN _⟩
end
end Go.Proofs.YteojlmpipfajoaaGreatDoor
