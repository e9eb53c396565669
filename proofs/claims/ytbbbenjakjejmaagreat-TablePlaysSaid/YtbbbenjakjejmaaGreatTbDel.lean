/- A row of pointers: the first that is c, and the row without it. -/
import Derived.Test.YtbbbenjakjejmaaGreatTbRep
import Derived.Deep.LoopGhost
import Derived.IntWalk
import Derived.LaidEqlPtr
import Derived.Lib.SliceRun
import Derived.Lib.LazyBuf
import Derived.Laws.IdiomCopy
import Derived.Deep.QuietTactic
import Derived.BigQuiet
namespace Go.Proofs.YtbbbenjakjejmaaGreat
set_option linter.unusedVariables false
set_option linter.unusedSimpArgs false
open Go.RowKit Go.MapKept Go.WideMaps
theorem _root_.Go.RowKit.Below.mono' {B : Nat} {w w' : World} (h : Below w.heap.size w w') (hB : B ≤ w.heap.size) : Below B w w' := ⟨h.os, h.tape, h.output, h.size, fun k hk => h.block k (by omega)⟩
theorem row_set {w : World} {base : Nat} {e : TypeId} {g n cap i : Nat} {xs : List Value} (x : Value) (h : w.ownsRow base e 1 (.slice (some ⟨g, 0, none⟩) n cap) n xs) (hi : i < n) :
    w.frozen? ⟨g, i, none⟩ = false ∧ (∃ u, w.cell? ⟨g, i, none⟩ = some u) ∧ (w.setCell ⟨g, i, none⟩ x).ownsRow base e 1 (.slice (some ⟨g, 0, none⟩) n cap) n (xs.set i x) := by
  rcases h.2 with ⟨h0, _⟩ | ⟨g', cap', cur, he, hb, hg, h1, h2, h3, h4⟩
  · cases h0
  · cases he
    refine ⟨by simp [World.frozen?, hg], ⟨cur[i]'(by omega), by simp [World.cell?, hg]⟩, by simpa using h.1, .inr ⟨g, cap, cur.setIfInBounds i x, rfl, hb, ?_, h1, h2, by simpa using h3, ?_⟩⟩
    · rw [setCell_eq_setRow w g i _ e (0, 0) x hg]
      exact setRow_heap w g _ _ e (0, 0) hg
    · rw [← h4]
      simp [List.take_set]
theorem set_heap {w : World} {g i : Nat} {cur : Array Value} {e : TypeId} (x : Value) (hg : w.heap[g]? = some (.cells cur e (0, 0))) : (w.setCell ⟨g, i, none⟩ x).heap[g]? = some (.cells (cur.setIfInBounds i x) e (0, 0)) := by
  rw [setCell_eq_setRow w g i _ e (0, 0) x hg]
  exact setRow_heap w g _ _ e (0, 0) hg
theorem clear_heap {g : Nat} {e : TypeId} : ∀ (vs : List Value) (o : Nat) (w : World) (cur : Array Value), w.heap[g]? = some (.cells cur e (0, 0)) → ∃ cur', (w.setCells g o vs).heap[g]? = some (.cells cur' e (0, 0)) ∧ cur'.size = cur.size ∧ cur'.toList.take o = cur.toList.take o
  | [], o, w, cur, h => ⟨cur, h, rfl, rfl⟩
  | v :: vs, o, w, cur, h => by
    obtain ⟨c2, h1, h2, h3⟩ := clear_heap vs (o + 1) _ _ (set_heap (i := o) v h)
    refine ⟨c2, h1, by rw [h2]; simp, ?_⟩
    have h4 := congrArg (List.take o) h3
    rw [List.take_take, List.take_take, show min o (o + 1) = o by omega] at h4
    rw [h4]
    simp [List.take_set_of_le]
theorem Kp.setCells {D : List Nat} {g : Nat} {a : World} (hg : g ∈ D) : ∀ (vs : List Value) (o : Nat) (w : World), Kp D a w → Kp D a (w.setCells g o vs)
  | [], o, w, h => h
  | v :: vs, o, w, h => Kp.setCells hg vs (o + 1) _ (h.setCell g o v (.inl hg))
/-- The first that is not kept; -1 if all are. -/
def FirstNo (m : Nat → Bool) (ss : List Nat) (e : Int) : Prop := (e = -1 ∧ ∀ x ∈ ss, m x = true) ∨ ∃ (i : Nat) (h : i < ss.length), i ≤ 1000000 ∧ e = (i : Int) ∧ m ss[i] = false ∧ ∀ x ∈ ss.take i, m x = true
theorem row_slice2 {w : World} {base : Nat} {e : TypeId} {size n : Nat} {v : Value} {xs : List Value} (h : w.ownsRow base e size v n xs) : ∃ ao cap, v = .slice ao n cap := by
  rcases h.2 with ⟨rfl, rfl⟩ | ⟨g, cap, cur, rfl, _⟩
  · exact ⟨_, _, rfl⟩
  · exact ⟨_, _, rfl⟩
theorem row_some {W : World} {base : Nat} {e : TypeId} {v : Value} {n : Nat} {xs : List Value} (h : W.ownsRow base e 1 v n xs) (hn : 0 < n) : ∃ g c, v = .slice (some ⟨g, 0, none⟩) n c ∧ n ≤ c ∧ c ≤ maxLen ∧ g < W.heap.size := by
  rcases h.2 with ⟨_, h0⟩ | ⟨g, cap, cur, rfl, _, hg, h1, h2, _⟩
  · omega
  · exact ⟨g, cap, rfl, h1, h2, (Array.getElem?_eq_some_iff.1 hg).1⟩
theorem infoCmd : (Tryz.prog.info? 63).map (·.size) = some 5 := by kernel_rfl
theorem ptr_same (c : Nat) (W : World) : (binOp .eql 60 (.pointer (some ⟨c, 0, none⟩)) (.pointer (some ⟨c, 0, none⟩))).run Tryz.prog W = .ok (.bool true) W := by
  obtain ⟨j, hj, _⟩ := Option.map_eq_some_iff.1 infoCmd
  exact run_eql_ptr_same W _ Tryz.underlying60 hj
/-- A command's block. -/
def IsC (w : World) (a : Nat) : Prop := ∃ cs, w.heap[a]? = some (.cells cs 63 (0, 0))
theorem IsC.below {w w' : World} {a B : Nat} (h : IsC w a) (hb : Below B w w') (ha : a < B) : IsC w' a := by
  obtain ⟨cs, h⟩ := h
  exact ⟨cs, (hb.block a ha).trans h⟩
theorem IsC.lt {w : World} {a : Nat} (h : IsC w a) : a < w.heap.size := by
  obtain ⟨cs, h⟩ := h
  exact (Array.getElem?_eq_some_iff.1 h).1
theorem ptr_other {W : World} {c d : Nat} (hc : IsC W c) (hd : IsC W d) (hne : ¬ c = d) : (binOp .eql 60 (.pointer (some ⟨c, 0, none⟩)) (.pointer (some ⟨d, 0, none⟩))).run Tryz.prog W = .ok (.bool false) W := by
  obtain ⟨j, hj, hjs⟩ := Option.map_eq_some_iff.1 infoCmd
  obtain ⟨n1, h1⟩ := hc
  obtain ⟨n2, h2⟩ := hd
  exact run_eql_ptr_other W Tryz.underlying60 hj (by rw [hjs]; decide) (by intro e; exact hne (by cases e; rfl)) h1 h2
theorem ptr_eq {W : World} {c d : Nat} (hc : IsC W c) (hd : IsC W d) : (binOp .eql 60 (.pointer (some ⟨c, 0, none⟩)) (.pointer (some ⟨d, 0, none⟩))).run Tryz.prog W = .ok (.bool (c == d)) W := by
  by_cases h : c = d
  · subst h; rw [ptr_same, beq_self_eq_true]
  · rw [ptr_other hc hd h, beq_eq_false_iff_ne.2 h]
set_option maxHeartbeats 400000 in
theorem pred_t {xb a b : Nat} (W : World) (hx : W.cell? ⟨xb, 0, none⟩ = some (ptrC b)) (ha : IsC W a) (hb : IsC W b) :
    Calls Tryz.prog 59 #[ptrC a, .pointer (some ⟨xb, 0, none⟩)] W fun e w' => e = .returned (.bool (a == b)) ∧ Below W.heap.size W w' := by
  have hq : ∀ n, (binOp .eql 60 (.pointer (some ⟨a, 0, none⟩)) (.pointer (some ⟨b, 0, none⟩))).run Tryz.prog (W.drewN n) = .ok (.bool (a == b)) (W.drewN n) := fun n => ptr_eq (ha.below (below_drewN (Below.refl _ W) n) ha.lt) (hb.below (below_drewN (Below.refl _ W) n) hb.lt)
  have hq0 := ptr_eq ha hb
  unfold ptrC at *
  generalize (a == b) = q at *
  clear ha hb
  go_enter Tryz.func59, Tryz.ntmps59
  go_wp2
  go_ret
  exact ⟨rfl, Below.refl _ _⟩
set_option maxRecDepth 100000 in
set_option maxHeartbeats 800000 in
theorem idx_t {B xb b : Nat} {bs : List Nat} {v : Value} (w : World) (hx : w.cell? ⟨xb, 0, none⟩ = some (ptrC b)) (hxl : xb < w.heap.size) (hty : ∀ a, a = b ∨ a ∈ bs → IsC w a) (hn : bs.length ≤ 1000000) (ho : w.ownsRow B 60 1 v bs.length (bs.map ptrC)) :
    Calls Tryz.prog 68 #[v, .func (.func 59) #[] #[.pointer (some ⟨xb, 0, none⟩)]] w fun e w' => ∃ i : Int, e = .returned (.int .i64 i) ∧ FirstNo (fun x => !(x == b)) bs i ∧ Below w.heap.size w w' := by
  obtain ⟨o, c, rfl⟩ := row_slice2 ho
  have PR : Hid (∀ W k, Below w.heap.size w W → k ∈ bs → Calls Tryz.prog 59 #[ptrC k, .pointer (some ⟨xb, 0, none⟩)] W fun e w' => e = .returned (.bool (k == b)) ∧ Below W.heap.size W w') := fun W k h hk => pred_t W ((h.cell (p := ⟨xb, 0, none⟩) hxl).trans hx) ((hty k (.inr hk)).below h (hty k (.inr hk)).lt) ((hty b (.inl rfl)).below h (hty b (.inl rfl)).lt)
  have HT := Lib.hid ho
  obtain ⟨n, hnn⟩ : ∃ n, bs.length = n := ⟨_, rfl⟩
  have HN := Lib.hid hnn
  rw [hnn] at HT hn ⊢
  clear ho hx hxl hnn hty
  go_enter Tryz.func68, Tryz.ntmps68
  go_wp2_with fail
  go_loopg [5, 8] n (fun g _ i wr => ∃ j : Nat, j + g = n ∧ i = .int .i64 (j : Int) ∧ Below w.heap.size w wr ∧ Hid (∀ x ∈ bs.take j, (!(x == b)) = true))
  case atStart => exact ⟨0, by omega, rfl, Below.refl _ _, fun x hx => by simp at hx⟩
  case round =>
    obtain ⟨j, hjg, rfl, hb, HI⟩ := hrel
    have hnn := HN.out
    by_cases hlt : j < n
    · have hRow := ownsRow_kp HT.out (kp_of_below hb) (by simp)
      obtain ⟨gb, c', e, _⟩ := row_some hRow (by omega)
      cases e
      have hc := hRow.cellAt j (by omega)
      rw [List.getElem?_map, List.getElem?_eq_getElem (by omega)] at hc
      have PR2 := Lib.hid (PR.out wr _ hb (List.getElem_mem (by omega : j < bs.length)))
      have HL : Hid (∀ q, (bs[j]'(by omega) == b) = q → if q then FirstNo (fun x => !(x == b)) bs (j : Int) else ∀ x ∈ bs.take (j + 1), (!(x == b)) = true) := fun q hb' => by
        cases q
        · intro x hx
          rw [List.take_succ_eq_append_getElem (by omega), List.mem_append, List.mem_singleton] at hx
          rcases hx with hx | rfl
          · exact HI.out x hx
          · simp [hb']
        · exact .inr ⟨j, by omega, by omega, rfl, by simp [hb'], HI.out⟩
      generalize bs[j]'(by omega) = k at *
      have hcx : wr.cell? ⟨gb, j, none⟩ = some (.pointer (some ⟨k, 0, none⟩)) := by simpa [ptrC] using hc
      have i1 : j < n := hlt
      have t0 : decide ((j : Int) < (n : Int)) = true := by rw [decide_eq_true_eq]; omega
      have HB := Lib.hid hb
      have HJ := Lib.hid hjg
      unfold ptrC at PR2
      cases hm : (k == b) with
      | false =>
        rw [hm] at PR2
        have HL2 := Lib.hid (HL.out false hm)
        clear hm HL hnn hlt hc hb hjg hRow
        go_wp2_with (go_at_call 59; refine PR2.out.mono ?_; rintro e w1 ⟨rfl, hB1⟩; have H1 := Lib.hid hB1; clear hB1)
        go_roundg (gk - 1)
        case measure => have := HJ.out; omega
        case rel => exact ⟨j + 1, by have := HJ.out; omega, by go_num, HB.out.trans (H1.out.mono HB.out.size), HL2.out⟩
      | true =>
        rw [hm] at PR2
        have HL2 := Lib.hid (HL.out true hm)
        clear hm HL hnn hlt hc hb hjg hRow
        go_wp2_with (go_at_call 59; refine PR2.out.mono ?_; rintro e w1 ⟨rfl, hB1⟩; have H1 := Lib.hid hB1; clear hB1)
        go_ret
        exact ⟨_, rfl, HL2.out, HB.out.trans (H1.out.mono HB.out.size)⟩
    · obtain rfl : j = n := by omega
      have t0 : decide ((j : Int) < (j : Int)) = false := by rw [decide_eq_false_iff_not]; omega
      have HL2 : Hid (FirstNo (fun x => !(x == b)) bs (-1)) := .inl ⟨rfl, fun x hx => HI.out x (by rw [List.take_of_length_le (by omega)]; exact hx)⟩
      clear hnn hlt hjg
      go_wp2_with fail
      go_ret
      exact ⟨_, rfl, HL2.out, hb⟩
set_option maxRecDepth 100000 in
set_option maxHeartbeats 1600000 in
theorem del_t {B xb b : Nat} {bs : List Nat} {v : Value} (w : World) (hx : w.cell? ⟨xb, 0, none⟩ = some (ptrC b)) (hxl : xb < w.heap.size) (hxv : v.ownBlock ≠ some xb) (hB : B ≤ w.heap.size) (hty : ∀ a, a = b ∨ a ∈ bs → IsC w a) (hn : bs.length ≤ 1000000) (ho : w.ownsRow B 60 1 v bs.length (bs.map ptrC)) :
    Calls Tryz.prog 58 #[v, .func (.func 59) #[] #[.pointer (some ⟨xb, 0, none⟩)]] w fun e w' => ∃ v', e = .returned v' ∧ w'.ownsRow B 60 1 v' (bs.filter fun x => !(x == b)).length ((bs.filter fun x => !(x == b)).map ptrC) ∧ v'.ownBlock = v.ownBlock ∧ Kp v.ownBlock.toList w w' := by
  have IX := Lib.hid (idx_t w hx hxl hty hn ho)
  obtain ⟨o, c, rfl⟩ := row_slice2 ho
  have hog : ∀ g, (Value.slice o bs.length c).ownBlock = some g → IsC w g → False := fun g hg ⟨cs, hc⟩ => by
    obtain ⟨_, cur, h1⟩ := ownsRow_type ho g hg
    rw [h1] at hc
    simp at hc
  have PR : Hid (∀ W k, Kp (Value.slice o bs.length c).ownBlock.toList w W → k ∈ bs → Calls Tryz.prog 59 #[ptrC k, .pointer (some ⟨xb, 0, none⟩)] W fun e w' => e = .returned (.bool (k == b)) ∧ Below W.heap.size W w') := fun W k h hk => by
    have hC : ∀ a, IsC w a → IsC W a := fun a ⟨cs, hc⟩ => ⟨cs, (h.block a (Array.getElem?_eq_some_iff.1 hc).1 (fun hm => hog a (by simpa using hm) ⟨cs, hc⟩)).trans hc⟩
    have hx' : W.cell? ⟨xb, 0, none⟩ = some (ptrC b) := by
      have := h.block xb hxl (fun hm => hxv (by simpa using hm))
      simp only [World.cell?, this] at hx ⊢
      exact hx
    exact pred_t W hx' (hC _ (hty k (.inr hk))) (hC _ (hty b (.inl rfl)))
  have hnc : bs.length ≤ c ∧ c ≤ maxLen := by
    rcases ho.2 with ⟨e, h0⟩ | ⟨g, cap, cur, e, _, _, h1, h2, _⟩
    · have e3 : c = 0 := by injection e
      rw [e3, h0]; exact ⟨Nat.le_refl _, by unfold maxLen; omega⟩
    · have e3 : c = cap := by injection e
      rw [e3]; exact ⟨h1, h2⟩
  obtain ⟨hnc, hcm⟩ := hnc
  obtain ⟨n, hnn⟩ : ∃ n, bs.length = n := ⟨_, rfl⟩
  rw [hnn] at IX ho hn hnc PR hxv ⊢
  have HO := Lib.hid ho
  have HN := Lib.hid hnn
  unfold maxLen at hcm
  have HB0 := Lib.hid hB
  have hne : ∀ k : Nat, ((k : Int) == -1) = false := fun k => by rw [beq_eq_false_iff_ne]; omega
  clear ho hx hnn hB hty hog hxl hxv
  go_enter Tryz.func58, Tryz.ntmps58
  go_wp2_with (go_at_call 68; refine IX.out.mono ?_; rintro e w1 ⟨i, rfl, hf, hB1⟩; have H1 := Lib.hid hB1; clear hB1; rcases hf with ⟨rfl, hall⟩ | ⟨k0, hk0, hk9, rfl, hm, hall⟩)
  · go_ret
    have hfl : bs.filter (fun x => !(x == b)) = bs := List.filter_eq_self.2 hall
    refine ⟨_, rfl, ?_, rfl, (kp_of_below H1.out).mono (by simp)⟩
    rw [hfl, HN.out]
    exact ownsRow_kp HO.out (kp_of_below H1.out) (by simp)
  · obtain ⟨gb, c', e, _⟩ := row_some HO.out (by have := HN.out; omega)
    cases e
    have own1 := ownsRow_kp HO.out (kp_of_below H1.out) (by simp)
    have hst : Hid (bs.length = n ∧ w1.ownsRow B 60 1 (.slice (some ⟨gb, 0, none⟩) n c) n (bs.map ptrC) ∧ bs.take k0 = (bs.take (k0 + 1)).filter (fun x => !(x == b)) ∧ bs.drop (k0 + 1) = bs.drop (k0 + 1)) := by
      refine ⟨HN.out, own1, ?_, rfl⟩
      rw [List.take_succ_eq_append_getElem hk0, List.filter_append, List.filter_eq_self.2 hall]
      simp [hm]
    have hkn : k0 + 1 ≤ n := by have := HN.out; omega
    have hBw1 : Hid (Kp [gb] w w1) := (kp_of_below H1.out).mono (by simp)
    clear hall hm hk0 own1
    go_loopg [5, 6, 7] (n - (k0 + 1)) (fun g s5 s6 _ wr => ∃ (i j : Nat) (row : List Nat), j + g = n ∧ i < j ∧ s5 = .int .i64 (i : Int) ∧ s6 = .int .i64 (j : Int) ∧ Kp [gb] w wr ∧ Hid (row.length = n ∧ wr.ownsRow B 60 1 (.slice (some ⟨gb, 0, none⟩) n c) n (row.map ptrC) ∧ row.take i = (bs.take j).filter (fun x => !(x == b)) ∧ row.drop j = bs.drop j))
    case atStart => exact ⟨k0, k0 + 1, bs, by omega, by omega, rfl, by go_num, hBw1.out, hst.out⟩
    case round =>
      obtain ⟨i, j, row, hjg, hij, rfl, rfl, hb, HR⟩ := hrel
      obtain ⟨r1, r2, r3, r4⟩ := HR.out
      have hnn := HN.out
      by_cases hlt : j < n
      · have hx1 : row[j]'(by omega) = bs[j]'(by omega) := by
          have h1 := List.drop_eq_getElem_cons (l := row) (i := j) (by omega)
          have h2 := List.drop_eq_getElem_cons (l := bs) (i := j) (by omega)
          rw [r4, h2] at h1
          exact (List.cons.inj h1).1.symm
        have r5 : row.drop (j + 1) = bs.drop (j + 1) := by
          have h1 := congrArg (List.drop 1) r4
          simpa [List.drop_drop] using h1
        have hc := r2.cellAt j (by omega)
        rw [List.getElem?_map, List.getElem?_eq_getElem (by omega), hx1] at hc
        have PR2 := Lib.hid (PR.out wr _ hb (List.getElem_mem (by omega : j < bs.length)))
        have hft : ∀ q, (bs[j]'(by omega) == b) = q → (bs.take (j + 1)).filter (fun x => !(x == b)) = (bs.take j).filter (fun x => !(x == b)) ++ if q then [] else [bs[j]'(by omega)] := fun q hb' => by
          rw [List.take_succ_eq_append_getElem (by omega), List.filter_append]
          cases q <;> simp [hb']
        generalize bs[j]'(by omega) = k at *
        have hcx : wr.cell? ⟨gb, j, none⟩ = some (.pointer (some ⟨k, 0, none⟩)) := by simpa [ptrC] using hc
        have t0 : decide ((j : Int) < (n : Int)) = true := by rw [decide_eq_true_eq]; omega
        have i1 : j < n := hlt
        have i2 : i < n := by omega
        have HB := Lib.hid hb
        have HJ := Lib.hid (And.intro hjg hij)
        unfold ptrC at PR2
        cases hm : (k == b) with
        | false =>
          rw [hm] at PR2
          have hf := hft false hm
          simp only [Bool.false_eq_true, if_false] at hf
          have SET : Hid (∀ W, Below wr.heap.size wr W → W.frozen? ⟨gb, i, none⟩ = false ∧ (∃ u, W.cell? ⟨gb, i, none⟩ = some u) ∧ (row.set i k).length = n ∧ (W.setCell ⟨gb, i, none⟩ (.pointer (some ⟨k, 0, none⟩))).ownsRow B 60 1 (.slice (some ⟨gb, 0, none⟩) n c) n ((row.set i k).map ptrC) ∧ (row.set i k).take (i + 1) = (bs.take (j + 1)).filter (fun x => !(x == b)) ∧ (row.set i k).drop (j + 1) = bs.drop (j + 1)) := fun W hW => by
            obtain ⟨q1, q2, q3⟩ := row_set (i := i) (.pointer (some ⟨k, 0, none⟩)) (ownsRow_kp r2 (kp_of_below hW) (by simp)) i2
            refine ⟨q1, q2, by rw [List.length_set]; exact r1, by rw [List.map_set]; exact q3, ?_, ?_⟩
            · rw [hf, ← r3, List.take_succ_eq_append_getElem (by rw [List.length_set]; omega), List.take_set_of_le (Nat.le_refl _)]
              simp
            · rw [List.drop_set_of_lt (by omega)]
              exact r5
          clear hm hft hf hnn hlt hc hb hjg hij r1 r2 r3 r4 r5 hx1 HR
          go_wp2_with (go_at_call 59; refine PR2.out.mono ?_; rintro e w2 ⟨rfl, hB2⟩; obtain ⟨f1, ⟨u, c1⟩, hS⟩ := SET.out w2 hB2; have H2 := Lib.hid (And.intro hB2 hS); clear hB2 hS)
          go_roundg (gk - 1)
          case measure => have := HJ.out; omega
          case rel => exact ⟨i + 1, j + 1, row.set i k, by have := HJ.out; omega, by have := HJ.out; omega, by go_num, by go_num, (HB.out.trans (kp_of_below H2.out.1) (by simp)).setCell gb i _ (.inl (by simp)), H2.out.2⟩
        | true =>
          rw [hm] at PR2
          have hf := hft true hm
          simp only [if_true, List.append_nil] at hf
          have KE : Hid (∀ W, Below wr.heap.size wr W → row.length = n ∧ W.ownsRow B 60 1 (.slice (some ⟨gb, 0, none⟩) n c) n (row.map ptrC) ∧ row.take i = (bs.take (j + 1)).filter (fun x => !(x == b)) ∧ row.drop (j + 1) = bs.drop (j + 1)) := fun W hW => ⟨r1, ownsRow_kp r2 (kp_of_below hW) (by simp), by rw [hf]; exact r3, r5⟩
          clear hm hft hf hnn hlt hc hb hjg hij r1 r2 r3 r4 r5 hx1 HR
          go_wp2_with (go_at_call 59; refine PR2.out.mono ?_; rintro e w2 ⟨rfl, hB2⟩; have H2 := Lib.hid hB2; clear hB2)
          go_roundg (gk - 1)
          case measure => have := HJ.out; omega
          case rel => exact ⟨i, j + 1, row, by have := HJ.out; omega, by have := HJ.out; omega, rfl, by go_num, HB.out.trans (kp_of_below H2.out) (by simp), KE.out _ H2.out⟩
      · obtain rfl : j = n := by omega
        have t0 : decide ((j : Int) < (j : Int)) = false := by rw [decide_eq_false_iff_not]; omega
        have hcl : ∀ ty, (Builtin.clear_ #[61] ty #[.slice (some ⟨gb, i, none⟩) (j - i) (c - i)]).run Tryz.prog wr = .ok (.tuple #[]) (wr.setCells gb i (List.replicate (j - i) (.pointer none))) :=
          fun ty => Lib.run_clear_slice wr _ _ ty _ Tryz.underlying61 (fun w => zero_cmd w) rfl rfl gb i _ _ (by omega) (fun q hq => by
            have h := r2.cellAt (i + q) (by omega)
            rw [List.getElem?_map, List.getElem?_eq_getElem (by omega)] at h
            rw [h]; rfl) (fun q hq => r2.frozenAt (i + q))
        have hlen : ((bs.take j).filter (fun x => !(x == b))).length = i := by rw [← r3, List.length_take]; omega
        have hfin : Hid ((wr.setCells gb i (List.replicate (j - i) (.pointer none))).ownsRow B 60 1 (.slice (some ⟨gb, 0, none⟩) i c) (bs.filter (fun x => !(x == b))).length ((bs.filter (fun x => !(x == b))).map ptrC) ∧ Kp [gb] w (wr.setCells gb i (List.replicate (j - i) (.pointer none)))) := by
          rw [← hnn, List.take_length] at r3 hlen
          refine ⟨?_, hb.setCells (by simp) _ _ _⟩
          rcases r2.2 with ⟨e, _⟩ | ⟨g', cap', cur, e, hgB, hg, h1, h2, h3, h4⟩
          · cases e
          · cases e
            obtain ⟨c2, k1, k2, k3⟩ := clear_heap (List.replicate (j - i) (.pointer none)) i wr cur hg
            refine ⟨by simp, .inr ⟨gb, c, c2, by rw [hlen], hgB, k1, by rw [hlen]; omega, h2, by rw [k2]; exact h3, ?_⟩⟩
            rw [hlen, Nat.mul_one, k3, ← r3, List.map_take, ← h4, List.take_take, Nat.mul_one, show min i j = i by omega]
        have c4 : ¬ c = i := by omega
        have c5 : (i : Int) ≤ (j : Int) := by omega
        have c6 : (j : Int) ≤ (c : Int) := by omega
        have c7 : (i : Int) ≤ (c : Int) := by omega
        clear hjg hij hlt hnn r1 r2 r3 r4 HR hlen
        go_wp2_with fail
        go_ret
        exact ⟨_, rfl, hfin.out.1, rfl, hfin.out.2⟩
end Go.Proofs.YtbbbenjakjejmaaGreat
