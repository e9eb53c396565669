/- The reference's dictionaries: find. The reference's dictionaries: once. The reference's dictionaries: Pairs. -/
import Derived.Test.YtpaffocniniakaaGreatRListM
import Derived.Test.YtpaffocniniakaaGreatBook15
import Derived.Deep.RegionLaw
namespace Go.Proofs.YtpaffocniniakaaGreat
set_option linter.unusedVariables false
set_option linter.unusedSimpArgs false
open Go.RowKit

/-- Where a key stands among pairs. -/
def findP : Prs → Bs → Option Nat
  | [], _ => none
  | p :: r, k => if p.1 = k then some 0 else (findP r k).map (· + 1)
def findI (ps : Prs) (k : Bs) : Int := match findP ps k with | some j => (2 * j + 1 : Nat) | none => -1
theorem find_lt : ∀ {ps : Prs} {k : Bs} {j : Nat}, findP ps k = some j → ∃ h : j < ps.length, ps[j].1 = k
  | [], _, _, h => by cases h
  | p :: r, k, j, h => by
    unfold findP at h
    split at h
    · rename_i hk; cases h; exact ⟨by simp, hk⟩
    · cases hf : findP r k with
      | none => rw [hf] at h; cases h
      | some i => rw [hf] at h; cases h; obtain ⟨h1, h2⟩ := find_lt hf; exact ⟨by simp; omega, by simpa using h2⟩
theorem flat_get : ∀ (ps : Prs) (j : Nat) (h : j < ps.length), (flatP ps)[2 * j]? = some ps[j].1 ∧ (flatP ps)[2 * j + 1]? = some ps[j].2
  | p :: r, 0, _ => ⟨rfl, rfl⟩
  | p :: r, j + 1, h => by
    have h' : j < r.length := by simp at h; omega
    have := flat_get r j h'
    rw [show 2 * (j + 1) = 2 * j + 2 by omega]
    exact this
theorem find_drop_hit {ps : Prs} {k : Bs} {j : Nat} (h : j < ps.length) (hk : ps[j].1 = k) : findP (ps.drop j) k = some 0 := by
  rw [List.drop_eq_getElem_cons h, findP, if_pos hk]
theorem find_drop_miss {ps : Prs} {k : Bs} {j : Nat} (h : j < ps.length) (hk : ps[j].1 ≠ k) : findP (ps.drop j) k = (findP (ps.drop (j + 1)) k).map (· + 1) := by
  rw [List.drop_eq_getElem_cons h, findP, if_neg hk]
set_option maxRecDepth 100000 in
set_option maxHeartbeats 1600000 in
theorem rfind_any (v : Value) (ps : Prs) (k : Bs) (w : World) (ht : TxtRow w v (flatP ps)) (hl : ps.length ≤ 1000000) :
    Calls Tryz.prog 54 #[v, .string ⟨k.toArray⟩] w fun e w' => e = .returned (.int .i64 (findI ps k)) ∧ w = w' := by
  obtain ⟨o, c, rfl, _⟩ := id ht
  obtain ⟨_, h1, h2, h3⟩ := ht.at_
  have HT := Lib.hid h3
  obtain ⟨n, hn⟩ : ∃ n, (flatP ps).length = n := ⟨_, rfl⟩
  have hfl : n = 2 * ps.length := by rw [← hn, flatP_len]
  have HN := Lib.hid (And.intro hn hfl)
  rw [hn] at h1 ⊢
  clear hn hfl
  unfold maxLen at h2
  clear ht h3
  go_enter Tryz.func54, Tryz.ntmps54
  go_wp2_with fail
  go_loopg [5] ps.length (fun g v wr => ∃ (j : Nat), j + g = ps.length ∧ v = .int .i64 ((2 * j : Nat) : Int) ∧ wr = w ∧ Hid (findP ps k = (findP (ps.drop j) k).map (j + ·)))
  case atStart => exact ⟨0, by omega, rfl, rfl, by show _ = _; cases h : findP ps k <;> simp [h]⟩
  case round =>
    obtain ⟨j, hjg, rfl, rfl, HI⟩ := hrel
    by_cases hlt : j < ps.length
    · obtain ⟨hn, hfl⟩ := HN.out
      obtain ⟨b, off, rfl, hbl, hc⟩ := HT.out (2 * j) (by omega)
      have hget : (flatP ps)[2 * j]'(by omega) = ps[j].1 := by
        have := (flat_get ps j hlt).1
        rw [List.getElem?_eq_getElem (by omega)] at this
        exact Option.some.inj this
      rw [hget] at hc
      obtain ⟨q, hq⟩ : ∃ q, q = ps[j].1 := ⟨_, rfl⟩
      rw [← hq] at hc
      have t0 : decide (((2 * j : Nat) : Int) < (n : Int)) = true := by rw [decide_eq_true_eq]; omega
      have i1 : (2 * j : Nat) < n := by omega
      have i2 : n ≤ 2000000 := by omega
      obtain ⟨jj, hjj⟩ : ∃ jj, 2 * j = jj := ⟨_, rfl⟩
      rw [hjj] at hc t0 i1 ⊢
      have hcx : wr.cell? ⟨b, off + jj, none⟩ = some (.string ⟨q.toArray⟩) := hc
      clear hc hget
      by_cases hk : q = k
      · have HR : Hid (findI ps k = (jj : Int) + 1) := by
          show _ = _
          have h := HI.out
          rw [find_drop_hit hlt (hq ▸ hk)] at h
          unfold findI
          rw [h]; simp only [Option.map_some]; push_cast; omega
        subst hk
        clear HI hq hfl hn hjj
        go_wp2_with fail
        go_ret
        exact ⟨by rw [HR.out]; rfl, rfl⟩
      · have HA : Hid (findP ps k = (findP (ps.drop (j + 1)) k).map (j + 1 + ·)) := by
          show _ = _
          rw [HI.out, find_drop_miss hlt (hq ▸ hk), Option.map_map]
          congr 1; funext x; simp only [Function.comp]; omega
        have hne : (⟨q.toArray⟩ : ByteArray) ≠ ⟨k.toArray⟩ := fun e => hk (by simpa using e)
        have HJ := Lib.hid hjj
        have hk2 : (q == k) = false := beq_eq_false_iff_ne.2 hk
        have hk3 : decide (q = k) = false := decide_eq_false_iff_not.2 hk
        clear HI hq hfl hn hjj
        go_wp2_with fail
        go_roundg (gk - 1)
        case measure => omega
        case rel => exact ⟨j + 1, by omega, by have := HJ.out; rw [show 2 * (j + 1) = jj + 2 by omega]; go_num, rfl, HA⟩
    · obtain rfl : j = ps.length := by omega
      have HR : Hid (findI ps k = -1) := by
        show _ = _
        have h := HI.out
        rw [List.drop_length] at h
        unfold findI
        rw [h]; rfl
      obtain ⟨hn, hfl⟩ := HN.out
      have t0 : decide ((n : Int) < (n : Int)) = false := by rw [decide_eq_false_iff_not]; omega
      rw [show 2 * ps.length = n from hfl.symm]
      clear hn hfl
      clear HI
      go_wp2_with fail
      go_ret
      exact ⟨by rw [HR.out]; rfl, rfl⟩
end Go.Proofs.YtpaffocniniakaaGreat
namespace Go.Proofs.YtpaffocniniakaaGreat
set_option linter.unusedVariables false
set_option linter.unusedSimpArgs false
open Go.RowKit

section
variable {P : Program} {ops : Array Oper} {rest : List Oper} {o : Oper} {a : Act} {w : World} {Q : Exit → Act → World → Prop}
theorem wpList_pushTwo (hgd : o.guard = none) (s xo : Operand) (t : TypeId) (ho : o.op = .call { callee := .builtin .append, args := #[s, xo], argTypes := #[t, t] })
    (base : Nat) (e : TypeId) (z : Value) (bytes : Nat) (ht : P.underlying t = some (.slice e)) (hi : (P.info? e).map (fun i => (i.zero, i.size, i.bytes)) = some (some z, 1, bytes)) (hz : z.cells.size = 1)
    (v : Value) (n : Nat) (xs : List Value) (hs : a.eval s = v) (hown : w.ownsRow base e 1 v n xs)
    (x y : Value) (m : Nat) (hm : w.heap.size = m) (hx : a.eval xo = .slice (some ⟨m, 0, none⟩) 2 2) (hx1 : x.oneCell' = true) (hy1 : y.oneCell' = true)
    (hn : n + 2 ≤ maxLen) (hbytes : (n + 2) * bytes ≤ 140737488355328) (hbase : base ≤ w.heap.size)
    (h : ∀ g cap w', base ≤ g → w'.ownsRow base e 1 (.slice (some ⟨g, 0, none⟩) (n + 2) cap) (n + 2) (xs ++ [x, y]) → Below base w w' → wpList P ops Q rest (a.put o.dst (.slice (some ⟨g, 0, none⟩) (n + 2) cap)) w') :
    wpList P ops Q (o :: rest) a (w.alloc (.cells #[x, y] e)) := by
  subst hm
  obtain ⟨i0, hi0, hz0, hz1, hz2⟩ := info_parts hi
  have hown1 := hown.alloc (.cells #[x, y] e)
  refine wpList_append_own_at _ hgd s xo t ho base e i0 z 1 bytes ht hi0 hz0 hz1 hz2 hz (by decide) v n xs hs hown1 ⟨w.heap.size, 0, none⟩ 2 2 [x, y] hx rfl (fun j u hj => row_new w [x, y] e j u hj) (fun u hu => by rcases List.mem_cons.1 hu with rfl | hu; exact hx1; rw [List.mem_singleton.1 hu]; exact hy1) hn hbytes (by simp; omega) ?_
  intro v' w1 hown' hgrow hnil hloc
  have hb : Below base w w1 := ((Below.refl base w).alloc hbase _).grown hgrow (by simp; omega) (fun b hb => (ownsRow_type hown b hb).1)
  rcases hown'.2 with ⟨_, h0⟩ | ⟨g, cap, cur, rfl, hg, _⟩
  · omega
  · exact h g cap w1 hg hown' hb
end
/-- 'append' of two elements of one cell each, as one step of a region that draws its order. -/
theorem step_append_two {P : Program} {ops : Array Oper} {o : Oper} {a : Act} {w : World} {K : Act → World → Prop} {Q : Exit → Act → World → Prop} {E : Prop}
    (hg : o.guard = none) (s xo : Operand) (t : TypeId) (hop : o.op = Op.call { callee := Callee.builtin Builtin.append, args := #[s, xo], argTypes := #[t, t] })
    (base : Nat) (e : TypeId) (z : Value) (bytes : Nat) (ht : P.underlying t = some (.slice e)) (hi : (P.info? e).map (fun i => (i.zero, i.size, i.bytes)) = some (some z, 1, bytes)) (hz : z.cells.size = 1)
    (v : Value) (n : Nat) (xs : List Value) (hs : a.eval s = v) (w0 : World) (hown : w0.ownsRow base e 1 v n xs)
    (x y : Value) (hw : w = w0.alloc (.cells #[x, y] e)) (hx : a.eval xo = .slice (some ⟨w0.heap.size, 0, none⟩) 2 2) (hx1 : x.oneCell' = true) (hy1 : y.oneCell' = true)
    (hn : n + 2 ≤ maxLen) (hbytes : (n + 2) * bytes ≤ 140737488355328) (hbase : base ≤ w0.heap.size)
    (hK : ∀ g cap w', base ≤ g → w'.ownsRow base e 1 (.slice (some ⟨g, 0, none⟩) (n + 2) cap) (n + 2) (xs ++ [x, y]) → Below base w0 w' → K (a.put o.dst (.slice (some ⟨g, 0, none⟩) (n + 2) cap)) w') :
    if Region.wanted o (yielded ops a.tmps) = true then Oper.wp P o a w K Q else E := by
  subst hw
  have hwn : Region.wanted o (yielded ops a.tmps) = true := by simp [Region.wanted, hg]
  rw [if_pos hwn]
  obtain ⟨i0, hi0, hz0, hz1, hz2⟩ := info_parts hi
  obtain ⟨v', w', hrun, r1, r2, _, _⟩ := run_append_own_at (P := P) (w := w0.alloc (.cells #[x, y] e)) base t o.type e i0 z 1 bytes ht hi0 hz0 hz1 hz2 hz (by decide) v n xs (hown.alloc (.cells #[x, y] e)) ⟨w0.heap.size, 0, none⟩ 2 2 [x, y] rfl (fun j u hj => row_new w0 [x, y] e j u hj) (fun u hu => by rcases List.mem_cons.1 hu with rfl | hu; exact hx1; rw [List.mem_singleton.1 hu]; exact hy1) hn hbytes (by simp; omega)
  unfold Oper.wp
  simp [execOp, hop, resolve, invoke, builtin, hs, hx, hrun, Result.andThen]
  have hb : Below base w0 w' := ((Below.refl base w0).alloc hbase _).grown r2 (by simp; omega) (fun b hb => (ownsRow_type hown b hb).1)
  rcases r1.2 with ⟨_, h0⟩ | ⟨g, cap, cur, rfl, hg', _⟩
  · omega
  · exact hK g cap w' hg' r1 hb
theorem row_set {w : World} {base : Nat} {e : TypeId} {g n cap i : Nat} {xs : List Value} (x : Value) (h : w.ownsRow base e 1 (.slice (some ⟨g, 0, none⟩) n cap) n xs) (hi : i < n) :
    w.frozen? ⟨g, i, none⟩ = false ∧ (∃ u, w.cell? ⟨g, i, none⟩ = some u) ∧ (w.setCell ⟨g, i, none⟩ x).ownsRow base e 1 (.slice (some ⟨g, 0, none⟩) n cap) n (xs.set i x) := by
  rcases h.2 with ⟨h0, _⟩ | ⟨g', cap', cur, he, hb, hg, h1, h2, h3, h4⟩
  · cases h0
  · cases he
    refine ⟨by simp [World.frozen?, hg], ⟨cur[i]'(by omega), by simp [World.cell?, hg]⟩, by simpa using h.1, .inr ⟨g, cap, cur.setIfInBounds i x, rfl, hb, ?_, h1, h2, by simpa using h3, ?_⟩⟩
    · rw [setCell_eq_setRow w g i _ e (0, 0) x hg]
      exact setRow_heap w g _ _ e (0, 0) hg
    · rw [← h4]
      rw [Array.toList_setIfInBounds, List.take_set]
theorem flat_set : ∀ (ps : Prs) (k x : Bs) (j : Nat), findP ps k = some j → flatP (setP ps k x) = (flatP ps).set (2 * j + 1) x
  | [], _, _, _, h => by cases h
  | p :: r, k, x, j, h => by
    unfold findP at h
    rw [setP]
    split at h
    · rename_i hk; cases h; rw [if_pos hk]; simp [flatP, hk]
    · rename_i hk
      rw [if_neg hk]
      cases hf : findP r k with
      | none => rw [hf] at h; cases h
      | some i =>
        rw [hf] at h; cases h
        rw [flatP, flatP, flat_set r k x i hf, show 2 * (i + 1) + 1 = (2 * i + 1) + 1 + 1 by omega]
        rfl
theorem flat_new : ∀ (ps : Prs) (k x : Bs), findP ps k = none → flatP (setP ps k x) = flatP ps ++ [k, x]
  | [], _, _, _ => rfl
  | p :: r, k, x, h => by
    unfold findP at h
    rw [setP]
    split at h
    · cases h
    · rename_i hk
      rw [if_neg hk]
      cases hf : findP r k with
      | none => rw [flatP, flatP, flat_new r k x hf]; rfl
      | some i => rw [hf] at h; cases h
set_option maxRecDepth 100000 in
set_option maxHeartbeats 1600000 in
theorem ronce_any (v : Value) (l : List Bs) (w : World) (ht : TxtRow w v l) (hl : l.length ≤ 100000) :
    Calls Tryz.prog 30 #[v] w fun e w' => ∃ r, e = .returned r ∧ Below w.heap.size w w' ∧ w'.ownsRow w.heap.size 9 1 r (flatP (addP [] (pairsOf l))).length ((flatP (addP [] (pairsOf l))).map sv) := by
  obtain ⟨o, c, rfl, _⟩ := id ht
  obtain ⟨_, h1, h2, h3⟩ := ht.at_
  have HT := Lib.hid h3
  obtain ⟨n, hn⟩ : ∃ n, l.length = n := ⟨_, rfl⟩
  have HN := Lib.hid hn
  rw [hn] at h1 hl ⊢
  unfold maxLen at h2
  clear ht h3 hn
  go_enter Tryz.func30, Tryz.ntmps30
  go_wp2_with fail
  go_loopg [3, 4, 5] n (fun g out v _ wr => ∃ (j : Nat) (ps : Prs), 2 * j + g = n ∧ v = .int .i64 ((2 * j : Nat) : Int) ∧ Hid (wr.ownsRow w.heap.size 9 1 out (flatP ps).length ((flatP ps).map sv)) ∧ Below w.heap.size w wr ∧ ps.length ≤ j ∧ Hid (addP ps (pairsOf (l.drop (2 * j))) = addP [] (pairsOf l)))
  case atStart => exact ⟨0, [], by omega, rfl, World.ownsRow_nil _ _ _ _, Below.refl _ _, by simp, rfl⟩
  case round =>
    obtain ⟨j, ps, hjg, rfl, HO, hb, hpj, HI⟩ := hrel
    by_cases hlt : 2 * j + 1 < n
    · have hn := HN.out
      obtain ⟨b, off, rfl, hbl, hc⟩ := HT.out (2 * j) (by omega)
      obtain ⟨b', off', e, hbl', hc'⟩ := HT.out (2 * j + 1) (by omega)
      cases e
      have hdr : l.drop (2 * j) = l[2 * j]'(by omega) :: l[2 * j + 1]'(by omega) :: l.drop (2 * (j + 1)) := by
        rw [List.drop_eq_getElem_cons (by omega), List.drop_eq_getElem_cons (by omega), show 2 * j + 1 + 1 = 2 * (j + 1) by omega]
      obtain ⟨k, hk⟩ : ∃ k, k = l[2 * j]'(by omega) := ⟨_, rfl⟩
      obtain ⟨x, hx⟩ : ∃ x, x = l[2 * j + 1]'(by omega) := ⟨_, rfl⟩
      rw [← hk, ← hx] at hdr
      rw [← hk] at hc
      rw [← hx] at hc'
      have HA : Hid (addP (setP ps k x) (pairsOf (l.drop (2 * (j + 1)))) = addP [] (pairsOf l)) := by
        have h := HI.out
        rw [hdr, pairsOf, add_cons] at h
        exact h
      clear HI hdr hk hx
      obtain ⟨jj, hjj⟩ : ∃ jj, 2 * j = jj := ⟨_, rfl⟩
      rw [hjj] at hc hc' hlt ⊢
      have hk1 : wr.cell? ⟨b, off + jj, none⟩ = some (.string ⟨k.toArray⟩) := (hb.cell (p := ⟨b, off + jj, none⟩) hbl).trans hc
      have hx1 : wr.cell? ⟨b, off + (jj + 1), none⟩ = some (.string ⟨x.toArray⟩) := (hb.cell (p := ⟨b, off + (jj + 1), none⟩) hbl).trans hc'
      have FI : Hid (∀ vo, wr.ownsRow w.heap.size 9 1 vo (flatP ps).length ((flatP ps).map sv) → Calls Tryz.prog 54 #[vo, .string ⟨k.toArray⟩] wr fun e w' => e = .returned (.int .i64 (findI ps k)) ∧ wr = w') := fun vo ho => rfind_any vo ps k wr (TxtRow.of_owns ho) (by omega)
      have hpl : 2 * ps.length ≤ jj := by omega
      have hfl := flatP_len ps
      have HF := Lib.hid hfl
      obtain ⟨ao, cap, rfl⟩ := owns_slice HO.out
      have HJ := Lib.hid (And.intro hjj (And.intro hjg hn))
      clear hjj hn hc hc' hjg
      cases hf : findP ps k with
      | some i =>
        obtain ⟨hil, _⟩ := find_lt hf
        have hfi : findI ps k = ((2 * i + 1 : Nat) : Int) := by unfold findI; rw [hf]
        rw [hfi] at FI
        obtain ⟨m, hm⟩ : ∃ m, 2 * i + 1 = m := ⟨_, rfl⟩
        rw [hm] at FI
        have hml : m < (flatP ps).length := by omega
        obtain ⟨g, hg⟩ : ∃ g, ao = some ⟨g, 0, none⟩ := by
          rcases HO.out.2 with ⟨_, h0⟩ | ⟨g, _, _, he, _⟩
          · omega
          · cases he; exact ⟨g, rfl⟩
        subst hg
        obtain ⟨q1, ⟨u, q2⟩, q3⟩ := row_set (.string ⟨x.toArray⟩) HO.out hml
        have Q3 := Lib.hid q3
        have hset := flat_set ps k x i hf
        rw [hm] at hset
        have HS := Lib.hid hset
        have t0 : decide ((0 : Int) ≤ (m : Int)) = true := by rw [decide_eq_true_eq]; omega
        have FI2 := Lib.hid (FI.out _ HO.out)
        have HM := Lib.hid hm
        clear FI q3 hset hf hfi hm hfl
        obtain ⟨fn, hfn⟩ : ∃ fn, (flatP ps).length = fn := ⟨_, rfl⟩
        have HFN := Lib.hid hfn
        rw [hfn] at FI2 hml Q3 HO ⊢
        clear hfn
        go_wp2_with (first | (go_at_call 54; refine FI2.out.mono ?_; rintro e w2 ⟨rfl, rfl⟩))
        go_roundg (gk - 2)
        case measure => have := HJ.out; omega
        case rel =>
          have hj := HJ.out
          refine ⟨j + 1, setP ps k x, by omega, by rw [show 2 * (j + 1) = jj + 2 by omega]; go_num, ?_, hb.setCell (ownsRow_type HO.out g rfl).1 _, by have := setP_len ps k x; omega, HA⟩
          show World.ownsRow _ _ _ _ _ _ _
          rw [HS.out, List.length_set, List.map_set, HFN.out]
          exact Q3.out
      | none =>
        have hfi : findI ps k = -1 := by unfold findI; rw [hf]
        rw [hfi] at FI
        have hnew := flat_new ps k x hf
        have HS := Lib.hid hnew
        have FI2 := Lib.hid (FI.out _ HO.out)
        clear FI hnew hf hfi hfl
        obtain ⟨fn, hfn⟩ : ∃ fn, (flatP ps).length = fn := ⟨_, rfl⟩
        have hfn2 : fn ≤ 100000 := by have := HF.out; omega
        have HFN := Lib.hid hfn
        rw [hfn] at FI2 HO ⊢
        clear hfn
        have hj1 : jj < n := by omega
        have hj3 : (0 : Int) ≤ (jj : Int) + 1 := by omega
        have hj4 : (jj : Int) + 1 < (n : Int) := by omega
        have hj5 : IntKind.i64.wrap ((jj : Int) + 1) = (jj : Int) + 1 := IntWalk.i64_in _ (by omega)
        have hk1d : wr.drew.cell? ⟨b, off + jj, none⟩ = some (.string ⟨k.toArray⟩) := hk1
        have hx1d : wr.drew.cell? ⟨b, off + (jj + 1), none⟩ = some (.string ⟨x.toArray⟩) := hx1
        have HD : Hid (wr.drew.ownsRow w.heap.size 9 1 (.slice ao fn cap) fn ((flatP ps).map sv)) := HO.out
        go_wp2_with (first | (go_at_call 54; refine FI2.out.mono ?_; rintro e w2 ⟨rfl, rfl⟩))
        go_region_law (refine step_append_two rfl (.tmp 29) (.tmp 39) 30 rfl w.heap.size 9 (.string ⟨#[]⟩) 16 Tryz.underlying30 infoStr rfl (.slice ao fn cap) fn _ (by simp [Act.eval, Act.put]) wr.drew HD.out (.string ⟨k.toArray⟩) (.string ⟨x.toArray⟩) rfl (by simp [Act.eval, Act.put]) rfl rfl (by unfold maxLen; omega) (by omega) (by show w.heap.size ≤ wr.heap.size; exact hb.size) ?_; intro g c1 w1 hg hown1 hb1; have HOW := Lib.hid (And.intro hown1 hb1); clear hown1 hb1)
        all_goals
          go_wp2_with fail
          go_roundg (gk - 2)
          case measure => have := HJ.out; omega
          case rel =>
            have hj := HJ.out
            refine ⟨j + 1, setP ps k x, by omega, by rw [show 2 * (j + 1) = jj + 2 by omega]; go_num, ?_, hb.trans ((Below.refl _ _).drew.trans HOW.out.2), by have := setP_len ps k x; omega, HA⟩
            show World.ownsRow _ _ _ _ _ _ _
            rw [HS.out, List.length_append, List.map_append, HFN.out]
            exact HOW.out.1
    · have t0 : decide (((2 * j : Nat) : Int) + 1 < (n : Int)) = false := by rw [decide_eq_false_iff_not]; omega
      obtain ⟨jj, hjj⟩ : ∃ jj, 2 * j = jj := ⟨_, rfl⟩
      have hsm : jj ≤ 100000 := by omega
      have hHA : addP [] (pairsOf l) = ps := by
        have h := HI.out
        have h2 : pairsOf (l.drop (2 * j)) = [] := by
          have hl2 : (l.drop (2 * j)).length ≤ 1 := by have := HN.out; simp; omega
          match hd : l.drop (2 * j), hl2 with
          | [], _ => rfl
          | [a], _ => rfl
        rw [h2, add_nil] at h
        exact h.symm
      have HA := Lib.hid hHA
      rw [hjj] at t0 ⊢
      clear hHA HI hjj
      go_wp2_with fail
      go_ret
      exact ⟨_, rfl, hb, by rw [HA.out]; exact HO.out⟩
end Go.Proofs.YtpaffocniniakaaGreat
namespace Go.Proofs.YtpaffocniniakaaGreat
set_option linter.unusedVariables false
set_option linter.unusedSimpArgs false
open Go.RowKit

/-- What 'Pairs' of the reference gives. -/
def RPrs (w : World) (s : Bs) (r : Value) (err : Int) (w' : World) : Prop := Below w.heap.size w w' ∧ ((readC s = none ∧ err = 11 ∧ r = .slice none 0 0) ∨ ∃ ps, readC s = some ps ∧ err = 0 ∧ w'.ownsRow w.heap.size 9 1 r (flatP ps).length ((flatP ps).map sv))
set_option maxRecDepth 100000 in
set_option maxHeartbeats 1600000 in
theorem rPairs_any (s : Bs) (hs : s.length ≤ 19999) (w : World) :
    Calls Tryz.prog 13 #[.string ⟨s.toArray⟩] w fun e w' => ∃ r err, e = .returned (.tuple #[r, .int .i64 err]) ∧ RPrs w s r err w' := by
  have SP := rSplit_any s hs w
  cases hsp : splitL s with
  | none =>
    have hR : readC s = none := by unfold readC; rw [hsp]; rfl
    have SP2 : Hid (Calls Tryz.prog 29 #[.string ⟨s.toArray⟩] w fun e w' => ∃ i, e = .returned (.tuple #[.slice none 0 0, .int .i64 i, .int .i64 2]) ∧ Below w.heap.size w w') := SP.mono fun e w' ⟨v, i, err, he, hb, hr⟩ => by
      rcases hr with ⟨_, rfl, rfl⟩ | ⟨l, h', _⟩
      · exact ⟨i, he, hb⟩
      · rw [hsp] at h'; cases h'
    have HR := Lib.hid hR
    clear SP hsp hR
    go_enter Tryz.func13, Tryz.ntmps13
    go_wp2_with (go_at_call 29; refine SP2.out.mono ?_; rintro e w2 ⟨i, rfl, hB2⟩; have H2 := Lib.hid hB2; clear hB2)
    go_ret2
    exact ⟨_, _, rfl, H2.out, .inl ⟨HR.out, rfl, rfl⟩⟩
  | some l =>
    have hhalf := (split_half _ _ (Nat.le_refl _) _ hsp).1
    have SP2 : Hid (Calls Tryz.prog 29 #[.string ⟨s.toArray⟩] w fun e w' => ∃ ao cap i, e = .returned (.tuple #[.slice ao l.length cap, .int .i64 i, .int .i64 0]) ∧ Below w.heap.size w w' ∧ w'.ownsRow w.heap.size 9 1 (.slice ao l.length cap) l.length (l.map sv)) := SP.mono fun e w' ⟨v, i, err, he, hb, hr⟩ => by
      rcases hr with ⟨h', _⟩ | ⟨l', h', rfl, ho⟩
      · rw [hsp] at h'; cases h'
      · rw [hsp] at h'; cases h'
        obtain ⟨ao, cap, rfl⟩ := owns_slice ho
        exact ⟨ao, cap, i, he, hb, ho⟩
    have ON : Hid (∀ v W, TxtRow W v l → Calls Tryz.prog 30 #[v] W fun e w' => ∃ r, e = .returned r ∧ Below W.heap.size W w' ∧ w'.ownsRow W.heap.size 9 1 r (flatP (addP [] (pairsOf l))).length ((flatP (addP [] (pairsOf l))).map sv)) := fun v W ht => ronce_any v l W ht (by omega)
    by_cases hev : l.length % 2 = 0
    · have hR : readC s = some (addP [] (pairsOf l)) := by unfold readC; rw [hsp, Option.bind_some, if_pos hev]
      have HR := Lib.hid hR
      have hnn : (0 : Int) ≤ (l.length : Int) := by omega
      obtain ⟨n, hn⟩ : ∃ n, l.length = n := ⟨_, rfl⟩
      have t2 : ((n : Int) % 2 == 0) = true := by rw [beq_iff_eq]; omega
      have HN := Lib.hid hn
      rw [hn] at SP2 hhalf hnn hev
      clear SP hsp hR hn
      go_enter Tryz.func13, Tryz.ntmps13
      go_wp2_with (first | (go_at_call 29; refine SP2.out.mono ?_; rintro e w2 ⟨ao, cap, i, rfl, hB2, hO2⟩; have H2 := Lib.hid (And.intro hB2 hO2); clear hB2 hO2) | (go_at_call 30; refine (ON.out _ _ (TxtRow.of_owns (by rw [HN.out]; exact H2.out.2))).mono ?_; rintro e w3 ⟨r, rfl, hB3, hO3⟩; have H3 := Lib.hid (And.intro hB3 hO3); clear hB3 hO3))
      go_ret2
      exact ⟨_, _, rfl, H2.out.1.trans (H3.out.1.mono H2.out.1.size), .inr ⟨_, HR.out, rfl, by have h := H3.out.2; exact ⟨h.1, h.2.imp id (fun ⟨g, c, cur, q1, q2, q3⟩ => ⟨g, c, cur, q1, Nat.le_trans H2.out.1.size q2, q3⟩)⟩⟩⟩
    · have hR : readC s = none := by unfold readC; rw [hsp, Option.bind_some, if_neg hev]
      have HR := Lib.hid hR
      have hnn : (0 : Int) ≤ (l.length : Int) := by omega
      obtain ⟨n, hn⟩ : ∃ n, l.length = n := ⟨_, rfl⟩
      have t2 : ((n : Int) % 2 == 0) = false := by rw [beq_eq_false_iff_ne]; omega
      rw [hn] at SP2 hhalf hnn hev
      clear SP hsp hR hn ON
      go_enter Tryz.func13, Tryz.ntmps13
      go_wp2_with (first | (go_at_call 29; refine SP2.out.mono ?_; rintro e w2 ⟨ao, cap, i, rfl, hB2, hO2⟩; have H2 := Lib.hid (And.intro hB2 hO2); clear hB2 hO2))
      go_ret2
      exact ⟨_, _, rfl, H2.out.1, .inl ⟨HR.out, rfl, rfl⟩⟩
end Go.Proofs.YtpaffocniniakaaGreat
