/- What 'matched' of a map of names yields: the names that the pattern matches, in some order. -/
import Derived.RangeFuncNested
import Derived.RangeFuncBound
import Derived.RangeFuncCalls
import Derived.RangeFuncLeaves
import Derived.RangeFuncBox
import Derived.Shelf.Abstract
import Derived.Shelf.RegionOpen
import Derived.OwnWalkIn
import Derived.TacticsInMore
import Derived.LoopNIn
import Derived.LoopIn
import Derived.BigRegionIn
import Derived.Sort.QuietIn
import Derived.Sort.MapsRangeIn
import Derived.Test.YtbbbenjakjejmaaGreatTbNms
import Derived.Test.YtbbbenjakjejmaaGreatGlob2
namespace Go.Proofs.YtbbbenjakjejmaaGreat
set_option linter.unusedVariables false
set_option linter.unusedSimpArgs false
open Go.RowKit Go.Shelf Go.Maps
theorem wide_fn (f : FuncId) : Fence.wide.fn f = True := rfl
attribute [local go_sem] Oper.semAt_some wide_fn
theorem star_all (s : Bs) : globC [42] s false = true := by
  have h : ∀ s : Bs, (gstar (gm []) s).1 = true := by
    intro s
    induction s with
    | nil => rfl
    | cons c t ih =>
      have e : gm [] (c :: t) = (false, false) := rfl
      show (if (gm [] (c :: t)).1 || (gm [] (c :: t)).2 then gm [] (c :: t) else gstar (gm []) t).1 = true
      rw [e]
      exact ih
  unfold globC
  rw [stepsA_star, stepsA_nil]
  exact h s
abbrev encS1 (x : Bs) : Array Value := #[sv x]
/-- What a round keeps: walks, maps, and what lay before. -/
def KW (N0 : Nat) (W W' : World) : Prop := KeepsWalks W W' ∧ Below N0 W W'
theorem KW.trans {N0 : Nat} {A B C : World} (h : KW N0 A B) (k : KW N0 B C) : KW N0 A C := ⟨h.1.trans k.1, h.2.trans k.2⟩
theorem walks_below {W W' : World} (h : Below W.heap.size W W') : KeepsWalks W W' := ⟨h.size, fun k o hk _ => (h.block k (Array.getElem?_eq_some_iff.1 hk).1).trans hk⟩
def qB (pat x : Bs) : Bool := globC pat x false
theorem filt_snoc (pat : Bs) (ss : List Bs) (x : Bs) : (ss ++ [x]).filter (qB pat) = ss.filter (qB pat) ++ (if qB pat x = true then [x] else []) := by
  rw [List.filter_append]
  congr 1
  by_cases h : qB pat x = true
  · rw [if_pos h, List.filter_cons_of_pos h]; rfl
  · rw [if_neg h, List.filter_cons_of_neg h]; rfl
theorem has_mem {H : Type} {P : Program} {k : TypeId} {R : Value → Option (DataW H × List MemPlace)} {w : World} {b n : Nat} {D0 : DataW H} (hown : w.ownsMap P k R b n D0) (hk : P.underlying k = some .string) {x : List UInt8} (h : has D0 (.string x) = true) : x ∈ strKeys D0 := by
  obtain ⟨es, rfl, hko⟩ := hown.keysOf
  rw [has_eq, List.any_eq_true] at h
  obtain ⟨p, hp, hs⟩ := h
  obtain ⟨v, hv⟩ := hko p hp
  obtain ⟨a, _, ha, _⟩ := Maps.keyOf_str hk hv
  rw [ha] at hs
  exact List.mem_map.2 ⟨p, hp, by rw [ha]; simpa [Lit.sameKey, strOf] using hs⟩
set_option maxRecDepth 100000 in
set_option maxHeartbeats 1600000 in
theorem matched1_in (n : Nat) (hn : 1 ≤ n) (l b1 b2 m N0 : Nat) (D0 : DataW Unit) (pat : Bs) (hp : pat.length ≤ 100000) (ks : List Bs) (hks : (strKeys D0).Perm ks) (hkl : ∀ k ∈ ks, k.length ≤ 100000)
    (J Jx : List Bs → World → Prop) (W : World) (hJ : AbidesFrom W.heap.size J)
    (hY : ∀ pre x W1, J pre W1 → pre.length < ks.length → YieldAt Fence.wide (n - 1) Tryz.prog l (encS1 x) W1 fun e W' =>
      (e = .returned (.bool true) ∧ J (pre ++ [x]) W' ∧ KW N0 W1 W') ∨ (e = .returned (.bool false) ∧ Jx (pre ++ [x]) W'))
    (h1 : Boxed W b1 43 (.map (some m))) (h2 : Boxed W b2 9 (.string ⟨pat.toArray⟩)) (hlt : b2 < N0) (hown : W.ownsMap Tryz.prog 9 Rc m 1000000 D0) (h0 : J [] W) :
    CallsIn Fence.wide n Tryz.prog 64 #[.func (.yield l) #[] #[], .pointer (some ⟨b1, 0, none⟩), .pointer (some ⟨b2, 0, none⟩)] W fun e W' => (∃ v, e = .returned v) ∧
      ((∃ ys, ys.Perm (ks.filter (qB pat)) ∧ J ys W') ∨ (∃ pre, Jx pre W')) := by
  have c1 := h1.cell
  have hb2l := h2.lt
  have HB2 := Lib.hid (And.intro h2 (And.intro hlt hb2l))
  have HK := Lib.hid (And.intro hks hkl)
  have GL : Hid (∀ (W1 : World) (x : Bs), x.length ≤ 100000 → Calls Tryz.prog 65 #[.string ⟨pat.toArray⟩, .string ⟨x.toArray⟩, .bool false] W1 fun e w' => e = .returned (.bool (qB pat x)) ∧ Below W1.heap.size W1 w') := fun W1 x hx => Glob_any pat x false (by omega) (by omega) W1
  clear h2 hlt hb2l hks hkl
  refine callsIn_of_wp Tryz.func64 rfl trivial ?_ rfl
  simp only [Tryz.ntmps64, List.size_toArray, List.length_cons, List.length_nil, Nat.reduceAdd, Nat.reduceSub, Array.replicate_succ, Array.replicate_zero, List.push_toArray, List.append_toArray, List.nil_append, List.cons_append]
  gi_wp2_with (first
    | (gi_at_range; refine wpListIn_range_own _ rfl _ 43 rfl 9 60 (string_keyed Tryz.underlying9) Tryz.underlying43 _ m 1000000 _ rfl hown ?_; intro w0 hrg0 hg0 hs0)
    | gi_in)
  go_frame
  have hOW := Lib.hid hown
  gi_loopw [4] (fun _ wr => ∃ (left : Lit → Bool) (cnt : Nat) (ss : List Bs), wr.ranges Tryz.prog 9 Rc m W.heap.size 1000000 D0 left cnt ∧ Collected D0 left ss ∧ J (ss.filter (qB pat)) wr ∧ wr.heap[b2]? = W.heap[b2]? ∧ W.heap.size ≤ wr.heap.size)
    (fun _ wr => wr.rangeLeft m W.heap.size)
  case atStart =>
    exact ⟨_, _, [], hrg0, Collected.start D0, hJ [] W w0 none h0 hg0 (fun r e => by cases e), hg0.block b2 HB2.out.2.2 (by simp), hg0.size⟩
  case round =>
    obtain ⟨left, cnt, ss, hrg, hC, hJs, hb2, hsz⟩ := hrel
    gi_wp2_with (first
      | (gi_at_next; refine wpListIn_next_ranges _ rfl _ rfl 9 (string_keyed Tryz.underlying9) Rc encStr id (fun key kl hk => by obtain ⟨x, hx, _⟩ := Maps.keyOf_str Tryz.underlying9 hk; exact ⟨x, hx⟩) (fun v _ _ => ⟨v, rfl⟩) m W.heap.size 1000000 _ _ _ rfl hrg ?_ ?_)
      | gi_in)
    · intro hc0 hl0
      gi_wp2
      go_end0
      exact ⟨⟨_, rfl⟩, .inl ⟨_, ((hC.perm hown (string_keyed Tryz.underlying9) Tryz.underlying9 hl0).trans HK.out.1).filter _, hJs⟩⟩
    · intro x c kl yd yp w2 cnt2 hkey hlk hv hat hrg2 hlt hg2 hs2 hen
      obtain ⟨x', ex, rfl, _⟩ := Maps.keyOf_str Tryz.underlying9 hkey
      obtain rfl : x = x' := encStr_inj ex
      have hJ2 : J (ss.filter (qB pat)) w2 := hJ _ wr w2 (some W.heap.size) hJs hg2 (fun r e => by cases e; exact ⟨Nat.le_refl _, hrg.iter_walk⟩)
      have hb2w : w2.heap[b2]? = W.heap[b2]? := (hg2.block b2 (Nat.lt_of_lt_of_le HB2.out.2.2 hsz) (by have := HB2.out.2.2; simp; omega)).trans hb2
      have c2 : w2.cell? ⟨b2, 0, none⟩ = some (.string ⟨pat.toArray⟩) := (show Boxed w2 b2 9 (.string ⟨pat.toArray⟩) from hb2w.trans HB2.out.1).cell
      have hC2 := hC.step hlk hat
      have hlen : ss.length < ks.length := by
        have h1 := nodup_le (m := strKeys D0) hC2.1 (fun y hy => has_mem hown Tryz.underlying9 ((hC2.2 y).1 hy).1)
        rw [HK.out.1.length_eq, List.length_append, List.length_singleton] at h1
        omega
      have hxl : x.length ≤ 100000 := HK.out.2 x (HK.out.1.mem_iff.1 (has_mem hown Tryz.underlying9 ((hC2.2 x).1 (by simp)).1))
      have hfl := filt_snoc pat ss x
      have hfn : (ss.filter (qB pat)).length ≤ ss.length := List.length_filter_le _ _
      have GL2 := Lib.hid (GL.out w2 x hxl)
      have HJ2 := Lib.hid (And.intro hJ2 (And.intro hb2w (And.intro hrg2 (Nat.le_trans hsz hg2.size))))
      have HC2 := Lib.hid (And.intro hC2 (show (ss.filter (qB pat)).length < ks.length by omega))
      have HM : Hid (w2.rangeLeft m W.heap.size < wr.rangeLeft m W.heap.size) := by
        show _ < _
        rw [hrg2.left_eq, hrg.left_eq]; exact hlt
      have HAB := Lib.hid hJ
      clear hs2 hJ2 hb2w hC2 hlen hxl hfn hb2 hsz hJs hC hlk hat hrg hrg2 hlt hg2 hkey hv ex hOW
      cases hq : qB pat x with
      | false =>
        rw [hq] at GL2 hfl
        simp only [Bool.false_eq_true, if_false, List.append_nil] at hfl
        have HFL := Lib.hid hfl
        clear hq hfl hY
        gi_wp2_with (gi_at_call 65; refine (callsIn_wide.2 GL2.out).mono ?_; rintro e w3 ⟨rfl, hB⟩; have H3 := Lib.hid hB; clear hB)
        have hkw := walks_below H3.out
        go_roundw
        case rel => exact ⟨_, cnt2, ss ++ [x], HJ2.out.2.2.1.of_walks hkw, HC2.out.1, by rw [HFL.out]; exact HAB.out _ w2 w3 none HJ2.out.1 ⟨H3.out.os, H3.out.tape, H3.out.output, H3.out.size, fun k hk _ => H3.out.block k hk⟩ (fun r e => by cases e), (H3.out.block b2 (Nat.lt_of_lt_of_le HB2.out.2.2 HJ2.out.2.2.2)).trans HJ2.out.2.1, Nat.le_trans HJ2.out.2.2.2 H3.out.size⟩
        case measure => rw [(HJ2.out.2.2.1.of_walks hkw).left_eq, ← HJ2.out.2.2.1.left_eq]; exact HM.out
      | true =>
        rw [hq] at GL2 hfl
        simp only [if_true] at hfl
        have HFL := Lib.hid hfl
        clear hq hfl
        gi_wp2_with (gi_at_call 65; refine (callsIn_wide.2 GL2.out).mono ?_; rintro e w3 ⟨rfl, hB⟩; have hJ3 : J (ss.filter (qB pat)) w3 := (HAB.out _ w2 w3 none HJ2.out.1 ⟨hB.os, hB.tape, hB.output, hB.size, fun k hk _ => hB.block k hk⟩ (fun r e => by cases e)); have H3 := Lib.hid hB; obtain ⟨fn, tmps, assign, body, hy, hR⟩ := hY _ x w3 hJ3 HC2.out.2; dsimp only [encS1, sv] at hy; clear hB hJ3 hY)
        first | refine hR.mono ?_ | (rw [hy]; gi_wp2_with fail; refine hR.mono ?_)
        rintro e W3 (⟨rfl, hJ3, hk3⟩ | ⟨rfl, hJx3⟩)
        · have hkw := (walks_below H3.out).trans hk3.1
          have HJ3 := Lib.hid hJ3
          have HB3 : Hid (W3.heap[b2]? = W.heap[b2]? ∧ W.heap.size ≤ W3.heap.size) := by
            refine ⟨(hk3.2.block b2 HB2.out.2.1).trans ((H3.out.block b2 (Nat.lt_of_lt_of_le HB2.out.2.2 HJ2.out.2.2.2)).trans HJ2.out.2.1), Nat.le_trans (Nat.le_trans HJ2.out.2.2.2 H3.out.size) hk3.1.size⟩
          clear hJ3 hk3
          gi_wp2_with fail
          go_roundw
          case rel => exact ⟨_, cnt2, ss ++ [x], HJ2.out.2.2.1.of_walks hkw, HC2.out.1, by rw [HFL.out]; exact HJ3.out, HB3.out.1, HB3.out.2⟩
          case measure => rw [(HJ2.out.2.2.1.of_walks hkw).left_eq, ← HJ2.out.2.2.1.left_eq]; exact HM.out
        · gi_wp2_with fail
          refine bodyPost_ret (results_none rfl _ _ _) rfl ?_
          exact ⟨⟨_, rfl⟩, .inr ⟨_, hJx3⟩⟩
end Go.Proofs.YtbbbenjakjejmaaGreat
