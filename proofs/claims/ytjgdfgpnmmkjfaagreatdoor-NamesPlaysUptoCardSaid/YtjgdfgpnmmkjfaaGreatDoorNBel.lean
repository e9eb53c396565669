/- What 'below' of a tree yields: a range over a function whose iterator has a row of its own; 'slices.Collect' of it. -/
import Derived.RangeFuncNested
import Derived.RangeFuncBound
import Derived.RangeFuncCalls
import Derived.RangeFuncLeaves
import Derived.RangeFuncBox
import Derived.Shelf.Abstract
import Derived.Shelf.RegionOpen
import Derived.OwnWalkIn
import Derived.TacticsInMore
import Derived.LoopNIn
import Derived.LoopIn
import Derived.BigRegionIn
import Derived.Sort.QuietIn
import Derived.Test.YtjgdfgpnmmkjfaaGreatDoorNAll
namespace Go.Proofs.YtjgdfgpnmmkjfaaGreatDoor
set_option linter.unusedVariables false
set_option linter.unusedSimpArgs false
open Go.RowKit Go.Shelf
theorem wide_fn (f : FuncId) : Fence.wide.fn f = True := rfl
attribute [local go_sem] Oper.semAt_some wide_fn

/-- The row that box D points at. -/
def ownAt (W : World) (D : Nat) : Option Nat := match W.heap[D]? with | some (.cells c _ _) => (c[0]?).bind Value.ownBlock | _ => none
/-- But for box D and its row, cells stay. -/
structure KD (D : Nat) (W W' : World) : Prop where
  size : W.heap.size ≤ W'.heap.size
  keep : ∀ (j : Nat) (c : Array Value) (t : TypeId) (f : Nat × Nat), W.heap[j]? = some (.cells c t f) → j ≠ D → ownAt W D ≠ some j → W'.heap[j]? = W.heap[j]?
  own : ownAt W' D = ownAt W D ∨ ∃ g, ownAt W' D = some g ∧ W.heap.size ≤ g
theorem KD.refl (D : Nat) (W : World) : KD D W W := ⟨Nat.le_refl _, fun _ _ _ _ _ _ _ => rfl, .inl rfl⟩
theorem KD.trans {D : Nat} {A B C : World} (h : KD D A B) (k : KD D B C) : KD D A C := by
  refine ⟨Nat.le_trans h.size k.size, fun j c t f hj hD ho => ?_, ?_⟩
  · have h1 := h.keep j c t f hj hD ho
    have hl := (Array.getElem?_eq_some_iff.1 hj).1
    rw [k.keep j c t f (h1.trans hj) hD ?_, h1]
    rcases h.own with e | ⟨g, e, hg⟩
    · rw [e]; exact ho
    · rw [e]; intro e2; cases e2; omega
  · rcases k.own with e | ⟨g, e, hg⟩
    · rw [e]; exact h.own
    · exact .inr ⟨g, e, Nat.le_trans h.size hg⟩
theorem KD.of_below {D : Nat} {W W' : World} (h : Below W.heap.size W W') (hD : D < W.heap.size) : KD D W W' :=
  ⟨h.size, fun j c t f hj _ _ => h.block j (Array.getElem?_eq_some_iff.1 hj).1, .inl (by unfold ownAt; rw [h.block D hD])⟩
theorem kd_put {D : Nat} {w : World} {c0 : Array Value} {t0 : TypeId} {f0 : Nat × Nat} (W : World) (l : Nat) (o o' : Obj) (_ : w.heap.size ≤ l) (h : W.heap[l]? = some o) (hc : o.isCells = false) (_ : o.isWalk = false) (hne : D ≠ l) : KD D W (W.putObj l o') := by
  have hput : ∀ j, j ≠ l → (W.putObj l o').heap[j]? = W.heap[j]? := fun j hj => World.putObj_heap_other hj
  refine ⟨by simp, fun j c t f hj _ _ => hput j ?_, .inl (by unfold ownAt; rw [hput D hne])⟩
  rintro rfl
  rw [h] at hj; cases hj; cases hc
theorem KD.boxed {D b : Nat} {W W' : World} {t : TypeId} {v : Value} (h : Boxed W b t v) (k : KD D W W') (hb : b ≠ D) (ho : ownAt W D ≠ some b) : Boxed W' b t v := (k.keep b _ _ _ h hb ho).trans h
def inBel (path head p : Bs) : Bool := !(p == path) && Lib.hasPrefix p head
def belowL (path head : Bs) (ks : List Bs) : List Bs := ks.filter (inBel path head)
theorem bel_take {path head : Bs} {ks : List Bs} {i : Nat} (h : i < ks.length) : belowL path head (ks.take (i + 1)) = belowL path head (ks.take i) ++ (if inBel path head ks[i] = true then [ks[i]] else []) := by
  unfold belowL
  rw [List.take_succ_eq_append_getElem h, List.filter_append]
  congr 1
  by_cases hh : inBel path head ks[i] = true
  · rw [if_pos hh, List.filter_cons_of_pos hh]; rfl
  · rw [if_neg hh, List.filter_cons_of_neg hh]; rfl
theorem bel_len {path head : Bs} {ks : List Bs} (i : Nat) : (belowL path head (ks.take i)).length ≤ i := by
  unfold belowL
  have h1 := List.length_filter_le (inBel path head) (ks.take i)
  have h2 : (ks.take i).length ≤ i := by simp; omega
  omega
theorem bel_pre {path head : Bs} {ks : List Bs} (i : Nat) : belowL path head (ks.take i) <+: belowL path head ks := by
  unfold belowL
  exact (List.take_prefix i ks).filter _
abbrev encS1 (x : Bs) : Array Value := #[sv x]
set_option maxRecDepth 100000 in
set_option maxHeartbeats 1600000 in
theorem below1_in (n : Nat) (hn : 1 ≤ n) (l b1 b2 b3 D : Nat) (path head : Bs) {w : World} {B tb m : Nat} {who : Own} {nd : Bs → Option Nat} {S : Bs → Option ND} (hT : Tr w B tb m who nd S) (hcn : Cnt S 1000000) (ks : List Bs) (hks : KeysOf S ks)
    (J Jx : List Bs → World → Prop) (hJd : ∀ pre W W', J pre W → Below W.heap.size W W' → J pre W')
    (hY : ∀ pre x W, J pre W → pre.length < ks.length → YieldAt Fence.wide (n - 1) Tryz.prog l (encS1 x) W fun e W' =>
      (e = .returned (.bool true) ∧ J (pre ++ [x]) W' ∧ KD D W W') ∨ (e = .returned (.bool false) ∧ Jx (pre ++ [x]) W'))
    (W : World) (hWB : Below w.heap.size w W) (h1 : Boxed W b1 25 (.pointer (some ⟨tb, 0, none⟩))) (h2 : Boxed W b2 9 (.string ⟨path.toArray⟩)) (h3 : Boxed W b3 9 (.string ⟨head.toArray⟩)) (hd : D < W.heap.size) (hne : b1 ≠ D ∧ b2 ≠ D ∧ b3 ≠ D) (ho : ownAt W D = none) (h0 : J [] W) :
    CallsIn Fence.wide n Tryz.prog 68 #[.func (.yield l) #[] #[], .pointer (some ⟨b1, 0, none⟩), .pointer (some ⟨b2, 0, none⟩), .pointer (some ⟨b3, 0, none⟩)] W fun e W' => (∃ v, e = .returned v) ∧
      ((∃ ys, ys = belowL path head ks ∧ J ys W') ∨ (∃ pre, pre <+: belowL path head ks ∧ Jx pre W')) := by
  have c1 := h1.cell
  have AL : Hid (Calls Tryz.prog 11 #[.pointer (some ⟨tb, 0, none⟩)] W fun e w' => ∃ o c, e = .returned (.slice o ks.length c) ∧ w'.ownsRow W.heap.size 9 1 (.slice o ks.length c) ks.length (ks.map sv) ∧ Below W.heap.size W w') := (All_any (hT.low hWB) hcn).mono fun e w' ⟨o, c, ks', he, hk', hr, hb⟩ => by
    obtain rfl := hks.eq hk'
    exact ⟨o, c, he, hr, hb⟩
  have HPX : Hid (∀ W (p : Bs), Calls Tryz.prog 40 #[.string ⟨p.toArray⟩, .string ⟨head.toArray⟩] W fun e w' => e = .returned (.bool (Lib.hasPrefix p head)) ∧ W = w') := fun W p =>
    (Tryz.strings_HasPrefix ⟨p.toArray⟩ ⟨head.toArray⟩ W).mono fun e w' ⟨h1, h2⟩ => ⟨h1, h2.symm⟩
  have hkl : ks.length ≤ 1000000 := hcn ks hks.nodup (fun k hk => (hks.mem k).1 hk)
  obtain ⟨kn, hkn⟩ : ∃ kn, ks.length = kn := ⟨_, rfl⟩
  have HKN := Lib.hid hkn
  have HBX := Lib.hid (And.intro h1 (And.intro h2 (And.intro h3 (And.intro hne (And.intro ho hd)))))
  rw [hkn] at AL hkl hY
  clear hT hcn hks hWB h1 h2 h3 ho hkn hne hd
  refine callsIn_of_wp Tryz.func68 rfl trivial ?_ rfl
  simp only [Tryz.ntmps68, List.size_toArray, List.length_cons, List.length_nil, Nat.reduceAdd, Nat.reduceSub, Array.replicate_succ, Array.replicate_zero, List.push_toArray, List.append_toArray, List.nil_append, List.cons_append]
  gi_wp2_with (gi_at_call 11; refine (callsIn_wide.2 AL.out).mono ?_; rintro e w1 ⟨ao, ac, rfl, hr, hb⟩; have H1 := Lib.hid (And.intro hr hb); clear hr hb)
  gi_loopw [10] (fun v wr => ∃ i : Nat, i ≤ kn ∧ v = .int .i64 i ∧ J (belowL path head (ks.take i)) wr ∧ KD D w1 wr) (fun i _ => kn - (intOf i).toNat)
  case atStart => exact ⟨0, Nat.zero_le _, rfl, hJd _ _ _ h0 H1.out.2, KD.refl _ _⟩
  case round =>
    obtain ⟨i, hi, rfl, hJ, hK⟩ := hrel
    have hB1 := H1.out.2
    obtain ⟨b1x, b2x, b3x, ⟨hn1, hn2, hn3⟩, ho, hd⟩ := HBX.out
    have ho1 : ownAt w1 D = none := by unfold ownAt at ho ⊢; rw [hB1.block D hd]; exact ho
    have k2 := KD.boxed (W := w1) (W' := wr) ((hB1.block b2 b2x.lt).trans b2x) hK hn2 (by rw [ho1]; simp)
    have k3 := KD.boxed (W := w1) (W' := wr) ((hB1.block b3 b3x.lt).trans b3x) hK hn3 (by rw [ho1]; simp)
    have c2 := k2.cell
    have c3 := k3.cell
    have hrow : wr.ownsRow W.heap.size 9 1 (.slice ao kn ac) kn (ks.map sv) := row_keep H1.out.1 (fun g hg => by
      have hid := row_ids H1.out.1 g hg
      obtain ⟨cur, hcur⟩ := (ownsRow_type H1.out.1 g hg).2
      exact hK.keep g _ _ _ hcur (by omega) (by rw [ho1]; simp))
    have htx : TxtRow wr (.slice ao kn ac) ks := by have e := HKN.out; rw [← e] at hrow ⊢; exact TxtRow.of_owns hrow
    clear hrow hB1 b1x b2x b3x hn1 hn2 hn3 ho hd ho1 k2 k3 c1
    by_cases hlt : i < kn
    · obtain ⟨hh, hp1, hp2, hcell⟩ := htx.at_
      obtain ⟨gb, off, rfl, hgl, hc0⟩ := hcell i (by have := HKN.out; omega)
      have hbt := bel_take (path := path) (head := head) (ks := ks) (i := i) (by have := HKN.out; omega)
      have hbl := bel_len (path := path) (head := head) (ks := ks) i
      have hcap : kn ≤ ac := by omega
      unfold maxLen at hp2
      generalize ks[i]'(by have := HKN.out; omega) = p at *
      have hcx : wr.cell? ⟨gb, off + i, none⟩ = some (.string ⟨p.toArray⟩) := hc0
      have i1 : i < kn := hlt
      have t0 : decide ((i : Int) < (kn : Int)) = true := by rw [decide_eq_true_eq]; omega
      have hw1 : IntKind.i64.wrap ((i : Int) + 1) = (i : Int) + 1 := IntWalk.i64_in _ (by omega)
      have HP1 := Lib.hid (fun W => HPX.out W p)
      have HJK := Lib.hid (And.intro hJ hK)
      have HI := Lib.hid (And.intro hlt hbl)
      by_cases hpp : p = path
      · have hin : inBel path head p = false := by unfold inBel; rw [hpp]; simp
        rw [if_neg (by rw [hin]; simp), List.append_nil] at hbt
        have HBT := Lib.hid hbt
        subst hpp
        clear hcell hh hp1 hc0 hbt hbl hin hJ hK hlt hi htx HPX hY
        gi_wp2_with fail
        go_roundw
        case rel => exact ⟨i + 1, by have := HI.out; omega, by go_num, by rw [HBT.out]; exact HJK.out.1, HJK.out.2⟩
        case measure => have := HI.out; simp [intOf]; omega
      · have e1 : (p == path) = false := beq_eq_false_iff_ne.2 hpp
        have e2 : (⟨p.toArray⟩ : ByteArray) ≠ ⟨path.toArray⟩ := fun e => hpp (by simpa using e)
        cases hpre : Lib.hasPrefix p head with
        | false =>
          have hin : inBel path head p = false := by unfold inBel; rw [hpre]; simp
          rw [if_neg (by rw [hin]; simp), List.append_nil] at hbt
          have HBT := Lib.hid hbt
          rw [hpre] at HP1
          clear hcell hh hp1 hc0 hbt hbl hin hJ hK hlt hi htx HPX hY hpre
          gi_wp2_with (gi_at_call 40; refine (callsIn_wide.2 (HP1.out _)).mono ?_; rintro e w2 ⟨rfl, rfl⟩)
          go_roundw
          case rel => exact ⟨i + 1, by have := HI.out; omega, by go_num, by rw [HBT.out]; exact HJK.out.1, HJK.out.2⟩
          case measure => have := HI.out; simp [intOf]; omega
        | true =>
          have hin : inBel path head p = true := by unfold inBel; rw [hpre, e1]; rfl
          rw [if_pos hin] at hbt
          have HBT := Lib.hid hbt
          have HPF := Lib.hid (bel_pre (path := path) (head := head) (ks := ks) (i + 1))
          rw [hpre] at HP1
          clear hcell hh hp1 hc0 hbt hin hJ hK hi htx HPX hpre
          gi_wp2_with (gi_at_call 40; refine (callsIn_wide.2 (HP1.out _)).mono ?_; rintro e w2 ⟨rfl, rfl⟩)
          obtain ⟨fn, tmps, assign, body, hy, hR⟩ := hY (belowL path head (ks.take i)) p wr HJK.out.1 (by omega)
          dsimp only [encS1, sv] at hy
          clear hY
          gi_wp2_with fail
          first | refine hR.mono ?_ | (rw [hy]; gi_wp2_with fail; refine hR.mono ?_)
          rintro e W3 (⟨rfl, hJ3, hk3⟩ | ⟨rfl, hJx3⟩)
          · gi_wp2_with fail
            go_roundw
            case rel => exact ⟨i + 1, by have := HI.out; omega, by go_num, by rw [HBT.out]; exact hJ3, HJK.out.2.trans hk3⟩
            case measure => have := HI.out; simp [intOf]; omega
          · gi_wp2_with fail
            refine bodyPost_ret (results_none rfl _ _ _) rfl ?_
            exact ⟨⟨_, rfl⟩, .inr ⟨_, HPF.out, by rw [HBT.out]; exact hJx3⟩⟩
    · obtain rfl : i = kn := by omega
      have hkk := HKN.out
      rw [List.take_of_length_le (by omega)] at hJ
      have t0 : decide ((i : Int) < (i : Int)) = false := by rw [decide_eq_false_iff_not]; omega
      clear htx hkk
      gi_wp2_with fail
      go_end0
      exact ⟨⟨_, rfl⟩, .inl ⟨_, rfl, hJ⟩⟩
theorem below_stops (b1 b2 b3 D : Nat) (path head : Bs) {w : World} {B tb m : Nat} {who : Own} {nd : Bs → Option Nat} {S : Bs → Option ND} (hT : Tr w B tb m who nd S) (hcn : Cnt S 1000000) (ks : List Bs) (hks : KeysOf S ks) (w0 : World) (hw0 : Below w.heap.size w w0)
    (h1 : Boxed w0 b1 25 (.pointer (some ⟨tb, 0, none⟩))) (h2 : Boxed w0 b2 9 (.string ⟨path.toArray⟩)) (h3 : Boxed w0 b3 9 (.string ⟨head.toArray⟩)) (hd : D < w0.heap.size) (hne : b1 ≠ D ∧ b2 ≠ D ∧ b3 ≠ D) (ho : ownAt w0 D = none) :
    SeqStopsK Fence.wide 2 Tryz.prog 68 #[.pointer (some ⟨b1, 0, none⟩), .pointer (some ⟨b2, 0, none⟩), .pointer (some ⟨b3, 0, none⟩)] encS1 (KD D) (fun ys => ys = belowL path head ks) (fun pre => pre <+: belowL path head ks) ks.length w0 := fun l J Jx W hW hJ _ hY h0 =>
  below1_in 2 (by omega) l b1 b2 b3 D path head hT hcn ks hks J Jx (fun pre W1 W2 hj hb => hJ pre W1 W2 none hj ⟨hb.os, hb.tape, hb.output, hb.size, fun k hk _ => hb.block k hk⟩ (fun r e => by cases e)) hY W (hw0.trans (hW.mono hw0.size)) ((hW.block b1 h1.lt).trans h1) ((hW.block b2 h2.lt).trans h2) ((hW.block b3 h3.lt).trans h3) (Nat.lt_of_lt_of_le hd hW.size) hne (by unfold ownAt at ho ⊢; rw [hW.block D hd]; exact ho) h0
end Go.Proofs.YtjgdfgpnmmkjfaaGreatDoor
