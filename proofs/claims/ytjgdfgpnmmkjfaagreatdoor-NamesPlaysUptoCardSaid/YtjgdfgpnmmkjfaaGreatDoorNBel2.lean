/- What 'below' yields, for bodies that ask of the length of what they get. -/
import Derived.Test.YtjgdfgpnmmkjfaaGreatDoorNBel
namespace Go.Proofs.YtjgdfgpnmmkjfaaGreatDoor
set_option linter.unusedVariables false
set_option linter.unusedSimpArgs false
open Go.RowKit Go.Shelf
attribute [local go_sem] Oper.semAt_some wide_fn
def cutS (x : Bs) : Bs := x.take 100000
theorem cutS_id {x : Bs} (h : x.length ≤ 100000) : cutS x = x := List.take_of_length_le h
theorem cutS_len (x : Bs) : (cutS x).length ≤ 100000 := by unfold cutS; simp; omega
abbrev encC (x : Bs) : Array Value := #[sv (cutS x)]
set_option maxRecDepth 100000 in
set_option maxHeartbeats 1600000 in
theorem below1_inC (n : Nat) (hn : 1 ≤ n) (l b1 b2 b3 D : Nat) (path head : Bs) {w : World} {B tb m : Nat} {who : Own} {nd : Bs → Option Nat} {S : Bs → Option ND} (hT : Tr w B tb m who nd S) (hcn : Cnt S 1000000) (ks : List Bs) (hks : KeysOf S ks) (hkc : ∀ k ∈ ks, k.length ≤ 100000)
    (J Jx : List Bs → World → Prop) (hJd : ∀ pre W W', J pre W → Below W.heap.size W W' → J pre W')
    (hY : ∀ pre x W, J pre W → pre.length < ks.length → YieldAt Fence.wide (n - 1) Tryz.prog l (encC x) W fun e W' =>
      (e = .returned (.bool true) ∧ J (pre ++ [x]) W' ∧ KD D W W') ∨ (e = .returned (.bool false) ∧ Jx (pre ++ [x]) W'))
    (W : World) (hWB : Below w.heap.size w W) (h1 : Boxed W b1 25 (.pointer (some ⟨tb, 0, none⟩))) (h2 : Boxed W b2 9 (.string ⟨path.toArray⟩)) (h3 : Boxed W b3 9 (.string ⟨head.toArray⟩)) (hd : D < W.heap.size) (hne : b1 ≠ D ∧ b2 ≠ D ∧ b3 ≠ D) (ho : ownAt W D = none) (h0 : J [] W) :
    CallsIn Fence.wide n Tryz.prog 68 #[.func (.yield l) #[] #[], .pointer (some ⟨b1, 0, none⟩), .pointer (some ⟨b2, 0, none⟩), .pointer (some ⟨b3, 0, none⟩)] W fun e W' => (∃ v, e = .returned v) ∧
      ((∃ ys, ys = belowL path head ks ∧ J ys W') ∨ (∃ pre, pre <+: belowL path head ks ∧ Jx pre W')) := by
  have c1 := h1.cell
  have AL : Hid (Calls Tryz.prog 11 #[.pointer (some ⟨tb, 0, none⟩)] W fun e w' => ∃ o c, e = .returned (.slice o ks.length c) ∧ w'.ownsRow W.heap.size 9 1 (.slice o ks.length c) ks.length (ks.map sv) ∧ Below W.heap.size W w') := (All_any (hT.low hWB) hcn).mono fun e w' ⟨o, c, ks', he, hk', hr, hb⟩ => by
    obtain rfl := hks.eq hk'
    exact ⟨o, c, he, hr, hb⟩
  have HPX : Hid (∀ W (p : Bs), Calls Tryz.prog 40 #[.string ⟨p.toArray⟩, .string ⟨head.toArray⟩] W fun e w' => e = .returned (.bool (Lib.hasPrefix p head)) ∧ W = w') := fun W p =>
    (Tryz.strings_HasPrefix ⟨p.toArray⟩ ⟨head.toArray⟩ W).mono fun e w' ⟨h1, h2⟩ => ⟨h1, h2.symm⟩
  have hkl : ks.length ≤ 1000000 := hcn ks hks.nodup (fun k hk => (hks.mem k).1 hk)
  obtain ⟨kn, hkn⟩ : ∃ kn, ks.length = kn := ⟨_, rfl⟩
  have HKN := Lib.hid hkn
  have HKC := Lib.hid hkc
  clear hkc
  have HBX := Lib.hid (And.intro h1 (And.intro h2 (And.intro h3 (And.intro hne (And.intro ho hd)))))
  rw [hkn] at AL hkl hY
  clear hT hcn hks hWB h1 h2 h3 ho hkn hne hd
  refine callsIn_of_wp Tryz.func68 rfl trivial ?_ rfl
  simp only [Tryz.ntmps68, List.size_toArray, List.length_cons, List.length_nil, Nat.reduceAdd, Nat.reduceSub, Array.replicate_succ, Array.replicate_zero, List.push_toArray, List.append_toArray, List.nil_append, List.cons_append]
  gi_wp2_with (gi_at_call 11; refine (callsIn_wide.2 AL.out).mono ?_; rintro e w1 ⟨ao, ac, rfl, hr, hb⟩; have H1 := Lib.hid (And.intro hr hb); clear hr hb)
  gi_loopw [10] (fun v wr => ∃ i : Nat, i ≤ kn ∧ v = .int .i64 i ∧ J (belowL path head (ks.take i)) wr ∧ KD D w1 wr) (fun i _ => kn - (intOf i).toNat)
  case atStart => exact ⟨0, Nat.zero_le _, rfl, hJd _ _ _ h0 H1.out.2, KD.refl _ _⟩
  case round =>
    obtain ⟨i, hi, rfl, hJ, hK⟩ := hrel
    have hB1 := H1.out.2
    obtain ⟨b1x, b2x, b3x, ⟨hn1, hn2, hn3⟩, ho, hd⟩ := HBX.out
    have ho1 : ownAt w1 D = none := by unfold ownAt at ho ⊢; rw [hB1.block D hd]; exact ho
    have k2 := KD.boxed (W := w1) (W' := wr) ((hB1.block b2 b2x.lt).trans b2x) hK hn2 (by rw [ho1]; simp)
    have k3 := KD.boxed (W := w1) (W' := wr) ((hB1.block b3 b3x.lt).trans b3x) hK hn3 (by rw [ho1]; simp)
    have c2 := k2.cell
    have c3 := k3.cell
    have hrow : wr.ownsRow W.heap.size 9 1 (.slice ao kn ac) kn (ks.map sv) := row_keep H1.out.1 (fun g hg => by
      have hid := row_ids H1.out.1 g hg
      obtain ⟨cur, hcur⟩ := (ownsRow_type H1.out.1 g hg).2
      exact hK.keep g _ _ _ hcur (by omega) (by rw [ho1]; simp))
    have htx : TxtRow wr (.slice ao kn ac) ks := by have e := HKN.out; rw [← e] at hrow ⊢; exact TxtRow.of_owns hrow
    clear hrow hB1 b1x b2x b3x hn1 hn2 hn3 ho hd ho1 k2 k3 c1
    by_cases hlt : i < kn
    · obtain ⟨hh, hp1, hp2, hcell⟩ := htx.at_
      obtain ⟨gb, off, rfl, hgl, hc0⟩ := hcell i (by have := HKN.out; omega)
      have hbt := bel_take (path := path) (head := head) (ks := ks) (i := i) (by have := HKN.out; omega)
      have hbl := bel_len (path := path) (head := head) (ks := ks) i
      have hcap : kn ≤ ac := by omega
      unfold maxLen at hp2
      have hpc := HKC.out (ks[i]'(by have := HKN.out; omega)) (List.getElem_mem _)
      generalize ks[i]'(by have := HKN.out; omega) = p at *
      have hcx : wr.cell? ⟨gb, off + i, none⟩ = some (.string ⟨p.toArray⟩) := hc0
      have i1 : i < kn := hlt
      have t0 : decide ((i : Int) < (kn : Int)) = true := by rw [decide_eq_true_eq]; omega
      have hw1 : IntKind.i64.wrap ((i : Int) + 1) = (i : Int) + 1 := IntWalk.i64_in _ (by omega)
      have HP1 := Lib.hid (fun W => HPX.out W p)
      have HJK := Lib.hid (And.intro hJ hK)
      have HI := Lib.hid (And.intro hlt hbl)
      have HPC := Lib.hid hpc
      clear hpc
      by_cases hpp : p = path
      · have hin : inBel path head p = false := by unfold inBel; rw [hpp]; simp
        rw [if_neg (by rw [hin]; simp), List.append_nil] at hbt
        have HBT := Lib.hid hbt
        subst hpp
        clear hcell hh hp1 hc0 hbt hbl hin hJ hK hlt hi htx HPX hY
        gi_wp2_with fail
        go_roundw
        case rel => exact ⟨i + 1, by have := HI.out; omega, by go_num, by rw [HBT.out]; exact HJK.out.1, HJK.out.2⟩
        case measure => have := HI.out; simp [intOf]; omega
      · have e1 : (p == path) = false := beq_eq_false_iff_ne.2 hpp
        have e2 : (⟨p.toArray⟩ : ByteArray) ≠ ⟨path.toArray⟩ := fun e => hpp (by simpa using e)
        cases hpre : Lib.hasPrefix p head with
        | false =>
          have hin : inBel path head p = false := by unfold inBel; rw [hpre]; simp
          rw [if_neg (by rw [hin]; simp), List.append_nil] at hbt
          have HBT := Lib.hid hbt
          rw [hpre] at HP1
          clear hcell hh hp1 hc0 hbt hbl hin hJ hK hlt hi htx HPX hY hpre
          gi_wp2_with (gi_at_call 40; refine (callsIn_wide.2 (HP1.out _)).mono ?_; rintro e w2 ⟨rfl, rfl⟩)
          go_roundw
          case rel => exact ⟨i + 1, by have := HI.out; omega, by go_num, by rw [HBT.out]; exact HJK.out.1, HJK.out.2⟩
          case measure => have := HI.out; simp [intOf]; omega
        | true =>
          have hin : inBel path head p = true := by unfold inBel; rw [hpre, e1]; rfl
          rw [if_pos hin] at hbt
          have HBT := Lib.hid hbt
          have HPF := Lib.hid (bel_pre (path := path) (head := head) (ks := ks) (i + 1))
          rw [hpre] at HP1
          clear hcell hh hp1 hc0 hbt hin hJ hK hi htx HPX hpre
          gi_wp2_with (gi_at_call 40; refine (callsIn_wide.2 (HP1.out _)).mono ?_; rintro e w2 ⟨rfl, rfl⟩)
          obtain ⟨fn, tmps, assign, body, hy, hR⟩ := hY (belowL path head (ks.take i)) p wr HJK.out.1 (by omega)
          dsimp only [encC, sv] at hy
          rw [cutS_id HPC.out] at hy
          clear hY
          gi_wp2_with fail
          first | refine hR.mono ?_ | (rw [hy]; gi_wp2_with fail; refine hR.mono ?_)
          rintro e W3 (⟨rfl, hJ3, hk3⟩ | ⟨rfl, hJx3⟩)
          · gi_wp2_with fail
            go_roundw
            case rel => exact ⟨i + 1, by have := HI.out; omega, by go_num, by rw [HBT.out]; exact hJ3, HJK.out.2.trans hk3⟩
            case measure => have := HI.out; simp [intOf]; omega
          · gi_wp2_with fail
            refine bodyPost_ret (results_none rfl _ _ _) rfl ?_
            exact ⟨⟨_, rfl⟩, .inr ⟨_, HPF.out, by rw [HBT.out]; exact hJx3⟩⟩
    · obtain rfl : i = kn := by omega
      have hkk := HKN.out
      rw [List.take_of_length_le (by omega)] at hJ
      have t0 : decide ((i : Int) < (i : Int)) = false := by rw [decide_eq_false_iff_not]; omega
      clear htx hkk
      gi_wp2_with fail
      go_end0
      exact ⟨⟨_, rfl⟩, .inl ⟨_, rfl, hJ⟩⟩
theorem below_stopsC (b1 b2 b3 D : Nat) (path head : Bs) {w : World} {B tb m : Nat} {who : Own} {nd : Bs → Option Nat} {S : Bs → Option ND} (hT : Tr w B tb m who nd S) (hcn : Cnt S 1000000) (ks : List Bs) (hks : KeysOf S ks) (hkc : ∀ k ∈ ks, k.length ≤ 100000) (w0 : World) (hw0 : Below w.heap.size w w0)
    (h1 : Boxed w0 b1 25 (.pointer (some ⟨tb, 0, none⟩))) (h2 : Boxed w0 b2 9 (.string ⟨path.toArray⟩)) (h3 : Boxed w0 b3 9 (.string ⟨head.toArray⟩)) (hd : D < w0.heap.size) (hne : b1 ≠ D ∧ b2 ≠ D ∧ b3 ≠ D) (ho : ownAt w0 D = none) :
    SeqStopsK Fence.wide 2 Tryz.prog 68 #[.pointer (some ⟨b1, 0, none⟩), .pointer (some ⟨b2, 0, none⟩), .pointer (some ⟨b3, 0, none⟩)] encC (KD D) (fun ys => ys = belowL path head ks) (fun pre => pre <+: belowL path head ks) ks.length w0 := fun l J Jx W hW hJ _ hY h0 =>
  below1_inC 2 (by omega) l b1 b2 b3 D path head hT hcn ks hks hkc J Jx (fun pre W1 W2 hj hb => hJ pre W1 W2 none hj ⟨hb.os, hb.tape, hb.output, hb.size, fun k hk _ => hb.block k hk⟩ (fun r e => by cases e)) hY W (hw0.trans (hW.mono hw0.size)) ((hW.block b1 h1.lt).trans h1) ((hW.block b2 h2.lt).trans h2) ((hW.block b3 h3.lt).trans h3) (Nat.lt_of_lt_of_le hd hW.size) hne (by unfold ownAt at ho ⊢; rw [hW.block D hd]; exact ho) h0
end Go.Proofs.YtjgdfgpnmmkjfaaGreatDoor
