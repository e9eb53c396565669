/- 'light' of the statements on layer 16, over acts whose sum is bounded. -/
import Derived.Test.YtjgdfgpnmmkjfaaGreatDoorNPl0
namespace Go.Proofs.YtjgdfgpnmmkjfaaGreatDoor
set_option linter.unusedVariables false
set_option linter.unusedSimpArgs false
open Go.RowKit Go.MapKept

/-- An act, and where its list lies. -/
structure AN where
  k : Int
  s : Bs
  t : Bs
  L : List Bs
  cl : Bool
  lo : Option Addr
  lc : Nat
def AN.sum (x : AN) : Nat := x.s.length + x.t.length + 1 + longS x.L
def sumN : List AN → Nat
  | [] => 0
  | x :: l => x.sum + sumN l
theorem sumN_append (l m : List AN) : sumN (l ++ m) = sumN l + sumN m := by
  induction l with
  | nil => simp [sumN]
  | cons x l ih => simp [sumN, ih]; omega
theorem sumN_take {l : List AN} {k : Nat} (h : k < l.length) : sumN (l.take (k + 1)) = sumN (l.take k) + l[k].sum := by
  rw [List.take_succ_eq_append_getElem h, sumN_append]; simp [sumN]
theorem sumN_le (l : List AN) (k : Nat) : sumN (l.take k) ≤ sumN l := by
  have h : sumN l = sumN (l.take k) + sumN (l.drop k) := by rw [← sumN_append, List.take_append_drop]
  omega
theorem longS_append (l m : List Bs) : longS (l ++ m) = longS l + longS m := by
  induction l with
  | nil => simp [longS]
  | cons x l ih => simp [longS, ih]; omega
theorem longS_take {l : List Bs} {k : Nat} (h : k < l.length) : longS (l.take (k + 1)) = longS (l.take k) + (l[k].length + 1) := by
  rw [List.take_succ_eq_append_getElem h, longS_append]; simp [longS]
theorem longS_le (l : List Bs) (k : Nat) : longS (l.take k) ≤ longS l := by
  have h : longS l = longS (l.take k) + longS (l.drop k) := by rw [← longS_append, List.take_append_drop]
  omega
theorem longS_mem {l : List Bs} {p : Bs} (h : p ∈ l) : p.length + 1 ≤ longS l := by
  induction l with
  | nil => cases h
  | cons x l ih =>
    simp only [longS]
    rcases List.mem_cons.1 h with rfl | h
    · omega
    · have := ih h; omega
theorem longS_len (l : List Bs) : l.length ≤ longS l := by
  induction l with
  | nil => simp [longS]
  | cons x l ih => simp only [longS, List.length_cons]; omega
def lightN (l : List AN) : Bool := decide (l.length ≤ 40) && decide (sumN l ≤ 1500)
/-- The acts lie below block n. -/
structure AR (n : Nat) (w : World) (ao : Option Addr) (l : List AN) : Prop where
  row : l ≠ [] → ∃ b off, ao = some ⟨b, off, none⟩ ∧ b < n ∧ ∀ (i : Nat) (h : i < l.length),
    w.cell? ⟨b, off + i * 5, none⟩ = some (.int .i64 l[i].k) ∧ w.cell? ⟨b, off + i * 5 + 1, none⟩ = some (.string ⟨l[i].s.toArray⟩) ∧ w.cell? ⟨b, off + i * 5 + 2, none⟩ = some (.string ⟨l[i].t.toArray⟩) ∧
    w.cell? ⟨b, off + i * 5 + 3, none⟩ = some (.slice l[i].lo l[i].L.length l[i].lc) ∧ w.cell? ⟨b, off + i * 5 + 4, none⟩ = some (.bool l[i].cl)
  txt : ∀ x ∈ l, TxtRow w (.slice x.lo x.L.length x.lc) x.L ∧ ∀ a, x.lo = some a → 0 < x.L.length → a.block < n
theorem AR.below {n : Nat} {w w' : World} {ao : Option Addr} {l : List AN} (h : AR n w ao l) (hb : Below n w w') : AR n w' ao l := by
  refine ⟨fun hne => ?_, fun x hx => ⟨?_, (h.txt x hx).2⟩⟩
  · obtain ⟨b, off, h1, h2, h3⟩ := h.row hne
    refine ⟨b, off, h1, h2, fun i hi => ?_⟩
    obtain ⟨c0, c1, c2, c3, c4⟩ := h3 i hi
    exact ⟨(hb.cell (p := ⟨b, _, none⟩) h2).trans c0, (hb.cell (p := ⟨b, _, none⟩) h2).trans c1, (hb.cell (p := ⟨b, _, none⟩) h2).trans c2, (hb.cell (p := ⟨b, _, none⟩) h2).trans c3, (hb.cell (p := ⟨b, _, none⟩) h2).trans c4⟩
  · obtain ⟨⟨o, c, h1, h2, h3, h4⟩, h5⟩ := h.txt x hx
    refine ⟨o, c, h1, h2, h3, fun i hi => ?_⟩
    obtain ⟨b, off, e, hl, hc⟩ := h4 i hi
    cases h1
    refine ⟨b, off, e, Nat.lt_of_lt_of_le hl hb.size, (hb.cell (p := ⟨b, off + i, none⟩) (h5 ⟨b, off, none⟩ e (by omega))).trans hc⟩
set_option maxRecDepth 100000 in
set_option maxHeartbeats 3200000 in
theorem light_any (l : List AN) (ao : Option Addr) (cap : Nat) (hl : l.length ≤ 2000000) (hs : sumN l ≤ 4611686018427387904) (w : World) (hR : AR w.heap.size w ao l) :
    Calls Tryz.prog 6 #[.slice ao l.length cap] w fun e w' => e = .returned (.bool (lightN l)) ∧ Below w.heap.size w w' := by
  have HR := Lib.hid hR
  obtain ⟨N, hN⟩ : ∃ N, l.length = N := ⟨_, rfl⟩
  have HN := Lib.hid (And.intro hN hs)
  rw [hN] at hl ⊢
  clear hR hN hs
  go_enter Tryz.func6, Tryz.ntmps6
  go_wp2_with fail
  go_loopw [10, 3] (fun i n wr => ∃ k : Nat, k ≤ N ∧ i = .int .i64 (k : Int) ∧ n = .int .i64 ((sumN (l.take k) : Nat) : Int) ∧ Below w.heap.size w wr) (fun i _ _ => N - (intOf i).toNat)
  case atStart => exact ⟨0, Nat.zero_le _, rfl, rfl, Below.refl _ _⟩
  case round =>
    obtain ⟨k, hk, rfl, rfl, hb⟩ := hrel
    by_cases hlt : k < N
    · have hkl : k < l.length := by have := HN.out.1; omega
      obtain ⟨b, off, rfl, hbl, hc⟩ := HR.out.row (by intro h; rw [h] at hkl; simp at hkl)
      obtain ⟨c0, c1, c2, c3, c4⟩ := hc k hkl
      have d0 := (hb.cell (p := ⟨b, _, none⟩) hbl).trans c0
      have d1 := (hb.cell (p := ⟨b, _, none⟩) hbl).trans c1
      have d2 := (hb.cell (p := ⟨b, _, none⟩) hbl).trans c2
      have d3 := (hb.cell (p := ⟨b, _, none⟩) hbl).trans c3
      have d4 := (hb.cell (p := ⟨b, _, none⟩) hbl).trans c4
      have hst := sumN_take hkl
      have hle := sumN_le l (k + 1)
      have hN2 := HN.out.2
      have hT := (HR.out.txt l[k] (List.getElem_mem _)).1
      generalize l[k] = x at *
      obtain ⟨xk, xs, xt, xL, xc, xo, xlc⟩ := x
      simp only [AN.sum] at d0 d1 d2 d3 d4 hst hT
      obtain ⟨hh, hp1, hp2, hcell⟩ := hT.at_
      unfold maxLen at hp2
      have HC := Lib.hid hcell
      generalize sumN (l.take k) = n at *
      obtain ⟨m, hm⟩ : ∃ m, xL.length = m := ⟨_, rfl⟩
      have HM := Lib.hid (And.intro hm (And.intro hlt (And.intro hst (And.intro hle hN2))))
      rw [hm] at d3 hp1
      have hmB := longS_len xL
      have hs1 : IntKind.i64.wrap ((xs.length : Int) + (xt.length : Int)) = (xs.length : Int) + (xt.length : Int) := IntWalk.i64_in _ (by omega)
      have hs2 : IntKind.i64.wrap ((xs.length : Int) + (xt.length : Int) + 1) = (xs.length : Int) + (xt.length : Int) + 1 := IntWalk.i64_in _ (by omega)
      have hs3 : IntKind.i64.wrap ((n : Int) + ((xs.length : Int) + (xt.length : Int) + 1)) = (n : Int) + ((xs.length : Int) + (xt.length : Int) + 1) := IntWalk.i64_in _ (by omega)
      have t0 : decide ((k : Int) < (N : Int)) = true := by rw [decide_eq_true_eq]; omega
      have hw1 : IntKind.i64.wrap ((k : Int) + 1) = (k : Int) + 1 := IntWalk.i64_in _ (by omega)
      have i1 : k < N := hlt
      have HBW := Lib.hid hb
      clear c0 c1 c2 c3 c4 hc hcell hh hT hm hst hle hN2 hk hkl hb hlt hmB
      go_wp2_with fail
      obtain ⟨wo, rfl⟩ : ∃ wo : World, wo = wr := ⟨_, rfl⟩
      go_loopw [27, 3] (fun i z wy => ∃ j : Nat, j ≤ m ∧ i = .int .i64 (j : Int) ∧ z = .int .i64 ((n + (xs.length + xt.length + 1) + longS (xL.take j) : Nat) : Int) ∧ Below w.heap.size w wy ∧ Below wo.heap.size wo wy) (fun i _ _ => m - (intOf i).toNat)
      case atStart => exact ⟨0, Nat.zero_le _, rfl, by simp [longS], HBW.out.alloc HBW.out.size _, (Below.refl _ wo).alloc (Nat.le_refl _) _⟩
      case round =>
        obtain ⟨j, hj, rfl, rfl, hby, hbz⟩ := hrel
        by_cases hjm : j < m
        · obtain ⟨gb, of2, rfl, hgl, hc0⟩ := HC.out j (by have := HM.out.1; omega)
          have hcx0 := (hbz.cell (p := ⟨gb, of2 + j, none⟩) (Nat.lt_of_lt_of_le hgl HBW.out.size)).trans ((HBW.out.cell (p := ⟨gb, of2 + j, none⟩) hgl).trans hc0)
          have hlt2 := longS_take (l := xL) (k := j) (by have := HM.out.1; omega)
          have hle2 := longS_le xL (j + 1)
          generalize xL[j]'(by have := HM.out.1; omega) = p at *
          have hcx : wr.cell? ⟨gb, of2 + j, none⟩ = some (.string ⟨p.toArray⟩) := hcx0
          obtain ⟨z, hz⟩ : ∃ z, n + (xs.length + xt.length + 1) + longS (xL.take j) = z := ⟨_, rfl⟩
          have HZ : Hid (n + (xs.length + xt.length + 1) + longS (xL.take (j + 1)) = z + (p.length + 1) ∧ j < m ∧ z + (p.length + 1) ≤ 4611686018427387904) := ⟨by omega, hjm, by have := HM.out; omega⟩
          have hzb : z + (p.length + 1) ≤ 4611686018427387904 := HZ.out.2.2
          rw [hz]
          have i2 : j < m := hjm
          have hcap : m ≤ xlc := by omega
          have t2 : decide ((j : Int) < (m : Int)) = true := by rw [decide_eq_true_eq]; omega
          have hs4 : IntKind.i64.wrap ((p.length : Int) + 1) = (p.length : Int) + 1 := IntWalk.i64_in _ (by omega)
          have hs5 : IntKind.i64.wrap ((z : Int) + ((p.length : Int) + 1)) = (z : Int) + ((p.length : Int) + 1) := IntWalk.i64_in _ (by omega)
          have hs6 : IntKind.i64.wrap ((j : Int) + 1) = (j : Int) + 1 := IntWalk.i64_in _ (by omega)
          have HBY := Lib.hid (And.intro hby hbz)
          clear hcx0 hlt2 hle2 hz hj hjm hby hbz hc0
          go_wp2_with fail
          exact ⟨⟨j + 1, by have := HZ.out; omega, by go_num, by rw [HZ.out.1]; push_cast; rfl, HBY.out.1, HBY.out.2⟩, by have := HZ.out; simp [intOf]; omega⟩
        · have hjn : j = m := by omega
          subst hjn
          have t2 : decide ((j : Int) < (j : Int)) = false := by rw [decide_eq_false_iff_not]; omega
          rw [List.take_of_length_le (by have := HM.out.1; omega)]
          have HZ : Hid (n + (xs.length + xt.length + 1) + longS xL = sumN (l.take (k + 1)) ∧ k < N) := ⟨by have := HM.out.2.2.1; omega, HM.out.2.1⟩
          have HBY := Lib.hid hby
          generalize n + (xs.length + xt.length + 1) + longS xL = z at *
          clear hj hjm hby hbz
          go_wp2_with fail
          exact ⟨⟨k + 1, by have := HZ.out; omega, by go_num, by rw [← HZ.out.1], HBY.out⟩, by have := HZ.out; simp [intOf]; omega⟩
    · have hkn : k = N := by omega
      subst hkn
      have hN1 := HN.out.1
      rw [List.take_of_length_le (by omega)]
      have t0 : decide ((k : Int) < (k : Int)) = false := by rw [decide_eq_false_iff_not]; omega
      have HF : Hid (lightN l = (decide (k ≤ 40) && decide (sumN l ≤ 1500))) := by show _ = _; unfold lightN; rw [hN1]
      have HBW := Lib.hid hb
      generalize sumN l = n at *
      clear hk hb hlt hN1
      by_cases h4 : k ≤ 40
      · have h4i : decide ((k : Int) ≤ 40) = true := by rw [decide_eq_true_eq]; omega
        by_cases h5 : n ≤ 1500
        · have h5i : decide ((n : Int) ≤ 1500) = true := by rw [decide_eq_true_eq]; omega
          have HF2 : Hid (lightN l = true) := by show _ = _; rw [HF.out]; simp [h4, h5]
          go_wp2_with fail
          go_ret
          exact ⟨by rw [HF2.out]; first | rfl | simp [h5], HBW.out⟩
        · have h5i : decide ((n : Int) ≤ 1500) = false := by rw [decide_eq_false_iff_not]; omega
          have HF2 : Hid (lightN l = false) := by show _ = _; rw [HF.out]; simp [h5]
          go_wp2_with fail
          go_ret
          exact ⟨by rw [HF2.out]; first | rfl | simp [h5], HBW.out⟩
      · have h4i : decide ((k : Int) ≤ 40) = false := by rw [decide_eq_false_iff_not]; omega
        have HF2 : Hid (lightN l = false) := by show _ = _; rw [HF.out]; simp [h4]
        go_wp2_with fail
        go_ret
        exact ⟨by rw [HF2.out]; rfl, HBW.out⟩
end Go.Proofs.YtjgdfgpnmmkjfaaGreatDoor
