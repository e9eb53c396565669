/- Contracts of a rule's items: what 'item' lays into a map of numbers. -/
import Derived.Test.YtkahakhhdiffcaaGreatDoorCNx1
import Derived.Test.YtkahakhhdiffcaaGreatDoorVMap
import Derived.Deep.RegionWith
namespace Go.Proofs.YtkahakhhdiffcaaGreatDoor
set_option linter.unusedVariables false
set_option linter.unusedSimpArgs false
open Go.RowKit
open Go.Maps (Keyed int_keyed)
def niv (n : Int) : Value := .int .i64 n
theorem niv_inj (a b : Int) (h : niv a = niv b) : a = b := by injection h
theorem nikeyed : Keyed Tryz.prog 3 := int_keyed Tryz.underlying3
theorem nikey {i : Int} (h0 : 0 ≤ i) (h1 : i ≤ 1000000) : keyOf Tryz.prog 3 (niv i) = some (.int .i64 i) := Maps.keyOf_int_mk Tryz.underlying3 (by
  have e1 : IntKind.i64.min = -9223372036854775808 := rfl
  have e2 : IntKind.i64.max = 9223372036854775807 := rfl
  simp [Lit.wf, e1, e2]; omega)
/-- All but block b stays. -/
structure MS (b : Nat) (w w' : World) : Prop where
  os : w'.os = w.os
  tape : w'.tape = w.tape
  output : w'.output = w.output
  size : w.heap.size ≤ w'.heap.size
  block : ∀ k, k < w.heap.size → k ≠ b → w'.heap[k]? = w.heap[k]?
theorem MS.refl (b : Nat) (w : World) : MS b w w := ⟨rfl, rfl, rfl, Nat.le_refl _, fun _ _ _ => rfl⟩
theorem MS.trans {b : Nat} {u v w : World} (h : MS b u v) (k : MS b v w) : MS b u w :=
  ⟨k.os.trans h.os, k.tape.trans h.tape, k.output.trans h.output, Nat.le_trans h.size k.size, fun i hi hb => (k.block i (Nat.lt_of_lt_of_le hi h.size) hb).trans (h.block i hi hb)⟩
theorem MS.of_below {b : Nat} {w w' : World} (h : Below w.heap.size w w') : MS b w w' := ⟨h.os, h.tape, h.output, h.size, fun k hk _ => h.block k hk⟩
theorem MS.of_only {b : Nat} {w w' : World} (h : Only b w w') : MS b w w' := ⟨h.os, h.tape, h.output, by rw [h.size]; exact Nat.le_refl _, fun k _ hb => h.block k hb⟩
theorem MS.below {b B : Nat} {w w' : World} (h : MS b w w') (hb : B ≤ b) (hB : B ≤ w.heap.size) : Below B w w' := ⟨h.os, h.tape, h.output, h.size, fun k hk => h.block k (by omega) (by omega)⟩
/-- What a map of numbers holds. -/
def gF (F : Nat → Bool) (n : Int) : Option Value := if 0 ≤ n ∧ F n.toNat = true then some (.bool true) else none
def FAt (w : World) (mb : Nat) (F : Nat → Bool) : Prop := MapAt Tryz.prog 3 niv w mb (gF F)
theorem FAt.below {w w' : World} {mb : Nat} {F : Nat → Bool} (h : FAt w mb F) (hb : Below w.heap.size w w') : FAt w' mb F := MapAt.congr h (hb.block mb (MapAt.lt h))
theorem FAt.store {w : World} {mb : Nat} {F : Nat → Bool} (h : FAt w mb F) {n : Nat} (hn : n ≤ 1000000) :
    ∃ w', (Instr.mapUpdate 48 (.map (some mb)) (.int .i64 n) (.bool true)).run Tryz.prog w = .ok () w' ∧ Only mb w w' ∧ FAt w' mb (fun k => F k || decide (k = n)) := by
  obtain ⟨w', h1, h2, h3⟩ := MapAt.store h nikeyed (t := 48) (et := 4) Tryz.underlying48 niv_inj (nikey (i := (n : Int)) (by omega) (by omega)) (.bool true)
  refine ⟨w', h1, h2, ?_⟩
  have e : (fun k' : Int => if k' = (n : Int) then some (Value.bool true) else gF F k') = gF (fun k => F k || decide (k = n)) := by
    funext k
    unfold gF
    by_cases hk : k = (n : Int)
    · subst hk; simp
    · rw [if_neg hk]
      by_cases h0 : 0 ≤ k
      · have : ¬ k.toNat = n := by omega
        simp [h0, this]
      · rw [if_neg (by omega), if_neg (by omega)]
  unfold FAt
  rw [← e]
  exact h3
set_option maxRecDepth 100000 in
theorem FAt.look {w : World} {mb : Nat} {F : Nat → Bool} (h : FAt w mb F) {n : Nat} (hn : n ≤ 1000000) :
    (Instr.lookup 48 (.map (some mb)) (.int .i64 n) false).run Tryz.prog w = .ok (.bool (F n)) w := by
  have := MapAt.look h nikeyed (t := 48) (et := 4) Tryz.underlying48 (z := .bool false) (by kernel_rfl) (nikey (i := (n : Int)) (by omega) (by omega))
  refine this.trans ?_
  congr 1
  unfold gF
  cases hF : F n <;> simp [hF]
theorem FAt.new (w : World) : FAt (w.alloc (.map #[] 0)) w.heap.size (fun _ => false) := by
  have := mapAt_new Tryz.prog 3 niv w
  unfold FAt
  have e : gF (fun _ => false) = fun _ => none := by funext k; simp [gF]
  rw [e]
  exact this
def MaxIs (w : World) : Prop := ∃ m, w.cell? ⟨0, 0, none⟩ = some (.int .i64 m)
theorem cutp_any (s : Bs) (w : World) : Calls Tryz.prog 51 #[.string ⟨s.toArray⟩, .string ⟨#[42, 47]⟩] w fun e w' => e = .returned (.tuple #[.string ⟨(if starS s = true then s.drop 2 else s).toArray⟩, .bool (starS s)]) ∧ w = w' := by
  refine (Tryz.strings_CutPrefix ⟨s.toArray⟩ ⟨#[42, 47]⟩ w).mono ?_
  rintro e w' ⟨rfl, rfl⟩
  refine ⟨?_, rfl⟩
  have h : Lib.hasPrefix s [42, 47] = starS s ∧ Lib.trimPrefix s [42, 47] = if starS s = true then s.drop 2 else s := by
    unfold Lib.trimPrefix Lib.hasPrefix
    match s with
    | [] => exact ⟨rfl, rfl⟩
    | [a] => 
      have : starS [a] = false := by unfold starS; split <;> simp_all
      rw [this]
      simp [List.isPrefixOf]
    | a :: b :: r =>
      by_cases h1 : a = 42
      · subst h1
        by_cases h2 : b = 47
        · subst h2; simp [starS, List.isPrefixOf]
        · have : starS (42 :: b :: r) = false := by unfold starS; split <;> simp_all
          rw [this]
          simp [List.isPrefixOf, Ne.symm h2]
      · have : starS (a :: b :: r) = false := by unfold starS; split <;> simp_all
        rw [this]
        simp [List.isPrefixOf, Ne.symm h1]
  show Ending.returned (.tuple #[.string ⟨(Lib.trimPrefix s [42, 47]).toArray⟩, .bool (Lib.hasPrefix s [42, 47])]) = _
  rw [h.1, h.2]
theorem cut_any (s : Bs) (hs : s.length ≤ 100000) {a b : Bs} {both : Bool} (hc : Lib.cut s [45] = (a, b, both)) (w : World) (hM : MaxIs w) : Calls Tryz.prog 53 #[.string ⟨s.toArray⟩, .string ⟨#[45]⟩] w fun e w' => e = .returned (.tuple #[.string ⟨a.toArray⟩, .string ⟨b.toArray⟩, .bool both]) ∧ Below w.heap.size w w' := by
  obtain ⟨m, hm⟩ := hM
  refine (Tryz.strings_Cut ⟨s.toArray⟩ ⟨#[45]⟩ m w (by show s.length < _; omega) hm).mono ?_
  rintro e w' ⟨rfl, n, rfl⟩
  refine ⟨?_, (Below.refl _ w).trans ⟨rfl, rfl, rfl, Nat.le_refl _, fun _ _ => rfl⟩⟩
  show Ending.returned (.tuple #[.string ⟨(Lib.cut s [45]).1.toArray⟩, .string ⟨(Lib.cut s [45]).2.1.toArray⟩, .bool (Lib.cut s [45]).2.2]) = _
  rw [hc]
theorem rangeF_all {F : Nat → Bool} {fr tt st : Nat} : (fun k => F k || (rangeF fr tt st k && decide (k < tt + 1))) = fun k => F k || rangeF fr tt st k := by
  funext k
  unfold rangeF
  by_cases h : k ≤ tt
  · simp [show k < tt + 1 by omega]
  · simp [h]
theorem rangeF_none {F : Nat → Bool} {fr tt st : Nat} : (fun k => F k || (rangeF fr tt st k && decide (k < fr))) = F := by
  funext k
  unfold rangeF
  by_cases h : fr ≤ k
  · simp [show ¬ k < fr by omega]
  · simp [h]
theorem rangeF_step {F : Nat → Bool} {fr tt st j : Nat} (hj : fr ≤ j) (hj2 : j ≤ tt) (hm : j % st = 0) : (fun k => (F k || (rangeF fr tt st k && decide (k < j))) || decide (k = j)) = fun k => F k || (rangeF fr tt st k && decide (k < j + 1)) := by
  funext k
  unfold rangeF
  by_cases h : k = j
  · subst h; simp [hj, hj2, hm]
  · have : decide (k < j + 1) = decide (k < j) := by rw [decide_eq_decide]; omega
    simp [h, this]
theorem rangeF_skip {F : Nat → Bool} {fr tt st j : Nat} (hm : ¬ j % st = 0) : (fun k => F k || (rangeF fr tt st k && decide (k < j))) = fun k => F k || (rangeF fr tt st k && decide (k < j + 1)) := by
  funext k
  unfold rangeF
  by_cases h : k = j
  · subst h; simp [hm]
  · have : decide (k < j + 1) = decide (k < j) := by rw [decide_eq_decide]; omega
    rw [this]
def addF (F : Nat → Bool) : Option (Nat → Bool) → Nat → Bool
  | some G => fun k => F k || G k
  | none => F
set_option maxRecDepth 100000 in
set_option maxHeartbeats 1600000 in
theorem item_A1 (mb : Nat) (F : Nat → Bool) (s : Bs) (lo hi : Nat) (hlh : lo ≤ hi) (hhi : hi ≤ 1000) (hs : s.length ≤ 100000) (w : World) (hF : FAt w mb F) (hM : MaxIs w) (hst : starS s = true) (hok : okIn (s.drop 2) 1 59 = true) :
    Calls Tryz.prog 46 #[.map (some mb), .string ⟨s.toArray⟩, .int .i64 lo, .int .i64 hi] w fun e w' => e = .returned (.bool true) ∧ FAt w' mb (fun k => F k || rangeF lo hi (numS (s.drop 2)) k) ∧ MS mb w w' := by
  have HF := Lib.hid hF
  have HM := Lib.hid hM
  have CP := Lib.hid (fun W => cutp_any s W)
  rw [if_pos hst, hst] at CP
  obtain ⟨q, hq⟩ : ∃ q, s.drop 2 = q := ⟨_, rfl⟩
  have hql : q.length ≤ 100000 := by rw [← hq, List.length_drop]; omega
  rw [hq] at CP hok
  try rw [hq]
  have PL := Lib.hid (fun W => plain_any q 1 59 hql W)
  rw [hok] at PL
  have hv : plV q = (numS q : Int) ∧ 1 ≤ numS q ∧ numS q ≤ 59 := by
    unfold okIn at hok
    simp only [Bool.and_eq_true, decide_eq_true_eq] at hok
    exact ⟨by unfold plV; rw [if_pos hok.1.1], hok.1.2, hok.2⟩
  rw [hv.1] at PL
  obtain ⟨st, hstv⟩ : ∃ st, numS q = st := ⟨_, rfl⟩
  rw [hstv] at PL hv ⊢
  obtain ⟨_, hs1, hs2⟩ := hv
  have e1 : lo ≤ hi := hlh
  clear hok hstv hst hF hM hq
  go_enter Tryz.func46, Tryz.ntmps46
  go_wp2_with (first | (go_at_call 51; refine (CP.out _).mono ?_; rintro e w1 ⟨rfl, rfl⟩) | (go_at_call 102; refine (PL.out _).mono ?_; rintro e w2 ⟨rfl, hB⟩; have HW := Lib.hid hB; clear hB))
  have HF0 : Hid (FAt w2 mb F ∧ MS mb w w2) := ⟨HF.out.below HW.out, MS.of_below HW.out⟩
  clear CP
  go_loopw [19] (fun i wr => ∃ j : Nat, lo ≤ j ∧ j ≤ hi + 1 ∧ i = .int .i64 (j : Int) ∧ FAt wr mb (fun k => F k || (rangeF lo hi st k && decide (k < j))) ∧ MS mb w wr) (fun i _ => hi + 1 - (intOf i).toNat)
  case atStart => exact ⟨lo, Nat.le_refl _, by omega, rfl, by rw [rangeF_none]; exact HF0.out.1, HF0.out.2⟩
  case round =>
    obtain ⟨j, hj1, hj2, rfl, hf, hms⟩ := hrel
    have HMS := Lib.hid hms
    by_cases hlt : j ≤ hi
    · have t1 : decide ((j : Int) ≤ (hi : Int)) = true := by rw [decide_eq_true_eq]; omega
      have hst0 : ((st : Int) == 0) = false := by simp; omega
      have hw1 : IntKind.i64.wrap ((j : Int) + 1) = (j : Int) + 1 := IntWalk.i64_in _ (by omega)
      have hrm : (j : Int).tmod (st : Int) = ((j % st : Nat) : Int) := by rw [Int.tmod_eq_emod_of_nonneg (by omega)]; rfl
      obtain ⟨w', hrun, hon, hf2⟩ := hf.store (n := j) (by omega)
      have HON := Lib.hid (MS.of_only hon)
      clear hon hms
      by_cases hm : j % st = 0
      · rw [rangeF_step hj1 hlt hm] at hf2
        have HF2 := Lib.hid hf2
        rw [hm] at hrm
        have hz : ((j : Int).tmod (st : Int) == 0) = true := by rw [hrm]; rfl
        clear hf hf2 hrm
        go_wp2_with fail
        go_round
        case rel => exact ⟨j + 1, by omega, by omega, by go_num, HF2.out, HMS.out.trans HON.out⟩
        case measure => simp [intOf]; omega
      · rw [rangeF_skip hm] at hf
        have HF2 := Lib.hid hf
        have hz : ((j : Int).tmod (st : Int) == 0) = false := by rw [hrm]; simp; omega
        clear hf hf2 hrm
        go_wp2_with fail
        go_round
        case rel => exact ⟨j + 1, by omega, by omega, by go_num, HF2.out, HMS.out⟩
        case measure => simp [intOf]; omega
    · have t1 : decide ((j : Int) ≤ (hi : Int)) = false := by rw [decide_eq_false_iff_not]; omega
      obtain rfl : j = hi + 1 := by omega
      rw [rangeF_all] at hf
      have HF2 := Lib.hid hf
      clear hf hms
      go_wp2_with fail
      go_ret
      exact ⟨rfl, HF2.out, HMS.out⟩
set_option maxRecDepth 100000 in
set_option maxHeartbeats 1600000 in
theorem item_A0 (mb : Nat) (F : Nat → Bool) (s : Bs) (lo hi : Nat) (hlh : lo ≤ hi) (hhi : hi ≤ 1000) (hs : s.length ≤ 100000) (w : World) (hF : FAt w mb F) (hM : MaxIs w) (hst : starS s = true) (hok : okIn (s.drop 2) 1 59 = false) :
    Calls Tryz.prog 46 #[.map (some mb), .string ⟨s.toArray⟩, .int .i64 lo, .int .i64 hi] w fun e w' => e = .returned (.bool false) ∧ FAt w' mb (F) ∧ MS mb w w' := by
  have HF := Lib.hid hF
  have HM := Lib.hid hM
  have CP := Lib.hid (fun W => cutp_any s W)
  rw [if_pos hst, hst] at CP
  obtain ⟨q, hq⟩ : ∃ q, s.drop 2 = q := ⟨_, rfl⟩
  have hql : q.length ≤ 100000 := by rw [← hq, List.length_drop]; omega
  rw [hq] at CP hok
  try rw [hq]
  have PL := Lib.hid (fun W => plain_any q 1 59 hql W)
  rw [hok] at PL
  clear hok hst hF hM hq
  go_enter Tryz.func46, Tryz.ntmps46
  go_wp2_with (first | (go_at_call 51; refine (CP.out _).mono ?_; rintro e w1 ⟨rfl, rfl⟩) | (go_at_call 102; refine (PL.out _).mono ?_; rintro e w2 ⟨rfl, hB⟩; have HW := Lib.hid hB; clear hB))
  have HF0 : Hid (FAt w2 mb F ∧ MS mb w w2) := ⟨HF.out.below HW.out, MS.of_below HW.out⟩
  clear CP
  go_loopw [19] (fun i wr => wr = w2) (fun i _ => 0)
  case atStart => rfl
  case round =>
    subst hrel
    go_wp2_with fail
    go_ret
    exact ⟨rfl, HF0.out.1, HF0.out.2⟩
theorem cut_miss {s a b : Bs} (h : Lib.cut s [45] = (a, b, false)) : a = s := by
  unfold Lib.cut at h
  split at h
  · injection h with h1 h2; injection h2 with h2 h3; cases h3
  · injection h with h1 h2; exact h1.symm
theorem cut_len {s a b : Bs} {c : Bool} (h : Lib.cut s [45] = (a, b, c)) : a.length ≤ s.length ∧ b.length ≤ s.length := by
  unfold Lib.cut at h
  split at h
  · injection h with h1 h2; injection h2 with h2 h3; subst h1 h2; simp; omega
  · injection h with h1 h2; injection h2 with h2 h3; subst h1 h2; simp
theorem okIn_in {s : Bs} {lo hi : Nat} (h : okIn s lo hi = true) : plV s = (numS s : Int) ∧ lo ≤ numS s ∧ numS s ≤ hi := by
  unfold okIn at h
  simp only [Bool.and_eq_true, decide_eq_true_eq] at h
  exact ⟨by unfold plV; rw [if_pos h.1.1], h.1.2, h.2⟩
set_option maxRecDepth 100000 in
set_option maxHeartbeats 1600000 in
theorem item_B2 (mb : Nat) (F : Nat → Bool) (s : Bs) (lo hi : Nat) (hlh : lo ≤ hi) (hhi : hi ≤ 1000) (hs : s.length ≤ 100000) (w : World) (hF : FAt w mb F) (hM : MaxIs w) (hst : starS s = false) {a b : Bs} (hc : Lib.cut s [45] = (a, b, false)) (hok : okIn s lo hi = true) :
    Calls Tryz.prog 46 #[.map (some mb), .string ⟨s.toArray⟩, .int .i64 lo, .int .i64 hi] w fun e w' => e = .returned (.bool true) ∧ FAt w' mb (fun k => F k || rangeF (numS s) (numS s) 1 k) ∧ MS mb w w' := by
  have HF := Lib.hid hF
  have HM := Lib.hid hM
  have CP := Lib.hid (fun W => cutp_any s W)
  rw [hst] at CP
  simp only [Bool.false_eq_true, if_false] at CP
  have CU := Lib.hid (fun W h => cut_any s hs hc W h)
  obtain ⟨hla, hlb⟩ := cut_len hc
  obtain rfl := cut_miss hc
  have PL := Lib.hid (fun W => plain_any a lo hi hs W)
  rw [hok] at PL
  obtain ⟨e1, e2, e3⟩ := okIn_in hok
  rw [e1] at PL
  clear hok hc e1
  generalize numS a = fr at *
  clear hst hF hM hla hlb
  go_enter Tryz.func46, Tryz.ntmps46
  go_wp2_with (first | (go_at_call 51; refine (CP.out _).mono ?_; rintro e w1 ⟨rfl, rfl⟩) | (go_at_call 53; refine (CU.out _ HM.out).mono ?_; rintro e w2 ⟨rfl, hB⟩; have H2 := Lib.hid hB; clear hB) | (go_at_call 102; refine (PL.out _).mono ?_; rintro e w3 ⟨rfl, hB⟩; have HW := Lib.hid (H2.out.trans (hB.mono H2.out.size)); clear hB))
  have HF0 : Hid (FAt w3 mb F ∧ MS mb w w3) := ⟨HF.out.below HW.out, MS.of_below HW.out⟩
  clear CP
  go_loopw [19] (fun i wr => ∃ j : Nat, fr ≤ j ∧ j ≤ fr + 1 ∧ i = .int .i64 (j : Int) ∧ FAt wr mb (fun k => F k || (rangeF fr fr 1 k && decide (k < j))) ∧ MS mb w wr) (fun i _ => fr + 1 - (intOf i).toNat)
  case atStart => exact ⟨fr, Nat.le_refl _, by omega, rfl, by rw [rangeF_none]; exact HF0.out.1, HF0.out.2⟩
  case round =>
    obtain ⟨j, hj1, hj2, rfl, hf, hms⟩ := hrel
    have HMS := Lib.hid hms
    by_cases hlt : j ≤ fr
    · have t1 : decide ((j : Int) ≤ (fr : Int)) = true := by rw [decide_eq_true_eq]; omega
      have hw1 : IntKind.i64.wrap ((j : Int) + 1) = (j : Int) + 1 := IntWalk.i64_in _ (by omega)
      obtain ⟨w', hrun, hon, hf2⟩ := hf.store (n := j) (by omega)
      have HON := Lib.hid (MS.of_only hon)
      clear hon hms
      rw [rangeF_step hj1 hlt (by omega)] at hf2
      have HF2 := Lib.hid hf2
      have hz : ((j : Int).tmod 1 == 0) = true := by simp
      clear hf hf2
      go_wp2_with fail
      go_round
      case rel => exact ⟨j + 1, by omega, by omega, by go_num, HF2.out, HMS.out.trans HON.out⟩
      case measure => simp [intOf]; omega
    · have t1 : decide ((j : Int) ≤ (fr : Int)) = false := by rw [decide_eq_false_iff_not]; omega
      obtain rfl : j = fr + 1 := by omega
      rw [rangeF_all] at hf
      have HF2 := Lib.hid hf
      clear hf hms
      go_wp2_with fail
      go_ret
      exact ⟨rfl, HF2.out, HMS.out⟩
set_option maxRecDepth 100000 in
set_option maxHeartbeats 1600000 in
theorem item_B2n (mb : Nat) (F : Nat → Bool) (s : Bs) (lo hi : Nat) (hlh : lo ≤ hi) (hhi : hi ≤ 1000) (hs : s.length ≤ 100000) (w : World) (hF : FAt w mb F) (hM : MaxIs w) (hst : starS s = false) {a b : Bs} (hc : Lib.cut s [45] = (a, b, false)) (hok : okIn s lo hi = false) :
    Calls Tryz.prog 46 #[.map (some mb), .string ⟨s.toArray⟩, .int .i64 lo, .int .i64 hi] w fun e w' => e = .returned (.bool false) ∧ FAt w' mb (F) ∧ MS mb w w' := by
  have HF := Lib.hid hF
  have HM := Lib.hid hM
  have CP := Lib.hid (fun W => cutp_any s W)
  rw [hst] at CP
  simp only [Bool.false_eq_true, if_false] at CP
  have CU := Lib.hid (fun W h => cut_any s hs hc W h)
  obtain ⟨hla, hlb⟩ := cut_len hc
  obtain rfl := cut_miss hc
  have PL := Lib.hid (fun W => plain_any a lo hi hs W)
  rw [hok] at PL
  clear hok hc hst hF hM hla hlb
  generalize plV a = v at *
  go_enter Tryz.func46, Tryz.ntmps46
  go_wp2_with (first | (go_at_call 51; refine (CP.out _).mono ?_; rintro e w1 ⟨rfl, rfl⟩) | (go_at_call 53; refine (CU.out _ HM.out).mono ?_; rintro e w2 ⟨rfl, hB⟩; have H2 := Lib.hid hB; clear hB) | (go_at_call 102; refine (PL.out _).mono ?_; rintro e w3 ⟨rfl, hB⟩; have HW := Lib.hid (H2.out.trans (hB.mono H2.out.size)); clear hB))
  have HF0 : Hid (FAt w3 mb F ∧ MS mb w w3) := ⟨HF.out.below HW.out, MS.of_below HW.out⟩
  clear CP
  go_loopw [19] (fun i wr => wr = w3) (fun i _ => 0)
  case atStart => rfl
  case round =>
    subst hrel
    go_wp2_with fail
    go_ret
    exact ⟨rfl, HF0.out.1, HF0.out.2⟩
set_option maxRecDepth 100000 in
set_option maxHeartbeats 1600000 in
theorem item_B1 (mb : Nat) (F : Nat → Bool) (s : Bs) (lo hi : Nat) (hlh : lo ≤ hi) (hhi : hi ≤ 1000) (hs : s.length ≤ 100000) (w : World) (hF : FAt w mb F) (hM : MaxIs w) (hst : starS s = false) {a b : Bs} (hc : Lib.cut s [45] = (a, b, true)) (hoa : okIn a lo hi = true) (hob : okIn b lo hi = true) (hab : numS a ≤ numS b) :
    Calls Tryz.prog 46 #[.map (some mb), .string ⟨s.toArray⟩, .int .i64 lo, .int .i64 hi] w fun e w' => e = .returned (.bool true) ∧ FAt w' mb (fun k => F k || rangeF (numS a) (numS b) 1 k) ∧ MS mb w w' := by
  have HF := Lib.hid hF
  have HM := Lib.hid hM
  have CP := Lib.hid (fun W => cutp_any s W)
  rw [hst] at CP
  simp only [Bool.false_eq_true, if_false] at CP
  have CU := Lib.hid (fun W h => cut_any s hs hc W h)
  obtain ⟨hla, hlb⟩ := cut_len hc
  have PL := Lib.hid (fun W => plain_any a lo hi (by omega) W)
  have PB := Lib.hid (fun W => plain_any b lo hi (by omega) W)
  rw [hoa] at PL
  rw [hob] at PB
  obtain ⟨e1, e2, e3⟩ := okIn_in hoa
  obtain ⟨e4, e5, e6⟩ := okIn_in hob
  rw [e1] at PL
  rw [e4] at PB
  clear hoa hob hc e1 e4
  generalize numS a = fr at *
  generalize numS b = tt at *
  have tle : decide ((fr : Int) ≤ (tt : Int)) = true := by rw [decide_eq_true_eq]; omega
  clear hst hF hM hla hlb
  go_enter Tryz.func46, Tryz.ntmps46
  go_wp2_with (first | (go_at_call 51; refine (CP.out _).mono ?_; rintro e w1 ⟨rfl, rfl⟩) | (go_at_call 53; refine (CU.out _ HM.out).mono ?_; rintro e w2 ⟨rfl, hB⟩; have H2 := Lib.hid hB; clear hB) | (go_at_call 102; with_reducible refine (PL.out _).mono ?_; rintro e w3 ⟨rfl, hB⟩; have H3 := Lib.hid (H2.out.trans (hB.mono H2.out.size)); clear hB) | (go_at_call 102; with_reducible refine (PB.out _).mono ?_; rintro e w4 ⟨rfl, hB⟩; have HW := Lib.hid (H3.out.trans (hB.mono H3.out.size)); clear hB))
  have HF0 : Hid (FAt w4 mb F ∧ MS mb w w4) := ⟨HF.out.below HW.out, MS.of_below HW.out⟩
  clear CP
  go_loopw [19] (fun i wr => ∃ j : Nat, fr ≤ j ∧ j ≤ tt + 1 ∧ i = .int .i64 (j : Int) ∧ FAt wr mb (fun k => F k || (rangeF fr tt 1 k && decide (k < j))) ∧ MS mb w wr) (fun i _ => tt + 1 - (intOf i).toNat)
  case atStart => exact ⟨fr, Nat.le_refl _, by omega, rfl, by rw [rangeF_none]; exact HF0.out.1, HF0.out.2⟩
  case round =>
    obtain ⟨j, hj1, hj2, rfl, hf, hms⟩ := hrel
    have HMS := Lib.hid hms
    by_cases hlt : j ≤ tt
    · have t1 : decide ((j : Int) ≤ (tt : Int)) = true := by rw [decide_eq_true_eq]; omega
      have hw1 : IntKind.i64.wrap ((j : Int) + 1) = (j : Int) + 1 := IntWalk.i64_in _ (by omega)
      obtain ⟨w', hrun, hon, hf2⟩ := hf.store (n := j) (by omega)
      have HON := Lib.hid (MS.of_only hon)
      clear hon hms
      rw [rangeF_step hj1 hlt (by omega)] at hf2
      have HF2 := Lib.hid hf2
      have hz : ((j : Int).tmod 1 == 0) = true := by simp
      clear hf hf2
      go_wp2_with fail
      go_round
      case rel => exact ⟨j + 1, by omega, by omega, by go_num, HF2.out, HMS.out.trans HON.out⟩
      case measure => simp [intOf]; omega
    · have t1 : decide ((j : Int) ≤ (tt : Int)) = false := by rw [decide_eq_false_iff_not]; omega
      obtain rfl : j = tt + 1 := by omega
      rw [rangeF_all] at hf
      have HF2 := Lib.hid hf
      clear hf hms
      go_wp2_with fail
      go_ret
      exact ⟨rfl, HF2.out, HMS.out⟩
set_option maxRecDepth 100000 in
set_option maxHeartbeats 1600000 in
theorem item_B1n (mb : Nat) (F : Nat → Bool) (s : Bs) (lo hi : Nat) (hlh : lo ≤ hi) (hhi : hi ≤ 1000) (hs : s.length ≤ 100000) (w : World) (hF : FAt w mb F) (hM : MaxIs w) (hst : starS s = false) {a b : Bs} (hc : Lib.cut s [45] = (a, b, true)) (hoa : okIn a lo hi = false) :
    Calls Tryz.prog 46 #[.map (some mb), .string ⟨s.toArray⟩, .int .i64 lo, .int .i64 hi] w fun e w' => e = .returned (.bool false) ∧ FAt w' mb (F) ∧ MS mb w w' := by
  have HF := Lib.hid hF
  have HM := Lib.hid hM
  have CP := Lib.hid (fun W => cutp_any s W)
  rw [hst] at CP
  simp only [Bool.false_eq_true, if_false] at CP
  have CU := Lib.hid (fun W h => cut_any s hs hc W h)
  obtain ⟨hla, hlb⟩ := cut_len hc
  have PL := Lib.hid (fun W => plain_any a lo hi (by omega) W)
  have PB := Lib.hid (fun W => plain_any b lo hi (by omega) W)
  rw [hoa] at PL
  clear hoa hc hst hF hM hla hlb
  generalize plV a = v at *
  generalize plV b = v2 at *
  generalize okIn b lo hi = ob at *
  go_enter Tryz.func46, Tryz.ntmps46
  go_wp2_with (first | (go_at_call 51; refine (CP.out _).mono ?_; rintro e w1 ⟨rfl, rfl⟩) | (go_at_call 53; refine (CU.out _ HM.out).mono ?_; rintro e w2 ⟨rfl, hB⟩; have H2 := Lib.hid hB; clear hB) | (go_at_call 102; with_reducible refine (PL.out _).mono ?_; rintro e w3 ⟨rfl, hB⟩; have H3 := Lib.hid (H2.out.trans (hB.mono H2.out.size)); clear hB) | (go_at_call 102; with_reducible refine (PB.out _).mono ?_; rintro e w4 ⟨rfl, hB⟩; have HW := Lib.hid (H3.out.trans (hB.mono H3.out.size)); clear hB))
  have HF0 : Hid (FAt w4 mb F ∧ MS mb w w4) := ⟨HF.out.below HW.out, MS.of_below HW.out⟩
  clear CP
  go_loopw [19] (fun i wr => wr = w4) (fun i _ => 0)
  case atStart => rfl
  case round =>
    subst hrel
    go_wp2_with fail
    go_ret
    exact ⟨rfl, HF0.out.1, HF0.out.2⟩
set_option maxRecDepth 100000 in
set_option maxHeartbeats 1600000 in
theorem item_B1m (mb : Nat) (F : Nat → Bool) (s : Bs) (lo hi : Nat) (hlh : lo ≤ hi) (hhi : hi ≤ 1000) (hs : s.length ≤ 100000) (w : World) (hF : FAt w mb F) (hM : MaxIs w) (hst : starS s = false) {a b : Bs} (hc : Lib.cut s [45] = (a, b, true)) (hoa : okIn a lo hi = true) (hob : okIn b lo hi = false) :
    Calls Tryz.prog 46 #[.map (some mb), .string ⟨s.toArray⟩, .int .i64 lo, .int .i64 hi] w fun e w' => e = .returned (.bool false) ∧ FAt w' mb (F) ∧ MS mb w w' := by
  have HF := Lib.hid hF
  have HM := Lib.hid hM
  have CP := Lib.hid (fun W => cutp_any s W)
  rw [hst] at CP
  simp only [Bool.false_eq_true, if_false] at CP
  have CU := Lib.hid (fun W h => cut_any s hs hc W h)
  obtain ⟨hla, hlb⟩ := cut_len hc
  have PL := Lib.hid (fun W => plain_any a lo hi (by omega) W)
  have PB := Lib.hid (fun W => plain_any b lo hi (by omega) W)
  rw [hoa] at PL
  rw [hob] at PB
  clear hoa hob hc hst hF hM hla hlb
  generalize plV a = v at *
  generalize plV b = v2 at *
  go_enter Tryz.func46, Tryz.ntmps46
  go_wp2_with (first | (go_at_call 51; refine (CP.out _).mono ?_; rintro e w1 ⟨rfl, rfl⟩) | (go_at_call 53; refine (CU.out _ HM.out).mono ?_; rintro e w2 ⟨rfl, hB⟩; have H2 := Lib.hid hB; clear hB) | (go_at_call 102; with_reducible refine (PL.out _).mono ?_; rintro e w3 ⟨rfl, hB⟩; have H3 := Lib.hid (H2.out.trans (hB.mono H2.out.size)); clear hB) | (go_at_call 102; with_reducible refine (PB.out _).mono ?_; rintro e w4 ⟨rfl, hB⟩; have HW := Lib.hid (H3.out.trans (hB.mono H3.out.size)); clear hB))
  have HF0 : Hid (FAt w4 mb F ∧ MS mb w w4) := ⟨HF.out.below HW.out, MS.of_below HW.out⟩
  clear CP
  go_loopw [19] (fun i wr => wr = w4) (fun i _ => 0)
  case atStart => rfl
  case round =>
    subst hrel
    go_wp2_with fail
    go_ret
    exact ⟨rfl, HF0.out.1, HF0.out.2⟩
set_option maxRecDepth 100000 in
set_option maxHeartbeats 1600000 in
theorem item_B1o (mb : Nat) (F : Nat → Bool) (s : Bs) (lo hi : Nat) (hlh : lo ≤ hi) (hhi : hi ≤ 1000) (hs : s.length ≤ 100000) (w : World) (hF : FAt w mb F) (hM : MaxIs w) (hst : starS s = false) {a b : Bs} (hc : Lib.cut s [45] = (a, b, true)) (hoa : okIn a lo hi = true) (hob : okIn b lo hi = true) (hab : ¬ numS a ≤ numS b) :
    Calls Tryz.prog 46 #[.map (some mb), .string ⟨s.toArray⟩, .int .i64 lo, .int .i64 hi] w fun e w' => e = .returned (.bool false) ∧ FAt w' mb (F) ∧ MS mb w w' := by
  have HF := Lib.hid hF
  have HM := Lib.hid hM
  have CP := Lib.hid (fun W => cutp_any s W)
  rw [hst] at CP
  simp only [Bool.false_eq_true, if_false] at CP
  have CU := Lib.hid (fun W h => cut_any s hs hc W h)
  obtain ⟨hla, hlb⟩ := cut_len hc
  have PL := Lib.hid (fun W => plain_any a lo hi (by omega) W)
  have PB := Lib.hid (fun W => plain_any b lo hi (by omega) W)
  rw [hoa] at PL
  rw [hob] at PB
  rw [(okIn_in hoa).1] at PL
  rw [(okIn_in hob).1] at PB
  clear hoa hob hc hst hF hM hla hlb
  generalize numS a = fr at *
  generalize numS b = tt at *
  have tle : decide ((fr : Int) ≤ (tt : Int)) = false := by rw [decide_eq_false_iff_not]; omega
  go_enter Tryz.func46, Tryz.ntmps46
  go_wp2_with (first | (go_at_call 51; refine (CP.out _).mono ?_; rintro e w1 ⟨rfl, rfl⟩) | (go_at_call 53; refine (CU.out _ HM.out).mono ?_; rintro e w2 ⟨rfl, hB⟩; have H2 := Lib.hid hB; clear hB) | (go_at_call 102; with_reducible refine (PL.out _).mono ?_; rintro e w3 ⟨rfl, hB⟩; have H3 := Lib.hid (H2.out.trans (hB.mono H2.out.size)); clear hB) | (go_at_call 102; with_reducible refine (PB.out _).mono ?_; rintro e w4 ⟨rfl, hB⟩; have HW := Lib.hid (H3.out.trans (hB.mono H3.out.size)); clear hB))
  have HF0 : Hid (FAt w4 mb F ∧ MS mb w w4) := ⟨HF.out.below HW.out, MS.of_below HW.out⟩
  clear CP
  go_loopw [19] (fun i wr => wr = w4) (fun i _ => 0)
  case atStart => rfl
  case round =>
    subst hrel
    go_wp2_with fail
    go_ret
    exact ⟨rfl, HF0.out.1, HF0.out.2⟩
theorem item_any (mb : Nat) (F : Nat → Bool) (s : Bs) (lo hi : Nat) (hlh : lo ≤ hi) (hhi : hi ≤ 1000) (hs : s.length ≤ 100000) (w : World) (hF : FAt w mb F) (hM : MaxIs w) :
    Calls Tryz.prog 46 #[.map (some mb), .string ⟨s.toArray⟩, .int .i64 lo, .int .i64 hi] w fun e w' => e = .returned (.bool (itemP s lo hi).isSome) ∧ FAt w' mb (addF F (itemP s lo hi)) ∧ MS mb w w' := by
  unfold itemP
  cases hst : starS s with
  | true =>
    cases hok : okIn (s.drop 2) 1 59 with
    | true => exact item_A1 mb F s lo hi hlh hhi hs w hF hM hst hok
    | false => exact item_A0 mb F s lo hi hlh hhi hs w hF hM hst hok
  | false =>
    simp only [Bool.false_eq_true, if_false]
    unfold itemR
    split
    rename_i a b both hc
    cases both with
    | false =>
      obtain rfl := cut_miss hc
      cases hok : okIn a lo hi with
      | true =>
        simp only [Bool.false_eq_true, if_false, hok, Bool.and_self, Nat.le_refl, decide_true, if_true]
        exact item_B2 mb F a lo hi hlh hhi hs w hF hM hst hc hok
      | false =>
        simp only [Bool.false_eq_true, if_false, hok, Bool.false_and]
        exact item_B2n mb F a lo hi hlh hhi hs w hF hM hst hc hok
    | true =>
      cases hoa : okIn a lo hi with
      | false =>
        simp only [hoa, Bool.false_and, Bool.false_eq_true, if_false]
        exact item_B1n mb F s lo hi hlh hhi hs w hF hM hst hc hoa
      | true =>
        cases hob : okIn b lo hi with
        | false =>
          simp only [if_true, hoa, hob, Bool.true_and, Bool.false_and, Bool.false_eq_true, if_false]
          exact item_B1m mb F s lo hi hlh hhi hs w hF hM hst hc hoa hob
        | true =>
          by_cases hab : numS a ≤ numS b
          · simp only [if_true, hoa, hob, Bool.true_and, hab, decide_true]
            exact item_B1 mb F s lo hi hlh hhi hs w hF hM hst hc hoa hob hab
          · simp only [if_true, hoa, hob, Bool.true_and, hab, decide_false, Bool.false_eq_true, if_false]
            exact item_B1o mb F s lo hi hlh hhi hs w hF hM hst hc hoa hob hab
end Go.Proofs.YtkahakhhdiffcaaGreatDoor
