/- Rules of times in plain Lean: numbers, items, fields; days that fit, the next time. Contracts of a rule's numbers: digits and plain. The reference's numbers of a rule: 'small'. -/
import Derived.Test.YtkahakhhdiffcaaGreatDoorPlain
import Derived.Test.YtkahakhhdiffcaaGreatDoorCWeekP
import Derived.Lib.SplitLaws
import Derived.Lib.ItoaNum
import Derived.Lib.Atoi
import Derived.Lib.IndexBytes
import Derived.Lib.IndexLaws
import Derived.Test.YtkahakhhdiffcaaGreatDoorCNum
import Derived.Test.YtkahakhhdiffcaaGreatDoorHeap
import Derived.Test.YtkahakhhdiffcaaGreatDoorShelf
import Derived.Test.YtkahakhhdiffcaaGreatDoorCAwake
import Derived.Test.YtkahakhhdiffcaaGreatDoorCREaster
import Derived.Lib.AtoiAll
namespace Go.Proofs.YtkahakhhdiffcaaGreatDoor
set_option linter.unusedVariables false
set_option linter.unusedSimpArgs false
/-- A decimal digit; the number that one or two digits spell, no zero ahead. -/
def isDg (c : UInt8) : Bool := decide (48 ≤ c.toNat) && decide (c.toNat ≤ 57)
def numS : Bs → Nat
  | [a] => a.toNat - 48
  | [a, b] => (a.toNat - 48) * 10 + (b.toNat - 48)
  | _ => 0
def okS : Bs → Bool
  | [a] => isDg a
  | [a, b] => isDg a && isDg b && decide (a.toNat ≠ 48)
  | _ => false
def okIn (s : Bs) (lo hi : Nat) : Bool := okS s && decide (lo ≤ numS s) && decide (numS s ≤ hi)
theorem dg_of {a : UInt8} {n : Nat} (h : a.toNat = 48 + n) (hn : n < 10) : UInt8.ofNat (48 + n) = a := by
  apply UInt8.toNat_inj.1
  rw [UInt8.toNat_ofNat_of_lt' (by simp [UInt8.size]; omega), h]
theorem okS_itoa : ∀ {s : Bs}, okS s = true → numS s < 100 ∧ Lib.itoa (numS s) = s := by
  intro s h
  match s, h with
  | [a], h =>
    simp [okS, isDg] at h
    have hn : numS [a] = a.toNat - 48 := rfl
    rw [hn]
    refine ⟨by omega, ?_⟩
    unfold Lib.itoa
    rw [if_neg (by omega), Int.toNat_natCast, Lib.decDigits_one (by omega), dg_of (a := a) (by omega) (by omega)]
  | [a, b], h =>
    simp [okS, isDg] at h
    have hn : numS [a, b] = (a.toNat - 48) * 10 + (b.toNat - 48) := rfl
    rw [hn]
    refine ⟨by omega, ?_⟩
    unfold Lib.itoa
    rw [if_neg (by omega), Int.toNat_natCast, Lib.decDigits_two (by omega) (by omega), dg_of (a := a) (by omega) (by omega), dg_of (a := b) (by omega) (by omega)]
theorem itoa_okS {n : Nat} (h : n < 100) : okS (Lib.itoa n) = true ∧ numS (Lib.itoa n) = n := by
  have ht : ∀ k, k < 10 → (UInt8.ofNat (48 + k)).toNat = 48 + k := fun k hk => by
    rw [UInt8.toNat_ofNat_of_lt' (by simp [UInt8.size]; omega)]
  unfold Lib.itoa
  rw [if_neg (by omega), Int.toNat_natCast]
  by_cases h1 : n < 10
  · rw [Lib.decDigits_one h1]
    simp only [okS, numS, isDg, ht n h1]
    simp
    omega
  · rw [Lib.decDigits_two h1 h]
    simp only [okS, numS, isDg, ht _ (show n / 10 < 10 by omega), ht _ (show n % 10 < 10 by omega)]
    simp
    omega
theorem itoa_short {n : Int} (h0 : 0 ≤ n) (h : (Lib.itoa n).length ≤ 2) : n < 100 := by
  unfold Lib.itoa at h
  rw [if_neg (by omega), Lib.decDigits_length] at h
  have h1 := Lib.lt_pow_nDigits n.toNat
  have h2 : 10 ^ Lib.nDigits n.toNat ≤ 10 ^ 2 := Nat.pow_le_pow_right (by omega) h
  omega
theorem dgv {a : UInt8} (h : 48 ≤ a.toNat ∧ a.toNat ≤ 57) : Lib.digitVal a = some (a.toNat - 48) := by
  cases hd : Lib.digitVal a with
  | none => 
    unfold Lib.digitVal at hd
    simp [UInt8.le_iff_toNat_le] at hd
    omega
  | some d => have := Lib.digitVal_eq hd; rw [this.2.2]
theorem atoi_okS : ∀ {s : Bs}, okS s = true → Lib.atoi s = some (numS s : Int) := by
  intro s h
  have hne : ∀ a : UInt8, 48 ≤ a.toNat → (a == 45) = false ∧ (a == 43) = false := fun a ha => by
    constructor <;> (rw [beq_eq_false_iff_ne]; rintro rfl; revert ha; decide)
  match s, h with
  | [a], h =>
    simp [okS, isDg] at h
    obtain ⟨e1, e2⟩ := hne a h.1
    simp [Lib.atoi, e1, e2, Lib.decNat, Lib.decFrom, dgv h, numS]
  | [a, b], h =>
    simp [okS, isDg] at h
    obtain ⟨e1, e2⟩ := hne a h.1.1.1
    simp [Lib.atoi, e1, e2, Lib.decNat, Lib.decFrom, dgv h.1.1, dgv h.1.2, numS]
theorem small_iff {s : Bs} (hs : s.length ≤ 2) (lo hi : Nat) {n : Int} (hn : Lib.atoi s = some n ∨ (Lib.atoi s = none ∧ n = 0)) :
    (decide (Lib.itoa n = s) && (decide ((lo : Int) ≤ n) && decide (n ≤ (hi : Int)))) = okIn s lo hi ∧ (okS s = true → n = numS s) := by
  unfold okIn
  by_cases ho : okS s = true
  · have h1 := atoi_okS ho
    have h2 : n = numS s := by
      rcases hn with h | ⟨h, _⟩
      · rw [h1] at h; injection h with h; exact h.symm
      · rw [h1] at h; cases h
    subst h2
    refine ⟨?_, fun _ => rfl⟩
    simp [(okS_itoa ho).2, ho]
  · refine ⟨?_, fun h => absurd h ho⟩
    simp only [Bool.not_eq_true] at ho
    rw [ho]
    rw [Bool.false_and, Bool.false_and, Bool.eq_false_iff]
    intro h
    simp only [Bool.and_eq_true, decide_eq_true_eq] at h
    obtain ⟨h1, h2, h3⟩ := h
    have h4 := itoa_short (n := n) (by omega) (by rw [h1]; exact hs)
    have h5 := (itoa_okS (n := n.toNat) (by omega)).1
    rw [show ((n.toNat : Nat) : Int) = n by omega, h1, ho] at h5
    cases h5
/-- How many digits a text begins with, at most k. -/
def digN : Bs → Nat → Nat
  | [], _ => 0
  | _ :: _, 0 => 0
  | a :: r, k + 1 => if isDg a = true then digN r k + 1 else 0
theorem digN_le : ∀ (s : Bs) (k : Nat), digN s k ≤ s.length ∧ digN s k ≤ k
  | [], k => by simp [digN]
  | _ :: _, 0 => by simp [digN]
  | a :: r, k + 1 => by
    have := digN_le r k
    unfold digN
    split
    · simp; omega
    · simp
theorem dig_at : ∀ (s : Bs) (k i : Nat), i < digN s k → ∃ h : i < s.length, isDg s[i] = true
  | [], k, i, h => by simp [digN] at h
  | _ :: _, 0, i, h => by simp [digN] at h
  | a :: r, k + 1, i, h => by
    unfold digN at h
    split at h
    · rename_i ha
      cases i with
      | zero => exact ⟨by simp, ha⟩
      | succ j =>
        obtain ⟨h1, h2⟩ := dig_at r k j (by omega)
        exact ⟨by simp; omega, by simpa using h2⟩
    · omega
theorem dig_end : ∀ (s : Bs) (k : Nat), digN s k < k → ∀ h : digN s k < s.length, isDg s[digN s k] = false
  | [], k, _, h => by simp at h
  | _ :: _, 0, h, _ => by simp [digN] at h
  | a :: r, k + 1, h, h2 => by
    by_cases ha : isDg a = true
    · have e : digN (a :: r) (k + 1) = digN r k + 1 := by rw [digN, if_pos ha]
      have := dig_end r k (by omega) (by rw [e] at h2; simpa using h2)
      simp only [e, List.getElem_cons_succ]
      exact this
    · have e : digN (a :: r) (k + 1) = 0 := by rw [digN, if_neg ha]
      simp only [e, List.getElem_cons_zero]
      simpa using ha
theorem plain_yes {s : Bs} (h : okS s = true) : digN s 3 = s.length ∧ (s.length = 1 ∨ (s.length = 2 ∧ ∀ h : 0 < s.length, s[0].toNat ≠ 48)) := by
  match s, h with
  | [a], h => simp [okS] at h; simp [digN, h]
  | [a, b], h =>
    simp [okS] at h
    simp [digN, h]
theorem plain_no {s : Bs} (h : okS s = false) : digN s 3 = 0 ∨ 2 < digN s 3 ∨ (digN s 3 ≤ 2 ∧ 0 < digN s 3 ∧ digN s 3 < s.length) ∨ (digN s 3 = 2 ∧ s.length = 2 ∧ ∃ h : 0 < s.length, s[0].toNat = 48) := by
  match s, h with
  | [], _ => left; rfl
  | [a], h => left; simp [okS] at h; simp [digN, h]
  | [a, b], h =>
    by_cases ha : isDg a = true
    · by_cases hb : isDg b = true
      · right; right; right
        simp [okS, ha, hb] at h
        simp [digN, ha, hb, h]
      · right; right; left; simp [digN, ha, hb]
    · left; simp [digN, ha]
  | a :: b :: c :: r, _ =>
    by_cases ha : isDg a = true
    · by_cases hb : isDg b = true
      · by_cases hc : isDg c = true
        · right; left; simp [digN, ha, hb, hc]
        · right; right; left; simp [digN, ha, hb, hc]
      · right; right; left; simp [digN, ha, hb]
    · left; simp [digN, ha]
/-- The numbers from a to b that are multiples of st. -/
def rangeF (a b st : Nat) : Nat → Bool := fun n => decide (a ≤ n) && decide (n ≤ b) && decide (n % st = 0)
def starS : Bs → Bool
  | 42 :: 47 :: _ => true
  | _ => false
/-- An item of a field: the program's, the reference's. -/
def itemR (s : Bs) (lo hi : Nat) : Option (Nat → Bool) :=
  match Lib.cut s [45] with
  | (a, b, both) =>
    let b := if both then b else a
    if (okIn a lo hi && okIn b lo hi && decide (numS a ≤ numS b)) = true then some (rangeF (numS a) (numS b) 1) else none
def itemP (s : Bs) (lo hi : Nat) : Option (Nat → Bool) :=
  if starS s = true then (if okIn (s.drop 2) 1 59 = true then some (rangeF lo hi (numS (s.drop 2))) else none) else itemR s lo hi
def fieldsG (item : Bs → Option (Nat → Bool)) : List Bs → (Nat → Bool) → Option (Nat → Bool)
  | [], f => some f
  | x :: r, f => match item x with
    | none => none
    | some g => fieldsG item r (fun n => f n || g n)
def itemM (many : Bool) (lo hi : Nat) (s : Bs) : Option (Nat → Bool) := if (many && decide (s.head? = some 42)) = true then none else itemP s lo hi
def fieldP (s : Bs) (lo hi : Nat) : Option (Nat → Bool) :=
  if s = [42] then some (rangeF lo hi 1) else fieldsG (itemM (decide (1 < (Lib.split s [44]).length)) lo hi) (Lib.split s [44]) (fun _ => false)
def fieldR (s : Bs) (lo hi : Nat) : Option (Nat → Bool) :=
  if s = [42] then some (rangeF lo hi 1)
  else if starS s = true then (if okIn (s.drop 2) 1 59 = true then some (rangeF lo hi (numS (s.drop 2))) else none)
  else fieldsG (fun x => itemR x lo hi) (Lib.split s [44]) (fun _ => false)
theorem split_one {s : Bs} {c : UInt8} (h : c ∉ s) : Lib.split s [c] = [s] := by
  unfold Lib.split
  rw [Lib.count_one, List.count_eq_zero.2 h]
  rfl
theorem splitK_ne (sep : Bs) (k : Nat) (s : Bs) : Lib.splitK sep 0 k s ≠ [] := by
  cases k with
  | zero => simp [Lib.splitK]
  | succ k => unfold Lib.splitK; split <;> simp
theorem split_more {s : Bs} {c : UInt8} (h : c ∈ s) : ∃ (i : Nat) (r : List Bs), Lib.index s [c] = i ∧ Lib.split s [c] = s.take i :: r ∧ r ≠ [] := by
  have h1 : 0 < s.count c := List.count_pos_iff.2 h
  obtain ⟨k, hk⟩ : ∃ k, s.count c = k + 1 := ⟨s.count c - 1, by omega⟩
  have hi : Lib.index s [c] ≠ -1 := by
    rw [Lib.index_one]
    intro he
    obtain ⟨j, hj⟩ := List.getElem?_of_mem h
    exact Lib.indexByte_none he j hj
  have hg := Lib.index_ge s [c]
  obtain ⟨i, hi2⟩ : ∃ i : Nat, Lib.index s [c] = i := ⟨(Lib.index s [c]).toNat, by omega⟩
  refine ⟨i, Lib.splitK [c] 0 k (s.drop (i + 1)), hi2, ?_, splitK_ne _ _ _⟩
  unfold Lib.split
  rw [Lib.count_one, hk, Lib.splitK, if_neg (by rw [beq_iff_eq]; exact hi), hi2]
  simp
theorem split_pos (s : Bs) (c : UInt8) : 0 < (Lib.split s [c]).length := List.length_pos_iff.2 (by unfold Lib.split; exact splitK_ne _ _ _)
theorem okS_star {s : Bs} (h : s = [] ∨ s.head? = some 42) : okS s = false := by
  rcases h with rfl | h
  · rfl
  · cases s with
    | nil => rfl
    | cons a r =>
      simp at h
      subst h
      match r with
      | [] => rfl
      | [b] => simp [okS, isDg]
      | _ :: _ :: _ => rfl
theorem cut_star {s sep : Bs} (h : s.head? = some 42) : (Lib.cut s sep).1 = [] ∨ (Lib.cut s sep).1.head? = some 42 := by
  unfold Lib.cut
  split
  · cases s with
    | nil => cases h
    | cons a r =>
      simp at h
      subst h
      cases hk : (Lib.index (42 :: r) sep).toNat with
      | zero => left; rfl
      | succ k => right; rfl
  · right; exact h
theorem itemR_star {s : Bs} (h : s.head? = some 42) (lo hi : Nat) : itemR s lo hi = none := by
  have := okS_star (cut_star (sep := [45]) h)
  unfold itemR
  split
  rename_i a b both hc
  rw [hc] at this
  simp only at this
  simp [okIn, this]
theorem starS_head {s : Bs} (h : s.head? ≠ some 42) : starS s = false := by
  unfold starS
  split
  · simp at h
  · rfl
theorem fieldsG_eq (i1 i2 : Bs → Option (Nat → Bool)) : ∀ (l : List Bs) (f : Nat → Bool), (∀ x ∈ l, i1 x = i2 x) → fieldsG i1 l f = fieldsG i2 l f
  | [], _, _ => rfl
  | x :: r, f, h => by
    unfold fieldsG
    rw [h x (by simp)]
    cases i2 x with
    | none => rfl
    | some g => exact fieldsG_eq i1 i2 r _ (fun y hy => h y (by simp [hy]))
theorem okS_no44 {s : Bs} (h : (44 : UInt8) ∈ s) : okS s = false := by
  match s with
  | [] => rfl
  | [a] => simp at h; subst h; simp [okS, isDg]
  | [a, b] =>
    simp at h
    rcases h with h | h
    · subst h; simp [okS, isDg]
    · subst h; simp [okS, isDg]
  | _ :: _ :: _ :: _ => rfl
theorem field_eq (s : Bs) (lo hi : Nat) : fieldR s lo hi = fieldP s lo hi := by
  unfold fieldR fieldP
  by_cases h0 : s = [42]
  · rw [if_pos h0, if_pos h0]
  rw [if_neg h0, if_neg h0]
  by_cases h1 : starS s = true
  · rw [if_pos h1]
    obtain ⟨r, rfl⟩ : ∃ r, s = 42 :: 47 :: r := by
      unfold starS at h1
      split at h1
      · exact ⟨_, rfl⟩
      · cases h1
    by_cases h2 : (44 : UInt8) ∈ (42 :: 47 :: r)
    · obtain ⟨i, q, hi, hs, hq⟩ := split_more h2
      have h3 : (44 : UInt8) ∈ r := by simpa using h2
      have hlen : 1 < (Lib.split (42 :: 47 :: r) [44]).length := by
        rw [hs]
        have := List.length_pos_iff.2 hq
        simp
        omega
      rw [show (42 :: 47 :: r).drop 2 = r from rfl, if_neg (by simp [okIn, okS_no44 h3]), decide_eq_true hlen, hs]
      have hhead : ((42 :: 47 :: r).take i).head? = some 42 := by
        cases i with
        | zero =>
          exfalso
          rw [Lib.index_one] at hi
          have := (Lib.indexByte_some hi).1
          simp at this
        | succ k => rfl
      unfold fieldsG itemM
      rw [hhead]
      simp
    · rw [split_one h2]
      simp only [List.length_singleton, Nat.lt_irrefl, decide_false]
      unfold fieldsG itemM itemP
      rw [h1]
      simp only [Bool.false_and, Bool.false_eq_true, if_false, if_true]
      split <;> rename_i hc
      · simp [fieldsG, hc]
      · simp [fieldsG, hc]
  · rw [if_neg h1]
    apply fieldsG_eq
    intro x hx
    unfold itemM
    by_cases h3 : x.head? = some 42
    · rw [itemR_star h3]
      by_cases h4 : 1 < (Lib.split s [44]).length
      · simp [h4, h3]
      · have h5 : (44 : UInt8) ∉ s := fun h6 => by
          obtain ⟨i, q, hi, hs, hq⟩ := split_more h6
          have := List.length_pos_iff.2 hq
          exact h4 (by rw [hs, List.length_cons]; omega)
        rw [split_one h5] at hx ⊢
        simp at hx
        subst hx
        simp only [List.length_singleton, Nat.lt_irrefl, decide_false, Bool.false_and, Bool.false_eq_true, if_false]
        unfold itemP
        rw [if_neg h1, itemR_star h3]
    · simp only [h3, decide_false, Bool.and_false, Bool.false_eq_true, if_false]
      unfold itemP
      rw [starS_head h3]
      rfl
/-- The day n days behind January 1, 1970: its date, its weekday. -/
noncomputable def dd (n : Int) : DT := dateC (n * 86400)
theorem dd_ok {n : Int} (h : -719162 ≤ n) : DateOk (dd n).y (dd n).m (dd n).d ∧ dayNo (dd n).y (dd n).m (dd n).d = n + 719162 ∧ (dd n).h = 0 ∧ (dd n).mi = 0 ∧ (dd n).s = 0 := by
  obtain ⟨h1, h2⟩ := dateC_ok (t := n * 86400) (by omega)
  have := h1.h0; have := h1.h1; have := h1.mi0; have := h1.mi1; have := h1.s0; have := h1.s1
  unfold DT.time at h2
  unfold dd
  exact ⟨h1.date, by omega, by omega, by omega, by omega⟩
theorem dd_of {n y m d : Int} (h : DateOk y m d) (hn : dayNo y m d = n + 719162) : dd n = ⟨y, m, d, 0, 0, 0⟩ := by
  have := dateC_of (D := ⟨y, m, d, 0, 0, 0⟩) ⟨h, by simp, by simp, by simp, by simp, by simp, by simp⟩
  unfold dd
  rw [← this]
  congr 1
  unfold DT.time
  simp only
  omega
/-- The day behind a day. -/
def nextD (y m d : Int) : Int × Int × Int :=
  if dim y m < d + 1 then (if 12 < m + 1 then (y + 1, 1, 1) else (y, m + 1, 1)) else (y, m, d + 1)
theorem dd_next {n : Int} (h : -719162 ≤ n) : dd (n + 1) = ⟨(nextD (dd n).y (dd n).m (dd n).d).1, (nextD (dd n).y (dd n).m (dd n).d).2.1, (nextD (dd n).y (dd n).m (dd n).d).2.2, 0, 0, 0⟩ := by
  obtain ⟨h1, h2, _⟩ := dd_ok h
  generalize (dd n).y = y at *
  generalize (dd n).m = m at *
  generalize (dd n).d = d at *
  have c := cum_next y h1.m1 h1.m12
  have e1 := h1.y1; have e2 := h1.m1; have e3 := h1.m12; have e4 := h1.d1; have e5 := h1.dn
  unfold nextD
  split
  · split
    · have hm2 : m = 12 := by omega
      subst hm2
      have c13 := cum_13 y
      have b := bef_next y
      show dd (n + 1) = ⟨y + 1, 1, 1, 0, 0, 0⟩
      refine dd_of ⟨by omega, by omega, by omega, by omega, by have := dim_ge (y + 1) 1; omega⟩ ?_
      unfold dayNo at *
      rw [cum_one]
      rw [show (12 : Int) + 1 = 13 from rfl] at c
      omega
    · show dd (n + 1) = ⟨y, m + 1, 1, 0, 0, 0⟩
      refine dd_of ⟨by omega, by omega, by omega, by omega, by have := dim_ge y (m + 1); omega⟩ ?_
      unfold dayNo at *
      omega
  · show dd (n + 1) = ⟨y, m, d + 1, 0, 0, 0⟩
    refine dd_of ⟨by omega, by omega, by omega, by omega, by omega⟩ ?_
    unfold dayNo at *
    omega
theorem dd_year {n : Int} (h : -719162 ≤ n) : (dd n).y ≤ 9999 ↔ n ≤ 2932896 := by
  obtain ⟨h1, h2, _⟩ := dd_ok h
  have h3 := dayNo_in h1
  constructor
  · intro hy
    have := bef_far (show (dd n).y + 1 ≤ 10000 by omega)
    rw [bef_10000] at this
    omega
  · intro hn
    rcases (show (dd n).y ≤ 9999 ∨ 9999 < (dd n).y by omega) with h4 | h4
    · exact h4
    · have := bef_far (show 10000 ≤ (dd n).y by omega)
      rw [bef_10000] at this
      omega
theorem wd_day (n : Int) : wdC (n * 86400) = (n + 719162) % 7 + 1 := by unfold wdC dayOf; omega
theorem wd_next (n : Int) : wdC ((n + 1) * 86400) = wdC (n * 86400) % 7 + 1 := by rw [wd_day, wd_day]; omega
/-- The first minute of a day that fits. -/
def minS (ok : Nat → Bool) : Nat → Nat → Option Nat
  | 0, _ => none
  | k + 1, m => if ok m = true then some m else minS ok k (m + 1)
theorem minS_some (ok : Nat → Bool) : ∀ (k m : Nat) {r : Nat}, minS ok k m = some r → ok r = true ∧ m ≤ r ∧ r < m + k
  | 0, _, _, h => by cases h
  | k + 1, m, r, h => by
    unfold minS at h
    split at h
    · rename_i hk; injection h with h; subst h; exact ⟨hk, by omega, by omega⟩
    · have := minS_some ok k (m + 1) h; exact ⟨this.1, by omega, by omega⟩
/-- The first day that has such a minute. -/
def dayS (hit : Int → Option Int) : Nat → Int → Option Int
  | 0, _ => none
  | k + 1, n => match hit n with
    | some a => some a
    | none => dayS hit k (n + 1)
def dayK (n : Int) : Nat := (2932897 - n).toNat
theorem dayS_stop (hit : Int → Option Int) {n : Int} (h : 2932896 < n) : dayS hit (dayK n) n = none := by
  rw [show dayK n = 0 by unfold dayK; omega]; rfl
theorem dayS_step (hit : Int → Option Int) {n : Int} (h : n ≤ 2932896) : dayS hit (dayK n) n = match hit n with | some a => some a | none => dayS hit (dayK (n + 1)) (n + 1) := by
  rw [show dayK n = dayK (n + 1) + 1 by unfold dayK; omega]; rfl
theorem dayS_some (hit : Int → Option Int) : ∀ (k : Nat) (n : Int) {a : Int}, dayS hit k n = some a → ∃ q, n ≤ q ∧ hit q = some a
  | 0, _, _, h => by cases h
  | k + 1, n, a, h => by
    unfold dayS at h
    split at h
    · rename_i b hb; injection h with h; subst h; exact ⟨n, by omega, hb⟩
    · obtain ⟨q, h1, h2⟩ := dayS_some hit k (n + 1) h; exact ⟨q, by omega, h2⟩
/-- What fits: minutes, hours, days, months, weekdays. -/
structure Fits where
  mi : Nat → Bool
  ho : Nat → Bool
  da : Nat → Bool
  mo : Nat → Bool
  wd : Nat → Bool
noncomputable def Fits.day (F : Fits) (n : Int) : Bool := F.da (dd n).d.toNat && F.mo (dd n).m.toNat && F.wd (wdC (n * 86400)).toNat
def Fits.at (F : Fits) (t n : Int) (m : Nat) : Bool := decide (t < n * 86400 + 60 * (m : Int)) && F.ho (m / 60) && F.mi (m % 60)
noncomputable def Fits.hit (F : Fits) (t n : Int) : Option Int :=
  if F.day n = true then (minS (F.at t n) 1440 0).map fun (m : Nat) => n * 86400 + 60 * (m : Int) else none
noncomputable def nextT (F : Fits) (t : Int) : Option Int := dayS (F.hit t) (dayK (t / 86400)) (t / 86400)
theorem next_law {F : Fits} {t a : Int} (h : nextT F t = some a) : t < a ∧ (a + 62135596800) % 60 = 0 := by
  obtain ⟨q, h1, h2⟩ := dayS_some _ _ _ h
  unfold Fits.hit at h2
  split at h2
  · cases hm : minS (F.at t q) 1440 0 with
    | none => rw [hm] at h2; cases h2
    | some m =>
      rw [hm] at h2
      simp only [Option.map_some, Option.some.injEq] at h2
      have := (minS_some _ _ _ hm).1
      unfold Fits.at at this
      simp only [Bool.and_eq_true, decide_eq_true_eq] at this
      subst h2
      omega
  · cases h2
end Go.Proofs.YtkahakhhdiffcaaGreatDoor
namespace Go.Proofs.YtkahakhhdiffcaaGreatDoor
set_option linter.unusedVariables false
set_option linter.unusedSimpArgs false
open Go.RowKit
theorem isDg_yes {a : UInt8} (h : isDg a = true) : (48 : Int) ≤ (a.toNat : Int) ∧ (a.toNat : Int) ≤ 57 := by
  unfold isDg at h
  simp at h
  omega
theorem isDg_no {a : UInt8} (h : isDg a = false) : (a.toNat : Int) < 48 ∨ (57 : Int) < (a.toNat : Int) := by
  unfold isDg at h
  rw [Bool.and_eq_false_iff] at h
  simp at h
  omega
set_option maxHeartbeats 1600000 in
theorem digits_any (s : Bs) (k : Nat) (hk : k ≤ 1000000000) (hs : s.length ≤ 1000000000) (w : World) :
    Calls Tryz.prog 121 #[.string ⟨s.toArray⟩, .int .i64 k] w fun e w' => e = .returned (.int .i64 (digN s k)) ∧ w = w' := by
  obtain ⟨d1, d2⟩ := digN_le s k
  have HA := Lib.hid (dig_at s k)
  have he : ∀ d, digN s k = d → d < k → ∀ h : d < s.length, isDg s[d] = false := by rintro _ rfl; exact dig_end s k
  obtain ⟨d, hd⟩ : ∃ d, digN s k = d := ⟨_, rfl⟩
  have HE := Lib.hid (he d hd)
  simp only [hd] at HA d1 d2 ⊢
  clear hd he
  obtain ⟨m, hm⟩ : ∃ m, min k s.length = m := ⟨_, rfl⟩
  have hm1 : min (k : Int) (s.length : Int) = (m : Int) := by omega
  have hdm : d ≤ m := by omega
  have HM := Lib.hid hm
  clear hm
  go_enter Tryz.func121, Tryz.ntmps121
  go_wp2_with fail
  go_loop [5] (fun i => ∃ j : Nat, j ≤ d ∧ i = .int .i64 (j : Int)) (fun i => d - (intOf i).toNat)
  case atStart => exact ⟨0, Nat.zero_le _, rfl⟩
  case round =>
    obtain ⟨j, hj, rfl⟩ := hrel
    by_cases hlt : j < d
    · obtain ⟨hjs, hdg⟩ := HA.out j hlt
      obtain ⟨g1, g2⟩ := isDg_yes hdg
      have t1 : decide ((j : Int) < (m : Int)) = true := by rw [decide_eq_true_eq]; omega
      have hw1 : IntKind.i64.wrap ((j : Int) + 1) = (j : Int) + 1 := IntWalk.i64_in _ (by omega)
      clear hdg HA HE
      go_wp2_with fail
      go_round
      case rel => exact ⟨j + 1, by omega, by go_num⟩
      case measure => simp [intOf]; omega
    · obtain rfl : j = d := by omega
      by_cases hjm : j < m
      · have hjs : j < s.length := by have := HM.out; omega
        have t1 : decide ((j : Int) < (m : Int)) = true := by rw [decide_eq_true_eq]; omega
        have hk2 : j < k := by have := HM.out; omega
        have hno := isDg_no (HE.out hk2 hjs)
        have hlt0 : (0 : Int) ≤ (s[j].toNat : Int) := by omega
        clear HA HE
        rcases hno with h1 | h1
        · have g1 : decide (48 ≤ (s[j].toNat : Int)) = false := by rw [decide_eq_false_iff_not]; omega
          go_wp2_with fail
          go_ret
          exact ⟨rfl, rfl⟩
        · have g1 : (48 : Int) ≤ (s[j].toNat : Int) := by omega
          have g2 : decide ((s[j].toNat : Int) ≤ 57) = false := by rw [decide_eq_false_iff_not]; omega
          go_wp2_with fail
          go_ret
          exact ⟨rfl, rfl⟩
      · have t1 : decide ((j : Int) < (m : Int)) = false := by rw [decide_eq_false_iff_not]; omega
        clear HA HE
        go_wp2_with fail
        go_ret
        exact ⟨rfl, rfl⟩
theorem okS_len {s : Bs} (h : okS s = true) : s.length ≤ 2 := by
  rcases (plain_yes h).2 with h | h <;> omega
/-- What 'plain' tells. -/
def plV (s : Bs) : Int := if okS s = true then numS s else 0
theorem atoi_one {s : Bs} (ho : okS s = true) (W : World) : Calls Tryz.prog 91 #[.string ⟨s.toArray⟩] W fun e w' => e = .returned (.tuple #[.int .i64 (numS s : Int), .nilIface]) ∧ Below W.heap.size W w' :=
  (Tryz.strconv_Atoi ⟨s.toArray⟩ (numS s : Int) (by have := okS_len ho; show s.length ≤ _; omega) (atoi_okS ho) W).mono fun e w' ⟨he, t, hw⟩ => ⟨he, by rw [hw]; exact Lib.bytesWorld_below _ _ _⟩
set_option maxHeartbeats 1600000 in
theorem plain_any (s : Bs) (lo hi : Nat) (hs : s.length ≤ 100000) (w : World) :
    Calls Tryz.prog 102 #[.string ⟨s.toArray⟩, .int .i64 lo, .int .i64 hi] w fun e w' => e = .returned (.tuple #[.int .i64 (plV s), .bool (okIn s lo hi)]) ∧ Below w.heap.size w w' := by
  have DG := Lib.hid (fun W => digits_any s 3 (by omega) (by omega) W)
  cases ho : okS s with
  | true =>
    obtain ⟨p1, p2⟩ := plain_yes ho
    have hv : plV s = numS s := by unfold plV; rw [if_pos ho]
    have hq : okIn s lo hi = winI (numS s : Int) lo hi := by
      unfold okIn winI
      rw [ho, Bool.true_and, Bool.eq_iff_iff]
      simp
    have AT := Lib.hid (fun W => atoi_one ho W)
    have WI := Lib.hid (fun W => within_any (numS s : Int) lo hi W)
    rw [hv, hq]
    rw [p1] at DG
    generalize winI (numS s : Int) lo hi = b at *
    generalize numS s = v at *
    clear hv hq ho p1
    rcases p2 with h1 | ⟨h1, h2⟩
    · have hl1 : (s.length : Int) = 1 := by omega
      go_enter Tryz.func102, Tryz.ntmps102
      go_wp2_with (first | (go_at_call 121; refine (DG.out _).mono ?_; rintro e w1 ⟨rfl, rfl⟩; rw [h1]) | (go_at_call 91; refine (AT.out _).mono ?_; rintro e w2 ⟨rfl, hB⟩; have H2 := Lib.hid hB; clear hB) | (go_at_call 42; refine (WI.out _).mono ?_; rintro e w3 ⟨rfl, rfl⟩))
      go_ret2
      exact ⟨rfl, H2.out⟩
    · have hl1 : (s.length : Int) = 2 := by omega
      have h0 : 0 < s.length := by omega
      have hne : ((s[0].toNat : Int) == 48) = false := by have := h2 h0; simp; omega
      go_enter Tryz.func102, Tryz.ntmps102
      go_wp2_with (first | (go_at_call 121; refine (DG.out _).mono ?_; rintro e w1 ⟨rfl, rfl⟩; rw [h1]) | (go_at_call 91; refine (AT.out _).mono ?_; rintro e w2 ⟨rfl, hB⟩; have H2 := Lib.hid hB; clear hB) | (go_at_call 42; refine (WI.out _).mono ?_; rintro e w3 ⟨rfl, rfl⟩))
      go_ret2
      exact ⟨rfl, H2.out⟩
  | false =>
    have hv : plV s = 0 := by unfold plV; rw [ho]; rfl
    have hq : okIn s lo hi = false := by unfold okIn; rw [ho]; rfl
    have p := plain_no ho
    rw [hv, hq]
    clear hv hq ho
    generalize digN s 3 = d at *
    rcases p with rfl | h1 | ⟨h1, h2, h3⟩ | ⟨rfl, h1, h2, h3⟩
    · go_enter Tryz.func102, Tryz.ntmps102
      go_wp2_with (go_at_call 121; refine (DG.out _).mono ?_; rintro e w1 ⟨rfl, rfl⟩)
      go_ret2
      exact ⟨rfl, Below.refl _ _⟩
    · have t0 : ((d : Int) == 0) = false := by simp; omega
      have t1 : decide ((2 : Int) < (d : Int)) = true := by rw [decide_eq_true_eq]; omega
      go_enter Tryz.func102, Tryz.ntmps102
      go_wp2_with (go_at_call 121; refine (DG.out _).mono ?_; rintro e w1 ⟨rfl, rfl⟩)
      go_ret2
      exact ⟨rfl, Below.refl _ _⟩
    · have t0 : ((d : Int) == 0) = false := by simp; omega
      have t1 : decide ((2 : Int) < (d : Int)) = false := by rw [decide_eq_false_iff_not]; omega
      have t2 : decide ((d : Int) < (s.length : Int)) = true := by rw [decide_eq_true_eq]; omega
      go_enter Tryz.func102, Tryz.ntmps102
      go_wp2_with (go_at_call 121; refine (DG.out _).mono ?_; rintro e w1 ⟨rfl, rfl⟩)
      go_ret2
      exact ⟨rfl, Below.refl _ _⟩
    · have hl1 : (s.length : Int) = 2 := by omega
      have hne : ((s[0].toNat : Int) == 48) = true := by simp; omega
      go_enter Tryz.func102, Tryz.ntmps102
      go_wp2_with (go_at_call 121; refine (DG.out _).mono ?_; rintro e w1 ⟨rfl, rfl⟩)
      go_ret2
      exact ⟨rfl, Below.refl _ _⟩
end Go.Proofs.YtkahakhhdiffcaaGreatDoor
namespace Go.Proofs.YtkahakhhdiffcaaGreatDoor
set_option linter.unusedVariables false
set_option linter.unusedSimpArgs false
def MaxIs (w : World) : Prop := ∃ m, w.cell? ⟨0, 0, none⟩ = some (.int .i64 m)
open Go.RowKit Go.Shelf
/-- No numeral: what a parse of no digit ends in. -/
def badN : Lib.NumEnd Nat := Lib.parseMag []
def badI : Lib.NumEnd Int := Lib.atoiAll []
theorem parse_dec : ∀ (l : Bs) (k acc : Nat), acc < 10 ^ k → k + l.length ≤ 18 →
    (Lib.parseUint10 acc l = match Lib.decFrom acc l with | some u => .ok u | none => badN) ∧ ∀ u, Lib.decFrom acc l = some u → u < 1000000000000000000
  | [], k, acc, h1, h2 => by
    refine ⟨rfl, fun u hu => ?_⟩
    simp [Lib.decFrom] at hu
    subst hu
    have : 10 ^ k ≤ 10 ^ 18 := Nat.pow_le_pow_right (by omega) (by simpa using h2)
    omega
  | c :: r, k, acc, h1, h2 => by
    have hk : 10 ^ (k + 1) ≤ 10 ^ 18 := Nat.pow_le_pow_right (by omega) (by simp at h2; omega)
    have hp : 10 ^ (k + 1) = 10 ^ k * 10 := Nat.pow_succ 10 k
    unfold Lib.parseUint10 Lib.decFrom Lib.digitVal
    by_cases hd : 48 ≤ c.toNat ∧ c.toNat ≤ 57
    · rw [if_pos hd, if_neg (by omega), if_neg (by omega), if_pos hd]
      exact parse_dec r (k + 1) (acc * 10 + (c.toNat - 48)) (by omega) (by simp at h2; omega)
    · rw [if_neg hd, if_neg hd]
      exact ⟨rfl, fun u hu => by cases hu⟩
theorem mag_dec {l : Bs} (h : l.length ≤ 18) : (Lib.parseMag l = match Lib.decNat l with | some u => .ok u | none => badN) ∧ ∀ u, Lib.decNat l = some u → u < 1000000000000000000 := by
  unfold Lib.parseMag Lib.decNat
  cases l with
  | nil => exact ⟨rfl, fun u hu => by cases hu⟩
  | cons c r =>
    rw [if_neg (by simp)]
    exact parse_dec (c :: r) 0 0 (by omega) (by simpa using h)
/-- A short text is a number, or none: none is too great. -/
theorem atoi_short {l : Bs} (h : l.length ≤ 18) : Lib.atoiAll l = match Lib.atoi l with | some n => .ok n | none => badI := by
  unfold Lib.atoiAll Lib.atoi
  cases l with
  | nil => rfl
  | cons c r =>
    have e45 : (c == 45) = decide (c.toNat = 45) := by
      rw [Bool.eq_iff_iff]; simp [← UInt8.toNat_inj]
    have e43 : (c == 43) = decide (c.toNat = 43) := by
      rw [Bool.eq_iff_iff]; simp [← UInt8.toNat_inj]
    simp only [e45, e43, decide_eq_true_eq]
    have hr := mag_dec (l := r) (by simp at h; omega)
    have hc := mag_dec (l := c :: r) h
    by_cases h45 : c.toNat = 45
    · rw [if_pos (.inr h45), hr.1, if_pos h45]
      cases hd : Lib.decNat r with
      | none => rfl
      | some u => have := hr.2 u hd; simp [h45]; omega
    · rw [if_neg h45]
      by_cases h43 : c.toNat = 43
      · rw [if_pos (.inl h43), hr.1, if_pos h43]
        cases hd : Lib.decNat r with
        | none => rfl
        | some u => have := hr.2 u hd; simp [h45]; omega
      · rw [if_neg (by omega), hc.1, if_neg h43]
        cases hd : Lib.decNat (c :: r) with
        | none => rfl
        | some u => have := hc.2 u hd; simp [h45]; omega
/-- The number that Atoi tells. -/
def atoiV (s : Bs) : Int := match Lib.atoiAll s with
  | .ok v => v
  | .range => Lib.atoiSat s
  | _ => 0
theorem atoiV_in (s : Bs) : -9223372036854775808 ≤ atoiV s ∧ atoiV s ≤ 9223372036854775807 := by
  unfold atoiV
  split
  · rename_i v h
    unfold Lib.atoiAll at h
    split at h
    · cases h
    · dsimp only at h
      split at h
      · cases h
      · cases h
      · split at h
        · cases h
        · split at h
          · cases h
          · rename_i h1 h2
            injection h with h
            subst h
            split <;> omega
  · unfold Lib.atoiSat; split <;> omega
  · omega
theorem atoiV_short {s : Bs} (h : s.length ≤ 18) : Lib.atoi s = some (atoiV s) ∨ (Lib.atoi s = none ∧ atoiV s = 0) := by
  unfold atoiV
  rw [atoi_short h]
  cases Lib.atoi s with
  | none => exact .inr ⟨rfl, rfl⟩
  | some n => exact .inl rfl
/-- The two errors of Atoi lie in their variables. -/
def ErrIs (w : World) : Prop := (∃ te pe, w.cell? ⟨5, 0, none⟩ = some (.iface te pe)) ∧ ∃ te pe, w.cell? ⟨6, 0, none⟩ = some (.iface te pe)
theorem ErrIs.below {w w' : World} (h : ErrIs w) (hb : Below w.heap.size w w') : ErrIs w' := by
  obtain ⟨⟨a, b, h1⟩, c, d, h2⟩ := h
  exact ⟨⟨a, b, (hb.cell (by have := Lib.lt_of_cell h1; exact this)).trans h1⟩, c, d, (hb.cell (by have := Lib.lt_of_cell h2; exact this)).trans h2⟩
theorem atoi_full (s : Bs) (hs : s.length ≤ 1000000000) (w : World) (hE : ErrIs w) :
    Calls Tryz.prog 91 #[.string ⟨s.toArray⟩] w fun e w' => ∃ er, e = .returned (.tuple #[.int .i64 (atoiV s), er]) ∧ ((er = .nilIface ∧ ∃ v, Lib.atoiAll s = .ok v) ∨ (∃ N, er = .iface 159 (.pointer (some ⟨N, 0, none⟩))) ∧ ∀ v, Lib.atoiAll s ≠ .ok v) ∧ Below w.heap.size w w' := by
  obtain ⟨⟨a, b, h1⟩, c, d, h2⟩ := hE
  unfold atoiV
  cases h : Lib.atoiAll s with
  | ok v =>
    refine (Tryz.strconv_Atoi_ok ⟨s.toArray⟩ (by show s.length ≤ _; omega) v h w).mono ?_
    rintro e w' ⟨rfl, hw⟩
    exact ⟨_, rfl, .inl ⟨rfl, v, rfl⟩, by rcases hw with rfl | ⟨t, rfl⟩; exact Below.refl _ _; exact Lib.bytesWorld_below _ _ _⟩
  | range =>
    refine (Tryz.strconv_Atoi_range ⟨s.toArray⟩ (by show s.length ≤ _; omega) h _ w h2 (.inr ⟨_, _, rfl⟩)).mono ?_
    rintro e w' ⟨N, rfl, _, _, hb⟩
    exact ⟨_, rfl, .inr ⟨⟨N, rfl⟩, fun v hv => by cases hv⟩, hb⟩
  | _ =>
    refine (Tryz.strconv_Atoi_syntax ⟨s.toArray⟩ (by show s.length ≤ _; omega) (fun v hv => by rw [show (⟨s.toArray⟩ : ByteArray).data.toList = s from rfl, h] at hv; cases hv) (fun hv => by rw [show (⟨s.toArray⟩ : ByteArray).data.toList = s from rfl, h] at hv; cases hv) _ w h1 (.inr ⟨_, _, rfl⟩)).mono ?_
    rintro e w' ⟨N, rfl, _, _, hb⟩
    exact ⟨_, rfl, .inr ⟨⟨N, rfl⟩, fun v hv => by cases hv⟩, hb⟩
theorem PowIs.low {w w' : World} (h : PowIs w) (hb : Below w.heap.size w w') : PowIs w' := h.below hb
end Go.Proofs.YtkahakhhdiffcaaGreatDoor
