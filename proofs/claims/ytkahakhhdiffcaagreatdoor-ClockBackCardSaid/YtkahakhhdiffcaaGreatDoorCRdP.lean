/- Numerals and numbers, plain. What the program and the reference read at a letter: the same. Plain. -/
import Derived.Test.YtkahakhhdiffcaaGreatDoorCNx9
import Derived.Lib.AtoiAllCases
import Derived.Test.YtkahakhhdiffcaaGreatDoorCRdD
import Derived.Test.YtkahakhhdiffcaaGreatDoorCRd6
namespace Go.Proofs.YtkahakhhdiffcaaGreatDoor
set_option linter.unusedVariables false
set_option linter.unusedSimpArgs false
--BEGIN
def AllDg (l : Bs) : Prop := ∀ c ∈ l, isDg c = true
def decF (acc : Nat) (l : Bs) : Nat := l.foldl (fun a c => a * 10 + (c.toNat - 48)) acc
def decV (l : Bs) : Nat := decF 0 l
theorem decF_ge : ∀ (l : Bs) (acc : Nat), acc ≤ decF acc l
  | [], acc => Nat.le_refl _
  | c :: r, acc => by
    have := decF_ge r (acc * 10 + (c.toNat - 48))
    show acc ≤ decF (acc * 10 + (c.toNat - 48)) r
    omega
theorem decF_append (a b : Bs) (acc : Nat) : decF acc (a ++ b) = decF (decF acc a) b := by simp [decF]
theorem decV_snoc (l : Bs) (c : UInt8) : decV (l ++ [c]) = decV l * 10 + (c.toNat - 48) := by unfold decV; rw [decF_append]; rfl
theorem isDg_nat {c : UInt8} (h : isDg c = true) : 48 ≤ c.toNat ∧ c.toNat ≤ 57 := by
  unfold isDg at h
  simpa using h
theorem parse_dg : ∀ (l : Bs) (acc : Nat), AllDg l → acc < 18446744073709551616 → Lib.parseUint10 acc l = if decF acc l < 18446744073709551616 then .ok (decF acc l) else .range
  | [], acc, _, h => by
    show Lib.NumEnd.ok acc = _
    rw [if_pos (show decF acc [] < _ from h)]
    rfl
  | c :: r, acc, hd, h => by
    obtain ⟨h1, h2⟩ := isDg_nat (hd c (by simp))
    have hg := decF_ge r (acc * 10 + (c.toNat - 48))
    have hf : decF acc (c :: r) = decF (acc * 10 + (c.toNat - 48)) r := rfl
    rw [hf]
    unfold Lib.parseUint10
    rw [if_pos ⟨h1, h2⟩]
    by_cases ha : 1844674407370955162 ≤ acc
    · rw [if_pos ha, if_neg (by omega)]
    · rw [if_neg ha]
      by_cases hb : 18446744073709551616 ≤ acc * 10 + (c.toNat - 48)
      · rw [if_pos hb, if_neg (by omega)]
      · rw [if_neg hb]
        exact parse_dg r _ (fun x hx => hd x (by simp [hx])) (by omega)
theorem atoi_dg {x : Bs} (h : AllDg x) (h0 : x ≠ []) : Lib.atoiAll x = if decV x < 9223372036854775808 then .ok (decV x : Int) else .range := by
  cases x with
  | nil => exact absurd rfl h0
  | cons c r =>
    obtain ⟨h1, h2⟩ := isDg_nat (h c (by simp))
    rw [Lib.atoiAll_plain c r (by omega) (by omega)]
    unfold Lib.parseMag
    rw [if_neg (by simp), parse_dg _ 0 h (by omega)]
    show Lib.signless (if decV (c :: r) < _ then .ok (decV (c :: r)) else .range) = _
    by_cases hb : decV (c :: r) < 18446744073709551616
    · rw [if_pos hb]
      unfold Lib.signless
      simp only
      by_cases hc : decV (c :: r) < 9223372036854775808
      · rw [if_pos hc, if_neg (by omega)]
      · rw [if_neg hc, if_pos (by omega)]
    · rw [if_neg hb, if_neg (by omega)]
      rfl
theorem atoi_mdg {x : Bs} (h : AllDg x) (h0 : x ≠ []) : Lib.atoiAll (45 :: x) = if decV x ≤ 9223372036854775808 then .ok (-(decV x : Int)) else .range := by
  rw [Lib.atoiAll_minus]
  unfold Lib.parseMag
  rw [if_neg h0, parse_dg _ 0 h (by omega)]
  show Lib.signed (if decV x < _ then .ok (decV x) else .range) = _
  by_cases hb : decV x < 18446744073709551616
  · rw [if_pos hb]
    unfold Lib.signed
    simp only
    by_cases hc : decV x ≤ 9223372036854775808
    · rw [if_pos hc, if_neg (by omega)]
    · rw [if_neg hc, if_pos (by omega)]
  · rw [if_neg hb, if_neg (by omega)]
    rfl
/-- No zero ahead. -/
def Canon (x : Bs) : Prop := AllDg x ∧ x ≠ [] ∧ (1 < x.length → x.head? ≠ some 48)
theorem dec_pos : ∀ {x : Bs}, Canon x → x.head? ≠ some 48 → 1 ≤ decV x
  | [], h, _ => absurd rfl h.2.1
  | c :: r, h, h48 => by
    obtain ⟨h1, h2⟩ := isDg_nat (h.1 c (by simp))
    have hne : c.toNat ≠ 48 := fun e => h48 (by
      have : c = 48 := by apply UInt8.toNat_inj.1; rw [e]; rfl
      simp [this])
    have := decF_ge r (0 * 10 + (c.toNat - 48))
    show 1 ≤ decF (0 * 10 + (c.toNat - 48)) r
    omega
theorem canon_dec : ∀ (n : Nat) {x : Bs}, x.length = n → Canon x → Lib.decDigits (decV x) = x := by
  intro n
  induction n with
  | zero => intro x hx h; exact absurd (List.length_eq_zero_iff.1 hx) h.2.1
  | succ n ih =>
    intro x hx h
    rcases List.eq_nil_or_concat x with rfl | ⟨y, c, rfl⟩
    · exact absurd rfl h.2.1
    · rw [List.concat_eq_append] at *
      obtain ⟨h1, h2⟩ := isDg_nat (h.1 c (by simp))
      rw [decV_snoc]
      cases y with
      | nil =>
        rw [show decV [] = 0 from rfl, Lib.decDigits_one (by omega)]
        show [_] = [c]
        rw [dg_of (a := c) (by omega) (by omega)]
      | cons a r =>
        have h48 : a ≠ 48 := by
          have := h.2.2 (by simp)
          simpa using this
        have hc : Canon (a :: r) := ⟨fun z hz => h.1 z (by simp at hz ⊢; rcases hz with h | h <;> simp [h]), by simp, fun _ => by simpa using h48⟩
        have hp := dec_pos hc (by simpa using h48)
        have := ih (x := a :: r) (by simp at hx ⊢; omega) hc
        rw [Lib.decDigits, dif_neg (by omega)]
        rw [show (decV (a :: r) * 10 + (c.toNat - 48)) / 10 = decV (a :: r) by omega, show (decV (a :: r) * 10 + (c.toNat - 48)) % 10 = c.toNat - 48 by omega, this, dg_of (a := c) (by omega) (by omega)]
theorem dec_of (u : Nat) : AllDg (Lib.decDigits u) ∧ decV (Lib.decDigits u) = u ∧ Lib.decDigits u ≠ [] := by
  induction u using Nat.strongRecOn with
  | _ u ih =>
    have ht : ∀ k, k < 10 → (UInt8.ofNat (48 + k)).toNat = 48 + k := fun k hk => by
      rw [UInt8.toNat_ofNat_of_lt' (by simp [UInt8.size]; omega)]
    have hd : ∀ k, k < 10 → isDg (UInt8.ofNat (48 + k)) = true := fun k hk => by
      unfold isDg
      rw [ht k hk]
      simp
      omega
    by_cases h : u < 10
    · rw [Lib.decDigits_one h]
      refine ⟨fun c hc => ?_, ?_, by simp⟩
      · simp only [List.mem_singleton] at hc; subst hc; exact hd u h
      · show 0 * 10 + ((UInt8.ofNat (48 + u)).toNat - 48) = u
        rw [ht u h]; omega
    · rw [Lib.decDigits, dif_neg h]
      obtain ⟨h1, h2, h3⟩ := ih (u / 10) (by omega)
      refine ⟨fun c hc => ?_, ?_, by simp⟩
      · rcases List.mem_append.1 hc with hc | hc
        · exact h1 c hc
        · simp only [List.mem_singleton] at hc; subst hc; exact hd _ (by omega)
      · rw [decV_snoc, h2, ht _ (by omega)]; omega
theorem rep_one : ∀ k, Lib.repeatL [48] k = List.replicate k 48
  | 0 => rfl
  | k + 1 => by rw [Lib.repeatL, rep_one k]; rfl
theorem decF_zeros (k : Nat) : decF 0 (List.replicate k 48) = 0 := by
  induction k with
  | zero => rfl
  | succ k ih => rw [List.replicate_succ]; exact ih
theorem pad_dec (n : Nat) (l : Bs) : decV (padC n l) = decV l := by
  unfold padC decV
  rw [decF_append, rep_one, decF_zeros]
theorem pad_dg (n : Nat) {l : Bs} (h : AllDg l) : AllDg (padC n l) := by
  unfold padC
  rw [rep_one]
  intro c hc
  rcases List.mem_append.1 hc with hc | hc
  · have := List.eq_of_mem_replicate hc; subst this; decide
  · exact h c hc
theorem pad_full {n : Nat} {l : Bs} (h : n ≤ l.length) : padC n l = l := by
  unfold padC
  rw [show ((n : Int) - (l.length : Int)).toNat = 0 by omega]
  rfl
theorem pad_succ {n : Nat} {l : Bs} (h : l.length ≤ n) : padC ((n + 1 : Nat) : Int) l = 48 :: padC n l := by
  unfold padC
  rw [show (((n + 1 : Nat) : Int) - (l.length : Int)).toNat = ((n : Int) - (l.length : Int)).toNat + 1 by omega]
  rfl
theorem pad_len (n : Nat) (l : Bs) : l.length ≤ (padC n l).length := by
  unfold padC
  simp
theorem itoa_nat (u : Nat) : Lib.itoa (u : Int) = Lib.decDigits u := by unfold Lib.itoa; rw [if_neg (by omega)]; simp
/-- A row of digits is its number, written with as many. -/
theorem pad_back : ∀ {x : Bs}, AllDg x → x ≠ [] → padC x.length (Lib.itoa (decV x)) = x
  | [], _, h => absurd rfl h
  | [c], hd, _ => by
    have hc : Canon [c] := ⟨hd, by simp, fun h => by simp at h⟩
    rw [itoa_nat, canon_dec 1 rfl hc]
    exact pad_full (by simp)
  | c :: d :: r, hd, _ => by
    by_cases h48 : c = 48
    · subst h48
      have ih := pad_back (x := d :: r) (fun z hz => hd z (by simp at hz ⊢; right; exact hz)) (by simp)
      have hv : decV (48 :: d :: r) = decV (d :: r) := rfl
      rw [hv]
      have hl := pad_len (d :: r).length (Lib.itoa (decV (d :: r)))
      rw [ih] at hl
      show padC (((d :: r).length + 1 : Nat) : Int) _ = _
      rw [pad_succ hl, ih]
    · have hc : Canon (c :: d :: r) := ⟨hd, by simp, fun _ => by simpa using h48⟩
      rw [itoa_nat, canon_dec _ rfl hc]
      exact pad_full (Nat.le_refl _)
/-- Digits are no letters. -/
theorem low_dg {x : Bs} (h : AllDg x) : x.map lowB = x := by
  induction x with
  | nil => rfl
  | cons c r ih =>
    rw [List.map_cons, ih (fun z hz => h z (by simp [hz]))]
    obtain ⟨h1, h2⟩ := isDg_nat (h c (by simp))
    have : lowB c = c := by
      unfold lowB
      rw [if_neg]
      intro hh
      have := UInt8.le_iff_toNat_le.1 hh.1
      simp at this
      omega
    rw [this]
theorem dec_lt : ∀ (l : Bs) (acc : Nat), AllDg l → decF acc l < (acc + 1) * 10 ^ l.length
  | [], acc, _ => by simp [decF]
  | c :: r, acc, h => by
    obtain ⟨h1, h2⟩ := isDg_nat (h c (by simp))
    have ih := dec_lt r (acc * 10 + (c.toNat - 48)) (fun z hz => h z (by simp [hz]))
    show decF (acc * 10 + (c.toNat - 48)) r < _
    have h3 : (acc * 10 + (c.toNat - 48) + 1) * 10 ^ r.length ≤ ((acc + 1) * 10) * 10 ^ r.length := Nat.mul_le_mul_right _ (by omega)
    have h4 : (acc + 1) * 10 ^ (c :: r).length = ((acc + 1) * 10) * 10 ^ r.length := by rw [List.length_cons, Nat.pow_succ, Nat.mul_assoc, Nat.mul_comm 10]
    omega
--END
end Go.Proofs.YtkahakhhdiffcaaGreatDoor
namespace Go.Proofs.YtkahakhhdiffcaaGreatDoor
set_option linter.unusedVariables false
set_option linter.unusedSimpArgs false
/-- The longest name with which a text begins. -/
def longN (s : Bs) (out : Int) (x : Bs) : Int := if hasName s x = true then max out (x.length : Int) else out
def takenN (s : Bs) (l : List Bs) : Int := l.foldl (longN s) (-1)
theorem named_cut (s : Bs) (l : List Bs) (most : Nat) : namedC s l most = takenN s (l.map (·.take most)) := by
  unfold namedC takenN
  rw [List.foldl_map]
  rfl
/-- No name begins another. -/
def Apart (l : List Bs) : Prop := l.Pairwise fun x y => ¬ lowL x <+: lowL y ∧ ¬ lowL y <+: lowL x
theorem has_low {s x : Bs} (h : hasName s x = true) : x.length ≤ s.length ∧ lowL (s.take x.length) = lowL x := by
  unfold hasName at h
  rw [Bool.and_eq_true, decide_eq_true_eq] at h
  exact ⟨h.1, eq_of_beq h.2⟩
theorem has_pre {s x : Bs} (h : hasName s x = true) : lowL x <+: lowL s := by
  obtain ⟨-, h2⟩ := has_low h
  refine ⟨lowL (s.drop x.length), ?_⟩
  rw [← h2]
  unfold lowL
  rw [← List.map_append, List.take_append_drop]
theorem two_names {s x y : Bs} (hx : hasName s x = true) (hy : hasName s y = true) : lowL x <+: lowL y ∨ lowL y <+: lowL x := List.prefix_or_prefix_of_prefix (has_pre hx) (has_pre hy)
theorem long_same (s : Bs) : ∀ (l : List Bs) (out : Int), (∀ y ∈ l, hasName s y = false) → l.foldl (longN s) out = out
  | [], _, _ => rfl
  | y :: l, out, h => by
    rw [List.foldl_cons, show longN s out y = out by unfold longN; rw [h y (by simp)]; rfl]
    exact long_same s l out fun z hz => h z (by simp [hz])
theorem names_law (s : Bs) : ∀ (l : List Bs) (out : Int), Apart l → (l.findIdx? (hasName s) = none ∧ l.foldl (longN s) out = out) ∨ ∃ k x, l[k]? = some x ∧ l.findIdx? (hasName s) = some k ∧ hasName s x = true ∧ l.foldl (longN s) out = max out (x.length : Int)
  | [], out, _ => .inl ⟨rfl, rfl⟩
  | y :: l, out, h => by
    obtain ⟨h1, h2⟩ := List.pairwise_cons.1 h
    rw [List.foldl_cons, List.findIdx?_cons]
    cases hy : hasName s y with
    | true =>
      refine .inr ⟨0, y, rfl, by simp, hy, ?_⟩
      rw [show longN s out y = max out (y.length : Int) by unfold longN; rw [hy]; rfl]
      refine long_same s l _ fun z hz => ?_
      cases hz2 : hasName s z with
      | false => rfl
      | true =>
        rcases two_names hy hz2 with h3 | h3
        · exact absurd h3 (h1 z hz).1
        · exact absurd h3 (h1 z hz).2
    | false =>
      rw [show longN s out y = out by unfold longN; rw [hy]; rfl]
      rcases names_law s l out h2 with ⟨h3, h4⟩ | ⟨k, x, h3, h4, h5, h6⟩
      · exact .inl ⟨by rw [h3]; rfl, h4⟩
      · exact .inr ⟨k + 1, x, by simpa using h3, by rw [h4]; rfl, h5, h6⟩
theorem apart_at {l : List Bs} (h : Apart l) {i j : Nat} {x y : Bs} (hi : l[i]? = some x) (hj : l[j]? = some y) (he : lowL x = lowL y) : i = j := by
  obtain ⟨hi1, hi2⟩ := List.getElem?_eq_some_iff.1 hi
  obtain ⟨hj1, hj2⟩ := List.getElem?_eq_some_iff.1 hj
  have hp := List.pairwise_iff_getElem.1 h
  rcases Nat.lt_trichotomy i j with h1 | h1 | h1
  · have := (hp i j hi1 hj1 h1).1
    rw [hi2, hj2, he] at this
    exact absurd (List.prefix_refl _) this
  · exact h1
  · have := (hp j i hj1 hi1 h1).1
    rw [hi2, hj2, he] at this
    exact absurd (List.prefix_refl _) this
/-- How many bytes a letter takes. -/
def takenC (c : UInt8) (s : Bs) : Int := match info (c.toNat : Int) with
  | some i => if i.names = [] then (if c = 101 then takenE s else if c = 115 then takenS s else digC s i.dig.toNat) else takenN s i.names
  | none => 0
def SigCanon (x : Bs) : Prop := Canon x ∨ ∃ y, x = 45 :: y ∧ Canon y ∧ y.head? ≠ some 48
/-- A text that a letter took, and its number. -/
def Told (c : UInt8) (x : Bs) (v : Int) : Prop := match info (c.toNat : Int) with
  | some i => if i.names = [] then
      (if c = 115 then SigCanon x ∧ v = valA x else AllDg x ∧ x ≠ [] ∧ x.length ≤ 4 ∧ v = (decV x : Int) ∧ (c = 101 → Canon x) ∧ (c ≠ 101 → x.length = i.dig.toNat))
    else ∃ (k : Nat) (y : Bs), i.names[k]? = some y ∧ v = (k : Int) + 1 ∧ lowL x = lowL y ∧ x.length = y.length
  | none => False
theorem valA_dg {x : Bs} (h : AllDg x) (h0 : x ≠ []) (hl : x.length ≤ 4) : valA x = (decV x : Int) ∧ atoiV x = (decV x : Int) ∧ decV x < 10000 := by
  have hlt := dec_lt x 0 h
  have h1 : decV x < 10000 := by
    have h2 : 10 ^ x.length ≤ 10 ^ 4 := Nat.pow_le_pow_right (by omega) hl
    have h3 : decF 0 x < (0 + 1) * 10 ^ x.length := hlt
    unfold decV
    omega
  have h2 := atoi_dg h h0
  rw [if_pos (by omega)] at h2
  refine ⟨?_, ?_, h1⟩
  · unfold valA; rw [h2]
  · unfold atoiV; rw [h2]
theorem dg_take (s : Bs) (n m : Nat) (h : m ≤ digN s n) : AllDg (s.take m) := by
  intro c hc
  obtain ⟨i, hi, rfl⟩ := List.getElem_of_mem hc
  simp only [List.length_take] at hi
  obtain ⟨h1, h2⟩ := dig_at s n i (by omega)
  rw [List.getElem_take]
  exact h2
theorem digN_zero (s : Bs) : digN s 0 = 0 := by cases s <;> rfl
theorem digN_two (a : UInt8) (r : Bs) : digN (a :: r) 2 = if isDg a = true then (if digAt r 0 = true then 2 else 1) else 0 := by
  cases r with
  | nil => rfl
  | cons b r =>
    have : digAt (b :: r) 0 = isDg b := rfl
    rw [this]
    show (if isDg a = true then (if isDg b = true then digN r 0 + 1 else 0) + 1 else 0) = _
    rw [digN_zero]
    split
    · split <;> rfl
    · rfl
theorem e_end {s : Bs} {L : Nat} (hL : lenE s = L) (hT : takenE s = (L : Int)) (h1 : 0 < L) (h2 : L ≤ 2) (h3 : L ≤ s.length) (hc : Canon (s.take L)) :
    0 < (readD 101 0 s).2 ∧ takenE s = ((readD 101 0 s).2 : Int) ∧ (readD 101 0 s).1 = (decV (s.take (readD 101 0 s).2) : Int) ∧ (readD 101 0 s).2 ≤ 2 ∧ (readD 101 0 s).2 ≤ s.length ∧ Canon (s.take (readD 101 0 s).2) := by
  have hr : readD 101 0 s = (valA (s.take L), L) := by unfold readD; rw [if_pos rfl, hL, if_neg (by omega)]
  rw [hr]
  exact ⟨h1, hT, (valA_dg hc.1 hc.2.1 (by simp; omega)).1, h2, h3, hc⟩
/-- The letter of days without a zero. -/
theorem e_law (s : Bs) : (takenE s = -1 ∧ (readD 101 0 s).2 = 0) ∨ (0 < (readD 101 0 s).2 ∧ takenE s = ((readD 101 0 s).2 : Int) ∧ (readD 101 0 s).1 = (decV (s.take (readD 101 0 s).2) : Int) ∧ (readD 101 0 s).2 ≤ 2 ∧ (readD 101 0 s).2 ≤ s.length ∧ Canon (s.take (readD 101 0 s).2)) := by
  cases s with
  | nil => exact .inl ⟨rfl, rfl⟩
  | cons a r =>
    have hd := digN_two a r
    have h0 : digAt (a :: r) 0 = isDg a := rfl
    have h1 : digAt (a :: r) 1 = digAt r 0 := rfl
    have hx : (a :: r)[0]? = some a := rfl
    have hle := digN_le (a :: r) 2
    have hTE : takenE (a :: r) = if isDg a = true then (if some a ≠ some 48 ∧ digAt r 0 = true then 2 else 1) else -1 := rfl
    have hLE : lenE (a :: r) = if 0 < digN (a :: r) 2 ∧ some a = some (48 : UInt8) then 1 else digN (a :: r) 2 := rfl
    cases ha : isDg a with
    | false =>
      rw [ha] at hd hTE
      have hd0 : digN (a :: r) 2 = 0 := hd
      refine .inl ⟨hTE, ?_⟩
      have : lenE (a :: r) = 0 := by rw [hLE, hd0, if_neg (fun h => by omega)]
      unfold readD
      rw [if_pos rfl, if_pos this]
    | true =>
      rw [ha] at hd hTE
      rw [if_pos rfl] at hd hTE
      by_cases h48 : a = 48
      · subst h48
        have hp : 0 < digN (48 :: r) 2 := by rw [hd]; split <;> omega
        rw [if_pos ⟨hp, rfl⟩] at hLE
        rw [if_neg (fun h => h.1 rfl)] at hTE
        have hA : AllDg [(48 : UInt8)] := by intro c hc; simp at hc; subst hc; decide
        exact .inr (e_end hLE hTE (by omega) (by omega) (by simp) ⟨hA, by simp, fun h => by simp at h⟩)
      · have h48' : ¬ some a = some (48 : UInt8) := fun h => h48 (Option.some.inj h)
        rw [if_neg (fun h => h48' h.2)] at hLE
        cases hb : digAt r 0 with
        | false =>
          rw [hb] at hd hTE
          have hd1 : digN (a :: r) 2 = 1 := hd
          rw [hd1] at hLE
          rw [if_neg (fun h => by cases h.2)] at hTE
          have hA := dg_take (a :: r) 2 1 (by omega)
          exact .inr (e_end hLE hTE (by omega) (by omega) (by simp) ⟨hA, by simp, fun h => by simp at h⟩)
        | true =>
          rw [hb] at hd hTE
          have hd2 : digN (a :: r) 2 = 2 := hd
          rw [hd2] at hLE
          rw [if_pos ⟨h48', rfl⟩] at hTE
          have hA := dg_take (a :: r) 2 2 (by omega)
          refine .inr (e_end hLE hTE (by omega) (by omega) (by omega) ⟨hA, by simp, fun _ => ?_⟩)
          simpa using h48
/-- The letter of seconds. -/
theorem s_law (s : Bs) : (takenS s = -1 ∧ (readS s).2 = 0) ∨ (0 < (readS s).2 ∧ takenS s = ((readS s).2 : Int) ∧ SigCanon (s.take (readS s).2) ∧ (readS s).1 = valA (s.take (readS s).2)) := by
  unfold takenS readS
  generalize hg : sgn s = g
  have hle := digN_le (s.drop g) s.length
  have hA := dg_take (s.drop g) s.length _ (Nat.le_refl _)
  generalize digN (s.drop g) s.length = d at *
  by_cases h0 : d = 0
  · rw [if_pos h0, if_pos h0]
    exact .inl ⟨rfl, rfl⟩
  · rw [if_neg h0, if_neg h0]
    have hdl : d ≤ s.length - g := by simpa using hle.1
    by_cases h45 : s[0]? = some 45
    · have hg1 : g = 1 := by rw [← hg]; unfold sgn; rw [if_pos h45]
      subst hg1
      cases s with
      | nil => simp at h45
      | cons a r =>
        simp at h45
        subst h45
        simp only [List.drop_succ_cons, List.drop_zero] at hA
        simp only [List.length_cons, Nat.add_sub_cancel] at hdl
        rw [show (45 :: r : Bs)[1]? = r[0]? from rfl]
        by_cases h48 : r[0]? = some 48
        · rw [if_pos ⟨h48, by omega⟩]
          refine .inl ⟨rfl, ?_⟩
          split
          · rfl
          · rw [if_pos ⟨rfl, h48⟩]
        · rw [if_neg (fun h => h48 h.1), if_neg (fun h => h48 h.2), if_neg (fun h => h48 h.2)]
          have hr0 : r ≠ [] := by rintro rfl; simp at hdl; omega
          have hh : (r.take d).head? ≠ some 48 := by
            cases r with
            | nil => exact absurd rfl hr0
            | cons b r => rw [show d = (d - 1) + 1 by omega, List.take_succ_cons]; simpa using h48
          refine .inr ⟨by show 0 < 1 + d; omega, rfl, .inr ⟨r.take d, ?_, ⟨hA, ?_, fun _ => hh⟩, hh⟩, rfl⟩
          · show (45 :: r).take (1 + d) = _
            rw [Nat.add_comm, List.take_succ_cons]
          · intro e
            have := congrArg List.length e
            simp at this
            rcases this with h | h
            · exact h0 h
            · exact hr0 h
    · have hg0 : g = 0 := by rw [← hg]; unfold sgn; rw [if_neg h45]
      subst hg0
      simp only [List.drop_zero, Nat.sub_zero, Nat.zero_add] at *
      have hs0 : s ≠ [] := by rintro rfl; simp at hdl; omega
      by_cases h48 : 1 < d ∧ s[0]? = some 48
      · rw [if_pos ⟨h48.2, h48.1⟩, if_pos h48]
        exact .inl ⟨rfl, rfl⟩
      · rw [if_neg (fun h => h48 ⟨h.2, h.1⟩), if_neg h48, if_neg (by omega)]
        refine .inr ⟨by show 0 < d; omega, rfl, .inl ⟨hA, ?_, fun hl => ?_⟩, rfl⟩
        · intro e
          have := congrArg List.length e
          simp at this
          rcases this with h | h
          · omega
          · exact hs0 h
        · cases s with
          | nil => exact absurd rfl hs0
          | cons b r =>
            have hd1 : 1 < d := by
              simp at hl
              omega
            rw [show d = (d - 1) + 1 by omega, List.take_succ_cons]
            intro e
            exact h48 ⟨hd1, by simpa using e⟩
def infoOk (n : Nat) : Bool := match info (n : Int) with
  | some i => if i.names = [] then decide (i.dig ≤ 4) else (decide (∀ a ∈ i.names, 0 < a.length))
  | none => true
theorem infoOk_all : ∀ n : Nat, n < 256 → infoOk n = true := by decide +kernel
instance (l : List Bs) : Decidable (Apart l) := by unfold Apart; infer_instance
def infoApart (n : Nat) : Bool := match info (n : Int) with
  | some i => decide (Apart i.names)
  | none => true
theorem infoApart_all : ∀ n : Nat, n < 256 → infoApart n = true := by decide +kernel
theorem info_ok (d : UInt8) {i : Info} (h : info (d.toNat : Int) = some i) : (i.names = [] → i.dig ≤ 4) ∧ (∀ a ∈ i.names, 0 < a.length) ∧ Apart i.names := by
  have h1 := infoOk_all d.toNat d.toNat_lt
  have h2 := infoApart_all d.toNat d.toNat_lt
  unfold infoOk at h1
  unfold infoApart at h2
  rw [h] at h1 h2
  simp only [decide_eq_true_eq] at h1 h2
  refine ⟨fun hn => ?_, fun a ha => ?_, h2⟩
  · rw [if_pos hn] at h1; simpa using h1
  · by_cases hn : i.names = []
    · rw [hn] at ha; simp at ha
    · rw [if_neg hn] at h1
      exact of_decide_eq_true h1 a ha
/-- Both take the same of a text; what was taken, and its number. -/
theorem taken_law (c : UInt8) (hi : (info (c.toNat : Int)).isSome = true) (s : Bs) : (takenC c s = -1 ∧ (readC c s).2 = 0) ∨ (0 < (readC c s).2 ∧ takenC c s = ((readC c s).2 : Int) ∧ Told c (s.take (readC c s).2) (readC c s).1) := by
  unfold takenC readC Told
  cases h : info (c.toNat : Int) with
  | none => rw [h] at hi; cases hi
  | some i =>
    simp only
    obtain ⟨k1, k2, k3⟩ := info_ok c h
    obtain ⟨d1, d2⟩ := info_dig c h
    by_cases hn : i.names = []
    · simp only [if_pos hn]
      by_cases h101 : c = 101
      · subst h101
        rcases d1 hn with h3 | h3
        · rw [show i.dig.toNat = 0 by omega, if_pos rfl, if_neg (by decide)]
          rcases e_law s with h4 | ⟨h4, h5, h6, h7, h8, h9⟩
          · exact .inl h4
          · exact .inr ⟨h4, h5, h9.1, h9.2.1, by simp; omega, h6, fun _ => h9, fun h => absurd rfl h⟩
        · exact absurd rfl h3.1
      · by_cases h115 : c = 115
        · subst h115
          rw [if_neg h101, if_pos rfl, if_pos rfl, readD_s]
          rcases s_law s with h4 | ⟨h4, h5, h6, h7⟩
          · exact .inl h4
          · exact .inr ⟨h4, h5, h6, h7⟩
        · rw [if_neg h101, if_neg h115, if_neg h115]
          rcases d1 hn with h3 | h3
          · exfalso
            rcases h3.1 with h3 | h3
            · exact h101 (u8_101 h3)
            · exact h115 (u8_115 h3)
          · have hdg := k1 hn
            have hle := digN_le s i.dig.toNat
            unfold digC readD
            rw [if_neg h101, if_neg h115]
            by_cases hlt : digN s i.dig.toNat < i.dig.toNat
            · rw [if_pos hlt, if_pos hlt]
              exact .inl ⟨rfl, rfl⟩
            · rw [if_neg hlt, if_neg hlt, if_neg (by omega)]
              have hA := dg_take s i.dig.toNat i.dig.toNat (by omega)
              have hl : (s.take i.dig.toNat).length = i.dig.toNat := by simp; omega
              have hne : s.take i.dig.toNat ≠ [] := by intro e; rw [e] at hl; simp at hl; omega
              refine .inr ⟨by show 0 < i.dig.toNat; omega, rfl, hA, hne, by rw [hl]; omega, (valA_dg hA hne (by omega)).1, fun h => absurd h h101, fun _ => hl⟩
    · simp only [if_neg hn]
      unfold takenN readN
      rcases names_law s i.names (-1) k3 with ⟨h1, h2⟩ | ⟨k, x, h1, h2, h3, h4⟩
      · rw [h1, h2]
        exact .inl ⟨rfl, rfl⟩
      · rw [h2, h4]
        have hx := k2 x (List.mem_of_getElem? h1)
        have hgd : i.names.getD k [] = x := by rw [List.getD_eq_getElem?_getD, h1]; rfl
        simp only [hgd]
        obtain ⟨h5, h6⟩ := has_low h3
        refine .inr ⟨hx, by omega, k, x, h1, rfl, h6, by simp; omega⟩
end Go.Proofs.YtkahakhhdiffcaaGreatDoor
