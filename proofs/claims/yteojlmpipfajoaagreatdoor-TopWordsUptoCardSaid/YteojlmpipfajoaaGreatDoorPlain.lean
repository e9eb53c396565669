/- Plain functions on lists of bytes: what the texts' functions compute (layer 1), and laws on them. No program in sight. -/
import Derived.Lib.Strings
namespace Go.Proofs.YteojlmpipfajoaaGreatDoor
set_option linter.unusedVariables false
set_option linter.unusedSimpArgs false

abbrev Bs := List UInt8

def lowI (c : Int) : Int := if 65 ≤ c ∧ c ≤ 90 then c + 32 else c
def upI (c : Int) : Int := if 97 ≤ c ∧ c ≤ 122 then c - 32 else c
def withinI (n lo hi : Int) : Bool := decide (lo ≤ n ∧ n ≤ hi)
def whiteI (c : Int) : Bool := decide ((9 ≤ c ∧ c ≤ 13) ∨ c = 32)
def decI (c : Int) : Bool := decide (48 ≤ c ∧ c ≤ 57)

def lowB (c : UInt8) : UInt8 := if 65 ≤ c ∧ c ≤ 90 then c + 32 else c
def upB (c : UInt8) : UInt8 := if 97 ≤ c ∧ c ≤ 122 then c - 32 else c
theorem lowB_toNat (c : UInt8) : ((lowB c).toNat : Int) = lowI c.toNat := by
  unfold lowB lowI
  simp only [UInt8.le_iff_toNat_le, show (65 : UInt8).toNat = 65 from rfl, show (90 : UInt8).toNat = 90 from rfl]
  by_cases h : 65 ≤ c.toNat ∧ c.toNat ≤ 90
  · rw [if_pos h, if_pos (by omega), UInt8.toNat_add, show (32 : UInt8).toNat = 32 from rfl]; omega
  · rw [if_neg h, if_neg (by omega)]
theorem upB_toNat (c : UInt8) : ((upB c).toNat : Int) = upI c.toNat := by
  unfold upB upI
  simp only [UInt8.le_iff_toNat_le, show (97 : UInt8).toNat = 97 from rfl, show (122 : UInt8).toNat = 122 from rfl]
  by_cases h : 97 ≤ c.toNat ∧ c.toNat ≤ 122
  · rw [if_pos h, if_pos (by omega), UInt8.toNat_sub_of_le _ _ (by rw [UInt8.le_iff_toNat_le]; show 32 ≤ _; omega), show (32 : UInt8).toNat = 32 from rfl]; omega
  · rw [if_neg h, if_neg (by omega)]
theorem byte_lt (c : UInt8) : (c.toNat : Int) ≤ 255 := by have := c.toNat_lt; omega
theorem byte_inj {a b : UInt8} (h : a.toNat = b.toNat) : a = b := UInt8.toNat_inj.1 h

def lowS (l : Bs) : Bs := l.map lowB
def upS (l : Bs) : Bs := l.map upB

/-- 'limited' and 'long'. -/
def lim (l : Bs) : Bs × Int := if l.length ≤ 65536 then (l, 0) else ([], 4)

/-- 'begins'. -/
def begins (s w : Bs) (fold : Bool) : Bool := decide (w.length ≤ s.length) && (s.take w.length == w || fold && lowS (s.take w.length) == lowS w)

/-- The first pair whose key stands at the beginning. -/
def pick (fold : Bool) (rest : Bs) : List Bs → Option (Bs × Bs)
  | k :: v :: r => if !k.isEmpty && begins rest k fold then some (k, v) else pick fold rest r
  | _ => none

theorem pick_len {fold : Bool} {rest : Bs} : ∀ {pairs : List Bs} {k v : Bs}, pick fold rest pairs = some (k, v) → 1 ≤ k.length ∧ k.length ≤ rest.length
  | [], _, _, h => by simp [pick] at h
  | [_], _, _, h => by simp [pick] at h
  | a :: b :: r, k, v, h => by
    unfold pick at h
    split at h
    · rename_i hc
      cases h
      simp only [Bool.and_eq_true, begins, decide_eq_true_eq] at hc
      refine ⟨?_, hc.2.1⟩
      cases a with
      | nil => simp at hc
      | cons x y => simp
    · exact pick_len h

/-- What 'Map' makes of a text, however long, with fuel (the text's length is enough). -/
def mapF (fold : Bool) (pairs : List Bs) : Nat → Bs → Bs
  | 0, _ => []
  | _ + 1, [] => []
  | n + 1, c :: t => match pick fold (c :: t) pairs with
    | some (k, v) => v ++ mapF fold pairs n ((c :: t).drop k.length)
    | none => c :: mapF fold pairs n t

def mapAll (fold : Bool) (pairs : List Bs) (s : Bs) : Bs := mapF fold pairs s.length s

theorem mapF_fuel (fold : Bool) (pairs : List Bs) : ∀ (n m : Nat) (s : Bs), s.length ≤ n → s.length ≤ m → mapF fold pairs n s = mapF fold pairs m s := by
  intro n
  induction n with
  | zero => intro m s h _; have : s = [] := List.length_eq_zero_iff.1 (by omega); subst this; cases m <;> simp [mapF]
  | succ n ih =>
    intro m s h1 h2
    cases s with
    | nil => cases m <;> simp [mapF]
    | cons c t =>
      cases m with
      | zero => simp at h2
      | succ m =>
        simp only [mapF]
        cases hp : pick fold (c :: t) pairs with
        | none => simp only; rw [ih m t (by simpa using h1) (by simpa using h2)]
        | some kv =>
          obtain ⟨k, v⟩ := kv
          have := pick_len hp
          simp only
          rw [ih m _ (by simp at h1 ⊢; omega) (by simp at h2 ⊢; omega)]

theorem mapAll_nil (fold : Bool) (pairs : List Bs) : mapAll fold pairs [] = [] := rfl
theorem mapAll_none {fold : Bool} {pairs : List Bs} {c : UInt8} {t : Bs} (h : pick fold (c :: t) pairs = none) : mapAll fold pairs (c :: t) = c :: mapAll fold pairs t := by
  simp [mapAll, mapF, h]
theorem mapAll_some {fold : Bool} {pairs : List Bs} {s k v : Bs} (h : pick fold s pairs = some (k, v)) : mapAll fold pairs s = v ++ mapAll fold pairs (s.drop k.length) := by
  have hl := pick_len h
  cases s with
  | nil => have := hl.1; have := hl.2; simp only [List.length_nil] at this; omega
  | cons c t =>
    simp only [mapAll, List.length_cons, mapF, h]
    rw [mapF_fuel fold pairs t.length _ _ (by simp; omega) (Nat.le_refl _)]

/-- Mapping a key to itself changes nothing. -/
theorem mapAll_self (p : Bs) : ∀ (n : Nat) (s : Bs), s.length ≤ n → mapAll false [p, p] s = s := by
  intro n
  induction n with
  | zero => intro s h; have : s = [] := List.length_eq_zero_iff.1 (by omega); subst this; rfl
  | succ n ih =>
    intro s h
    cases hp : pick false s [p, p] with
    | none =>
      cases s with
      | nil => rfl
      | cons c t => rw [mapAll_none hp, ih t (by simpa using h)]
    | some kv =>
      obtain ⟨k, v⟩ := kv
      have hl := pick_len hp
      rw [mapAll_some hp, ih _ (by simp; omega)]
      unfold pick at hp
      split at hp
      · rename_i hc
        cases hp
        simp [begins] at hc
        conv => rhs; rw [← List.take_append_drop p.length s, hc.2.2]
      · simp [pick] at hp

end Go.Proofs.YteojlmpipfajoaaGreatDoor
