/- Pipes in plain Lean: what raw bytes become, step by step. -/
import Derived.Test.YtafohdmhjilleaaDoorPlain
namespace Go.Proofs.YtafohdmhjilleaaDoor
set_option linter.unusedVariables false
set_option linter.unusedSimpArgs false

def lfM : Bs := [108, 102]
def crM : Bs := [99, 114]
def crlfM : Bs := [99, 114, 108, 102]
def autoM : Bs := [97, 117, 116, 111]
def isOutM (m : Bs) : Bool := decide (m = lfM) || decide (m = crM) || decide (m = crlfM)
def isInM (m : Bs) : Bool := decide (m = autoM) || isOutM m

/-- What the first raw bytes become: the byte, and how many they are. -/
def stepP (mode : Bs) (closed : Bool) : Bs → Option (UInt8 × Nat)
  | [] => none
  | c :: r =>
    if c = 13 ∧ mode ≠ lfM then
      if mode = crM then some (10, 1)
      else if r = [] ∧ closed = false then none
      else if r.head? = some 10 then some (10, 2)
      else if mode = autoM then some (10, 1)
      else some (c, 1)
    else some (c, 1)
def stepsF (mode : Bs) (closed : Bool) : Nat → Bs → List (UInt8 × Nat)
  | 0, _ => []
  | k + 1, raw => match stepP mode closed raw with
    | none => []
    | some p => p :: stepsF mode closed k (raw.drop p.2)
/-- All steps. -/
def stepsL (mode : Bs) (closed : Bool) (raw : Bs) : List (UInt8 × Nat) := stepsF mode closed raw.length raw
def sumN (l : List (UInt8 × Nat)) : Nat := (l.map (·.2)).sum
def bytesL (l : List (UInt8 × Nat)) : Bs := l.map (·.1)

theorem stepP_cons (mode : Bs) (closed : Bool) (c : UInt8) (r : Bs) : stepP mode closed (c :: r) =
    if c = 13 ∧ mode ≠ lfM then
      (if mode = crM then some (10, 1)
      else if r = [] ∧ closed = false then none
      else if r.head? = some 10 then some (10, 2)
      else if mode = autoM then some (10, 1)
      else some (c, 1))
    else some (c, 1) := rfl
theorem stepsF_succ (mode : Bs) (closed : Bool) (k : Nat) (raw : Bs) : stepsF mode closed (k + 1) raw = match stepP mode closed raw with
    | none => []
    | some p => p :: stepsF mode closed k (raw.drop p.2) := rfl
theorem stepP_pos {mode : Bs} {closed : Bool} {raw : Bs} {p : UInt8 × Nat} (h : stepP mode closed raw = some p) : 1 ≤ p.2 ∧ p.2 ≤ raw.length := by
  cases raw with
  | nil => cases h
  | cons c r =>
    rw [stepP_cons] at h
    repeat' split at h
    all_goals first
      | (cases h; done)
      | (cases h; simp; done)
      | (rename_i hh; cases r with
        | nil => cases hh
        | cons d r => cases h; simp)
theorem stepsF_fuel (mode : Bs) (closed : Bool) : ∀ (n m : Nat) (raw : Bs), raw.length ≤ n → raw.length ≤ m → stepsF mode closed n raw = stepsF mode closed m raw := by
  intro n
  induction n with
  | zero =>
    intro m raw h1 h2
    obtain rfl : raw = [] := List.length_eq_zero_iff.1 (by omega)
    cases m <;> rfl
  | succ n ih =>
    intro m raw h1 h2
    cases m with
    | zero => obtain rfl : raw = [] := List.length_eq_zero_iff.1 (by omega); rfl
    | succ m =>
      rw [stepsF_succ, stepsF_succ]
      cases hp : stepP mode closed raw with
      | none => rfl
      | some p =>
        have := stepP_pos hp
        simp only
        rw [ih m (raw.drop p.2) (by simp; omega) (by simp; omega)]
theorem stepsL_none {mode : Bs} {closed : Bool} {raw : Bs} (h : stepP mode closed raw = none) : stepsL mode closed raw = [] := by
  unfold stepsL
  cases raw with
  | nil => rfl
  | cons c r => simp only [List.length_cons, stepsF, h]
theorem stepsL_some {mode : Bs} {closed : Bool} {raw : Bs} {p : UInt8 × Nat} (h : stepP mode closed raw = some p) : stepsL mode closed raw = p :: stepsL mode closed (raw.drop p.2) := by
  have hp := stepP_pos h
  unfold stepsL
  cases hr : raw.length with
  | zero => omega
  | succ n =>
    rw [stepsF_succ, h]
    simp only
    rw [stepsF_fuel mode closed n (raw.drop p.2).length (raw.drop p.2) (by simp; omega) (Nat.le_refl _)]
theorem stepsL_nil (mode : Bs) (closed : Bool) : stepsL mode closed [] = [] := rfl
theorem sumN_nil : sumN [] = 0 := rfl
theorem sumN_cons (p : UInt8 × Nat) (l : List (UInt8 × Nat)) : sumN (p :: l) = p.2 + sumN l := by simp [sumN]
theorem sumN_append (l k : List (UInt8 × Nat)) : sumN (l ++ k) = sumN l + sumN k := by simp [sumN]
theorem steps_len (mode : Bs) (closed : Bool) : ∀ (n : Nat) (raw : Bs), raw.length ≤ n → (stepsL mode closed raw).length ≤ raw.length ∧ sumN (stepsL mode closed raw) ≤ raw.length := by
  intro n
  induction n with
  | zero =>
    intro raw h
    obtain rfl : raw = [] := List.length_eq_zero_iff.1 (by omega)
    simp [stepsL_nil, sumN_nil]
  | succ n ih =>
    intro raw h
    cases hp : stepP mode closed raw with
    | none => rw [stepsL_none hp]; simp [sumN_nil]
    | some p =>
      have h1 := stepP_pos hp
      have h2 := ih (raw.drop p.2) (by simp; omega)
      rw [stepsL_some hp, sumN_cons]
      simp at h2 ⊢
      omega
theorem steps_le (mode : Bs) (closed : Bool) (raw : Bs) : (stepsL mode closed raw).length ≤ raw.length ∧ sumN (stepsL mode closed raw) ≤ raw.length := steps_len mode closed raw.length raw (Nat.le_refl _)
/-- What is left behind k steps has the steps that are left. -/
theorem steps_drop (mode : Bs) (closed : Bool) : ∀ (k : Nat) (raw : Bs), stepsL mode closed (raw.drop (sumN ((stepsL mode closed raw).take k))) = (stepsL mode closed raw).drop k := by
  intro k
  induction k with
  | zero => intro raw; simp [sumN]
  | succ k ih =>
    intro raw
    cases hp : stepP mode closed raw with
    | none => rw [stepsL_none hp]; simp [sumN, stepsL_none hp]
    | some p =>
      rw [stepsL_some hp]
      simp only [List.take_succ_cons, List.drop_succ_cons, sumN_cons]
      rw [← List.drop_drop, ih]
theorem stepP_closed {mode : Bs} {c : UInt8} {r : Bs} : stepP mode true (c :: r) ≠ none := by
  rw [stepP_cons, if_neg (show ¬ (r = [] ∧ true = false) by simp)]
  repeat' split
  all_goals simp
/-- Nothing waits in what is closed. -/
theorem steps_all (mode : Bs) : ∀ (n : Nat) (raw : Bs), raw.length ≤ n → sumN (stepsL mode true raw) = raw.length := by
  intro n
  induction n with
  | zero =>
    intro raw h
    obtain rfl : raw = [] := List.length_eq_zero_iff.1 (by omega)
    rfl
  | succ n ih =>
    intro raw h
    cases hp : stepP mode true raw with
    | none =>
      cases raw with
      | nil => rfl
      | cons c r => exact absurd hp stepP_closed
    | some p =>
      have h1 := stepP_pos hp
      rw [stepsL_some hp, sumN_cons, ih _ (by simp; omega)]
      simp; omega
theorem steps_closed (mode raw : Bs) : sumN (stepsL mode true raw) = raw.length := steps_all mode raw.length raw (Nat.le_refl _)
theorem stepP_two {mode : Bs} {closed : Bool} {raw : Bs} {p : UInt8 × Nat} (h : stepP mode closed raw = some p) : p.2 ≤ 2 := by
  cases raw with
  | nil => cases h
  | cons c r =>
    rw [stepP_cons] at h
    repeat' split at h
    all_goals first
      | (cases h; done)
      | (cases h; simp; done)
theorem stepsF_two (mode : Bs) (closed : Bool) : ∀ (n : Nat) (raw : Bs), ∀ p ∈ stepsF mode closed n raw, p.2 ≤ 2 := by
  intro n
  induction n with
  | zero => intro raw p hp; cases hp
  | succ n ih =>
    intro raw p hp
    rw [stepsF_succ] at hp
    cases h : stepP mode closed raw with
    | none => rw [h] at hp; cases hp
    | some q =>
      rw [h] at hp
      rcases List.mem_cons.1 hp with rfl | hp
      · exact stepP_two h
      · exact ih _ p hp
theorem steps_two (mode : Bs) (closed : Bool) (raw : Bs) : ∀ p ∈ stepsL mode closed raw, p.2 ≤ 2 := stepsF_two mode closed _ raw
/-- The steps up to and with the first line feed. -/
def lineL : List (UInt8 × Nat) → List (UInt8 × Nat)
  | [] => []
  | p :: r => if p.1 = 10 then [p] else p :: lineL r
theorem lineL_prefix : ∀ l : List (UInt8 × Nat), lineL l = l.take (lineL l).length := by
  intro l
  induction l with
  | nil => rfl
  | cons p r ih =>
    unfold lineL
    split
    · simp
    · simp only [List.length_cons, List.take_succ_cons]; rw [← ih]
theorem lineL_len : ∀ l : List (UInt8 × Nat), (lineL l).length ≤ l.length := by
  intro l
  induction l with
  | nil => simp [lineL]
  | cons p r ih => unfold lineL; split <;> simp <;> omega
/-- A line: its bytes without its line feed; whether it has one. -/
theorem lineL_spec : ∀ l : List (UInt8 × Nat), (∃ a, bytesL (lineL l) = a ++ [10] ∧ (10 : UInt8) ∉ a) ∨ (lineL l = l ∧ (10 : UInt8) ∉ bytesL l) := by
  intro l
  induction l with
  | nil => right; simp [lineL, bytesL]
  | cons p r ih =>
    unfold lineL
    by_cases h : p.1 = 10
    · rw [if_pos h]; left; exact ⟨[], by simp [bytesL, h], by simp⟩
    · rw [if_neg h]
      rcases ih with ⟨a, h1, h2⟩ | ⟨h1, h2⟩
      · left; exact ⟨p.1 :: a, by simp [bytesL] at h1 ⊢; exact h1, by simp; exact ⟨fun e => h e.symm, h2⟩⟩
      · right; rw [h1]; exact ⟨rfl, by simp [bytesL] at h2 ⊢; exact ⟨fun e => h e.symm, h2⟩⟩
/-- What a text becomes by a translation. -/
def outM (mode s : Bs) : Bs := if mode = crM then s.flatMap (fun c => if c = 10 then [13] else [c]) else if mode = crlfM then s.flatMap (fun c => if c = 10 then [13, 10] else [c]) else s
theorem outM_append (mode s t : Bs) : outM mode (s ++ t) = outM mode s ++ outM mode t := by
  unfold outM
  split
  · simp
  · split <;> simp
theorem outM_nil (mode : Bs) : outM mode [] = [] := by unfold outM; split <;> first | rfl | (split <;> rfl)
theorem outM_len (mode : Bs) : ∀ s : Bs, s.length ≤ (outM mode s).length ∧ (outM mode s).length ≤ 2 * s.length := by
  intro s
  induction s with
  | nil => rw [outM_nil]; simp
  | cons c r ih =>
    rw [show c :: r = [c] ++ r from rfl, outM_append]
    have h1 : 1 ≤ (outM mode [c]).length ∧ (outM mode [c]).length ≤ 2 := by
      unfold outM
      split
      · simp; split <;> simp
      · split
        · simp; split <;> simp
        · simp
    simp only [List.length_append, List.length_cons, List.length_nil]
    omega
/-- A text without a line feed stays. -/
theorem outM_same (mode : Bs) : ∀ s : Bs, (10 : UInt8) ∉ s → outM mode s = s := by
  intro s
  induction s with
  | nil => intro _; exact outM_nil mode
  | cons c r ih =>
    intro h
    simp only [List.mem_cons, not_or] at h
    rw [show c :: r = [c] ++ r from rfl, outM_append, ih h.2]
    have hc : ¬ c = 10 := fun e => h.1 e.symm
    unfold outM
    split
    · simp [hc]
    · split <;> simp [hc]
end Go.Proofs.YtafohdmhjilleaaDoor
