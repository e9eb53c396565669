/- Patterns, plainly: the parts that a pattern is read into, and matching. -/
import Derived.Lib.Bytealg
import Derived.Lib.IndexLaws
import Derived.Test.YtjgdfgpnmmkjfaaGreatDoorPlain
namespace Go.Proofs.YtjgdfgpnmmkjfaaGreatDoor
set_option linter.unusedVariables false
set_option linter.unusedSimpArgs false

/-- A part of a pattern: 'none' is any bytes, 'some p' is one byte that p takes. -/
abbrev Part := Option (UInt8 → Bool)

def lit (fold : Bool) (c x : UInt8) : Bool := x == c || fold && lowB x == lowB c

variable (inC : Bs → UInt8 → Bool → Bool)

/-- What 'steps' reads, with fuel; 'none' where a set has no end. -/
def stepsF (fold : Bool) : Nat → Bs → Option (List Part)
  | 0, _ => some []
  | _ + 1, [] => some []
  | n + 1, c :: r =>
    if c = 42 then (stepsF fold n r).map (none :: ·)
    else if c = 63 then (stepsF fold n r).map (some (fun _ => true) :: ·)
    else if c = 91 then
      if Lib.indexByte r 93 < 0 then none
      else (stepsF fold n (r.drop ((Lib.indexByte r 93).toNat + 1))).map (some (fun x => inC (r.take (Lib.indexByte r 93).toNat) x fold) :: ·)
    else if c = 92 ∧ r ≠ [] then (stepsF fold n r.tail).map (some (lit fold (r.headD 0)) :: ·)
    else (stepsF fold n r).map (some (lit fold c) :: ·)

def stepsA (fold : Bool) (p : Bs) : Option (List Part) := stepsF inC fold p.length p

theorem stepsF_fuel (fold : Bool) : ∀ (n m : Nat) (p : Bs), p.length ≤ n → p.length ≤ m → stepsF inC fold n p = stepsF inC fold m p := by
  intro n
  induction n with
  | zero => intro m p h _; have : p = [] := List.length_eq_zero_iff.1 (by omega); subst this; cases m <;> rfl
  | succ n ih =>
    intro m p h1 h2
    cases p with
    | nil => cases m <;> rfl
    | cons c r =>
      cases m with
      | zero => simp at h2
      | succ m =>
        simp only [List.length_cons] at h1 h2
        simp only [stepsF]
        rw [ih m r (by omega) (by omega), ih m _ (by simp; omega) (by simp; omega), ih m r.tail (by simp; omega) (by simp; omega)]

variable {inC} {fold : Bool} {c : UInt8} {r : Bs}
theorem stepsA_nil : stepsA inC fold [] = some [] := rfl
theorem stepsA_star : stepsA inC fold (42 :: r) = (stepsA inC fold r).map (none :: ·) := by simp [stepsA, stepsF]
theorem stepsA_any : stepsA inC fold (63 :: r) = (stepsA inC fold r).map (some (fun _ => true) :: ·) := by simp [stepsA, stepsF]
theorem stepsA_bad (h : Lib.indexByte r 93 < 0) : stepsA inC fold (91 :: r) = none := by simp [stepsA, stepsF, h]
theorem stepsA_set (h : ¬ Lib.indexByte r 93 < 0) : stepsA inC fold (91 :: r) = (stepsA inC fold (r.drop ((Lib.indexByte r 93).toNat + 1))).map (some (fun x => inC (r.take (Lib.indexByte r 93).toNat) x fold) :: ·) := by
  simp only [stepsA, List.length_cons, stepsF]
  rw [if_neg (by decide), if_neg (by decide), if_pos trivial, if_neg h, stepsF_fuel inC fold r.length _ _ (by simp) (Nat.le_refl _)]
theorem stepsA_esc {d : UInt8} : stepsA inC fold (92 :: d :: r) = (stepsA inC fold r).map (some (lit fold d) :: ·) := by
  simp only [stepsA, List.length_cons]
  rw [stepsF, if_neg (by decide), if_neg (by decide), if_neg (by decide), if_pos ⟨rfl, by simp⟩, List.tail_cons, stepsF_fuel inC fold _ r.length r (by omega) (Nat.le_refl _)]
  rfl
theorem stepsA_lit (h1 : c ≠ 42) (h2 : c ≠ 63) (h3 : c ≠ 91) (h4 : ¬ (c = 92 ∧ r ≠ [])) : stepsA inC fold (c :: r) = (stepsA inC fold r).map (some (lit fold c) :: ·) := by
  simp only [stepsA, List.length_cons]
  rw [stepsF, if_neg h1, if_neg h2, if_neg h3, if_neg h4]

/-- The matching of 'Glob': whether it matches; whether there are too few bytes, whatever is passed over before. -/
def gstar (f : Bs → Bool × Bool) : Bs → Bool × Bool
  | [] => if (f []).1 || (f []).2 then f [] else (false, true)
  | c :: t => if (f (c :: t)).1 || (f (c :: t)).2 then f (c :: t) else gstar f t
def gm : List Part → Bs → Bool × Bool
  | [], s => (s.isEmpty, false)
  | none :: r, s => gstar (gm r) s
  | some _ :: _, [] => (false, true)
  | some p :: r, c :: t => if p c then gm r t else (false, false)
/-- What it is to match. -/
def mstar (f : Bs → Bool) : Bs → Bool
  | [] => f []
  | c :: t => f (c :: t) || mstar f t
def mt : List Part → Bs → Bool
  | [], s => s.isEmpty
  | none :: r, s => mstar (mt r) s
  | some _ :: _, [] => false
  | some p :: r, c :: t => p c && mt r t

end Go.Proofs.YtjgdfgpnmmkjfaaGreatDoor
