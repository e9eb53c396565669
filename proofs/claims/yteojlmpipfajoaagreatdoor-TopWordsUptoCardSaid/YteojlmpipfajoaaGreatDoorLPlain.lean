/- Plain functions of lists (layer 2): how elements are read, quoted, joined. No program in sight. -/
import Derived.Test.YteojlmpipfajoaaGreatDoorFormP
import Derived.Lib.IndexMore
namespace Go.Proofs.YteojlmpipfajoaaGreatDoor
set_option linter.unusedVariables false
set_option linter.unusedSimpArgs false

def isW (c : UInt8) : Bool := whiteI c.toNat

/-- A bare element: its text, and how many bytes it takes. -/
def bareF : Nat → Bs → Bs × Nat
  | 0, _ => ([], 0)
  | _ + 1, [] => ([], 0)
  | n + 1, c :: r => if isW c = true then ([], 0) else if c = 92 then
      ((unesc (c :: r)).1 ++ (bareF n ((c :: r).drop (unesc (c :: r)).2)).1, (unesc (c :: r)).2 + (bareF n ((c :: r).drop (unesc (c :: r)).2)).2)
    else (c :: (bareF n r).1, (bareF n r).2 + 1)
def bare (s : Bs) : Bs × Nat := bareF s.length s

/-- What stands between quotes (behind the first one), with the second one. -/
def quoF : Nat → Bs → Option (Bs × Nat)
  | 0, _ => none
  | _ + 1, [] => none
  | n + 1, c :: r => if c = 34 then some ([], 1) else if c = 92 then
      (quoF n ((c :: r).drop (unesc (c :: r)).2)).map fun q => ((unesc (c :: r)).1 ++ q.1, (unesc (c :: r)).2 + q.2)
    else (quoF n r).map fun q => (c :: q.1, q.2 + 1)
def quo (s : Bs) : Option (Bs × Nat) := quoF s.length s

/-- The index of the brace that closes, d braces being open. -/
def clo : Bs → Nat → Option Nat
  | [], _ => none
  | c :: r, d => if c = 92 then (match r with | [] => none | _ :: r' => (clo r' d).map (· + 2)) else if c = 123 then (clo r (d + 1)).map (· + 1) else if c = 125 then (if d = 1 then some 0 else (clo r (d - 1)).map (· + 1)) else (clo r d).map (· + 1)

/-- The element at the beginning of a text. -/
def elemC : Bs → Option (Bs × Nat)
  | [] => none
  | c :: r => if c = 123 then (clo r 1).map fun k => (r.take k, k + 2) else if c = 34 then (quo r).map fun q => (q.1, q.2 + 1) else some (bare (c :: r))

/-- May an element end here? -/
def atEnd (s : Bs) : Bool := match s with | [] => true | c :: _ => isW c

def splitF : Nat → Bs → Option (List Bs)
  | 0, s => if s = [] then some [] else none
  | _ + 1, [] => some []
  | n + 1, c :: r => if isW c = true then splitF n r else (elemC (c :: r)).bind fun q => if atEnd ((c :: r).drop q.2) = true then (splitF n ((c :: r).drop q.2)).map (q.1 :: ·) else none
def splitL (s : Bs) : Option (List Bs) := splitF s.length s

/-- Special bytes. -/
def isS (c : UInt8) : Bool := isW c || c == 34 || c == 92 || c == 123 || c == 125 || c == 36 || c == 91 || c == 93 || c == 59

/-- May a text stand in braces, d being open? -/
def balF : Bs → Nat → Bool
  | [], d => d == 0
  | c :: r, d => if c = 92 then (match r with | [] => false | _ :: r' => balF r' d) else if c = 123 then balF r (d + 1) else if c = 125 then (if d = 0 then false else balF r (d - 1)) else balF r d
def balanced (s : Bs) : Bool := balF s 0 && !Lib.contains s [92, 10]
def letW (c : UInt8) : UInt8 := if c = 9 then 116 else if c = 10 then 110 else if c = 11 then 118 else if c = 12 then 102 else if c = 13 then 114 else c
def slashB (first : Bool) (c : UInt8) : Bs := if isS c || first && c == 35 then [92, letW c] else [c]
def slashed : Bs → Bs
  | [] => []
  | c :: r => slashB true c ++ (r.map (slashB false)).flatten
def plainB (s : Bs) : Bool := match s with | [] => false | c :: _ => c != 35 && s.all fun c => !isS c
def quote (s : Bs) : Bs := if s = [] then [123, 125] else if plainB s = true then s else if balanced s = true then 123 :: (s ++ [125]) else slashed s
def joinL : List Bs → Bs
  | [] => []
  | [x] => quote x
  | x :: l => quote x ++ 32 :: joinL l

theorem unesc_pos {c : UInt8} {r : Bs} (h : c = 92) : 1 ≤ (unesc (c :: r)).2 ∧ (unesc (c :: r)).2 ≤ (c :: r).length := by
  refine ⟨?_, (unesc_len _).2.2⟩
  subst h
  unfold unesc
  cases r with
  | nil => simp
  | cons d r =>
    have hl : 1 < ((92 : UInt8) :: d :: r).length := by simp
    rw [dif_pos hl, if_pos (by rfl)]
    unfold unesc1
    repeat' split
    all_goals (simp only; omega)

theorem bareF_fuel : ∀ (n m : Nat) (s : Bs), s.length ≤ n → s.length ≤ m → bareF n s = bareF m s := by
  intro n
  induction n with
  | zero =>
    intro m s h1 h2
    have : s = [] := List.length_eq_zero_iff.1 (by omega)
    subst this
    cases m <;> rfl
  | succ n ih =>
    intro m s h1 h2
    match s, m with
    | [], 0 => rfl
    | [], m + 1 => rfl
    | c :: r, 0 => simp at h2
    | c :: r, m + 1 =>
      simp only [bareF]
      split
      · rfl
      · split
        · rename_i hc
          have := unesc_pos (r := r) hc
          rw [ih m _ (by simp at h1 ⊢; omega) (by simp at h2 ⊢; omega)]
        · rw [ih m _ (by simp at h1; omega) (by simp at h2; omega)]
theorem quoF_fuel : ∀ (n m : Nat) (s : Bs), s.length ≤ n → s.length ≤ m → quoF n s = quoF m s := by
  intro n
  induction n with
  | zero =>
    intro m s h1 h2
    have : s = [] := List.length_eq_zero_iff.1 (by omega)
    subst this
    cases m <;> rfl
  | succ n ih =>
    intro m s h1 h2
    match s, m with
    | [], 0 => rfl
    | [], m + 1 => rfl
    | c :: r, 0 => simp at h2
    | c :: r, m + 1 =>
      simp only [quoF]
      split
      · rfl
      · split
        · rename_i hc
          have := unesc_pos (r := r) hc
          rw [ih m _ (by simp at h1 ⊢; omega) (by simp at h2 ⊢; omega)]
        · rw [ih m _ (by simp at h1; omega) (by simp at h2; omega)]

theorem bare_nil : bare [] = ([], 0) := rfl
theorem bare_white {c : UInt8} {r : Bs} (h : isW c = true) : bare (c :: r) = ([], 0) := by
  unfold bare; simp only [List.length_cons, bareF, h, if_true]
theorem bare_esc {c : UInt8} {r : Bs} (hw : isW c = false) (h : c = 92) : bare (c :: r) = ((unesc (c :: r)).1 ++ (bare ((c :: r).drop (unesc (c :: r)).2)).1, (unesc (c :: r)).2 + (bare ((c :: r).drop (unesc (c :: r)).2)).2) := by
  have hp := unesc_pos (r := r) h
  unfold bare
  simp only [List.length_cons, bareF, hw, Bool.false_eq_true, if_false, h, if_true]
  subst h
  rw [bareF_fuel r.length ((92 :: r).drop (unesc (92 :: r)).2).length _ (by simp at hp ⊢; omega) (Nat.le_refl _)]
  simp only [hw, Bool.false_eq_true, if_false]
theorem bare_lit {c : UInt8} {r : Bs} (hw : isW c = false) (h : c ≠ 92) : bare (c :: r) = (c :: (bare r).1, (bare r).2 + 1) := by
  unfold bare
  simp only [List.length_cons, bareF, hw, Bool.false_eq_true, if_false, h]
theorem quo_nil : quo [] = none := rfl
theorem quo_end {c : UInt8} {r : Bs} (h : c = 34) : quo (c :: r) = some ([], 1) := by
  unfold quo; simp only [List.length_cons, quoF, h, if_true]
theorem quo_esc {c : UInt8} {r : Bs} (h : c = 92) : quo (c :: r) = (quo ((c :: r).drop (unesc (c :: r)).2)).map fun q => ((unesc (c :: r)).1 ++ q.1, (unesc (c :: r)).2 + q.2) := by
  have hp := unesc_pos (r := r) h
  unfold quo
  simp only [List.length_cons, quoF, h, if_true]
  rw [if_neg (by decide)]
  subst h
  rw [quoF_fuel r.length ((92 :: r).drop (unesc (92 :: r)).2).length _ (by simp at hp ⊢; omega) (Nat.le_refl _)]
theorem quo_lit {c : UInt8} {r : Bs} (h1 : c ≠ 34) (h2 : c ≠ 92) : quo (c :: r) = (quo r).map fun q => (c :: q.1, q.2 + 1) := by
  unfold quo; simp only [List.length_cons, quoF, h1, h2, if_false]

theorem bareF_le : ∀ (n : Nat) (s : Bs), (bareF n s).2 ≤ s.length ∧ (bareF n s).1.length ≤ (bareF n s).2 := by
  intro n
  induction n with
  | zero => intro s; simp [bareF]
  | succ n ih =>
    intro s
    cases s with
    | nil => simp [bareF]
    | cons c r =>
      simp only [bareF]
      split
      · simp
      · split
        · rename_i hc
          have hp := unesc_pos (r := r) hc
          have h2 := (unesc_len (c :: r)).2.1
          obtain ⟨h3, h4⟩ := ih ((c :: r).drop (unesc (c :: r)).2)
          simp only [List.length_append, List.length_drop, List.length_cons] at h3 h4 hp ⊢
          omega
        · obtain ⟨h3, h4⟩ := ih r
          simp only [List.length_cons]; omega
theorem quoF_le : ∀ (n : Nat) (s : Bs) (t : Bs) (k : Nat), quoF n s = some (t, k) → k ≤ s.length ∧ t.length + 1 ≤ k := by
  intro n
  induction n with
  | zero => intro s t k h; simp [quoF] at h
  | succ n ih =>
    intro s t k h
    cases s with
    | nil => simp [quoF] at h
    | cons c r =>
      simp only [quoF] at h
      split at h
      · cases h; simp
      · split at h
        · rename_i hc
          have hp := unesc_pos (r := r) hc
          have h2 := (unesc_len (c :: r)).2.1
          cases hq : quoF n ((c :: r).drop (unesc (c :: r)).2) with
          | none => rw [hq] at h; cases h
          | some q =>
            rw [hq] at h
            obtain ⟨h3, h4⟩ := ih _ q.1 q.2 hq
            cases h
            simp only [List.length_append, List.length_drop, List.length_cons] at h3 h4 hp ⊢
            omega
        · cases hq : quoF n r with
          | none => rw [hq] at h; cases h
          | some q =>
            rw [hq] at h
            obtain ⟨h3, h4⟩ := ih _ q.1 q.2 hq
            cases h
            simp only [List.length_cons] at h3 h4 ⊢
            omega
theorem clo_le : ∀ (m : Nat) (s : Bs), s.length ≤ m → ∀ (d k : Nat), clo s d = some k → k < s.length := by
  intro m
  induction m with
  | zero =>
    intro s h d k hk
    have : s = [] := List.length_eq_zero_iff.1 (by omega)
    subst this; simp [clo] at hk
  | succ m ih =>
    intro s h d k hk
    cases s with
    | nil => simp [clo] at hk
    | cons c r =>
      simp only [List.length_cons] at h
      unfold clo at hk
      split at hk
      · cases r with
        | nil => simp at hk
        | cons c' r' =>
          simp only at hk
          cases hc : clo r' d with
          | none => rw [hc] at hk; cases hk
          | some j =>
            rw [hc] at hk; cases hk
            have := ih r' (by simp at h; omega) d j hc
            simp; omega
      · split at hk
        · cases hc : clo r (d + 1) with
          | none => rw [hc] at hk; cases hk
          | some j => rw [hc] at hk; cases hk; have := ih r (by omega) _ j hc; simp; omega
        · split at hk
          · split at hk
            · cases hk; simp
            · cases hc : clo r (d - 1) with
              | none => rw [hc] at hk; cases hk
              | some j => rw [hc] at hk; cases hk; have := ih r (by omega) _ j hc; simp; omega
          · cases hc : clo r d with
            | none => rw [hc] at hk; cases hk
            | some j => rw [hc] at hk; cases hk; have := ih r (by omega) _ j hc; simp; omega
/-- An element takes a byte at least (unless it is bare and white), and no more than there are; its text is no longer. -/
theorem elem_le {s : Bs} {t : Bs} {k : Nat} (h : elemC s = some (t, k)) : k ≤ s.length ∧ t.length ≤ k := by
  cases s with
  | nil => simp [elemC] at h
  | cons c r =>
    simp only [elemC] at h
    split at h
    · cases hc : clo r 1 with
      | none => rw [hc] at h; cases h
      | some j =>
        rw [hc] at h; cases h
        have := clo_le r.length r (Nat.le_refl _) 1 j hc
        simp; omega
    · split at h
      · cases hq : quo r with
        | none => rw [hq] at h; cases h
        | some q =>
          rw [hq] at h; cases h
          obtain ⟨h1, h2⟩ := quoF_le _ _ _ _ hq
          simp; omega
      · have e := Option.some.inj h
        have h1 := bareF_le (c :: r).length (c :: r)
        rw [show bareF (c :: r).length (c :: r) = bare (c :: r) from rfl, e] at h1
        exact h1
theorem elem_pos {c : UInt8} {r : Bs} (hw : isW c = false) {t : Bs} {k : Nat} (h : elemC (c :: r) = some (t, k)) : 1 ≤ k := by
  simp only [elemC] at h
  split at h
  · cases hc : clo r 1 with
    | none => rw [hc] at h; cases h
    | some j => rw [hc] at h; cases h; omega
  · split at h
    · cases hq : quo r with
      | none => rw [hq] at h; cases h
      | some q => rw [hq] at h; cases h; omega
    · have e := Option.some.inj h
      have e2 : k = (bare (c :: r)).2 := by rw [e]
      subst e2
      clear e h
      by_cases hc : c = 92
      · rw [bare_esc hw hc]
        have := unesc_pos (r := r) hc
        simp only; omega
      · rw [bare_lit hw hc]; simp
theorem splitF_fuel : ∀ (n m : Nat) (s : Bs), s.length ≤ n → s.length ≤ m → splitF n s = splitF m s := by
  intro n
  induction n with
  | zero =>
    intro m s h1 h2
    have : s = [] := List.length_eq_zero_iff.1 (by omega)
    subst this
    cases m <;> rfl
  | succ n ih =>
    intro m s h1 h2
    match s, m with
    | [], 0 => rfl
    | [], m + 1 => rfl
    | c :: r, 0 => simp at h2
    | c :: r, m + 1 =>
      simp only [List.length_cons] at h1 h2
      simp only [splitF]
      split
      · rw [ih m _ (by omega) (by omega)]
      · rename_i hw
        cases he : elemC (c :: r) with
        | none => rfl
        | some q =>
          have hp := elem_pos (by simpa using hw) (t := q.1) (k := q.2) he
          simp only [Option.bind_some]
          rw [ih m _ (by simp; omega) (by simp; omega)]
theorem splitL_nil : splitL [] = some [] := rfl
theorem splitL_white {c : UInt8} {r : Bs} (h : isW c = true) : splitL (c :: r) = splitL r := by
  unfold splitL; simp only [List.length_cons, splitF, h, if_true]
theorem splitL_elem {c : UInt8} {r : Bs} (h : isW c = false) : splitL (c :: r) = (elemC (c :: r)).bind fun q => if atEnd ((c :: r).drop q.2) = true then (splitL ((c :: r).drop q.2)).map (q.1 :: ·) else none := by
  unfold splitL
  simp only [List.length_cons, splitF, h, Bool.false_eq_true, if_false]
  cases he : elemC (c :: r) with
  | none => rfl
  | some q =>
    have hp := elem_pos h (t := q.1) (k := q.2) he
    simp only [Option.bind_some]
    rw [splitF_fuel r.length ((c :: r).drop q.2).length _ (by simp; omega) (Nat.le_refl _)]
end Go.Proofs.YteojlmpipfajoaaGreatDoor
