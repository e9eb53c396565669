/- The reference's list: a text unescaped, the closing brace. The reference's list: one element. The reference's list: an element in braces or quotes. The reference's list: an element, Split. -/
import Derived.Test.YteojlmpipfajoaaGreatDoorLCut
import Derived.Test.YteojlmpipfajoaaGreatDoorLRead
import Derived.Test.YteojlmpipfajoaaGreatDoorLQuote
import Derived.Deep.LoopGhost
import Derived.Test.YteojlmpipfajoaaGreatDoorLJoin
import Derived.Test.YteojlmpipfajoaaGreatDoorPush1
namespace Go.Proofs.YteojlmpipfajoaaGreatDoor
set_option linter.unusedVariables false
set_option linter.unusedSimpArgs false
open Go.RowKit

/-- What 'closing' of the reference tells. -/
def closeI (s : Bs) (a : Nat) : Int := if (cloRes (s.drop a)).2.2 = true then (a : Int) + ((cloRes (s.drop a)).2.1 : Int) - 1 else -1
end Go.Proofs.YteojlmpipfajoaaGreatDoor
namespace Go.Proofs.YteojlmpipfajoaaGreatDoor
set_option linter.unusedVariables false
set_option linter.unusedSimpArgs false
open Go.RowKit

/-- What 'element' of the reference tells. -/
def relm (s : Bs) (a : Nat) : Bs × Int := match elemC (s.drop a) with | some (t, k) => if atEnd (s.drop (a + k)) = true then (t, (a : Int) + (k : Int)) else ([], -1) | none => ([], -1)
theorem bare_atEnd : ∀ (n : Nat) (s : Bs), s.length ≤ n → atEnd (s.drop (bare s).2) = true := by
  intro n
  induction n with
  | zero =>
    intro s h
    obtain rfl : s = [] := List.length_eq_zero_iff.1 (by omega)
    rfl
  | succ n ih =>
    intro s h
    cases s with
    | nil => rfl
    | cons c r =>
      by_cases hw : isW c = true
      · rw [bare_white hw]; exact hw
      · have hw' : isW c = false := by simpa using hw
        by_cases hc : c = 92
        · have hp := unesc_pos (r := r) hc
          rw [bare_esc hw' hc]
          simp only
          rw [← List.drop_drop]
          exact ih _ (by simp at h hp ⊢; omega)
        · rw [bare_lit hw' hc]
          simp only [List.drop_succ_cons]
          exact ih r (by simp at h; omega)
theorem ret2_si {s s' : Bs} {a b : Int} (h : s = s') (h' : a = b) : Ending.returned (.tuple #[.string ⟨s.toArray⟩, .int .i64 a]) = .returned (.tuple #[.string ⟨s'.toArray⟩, .int .i64 b]) := by rw [h, h']
end Go.Proofs.YteojlmpipfajoaaGreatDoor
namespace Go.Proofs.YteojlmpipfajoaaGreatDoor
set_option linter.unusedVariables false
set_option linter.unusedSimpArgs false
open Go.RowKit

theorem atEnd_cases (s : Bs) (n : Nat) : (∃ h : n < s.length, isW s[n] = true ∧ atEnd (s.drop n) = true) ∨ (∃ h : n < s.length, isW s[n] = false ∧ atEnd (s.drop n) = false) ∨ (s.length ≤ n ∧ atEnd (s.drop n) = true) := by
  by_cases h : n < s.length
  · have hcons : s.drop n = s[n] :: s.drop (n + 1) := List.drop_eq_getElem_cons h
    rw [hcons]
    rcases Bool.eq_false_or_eq_true (isW s[n]) with hw | hw
    · exact .inl ⟨h, by first | rfl | exact hw, by show isW s[n] = true; exact hw⟩
    · exact .inr (.inl ⟨h, by first | rfl | exact hw, by show isW s[n] = false; exact hw⟩)
  · rw [List.drop_eq_nil_of_le (by omega)]
    exact .inr (.inr ⟨by omega, rfl⟩)
/-- How far the closing quote is, i bytes being read behind the first one. -/
def quoN (s : Bs) (a j : Nat) : Prop := (quo (s.drop (a + 1))).map (·.2) = (quo (s.drop (a + 1 + j))).map (fun q => j + q.2)
end Go.Proofs.YteojlmpipfajoaaGreatDoor
namespace Go.Proofs.YteojlmpipfajoaaGreatDoor
set_option linter.unusedVariables false
set_option linter.unusedSimpArgs false
open Go.RowKit

/-- What is left of the list: an element is read there, or it is wrong. -/
theorem relm_some {s : Bs} {a : Nat} (ha : a < s.length) (hw : isW s[a] = false) : (relm s a = ([], -1) ∧ splitL (s.drop a) = none) ∨ ∃ t k, 1 ≤ k ∧ a + k ≤ s.length ∧ relm s a = (t, ((a + k : Nat) : Int)) ∧ splitL (s.drop a) = (splitL (s.drop (a + k))).map (t :: ·) := by
  have hcons : s.drop a = s[a] :: s.drop (a + 1) := List.drop_eq_getElem_cons ha
  have hsp : splitL (s.drop a) = (elemC (s.drop a)).bind fun q => if atEnd ((s.drop a).drop q.2) = true then (splitL ((s.drop a).drop q.2)).map (q.1 :: ·) else none := by
    rw [hcons, splitL_elem hw]
  unfold relm
  cases he : elemC (s.drop a) with
  | none => rw [he] at hsp; exact .inl ⟨rfl, hsp⟩
  | some q =>
    obtain ⟨t, k⟩ := q
    rw [he, Option.bind_some] at hsp
    simp only [List.drop_drop] at hsp
    simp only
    have hk1 := elem_le he
    rw [List.length_drop] at hk1
    have hk2 : 1 ≤ k := by rw [hcons] at he; exact elem_pos hw he
    by_cases hE : atEnd (s.drop (a + k)) = true
    · rw [if_pos hE] at hsp ⊢
      exact .inr ⟨t, k, hk2, by omega, by push_cast; rfl, hsp⟩
    · rw [if_neg hE] at hsp ⊢
      exact .inl ⟨rfl, hsp⟩
theorem split_half : ∀ (n : Nat) (s : Bs), s.length ≤ n → ∀ l, splitL s = some l → 2 * l.length ≤ s.length + 1 ∧ (atEnd s = true → 2 * l.length ≤ s.length) := by
  intro n
  induction n with
  | zero =>
    intro s h l hl
    obtain rfl : s = [] := List.length_eq_zero_iff.1 (by omega)
    rw [splitL_nil] at hl; cases hl; simp
  | succ n ih =>
    intro s h l hl
    cases s with
    | nil => rw [splitL_nil] at hl; cases hl; simp
    | cons c r =>
      simp only [List.length_cons] at h ⊢
      by_cases hw : isW c = true
      · rw [splitL_white hw] at hl
        have := (ih r (by omega) l hl).1
        exact ⟨by omega, fun _ => by omega⟩
      · have hw' : isW c = false := by simpa using hw
        have hne : atEnd (c :: r) = false := hw'
        rw [splitL_elem hw'] at hl
        cases he : elemC (c :: r) with
        | none => rw [he] at hl; cases hl
        | some q =>
          have h1 := elem_le (t := q.1) (k := q.2) he
          have h2 := elem_pos hw' (t := q.1) (k := q.2) he
          simp only [List.length_cons] at h1
          rw [he, Option.bind_some] at hl
          split at hl
          · rename_i hE
            cases hm : splitL ((c :: r).drop q.2) with
            | none => rw [hm] at hl; cases hl
            | some m =>
              rw [hm] at hl; cases hl
              have := (ih _ (by simp; omega) m hm).2 hE
              simp only [List.length_drop, List.length_cons] at this ⊢
              exact ⟨by omega, fun h => by rw [hne] at h; cases h⟩
          · cases hl
theorem owns_slice {w : World} {base : Nat} {e : TypeId} {size n : Nat} {v : Value} {xs : List Value} (h : w.ownsRow base e size v n xs) : ∃ ao cap, v = .slice ao n cap := by
  rcases h.2 with ⟨rfl, rfl⟩ | ⟨g, cap, cur, rfl, _⟩
  · exact ⟨_, _, rfl⟩
  · exact ⟨_, _, rfl⟩
theorem infoStr : (Tryz.prog.info? 9).map (fun i => (i.zero, i.size, i.bytes)) = some (some (.string ⟨#[]⟩), 1, 16) := by kernel_rfl
/-- What 'Split' of the reference gives. -/
def RSpl (w : World) (s : Bs) (v : Value) (e : Int) (w' : World) : Prop := Below w.heap.size w w' ∧ ((splitL s = none ∧ e = 2 ∧ v = .slice none 0 0) ∨ ∃ l, splitL s = some l ∧ e = 0 ∧ w'.ownsRow w.heap.size 9 1 v l.length (l.map sv))
end Go.Proofs.YteojlmpipfajoaaGreatDoor
