/- NamesPaths: the reference: Absolute, of, cut, Tail. -/
import Derived.Test.YtjgdfgpnmmkjfaaGreatDoorNWalk4
namespace Go.Proofs.YtjgdfgpnmmkjfaaGreatDoor
set_option linter.unusedVariables false
set_option linter.unusedSimpArgs false
open Go.RowKit

theorem rAbsolute_any (s : Bs) (hs : s.length ≤ 1000000) (w : World) : Calls Tryz.prog 79 #[.string ⟨s.toArray⟩] w fun e w' => e = .returned (.bool (absN s)) ∧ w = w' := by
  match s with
  | [] =>
    go_enter Tryz.func79, Tryz.ntmps79
    go_wp2
    go_ret
    exact ⟨rfl, rfl⟩
  | [c] =>
    have h : absN [c] = false := by
      unfold absN
      split
      · rename_i e; simp at e
      · rfl
    rw [h]
    go_enter Tryz.func79, Tryz.ntmps79
    go_wp2
    go_ret
    exact ⟨rfl, rfl⟩
  | c :: d :: r =>
    have hb : absN (c :: d :: r) = ([c, d] == ([58, 58] : Bs)) := by
      by_cases hc : c = 58
      · by_cases hd : d = 58
        · subst hc hd; rfl
        · rw [abs_not_head (.inr hd)]; symm; rw [beq_eq_false_iff_ne]; intro e; cases e; exact hd rfl
      · rw [abs_not_head (.inl hc)]; symm; rw [beq_eq_false_iff_ne]; intro e; cases e; exact hc rfl
    rw [hb]
    have hrl : r.length ≤ 1000000 := by simp at hs; omega
    have t1 : decide ((1 : Int) < ((c :: d :: r).length : Int)) = true := by rw [decide_eq_true_eq]; simp only [List.length_cons]; omega
    clear hb
    go_enter Tryz.func79, Tryz.ntmps79
    go_wp2
    all_goals
      go_ret
      refine ⟨?_, rfl⟩
      first | rfl | (simp; done) | skip
theorem col_in {s : Bs} {b k : Nat} (h : k < col (s.drop b)) : ∃ h : b + k < s.length, s[b + k] = 58 := by
  obtain ⟨q1, _⟩ := col_take (s.drop b)
  have hl := col_le (s.drop b)
  have hl2 := hl
  rw [List.length_drop] at hl2
  have hm : ((s.drop b).take (col (s.drop b)))[k]? = some ((s.drop b)[k]'(by omega)) := by
    rw [List.getElem?_take, if_pos h, List.getElem?_eq_getElem (by omega)]
  have := q1 _ (List.mem_of_getElem? hm)
  rw [List.getElem_drop] at this
  exact ⟨by omega, this⟩
theorem col_out {s : Bs} {b : Nat} (h : b + col (s.drop b) < s.length) : s[b + col (s.drop b)] ≠ 58 := by
  have h5 := (col_take (s.drop b)).2
  rw [List.drop_drop, List.head?_drop, List.getElem?_eq_getElem h] at h5
  exact fun e => h5 (by rw [e])
def rtoI (o : Option (Nat × Nat)) : Int := match o with | none => -1 | some p => (p.2 : Int)
end Go.Proofs.YtjgdfgpnmmkjfaaGreatDoor
