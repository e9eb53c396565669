/- list.Split: readers, elements. -/
import Derived.Test.YtpaffocniniakaaLSplit
import Derived.Laws.EntriesVeiled
namespace Go.Proofs.Ytpaffocniniakaa
set_option linter.unusedVariables false
set_option linter.unusedSimpArgs false
open Go.RowKit Go.Shelf
attribute [local go_sem] Oper.semAt_some wide_fn

abbrev tabC : Array Value := #[.func (.func 86) #[] #[], .func (.func 87) #[] #[], .func (.func 88) #[] #[]]
theorem tab_new (w : World) : (w.alloc (.cells tabC 90)).cell? ⟨w.heap.size, 0, none⟩ = some (.func (.func 86) #[] #[]) ∧ (w.alloc (.cells tabC 90)).cell? ⟨w.heap.size, 1, none⟩ = some (.func (.func 87) #[] #[]) ∧ (w.alloc (.cells tabC 90)).cell? ⟨w.heap.size, 2, none⟩ = some (.func (.func 88) #[] #[]) := by
  have h := heap_alloc_new w (.cells tabC 90)
  generalize w.alloc (.cells tabC 90) = W at *
  refine ⟨?_, ?_, ?_⟩ <;> (simp only [World.cell?, h]; rfl)
set_option maxHeartbeats 400000 in
theorem readers_any (w : World) :
    Calls Try.prog 77 #[] w fun e w' => e = .returned tabV ∧ w' = w.alloc (.cells tabC 90) := by
  obtain ⟨t0, t1, t2⟩ := tab_new w
  go_enter Try.func77, Try.ntmps77
  go_wp2
  refine bodyPost_ret (v := tabV) ?_ rfl ⟨rfl, rfl⟩
  simp [results, Try.f77, go_sem, t0, t1, t2, tabV]
theorem elements_any (s : Bs) (w : World) :
    Calls Try.prog 64 #[.string ⟨s.toArray⟩] w fun e w' => e = .returned (.func (.func 78) #[] #[.pointer (some ⟨w.heap.size, 0, none⟩), .pointer (some ⟨w.heap.size + 1 + 1, 0, none⟩)]) ∧ w' = ((w.alloc (.cells #[.string ⟨s.toArray⟩] 9)).alloc (.cells tabC 90)).alloc (.cells tabC 90) := by
  go_enter Try.func64, Try.ntmps64
  go_wp2_with (go_at_call 77; refine (readers_any _).mono ?_; rintro e w' ⟨rfl, rfl⟩)
  go_ret
  exact ⟨rfl, rfl⟩

/-- What elements yields, against Split's plain law. -/
theorem elemR_of {c : UInt8} {r : Bs} : (∃ q, elemC (c :: r) = some q ∧ elemR (c :: r) = (q.1, q.2, true)) ∨ (elemC (c :: r) = none ∧ (elemR (c :: r)).2.2 = false) := by
  by_cases h1 : c = 123
  · have e1 : elemC (c :: r) = (clo r 1).map fun k => (r.take k, k + 2) := by simp only [elemC, h1, if_true]
    have e2 : elemR (c :: r) = cloRes (c :: r) := by unfold elemR; rw [if_pos (by rw [h1]; rfl)]
    rw [e1, e2]
    unfold cloRes
    simp only [List.drop_succ_cons, List.drop_zero]
    cases hc : clo r 1 with
    | none => exact .inr ⟨rfl, rfl⟩
    | some k => exact .inl ⟨_, rfl, rfl⟩
  · have n1 : ¬ (c :: r).head? = some 123 := fun h => h1 (Option.some.inj h)
    by_cases h2 : c = 34
    · have e1 : elemC (c :: r) = (quo r).map fun q => (q.1, q.2 + 1) := by simp only [elemC, h1, h2, if_true, if_false]; rfl
      have e2 : elemR (c :: r) = quoRes (c :: r) := by unfold elemR; rw [if_neg n1, if_pos (by rw [h2]; rfl)]
      rw [e1, e2]
      unfold quoRes
      simp only [List.drop_succ_cons, List.drop_zero]
      cases hq : quo r with
      | none => exact .inr ⟨rfl, rfl⟩
      | some q => exact .inl ⟨_, rfl, rfl⟩
    · have n2 : ¬ (c :: r).head? = some 34 := fun h => h2 (Option.some.inj h)
      have e1 : elemC (c :: r) = some (bare (c :: r)) := by simp only [elemC, h1, h2, if_false]
      have e2 : elemR (c :: r) = ((bare (c :: r)).1, (bare (c :: r)).2, true) := by unfold elemR; rw [if_neg n1, if_neg n2]
      rw [e1, e2]
      exact .inl ⟨_, rfl, rfl⟩
theorem els_split : ∀ (n : Nat) (s : Bs) (i : Nat), s.length ≤ n → splitL s = if (els s i).all (·.2.2) = true then some ((els s i).map (·.2.1)) else none := by
  intro n
  induction n with
  | zero =>
    intro s i h
    obtain rfl : s = [] := List.length_eq_zero_iff.1 (by omega)
    rfl
  | succ n ih =>
    intro s i h
    cases s with
    | nil => rfl
    | cons c r =>
      simp only [List.length_cons] at h
      by_cases hw : isW c = true
      · rw [splitL_white hw, els_white hw, ih r (i + 1) (by omega)]
      · have hw' : isW c = false := by simpa using hw
        rw [splitL_elem hw']
        rcases elemR_of (c := c) (r := r) with ⟨q, h1, h2⟩ | ⟨h1, h2⟩
        · have hpos := elem_pos hw' (t := q.1) (k := q.2) h1
          rw [h1, Option.bind_some]
          by_cases ha : atEnd ((c :: r).drop q.2) = true
          · have ho : elemOk (c :: r) = true := by unfold elemOk; rw [h2]; simp [ha]
            rw [if_pos ha, els_right hw' ho, h2]
            simp only [List.all_cons, Bool.true_and, List.map_cons]
            have hd : splitL ((c :: r).drop q.2) = splitL ((c :: r).drop (q.2 + 1)) := by
              rw [← List.drop_drop]
              cases hdr : (c :: r).drop q.2 with
              | nil => rfl
              | cons d t =>
                rw [hdr] at ha
                rw [splitL_white ha]; rfl
            rw [hd, ih ((c :: r).drop (q.2 + 1)) (i + q.2 + 1) (by simp; omega)]
            split <;> rfl
          · have ho : elemOk (c :: r) = false := by unfold elemOk; rw [h2]; simpa using ha
            rw [if_neg ha, els_wrong hw' ho]
            rfl
        · have ho : elemOk (c :: r) = false := by unfold elemOk; rw [h2]; rfl
          rw [h1, els_wrong hw' ho]
          rfl
end Go.Proofs.Ytpaffocniniakaa
