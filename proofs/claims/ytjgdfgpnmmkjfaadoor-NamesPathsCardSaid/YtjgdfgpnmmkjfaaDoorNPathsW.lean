/- The walk of 'NamesPaths'. -/
import Derived.Test.YtjgdfgpnmmkjfaaDoorNAwake
namespace Go.Proofs.YtjgdfgpnmmkjfaaDoor
set_option linter.unusedVariables false
set_option linter.unusedSimpArgs false
open Go.RowKit Go.MapKept

theorem paths_long (space path : Bs) (h1 : space.length ≤ 140737488355328) (h2 : path.length ≤ 140737488355328) (hl : 400 < space.length + path.length) (w : World) :
    Calls Tryd.prog 3 #[.string ⟨space.toArray⟩, .string ⟨path.toArray⟩] w fun e w' => e = .returned (.bool true) ∧ Below w.heap.size w w' := by
  have t1 : IntKind.i64.wrap ((space.length : Int) + (path.length : Int)) = (space.length : Int) + (path.length : Int) := IntWalk.i64_in _ (by omega)
  have t2 : decide ((400 : Int) < (space.length : Int) + (path.length : Int)) = true := by rw [decide_eq_true_eq]; omega
  have AW := Lib.hid (fun W => awake_any W)
  clear hl
  go_enter Tryd.func3, Tryd.ntmps3
  go_wp2_with (go_at_call 4; refine (AW.out _).mono ?_; rintro e w1 ⟨rfl, hB⟩)
  go_ret
  exact ⟨rfl, hB⟩
def TP (W : World) (ps : List Bs) (e : Ending) (w' : World) : Prop := ∃ o c, e = .returned (.slice o ps.length c) ∧ TxtRow w' (.slice o ps.length c) ps ∧ Below W.heap.size W w'
theorem tp_of {W : World} {s : Bs} {e : Ending} {w' : World} (h : PartsR W s e w') : TP W (partsN s) e w' := by
  obtain ⟨r, he, ho, hb⟩ := h
  obtain ⟨o, c, rfl⟩ := owns_slice ho
  exact ⟨o, c, he, TxtRow.of_owns ho, hb⟩
theorem head_len (s : Bs) (h : s.length ≤ 400) : (headN s).length ≤ 10000 := by
  unfold headN
  cases hc : cutN s with
  | none => show (canonN rootN []).length ≤ 10000; decide
  | some p =>
    obtain ⟨f, t⟩ := p
    have := canon_len3 (s.take f)
    have h2 : (s.take f).length ≤ 400 := by simp; omega
    simp only
    omega
theorem tail_len (s : Bs) : (tailN s).length ≤ s.length := by
  unfold tailN
  cases hc : cutN s with
  | none => exact Nat.le_refl _
  | some p => obtain ⟨f, t⟩ := p; simp
set_option maxRecDepth 100000 in
set_option maxHeartbeats 3200000 in
theorem paths_short (space path : Bs) (hl : space.length + path.length ≤ 400) (w : World) :
    Calls Tryd.prog 3 #[.string ⟨space.toArray⟩, .string ⟨path.toArray⟩] w fun e w' => e = .returned (.bool true) ∧ Below w.heap.size w w' := by
  have t1 : IntKind.i64.wrap ((space.length : Int) + (path.length : Int)) = (space.length : Int) + (path.length : Int) := IntWalk.i64_in _ (by omega)
  have t2 : decide ((400 : Int) < (space.length : Int) + (path.length : Int)) = false := by rw [decide_eq_false_iff_not]; omega
  have AW := Lib.hid (fun W => awake_any W)
  have hcl : (canonN space path).length ≤ 100000 := by
    unfold canonN
    have e1 := can_len (partsN path)
    have e2 := can_len (partsN space ++ partsN path)
    have e3 := parts_w path
    have e4 := parts_w space
    have e5 := wN_app (partsN space) (partsN path)
    split <;> omega
  have PA : Hid (∀ W, Calls Tryd.prog 7 #[.string ⟨path.toArray⟩] W (TP W (partsN path))) := fun W => (Parts_any path (by omega) W).mono fun e w' h => tp_of h
  have PR : Hid (∀ W, Calls Tryd.prog 8 #[.string ⟨path.toArray⟩] W (TP W (partsN path))) := fun W => (rParts_any path (by omega) W).mono fun e w' h => tp_of h
  have SA : Hid (∀ W va vb, TxtRow W va (partsN path) → TxtRow W vb (partsN path) → Calls Tryd.prog 6 #[va, vb] W fun e w' => e = .returned (.bool true) ∧ Below W.heap.size W w') := fun W va vb ha hb => same_yes W ha hb
  have AB : Hid (∀ W, Calls Tryd.prog 9 #[.string ⟨path.toArray⟩] W fun e w' => e = .returned (.bool (absN path)) ∧ W = w') := fun W => Absolute_any path W
  have AR : Hid (∀ W, Calls Tryd.prog 10 #[.string ⟨path.toArray⟩] W fun e w' => e = .returned (.bool (absN path)) ∧ W = w') := fun W => rAbsolute_any path (by omega) W
  have CA : Hid (∀ W, Calls Tryd.prog 5 #[.string ⟨space.toArray⟩, .string ⟨path.toArray⟩] W fun e w' => e = .returned (.string ⟨(canonN space path).toArray⟩) ∧ Below W.heap.size W w') := fun W => Canonical_any space path (by omega) (by omega) W
  have CR : Hid (∀ W, Calls Tryd.prog 11 #[.string ⟨space.toArray⟩, .string ⟨path.toArray⟩] W fun e w' => e = .returned (.string ⟨(canonN space path).toArray⟩) ∧ Below W.heap.size W w') := fun W => rCanonical_any space path (by omega) (by omega) W
  have CC1 : Hid (∀ W, Calls Tryd.prog 5 #[.string ⟨#[58, 58]⟩, .string ⟨(canonN space path).toArray⟩] W fun e w' => e = .returned (.string ⟨(canonN space path).toArray⟩) ∧ Below W.heap.size W w') := fun W => by
    have := Canonical_any rootN (canonN space path) (by decide) hcl W
    rw [canon_self] at this
    exact this
  have CC2 : Hid (∀ W, Calls Tryd.prog 5 #[.string ⟨space.toArray⟩, .string ⟨(canonN space path).toArray⟩] W fun e w' => e = .returned (.string ⟨(canonN space path).toArray⟩) ∧ Below W.heap.size W w') := fun W => by
    have := Canonical_any space (canonN space path) (by omega) hcl W
    rw [canon_self] at this
    exact this
  have HE : Hid (∀ W, Calls Tryd.prog 12 #[.string ⟨path.toArray⟩] W fun e w' => e = .returned (.string ⟨(headN path).toArray⟩) ∧ Below W.heap.size W w') := fun W => Head_any path (by omega) W
  have HR : Hid (∀ W, Calls Tryd.prog 13 #[.string ⟨path.toArray⟩] W fun e w' => e = .returned (.string ⟨(headN path).toArray⟩) ∧ Below W.heap.size W w') := fun W => rHead_any path (by omega) W
  have TA : Hid (∀ W, Calls Tryd.prog 14 #[.string ⟨path.toArray⟩] W fun e w' => e = .returned (.string ⟨(tailN path).toArray⟩) ∧ W = w') := fun W => Tail_any path (by omega) W
  have TR : Hid (∀ W, Calls Tryd.prog 15 #[.string ⟨path.toArray⟩] W fun e w' => e = .returned (.string ⟨(tailN path).toArray⟩) ∧ W = w') := fun W => rTail_any path (by omega) W
  have hhl := head_len path (by omega)
  have htl := tail_len path
  have HT : Hid (tailN path ≠ [] → ∀ W, Calls Tryd.prog 5 #[.string ⟨(headN path).toArray⟩, .string ⟨(tailN path).toArray⟩] W fun e w' => e = .returned (.string ⟨(canonN rootN path).toArray⟩) ∧ Below W.heap.size W w') := fun hne W => by
    have := Canonical_any (headN path) (tailN path) (by omega) (by omega) W
    rw [head_tail path hne] at this
    exact this
  have CO : Hid (∀ W, Calls Tryd.prog 5 #[.string ⟨#[58, 58]⟩, .string ⟨path.toArray⟩] W fun e w' => e = .returned (.string ⟨(canonN rootN path).toArray⟩) ∧ Below W.heap.size W w') := fun W => Canonical_any rootN path (by decide) (by omega) W
  generalize canonN rootN path = g at *
  generalize canonN space path = c at *
  generalize headN path = hd at *
  generalize partsN path = ps at *
  generalize absN path = ab at *
  have B0 : Hid (Below w.heap.size w w) := Below.refl _ w
  clear hl hcl hhl htl
  by_cases hte : tailN path = []
  · rw [hte] at TA TR
    clear HT hte
    go_enter Tryd.func3, Tryd.ntmps3
    go_wp2_with (first | (go_at_call 4; refine (AW.out _).mono ?_; rintro e w1 ⟨rfl, hB⟩; replace B0 : Hid (Below w.heap.size w w1) := B0.out.trans (hB.mono B0.out.size); clear hB) | (go_at_call 5; (with_reducible first | refine (CA.out _).mono ?_ | refine (CC1.out _).mono ?_ | refine (CC2.out _).mono ?_ | refine (CO.out _).mono ?_); rintro e w1 ⟨rfl, hB⟩; replace B0 : Hid (Below w.heap.size w w1) := B0.out.trans (hB.mono B0.out.size); clear hB) | (go_at_call 11; refine (CR.out _).mono ?_; rintro e w1 ⟨rfl, hB⟩; replace B0 : Hid (Below w.heap.size w w1) := B0.out.trans (hB.mono B0.out.size); clear hB) | (go_at_call 12; refine (HE.out _).mono ?_; rintro e w1 ⟨rfl, hB⟩; replace B0 : Hid (Below w.heap.size w w1) := B0.out.trans (hB.mono B0.out.size); clear hB) | (go_at_call 13; refine (HR.out _).mono ?_; rintro e w1 ⟨rfl, hB⟩; replace B0 : Hid (Below w.heap.size w w1) := B0.out.trans (hB.mono B0.out.size); clear hB) | (go_at_call 14; refine (TA.out _).mono ?_; rintro e w1 ⟨rfl, rfl⟩) | (go_at_call 15; refine (TR.out _).mono ?_; rintro e w1 ⟨rfl, rfl⟩) | (go_at_call 9; refine (AB.out _).mono ?_; rintro e w1 ⟨rfl, rfl⟩) | (go_at_call 10; refine (AR.out _).mono ?_; rintro e w1 ⟨rfl, rfl⟩) | (go_at_call 7; refine (PA.out _).mono ?_; rintro e w1 ⟨o1, c1, rfl, ht, hB⟩; replace B0 : Hid (Below w.heap.size w w1) := B0.out.trans (hB.mono B0.out.size); have P1 := Lib.hid ht; clear ht; clear hB) | (go_at_call 8; refine (PR.out _).mono ?_; rintro e w1 ⟨o2, c2, rfl, ht, hB⟩; replace B0 : Hid (Below w.heap.size w w1) := B0.out.trans (hB.mono B0.out.size); have P2 := Lib.hid (And.intro (P1.out.below hB) ht); clear ht; clear hB) | (go_at_call 6; refine (SA.out _ _ _ P2.out.1 P2.out.2).mono ?_; rintro e w1 ⟨rfl, hB⟩; replace B0 : Hid (Below w.heap.size w w1) := B0.out.trans (hB.mono B0.out.size); clear hB))
    go_ret
    exact ⟨rfl, B0.out⟩
  · have HT' := Lib.hid (HT.out hte)
    have hne : (⟨(tailN path).toArray⟩ : ByteArray) ≠ ⟨#[]⟩ := fun e => hte (by simpa using e)
    have hne2 : (tailN path == []) = false := beq_eq_false_iff_ne.2 hte
    clear HT hte
    have HT := HT'
    clear HT'
    generalize tailN path = tl at *
    go_enter Tryd.func3, Tryd.ntmps3
    go_wp2_with (first | (go_at_call 4; refine (AW.out _).mono ?_; rintro e w1 ⟨rfl, hB⟩; replace B0 : Hid (Below w.heap.size w w1) := B0.out.trans (hB.mono B0.out.size); clear hB) | (go_at_call 5; (with_reducible first | refine (CA.out _).mono ?_ | refine (CC1.out _).mono ?_ | refine (CC2.out _).mono ?_ | refine (CO.out _).mono ?_ | refine (HT.out _).mono ?_); rintro e w1 ⟨rfl, hB⟩; replace B0 : Hid (Below w.heap.size w w1) := B0.out.trans (hB.mono B0.out.size); clear hB) | (go_at_call 11; refine (CR.out _).mono ?_; rintro e w1 ⟨rfl, hB⟩; replace B0 : Hid (Below w.heap.size w w1) := B0.out.trans (hB.mono B0.out.size); clear hB) | (go_at_call 12; refine (HE.out _).mono ?_; rintro e w1 ⟨rfl, hB⟩; replace B0 : Hid (Below w.heap.size w w1) := B0.out.trans (hB.mono B0.out.size); clear hB) | (go_at_call 13; refine (HR.out _).mono ?_; rintro e w1 ⟨rfl, hB⟩; replace B0 : Hid (Below w.heap.size w w1) := B0.out.trans (hB.mono B0.out.size); clear hB) | (go_at_call 14; refine (TA.out _).mono ?_; rintro e w1 ⟨rfl, rfl⟩) | (go_at_call 15; refine (TR.out _).mono ?_; rintro e w1 ⟨rfl, rfl⟩) | (go_at_call 9; refine (AB.out _).mono ?_; rintro e w1 ⟨rfl, rfl⟩) | (go_at_call 10; refine (AR.out _).mono ?_; rintro e w1 ⟨rfl, rfl⟩) | (go_at_call 7; refine (PA.out _).mono ?_; rintro e w1 ⟨o1, c1, rfl, ht, hB⟩; replace B0 : Hid (Below w.heap.size w w1) := B0.out.trans (hB.mono B0.out.size); have P1 := Lib.hid ht; clear ht; clear hB) | (go_at_call 8; refine (PR.out _).mono ?_; rintro e w1 ⟨o2, c2, rfl, ht, hB⟩; replace B0 : Hid (Below w.heap.size w w1) := B0.out.trans (hB.mono B0.out.size); have P2 := Lib.hid (And.intro (P1.out.below hB) ht); clear ht; clear hB) | (go_at_call 6; refine (SA.out _ _ _ P2.out.1 P2.out.2).mono ?_; rintro e w1 ⟨rfl, hB⟩; replace B0 : Hid (Below w.heap.size w w1) := B0.out.trans (hB.mono B0.out.size); clear hB))
    go_ret
    exact ⟨rfl, B0.out⟩
end Go.Proofs.YtjgdfgpnmmkjfaaDoor
