/- of, read. -/
import Derived.Test.YtpaffocniniakaaBook2
import Derived.Deep.RegionWith
namespace Go.Proofs.Ytpaffocniniakaa
set_option linter.unusedVariables false
set_option linter.unusedSimpArgs false
open Go.RowKit Go.MapKept Go.WideMaps

theorem pairs_take : ∀ (j : Nat) (ss : List Bs) (h : 2 * j + 1 < ss.length), pairsOf (ss.take (2 * (j + 1))) = pairsOf (ss.take (2 * j)) ++ [(ss[2 * j], ss[2 * j + 1])] := by
  intro j
  induction j with
  | zero =>
    intro ss h
    match ss, h with
    | a :: b :: r, _ => simp [pairsOf]
  | succ j ih =>
    intro ss h
    match ss, h with
    | a :: b :: r, h =>
      have hr : 2 * j + 1 < r.length := by simp at h; omega
      have := ih r hr
      have e1 : 2 * (j + 1 + 1) = 2 * (j + 1) + 1 + 1 := by omega
      have e2 : 2 * (j + 1) = 2 * j + 1 + 1 := by omega
      simp only [e1, List.take_succ_cons, pairsOf, this]
      simp only [e2, List.take_succ_cons, pairsOf, List.cons_append, List.getElem_cons_succ]
theorem pairs_end : ∀ (j : Nat) (ss : List Bs), ss.length ≤ 2 * j + 1 → pairsOf (ss.take (2 * j)) = pairsOf ss := by
  intro j
  induction j with
  | zero =>
    intro ss h
    match ss, h with
    | [], _ => rfl
    | [a], _ => rfl
  | succ j ih =>
    intro ss h
    match ss, h with
    | [], _ => rfl
    | [a], _ => rw [List.take_of_length_le (by simp <;> omega)]
    | a :: b :: r, h =>
      have e2 : 2 * (j + 1) = 2 * j + 1 + 1 := by omega
      simp only [e2, List.take_succ_cons, pairsOf]
      rw [ih r (by simp at h; omega)]
theorem pairs_len : ∀ (n : Nat) (ss : List Bs), ss.length ≤ n → (pairsOf ss).length ≤ ss.length := by
  intro n
  induction n with
  | zero =>
    intro ss h
    obtain rfl : ss = [] := List.length_eq_zero_iff.1 (by omega)
    simp [pairsOf]
  | succ n ih =>
    intro ss h
    match ss, h with
    | [], _ => simp [pairsOf]
    | [a], _ => simp [pairsOf]
    | a :: b :: r, h =>
      have := ih r (by simp at h; omega)
      simp only [pairsOf, List.length_cons]; omega
theorem add_len (a b : Prs) : (addP a b).length ≤ a.length + b.length := by
  induction b generalizing a with
  | nil => simp [add_nil]
  | cons p b ih =>
    have h1 := ih (setP a p.1 p.2)
    have h2 := (set_len a p.1 p.2).2
    rw [add_cons, List.length_cons]; omega
theorem TxtRow.at_ {w : World} {o : Option Addr} {n c : Nat} {ss : List Bs} (h : TxtRow w (.slice o n c) ss) : n = ss.length ∧ ss.length ≤ c ∧ c ≤ maxLen ∧ ∀ i (h : i < ss.length), ∃ b off, o = some ⟨b, off, none⟩ ∧ b < w.heap.size ∧ w.cell? ⟨b, off + i, none⟩ = some (sv ss[i]) := by
  obtain ⟨o', c', h1, h2, h3, h4⟩ := h
  cases h1
  exact ⟨rfl, h2, h3, h4⟩
/-- What holds at the loop's head of 'of'. -/
def OfR (w : World) (b : Nat) (ss : List Bs) (v4 : Value) (wr : World) : Prop := ∃ (j : Nat) (F : List Nat), 2 * j ≤ ss.length + 1 ∧ v4 = .int .i64 ((2 * j : Nat) : Int) ∧ Bk wr b F (addP [] (pairsOf (ss.take (2 * j)))) ∧ Below w.heap.size w wr ∧ ∀ d ∈ F, w.heap.size ≤ d
theorem of_step {w wr w2 : World} {b j n2 : Nat} {ss : List Bs} {F' F2 : List Nat} {k v : Bs} (hb : Bk wr b F' (addP [] (pairsOf (ss.take (2 * j))))) (hB : Below w.heap.size w wr) (hF : ∀ d ∈ F', w.heap.size ≤ d)
    (hp : pairsOf (ss.take (2 * (j + 1))) = pairsOf (ss.take (2 * j)) ++ [(k, v)]) (hn2 : n2 = 2 * j) (hlt : 2 * j + 1 < ss.length) (hk : Kp F' wr w2) (hb2 : Bk w2 b F2 (setP (addP [] (pairsOf (ss.take (2 * j)))) k v)) (hf2 : ∀ d ∈ F2, d ∈ F' ∨ wr.heap.size ≤ d) :
    OfR w b ss (.int .i64 ((n2 : Int) + 2)) w2 := by
  have hs := hB.size
  refine ⟨j + 1, F2, by omega, by rw [hn2]; congr 1, ?_, hB.trans (hk.below hs hF), fun d hd => ?_⟩
  · rw [hp, add_snoc]; exact hb2
  · rcases hf2 d hd with h | h
    · exact hF d h
    · omega
set_option maxRecDepth 100000 in
set_option maxHeartbeats 1600000 in
theorem of_any (v : Value) (ss : List Bs) (w : World) (hr : TxtRow w v ss) (hn : ss.length ≤ 1000000) (hl : ∀ x ∈ ss, x.length ≤ 1000000) :
    Calls Try.prog 39 #[v] w fun e w' => ∃ b F, e = .returned (.pointer (some ⟨b, 0, none⟩)) ∧ Bk w' b F (addP [] (pairsOf ss)) ∧ Below w.heap.size w w' ∧ ∀ d ∈ F, w.heap.size ≤ d := by
  obtain ⟨o, c, rfl, hlc, hcm, hcells⟩ := hr
  unfold maxLen at hcm
  have HC := Lib.hid hcells
  have HL := Lib.hid hl
  clear hcells hl
  go_enter Try.func39, Try.ntmps39
  go_wp2_with (go_at_call 34; refine (none_any _).mono ?_; rintro e w1 ⟨b, F, rfl, hb, hB, hF⟩; have H := Lib.hid (And.intro hb (And.intro hB hF)); clear hb hB hF)
  go_loopw [4] (fun v4 wr => OfR w b ss v4 wr) (fun v4 _ => ss.length + 2 - (intOf v4).toNat)
  case atStart => exact ⟨0, F, by omega, rfl, H.out.1, H.out.2.1, H.out.2.2⟩
  case round =>
    obtain ⟨j, F', hj, rfl, hb, hB, hF⟩ := hrel
    clear H
    by_cases hlt : 2 * j + 1 < ss.length
    · obtain ⟨cb, off, rfl, hbl, hc1⟩ := HC.out (2 * j) (by omega)
      obtain ⟨cb', off', he, _, hc2⟩ := HC.out (2 * j + 1) hlt
      cases he
      have hd1 := (hB.cell (p := ⟨cb, off + 2 * j, none⟩) hbl).trans hc1
      have hd2 := (hB.cell (p := ⟨cb, off + (2 * j + 1), none⟩) hbl).trans hc2
      have hp := pairs_take j ss hlt
      have hlk := HL.out _ (List.getElem_mem (show 2 * j < ss.length by omega))
      have hln := pairs_len _ (ss.take (2 * j)) (Nat.le_refl _)
      have hln2 := add_len [] (pairsOf (ss.take (2 * j)))
      have htl : (ss.take (2 * j)).length ≤ ss.length := by simp; omega
      generalize hk : ss[2 * j] = k at *
      generalize hv : ss[2 * j + 1] = v at *
      have HP := Lib.hid hp
      obtain ⟨n2, hn2⟩ : ∃ n : Nat, n = 2 * j := ⟨_, rfl⟩
      have HN2 := Lib.hid hn2
      have SET : Hid (∀ W, Bk W b F' (addP [] (pairsOf (ss.take (2 * j)))) → Calls Try.prog 35 #[.pointer (some ⟨b, 0, none⟩), .string ⟨k.toArray⟩, .string ⟨v.toArray⟩] W fun e w' => e = .returned (.tuple #[]) ∧ SetRes W b F' (setP (addP [] (pairsOf (ss.take (2 * j)))) k v) w') := fun W h => set_any h k v (by unfold maxLen; omega) (by simp at hln2; omega)
      have H := Lib.hid (And.intro hb (And.intro hB hF))
      rw [← hn2] at hd1 hd2 ⊢
      have i0 : (n2 : Int) + 1 < (ss.length : Int) := by omega
      have i1 : (n2 : Int) < (c : Int) := by omega
      have i2 : (n2 : Int) + 1 < (c : Int) := by omega
      have i4 : ((n2 : Int) + 1).toNat = n2 + 1 := by omega
      have i5 : (n2 : Int) < (ss.length : Int) := by omega
      have i6 : (0 : Int) ≤ (n2 : Int) + 1 := by omega
      have i7 : n2 < ss.length := by omega
      have i8 : n2 + 1 < ss.length := by omega
      have i9 : IntKind.i64.wrap ((n2 : Int) + 1) = (n2 : Int) + 1 := IntWalk.i64_in _ (by omega)
      clear hp hb hB hF hc1 hc2 hk hv hln hln2 htl hn2
      go_wp2
      go_region_with (go_at_call 35; refine (SET.out _ (H.out.1.keep ((Kp.refl [] _).drew) (by simp))).mono ?_; rintro e w2 ⟨rfl, F2, hb2, hk2, hf2, _⟩; have H2 := Lib.hid (And.intro hb2 (And.intro hk2 hf2)); clear hb2 hk2 hf2)
      all_goals
        go_wp2
        go_roundw
        case rel => exact of_step H.out.1 H.out.2.1 H.out.2.2 HP.out HN2.out hlt (((Kp.refl F' _).drew).from H2.out.2.1) H2.out.1 H2.out.2.2
        case measure => simp [intOf]; omega
    · have H := Lib.hid (And.intro hb (And.intro hB hF))
      have hp := pairs_end j ss (by omega)
      rw [hp] at H
      obtain ⟨n2, hn2⟩ : ∃ n : Nat, n = 2 * j := ⟨_, rfl⟩
      rw [← hn2]
      have i0 : ¬ (n2 : Int) + 1 < (ss.length : Int) := by omega
      have i3 : (n2 : Int) + 1 ≤ 9223372036854775807 := by omega
      clear hb hB hF hp hn2
      go_wp2
      go_ret
      exact ⟨b, rfl, F', H.out.1, H.out.2.1, H.out.2.2⟩
end Go.Proofs.Ytpaffocniniakaa
