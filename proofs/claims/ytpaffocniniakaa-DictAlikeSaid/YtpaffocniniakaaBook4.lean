/- read. -/
import Derived.Test.YtpaffocniniakaaBook3
namespace Go.Proofs.Ytpaffocniniakaa
set_option linter.unusedVariables false
set_option linter.unusedSimpArgs false
open Go.RowKit Go.MapKept Go.WideMaps

theorem split_count : ∀ (n : Nat) (s : Bs), s.length ≤ n → ∀ l, splitL s = some l → 2 * l.length ≤ s.length + 1 := by
  intro n
  induction n with
  | zero =>
    intro s h l hl
    obtain rfl : s = [] := List.length_eq_zero_iff.1 (by omega)
    rw [splitL_nil] at hl; cases hl; simp
  | succ n ih =>
    intro s h l hl
    cases s with
    | nil => rw [splitL_nil] at hl; cases hl; simp
    | cons c r =>
      simp only [List.length_cons] at h ⊢
      by_cases hw : isW c = true
      · rw [splitL_white hw] at hl
        have := ih r (by omega) l hl
        omega
      · have hw' : isW c = false := by simpa using hw
        rw [splitL_elem hw'] at hl
        cases he : elemC (c :: r) with
        | none => rw [he] at hl; cases hl
        | some q =>
          have h1 := elem_le (t := q.1) (k := q.2) he
          have h2 := elem_pos hw' (t := q.1) (k := q.2) he
          rw [he, Option.bind_some] at hl
          simp only [List.length_cons] at h1
          split at hl
          · rename_i hae
            cases hs : splitL ((c :: r).drop q.2) with
            | none => rw [hs] at hl; cases hl
            | some m =>
              rw [hs] at hl; cases hl
              have hdl : ((c :: r).drop q.2).length = r.length + 1 - q.2 := by simp
              cases hd : (c :: r).drop q.2 with
              | nil => rw [hd, splitL_nil] at hs; cases hs; simp
              | cons d t =>
                rw [hd] at hs hae hdl
                rw [splitL_white hae] at hs
                simp only [List.length_cons] at hdl
                have := ih t (by omega) m hs
                simp only [List.length_cons]; omega
          · cases hl
theorem split_few {s : Bs} (h : s.length ≤ 19999) {l : List Bs} (hl : splitL s = some l) : l.length ≤ 10000 := by
  have := split_count s.length s (Nat.le_refl _) l hl
  omega
theorem split_short {s : Bs} (h : s.length ≤ 19999) {l : List Bs} (hl : splitL s = some l) : ∀ x ∈ l, x.length ≤ 1000000 := fun x hx => by
  have h1 := split_wt s.length s (Nat.le_refl _) l hl
  have h2 := wt_mem hx
  omega
/-- What 'read' gives. -/
def ReadRes (s : Bs) (w : World) (e : Ending) (w' : World) : Prop := Below w.heap.size w w' ∧
  ((readC s = none ∧ e = .returned (.tuple #[.pointer none, .int .i64 11])) ∨ ∃ b F ps, readC s = some ps ∧ e = .returned (.tuple #[.pointer (some ⟨b, 0, none⟩), .int .i64 0]) ∧ Bk w' b F ps ∧ ∀ d ∈ F, w.heap.size ≤ d)
set_option maxRecDepth 100000 in
set_option maxHeartbeats 800000 in
theorem read_any (s : Bs) (hs : s.length ≤ 19999) (w : World) : Calls Try.prog 29 #[.string ⟨s.toArray⟩] w (ReadRes s w) := by
  have SP := Split_any s (by omega) w
  cases hl : splitL s with
  | none =>
    have HR : Hid (readC s = none) := by show _ = _; unfold readC; rw [hl]; rfl
    have SP2 : Hid (Calls Try.prog 56 #[.string ⟨s.toArray⟩] w fun e w' => Below w.heap.size w w' ∧ ∃ i : Int, e = .returned (.tuple #[.slice none 0 0, .int .i64 i, .int .i64 2])) := SP.mono fun e w' ⟨h1, h2⟩ => by
      refine ⟨h1, ?_⟩
      rcases h2 with ⟨_, h⟩ | ⟨l, h, _⟩ | ⟨l, h, _⟩
      · exact h
      · rw [hl] at h; cases h
      · rw [hl] at h; cases h
    clear SP hl
    go_enter Try.func29, Try.ntmps29
    go_wp2_with (go_at_call 56; refine SP2.out.mono ?_; rintro e w1 ⟨hb1, i, rfl⟩; skip)
    go_ret2
    exact ⟨hb1, .inl ⟨HR.out, rfl⟩⟩
  | some l =>
    have hfew := split_few hs hl
    have hshort := split_short hs hl
    have SP2 : Hid (Calls Try.prog 56 #[.string ⟨s.toArray⟩] w fun e w' => Below w.heap.size w w' ∧ ∃ o c, e = .returned (.tuple #[.slice o l.length c, .int .i64 0, .int .i64 0]) ∧ TxtRow w' (.slice o l.length c) l) := SP.mono fun e w' ⟨h1, h2⟩ => by
      refine ⟨h1, ?_⟩
      rcases h2 with ⟨h, _⟩ | ⟨l', h, h', _⟩ | ⟨l', h, _, v, he, hr⟩
      · rw [hl] at h; cases h
      · rw [hl] at h; cases h; omega
      · rw [hl] at h; cases h
        have ht := TxtRow.of_owns hr
        obtain ⟨o, c, rfl, _⟩ := id ht
        exact ⟨o, c, he, ht⟩
    clear SP
    by_cases hp : l.length % 2 = 0
    · have HR : Hid (readC s = some (addP [] (pairsOf l))) := by show _ = _; unfold readC; rw [hl, Option.bind_some, if_pos hp]
      have OF : Hid (∀ W v, TxtRow W v l → Calls Try.prog 39 #[v] W fun e w' => ∃ b F, e = .returned (.pointer (some ⟨b, 0, none⟩)) ∧ Bk w' b F (addP [] (pairsOf l)) ∧ Below W.heap.size W w' ∧ ∀ d ∈ F, W.heap.size ≤ d) := fun W v hr => of_any v l W hr (by omega) hshort
      have t1 : ((l.length : Int) % 2) = 0 := by omega
      clear hl hshort hp
      go_enter Try.func29, Try.ntmps29
      go_wp2_with (first | (go_at_call 56; refine SP2.out.mono ?_; rintro e w1 ⟨hb1, o, c, rfl, ht⟩; have H1 := Lib.hid (And.intro hb1 ht); clear hb1 ht) | (go_at_call 39; refine (OF.out _ _ H1.out.2).mono ?_; rintro e w2 ⟨b, F, rfl, hb, hB, hF⟩; have H2 := Lib.hid (And.intro hb (And.intro hB hF)); clear hb hB hF))
      go_ret2
      have hs1 := H1.out.1.size
      exact ⟨H1.out.1.trans (H2.out.2.1.mono hs1), .inr ⟨b, F, _, HR.out, rfl, H2.out.1, fun d hd => Nat.le_trans hs1 (H2.out.2.2 d hd)⟩⟩
    · have HR : Hid (readC s = none) := by show _ = _; unfold readC; rw [hl, Option.bind_some, if_neg hp]
      have t1 : ((l.length : Int) % 2) = 1 := by omega
      clear hl hshort hp
      go_enter Try.func29, Try.ntmps29
      go_wp2_with (go_at_call 56; refine SP2.out.mono ?_; rintro e w1 ⟨hb1, o, c, rfl, ht⟩; have H1 := Lib.hid (And.intro hb1 ht); clear hb1 ht)
      go_ret2
      exact ⟨H1.out.1, .inl ⟨HR.out, rfl⟩⟩
end Go.Proofs.Ytpaffocniniakaa
