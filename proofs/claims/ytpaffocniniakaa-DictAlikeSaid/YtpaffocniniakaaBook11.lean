/- walk: whether a path leads through dictionaries. -/
import Derived.Test.YtpaffocniniakaaBook10
namespace Go.Proofs.Ytpaffocniniakaa
set_option linter.unusedVariables false
set_option linter.unusedSimpArgs false
open Go.RowKit Go.MapKept Go.WideMaps

theorem split_mem : ∀ (n : Nat) (s : Bs), s.length ≤ n → ∀ l, splitL s = some l → ∀ x ∈ l, x.length ≤ s.length := by
  intro n
  induction n with
  | zero =>
    intro s h l hl
    obtain rfl : s = [] := List.length_eq_zero_iff.1 (by omega)
    rw [splitL_nil] at hl; cases hl; simp
  | succ n ih =>
    intro s h l hl
    cases s with
    | nil => rw [splitL_nil] at hl; cases hl; simp
    | cons c r =>
      simp only [List.length_cons] at h ⊢
      by_cases hw : isW c = true
      · rw [splitL_white hw] at hl
        intro x hx
        have := ih r (by omega) l hl x hx
        omega
      · have hw' : isW c = false := by simpa using hw
        rw [splitL_elem hw'] at hl
        cases he : elemC (c :: r) with
        | none => rw [he] at hl; cases hl
        | some q =>
          have h1 := elem_le (t := q.1) (k := q.2) he
          have h2 := elem_pos hw' (t := q.1) (k := q.2) he
          rw [he, Option.bind_some] at hl
          simp only [List.length_cons] at h1
          split at hl
          · cases hs : splitL ((c :: r).drop q.2) with
            | none => rw [hs] at hl; cases hl
            | some m =>
              rw [hs] at hl; cases hl
              intro x hx
              rcases List.mem_cons.1 hx with rfl | hx
              · omega
              · have := ih _ (by simp; omega) m hs x hx
                simp at this; omega
          · cases hl
theorem mem_setP {a : Prs} {k v : Bs} {p : Bs × Bs} (h : p ∈ setP a k v) : p ∈ a ∨ p = (k, v) := by
  induction a with
  | nil => simp [setP] at h; exact .inr h
  | cons q a ih =>
    rw [setP] at h
    split at h
    · rcases List.mem_cons.1 h with h | h
      · exact .inr h
      · exact .inl (List.mem_cons_of_mem _ h)
    · rcases List.mem_cons.1 h with h | h
      · exact .inl (by simp [h])
      · rcases ih h with h | h
        · exact .inl (List.mem_cons_of_mem _ h)
        · exact .inr h
theorem mem_addP {b : Prs} : ∀ {a : Prs} {p : Bs × Bs}, p ∈ addP a b → p ∈ a ∨ p ∈ b := by
  induction b with
  | nil => intro a p h; exact .inl h
  | cons q b ih =>
    intro a p h
    rw [add_cons] at h
    rcases ih h with h | h
    · rcases mem_setP h with h | h
      · exact .inl h
      · exact .inr (by simp [h])
    · exact .inr (List.mem_cons_of_mem _ h)
theorem mem_pairs : ∀ (n : Nat) (l : List Bs), l.length ≤ n → ∀ p ∈ pairsOf l, p.1 ∈ l ∧ p.2 ∈ l := by
  intro n
  induction n with
  | zero =>
    intro l h
    obtain rfl : l = [] := List.length_eq_zero_iff.1 (by omega)
    simp [pairsOf]
  | succ n ih =>
    intro l h p hp
    match l, h, hp with
    | [], _, hp => simp [pairsOf] at hp
    | [a], _, hp => simp [pairsOf] at hp
    | a :: b :: r, h, hp =>
      simp only [pairsOf, List.mem_cons] at hp
      rcases hp with rfl | hp
      · simp
      · have := ih r (by simp at h; omega) p hp
        exact ⟨List.mem_cons_of_mem _ (List.mem_cons_of_mem _ this.1), List.mem_cons_of_mem _ (List.mem_cons_of_mem _ this.2)⟩
theorem read_mem {s : Bs} {ps : Prs} (h : readC s = some ps) {p : Bs × Bs} (hp : p ∈ ps) : p.1.length ≤ s.length ∧ p.2.length ≤ s.length := by
  unfold readC at h
  cases hl : splitL s with
  | none => rw [hl] at h; cases h
  | some l =>
    rw [hl, Option.bind_some] at h
    split at h
    · cases h
      rcases mem_addP hp with h | h
      · cases h
      · have := mem_pairs l.length l (Nat.le_refl _) p h
        exact ⟨split_mem s.length s (Nat.le_refl _) l hl _ this.1, split_mem s.length s (Nat.le_refl _) l hl _ this.2⟩
    · cases h
/-- The value of a key; empty if there is none. -/
def valC (ps : Prs) (k : Bs) : Bs := (getP ps k).getD []
theorem val_len {s : Bs} {ps : Prs} (h : readC s = some ps) (k : Bs) : (valC ps k).length ≤ s.length := by
  unfold valC
  cases hg : getP ps k with
  | none => simp
  | some v => exact (read_mem h (get_mem hg)).2

/-- 'walk'. -/
def walkC : Bs → List Bs → Int
  | s, [] => match readC s with | none => 11 | some _ => 7
  | s, [k] => match readC s with | none => 11 | some _ => 0
  | s, k :: q :: r => match readC s with | none => 11 | some ps => walkC (valC ps k) (q :: r)
theorem TxtRow.first {w : World} {o : Option Addr} {c : Nat} {k : Bs} {r : List Bs} (h : TxtRow w (.slice o (k :: r).length c) (k :: r)) : ∃ b off, o = some ⟨b, off, none⟩ ∧ (k :: r).length ≤ c ∧ c ≤ maxLen ∧ b < w.heap.size ∧ w.cell? ⟨b, off, none⟩ = some (.string ⟨k.toArray⟩) ∧ TxtRow w (.slice (some ⟨b, off + 1, none⟩) r.length (c - 1)) r := by
  obtain ⟨_, h1, h2, h3⟩ := h.at_
  obtain ⟨b, off, rfl, hl, hc⟩ := h3 0 (by simp)
  refine ⟨b, off, rfl, h1, h2, hl, hc, _, _, rfl, by simp at h1; omega, by omega, fun i hi => ?_⟩
  obtain ⟨b', off', e, hl', hc'⟩ := h3 (i + 1) (by simp; omega)
  cases e
  refine ⟨b, off + 1, rfl, hl, ?_⟩
  rw [show off + 1 + i = off + (i + 1) by omega]
  simpa using hc'
set_option maxRecDepth 100000 in
set_option maxHeartbeats 1600000 in
theorem walk_any : ∀ (path : List Bs) (s : Bs) (v : Value) (w : World), s.length ≤ 19999 → (∀ k ∈ path, k.length ≤ 1000000) → TxtRow w v path →
    Calls Try.prog 44 #[.string ⟨s.toArray⟩, v] w fun e w' => e = .returned (.int .i64 (walkC s path)) ∧ Below w.heap.size w w' := by
  intro path
  induction path with
  | nil =>
    intro s v w hs _ ht
    have RD := read_any s hs w
    obtain ⟨o, c, rfl, _⟩ := ht
    cases hr : readC s with
    | none =>
      have HW : Hid (walkC s [] = 11) := by show _ = _; unfold walkC; rw [hr]
      rw [HW.out]
      have RD2 : Hid (Calls Try.prog 29 #[.string ⟨s.toArray⟩] w fun e w' => Below w.heap.size w w' ∧ e = .returned (.tuple #[.pointer none, .int .i64 11])) := RD.mono fun e w' ⟨h1, h2⟩ => ⟨h1, by
        rcases h2 with ⟨_, h'⟩ | ⟨_, _, _, h', _⟩
        · exact h'
        · rw [hr] at h'; cases h'⟩
      clear RD hr HW
      go_enter Try.func44, Try.ntmps44
      go_wp2_with (go_at_call 29; refine RD2.out.mono ?_; rintro e w1 ⟨hB1, rfl⟩; skip)
      go_ret
      exact ⟨rfl, hB1⟩
    | some ps =>
      have HW : Hid (walkC s [] = 7) := by show _ = _; unfold walkC; rw [hr]
      rw [HW.out]
      have RD2 : Hid (Calls Try.prog 29 #[.string ⟨s.toArray⟩] w fun e w' => Below w.heap.size w w' ∧ ∃ b, e = .returned (.tuple #[.pointer b, .int .i64 0])) := RD.mono fun e w' ⟨h1, h2⟩ => ⟨h1, by
        rcases h2 with ⟨h', _⟩ | ⟨b2, F2, ps', h', he, hb, hF⟩
        · rw [hr] at h'; cases h'
        · exact ⟨_, he⟩⟩
      clear RD hr HW
      go_enter Try.func44, Try.ntmps44
      go_wp2_with (go_at_call 29; refine RD2.out.mono ?_; rintro e w1 ⟨hB1, b, rfl⟩; skip)
      go_ret
      exact ⟨rfl, hB1⟩
  | cons k r ih =>
    intro s v w hs hkl ht
    have RD := read_any s hs w
    obtain ⟨o, c, rfl, _⟩ := id ht
    obtain ⟨cb, off, rfl, hcl, hcm, hbl, hc0, ht1⟩ := ht.first
    have hk := hkl k (by simp)
    unfold maxLen at hcm
    cases hr : readC s with
    | none =>
      have HW : Hid (walkC s (k :: r) = 11) := by show _ = _; cases r <;> (unfold walkC; rw [hr])
      rw [HW.out]
      have RD2 : Hid (Calls Try.prog 29 #[.string ⟨s.toArray⟩] w fun e w' => Below w.heap.size w w' ∧ e = .returned (.tuple #[.pointer none, .int .i64 11])) := RD.mono fun e w' ⟨h1, h2⟩ => ⟨h1, by
        rcases h2 with ⟨_, h'⟩ | ⟨_, _, _, h', _⟩
        · exact h'
        · rw [hr] at h'; cases h'⟩
      clear RD hr HW ih ht ht1 hc0
      go_enter Try.func44, Try.ntmps44
      go_wp2_with (go_at_call 29; refine RD2.out.mono ?_; rintro e w1 ⟨hB1, rfl⟩; skip)
      go_ret
      exact ⟨rfl, hB1⟩
    | some ps =>
      have RD2 : Hid (Calls Try.prog 29 #[.string ⟨s.toArray⟩] w fun e w' => Below w.heap.size w w' ∧ ∃ b F, e = .returned (.tuple #[.pointer (some ⟨b, 0, none⟩), .int .i64 0]) ∧ Bk w' b F ps) := RD.mono fun e w' ⟨h1, h2⟩ => ⟨h1, by
        rcases h2 with ⟨h', _⟩ | ⟨b2, F2, ps', h', he, hb, hF⟩
        · rw [hr] at h'; cases h'
        · rw [hr] at h'; cases h'; exact ⟨b2, F2, he, hb⟩⟩
      have GET : Hid (∀ W b F, Bk W b F ps → Calls Try.prog 31 #[.pointer (some ⟨b, 0, none⟩), .string ⟨k.toArray⟩] W fun e w' => e = .returned (.tuple #[.string ⟨(valC ps k).toArray⟩, .bool (getP ps k).isSome]) ∧ w' = W) := fun W b F h => get_any h k (by unfold maxLen; omega)
      cases r with
      | nil =>
        have HW : Hid (walkC s [k] = 0) := by show _ = _; unfold walkC; rw [hr]
        rw [HW.out]
        clear RD hr HW ih ht ht1 hkl
        go_enter Try.func44, Try.ntmps44
        go_wp2_with (first | (go_at_call 29; refine RD2.out.mono ?_; rintro e w1 ⟨hB1, b, F, rfl, hb⟩; have hc1 := (hB1.cell (p := ⟨cb, off, none⟩) hbl).trans hc0; have H1 := Lib.hid (And.intro hB1 hb); clear hB1 hb hc0) | (go_at_call 31; refine (GET.out _ _ _ H1.out.2).mono ?_; rintro e w2 ⟨rfl, rfl⟩))
        go_ret
        exact ⟨rfl, H1.out.1⟩
      | cons q r =>
        have HW : Hid (walkC s (k :: q :: r) = walkC (valC ps k) (q :: r)) := by show _ = _; rw [walkC, hr]
        rw [HW.out]
        have hvl := val_len hr k
        have IH : Hid (∀ W v, Below w.heap.size w W → TxtRow W v (q :: r) → Calls Try.prog 44 #[.string ⟨(valC ps k).toArray⟩, v] W fun e w' => e = .returned (.int .i64 (walkC (valC ps k) (q :: r))) ∧ Below W.heap.size W w') := fun W v hW htv => ih (valC ps k) v W (by omega) (fun x hx => hkl x (List.mem_cons_of_mem _ hx)) htv
        have HT1 := Lib.hid ht1
        have hnl : 2 ≤ (k :: q :: r).length := by simp
        obtain ⟨n, hn⟩ : ∃ n : Nat, (k :: q :: r).length = n + 2 := ⟨r.length, by simp⟩
        have hn' : (q :: r).length = n + 1 := by simp at hn ⊢; omega
        rw [hn'] at HT1
        rw [hn] at hcl ⊢
        clear RD hr HW ih ht ht1 hkl hnl hn hn'
        generalize walkC (valC ps k) (q :: r) = res at *
        generalize valC ps k = vv at *
        go_enter Try.func44, Try.ntmps44
        go_wp2_with (first | (go_at_call 29; refine RD2.out.mono ?_; rintro e w1 ⟨hB1, b, F, rfl, hb⟩; have hc1 := (hB1.cell (p := ⟨cb, off, none⟩) hbl).trans hc0; have H1 := Lib.hid (And.intro hB1 hb); clear hB1 hb hc0) | (go_at_call 31; refine (GET.out _ _ _ H1.out.2).mono ?_; rintro e w2 ⟨rfl, rfl⟩) | (go_at_call 44; refine (IH.out _ _ H1.out.1 (HT1.out.below H1.out.1)).mono ?_; rintro e w3 ⟨rfl, hB3⟩; have H3 := Lib.hid hB3; clear hB3))
        go_ret
        exact ⟨rfl, H1.out.1.trans (H3.out.mono H1.out.1.size)⟩
end Go.Proofs.Ytpaffocniniakaa
