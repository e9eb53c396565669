/- Patterns, plainly: the two ways of matching tell the same; escaped texts; stars. Patterns, plainly, on: both readings of a pattern; escaped texts; stars. -/
import Derived.Test.YtjgdfgpnmmkjfaaGreatDoorRGlob
import Derived.Test.YtjgdfgpnmmkjfaaGreatDoorGlob2
namespace Go.Proofs.YtjgdfgpnmmkjfaaGreatDoor
set_option linter.unusedVariables false
set_option linter.unusedSimpArgs false

theorem mstar_iff (f : Bs → Bool) : ∀ s : Bs, mstar f s = true ↔ ∃ j, j ≤ s.length ∧ f (s.drop j) = true
  | [] => ⟨fun h => ⟨0, by simp, h⟩, fun ⟨j, _, h⟩ => by simpa [mstar] using h⟩
  | c :: t => by
    rw [mstar, Bool.or_eq_true, mstar_iff f t]
    constructor
    · rintro (h | ⟨j, h1, h2⟩)
      · exact ⟨0, by simp, h⟩
      · exact ⟨j + 1, by simp; omega, by simpa using h2⟩
    · rintro ⟨j, h1, h2⟩
      cases j with
      | zero => exact .inl h2
      | succ j => exact .inr ⟨j, by simpa using h1, by simpa using h2⟩
theorem drop_all_suffix {f : Bs → Bool} {s : Bs} (h : ∀ j, f (s.drop j) = false) (i : Nat) : mstar f (s.drop i) = false := by
  rw [← Bool.not_eq_true, mstar_iff]
  rintro ⟨j, _, h2⟩
  rw [List.drop_drop, h] at h2
  cases h2

/-- The end that is told is one, and the answer is right. -/
theorem gm_mt : ∀ (l : List Part) (s : Bs), (gm l s).1 = mt l s ∧ ((gm l s).2 = true → ∀ j, mt l (s.drop j) = false)
  | [], s => ⟨rfl, fun h => by cases h⟩
  | none :: r, s => by
    have ih := gm_mt r
    show (gstar (gm r) s).1 = mstar (mt r) s ∧ ((gstar (gm r) s).2 = true → ∀ j, mstar (mt r) (s.drop j) = false)
    induction s with
    | nil =>
      have h := ih []
      unfold gstar
      by_cases hc : ((gm r []).1 || (gm r []).2) = true
      · rw [if_pos hc]
        exact ⟨h.1, fun h2 j => by rw [List.drop_nil]; exact h.2 h2 0⟩
      · rw [if_neg hc]
        simp at hc
        have h0 : mt r [] = false := by rw [← h.1]; exact hc.1
        exact ⟨h0.symm, fun _ j => by rw [List.drop_nil]; exact h0⟩
    | cons c t iht =>
      have h := ih (c :: t)
      unfold gstar
      by_cases hc : ((gm r (c :: t)).1 || (gm r (c :: t)).2) = true
      · rw [if_pos hc]
        by_cases h1 : (gm r (c :: t)).1 = true
        · refine ⟨?_, fun h2 => ?_⟩
          · rw [h1, mstar, ← h.1, h1]; rfl
          · have := h.2 h2 0
            rw [List.drop_zero, ← h.1, h1] at this; cases this
        · have h2 : (gm r (c :: t)).2 = true := by rcases Bool.or_eq_true _ _ ▸ hc with h3 | h3
                                                   · exact absurd h3 h1
                                                   · exact h3
          have h3 := drop_all_suffix (h.2 h2)
          refine ⟨?_, fun _ j => h3 j⟩
          have := h3 0
          rw [List.drop_zero] at this
          rw [this]; simpa using h1
      · rw [if_neg hc]
        simp at hc
        have h0 : mt r (c :: t) = false := by rw [← h.1]; exact hc.1
        refine ⟨?_, fun h2 j => ?_⟩
        · rw [iht.1, mstar, h0]; rfl
        · cases j with
          | zero =>
            rw [List.drop_zero, mstar, h0]
            have := iht.2 h2 0
            rw [List.drop_zero] at this
            rw [this]; rfl
          | succ j => simpa using iht.2 h2 j
  | some p :: r, [] => ⟨rfl, fun _ j => by rw [List.drop_nil]; rfl⟩
  | some p :: r, c :: t => by
    have ih := gm_mt r
    show (if p c then gm r t else (false, false)).1 = (p c && mt r t) ∧ ((if p c then gm r t else (false, false)).2 = true → _)
    cases hp : p c
    · exact ⟨rfl, fun h => by cases h⟩
    · refine ⟨by simpa using (ih t).1, fun h j => ?_⟩
      have h2 := (ih t).2 h
      cases j with
      | zero =>
        rw [List.drop_zero, mt, hp]
        have := h2 0
        rw [List.drop_zero] at this
        rw [this]; rfl
      | succ j =>
        rw [List.drop_succ_cons]
        cases hd : t.drop j with
        | nil => rfl
        | cons c' t' =>
          have h3 := h2 (j + 1)
          rw [← List.drop_drop, hd] at h3
          simp only [List.drop_succ_cons, List.drop_zero] at h3
          rw [mt, h3]; simp

def toPart (fold : Bool) : RP → Part
  | .many => none
  | x => some (fun c => x.takes fold c)

/-- What the pattern from part k on matches. -/
def mk (fold : Bool) (l : List RP) (k : Nat) (s : Bs) : Bool := mt ((l.drop k).map (toPart fold)) s
section
variable {fold : Bool} {l : List RP} {A C : Nat → Bool} {k : Nat} {s : Bs} {c : UInt8}
theorem many_lt (h : (l.getD k .none).isMany = true) : k < l.length := by
  by_cases h1 : k < l.length
  · exact h1
  · rw [List.getD_eq_getElem?_getD, List.getElem?_eq_none (by omega)] at h; cases h
theorem isMany_eq {x : RP} (h : x.isMany = true) : x = .many := by cases x <;> first | rfl | cases h
theorem mk_many (h : (l.getD k .none).isMany = true) : mk fold l k s = mstar (mk fold l (k + 1)) s := by
  have h1 := many_lt h
  rw [getD_lt h1] at h
  unfold mk
  rw [List.drop_eq_getElem_cons h1, isMany_eq h, List.map_cons]
  rfl
theorem mk_one (h1 : k < l.length) (h : l[k].isMany = false) : mk fold l k (c :: s) = (l[k].takes fold c && mk fold l (k + 1) s) := by
  unfold mk
  rw [List.drop_eq_getElem_cons h1, List.map_cons]
  cases hx : l[k] <;> simp only [hx, toPart] <;> first | rfl | (rw [hx] at h; cases h)
theorem mk_one_nil (h1 : k < l.length) (h : l[k].isMany = false) : mk fold l k [] = false := by
  unfold mk
  rw [List.drop_eq_getElem_cons h1, List.map_cons]
  cases hx : l[k] <;> simp only [hx, toPart] <;> first | rfl | (rw [hx] at h; cases h)
theorem mk_end : mk fold l l.length s = s.isEmpty := by unfold mk; rw [List.drop_length]; rfl

theorem clo_keep : ∀ j, A k = true → cloG l A j k = true
  | 0, h => h
  | j + 1, h => by
    have ih := clo_keep j h
    unfold cloG
    split
    · unfold upd; split
      · rfl
      · exact ih
    · exact ih
theorem clo_stable {j : Nat} (h : k ≤ j) : cloG l A (j + 1) k = cloG l A j k := by
  rw [cloG]
  split
  · unfold upd; rw [if_neg (by omega)]
  · rfl
theorem clo_mono {j : Nat} (h : cloG l A j k = true) : cloG l A (j + 1) k = true := by
  rw [cloG]
  split
  · unfold upd; split
    · rfl
    · exact h
  · exact h
theorem clo_closed : ∀ j k, k < j → cloG l A j k = true → (l.getD k .none).isMany = true → cloG l A j (k + 1) = true
  | 0, k, h, _, _ => by omega
  | j + 1, k, h, h1, h2 => by
    by_cases e : k = j
    · subst e
      rw [clo_stable (Nat.le_refl _)] at h1
      rw [cloG, h1, h2]
      simp [upd]
    · rw [clo_stable (by omega)] at h1
      exact clo_mono (clo_closed j k (by omega) h1 h2)
theorem clo_back : ∀ j k, k ≤ l.length → cloG l A j k = true → mk fold l k s = true → ∃ k', k' ≤ l.length ∧ A k' = true ∧ mk fold l k' s = true
  | 0, k, h, h1, h2 => ⟨k, h, h1, h2⟩
  | j + 1, k, h, h1, h2 => by
    rw [cloG] at h1
    split at h1
    · rename_i hc
      rw [Bool.and_eq_true] at hc
      unfold upd at h1
      split at h1
      · rename_i e
        subst e
        refine clo_back j j (by omega) hc.1 ?_
        rw [mk_many hc.2, mstar_iff]
        exact ⟨0, by omega, h2⟩
      · exact clo_back j k h h1 h2
    · exact clo_back j k h h1 h2

theorem nxt_iff : ∀ j k, nxt l C c fold j k = true ↔ (k < j ∧ C k = true ∧ (l.getD k .none).isMany = true) ∨ (∃ i, i < j ∧ k = i + 1 ∧ C i = true ∧ (l.getD i .none).takes fold c = true)
  | 0, k => by
    show false = true ↔ _
    constructor
    · intro h; cases h
    · rintro (⟨h, _⟩ | ⟨i, h, _⟩) <;> omega
  | j + 1, k => by
    have ih := nxt_iff j k
    rw [nxt, nxtStep]
    have hN1 : (if (C j && (l.getD j .none).isMany) = true then upd (nxt l C c fold j) j else nxt l C c fold j) k = true ↔ nxt l C c fold j k = true ∨ (k = j ∧ C j = true ∧ (l.getD j .none).isMany = true) := by
      split
      · rename_i h
        rw [Bool.and_eq_true] at h
        unfold upd
        split
        · rename_i e; exact ⟨fun _ => .inr ⟨e, h⟩, fun _ => rfl⟩
        · rename_i e; exact ⟨fun h => .inl h, fun h => h.elim id fun h => absurd h.1 e⟩
      · rename_i h
        rw [Bool.and_eq_true] at h
        exact ⟨fun h => .inl h, fun h1 => h1.elim id fun h1 => absurd h1.2 h⟩
    have hall : (let N1 := if (C j && (l.getD j .none).isMany) = true then upd (nxt l C c fold j) j else nxt l C c fold j
      if (C j && (l.getD j .none).takes fold c) = true then upd N1 (j + 1) else N1) k = true ↔ (nxt l C c fold j k = true ∨ (k = j ∧ C j = true ∧ (l.getD j .none).isMany = true)) ∨ (k = j + 1 ∧ C j = true ∧ (l.getD j .none).takes fold c = true) := by
      dsimp only
      split
      · rename_i h
        rw [Bool.and_eq_true] at h
        generalize (if (C j && (l.getD j .none).isMany) = true then upd (nxt l C c fold j) j else nxt l C c fold j) = N1 at *
        show upd N1 (j + 1) k = true ↔ _
        unfold upd
        split
        · rename_i e; exact ⟨fun _ => .inr ⟨e, h⟩, fun _ => rfl⟩
        · rename_i e; rw [hN1]; exact ⟨fun h => .inl h, fun h => h.elim id fun h => absurd h.1 e⟩
      · rename_i h
        rw [Bool.and_eq_true] at h
        rw [hN1]
        exact ⟨fun h => .inl h, fun h1 => h1.elim id fun h1 => absurd h1.2 h⟩
    rw [hall, ih]
    constructor
    · rintro (((⟨h1, h2⟩ | ⟨i, h1, h2⟩) | ⟨h1, h2⟩) | ⟨h1, h2⟩)
      · exact .inl ⟨by omega, h2⟩
      · exact .inr ⟨i, by omega, h2⟩
      · subst h1; exact .inl ⟨by omega, h2⟩
      · exact .inr ⟨j, by omega, h1, h2⟩
    · rintro (⟨h1, h2⟩ | ⟨i, h1, h2, h3⟩)
      · by_cases e : k = j
        · subst e; exact .inl (.inr ⟨rfl, h2⟩)
        · exact .inl (.inl (.inl ⟨by omega, h2⟩))
      · by_cases e : i = j
        · subst e; exact .inr ⟨h2, h3⟩
        · exact .inl (.inl (.inr ⟨i, by omega, h2, h3⟩))

theorem step_fwd (hcl : ∀ k, k < l.length → C k = true → (l.getD k .none).isMany = true → C (k + 1) = true) : ∀ m k, l.length - k ≤ m → k ≤ l.length → C k = true → mk fold l k (c :: s) = true →
    ∃ k', k' ≤ l.length ∧ nxt l C c fold l.length k' = true ∧ mk fold l k' s = true
  | m, k, hm, hk, h1, h2 => by
    by_cases hlt : k < l.length
    · cases hb : (l.getD k .none).isMany
      · rw [getD_lt hlt] at hb
        rw [mk_one hlt hb, Bool.and_eq_true] at h2
        exact ⟨k + 1, by omega, (nxt_iff _ _).2 (.inr ⟨k, hlt, rfl, h1, by rw [getD_lt hlt]; exact h2.1⟩), h2.2⟩
      · rw [mk_many hb, mstar, Bool.or_eq_true] at h2
        rcases h2 with h2 | h2
        · match m, hm with
          | 0, hm => omega
          | m + 1, hm => exact step_fwd hcl m (k + 1) (by omega) (by omega) (hcl k hlt h1 hb) h2
        · exact ⟨k, by omega, (nxt_iff _ _).2 (.inl ⟨hlt, h1, hb⟩), by rw [mk_many hb]; exact h2⟩
    · obtain rfl : k = l.length := by omega
      rw [mk_end] at h2; cases h2
theorem step_back (h1 : k ≤ l.length) (h : nxt l C c fold l.length k = true) (h2 : mk fold l k s = true) : ∃ k', k' ≤ l.length ∧ C k' = true ∧ mk fold l k' (c :: s) = true := by
  rcases (nxt_iff _ _).1 h with ⟨h3, h4, h5⟩ | ⟨i, h3, rfl, h4, h5⟩
  · refine ⟨k, h1, h4, ?_⟩
    rw [mk_many h5] at h2 ⊢
    rw [mstar, h2]; simp
  · refine ⟨i, by omega, h4, ?_⟩
    rw [getD_lt h3] at h5
    have : l[i].isMany = false := by cases hx : l[i] <;> first | rfl | (rw [hx] at h5; cases h5)
    rw [mk_one h3 this, h5, h2]; rfl
theorem end_fwd (hcl : ∀ k, k < l.length → C k = true → (l.getD k .none).isMany = true → C (k + 1) = true) : ∀ m k, l.length - k ≤ m → k ≤ l.length → C k = true → mk fold l k [] = true → C l.length = true
  | m, k, hm, hk, h1, h2 => by
    by_cases hlt : k < l.length
    · cases hb : (l.getD k .none).isMany
      · rw [getD_lt hlt] at hb
        rw [mk_one_nil hlt hb] at h2; cases h2
      · rw [mk_many hb] at h2
        match m, hm with
        | 0, hm => omega
        | m + 1, hm => exact end_fwd hcl m (k + 1) (by omega) (by omega) (hcl k hlt h1 hb) h2
    · obtain rfl : k = l.length := by omega
      exact h1

theorem gl_iff (fold : Bool) (l : List RP) : ∀ (s : Bs) (A : Nat → Bool), gl fold l s A = true ↔ ∃ k, k ≤ l.length ∧ A k = true ∧ mk fold l k s = true
  | [], A => by
    show cloG l A l.length l.length = true ↔ _
    constructor
    · intro h
      exact clo_back l.length l.length (Nat.le_refl _) h (by rw [mk_end]; rfl)
    · rintro ⟨k, h1, h2, h3⟩
      exact end_fwd (fun k hk => clo_closed l.length k hk) (l.length - k) k (Nat.le_refl _) h1 (clo_keep _ h2) h3
  | c :: t, A => by
    show gl fold l t (nxt l (cloG l A l.length) c fold l.length) = true ↔ _
    rw [gl_iff fold l t]
    constructor
    · rintro ⟨k, h1, h2, h3⟩
      obtain ⟨k', h4, h5, h6⟩ := step_back h1 h2 h3
      exact clo_back l.length k' h4 h5 h6
    · rintro ⟨k, h1, h2, h3⟩
      exact step_fwd (fun k hk => clo_closed l.length k hk) (l.length - k) k (Nat.le_refl _) h1 (clo_keep _ h2) h3
end

/-- What a pattern matches. -/
def matchP (fold : Bool) (p s : Bs) : Bool := mt ((partsA p).map (toPart fold)) s
theorem gl_match (fold : Bool) (p s : Bs) : gl fold (partsA p) s (fun k => decide (k = 0)) = matchP fold p s := by
  rw [Bool.eq_iff_iff, gl_iff]
  constructor
  · rintro ⟨k, _, h2, h3⟩
    obtain rfl : k = 0 := by simpa using h2
    exact h3
  · intro h
    exact ⟨0, Nat.zero_le _, by simp, h⟩
end Go.Proofs.YtjgdfgpnmmkjfaaGreatDoor
namespace Go.Proofs.YtjgdfgpnmmkjfaaGreatDoor
set_option linter.unusedVariables false
set_option linter.unusedSimpArgs false

theorem any_or3 (f g h : UInt8 × UInt8 → Bool) (b : Bool) (l : List (UInt8 × UInt8)) : l.any (fun p => f p || b && (g p || h p)) = (l.any f || b && (l.any g || l.any h)) := by
  rw [Bool.eq_iff_iff]
  simp only [List.any_eq_true, Bool.or_eq_true, Bool.and_eq_true]
  constructor
  · rintro ⟨x, hx, h1 | ⟨h0, h1 | h1⟩⟩
    · exact .inl ⟨x, hx, h1⟩
    · exact .inr ⟨h0, .inl ⟨x, hx, h1⟩⟩
    · exact .inr ⟨h0, .inr ⟨x, hx, h1⟩⟩
  · rintro (⟨x, hx, h1⟩ | ⟨h0, ⟨x, hx, h1⟩ | ⟨x, hx, h1⟩⟩)
    · exact ⟨x, hx, .inl h1⟩
    · exact ⟨x, hx, .inr ⟨h0, .inl h1⟩⟩
    · exact ⟨x, hx, .inr ⟨h0, .inr h1⟩⟩
theorem part_set (fold : Bool) (s : Bs) : toPart fold (.set s) = some (fun x => inC s x fold) := by
  show some _ = some _
  congr 1
  funext x
  exact (any_or3 (fun p => inP p x) (fun p => inP p (lowB x)) (fun p => inP p (upB x)) fold (spansL s)).symm
theorem part_one (fold : Bool) (d : UInt8) : toPart fold (.one d) = some (lit fold d) := by
  show some _ = some _
  congr 1
  funext x
  show (d == x || fold && lowB d == lowB x) = (x == d || fold && lowB x == lowB d)
  rw [show (d == x) = (x == d) from BEq.comm, show (lowB d == lowB x) = (lowB x == lowB d) from BEq.comm]

/-- Nothing matches what ends in the midst of a set. -/
theorem mt_never {x : Part} {l : List Part} (h : ∀ s, mt l s = false) (s : Bs) : mt (x :: l) s = false := by
  cases x with
  | none =>
    show mstar (mt l) s = false
    rw [← Bool.not_eq_true, mstar_iff]
    rintro ⟨j, _, h2⟩
    rw [h] at h2; cases h2
  | some p =>
    cases s with
    | nil => rfl
    | cons c t => show (p c && mt l t) = false; rw [h]; simp
theorem mt_bad (fold : Bool) (s : Bs) : mt [toPart fold .none] s = false := by
  cases s with
  | nil => rfl
  | cons c t => rfl

def Same (fold : Bool) (p : Bs) : Prop := match stepsA inC fold p with
  | some l => l = (partsA p).map (toPart fold)
  | none => ∀ s, mt ((partsA p).map (toPart fold)) s = false
theorem same_cons {fold : Bool} {p r : Bs} {x : RP} {y : Part} (h : Same fold r) (h1 : stepsA inC fold p = (stepsA inC fold r).map (y :: ·)) (h2 : partsA p = x :: partsA r) (h3 : y = toPart fold x) : Same fold p := by
  unfold Same at h ⊢
  rw [h1, h2]
  cases hs : stepsA inC fold r with
  | none => rw [hs] at h; exact fun s => mt_never h s
  | some l => rw [hs] at h; show y :: l = _; rw [List.map_cons, h3, h]

theorem same_all (fold : Bool) : ∀ (n : Nat) (p : Bs), p.length ≤ n → Same fold p
  | _, [], _ => rfl
  | 0, c :: r, h => by simp at h
  | n + 1, c :: r, h => by
    simp only [List.length_cons] at h
    have ih := fun q (hq : q.length ≤ n) => same_all fold n q hq
    by_cases h42 : c = 42
    · subst h42; exact same_cons (ih r (by omega)) stepsA_star partsA_star rfl
    · by_cases h63 : c = 63
      · subst h63; exact same_cons (ih r (by omega)) stepsA_any partsA_any rfl
      · by_cases h91 : c = 91
        · subst h91
          by_cases hneg : Lib.indexByte r 93 < 0
          · unfold Same
            rw [stepsA_bad hneg, partsA_bad hneg]
            exact mt_bad fold
          · exact same_cons (ih _ (by simp; omega)) (stepsA_set hneg) (partsA_set hneg) (part_set fold _).symm
        · by_cases h92 : c = 92 ∧ r ≠ []
          · obtain ⟨rfl, hr⟩ := h92
            cases r with
            | nil => exact absurd rfl hr
            | cons d r' => exact same_cons (ih r' (by simp at h; omega)) stepsA_esc partsA_esc (part_one fold d).symm
          · exact same_cons (ih r (by omega)) (stepsA_lit h42 h63 h91 h92) (partsA_lit h42 h63 h91 h92) (part_one fold c).symm

theorem globC_match (p s : Bs) (fold : Bool) : globC p s fold = matchP fold p s := by
  have h := same_all fold p.length p (Nat.le_refl _)
  unfold Same at h
  unfold globC matchP
  cases hs : stepsA inC fold p with
  | none => rw [hs] at h; exact (h s).symm
  | some l => rw [hs] at h; rw [← h]; exact (gm_mt l s).1

/-- A text, each byte behind a backslash. -/
def esc (s : Bs) : Bs := s.flatMap fun c => [92, c]
theorem esc_snoc (s : Bs) (c : UInt8) : esc (s ++ [c]) = esc s ++ [92, c] := by simp [esc]
theorem esc_len (s : Bs) : (esc s).length = 2 * s.length := by
  induction s with
  | nil => rfl
  | cons c t ih => show ([92, c] ++ esc t).length = _; rw [List.length_append, ih]; simp; omega
theorem parts_esc : ∀ s : Bs, partsA (esc s) = s.map .one
  | [] => rfl
  | c :: t => by
    show partsA (92 :: c :: esc t) = _
    rw [partsA_esc, parts_esc t]; rfl
theorem match_esc : ∀ s t : Bs, matchP false (esc s) t = decide (s = t) := by
  intro s
  unfold matchP
  rw [parts_esc]
  induction s with
  | nil => intro t; cases t <;> rfl
  | cons c s ih =>
    intro t
    cases t with
    | nil => simp [toPart, mt]
    | cons d t =>
      show ((c == d || false && lowB c == lowB d) && mt ((s.map .one).map (toPart false)) t) = _
      rw [ih t, Bool.false_and, Bool.or_false, Bool.eq_iff_iff]
      simp
theorem match_star (fold : Bool) (s : Bs) : matchP fold [42] s = true := by
  show mstar (mt []) s = true
  rw [mstar_iff]
  exact ⟨s.length, Nat.le_refl _, by rw [List.drop_length]; rfl⟩

theorem mt_more (more : Bs) : ∀ (l : List Part) (s : Bs), mt l s = true → mt (l ++ [none]) (s ++ more) = true
  | [], s, h => by
    have : s = [] := by simpa [mt] using h
    subst this
    show mstar (mt []) more = true
    rw [mstar_iff]
    exact ⟨more.length, Nat.le_refl _, by rw [List.drop_length]; rfl⟩
  | none :: r, s, h => by
    obtain ⟨j, h1, h2⟩ := (mstar_iff _ _).1 h
    refine (mstar_iff _ _).2 ⟨j, by simp; omega, ?_⟩
    rw [List.drop_append_of_le_length h1]
    exact mt_more more r _ h2
  | some p :: r, [], h => by cases h
  | some p :: r, c :: t, h => by
    rw [mt, Bool.and_eq_true] at h
    show (p c && mt (r ++ [none]) (t ++ more)) = true
    rw [h.1, mt_more more r t h.2]; rfl

theorem indexByte_append {r t : Bs} {c : UInt8} (h : ¬ Lib.indexByte r c < 0) : Lib.indexByte (r ++ t) c = Lib.indexByte r c := by
  induction r with
  | nil => simp [Lib.indexByte] at h
  | cons b r ih =>
    rw [List.cons_append]
    unfold Lib.indexByte
    by_cases hb : (b == c) = true
    · rw [if_pos hb, if_pos hb]
    · rw [if_neg hb, if_neg hb]
      have h2 : ¬ Lib.indexByte r c < 0 := by
        intro h3
        apply h
        unfold Lib.indexByte
        rw [if_neg hb]
        have := Lib.indexByte_ge r c
        rw [show Lib.indexByte r c = -1 from by omega]; decide
      rw [ih h2]
theorem indexByte_len {r : Bs} {c : UInt8} (h : ¬ Lib.indexByte r c < 0) : (Lib.indexByte r c).toNat < r.length := by
  obtain ⟨k, hk⟩ : ∃ k : Nat, Lib.indexByte r c = k := ⟨(Lib.indexByte r c).toNat, by omega⟩
  have := (List.getElem?_eq_some_iff.1 (Lib.indexByte_some hk).1).1
  rw [hk]; exact this

/-- The last byte is no backslash. -/
def Whole (p : Bs) : Prop := ∀ d, p.getLast? = some d → d ≠ 92
theorem Whole.tail {c : UInt8} {r : Bs} (h : Whole (c :: r)) : Whole r := by
  intro d hd
  cases r with
  | nil => simp at hd
  | cons b t => exact h d (by rw [List.getLast?_cons_cons]; exact hd)
theorem Whole.drop {r : Bs} (h : Whole r) : ∀ k, Whole (r.drop k)
  | 0 => h
  | k + 1 => by
    cases r with
    | nil => simpa using h
    | cons c t => exact (h.tail).drop k

def Starred (fold : Bool) (p : Bs) : Prop := partsA (p ++ [42]) = partsA p ++ [.many] ∨ ∀ s, mt ((partsA p).map (toPart fold)) s = false
theorem starred_cons {fold : Bool} {p r : Bs} {x : RP} (h : Starred fold r) (h1 : partsA (p ++ [42]) = x :: partsA (r ++ [42])) (h2 : partsA p = x :: partsA r) : Starred fold p := by
  rcases h with h | h
  · exact .inl (by rw [h1, h2, h]; rfl)
  · exact .inr fun s => by rw [h2]; exact mt_never h s
theorem starred_all (fold : Bool) : ∀ (n : Nat) (p : Bs), p.length ≤ n → Whole p → Starred fold p
  | _, [], _, _ => .inl rfl
  | 0, c :: r, h, _ => by simp at h
  | n + 1, c :: r, h, hw => by
    simp only [List.length_cons] at h
    have ih := fun q (hq : q.length ≤ n) (hw : Whole q) => starred_all fold n q hq hw
    by_cases h42 : c = 42
    · subst h42; exact starred_cons (ih r (by omega) hw.tail) partsA_star partsA_star
    · by_cases h63 : c = 63
      · subst h63; exact starred_cons (ih r (by omega) hw.tail) partsA_any partsA_any
      · by_cases h91 : c = 91
        · subst h91
          by_cases hneg : Lib.indexByte r 93 < 0
          · right
            rw [partsA_bad hneg]
            exact mt_bad fold
          · have hlt := indexByte_len hneg
            refine starred_cons (ih _ (by simp; omega) (hw.tail.drop _)) ?_ (partsA_set hneg)
            have h1 := indexByte_append (t := [42]) hneg
            rw [List.cons_append, partsA_set (by rw [h1]; exact hneg), h1, List.take_append_of_le_length (by omega), List.drop_append_of_le_length (by omega)]
        · by_cases h92 : c = 92
          · subst h92
            cases r with
            | nil => exact absurd rfl (hw 92 rfl)
            | cons d r' => exact starred_cons (ih r' (by simp at h; omega) hw.tail.tail) partsA_esc partsA_esc
          · exact starred_cons (ih r (by omega) hw.tail) (partsA_lit h42 h63 h91 (by simp [h92])) (partsA_lit h42 h63 h91 (by simp [h92]))
theorem match_more {p s : Bs} (more : Bs) (hw : Whole p) (h : matchP false p s = true) : matchP false (p ++ [42]) (s ++ more) = true := by
  rcases starred_all false p.length p (Nat.le_refl _) hw with h1 | h1
  · unfold matchP
    rw [h1, List.map_append]
    exact mt_more more _ _ h
  · rw [matchP, h1] at h; cases h
end Go.Proofs.YtjgdfgpnmmkjfaaGreatDoor
