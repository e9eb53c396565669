/- Split undoes Join (layer 2): plain laws. No program in sight. -/
import Derived.Test.YteojlmpipfajoaaGreatDoorLPlain
namespace Go.Proofs.YteojlmpipfajoaaGreatDoor
set_option linter.unusedVariables false
set_option linter.unusedSimpArgs false

/-- A byte that is special, behind a backslash: as a byte, by the kernel. -/
def escOk (c : UInt8) : Bool := !(isS c || c == 35) || (if (0 : Int) ≤ escI ((letW c).toNat : Int) then byteI ((7 : Int) + escI ((letW c).toNat : Int)) == c else (letW c).toNat != 120 && !(decide (digI ((letW c).toNat : Int) < 8)) && (letW c).toNat != 10 && letW c == c)
theorem escOk_all : ∀ n : Fin 256, escOk (UInt8.ofNat n.val) = true := by decide +kernel
theorem escOk_any (c : UInt8) : escOk c = true := by
  have h := escOk_all ⟨c.toNat, c.toNat_lt⟩
  rwa [UInt8.ofNat_toNat] at h
def kindOk (c : UInt8) : Bool := (isS c || (!isW c && c != 92 && c != 123 && c != 34 && c != 125)) && !isW 92 && !isW 123 && isS 92 && isS 123 && isS 125 && isS 34
theorem kindOk_all : ∀ n : Fin 256, kindOk (UInt8.ofNat n.val) = true := by decide +kernel
theorem kind_lit {c : UInt8} (h : isS c = false) : isW c = false ∧ c ≠ 92 ∧ c ≠ 123 ∧ c ≠ 34 ∧ c ≠ 125 := by
  have h0 := kindOk_all ⟨c.toNat, c.toNat_lt⟩
  rw [UInt8.ofNat_toNat] at h0
  simp only [kindOk, h, Bool.false_or, Bool.and_eq_true, bne_iff_ne, Bool.not_eq_true', ne_eq] at h0
  obtain ⟨⟨⟨⟨⟨⟨⟨⟨⟨⟨h1, h2⟩, h3⟩, h4⟩, h5⟩, _⟩, _⟩, _⟩, _⟩, _⟩, _⟩ := h0
  exact ⟨h1, h2, h3, h4, h5⟩
theorem unesc_special {c : UInt8} (h : (isS c || c == 35) = true) (R : Bs) : unesc (92 :: letW c :: R) = ([c], 2) := by
  have h0 := escOk_any c
  have hl : 1 < ((92 : UInt8) :: letW c :: R).length := by simp
  unfold unesc
  rw [dif_pos hl, if_pos (by rfl)]
  show unesc1 (letW c) (92 :: letW c :: R) = _
  unfold escOk at h0
  rw [h] at h0
  simp only [Bool.not_true, Bool.false_or] at h0
  unfold unesc1
  split at h0
  · rename_i he
    rw [if_pos he]
    rw [eq_of_beq h0]
  · rename_i he
    simp only [Bool.and_eq_true, bne_iff_ne, Bool.not_eq_true', decide_eq_false_iff_not, beq_iff_eq, ne_eq] at h0
    obtain ⟨⟨⟨h1, h2⟩, h3⟩, h4⟩ := h0
    have hd : digF 8 3 (((92 : UInt8) :: letW c :: R).drop 1) 0 = (0, 0) := by
      show digF 8 3 (letW c :: R) 0 = _
      rw [digF, if_neg h2]
    rw [if_neg he, if_neg (fun h => h1 h.1), hd, if_neg (by simp), if_neg h3, h4]
theorem slashB_head (f : Bool) (c : UInt8) : ∃ d r, slashB f c = d :: r ∧ isW d = false ∧ d ≠ 123 ∧ d ≠ 34 := by
  unfold slashB
  split
  · exact ⟨92, _, rfl, by decide, by decide, by decide⟩
  · rename_i h
    have hs : isS c = false := by
      cases e : isS c
      · rfl
      · rw [e] at h; simp at h
    obtain ⟨h1, h2, h3, h4, _⟩ := kind_lit hs
    exact ⟨c, [], rfl, h1, h3, h4⟩
theorem bare_slash (f : Bool) (c : UInt8) (R : Bs) : bare (slashB f c ++ R) = (c :: (bare R).1, (slashB f c).length + (bare R).2) := by
  unfold slashB
  split
  · rename_i h
    have hs : (isS c || c == 35) = true := by
      cases e : isS c
      · rw [e] at h; simp at h; simp [h]
      · rfl
    show bare (92 :: letW c :: R) = _
    rw [bare_esc (by decide) rfl, unesc_special hs]
    simp
  · rename_i h
    have hs : isS c = false := by
      cases e : isS c
      · rfl
      · rw [e] at h; simp at h
    obtain ⟨h1, h2, _⟩ := kind_lit hs
    show bare (c :: R) = _
    rw [bare_lit h1 h2]
    simp only [List.length_cons, List.length_nil]
    rw [Nat.add_comm]
theorem bare_end {R : Bs} (h : atEnd R = true) : bare R = ([], 0) := by
  cases R with
  | nil => rfl
  | cons c r => exact bare_white h
theorem bare_rest : ∀ (s R : Bs), atEnd R = true → bare ((s.map (slashB false)).flatten ++ R) = (s, (s.map (slashB false)).flatten.length) := by
  intro s
  induction s with
  | nil => intro R h; exact bare_end h
  | cons c r ih =>
    intro R h
    simp only [List.map_cons, List.flatten_cons, List.append_assoc]
    rw [bare_slash, ih R h]
    simp
theorem bare_plain : ∀ (s R : Bs), (s.all fun c => !isS c) = true → atEnd R = true → bare (s ++ R) = (s, s.length) := by
  intro s
  induction s with
  | nil => intro R _ h; exact bare_end h
  | cons c r ih =>
    intro R hs h
    simp only [List.all_cons, Bool.and_eq_true, Bool.not_eq_true'] at hs
    obtain ⟨h1, h2, _⟩ := kind_lit hs.1
    show bare (c :: (r ++ R)) = _
    rw [bare_lit h1 h2, ih R hs.2 h]
    simp
theorem clo_esc' (c : UInt8) (r : Bs) (d : Nat) : clo (92 :: c :: r) d = (clo r d).map (· + 2) := by rw [clo.eq_def]; simp
theorem clo_open' (r : Bs) (d : Nat) : clo (123 :: r) d = (clo r (d + 1)).map (· + 1) := by rw [clo.eq_def]; simp
theorem clo_end' (r : Bs) : clo (125 :: r) 1 = some 0 := by rw [clo.eq_def]; simp
theorem clo_close' (r : Bs) (d : Nat) (h : d ≠ 1) : clo (125 :: r) d = (clo r (d - 1)).map (· + 1) := by rw [clo.eq_def]; simp [h]
theorem clo_lit' {c : UInt8} (r : Bs) (d : Nat) (h1 : c ≠ 92) (h2 : c ≠ 123) (h3 : c ≠ 125) : clo (c :: r) d = (clo r d).map (· + 1) := by rw [clo.eq_def]; simp [h1, h2, h3]
theorem bal_clo : ∀ (n : Nat) (s : Bs), s.length ≤ n → ∀ (d : Nat) (R : Bs), balF s d = true → clo (s ++ 125 :: R) (d + 1) = some s.length := by
  intro n
  induction n with
  | zero =>
    intro s h d R hb
    obtain rfl : s = [] := List.length_eq_zero_iff.1 (by omega)
    have : d = 0 := by rw [balF] at hb; simpa using hb
    subst this
    exact clo_end' R
  | succ n ih =>
    intro s h d R hb
    cases s with
    | nil =>
      have : d = 0 := by rw [balF] at hb; simpa using hb
      subst this
      exact clo_end' R
    | cons c r =>
      simp only [List.length_cons] at h
      rw [balF.eq_def] at hb
      simp only at hb
      by_cases h1 : c = 92
      · subst h1
        simp only [if_true] at hb
        cases r with
        | nil => simp at hb
        | cons c' r' =>
          simp only [List.length_cons] at h
          simp only at hb
          show clo (92 :: c' :: (r' ++ 125 :: R)) (d + 1) = _
          rw [clo_esc', ih r' (by omega) d R hb]
          simp
      · rw [if_neg h1] at hb
        by_cases h2 : c = 123
        · subst h2
          simp only [if_true] at hb
          show clo (123 :: (r ++ 125 :: R)) (d + 1) = _
          rw [clo_open', ih r (by omega) (d + 1) R hb]
          simp
        · rw [if_neg h2] at hb
          by_cases h3 : c = 125
          · subst h3
            simp only [if_true] at hb
            by_cases h4 : d = 0
            · rw [if_pos h4] at hb; cases hb
            · rw [if_neg h4] at hb
              show clo (125 :: (r ++ 125 :: R)) (d + 1) = _
              have := ih r (by omega) (d - 1) R hb
              rw [show d - 1 + 1 = d by omega] at this
              rw [clo_close' _ _ (by omega), show d + 1 - 1 = d by omega, this]
              simp
          · rw [if_neg h3] at hb
            show clo (c :: (r ++ 125 :: R)) (d + 1) = _
            rw [clo_lit' _ _ h1 h2 h3, ih r (by omega) d R hb]
            simp
/-- An element that was quoted is read again, and begins with no white byte. -/
theorem elem_quote (x R : Bs) (hR : atEnd R = true) : elemC (quote x ++ R) = some (x, (quote x).length) ∧ ∃ c r, quote x = c :: r ∧ isW c = false := by
  unfold quote
  split
  · rename_i h0
    subst h0
    refine ⟨?_, 123, [125], rfl, by decide⟩
    show elemC (123 :: 125 :: R) = _
    unfold elemC
    simp only [if_true]
    rw [clo_end']
    rfl
  · rename_i h0
    split
    · rename_i hp
      cases x with
      | nil => exact absurd rfl h0
      | cons c r =>
        simp only [plainB, Bool.and_eq_true] at hp
        have ha := hp.2
        simp only [List.all_cons, Bool.and_eq_true, Bool.not_eq_true'] at ha
        obtain ⟨h1, h2, h3, h4, h5⟩ := kind_lit ha.1
        refine ⟨?_, c, r, rfl, h1⟩
        show elemC (c :: (r ++ R)) = _
        unfold elemC
        simp only
        rw [if_neg h3, if_neg h4]
        have := bare_plain (c :: r) R hp.2 hR
        rw [show (c :: r) ++ R = c :: (r ++ R) from rfl] at this
        rw [this]
    · split
      · rename_i hb
        have hbal : balF x 0 = true := by
          unfold balanced at hb
          simp only [Bool.and_eq_true] at hb
          exact hb.1
        refine ⟨?_, 123, x ++ [125], rfl, by decide⟩
        show elemC (123 :: (x ++ [125] ++ R)) = _
        unfold elemC
        simp only [if_true]
        rw [List.append_assoc]
        show (clo (x ++ 125 :: R) 1).map _ = _
        rw [bal_clo x.length x (Nat.le_refl _) 0 R hbal]
        simp
      · cases x with
        | nil => exact absurd rfl h0
        | cons c r =>
          obtain ⟨d, t, hd, hw, h3, h4⟩ := slashB_head true c
          have hq : slashed (c :: r) = d :: (t ++ (r.map (slashB false)).flatten) := by
            show slashB true c ++ _ = _
            rw [hd]; rfl
          refine ⟨?_, d, _, hq, hw⟩
          have hb : bare (slashed (c :: r) ++ R) = (c :: r, (slashed (c :: r)).length) := by
            show bare ((slashB true c ++ (r.map (slashB false)).flatten) ++ R) = _
            rw [List.append_assoc, bare_slash, bare_rest r R hR]
            simp [slashed]
          rw [hq] at hb ⊢
          show elemC (d :: _) = _
          unfold elemC
          simp only
          rw [if_neg h3, if_neg h4]
          exact congrArg some hb
theorem split_join : ∀ l : List Bs, splitL (joinL l) = some l := by
  intro l
  induction l with
  | nil => rfl
  | cons x l ih =>
    cases l with
    | nil =>
      obtain ⟨h1, c, r, hq, hw⟩ := elem_quote x [] rfl
      rw [List.append_nil] at h1
      show splitL (quote x) = _
      rw [hq] at h1 ⊢
      rw [splitL_elem hw, h1]
      simp [atEnd, splitL_nil]
    | cons y l =>
      obtain ⟨h1, c, r, hq, hw⟩ := elem_quote x (32 :: joinL (y :: l)) (show isW 32 = true by decide)
      show splitL (quote x ++ 32 :: joinL (y :: l)) = _
      have hdrop : (quote x ++ 32 :: joinL (y :: l)).drop (quote x).length = 32 :: joinL (y :: l) := by simp
      rw [hq] at h1 hdrop ⊢
      rw [List.cons_append] at h1 hdrop ⊢
      rw [splitL_elem hw, h1, Option.bind_some]
      simp only [hdrop]
      rw [if_pos (show atEnd (32 :: joinL (y :: l)) = true from (by decide : isW 32 = true)), splitL_white (by decide), ih]
      rfl
/-- How much room elements take when they are joined. -/
def wt : List Bs → Nat
  | [] => 0
  | x :: l => 2 * x.length + 3 + wt l
theorem wt_append (a b : List Bs) : wt (a ++ b) = wt a + wt b := by
  induction a with
  | nil => simp [wt]
  | cons x a ih => simp only [List.cons_append, wt, ih]; omega
theorem slashB_len (f : Bool) (c : UInt8) : (slashB f c).length ≤ 2 := by unfold slashB; split <;> simp
theorem flat_len (s : Bs) : ((s.map (slashB false)).flatten).length ≤ 2 * s.length := by
  induction s with
  | nil => simp
  | cons c r ih =>
    have := slashB_len false c
    simp only [List.map_cons, List.flatten_cons, List.length_append, List.length_cons]; omega
theorem quote_len (x : Bs) : (quote x).length ≤ 2 * x.length + 2 := by
  unfold quote
  split
  · simp
  · split
    · omega
    · split
      · simp; omega
      · cases x with
        | nil => simp [slashed]
        | cons c r =>
          have h1 := slashB_len true c
          have h2 := flat_len r
          simp only [slashed, List.length_append, List.length_cons]; omega
theorem join_len (l : List Bs) : (joinL l).length ≤ wt l := by
  induction l with
  | nil => simp [joinL]
  | cons x l ih =>
    have hq := quote_len x
    cases l with
    | nil => simp only [joinL, wt]; omega
    | cons y l =>
      simp only [joinL, List.length_append, List.length_cons]
      simp only [wt] at ih ⊢
      omega
theorem wt_mem {l : List Bs} {x : Bs} (h : x ∈ l) : x.length ≤ wt l := by
  induction l with
  | nil => cases h
  | cons y l ih =>
    simp only [wt]
    rcases List.mem_cons.1 h with rfl | h
    · omega
    · have := ih h; omega
theorem wt_len (l : List Bs) : l.length ≤ wt l := by
  induction l with
  | nil => simp
  | cons y l ih => simp only [wt, List.length_cons]; omega
theorem split_wt : ∀ (n : Nat) (s : Bs), s.length ≤ n → ∀ l, splitL s = some l → wt l ≤ 5 * s.length := by
  intro n
  induction n with
  | zero =>
    intro s h l hl
    obtain rfl : s = [] := List.length_eq_zero_iff.1 (by omega)
    rw [splitL_nil] at hl; cases hl; simp [wt]
  | succ n ih =>
    intro s h l hl
    cases s with
    | nil => rw [splitL_nil] at hl; cases hl; simp [wt]
    | cons c r =>
      simp only [List.length_cons] at h ⊢
      by_cases hw : isW c = true
      · rw [splitL_white hw] at hl
        have := ih r (by omega) l hl
        omega
      · have hw' : isW c = false := by simpa using hw
        rw [splitL_elem hw'] at hl
        cases he : elemC (c :: r) with
        | none => rw [he] at hl; cases hl
        | some q =>
          have h1 := elem_le (t := q.1) (k := q.2) he
          have h2 := elem_pos hw' (t := q.1) (k := q.2) he
          rw [he, Option.bind_some] at hl
          simp only [List.length_cons] at h1
          split at hl
          · cases hs : splitL ((c :: r).drop q.2) with
            | none => rw [hs] at hl; cases hl
            | some m =>
              rw [hs] at hl; cases hl
              have := ih _ (by simp; omega) m hs
              simp only [List.length_drop, List.length_cons] at this
              simp only [wt]; omega
          · cases hl
end Go.Proofs.YteojlmpipfajoaaGreatDoor
