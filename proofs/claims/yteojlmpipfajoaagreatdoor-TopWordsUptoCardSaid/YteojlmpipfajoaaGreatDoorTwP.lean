/- How the reader of scripts reads quoted words: plain laws. No program in sight. -/
import Derived.Test.YteojlmpipfajoaaGreatDoorLLaw
namespace Go.Proofs.YteojlmpipfajoaaGreatDoor
set_option linter.unusedVariables false
set_option linter.unusedSimpArgs false
/-- Does a word end here? -/
def endW (R : Bs) : Bool := match R with
  | [] => true
  | c :: _ => c == 10 || c == 59 || isW c || R.take 2 == [92, 10]
/-- Does a command end here? -/
def endC (R : Bs) : Bool := match R with
  | [] => true
  | c :: _ => c == 10 || c == 59
/-- What stands behind a quoted word: nothing, or a blank and the next word. -/
def Rest (R : Bs) : Prop := R = [] ∨ ∃ q, R = 32 :: q
theorem rest_end {R : Bs} (h : Rest R) : endW R = true ∧ atEnd R = true := by
  rcases h with rfl | ⟨q, rfl⟩
  · exact ⟨rfl, rfl⟩
  · have h1 : isW 32 = true := by decide
    exact ⟨by unfold endW; simp [h1], h1⟩
theorem letW_10 : ∀ n : Fin 256, (letW (UInt8.ofNat n.val)) ≠ 10 := by decide +kernel
theorem letW_ne (c : UInt8) : letW c ≠ 10 := by
  have h := letW_10 ⟨c.toNat, c.toNat_lt⟩
  rwa [UInt8.ofNat_toNat] at h
def litOk (c : UInt8) : Bool := isS c || (c != 10 && c != 59 && !isW c && c != 92 && c != 36 && c != 91 && c != 123 && c != 34 && c != 93)
theorem litOk_all : ∀ n : Fin 256, litOk (UInt8.ofNat n.val) = true := by decide +kernel
structure LitB (c : UInt8) : Prop where
  nl : c ≠ 10
  semi : c ≠ 59
  white : isW c = false
  back : c ≠ 92
  dollar : c ≠ 36
  brack : c ≠ 91
  brace : c ≠ 123
  quot : c ≠ 34
  close : c ≠ 93
theorem lit_of {c : UInt8} (h : isS c = false) : LitB c := by
  have h0 := litOk_all ⟨c.toNat, c.toNat_lt⟩
  rw [UInt8.ofNat_toNat] at h0
  simp only [litOk, h, Bool.false_or, Bool.and_eq_true, bne_iff_ne, Bool.not_eq_true', ne_eq] at h0
  obtain ⟨⟨⟨⟨⟨⟨⟨⟨h1, h2⟩, h3⟩, h4⟩, h5⟩, h6⟩, h7⟩, h8⟩, h9⟩ := h0
  exact ⟨h1, h2, h3, h4, h5, h6, h7, h8, h9⟩
/-- The pieces of a text from a place on, as they are written in words. -/
def pcs (x : Bs) (k : Nat) : Bs := if k = 0 then slashed x else ((x.drop k).map (slashB false)).flatten
theorem pcs_zero (x : Bs) : pcs x 0 = slashed x := rfl
theorem pcs_end (x : Bs) (hx : x ≠ []) : pcs x x.length = [] := by
  unfold pcs
  rw [if_neg (by rw [List.length_eq_zero_iff]; exact hx), List.drop_length]
  rfl
theorem pcs_step (x : Bs) {k : Nat} (h : k < x.length) : pcs x k = slashB (k == 0) x[k] ++ pcs x (k + 1) := by
  unfold pcs
  rw [if_neg (Nat.succ_ne_zero k)]
  by_cases h0 : k = 0
  · subst h0
    rw [if_pos rfl]
    cases x with
    | nil => simp at h
    | cons c r => rfl
  · rw [if_neg h0, List.drop_eq_getElem_cons h]
    simp only [List.map_cons, List.flatten_cons]
    rw [show (k == 0) = false by simpa using h0]
/-- A piece is a plain byte, or a backslash and a letter that stands for one. -/
theorem piece (f : Bool) (c : UInt8) : (slashB f c = [c] ∧ LitB c) ∨ (slashB f c = [92, letW c] ∧ ∀ R, unesc (92 :: letW c :: R) = ([c], 2)) := by
  unfold slashB
  split
  · rename_i h
    right
    refine ⟨rfl, fun R => unesc_special ?_ R⟩
    cases e : isS c
    · rw [e] at h; simp at h; simp [h]
    · rfl
  · rename_i h
    left
    refine ⟨rfl, lit_of ?_⟩
    cases e : isS c
    · rfl
    · rw [e] at h; simp at h
theorem piece_end (f : Bool) (c : UInt8) (R : Bs) : endW (slashB f c ++ R) = false := by
  rcases piece f c with ⟨h, l⟩ | ⟨h, _⟩
  · rw [h]
    show (c == 10 || c == 59 || isW c || (c :: R).take 2 == [92, 10]) = false
    rw [show (c == 10) = false by simpa using l.nl, show (c == 59) = false by simpa using l.semi, l.white]
    simp only [Bool.false_or]
    rw [beq_eq_false_iff_ne]
    intro e
    injection e with e
    exact l.back e
  · rw [h]
    show ((92 : UInt8) == 10 || (92 : UInt8) == 59 || isW 92 || (92 :: letW c :: R).take 2 == [92, 10]) = false
    rw [show isW 92 = false by decide, show ((92 : UInt8) == 10) = false by decide, show ((92 : UInt8) == 59) = false by decide]
    simp only [Bool.false_or]
    rw [beq_eq_false_iff_ne]
    intro e
    injection e with _ e
    injection e with e
    exact letW_ne c e
theorem slashed_plain {x : Bs} (h : plainB x = true) : slashed x = x := by
  cases x with
  | nil => rfl
  | cons c r =>
    unfold plainB at h
    simp only [List.all_cons, Bool.and_eq_true, bne_iff_ne, Bool.not_eq_true', ne_eq, List.all_eq_true] at h
    have h2 : ∀ l : Bs, (∀ y ∈ l, isS y = false) → (l.map (slashB false)).flatten = l := by
      intro l
      induction l with
      | nil => intro _; rfl
      | cons y l ih =>
        intro hl
        simp only [List.map_cons, List.flatten_cons]
        rw [ih (fun z hz => hl z (List.mem_cons_of_mem _ hz))]
        unfold slashB
        rw [hl y (by simp)]
        rfl
    show slashB true c ++ (r.map (slashB false)).flatten = c :: r
    rw [h2 r h.2.2]
    unfold slashB
    rw [h.2.1, show (c == 35) = false by simpa using h.1]
    rfl
/-- The ways in which a word is quoted. -/
theorem quote_ways (x : Bs) : (∃ y, quote x = 123 :: (y ++ [125]) ∧ x = y ∧ (x = [] ∨ (balF x 0 = true ∧ Lib.contains x [92, 10] = false))) ∨ (x ≠ [] ∧ quote x = slashed x ∧ ∃ c r, slashed x = c :: r ∧ c ≠ 123 ∧ c ≠ 34 ∧ c ≠ 35 ∧ isW c = false ∧ c ≠ 59) := by
  unfold quote
  by_cases h0 : x = []
  · rw [if_pos h0]; left; exact ⟨[], by simp, h0, .inl h0⟩
  · rw [if_neg h0]
    have hd : ∃ c r, slashed x = c :: r ∧ c ≠ 123 ∧ c ≠ 34 ∧ c ≠ 35 ∧ isW c = false ∧ c ≠ 59 := by
      cases x with
      | nil => exact absurd rfl h0
      | cons c r =>
        rcases piece true c with ⟨h, l⟩ | ⟨h, _⟩
        · refine ⟨c, (r.map (slashB false)).flatten, by show slashB true c ++ _ = _; rw [h]; rfl, l.brace, l.quot, ?_, l.white, l.semi⟩
          intro e
          subst e
          revert h
          decide
        · exact ⟨92, letW c :: (r.map (slashB false)).flatten, by show slashB true c ++ _ = _; rw [h]; rfl, by decide, by decide, by decide, by decide, by decide⟩
    split
    · rename_i hp
      right
      exact ⟨h0, (slashed_plain hp).symm, hd⟩
    · split
      · rename_i hb
        left
        unfold balanced at hb
        simp only [Bool.and_eq_true, Bool.not_eq_true'] at hb
        exact ⟨x, rfl, rfl, .inr hb⟩
      · right
        exact ⟨h0, rfl, hd⟩
/-- The first byte of a quoted word. -/
theorem quote_head (x : Bs) : ∃ c r, quote x = c :: r ∧ isW c = false ∧ c ≠ 10 ∧ c ≠ 59 ∧ c ≠ 35 ∧ c ≠ 93 ∧ (∀ R, (quote x ++ R).take 2 ≠ [92, 10]) := by
  rcases quote_ways x with ⟨y, h, _⟩ | ⟨h0, h, c, r, h1, h2, h3, h4, h5, h6⟩
  · exact ⟨123, y ++ [125], h, by decide, by decide, by decide, by decide, by decide, fun R e => by rw [h] at e; injection e with e; revert e; decide⟩
  · have he : ∀ R, endW (quote x ++ R) = false := fun R => by
      rw [h]
      cases x with
      | nil => exact absurd rfl h0
      | cons a q =>
        have := piece_end true a ((q.map (slashB false)).flatten ++ R)
        rw [← List.append_assoc] at this
        exact this
    have hn := he []
    rw [List.append_nil, h, h1] at hn
    unfold endW at hn
    simp only [Bool.or_eq_false_iff] at hn
    refine ⟨c, r, by rw [h, h1], h5, by simpa using hn.1.1.1, h6, h4, ?_, fun R e => ?_⟩
    · intro e
      subst e
      cases x with
      | nil => exact absurd rfl h0
      | cons a q =>
        rcases piece true a with ⟨g, l⟩ | ⟨g, _⟩
        · have h1' : slashB true a ++ (q.map (slashB false)).flatten = 93 :: r := h1
          rw [g] at h1'
          injection h1' with e _
          exact l.close e
        · have h1' : slashB true a ++ (q.map (slashB false)).flatten = 93 :: r := h1
          rw [g] at h1'
          injection h1' with e _
          revert e; decide
    · have hR := he R
      rw [h, h1] at hR
      rw [h, h1] at e
      unfold endW at hR
      simp only [List.cons_append, Bool.or_eq_false_iff] at hR
      have := hR.2
      simp only [List.cons_append] at e
      rw [e] at this
      revert this
      decide
/-- The words of a list, one behind the other. -/
def restJ : List Bs → Bs
  | [] => []
  | x :: l => 32 :: (quote x ++ restJ l)
theorem join_rest : ∀ (x : Bs) (l : List Bs), joinL (x :: l) = quote x ++ restJ l
  | x, [] => by show quote x = quote x ++ []; simp
  | x, y :: l => by
    show quote x ++ 32 :: joinL (y :: l) = quote x ++ 32 :: (quote y ++ restJ l)
    rw [join_rest y l]
theorem restJ_rest (l : List Bs) : Rest (restJ l) := by
  cases l with
  | nil => exact .inl rfl
  | cons x l => exact .inr ⟨_, rfl⟩
end Go.Proofs.YteojlmpipfajoaaGreatDoor
