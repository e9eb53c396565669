/- Patterns, plainly, on: both readings of a pattern; escaped texts; stars. -/
import Derived.Test.YtkjeccndbdgghaaGlobLaw
namespace Go.Proofs.Ytkjeccndbdgghaa

theorem any_or3 (f g h : UInt8 × UInt8 → Bool) (b : Bool) (l : List (UInt8 × UInt8)) : l.any (fun p => f p || b && (g p || h p)) = (l.any f || b && (l.any g || l.any h)) := by
  rw [Bool.eq_iff_iff]
  simp only [List.any_eq_true, Bool.or_eq_true, Bool.and_eq_true]
  constructor
  · rintro ⟨x, hx, h1 | ⟨h0, h1 | h1⟩⟩
    · exact .inl ⟨x, hx, h1⟩
    · exact .inr ⟨h0, .inl ⟨x, hx, h1⟩⟩
    · exact .inr ⟨h0, .inr ⟨x, hx, h1⟩⟩
  · rintro (⟨x, hx, h1⟩ | ⟨h0, ⟨x, hx, h1⟩ | ⟨x, hx, h1⟩⟩)
    · exact ⟨x, hx, .inl h1⟩
    · exact ⟨x, hx, .inr ⟨h0, .inl h1⟩⟩
    · exact ⟨x, hx, .inr ⟨h0, .inr h1⟩⟩
theorem part_set (fold : Bool) (s : Bs) : toPart fold (.set s) = some (fun x => inC s x fold) := by
  show some _ = some _
  congr 1
  funext x
  exact (any_or3 (fun p => inP p x) (fun p => inP p (lowB x)) (fun p => inP p (upB x)) fold (spansL s)).symm
theorem part_one (fold : Bool) (d : UInt8) : toPart fold (.one d) = some (lit fold d) := by
  show some _ = some _
  congr 1
  funext x
  show (d == x || fold && lowB d == lowB x) = (x == d || fold && lowB x == lowB d)
  rw [show (d == x) = (x == d) from BEq.comm, show (lowB d == lowB x) = (lowB x == lowB d) from BEq.comm]

/-- Nothing matches what ends in the midst of a set. -/
theorem mt_never {x : Part} {l : List Part} (h : ∀ s, mt l s = false) (s : Bs) : mt (x :: l) s = false := by
  cases x with
  | none =>
    show mstar (mt l) s = false
    rw [← Bool.not_eq_true, mstar_iff]
    rintro ⟨j, _, h2⟩
    rw [h] at h2; cases h2
  | some p =>
    cases s with
    | nil => rfl
    | cons c t => show (p c && mt l t) = false; rw [h]; simp
theorem mt_bad (fold : Bool) (s : Bs) : mt [toPart fold .none] s = false := by
  cases s with
  | nil => rfl
  | cons c t => rfl

def Same (fold : Bool) (p : Bs) : Prop := match stepsA inC fold p with
  | some l => l = (partsA p).map (toPart fold)
  | none => ∀ s, mt ((partsA p).map (toPart fold)) s = false
theorem same_cons {fold : Bool} {p r : Bs} {x : RP} {y : Part} (h : Same fold r) (h1 : stepsA inC fold p = (stepsA inC fold r).map (y :: ·)) (h2 : partsA p = x :: partsA r) (h3 : y = toPart fold x) : Same fold p := by
  unfold Same at h ⊢
  rw [h1, h2]
  cases hs : stepsA inC fold r with
  | none => rw [hs] at h; exact fun s => mt_never h s
  | some l => rw [hs] at h; show y :: l = _; rw [List.map_cons, h3, h]

theorem same_all (fold : Bool) : ∀ (n : Nat) (p : Bs), p.length ≤ n → Same fold p
  | _, [], _ => rfl
  | 0, c :: r, h => by simp at h
  | n + 1, c :: r, h => by
    simp only [List.length_cons] at h
    have ih := fun q (hq : q.length ≤ n) => same_all fold n q hq
    by_cases h42 : c = 42
    · subst h42; exact same_cons (ih r (by omega)) stepsA_star partsA_star rfl
    · by_cases h63 : c = 63
      · subst h63; exact same_cons (ih r (by omega)) stepsA_any partsA_any rfl
      · by_cases h91 : c = 91
        · subst h91
          by_cases hneg : Lib.indexByte r 93 < 0
          · unfold Same
            rw [stepsA_bad hneg, partsA_bad hneg]
            exact mt_bad fold
          · exact same_cons (ih _ (by simp; omega)) (stepsA_set hneg) (partsA_set hneg) (part_set fold _).symm
        · by_cases h92 : c = 92 ∧ r ≠ []
          · obtain ⟨rfl, hr⟩ := h92
            cases r with
            | nil => exact absurd rfl hr
            | cons d r' => exact same_cons (ih r' (by simp at h; omega)) stepsA_esc partsA_esc (part_one fold d).symm
          · exact same_cons (ih r (by omega)) (stepsA_lit h42 h63 h91 h92) (partsA_lit h42 h63 h91 h92) (part_one fold c).symm

theorem globC_match (p s : Bs) (fold : Bool) : globC p s fold = matchP fold p s := by
  have h := same_all fold p.length p (Nat.le_refl _)
  unfold Same at h
  unfold globC matchP
  cases hs : stepsA inC fold p with
  | none => rw [hs] at h; exact (h s).symm
  | some l => rw [hs] at h; rw [← h]; exact (gm_mt l s).1

/-- A text, each byte behind a backslash. -/
def esc (s : Bs) : Bs := s.flatMap fun c => [92, c]
theorem esc_snoc (s : Bs) (c : UInt8) : esc (s ++ [c]) = esc s ++ [92, c] := by simp [esc]
theorem esc_len (s : Bs) : (esc s).length = 2 * s.length := by
  induction s with
  | nil => rfl
  | cons c t ih => show ([92, c] ++ esc t).length = _; rw [List.length_append, ih]; simp; omega
theorem parts_esc : ∀ s : Bs, partsA (esc s) = s.map .one
  | [] => rfl
  | c :: t => by
    show partsA (92 :: c :: esc t) = _
    rw [partsA_esc, parts_esc t]; rfl
theorem match_esc : ∀ s t : Bs, matchP false (esc s) t = decide (s = t) := by
  intro s
  unfold matchP
  rw [parts_esc]
  induction s with
  | nil => intro t; cases t <;> rfl
  | cons c s ih =>
    intro t
    cases t with
    | nil => simp [toPart, mt]
    | cons d t =>
      show ((c == d || false && lowB c == lowB d) && mt ((s.map .one).map (toPart false)) t) = _
      rw [ih t, Bool.false_and, Bool.or_false, Bool.eq_iff_iff]
      simp
theorem match_star (fold : Bool) (s : Bs) : matchP fold [42] s = true := by
  show mstar (mt []) s = true
  rw [mstar_iff]
  exact ⟨s.length, Nat.le_refl _, by rw [List.drop_length]; rfl⟩

theorem mt_more (more : Bs) : ∀ (l : List Part) (s : Bs), mt l s = true → mt (l ++ [none]) (s ++ more) = true
  | [], s, h => by
    have : s = [] := by simpa [mt] using h
    subst this
    show mstar (mt []) more = true
    rw [mstar_iff]
    exact ⟨more.length, Nat.le_refl _, by rw [List.drop_length]; rfl⟩
  | none :: r, s, h => by
    obtain ⟨j, h1, h2⟩ := (mstar_iff _ _).1 h
    refine (mstar_iff _ _).2 ⟨j, by simp; omega, ?_⟩
    rw [List.drop_append_of_le_length h1]
    exact mt_more more r _ h2
  | some p :: r, [], h => by cases h
  | some p :: r, c :: t, h => by
    rw [mt, Bool.and_eq_true] at h
    show (p c && mt (r ++ [none]) (t ++ more)) = true
    rw [h.1, mt_more more r t h.2]; rfl

theorem indexByte_append {r t : Bs} {c : UInt8} (h : ¬ Lib.indexByte r c < 0) : Lib.indexByte (r ++ t) c = Lib.indexByte r c := by
  induction r with
  | nil => simp [Lib.indexByte] at h
  | cons b r ih =>
    rw [List.cons_append]
    unfold Lib.indexByte
    by_cases hb : (b == c) = true
    · rw [if_pos hb, if_pos hb]
    · rw [if_neg hb, if_neg hb]
      have h2 : ¬ Lib.indexByte r c < 0 := by
        intro h3
        apply h
        unfold Lib.indexByte
        rw [if_neg hb]
        have := Lib.indexByte_ge r c
        rw [show Lib.indexByte r c = -1 from by omega]; decide
      rw [ih h2]
theorem indexByte_len {r : Bs} {c : UInt8} (h : ¬ Lib.indexByte r c < 0) : (Lib.indexByte r c).toNat < r.length := by
  obtain ⟨k, hk⟩ : ∃ k : Nat, Lib.indexByte r c = k := ⟨(Lib.indexByte r c).toNat, by omega⟩
  have := (List.getElem?_eq_some_iff.1 (Lib.indexByte_some hk).1).1
  rw [hk]; exact this

/-- The last byte is no backslash. -/
def Whole (p : Bs) : Prop := ∀ d, p.getLast? = some d → d ≠ 92
theorem Whole.tail {c : UInt8} {r : Bs} (h : Whole (c :: r)) : Whole r := by
  intro d hd
  cases r with
  | nil => simp at hd
  | cons b t => exact h d (by rw [List.getLast?_cons_cons]; exact hd)
theorem Whole.drop {r : Bs} (h : Whole r) : ∀ k, Whole (r.drop k)
  | 0 => h
  | k + 1 => by
    cases r with
    | nil => simpa using h
    | cons c t => exact (h.tail).drop k

def Starred (fold : Bool) (p : Bs) : Prop := partsA (p ++ [42]) = partsA p ++ [.many] ∨ ∀ s, mt ((partsA p).map (toPart fold)) s = false
theorem starred_cons {fold : Bool} {p r : Bs} {x : RP} (h : Starred fold r) (h1 : partsA (p ++ [42]) = x :: partsA (r ++ [42])) (h2 : partsA p = x :: partsA r) : Starred fold p := by
  rcases h with h | h
  · exact .inl (by rw [h1, h2, h]; rfl)
  · exact .inr fun s => by rw [h2]; exact mt_never h s
theorem starred_all (fold : Bool) : ∀ (n : Nat) (p : Bs), p.length ≤ n → Whole p → Starred fold p
  | _, [], _, _ => .inl rfl
  | 0, c :: r, h, _ => by simp at h
  | n + 1, c :: r, h, hw => by
    simp only [List.length_cons] at h
    have ih := fun q (hq : q.length ≤ n) (hw : Whole q) => starred_all fold n q hq hw
    by_cases h42 : c = 42
    · subst h42; exact starred_cons (ih r (by omega) hw.tail) partsA_star partsA_star
    · by_cases h63 : c = 63
      · subst h63; exact starred_cons (ih r (by omega) hw.tail) partsA_any partsA_any
      · by_cases h91 : c = 91
        · subst h91
          by_cases hneg : Lib.indexByte r 93 < 0
          · right
            rw [partsA_bad hneg]
            exact mt_bad fold
          · have hlt := indexByte_len hneg
            refine starred_cons (ih _ (by simp; omega) (hw.tail.drop _)) ?_ (partsA_set hneg)
            have h1 := indexByte_append (t := [42]) hneg
            rw [List.cons_append, partsA_set (by rw [h1]; exact hneg), h1, List.take_append_of_le_length (by omega), List.drop_append_of_le_length (by omega)]
        · by_cases h92 : c = 92
          · subst h92
            cases r with
            | nil => exact absurd rfl (hw 92 rfl)
            | cons d r' => exact starred_cons (ih r' (by simp at h; omega) hw.tail.tail) partsA_esc partsA_esc
          · exact starred_cons (ih r (by omega) hw.tail) (partsA_lit h42 h63 h91 (by simp [h92])) (partsA_lit h42 h63 h91 (by simp [h92]))
theorem match_more {p s : Bs} (more : Bs) (hw : Whole p) (h : matchP false p s = true) : matchP false (p ++ [42]) (s ++ more) = true := by
  rcases starred_all false p.length p (Nat.le_refl _) hw with h1 | h1
  · unfold matchP
    rw [h1, List.map_append]
    exact mt_more more _ _ h
  · rw [matchP, h1] at h; cases h
end Go.Proofs.Ytkjeccndbdgghaa
