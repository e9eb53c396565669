/- NamesPaths: the plain law: the parts of a path, its canonical form, its head and its tail. -/
namespace Go.Proofs.YtjgdfgpnmmkjfaaGreatDoor
set_option linter.unusedVariables false
set_option linter.unusedSimpArgs false
abbrev NBs := List UInt8

/-- How many colons stand at the beginning. -/
def col : NBs → Nat
  | [] => 0
  | c :: r => if c = 58 then col r + 1 else 0
def emitP (p : NBs) : List NBs := if p = [] then [] else [p]
/-- The parts, read byte by byte: 'none' behind a separator. -/
def goN : Option NBs → NBs → List NBs
  | none, [] => []
  | some p, [] => emitP p
  | none, c :: r => if c = 58 then goN none r else goN (some [c]) r
  | some p, c :: r => if c = 58 ∧ r.head? = some 58 then emitP p ++ goN none r else goN (some (p ++ [c])) r
def bareL (s : NBs) : NBs := if col s = 1 then s.drop 1 else s
def bareR (s : NBs) : NBs := if s.getLast? = some 58 ∧ s.dropLast.getLast? ≠ some 58 then s.dropLast else s
def partsN (s : NBs) : List NBs := goN (some []) (bareR (bareL s))
def joinN : List NBs → NBs
  | [] => []
  | [p] => p
  | p :: r => p ++ 58 :: 58 :: joinN r
def rootN : NBs := [58, 58]
def canN (l : List NBs) : NBs := 58 :: 58 :: joinN l
def absN : NBs → Bool
  | 58 :: 58 :: _ => true
  | _ => false
def canonN (space path : NBs) : NBs := if absN path = true then canN (partsN path) else canN (partsN space ++ partsN path)
/-- Where the last separator begins and ends. -/
def lastN (s : NBs) : Nat → Option (Nat × Nat)
  | 0 => none
  | k + 1 => if 2 ≤ col (s.drop k) ∧ (k = 0 ∨ s[k-1]? ≠ some 58) then some (k, k + col (s.drop k)) else lastN s k
def cutN (s : NBs) : Option (Nat × Nat) := lastN s s.length
def headN (s : NBs) : NBs := match cutN s with | none => canonN rootN [] | some (f, _) => canonN rootN (s.take f)
def tailN (s : NBs) : NBs := match cutN s with | none => s | some (_, t) => s.drop t

/-- A part as it must be. -/
structure Gp (q : NBs) : Prop where
  h : ∃ c r, q = c :: r ∧ c ≠ 58
  l : q.getLast? ≠ some 58
  d : ∀ a b, q ≠ a ++ 58 :: 58 :: b

theorem goN_skip : ∀ s : NBs, goN none s = goN (some []) (s.drop (col s))
  | [] => rfl
  | c :: r => by
    rw [goN, col]
    split
    · rename_i h
      rw [goN_skip r]; rfl
    · rename_i h
      rw [List.drop_zero, goN, if_neg (fun e => h e.1)]; rfl
theorem goN_sep {p s : NBs} (h : 2 ≤ col s) : goN (some p) s = emitP p ++ goN (some []) (s.drop (col s)) := by
  match s, h with
  | c :: r, h =>
    rw [col] at h ⊢
    split at h
    · rename_i hc
      rw [if_pos hc]
      match r, h with
      | d :: t, h =>
        rw [col] at h
        split at h
        · rename_i hd
          rw [goN, if_pos ⟨hc, by rw [hd]; rfl⟩, goN_skip]; rfl
        · omega
    · omega
theorem goN_char {p s : NBs} {c : UInt8} (h : col (c :: s) < 2) : goN (some p) (c :: s) = goN (some (p ++ [c])) s := by
  rw [goN, if_neg]
  rintro ⟨rfl, h2⟩
  cases s with
  | nil => simp at h2
  | cons d t =>
    simp at h2
    subst h2
    simp [col] at h
    omega
/-- No lone colon at the end. -/
def EndOk (s : NBs) : Prop := s.getLast? = some 58 → s.dropLast.getLast? = some 58
theorem endOk_tail {c : UInt8} {r : NBs} (h : EndOk (c :: r)) (hn : ¬ (c = 58 ∧ r.head? = some 58)) : EndOk r := by
  intro hl
  match r, hl with
  | [d], hl =>
    exfalso
    simp at hl
    subst hl
    have := h (by simp)
    simp at this
    exact hn ⟨this, rfl⟩
  | d :: e :: t, hl =>
    have := h (by simpa using hl)
    simpa using this
theorem endOk_cons {c : UInt8} {r : NBs} (h : EndOk (c :: r)) (hr : r ≠ [58]) : EndOk r := by
  intro hl
  match r, hl with
  | [d], hl => simp at hl; subst hl; exact absurd rfl hr
  | d :: e :: t, hl =>
    have := h (by simpa using hl)
    simpa using this
theorem gp_snoc {p : NBs} {c : UInt8} (hd : ∀ a b, p ≠ a ++ 58 :: 58 :: b) (hl : p.getLast? = some 58 → c ≠ 58) : ∀ a b, p ++ [c] ≠ a ++ 58 :: 58 :: b := by
  intro a b he
  rcases List.eq_nil_or_concat b with rfl | ⟨b', x, rfl⟩
  · have h1 : p ++ [c] = (a ++ [58]) ++ [58] := by rw [he]; simp
    have h2 := List.append_inj' h1 rfl
    have h3 : c = 58 := by simpa using h2.2
    exact hl (by rw [h2.1]; simp) h3
  · have h1 : p ++ [c] = (a ++ 58 :: 58 :: b') ++ [x] := by rw [he]; simp
    have h2 := List.append_inj' h1 rfl
    exact hd _ _ h2.1
theorem goN_good : ∀ (s : NBs),
    (EndOk s ∨ s = [58] → ∀ q ∈ goN none s, Gp q) ∧
    (∀ p : NBs, EndOk s → (p = [] → s.head? = some 58 → s.tail.head? = some 58) → (∀ c r, p = c :: r → c ≠ 58) → (∀ a b, p ≠ a ++ 58 :: 58 :: b) → (p.getLast? = some 58 → s ≠ [] ∧ s.head? ≠ some 58) → ∀ q ∈ goN (some p) s, Gp q)
  | [] => by
    refine ⟨fun _ q hq => by simp [goN] at hq, fun p _ _ h1 h2 h3 q hq => ?_⟩
    rw [goN, emitP] at hq
    split at hq
    · cases hq
    · rename_i hp
      rw [List.mem_singleton] at hq
      subst hq
      cases q with
      | nil => exact absurd rfl hp
      | cons c r => exact ⟨⟨c, r, rfl, h1 c r rfl⟩, fun h => (h3 h).1 rfl, h2⟩
  | c :: r => by
    obtain ⟨i1, i2⟩ := goN_good r
    refine ⟨fun he q hq => ?_, fun p he h0 h1 h2 h3 q hq => ?_⟩
    · rw [goN] at hq
      split at hq
      · rename_i hc
        refine i1 ?_ q hq
        by_cases hr : r = [58]
        · exact .inr hr
        · rcases he with he | he
          · exact .inl (endOk_cons he hr)
          · left
            have : r = [] := by simpa using (List.cons.inj he).2
            subst this
            intro h; simp at h
      · rename_i hc
        have he' : EndOk (c :: r) := by
          rcases he with he | he
          · exact he
          · exact absurd (List.cons.inj he).1 hc
        refine i2 [c] (endOk_tail he' (fun e => hc e.1)) (fun h => by cases h) (fun c' r' e => by cases e; exact hc) (fun a b e => ?_) (fun h => by simp at h; exact absurd h hc) q hq
        have := congrArg List.length e
        simp at this
        omega
    · rw [goN] at hq
      split at hq
      · rename_i hc
        rw [List.mem_append] at hq
        rcases hq with hq | hq
        · rw [emitP] at hq
          split at hq
          · cases hq
          · rename_i hp
            rw [List.mem_singleton] at hq
            subst hq
            cases q with
            | nil => exact absurd rfl hp
            | cons c' r' => exact ⟨⟨c', r', rfl, h1 c' r' rfl⟩, fun h => (h3 h).2 (by simp [hc.1]), h2⟩
        · refine i1 ?_ q hq
          by_cases hr : r = [58]
          · exact .inr hr
          · exact .inl (endOk_cons he hr)
      · rename_i hc
        have hlast : p.getLast? = some 58 → c ≠ 58 := fun h e => (h3 h).2 (by simp [e])
        refine i2 (p ++ [c]) (endOk_tail he hc) (fun h => by simp at h) (fun c' r' e => ?_) (gp_snoc h2 hlast) (fun h => ?_) q hq
        · cases p with
          | nil =>
            simp at e
            obtain ⟨rfl, rfl⟩ := e
            intro e2
            subst e2
            exact hc ⟨rfl, by simpa using h0 rfl rfl⟩
          | cons x y => simp at e; obtain ⟨rfl, _⟩ := e; exact h1 _ _ rfl
        · have hc58 : c = 58 := by simpa using h
          subst hc58
          refine ⟨fun hr => ?_, fun hr => hc ⟨rfl, hr⟩⟩
          subst hr
          have := he (by simp)
          simp at this
theorem col_zero {c : UInt8} {r : NBs} (h : c ≠ 58) : col (c :: r) = 0 := by rw [col, if_neg h]
theorem bareL_of {s : NBs} (h : col s ≠ 1) : bareL s = s := if_neg h
theorem endOk_bareR (s : NBs) : EndOk (bareR s) := by
  unfold bareR
  split
  · rename_i h
    intro h2
    exact absurd h2 h.2
  · rename_i h
    intro h2
    by_cases h3 : s.dropLast.getLast? = some 58
    · exact h3
    · exact absurd ⟨h2, h3⟩ h
theorem bareL_head (s : NBs) : (bareL s).head? = some 58 → (bareL s).tail.head? = some 58 := by
  intro h
  unfold bareL at h ⊢
  split at h
  · rename_i h1
    cases s with
    | nil => simp at h
    | cons c r =>
      simp only [List.drop_one, List.tail_cons] at h
      cases r with
      | nil => simp at h
      | cons d t =>
        simp at h; subst h
        rw [col] at h1
        split at h1
        · simp [col] at h1
        · omega
  · rename_i h1
    rw [if_neg h1]
    cases s with
    | nil => simp at h
    | cons c r =>
      simp at h; subst h
      cases r with
      | nil => exact absurd rfl h1
      | cons d t =>
        by_cases hd : d = 58
        · simp [hd]
        · exfalso; apply h1; rw [col, if_pos rfl, col, if_neg hd]
theorem bareR_head {s : NBs} (h : s.head? = some 58 → s.tail.head? = some 58) : (bareR s).head? = some 58 → (bareR s).tail.head? = some 58 := by
  intro h1
  unfold bareR at h1 ⊢
  split at h1
  · rename_i h2
    rw [if_pos h2]
    match s, h, h1, h2 with
    | c :: d :: e :: t, h, h1, h2 =>
      simp at h1
      have := h (by simp [h1])
      simpa using this
    | [c, d], h, h1, h2 => simp at h1; subst h1; have := h (by simp); simp at this; subst this; simp at h2
    | [c], h, h1, h2 => simp at h1
    | [], h, h1, h2 => simp at h1
  · rename_i h2
    rw [if_neg h2]; exact h h1
theorem parts_good (s : NBs) : ∀ q ∈ partsN s, Gp q := by
  unfold partsN
  refine (goN_good _).2 [] (endOk_bareR _) (fun _ => bareR_head (bareL_head s)) (fun c r e => by cases e) (fun a b e => by cases a <;> cases e) (fun h => by simp at h)
/-- A part is read whole. -/
theorem goN_part : ∀ (q p t : NBs), (∀ a b, q ≠ a ++ 58 :: 58 :: b) → (q.getLast? = some 58 → t.head? ≠ some 58) → goN (some p) (q ++ t) = goN (some (p ++ q)) t
  | [], p, t, _, _ => by simp
  | c :: r, p, t, hd, hl => by
    have hn : ¬ (c = 58 ∧ (r ++ t).head? = some 58) := by
      rintro ⟨rfl, h2⟩
      cases r with
      | nil => exact hl (by simp) (by simpa using h2)
      | cons d u => simp at h2; subst h2; exact hd [] u rfl
    rw [List.cons_append, goN, if_neg hn, goN_part r (p ++ [c]) t (fun a b e => hd (c :: a) b (by rw [e]; rfl)) (fun h => hl (by
      cases r with
      | nil => simp at h
      | cons d u => simpa using h))]
    simp
theorem goN_dd (p s : NBs) : goN (some p) (58 :: 58 :: s) = emitP p ++ goN none s := by
  rw [goN, if_pos ⟨rfl, rfl⟩, goN, if_pos rfl]
theorem goN_join : ∀ l : List NBs, (∀ q ∈ l, Gp q) → goN none (joinN l) = l
  | [], _ => rfl
  | [q], h => by
    have g := h q (by simp)
    obtain ⟨c, r, rfl, hc⟩ := g.h
    rw [joinN, goN, if_neg hc]
    have h1 := goN_part r [c] [] (fun a b e => g.d (c :: a) b (by rw [e]; rfl)) (fun _ => by simp)
    rw [List.append_nil] at h1
    rw [h1, goN, emitP]; simp
  | q :: q2 :: l, h => by
    have g := h q (by simp)
    have ih := goN_join (q2 :: l) (fun x hx => h x (List.mem_cons_of_mem _ hx))
    obtain ⟨c, r, rfl, hc⟩ := g.h
    rw [joinN]
    · rw [List.cons_append, goN, if_neg hc, goN_part r [c] _ (fun a b e => g.d (c :: a) b (by rw [e]; rfl)) (fun hl => by
        exfalso
        cases r with
        | nil => simp at hl
        | cons d u => exact g.l (by simpa using hl)), goN_dd, ih, emitP]
      simp
    · simp
theorem join_last : ∀ l : List NBs, (∀ q ∈ l, Gp q) → (joinN l).getLast? ≠ some 58
  | [], _ => by simp [joinN]
  | [q], h => (h q (by simp)).l
  | q :: q2 :: l, h => by
    have ih := join_last (q2 :: l) (fun x hx => h x (List.mem_cons_of_mem _ hx))
    have hne : joinN (q2 :: l) ≠ [] := by
      obtain ⟨c, r, rfl, _⟩ := (h q2 (by simp)).h
      cases l <;> simp [joinN]
    rw [joinN]
    · intro hl
      apply ih
      rw [List.getLast?_append] at hl
      obtain ⟨x, y, hxy⟩ := List.exists_cons_of_ne_nil hne
      rw [hxy] at hl ⊢
      simpa using hl
    · simp
theorem parts_can (l : List NBs) (h : ∀ q ∈ l, Gp q) : partsN (canN l) = l := by
  have hb : bareR (bareL (canN l)) = canN l := by
    rw [bareL_of (by unfold canN; simp [col])]
    unfold bareR
    rw [if_neg]
    rintro ⟨h1, h2⟩
    unfold canN at h1 h2
    cases hj : joinN l with
    | nil => rw [hj] at h2; simp at h2
    | cons x y =>
      rw [hj] at h1
      exact join_last l h (by rw [hj]; simpa using h1)
  unfold partsN
  rw [hb]
  unfold canN
  rw [goN_dd, goN_join l h]; rfl
theorem canon_good (space path : NBs) : ∃ l, canonN space path = canN l ∧ ∀ q ∈ l, Gp q := by
  unfold canonN
  split
  · exact ⟨_, rfl, parts_good path⟩
  · exact ⟨_, rfl, fun q hq => by rcases List.mem_append.1 hq with h | h; exact parts_good _ q h; exact parts_good _ q h⟩
/-- 'Canonical' is its own. -/
theorem canon_self (space space' path : NBs) : canonN space' (canonN space path) = canonN space path := by
  obtain ⟨l, e, h⟩ := canon_good space path
  rw [e]
  unfold canonN
  rw [if_pos (show absN (canN l) = true from rfl), parts_can l h]
theorem parts_root : partsN rootN = [] := by decide
theorem canon_root (path : NBs) : canonN rootN path = canN (partsN path) := by
  unfold canonN
  rw [parts_root]; split <;> rfl
theorem col_skip : ∀ (m B : NBs), (∀ x ∈ m, x = 58) → B.head? ≠ some 58 → goN none (m ++ B) = goN (some []) B
  | [], B, _, hB => by
    rw [List.nil_append, goN_skip]
    cases B with
    | nil => rfl
    | cons c r => rw [col_zero (fun e => hB (by simp [e]))]; rfl
  | c :: m, B, hm, hB => by
    rw [List.cons_append, goN, if_pos (hm c (by simp)), col_skip m B (fun x hx => hm x (List.mem_cons_of_mem _ hx)) hB]
theorem goN_split (m B : NBs) (hm : ∀ x ∈ m, x = 58) (hB : B.head? ≠ some 58) : ∀ A : NBs, A.getLast? ≠ some 58 →
    goN none (A ++ 58 :: 58 :: (m ++ B)) = goN none A ++ goN (some []) B ∧ ∀ p, goN (some p) (A ++ 58 :: 58 :: (m ++ B)) = goN (some p) A ++ goN (some []) B
  | [], _ => by
    refine ⟨?_, fun p => ?_⟩
    · have e : goN none (58 :: 58 :: (m ++ B)) = goN none (m ++ B) := by simp [goN]
      rw [List.nil_append, e, col_skip m B hm hB]; rfl
    · rw [List.nil_append, goN_dd, col_skip m B hm hB]; rfl
  | c :: r, hl => by
    have hr : r.getLast? ≠ some 58 := by
      cases r with
      | nil => simp
      | cons d t => simpa using hl
    obtain ⟨i1, i2⟩ := goN_split m B hm hB r hr
    refine ⟨?_, fun p => ?_⟩
    · rw [List.cons_append, goN, goN]
      split
      · exact i1
      · exact i2 [c]
    · rw [List.cons_append, goN, goN]
      have hh : (c = 58 ∧ (r ++ 58 :: 58 :: (m ++ B)).head? = some 58) ↔ (c = 58 ∧ r.head? = some 58) := by
        cases r with
        | nil =>
          simp only [List.nil_append, List.head?_cons, List.head?_nil]
          constructor
          · rintro ⟨rfl, _⟩; simp at hl
          · rintro ⟨_, h⟩; cases h
        | cons d t => simp
      by_cases h : c = 58 ∧ r.head? = some 58
      · rw [if_pos h, if_pos (hh.2 h), i1, List.append_assoc]
      · rw [if_neg h, if_neg (fun e => h (hh.1 e)), i2]
theorem col_app : ∀ (A X : NBs), A ≠ [] → A.getLast? ≠ some 58 → col (A ++ X) = col A
  | [], _, h, _ => absurd rfl h
  | c :: r, X, _, hl => by
    rw [List.cons_append, col, col]
    by_cases hc : c = 58
    · rw [if_pos hc, if_pos hc]
      cases r with
      | nil => subst hc; simp at hl
      | cons d t => rw [col_app (d :: t) X (by simp) (by simpa using hl)]
    · rw [if_neg hc, if_neg hc]
theorem bareL_app {A X : NBs} (hl : A.getLast? ≠ some 58) (hX : col X ≠ 1) : bareL (A ++ X) = bareL A ++ X ∧ (bareL A).getLast? ≠ some 58 := by
  cases A with
  | nil => exact ⟨by rw [List.nil_append, bareL_of hX, bareL_of (by simp [col])]; rfl, by rw [bareL_of (by simp [col])]; simp⟩
  | cons c r =>
    unfold bareL
    rw [col_app (c :: r) X (by simp) hl]
    split
    · refine ⟨rfl, ?_⟩
      simp only [List.drop_one, List.tail_cons]
      cases r with
      | nil => simp
      | cons d t => simpa using hl
    · exact ⟨rfl, hl⟩
theorem bareR_app {X B : NBs} (hB : B ≠ []) (hh : B.head? ≠ some 58) : bareR (X ++ B) = X ++ bareR B := by
  obtain ⟨c, r, rfl⟩ := List.exists_cons_of_ne_nil hB
  unfold bareR
  have e1 : (X ++ c :: r).getLast? = (c :: r).getLast? := by rw [List.getLast?_append]; simp [List.getLast?_cons]
  have e2 : (X ++ c :: r).dropLast = X ++ (c :: r).dropLast := List.dropLast_append_of_ne_nil (by simp)
  rw [e1, e2]
  cases r with
  | nil =>
    have hc : ¬ c = 58 := fun e => hh (by simp [e])
    simp [hc]
  | cons d t =>
    have e3 : (X ++ (c :: d :: t).dropLast).getLast? = ((c :: d :: t).dropLast).getLast? := by
      rw [List.getLast?_append]; simp [List.getLast?_cons]
    rw [e3]
    split <;> rfl
theorem bareR_of {A : NBs} (h : A.getLast? ≠ some 58) : bareR A = A := if_neg (fun e => h e.1)
theorem parts_cut {A m B : NBs} (hA : A.getLast? ≠ some 58) (hm : ∀ x ∈ m, x = 58) (hB : B ≠ []) (hh : B.head? ≠ some 58) : partsN (A ++ 58 :: 58 :: (m ++ B)) = partsN A ++ partsN B := by
  obtain ⟨h1, h2⟩ := bareL_app (X := 58 :: 58 :: (m ++ B)) hA (by simp [col])
  have h3 : bareL B = B := by
    obtain ⟨c, r, rfl⟩ := List.exists_cons_of_ne_nil hB
    exact bareL_of (by rw [col_zero (fun e => hh (by simp [e]))]; omega)
  have h4 : bareR (bareL A ++ 58 :: 58 :: (m ++ B)) = bareL A ++ 58 :: 58 :: (m ++ bareR B) := by
    have h5 := bareR_app (X := bareL A ++ 58 :: 58 :: m) hB hh
    simpa using h5
  have hh2 : (bareR B).head? ≠ some 58 := by
    obtain ⟨c, r, rfl⟩ := List.exists_cons_of_ne_nil hB
    unfold bareR
    split
    · cases r with
      | nil => simp
      | cons d t => simpa using hh
    · exact hh
  unfold partsN
  rw [h1, h4, h3, bareR_of h2]
  exact (goN_split m (bareR B) hm hh2 (bareL A) h2).2 []
/-- A run of colons that begins at k. -/
def RunAt (s : NBs) (k : Nat) : Prop := 2 ≤ col (s.drop k) ∧ (k = 0 ∨ s[k-1]? ≠ some 58)
theorem last_none {s : NBs} : ∀ {k : Nat}, lastN s k = none → ∀ j, j < k → ¬ RunAt s j
  | 0, _, j, h => by omega
  | k + 1, hn, j, h => by
    rw [lastN] at hn
    split at hn
    · cases hn
    · rename_i h1
      by_cases he : j = k
      · subst he; exact h1
      · exact last_none hn j (by omega)
theorem last_some {s : NBs} {f t : Nat} : ∀ {k : Nat}, lastN s k = some (f, t) → f < k ∧ RunAt s f ∧ t = f + col (s.drop f) ∧ ∀ j, f < j → j < k → ¬ RunAt s j
  | 0, h => by cases h
  | k + 1, h => by
    rw [lastN] at h
    split at h
    · rename_i h1
      cases h
      exact ⟨by omega, h1, rfl, fun j h2 h3 => by omega⟩
    · rename_i h1
      obtain ⟨h2, h3, h4, h5⟩ := last_some h
      refine ⟨by omega, h3, h4, fun j h6 h7 => ?_⟩
      by_cases he : j = k
      · subst he; exact h1
      · exact h5 j h6 (by omega)
theorem col_drop_pred {s : NBs} {j : Nat} (h : s[j]? = some 58) : col (s.drop j) = col (s.drop (j + 1)) + 1 := by
  obtain ⟨hj, he⟩ := List.getElem?_eq_some_iff.1 h
  rw [List.drop_eq_getElem_cons hj, col, if_pos he]
theorem run_start {s : NBs} {t0 : Nat} (h0 : t0 = 0 ∨ s[t0]? ≠ some 58) : ∀ j, t0 ≤ j → 2 ≤ col (s.drop j) → ∃ j0, t0 ≤ j0 ∧ j0 ≤ j ∧ RunAt s j0
  | 0, h1, h2 => ⟨0, h1, Nat.le_refl _, h2, .inl rfl⟩
  | j + 1, h1, h2 => by
    by_cases hp : s[j]? = some 58
    · have hc := col_drop_pred hp
      have hne : t0 ≠ j + 1 := by
        rintro rfl
        rcases h0 with h0 | h0
        · omega
        · apply h0
          cases hd : s.drop (j + 1) with
          | nil => rw [hd] at h2; simp [col] at h2
          | cons c r =>
            rw [hd, col] at h2
            split at h2
            · rename_i hcc
              have := congrArg (·[0]?) hd
              simp at this
              rw [this, hcc]
            · omega
      obtain ⟨j0, a, b, c⟩ := run_start h0 j (by omega) (by omega)
      exact ⟨j0, a, by omega, c⟩
    · exact ⟨j + 1, h1, Nat.le_refl _, h2, .inr (by simpa using hp)⟩
theorem col_le : ∀ s : NBs, col s ≤ s.length
  | [] => Nat.le_refl _
  | c :: r => by rw [col]; split <;> simp <;> have := col_le r <;> omega
theorem col_take : ∀ s : NBs, (∀ x ∈ s.take (col s), x = 58) ∧ (s.drop (col s)).head? ≠ some 58
  | [] => by simp [col]
  | c :: r => by
    obtain ⟨h1, h2⟩ := col_take r
    rw [col]
    split
    · rename_i hc
      refine ⟨fun x hx => ?_, by simpa using h2⟩
      rw [List.take_succ_cons] at hx
      rcases List.mem_cons.1 hx with rfl | hx
      · exact hc
      · exact h1 x hx
    · rename_i hc
      exact ⟨by simp, by simpa using hc⟩
theorem no_dd {s : NBs} (h : ∀ j, ¬ 2 ≤ col (s.drop j)) : ∀ a b, s ≠ a ++ 58 :: 58 :: b := by
  rintro a b rfl
  exact h a.length (by simp [col])
theorem abs_not {s : NBs} (h : ∀ a b, s ≠ a ++ 58 :: 58 :: b) : absN s = false := by
  match s, h with
  | [], _ => rfl
  | [c], _ =>
    unfold absN
    split
    · rename_i e; simp at e
    · rfl
  | c :: d :: r, h =>
    cases hb : absN (c :: d :: r) with
    | false => rfl
    | true =>
      exfalso
      by_cases hc : c = 58
      · by_cases hd : d = 58
        · subst hc hd; exact h [] r rfl
        · unfold absN at hb; split at hb
          · rename_i e; cases e; exact hd rfl
          · cases hb
      · unfold absN at hb; split at hb
        · rename_i e; cases e; exact hc rfl
        · cases hb
theorem abs_not_head {c d : UInt8} {r : NBs} (h : c ≠ 58 ∨ d ≠ 58) : absN (c :: d :: r) = false := by
  cases hb : absN (c :: d :: r) with
  | false => rfl
  | true =>
    exfalso
    unfold absN at hb; split at hb
    · rename_i e; cases e; rcases h with h | h <;> exact h rfl
    · cases hb
/-- Head and tail put together are the path. -/
theorem head_tail (path : NBs) (ht : tailN path ≠ []) : canonN (headN path) (tailN path) = canonN rootN path := by
  unfold headN tailN at *
  cases hc : cutN path with
  | none => rfl
  | some ft =>
    obtain ⟨f, t⟩ := ft
    rw [hc] at ht
    simp only at ht ⊢
    obtain ⟨h1, h2, h3, h4⟩ := last_some hc
    obtain ⟨q1, q2⟩ := col_take (path.drop f)
    have hcl := col_le (path.drop f)
    rw [List.drop_drop, ← h3] at q2
    obtain ⟨B, hB⟩ : ∃ B, B = path.drop t := ⟨_, rfl⟩
    obtain ⟨A, hA⟩ : ∃ A, A = path.take f := ⟨_, rfl⟩
    rw [← hB] at ht q2 ⊢
    rw [← hA]
    obtain ⟨n, hn⟩ : ∃ n, col (path.drop f) = n + 2 := ⟨col (path.drop f) - 2, by have := h2.1; omega⟩
    have hM : (path.drop f).take (n + 2) = 58 :: 58 :: List.replicate n 58 := by
      rw [hn] at q1
      have : ∀ (k : Nat) (l : NBs), k ≤ l.length → (∀ x ∈ l.take k, x = 58) → l.take k = List.replicate k 58 := by
        intro k l hk hx
        exact List.eq_replicate_iff.2 ⟨by simp; omega, hx⟩
      rw [this (n + 2) _ (by omega) q1]; rfl
    have hp : path = A ++ 58 :: 58 :: (List.replicate n 58 ++ B) := by
      have e1 : path = path.take f ++ path.drop f := (List.take_append_drop f path).symm
      have e2 : path.drop f = (path.drop f).take (n + 2) ++ (path.drop f).drop (n + 2) := (List.take_append_drop _ _).symm
      rw [List.drop_drop, hM, show f + (n + 2) = t by omega, ← hB] at e2
      rw [← hA, e2] at e1
      simpa using e1
    have hAl : A.getLast? ≠ some 58 := by
      rcases h2.2 with h | h
      · subst h; rw [hA]; simp
      · rw [hA]
        intro hl
        apply h
        rw [List.getLast?_eq_getElem?] at hl
        have hfl : f ≤ path.length := by
          rcases Nat.lt_or_ge path.length f with h | h
          · have h5 := h2.1
            rw [List.drop_eq_nil_of_le (by omega)] at h5
            simp [col] at h5
          · exact h
        have hf0 : 0 < f := by
          rcases Nat.eq_zero_or_pos f with h | h
          · subst h; simp at hl
          · exact h
        rw [List.length_take, Nat.min_eq_left hfl, List.getElem?_take, if_pos (by omega)] at hl
        exact hl
    have hno : ∀ j, ¬ 2 ≤ col (B.drop j) := by
      intro j hj
      rw [hB, List.drop_drop] at hj
      have h0 : path[t]? ≠ some 58 := by
        rw [hB, List.head?_drop] at q2; exact q2
      obtain ⟨j0, a, b, c⟩ := run_start (.inr h0) (t + j) (by omega) hj
      have hjl : j0 < path.length := by
        rcases Nat.lt_or_ge j0 path.length with h | h
        · exact h
        · have h5 := c.1
          rw [List.drop_eq_nil_of_le h] at h5
          simp [col] at h5
      exact h4 j0 (by have := h2.1; omega) hjl c
    have ha := abs_not (no_dd hno)
    rw [canon_root, canon_root]
    unfold canonN
    rw [if_neg (by rw [ha]; simp), parts_can _ (parts_good A)]
    rw [← parts_cut hAl (fun x hx => List.eq_of_mem_replicate hx) ht q2, ← hp]
end Go.Proofs.YtjgdfgpnmmkjfaaGreatDoor
