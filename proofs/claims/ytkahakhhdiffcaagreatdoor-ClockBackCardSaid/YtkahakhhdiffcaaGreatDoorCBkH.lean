/- The forms of ClockBack: what their parts and letters are. Plain. ClockBack's texts: letters behind percent signs, joined, replaced, looked for. Plain. How long what ClockBack writes is. Plain. -/
import Derived.Test.YtkahakhhdiffcaaGreatDoorCBkT
import Derived.Lib.Join
import Derived.Lib.IndexMore
namespace Go.Proofs.YtkahakhhdiffcaaGreatDoor
set_option linter.unusedVariables false
set_option linter.unusedSimpArgs false
/-- What a letter of a form stands for, letter by letter. -/
def expB (c : UInt8) : Bs := if c = 68 then [109, 100, 89] else if c = 84 then [72, 77, 83] else [c]
def usedB (toks : Bs) : Bs := toks.flatMap expB
def addB (toks : Bs) (c : UInt8) : Bs := if c ∈ usedB toks then toks else toks ++ [c]
def lettersB : Bs := [89, 121, 109, 100, 72, 77, 83, 101, 73, 112, 106, 117, 71, 86, 66, 98, 65, 97, 115]
def groupsB : List Bs := [[89, 109, 100, 72, 77, 83], [89, 106, 84], [68, 73, 112, 77, 83], [115], [89, 66, 101, 84]]
def partQB (c : UInt8) : List Part := if c = 68 then partD else if c = 84 then partT else [([], c)]
def fparts (b : UInt8) : Bs → List Part
  | [] => []
  | [c] => partQB c
  | c :: d :: r => partQB c ++ ([b], 0) :: fparts b (d :: r)
def formB (b : UInt8) : Bs → Bs
  | [] => []
  | [c] => [37, c]
  | c :: d :: r => 37 :: c :: b :: formB b (d :: r)
/-- A token: D, T or a letter. -/
def TokB (c : UInt8) : Prop := c = 68 ∨ c = 84 ∨ (c ≠ 68 ∧ c ≠ 84 ∧ c ≠ 37 ∧ c ≠ 0 ∧ (info (c.toNat : Int)).isSome = true)
theorem tok_part {c : UInt8} (h : TokB c) : partC c = some (partQB c) ∧ letsL (partQB c) = expB c := by
  rcases h with rfl | rfl | ⟨h1, h2, h3, h0, h4⟩
  · exact ⟨by decide, by decide⟩
  · exact ⟨by decide, by decide⟩
  · unfold partC partQB expB
    rw [if_neg h3, if_neg h1, if_neg h2, if_pos h4, if_neg h1, if_neg h2, if_neg h1, if_neg h2]
    exact ⟨rfl, by simp [letsL, h0]⟩
theorem form_parts {b : UInt8} (hb : b ≠ 37) : ∀ toks : Bs, (∀ c ∈ toks, TokB c) → partsC (formB b toks) = some (fparts b toks)
  | [], _ => rfl
  | [c], h => by
    show partsC (37 :: c :: []) = some (partQB c)
    rw [partsC_letter, (tok_part (h c (by simp))).1]
    show (partsC []).map (partQB c ++ ·) = _
    show some (partQB c ++ []) = _
    rw [List.append_nil]
  | c :: d :: r, h => by
    show partsC (37 :: c :: b :: formB b (d :: r)) = some (partQB c ++ ([b], 0) :: fparts b (d :: r))
    rw [partsC_letter, (tok_part (h c (by simp))).1, partsC_plain hb, form_parts hb (d :: r) (fun x hx => h x (by simp at hx ⊢; right; exact hx))]
    rfl
theorem fparts_lets (b : UInt8) : ∀ toks : Bs, (∀ c ∈ toks, TokB c) → letsL (fparts b toks) = usedB toks
  | [], _ => rfl
  | [c], h => by
    show letsL (partQB c) = expB c ++ []
    rw [(tok_part (h c (by simp))).2, List.append_nil]
  | c :: d :: r, h => by
    have hl : letsL (([b], 0) :: fparts b (d :: r)) = letsL (fparts b (d :: r)) := by rw [letsL, if_pos rfl]
    show letsL (partQB c ++ ([b], 0) :: fparts b (d :: r)) = expB c ++ usedB (d :: r)
    have hap : ∀ x y : List Part, letsL (x ++ y) = letsL x ++ letsL y := by
      intro x y
      induction x with
      | nil => rfl
      | cons p x ih =>
        rw [List.cons_append, letsL, letsL]
        split
        · exact ih
        · rw [ih]; rfl
    rw [hap, hl, (tok_part (h c (by simp))).2, fparts_lets b (d :: r) (fun x hx => h x (by simp at hx ⊢; right; exact hx))]
/-- Behind the last letter stands the end, or what separates. -/
theorem sep_app : ∀ (x y : List Part), SepL x → SepL y → (y = [] ∨ ∃ q y' ch, y = q :: y' ∧ q.2 = 0 ∧ q.1 = [ch] ∧ isDg ch = false) → SepL (x ++ y)
  | [], y, _, hy, _ => hy
  | [p], y, hx, hy, he => ⟨fun h0 => ⟨(hx.1 h0).1, he⟩, hy⟩
  | p :: q :: x, y, hx, hy, he => by
    refine ⟨fun h0 => ?_, sep_app (q :: x) y hx.2 hy he⟩
    obtain ⟨h1, h2⟩ := hx.1 h0
    refine ⟨h1, .inr ?_⟩
    rcases h2 with h2 | ⟨q', l', ch, h2, h3⟩
    · cases h2
    · injection h2 with h2 h4
      subst h2
      exact ⟨q, x ++ y, ch, rfl, h3⟩
theorem tok_sep {c : UInt8} (h : TokB c) : SepL (partQB c) := by
  rcases h with rfl | rfl | ⟨h1, h2, h3, h0, h4⟩
  · show SepL partD
    refine ⟨fun _ => ⟨rfl, .inr ⟨_, _, 47, rfl, rfl, rfl, by decide⟩⟩, fun h => absurd rfl h, fun _ => ⟨rfl, .inr ⟨_, _, 47, rfl, rfl, rfl, by decide⟩⟩, fun h => absurd rfl h, fun _ => ⟨rfl, .inl rfl⟩, trivial⟩
  · show SepL partT
    refine ⟨fun _ => ⟨rfl, .inr ⟨_, _, 58, rfl, rfl, rfl, by decide⟩⟩, fun h => absurd rfl h, fun _ => ⟨rfl, .inr ⟨_, _, 58, rfl, rfl, rfl, by decide⟩⟩, fun h => absurd rfl h, fun _ => ⟨rfl, .inl rfl⟩, trivial⟩
  · unfold partQB
    rw [if_neg h1, if_neg h2]
    exact ⟨fun _ => ⟨rfl, .inl rfl⟩, trivial⟩
theorem fparts_sep {b : UInt8} (hb : isDg b = false) : ∀ toks : Bs, (∀ c ∈ toks, TokB c) → SepL (fparts b toks)
  | [], _ => trivial
  | [c], h => tok_sep (h c (by simp))
  | c :: d :: r, h => sep_app _ _ (tok_sep (h c (by simp))) ⟨fun h => absurd rfl h, fparts_sep hb (d :: r) (fun x hx => h x (by simp at hx ⊢; right; exact hx))⟩ (.inr ⟨_, _, b, rfl, rfl, rfl, hb⟩)
theorem tok_good {c : UInt8} (h : TokB c) : ∀ p ∈ partQB c, PG2 p := by
  rcases spr_part2 c with ⟨_, h2⟩ | ⟨l, _, h2, h3⟩
  · rw [(tok_part h).1] at h2; cases h2
  · rw [(tok_part h).1] at h2
    injection h2 with h2
    rw [h2]
    exact h3
theorem fparts_good (b : UInt8) : ∀ toks : Bs, (∀ c ∈ toks, TokB c) → ∀ p ∈ fparts b toks, PG2 p
  | [], _, p, hp => by simp [fparts] at hp
  | [c], h, p, hp => tok_good (h c (by simp)) p hp
  | c :: d :: r, h, p, hp => by
    rcases List.mem_append.1 (show p ∈ partQB c ++ ([b], 0) :: fparts b (d :: r) from hp) with hp | hp
    · exact tok_good (h c (by simp)) p hp
    · rcases List.mem_cons.1 hp with rfl | hp
      · exact .inl ⟨rfl, b, rfl⟩
      · exact fparts_good b (d :: r) (fun x hx => h x (by simp at hx ⊢; right; exact hx)) p hp
/-- A list of tokens that tells the whole time, letters apart. -/
structure OkB (toks : Bs) : Prop where
  tok : ∀ c ∈ toks, TokB c
  nodup : (usedB toks).Nodup
  full : FullL (usedB toks)
theorem full_more {a b : Bs} (h : ∀ x ∈ a, x ∈ b) (hF : FullL a) : FullL b := by
  unfold FullL at *
  rcases hF with h1 | ⟨h1, h2, h3, h4, h5⟩
  · exact .inl (h _ h1)
  · refine .inr ⟨h _ h1, ?_, ?_, h _ h4, h _ h5⟩
    · rcases h2 with ⟨h6, h7⟩ | h6
      · refine .inl ⟨?_, ?_⟩
        · rcases h6 with q | q | q
          · exact .inl (h _ q)
          · exact .inr (.inl (h _ q))
          · exact .inr (.inr (h _ q))
        · rcases h7 with q | q
          · exact .inl (h _ q)
          · exact .inr (h _ q)
      · exact .inr (h _ h6)
    · rcases h3 with q | ⟨q, q'⟩
      · exact .inl (h _ q)
      · exact .inr ⟨h _ q, h _ q'⟩
theorem letterB_tok : ∀ c ∈ lettersB, TokB c ∧ expB c = [c] := by
  intro c hc
  simp only [lettersB, List.mem_cons, List.not_mem_nil, or_false] at hc
  rcases hc with rfl | rfl | rfl | rfl | rfl | rfl | rfl | rfl | rfl | rfl | rfl | rfl | rfl | rfl | rfl | rfl | rfl | rfl | rfl <;> exact ⟨.inr (.inr ⟨by decide, by decide, by decide, by decide, by decide⟩), by decide⟩
theorem OkB.add {toks : Bs} (h : OkB toks) {c : UInt8} (hc : c ∈ lettersB) : OkB (addB toks c) := by
  unfold addB
  by_cases hm : c ∈ usedB toks
  · rw [if_pos hm]; exact h
  · rw [if_neg hm]
    obtain ⟨h1, h2⟩ := letterB_tok c hc
    have hu : usedB (toks ++ [c]) = usedB toks ++ [c] := by unfold usedB; simp [h2]
    refine ⟨fun x hx => ?_, ?_, ?_⟩
    · rcases List.mem_append.1 hx with hx | hx
      · exact h.tok x hx
      · simp at hx; subst hx; exact h1
    · rw [hu, List.nodup_append]
      exact ⟨h.nodup, by simp, fun a ha b hb => by simp at hb; subst hb; rintro rfl; exact hm ha⟩
    · rw [hu]; exact full_more (fun x hx => by simp [hx]) h.full
theorem groupB_ok : ∀ l ∈ groupsB, OkB l := by
  intro l hl
  simp only [groupsB, List.mem_cons, List.not_mem_nil, or_false] at hl
  have ht : ∀ c ∈ lettersB, TokB c := fun c hc => (letterB_tok c hc).1
  rcases hl with rfl | rfl | rfl | rfl | rfl
  · refine ⟨fun c hc => ?_, by decide, .inr ⟨by decide, .inl ⟨.inl (by decide), .inl (by decide)⟩, .inl (by decide), by decide, by decide⟩⟩
    simp only [List.mem_cons, List.not_mem_nil, or_false] at hc
    rcases hc with rfl | rfl | rfl | rfl | rfl | rfl <;> exact ht _ (by decide)
  · refine ⟨fun c hc => ?_, by decide, .inr ⟨by decide, .inr (by decide), .inl (by decide), by decide, by decide⟩⟩
    simp only [List.mem_cons, List.not_mem_nil, or_false] at hc
    rcases hc with rfl | rfl | rfl
    · exact ht _ (by decide)
    · exact ht _ (by decide)
    · exact .inr (.inl rfl)
  · refine ⟨fun c hc => ?_, by decide, .inr ⟨by decide, .inl ⟨.inl (by decide), .inl (by decide)⟩, .inr ⟨by decide, by decide⟩, by decide, by decide⟩⟩
    simp only [List.mem_cons, List.not_mem_nil, or_false] at hc
    rcases hc with rfl | rfl | rfl | rfl | rfl
    · exact .inl rfl
    all_goals exact ht _ (by decide)
  · refine ⟨fun c hc => ?_, by decide, .inl (by decide)⟩
    simp only [List.mem_cons, List.not_mem_nil, or_false] at hc
    subst hc
    exact ht _ (by decide)
  · refine ⟨fun c hc => ?_, by decide, .inr ⟨by decide, .inl ⟨.inr (.inl (by decide)), .inr (by decide)⟩, .inl (by decide), by decide, by decide⟩⟩
    simp only [List.mem_cons, List.not_mem_nil, or_false] at hc
    rcases hc with rfl | rfl | rfl | rfl
    · exact ht _ (by decide)
    · exact ht _ (by decide)
    · exact ht _ (by decide)
    · exact .inr (.inl rfl)
/-- What is written by such a form is read again. -/
theorem form_back {toks : Bs} (h : OkB toks) {b : UInt8} (hb : isDg b = false) (hb37 : b ≠ 37) {t : Int} (ht : -62135596800 ≤ t) (ht2 : t ≤ 253402300799) :
    (writeP t (formB b toks)).2 = 0 ∧ rdP (writeP t (formB b toks)).1 (formB b toks) = (t, 0) := by
  have hp := form_parts hb37 toks h.tok
  have hl := fparts_lets b toks h.tok
  have hw : writeP t (formB b toks) = (writeC t (fparts b toks), 0) := by unfold writeP; rw [if_pos ((validI_iff t).2 ⟨ht, ht2⟩), hp]
  rw [hw]
  exact ⟨rfl, back_law ht ht2 hp (fparts_sep hb toks h.tok) (fparts_good b toks h.tok) (by rw [hl]; exact h.nodup) (by rw [hl]; exact h.full)⟩
end Go.Proofs.YtkahakhhdiffcaaGreatDoor
namespace Go.Proofs.YtkahakhhdiffcaaGreatDoor
set_option linter.unusedVariables false
set_option linter.unusedSimpArgs false
def pairL (l : Bs) : Bs := l.flatMap fun c => [37, c]
theorem index_ge1 (sub : Bs) : ∀ l : Bs, -1 ≤ Lib.index l sub
  | [] => by unfold Lib.index; split <;> omega
  | b :: l => by
    have := index_ge1 sub l
    unfold Lib.index
    split
    · omega
    · split
      · omega
      · rename_i h1 h2
        simp at h2
        omega
theorem contains_cons (b : UInt8) (l sub : Bs) : Lib.contains (b :: l) sub = (sub.isPrefixOf (b :: l) || Lib.contains l sub) := by
  have := index_ge1 sub l
  unfold Lib.contains
  rw [Lib.index]
  cases h : sub.isPrefixOf (b :: l) with
  | true => simp
  | false =>
    rw [if_neg (by decide), Bool.false_or]
    by_cases h1 : Lib.index l sub = -1
    · rw [if_pos (by rw [h1]; rfl), h1]
    · rw [if_neg (by simpa using h1)]
      rw [decide_eq_true (by omega : 0 ≤ Lib.index l sub + 1), decide_eq_true (by omega : 0 ≤ Lib.index l sub)]
theorem pair_contains {c : UInt8} (hc : c ≠ 37) : ∀ U : Bs, (37 : UInt8) ∉ U → Lib.contains (pairL U) [37, c] = decide (c ∈ U)
  | [], _ => rfl
  | d :: U, h => by
    simp only [List.mem_cons, not_or] at h
    have hp : pairL (d :: U) = 37 :: d :: pairL U := rfl
    rw [hp, contains_cons, contains_cons, pair_contains hc U h.2]
    have h1 : ([37, c] : Bs).isPrefixOf (37 :: d :: pairL U) = (c == d) := by simp [List.isPrefixOf]
    have h2 : ([37, c] : Bs).isPrefixOf (d :: pairL U) = false := by
      rw [List.isPrefixOf]
      have : ((37 : UInt8) == d) = false := by rw [beq_eq_false_iff_ne]; exact h.1
      rw [this]; rfl
    rw [h1, h2, Bool.false_or]
    by_cases hcd : c = d
    · subst hcd; simp
    · have : (c == d) = false := by rw [beq_eq_false_iff_ne]; exact hcd
      rw [this, Bool.false_or]
      simp [hcd]
theorem join_form (b : UInt8) : ∀ toks : Bs, Lib.join (toks.map fun c => [37, c]) [b] = formB b toks
  | [] => rfl
  | [c] => by rw [List.map_cons, List.map_nil, Lib.join_one]; rfl
  | c :: d :: r => by
    have ih := join_form b (d :: r)
    rw [List.map_cons] at ih ⊢
    rw [List.map_cons]
    rw [Lib.join_cons] at ih ⊢
    show [37, c] ++ ([b] ++ [37, d] ++ Lib.joinTail [b] (r.map fun c => [37, c])) = 37 :: c :: b :: formB b (d :: r)
    rw [← ih]
    rfl
theorem join_pairs : ∀ toks : Bs, Lib.join (toks.map fun c => [37, c]) [] = pairL toks
  | [] => rfl
  | [c] => by rw [List.map_cons, List.map_nil, Lib.join_one]; rfl
  | c :: d :: r => by
    have ih := join_pairs (d :: r)
    rw [List.map_cons] at ih ⊢
    rw [List.map_cons]
    rw [Lib.join_cons] at ih ⊢
    show [37, c] ++ ([] ++ [37, d] ++ Lib.joinTail [] (r.map fun c => [37, c])) = [37, c] ++ pairL (d :: r)
    rw [← ih]
    rfl
/-- D and T replaced: the letters used. -/
theorem replaced : ∀ l ∈ groupsB, Lib.replaceAll (Lib.replaceAll (pairL l) [37, 84] [37, 72, 37, 77, 37, 83]) [37, 68] [37, 109, 37, 100, 37, 89] = pairL (usedB l) := by decide +kernel
theorem used_no37 {toks : Bs} (h : OkB toks) : (37 : UInt8) ∉ usedB toks := by
  intro hm
  unfold usedB at hm
  rw [List.mem_flatMap] at hm
  obtain ⟨c, hc, hx⟩ := hm
  unfold expB at hx
  rcases h.tok c hc with rfl | rfl | ⟨h1, h2, h3, _⟩
  · revert hx; decide
  · revert hx; decide
  · rw [if_neg h1, if_neg h2] at hx
    simp at hx
    exact h3 hx.symm
theorem form_len (b : UInt8) : ∀ toks : Bs, (formB b toks).length ≤ 3 * toks.length
  | [] => by simp [formB]
  | [c] => by simp [formB]
  | c :: d :: r => by
    have := form_len b (d :: r)
    show (37 :: c :: b :: formB b (d :: r)).length ≤ _
    simp only [List.length_cons] at this ⊢
    omega
theorem add_used {toks : Bs} {c : UInt8} (hc : c ∈ lettersB) : usedB (addB toks c) = if c ∈ usedB toks then usedB toks else usedB toks ++ [c] := by
  unfold addB
  by_cases hm : c ∈ usedB toks
  · rw [if_pos hm, if_pos hm]
  · rw [if_neg hm, if_neg hm]
    unfold usedB
    simp [(letterB_tok c hc).2]
theorem pair_snoc (l : Bs) (c : UInt8) : pairL (l ++ [c]) = pairL l ++ [37, c] := by simp [pairL]
theorem pair_len (l : Bs) : (pairL l).length = 2 * l.length := by
  induction l with
  | nil => rfl
  | cons c l ih => show (37 :: c :: pairL l).length = _; simp only [List.length_cons, ih]; omega
end Go.Proofs.YtkahakhhdiffcaaGreatDoor
namespace Go.Proofs.YtkahakhhdiffcaaGreatDoor
set_option linter.unusedVariables false
set_option linter.unusedSimpArgs false
theorem textD_len (u : UInt8) {t : Int} (ht : -62135596800 ≤ t) (ht2 : t ≤ 253402300799) : (textD u t).length ≤ 200 := by
  unfold textD
  cases hi2 : info (u.toNat : Int) with
  | none => simp
  | some i =>
    have hk := kind_of u hi2
    exact textC_len hk.1 hk.2 ht ht2
theorem writeC_cons (t : Int) (p : Part) (l : List Part) : writeC t (p :: l) = partText t p ++ writeC t l := by simp [writeC]
theorem writeC_app (t : Int) (a b : List Part) : writeC t (a ++ b) = writeC t a ++ writeC t b := by simp [writeC]
theorem writeC_nil (t : Int) : writeC t [] = [] := rfl
theorem ptext_len (p : Part) {t : Int} (ht : -62135596800 ≤ t) (ht2 : t ≤ 253402300799) : (partText t p).length ≤ p.1.length + (if p.2 = 0 then 0 else 200) := by
  unfold partText
  rw [List.length_append]
  have := textD_len p.2 ht ht2
  split <;> simp <;> omega
theorem partQ_len (c : UInt8) {t : Int} (ht : -62135596800 ≤ t) (ht2 : t ≤ 253402300799) : (writeC t (partQB c)).length ≤ 200 * (expB c).length + 2 := by
  have hp := fun p => ptext_len p ht ht2
  unfold partQB expB
  split
  · have a := hp ([], 109); have b := hp ([47], 0); have d := hp ([], 100); have e := hp ([], 89)
    simp at a b d e
    simp only [partD, writeC_cons, writeC_nil, List.length_append, List.length_cons, List.length_nil]
    omega
  · split
    · have a := hp ([], 72); have b := hp ([58], 0); have d := hp ([], 77); have e := hp ([], 83)
      simp at a b d e
      simp only [partT, writeC_cons, writeC_nil, List.length_append, List.length_cons, List.length_nil]
      omega
    · have a := hp ([], c)
      simp only [writeC_cons, writeC_nil, List.length_append, List.length_cons, List.length_nil]
      simp at a
      have : (if c = 0 then 0 else 200) ≤ 200 := by split <;> omega
      omega
theorem fparts_len (b : UInt8) {t : Int} (ht : -62135596800 ≤ t) (ht2 : t ≤ 253402300799) : ∀ toks : Bs, (writeC t (fparts b toks)).length ≤ 200 * (usedB toks).length + 3 * toks.length
  | [] => by simp [fparts, writeC]
  | [c] => by
    have h1 := partQ_len c ht ht2
    have h2 : usedB [c] = expB c := by simp [usedB]
    rw [h2]
    show (writeC t (partQB c)).length ≤ _
    simp only [List.length_cons, List.length_nil]
    omega
  | c :: d :: r => by
    have h1 := partQ_len c ht ht2
    have h2 : usedB (c :: d :: r) = expB c ++ usedB (d :: r) := by simp [usedB]
    have h3 := fparts_len b ht ht2 (d :: r)
    have h4 := ptext_len ([b], 0) ht ht2
    simp at h4
    rw [h2]
    show (writeC t (partQB c ++ ([b], 0) :: fparts b (d :: r))).length ≤ _
    rw [writeC_app, writeC_cons]
    simp only [List.length_append, List.length_cons] at h3 ⊢
    omega
/-- What is written is read again, and is not long. -/
theorem form_all {toks : Bs} (h : OkB toks) {b : UInt8} (hb : isDg b = false) (hb37 : b ≠ 37) (hu : (usedB toks).length ≤ 40) (hl : toks.length ≤ 40) (t : Int) :
    (writeP t (formB b toks)).1.length ≤ 10000 ∧ (((writeP t (formB b toks)).2 = 0 ∧ rdP (writeP t (formB b toks)).1 (formB b toks) = (t, 0)) ∨ ((writeP t (formB b toks)).2 = 7 ∧ (t < -62135596800 ∨ 253402300799 < t))) := by
  by_cases hv : validI t = true
  · obtain ⟨ht, ht2⟩ := (validI_iff t).1 hv
    have hp := form_parts hb37 toks h.tok
    have hw : writeP t (formB b toks) = (writeC t (fparts b toks), 0) := by unfold writeP; rw [if_pos hv, hp]
    have hlen := fparts_len b ht ht2 toks
    refine ⟨?_, .inl (form_back h hb hb37 ht ht2)⟩
    rw [hw]
    show (writeC t (fparts b toks)).length ≤ 10000
    omega
  · have hw : writeP t (formB b toks) = ([], 7) := by unfold writeP; rw [if_neg hv]
    rw [hw]
    refine ⟨by simp, .inr ⟨rfl, ?_⟩⟩
    rw [validI_iff] at hv
    omega
theorem group_small : ∀ l ∈ groupsB, l.length ≤ 6 ∧ (usedB l).length ≤ 7 := by decide +kernel
theorem add_len2 (toks : Bs) {c : UInt8} (hc : c ∈ lettersB) : (addB toks c).length ≤ toks.length + 1 ∧ (usedB (addB toks c)).length ≤ (usedB toks).length + 1 := by
  rw [add_used hc]
  unfold addB
  by_cases hm : c ∈ usedB toks
  · rw [if_pos hm, if_pos hm]; omega
  · rw [if_neg hm, if_neg hm]; simp
end Go.Proofs.YtkahakhhdiffcaaGreatDoor
