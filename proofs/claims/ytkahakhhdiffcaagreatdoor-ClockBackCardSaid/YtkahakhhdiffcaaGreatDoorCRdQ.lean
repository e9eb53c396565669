/- Both readings of a text by a form: the same letters with the same texts. Plain. -/
import Derived.Test.YtkahakhhdiffcaaGreatDoorCRdP
import Derived.Test.YtkahakhhdiffcaaGreatDoorCRWrt
namespace Go.Proofs.YtkahakhhdiffcaaGreatDoor
set_option linter.unusedVariables false
set_option linter.unusedSimpArgs false
/-- A part as it lies in a form that was spread. -/
def flatQ (p : Part) : Bs := if p.2 = 0 then (if p.1 = [37] then [37, 37] else p.1) else [37, p.2]
def flatL (l : List Part) : Bs := l.flatMap flatQ
theorem flatL_cons (p : Part) (l : List Part) : flatL (p :: l) = flatQ p ++ flatL l := by simp [flatL]
theorem flatL_append (a b : List Part) : flatL (a ++ b) = flatL a ++ flatL b := by simp [flatL]
def PG2 (p : Part) : Prop := (p.2 = 0 ∧ ∃ ch, p.1 = [ch]) ∨ (p.2 ≠ 0 ∧ p.2 ≠ 37 ∧ (info (p.2.toNat : Int)).isSome = true)
theorem spr_part2 (d : UInt8) : (sprD d = none ∧ partC d = none) ∨ ∃ l, sprD d = some (flatL l) ∧ partC d = some l ∧ ∀ p ∈ l, PG2 p := by
  by_cases h37 : d = 37
  · subst h37
    exact .inr ⟨[([37], 0)], by decide, by decide, fun p hp => by simp at hp; subst hp; exact .inl ⟨rfl, 37, rfl⟩⟩
  · by_cases h68 : d = 68
    · subst h68
      refine .inr ⟨partD, by decide, rfl, fun p hp => ?_⟩
      simp [partD] at hp
      rcases hp with rfl | rfl | rfl | rfl | rfl
      · exact .inr ⟨by decide, by decide, by decide⟩
      · exact .inl ⟨rfl, 47, rfl⟩
      · exact .inr ⟨by decide, by decide, by decide⟩
      · exact .inl ⟨rfl, 47, rfl⟩
      · exact .inr ⟨by decide, by decide, by decide⟩
    · by_cases h84 : d = 84
      · subst h84
        refine .inr ⟨partT, by decide, rfl, fun p hp => ?_⟩
        simp [partT] at hp
        rcases hp with rfl | rfl | rfl | rfl | rfl
        · exact .inr ⟨by decide, by decide, by decide⟩
        · exact .inl ⟨rfl, 58, rfl⟩
        · exact .inr ⟨by decide, by decide, by decide⟩
        · exact .inl ⟨rfl, 58, rfl⟩
        · exact .inr ⟨by decide, by decide, by decide⟩
      · have hk : known d = (info (d.toNat : Int)).isSome := by unfold known; rw [decide_eq_false h37]; rfl
        unfold sprD partC
        rw [if_neg h68, if_neg h84, if_neg h37, if_neg h68, if_neg h84, hk]
        cases hi : (info (d.toNat : Int)).isSome with
        | false => exact .inl ⟨rfl, rfl⟩
        | true =>
          have h0 : d ≠ 0 := by intro h; subst h; revert hi; decide
          refine .inr ⟨[([], d)], ?_, rfl, fun p hp => ?_⟩
          · simp [flatL, flatQ, h0]
          · simp at hp; subst hp; exact .inr ⟨h0, h37, hi⟩
theorem flat_law : ∀ (n : Nat) (s : Bs), s.length ≤ n → (sprC s = none ∧ partsC s = none) ∨ ∃ l, sprC s = some (flatL l) ∧ partsC s = some l ∧ ∀ p ∈ l, PG2 p
  | _, [], _ => .inr ⟨[], rfl, rfl, fun p hp => by simp at hp⟩
  | 0, c :: r, hn => by simp at hn
  | n + 1, c :: r, hn => by
    simp only [List.length_cons] at hn
    by_cases hc : c = 37
    · subst hc
      cases r with
      | nil => exact .inl ⟨sprC_end, partsC_end⟩
      | cons d r =>
        simp only [List.length_cons] at hn
        rw [sprC_letter, partsC_letter]
        rcases spr_part2 d with ⟨h1, h2⟩ | ⟨l, h1, h2, h3⟩
        · rw [h1, h2]; exact .inl ⟨rfl, rfl⟩
        · rw [h1, h2]
          rcases flat_law n r (by omega) with ⟨i1, i2⟩ | ⟨m, i1, i2, i3⟩
          · rw [i1, i2]; exact .inl ⟨rfl, rfl⟩
          · rw [i1, i2]
            exact .inr ⟨l ++ m, by rw [flatL_append]; rfl, rfl, fun p hp => (List.mem_append.1 hp).elim (h3 p) (i3 p)⟩
    · rw [sprC_plain hc, partsC_plain hc]
      rcases flat_law n r (by omega) with ⟨i1, i2⟩ | ⟨m, i1, i2, i3⟩
      · rw [i1, i2]; exact .inl ⟨rfl, rfl⟩
      · rw [i1, i2]
        refine .inr ⟨([c], 0) :: m, ?_, rfl, fun p hp => ?_⟩
        · rw [flatL_cons]; simp [flatQ, hc]
        · rcases List.mem_cons.1 hp with rfl | hp
          · exact .inl ⟨rfl, c, rfl⟩
          · exact i3 p hp
/-- The letters of a form. -/
def letsL : List Part → Bs
  | [] => []
  | p :: l => if p.2 = 0 then letsL l else p.2 :: letsL l
/-- The reference's reading. -/
def readG : List Part → Bs → GotL → Option (Bs × GotL)
  | [], s, G => some (s, G)
  | p :: l, s, G => if p.2 = 0 then (if Lib.hasPrefix s p.1 = true then readG l (Lib.trimPrefix s p.1) G else none)
      else if takenC p.2 s < 0 then none else readG l (s.drop (takenC p.2 s).toNat) (G ++ [(p.2, s.take (takenC p.2 s).toNat)])
def endG (R : Option (Bs × GotL)) : Option GotL := match R with
  | none => none
  | some (s', G) => if s' = [] then some G else none
def readR (s form : Bs) : Option GotL := match partsC form with
  | none => none
  | some l => if (letsL l).Nodup then endG (readG l s []) else none
/-- What was read by the one and by the other. -/
structure Rel (g : Vals) (G : GotL) : Prop where
  yes : ∀ (c : UInt8) x, gotT G c = some x → ∃ v, g (c.toNat : Int) = some v ∧ Told c x v
  no : ∀ c : UInt8, gotT G c = none → g (c.toNat : Int) = none
  byte : ∀ k : Int, g k ≠ none → ∃ c : UInt8, k = (c.toNat : Int)
  mem : ∀ p ∈ G, gotT G p.1 = some p.2
  known : ∀ p ∈ G, (info (p.1.toNat : Int)).isSome = true
theorem gotT_push (G : GotL) (c d : UInt8) (x : Bs) : gotT (G ++ [(c, x)]) d = match gotT G d with
    | some y => some y
    | none => if c = d then some x else none := by
  unfold gotT
  rw [List.find?_append]
  cases h : G.find? (fun p => p.1 == d) with
  | some y => rfl
  | none =>
    simp only [Option.none_or, Option.map_none]
    by_cases hc : c = d
    · subst hc; simp
    · rw [if_neg hc]
      have : (c == d) = false := by simpa using hc
      simp [this]
theorem told_known {c : UInt8} {x : Bs} {v : Int} (h : Told c x v) : (info (c.toNat : Int)).isSome = true := by
  unfold Told at h
  cases hi : info (c.toNat : Int) with
  | none => rw [hi] at h; exact h.elim
  | some i => rfl
theorem Rel.push {g : Vals} {G : GotL} (h : Rel g G) {c : UInt8} {x : Bs} {v : Int} (hc : gotT G c = none) (ht : Told c x v) : Rel (fun k => if k = (c.toNat : Int) then some v else g k) (G ++ [(c, x)]) := by
  have hu : ∀ d : UInt8, (d.toNat : Int) = (c.toNat : Int) → d = c := fun d hd => UInt8.toNat_inj.1 (by omega)
  refine ⟨fun d y hy => ?_, fun d hd => ?_, fun k hk => ?_, fun p hp => ?_, fun p hp => ?_⟩
  · rw [gotT_push] at hy
    by_cases hdc : d = c
    · subst hdc
      rw [hc] at hy
      simp only [if_true] at hy
      injection hy with hy
      subst hy
      exact ⟨v, if_pos rfl, ht⟩
    · show ∃ w, (if (d.toNat : Int) = (c.toNat : Int) then some v else g (d.toNat : Int)) = some w ∧ Told d y w
      rw [if_neg (fun e => hdc (hu d e))]
      cases hg : gotT G d with
      | some z => rw [hg] at hy; injection hy with hy; subst hy; exact h.yes d z hg
      | none => rw [hg] at hy; simp only at hy; rw [if_neg (Ne.symm hdc)] at hy; cases hy
  · rw [gotT_push] at hd
    cases hg : gotT G d with
    | some z => rw [hg] at hd; cases hd
    | none =>
      rw [hg] at hd
      simp only at hd
      have hdc : d ≠ c := by rintro rfl; rw [if_pos rfl] at hd; cases hd
      show (if (d.toNat : Int) = (c.toNat : Int) then some v else g (d.toNat : Int)) = none
      rw [if_neg (fun e => hdc (hu d e))]
      exact h.no d hg
  · have hk : (if k = (c.toNat : Int) then some v else g k) ≠ none := hk
    by_cases hkc : k = (c.toNat : Int)
    · exact ⟨c, hkc⟩
    · rw [if_neg hkc] at hk; exact h.byte k hk
  · rw [gotT_push]
    rcases List.mem_append.1 hp with hp | hp
    · rw [h.mem p hp]
    · simp at hp; subst hp; simp [hc]
  · rcases List.mem_append.1 hp with hp | hp
    · exact h.known p hp
    · simp at hp; subst hp; exact told_known ht
theorem Rel.new : Rel (fun _ => Option.none) [] := ⟨fun c x h => (by cases h), fun _ _ => rfl, fun k h => absurd rfl h, fun p h => (by simp at h), fun p h => (by simp at h)⟩
theorem run_law : ∀ (l : List Part) (s : Bs) (g : Vals) (G : GotL), (∀ p ∈ l, PG2 p) → Rel g G → (letsL l).Nodup → (∀ c ∈ letsL l, gotT G c = none) →
    (runP l s g = none ∧ readG l s G = none) ∨ ∃ s' g' G', runP l s g = some (s', g') ∧ readG l s G = some (s', G') ∧ Rel g' G'
  | [], s, g, G, _, hr, _, _ => .inr ⟨s, g, G, rfl, rfl, hr⟩
  | p :: l, s, g, G, hp, hr, hn, hl => by
    rcases hp p (by simp) with ⟨h0, ch, hch⟩ | ⟨h0, h37, hi⟩
    · have e1 : letsL (p :: l) = letsL l := by rw [letsL, if_pos h0]
      rw [e1] at hn hl
      unfold runP readG stepP
      rw [if_pos h0, if_pos h0]
      cases hx : Lib.hasPrefix s p.1 with
      | false => exact .inl ⟨rfl, rfl⟩
      | true =>
        rw [if_pos rfl, if_pos rfl]
        exact run_law l _ g G (fun q hq => hp q (by simp [hq])) hr hn hl
    · have e1 : letsL (p :: l) = p.2 :: letsL l := by rw [letsL, if_neg h0]
      rw [e1] at hn hl
      obtain ⟨hn1, hn2⟩ := List.nodup_cons.1 hn
      have hg := hl p.2 (by simp)
      have hg2 := hr.no p.2 hg
      unfold runP readG stepP
      rw [if_neg h0, if_neg h0, hg2]
      rcases taken_law p.2 hi s with ⟨h1, h2⟩ | ⟨h1, h2, h3⟩
      · rw [h1, h2, if_pos (.inr rfl), if_pos (by decide)]
        exact .inl ⟨rfl, rfl⟩
      · rw [h2, if_neg (by simp; omega), if_neg (by omega), Int.toNat_natCast]
        refine run_law l _ _ _ (fun q hq => hp q (by simp [hq])) (hr.push hg h3) hn2 (fun c hc => ?_)
        rw [gotT_push, hl c (by simp [hc])]
        simp only
        rw [if_neg]
        rintro rfl
        exact hn1 hc
theorem run_nodup : ∀ (l : List Part) (s : Bs) (g : Vals) (s' : Bs) (g' : Vals), runP l s g = some (s', g') → (letsL l).Nodup ∧ ∀ c ∈ letsL l, g (c.toNat : Int) = none
  | [], _, _, _, _, _ => ⟨List.nodup_nil, fun c hc => by simp [letsL] at hc⟩
  | p :: l, s, g, s', g', h => by
    unfold runP stepP at h
    by_cases h0 : p.2 = 0
    · rw [if_pos h0] at h
      have e1 : letsL (p :: l) = letsL l := by rw [letsL, if_pos h0]
      rw [e1]
      by_cases hx : Lib.hasPrefix s p.1 = true
      · rw [if_pos hx] at h; exact run_nodup l _ _ _ _ h
      · rw [if_neg hx] at h; cases h
    · rw [if_neg h0] at h
      have e1 : letsL (p :: l) = p.2 :: letsL l := by rw [letsL, if_neg h0]
      rw [e1]
      by_cases hx : (g (p.2.toNat : Int)).isSome = true ∨ (readC p.2 s).2 = 0
      · rw [if_pos hx] at h; cases h
      · rw [if_neg hx] at h
        have hgn : g (p.2.toNat : Int) = none := by
          cases hq : g (p.2.toNat : Int) with
          | none => rfl
          | some v => exact absurd (.inl (by rw [hq]; rfl)) hx
        obtain ⟨h1, h2⟩ := run_nodup l _ _ _ _ h
        refine ⟨List.nodup_cons.2 ⟨fun hm => ?_, h1⟩, fun c hc => ?_⟩
        · have h9 : (if (p.2.toNat : Int) = (p.2.toNat : Int) then some (readC p.2 s).1 else g (p.2.toNat : Int)) = none := h2 p.2 hm
          rw [if_pos rfl] at h9
          cases h9
        · rcases List.mem_cons.1 hc with rfl | hc
          · exact hgn
          · have this : (if (c.toNat : Int) = (p.2.toNat : Int) then some (readC p.2 s).1 else g (c.toNat : Int)) = none := h2 c hc
            split at this
            · cases this
            · exact this
/-- Both read the same. -/
theorem read_law (s form : Bs) : (valuesC s form = none ∧ readR s form = none) ∨ ∃ g G, valuesC s form = some g ∧ readR s form = some G ∧ Rel g G := by
  unfold valuesC readR
  rcases flat_law _ form (Nat.le_refl _) with ⟨-, h2⟩ | ⟨l, -, h2, h3⟩
  · rw [h2]; exact .inl ⟨rfl, rfl⟩
  · rw [h2]
    simp only
    by_cases hn : (letsL l).Nodup
    · rw [if_pos hn]
      rcases run_law l s _ _ h3 Rel.new hn (fun c _ => rfl) with ⟨h4, h5⟩ | ⟨s', g', G', h4, h5, h6⟩
      · rw [h4, h5]; exact .inl ⟨rfl, rfl⟩
      · rw [h4, h5]
        unfold endV endG
        simp only
        by_cases hs : s' = []
        · rw [if_pos hs, if_pos hs]; exact .inr ⟨g', G', rfl, rfl, h6⟩
        · rw [if_neg hs, if_neg hs]; exact .inl ⟨rfl, rfl⟩
    · rw [if_neg hn]
      cases hr : runP l s (fun _ => none) with
      | none => exact .inl ⟨rfl, rfl⟩
      | some q =>
        obtain ⟨s', g'⟩ := q
        exact absurd (run_nodup l s _ s' g' hr).1 hn
end Go.Proofs.YtkahakhhdiffcaaGreatDoor
