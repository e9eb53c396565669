/- What both trees are asked. -/
import Derived.Test.YtjgdfgpnmmkjfaaGreatDoorNQ2
import Derived.Test.YtjgdfgpnmmkjfaaGreatDoorNRQ3
import Derived.Test.YtjgdfgpnmmkjfaaGreatDoorNRDl
import Derived.Test.YtjgdfgpnmmkjfaaGreatDoorSame
namespace Go.Proofs.YtjgdfgpnmmkjfaaGreatDoor
set_option linter.unusedVariables false
set_option linter.unusedSimpArgs false
open Go.RowKit Go.MapKept
/-- No pattern is long. -/
def Gx (S : Bs → Option ND) : Prop := ∀ k nd, S k = some nd → ∀ p ∈ nd.exports, p.length ≤ 1500
theorem gx_new : Gx newS := fun k nd h => by
  unfold newS at h
  split at h
  · cases h; intro p hp; cases hp
  · cases h
theorem gx_set {S : Bs → Option ND} (h : Gx S) (k : Bs) (n : ND) (hn : ∀ p ∈ n.exports, p.length ≤ 1500) : Gx (setS S k n) := fun q nd hq => by
  unfold setS at hq
  split at hq
  · cases hq; exact hn
  · exact h q nd hq
theorem expL_mem : ∀ (L o : List Bs) {p : Bs}, p ∈ expL o L → p ∈ o ∨ p ∈ L
  | [], o, p, h => .inl h
  | x :: r, o, p, h => by
    have h' : p ∈ expL (expStep o x) r := h
    rcases expL_mem r _ h' with h | h
    · unfold expStep at h
      split at h
      · exact .inl h
      · rcases List.mem_append.1 h with h | h
        · exact .inl h
        · simp at h; exact .inr (by simp [h])
    · exact .inr (List.mem_cons.2 (.inr h))
theorem gx_play {S S' : Bs → Option ND} (h : Gx S) {a : AN} (ha : a.sum ≤ 1500) (hp : PlayR S a S') : Gx S' := by
  have hL : ∀ p ∈ a.L, p.length ≤ 1500 := fun p hp => by unfold AN.sum at ha; have := longS_mem hp; omega
  unfold PlayR at hp
  split at hp
  · subst hp
    intro k nd hk
    rcases mkS_val hk with rfl | hk
    · intro p hp; cases hp
    · exact h k nd hk
  split at hp
  · rcases hp with ⟨_, rfl⟩ | ⟨ks, _, _, rfl⟩
    · exact h
    · intro k nd hk
      rcases del_val hk with rfl | hk
      · intro p hp; cases hp
      · exact h k nd hk
  split at hp
  · subst hp
    unfold srchS
    cases hS : S (canonN rootN a.s) with
    | none => exact h
    | some n =>
      dsimp only
      split
      · exact gx_set h _ _ (h _ n hS)
      · exact h
  split at hp
  · subst hp
    unfold expS
    cases hS : S (canonN rootN a.s) with
    | none => exact h
    | some n =>
      refine gx_set h _ _ (fun p hp => ?_)
      rcases expL_mem _ _ hp with hp | hp
      · unfold ex0 at hp
        split at hp
        · cases hp
        · exact h _ n hS p hp
      · exact hL p hp
  split at hp
  · subst hp
    unfold unkS
    cases hS : S (canonN rootN a.s) with
    | none => exact h
    | some n => exact gx_set h _ _ (h _ n hS)
  · subst hp; exact h
/-- Both trees tell the same, and what was there at first is there. -/
structure AskN (B tb m yb : Nat) (who whoY : Own) (S : Bs → Option ND) (n : Nat) (ks : List Bs) (w0 W : World) : Prop where
  tn : Tn W B tb m yb who whoY S S
  fit : FitN S n
  gx : Gx S
  keys : KeysOf S ks
  below : Below w0.heap.size w0 W
/-- What 'Children' tells. -/
def chQ (S : Bs → Option ND) (ks : List Bs) (s t : Bs) : Int × List Bs := match S (canonN rootN s) with | none => (8, []) | some _ => (0, cL t (canonN rootN s) ks)
def seQ (S : Bs → Option ND) (s : Bs) : Int × List Bs := match S (canonN rootN s) with | none => (8, []) | some n => (0, n.search)
def paQ (S : Bs → Option ND) (s : Bs) : Int × List Bs := match S (canonN rootN s) with | none => (8, []) | some n => (0, n.exports)
def exQ (S : Bs → Option ND) (s : Bs) : List Bs := match S (canonN rootN s) with | none => [] | some n => n.exports
def unQ (S : Bs → Option ND) (s : Bs) : Int × Bs := match S (canonN rootN s) with | none => (8, []) | some n => (0, n.unknown)
section
variable {W w0 : World} {B tb m yb n : Nat} {who whoY : Own} {S : Bs → Option ND} {ks : List Bs}
theorem AskN.low (h : AskN B tb m yb who whoY S n ks w0 W) {w' : World} (hb : Below W.heap.size W w') : AskN B tb m yb who whoY S n ks w0 w' := ⟨h.tn.low hb, h.fit, h.gx, h.keys, h.below.trans (hb.mono h.below.size)⟩
theorem AskN.drew (h : AskN B tb m yb who whoY S n ks w0 W) : AskN B tb m yb who whoY S n ks w0 W.drew := h.low (Below.refl _ _).drew
theorem AskN.ln {nd : Bs → Option Nat} {l : List Bs} (h : AskN B tb m yb who whoY S n ks w0 W) (hr : RTr W B yb whoY nd S l) : l.length ≤ 1000000 := by have := h.fit.len hr; omega
theorem AskN.kl (h : AskN B tb m yb who whoY S n ks w0 W) : ∀ k ∈ ks, k.length ≤ 100000 := fun k hk => h.fit.key k ((h.keys.mem k).1 hk)
theorem AskN.children (h : AskN B tb m yb who whoY S n ks w0 W) (s : Bs) (hs : s.length ≤ 1500) (t : Bs) (ht : t.length ≤ 1500) {q : Int × List Bs} (hq : chQ S ks s t = q) : Calls Tryz.prog 43 #[.pointer (some ⟨tb, 0, none⟩), .string ⟨s.toArray⟩, .string ⟨t.toArray⟩] W fun e w' => ∃ vo, e = .returned (.tuple #[vo, .int .i64 q.1]) ∧ TxtRow w' vo q.2 ∧ AskN B tb m yb who whoY S n ks w0 w' := by
  obtain ⟨nd, h1⟩ := h.tn.tr
  unfold chQ at hq
  cases hk : S (canonN rootN s) with
  | none =>
    rw [hk] at hq
    subst hq
    exact (Children_none h1 s (by omega) t hk).mono fun e w' ⟨he, hb⟩ => ⟨_, he, TxtRow.nil _, h.low hb⟩
  | some x =>
    rw [hk] at hq
    subst hq
    obtain ⟨q, hq, _⟩ := h.fit.gd.key _ (show (S (canonN rootN s)).isSome = true by rw [hk]; rfl)
    have := Children_any h1 (cnt_mono h.fit.gd.cnt (by have := h.fit.n; omega)) h.keys h.kl s t (by omega) (by omega) (by rw [hk]; rfl)
    rw [cL_eq h.fit.gd t hq h.keys] at this
    exact this.mono fun e w' ⟨vo, he, hr, hb⟩ => ⟨vo, he, hr, h.low hb⟩
theorem AskN.rchildren (h : AskN B tb m yb who whoY S n ks w0 W) (s : Bs) (hs : s.length ≤ 1500) (t : Bs) (ht : t.length ≤ 1500) {q : Int × List Bs} (hq : chQ S ks s t = q) {va : Value} {ss : List Bs} (hr : TxtRow W va ss) : Calls Tryz.prog 44 #[.pointer (some ⟨yb, 0, none⟩), .string ⟨s.toArray⟩, .string ⟨t.toArray⟩] W fun e w' => ∃ vo, e = .returned (.tuple #[vo, .int .i64 q.1]) ∧ TxtRow w' va ss ∧ TxtRow w' vo q.2 ∧ AskN B tb m yb who whoY S n ks w0 w' := by
  obtain ⟨nd, l, h1⟩ := h.tn.rt
  unfold chQ at hq
  cases hk : S (canonN rootN s) with
  | none =>
    rw [hk] at hq
    subst hq
    exact (rChildren_none h1 (h.ln h1) s (by omega) t hk).mono fun e w' ⟨he, hb⟩ => ⟨_, he, hr.below hb, TxtRow.nil _, h.low hb⟩
  | some x =>
    rw [hk] at hq
    subst hq
    exact (rChildren_any h1 h.fit.gd h.fit.n s (by omega) t (by omega) h.keys (by rw [hk]; rfl)).mono fun e w' ⟨vo, he, ho, hb⟩ => ⟨vo, he, hr.below hb, ho, h.low hb⟩
theorem AskN.exist (h : AskN B tb m yb who whoY S n ks w0 W) (s : Bs) (hs : s.length ≤ 1500) {q : Bool} (hq : (S (canonN rootN s)).isSome = q) : Calls Tryz.prog 12 #[.pointer (some ⟨tb, 0, none⟩), .string ⟨s.toArray⟩] W fun e w' => e = .returned (.bool q) ∧ AskN B tb m yb who whoY S n ks w0 w' := by
  obtain ⟨nd, h1⟩ := h.tn.tr
  have := Exists_any h1 s (by omega)
  rw [hq] at this
  exact this.mono fun e w' ⟨he, hb⟩ => ⟨he, h.low hb⟩
theorem AskN.rexist (h : AskN B tb m yb who whoY S n ks w0 W) (s : Bs) (hs : s.length ≤ 1500) {q : Bool} (hq : (S (canonN rootN s)).isSome = q) : Calls Tryz.prog 45 #[.pointer (some ⟨yb, 0, none⟩), .string ⟨s.toArray⟩] W fun e w' => e = .returned (.bool q) ∧ AskN B tb m yb who whoY S n ks w0 w' := by
  obtain ⟨nd, l, h1⟩ := h.tn.rt
  exact (rExists_any h1 (h.ln h1) s (by omega) hq).mono fun e w' ⟨he, hb⟩ => ⟨he, h.low hb⟩
theorem AskN.all (h : AskN B tb m yb who whoY S n ks w0 W)  : Calls Tryz.prog 11 #[.pointer (some ⟨tb, 0, none⟩)] W fun e w' => ∃ vo, e = .returned vo ∧ TxtRow w' vo ks ∧ AskN B tb m yb who whoY S n ks w0 w' := by
  obtain ⟨nd, h1⟩ := h.tn.tr
  refine (All_any h1 (cnt_mono h.fit.gd.cnt (by have := h.fit.n; omega))).mono fun e w' hh => ?_
  obtain ⟨o, c, ks', he, hk', ho, hb⟩ := hh
  obtain rfl := h.keys.eq hk'
  exact ⟨_, he, TxtRow.of_owns ho, h.low hb⟩
theorem AskN.rall (h : AskN B tb m yb who whoY S n ks w0 W) {va : Value} {ss : List Bs} (hr : TxtRow W va ss) : Calls Tryz.prog 46 #[.pointer (some ⟨yb, 0, none⟩)] W fun e w' => ∃ vo, e = .returned vo ∧ TxtRow w' va ss ∧ TxtRow w' vo ks ∧ AskN B tb m yb who whoY S n ks w0 w' := by
  obtain ⟨nd, l, h1⟩ := h.tn.rt
  exact (rAll_any h1 (h.fit.len h1) (fun k hk => h.fit.key k ((h1.mem k).1 hk)) h.keys).mono fun e w' ⟨vo, he, ho, hb⟩ => ⟨vo, he, hr.below hb, ho, h.low hb⟩
theorem AskN.exps (h : AskN B tb m yb who whoY S n ks w0 W) (s : Bs) (hs : s.length ≤ 1500) (t : Bs) (ht : t.length ≤ 1500) {q : Bool} (hq : expQ (exQ S s) t = q) : Calls Tryz.prog 47 #[.pointer (some ⟨tb, 0, none⟩), .string ⟨s.toArray⟩, .string ⟨t.toArray⟩] W fun e w' => e = .returned (.bool q) ∧ AskN B tb m yb who whoY S n ks w0 w' := by
  obtain ⟨nd, h1⟩ := h.tn.tr
  have hL : (exQ S s).length ≤ 1000000 ∧ ∀ p ∈ exQ S s, p.length ≤ 1000000 := by
    unfold exQ
    cases hk : S (canonN rootN s) with
    | none => simp
    | some x =>
      have := h.fit.gd.exp _ x hk
      have := h.fit.n
      exact ⟨by dsimp only; omega, fun p hp => by have := h.gx _ x hk p hp; omega⟩
  have := Exports_any h1 s (by omega) t (by omega) (L := exQ S s) rfl hL.1 hL.2
  rw [hq] at this
  exact this.mono fun e w' ⟨he, hb⟩ => ⟨he, h.low hb⟩
theorem AskN.rexps (h : AskN B tb m yb who whoY S n ks w0 W) (s : Bs) (hs : s.length ≤ 1500) (t : Bs) (ht : t.length ≤ 1500) {q : Bool} (hq : expQ (exQ S s) t = q) : Calls Tryz.prog 48 #[.pointer (some ⟨yb, 0, none⟩), .string ⟨s.toArray⟩, .string ⟨t.toArray⟩] W fun e w' => e = .returned (.bool q) ∧ AskN B tb m yb who whoY S n ks w0 w' := by
  obtain ⟨nd, l, h1⟩ := h.tn.rt
  have hL : (exQ S s).length ≤ 1000000 ∧ ∀ p ∈ exQ S s, p.length ≤ 1000000 := by
    unfold exQ
    cases hk : S (canonN rootN s) with
    | none => simp
    | some x =>
      have := h.fit.gd.exp _ x hk
      have := h.fit.n
      exact ⟨by dsimp only; omega, fun p hp => by have := h.gx _ x hk p hp; omega⟩
  have := rExports_any h1 (h.ln h1) s (by omega) t (by omega) (L := exQ S s) rfl hL.1 hL.2
  rw [hq] at this
  exact this.mono fun e w' ⟨he, hb⟩ => ⟨he, h.low hb⟩
theorem AskN.search (h : AskN B tb m yb who whoY S n ks w0 W) (s : Bs) (hs : s.length ≤ 1500) {q : Int × List Bs} (hq : seQ S s = q) : Calls Tryz.prog 21 #[.pointer (some ⟨tb, 0, none⟩), .string ⟨s.toArray⟩] W fun e w' => ∃ vo, e = .returned (.tuple #[vo, .int .i64 q.1]) ∧ TxtRow w' vo q.2 ∧ AskN B tb m yb who whoY S n ks w0 w' := by
  obtain ⟨nd, h1⟩ := h.tn.tr
  unfold seQ at hq
  cases hk : S (canonN rootN s) with
  | none =>
    rw [hk] at hq
    subst hq
    exact (Search_none h1 s (by omega) hk).mono fun e w' ⟨he, hb⟩ => ⟨_, he, TxtRow.nil _, h.low hb⟩
  | some x =>
    rw [hk] at hq
    subst hq
    have hx := (h.fit.gd.srch _ x hk).1
    have hn := h.fit.n
    exact (Search_any h1 s (by omega) hk (by omega)).mono fun e w' ⟨o, c, he, ho, hb⟩ => ⟨_, he, TxtRow.of_owns ho, h.low hb⟩
theorem AskN.rsearch (h : AskN B tb m yb who whoY S n ks w0 W) (s : Bs) (hs : s.length ≤ 1500) {q : Int × List Bs} (hq : seQ S s = q) {va : Value} {ss : List Bs} (hr : TxtRow W va ss) : Calls Tryz.prog 49 #[.pointer (some ⟨yb, 0, none⟩), .string ⟨s.toArray⟩] W fun e w' => ∃ vo, e = .returned (.tuple #[vo, .int .i64 q.1]) ∧ TxtRow w' va ss ∧ TxtRow w' vo q.2 ∧ AskN B tb m yb who whoY S n ks w0 w' := by
  obtain ⟨nd, l, h1⟩ := h.tn.rt
  unfold seQ at hq
  cases hk : S (canonN rootN s) with
  | none =>
    rw [hk] at hq
    subst hq
    exact (rSearch_none h1 (h.ln h1) s (by omega) hk).mono fun e w' ⟨he, hb⟩ => ⟨_, he, hr.below hb, TxtRow.nil _, h.low hb⟩
  | some x =>
    rw [hk] at hq
    subst hq
    have hx := (h.fit.gd.srch _ x hk).1
    have hn := h.fit.n
    exact (rSearch_any h1 (h.ln h1) s (by omega) hk (by omega)).mono fun e w' ⟨vo, he, ho, hb⟩ => ⟨vo, he, hr.below hb, ho, h.low hb⟩
theorem AskN.pats (h : AskN B tb m yb who whoY S n ks w0 W) (s : Bs) (hs : s.length ≤ 1500) {q : Int × List Bs} (hq : paQ S s = q) : Calls Tryz.prog 50 #[.pointer (some ⟨tb, 0, none⟩), .string ⟨s.toArray⟩] W fun e w' => ∃ vo, e = .returned (.tuple #[vo, .int .i64 q.1]) ∧ TxtRow w' vo q.2 ∧ AskN B tb m yb who whoY S n ks w0 w' := by
  obtain ⟨nd, h1⟩ := h.tn.tr
  unfold paQ at hq
  cases hk : S (canonN rootN s) with
  | none =>
    rw [hk] at hq
    subst hq
    exact (Patterns_none h1 s (by omega) hk).mono fun e w' ⟨he, hb⟩ => ⟨_, he, TxtRow.nil _, h.low hb⟩
  | some x =>
    rw [hk] at hq
    subst hq
    have hx := h.fit.gd.exp _ x hk
    have hn := h.fit.n
    exact (Patterns_any h1 s (by omega) hk (by omega)).mono fun e w' ⟨o, c, he, ho, hb⟩ => ⟨_, he, TxtRow.of_owns ho, h.low hb⟩
theorem AskN.rpats (h : AskN B tb m yb who whoY S n ks w0 W) (s : Bs) (hs : s.length ≤ 1500) {q : Int × List Bs} (hq : paQ S s = q) {va : Value} {ss : List Bs} (hr : TxtRow W va ss) : Calls Tryz.prog 51 #[.pointer (some ⟨yb, 0, none⟩), .string ⟨s.toArray⟩] W fun e w' => ∃ vo, e = .returned (.tuple #[vo, .int .i64 q.1]) ∧ TxtRow w' va ss ∧ TxtRow w' vo q.2 ∧ AskN B tb m yb who whoY S n ks w0 w' := by
  obtain ⟨nd, l, h1⟩ := h.tn.rt
  unfold paQ at hq
  cases hk : S (canonN rootN s) with
  | none =>
    rw [hk] at hq
    subst hq
    exact (rPatterns_none h1 (h.ln h1) s (by omega) hk).mono fun e w' ⟨he, hb⟩ => ⟨_, he, hr.below hb, TxtRow.nil _, h.low hb⟩
  | some x =>
    rw [hk] at hq
    subst hq
    have hx := h.fit.gd.exp _ x hk
    have hn := h.fit.n
    exact (rPatterns_any h1 (h.ln h1) s (by omega) hk (by omega)).mono fun e w' ⟨vo, he, ho, hb⟩ => ⟨vo, he, hr.below hb, ho, h.low hb⟩
theorem AskN.cands (h : AskN B tb m yb who whoY S n ks w0 W) (s : Bs) (hs : s.length ≤ 1500) (t : Bs) (ht : t.length ≤ 1500) {q : Int × List Bs} (hq : candS S s t = q) : Calls Tryz.prog 17 #[.pointer (some ⟨tb, 0, none⟩), .string ⟨s.toArray⟩, .string ⟨t.toArray⟩] W fun e w' => ∃ vo, e = .returned (.tuple #[vo, .int .i64 q.1]) ∧ TxtRow w' vo q.2 ∧ AskN B tb m yb who whoY S n ks w0 w' := by
  obtain ⟨nd, h1⟩ := h.tn.tr
  have hL : ∀ x, S (canonN rootN s) = some x → x.search.length ≤ 100000 ∧ ∀ p ∈ x.search, p.length ≤ 100000 := fun x hx => by
    obtain ⟨q1, q2⟩ := h.fit.gd.srch _ x hx
    have := h.fit.n
    exact ⟨by omega, fun p hp => by have := (q2 p hp).1; omega⟩
  have := Candidates_any h1 s t (by omega) (by omega) hL
  rw [hq] at this
  exact this.mono fun e w' ⟨o, c, he, ho, hb⟩ => ⟨_, he, TxtRow.of_owns ho, h.low hb⟩
theorem AskN.rcands (h : AskN B tb m yb who whoY S n ks w0 W) (s : Bs) (hs : s.length ≤ 1500) (t : Bs) (ht : t.length ≤ 1500) {q : Int × List Bs} (hq : candS S s t = q) {va : Value} {ss : List Bs} (hr : TxtRow W va ss) : Calls Tryz.prog 52 #[.pointer (some ⟨yb, 0, none⟩), .string ⟨s.toArray⟩, .string ⟨t.toArray⟩] W fun e w' => ∃ vo, e = .returned (.tuple #[vo, .int .i64 q.1]) ∧ TxtRow w' va ss ∧ TxtRow w' vo q.2 ∧ AskN B tb m yb who whoY S n ks w0 w' := by
  obtain ⟨nd, l, h1⟩ := h.tn.rt
  have hL : ∀ x, S (canonN rootN s) = some x → x.search.length ≤ 100000 ∧ ∀ p ∈ x.search, p.length ≤ 100000 := fun x hx => by
    obtain ⟨q1, q2⟩ := h.fit.gd.srch _ x hx
    have := h.fit.n
    exact ⟨by omega, fun p hp => by have := (q2 p hp).1; omega⟩
  have := rCandidates_any h1 (h.ln h1) s t (by omega) (by omega) hL
  rw [hq] at this
  exact this.mono fun e w' ⟨vo, he, ho, hb⟩ => ⟨vo, he, hr.below hb, ho, h.low hb⟩
theorem AskN.unk (h : AskN B tb m yb who whoY S n ks w0 W) (s : Bs) (hs : s.length ≤ 1500) {q : Int × Bs} (hq : unQ S s = q) {va vb : Value} {ss : List Bs} (hr1 : TxtRow W va ss) (hr2 : TxtRow W vb ss) : Calls Tryz.prog 53 #[.pointer (some ⟨tb, 0, none⟩), .string ⟨s.toArray⟩] W fun e w' => e = .returned (.tuple #[.string ⟨q.2.toArray⟩, .int .i64 q.1]) ∧ TxtRow w' va ss ∧ TxtRow w' vb ss ∧ AskN B tb m yb who whoY S n ks w0 w' := by
  obtain ⟨nd, h1⟩ := h.tn.tr
  exact (Unknown_any h1 s (by omega) hq).mono fun e w' ⟨he, hb⟩ => ⟨he, hr1.below hb, hr2.below hb, h.low hb⟩
theorem AskN.runk (h : AskN B tb m yb who whoY S n ks w0 W) (s : Bs) (hs : s.length ≤ 1500) {q : Int × Bs} (hq : unQ S s = q) {va vb : Value} {ss : List Bs} (hr1 : TxtRow W va ss) (hr2 : TxtRow W vb ss) : Calls Tryz.prog 54 #[.pointer (some ⟨yb, 0, none⟩), .string ⟨s.toArray⟩] W fun e w' => e = .returned (.tuple #[.string ⟨q.2.toArray⟩, .int .i64 q.1]) ∧ TxtRow w' va ss ∧ TxtRow w' vb ss ∧ AskN B tb m yb who whoY S n ks w0 w' := by
  obtain ⟨nd, l, h1⟩ := h.tn.rt
  exact (rUnknown_any h1 (h.ln h1) s (by omega) hq).mono fun e w' ⟨he, hb⟩ => ⟨he, hr1.below hb, hr2.below hb, h.low hb⟩
theorem AskN.same (h : AskN B tb m yb who whoY S n ks w0 W) {va vb : Value} {ss : List Bs} (ha : TxtRow W va ss) (hb : TxtRow W vb ss) : Calls Tryz.prog 16 #[va, vb] W fun e w' => e = .returned (.bool true) ∧ AskN B tb m yb who whoY S n ks w0 w' := by
  exact (same_yes W ha hb).mono fun e w' ⟨he, hb⟩ => ⟨he, h.low hb⟩
end
end Go.Proofs.YtjgdfgpnmmkjfaaGreatDoor
