/- What 'TableRenamed' asks of a table, in one state after the other. -/
import Derived.Test.YtbbbenjakjejmaaTbCol
import Derived.Test.YtbbbenjakjejmaaTbSame
import Derived.Test.YtbbbenjakjejmaaTbPlayA
namespace Go.Proofs.Ytbbbenjakjejmaa
set_option linter.unusedVariables false
set_option linter.unusedSimpArgs false
open Go.RowKit Go.MapKept Go.WideMaps
theorem Nms.perm {S S' : TS} {hid : Bool} {a b : List Bs} (ha : Nms S hid a) (hb : Nms S' hid b) (h : ∀ k, S'.nm hid k = S.nm hid k) : b.Perm a :=
  (List.perm_ext_iff_of_nodup hb.nodup ha.nodup).2 fun k => by rw [hb.mem, ha.mem, h]
theorem all_star (ks : List Bs) : ks.filter (qB [42]) = ks := List.filter_eq_self.2 (fun k _ => star_all k)
/-- A table in state S, and what stayed since w1. -/
def AtS (B tb mn mh mk : Nat) (who : Own) (cb : Nat → Nat) (w1 W : World) (S : TS) : Prop := Tb W B tb mn mh mk who cb S ∧ Stp who who w1 W
section
variable {B tb mn mh mk : Nat} {who : Own} {cb : Nat → Nat} {w1 W : World} {S : TS}
theorem AtS.epoch (h : AtS B tb mn mh mk who cb w1 W S) : Calls Try.prog 17 #[.pointer (some ⟨tb, 0, none⟩)] W fun e w' => e = .returned (.int .i64 (S.epoch : Int)) ∧ W = w' := by
  have c4 := h.1.cells.2.2.2.2.1
  clear h
  go_enter Try.func17, Try.ntmps17
  go_wp2
  go_ret
  exact ⟨rfl, rfl⟩
theorem AtS.low (h : AtS B tb mn mh mk who cb w1 W S) {w' : World} (hb : Below W.heap.size W w') : AtS B tb mn mh mk who cb w1 w' S := ⟨h.1.low hb, h.2.low hb⟩
theorem AtS.find (h : AtS B tb mn mh mk who cb w1 W S) (hW : WF S) (k : Bs) (hk : k.length ≤ 100000) {n : Nat} (hn : (S.nm false k).getD 0 = n) : Calls Try.prog 18 #[.pointer (some ⟨tb, 0, none⟩), .string ⟨k.toArray⟩] W fun e w' => e = .returned (.int .i64 (n : Int)) ∧ AtS B tb mn mh mk who cb w1 w' S := by
  subst hn
  exact (Find_any h.1 hW k hk).mono fun e w' ⟨he, hb⟩ => ⟨he, h.low hb⟩
theorem AtS.findHidden (h : AtS B tb mn mh mk who cb w1 W S) (hW : WF S) (k : Bs) (hk : k.length ≤ 100000) {n : Nat} (hn : (S.nm true k).getD 0 = n) : Calls Try.prog 21 #[.pointer (some ⟨tb, 0, none⟩), .string ⟨k.toArray⟩] W fun e w' => e = .returned (.int .i64 (n : Int)) ∧ AtS B tb mn mh mk who cb w1 w' S := by
  subst hn
  exact (FindHidden_any h.1 hW k hk).mono fun e w' ⟨he, hb⟩ => ⟨he, h.low hb⟩
theorem AtS.rename_ok (h : AtS B tb mn mh mk who cb w1 W S) (hW : WF S) (he : S.epoch ≤ 1000000) (s t : Bs) (hs : s.length ≤ 100000) (ht : t.length ≤ 100000) {n : Nat} (h1 : S.nm false s = some n) (h2 : S.nm false t = none) : Calls Try.prog 19 #[.pointer (some ⟨tb, 0, none⟩), .string ⟨s.toArray⟩, .string ⟨t.toArray⟩] W fun e w' => e = .returned (.int .i64 0) ∧ AtS B tb mn mh mk who cb w1 w' (moveT S n false s false t) := by
  refine (Rename_any h.1 hW he s t hs ht).mono ?_
  rintro e w' ⟨r, S', rfl, hM, hT, hS⟩
  rcases hM with ⟨h3, _⟩ | ⟨n', k, _, h3, _⟩ | ⟨n', h3, _, rfl, rfl⟩
  · rw [h1] at h3; cases h3
  · rw [h2] at h3; cases h3
  · rw [h1] at h3; cases h3; exact ⟨rfl, hT, h.2.trans hS⟩
theorem AtS.rename_no (h : AtS B tb mn mh mk who cb w1 W S) (hW : WF S) (he : S.epoch ≤ 1000000) (s t : Bs) (hs : s.length ≤ 100000) (ht : t.length ≤ 100000) (hno : ¬ ∃ n, S.nm false s = some n ∧ S.nm false t = none) : Calls Try.prog 19 #[.pointer (some ⟨tb, 0, none⟩), .string ⟨s.toArray⟩, .string ⟨t.toArray⟩] W fun e w' => ∃ r : Int, e = .returned (.int .i64 r) ∧ decide (r = 0) = false ∧ AtS B tb mn mh mk who cb w1 w' S := by
  refine (Rename_any h.1 hW he s t hs ht).mono ?_
  rintro e w' ⟨r, S', rfl, hM, hT, hS⟩
  rcases hM with ⟨_, rfl, rfl⟩ | ⟨n', k, _, _, rfl, rfl⟩ | ⟨n', h3, h4, _, _⟩
  · exact ⟨8, rfl, by decide, hT, h.2.trans hS⟩
  · exact ⟨6, rfl, by decide, hT, h.2.trans hS⟩
  · exact absurd ⟨n', h3, h4⟩ hno
theorem AtS.hide_ok (h : AtS B tb mn mh mk who cb w1 W S) (hW : WF S) (he : S.epoch ≤ 1000000) (s t : Bs) (hs : s.length ≤ 100000) (ht : t.length ≤ 100000) {n : Nat} (h1 : S.nm false s = some n) (h2 : S.nm true t = none) : Calls Try.prog 20 #[.pointer (some ⟨tb, 0, none⟩), .string ⟨s.toArray⟩, .string ⟨t.toArray⟩] W fun e w' => e = .returned (.int .i64 0) ∧ AtS B tb mn mh mk who cb w1 w' (moveT S n false s true t) := by
  refine (Hide_any h.1 hW he s t hs ht).mono ?_
  rintro e w' ⟨r, S', rfl, hM, hT, hS⟩
  rcases hM with ⟨h3, _⟩ | ⟨n', k, _, h3, _⟩ | ⟨n', h3, _, rfl, rfl⟩
  · rw [h1] at h3; cases h3
  · rw [h2] at h3; cases h3
  · rw [h1] at h3; cases h3; exact ⟨rfl, hT, h.2.trans hS⟩
theorem AtS.hide_no (h : AtS B tb mn mh mk who cb w1 W S) (hW : WF S) (he : S.epoch ≤ 1000000) (s t : Bs) (hs : s.length ≤ 100000) (ht : t.length ≤ 100000) (hno : ¬ ∃ n, S.nm false s = some n ∧ S.nm true t = none) : Calls Try.prog 20 #[.pointer (some ⟨tb, 0, none⟩), .string ⟨s.toArray⟩, .string ⟨t.toArray⟩] W fun e w' => ∃ r : Int, e = .returned (.int .i64 r) ∧ decide (r = 0) = false ∧ AtS B tb mn mh mk who cb w1 w' S := by
  refine (Hide_any h.1 hW he s t hs ht).mono ?_
  rintro e w' ⟨r, S', rfl, hM, hT, hS⟩
  rcases hM with ⟨_, rfl, rfl⟩ | ⟨n', k, _, _, rfl, rfl⟩ | ⟨n', h3, h4, _, _⟩
  · exact ⟨8, rfl, by decide, hT, h.2.trans hS⟩
  · exact ⟨6, rfl, by decide, hT, h.2.trans hS⟩
  · exact absurd ⟨n', h3, h4⟩ hno
theorem AtS.expose_ok (h : AtS B tb mn mh mk who cb w1 W S) (hW : WF S) (he : S.epoch ≤ 1000000) (s t : Bs) (hs : s.length ≤ 100000) (ht : t.length ≤ 100000) {n : Nat} (h1 : S.nm true s = some n) (h2 : S.nm false t = none) : Calls Try.prog 22 #[.pointer (some ⟨tb, 0, none⟩), .string ⟨s.toArray⟩, .string ⟨t.toArray⟩] W fun e w' => e = .returned (.int .i64 0) ∧ AtS B tb mn mh mk who cb w1 w' (moveT S n true s false t) := by
  refine (Expose_any h.1 hW he s t hs ht).mono ?_
  rintro e w' ⟨r, S', rfl, hM, hT, hS⟩
  rcases hM with ⟨h3, _⟩ | ⟨n', k, _, h3, _⟩ | ⟨n', h3, _, rfl, rfl⟩
  · rw [h1] at h3; cases h3
  · rw [h2] at h3; cases h3
  · rw [h1] at h3; cases h3; exact ⟨rfl, hT, h.2.trans hS⟩
theorem AtS.expose_no (h : AtS B tb mn mh mk who cb w1 W S) (hW : WF S) (he : S.epoch ≤ 1000000) (s t : Bs) (hs : s.length ≤ 100000) (ht : t.length ≤ 100000) (hno : ¬ ∃ n, S.nm true s = some n ∧ S.nm false t = none) : Calls Try.prog 22 #[.pointer (some ⟨tb, 0, none⟩), .string ⟨s.toArray⟩, .string ⟨t.toArray⟩] W fun e w' => ∃ r : Int, e = .returned (.int .i64 r) ∧ decide (r = 0) = false ∧ AtS B tb mn mh mk who cb w1 w' S := by
  refine (Expose_any h.1 hW he s t hs ht).mono ?_
  rintro e w' ⟨r, S', rfl, hM, hT, hS⟩
  rcases hM with ⟨_, rfl, rfl⟩ | ⟨n', k, _, _, rfl, rfl⟩ | ⟨n', h3, h4, _, _⟩
  · exact ⟨8, rfl, by decide, hT, h.2.trans hS⟩
  · exact ⟨6, rfl, by decide, hT, h.2.trans hS⟩
  · exact absurd ⟨n', h3, h4⟩ hno
theorem AtS.names (h : AtS B tb mn mh mk who cb w1 W S) (hW : WF S) (hl : S.last ≤ 900000) {S0 : TS} {ks : List Bs} (hN : Nms S0 false ks) (he : ∀ k, S.nm false k = S0.nm false k) : Calls Try.prog 16 #[.pointer (some ⟨tb, 0, none⟩), .string ⟨#[42]⟩] W fun e w' => ∃ o c, e = .returned (.slice o ks.length c) ∧ TxtRow w' (.slice o ks.length c) (srt ks) ∧ AtS B tb mn mh mk who cb w1 w' S ∧ Below W.heap.size W w' ∧ ∀ a, o = some a → W.heap.size ≤ a.block := by
  obtain ⟨ks', hN', hc⟩ := Names_any h.1 hW hl [42] (by decide)
  have hp := hN.perm hN' he
  rw [all_star, hp.length_eq, srt_of_perm hp] at hc
  refine hc.mono ?_
  rintro e w' ⟨o, c, rfl, hr, hb⟩
  refine ⟨o, c, rfl, TxtRow.of_owns (base := W.heap.size) (by rw [srt_len]; exact hr), h.low hb, hb, fun a ha => ?_⟩
  subst ha
  exact (row_ids hr a.block rfl).1
theorem TxtRow.fr {w w' : World} {who : Own} {o : Option Addr} {n c : Nat} {ss : List Bs} (h : TxtRow w (.slice o n c) ss) (hn : ∀ a, o = some a → who a.block = none) (hf : Fr who w w') : TxtRow w' (.slice o n c) ss := by
  obtain ⟨o', c', h1, h2, h3, h4⟩ := h
  cases h1
  refine ⟨_, _, rfl, h2, h3, fun i hi => ?_⟩
  obtain ⟨b, off, e, hl, hc⟩ := h4 i hi
  refine ⟨b, off, e, Nat.lt_of_lt_of_le hl hf.size, ?_⟩
  have hb := hf.block b hl (hn _ e)
  simp only [World.cell?, hb] at hc ⊢
  exact hc
end
/-- There and back. -/
theorem back_nm {S : TS} {n : Nat} {now : Bool} {s t : Bs} (h1 : S.nm false s = some n) (h2 : S.nm now t = none) : ∀ h k, (moveT (moveT S n false s now t) n now t false s).nm h k = S.nm h k := by
  intro h k
  unfold moveT
  simp only
  by_cases e1 : h = false ∧ k = s
  · rw [if_pos e1]; obtain ⟨rfl, rfl⟩ := e1; exact h1.symm
  · rw [if_neg e1]
    by_cases e2 : h = now ∧ k = t
    · rw [if_pos e2]; obtain ⟨rfl, rfl⟩ := e2; exact h2.symm
    · rw [if_neg e2, if_neg e2, if_neg e1]
theorem there_nm {S : TS} {n : Nat} {now : Bool} {s t : Bs} (h1 : S.nm false s = some n) (h2 : S.nm now t = none) : (moveT S n false s now t).nm now t = some n ∧ (moveT S n false s now t).nm false s = none := by
  have hne : ¬ (false = now ∧ s = t) := fun ⟨e1, e2⟩ => by rw [← e1, ← e2, h1] at h2; cases h2
  constructor
  · show (if now = now ∧ t = t then some n else _) = some n
    exact if_pos ⟨rfl, rfl⟩
  · show (if false = now ∧ s = t then some n else if false = false ∧ s = s then none else S.nm false s) = none
    rw [if_neg hne, if_pos ⟨rfl, rfl⟩]
end Go.Proofs.Ytbbbenjakjejmaa
