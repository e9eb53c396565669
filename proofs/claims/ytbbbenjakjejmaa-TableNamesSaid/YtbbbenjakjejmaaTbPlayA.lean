/- 'play', whatever the act; what acts leave. -/
import Derived.Test.YtbbbenjakjejmaaTbPlay
import Derived.Test.YtbbbenjakjejmaaTbAwake
namespace Go.Proofs.Ytbbbenjakjejmaa
set_option linter.unusedVariables false
set_option linter.unusedSimpArgs false
open Go.RowKit Go.MapKept Go.WideMaps
section
variable {B tb mn mh mk : Nat} {who : Own} {cb : Nat → Nat}
set_option maxRecDepth 100000 in
set_option maxHeartbeats 1600000 in
theorem play_any {w : World} {S : TS} {yb : Nat} (h : Tb w B tb mn mh mk who cb S) (hW : WF S) (hl : S.last ≤ 700000) (he : S.epoch ≤ 700000) (hr : RN w yb) (hy : who yb = none) (hyB : B ≤ yb) (k a : Int) (ha : (Lit.int .i64 a).wf = true) (s t : Bs) (hs : s.length ≤ 100000) (ht : t.length ≤ 100000) :
    Calls Try.prog 9 #[.pointer (some ⟨tb, 0, none⟩), .pointer (some ⟨yb, 0, none⟩), .agg #[.int .i64 k, .int .i64 a, .string ⟨s.toArray⟩, .string ⟨t.toArray⟩]] w fun e w' => (∃ q, e = .returned (.bool q)) ∧ PlayQ w B tb mn mh mk S w' := by
  by_cases h0 : k = 0
  · subst h0; exact play_0 h hW hl he hr hy hyB a ha s t hs ht
  by_cases h1 : k = 1
  · subst h1; exact play_1 h hW hl he hr hy hyB a ha s t hs ht
  by_cases h2 : k = 2
  · subst h2; exact play_2 h hW hl he hr hy hyB a ha s t hs ht
  by_cases h3 : k = 3
  · subst h3; exact play_3 h hW hl he hr hy hyB a ha s t hs ht
  by_cases h4 : k = 4
  · subst h4; exact play_4 h hW hl he hr hy hyB a ha s t hs ht
  by_cases h5 : k = 5
  · subst h5; exact play_5 h hW hl he hr hy hyB a ha s t hs ht
  have t0 : decide (k = 0) = false := by simpa using h0
  have t1 : decide (k = 1) = false := by simpa using h1
  have t2 : decide (k = 2) = false := by simpa using h2
  have t3 : decide (k = 3) = false := by simpa using h3
  have t4 : decide (k = 4) = false := by simpa using h4
  have t5 : decide (k = 5) = false := by simpa using h5
  have HF : Hid (∀ o, PlayQ w B tb mn mh mk S (w.alloc o)) := fun o => by
    have hb : Below w.heap.size w (w.alloc o) := (Below.refl _ w).alloc (Nat.le_refl _) _
    exact ⟨⟨S, who, cb, hW, Nat.le_succ _, Nat.le_succ _, h.low hb⟩, low_stp h (Stp.of_below hb)⟩
  clear h hr hW
  go_enter Try.func9, Try.ntmps9
  go_wp2_with fail
  go_ret
  exact ⟨⟨_, rfl⟩, HF.out _⟩
end
/-- What acts have left: a sound table, at most n commands made and n changes. -/
structure Led (w1 : World) (B tb mn mh mk n : Nat) (w : World) : Prop where
  ex : ∃ S who cb, WF S ∧ S.last ≤ n ∧ S.epoch ≤ n ∧ Tb w B tb mn mh mk who cb S
  below : Below B w1 w
/-- The same, with a table of the reference just made. -/
def LedY (w1 : World) (B tb mn mh mk n yb : Nat) (w : World) : Prop :=
  (∃ S who cb, WF S ∧ S.last ≤ n ∧ S.epoch ≤ n ∧ Tb w B tb mn mh mk who cb S ∧ who yb = none) ∧ RN w yb ∧ B ≤ yb ∧ Below B w1 w
theorem Led.low {w1 w w' : World} {B tb mn mh mk n : Nat} (h : Led w1 B tb mn mh mk n w) (hb : Below w.heap.size w w') : Led w1 B tb mn mh mk n w' := by
  obtain ⟨S, who, cb, h1, h2, h3, h4⟩ := h.ex
  exact ⟨⟨S, who, cb, h1, h2, h3, h4.low hb⟩, h.below.trans (low_stp h4 (Stp.of_below hb))⟩
theorem Led.new {w1 w : World} {B tb mn mh mk n : Nat} (h : Led w1 B tb mn mh mk n w) : Calls Try.prog 10 #[] w fun e w' => ∃ yb, e = .returned (.pointer (some ⟨yb, 0, none⟩)) ∧ LedY w1 B tb mn mh mk n yb w' ∧ Below w.heap.size w w' := by
  obtain ⟨S, who, cb, h1, h2, h3, h4⟩ := h.ex
  refine (rNew_any w).mono ?_
  rintro e w' ⟨yb, he, hr, hb, hyb⟩
  exact ⟨yb, he, ⟨⟨S, who, cb, h1, h2, h3, h4.low hb, h4.none_at hyb⟩, hr, Nat.le_trans h4.base hyb, h.below.trans (low_stp h4 (Stp.of_below hb))⟩, hb⟩
theorem LedY.play {w1 w : World} {B tb mn mh mk n yb : Nat} (h : LedY w1 B tb mn mh mk n yb w) (hn : n ≤ 600000) (k a : Int) (ha : (Lit.int .i64 a).wf = true) (s t : Bs) (hs : s.length ≤ 100000) (ht : t.length ≤ 100000) :
    Calls Try.prog 9 #[.pointer (some ⟨tb, 0, none⟩), .pointer (some ⟨yb, 0, none⟩), .agg #[.int .i64 k, .int .i64 a, .string ⟨s.toArray⟩, .string ⟨t.toArray⟩]] w fun e w' => (∃ q, e = .returned (.bool q)) ∧ Led w1 B tb mn mh mk (n + 1) w' := by
  obtain ⟨⟨S, who, cb, h1, h2, h3, h4, h5⟩, hr, hyB, hb⟩ := h
  refine (play_any h4 h1 (by omega) (by omega) hr h5 hyB k a ha s t hs ht).mono ?_
  rintro e w' ⟨he, ⟨S', who', cb', q1, q2, q3, q4⟩, hB⟩
  exact ⟨he, ⟨S', who', cb', q1, by omega, by omega, q4⟩, hb.trans hB⟩
end Go.Proofs.Ytbbbenjakjejmaa
