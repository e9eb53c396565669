/- 'Glob' of package text. -/
import Derived.Test.YtjgdfgpnmmkjfaaGreatDoorGlob1
import Derived.Laws.EntriesVeiled
namespace Go.Proofs.YtjgdfgpnmmkjfaaGreatDoor
set_option linter.unusedVariables false
set_option linter.unusedSimpArgs false
open Go.RowKit

/-- What 'Glob' tells. -/
def globC (p s : Bs) (fold : Bool) : Bool := match stepsA inC fold p with
  | none => false
  | some l => (gm l s).1

theorem stepsF_len (fold : Bool) : ∀ (n : Nat) (p : Bs) (l : List Part), stepsF inC fold n p = some l → l.length ≤ n := by
  intro n
  induction n with
  | zero => intro p l h; simp [stepsF] at h; subst h; simp
  | succ n ih =>
    intro p l h
    cases p with
    | nil => simp [stepsF] at h; subst h; simp
    | cons c r =>
      simp only [stepsF] at h
      have key : ∀ (o : Option (List Part)) (x : Part), (∀ t, o = some t → t.length ≤ n) → o.map (x :: ·) = some l → l.length ≤ n + 1 := by
        intro o x ho hm
        cases o with
        | none => simp at hm
        | some t => simp at hm; subst hm; have := ho t rfl; simp; omega
      split at h
      · exact key _ _ (fun t ht => ih _ _ ht) h
      · split at h
        · exact key _ _ (fun t ht => ih _ _ ht) h
        · split at h
          · split at h
            · cases h
            · exact key _ _ (fun t ht => ih _ _ ht) h
          · split at h
            · exact key _ _ (fun t ht => ih _ _ ht) h
            · exact key _ _ (fun t ht => ih _ _ ht) h

theorem own_shape {w : World} {base n size : Nat} {e : TypeId} {v : Value} {xs : List Value} (h : w.ownsRow base e size v n xs) : ∃ ao cap, v = .slice ao n cap := by
  rcases h.2 with ⟨h1, h2⟩ | ⟨g, cap, cur, h1, _⟩
  · exact ⟨none, 0, by rw [h1, h2]⟩
  · exact ⟨_, cap, h1⟩

set_option maxRecDepth 100000 in
set_option maxHeartbeats 1000000 in
theorem Glob_any (p s : Bs) (fold : Bool) (hp : p.length ≤ 1000000) (hs : s.length ≤ 1000000) (w : World) :
    Calls Tryz.prog 73 #[.string ⟨p.toArray⟩, .string ⟨s.toArray⟩, .bool fold] w fun e w' => e = .returned (.bool (globC p s fold)) ∧ Below w.heap.size w w' := by
  cases hst : stepsA inC fold p with
  | none =>
    have hr : globC p s fold = false := by rw [globC, hst]
    rw [hr]
    have hc := fun W => steps_any p fold hp W
    rw [hst] at hc
    have HC := Lib.hid hc
    clear hc hr hst
    go_enter Tryz.func73, Tryz.ntmps73
    go_wp2_with (go_at_call 99; refine (HC.out _).mono ?_; rintro e w1 ⟨hb, rfl⟩)
    go_ret
    exact ⟨rfl, ((((Below.refl _ w).alloc (Nat.le_refl _) _).trans (hb.mono (by simp))).alloc (by have := hb.size; simp at this; omega) _)⟩
  | some l =>
    have hl := stepsF_len fold _ _ _ hst
    obtain ⟨r, hr⟩ : ∃ r, r = (gm l s).1 := ⟨_, rfl⟩
    have hr2 : globC p s fold = r := by rw [globC, hst, hr]
    rw [hr2]
    have hc := fun W => steps_any p fold hp W
    rw [hst] at hc
    have HC := Lib.hid hc
    have HR := Lib.hid hr
    clear hc hr hr2 hst
    go_enter Tryz.func73, Tryz.ntmps73
    go_wp2_with (go_at_call 99; refine (HC.out _).mono ?_; rintro e w1 ⟨hb, v, cs, rfl, hown, hpa⟩; obtain ⟨ao, cap, rfl⟩ := own_shape hown)
    have hsz := hb.size
    simp only [World.size_alloc] at hsz hb
    have hbs : w1.heap[w.heap.size]? = some (.cells #[.string ⟨s.toArray⟩] 9 (0, 0)) := (hb.block _ (by omega)).trans (heap_alloc_new w _)
    have hb0 : Below w.heap.size w w1 := ((Below.refl _ w).alloc (Nat.le_refl _) _).trans (hb.mono (by omega))
    have hB2 : Below w1.heap.size w1 ((w1.alloc (.cells #[.slice ao l.length cap] 115)).alloc (.cells #[.func (.func 100) #[] #[.pointer (some ⟨w1.heap.size, 0, none⟩), .pointer (some ⟨w.heap.size, 0, none⟩), .pointer (some ⟨w1.heap.size + 1, 0, none⟩)]] 118)) := ((Below.refl _ w1).alloc (Nat.le_refl _) _).alloc (by simp) _
    have hM : MatchAt ((w1.alloc (.cells #[.slice ao l.length cap] 115)).alloc (.cells #[.func (.func 100) #[] #[.pointer (some ⟨w1.heap.size, 0, none⟩), .pointer (some ⟨w.heap.size, 0, none⟩), .pointer (some ⟨w1.heap.size + 1, 0, none⟩)]] 118)) w1.heap.size w.heap.size (w1.heap.size + 1) (w.heap.size + 1) (.slice ao l.length cap) cs l s := by
      refine ⟨?_, blk_below hB2 hbs, ?_, ?_, hpa.kept (fun _ _ hk _ _ => blk_below hB2 hk)⟩
      · exact (Below.heap_alloc _ _ _ (by simp)).trans (heap_alloc_new w1 _)
      · have := heap_alloc_new (w1.alloc (.cells #[.slice ao l.length cap] 115)) (.cells #[.func (.func 100) #[] #[.pointer (some ⟨w1.heap.size, 0, none⟩), .pointer (some ⟨w.heap.size, 0, none⟩), .pointer (some ⟨w1.heap.size + 1, 0, none⟩)]] 118)
        rw [World.size_alloc] at this
        exact this
      · have := (hown.alloc (.cells #[.slice ao l.length cap] 115)).alloc (.cells #[.func (.func 100) #[] #[.pointer (some ⟨w1.heap.size, 0, none⟩), .pointer (some ⟨w.heap.size, 0, none⟩), .pointer (some ⟨w1.heap.size + 1, 0, none⟩)]] 118)
        rw [World.size_alloc] at this
        exact this
    have hcall := match_any w1.heap.size w.heap.size (w1.heap.size + 1) (w.heap.size + 1) _ cs l s (by omega) hs (l.length + 1) 0 0 (by omega) (Nat.zero_le _) (Nat.zero_le _) _ hM
    rw [List.drop_zero, List.drop_zero, ← HR.out] at hcall
    have HM := Lib.hid hcall
    clear hcall hM hB2 hbs hb
    refine HM.out.mono ?_
    rintro e w3 ⟨rfl, hb3⟩
    go_wp2_with fail
    go_ret
    exact ⟨rfl, ((hb0.alloc (by omega) _).alloc (by simp; omega) _).trans (hb3.mono (by simp; omega))⟩
end Go.Proofs.YtjgdfgpnmmkjfaaGreatDoor
