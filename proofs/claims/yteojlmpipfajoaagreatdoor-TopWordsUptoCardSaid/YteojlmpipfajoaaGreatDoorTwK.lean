/- The reader of scripts: braced words. -/
import Derived.Test.YteojlmpipfajoaaGreatDoorTwJ
namespace Go.Proofs.YteojlmpipfajoaaGreatDoor
set_option linter.unusedVariables false
set_option linter.unusedSimpArgs false
open Go.RowKit
/-- A word just made: its block. -/
def WdO : Obj := .cells #[.bool false, .slice none 0 0] 41 (0, 0)
theorem WdO.f {w : World} {b : Nat} (h : w.heap[b]? = some WdO) : w.cell? ⟨b, 0, none⟩ = some (.bool false) ∧ w.cell? ⟨b, 1, none⟩ = some (.slice none 0 0) ∧ ∀ i, w.frozen? ⟨b, i, none⟩ = false := by
  unfold WdO at h
  refine ⟨?_, ?_, fun i => by simp [World.frozen?, h]⟩ <;> (simp only [World.cell?, h]; rfl)
theorem Kp.more {D : List Nat} {w w1 w2 : World} (h : Kp D w w1) (hb : Below w1.heap.size w1 w2) : Kp D w w2 := h.trans (kp_of_below hb) (by simp)
/-- A word that is read: its tokens, the reader behind it. -/
def WordR (rb : Nat) (s x : Bs) (J : Nat) (w : World) : Ending → World → Prop := fun e w' => ∃ v, e = .returned (.agg #[.bool false, v]) ∧ TokAt w' v x ∧ (∀ g c n, v = .slice (some ⟨g, 0, none⟩) n c → w.heap.size ≤ g) ∧ Rd w' rb s J ∧ Kp [rb] w w'
section
variable {rb i : Nat} {s x R : Bs}
set_option maxRecDepth 100000 in
set_option maxHeartbeats 1600000 in
theorem braced_any {w : World} (h : Rd w rb s i) (hd : s.drop i = 123 :: (x ++ 125 :: R)) (hR : Rest R) (hx : balF x 0 = true) (hc : Lib.contains x [92, 10] = false) (h42 : x ≠ [42]) :
    Calls Tryz.prog 88 #[.pointer (some ⟨rb, 0, none⟩), .bool false] w (WordR rb s x (i + x.length + 2) w) := by
  have hA := (Below.refl w.heap.size w).alloc (Nat.le_refl _) (.cells #[.bool false, .slice none 0 0] 41)
  have BR := Lib.hid (brace_any (h.below hA) hd hx)
  have hxl : x.length ≤ 100000 := by
    have := congrArg List.length hd
    have h2 := h.len
    simp at this
    omega
  have JO := Lib.hid (fun W => joined_any x hxl hc W)
  have LI := Lib.hid (fun W => literal_any x W)
  have CL : Hid (∀ W, Rd W rb s (i + x.length + 2) → Calls Tryz.prog 102 #[.pointer (some ⟨rb, 0, none⟩), .bool false] W fun e w' => e = .returned (.tuple #[]) ∧ ∃ m, w' = W.drewN m) := fun W hW => closed_any hW (by
    have : s.drop (i + x.length + 2) = R := by
      have e := drop_more (a := 123 :: x ++ [125]) (b := R) (i := i) (s := s) (by rw [hd]; simp)
      rw [← e]
      congr 1
      simp
      omega
    rw [this]
    exact hR)
  have hne : (x == [42]) = false := by rw [beq_eq_false_iff_ne]; exact h42
  have hlt := h.lt
  have HA := Lib.hid hA
  have BK : Hid (∀ W, Kp [rb] (w.alloc (.cells #[.bool false, .slice none 0 0] 41)) W → W.heap[w.heap.size]? = some WdO) := fun W hk => (hk.block _ (by simp) (by simp; omega)).trans (heap_alloc_new w _)
  obtain ⟨J, hJ⟩ : ∃ J, i + x.length + 2 = J := ⟨_, rfl⟩
  rw [hJ] at BR CL ⊢
  clear h hd hR hx hc h42 hA hJ
  go_enter Tryz.func88, Tryz.ntmps88
  go_wp2_with (first | (go_at_call 101; refine BR.out.mono ?_; rintro e w1 ⟨rfl, hr1, hk1⟩; have H1 := Lib.hid (And.intro hr1 hk1); clear hr1 hk1) | (go_at_call 102; refine (CL.out _ H1.out.1).mono ?_; rintro e w2 ⟨rfl, m2, rfl⟩) | (go_at_call 103; refine (JO.out _).mono ?_; rintro e w3 ⟨rfl, hb3⟩; have H3 := Lib.hid hb3; clear hb3) | (go_at_call 92; refine (LI.out _).mono ?_; rintro e w4 ⟨rfl, ht4, hb4⟩; have H4 := Lib.hid (And.intro ht4 hb4); clear ht4 hb4; have K4 := Lib.hid (((H1.out.2.drewN m2).more H3.out).more H4.out.2); obtain ⟨d0, d1, df⟩ := WdO.f (BK.out _ K4.out); have df0 := df 0; have df1 := df 1; clear df))
  have hd0 : w.heap.size ≠ rb := by omega
  have hw3 := (H1.out.2.drewN m2).more H3.out
  have hs3 : w.heap.size + 1 ≤ w3.heap.size := by have := hw3.size; simpa using this
  have hl3 : w.heap.size < w4.heap.size := by have := H4.out.2.size; omega
  have hK : Kp [rb, w.heap.size] w w4 := ((kp_of_below HA.out).mono (D' := [rb, w.heap.size]) (by simp)).trans K4.out (by simp)
  have hK2 : Kp [rb] w ((w4.setCell ⟨w.heap.size, 0, none⟩ (.bool false)).setCell ⟨w.heap.size, 1, none⟩ (.slice (some ⟨w3.heap.size, 0, none⟩) 1 1)) :=
    ((((kp_of_below HA.out).mono (D' := [rb]) (by simp)).trans K4.out (by simp)).setCell w.heap.size 0 _ (.inr (Nat.le_refl _))).setCell w.heap.size 1 _ (.inr (Nat.le_refl _))
  have hS : Kp [w.heap.size] w4 ((w4.setCell ⟨w.heap.size, 0, none⟩ (.bool false)).setCell ⟨w.heap.size, 1, none⟩ (.slice (some ⟨w3.heap.size, 0, none⟩) 1 1)) :=
    ((Kp.refl _ w4).setCell w.heap.size 0 _ (.inl (by simp))).setCell w.heap.size 1 _ (.inl (by simp))
  have hRd : Rd w4 rb s J := ((H1.out.1.drewN m2).below H3.out).below H4.out.2
  refine bodyPost_ret (v := .agg #[.bool false, .slice (some ⟨w3.heap.size, 0, none⟩) 1 1]) (by simp [results, Tryz.results88, go_sem, d0, d1, df0, df1]) rfl ⟨_, rfl, H4.out.1.kp hS ?_, ?_, hRd.kp hS (by simp; omega), hK2⟩
  · intro g c n e
    cases e
    simp
    omega
  · intro g c n e
    cases e
    omega
end
end Go.Proofs.YteojlmpipfajoaaGreatDoor
