/- 'take'. -/
import Derived.Test.YtbbbenjakjejmaaGreatTbTake
import Derived.Test.YtbbbenjakjejmaaGreatTbSort
namespace Go.Proofs.YtbbbenjakjejmaaGreat
set_option linter.unusedVariables false
set_option linter.unusedSimpArgs false
open Go.RowKit Go.MapKept Go.WideMaps
section
variable {B tb mn mh mk : Nat} {who : Own} {cb : Nat → Nat}
/-- A row of numbers, beside the table. -/
structure IR (w : World) (B : Nat) (who : Own) (v : Value) (zs : List Int) : Prop where
  own : w.ownsRow B 3 1 v zs.length (zs.map (Value.int .i64))
  sep : ∀ g, v.ownBlock = some g → who g = none
theorem IR.nil (w : World) (B : Nat) (who : Own) : IR w B who (.slice none 0 0) [] := ⟨⟨rfl, .inl ⟨rfl, rfl⟩⟩, fun g hg => by simp [Value.ownBlock] at hg⟩
theorem IR.stp {w w' : World} {v : Value} {zs : List Int} (h : IR w B who v zs) {who' : Own} (hs : Stp who who' w w') : IR w' B who' v zs :=
  ⟨row_keep h.own (fun g hg => hs.fr.block g (h.own.lt g hg).2 (h.sep g hg)), fun g hg => by rw [hs.ext g (h.own.lt g hg).2]; exact h.sep g hg⟩
set_option maxRecDepth 100000 in
set_option maxHeartbeats 1600000 in
theorem take_any {S : TS} {w : World} (h : Tb w B tb mn mh mk who cb S) (hW : WF S) (hl : S.last ≤ 900000) {n : Nat} {c : Cm} (hc : S.cm n = some c) :
    Calls Tryz.prog 45 #[.pointer (some ⟨tb, 0, none⟩), .pointer (some ⟨cb n, 0, none⟩)] w fun e w' => ∃ o cap S' L, e = .returned (.slice o L.length cap) ∧ Gone S n L S' ∧ Tb w' B tb mn mh mk who cb S' ∧ IR w' B who (.slice o L.length cap) (srtI (L.map (fun k : Nat => (k : Int)))) ∧ Stp who who w w' := by
  have hmf : ∀ (fn : Fn) (first cap : Array Value) (w : World), (Instr.makeFunc fn first cap).run Tryz.prog w = .ok (.func fn first cap) w := fun _ _ _ _ => rfl
  obtain ⟨s, hs⟩ : ∃ s, w.heap.size = s := ⟨_, rfl⟩
  have hcnt := S.cnt_le
  have hfree : ∀ j, s ≤ j → who j = none := fun j hj => h.none_at (by omega)
  have hbase := h.base
  have CL : Hid (∀ W4, W4 = ((w.alloc (.cells #[.pointer (some ⟨tb, 0, none⟩)] 25)).alloc (.cells #[.slice none 0 0] 32)).alloc (.cells #[.func (.func 57) #[] #[.pointer (some ⟨s + 1, 0, none⟩), .pointer (some ⟨s + 1 + 1, 0, none⟩), .pointer (some ⟨s, 0, none⟩)]] 79) →
      Calls Tryz.prog 57 #[.pointer (some ⟨cb n, 0, none⟩), .pointer (some ⟨s + 1, 0, none⟩), .pointer (some ⟨s + 1 + 1, 0, none⟩), .pointer (some ⟨s, 0, none⟩)] W4 fun e w' => e = .returned (.tuple #[]) ∧ ∃ S' L o k, Gone S n L S' ∧ Tk w' B tb mn mh mk who cb S' (s + 1) (.slice o L.length k) (L.map (fun k : Nat => (k : Int))) ∧ Stp who who w w' ∧ ∀ g, (Value.slice o L.length k).ownBlock = some g → w.heap.size ≤ g) := fun W4 hW4 => by
    have hB4 : Below w.heap.size w W4 := by
      rw [hW4]
      exact (((Below.refl _ w).alloc (Nat.le_refl _) _).alloc (by simp) _).alloc (by simp <;> omega) _
    have h1 : W4.heap[s + 1]? = some (.cells #[.slice none 0 0] 32 (0, 0)) := by
      rw [hW4, Below.heap_alloc _ _ _ (by simp <;> omega)]
      have := heap_alloc_new (w.alloc (.cells #[.pointer (some ⟨tb, 0, none⟩)] 25)) (.cells #[.slice none 0 0] 32)
      simpa [hs] using this
    have h0 : W4.heap[s]? = some (.cells #[.pointer (some ⟨tb, 0, none⟩)] 25 (0, 0)) := by
      rw [hW4, Below.heap_alloc _ _ _ (by simp <;> omega), Below.heap_alloc _ _ _ (by simp <;> omega)]
      have := heap_alloc_new w (.cells #[.pointer (some ⟨tb, 0, none⟩)] 25)
      simpa [hs] using this
    have h2 : W4.heap[s + 1 + 1]? = some (.cells #[.func (.func 57) #[] #[.pointer (some ⟨s + 1, 0, none⟩), .pointer (some ⟨s + 1 + 1, 0, none⟩), .pointer (some ⟨s, 0, none⟩)]] 79 (0, 0)) := by
      rw [hW4]
      have := heap_alloc_new ((w.alloc (.cells #[.pointer (some ⟨tb, 0, none⟩)] 25)).alloc (.cells #[.slice none 0 0] 32)) (.cells #[.func (.func 57) #[] #[.pointer (some ⟨s + 1, 0, none⟩), .pointer (some ⟨s + 1 + 1, 0, none⟩), .pointer (some ⟨s, 0, none⟩)]] 79)
      simpa [hs] using this
    have hTk : Tk W4 B tb mn mh mk who cb S (s + 1) (.slice none 0 0) [] := ⟨h.low hB4, hfree _ (by omega), h1, (IR.nil W4 B who).own, (IR.nil W4 B who).sep⟩
    refine (take1_any (ob := s + 1) (fb := s + 1 + 1) (xb := s) ⟨hfree _ (by omega), hfree _ (Nat.le_refl _), by omega, by omega⟩ (S.last + 1) S n c W4 _ [] hW hl (by omega) hc hTk (by simp; omega) ⟨h2, h0⟩).mono ?_
    rintro e w5 ⟨rfl, S', L, row', hG, hT5, hS5⟩
    rw [List.nil_append] at hT5
    obtain ⟨o, k, hrow⟩ := row_slice2 hT5.own
    rw [List.length_map] at hrow
    subst hrow
    have hrg : ∀ g, (Value.slice o L.length k).ownBlock = some g → w.heap.size ≤ g := fun g hg => by
      rcases hS5.row with e | ⟨g', e, hge⟩
      · rw [hg] at e; simp [Value.ownBlock] at e
      · rw [hg] at e; cases e; exact Nat.le_trans hB4.size hge
    refine ⟨rfl, S', L, o, k, hG, hT5, ⟨⟨hS5.os.trans hB4.os, hS5.tape.trans hB4.tape, hS5.output.trans hB4.output, Nat.le_trans hB4.size hS5.size, fun j hj hn => ?_⟩, fun _ _ => rfl⟩, hrg⟩
    exact (hS5.block j (Nat.lt_of_lt_of_le hj hB4.size) hn (by omega) (by simp [Value.ownBlock])).trans (hB4.block j hj)
  have HH := Lib.hid (And.intro hs (And.intro hcnt hl))
  have HW := Lib.hid hW
  clear h hW hcnt hfree hbase hc hl
  go_enter Tryz.func45, Tryz.ntmps45
  have SO : Hid (∀ W o k (L : List Nat), L.length ≤ 900001 → W.ownsRow B 3 1 (.slice o L.length k) (L.map (fun k : Nat => (k : Int))).length ((L.map (fun k : Nat => (k : Int))).map (Value.int .i64)) → Calls Tryz.prog 50 #[.slice o L.length k] W fun e w' => e = .returned (.tuple #[]) ∧ w'.ownsRow B 3 1 (.slice o L.length k) (srtI (L.map (fun k : Nat => (k : Int)))).length ((srtI (L.map (fun k : Nat => (k : Int)))).map (Value.int .i64)) ∧ Kp (Value.slice o L.length k).ownBlock.toList W w') := fun W o k L hL ho =>
    (sortI_any ho (by simp; omega)).mono fun e w' ⟨he, h1, h2⟩ => ⟨he, by rw [srtI_len]; exact h1, h2⟩
  go_wp2_with (first
    | (go_at_call 57; refine (CL.out _ rfl).mono ?_; rintro e w5 ⟨rfl, S', L, o, k, hG, hT5, hS5, hrg⟩; have o5 : w5.cell? ⟨s + 1, 0, none⟩ = some (.slice o L.length k) := (by simp [World.cell?, hT5.cel]); have HT5 := Lib.hid (And.intro hG (And.intro hT5 (And.intro hS5 hrg))); clear hG hT5 hS5 hrg)
    | (go_at_call 50; refine (SO.out _ _ _ _ (by have := HT5.out.1.cnt HW.out; have := HH.out.2.1; have := HH.out.2.2; omega) HT5.out.2.1.own).mono ?_; rintro e w6 ⟨rfl, ho, hk⟩; have o6 : w6.cell? ⟨s + 1, 0, none⟩ = some (.slice o L.length k) := (by rw [World.cell?_of_block (a := ⟨s + 1, 0, none⟩) (hk.block _ HT5.out.2.1.lt (fun hm => HT5.out.2.1.ne (by simpa using hm)))]; exact o5); have HT6 := Lib.hid (And.intro ho hk); clear ho hk))
  go_ret
  obtain ⟨hG, hT5, hS5, hrg⟩ := HT5.out
  obtain ⟨ho, hk⟩ := HT6.out
  refine ⟨o, k, S', L, rfl, hG, hT5.tb.keep hk.size (fun j hj => hk.block j (hT5.tb.lo j hj).2 (fun hm => hj (hT5.sep j (by simpa using hm)))), ⟨ho, hT5.sep⟩, ⟨⟨hk.os.trans hS5.fr.os, hk.tape.trans hS5.fr.tape, hk.output.trans hS5.fr.output, Nat.le_trans hS5.fr.size hk.size, fun j hj hn => ?_⟩, fun _ _ => rfl⟩⟩
  exact (hk.block j (Nat.lt_of_lt_of_le hj hS5.fr.size) (fun hm => by have := hrg j (by simpa using hm); omega)).trans (hS5.fr.block j hj hn)
end
end Go.Proofs.YtbbbenjakjejmaaGreat
