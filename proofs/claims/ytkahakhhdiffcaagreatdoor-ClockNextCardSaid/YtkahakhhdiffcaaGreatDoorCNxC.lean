/- The reference's 'Next': its fields in one array; its early ends. -/
import Derived.Test.YtkahakhhdiffcaaGreatDoorCNxB
import Derived.Deep.RegionHeld3
namespace Go.Proofs.YtkahakhhdiffcaaGreatDoor
set_option linter.unusedVariables false
set_option linter.unusedSimpArgs false
open Go.RowKit Go.Shelf
set_option maxHeartbeats 1600000 in
theorem rNext_bad (t : Int) (rule : Bs) (hv : validI t = false) (w : World) :
    Calls Tryz.prog 8 #[.int .i64 t, .string ⟨rule.toArray⟩] w fun e w' => e = .returned (.tuple #[.int .i64 0, .int .i64 7]) ∧ Below w.heap.size w w' := by
  have VA := Lib.hid (fun W => rright_any t W)
  rw [hv] at VA
  go_enter Tryz.func8, Tryz.ntmps8
  go_wp2_with (go_at_call 23; refine (VA.out _).mono ?_; rintro e w1 ⟨rfl, rfl⟩)
  go_ret2
  exact ⟨rfl, Below.refl _ _⟩
set_option maxHeartbeats 1600000 in
theorem rNext_words (t : Int) (rule : Bs) (hs : rule.length ≤ 100000) (hv : validI t = true) (hn : (Lib.split rule [32]).length ≠ 5) (w : World) (hM : MaxIs w) :
    Calls Tryz.prog 8 #[.int .i64 t, .string ⟨rule.toArray⟩] w fun e w' => e = .returned (.tuple #[.int .i64 0, .int .i64 2]) ∧ Below w.heap.size w w' := by
  have VA := Lib.hid (fun W => rright_any t W)
  rw [hv] at VA
  have SP := Lib.hid (words_any rule hs w hM)
  obtain ⟨L, hL⟩ : ∃ L, (Lib.split rule [32]).length = L := ⟨_, rfl⟩
  rw [hL] at SP hn
  have t5 : ((L : Int) == 5) = false := by rw [beq_eq_false_iff_ne]; omega
  clear hL hn
  go_enter Tryz.func8, Tryz.ntmps8
  go_wp2_with (first | (go_at_call 23; refine (VA.out _).mono ?_; rintro e w1 ⟨rfl, rfl⟩) | (go_at_call 18; refine SP.out.mono ?_; rintro e w1 ⟨rfl, hsr, hBs⟩; have HB := Lib.hid hBs; clear hsr hBs))
  go_ret2
  exact ⟨rfl, HB.out⟩
/-- Block b holds five arrays of truths. -/
structure Fit5 (w : World) (b : Nat) (G : Nat → Nat → Bool) : Prop where
  cell : ∀ i d, i < 5 → d < 60 → w.cell? ⟨b, 60 * i + d, none⟩ = some (.bool (G i d))
  there : w.there b 0 300
theorem Fit5.low {w w' : World} {b : Nat} {G : Nat → Nat → Bool} (h : Fit5 w b G) (hb : Below w.heap.size w w') : Fit5 w' b G := by
  have hlt : b < w.heap.size := by have := Lib.lt_of_cell (h.cell 0 0 (by omega) (by omega)); exact this
  have e := hb.block b hlt
  refine ⟨fun i d h1 h2 => (hb.cell (p := ⟨b, 60 * i + d, none⟩) hlt).trans (h.cell i d h1 h2), fun j hj => ?_⟩
  have := h.there j hj
  unfold World.cell? World.frozen? at this ⊢
  simp only [e]
  exact this
theorem heap_setCells (b : Nat) : ∀ (vs : List Value) (o : Nat) (w : World), (w.setCells b o vs).heap.size = w.heap.size ∧ (∀ k, k ≠ b → (w.setCells b o vs).heap[k]? = w.heap[k]?) ∧ (w.setCells b o vs).os = w.os ∧ (w.setCells b o vs).tape = w.tape ∧ (w.setCells b o vs).output = w.output
  | [], _, w => ⟨rfl, fun _ _ => rfl, rfl, rfl, rfl⟩
  | v :: r, o, w => by
    rw [World.setCells]
    obtain ⟨h1, h2, h3, h4, h5⟩ := heap_setCells b r (o + 1) (w.setCell ⟨b, o, none⟩ v)
    exact ⟨h1.trans (by simp [World.setCell]), fun k hk => (h2 k hk).trans (Below.heap_setCell w ⟨b, o, none⟩ v k hk), h3, h4, h5⟩
theorem ms_setCells (w : World) (b o : Nat) (vs : List Value) : MS b w (w.setCells b o vs) := by
  obtain ⟨h1, h2, h3, h4, h5⟩ := heap_setCells b vs o w
  exact ⟨h3, h4, h5, by rw [h1]; exact Nat.le_refl _, fun k _ hk => h2 k hk⟩
def boolL (F : Nat → Bool) : List Value := (List.range 60).map fun i => Value.bool (F i)
theorem boolL_len (F : Nat → Bool) : (boolL F).length = 60 := by simp [boolL]
theorem boolL_get {F : Nat → Bool} {i : Nat} (h : i < 60) : (boolL F)[i]? = some (.bool (F i)) := by simp [boolL, h]
theorem boolL_one (F : Nat → Bool) : ∀ v ∈ boolL F, v.oneCell' = true := by
  intro v hv
  simp only [boolL, List.mem_map] at hv
  obtain ⟨i, -, rfl⟩ := hv
  rfl
/-- One of the five is told. -/
theorem Fit5.put {w : World} {b : Nat} {G : Nat → Nat → Bool} (h : Fit5 w b G) {i : Nat} (hi : i < 5) (F : Nat → Bool) : Fit5 (w.setCells b (60 * i) (boolL F)) b (fun j d => if j = i then F d else G j d) ∧ MS b w (w.setCells b (60 * i) (boolL F)) := by
  refine ⟨⟨fun j d hj hd => ?_, World.there_setCells h.there b (60 * i) _⟩, ms_setCells _ _ _ _⟩
  by_cases e : j = i
  · subst e
    rw [World.cell?_setCells_in b (boolL F) (60 * j) w (fun k hk => by
      have := (h.there (60 * j + k) (by rw [boolL_len] at hk; omega)).1
      simpa using this) d (by rw [boolL_len]; exact hd), if_pos rfl]
    have := boolL_get (F := F) hd
    rw [List.getElem?_eq_getElem (by rw [boolL_len]; exact hd)] at this
    exact this
  · rw [World.cell?_setCells_out b (boolL F) (60 * i) w ⟨b, 60 * j + d, none⟩ (fun _ _ => by rw [boolL_len]; show 60 * j + d < 60 * i ∨ 60 * i + 60 ≤ 60 * j + d; omega), if_neg e]
    exact h.cell j d hj hd
end Go.Proofs.YtkahakhhdiffcaaGreatDoor
