/- The reference's space, just made: New, at, Scope, Pop, Push, Room. -/
import Derived.Test.YtcaifihdbcjakaaGreatVPush
import Derived.Deep.RegionHeld3
import Derived.Deep.AppendLies
namespace Go.Proofs.YtcaifihdbcjakaaGreat
set_option linter.unusedVariables false
set_option linter.unusedSimpArgs false
open Go.RowKit

/-- But for the blocks of D, what was there is there. -/
structure Kp (D : List Nat) (w w' : World) : Prop where
  os : w'.os = w.os
  tape : w'.tape = w.tape
  output : w'.output = w.output
  size : w.heap.size ≤ w'.heap.size
  block : ∀ k, k < w.heap.size → k ∉ D → w'.heap[k]? = w.heap[k]?

section
variable {D D' : List Nat} {w w1 w2 : World}
theorem Kp.refl (D : List Nat) (w : World) : Kp D w w := ⟨rfl, rfl, rfl, Nat.le_refl _, fun _ _ _ => rfl⟩
theorem Kp.trans (h : Kp D w w1) (k : Kp D' w1 w2) (hD : ∀ d ∈ D', d ∈ D ∨ w.heap.size ≤ d) : Kp D w w2 :=
  ⟨k.os.trans h.os, k.tape.trans h.tape, k.output.trans h.output, Nat.le_trans h.size k.size, fun b hb hn => (k.block b (Nat.lt_of_lt_of_le hb h.size) (fun hd => by rcases hD b hd with h1 | h1; exact hn h1; omega)).trans (h.block b hb hn)⟩
theorem Kp.alloc (h : Kp D w w1) (o : Obj) : Kp D w (w1.alloc o) :=
  h.trans (D' := []) ⟨rfl, rfl, rfl, by simp, fun k hk _ => Below.heap_alloc _ _ _ hk⟩ (by simp)
theorem Kp.setCell (h : Kp D w w1) (b i : Nat) (u : Value) (hb : b ∈ D ∨ w.heap.size ≤ b) : Kp D w (w1.setCell ⟨b, i, none⟩ u) :=
  h.trans (D' := [b]) ⟨rfl, rfl, rfl, by simp [World.setCell], fun k _ hk => Below.heap_setCell w1 ⟨b, i, none⟩ u k (by simpa using hk)⟩ (by simpa using hb)
theorem Kp.drewN (h : Kp D w w1) (m : Nat) : Kp D w (w1.drewN m) :=
  have hb := below_drewN (Below.refl w1.heap.size w1) m
  h.trans (D' := []) ⟨hb.os, hb.tape, hb.output, hb.size, fun k hk _ => hb.block k hk⟩ (by simp)
theorem Kp.drew (h : Kp D w w1) : Kp D w w1.drew :=
  h.trans (D' := []) ⟨rfl, rfl, rfl, Nat.le_refl _, fun _ _ _ => rfl⟩ (by simp)
theorem Kp.grown (h : Kp D w w1) {row : Option Nat} (hg : w1.grownBy w2 row) (hr : ∀ b, row = some b → b ∈ D ∨ w.heap.size ≤ b) : Kp D w w2 :=
  h.trans (D' := row.toList) ⟨hg.os, hg.tape, hg.output, hg.size, fun k hk hn => hg.block k hk (fun e => hn (by rw [← e]; simp))⟩ (by intro d hd; cases row <;> simp at hd; subst hd; exact hr _ rfl)
theorem Kp.below (h : Kp D w w1) {B : Nat} (hB : B ≤ w.heap.size) (hD : ∀ d ∈ D, B ≤ d) : Below B w w1 :=
  ⟨h.os, h.tape, h.output, h.size, fun k hk => h.block k (by omega) (fun hd => by have := hD k hd; omega)⟩
theorem Kp.mono (h : Kp D w w1) (hD : ∀ d ∈ D, d ∈ D') : Kp D' w w1 := ⟨h.os, h.tape, h.output, h.size, fun k hk hn => h.block k hk (fun hd => hn (hD k hd))⟩
theorem kp_of_below {w w' : World} (h : Below w.heap.size w w') : Kp [] w w' := ⟨h.os, h.tape, h.output, h.size, fun k hk _ => h.block k hk⟩
end

/-- The space with one scope. -/
structure Sc (w : World) (y row sc : Nat) (nv : Value) : Prop where
  sp : w.heap[y]? = some (.cells #[.slice (some ⟨row, 0, none⟩) 1 1, .slice none 0 0] 63 (0, 0))
  ro : w.heap[row]? = some (.cells #[.pointer (some ⟨sc, 0, none⟩)] 57 (0, 0))
  sc : w.heap[sc]? = some (.cells #[nv, .bool false, .string ⟨#[]⟩, .bool false] 60 (0, 0))

theorem Sc.cells {w : World} {y row sc : Nat} {nv : Value} (h : Sc w y row sc nv) :
    w.cell? ⟨y, 0, none⟩ = some (.slice (some ⟨row, 0, none⟩) 1 1) ∧ w.cell? ⟨y, 1, none⟩ = some (.slice none 0 0) ∧ w.cell? ⟨row, 0, none⟩ = some (.pointer (some ⟨sc, 0, none⟩)) ∧
    w.cell? ⟨sc, 0, none⟩ = some nv ∧ w.cell? ⟨sc, 1, none⟩ = some (.bool false) ∧ w.cell? ⟨sc, 2, none⟩ = some (.string ⟨#[]⟩) ∧ w.cell? ⟨sc, 3, none⟩ = some (.bool false) ∧
    (∀ i, w.frozen? ⟨y, i, none⟩ = false) ∧ (∀ i, w.frozen? ⟨sc, i, none⟩ = false) := by
  obtain ⟨h1, h2, h3⟩ := h
  refine ⟨?_, ?_, ?_, ?_, ?_, ?_, ?_, fun i => ?_, fun i => ?_⟩
  · simp only [World.cell?, h1]; rfl
  · simp only [World.cell?, h1]; rfl
  · simp only [World.cell?, h2]; rfl
  · simp only [World.cell?, h3]; rfl
  · simp only [World.cell?, h3]; rfl
  · simp only [World.cell?, h3]; rfl
  · simp only [World.cell?, h3]; rfl
  · simp [World.frozen?, h1]
  · simp [World.frozen?, h3]
theorem Sc.lt {w : World} {y row sc : Nat} {nv : Value} (h : Sc w y row sc nv) : y < w.heap.size ∧ row < w.heap.size ∧ sc < w.heap.size :=
  ⟨(Array.getElem?_eq_some_iff.1 h.sp).1, (Array.getElem?_eq_some_iff.1 h.ro).1, (Array.getElem?_eq_some_iff.1 h.sc).1⟩
theorem Sc.ne {w : World} {y row sc : Nat} {nv : Value} (h : Sc w y row sc nv) : y ≠ row ∧ y ≠ sc ∧ row ≠ sc := by
  refine ⟨?_, ?_, ?_⟩
  · rintro rfl; have := h.sp.symm.trans h.ro; simp at this
  · rintro rfl; have := h.sp.symm.trans h.sc; simp at this
  · rintro rfl; have := h.ro.symm.trans h.sc; simp at this
theorem Sc.keep {w w' : World} {y row sc : Nat} {nv : Value} (h : Sc w y row sc nv) {D : List Nat} (hk : Kp D w w') (h1 : y ∉ D) (h2 : row ∉ D) (h3 : sc ∉ D) : Sc w' y row sc nv := by
  obtain ⟨l1, l2, l3⟩ := h.lt
  exact ⟨(hk.block _ l1 h1).trans h.sp, (hk.block _ l2 h2).trans h.ro, (hk.block _ l3 h3).trans h.sc⟩

theorem new1 (w : World) (a b : Obj) : ((w.alloc a).alloc b).heap[w.heap.size + 1]? = some b := by
  have := heap_alloc_new (w.alloc a) b
  rwa [show (w.alloc a).heap.size = w.heap.size + 1 from by simp] at this
theorem new2 (w : World) (a b c : Obj) : (((w.alloc a).alloc b).alloc c).heap[w.heap.size + 2]? = some c := by
  have := heap_alloc_new ((w.alloc a).alloc b) c
  rwa [show ((w.alloc a).alloc b).heap.size = w.heap.size + 2 from by simp] at this
abbrev nilS : Value := .slice none 0 0

def RNew (w : World) (e : Ending) (w' : World) : Prop := ∃ y row sc, e = .returned (.pointer (some ⟨y, 0, none⟩)) ∧ Sc w' y row sc nilS ∧ Below w.heap.size w w' ∧ w.heap.size ≤ y ∧ w.heap.size ≤ row ∧ w.heap.size ≤ sc

set_option maxHeartbeats 400000 in
theorem rNew_any (w : World) : Calls Tryz.prog 9 #[] w fun e w' => RNew w e w' := by
  have HB : Hid (Below w.heap.size w (((w.alloc (.cells #[nilS, .bool false, .string ⟨#[]⟩, .bool false] 60)).alloc (.cells #[.pointer (some ⟨w.heap.size, 0, none⟩)] 57)).alloc (.cells #[.slice (some ⟨w.heap.size + 1, 0, none⟩) 1 1, nilS] 63))) :=
    (((Below.refl _ w).alloc (Nat.le_refl _) _).alloc (by simp) _).alloc (by simp; omega) _
  go_enter Tryz.func9, Tryz.ntmps9
  go_wp2_with fail
  go_ret
  refine ⟨w.heap.size + 2, w.heap.size + 1, w.heap.size, rfl, ⟨?_, ?_, ?_⟩, HB.out, by omega, by omega, by omega⟩
  · exact new2 w _ _ _
  · rw [Below.heap_alloc _ _ _ (by simp)]; exact new1 w _ _
  · rw [Below.heap_alloc _ _ _ (by simp; omega), Below.heap_alloc _ _ _ (by simp)]; exact heap_alloc_new w _
theorem eq_sc_nil (W : World) : (binOp .eql 57 (.pointer none) (.pointer none)).run Tryz.prog W = .ok (.bool true) W := by kernel_rfl

set_option maxHeartbeats 400000 in
theorem rat_any {w : World} {y row sc : Nat} {nv : Value} (h : Sc w y row sc nv) {n : Int} (hn : (Lit.int .i64 n).wf = true) :
    Calls Tryz.prog 58 #[.pointer (some ⟨y, 0, none⟩), .int .i64 n] w fun e w' => e = .returned (.pointer (if n = 0 then some ⟨sc, 0, none⟩ else none)) ∧ w = w' := by
  obtain ⟨y0, _, r0, _, s1, _⟩ := h.cells
  rcases (by omega : n < 0 ∨ 0 < n ∨ n = 0) with h1 | h1 | h1
  · have e1 : decide (n < 0) = true := by simpa using h1
    have e2 : Hid (¬ n = 0) := by show ¬ _; omega
    go_enter Tryz.func58, Tryz.ntmps58
    go_wp2_with fail
    go_ret
    exact ⟨by first | rfl | rw [if_neg e2.out], rfl⟩
  · have e1 : decide (n < 0) = false := by simp; omega
    have e3 : decide (1 ≤ n) = true := by simp; omega
    have e2 : Hid (¬ n = 0) := by show ¬ _; omega
    go_enter Tryz.func58, Tryz.ntmps58
    go_wp2_with fail
    go_ret
    exact ⟨by first | rfl | rw [if_neg e2.out], rfl⟩
  · subst h1
    go_enter Tryz.func58, Tryz.ntmps58
    go_wp2_with fail
    go_ret
    exact ⟨rfl, rfl⟩

set_option maxHeartbeats 400000 in
theorem rScope_any {w : World} {y row sc : Nat} {nv : Value} (h : Sc w y row sc nv) {n : Int} (hn : (Lit.int .i64 n).wf = true) :
    Calls Tryz.prog 30 #[.pointer (some ⟨y, 0, none⟩), .int .i64 n] w fun e w' => (∃ a b : Int, e = .returned (.tuple #[.int .i64 a, .int .i64 b])) ∧ w = w' := by
  obtain ⟨_, y1, _⟩ := h.cells
  rcases (by omega : n < 0 ∨ 0 < n ∨ n = 0) with h1 | h1 | h1
  · have e1 : decide (n < 0) = true := by simpa using h1
    go_enter Tryz.func30, Tryz.ntmps30
    go_wp2_with fail
    go_ret2
    exact ⟨⟨_, _, rfl⟩, rfl⟩
  · have e1 : decide (n < 0) = false := by simp; omega
    have e3 : decide (0 < n) = true := by simp; omega
    go_enter Tryz.func30, Tryz.ntmps30
    go_wp2_with fail
    go_ret2
    exact ⟨⟨_, _, rfl⟩, rfl⟩
  · subst h1
    go_enter Tryz.func30, Tryz.ntmps30
    go_wp2_with fail
    go_ret2
    exact ⟨⟨_, _, rfl⟩, rfl⟩

set_option maxHeartbeats 400000 in
theorem rPop_any {w : World} {y row sc : Nat} {nv : Value} (h : Sc w y row sc nv) :
    Calls Tryz.prog 21 #[.pointer (some ⟨y, 0, none⟩)] w fun e w' => (∃ a : Int, e = .returned (.int .i64 a)) ∧ w = w' := by
  obtain ⟨_, y1, _⟩ := h.cells
  go_enter Tryz.func21, Tryz.ntmps21
  go_wp2_with fail
  go_ret
  exact ⟨⟨_, rfl⟩, rfl⟩
end Go.Proofs.YtcaifihdbcjakaaGreat
