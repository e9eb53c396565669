/- The two acts that a statement on layer 15 makes for its bound. -/
import Derived.Test.YtcaifihdbcjakaaVPlay4
namespace Go.Proofs.Ytcaifihdbcjakaa
set_option linter.unusedVariables false
set_option linter.unusedSimpArgs false
open Go.RowKit

def actsO (name value other : Bs) : Obj := .cells #[.int .i64 0, .int .i64 0, .int .i64 0, .string ⟨name.toArray⟩, .string ⟨value.toArray⟩, .int .i64 0, .int .i64 0, .int .i64 0, .string ⟨other.toArray⟩, .string ⟨#[]⟩] 29
def actsL (name value other : Bs) : List ActV := [⟨0, 0, 0, name, value⟩, ⟨0, 0, 0, other, []⟩]

theorem acts_row (w : World) (name value other : Bs) : ARow (w.alloc (actsO name value other)).heap.size (w.alloc (actsO name value other)) (some ⟨w.heap.size, 0, none⟩) (actsL name value other) := by
  intro _
  refine ⟨w.heap.size, 0, rfl, by simp, fun i hi => ?_⟩
  have hb := heap_alloc_new w (actsO name value other)
  match i, hi with
  | 0, _ => refine ⟨?_, ?_, ?_, ?_, ?_⟩ <;> (simp only [World.cell?]; rw [hb]; rfl)
  | 1, _ => refine ⟨?_, ?_, ?_, ?_, ?_⟩ <;> (simp only [World.cell?]; rw [hb]; rfl)

theorem acts_light (name value other : Bs) (h1 : name.length ≤ 140737488355328) (h2 : value.length ≤ 140737488355328) (h3 : other.length ≤ 140737488355328) (w : World) :
    Calls Try.prog 9 #[.slice (some ⟨w.heap.size, 0, none⟩) 2 2] (w.alloc (actsO name value other)) fun e w' => e = .returned (.bool (lightB (actsL name value other))) ∧ Below w.heap.size w w' := by
  refine (light_any (actsL name value other) (some ⟨w.heap.size, 0, none⟩) 2 (by simp [actsL]) ?_ _ (acts_row w name value other)).mono fun e w' ⟨h, hb⟩ => ⟨h, ((Below.refl _ w).alloc (Nat.le_refl _) _).trans (hb.mono (by simp))⟩
  intro x hx
  simp only [actsL, List.mem_cons, List.not_mem_nil, or_false] at hx
  rcases hx with rfl | rfl
  · exact ⟨rfl, rfl, rfl, h1, h2⟩
  · exact ⟨rfl, rfl, rfl, h3, Nat.zero_le _⟩

theorem light_len {l : List ActV} (h : lightB l = true) : l.length ≤ 60 ∧ ∀ x ∈ l, x.s.length ≤ 1000000 ∧ x.t.length ≤ 1000000 := by
  simp only [lightB, Bool.and_eq_true, decide_eq_true_eq] at h
  refine ⟨h.1, fun x hx => ?_⟩
  have := sumA_mem hx
  omega
end Go.Proofs.Ytcaifihdbcjakaa
