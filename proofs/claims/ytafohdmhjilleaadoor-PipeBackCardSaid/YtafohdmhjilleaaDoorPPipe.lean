/- A pipe in memory; its small acts. -/
import Derived.Test.YtafohdmhjilleaaDoorPOut
import Derived.Deep.QuietTactic
import Derived.BigQuiet
import Derived.BigRegion
import Derived.RegionTactic
namespace Go.Proofs.YtafohdmhjilleaaDoor
set_option linter.unusedVariables false
set_option linter.unusedSimpArgs false
open Go.RowKit Go.Shelf

/-- A pipe. -/
structure PP where
  inm : Bs
  outm : Bs
  buf : Bs
  size : Int
  fv : Value
  raw : Bs
  closed : Bool
  broken : Bool
  eof : Bool
  blocked : Bool
  buffer : Bs
  gone : Bs
  fin : Nat
abbrev PP.cells (p : PP) : Array Value := #[.string ⟨p.inm.toArray⟩, .string ⟨p.outm.toArray⟩, .string ⟨p.buf.toArray⟩, .int .i64 p.size, p.fv, .string ⟨p.raw.toArray⟩, .bool p.closed, .bool p.broken, .bool p.eof, .bool p.blocked, .string ⟨p.buffer.toArray⟩, .string ⟨p.gone.toArray⟩, .int .i64 (p.fin : Int)]
def PAt (w : World) (b : Nat) (p : PP) : Prop := w.heap[b]? = some (.cells p.cells 52 (0, 0))
theorem PAt.lt {w : World} {b : Nat} {p : PP} (h : PAt w b p) : b < w.heap.size := (Array.getElem?_eq_some_iff.1 h).1
theorem PAt.keep {w w' : World} {b : Nat} {p : PP} {D : List Nat} (h : PAt w b p) (hk : Kp D w w') (hb : b ∉ D) : PAt w' b p := (hk.block b h.lt hb).trans h
theorem PAt.below {w w' : World} {b B : Nat} {p : PP} (h : PAt w b p) (hk : Below B w w') (hb : b < B) : PAt w' b p := (hk.block b hb).trans h
theorem PAt.set {w : World} {b : Nat} {p : PP} (h : PAt w b p) (i : Nat) (v : Value) (p' : PP) (hp : p'.cells = p.cells.setIfInBounds i v) : PAt (w.setCell ⟨b, i, none⟩ v) b p' := by
  unfold PAt at *
  simp only [World.setCell, Array.getElem?_modify, h]
  simp [hp]
theorem PAt.fz {w : World} {b : Nat} {p : PP} (h : PAt w b p) (i : Nat) : w.frozen? ⟨b, i, none⟩ = false := by
  unfold PAt at h; simp [World.frozen?, h]
section
variable {w : World} {b : Nat} {p : PP}
theorem PAt.c0 (h : PAt w b p) : w.cell? ⟨b, 0, none⟩ = some (.string ⟨p.inm.toArray⟩) := by unfold PAt at h; simp only [World.cell?, h]; rfl
theorem PAt.c1 (h : PAt w b p) : w.cell? ⟨b, 1, none⟩ = some (.string ⟨p.outm.toArray⟩) := by unfold PAt at h; simp only [World.cell?, h]; rfl
theorem PAt.c2 (h : PAt w b p) : w.cell? ⟨b, 2, none⟩ = some (.string ⟨p.buf.toArray⟩) := by unfold PAt at h; simp only [World.cell?, h]; rfl
theorem PAt.c3 (h : PAt w b p) : w.cell? ⟨b, 3, none⟩ = some (.int .i64 p.size) := by unfold PAt at h; simp only [World.cell?, h]; rfl
theorem PAt.c4 (h : PAt w b p) : w.cell? ⟨b, 4, none⟩ = some p.fv := by unfold PAt at h; simp only [World.cell?, h]; rfl
theorem PAt.c5 (h : PAt w b p) : w.cell? ⟨b, 5, none⟩ = some (.string ⟨p.raw.toArray⟩) := by unfold PAt at h; simp only [World.cell?, h]; rfl
theorem PAt.c6 (h : PAt w b p) : w.cell? ⟨b, 6, none⟩ = some (.bool p.closed) := by unfold PAt at h; simp only [World.cell?, h]; rfl
theorem PAt.c7 (h : PAt w b p) : w.cell? ⟨b, 7, none⟩ = some (.bool p.broken) := by unfold PAt at h; simp only [World.cell?, h]; rfl
theorem PAt.c8 (h : PAt w b p) : w.cell? ⟨b, 8, none⟩ = some (.bool p.eof) := by unfold PAt at h; simp only [World.cell?, h]; rfl
theorem PAt.c9 (h : PAt w b p) : w.cell? ⟨b, 9, none⟩ = some (.bool p.blocked) := by unfold PAt at h; simp only [World.cell?, h]; rfl
theorem PAt.c10 (h : PAt w b p) : w.cell? ⟨b, 10, none⟩ = some (.string ⟨p.buffer.toArray⟩) := by unfold PAt at h; simp only [World.cell?, h]; rfl
theorem PAt.c11 (h : PAt w b p) : w.cell? ⟨b, 11, none⟩ = some (.string ⟨p.gone.toArray⟩) := by unfold PAt at h; simp only [World.cell?, h]; rfl
theorem PAt.c12 (h : PAt w b p) : w.cell? ⟨b, 12, none⟩ = some (.int .i64 (p.fin : Int)) := by unfold PAt at h; simp only [World.cell?, h]; rfl
theorem PAt.maxne (h : PAt w b p) (hM : MaxIs w) : 0 ≠ b := by
  rintro rfl
  obtain ⟨m, hm⟩ := hM
  have := h.c0
  rw [hm] at this
  cases this
end
theorem MaxIs.kp {w w' : World} {D : List Nat} (h : MaxIs w) (hk : Kp D w w') (hD : 0 ∉ D) : MaxIs w' := by
  have h0 := h.pos
  obtain ⟨m, hm⟩ := h
  have := hk.block 0 h0 hD
  exact ⟨m, by simp only [World.cell?, this] at hm ⊢; exact hm⟩

theorem ptr_nil (W : World) (b : Nat) : (binOp .eql 23 (.pointer (some ⟨b, 0, none⟩)) (.pointer none)).run Tryd.prog W = .ok (.bool false) W := by kernel_rfl
theorem ptr_nen (W : World) (b : Nat) : (binOp .neq 23 (.pointer (some ⟨b, 0, none⟩)) (.pointer none)).run Tryd.prog W = .ok (.bool true) W := by kernel_rfl

def PP.fresh (p : PP) : PP := { p with eof := false, blocked := false }
set_option maxRecDepth 100000 in
theorem fresh_any {w : World} {b : Nat} {p : PP} (h : PAt w b p) : Calls Tryd.prog 35 #[.pointer (some ⟨b, 0, none⟩)] w fun e w' => e = .returned (.tuple #[]) ∧ w' = (w.setCell ⟨b, 8, none⟩ (.bool false)).setCell ⟨b, 9, none⟩ (.bool false) := by
  have c8 := h.c8; have c9 := h.c9; have f8 := h.fz 8; have f9 := h.fz 9
  go_enter Tryd.func35, Tryd.ntmps35
  go_wp2
  go_end0
  exact ⟨rfl, rfl⟩
end Go.Proofs.YtafohdmhjilleaaDoor
