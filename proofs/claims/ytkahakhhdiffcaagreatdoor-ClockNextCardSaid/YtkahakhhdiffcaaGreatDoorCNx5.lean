/- The program's 'Next': its fields. -/
import Derived.Test.YtkahakhhdiffcaaGreatDoorCNx4
import Derived.Test.YtkahakhhdiffcaaGreatDoorRound
import Derived.Lib.AppendIntMem
namespace Go.Proofs.YtkahakhhdiffcaaGreatDoor
set_option linter.unusedVariables false
set_option linter.unusedSimpArgs false
open Go.RowKit Go.Shelf
/-- The bounds of the fields. -/
def loF : Nat → Nat
  | 0 => 0
  | 1 => 0
  | _ => 1
def hiF : Nat → Nat
  | 0 => 59
  | 1 => 23
  | 2 => 31
  | 3 => 12
  | _ => 7
theorem loF_hi (k : Nat) : loF k ≤ hiF k ∧ hiF k ≤ 1000 := by
  match k with
  | 0 => decide
  | 1 => decide
  | 2 => decide
  | 3 => decide
  | k + 4 => exact ⟨(show 1 ≤ 7 by decide), (show 7 ≤ 1000 by decide)⟩
/-- What fields tell. -/
def fieldsL : List Bs → Nat → Option (List (Nat → Bool))
  | [], _ => some []
  | s :: r, k => match fieldP s (loF k) (hiF k) with
    | none => none
    | some f => (fieldsL r (k + 1)).map (f :: ·)
theorem fieldsL_len : ∀ (l : List Bs) (k : Nat) {Fs : List (Nat → Bool)}, fieldsL l k = some Fs → Fs.length = l.length
  | [], k, Fs, h => by simp [fieldsL] at h; subst h; rfl
  | s :: r, k, Fs, h => by
    unfold fieldsL at h
    split at h
    · cases h
    · cases hr : fieldsL r (k + 1) with
      | none => rw [hr] at h; cases h
      | some Gs =>
        rw [hr] at h
        simp at h
        subst h
        simp [fieldsL_len r (k + 1) hr]
noncomputable def nextF (t : Int) : Option (List (Nat → Bool)) → Int × Int
  | some [a, b, c, d, e] => match nextT ⟨a, b, c, d, e⟩ t with
    | some x => (x, 0)
    | none => (0, 8)
  | _ => (0, 2)
/-- What Next answers: a time, an error. -/
noncomputable def nextC (t : Int) (rule : Bs) : Int × Int :=
  if validI t = false then (0, 7) else if (Lib.split rule [32]).length ≠ 5 then (0, 2) else nextF t (fieldsL (Lib.split rule [32]) 0)
/-- Maps of numbers. -/
def FsAt (w : World) (B : Nat) : List Nat → List (Nat → Bool) → Prop
  | [], [] => True
  | m :: ms, F :: Fs => (B ≤ m ∧ FAt w m F) ∧ FsAt w B ms Fs
  | _, _ => False
theorem FsAt.kept {w w' : World} {B : Nat} : ∀ {ms : List Nat} {Fs : List (Nat → Bool)}, FsAt w B ms Fs → (∀ m, B ≤ m → m < w.heap.size → (∃ a c, w.heap[m]? = some (.map a c)) → w'.heap[m]? = w.heap[m]?) → FsAt w' B ms Fs
  | [], [], _, _ => trivial
  | m :: ms, F :: Fs, h, hk => by
    obtain ⟨⟨h1, h2⟩, h3⟩ := h
    refine ⟨⟨h1, MapAt.congr h2 (hk m h1 (MapAt.lt h2) ?_)⟩, FsAt.kept h3 hk⟩
    obtain ⟨es, c, hm, _⟩ := h2
    exact ⟨es, c, hm⟩
theorem FsAt.snoc {w : World} {B m : Nat} {F : Nat → Bool} (hm : B ≤ m) (hF : FAt w m F) : ∀ {ms : List Nat} {Fs : List (Nat → Bool)}, FsAt w B ms Fs → FsAt w B (ms ++ [m]) (Fs ++ [F])
  | [], [], _ => ⟨⟨hm, hF⟩, trivial⟩
  | _ :: _, _ :: _, h => ⟨h.1, FsAt.snoc hm hF h.2⟩
theorem FsAt.len {w : World} {B : Nat} : ∀ {ms : List Nat} {Fs : List (Nat → Bool)}, FsAt w B ms Fs → ms.length = Fs.length
  | [], [], _ => rfl
  | _ :: _, _ :: _, h => by simp [FsAt.len h.2]
def mpv (m : Nat) : Value := .map (some m)
theorem infoNum : (Tryz.prog.info? 48).map (fun i => (i.zero, i.size, i.bytes)) = some (some (.map none), 1, 8) := by kernel_rfl
theorem from_any (s : Int) (w : World) : Calls Tryz.prog 21 #[.int .i64 s] w fun e w' => e = .returned (.func (.func 48) #[] #[.pointer (some ⟨w.heap.size, 0, none⟩)]) ∧ w' = w.alloc (.cells #[.int .i64 s] 3) := by
  go_enter Tryz.func21, Tryz.ntmps21
  go_wp2_with fail
  go_ret
  exact ⟨rfl, rfl⟩
/-- The pairs of bounds, as the program lays them. -/
abbrev bndV : Value := .agg #[.int .i64 0, .int .i64 59, .int .i64 0, .int .i64 23, .int .i64 1, .int .i64 31, .int .i64 1, .int .i64 12, .int .i64 1, .int .i64 7]
abbrev bndE (k : Nat) : Value := .agg #[.int .i64 (loF k), .int .i64 (hiF k)]
theorem bnd_lits (w : World) : (Instr.index 46 bndV (.int .i64 0)).run Tryz.prog w = .ok (.agg #[.int .i64 0, .int .i64 59]) w ∧ (Instr.index 46 bndV (.int .i64 1)).run Tryz.prog w = .ok (.agg #[.int .i64 0, .int .i64 23]) w ∧ (Instr.index 46 bndV (.int .i64 2)).run Tryz.prog w = .ok (.agg #[.int .i64 1, .int .i64 31]) w ∧ (Instr.index 46 bndV (.int .i64 3)).run Tryz.prog w = .ok (.agg #[.int .i64 1, .int .i64 12]) w ∧ (Instr.index 46 bndV (.int .i64 4)).run Tryz.prog w = .ok (.agg #[.int .i64 1, .int .i64 7]) w := by
  refine ⟨?_, ?_, ?_, ?_, ?_⟩ <;> kernel_rfl
theorem bnd_idx (k : Nat) (hk : k < 5) (w : World) : (Instr.index 46 bndV (.int .i64 (k : Int))).run Tryz.prog w = .ok (bndE k) w := by
  match k, hk with
  | 0, _ => exact (bnd_lits w).1
  | 1, _ => exact (bnd_lits w).2.1
  | 2, _ => exact (bnd_lits w).2.2.1
  | 3, _ => exact (bnd_lits w).2.2.2.1
  | 4, _ => exact (bnd_lits w).2.2.2.2
end Go.Proofs.YtkahakhhdiffcaaGreatDoor
