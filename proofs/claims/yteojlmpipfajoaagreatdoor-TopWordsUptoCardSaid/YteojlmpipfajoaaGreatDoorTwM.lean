/- The reader of scripts: the table of first bytes. -/
import Derived.Test.YteojlmpipfajoaaGreatDoorTwK
import Derived.Test.YteojlmpipfajoaaGreatDoorPush1
import Derived.Laws.EntriesVeiled
namespace Go.Proofs.YteojlmpipfajoaaGreatDoor
set_option linter.unusedVariables false
set_option linter.unusedSimpArgs false
open Go.RowKit Go.MapKept
open Go.Maps (Keyed int_keyed)
def encW (c : UInt8) : Value := .int .u8 (c.toNat : Int)
theorem encW_inj (a b : UInt8) (h : encW a = encW b) : a = b := by
  unfold encW at h
  injection h with _ h
  exact UInt8.toNat_inj.1 (by exact_mod_cast h)
theorem Wkeyed : Keyed Tryz.prog 5 := int_keyed Tryz.underlying5
theorem wkey (c : UInt8) : keyOf Tryz.prog 5 (encW c) = some (.int .u8 (c.toNat : Int)) := Maps.keyOf_int_mk Tryz.underlying5 (by
  have := c.toNat_lt
  have e1 : IntKind.u8.min = 0 := rfl
  have e2 : IntKind.u8.max = 255 := rfl
  simp only [Lit.wf, Bool.and_eq_true, decide_eq_true_eq, e1, e2]
  omega)
def gW (c : UInt8) : Option Value := if c = 34 then some (.func (.func 89) #[] #[]) else if c = 123 then some (.func (.func 88) #[] #[]) else none
theorem zeroW (w : World) : (zeroValue 140).run Tryz.prog w = .ok .nilFunc w := by kernel_rfl
theorem words_any (w : World) : Calls Tryz.prog 75 #[] w fun e w' => e = .returned (.map (some w.heap.size)) ∧ Below w.heap.size w w' ∧ MapAt Tryz.prog 5 encW w' w.heap.size gW := by
  have h0 := mapAt_new Tryz.prog 5 encW w
  obtain ⟨w1, r1, o1, m1⟩ := h0.store Wkeyed Tryz.underlying142 encW_inj (k := 123) (wkey 123) (.func (.func 88) #[] #[])
  obtain ⟨w2, r2, o2, m2⟩ := m1.store Wkeyed Tryz.underlying142 encW_inj (k := 34) (wkey 34) (.func (.func 89) #[] #[])
  have r0 : (Instr.makeMap 142 none).run Tryz.prog w = .ok (.map (some w.heap.size)) (w.alloc (.map #[] 0)) := run_makeMap _ _
  have r1' : (Instr.mapUpdate 142 (.map (some w.heap.size)) (.int .u8 123) (.func (.func 88) #[] #[])).run Tryz.prog (w.alloc (.map #[] 0)) = .ok () w1 := r1
  have r2' : (Instr.mapUpdate 142 (.map (some w.heap.size)) (.int .u8 34) (.func (.func 89) #[] #[])).run Tryz.prog w1 = .ok () w2 := r2
  have HM := Lib.hid (show MapAt Tryz.prog 5 encW w2 w.heap.size gW from m2)
  have HB := Lib.hid ((((Below.refl _ w).alloc (Nat.le_refl _) (.map #[] 0)).trans (o1.below (Nat.le_refl _))).trans (o2.below (Nat.le_refl _)))
  clear m1 m2 o1 o2 r1 r2 h0
  go_enter Tryz.func75, Tryz.ntmps75
  go_wp2_with fail
  go_ret
  exact ⟨rfl, HB.out, HM.out⟩
/-- The table asked. -/
theorem gW_look {w : World} {b : Nat} (h : MapAt Tryz.prog 5 encW w b gW) (c : UInt8) : (Instr.lookup 142 (.map (some b)) (.int .u8 (c.toNat : Int)) true).run Tryz.prog w = .ok (.tuple #[(gW c).getD .nilFunc, .bool (gW c).isSome]) w :=
  look_ok h Wkeyed Tryz.underlying142 (zeroW w) (wkey c)
end Go.Proofs.YteojlmpipfajoaaGreatDoor
