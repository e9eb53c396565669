/- The date that was read: dated. Printed by mkCRd7.py. -/
import Derived.Test.YtkahakhhdiffcaaGreatDoorCRd7a
import Derived.Test.YtkahakhhdiffcaaGreatDoorCRd7b
import Derived.Test.YtkahakhhdiffcaaGreatDoorCRd7c
import Derived.Test.YtkahakhhdiffcaaGreatDoorCRd7d
namespace Go.Proofs.YtkahakhhdiffcaaGreatDoor
set_option linter.unusedVariables false
open Go.RowKit Go.Shelf
theorem dated_any (m : Nat) (g : Vals) (hg : Small g) (w : World) (hV : VM w m g) :
    Calls Tryz.prog 37 #[.map (some m)] w fun e w' => e = .returned (.tuple #[.int .i64 (datedC g).1, .bool (datedC g).2]) ∧ Below w.heap.size w w' := by
  rcases y_cases g with h | h | h | h
  · exact dated_a m g hg w hV h
  · exact dated_b m g hg w hV h
  · exact dated_c m g hg w hV h
  · exact dated_d m g hg w hV h
end Go.Proofs.YtkahakhhdiffcaaGreatDoor
