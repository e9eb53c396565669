/- 'ClockWrites' returns true: the walk. -/
import Derived.Test.YtmidphmniikdpaaDoorCRWrt2
import Derived.Test.YtmidphmniikdpaaDoorCAwake
namespace Go.Proofs.YtmidphmniikdpaaDoor.clockWrites
set_option linter.unusedVariables false
set_option linter.unusedSimpArgs false
open Go.RowKit
set_option maxRecDepth 100000 in
set_option maxHeartbeats 3200000 in
theorem walk (t : Int) (s : Bs) (hs : s.length ≤ maxLen) (w : World) (hT : SpaceIs w) (hP : PowIs w) :
    Calls Tryd.prog 3 #[.int .i64 t, .string ⟨s.toArray⟩] w fun e w' => e = .returned (.bool true) ∧ Below w.heap.size w w' := by
  have HT := Lib.hid hT
  have HP := Lib.hid hP
  have HB := Lib.hid (Below.refl w.heap.size w)
  by_cases hl : s.length ≤ 200
  · have K1 := Lib.hid (fun W h1 h2 => Write_any t s (by omega) W h1 h2)
    have K2 := Lib.hid (fun W h1 => rWrite_any t s (by omega) W h1)
    generalize writeP t s = p at *
    obtain ⟨q, e⟩ := p
    clear hT hP
    go_enter Tryd.func3, Tryd.ntmps3
    go_wp2_with (first
      | (go_at_call 10; refine (K1.out _ (HT.out.below HB.out) (HP.out.below HB.out)).mono ?_; rintro e w1 ⟨rfl, hb⟩; replace HB := Lib.hid (HB.out.trans (hb.mono HB.out.size)); clear hb)
      | (go_at_call 11; refine (K2.out _ (HP.out.below HB.out)).mono ?_; rintro e w1 ⟨rfl, hb⟩; replace HB := Lib.hid (HB.out.trans (hb.mono HB.out.size)); clear hb)
      | (go_at_call 9; refine (awake_any _ ?_ ?_).mono ?_; exact HT.out.below HB.out; exact HP.out.below HB.out; rintro e w8 ⟨rfl, hb⟩; replace HB := Lib.hid (HB.out.trans (hb.mono HB.out.size)); clear hb))
    go_ret
    exact ⟨rfl, HB.out⟩
  · have hl2 : 200 < s.length := by omega
    clear hT hP
    go_enter Tryd.func3, Tryd.ntmps3
    go_wp2_with (go_at_call 9; refine (awake_any _ ?_ ?_).mono ?_; exact HT.out.below HB.out; exact HP.out.below HB.out; rintro e w8 ⟨rfl, hb⟩; replace HB := Lib.hid (HB.out.trans (hb.mono HB.out.size)); clear hb)
    go_ret
    exact ⟨rfl, HB.out⟩
end Go.Proofs.YtmidphmniikdpaaDoor.clockWrites
