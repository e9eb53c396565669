/- 'Lower', 'Upper', 'Reverse' of threadbareref01. -/
import Derived.Test.YtkjeccndbdgghaaLeaf
import Derived.Test.YtkjeccndbdgghaaHeap
namespace Go.Proofs.Ytkjeccndbdgghaa
open Go.RowKit
theorem Try.infoU8 : (Try.prog.info? 5).map (fun i => (i.zero, i.size, i.bytes)) = some (some (.int .u8 0), 1, 1) := by kernel_rfl

set_option maxHeartbeats 400000 in
theorem rLower_any (l : Bs) (hl : l.length ≤ 1000000) (w : World) :
    Calls Try.prog 20 #[.string ⟨l.toArray⟩] w fun e w' => e = .returned (.string ⟨(lowS l).toArray⟩) ∧ Below w.heap.size w w' := by
  go_enter Try.func20, Try.ntmps20
  go_wp2
  go_loopw [3, 7] (fun v i wr => ∃ k : Nat, k ≤ l.length ∧ i = .int .i64 k ∧ wr.ownsRow w.heap.size 5 1 v k (Lib.byteCells (lowS (l.take k))) ∧ Below w.heap.size w wr) (fun _ i wr => l.length - (intOf i).toNat)
  case atStart => exact ⟨0, Nat.zero_le _, rfl, World.ownsRow_nil _ _ _ _, Below.refl _ _⟩
  case round =>
    obtain ⟨k, hk, rfl, hown, hb⟩ := hrel
    by_cases hlt : k < l.length
    · have h255 := byte_lt l[k]
      have hT := Lib.hid (List.take_succ_eq_append_getElem hlt)
      go_wp2_with (first
        | (go_at_call 64; refine (small_any _ (by omega) (by omega) _).mono ?_; rintro e w' ⟨rfl, rfl⟩)
        | (at_builtin; refine wpList_push rfl _ _ 50 rfl w.heap.size 5 (.int .u8 0) 1 Try.underlying50 Try.infoU8 rfl _ k _ rfl hown (.int .u8 (lowI l[k].toNat)) _ rfl rfl (by unfold maxLen; omega) (by omega) hb.size ?_; intro g cap w1 hg hown1 hb1 _))
      go_roundw
      case rel =>
        refine ⟨k + 1, by omega, by go_num, ?_, hb.trans hb1⟩
        rw [← lowB_toNat, byteCells_snoc] at hown1
        rw [show lowS (l.take (k + 1)) = lowS (l.take k) ++ [lowB l[k]] from by rw [hT.out]; simp only [lowS, List.map_append, List.map_cons, List.map_nil]]
        exact hown1
      case measure => simp [intOf]; omega
    · have hk' : k = l.length := by omega
      subst hk'
      rw [List.take_length] at hown
      have hcv := run_back_own (P := Try.prog) 50 9 5 Try.underlying50 Try.underlying5 Try.underlying9 (l := lowS l) (by simpa [lowS] using hown)
      go_wp2
      go_ret
      exact ⟨rfl, hb⟩

set_option maxHeartbeats 400000 in
theorem rUpper_any (l : Bs) (hl : l.length ≤ 1000000) (w : World) :
    Calls Try.prog 22 #[.string ⟨l.toArray⟩] w fun e w' => e = .returned (.string ⟨(upS l).toArray⟩) ∧ Below w.heap.size w w' := by
  go_enter Try.func22, Try.ntmps22
  go_wp2
  go_loopw [3, 7] (fun v i wr => ∃ k : Nat, k ≤ l.length ∧ i = .int .i64 k ∧ wr.ownsRow w.heap.size 5 1 v k (Lib.byteCells (upS (l.take k))) ∧ Below w.heap.size w wr) (fun _ i wr => l.length - (intOf i).toNat)
  case atStart => exact ⟨0, Nat.zero_le _, rfl, World.ownsRow_nil _ _ _ _, Below.refl _ _⟩
  case round =>
    obtain ⟨k, hk, rfl, hown, hb⟩ := hrel
    by_cases hlt : k < l.length
    · have h255 := byte_lt l[k]
      have hT := Lib.hid (List.take_succ_eq_append_getElem hlt)
      go_wp2_with (first
        | (go_at_call 66; refine (great_any _ (by omega) (by omega) _).mono ?_; rintro e w' ⟨rfl, rfl⟩)
        | (at_builtin; refine wpList_push rfl _ _ 50 rfl w.heap.size 5 (.int .u8 0) 1 Try.underlying50 Try.infoU8 rfl _ k _ rfl hown (.int .u8 (upI l[k].toNat)) _ rfl rfl (by unfold maxLen; omega) (by omega) hb.size ?_; intro g cap w1 hg hown1 hb1 _))
      go_roundw
      case rel =>
        refine ⟨k + 1, by omega, by go_num, ?_, hb.trans hb1⟩
        rw [← upB_toNat, byteCells_snoc] at hown1
        rw [show upS (l.take (k + 1)) = upS (l.take k) ++ [upB l[k]] from by rw [hT.out]; simp only [upS, List.map_append, List.map_cons, List.map_nil]]
        exact hown1
      case measure => simp [intOf]; omega
    · have hk' : k = l.length := by omega
      subst hk'
      rw [List.take_length] at hown
      have hcv := run_back_own (P := Try.prog) 50 9 5 Try.underlying50 Try.underlying5 Try.underlying9 (l := upS l) (by simpa [upS] using hown)
      go_wp2
      go_ret
      exact ⟨rfl, hb⟩

set_option maxHeartbeats 400000 in
theorem rlong_any (l : Bs) (hl : l.length ≤ 140737488351232) (w : World) :
    Calls Try.prog 54 #[.string ⟨l.toArray⟩] w fun e w' => e = .returned (.tuple #[.string ⟨(lim l).1.toArray⟩, .int .i64 (lim l).2]) ∧ w = w' := by
  by_cases h : l.length ≤ 65536
  · have e1 : lim l = (l, 0) := if_pos h
    rw [e1]
    go_enter Try.func54, Try.ntmps54
    go_wp2
    go_ret2
    exact ⟨rfl, rfl⟩
  · have e1 : lim l = ([], 4) := if_neg h
    rw [e1]
    go_enter Try.func54, Try.ntmps54
    go_wp2
    go_ret2
    exact ⟨rfl, rfl⟩

set_option maxHeartbeats 400000 in
theorem limited_any (l : Bs) (hl : l.length ≤ 140737488351232) (w : World) :
    Calls Try.prog 52 #[.string ⟨l.toArray⟩] w fun e w' => e = .returned (.tuple #[.string ⟨(lim l).1.toArray⟩, .int .i64 (lim l).2]) ∧ w = w' := by
  by_cases h : l.length ≤ 65536
  · have e1 : lim l = (l, 0) := if_pos h
    rw [e1]
    go_enter Try.func52, Try.ntmps52
    go_wp2
    go_ret2
    exact ⟨rfl, rfl⟩
  · have e1 : lim l = ([], 4) := if_neg h
    rw [e1]
    go_enter Try.func52, Try.ntmps52
    go_wp2
    go_ret2
    exact ⟨rfl, rfl⟩

end Go.Proofs.Ytkjeccndbdgghaa
