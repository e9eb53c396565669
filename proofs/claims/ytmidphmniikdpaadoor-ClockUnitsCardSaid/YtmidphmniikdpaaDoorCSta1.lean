/- Contracts of the clock's beginnings of units: the closures. -/
import Derived.Test.YtmidphmniikdpaaDoorCStaP
import Derived.Test.YtmidphmniikdpaaDoorCWeek
import Derived.Deep.RegionHeld3
import Derived.Deep.RegionWith
namespace Go.Proofs.YtmidphmniikdpaaDoor
set_option linter.unusedVariables false
set_option linter.unusedSimpArgs false
open Go.RowKit

def atV (c : Nat) : Value := .func (.func 98) #[] #[.pointer (some ⟨c, 0, none⟩)]
set_option maxRecDepth 100000 in
theorem at_any (k : Int) (w : World) : Calls Tryd.prog 97 #[.int .i64 k] w fun e w' => e = .returned (.func (.func 98) #[] #[.pointer (some ⟨w.heap.size, 0, none⟩)]) ∧ w' = w.alloc (.cells #[.int .i64 k] 79) := by
  go_enter Tryd.func97, Tryd.ntmps97
  go_wp2_with fail
  go_ret
  exact ⟨rfl, rfl⟩
theorem ix3_0 (n : Nat) (w : World) : (Instr.index 103 (.agg #[.pointer (some ⟨n, 5, none⟩), .pointer (some ⟨n, 4, none⟩), .pointer (some ⟨n, 3, none⟩)]) (.int .i64 0)).run Tryd.prog w = .ok (.pointer (some ⟨n, 5, none⟩)) w := by kernel_rfl
theorem ix3_1 (n : Nat) (w : World) : (Instr.index 103 (.agg #[.pointer (some ⟨n, 5, none⟩), .pointer (some ⟨n, 4, none⟩), .pointer (some ⟨n, 3, none⟩)]) (.int .i64 1)).run Tryd.prog w = .ok (.pointer (some ⟨n, 4, none⟩)) w := by kernel_rfl
theorem ix3_2 (n : Nat) (w : World) : (Instr.index 103 (.agg #[.pointer (some ⟨n, 5, none⟩), .pointer (some ⟨n, 4, none⟩), .pointer (some ⟨n, 3, none⟩)]) (.int .i64 2)).run Tryd.prog w = .ok (.pointer (some ⟨n, 3, none⟩)) w := by kernel_rfl
set_option maxRecDepth 100000 in
set_option maxHeartbeats 1600000 in
theorem beg0_any (y m d h mi s : Int) (c : Nat) (w : World) (hc : w.cell? ⟨c, 0, none⟩ = some (.int .i64 0)) :
    Calls Tryd.prog 98 #[.agg #[.int .i64 y, .int .i64 m, .int .i64 d, .int .i64 h, .int .i64 mi, .int .i64 s], .pointer (some ⟨c, 0, none⟩)] w fun e w' => e = .returned ((⟨y, m, d, h, mi, s⟩ : DT).beg 0).v ∧ Below w.heap.size w w' := by
  have hcl := cell_lt hc
  go_enter Tryd.func98, Tryd.ntmps98
  go_wp2_with fail
  go_loopw [4, 5, 10] (fun v4 v5 v10 wr => (v10 = .int .i64 0 ∧ wr = ((w.alloc (.cells #[.int .i64 y, .int .i64 m, .int .i64 d, .int .i64 h, .int .i64 mi, .int .i64 s] 30)).alloc (.cells #[.int .i64 0, .int .i64 0, .int .i64 0, .int .i64 0, .int .i64 0, .int .i64 0] 30))) ∨ (v10 = .int .i64 1 ∧ wr = ((w.alloc (.cells #[.int .i64 y, .int .i64 m, .int .i64 d, .int .i64 h, .int .i64 mi, .int .i64 s] 30)).alloc (.cells #[.int .i64 0, .int .i64 0, .int .i64 0, .int .i64 0, .int .i64 0, .int .i64 0] 30))) ∨ (v10 = .int .i64 2 ∧ wr = ((w.alloc (.cells #[.int .i64 y, .int .i64 m, .int .i64 d, .int .i64 h, .int .i64 mi, .int .i64 s] 30)).alloc (.cells #[.int .i64 0, .int .i64 0, .int .i64 0, .int .i64 0, .int .i64 0, .int .i64 0] 30))) ∨ (v10 = .int .i64 3 ∧ wr = ((w.alloc (.cells #[.int .i64 y, .int .i64 m, .int .i64 d, .int .i64 h, .int .i64 mi, .int .i64 s] 30)).alloc (.cells #[.int .i64 0, .int .i64 0, .int .i64 0, .int .i64 0, .int .i64 0, .int .i64 0] 30)))) (fun _ _ v10 _ => (3 - intOf v10).toNat)
  case atStart => exact .inl ⟨by go_num, by first | trivial | rfl⟩
  case round =>
    rcases hrel with ⟨rfl, rfl⟩ | ⟨rfl, rfl⟩ | ⟨rfl, rfl⟩ | ⟨rfl, rfl⟩
    · have hx := ix3_0 w.heap.size ((w.alloc (.cells #[.int .i64 y, .int .i64 m, .int .i64 d, .int .i64 h, .int .i64 mi, .int .i64 s] 30)).alloc (.cells #[.int .i64 0, .int .i64 0, .int .i64 0, .int .i64 0, .int .i64 0, .int .i64 0] 30))
      go_wp2_with fail
      go_roundw
      case rel => exact .inr (.inl ⟨by go_num, by first | trivial | rfl⟩)
      case measure => simp [intOf]
    · have hx := ix3_1 w.heap.size ((w.alloc (.cells #[.int .i64 y, .int .i64 m, .int .i64 d, .int .i64 h, .int .i64 mi, .int .i64 s] 30)).alloc (.cells #[.int .i64 0, .int .i64 0, .int .i64 0, .int .i64 0, .int .i64 0, .int .i64 0] 30))
      go_wp2_with fail
      go_roundw
      case rel => exact .inr (.inr (.inl ⟨by go_num, by first | trivial | rfl⟩))
      case measure => simp [intOf]
    · have hx := ix3_2 w.heap.size ((w.alloc (.cells #[.int .i64 y, .int .i64 m, .int .i64 d, .int .i64 h, .int .i64 mi, .int .i64 s] 30)).alloc (.cells #[.int .i64 0, .int .i64 0, .int .i64 0, .int .i64 0, .int .i64 0, .int .i64 0] 30))
      go_wp2_with fail
      go_roundw
      case rel => exact .inr (.inr (.inr ⟨by go_num, by first | trivial | rfl⟩))
      case measure => simp [intOf]
    · go_wp2_with fail
      have hgn : ((w.alloc (.cells #[.int .i64 y, .int .i64 m, .int .i64 d, .int .i64 h, .int .i64 mi, .int .i64 s] 30)).alloc (.cells #[.int .i64 y, .int .i64 m, .int .i64 d, .int .i64 h, .int .i64 mi, .int .i64 s] 30)).heap[w.heap.size + 1]? = some (.cells #[.int .i64 y, .int .i64 m, .int .i64 d, .int .i64 h, .int .i64 mi, .int .i64 s] 30) := by
        have h := heap_alloc_new (w.alloc (.cells #[.int .i64 y, .int .i64 m, .int .i64 d, .int .i64 h, .int .i64 mi, .int .i64 s] 30)) (.cells #[.int .i64 y, .int .i64 m, .int .i64 d, .int .i64 h, .int .i64 mi, .int .i64 s] 30)
        simpa using h
      refine bodyPost_ret (date_result rfl _ _ _ _ _ _ rfl hgn rfl) rfl ⟨rfl, ?_⟩
      exact (below_alloc1 w _).alloc (by simp) _
set_option maxRecDepth 100000 in
set_option maxHeartbeats 1600000 in
theorem beg1_any (y m d h mi s : Int) (c : Nat) (w : World) (hc : w.cell? ⟨c, 0, none⟩ = some (.int .i64 1)) :
    Calls Tryd.prog 98 #[.agg #[.int .i64 y, .int .i64 m, .int .i64 d, .int .i64 h, .int .i64 mi, .int .i64 s], .pointer (some ⟨c, 0, none⟩)] w fun e w' => e = .returned ((⟨y, m, d, h, mi, s⟩ : DT).beg 1).v ∧ Below w.heap.size w w' := by
  have hcl := cell_lt hc
  go_enter Tryd.func98, Tryd.ntmps98
  go_wp2_with fail
  go_loopw [4, 5, 10] (fun v4 v5 v10 wr => (v10 = .int .i64 0 ∧ wr = ((w.alloc (.cells #[.int .i64 y, .int .i64 m, .int .i64 d, .int .i64 h, .int .i64 mi, .int .i64 s] 30)).alloc (.cells #[.int .i64 0, .int .i64 0, .int .i64 0, .int .i64 0, .int .i64 0, .int .i64 0] 30))) ∨ (v10 = .int .i64 1 ∧ wr = ((w.alloc (.cells #[.int .i64 y, .int .i64 m, .int .i64 d, .int .i64 h, .int .i64 mi, .int .i64 0] 30)).alloc (.cells #[.int .i64 0, .int .i64 0, .int .i64 0, .int .i64 0, .int .i64 0, .int .i64 0] 30))) ∨ (v10 = .int .i64 2 ∧ wr = ((w.alloc (.cells #[.int .i64 y, .int .i64 m, .int .i64 d, .int .i64 h, .int .i64 mi, .int .i64 0] 30)).alloc (.cells #[.int .i64 0, .int .i64 0, .int .i64 0, .int .i64 0, .int .i64 0, .int .i64 0] 30))) ∨ (v10 = .int .i64 3 ∧ wr = ((w.alloc (.cells #[.int .i64 y, .int .i64 m, .int .i64 d, .int .i64 h, .int .i64 mi, .int .i64 0] 30)).alloc (.cells #[.int .i64 0, .int .i64 0, .int .i64 0, .int .i64 0, .int .i64 0, .int .i64 0] 30)))) (fun _ _ v10 _ => (3 - intOf v10).toNat)
  case atStart => exact .inl ⟨by go_num, by first | trivial | rfl⟩
  case round =>
    rcases hrel with ⟨rfl, rfl⟩ | ⟨rfl, rfl⟩ | ⟨rfl, rfl⟩ | ⟨rfl, rfl⟩
    · have hx := ix3_0 w.heap.size ((w.alloc (.cells #[.int .i64 y, .int .i64 m, .int .i64 d, .int .i64 h, .int .i64 mi, .int .i64 s] 30)).alloc (.cells #[.int .i64 0, .int .i64 0, .int .i64 0, .int .i64 0, .int .i64 0, .int .i64 0] 30))
      go_wp2_with fail
      go_roundw
      case rel => exact .inr (.inl ⟨by go_num, by first | trivial | rfl⟩)
      case measure => simp [intOf]
    · have hx := ix3_1 w.heap.size ((w.alloc (.cells #[.int .i64 y, .int .i64 m, .int .i64 d, .int .i64 h, .int .i64 mi, .int .i64 0] 30)).alloc (.cells #[.int .i64 0, .int .i64 0, .int .i64 0, .int .i64 0, .int .i64 0, .int .i64 0] 30))
      go_wp2_with fail
      go_roundw
      case rel => exact .inr (.inr (.inl ⟨by go_num, by first | trivial | rfl⟩))
      case measure => simp [intOf]
    · have hx := ix3_2 w.heap.size ((w.alloc (.cells #[.int .i64 y, .int .i64 m, .int .i64 d, .int .i64 h, .int .i64 mi, .int .i64 0] 30)).alloc (.cells #[.int .i64 0, .int .i64 0, .int .i64 0, .int .i64 0, .int .i64 0, .int .i64 0] 30))
      go_wp2_with fail
      go_roundw
      case rel => exact .inr (.inr (.inr ⟨by go_num, by first | trivial | rfl⟩))
      case measure => simp [intOf]
    · go_wp2_with fail
      have hgn : ((w.alloc (.cells #[.int .i64 y, .int .i64 m, .int .i64 d, .int .i64 h, .int .i64 mi, .int .i64 0] 30)).alloc (.cells #[.int .i64 y, .int .i64 m, .int .i64 d, .int .i64 h, .int .i64 mi, .int .i64 0] 30)).heap[w.heap.size + 1]? = some (.cells #[.int .i64 y, .int .i64 m, .int .i64 d, .int .i64 h, .int .i64 mi, .int .i64 0] 30) := by
        have h := heap_alloc_new (w.alloc (.cells #[.int .i64 y, .int .i64 m, .int .i64 d, .int .i64 h, .int .i64 mi, .int .i64 0] 30)) (.cells #[.int .i64 y, .int .i64 m, .int .i64 d, .int .i64 h, .int .i64 mi, .int .i64 0] 30)
        simpa using h
      refine bodyPost_ret (date_result rfl _ _ _ _ _ _ rfl hgn rfl) rfl ⟨rfl, ?_⟩
      exact (below_alloc1 w _).alloc (by simp) _
set_option maxRecDepth 100000 in
set_option maxHeartbeats 1600000 in
theorem beg2_any (y m d h mi s : Int) (c : Nat) (w : World) (hc : w.cell? ⟨c, 0, none⟩ = some (.int .i64 2)) :
    Calls Tryd.prog 98 #[.agg #[.int .i64 y, .int .i64 m, .int .i64 d, .int .i64 h, .int .i64 mi, .int .i64 s], .pointer (some ⟨c, 0, none⟩)] w fun e w' => e = .returned ((⟨y, m, d, h, mi, s⟩ : DT).beg 2).v ∧ Below w.heap.size w w' := by
  have hcl := cell_lt hc
  go_enter Tryd.func98, Tryd.ntmps98
  go_wp2_with fail
  go_loopw [4, 5, 10] (fun v4 v5 v10 wr => (v10 = .int .i64 0 ∧ wr = ((w.alloc (.cells #[.int .i64 y, .int .i64 m, .int .i64 d, .int .i64 h, .int .i64 mi, .int .i64 s] 30)).alloc (.cells #[.int .i64 0, .int .i64 0, .int .i64 0, .int .i64 0, .int .i64 0, .int .i64 0] 30))) ∨ (v10 = .int .i64 1 ∧ wr = ((w.alloc (.cells #[.int .i64 y, .int .i64 m, .int .i64 d, .int .i64 h, .int .i64 mi, .int .i64 0] 30)).alloc (.cells #[.int .i64 0, .int .i64 0, .int .i64 0, .int .i64 0, .int .i64 0, .int .i64 0] 30))) ∨ (v10 = .int .i64 2 ∧ wr = ((w.alloc (.cells #[.int .i64 y, .int .i64 m, .int .i64 d, .int .i64 h, .int .i64 0, .int .i64 0] 30)).alloc (.cells #[.int .i64 0, .int .i64 0, .int .i64 0, .int .i64 0, .int .i64 0, .int .i64 0] 30))) ∨ (v10 = .int .i64 3 ∧ wr = ((w.alloc (.cells #[.int .i64 y, .int .i64 m, .int .i64 d, .int .i64 h, .int .i64 0, .int .i64 0] 30)).alloc (.cells #[.int .i64 0, .int .i64 0, .int .i64 0, .int .i64 0, .int .i64 0, .int .i64 0] 30)))) (fun _ _ v10 _ => (3 - intOf v10).toNat)
  case atStart => exact .inl ⟨by go_num, by first | trivial | rfl⟩
  case round =>
    rcases hrel with ⟨rfl, rfl⟩ | ⟨rfl, rfl⟩ | ⟨rfl, rfl⟩ | ⟨rfl, rfl⟩
    · have hx := ix3_0 w.heap.size ((w.alloc (.cells #[.int .i64 y, .int .i64 m, .int .i64 d, .int .i64 h, .int .i64 mi, .int .i64 s] 30)).alloc (.cells #[.int .i64 0, .int .i64 0, .int .i64 0, .int .i64 0, .int .i64 0, .int .i64 0] 30))
      go_wp2_with fail
      go_roundw
      case rel => exact .inr (.inl ⟨by go_num, by first | trivial | rfl⟩)
      case measure => simp [intOf]
    · have hx := ix3_1 w.heap.size ((w.alloc (.cells #[.int .i64 y, .int .i64 m, .int .i64 d, .int .i64 h, .int .i64 mi, .int .i64 0] 30)).alloc (.cells #[.int .i64 0, .int .i64 0, .int .i64 0, .int .i64 0, .int .i64 0, .int .i64 0] 30))
      go_wp2_with fail
      go_roundw
      case rel => exact .inr (.inr (.inl ⟨by go_num, by first | trivial | rfl⟩))
      case measure => simp [intOf]
    · have hx := ix3_2 w.heap.size ((w.alloc (.cells #[.int .i64 y, .int .i64 m, .int .i64 d, .int .i64 h, .int .i64 0, .int .i64 0] 30)).alloc (.cells #[.int .i64 0, .int .i64 0, .int .i64 0, .int .i64 0, .int .i64 0, .int .i64 0] 30))
      go_wp2_with fail
      go_roundw
      case rel => exact .inr (.inr (.inr ⟨by go_num, by first | trivial | rfl⟩))
      case measure => simp [intOf]
    · go_wp2_with fail
      have hgn : ((w.alloc (.cells #[.int .i64 y, .int .i64 m, .int .i64 d, .int .i64 h, .int .i64 0, .int .i64 0] 30)).alloc (.cells #[.int .i64 y, .int .i64 m, .int .i64 d, .int .i64 h, .int .i64 0, .int .i64 0] 30)).heap[w.heap.size + 1]? = some (.cells #[.int .i64 y, .int .i64 m, .int .i64 d, .int .i64 h, .int .i64 0, .int .i64 0] 30) := by
        have h := heap_alloc_new (w.alloc (.cells #[.int .i64 y, .int .i64 m, .int .i64 d, .int .i64 h, .int .i64 0, .int .i64 0] 30)) (.cells #[.int .i64 y, .int .i64 m, .int .i64 d, .int .i64 h, .int .i64 0, .int .i64 0] 30)
        simpa using h
      refine bodyPost_ret (date_result rfl _ _ _ _ _ _ rfl hgn rfl) rfl ⟨rfl, ?_⟩
      exact (below_alloc1 w _).alloc (by simp) _
set_option maxRecDepth 100000 in
set_option maxHeartbeats 1600000 in
theorem beg3_any (y m d h mi s : Int) (c : Nat) (w : World) (hc : w.cell? ⟨c, 0, none⟩ = some (.int .i64 3)) :
    Calls Tryd.prog 98 #[.agg #[.int .i64 y, .int .i64 m, .int .i64 d, .int .i64 h, .int .i64 mi, .int .i64 s], .pointer (some ⟨c, 0, none⟩)] w fun e w' => e = .returned ((⟨y, m, d, h, mi, s⟩ : DT).beg 3).v ∧ Below w.heap.size w w' := by
  have hcl := cell_lt hc
  go_enter Tryd.func98, Tryd.ntmps98
  go_wp2_with fail
  go_loopw [4, 5, 10] (fun v4 v5 v10 wr => (v10 = .int .i64 0 ∧ wr = ((w.alloc (.cells #[.int .i64 y, .int .i64 m, .int .i64 d, .int .i64 h, .int .i64 mi, .int .i64 s] 30)).alloc (.cells #[.int .i64 0, .int .i64 0, .int .i64 0, .int .i64 0, .int .i64 0, .int .i64 0] 30))) ∨ (v10 = .int .i64 1 ∧ wr = ((w.alloc (.cells #[.int .i64 y, .int .i64 m, .int .i64 d, .int .i64 h, .int .i64 mi, .int .i64 0] 30)).alloc (.cells #[.int .i64 0, .int .i64 0, .int .i64 0, .int .i64 0, .int .i64 0, .int .i64 0] 30))) ∨ (v10 = .int .i64 2 ∧ wr = ((w.alloc (.cells #[.int .i64 y, .int .i64 m, .int .i64 d, .int .i64 h, .int .i64 0, .int .i64 0] 30)).alloc (.cells #[.int .i64 0, .int .i64 0, .int .i64 0, .int .i64 0, .int .i64 0, .int .i64 0] 30))) ∨ (v10 = .int .i64 3 ∧ wr = ((w.alloc (.cells #[.int .i64 y, .int .i64 m, .int .i64 d, .int .i64 0, .int .i64 0, .int .i64 0] 30)).alloc (.cells #[.int .i64 0, .int .i64 0, .int .i64 0, .int .i64 0, .int .i64 0, .int .i64 0] 30)))) (fun _ _ v10 _ => (3 - intOf v10).toNat)
  case atStart => exact .inl ⟨by go_num, by first | trivial | rfl⟩
  case round =>
    rcases hrel with ⟨rfl, rfl⟩ | ⟨rfl, rfl⟩ | ⟨rfl, rfl⟩ | ⟨rfl, rfl⟩
    · have hx := ix3_0 w.heap.size ((w.alloc (.cells #[.int .i64 y, .int .i64 m, .int .i64 d, .int .i64 h, .int .i64 mi, .int .i64 s] 30)).alloc (.cells #[.int .i64 0, .int .i64 0, .int .i64 0, .int .i64 0, .int .i64 0, .int .i64 0] 30))
      go_wp2_with fail
      go_roundw
      case rel => exact .inr (.inl ⟨by go_num, by first | trivial | rfl⟩)
      case measure => simp [intOf]
    · have hx := ix3_1 w.heap.size ((w.alloc (.cells #[.int .i64 y, .int .i64 m, .int .i64 d, .int .i64 h, .int .i64 mi, .int .i64 0] 30)).alloc (.cells #[.int .i64 0, .int .i64 0, .int .i64 0, .int .i64 0, .int .i64 0, .int .i64 0] 30))
      go_wp2_with fail
      go_roundw
      case rel => exact .inr (.inr (.inl ⟨by go_num, by first | trivial | rfl⟩))
      case measure => simp [intOf]
    · have hx := ix3_2 w.heap.size ((w.alloc (.cells #[.int .i64 y, .int .i64 m, .int .i64 d, .int .i64 h, .int .i64 0, .int .i64 0] 30)).alloc (.cells #[.int .i64 0, .int .i64 0, .int .i64 0, .int .i64 0, .int .i64 0, .int .i64 0] 30))
      go_wp2_with fail
      go_roundw
      case rel => exact .inr (.inr (.inr ⟨by go_num, by first | trivial | rfl⟩))
      case measure => simp [intOf]
    · go_wp2_with fail
      have hgn : ((w.alloc (.cells #[.int .i64 y, .int .i64 m, .int .i64 d, .int .i64 0, .int .i64 0, .int .i64 0] 30)).alloc (.cells #[.int .i64 y, .int .i64 m, .int .i64 d, .int .i64 0, .int .i64 0, .int .i64 0] 30)).heap[w.heap.size + 1]? = some (.cells #[.int .i64 y, .int .i64 m, .int .i64 d, .int .i64 0, .int .i64 0, .int .i64 0] 30) := by
        have h := heap_alloc_new (w.alloc (.cells #[.int .i64 y, .int .i64 m, .int .i64 d, .int .i64 0, .int .i64 0, .int .i64 0] 30)) (.cells #[.int .i64 y, .int .i64 m, .int .i64 d, .int .i64 0, .int .i64 0, .int .i64 0] 30)
        simpa using h
      refine bodyPost_ret (date_result rfl _ _ _ _ _ _ rfl hgn rfl) rfl ⟨rfl, ?_⟩
      exact (below_alloc1 w _).alloc (by simp) _
set_option maxRecDepth 100000 in
set_option maxHeartbeats 1600000 in
theorem beg5_any (y m d h mi s : Int) (c : Nat) (w : World) (hc : w.cell? ⟨c, 0, none⟩ = some (.int .i64 5)) :
    Calls Tryd.prog 98 #[.agg #[.int .i64 y, .int .i64 m, .int .i64 d, .int .i64 h, .int .i64 mi, .int .i64 s], .pointer (some ⟨c, 0, none⟩)] w fun e w' => e = .returned ((⟨y, m, d, h, mi, s⟩ : DT).beg 5).v ∧ Below w.heap.size w w' := by
  have hcl := cell_lt hc
  go_enter Tryd.func98, Tryd.ntmps98
  go_wp2_with fail
  go_loopw [4, 5, 10] (fun v4 v5 v10 wr => (v10 = .int .i64 0 ∧ wr = ((w.alloc (.cells #[.int .i64 y, .int .i64 m, .int .i64 d, .int .i64 h, .int .i64 mi, .int .i64 s] 30)).alloc (.cells #[.int .i64 0, .int .i64 0, .int .i64 0, .int .i64 0, .int .i64 0, .int .i64 0] 30))) ∨ (v10 = .int .i64 1 ∧ wr = ((w.alloc (.cells #[.int .i64 y, .int .i64 m, .int .i64 d, .int .i64 h, .int .i64 mi, .int .i64 0] 30)).alloc (.cells #[.int .i64 0, .int .i64 0, .int .i64 0, .int .i64 0, .int .i64 0, .int .i64 0] 30))) ∨ (v10 = .int .i64 2 ∧ wr = ((w.alloc (.cells #[.int .i64 y, .int .i64 m, .int .i64 d, .int .i64 h, .int .i64 0, .int .i64 0] 30)).alloc (.cells #[.int .i64 0, .int .i64 0, .int .i64 0, .int .i64 0, .int .i64 0, .int .i64 0] 30))) ∨ (v10 = .int .i64 3 ∧ wr = ((w.alloc (.cells #[.int .i64 y, .int .i64 m, .int .i64 d, .int .i64 0, .int .i64 0, .int .i64 0] 30)).alloc (.cells #[.int .i64 0, .int .i64 0, .int .i64 0, .int .i64 0, .int .i64 0, .int .i64 0] 30)))) (fun _ _ v10 _ => (3 - intOf v10).toNat)
  case atStart => exact .inl ⟨by go_num, by first | trivial | rfl⟩
  case round =>
    rcases hrel with ⟨rfl, rfl⟩ | ⟨rfl, rfl⟩ | ⟨rfl, rfl⟩ | ⟨rfl, rfl⟩
    · have hx := ix3_0 w.heap.size ((w.alloc (.cells #[.int .i64 y, .int .i64 m, .int .i64 d, .int .i64 h, .int .i64 mi, .int .i64 s] 30)).alloc (.cells #[.int .i64 0, .int .i64 0, .int .i64 0, .int .i64 0, .int .i64 0, .int .i64 0] 30))
      go_wp2_with fail
      go_roundw
      case rel => exact .inr (.inl ⟨by go_num, by first | trivial | rfl⟩)
      case measure => simp [intOf]
    · have hx := ix3_1 w.heap.size ((w.alloc (.cells #[.int .i64 y, .int .i64 m, .int .i64 d, .int .i64 h, .int .i64 mi, .int .i64 0] 30)).alloc (.cells #[.int .i64 0, .int .i64 0, .int .i64 0, .int .i64 0, .int .i64 0, .int .i64 0] 30))
      go_wp2_with fail
      go_roundw
      case rel => exact .inr (.inr (.inl ⟨by go_num, by first | trivial | rfl⟩))
      case measure => simp [intOf]
    · have hx := ix3_2 w.heap.size ((w.alloc (.cells #[.int .i64 y, .int .i64 m, .int .i64 d, .int .i64 h, .int .i64 0, .int .i64 0] 30)).alloc (.cells #[.int .i64 0, .int .i64 0, .int .i64 0, .int .i64 0, .int .i64 0, .int .i64 0] 30))
      go_wp2_with fail
      go_roundw
      case rel => exact .inr (.inr (.inr ⟨by go_num, by first | trivial | rfl⟩))
      case measure => simp [intOf]
    · go_wp2_with fail
      have hgn : ((w.alloc (.cells #[.int .i64 y, .int .i64 m, .int .i64 1, .int .i64 0, .int .i64 0, .int .i64 0] 30)).alloc (.cells #[.int .i64 y, .int .i64 m, .int .i64 1, .int .i64 0, .int .i64 0, .int .i64 0] 30)).heap[w.heap.size + 1]? = some (.cells #[.int .i64 y, .int .i64 m, .int .i64 1, .int .i64 0, .int .i64 0, .int .i64 0] 30) := by
        have h := heap_alloc_new (w.alloc (.cells #[.int .i64 y, .int .i64 m, .int .i64 1, .int .i64 0, .int .i64 0, .int .i64 0] 30)) (.cells #[.int .i64 y, .int .i64 m, .int .i64 1, .int .i64 0, .int .i64 0, .int .i64 0] 30)
        simpa using h
      refine bodyPost_ret (date_result rfl _ _ _ _ _ _ rfl hgn rfl) rfl ⟨rfl, ?_⟩
      exact (below_alloc1 w _).alloc (by simp) _
set_option maxRecDepth 100000 in
set_option maxHeartbeats 1600000 in
theorem beg6_any (y m d h mi s : Int) (c : Nat) (w : World) (hc : w.cell? ⟨c, 0, none⟩ = some (.int .i64 6)) :
    Calls Tryd.prog 98 #[.agg #[.int .i64 y, .int .i64 m, .int .i64 d, .int .i64 h, .int .i64 mi, .int .i64 s], .pointer (some ⟨c, 0, none⟩)] w fun e w' => e = .returned ((⟨y, m, d, h, mi, s⟩ : DT).beg 6).v ∧ Below w.heap.size w w' := by
  have hcl := cell_lt hc
  go_enter Tryd.func98, Tryd.ntmps98
  go_wp2_with fail
  go_loopw [4, 5, 10] (fun v4 v5 v10 wr => (v10 = .int .i64 0 ∧ wr = ((w.alloc (.cells #[.int .i64 y, .int .i64 m, .int .i64 d, .int .i64 h, .int .i64 mi, .int .i64 s] 30)).alloc (.cells #[.int .i64 0, .int .i64 0, .int .i64 0, .int .i64 0, .int .i64 0, .int .i64 0] 30))) ∨ (v10 = .int .i64 1 ∧ wr = ((w.alloc (.cells #[.int .i64 y, .int .i64 m, .int .i64 d, .int .i64 h, .int .i64 mi, .int .i64 0] 30)).alloc (.cells #[.int .i64 0, .int .i64 0, .int .i64 0, .int .i64 0, .int .i64 0, .int .i64 0] 30))) ∨ (v10 = .int .i64 2 ∧ wr = ((w.alloc (.cells #[.int .i64 y, .int .i64 m, .int .i64 d, .int .i64 h, .int .i64 0, .int .i64 0] 30)).alloc (.cells #[.int .i64 0, .int .i64 0, .int .i64 0, .int .i64 0, .int .i64 0, .int .i64 0] 30))) ∨ (v10 = .int .i64 3 ∧ wr = ((w.alloc (.cells #[.int .i64 y, .int .i64 m, .int .i64 d, .int .i64 0, .int .i64 0, .int .i64 0] 30)).alloc (.cells #[.int .i64 0, .int .i64 0, .int .i64 0, .int .i64 0, .int .i64 0, .int .i64 0] 30)))) (fun _ _ v10 _ => (3 - intOf v10).toNat)
  case atStart => exact .inl ⟨by go_num, by first | trivial | rfl⟩
  case round =>
    rcases hrel with ⟨rfl, rfl⟩ | ⟨rfl, rfl⟩ | ⟨rfl, rfl⟩ | ⟨rfl, rfl⟩
    · have hx := ix3_0 w.heap.size ((w.alloc (.cells #[.int .i64 y, .int .i64 m, .int .i64 d, .int .i64 h, .int .i64 mi, .int .i64 s] 30)).alloc (.cells #[.int .i64 0, .int .i64 0, .int .i64 0, .int .i64 0, .int .i64 0, .int .i64 0] 30))
      go_wp2_with fail
      go_roundw
      case rel => exact .inr (.inl ⟨by go_num, by first | trivial | rfl⟩)
      case measure => simp [intOf]
    · have hx := ix3_1 w.heap.size ((w.alloc (.cells #[.int .i64 y, .int .i64 m, .int .i64 d, .int .i64 h, .int .i64 mi, .int .i64 0] 30)).alloc (.cells #[.int .i64 0, .int .i64 0, .int .i64 0, .int .i64 0, .int .i64 0, .int .i64 0] 30))
      go_wp2_with fail
      go_roundw
      case rel => exact .inr (.inr (.inl ⟨by go_num, by first | trivial | rfl⟩))
      case measure => simp [intOf]
    · have hx := ix3_2 w.heap.size ((w.alloc (.cells #[.int .i64 y, .int .i64 m, .int .i64 d, .int .i64 h, .int .i64 0, .int .i64 0] 30)).alloc (.cells #[.int .i64 0, .int .i64 0, .int .i64 0, .int .i64 0, .int .i64 0, .int .i64 0] 30))
      go_wp2_with fail
      go_roundw
      case rel => exact .inr (.inr (.inr ⟨by go_num, by first | trivial | rfl⟩))
      case measure => simp [intOf]
    · go_wp2_with fail
      have hgn : ((w.alloc (.cells #[.int .i64 y, .int .i64 1, .int .i64 1, .int .i64 0, .int .i64 0, .int .i64 0] 30)).alloc (.cells #[.int .i64 y, .int .i64 1, .int .i64 1, .int .i64 0, .int .i64 0, .int .i64 0] 30)).heap[w.heap.size + 1]? = some (.cells #[.int .i64 y, .int .i64 1, .int .i64 1, .int .i64 0, .int .i64 0, .int .i64 0] 30) := by
        have h := heap_alloc_new (w.alloc (.cells #[.int .i64 y, .int .i64 1, .int .i64 1, .int .i64 0, .int .i64 0, .int .i64 0] 30)) (.cells #[.int .i64 y, .int .i64 1, .int .i64 1, .int .i64 0, .int .i64 0, .int .i64 0] 30)
        simpa using h
      refine bodyPost_ret (date_result rfl _ _ _ _ _ _ rfl hgn rfl) rfl ⟨rfl, ?_⟩
      exact (below_alloc1 w _).alloc (by simp) _
end Go.Proofs.YtmidphmniikdpaaDoor
