/- Contracts of Date, Leap and Days, both ones. -/
import Derived.Test.YtkahakhhdiffcaaGreatDoorCRDate
import Derived.Laws.ResultCell
namespace Go.Proofs.YtkahakhhdiffcaaGreatDoor
set_option linter.unusedVariables false
set_option linter.unusedSimpArgs false
open Go.RowKit
theorem date_result2 {fn : Func} {p u : Tmp} (h : fn.results = #[.cell p 39, .tmp u]) (tmps : Array Value) (w : World) (g : Nat) (cs : Array Value) (t : Nat) (fr : Nat × Nat)
    (hp : tmps.getD p undef = .pointer (some ⟨g, 0, none⟩)) (hg : w.heap[g]? = some (.cells cs t fr)) (hc : cs.size = 6) (v : Value) (hv : tmps.getD u undef = v) : (results fn tmps).run Tryz.prog w = .ok (.tuple #[.agg cs, v]) w := by
  rw [results_cell_tmp h, hp, hv]
  have := run_loadVar_row w g t 39 cs fr _ hg Tryz.underlying39 rfl (by rw [hc]; kernel_rfl)
  simp [asAddr, Result.andThen, this]
/-- What both 'Date's tell. -/
def DT.zero : DT := ⟨0, 0, 0, 0, 0, 0⟩
noncomputable def datesC (t : Int) : DT × Int := if validI t = true then (dateC t, 0) else (DT.zero, 7)
theorem validI_iff (t : Int) : validI t = true ↔ -62135596800 ≤ t ∧ t ≤ 253402300799 := by simp [validI, winI]

set_option maxRecDepth 100000 in
set_option maxHeartbeats 1600000 in
theorem Date_any (t : Int) (w : World) :
    Calls Tryz.prog 16 #[.int .i64 t] w fun e w' => e = .returned (.tuple #[(datesC t).1.v, .int .i64 (datesC t).2]) ∧ Below w.heap.size w w' := by
  have HV := Lib.hid (fun W => valid_any t W)
  have HZ := Lib.hid (below_alloc1 w (.cells #[.int .i64 0, .int .i64 0, .int .i64 0, .int .i64 0, .int .i64 0, .int .i64 0] 39))
  have HH := Lib.hid (heap_alloc_new w (.cells #[.int .i64 0, .int .i64 0, .int .i64 0, .int .i64 0, .int .i64 0, .int .i64 0] 39))
  have HC := Lib.hid (cells6_below w (.int .i64 0) (.int .i64 0) (.int .i64 0) (.int .i64 0) (.int .i64 0) (.int .i64 0) 39)
  unfold datesC
  by_cases hv : validI t = true
  · have hv2 := (validI_iff t).1 hv
    rw [hv] at HV
    rw [if_pos hv]
    have HD := Lib.hid (date_any t hv2.1 (by omega) (w.alloc (.cells #[.int .i64 0, .int .i64 0, .int .i64 0, .int .i64 0, .int .i64 0, .int .i64 0] 39)))
    have hsz : (w.alloc (.cells #[.int .i64 0, .int .i64 0, .int .i64 0, .int .i64 0, .int .i64 0, .int .i64 0] 39)).heap.size = w.heap.size + 1 := by simp
    rw [hsz] at HD
    generalize dateC t = D at *
    obtain ⟨y, m, d, h, mi, s⟩ := D
    simp only [DT.v] at HD ⊢
    go_enter Tryz.func16, Tryz.ntmps16
    go_wp2_with (first | (go_at_call 17; refine (HV.out _).mono ?_; rintro e w1 ⟨rfl, rfl⟩) | (go_at_call 44; refine HD.out.mono ?_; rintro e w2 ⟨rfl, hb2⟩; obtain ⟨c0, c1, c2, c3, c4, c5⟩ := HC.out _ hb2; have hbk := (hb2.block _ (by omega)).trans HH.out; have f0 := frozen_of_row w2 w.heap.size 0 _ _ hbk; have f1 := frozen_of_row w2 w.heap.size 1 _ _ hbk; have f2 := frozen_of_row w2 w.heap.size 2 _ _ hbk; have f3 := frozen_of_row w2 w.heap.size 3 _ _ hbk; have f4 := frozen_of_row w2 w.heap.size 4 _ _ hbk; have f5 := frozen_of_row w2 w.heap.size 5 _ _ hbk; clear hbk))
    have hg6 := cells6_set w2 w.heap.size _ _ _ _ _ _ _ _ (.int .i64 y) (.int .i64 m) (.int .i64 d) (.int .i64 h) (.int .i64 mi) (.int .i64 s) ((hb2.block _ (by omega)).trans HH.out)
    refine bodyPost_ret (date_result2 rfl _ _ _ _ _ _ rfl hg6 rfl (.int .i64 0) rfl) rfl ⟨rfl, ?_⟩
    exact below_set6 (HZ.out.trans (hb2.mono (by omega))) (Nat.le_refl _) _ _ _ _ _ _
  · rw [Bool.not_eq_true] at hv
    rw [hv] at HV
    rw [if_neg (by rw [hv]; decide)]
    go_enter Tryz.func16, Tryz.ntmps16
    go_wp2_with (go_at_call 17; refine (HV.out _).mono ?_; rintro e w1 ⟨rfl, rfl⟩)
    exact bodyPost_ret (date_result2 rfl _ _ _ _ _ _ rfl HH.out rfl (.int .i64 7) rfl) rfl ⟨rfl, HZ.out⟩

/-- What both 'Leap's and both 'Days's tell. -/
def leapC (y : Int) : Bool × Int := if winI y 1 9999 = true then (leapI y, 0) else (false, 7)
def daysC (y m : Int) : Int × Int := if winI y 1 9999 = true ∧ winI m 1 12 = true then (dim y m, 0) else (0, 7)
theorem ret2_bi {k' : IntKind} {a b : Bool} {a' b' : Int} (h : a = b) (h' : a' = b') : Ending.returned (.tuple #[.bool a, .int k' a']) = .returned (.tuple #[.bool b, .int k' b']) := by rw [h, h']

end Go.Proofs.YtkahakhhdiffcaaGreatDoor
