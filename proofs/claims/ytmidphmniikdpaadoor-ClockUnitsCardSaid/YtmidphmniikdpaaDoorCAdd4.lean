/- Contracts of the units: Add. -/
import Derived.Test.YtmidphmniikdpaaDoorCAdd3
import Derived.Deep.RegionWith
namespace Go.Proofs.YtmidphmniikdpaaDoor
set_option linter.unusedVariables false
set_option linter.unusedSimpArgs false
open Go.RowKit

theorem unitFrom_le (s : Bs) : ∀ (l : List Bs) (i u : Nat), unitFrom l i s = some u → u < i + l.length := by
  intro l
  induction l with
  | nil => intro i u h; cases h
  | cons x r ih =>
    intro i u h
    unfold unitFrom at h
    split at h
    · cases h; simp
    · have := ih (i + 1) u h
      simp only [List.length_cons]
      omega
theorem unitC_le {s : Bs} {u : Nat} (h : unitC s = some u) : u ≤ 6 := by
  have := unitFrom_le s unitL 0 u h
  simp [unitL] at this
  omega
noncomputable def addR (t n : Int) (s : Bs) : Int × Int := if validI t = true then (match unitC s with
  | some u => addC t n u
  | none => (0, 5)) else (0, 7)
noncomputable def betR (a b : Int) (s : Bs) : Int × Int := if validI a = true ∧ validI b = true then (match unitC s with
  | some u => (if a ≤ b then betC a b u else -(betC b a u), 0)
  | none => (0, 5)) else (0, 7)
theorem cells1_new (w : World) (a : Value) (t : Nat) : (w.alloc (.cells #[a] t)).cell? ⟨w.heap.size, 0, none⟩ = some a := by
  simp only [World.cell?, heap_alloc_new w (.cells #[a] t)]
  rfl
theorem cells2_new (w : World) (a b : Value) (t : Nat) : (w.alloc (.cells #[a, b] t)).cell? ⟨w.heap.size, 0, none⟩ = some a ∧ (w.alloc (.cells #[a, b] t)).cell? ⟨w.heap.size, 1, none⟩ = some b := by
  constructor <;> (simp only [World.cell?, heap_alloc_new w (.cells #[a, b] t)]; rfl)
theorem asked1 (s : Bs) (t : Int) (b cap : Nat) (w : World) (hc : w.cell? ⟨b, 0, none⟩ = some (.int .i64 t)) :
    Calls Tryd.prog 64 #[.string ⟨s.toArray⟩, .slice (some ⟨b, 0, none⟩) 1 cap] w fun e w' => e = .returned (.tuple #[.int .i64 (askedC [t] s).1, .int .i64 (askedC [t] s).2]) ∧ w = w' :=
  asked_any s [t] (by simp) b cap w fun k x h => by
    cases k with
    | zero => cases h; exact hc
    | succ k => cases h
theorem asked2 (s : Bs) (t r : Int) (b cap : Nat) (w : World) (hc : w.cell? ⟨b, 0, none⟩ = some (.int .i64 t)) (hc2 : w.cell? ⟨b, 1, none⟩ = some (.int .i64 r)) :
    Calls Tryd.prog 64 #[.string ⟨s.toArray⟩, .slice (some ⟨b, 0, none⟩) 2 cap] w fun e w' => e = .returned (.tuple #[.int .i64 (askedC [t, r] s).1, .int .i64 (askedC [t, r] s).2]) ∧ w = w' :=
  asked_any s [t, r] (by simp) b cap w fun k x h => by
    cases k with
    | zero => cases h; exact hc
    | succ k => cases k with
      | zero => cases h; exact hc2
      | succ k => cases h
theorem askedC_one (t : Int) (s : Bs) : askedC [t] s = if validI t = true then (match unitC s with
  | some u => ((u : Int), (0 : Int))
  | none => ((0 : Int), (5 : Int))) else ((0 : Int), (7 : Int)) := by
  unfold askedC
  simp only [List.all_cons, List.all_nil, Bool.and_true]
  cases unitC s <;> rfl
theorem askedC_two (t r : Int) (s : Bs) : askedC [t, r] s = if validI t = true ∧ validI r = true then (match unitC s with
  | some u => ((u : Int), (0 : Int))
  | none => ((0 : Int), (5 : Int))) else ((0 : Int), (7 : Int)) := by
  unfold askedC
  simp only [List.all_cons, List.all_nil, Bool.and_true, Bool.and_eq_true]
  cases unitC s <;> rfl
set_option maxRecDepth 100000 in
set_option maxHeartbeats 1600000 in
theorem Add_any (t n : Int) (s : Bs) (w : World) :
    Calls Tryd.prog 32 #[.int .i64 t, .int .i64 n, .string ⟨s.toArray⟩] w fun e w' => e = .returned (.tuple #[.int .i64 (addR t n s).1, .int .i64 (addR t n s).2]) ∧ Below w.heap.size w w' := by
  have HK := Lib.hid (fun b cap W hc => asked1 s t b cap W hc)
  rw [askedC_one] at HK
  have HB := Lib.hid (below_alloc1 w (.cells #[.int .i64 t] 3))
  have hc1 := cells1_new w (.int .i64 t) 3
  by_cases hv : validI t = true
  · rw [if_pos hv] at HK
    cases hu : unitC s with
    | none =>
      have HR : Hid (addR t n s = (0, 5)) := by show _ = _; unfold addR; rw [if_pos hv, hu]
      rw [hu] at HK
      clear hv hu
      go_enter Tryd.func32, Tryd.ntmps32
      go_wp2_with (go_at_call 64; refine (HK.out _ _ _ ?_).mono ?_; exact hc1; rintro e w1 ⟨rfl, rfl⟩)
      go_ret2
      exact ⟨by rw [HR.out]; first | done | rfl, HB.out⟩
    | some u =>
      have HA := Lib.hid (fun W => add_any t n u (unitC_le hu) hv W)
      have HR : Hid (addR t n s = addC t n u) := by show _ = _; unfold addR; rw [if_pos hv, hu]
      rw [hu] at HK
      clear hv hu
      generalize addC t n u = R at *
      obtain ⟨r, e⟩ := R
      go_enter Tryd.func32, Tryd.ntmps32
      go_wp2_with (first | (go_at_call 64; refine (HK.out _ _ _ ?_).mono ?_; exact hc1; rintro e w1 ⟨rfl, rfl⟩) | (go_at_call 65; refine (HA.out _).mono ?_; rintro e w1 ⟨rfl, hb⟩))
      go_ret2
      exact ⟨by rw [HR.out]; first | done | rfl, HB.out.trans (hb.mono HB.out.size)⟩
  · rw [if_neg hv] at HK
    have HR : Hid (addR t n s = (0, 7)) := by show _ = _; unfold addR; rw [if_neg hv]
    clear hv
    go_enter Tryd.func32, Tryd.ntmps32
    go_wp2_with (go_at_call 64; refine (HK.out _ _ _ ?_).mono ?_; exact hc1; rintro e w1 ⟨rfl, rfl⟩)
    go_ret2
    exact ⟨by rw [HR.out]; first | done | rfl, HB.out⟩
end Go.Proofs.YtmidphmniikdpaaDoor
