/- The date that was read: dated, one way of the year. Printed by mkCRd7.py. -/
import Derived.Test.YtkahakhhdiffcaaGreatDoorCRd6
import Derived.Deep.RegionHeld3
namespace Go.Proofs.YtkahakhhdiffcaaGreatDoor
set_option linter.unusedVariables false
set_option linter.unusedSimpArgs false
open Go.RowKit Go.Shelf
set_option maxRecDepth 100000 in
set_option maxHeartbeats 3200000 in
theorem dated_c00 (m : Nat) (g : Vals) (hg : Small g) (w : World) (hV : VM w m g) (hyc : ∃ n, g 121 = some n ∧ g 89 = none ∧ 69 ≤ n ∧ yC g = 1900 + n) (hhc : g 73 = none ∧ hC g = some (pickC g [72] 0)) (hjc : g 106 = none) :
    Calls Tryz.prog 37 #[.map (some m)] w fun e w' => e = .returned (.tuple #[.int .i64 (datedC g).1, .bool (datedC g).2]) ∧ Below w.heap.size w w' := by
  have P1 := Lib.hid (fun W h => pick_any m g [89] (by decide) 1970 W h)
  have P2 := Lib.hid (fun W h => pick_any m g [109, 66, 98] (by decide) 1 W h)
  have P3 := Lib.hid (fun W h => pick_any m g [100, 101] (by decide) 1 W h)
  have P4 := Lib.hid (fun W h => pick_any m g [72] (by decide) 0 W h)
  have P5 := Lib.hid (fun W h => pick_any m g [77] (by decide) 0 W h)
  have P6 := Lib.hid (fun W h => pick_any m g [83] (by decide) 0 W h)
  have P7 := Lib.hid (fun W h => pick_any m g [112] (by decide) 1 W h)
  have b1 := pickC_small hg [89] (by decide) 1970 (by decide) (by decide)
  have b2 := pickC_small hg [109, 66, 98] (by decide) 1 (by decide) (by decide)
  have b3 := pickC_small hg [100, 101] (by decide) 1 (by decide) (by decide)
  have b4 := pickC_small hg [72] (by decide) 0 (by decide) (by decide)
  have b5 := pickC_small hg [77] (by decide) 0 (by decide) (by decide)
  have b6 := pickC_small hg [83] (by decide) 0 (by decide) (by decide)
  have b7 := pickC_small hg [112] (by decide) 1 (by decide) (by decide)
  have hA : ∀ o : Obj, VM (w.alloc o) m g := fun o => hV.below (below_alloc1 w o)
  have hl121 := fun o => (hA o).look 121 (by decide)
  have hl89 := fun o => (hA o).look 89 (by decide)
  have hl73 := fun o => (hA o).look 73 (by decide)
  have hl72 := fun o => (hA o).look 72 (by decide)
  have hl106 := fun o => (hA o).look 106 (by decide)
  have HV := Lib.hid hV
  have hsz : ∀ o : Obj, (w.alloc o).heap.size = w.heap.size + 1 := fun o => by simp
  have HA := Lib.hid hA
  obtain ⟨X, hX⟩ : ∃ X, datedC g = X := ⟨_, rfl⟩
  rw [hX]
  unfold datedC at hX
  have hb121 := hg 121
  have hb73 := hg 73
  have hb106 := hg 106
  generalize pickC g [89] 1970 = Y at *
  generalize pickC g [109, 66, 98] 1 = M at *
  generalize pickC g [100, 101] 1 = D at *
  generalize pickC g [72] 0 = Hh at *
  generalize pickC g [77] 0 = Mi at *
  generalize pickC g [83] 0 = Se at *
  generalize pickC g [112] 1 = Pm at *
  clear hV hA hg
  generalize yC g = Y2 at *
  generalize hC g = H2 at *
  generalize g 121 = g121 at *
  generalize g 89 = g89 at *
  generalize g 73 = g73 at *
  generalize g 72 = g72 at *
  generalize g 106 = g106 at *
  obtain ⟨n, rfl, rfl, hn, hy⟩ := hyc
  simp only [Option.getD_some, Option.isSome_some, Option.getD_none, Option.isSome_none] at hl121 hl89
  have hbn := hb121 n (by decide) rfl
  have d69 : decide (69 ≤ n) = true := by rw [decide_eq_true_eq]; exact hn
  have hwn : IntKind.i64.wrap (1900 + n) = Y2 := by rw [hy]; exact IntWalk.i64_in _ (by omega)
  clear hy
  have hwn2 : IntKind.i64.wrap (2000 + n) = 2000 + n := IntWalk.i64_in _ (by omega)
  obtain ⟨rfl, rfl⟩ := hhc
  simp only [Option.getD_some, Option.isSome_some, Option.getD_none, Option.isSome_none] at hl73
  subst hjc
  simp only [Option.getD_some, Option.isSome_some, Option.getD_none, Option.isSome_none] at hl106
  have HVd := Lib.hid (fun W => Valid_any Y2 M D Hh Mi Se W)
  cases hv : validB Y2 M D Hh Mi Se with
  | false =>
    rw [hv] at HVd
    simp only [hv, Bool.false_eq_true, if_false] at hX
    subst hX
    go_enter Tryz.func37, Tryz.ntmps37
    go_wp2_with (first | (go_at_call 83; first | (have HQ := P1; clear P1; refine (HQ.out _ (by first | exact HV.out | exact HA.out _)).mono ?_; clear HQ; rintro e w1 ⟨rfl, rfl⟩) | (have HQ := P2; clear P2; refine (HQ.out _ (by first | exact HV.out | exact HA.out _)).mono ?_; clear HQ; rintro e w2 ⟨rfl, rfl⟩) | (have HQ := P3; clear P3; refine (HQ.out _ (by first | exact HV.out | exact HA.out _)).mono ?_; clear HQ; rintro e w3 ⟨rfl, rfl⟩) | (have HQ := P4; clear P4; refine (HQ.out _ (by first | exact HV.out | exact HA.out _)).mono ?_; clear HQ; rintro e w4 ⟨rfl, rfl⟩) | (have HQ := P5; clear P5; refine (HQ.out _ (by first | exact HV.out | exact HA.out _)).mono ?_; clear HQ; rintro e w5 ⟨rfl, rfl⟩) | (have HQ := P6; clear P6; refine (HQ.out _ (by first | exact HV.out | exact HA.out _)).mono ?_; clear HQ; rintro e w6 ⟨rfl, rfl⟩) | (have HQ := P7; clear P7; refine (HQ.out _ (by first | exact HV.out | exact HA.out _)).mono ?_; clear HQ; rintro e w7 ⟨rfl, rfl⟩)) | (go_at_call 84; with_reducible refine (HVd.out _).mono ?_; rintro e w8 ⟨rfl, hb8⟩; rw [hsz] at hb8; obtain ⟨c0, c1, c2, c3, c4, c5⟩ := cells6_below w _ _ _ _ _ _ _ w8 hb8; have HW8 := Lib.hid ((below_alloc1 w _).trans (hb8.mono (Nat.le_succ _))); clear hb8))
    go_ret2
    exact ⟨rfl, HW8.out⟩
  | true =>
    rw [hv] at HVd
    simp only [hv, if_true] at hX
    subst hX
    have hvv := hv
    rw [validB_eq] at hvv
    simp only [winI, Bool.and_eq_true, decide_eq_true_eq] at hvv
    have HTm := Lib.hid (fun W => time_any Y2 M D Hh Mi Se (by omega) (by omega) (by omega) (by omega) (by have := dim_ge Y2 M; omega) (by have := dim_ge Y2 M; omega) (by omega) (by omega) (by omega) (by omega) (by omega) (by omega) W)
    have hrr : (dayNo Y2 M D - 719162) * 86400 + Hh * 3600 + Mi * 60 + Se = timeI Y2 M D Hh Mi Se := rfl
    rw [hrr] at HTm
    clear hvv hv hrr
    go_enter Tryz.func37, Tryz.ntmps37
    go_wp2_with (first | (go_at_call 83; first | (have HQ := P1; clear P1; refine (HQ.out _ (by first | exact HV.out | exact HA.out _)).mono ?_; clear HQ; rintro e w1 ⟨rfl, rfl⟩) | (have HQ := P2; clear P2; refine (HQ.out _ (by first | exact HV.out | exact HA.out _)).mono ?_; clear HQ; rintro e w2 ⟨rfl, rfl⟩) | (have HQ := P3; clear P3; refine (HQ.out _ (by first | exact HV.out | exact HA.out _)).mono ?_; clear HQ; rintro e w3 ⟨rfl, rfl⟩) | (have HQ := P4; clear P4; refine (HQ.out _ (by first | exact HV.out | exact HA.out _)).mono ?_; clear HQ; rintro e w4 ⟨rfl, rfl⟩) | (have HQ := P5; clear P5; refine (HQ.out _ (by first | exact HV.out | exact HA.out _)).mono ?_; clear HQ; rintro e w5 ⟨rfl, rfl⟩) | (have HQ := P6; clear P6; refine (HQ.out _ (by first | exact HV.out | exact HA.out _)).mono ?_; clear HQ; rintro e w6 ⟨rfl, rfl⟩) | (have HQ := P7; clear P7; refine (HQ.out _ (by first | exact HV.out | exact HA.out _)).mono ?_; clear HQ; rintro e w7 ⟨rfl, rfl⟩)) | (go_at_call 84; with_reducible refine (HVd.out _).mono ?_; rintro e w8 ⟨rfl, hb8⟩; rw [hsz] at hb8; obtain ⟨c0, c1, c2, c3, c4, c5⟩ := cells6_below w _ _ _ _ _ _ _ w8 hb8; have HW8 := Lib.hid ((below_alloc1 w _).trans (hb8.mono (Nat.le_succ _))); clear hb8) | (go_at_call 85; refine (HTm.out _).mono ?_; rintro e w9 ⟨rfl, hb9⟩))
    go_ret2
    exact ⟨rfl, HW8.out.trans (hb9.mono HW8.out.size)⟩
set_option maxRecDepth 100000 in
set_option maxHeartbeats 3200000 in
theorem dated_c01 (m : Nat) (g : Vals) (hg : Small g) (w : World) (hV : VM w m g) (hyc : ∃ n, g 121 = some n ∧ g 89 = none ∧ 69 ≤ n ∧ yC g = 1900 + n) (hhc : g 73 = none ∧ hC g = some (pickC g [72] 0)) (hjc : ∃ j, g 106 = some j) :
    Calls Tryz.prog 37 #[.map (some m)] w fun e w' => e = .returned (.tuple #[.int .i64 (datedC g).1, .bool (datedC g).2]) ∧ Below w.heap.size w w' := by
  have P1 := Lib.hid (fun W h => pick_any m g [89] (by decide) 1970 W h)
  have P2 := Lib.hid (fun W h => pick_any m g [109, 66, 98] (by decide) 1 W h)
  have P3 := Lib.hid (fun W h => pick_any m g [100, 101] (by decide) 1 W h)
  have P4 := Lib.hid (fun W h => pick_any m g [72] (by decide) 0 W h)
  have P5 := Lib.hid (fun W h => pick_any m g [77] (by decide) 0 W h)
  have P6 := Lib.hid (fun W h => pick_any m g [83] (by decide) 0 W h)
  have P7 := Lib.hid (fun W h => pick_any m g [112] (by decide) 1 W h)
  have b1 := pickC_small hg [89] (by decide) 1970 (by decide) (by decide)
  have b2 := pickC_small hg [109, 66, 98] (by decide) 1 (by decide) (by decide)
  have b3 := pickC_small hg [100, 101] (by decide) 1 (by decide) (by decide)
  have b4 := pickC_small hg [72] (by decide) 0 (by decide) (by decide)
  have b5 := pickC_small hg [77] (by decide) 0 (by decide) (by decide)
  have b6 := pickC_small hg [83] (by decide) 0 (by decide) (by decide)
  have b7 := pickC_small hg [112] (by decide) 1 (by decide) (by decide)
  have hA : ∀ o : Obj, VM (w.alloc o) m g := fun o => hV.below (below_alloc1 w o)
  have hl121 := fun o => (hA o).look 121 (by decide)
  have hl89 := fun o => (hA o).look 89 (by decide)
  have hl73 := fun o => (hA o).look 73 (by decide)
  have hl72 := fun o => (hA o).look 72 (by decide)
  have hl106 := fun o => (hA o).look 106 (by decide)
  have HV := Lib.hid hV
  have hsz : ∀ o : Obj, (w.alloc o).heap.size = w.heap.size + 1 := fun o => by simp
  have HA := Lib.hid hA
  obtain ⟨X, hX⟩ : ∃ X, datedC g = X := ⟨_, rfl⟩
  rw [hX]
  unfold datedC at hX
  have hb121 := hg 121
  have hb73 := hg 73
  have hb106 := hg 106
  generalize pickC g [89] 1970 = Y at *
  generalize pickC g [109, 66, 98] 1 = M at *
  generalize pickC g [100, 101] 1 = D at *
  generalize pickC g [72] 0 = Hh at *
  generalize pickC g [77] 0 = Mi at *
  generalize pickC g [83] 0 = Se at *
  generalize pickC g [112] 1 = Pm at *
  clear hV hA hg
  generalize yC g = Y2 at *
  generalize hC g = H2 at *
  generalize g 121 = g121 at *
  generalize g 89 = g89 at *
  generalize g 73 = g73 at *
  generalize g 72 = g72 at *
  generalize g 106 = g106 at *
  obtain ⟨n, rfl, rfl, hn, hy⟩ := hyc
  simp only [Option.getD_some, Option.isSome_some, Option.getD_none, Option.isSome_none] at hl121 hl89
  have hbn := hb121 n (by decide) rfl
  have d69 : decide (69 ≤ n) = true := by rw [decide_eq_true_eq]; exact hn
  have hwn : IntKind.i64.wrap (1900 + n) = Y2 := by rw [hy]; exact IntWalk.i64_in _ (by omega)
  clear hy
  have hwn2 : IntKind.i64.wrap (2000 + n) = 2000 + n := IntWalk.i64_in _ (by omega)
  obtain ⟨rfl, rfl⟩ := hhc
  simp only [Option.getD_some, Option.isSome_some, Option.getD_none, Option.isSome_none] at hl73
  obtain ⟨j, rfl⟩ := hjc
  simp only [Option.getD_some, Option.isSome_some, Option.getD_none, Option.isSome_none] at hl106
  have HVd := Lib.hid (fun W => Valid_any Y2 1 1 Hh Mi Se W)
  cases hv : validB Y2 1 1 Hh Mi Se with
  | false =>
    rw [hv] at HVd
    simp only [hv, Bool.false_eq_true, if_false] at hX
    subst hX
    go_enter Tryz.func37, Tryz.ntmps37
    go_wp2_with (first | (go_at_call 83; first | (have HQ := P1; clear P1; refine (HQ.out _ (by first | exact HV.out | exact HA.out _)).mono ?_; clear HQ; rintro e w1 ⟨rfl, rfl⟩) | (have HQ := P2; clear P2; refine (HQ.out _ (by first | exact HV.out | exact HA.out _)).mono ?_; clear HQ; rintro e w2 ⟨rfl, rfl⟩) | (have HQ := P3; clear P3; refine (HQ.out _ (by first | exact HV.out | exact HA.out _)).mono ?_; clear HQ; rintro e w3 ⟨rfl, rfl⟩) | (have HQ := P4; clear P4; refine (HQ.out _ (by first | exact HV.out | exact HA.out _)).mono ?_; clear HQ; rintro e w4 ⟨rfl, rfl⟩) | (have HQ := P5; clear P5; refine (HQ.out _ (by first | exact HV.out | exact HA.out _)).mono ?_; clear HQ; rintro e w5 ⟨rfl, rfl⟩) | (have HQ := P6; clear P6; refine (HQ.out _ (by first | exact HV.out | exact HA.out _)).mono ?_; clear HQ; rintro e w6 ⟨rfl, rfl⟩) | (have HQ := P7; clear P7; refine (HQ.out _ (by first | exact HV.out | exact HA.out _)).mono ?_; clear HQ; rintro e w7 ⟨rfl, rfl⟩)) | (go_at_call 84; with_reducible refine (HVd.out _).mono ?_; rintro e w8 ⟨rfl, hb8⟩; rw [hsz] at hb8; obtain ⟨c0, c1, c2, c3, c4, c5⟩ := cells6_below w _ _ _ _ _ _ _ w8 hb8; have HW8 := Lib.hid ((below_alloc1 w _).trans (hb8.mono (Nat.le_succ _))); clear hb8))
    go_ret2
    exact ⟨rfl, HW8.out⟩
  | true =>
    rw [hv] at HVd
    simp only [hv, if_true] at hX
    subst hX
    have hvv := hv
    rw [validB_eq] at hvv
    simp only [winI, Bool.and_eq_true, decide_eq_true_eq] at hvv
    have HTm := Lib.hid (fun W => time_any Y2 1 1 Hh Mi Se (by omega) (by omega) (by omega) (by omega) (by have := dim_ge Y2 1; omega) (by have := dim_ge Y2 1; omega) (by omega) (by omega) (by omega) (by omega) (by omega) (by omega) W)
    have hrr : (dayNo Y2 1 1 - 719162) * 86400 + Hh * 3600 + Mi * 60 + Se = timeI Y2 1 1 Hh Mi Se := rfl
    rw [hrr] at HTm
    clear hv hrr
    have hbt : -1000000000000 ≤ timeI Y2 1 1 Hh Mi Se ∧ timeI Y2 1 1 Hh Mi Se ≤ 10000000000000 := by
      have := dayNo_bound (y := Y2) (m := 1) (d := 1) (by omega) (by omega) (by omega) (by omega) (by omega) (by omega)
      unfold timeI
      omega
    have hbj := hb106 j (by decide) rfl
    have hwj1 : IntKind.i64.wrap (j - 1) = j - 1 := IntWalk.i64_in _ (by omega)
    have hwj2 : IntKind.i64.wrap ((j - 1) * 86400) = (j - 1) * 86400 := IntWalk.i64_in _ (by omega)
    have hwj3 : IntKind.i64.wrap (timeI Y2 1 1 Hh Mi Se + (j - 1) * 86400) = timeI Y2 1 1 Hh Mi Se + (j - 1) * 86400 := IntWalk.i64_in _ (by omega)
    have hwy : IntKind.i64.wrap (Y2 + 1) = Y2 + 1 := IntWalk.i64_in _ (by omega)
    have hbn9 := bef_next Y2
    have hbl9 := leap1_le Y2
    have hbq0 : -1000000000 ≤ bef Y2 ∧ bef Y2 ≤ 1000000000 := by unfold bef; omega
    have hwb : IntKind.i64.wrap (bef (Y2 + 1) - bef Y2) = bef (Y2 + 1) - bef Y2 := IntWalk.i64_in _ (by omega)
    have HB1 : Hid (∀ W, Calls Tryz.prog 86 #[.int .i64 (Y2 + 1)] W fun e w' => e = .returned (.int .i64 (bef (Y2 + 1))) ∧ Below W.heap.size W w') := fun W => (before_any (Y2 + 1) (by omega) (by omega) W).mono fun e w' h => ⟨h.1, h.2 ▸ Below.refl _ _⟩
    have HB0 : Hid (∀ W, Calls Tryz.prog 86 #[.int .i64 Y2] W fun e w' => e = .returned (.int .i64 (bef Y2)) ∧ Below W.heap.size W w') := fun W => (before_any Y2 (by omega) (by omega) W).mono fun e w' h => ⟨h.1, h.2 ▸ Below.refl _ _⟩
    have HWj : Hid (∀ W, Calls Tryz.prog 42 #[.int .i64 j, .int .i64 1, .int .i64 (bef (Y2 + 1) - bef Y2)] W fun e w' => e = .returned (.bool (winI j 1 (bef (Y2 + 1) - bef Y2))) ∧ Below W.heap.size W w') := fun W => (within_any j 1 (bef (Y2 + 1) - bef Y2) W).mono fun e w' h => ⟨h.1, h.2 ▸ Below.refl _ _⟩
    generalize timeI Y2 1 1 Hh Mi Se = T at *
    generalize bef (Y2 + 1) = B1 at *
    generalize bef Y2 = B0 at *
    clear hbn9 hbl9 hbq0 hvv
    go_enter Tryz.func37, Tryz.ntmps37
    go_wp2_with (first | (go_at_call 83; first | (have HQ := P1; clear P1; refine (HQ.out _ (by first | exact HV.out | exact HA.out _)).mono ?_; clear HQ; rintro e w1 ⟨rfl, rfl⟩) | (have HQ := P2; clear P2; refine (HQ.out _ (by first | exact HV.out | exact HA.out _)).mono ?_; clear HQ; rintro e w2 ⟨rfl, rfl⟩) | (have HQ := P3; clear P3; refine (HQ.out _ (by first | exact HV.out | exact HA.out _)).mono ?_; clear HQ; rintro e w3 ⟨rfl, rfl⟩) | (have HQ := P4; clear P4; refine (HQ.out _ (by first | exact HV.out | exact HA.out _)).mono ?_; clear HQ; rintro e w4 ⟨rfl, rfl⟩) | (have HQ := P5; clear P5; refine (HQ.out _ (by first | exact HV.out | exact HA.out _)).mono ?_; clear HQ; rintro e w5 ⟨rfl, rfl⟩) | (have HQ := P6; clear P6; refine (HQ.out _ (by first | exact HV.out | exact HA.out _)).mono ?_; clear HQ; rintro e w6 ⟨rfl, rfl⟩) | (have HQ := P7; clear P7; refine (HQ.out _ (by first | exact HV.out | exact HA.out _)).mono ?_; clear HQ; rintro e w7 ⟨rfl, rfl⟩)) | (go_at_call 84; with_reducible refine (HVd.out _).mono ?_; rintro e w8 ⟨rfl, hb8⟩; rw [hsz] at hb8; obtain ⟨c0, c1, c2, c3, c4, c5⟩ := cells6_below w _ _ _ _ _ _ _ w8 hb8; have HW8 := Lib.hid ((below_alloc1 w _).trans (hb8.mono (Nat.le_succ _))); clear hb8))
    
    obtain ⟨S0, hS0⟩ : ∃ S0 : World → Prop, S0 = fun w' => Below w8.heap.size w8 w' := ⟨_, rfl⟩
    have k0 : S0 w8 := by rw [hS0]; exact Below.refl _ _
    have k1 : ∀ W, S0 W → S0 W.drew := by intro W hW; rw [hS0] at hW ⊢; exact hW.drew
    have k2 : ∀ W W', S0 W → Below W.heap.size W W' → S0 W' ∧ W'.cell? ⟨w.heap.size, 0, none⟩ = some (.int .i64 Y2) ∧ W'.cell? ⟨w.heap.size, 1, none⟩ = some (.int .i64 1) ∧ W'.cell? ⟨w.heap.size, 2, none⟩ = some (.int .i64 1) ∧ W'.cell? ⟨w.heap.size, 3, none⟩ = some (.int .i64 Hh) ∧ W'.cell? ⟨w.heap.size, 4, none⟩ = some (.int .i64 Mi) ∧ W'.cell? ⟨w.heap.size, 5, none⟩ = some (.int .i64 Se) := by
      intro W W' hW hb
      have h2 : Below w8.heap.size w8 W' := by rw [hS0] at hW; exact hW.trans (hb.mono hW.size)
      have cl : ∀ {p : Addr} {x : Value}, w8.cell? p = some x → W'.cell? p = some x := fun {p x} h => (h2.cell (cell_lt h)).trans h
      exact ⟨by rw [hS0]; exact h2, cl c0, cl c1, cl c2, cl c3, cl c4, cl c5⟩
    have kB : Hid (∀ W, S0 W → Below w.heap.size w W) := by intro W hW; rw [hS0] at hW; exact HW8.out.trans (hW.mono HW8.out.size)
    clear hS0 hl121 hl89 hl73 hl72 hl106 hsz hb121 hb73 hb106 b1 b2 b3 b4 b5 b6 b7 HA HV HVd
    try clear hbn
    try clear hbq
    go_region_held3 (fun w' => S0 w' ∧ w'.cell? ⟨w.heap.size, 0, none⟩ = some (.int .i64 Y2) ∧ w'.cell? ⟨w.heap.size, 1, none⟩ = some (.int .i64 1) ∧ w'.cell? ⟨w.heap.size, 2, none⟩ = some (.int .i64 1) ∧ w'.cell? ⟨w.heap.size, 3, none⟩ = some (.int .i64 Hh) ∧ w'.cell? ⟨w.heap.size, 4, none⟩ = some (.int .i64 Mi) ∧ w'.cell? ⟨w.heap.size, 5, none⟩ = some (.int .i64 Se)) (first | go_keep | (exact k2 _ _ (by go_split_ands; assumption) hbx) | (exact k2 _ _ (k1 _ (by go_split_ands; assumption)) hbx) | (go_split_ands; exact ⟨k1 _ (by assumption), by assumption, by assumption, by assumption, by assumption, by assumption, by assumption⟩)) (first | (go_at_call 85; refine (HTm.out _).mono ?_; rintro e w9 ⟨rfl, hbx⟩) | (go_at_call 86; first | (have HQ := HB1; clear HB1; refine (HQ.out _).mono ?_; clear HQ; rintro e w9 ⟨rfl, hbx⟩) | (refine (HB0.out _).mono ?_; rintro e w9 ⟨rfl, hbx⟩)) | (go_at_call 42; refine (HWj.out _).mono ?_; rintro e w9 ⟨rfl, hbx⟩))
    all_goals go_split_ands
    all_goals go_wp2_with fail
    all_goals go_ret2
    all_goals exact ⟨rfl, kB.out _ (by assumption)⟩
set_option maxRecDepth 100000 in
set_option maxHeartbeats 3200000 in
theorem dated_c10 (m : Nat) (g : Vals) (hg : Small g) (w : World) (hV : VM w m g) (hyc : ∃ n, g 121 = some n ∧ g 89 = none ∧ 69 ≤ n ∧ yC g = 1900 + n) (hhc : ∃ n x, g 73 = some n ∧ g 72 = some x ∧ hC g = some (pickC g [72] 0)) (hjc : g 106 = none) :
    Calls Tryz.prog 37 #[.map (some m)] w fun e w' => e = .returned (.tuple #[.int .i64 (datedC g).1, .bool (datedC g).2]) ∧ Below w.heap.size w w' := by
  have P1 := Lib.hid (fun W h => pick_any m g [89] (by decide) 1970 W h)
  have P2 := Lib.hid (fun W h => pick_any m g [109, 66, 98] (by decide) 1 W h)
  have P3 := Lib.hid (fun W h => pick_any m g [100, 101] (by decide) 1 W h)
  have P4 := Lib.hid (fun W h => pick_any m g [72] (by decide) 0 W h)
  have P5 := Lib.hid (fun W h => pick_any m g [77] (by decide) 0 W h)
  have P6 := Lib.hid (fun W h => pick_any m g [83] (by decide) 0 W h)
  have P7 := Lib.hid (fun W h => pick_any m g [112] (by decide) 1 W h)
  have b1 := pickC_small hg [89] (by decide) 1970 (by decide) (by decide)
  have b2 := pickC_small hg [109, 66, 98] (by decide) 1 (by decide) (by decide)
  have b3 := pickC_small hg [100, 101] (by decide) 1 (by decide) (by decide)
  have b4 := pickC_small hg [72] (by decide) 0 (by decide) (by decide)
  have b5 := pickC_small hg [77] (by decide) 0 (by decide) (by decide)
  have b6 := pickC_small hg [83] (by decide) 0 (by decide) (by decide)
  have b7 := pickC_small hg [112] (by decide) 1 (by decide) (by decide)
  have hA : ∀ o : Obj, VM (w.alloc o) m g := fun o => hV.below (below_alloc1 w o)
  have hl121 := fun o => (hA o).look 121 (by decide)
  have hl89 := fun o => (hA o).look 89 (by decide)
  have hl73 := fun o => (hA o).look 73 (by decide)
  have hl72 := fun o => (hA o).look 72 (by decide)
  have hl106 := fun o => (hA o).look 106 (by decide)
  have HV := Lib.hid hV
  have hsz : ∀ o : Obj, (w.alloc o).heap.size = w.heap.size + 1 := fun o => by simp
  have HA := Lib.hid hA
  obtain ⟨X, hX⟩ : ∃ X, datedC g = X := ⟨_, rfl⟩
  rw [hX]
  unfold datedC at hX
  have hb121 := hg 121
  have hb73 := hg 73
  have hb106 := hg 106
  generalize pickC g [89] 1970 = Y at *
  generalize pickC g [109, 66, 98] 1 = M at *
  generalize pickC g [100, 101] 1 = D at *
  generalize pickC g [72] 0 = Hh at *
  generalize pickC g [77] 0 = Mi at *
  generalize pickC g [83] 0 = Se at *
  generalize pickC g [112] 1 = Pm at *
  clear hV hA hg
  generalize yC g = Y2 at *
  generalize hC g = H2 at *
  generalize g 121 = g121 at *
  generalize g 89 = g89 at *
  generalize g 73 = g73 at *
  generalize g 72 = g72 at *
  generalize g 106 = g106 at *
  obtain ⟨n, rfl, rfl, hn, hy⟩ := hyc
  simp only [Option.getD_some, Option.isSome_some, Option.getD_none, Option.isSome_none] at hl121 hl89
  have hbn := hb121 n (by decide) rfl
  have d69 : decide (69 ≤ n) = true := by rw [decide_eq_true_eq]; exact hn
  have hwn : IntKind.i64.wrap (1900 + n) = Y2 := by rw [hy]; exact IntWalk.i64_in _ (by omega)
  clear hy
  have hwn2 : IntKind.i64.wrap (2000 + n) = 2000 + n := IntWalk.i64_in _ (by omega)
  obtain ⟨q, x2, rfl, rfl, rfl⟩ := hhc
  simp only [Option.getD_some, Option.isSome_some, Option.getD_none, Option.isSome_none] at hl73 hl72
  subst hjc
  simp only [Option.getD_some, Option.isSome_some, Option.getD_none, Option.isSome_none] at hl106
  have HVd := Lib.hid (fun W => Valid_any Y2 M D Hh Mi Se W)
  cases hv : validB Y2 M D Hh Mi Se with
  | false =>
    rw [hv] at HVd
    simp only [hv, Bool.false_eq_true, if_false] at hX
    subst hX
    go_enter Tryz.func37, Tryz.ntmps37
    go_wp2_with (first | (go_at_call 83; first | (have HQ := P1; clear P1; refine (HQ.out _ (by first | exact HV.out | exact HA.out _)).mono ?_; clear HQ; rintro e w1 ⟨rfl, rfl⟩) | (have HQ := P2; clear P2; refine (HQ.out _ (by first | exact HV.out | exact HA.out _)).mono ?_; clear HQ; rintro e w2 ⟨rfl, rfl⟩) | (have HQ := P3; clear P3; refine (HQ.out _ (by first | exact HV.out | exact HA.out _)).mono ?_; clear HQ; rintro e w3 ⟨rfl, rfl⟩) | (have HQ := P4; clear P4; refine (HQ.out _ (by first | exact HV.out | exact HA.out _)).mono ?_; clear HQ; rintro e w4 ⟨rfl, rfl⟩) | (have HQ := P5; clear P5; refine (HQ.out _ (by first | exact HV.out | exact HA.out _)).mono ?_; clear HQ; rintro e w5 ⟨rfl, rfl⟩) | (have HQ := P6; clear P6; refine (HQ.out _ (by first | exact HV.out | exact HA.out _)).mono ?_; clear HQ; rintro e w6 ⟨rfl, rfl⟩) | (have HQ := P7; clear P7; refine (HQ.out _ (by first | exact HV.out | exact HA.out _)).mono ?_; clear HQ; rintro e w7 ⟨rfl, rfl⟩)) | (go_at_call 84; with_reducible refine (HVd.out _).mono ?_; rintro e w8 ⟨rfl, hb8⟩; rw [hsz] at hb8; obtain ⟨c0, c1, c2, c3, c4, c5⟩ := cells6_below w _ _ _ _ _ _ _ w8 hb8; have HW8 := Lib.hid ((below_alloc1 w _).trans (hb8.mono (Nat.le_succ _))); clear hb8))
    go_ret2
    exact ⟨rfl, HW8.out⟩
  | true =>
    rw [hv] at HVd
    simp only [hv, if_true] at hX
    subst hX
    have hvv := hv
    rw [validB_eq] at hvv
    simp only [winI, Bool.and_eq_true, decide_eq_true_eq] at hvv
    have HTm := Lib.hid (fun W => time_any Y2 M D Hh Mi Se (by omega) (by omega) (by omega) (by omega) (by have := dim_ge Y2 M; omega) (by have := dim_ge Y2 M; omega) (by omega) (by omega) (by omega) (by omega) (by omega) (by omega) W)
    have hrr : (dayNo Y2 M D - 719162) * 86400 + Hh * 3600 + Mi * 60 + Se = timeI Y2 M D Hh Mi Se := rfl
    rw [hrr] at HTm
    clear hvv hv hrr
    go_enter Tryz.func37, Tryz.ntmps37
    go_wp2_with (first | (go_at_call 83; first | (have HQ := P1; clear P1; refine (HQ.out _ (by first | exact HV.out | exact HA.out _)).mono ?_; clear HQ; rintro e w1 ⟨rfl, rfl⟩) | (have HQ := P2; clear P2; refine (HQ.out _ (by first | exact HV.out | exact HA.out _)).mono ?_; clear HQ; rintro e w2 ⟨rfl, rfl⟩) | (have HQ := P3; clear P3; refine (HQ.out _ (by first | exact HV.out | exact HA.out _)).mono ?_; clear HQ; rintro e w3 ⟨rfl, rfl⟩) | (have HQ := P4; clear P4; refine (HQ.out _ (by first | exact HV.out | exact HA.out _)).mono ?_; clear HQ; rintro e w4 ⟨rfl, rfl⟩) | (have HQ := P5; clear P5; refine (HQ.out _ (by first | exact HV.out | exact HA.out _)).mono ?_; clear HQ; rintro e w5 ⟨rfl, rfl⟩) | (have HQ := P6; clear P6; refine (HQ.out _ (by first | exact HV.out | exact HA.out _)).mono ?_; clear HQ; rintro e w6 ⟨rfl, rfl⟩) | (have HQ := P7; clear P7; refine (HQ.out _ (by first | exact HV.out | exact HA.out _)).mono ?_; clear HQ; rintro e w7 ⟨rfl, rfl⟩)) | (go_at_call 84; with_reducible refine (HVd.out _).mono ?_; rintro e w8 ⟨rfl, hb8⟩; rw [hsz] at hb8; obtain ⟨c0, c1, c2, c3, c4, c5⟩ := cells6_below w _ _ _ _ _ _ _ w8 hb8; have HW8 := Lib.hid ((below_alloc1 w _).trans (hb8.mono (Nat.le_succ _))); clear hb8) | (go_at_call 85; refine (HTm.out _).mono ?_; rintro e w9 ⟨rfl, hb9⟩))
    go_ret2
    exact ⟨rfl, HW8.out.trans (hb9.mono HW8.out.size)⟩
set_option maxRecDepth 100000 in
set_option maxHeartbeats 3200000 in
theorem dated_c11 (m : Nat) (g : Vals) (hg : Small g) (w : World) (hV : VM w m g) (hyc : ∃ n, g 121 = some n ∧ g 89 = none ∧ 69 ≤ n ∧ yC g = 1900 + n) (hhc : ∃ n x, g 73 = some n ∧ g 72 = some x ∧ hC g = some (pickC g [72] 0)) (hjc : ∃ j, g 106 = some j) :
    Calls Tryz.prog 37 #[.map (some m)] w fun e w' => e = .returned (.tuple #[.int .i64 (datedC g).1, .bool (datedC g).2]) ∧ Below w.heap.size w w' := by
  have P1 := Lib.hid (fun W h => pick_any m g [89] (by decide) 1970 W h)
  have P2 := Lib.hid (fun W h => pick_any m g [109, 66, 98] (by decide) 1 W h)
  have P3 := Lib.hid (fun W h => pick_any m g [100, 101] (by decide) 1 W h)
  have P4 := Lib.hid (fun W h => pick_any m g [72] (by decide) 0 W h)
  have P5 := Lib.hid (fun W h => pick_any m g [77] (by decide) 0 W h)
  have P6 := Lib.hid (fun W h => pick_any m g [83] (by decide) 0 W h)
  have P7 := Lib.hid (fun W h => pick_any m g [112] (by decide) 1 W h)
  have b1 := pickC_small hg [89] (by decide) 1970 (by decide) (by decide)
  have b2 := pickC_small hg [109, 66, 98] (by decide) 1 (by decide) (by decide)
  have b3 := pickC_small hg [100, 101] (by decide) 1 (by decide) (by decide)
  have b4 := pickC_small hg [72] (by decide) 0 (by decide) (by decide)
  have b5 := pickC_small hg [77] (by decide) 0 (by decide) (by decide)
  have b6 := pickC_small hg [83] (by decide) 0 (by decide) (by decide)
  have b7 := pickC_small hg [112] (by decide) 1 (by decide) (by decide)
  have hA : ∀ o : Obj, VM (w.alloc o) m g := fun o => hV.below (below_alloc1 w o)
  have hl121 := fun o => (hA o).look 121 (by decide)
  have hl89 := fun o => (hA o).look 89 (by decide)
  have hl73 := fun o => (hA o).look 73 (by decide)
  have hl72 := fun o => (hA o).look 72 (by decide)
  have hl106 := fun o => (hA o).look 106 (by decide)
  have HV := Lib.hid hV
  have hsz : ∀ o : Obj, (w.alloc o).heap.size = w.heap.size + 1 := fun o => by simp
  have HA := Lib.hid hA
  obtain ⟨X, hX⟩ : ∃ X, datedC g = X := ⟨_, rfl⟩
  rw [hX]
  unfold datedC at hX
  have hb121 := hg 121
  have hb73 := hg 73
  have hb106 := hg 106
  generalize pickC g [89] 1970 = Y at *
  generalize pickC g [109, 66, 98] 1 = M at *
  generalize pickC g [100, 101] 1 = D at *
  generalize pickC g [72] 0 = Hh at *
  generalize pickC g [77] 0 = Mi at *
  generalize pickC g [83] 0 = Se at *
  generalize pickC g [112] 1 = Pm at *
  clear hV hA hg
  generalize yC g = Y2 at *
  generalize hC g = H2 at *
  generalize g 121 = g121 at *
  generalize g 89 = g89 at *
  generalize g 73 = g73 at *
  generalize g 72 = g72 at *
  generalize g 106 = g106 at *
  obtain ⟨n, rfl, rfl, hn, hy⟩ := hyc
  simp only [Option.getD_some, Option.isSome_some, Option.getD_none, Option.isSome_none] at hl121 hl89
  have hbn := hb121 n (by decide) rfl
  have d69 : decide (69 ≤ n) = true := by rw [decide_eq_true_eq]; exact hn
  have hwn : IntKind.i64.wrap (1900 + n) = Y2 := by rw [hy]; exact IntWalk.i64_in _ (by omega)
  clear hy
  have hwn2 : IntKind.i64.wrap (2000 + n) = 2000 + n := IntWalk.i64_in _ (by omega)
  obtain ⟨q, x2, rfl, rfl, rfl⟩ := hhc
  simp only [Option.getD_some, Option.isSome_some, Option.getD_none, Option.isSome_none] at hl73 hl72
  obtain ⟨j, rfl⟩ := hjc
  simp only [Option.getD_some, Option.isSome_some, Option.getD_none, Option.isSome_none] at hl106
  have HVd := Lib.hid (fun W => Valid_any Y2 1 1 Hh Mi Se W)
  cases hv : validB Y2 1 1 Hh Mi Se with
  | false =>
    rw [hv] at HVd
    simp only [hv, Bool.false_eq_true, if_false] at hX
    subst hX
    go_enter Tryz.func37, Tryz.ntmps37
    go_wp2_with (first | (go_at_call 83; first | (have HQ := P1; clear P1; refine (HQ.out _ (by first | exact HV.out | exact HA.out _)).mono ?_; clear HQ; rintro e w1 ⟨rfl, rfl⟩) | (have HQ := P2; clear P2; refine (HQ.out _ (by first | exact HV.out | exact HA.out _)).mono ?_; clear HQ; rintro e w2 ⟨rfl, rfl⟩) | (have HQ := P3; clear P3; refine (HQ.out _ (by first | exact HV.out | exact HA.out _)).mono ?_; clear HQ; rintro e w3 ⟨rfl, rfl⟩) | (have HQ := P4; clear P4; refine (HQ.out _ (by first | exact HV.out | exact HA.out _)).mono ?_; clear HQ; rintro e w4 ⟨rfl, rfl⟩) | (have HQ := P5; clear P5; refine (HQ.out _ (by first | exact HV.out | exact HA.out _)).mono ?_; clear HQ; rintro e w5 ⟨rfl, rfl⟩) | (have HQ := P6; clear P6; refine (HQ.out _ (by first | exact HV.out | exact HA.out _)).mono ?_; clear HQ; rintro e w6 ⟨rfl, rfl⟩) | (have HQ := P7; clear P7; refine (HQ.out _ (by first | exact HV.out | exact HA.out _)).mono ?_; clear HQ; rintro e w7 ⟨rfl, rfl⟩)) | (go_at_call 84; with_reducible refine (HVd.out _).mono ?_; rintro e w8 ⟨rfl, hb8⟩; rw [hsz] at hb8; obtain ⟨c0, c1, c2, c3, c4, c5⟩ := cells6_below w _ _ _ _ _ _ _ w8 hb8; have HW8 := Lib.hid ((below_alloc1 w _).trans (hb8.mono (Nat.le_succ _))); clear hb8))
    go_ret2
    exact ⟨rfl, HW8.out⟩
  | true =>
    rw [hv] at HVd
    simp only [hv, if_true] at hX
    subst hX
    have hvv := hv
    rw [validB_eq] at hvv
    simp only [winI, Bool.and_eq_true, decide_eq_true_eq] at hvv
    have HTm := Lib.hid (fun W => time_any Y2 1 1 Hh Mi Se (by omega) (by omega) (by omega) (by omega) (by have := dim_ge Y2 1; omega) (by have := dim_ge Y2 1; omega) (by omega) (by omega) (by omega) (by omega) (by omega) (by omega) W)
    have hrr : (dayNo Y2 1 1 - 719162) * 86400 + Hh * 3600 + Mi * 60 + Se = timeI Y2 1 1 Hh Mi Se := rfl
    rw [hrr] at HTm
    clear hv hrr
    have hbt : -1000000000000 ≤ timeI Y2 1 1 Hh Mi Se ∧ timeI Y2 1 1 Hh Mi Se ≤ 10000000000000 := by
      have := dayNo_bound (y := Y2) (m := 1) (d := 1) (by omega) (by omega) (by omega) (by omega) (by omega) (by omega)
      unfold timeI
      omega
    have hbj := hb106 j (by decide) rfl
    have hwj1 : IntKind.i64.wrap (j - 1) = j - 1 := IntWalk.i64_in _ (by omega)
    have hwj2 : IntKind.i64.wrap ((j - 1) * 86400) = (j - 1) * 86400 := IntWalk.i64_in _ (by omega)
    have hwj3 : IntKind.i64.wrap (timeI Y2 1 1 Hh Mi Se + (j - 1) * 86400) = timeI Y2 1 1 Hh Mi Se + (j - 1) * 86400 := IntWalk.i64_in _ (by omega)
    have hwy : IntKind.i64.wrap (Y2 + 1) = Y2 + 1 := IntWalk.i64_in _ (by omega)
    have hbn9 := bef_next Y2
    have hbl9 := leap1_le Y2
    have hbq0 : -1000000000 ≤ bef Y2 ∧ bef Y2 ≤ 1000000000 := by unfold bef; omega
    have hwb : IntKind.i64.wrap (bef (Y2 + 1) - bef Y2) = bef (Y2 + 1) - bef Y2 := IntWalk.i64_in _ (by omega)
    have HB1 : Hid (∀ W, Calls Tryz.prog 86 #[.int .i64 (Y2 + 1)] W fun e w' => e = .returned (.int .i64 (bef (Y2 + 1))) ∧ Below W.heap.size W w') := fun W => (before_any (Y2 + 1) (by omega) (by omega) W).mono fun e w' h => ⟨h.1, h.2 ▸ Below.refl _ _⟩
    have HB0 : Hid (∀ W, Calls Tryz.prog 86 #[.int .i64 Y2] W fun e w' => e = .returned (.int .i64 (bef Y2)) ∧ Below W.heap.size W w') := fun W => (before_any Y2 (by omega) (by omega) W).mono fun e w' h => ⟨h.1, h.2 ▸ Below.refl _ _⟩
    have HWj : Hid (∀ W, Calls Tryz.prog 42 #[.int .i64 j, .int .i64 1, .int .i64 (bef (Y2 + 1) - bef Y2)] W fun e w' => e = .returned (.bool (winI j 1 (bef (Y2 + 1) - bef Y2))) ∧ Below W.heap.size W w') := fun W => (within_any j 1 (bef (Y2 + 1) - bef Y2) W).mono fun e w' h => ⟨h.1, h.2 ▸ Below.refl _ _⟩
    generalize timeI Y2 1 1 Hh Mi Se = T at *
    generalize bef (Y2 + 1) = B1 at *
    generalize bef Y2 = B0 at *
    clear hbn9 hbl9 hbq0 hvv
    go_enter Tryz.func37, Tryz.ntmps37
    go_wp2_with (first | (go_at_call 83; first | (have HQ := P1; clear P1; refine (HQ.out _ (by first | exact HV.out | exact HA.out _)).mono ?_; clear HQ; rintro e w1 ⟨rfl, rfl⟩) | (have HQ := P2; clear P2; refine (HQ.out _ (by first | exact HV.out | exact HA.out _)).mono ?_; clear HQ; rintro e w2 ⟨rfl, rfl⟩) | (have HQ := P3; clear P3; refine (HQ.out _ (by first | exact HV.out | exact HA.out _)).mono ?_; clear HQ; rintro e w3 ⟨rfl, rfl⟩) | (have HQ := P4; clear P4; refine (HQ.out _ (by first | exact HV.out | exact HA.out _)).mono ?_; clear HQ; rintro e w4 ⟨rfl, rfl⟩) | (have HQ := P5; clear P5; refine (HQ.out _ (by first | exact HV.out | exact HA.out _)).mono ?_; clear HQ; rintro e w5 ⟨rfl, rfl⟩) | (have HQ := P6; clear P6; refine (HQ.out _ (by first | exact HV.out | exact HA.out _)).mono ?_; clear HQ; rintro e w6 ⟨rfl, rfl⟩) | (have HQ := P7; clear P7; refine (HQ.out _ (by first | exact HV.out | exact HA.out _)).mono ?_; clear HQ; rintro e w7 ⟨rfl, rfl⟩)) | (go_at_call 84; with_reducible refine (HVd.out _).mono ?_; rintro e w8 ⟨rfl, hb8⟩; rw [hsz] at hb8; obtain ⟨c0, c1, c2, c3, c4, c5⟩ := cells6_below w _ _ _ _ _ _ _ w8 hb8; have HW8 := Lib.hid ((below_alloc1 w _).trans (hb8.mono (Nat.le_succ _))); clear hb8))
    
    obtain ⟨S0, hS0⟩ : ∃ S0 : World → Prop, S0 = fun w' => Below w8.heap.size w8 w' := ⟨_, rfl⟩
    have k0 : S0 w8 := by rw [hS0]; exact Below.refl _ _
    have k1 : ∀ W, S0 W → S0 W.drew := by intro W hW; rw [hS0] at hW ⊢; exact hW.drew
    have k2 : ∀ W W', S0 W → Below W.heap.size W W' → S0 W' ∧ W'.cell? ⟨w.heap.size, 0, none⟩ = some (.int .i64 Y2) ∧ W'.cell? ⟨w.heap.size, 1, none⟩ = some (.int .i64 1) ∧ W'.cell? ⟨w.heap.size, 2, none⟩ = some (.int .i64 1) ∧ W'.cell? ⟨w.heap.size, 3, none⟩ = some (.int .i64 Hh) ∧ W'.cell? ⟨w.heap.size, 4, none⟩ = some (.int .i64 Mi) ∧ W'.cell? ⟨w.heap.size, 5, none⟩ = some (.int .i64 Se) := by
      intro W W' hW hb
      have h2 : Below w8.heap.size w8 W' := by rw [hS0] at hW; exact hW.trans (hb.mono hW.size)
      have cl : ∀ {p : Addr} {x : Value}, w8.cell? p = some x → W'.cell? p = some x := fun {p x} h => (h2.cell (cell_lt h)).trans h
      exact ⟨by rw [hS0]; exact h2, cl c0, cl c1, cl c2, cl c3, cl c4, cl c5⟩
    have kB : Hid (∀ W, S0 W → Below w.heap.size w W) := by intro W hW; rw [hS0] at hW; exact HW8.out.trans (hW.mono HW8.out.size)
    clear hS0 hl121 hl89 hl73 hl72 hl106 hsz hb121 hb73 hb106 b1 b2 b3 b4 b5 b6 b7 HA HV HVd
    try clear hbn
    try clear hbq
    go_region_held3 (fun w' => S0 w' ∧ w'.cell? ⟨w.heap.size, 0, none⟩ = some (.int .i64 Y2) ∧ w'.cell? ⟨w.heap.size, 1, none⟩ = some (.int .i64 1) ∧ w'.cell? ⟨w.heap.size, 2, none⟩ = some (.int .i64 1) ∧ w'.cell? ⟨w.heap.size, 3, none⟩ = some (.int .i64 Hh) ∧ w'.cell? ⟨w.heap.size, 4, none⟩ = some (.int .i64 Mi) ∧ w'.cell? ⟨w.heap.size, 5, none⟩ = some (.int .i64 Se)) (first | go_keep | (exact k2 _ _ (by go_split_ands; assumption) hbx) | (exact k2 _ _ (k1 _ (by go_split_ands; assumption)) hbx) | (go_split_ands; exact ⟨k1 _ (by assumption), by assumption, by assumption, by assumption, by assumption, by assumption, by assumption⟩)) (first | (go_at_call 85; refine (HTm.out _).mono ?_; rintro e w9 ⟨rfl, hbx⟩) | (go_at_call 86; first | (have HQ := HB1; clear HB1; refine (HQ.out _).mono ?_; clear HQ; rintro e w9 ⟨rfl, hbx⟩) | (refine (HB0.out _).mono ?_; rintro e w9 ⟨rfl, hbx⟩)) | (go_at_call 42; refine (HWj.out _).mono ?_; rintro e w9 ⟨rfl, hbx⟩))
    all_goals go_split_ands
    all_goals go_wp2_with fail
    all_goals go_ret2
    all_goals exact ⟨rfl, kB.out _ (by assumption)⟩
set_option maxRecDepth 100000 in
set_option maxHeartbeats 3200000 in
theorem dated_c20 (m : Nat) (g : Vals) (hg : Small g) (w : World) (hV : VM w m g) (hyc : ∃ n, g 121 = some n ∧ g 89 = none ∧ 69 ≤ n ∧ yC g = 1900 + n) (hhc : ∃ n, g 73 = some n ∧ g 72 = none ∧ winI n 1 12 = true ∧ hC g = some (n.tmod 12 + 12 * (pickC g [112] 1 - 1))) (hjc : g 106 = none) :
    Calls Tryz.prog 37 #[.map (some m)] w fun e w' => e = .returned (.tuple #[.int .i64 (datedC g).1, .bool (datedC g).2]) ∧ Below w.heap.size w w' := by
  have P1 := Lib.hid (fun W h => pick_any m g [89] (by decide) 1970 W h)
  have P2 := Lib.hid (fun W h => pick_any m g [109, 66, 98] (by decide) 1 W h)
  have P3 := Lib.hid (fun W h => pick_any m g [100, 101] (by decide) 1 W h)
  have P4 := Lib.hid (fun W h => pick_any m g [72] (by decide) 0 W h)
  have P5 := Lib.hid (fun W h => pick_any m g [77] (by decide) 0 W h)
  have P6 := Lib.hid (fun W h => pick_any m g [83] (by decide) 0 W h)
  have P7 := Lib.hid (fun W h => pick_any m g [112] (by decide) 1 W h)
  have b1 := pickC_small hg [89] (by decide) 1970 (by decide) (by decide)
  have b2 := pickC_small hg [109, 66, 98] (by decide) 1 (by decide) (by decide)
  have b3 := pickC_small hg [100, 101] (by decide) 1 (by decide) (by decide)
  have b4 := pickC_small hg [72] (by decide) 0 (by decide) (by decide)
  have b5 := pickC_small hg [77] (by decide) 0 (by decide) (by decide)
  have b6 := pickC_small hg [83] (by decide) 0 (by decide) (by decide)
  have b7 := pickC_small hg [112] (by decide) 1 (by decide) (by decide)
  have hA : ∀ o : Obj, VM (w.alloc o) m g := fun o => hV.below (below_alloc1 w o)
  have hl121 := fun o => (hA o).look 121 (by decide)
  have hl89 := fun o => (hA o).look 89 (by decide)
  have hl73 := fun o => (hA o).look 73 (by decide)
  have hl72 := fun o => (hA o).look 72 (by decide)
  have hl106 := fun o => (hA o).look 106 (by decide)
  have HV := Lib.hid hV
  have hsz : ∀ o : Obj, (w.alloc o).heap.size = w.heap.size + 1 := fun o => by simp
  have HA := Lib.hid hA
  obtain ⟨X, hX⟩ : ∃ X, datedC g = X := ⟨_, rfl⟩
  rw [hX]
  unfold datedC at hX
  have hb121 := hg 121
  have hb73 := hg 73
  have hb106 := hg 106
  generalize pickC g [89] 1970 = Y at *
  generalize pickC g [109, 66, 98] 1 = M at *
  generalize pickC g [100, 101] 1 = D at *
  generalize pickC g [72] 0 = Hh at *
  generalize pickC g [77] 0 = Mi at *
  generalize pickC g [83] 0 = Se at *
  generalize pickC g [112] 1 = Pm at *
  clear hV hA hg
  generalize yC g = Y2 at *
  generalize hC g = H2 at *
  generalize g 121 = g121 at *
  generalize g 89 = g89 at *
  generalize g 73 = g73 at *
  generalize g 72 = g72 at *
  generalize g 106 = g106 at *
  obtain ⟨n, rfl, rfl, hn, hy⟩ := hyc
  simp only [Option.getD_some, Option.isSome_some, Option.getD_none, Option.isSome_none] at hl121 hl89
  have hbn := hb121 n (by decide) rfl
  have d69 : decide (69 ≤ n) = true := by rw [decide_eq_true_eq]; exact hn
  have hwn : IntKind.i64.wrap (1900 + n) = Y2 := by rw [hy]; exact IntWalk.i64_in _ (by omega)
  clear hy
  have hwn2 : IntKind.i64.wrap (2000 + n) = 2000 + n := IntWalk.i64_in _ (by omega)
  obtain ⟨q, rfl, rfl, hq, hh⟩ := hhc
  simp only [Option.getD_some, Option.isSome_some, Option.getD_none, Option.isSome_none] at hl73 hl72
  have HW := Lib.hid (fun W => within_any q 1 12 W)
  rw [hq] at HW
  have hbq := hb73 q (by decide) rfl
  rw [Int.tmod_eq_emod_of_nonneg hbq.1] at hh
  have hq0 : 0 ≤ q % 12 ∧ q % 12 < 12 := by omega
  have hwq1 : IntKind.i64.wrap (q % 12) = q % 12 := IntWalk.i64_in _ (by omega)
  have hwq2 : IntKind.i64.wrap (Pm - 1) = Pm - 1 := IntWalk.i64_in _ (by omega)
  have hwq3 : IntKind.i64.wrap (12 * (Pm - 1)) = 12 * (Pm - 1) := IntWalk.i64_in _ (by omega)
  obtain ⟨h9, hh9⟩ : ∃ h9, q % 12 + 12 * (Pm - 1) = h9 := ⟨_, rfl⟩
  rw [hh9] at hh
  subst hh
  have hwq4 : IntKind.i64.wrap (q % 12 + 12 * (Pm - 1)) = h9 := by rw [← hh9]; exact IntWalk.i64_in _ (by omega)
  have hwq5 : IntKind.i64.wrap (q.tmod 12 + 12 * (Pm - 1)) = h9 := by rw [Int.tmod_eq_emod_of_nonneg hbq.1]; exact hwq4
  clear hh9
  subst hjc
  simp only [Option.getD_some, Option.isSome_some, Option.getD_none, Option.isSome_none] at hl106
  have HVd := Lib.hid (fun W => Valid_any Y2 M D h9 Mi Se W)
  cases hv : validB Y2 M D h9 Mi Se with
  | false =>
    rw [hv] at HVd
    simp only [hv, Bool.false_eq_true, if_false] at hX
    subst hX
    go_enter Tryz.func37, Tryz.ntmps37
    go_wp2_with (first | (go_at_call 83; first | (have HQ := P1; clear P1; refine (HQ.out _ (by first | exact HV.out | exact HA.out _)).mono ?_; clear HQ; rintro e w1 ⟨rfl, rfl⟩) | (have HQ := P2; clear P2; refine (HQ.out _ (by first | exact HV.out | exact HA.out _)).mono ?_; clear HQ; rintro e w2 ⟨rfl, rfl⟩) | (have HQ := P3; clear P3; refine (HQ.out _ (by first | exact HV.out | exact HA.out _)).mono ?_; clear HQ; rintro e w3 ⟨rfl, rfl⟩) | (have HQ := P4; clear P4; refine (HQ.out _ (by first | exact HV.out | exact HA.out _)).mono ?_; clear HQ; rintro e w4 ⟨rfl, rfl⟩) | (have HQ := P5; clear P5; refine (HQ.out _ (by first | exact HV.out | exact HA.out _)).mono ?_; clear HQ; rintro e w5 ⟨rfl, rfl⟩) | (have HQ := P6; clear P6; refine (HQ.out _ (by first | exact HV.out | exact HA.out _)).mono ?_; clear HQ; rintro e w6 ⟨rfl, rfl⟩) | (have HQ := P7; clear P7; refine (HQ.out _ (by first | exact HV.out | exact HA.out _)).mono ?_; clear HQ; rintro e w7 ⟨rfl, rfl⟩)) | (go_at_call 84; with_reducible refine (HVd.out _).mono ?_; rintro e w8 ⟨rfl, hb8⟩; rw [hsz] at hb8; obtain ⟨c0, c1, c2, c3, c4, c5⟩ := cells6_below w _ _ _ _ _ _ _ w8 hb8; have HW8 := Lib.hid ((below_alloc1 w _).trans (hb8.mono (Nat.le_succ _))); clear hb8) | (go_at_call 42; refine (HW.out _).mono ?_; rintro e w10 ⟨rfl, rfl⟩))
    go_ret2
    exact ⟨rfl, HW8.out⟩
  | true =>
    rw [hv] at HVd
    simp only [hv, if_true] at hX
    subst hX
    have hvv := hv
    rw [validB_eq] at hvv
    simp only [winI, Bool.and_eq_true, decide_eq_true_eq] at hvv
    have HTm := Lib.hid (fun W => time_any Y2 M D h9 Mi Se (by omega) (by omega) (by omega) (by omega) (by have := dim_ge Y2 M; omega) (by have := dim_ge Y2 M; omega) (by omega) (by omega) (by omega) (by omega) (by omega) (by omega) W)
    have hrr : (dayNo Y2 M D - 719162) * 86400 + h9 * 3600 + Mi * 60 + Se = timeI Y2 M D h9 Mi Se := rfl
    rw [hrr] at HTm
    clear hvv hv hrr
    go_enter Tryz.func37, Tryz.ntmps37
    go_wp2_with (first | (go_at_call 83; first | (have HQ := P1; clear P1; refine (HQ.out _ (by first | exact HV.out | exact HA.out _)).mono ?_; clear HQ; rintro e w1 ⟨rfl, rfl⟩) | (have HQ := P2; clear P2; refine (HQ.out _ (by first | exact HV.out | exact HA.out _)).mono ?_; clear HQ; rintro e w2 ⟨rfl, rfl⟩) | (have HQ := P3; clear P3; refine (HQ.out _ (by first | exact HV.out | exact HA.out _)).mono ?_; clear HQ; rintro e w3 ⟨rfl, rfl⟩) | (have HQ := P4; clear P4; refine (HQ.out _ (by first | exact HV.out | exact HA.out _)).mono ?_; clear HQ; rintro e w4 ⟨rfl, rfl⟩) | (have HQ := P5; clear P5; refine (HQ.out _ (by first | exact HV.out | exact HA.out _)).mono ?_; clear HQ; rintro e w5 ⟨rfl, rfl⟩) | (have HQ := P6; clear P6; refine (HQ.out _ (by first | exact HV.out | exact HA.out _)).mono ?_; clear HQ; rintro e w6 ⟨rfl, rfl⟩) | (have HQ := P7; clear P7; refine (HQ.out _ (by first | exact HV.out | exact HA.out _)).mono ?_; clear HQ; rintro e w7 ⟨rfl, rfl⟩)) | (go_at_call 84; with_reducible refine (HVd.out _).mono ?_; rintro e w8 ⟨rfl, hb8⟩; rw [hsz] at hb8; obtain ⟨c0, c1, c2, c3, c4, c5⟩ := cells6_below w _ _ _ _ _ _ _ w8 hb8; have HW8 := Lib.hid ((below_alloc1 w _).trans (hb8.mono (Nat.le_succ _))); clear hb8) | (go_at_call 42; refine (HW.out _).mono ?_; rintro e w10 ⟨rfl, rfl⟩) | (go_at_call 85; refine (HTm.out _).mono ?_; rintro e w9 ⟨rfl, hb9⟩))
    go_ret2
    exact ⟨rfl, HW8.out.trans (hb9.mono HW8.out.size)⟩
set_option maxRecDepth 100000 in
set_option maxHeartbeats 3200000 in
theorem dated_c21 (m : Nat) (g : Vals) (hg : Small g) (w : World) (hV : VM w m g) (hyc : ∃ n, g 121 = some n ∧ g 89 = none ∧ 69 ≤ n ∧ yC g = 1900 + n) (hhc : ∃ n, g 73 = some n ∧ g 72 = none ∧ winI n 1 12 = true ∧ hC g = some (n.tmod 12 + 12 * (pickC g [112] 1 - 1))) (hjc : ∃ j, g 106 = some j) :
    Calls Tryz.prog 37 #[.map (some m)] w fun e w' => e = .returned (.tuple #[.int .i64 (datedC g).1, .bool (datedC g).2]) ∧ Below w.heap.size w w' := by
  have P1 := Lib.hid (fun W h => pick_any m g [89] (by decide) 1970 W h)
  have P2 := Lib.hid (fun W h => pick_any m g [109, 66, 98] (by decide) 1 W h)
  have P3 := Lib.hid (fun W h => pick_any m g [100, 101] (by decide) 1 W h)
  have P4 := Lib.hid (fun W h => pick_any m g [72] (by decide) 0 W h)
  have P5 := Lib.hid (fun W h => pick_any m g [77] (by decide) 0 W h)
  have P6 := Lib.hid (fun W h => pick_any m g [83] (by decide) 0 W h)
  have P7 := Lib.hid (fun W h => pick_any m g [112] (by decide) 1 W h)
  have b1 := pickC_small hg [89] (by decide) 1970 (by decide) (by decide)
  have b2 := pickC_small hg [109, 66, 98] (by decide) 1 (by decide) (by decide)
  have b3 := pickC_small hg [100, 101] (by decide) 1 (by decide) (by decide)
  have b4 := pickC_small hg [72] (by decide) 0 (by decide) (by decide)
  have b5 := pickC_small hg [77] (by decide) 0 (by decide) (by decide)
  have b6 := pickC_small hg [83] (by decide) 0 (by decide) (by decide)
  have b7 := pickC_small hg [112] (by decide) 1 (by decide) (by decide)
  have hA : ∀ o : Obj, VM (w.alloc o) m g := fun o => hV.below (below_alloc1 w o)
  have hl121 := fun o => (hA o).look 121 (by decide)
  have hl89 := fun o => (hA o).look 89 (by decide)
  have hl73 := fun o => (hA o).look 73 (by decide)
  have hl72 := fun o => (hA o).look 72 (by decide)
  have hl106 := fun o => (hA o).look 106 (by decide)
  have HV := Lib.hid hV
  have hsz : ∀ o : Obj, (w.alloc o).heap.size = w.heap.size + 1 := fun o => by simp
  have HA := Lib.hid hA
  obtain ⟨X, hX⟩ : ∃ X, datedC g = X := ⟨_, rfl⟩
  rw [hX]
  unfold datedC at hX
  have hb121 := hg 121
  have hb73 := hg 73
  have hb106 := hg 106
  generalize pickC g [89] 1970 = Y at *
  generalize pickC g [109, 66, 98] 1 = M at *
  generalize pickC g [100, 101] 1 = D at *
  generalize pickC g [72] 0 = Hh at *
  generalize pickC g [77] 0 = Mi at *
  generalize pickC g [83] 0 = Se at *
  generalize pickC g [112] 1 = Pm at *
  clear hV hA hg
  generalize yC g = Y2 at *
  generalize hC g = H2 at *
  generalize g 121 = g121 at *
  generalize g 89 = g89 at *
  generalize g 73 = g73 at *
  generalize g 72 = g72 at *
  generalize g 106 = g106 at *
  obtain ⟨n, rfl, rfl, hn, hy⟩ := hyc
  simp only [Option.getD_some, Option.isSome_some, Option.getD_none, Option.isSome_none] at hl121 hl89
  have hbn := hb121 n (by decide) rfl
  have d69 : decide (69 ≤ n) = true := by rw [decide_eq_true_eq]; exact hn
  have hwn : IntKind.i64.wrap (1900 + n) = Y2 := by rw [hy]; exact IntWalk.i64_in _ (by omega)
  clear hy
  have hwn2 : IntKind.i64.wrap (2000 + n) = 2000 + n := IntWalk.i64_in _ (by omega)
  obtain ⟨q, rfl, rfl, hq, hh⟩ := hhc
  simp only [Option.getD_some, Option.isSome_some, Option.getD_none, Option.isSome_none] at hl73 hl72
  have HW := Lib.hid (fun W => within_any q 1 12 W)
  rw [hq] at HW
  have hbq := hb73 q (by decide) rfl
  rw [Int.tmod_eq_emod_of_nonneg hbq.1] at hh
  have hq0 : 0 ≤ q % 12 ∧ q % 12 < 12 := by omega
  have hwq1 : IntKind.i64.wrap (q % 12) = q % 12 := IntWalk.i64_in _ (by omega)
  have hwq2 : IntKind.i64.wrap (Pm - 1) = Pm - 1 := IntWalk.i64_in _ (by omega)
  have hwq3 : IntKind.i64.wrap (12 * (Pm - 1)) = 12 * (Pm - 1) := IntWalk.i64_in _ (by omega)
  obtain ⟨h9, hh9⟩ : ∃ h9, q % 12 + 12 * (Pm - 1) = h9 := ⟨_, rfl⟩
  rw [hh9] at hh
  subst hh
  have hwq4 : IntKind.i64.wrap (q % 12 + 12 * (Pm - 1)) = h9 := by rw [← hh9]; exact IntWalk.i64_in _ (by omega)
  have hwq5 : IntKind.i64.wrap (q.tmod 12 + 12 * (Pm - 1)) = h9 := by rw [Int.tmod_eq_emod_of_nonneg hbq.1]; exact hwq4
  clear hh9
  obtain ⟨j, rfl⟩ := hjc
  simp only [Option.getD_some, Option.isSome_some, Option.getD_none, Option.isSome_none] at hl106
  have HVd := Lib.hid (fun W => Valid_any Y2 1 1 h9 Mi Se W)
  cases hv : validB Y2 1 1 h9 Mi Se with
  | false =>
    rw [hv] at HVd
    simp only [hv, Bool.false_eq_true, if_false] at hX
    subst hX
    go_enter Tryz.func37, Tryz.ntmps37
    go_wp2_with (first | (go_at_call 83; first | (have HQ := P1; clear P1; refine (HQ.out _ (by first | exact HV.out | exact HA.out _)).mono ?_; clear HQ; rintro e w1 ⟨rfl, rfl⟩) | (have HQ := P2; clear P2; refine (HQ.out _ (by first | exact HV.out | exact HA.out _)).mono ?_; clear HQ; rintro e w2 ⟨rfl, rfl⟩) | (have HQ := P3; clear P3; refine (HQ.out _ (by first | exact HV.out | exact HA.out _)).mono ?_; clear HQ; rintro e w3 ⟨rfl, rfl⟩) | (have HQ := P4; clear P4; refine (HQ.out _ (by first | exact HV.out | exact HA.out _)).mono ?_; clear HQ; rintro e w4 ⟨rfl, rfl⟩) | (have HQ := P5; clear P5; refine (HQ.out _ (by first | exact HV.out | exact HA.out _)).mono ?_; clear HQ; rintro e w5 ⟨rfl, rfl⟩) | (have HQ := P6; clear P6; refine (HQ.out _ (by first | exact HV.out | exact HA.out _)).mono ?_; clear HQ; rintro e w6 ⟨rfl, rfl⟩) | (have HQ := P7; clear P7; refine (HQ.out _ (by first | exact HV.out | exact HA.out _)).mono ?_; clear HQ; rintro e w7 ⟨rfl, rfl⟩)) | (go_at_call 84; with_reducible refine (HVd.out _).mono ?_; rintro e w8 ⟨rfl, hb8⟩; rw [hsz] at hb8; obtain ⟨c0, c1, c2, c3, c4, c5⟩ := cells6_below w _ _ _ _ _ _ _ w8 hb8; have HW8 := Lib.hid ((below_alloc1 w _).trans (hb8.mono (Nat.le_succ _))); clear hb8) | (go_at_call 42; refine (HW.out _).mono ?_; rintro e w10 ⟨rfl, rfl⟩))
    go_ret2
    exact ⟨rfl, HW8.out⟩
  | true =>
    rw [hv] at HVd
    simp only [hv, if_true] at hX
    subst hX
    have hvv := hv
    rw [validB_eq] at hvv
    simp only [winI, Bool.and_eq_true, decide_eq_true_eq] at hvv
    have HTm := Lib.hid (fun W => time_any Y2 1 1 h9 Mi Se (by omega) (by omega) (by omega) (by omega) (by have := dim_ge Y2 1; omega) (by have := dim_ge Y2 1; omega) (by omega) (by omega) (by omega) (by omega) (by omega) (by omega) W)
    have hrr : (dayNo Y2 1 1 - 719162) * 86400 + h9 * 3600 + Mi * 60 + Se = timeI Y2 1 1 h9 Mi Se := rfl
    rw [hrr] at HTm
    clear hv hrr
    have hbt : -1000000000000 ≤ timeI Y2 1 1 h9 Mi Se ∧ timeI Y2 1 1 h9 Mi Se ≤ 10000000000000 := by
      have := dayNo_bound (y := Y2) (m := 1) (d := 1) (by omega) (by omega) (by omega) (by omega) (by omega) (by omega)
      unfold timeI
      omega
    have hbj := hb106 j (by decide) rfl
    have hwj1 : IntKind.i64.wrap (j - 1) = j - 1 := IntWalk.i64_in _ (by omega)
    have hwj2 : IntKind.i64.wrap ((j - 1) * 86400) = (j - 1) * 86400 := IntWalk.i64_in _ (by omega)
    have hwj3 : IntKind.i64.wrap (timeI Y2 1 1 h9 Mi Se + (j - 1) * 86400) = timeI Y2 1 1 h9 Mi Se + (j - 1) * 86400 := IntWalk.i64_in _ (by omega)
    have hwy : IntKind.i64.wrap (Y2 + 1) = Y2 + 1 := IntWalk.i64_in _ (by omega)
    have hbn9 := bef_next Y2
    have hbl9 := leap1_le Y2
    have hbq0 : -1000000000 ≤ bef Y2 ∧ bef Y2 ≤ 1000000000 := by unfold bef; omega
    have hwb : IntKind.i64.wrap (bef (Y2 + 1) - bef Y2) = bef (Y2 + 1) - bef Y2 := IntWalk.i64_in _ (by omega)
    have HB1 : Hid (∀ W, Calls Tryz.prog 86 #[.int .i64 (Y2 + 1)] W fun e w' => e = .returned (.int .i64 (bef (Y2 + 1))) ∧ Below W.heap.size W w') := fun W => (before_any (Y2 + 1) (by omega) (by omega) W).mono fun e w' h => ⟨h.1, h.2 ▸ Below.refl _ _⟩
    have HB0 : Hid (∀ W, Calls Tryz.prog 86 #[.int .i64 Y2] W fun e w' => e = .returned (.int .i64 (bef Y2)) ∧ Below W.heap.size W w') := fun W => (before_any Y2 (by omega) (by omega) W).mono fun e w' h => ⟨h.1, h.2 ▸ Below.refl _ _⟩
    have HWj : Hid (∀ W, Calls Tryz.prog 42 #[.int .i64 j, .int .i64 1, .int .i64 (bef (Y2 + 1) - bef Y2)] W fun e w' => e = .returned (.bool (winI j 1 (bef (Y2 + 1) - bef Y2))) ∧ Below W.heap.size W w') := fun W => (within_any j 1 (bef (Y2 + 1) - bef Y2) W).mono fun e w' h => ⟨h.1, h.2 ▸ Below.refl _ _⟩
    generalize timeI Y2 1 1 h9 Mi Se = T at *
    generalize bef (Y2 + 1) = B1 at *
    generalize bef Y2 = B0 at *
    clear hbn9 hbl9 hbq0 hvv
    go_enter Tryz.func37, Tryz.ntmps37
    go_wp2_with (first | (go_at_call 83; first | (have HQ := P1; clear P1; refine (HQ.out _ (by first | exact HV.out | exact HA.out _)).mono ?_; clear HQ; rintro e w1 ⟨rfl, rfl⟩) | (have HQ := P2; clear P2; refine (HQ.out _ (by first | exact HV.out | exact HA.out _)).mono ?_; clear HQ; rintro e w2 ⟨rfl, rfl⟩) | (have HQ := P3; clear P3; refine (HQ.out _ (by first | exact HV.out | exact HA.out _)).mono ?_; clear HQ; rintro e w3 ⟨rfl, rfl⟩) | (have HQ := P4; clear P4; refine (HQ.out _ (by first | exact HV.out | exact HA.out _)).mono ?_; clear HQ; rintro e w4 ⟨rfl, rfl⟩) | (have HQ := P5; clear P5; refine (HQ.out _ (by first | exact HV.out | exact HA.out _)).mono ?_; clear HQ; rintro e w5 ⟨rfl, rfl⟩) | (have HQ := P6; clear P6; refine (HQ.out _ (by first | exact HV.out | exact HA.out _)).mono ?_; clear HQ; rintro e w6 ⟨rfl, rfl⟩) | (have HQ := P7; clear P7; refine (HQ.out _ (by first | exact HV.out | exact HA.out _)).mono ?_; clear HQ; rintro e w7 ⟨rfl, rfl⟩)) | (go_at_call 84; with_reducible refine (HVd.out _).mono ?_; rintro e w8 ⟨rfl, hb8⟩; rw [hsz] at hb8; obtain ⟨c0, c1, c2, c3, c4, c5⟩ := cells6_below w _ _ _ _ _ _ _ w8 hb8; have HW8 := Lib.hid ((below_alloc1 w _).trans (hb8.mono (Nat.le_succ _))); clear hb8) | (go_at_call 42; refine (HW.out _).mono ?_; rintro e w10 ⟨rfl, rfl⟩))
    
    obtain ⟨S0, hS0⟩ : ∃ S0 : World → Prop, S0 = fun w' => Below w8.heap.size w8 w' := ⟨_, rfl⟩
    have k0 : S0 w8 := by rw [hS0]; exact Below.refl _ _
    have k1 : ∀ W, S0 W → S0 W.drew := by intro W hW; rw [hS0] at hW ⊢; exact hW.drew
    have k2 : ∀ W W', S0 W → Below W.heap.size W W' → S0 W' ∧ W'.cell? ⟨w.heap.size, 0, none⟩ = some (.int .i64 Y2) ∧ W'.cell? ⟨w.heap.size, 1, none⟩ = some (.int .i64 1) ∧ W'.cell? ⟨w.heap.size, 2, none⟩ = some (.int .i64 1) ∧ W'.cell? ⟨w.heap.size, 3, none⟩ = some (.int .i64 h9) ∧ W'.cell? ⟨w.heap.size, 4, none⟩ = some (.int .i64 Mi) ∧ W'.cell? ⟨w.heap.size, 5, none⟩ = some (.int .i64 Se) := by
      intro W W' hW hb
      have h2 : Below w8.heap.size w8 W' := by rw [hS0] at hW; exact hW.trans (hb.mono hW.size)
      have cl : ∀ {p : Addr} {x : Value}, w8.cell? p = some x → W'.cell? p = some x := fun {p x} h => (h2.cell (cell_lt h)).trans h
      exact ⟨by rw [hS0]; exact h2, cl c0, cl c1, cl c2, cl c3, cl c4, cl c5⟩
    have kB : Hid (∀ W, S0 W → Below w.heap.size w W) := by intro W hW; rw [hS0] at hW; exact HW8.out.trans (hW.mono HW8.out.size)
    clear hS0 hl121 hl89 hl73 hl72 hl106 hsz hb121 hb73 hb106 b1 b2 b3 b4 b5 b6 b7 HA HV HVd
    try clear hbn
    try clear hbq
    go_region_held3 (fun w' => S0 w' ∧ w'.cell? ⟨w.heap.size, 0, none⟩ = some (.int .i64 Y2) ∧ w'.cell? ⟨w.heap.size, 1, none⟩ = some (.int .i64 1) ∧ w'.cell? ⟨w.heap.size, 2, none⟩ = some (.int .i64 1) ∧ w'.cell? ⟨w.heap.size, 3, none⟩ = some (.int .i64 h9) ∧ w'.cell? ⟨w.heap.size, 4, none⟩ = some (.int .i64 Mi) ∧ w'.cell? ⟨w.heap.size, 5, none⟩ = some (.int .i64 Se)) (first | go_keep | (exact k2 _ _ (by go_split_ands; assumption) hbx) | (exact k2 _ _ (k1 _ (by go_split_ands; assumption)) hbx) | (go_split_ands; exact ⟨k1 _ (by assumption), by assumption, by assumption, by assumption, by assumption, by assumption, by assumption⟩)) (first | (go_at_call 85; refine (HTm.out _).mono ?_; rintro e w9 ⟨rfl, hbx⟩) | (go_at_call 86; first | (have HQ := HB1; clear HB1; refine (HQ.out _).mono ?_; clear HQ; rintro e w9 ⟨rfl, hbx⟩) | (refine (HB0.out _).mono ?_; rintro e w9 ⟨rfl, hbx⟩)) | (go_at_call 42; refine (HWj.out _).mono ?_; rintro e w9 ⟨rfl, hbx⟩))
    all_goals go_split_ands
    all_goals go_wp2_with fail
    all_goals go_ret2
    all_goals exact ⟨rfl, kB.out _ (by assumption)⟩
set_option maxRecDepth 100000 in
set_option maxHeartbeats 3200000 in
theorem dated_c30 (m : Nat) (g : Vals) (hg : Small g) (w : World) (hV : VM w m g) (hyc : ∃ n, g 121 = some n ∧ g 89 = none ∧ 69 ≤ n ∧ yC g = 1900 + n) (hhc : ∃ n, g 73 = some n ∧ g 72 = none ∧ winI n 1 12 = false ∧ hC g = none) (hjc : True) :
    Calls Tryz.prog 37 #[.map (some m)] w fun e w' => e = .returned (.tuple #[.int .i64 (datedC g).1, .bool (datedC g).2]) ∧ Below w.heap.size w w' := by
  have P1 := Lib.hid (fun W h => pick_any m g [89] (by decide) 1970 W h)
  have P2 := Lib.hid (fun W h => pick_any m g [109, 66, 98] (by decide) 1 W h)
  have P3 := Lib.hid (fun W h => pick_any m g [100, 101] (by decide) 1 W h)
  have P4 := Lib.hid (fun W h => pick_any m g [72] (by decide) 0 W h)
  have P5 := Lib.hid (fun W h => pick_any m g [77] (by decide) 0 W h)
  have P6 := Lib.hid (fun W h => pick_any m g [83] (by decide) 0 W h)
  have P7 := Lib.hid (fun W h => pick_any m g [112] (by decide) 1 W h)
  have b1 := pickC_small hg [89] (by decide) 1970 (by decide) (by decide)
  have b2 := pickC_small hg [109, 66, 98] (by decide) 1 (by decide) (by decide)
  have b3 := pickC_small hg [100, 101] (by decide) 1 (by decide) (by decide)
  have b4 := pickC_small hg [72] (by decide) 0 (by decide) (by decide)
  have b5 := pickC_small hg [77] (by decide) 0 (by decide) (by decide)
  have b6 := pickC_small hg [83] (by decide) 0 (by decide) (by decide)
  have b7 := pickC_small hg [112] (by decide) 1 (by decide) (by decide)
  have hA : ∀ o : Obj, VM (w.alloc o) m g := fun o => hV.below (below_alloc1 w o)
  have hl121 := fun o => (hA o).look 121 (by decide)
  have hl89 := fun o => (hA o).look 89 (by decide)
  have hl73 := fun o => (hA o).look 73 (by decide)
  have hl72 := fun o => (hA o).look 72 (by decide)
  have hl106 := fun o => (hA o).look 106 (by decide)
  have HV := Lib.hid hV
  have hsz : ∀ o : Obj, (w.alloc o).heap.size = w.heap.size + 1 := fun o => by simp
  have HA := Lib.hid hA
  obtain ⟨X, hX⟩ : ∃ X, datedC g = X := ⟨_, rfl⟩
  rw [hX]
  unfold datedC at hX
  have hb121 := hg 121
  have hb73 := hg 73
  have hb106 := hg 106
  generalize pickC g [89] 1970 = Y at *
  generalize pickC g [109, 66, 98] 1 = M at *
  generalize pickC g [100, 101] 1 = D at *
  generalize pickC g [72] 0 = Hh at *
  generalize pickC g [77] 0 = Mi at *
  generalize pickC g [83] 0 = Se at *
  generalize pickC g [112] 1 = Pm at *
  clear hV hA hg
  generalize yC g = Y2 at *
  generalize hC g = H2 at *
  generalize g 121 = g121 at *
  generalize g 89 = g89 at *
  generalize g 73 = g73 at *
  generalize g 72 = g72 at *
  generalize g 106 = g106 at *
  obtain ⟨n, rfl, rfl, hn, hy⟩ := hyc
  simp only [Option.getD_some, Option.isSome_some, Option.getD_none, Option.isSome_none] at hl121 hl89
  have hbn := hb121 n (by decide) rfl
  have d69 : decide (69 ≤ n) = true := by rw [decide_eq_true_eq]; exact hn
  have hwn : IntKind.i64.wrap (1900 + n) = Y2 := by rw [hy]; exact IntWalk.i64_in _ (by omega)
  clear hy
  have hwn2 : IntKind.i64.wrap (2000 + n) = 2000 + n := IntWalk.i64_in _ (by omega)
  obtain ⟨q, rfl, rfl, hq, rfl⟩ := hhc
  simp only [Option.getD_some, Option.isSome_some, Option.getD_none, Option.isSome_none] at hl73 hl72
  simp only at hX
  subst hX
  have HW := Lib.hid (fun W => within_any q 1 12 W)
  rw [hq] at HW
  go_enter Tryz.func37, Tryz.ntmps37
  go_wp2_with (first | (go_at_call 83; first | (have HQ := P1; clear P1; refine (HQ.out _ (by first | exact HV.out | exact HA.out _)).mono ?_; clear HQ; rintro e w1 ⟨rfl, rfl⟩) | (have HQ := P2; clear P2; refine (HQ.out _ (by first | exact HV.out | exact HA.out _)).mono ?_; clear HQ; rintro e w2 ⟨rfl, rfl⟩) | (have HQ := P3; clear P3; refine (HQ.out _ (by first | exact HV.out | exact HA.out _)).mono ?_; clear HQ; rintro e w3 ⟨rfl, rfl⟩) | (have HQ := P4; clear P4; refine (HQ.out _ (by first | exact HV.out | exact HA.out _)).mono ?_; clear HQ; rintro e w4 ⟨rfl, rfl⟩) | (have HQ := P5; clear P5; refine (HQ.out _ (by first | exact HV.out | exact HA.out _)).mono ?_; clear HQ; rintro e w5 ⟨rfl, rfl⟩) | (have HQ := P6; clear P6; refine (HQ.out _ (by first | exact HV.out | exact HA.out _)).mono ?_; clear HQ; rintro e w6 ⟨rfl, rfl⟩) | (have HQ := P7; clear P7; refine (HQ.out _ (by first | exact HV.out | exact HA.out _)).mono ?_; clear HQ; rintro e w7 ⟨rfl, rfl⟩)) | (go_at_call 42; refine (HW.out _).mono ?_; rintro e w10 ⟨rfl, rfl⟩))
  go_ret2
  exact ⟨rfl, below_alloc1 w _⟩
theorem dated_c (m : Nat) (g : Vals) (hg : Small g) (w : World) (hV : VM w m g) (hyc : ∃ n, g 121 = some n ∧ g 89 = none ∧ 69 ≤ n ∧ yC g = 1900 + n) :
    Calls Tryz.prog 37 #[.map (some m)] w fun e w' => e = .returned (.tuple #[.int .i64 (datedC g).1, .bool (datedC g).2]) ∧ Below w.heap.size w w' := by
  rcases h_cases g with h | h | h | h
  · cases hj : g 106 with
    | none => exact dated_c00 m g hg w hV hyc h hj
    | some j => exact dated_c01 m g hg w hV hyc h ⟨j, hj⟩
  · cases hj : g 106 with
    | none => exact dated_c10 m g hg w hV hyc h hj
    | some j => exact dated_c11 m g hg w hV hyc h ⟨j, hj⟩
  · cases hj : g 106 with
    | none => exact dated_c20 m g hg w hV hyc h hj
    | some j => exact dated_c21 m g hg w hV hyc h ⟨j, hj⟩
  · exact dated_c30 m g hg w hV hyc h trivial
end Go.Proofs.YtkahakhhdiffcaaGreatDoor
