/- Contract of the clock's beginnings of units: Start, of a week. -/
import Derived.Test.YtmidphmniikdpaaDoorCSta4
namespace Go.Proofs.YtmidphmniikdpaaDoor
set_option linter.unusedVariables false
set_option linter.unusedSimpArgs false
open Go.RowKit

attribute [local go_sem] Option.isSome_some
set_option maxRecDepth 100000 in
set_option maxHeartbeats 6400000 in
theorem Start_w (t : Int) (s : Bs) (hu : unitC s = some 4) (hv : validI t = true) (w : World) :
    Calls Tryd.prog 36 #[.int .i64 t, .string ⟨s.toArray⟩] w fun e w' => e = .returned (.tuple #[.int .i64 (startC t 4), .int .i64 0]) ∧ Below w.heap.size w w' := by
  have HK := Lib.hid (fun b cap W hc => asked1 s t b cap W hc)
  rw [askedC_one, if_pos hv, hu] at HK
  have HB := Lib.hid (below_alloc1 w (.cells #[.int .i64 t] 3))
  have hc1 := cells1_new w (.int .i64 t) 3
  have z1 := heap_alloc_new (w.alloc (.cells #[.int .i64 t] 3)) (.cells #[.int .i64 0, .int .i64 0, .int .i64 0, .int .i64 0, .int .i64 0, .int .i64 0] 30)
  simp only [World.size_alloc] at z1
  have h1 := (validI_iff t).1 hv
  have HD := Lib.hid (fun W => date_any t h1.1 (by omega) W)
  have HCL := Lib.hid (fun c W hc => mon_any t hv c W hc)
  have hcl0 := start_valid hv (u := 4) (by omega)
  have hok := (valid_date hcl0).1
  have htime := (valid_date hcl0).2.1
  have hyb := (valid_date hcl0).2.2
  have b1 := hok.date.y1; have b2 := hok.date.m1; have b3 := hok.date.m12; have b4 := hok.date.d1; have b5 := hok.date.dn; have b6 := dim_ge (dateC (startC t 4)).y (dateC (startC t 4)).m
  have b7 := hok.h0; have b8 := hok.h1; have b9 := hok.mi0; have b10 := hok.mi1; have b11 := hok.s0; have b12 := hok.s1
  have HTM := Lib.hid (fun W => time_any (dateC (startC t 4)).y (dateC (startC t 4)).m (dateC (startC t 4)).d (dateC (startC t 4)).h (dateC (startC t 4)).mi (dateC (startC t 4)).s (by omega) (by omega) (by omega) (by omega) (by omega) (by omega) (by omega) (by omega) (by omega) (by omega) (by omega) (by omega) W)
  have htt : (dayNo (dateC (startC t 4)).y (dateC (startC t 4)).m (dateC (startC t 4)).d - 719162) * 86400 + (dateC (startC t 4)).h * 3600 + (dateC (startC t 4)).mi * 60 + (dateC (startC t 4)).s = startC t 4 := htime
  rw [htt] at HTM
  have heqt : dateC t = dateC (startC t 4) → t = startC t 4 := fun h => by
    have := (valid_date hv).2.1
    rw [h] at this
    exact this.symm.trans htime
  clear htt htime b1 b2 b3 b4 b5 b6 b7 b8 b9 b10 b11 b12 hyb hok hv h1 hu
  generalize dateC (startC t 4) = E at *
  generalize startC t 4 = S at *
  generalize dateC t = D at *
  by_cases hde : D = E
  · subst hde
    have hS := Lib.hid (heqt rfl)
    clear heqt HTM
    obtain ⟨y', m', d', h', mi', s'⟩ := D
    simp only [DT.v] at *
    go_enter Tryd.func36, Tryd.ntmps36
    go_wp2_with (go_at_call 64; refine (HK.out _ _ _ ?_).mono ?_; exact hc1; rintro e w1 ⟨rfl, rfl⟩)
    go_region_with (first | (go_at_call 69; refine (starts_any _).mono ?_; rintro e w2 ⟨a0, a1, a2, a3, am, a5, a6, rfl, k0, k1, k2, k3, km, k5, k6, hb⟩; replace HB : Hid (Below w.heap.size w w2) := Lib.hid (Below.trans (by repeat (with_reducible (first | exact HB.out | refine Below.drew ?_ | refine Below.alloc ?_ (by have hq := HB.out.size; first | (simp; done) | (simp at hq ⊢ <;> omega)) _ | refine Below.setCell ?_ (by first | (simp; done) | (simp <;> omega)) _))) (hb.mono (by have hq := HB.out.size; first | (simp; done) | (simp at hq ⊢ <;> omega)))); have hs2 : w.heap.size ≤ w2.heap.size := HB.out.size; have hz2 := hb.size; (try simp at hz2); (first | (with_reducible have hz2 := blk_carry hb (heap_drew_pass z1)) | skip); clear hb; have hix := stx4 a0 a1 a2 a3 am a5 a6; have hcc := km; clear k0 k1 k2 k3 km k5 k6) | (go_at_call 53; refine (HD.out _).mono ?_; rintro e w3 ⟨rfl, hb⟩; have hcc2 : w3.cell? ⟨am, 0, none⟩ = some (.func (.func 97) #[] #[]) := (by with_reducible (first | exact (hb.cell (cell_lt hcc)).trans hcc | exact (hb.cell (cell_lt (cell_alloc_pass hcc))).trans (cell_alloc_pass hcc))); replace HB : Hid (Below w.heap.size w w3) := Lib.hid (Below.trans (by repeat (with_reducible (first | exact HB.out | refine Below.drew ?_ | refine Below.alloc ?_ (by have hq := HB.out.size; first | (simp; done) | (simp at hq ⊢ <;> omega)) _ | refine Below.setCell ?_ (by first | (simp; done) | (simp <;> omega)) _))) (hb.mono (by have hq := HB.out.size; first | (simp; done) | (simp at hq ⊢ <;> omega)))); have hs3 : w.heap.size ≤ w3.heap.size := HB.out.size; have hz3 := hb.size; (try simp at hz3); (first | (with_reducible have hz3 := blk_carry hb hz2) | (with_reducible have hz3 := blk_carry hb (heap_alloc_new w2 (.cells #[.int .i64 0, .int .i64 0, .int .i64 0, .int .i64 0, .int .i64 0, .int .i64 0] 30))) | skip); clear hb) | (go_at_call 99; refine (HCL.out _ _ ?_).mono ?_; (with_reducible (first | exact hcc2 | exact cell_alloc_pass hcc2)); rintro e w4 ⟨rfl, hb⟩; replace HB : Hid (Below w.heap.size w w4) := Lib.hid (Below.trans (by repeat (with_reducible (first | exact HB.out | refine Below.drew ?_ | refine Below.alloc ?_ (by have hq := HB.out.size; first | (simp; done) | (simp at hq ⊢ <;> omega)) _ | refine Below.setCell ?_ (by first | (simp; done) | (simp <;> omega)) _))) (hb.mono (by have hq := HB.out.size; first | (simp; done) | (simp at hq ⊢ <;> omega)))); have hs4 : w.heap.size ≤ w4.heap.size := HB.out.size; have hz4 := hb.size; (try simp at hz4); (first | (with_reducible have hz4 := blk_carry hb hz3) | (with_reducible have hz4 := blk_carry hb (heap_alloc_new w3 (.cells #[.int .i64 0, .int .i64 0, .int .i64 0, .int .i64 0, .int .i64 0, .int .i64 0] 30))) | skip); clear hb; (first | (obtain ⟨d0, d1, d2, d3, d4, d5⟩ := cell6 hz4; have e0 := frozen6 hz4 0; have e1 := frozen6 hz4 1; have e2 := frozen6 hz4 2; have e3 := frozen6 hz4 3; have e4 := frozen6 hz4 4; have e5 := frozen6 hz4 5) | skip); obtain ⟨q0, q1, q2, q3, q4, q5⟩ := cells6_new w4 (.int .i64 y') (.int .i64 m') (.int .i64 d') (.int .i64 h') (.int .i64 mi') (.int .i64 s') 30))
    all_goals go_wp2_with fail
    all_goals go_region_with (go_at_call 53; refine (HD.out _).mono ?_; rintro e w5 ⟨rfl, hb⟩; replace HB : Hid (Below w.heap.size w w5) := Lib.hid (Below.trans (by repeat (with_reducible (first | exact HB.out | refine Below.drew ?_ | refine Below.alloc ?_ (by have hq := HB.out.size; first | (simp; done) | (simp at hq ⊢ <;> omega)) _ | refine Below.setCell ?_ (by first | (simp; done) | (simp <;> omega)) _))) (hb.mono (by have hq := HB.out.size; first | (simp; done) | (simp at hq ⊢ <;> omega)))); have hs5 : w.heap.size ≤ w5.heap.size := HB.out.size; have hz5 := hb.size; (try simp at hz5); (first | (with_reducible have hz5 := blk_carry hb (heap_drew_pass (cells6_set _ _ _ _ _ _ _ _ _ _ (.int .i64 y') (.int .i64 m') (.int .i64 d') (.int .i64 h') (.int .i64 mi') (.int .i64 s') hz4))) | (with_reducible have hz5 := blk_carry hb (heap_drew_pass (heap_alloc_new w4 (.cells #[.int .i64 y', .int .i64 m', .int .i64 d', .int .i64 h', .int .i64 mi', .int .i64 s'] 30)))) | (have hz5 := blk_carry hb (heap_drew_pass (cells6_set _ _ _ _ _ _ _ _ _ _ (.int .i64 y') (.int .i64 m') (.int .i64 d') (.int .i64 h') (.int .i64 mi') (.int .i64 s') hz4)))); clear hb; obtain ⟨g0, g1, g2, g3, g4, g5⟩ := cell6 hz5)
    all_goals go_wp2_with fail
    all_goals go_ret2
    all_goals exact ⟨by rw [← hS.out]; first | done | rfl, (by repeat (with_reducible (first | exact HB.out | refine Below.drew ?_ | refine Below.alloc ?_ (by have hq := HB.out.size; first | (simp; done) | (simp at hq ⊢ <;> omega)) _ | refine Below.setCell ?_ (by first | (simp; done) | (simp <;> omega)) _)))⟩
  · clear heqt
    obtain ⟨y, m, d, h, mi, s0⟩ := D
    obtain ⟨y', m', d', h', mi', s'⟩ := E
    have hx := fun W => dates_neq y' m' d' h' mi' s' y m d h mi s0 (fun h => hde h.symm) W
    clear hde
    simp only [DT.v] at *
    go_enter Tryd.func36, Tryd.ntmps36
    go_wp2_with (go_at_call 64; refine (HK.out _ _ _ ?_).mono ?_; exact hc1; rintro e w1 ⟨rfl, rfl⟩)
    go_region_with (first | (go_at_call 69; refine (starts_any _).mono ?_; rintro e w2 ⟨a0, a1, a2, a3, am, a5, a6, rfl, k0, k1, k2, k3, km, k5, k6, hb⟩; replace HB : Hid (Below w.heap.size w w2) := Lib.hid (Below.trans (by repeat (with_reducible (first | exact HB.out | refine Below.drew ?_ | refine Below.alloc ?_ (by have hq := HB.out.size; first | (simp; done) | (simp at hq ⊢ <;> omega)) _ | refine Below.setCell ?_ (by first | (simp; done) | (simp <;> omega)) _))) (hb.mono (by have hq := HB.out.size; first | (simp; done) | (simp at hq ⊢ <;> omega)))); have hs2 : w.heap.size ≤ w2.heap.size := HB.out.size; have hz2 := hb.size; (try simp at hz2); (first | (with_reducible have hz2 := blk_carry hb (heap_drew_pass z1)) | skip); clear hb; have hix := stx4 a0 a1 a2 a3 am a5 a6; have hcc := km; clear k0 k1 k2 k3 km k5 k6) | (go_at_call 53; refine (HD.out _).mono ?_; rintro e w3 ⟨rfl, hb⟩; have hcc2 : w3.cell? ⟨am, 0, none⟩ = some (.func (.func 97) #[] #[]) := (by with_reducible (first | exact (hb.cell (cell_lt hcc)).trans hcc | exact (hb.cell (cell_lt (cell_alloc_pass hcc))).trans (cell_alloc_pass hcc))); replace HB : Hid (Below w.heap.size w w3) := Lib.hid (Below.trans (by repeat (with_reducible (first | exact HB.out | refine Below.drew ?_ | refine Below.alloc ?_ (by have hq := HB.out.size; first | (simp; done) | (simp at hq ⊢ <;> omega)) _ | refine Below.setCell ?_ (by first | (simp; done) | (simp <;> omega)) _))) (hb.mono (by have hq := HB.out.size; first | (simp; done) | (simp at hq ⊢ <;> omega)))); have hs3 : w.heap.size ≤ w3.heap.size := HB.out.size; have hz3 := hb.size; (try simp at hz3); (first | (with_reducible have hz3 := blk_carry hb hz2) | (with_reducible have hz3 := blk_carry hb (heap_alloc_new w2 (.cells #[.int .i64 0, .int .i64 0, .int .i64 0, .int .i64 0, .int .i64 0, .int .i64 0] 30))) | skip); clear hb) | (go_at_call 99; refine (HCL.out _ _ ?_).mono ?_; (with_reducible (first | exact hcc2 | exact cell_alloc_pass hcc2)); rintro e w4 ⟨rfl, hb⟩; replace HB : Hid (Below w.heap.size w w4) := Lib.hid (Below.trans (by repeat (with_reducible (first | exact HB.out | refine Below.drew ?_ | refine Below.alloc ?_ (by have hq := HB.out.size; first | (simp; done) | (simp at hq ⊢ <;> omega)) _ | refine Below.setCell ?_ (by first | (simp; done) | (simp <;> omega)) _))) (hb.mono (by have hq := HB.out.size; first | (simp; done) | (simp at hq ⊢ <;> omega)))); have hs4 : w.heap.size ≤ w4.heap.size := HB.out.size; have hz4 := hb.size; (try simp at hz4); (first | (with_reducible have hz4 := blk_carry hb hz3) | (with_reducible have hz4 := blk_carry hb (heap_alloc_new w3 (.cells #[.int .i64 0, .int .i64 0, .int .i64 0, .int .i64 0, .int .i64 0, .int .i64 0] 30))) | skip); clear hb; (first | (obtain ⟨d0, d1, d2, d3, d4, d5⟩ := cell6 hz4; have e0 := frozen6 hz4 0; have e1 := frozen6 hz4 1; have e2 := frozen6 hz4 2; have e3 := frozen6 hz4 3; have e4 := frozen6 hz4 4; have e5 := frozen6 hz4 5) | skip); obtain ⟨q0, q1, q2, q3, q4, q5⟩ := cells6_new w4 (.int .i64 y') (.int .i64 m') (.int .i64 d') (.int .i64 h') (.int .i64 mi') (.int .i64 s') 30))
    all_goals go_wp2_with fail
    all_goals go_region_with (go_at_call 53; refine (HD.out _).mono ?_; rintro e w5 ⟨rfl, hb⟩; replace HB : Hid (Below w.heap.size w w5) := Lib.hid (Below.trans (by repeat (with_reducible (first | exact HB.out | refine Below.drew ?_ | refine Below.alloc ?_ (by have hq := HB.out.size; first | (simp; done) | (simp at hq ⊢ <;> omega)) _ | refine Below.setCell ?_ (by first | (simp; done) | (simp <;> omega)) _))) (hb.mono (by have hq := HB.out.size; first | (simp; done) | (simp at hq ⊢ <;> omega)))); have hs5 : w.heap.size ≤ w5.heap.size := HB.out.size; have hz5 := hb.size; (try simp at hz5); (first | (with_reducible have hz5 := blk_carry hb (heap_drew_pass (cells6_set _ _ _ _ _ _ _ _ _ _ (.int .i64 y') (.int .i64 m') (.int .i64 d') (.int .i64 h') (.int .i64 mi') (.int .i64 s') hz4))) | (with_reducible have hz5 := blk_carry hb (heap_drew_pass (heap_alloc_new w4 (.cells #[.int .i64 y', .int .i64 m', .int .i64 d', .int .i64 h', .int .i64 mi', .int .i64 s'] 30)))) | (have hz5 := blk_carry hb (heap_drew_pass (cells6_set _ _ _ _ _ _ _ _ _ _ (.int .i64 y') (.int .i64 m') (.int .i64 d') (.int .i64 h') (.int .i64 mi') (.int .i64 s') hz4)))); clear hb; obtain ⟨g0, g1, g2, g3, g4, g5⟩ := cell6 hz5)
    all_goals go_wp2_with (go_at_call 55; refine (HTM.out _).mono ?_; rintro e w6 ⟨rfl, hb⟩; replace HB : Hid (Below w.heap.size w w6) := Lib.hid (Below.trans (by repeat (with_reducible (first | exact HB.out | refine Below.drew ?_ | refine Below.alloc ?_ (by have hq := HB.out.size; first | (simp; done) | (simp at hq ⊢ <;> omega)) _ | refine Below.setCell ?_ (by first | (simp; done) | (simp <;> omega)) _))) (hb.mono (by have hq := HB.out.size; first | (simp; done) | (simp at hq ⊢ <;> omega)))); have hs6 : w.heap.size ≤ w6.heap.size := HB.out.size; have hz6 := hb.size; (try simp at hz6); clear hb)
    all_goals go_ret2
    all_goals exact ⟨by first | done | rfl, (by repeat (with_reducible (first | exact HB.out | refine Below.drew ?_ | refine Below.alloc ?_ (by have hq := HB.out.size; first | (simp; done) | (simp at hq ⊢ <;> omega)) _ | refine Below.setCell ?_ (by first | (simp; done) | (simp <;> omega)) _)))⟩
end Go.Proofs.YtmidphmniikdpaaDoor
