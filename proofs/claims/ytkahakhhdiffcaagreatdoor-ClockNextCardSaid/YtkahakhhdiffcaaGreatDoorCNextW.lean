/- The walk of ClockNext. -/
import Derived.Test.YtkahakhhdiffcaaGreatDoorCNxD
namespace Go.Proofs.YtkahakhhdiffcaaGreatDoor
set_option linter.unusedVariables false
set_option linter.unusedSimpArgs false
open Go.RowKit Go.Shelf
theorem rNext_any (t : Int) (rule : Bs) (hs : rule.length ≤ 100000) (w : World) (hM : MaxIs w) (hE : ErrIs w) (hP : PowIs w) :
    Calls Tryz.prog 8 #[.int .i64 t, .string ⟨rule.toArray⟩] w fun e w' => e = .returned (.tuple #[.int .i64 (nextC t rule).1, .int .i64 (nextC t rule).2]) ∧ Below w.heap.size w w' := by
  unfold nextC
  cases hv : validI t with
  | false => rw [if_pos rfl]; exact rNext_bad t rule hv w
  | true =>
    rw [if_neg (by simp)]
    by_cases hn : (Lib.split rule [32]).length = 5
    · rw [if_neg (by simpa using hn)]
      exact rNext_main t rule hs hv hn w hM hE hP
    · rw [if_pos hn]
      exact rNext_words t rule hs hv hn w hM
theorem dayS_in (hit : Int → Option Int) : ∀ (k : Nat) (n : Int) {a : Int}, dayS hit k n = some a → ∃ q, q < n + k ∧ hit q = some a
  | 0, _, _, h => by cases h
  | k + 1, n, a, h => by
    unfold dayS at h
    split at h
    · rename_i b hb; injection h with h; subst h; exact ⟨n, by omega, hb⟩
    · obtain ⟨q, h1, h2⟩ := dayS_in hit k (n + 1) h; exact ⟨q, by omega, h2⟩
/-- What is told where there is no error. -/
theorem nextC_ok (t : Int) (rule : Bs) : (nextC t rule).2 = 0 → t < (nextC t rule).1 ∧ ((nextC t rule).1 + 62135596800) % 60 = 0 ∧ -62135596800 ≤ t ∧ (nextC t rule).1 ≤ 300000000000 := by
  unfold nextC
  cases hv : validI t with
  | false => rw [if_pos rfl]; intro h; cases h
  | true =>
    rw [if_neg (by simp)]
    have hti := validI_in hv
    by_cases hn : (Lib.split rule [32]).length = 5
    · rw [if_neg (by simpa using hn)]
      unfold nextF
      split
      · rename_i a b c d e _
        cases hx : nextT ⟨a, b, c, d, e⟩ t with
        | none => intro h; cases h
        | some x =>
          intro _
          obtain ⟨h1, h2⟩ := next_law hx
          refine ⟨h1, h2, hti.1, ?_⟩
          obtain ⟨q, hq1, hq2⟩ := dayS_in _ _ _ hx
          unfold Fits.hit at hq2
          split at hq2
          · cases hm : minS (Fits.at ⟨a, b, c, d, e⟩ t q) 1440 0 with
            | none => rw [hm] at hq2; cases hq2
            | some m =>
              rw [hm] at hq2
              simp only [Option.map_some, Option.some.injEq] at hq2
              have h3 := (minS_some _ _ _ hm).2.2
              unfold dayK at hq1
              show x ≤ 300000000000
              omega
          · cases hq2
      · intro h; cases h
    · rw [if_pos hn]; intro h; cases h
set_option maxRecDepth 100000 in
set_option maxHeartbeats 1600000 in
theorem clockNext_any (t : Int) (rule : Bs) (w : World) (hT : SpaceIs w) (hP : PowIs w) (hM : MaxIs w) (hE : ErrIs w) :
    Calls Tryz.prog 3 #[.int .i64 t, .string ⟨rule.toArray⟩] w fun e w' => e = .returned (.bool true) ∧ Below w.heap.size w w' := by
  have AW := Lib.hid (fun W (hB : Below w.heap.size w W) => awake_any W (hT.below hB) (hP.low hB))
  by_cases hl : 120 < rule.length
  · have t1 : decide (120 < (rule.length : Int)) = true := by rw [decide_eq_true_eq]; omega
    go_enter Tryz.func3, Tryz.ntmps3
    go_wp2_with (go_at_call 6; refine (AW.out _ (Below.refl _ _)).mono ?_; rintro e w1 ⟨rfl, hB⟩; have H1 := Lib.hid hB; clear hB)
    go_ret
    exact ⟨rfl, H1.out⟩
  · have t1 : decide (120 < (rule.length : Int)) = false := by rw [decide_eq_false_iff_not]; omega
    have NX := Lib.hid (Next_any t rule (by omega) w hM)
    have RN := Lib.hid (fun W (hB : Below w.heap.size w W) => rNext_any t rule (by omega) W (hM.low hB) (hE.below hB) (hP.low hB))
    have hok := nextC_ok t rule
    obtain ⟨a, ha⟩ : ∃ a, (nextC t rule).1 = a := ⟨_, rfl⟩
    obtain ⟨e0, he⟩ : ∃ e0, (nextC t rule).2 = e0 := ⟨_, rfl⟩
    rw [ha, he] at NX hok
    simp only [ha, he] at RN
    clear ha he hT hP hM hE hl
    have arms : True := trivial
    by_cases h0 : e0 = 0
    · subst h0
      obtain ⟨k1, k2, k3, k4⟩ := hok rfl
      have t2 : decide (t < a) = true := by rw [decide_eq_true_eq]; exact k1
      have t3 : IntKind.i64.wrap (a + 62135596800) = a + 62135596800 := IntWalk.i64_in _ (by omega)
      have t4 : (a + 62135596800).tmod 60 = 0 := by rw [Int.tmod_eq_emod_of_nonneg (by omega)]; exact k2
      clear hok k3 k4 arms
      go_enter Tryz.func3, Tryz.ntmps3
      go_wp2_with (first
        | (go_at_call 7; refine NX.out.mono ?_; rintro e w1 ⟨rfl, hB⟩; have H1 := Lib.hid hB; clear hB)
        | (go_at_call 8; refine (RN.out _ H1.out).mono ?_; rintro e w2 ⟨rfl, hB⟩; have H2 := Lib.hid (H1.out.trans (hB.mono H1.out.size)); clear hB)
        | (go_at_call 6; refine (AW.out _ H2.out).mono ?_; rintro e w3 ⟨rfl, hB⟩; have H3 := Lib.hid (H2.out.trans (hB.mono H2.out.size)); clear hB))
      go_ret
      exact ⟨rfl, H3.out⟩
    · have t2 : (e0 == 0) = false := by rw [beq_eq_false_iff_ne]; exact h0
      clear hok arms
      go_enter Tryz.func3, Tryz.ntmps3
      go_wp2_with (first
        | (go_at_call 7; refine NX.out.mono ?_; rintro e w1 ⟨rfl, hB⟩; have H1 := Lib.hid hB; clear hB)
        | (go_at_call 8; refine (RN.out _ H1.out).mono ?_; rintro e w2 ⟨rfl, hB⟩; have H2 := Lib.hid (H1.out.trans (hB.mono H1.out.size)); clear hB)
        | (go_at_call 6; refine (AW.out _ H2.out).mono ?_; rintro e w3 ⟨rfl, hB⟩; have H3 := Lib.hid (H2.out.trans (hB.mono H2.out.size)); clear hB))
      go_ret
      exact ⟨rfl, H3.out⟩
end Go.Proofs.YtkahakhhdiffcaaGreatDoor
