/- The contract of the reference's date of a time. -/
import Derived.Test.YtkahakhhdiffcaaGreatDoorCDate
namespace Go.Proofs.YtkahakhhdiffcaaGreatDoor
set_option linter.unusedVariables false
set_option linter.unusedSimpArgs false
open Go.RowKit
set_option maxRecDepth 100000 in
set_option maxHeartbeats 3200000 in
theorem rdate_any (t : Int) (ht : -62135596800 ≤ t) (ht2 : t ≤ 300000000000) (w : World) :
    Calls Tryz.prog 25 #[.int .i64 t] w fun e w' => e = .returned (dateC t).v ∧ Below w.heap.size w w' := by
  obtain ⟨n, hn⟩ : ∃ n, n = t + 62135596800 := ⟨_, rfl⟩
  obtain ⟨q, hq⟩ : ∃ q, n / 86400 = q := ⟨_, rfl⟩
  obtain ⟨s, hs⟩ : ∃ s, n % 86400 = s := ⟨_, rfl⟩
  have hn0 : 0 ≤ n := by omega
  have hn2 : n ≤ 400000000000 := by omega
  have hqs : 0 ≤ q ∧ q ≤ 4500000 := by omega
  have hs1 : 0 ≤ s ∧ s < 86400 := by omega
  have a1 : n.tdiv 86400 = q := by rw [Int.tdiv_eq_ediv_of_nonneg hn0]; exact hq
  have a2 : n.tmod 86400 = s := by rw [Int.tmod_eq_emod_of_nonneg hn0]; exact hs
  have a0 : t - -62135596800 = n := by omega
  have HT : Hid (t = q * 86400 + s - 62135596800) := by show _ = _; omega
  have HW := Lib.hid (fun k (hk : 1 ≤ k) W => rwhole_any k (by omega) W)
  have HD := Lib.hid (fun y k (hk : 1 ≤ y) W => rlength_any y k (by omega) W)
  have HB : Hid (∀ k : Int, 1 ≤ k → bef (k + 1) = bef k + (365 + leap1 k) ∧ 365 * (k - 1) ≤ bef k ∧ 0 ≤ leap1 k ∧ leap1 k ≤ 1) := by
    intro k a
    have q1 := bef_next k
    have q2 := bef_far a
    have q3 : bef 1 = 0 := by decide
    have q4 := leap1_le k
    omega
  have HB1 : Hid (bef 1 = 0) := by show _ = _; decide
  have HZ := Lib.hid (below_alloc1 w (.cells #[.int .i64 0, .int .i64 0, .int .i64 0, .int .i64 0, .int .i64 0, .int .i64 0] 39))
  clear hn ht ht2 hq hs
  go_enter Tryz.func25, Tryz.ntmps25
  go_wp2_with fail
  go_loopw [4] (fun v4 wr => ∃ y b x3 x4 x5 : Int, v4 = .int .i64 (q - b) ∧ wr = (w.alloc (.cells #[.int .i64 0, .int .i64 0, .int .i64 0, .int .i64 0, .int .i64 0, .int .i64 0] 39)).alloc (.cells #[.int .i64 y, .int .i64 1, .int .i64 0, .int .i64 x3, .int .i64 x4, .int .i64 x5] 39) ∧ Hid (x3 = s / 3600 ∧ x4 = s / 60 % 60 ∧ x5 = s % 60) ∧ 1 ≤ y ∧ y ≤ 100000 ∧ Hid (b = bef y) ∧ b ≤ q ∧ 0 ≤ b ∧ 365 * (y - 1) ≤ b) (fun v4 _ => (intOf v4).toNat)
  case atStart => exact ⟨1, 0, _, _, _, by go_num, by first | trivial | rfl, Lib.hid (by omega), by omega, by omega, HB1.out.symm, by omega, by omega, by omega⟩
  case round =>
    obtain ⟨y, b, x3, x4, x5, rfl, rfl, HX, hy1, hy2, HBB, hbq, hb0, hby⟩ := hrel
    have hw := Lib.hid (fun W => HW.out y hy1 W)
    have hbn := HB.out y hy1
    have hbn1 := HB.out (y + 1) (by omega)
    rw [← HBB.out] at hbn
    obtain ⟨L, hL⟩ : ∃ L, 365 + leap1 y = L := ⟨_, rfl⟩
    rw [hL] at hw hbn
    have hL1 : 365 ≤ L ∧ L ≤ 366 := by omega
    have HN := Lib.hid hbn.1
    have hfar : 365 * y ≤ b + L := by have := hbn1.2.1; omega
    have HL := Lib.hid hL
    clear hbn hbn1 hL
    by_cases hlt : L ≤ q - b
    · go_wp2_with (go_at_call 54; refine (hw.out _).mono ?_; rintro e w2 ⟨rfl, rfl⟩)
      go_roundw
      case rel => exact ⟨y + 1, b + L, x3, x4, x5, by go_num, by first | trivial | rfl, HX, by omega, by omega, by show _ = _; rw [HN.out], by omega, by omega, by omega⟩
      case measure => simp [intOf]; omega
    · have HG : Hid (∀ k : Int, 1 ≤ k → k ≤ 12 → cum y (k + 1) = cum y k + dim y k) := fun k a b => cum_next y a b
      have H13 : Hid (cum y 13 = L) := by have := cum_13 y; have h2 := HL.out; show _ = _; omega
      have H11 : Hid (cum y 1 = 0) := cum_one y
      go_wp2_with (go_at_call 54; refine (hw.out _).mono ?_; rintro e w2 ⟨rfl, rfl⟩)
      go_loopw [4] (fun v4 wr => ∃ m c : Int, v4 = .int .i64 (q - b - c) ∧ wr = (w.alloc (.cells #[.int .i64 0, .int .i64 0, .int .i64 0, .int .i64 0, .int .i64 0, .int .i64 0] 39)).alloc (.cells #[.int .i64 y, .int .i64 m, .int .i64 0, .int .i64 x3, .int .i64 x4, .int .i64 x5] 39) ∧ 1 ≤ m ∧ m ≤ 12 ∧ Hid (c = cum y m) ∧ 0 ≤ c ∧ c ≤ q - b) (fun v4 _ => (intOf v4).toNat)
      case atStart => exact ⟨1, 0, by go_num, by first | trivial | rfl, by omega, by omega, H11.out.symm, by omega, by omega⟩
      case round =>
        obtain ⟨m, c, rfl, rfl, hm1, hm2, HC, hc0, hc1⟩ := hrel
        have hD := Lib.hid (fun W => HD.out y m hy1 W)
        have hg := dim_ge y m
        have hcn := HG.out m hm1 hm2
        rw [← HC.out] at hcn
        obtain ⟨K, hK⟩ : ∃ K, dim y m = K := ⟨_, rfl⟩
        rw [hK] at hD hg hcn
        have HCN := Lib.hid hcn
        have HKK := Lib.hid hK
        clear hcn hK
        by_cases hlt2 : K ≤ q - b - c
        · have hm12 : m + 1 ≤ 12 := by
            rcases (show m + 1 ≤ 12 ∨ m = 12 by omega) with h | h
            · exact h
            · subst h
              have a1 := HCN.out
              have a2 := H13.out
              rw [show (12 : Int) + 1 = 13 from rfl] at a1
              omega
          go_wp2_with (go_at_call 27; refine (hD.out _).mono ?_; rintro e w2 ⟨rfl, rfl⟩)
          go_roundw
          case rel => exact ⟨m + 1, c + K, by go_num, by first | trivial | rfl, by omega, by omega, by show _ = _; rw [HCN.out], by omega, by omega⟩
          case measure => simp [intOf]; omega
        · have HDC : Hid (dateC t = ⟨y, m, q - b - c + 1, x3, x4, x5⟩) := by
            have hx := HX.out
            have hok : DT.Ok ⟨y, m, q - b - c + 1, x3, x4, x5⟩ := ⟨⟨hy1, hm1, hm2, by simp only; omega, by simp only; rw [HKK.out]; omega⟩, by simp only; omega, by simp only; omega, by simp only; omega, by simp only; omega, by simp only; omega, by simp only; omega⟩
            have ht := dateC_of hok
            have e : DT.time ⟨y, m, q - b - c + 1, x3, x4, x5⟩ = t := by
              have a1 := HT.out
              have a2 := HBB.out
              have a3 := HC.out
              simp only [DT.time, dayNo]
              rw [← a2, ← a3]
              omega
            rw [e] at ht
            exact ht
          go_wp2_with (go_at_call 27; refine (hD.out _).mono ?_; rintro e w2 ⟨rfl, rfl⟩)
          have hg6 : ((w.alloc (.cells #[.int .i64 y, .int .i64 m, .int .i64 (q - b - c + 1), .int .i64 x3, .int .i64 x4, .int .i64 x5] 39)).alloc (.cells #[.int .i64 y, .int .i64 m, .int .i64 (q - b - c + 1), .int .i64 x3, .int .i64 x4, .int .i64 x5] 39)).heap[w.heap.size]? = some (.cells #[.int .i64 y, .int .i64 m, .int .i64 (q - b - c + 1), .int .i64 x3, .int .i64 x4, .int .i64 x5] 39 (0, 0)) := by
            rw [heap_alloc_old _ _ (by simp)]
            exact heap_alloc_new _ _
          refine bodyPost_ret (date_result rfl _ _ _ _ _ _ rfl hg6 rfl) rfl ⟨by rw [HDC.out]; rfl, ?_⟩
          exact Below.alloc (below_alloc1 w _) (by simp) _
end Go.Proofs.YtkahakhhdiffcaaGreatDoor
