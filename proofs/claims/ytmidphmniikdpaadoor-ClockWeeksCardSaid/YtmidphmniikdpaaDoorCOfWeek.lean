/- Contracts of the day that a week's number and a weekday tell, both ones. -/
import Derived.Test.YtmidphmniikdpaaDoorCWeek2
namespace Go.Proofs.YtmidphmniikdpaaDoor
set_option linter.unusedVariables false
set_option linter.unusedSimpArgs false
open Go.RowKit
theorem winI_iff (n lo hi : Int) : winI n lo hi = true ↔ lo ≤ n ∧ n ≤ hi := by simp [winI]
theorem ofWeek_out {y n wd : Int} (h : ¬ (winI y 1 9999 = true ∧ winI n 1 53 = true ∧ winI wd 1 7 = true)) : ofWeekC y n wd = (0, 7) := by
  unfold ofWeekC
  rw [if_neg]
  intro hc
  exact h ⟨(winI_iff _ _ _).2 ⟨hc.1, hc.2.1⟩, (winI_iff _ _ _).2 ⟨hc.2.2.1, hc.2.2.2.1⟩, (winI_iff _ _ _).2 ⟨hc.2.2.2.2.1, hc.2.2.2.2.2.1⟩⟩
theorem day_th {q : Int} (h : 0 ≤ q) (h3 : q % 7 = 3) : thC (q * 86400 - 62135596800) = q := by unfold thC wdC; rw [day_mul]; omega

set_option maxRecDepth 100000 in
set_option maxHeartbeats 3200000 in
theorem OfWeek_any (y n wd : Int) (w : World) :
    Calls Tryd.prog 30 #[.int .i64 y, .int .i64 n, .int .i64 wd] w fun e w' => e = .returned (.tuple #[.int .i64 (ofWeekC y n wd).1, .int .i64 (ofWeekC y n wd).2]) ∧ Below w.heap.size w w' := by
  have HY := Lib.hid (fun W => within_any y 1 9999 W)
  have HN := Lib.hid (fun W => within_any n 1 53 W)
  have HD := Lib.hid (fun W => within_any wd 1 7 W)
  by_cases hall : winI y 1 9999 = true ∧ winI n 1 53 = true ∧ winI wd 1 7 = true
  · obtain ⟨hy, hn, hd⟩ := hall
    rw [hy] at HY
    rw [hn] at HN
    rw [hd] at HD
    have hy2 := (winI_iff _ _ _).1 hy
    have hn2 := (winI_iff _ _ _).1 hn
    have hd2 := (winI_iff _ _ _).1 hd
    clear hy hn hd
    have ht1 := t1_in y
    have hbf := bef_far hy2.1
    rw [bef_one] at hbf
    have hb9 := bef_far (show y + 1 ≤ 10000 by omega)
    rw [bef_10000] at hb9
    have hbn := bef_next y
    have hle := leap1_le y
    have hmon : 3 ≤ t1 y := by unfold t1; omega
    have hofw : ofWeekC y n wd = if t1 y + 7 * (n - 1) < bef (y + 1) ∧ (t1 y - 3 + 7 * (n - 1) + wd - 1) < 3652059 then ((t1 y - 3 + 7 * (n - 1) + wd - 1) * 86400 - 62135596800, 0) else (0, 7) := by
      unfold ofWeekC
      by_cases hc : t1 y + 7 * (n - 1) < bef (y + 1) ∧ (t1 y - 3 + 7 * (n - 1) + wd - 1) < 3652059
      · rw [if_pos hc, if_pos ⟨hy2.1, hy2.2, hn2.1, hn2.2, hd2.1, hd2.2, hc.1, hc.2⟩]
      · rw [if_neg hc, if_neg (fun h => hc ⟨h.2.2.2.2.2.2.1, h.2.2.2.2.2.2.2⟩)]
    have e14 : dayNo y 1 4 = bef y + 3 := by simp [dayNo, cum_one]
    have H4 := Lib.hid (fun W => number_any y 1 4 hy2.1 (by omega) (by omega) (by omega) (by omega) (by omega) W)
    rw [e14] at H4
    obtain ⟨f, hf⟩ : ∃ f, bef y + 3 - 719162 = f := ⟨_, rfl⟩
    rw [hf] at H4
    obtain ⟨F, hF⟩ : ∃ F, f * 86400 = F := ⟨_, rfl⟩
    have HW := Lib.hid (fun W => weekday_any F (by omega) (by omega) W)
    have hwv : wdC F = (bef y + 3) % 7 + 1 := by unfold wdC dayOf; omega
    obtain ⟨wv, hwve⟩ : ∃ wv, wdC F = wv := ⟨_, rfl⟩
    rw [hwve] at HW hwv
    obtain ⟨M, hM⟩ : ∃ M, f - wv + 1 = M := ⟨_, rfl⟩
    have hMt : t1 y = M + 3 + 719162 := by unfold t1; omega
    obtain ⟨TT, hTT⟩ : ∃ TT, (M + 7 * (n - 1) + 3) * 86400 = TT := ⟨_, rfl⟩
    have hQ : TT = (t1 y + 7 * (n - 1)) * 86400 - 62135596800 := by omega
    have hth : thC TT = t1 y + 7 * (n - 1) := by rw [hQ]; exact day_th (by omega) (by omega)
    have HK := Lib.hid (fun W => week_any TT (by omega) (by omega) W)
    have hthere := week_there (y := y) (n := n) hy2.1 hn2.1
    have hwn : weekN TT = (t1 y + 7 * (n - 1) - bef (yearOf (t1 y + 7 * (n - 1)))) / 7 + 1 := by unfold weekN; rw [hth]
    rw [hth] at HK
    rw [← hwn] at hthere
    obtain ⟨R, hR⟩ : ∃ R, (M + 7 * (n - 1) + wd - 1) * 86400 = R := ⟨_, rfl⟩
    have hRv : (t1 y - 3 + 7 * (n - 1) + wd - 1) * 86400 - 62135596800 = R := by omega
    have hval : validI R = decide ((t1 y - 3 + 7 * (n - 1) + wd - 1) < 3652059) := by
      rw [Bool.eq_iff_iff, validI_iff, decide_eq_true_eq]; omega
    have HV := Lib.hid (fun W => valid_any R W)
    rw [hofw, hRv]
    generalize yearOf (t1 y + 7 * (n - 1)) = Y2 at *
    generalize weekN TT = K2 at *
    have hfb : -1000000 ≤ f ∧ f ≤ 10000000 ∧ -1000000 ≤ M ∧ M ≤ 10000000 ∧ 1 ≤ wv ∧ wv ≤ 7 := by omega
    have hTb : -90000000000 ≤ TT ∧ TT ≤ 290000000000 ∧ -90000000000 ≤ R ∧ R ≤ 290000000000 := by omega
    by_cases hlt : t1 y + 7 * (n - 1) < bef (y + 1)
    · obtain ⟨hYe, hKe⟩ := hthere.2 hlt
      rw [hYe, hKe] at HK
      clear hYe hKe
      by_cases hv : (t1 y - 3 + 7 * (n - 1) + wd - 1) < 3652059
      · rw [if_pos ⟨hlt, hv⟩]
        rw [hval, decide_eq_true hv] at HV
        clear hthere hofw hRv hval hwn hth hQ hMt hwv hwve ht1 hbf hb9 hbn hle hmon e14 hlt
        go_enter Tryd.func30, Tryd.ntmps30
        go_wp2_with (first | (go_at_call_of 47 y; refine (HY.out _).mono ?_; rintro e w1 ⟨rfl, rfl⟩) | (go_at_call_of 47 n; refine (HN.out _).mono ?_; rintro e w1 ⟨rfl, rfl⟩) | (go_at_call_of 47 wd; refine (HD.out _).mono ?_; rintro e w1 ⟨rfl, rfl⟩) | (go_at_call 48; refine (H4.out _).mono ?_; rintro e w1 ⟨rfl, rfl⟩) | (go_at_call 52; refine (HW.out _).mono ?_; rintro e w1 ⟨rfl, m1, rfl⟩) | (go_at_call 62; refine (HK.out _).mono ?_; rintro e w2 ⟨rfl, hb2⟩) | (go_at_call 38; refine (HV.out _).mono ?_; rintro e w3 ⟨rfl, rfl⟩))
        go_ret2
        exact ⟨rfl, (below_drewN (Below.refl w.heap.size w) m1).trans (hb2.mono (by simp))⟩
      · rw [if_neg (fun h => hv h.2)]
        rw [hval, decide_eq_false hv] at HV
        clear hthere hofw hRv hval hwn hth hQ hMt hwv hwve ht1 hbf hb9 hbn hle hmon e14 hlt
        go_enter Tryd.func30, Tryd.ntmps30
        go_wp2_with (first | (go_at_call_of 47 y; refine (HY.out _).mono ?_; rintro e w1 ⟨rfl, rfl⟩) | (go_at_call_of 47 n; refine (HN.out _).mono ?_; rintro e w1 ⟨rfl, rfl⟩) | (go_at_call_of 47 wd; refine (HD.out _).mono ?_; rintro e w1 ⟨rfl, rfl⟩) | (go_at_call 48; refine (H4.out _).mono ?_; rintro e w1 ⟨rfl, rfl⟩) | (go_at_call 52; refine (HW.out _).mono ?_; rintro e w1 ⟨rfl, m1, rfl⟩) | (go_at_call 62; refine (HK.out _).mono ?_; rintro e w2 ⟨rfl, hb2⟩) | (go_at_call 38; refine (HV.out _).mono ?_; rintro e w3 ⟨rfl, rfl⟩))
        go_ret2
        exact ⟨rfl, (below_drewN (Below.refl w.heap.size w) m1).trans (hb2.mono (by simp))⟩
    · rw [if_neg (fun h => hlt h.1)]
      by_cases hY : Y2 = y
      · have hK : (K2 == n) = false := by rw [beq_eq_false_iff_ne]; exact fun h => hlt (hthere.1 ⟨hY, h⟩)
        rw [hY] at HK
        clear hY
        clear hthere hofw hRv hval hwn hth hQ hMt hwv hwve ht1 hbf hb9 hbn hle hmon e14 hlt
        go_enter Tryd.func30, Tryd.ntmps30
        go_wp2_with (first | (go_at_call_of 47 y; refine (HY.out _).mono ?_; rintro e w1 ⟨rfl, rfl⟩) | (go_at_call_of 47 n; refine (HN.out _).mono ?_; rintro e w1 ⟨rfl, rfl⟩) | (go_at_call_of 47 wd; refine (HD.out _).mono ?_; rintro e w1 ⟨rfl, rfl⟩) | (go_at_call 48; refine (H4.out _).mono ?_; rintro e w1 ⟨rfl, rfl⟩) | (go_at_call 52; refine (HW.out _).mono ?_; rintro e w1 ⟨rfl, m1, rfl⟩) | (go_at_call 62; refine (HK.out _).mono ?_; rintro e w2 ⟨rfl, hb2⟩) | (go_at_call 38; refine (HV.out _).mono ?_; rintro e w3 ⟨rfl, rfl⟩))
        go_ret2
        exact ⟨rfl, (below_drewN (Below.refl w.heap.size w) m1).trans (hb2.mono (by simp))⟩
      · have hYb : (Y2 == y) = false := by rw [beq_eq_false_iff_ne]; exact hY
        clear hthere hofw hRv hval hwn hth hQ hMt hwv hwve ht1 hbf hb9 hbn hle hmon e14 hlt
        go_enter Tryd.func30, Tryd.ntmps30
        go_wp2_with (first | (go_at_call_of 47 y; refine (HY.out _).mono ?_; rintro e w1 ⟨rfl, rfl⟩) | (go_at_call_of 47 n; refine (HN.out _).mono ?_; rintro e w1 ⟨rfl, rfl⟩) | (go_at_call_of 47 wd; refine (HD.out _).mono ?_; rintro e w1 ⟨rfl, rfl⟩) | (go_at_call 48; refine (H4.out _).mono ?_; rintro e w1 ⟨rfl, rfl⟩) | (go_at_call 52; refine (HW.out _).mono ?_; rintro e w1 ⟨rfl, m1, rfl⟩) | (go_at_call 62; refine (HK.out _).mono ?_; rintro e w2 ⟨rfl, hb2⟩) | (go_at_call 38; refine (HV.out _).mono ?_; rintro e w3 ⟨rfl, rfl⟩))
        go_ret2
        exact ⟨rfl, (below_drewN (Below.refl w.heap.size w) m1).trans (hb2.mono (by simp))⟩
  · rw [ofWeek_out hall]
    generalize winI y 1 9999 = b1 at *
    generalize winI n 1 53 = b2 at *
    generalize winI wd 1 7 = b3 at *
    cases b1 <;> cases b2 <;> cases b3 <;> first
      | (exact absurd ⟨rfl, rfl, rfl⟩ hall)
      | (clear hall
         go_enter Tryd.func30, Tryd.ntmps30
         go_wp2_with (first | (go_at_call_of 47 y; refine (HY.out _).mono ?_; rintro e w1 ⟨rfl, rfl⟩) | (go_at_call_of 47 n; refine (HN.out _).mono ?_; rintro e w1 ⟨rfl, rfl⟩) | (go_at_call_of 47 wd; refine (HD.out _).mono ?_; rintro e w1 ⟨rfl, rfl⟩))
         go_ret2
         exact ⟨rfl, Below.refl _ _⟩)

set_option maxRecDepth 100000 in
set_option maxHeartbeats 3200000 in
theorem rOfWeek_any (y n wd : Int) (w : World) :
    Calls Tryd.prog 31 #[.int .i64 y, .int .i64 n, .int .i64 wd] w fun e w' => e = .returned (.tuple #[.int .i64 (ofWeekC y n wd).1, .int .i64 (ofWeekC y n wd).2]) ∧ Below w.heap.size w w' := by
  have HY := Lib.hid (fun W => rin_any y 1 9999 W)
  have HN := Lib.hid (fun W => rin_any n 1 53 W)
  have HD := Lib.hid (fun W => rin_any wd 1 7 W)
  by_cases hall : winI y 1 9999 = true ∧ winI n 1 53 = true ∧ winI wd 1 7 = true
  · obtain ⟨hy, hn, hd⟩ := hall
    rw [hy] at HY
    rw [hn] at HN
    rw [hd] at HD
    have hy2 := (winI_iff _ _ _).1 hy
    have hn2 := (winI_iff _ _ _).1 hn
    have hd2 := (winI_iff _ _ _).1 hd
    clear hy hn hd
    have ht1 := t1_in y
    have hbf := bef_far hy2.1
    rw [bef_one] at hbf
    have hb9 := bef_far (show y + 1 ≤ 10000 by omega)
    rw [bef_10000] at hb9
    have hbn := bef_next y
    have hle := leap1_le y
    have hmon : 3 ≤ t1 y := by unfold t1; omega
    have hofw : ofWeekC y n wd = if t1 y + 7 * (n - 1) < bef (y + 1) ∧ (t1 y - 3 + 7 * (n - 1) + wd - 1) < 3652059 then ((t1 y - 3 + 7 * (n - 1) + wd - 1) * 86400 - 62135596800, 0) else (0, 7) := by
      unfold ofWeekC
      by_cases hc : t1 y + 7 * (n - 1) < bef (y + 1) ∧ (t1 y - 3 + 7 * (n - 1) + wd - 1) < 3652059
      · rw [if_pos hc, if_pos ⟨hy2.1, hy2.2, hn2.1, hn2.2, hd2.1, hd2.2, hc.1, hc.2⟩]
      · rw [if_neg hc, if_neg (fun h => hc ⟨h.2.2.2.2.2.2.1, h.2.2.2.2.2.2.2⟩)]
    have e14 : dayNo y 1 4 = bef y + 3 := by simp [dayNo, cum_one]
    have H4 := Lib.hid (fun W => rnumber_any y 1 4 hy2.1 (by omega) (by omega) (by omega) (by omega) (by omega) W)
    rw [e14] at H4
    have e28 : dayNo y 12 28 = bef (y + 1) - 4 := by have : cum y 12 = leap1 y + 334 := by simp [cum]
                                                     unfold dayNo; omega
    have H28 := Lib.hid (fun W => rnumber_any y 12 28 hy2.1 (by omega) (by omega) (by omega) (by omega) (by omega) W)
    rw [e28] at H28
    obtain ⟨D8, hD8⟩ : ∃ D, bef (y + 1) - 4 = D := ⟨_, rfl⟩
    rw [hD8] at H28
    obtain ⟨f, hf⟩ : ∃ f, bef y + 3 = f := ⟨_, rfl⟩
    rw [hf] at H4
    obtain ⟨F, hF⟩ : ∃ F, -62135596800 + f * 86400 = F := ⟨_, rfl⟩
    obtain ⟨G, hG⟩ : ∃ G, -62135596800 + D8 * 86400 = G := ⟨_, rfl⟩
    have HW := Lib.hid (fun W => rweekday_any F (by omega) (by omega) W)
    have hwv : wdC F = (bef y + 3) % 7 + 1 := by unfold wdC dayOf; omega
    obtain ⟨wv, hwve⟩ : ∃ wv, wdC F = wv := ⟨_, rfl⟩
    rw [hwve] at HW hwv
    have HK := Lib.hid (fun W => rweek_any G (by omega) (by omega) W)
    have hmost := week_most (y := y) (n := n) (t := G) hy2.1 (by unfold dayOf; omega)
    obtain ⟨R, hR⟩ : ∃ R, F + (1 - wv + 7 * (n - 1) + wd - 1) * 86400 = R := ⟨_, rfl⟩
    have hMt : t1 y - 3 = f - wv + 1 := by unfold t1; omega
    have hRv : (t1 y - 3 + 7 * (n - 1) + wd - 1) * 86400 - 62135596800 = R := by omega
    have hval : validI R = decide ((t1 y - 3 + 7 * (n - 1) + wd - 1) < 3652059) := by
      rw [Bool.eq_iff_iff, validI_iff, decide_eq_true_eq]; omega
    have HV := Lib.hid (fun W => rright_any R W)
    rw [hofw, hRv]
    generalize yearOf (thC G) = Y2 at *
    generalize weekN G = K2 at *
    have hfb : 0 ≤ f ∧ f ≤ 10000000 ∧ 0 ≤ D8 ∧ D8 ≤ 10000000 ∧ 1 ≤ wv ∧ wv ≤ 7 := by omega
    have hTb : -90000000000 ≤ F ∧ F ≤ 290000000000 ∧ -90000000000 ≤ G ∧ G ≤ 290000000000 ∧ -90000000000 ≤ R ∧ R ≤ 290000000000 := by omega
    by_cases hlt : t1 y + 7 * (n - 1) < bef (y + 1)
    · have hnk := hmost.2 hlt
      have hnk2 : ¬ K2 < n := by omega
      by_cases hv : (t1 y - 3 + 7 * (n - 1) + wd - 1) < 3652059
      · rw [if_pos ⟨hlt, hv⟩]
        rw [hval, decide_eq_true hv] at HV
        clear hmost hofw hRv hval hMt hwv hwve ht1 hbf hb9 hbn hle hmon e14 e28 hlt
        go_enter Tryd.func31, Tryd.ntmps31
        go_wp2_with (first | (go_at_call_of 49 y; refine (HY.out _).mono ?_; rintro e w1 ⟨rfl, rfl⟩) | (go_at_call_of 49 n; refine (HN.out _).mono ?_; rintro e w1 ⟨rfl, rfl⟩) | (go_at_call_of 49 wd; refine (HD.out _).mono ?_; rintro e w1 ⟨rfl, rfl⟩) | (go_at_call_of 50 (28 : Int); refine (H28.out _).mono ?_; rintro e w1 ⟨rfl, rfl⟩) | (go_at_call 50; refine (H4.out _).mono ?_; rintro e w1 ⟨rfl, rfl⟩) | (go_at_call 51; refine (HW.out _).mono ?_; rintro e w1 ⟨rfl, rfl⟩) | (go_at_call 63; refine (HK.out _).mono ?_; rintro e w2 ⟨rfl, hb2⟩) | (go_at_call 44; refine (HV.out _).mono ?_; rintro e w3 ⟨rfl, rfl⟩))
        go_ret2
        exact ⟨rfl, hb2⟩
      · rw [if_neg (fun h => hv h.2)]
        rw [hval, decide_eq_false hv] at HV
        clear hmost hofw hRv hval hMt hwv hwve ht1 hbf hb9 hbn hle hmon e14 e28 hlt
        go_enter Tryd.func31, Tryd.ntmps31
        go_wp2_with (first | (go_at_call_of 49 y; refine (HY.out _).mono ?_; rintro e w1 ⟨rfl, rfl⟩) | (go_at_call_of 49 n; refine (HN.out _).mono ?_; rintro e w1 ⟨rfl, rfl⟩) | (go_at_call_of 49 wd; refine (HD.out _).mono ?_; rintro e w1 ⟨rfl, rfl⟩) | (go_at_call_of 50 (28 : Int); refine (H28.out _).mono ?_; rintro e w1 ⟨rfl, rfl⟩) | (go_at_call 50; refine (H4.out _).mono ?_; rintro e w1 ⟨rfl, rfl⟩) | (go_at_call 51; refine (HW.out _).mono ?_; rintro e w1 ⟨rfl, rfl⟩) | (go_at_call 63; refine (HK.out _).mono ?_; rintro e w2 ⟨rfl, hb2⟩) | (go_at_call 44; refine (HV.out _).mono ?_; rintro e w3 ⟨rfl, rfl⟩))
        go_ret2
        exact ⟨rfl, hb2⟩
    · rw [if_neg (fun h => hlt h.1)]
      have hnk : K2 < n := by
        rcases Int.lt_trichotomy K2 n with h | h | h
        · exact h
        · exact absurd (hmost.1 (by omega)) hlt
        · exact absurd (hmost.1 (by omega)) hlt
      clear hmost hofw hRv hval hMt hwv hwve ht1 hbf hb9 hbn hle hmon e14 e28 hlt
      go_enter Tryd.func31, Tryd.ntmps31
      go_wp2_with (first | (go_at_call_of 49 y; refine (HY.out _).mono ?_; rintro e w1 ⟨rfl, rfl⟩) | (go_at_call_of 49 n; refine (HN.out _).mono ?_; rintro e w1 ⟨rfl, rfl⟩) | (go_at_call_of 49 wd; refine (HD.out _).mono ?_; rintro e w1 ⟨rfl, rfl⟩) | (go_at_call_of 50 (28 : Int); refine (H28.out _).mono ?_; rintro e w1 ⟨rfl, rfl⟩) | (go_at_call 50; refine (H4.out _).mono ?_; rintro e w1 ⟨rfl, rfl⟩) | (go_at_call 51; refine (HW.out _).mono ?_; rintro e w1 ⟨rfl, rfl⟩) | (go_at_call 63; refine (HK.out _).mono ?_; rintro e w2 ⟨rfl, hb2⟩) | (go_at_call 44; refine (HV.out _).mono ?_; rintro e w3 ⟨rfl, rfl⟩))
      go_ret2
      exact ⟨rfl, hb2⟩
  · rw [ofWeek_out hall]
    generalize winI y 1 9999 = b1 at *
    generalize winI n 1 53 = b2 at *
    generalize winI wd 1 7 = b3 at *
    cases b1 <;> cases b2 <;> cases b3 <;> first
      | (exact absurd ⟨rfl, rfl, rfl⟩ hall)
      | (clear hall
         go_enter Tryd.func31, Tryd.ntmps31
         go_wp2_with (first | (go_at_call_of 49 y; refine (HY.out _).mono ?_; rintro e w1 ⟨rfl, rfl⟩) | (go_at_call_of 49 n; refine (HN.out _).mono ?_; rintro e w1 ⟨rfl, rfl⟩) | (go_at_call_of 49 wd; refine (HD.out _).mono ?_; rintro e w1 ⟨rfl, rfl⟩))
         go_ret2
         exact ⟨rfl, Below.refl _ _⟩)
end Go.Proofs.YtmidphmniikdpaaDoor
