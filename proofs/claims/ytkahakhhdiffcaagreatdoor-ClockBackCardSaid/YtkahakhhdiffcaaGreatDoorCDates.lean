/- Contracts of the clock's dates of times, both ones. The contract of the reference's date of a time. Contracts of Date, Leap and Days, both ones. -/
import Derived.Test.YtkahakhhdiffcaaGreatDoorCTime
import Derived.Laws.ResultCell
namespace Go.Proofs.YtkahakhhdiffcaaGreatDoor
set_option linter.unusedVariables false
set_option linter.unusedSimpArgs false
open Go.RowKit

def DT.v (D : DT) : Value := .agg #[.int .i64 D.y, .int .i64 D.m, .int .i64 D.d, .int .i64 D.h, .int .i64 D.mi, .int .i64 D.s]
/-- Days before a year, as the program reckons them. -/
def BF (y : Int) : Int := if y ≤ 0 then 365 * (y - 1) else bef y
theorem before_all (y : Int) (h1 : -2 ≤ y) (h2 : y ≤ 1000000) (w : World) :
    Calls Tryz.prog 86 #[.int .i64 y] w fun e w' => e = .returned (.int .i64 (BF y)) ∧ w = w' := by
  unfold BF
  by_cases h : y ≤ 0
  · rw [if_pos h]; exact before_low y h1 h w
  · rw [if_neg h]; exact before_any y (by omega) h2 w
theorem BF_bound {y : Int} (h1 : -2 ≤ y) (h2 : y ≤ 1000000) : 365 * (y - 1) ≤ BF y ∧ BF y ≤ 366 * (y - 1) + 1100 := by
  unfold BF
  split
  · omega
  · have := bef_far (show (1 : Int) ≤ y by omega)
    have h3 : bef 1 = 0 := by decide
    omega
/-- Where the search for the year begins. -/
theorem BF_begin {n q : Int} (hq : q = n + 719162) (h0 : 0 ≤ q) (h1 : q ≤ 5000000) : (0 ≤ n → BF (1970 + n / 366 - 1) ≤ q ∧ -2 ≤ 1970 + n / 366 - 1 ∧ 1970 + n / 366 - 1 ≤ 100000) ∧ (n < 0 → BF (1970 + n / 365 - 1) ≤ q ∧ -2 ≤ 1970 + n / 365 - 1 ∧ 1970 + n / 365 - 1 ≤ 100000) := by
  have a : bef 1969 = 718797 := by decide
  have b : bef 1970 = 719162 := by decide
  constructor
  · intro h
    have c := bef_far (show (1969 : Int) ≤ 1970 + n / 366 - 1 by omega)
    refine ⟨?_, by omega, by omega⟩
    unfold BF
    rw [if_neg (by omega)]
    omega
  · intro h
    refine ⟨?_, by omega, by omega⟩
    unfold BF
    split
    · omega
    · have c := bef_far (show 1970 + n / 365 - 1 ≤ 1970 by omega)
      omega
/-- Where it ends. -/
theorem BF_end {y q : Int} (h0 : 0 ≤ q) (h1 : -2 ≤ y) (h2 : BF y ≤ q) (h3 : q < BF (y + 1)) : 1 ≤ y ∧ bef y ≤ q ∧ q < bef (y + 1) := by
  have hy : 1 ≤ y := by
    have h4 : bef 1 = 0 := by decide
    rcases (show y = -2 ∨ y = -1 ∨ y = 0 ∨ 1 ≤ y by omega) with rfl | rfl | rfl | h
    · simp [BF] at h3; omega
    · simp [BF] at h3; omega
    · simp [BF, h4] at h3; omega
    · exact h
  unfold BF at h2 h3
  rw [if_neg (by omega)] at h2 h3
  exact ⟨hy, h2, h3⟩

/-- A struct's cells, all written. -/
theorem cells6_set (W : World) (g : Nat) (t : Nat) (fr : Nat × Nat) (z0 z1 z2 z3 z4 z5 a b c d e f : Value) (hg : W.heap[g]? = some (.cells #[z0, z1, z2, z3, z4, z5] t fr)) :
    ((((((W.setCell ⟨g, 0, none⟩ a).setCell ⟨g, 1, none⟩ b).setCell ⟨g, 2, none⟩ c).setCell ⟨g, 3, none⟩ d).setCell ⟨g, 4, none⟩ e).setCell ⟨g, 5, none⟩ f).heap[g]? = some (.cells #[a, b, c, d, e, f] t fr) := by
  rw [setCell_eq_setRow W g 0 _ t fr a hg]
  have h1 := setRow_heap W g _ (#[z0, z1, z2, z3, z4, z5].setIfInBounds 0 a) t fr hg
  rw [setCell_eq_setRow _ g 1 _ t fr b h1, setRow_setRow]
  have h2 := setRow_heap W g _ ((#[z0, z1, z2, z3, z4, z5].setIfInBounds 0 a).setIfInBounds 1 b) t fr hg
  rw [setCell_eq_setRow _ g 2 _ t fr c h2, setRow_setRow]
  have h3 := setRow_heap W g _ (((#[z0, z1, z2, z3, z4, z5].setIfInBounds 0 a).setIfInBounds 1 b).setIfInBounds 2 c) t fr hg
  rw [setCell_eq_setRow _ g 3 _ t fr d h3, setRow_setRow]
  have h4 := setRow_heap W g _ ((((#[z0, z1, z2, z3, z4, z5].setIfInBounds 0 a).setIfInBounds 1 b).setIfInBounds 2 c).setIfInBounds 3 d) t fr hg
  rw [setCell_eq_setRow _ g 4 _ t fr e h4, setRow_setRow]
  have h5 := setRow_heap W g _ (((((#[z0, z1, z2, z3, z4, z5].setIfInBounds 0 a).setIfInBounds 1 b).setIfInBounds 2 c).setIfInBounds 3 d).setIfInBounds 4 e) t fr hg
  rw [setCell_eq_setRow _ g 5 _ t fr f h5, setRow_setRow]
  exact setRow_heap W g _ _ t fr hg
theorem below_set6 {B : Nat} {w W : World} {g : Nat} (h : Below B w W) (hg : B ≤ g) (a b c d e f : Value) :
    Below B w ((((((W.setCell ⟨g, 0, none⟩ a).setCell ⟨g, 1, none⟩ b).setCell ⟨g, 2, none⟩ c).setCell ⟨g, 3, none⟩ d).setCell ⟨g, 4, none⟩ e).setCell ⟨g, 5, none⟩ f) :=
  (((((h.setCell hg _).setCell hg _).setCell hg _).setCell hg _).setCell hg _).setCell hg _
theorem date_result {fn : Func} {p : Tmp} (h : fn.results = #[.cell p 39]) (tmps : Array Value) (w : World) (g : Nat) (cs : Array Value) (t : Nat) (fr : Nat × Nat)
    (hp : tmps.getD p undef = .pointer (some ⟨g, 0, none⟩)) (hg : w.heap[g]? = some (.cells cs t fr)) (hc : cs.size = 6) : (results fn tmps).run Tryz.prog w = .ok (.agg cs) w :=
  results_cell_row h tmps w g t cs fr _ hp hg Tryz.underlying39 rfl (by rw [hc]; kernel_rfl)

set_option maxRecDepth 100000 in
set_option maxHeartbeats 3200000 in
theorem date_any (t : Int) (ht : -62135596800 ≤ t) (ht2 : t ≤ 300000000000) (w : World) :
    Calls Tryz.prog 44 #[.int .i64 t] w fun e w' => e = .returned (dateC t).v ∧ Below w.heap.size w w' := by
  obtain ⟨n, hn⟩ : ∃ n, t / 86400 = n := ⟨_, rfl⟩
  obtain ⟨s, hs⟩ : ∃ s, t % 86400 = s := ⟨_, rfl⟩
  have HDN := Lib.hid (fun W => down_any t 86400 (by omega) (by omega) (by omega) (by omega) W)
  rw [hn, hs] at HDN
  have HT : Hid (t = n * 86400 + s) := by show _ = _; omega
  have hn1 : -719162 ≤ n ∧ n ≤ 3500000 := by omega
  have hs1 : 0 ≤ s ∧ s < 86400 := by omega
  clear hn hs ht ht2
  obtain ⟨q, hq⟩ : ∃ q, q = n + 719162 := ⟨_, rfl⟩
  have HBG := Lib.hid (BF_begin hq (by omega) (by omega))
  have HDN2 := Lib.hid (fun W => down_any n 365 (by omega) (by omega) (by omega) (by omega) W)
  have HBA := Lib.hid (fun y h1 h2 W => before_all y h1 h2 W)
  have HB0 := Lib.hid (fun W => before_any 1970 (by omega) (by omega) W)
  have h70 : bef 1970 = 719162 := by decide
  rw [h70] at HB0
  have HBB : Hid (∀ y : Int, -2 ≤ y → y ≤ 1000000 → 365 * (y - 1) ≤ BF y ∧ BF y ≤ 366 * (y - 1) + 1100) := fun y a b => BF_bound a b
  have HDY := Lib.hid (fun y m h1 h2 h3 W => days_any y m h1 h2 h3 W)
  obtain ⟨c0, c1, c2, c3, c4, c5⟩ := cells6_new w (.int .i64 0) (.int .i64 0) (.int .i64 0) (.int .i64 0) (.int .i64 0) (.int .i64 0) 39
  have HA := Lib.hid (below_alloc1 w (.cells #[.int .i64 0, .int .i64 0, .int .i64 0, .int .i64 0, .int .i64 0, .int .i64 0] 39))
  have HH := Lib.hid (heap_alloc_new w (.cells #[.int .i64 0, .int .i64 0, .int .i64 0, .int .i64 0, .int .i64 0, .int .i64 0] 39))
  obtain ⟨u, hu⟩ : ∃ u, n.tdiv 366 = u := ⟨_, rfl⟩
  have hu1 : -3500000 ≤ u ∧ u ≤ 3500000 := by
    have := Int.natAbs_tdiv_le_natAbs n 366
    omega
  have HU : Hid (0 ≤ n → u = n / 366) := fun h => by rw [← hu, Int.tdiv_eq_ediv_of_nonneg h]
  clear h70 hu
  have HBE : Hid (∀ y : Int, -2 ≤ y → BF y ≤ q → q < BF (y + 1) → 1 ≤ y ∧ bef y ≤ q ∧ q < bef (y + 1)) := fun y a b c => BF_end (by omega) a b c
  have HQ : Hid (q = n + 719162) := hq
  by_cases hn0 : n < 0
  · have hb := HBG.out.2 hn0
    go_enter Tryz.func44, Tryz.ntmps44
    go_wp2_with (first | (go_at_call_of 20 t; refine (HDN.out _).mono ?_; rintro e w1 ⟨rfl, k1, rfl⟩) | (go_at_call_of 20 n; refine (HDN2.out _).mono ?_; rintro e w1 ⟨rfl, k2, rfl⟩))
    go_loopw [5] (fun v5 wr => ∃ y b : Int, v5 = .int .i64 y ∧ wr = ((w.alloc (.cells #[.int .i64 0, .int .i64 0, .int .i64 0, .int .i64 0, .int .i64 0, .int .i64 0] 39)).drewN (k1 + k2)) ∧ -2 ≤ y ∧ y ≤ 100000 ∧ Hid (b = BF y) ∧ b ≤ q) (fun v5 _ => (200000 - intOf v5).toNat)
    case atStart => exact ⟨_, _, rfl, by first | trivial | rfl, hb.2.1, hb.2.2, rfl, hb.1⟩
    case round =>
      obtain ⟨y, b, rfl, rfl, hy1, hy2, HB, hbq⟩ := hrel
      obtain ⟨y1, hy1e⟩ : ∃ y1, y + 1 = y1 := ⟨_, rfl⟩
      have hB1 := Lib.hid (fun W => HBA.out y1 (by omega) (by omega) W)
      have hbb := HBB.out y1 (by omega) (by omega)
      have hbb0 := HBB.out y (by omega) (by omega)
      rw [← HB.out] at hbb0
      obtain ⟨b1, hb1⟩ : ∃ b1, BF y1 = b1 := ⟨_, rfl⟩
      rw [hb1] at hB1 hbb
      by_cases hlt : b1 ≤ q
      · have HB1 := Lib.hid hb1
        clear hb1
        go_wp2_with (first | (go_at_call_of 86 y1; refine (hB1.out _).mono ?_; rintro e w2 ⟨rfl, rfl⟩) | (go_at_call 86; refine (HB0.out _).mono ?_; rintro e w2 ⟨rfl, rfl⟩))
        go_roundw
        case rel => exact ⟨y1, b1, by go_num, by first | trivial | rfl, by omega, by omega, HB1.out.symm, by omega⟩
        case measure => simp [intOf]; omega
      · have hyy := HBE.out y hy1 (by rw [← HB.out]; exact hbq) (by rw [hy1e, hb1]; omega)
        have hB := Lib.hid (fun W => before_any y hyy.1 (by omega) W)
        have HN := Lib.hid (bef_next y)
        have hle := leap1_le y
        have h13 := cum_13 y
        have h11 := cum_one y
        have HYY := Lib.hid hyy
        have hy0 := hyy.1
        have hr : 0 ≤ q - bef y ∧ q - bef y < 365 + leap1 y := by have := bef_next y; omega
        obtain ⟨B, hBe⟩ : ∃ B, bef y = B := ⟨_, rfl⟩
        rw [hBe] at hB hr
        have HBe := Lib.hid hBe
        have hHB1 := Lib.hid hb1
        have HL := Lib.hid hle
        have H13 := Lib.hid h13
        have H11 := Lib.hid h11
        have HR := Lib.hid hr
        have hB0 : 0 ≤ B ∧ B ≤ q := by rw [← hBe]; have := bef_far hy0; have h3 : bef 1 = 0 := by decide
                                       omega
        have hr0 : q - B ≤ 366 := by omega
        clear hb1 hyy hBe hle h13 h11 hr
        go_wp2_with (first | (go_at_call_of 86 y1; refine (hB1.out _).mono ?_; rintro e w2 ⟨rfl, rfl⟩) | (go_at_call_of 86 y; refine (hB.out _).mono ?_; rintro e w2 ⟨rfl, rfl⟩) | (go_at_call 86; refine (HB0.out _).mono ?_; rintro e w2 ⟨rfl, rfl⟩))
        go_loopw [3, 8] (fun v3 v8 w2 => ∃ m c : Int, v3 = .int .i64 (q - B - c) ∧ v8 = .int .i64 m ∧ w2 = ((w.alloc (.cells #[.int .i64 0, .int .i64 0, .int .i64 0, .int .i64 0, .int .i64 0, .int .i64 0] 39)).drewN (k1 + k2)) ∧ 1 ≤ m ∧ m ≤ 12 ∧ Hid (c = cum y m) ∧ 0 ≤ c ∧ c ≤ q - B) (fun _ v8 _ => (13 - intOf v8).toNat)
        case atStart => exact ⟨1, 0, by go_num, by first | trivial | rfl, by first | trivial | rfl, by omega, by omega, H11.out.symm, by omega, by omega⟩
        case round =>
          obtain ⟨m, c, rfl, rfl, rfl, hm1, hm2, HC, hc0, hc1⟩ := hrel
          have hD := Lib.hid (fun W => HDY.out y m (by omega) hm1 hm2 W)
          have hg := dim_ge y m
          have hcn := cum_next y hm1 hm2
          rw [← HC.out] at hcn
          obtain ⟨L, hL⟩ : ∃ L, dim y m = L := ⟨_, rfl⟩
          rw [hL] at hD hg hcn
          have HCN := Lib.hid hcn
          have HLL := Lib.hid hL
          clear hcn hL
          by_cases hlt2 : L ≤ q - B - c
          · have hm12 : m + 1 ≤ 12 := by
              rcases (show m + 1 ≤ 12 ∨ m = 12 by omega) with h | h
              · exact h
              · subst h
                have a1 := HCN.out
                have a2 := H13.out
                have a3 := HR.out
                rw [show (12 : Int) + 1 = 13 from rfl] at a1
                omega
            go_wp2_with (go_at_call 49; refine (hD.out _).mono ?_; rintro e w2 ⟨rfl, rfl⟩)
            go_roundw
            case rel => exact ⟨m + 1, c + L, by go_num, by go_num, by first | trivial | rfl, by omega, by omega, by show _ = _; rw [HCN.out], by omega, by omega⟩
            case measure => simp [intOf]; omega
          · have HDC : Hid (dateC t = ⟨y, m, q - B - c + 1, s / 3600, s / 60 % 60, s % 60⟩) := by
              have hok : DT.Ok ⟨y, m, q - B - c + 1, s / 3600, s / 60 % 60, s % 60⟩ := ⟨⟨hy0, hm1, hm2, by simp only; omega, by simp only; rw [HLL.out]; omega⟩, by simp only; omega, by simp only; omega, by simp only; omega, by simp only; omega, by simp only; omega, by simp only; omega⟩
              have ht := dateC_of hok
              have e : DT.time ⟨y, m, q - B - c + 1, s / 3600, s / 60 % 60, s % 60⟩ = t := by
                have a1 := HT.out
                have a2 := HBe.out
                have a3 := HC.out
                simp only [DT.time, dayNo]
                rw [a2, ← a3]
                omega
              rw [e] at ht
              exact ht
            go_wp2_with (go_at_call 49; refine (hD.out _).mono ?_; rintro e w2 ⟨rfl, rfl⟩)
            have hg6 := cells6_set _ _ _ _ _ _ _ _ _ _ (.int .i64 y) (.int .i64 m) (.int .i64 (n + 719162 - B - c + 1)) (.int .i64 (s / 3600)) (.int .i64 (s / 60 % 60)) (.int .i64 (s % 60)) (show ((w.alloc (.cells #[.int .i64 0, .int .i64 0, .int .i64 0, .int .i64 0, .int .i64 0, .int .i64 0] 39)).drewN (k1 + k2)).heap[w.heap.size]? = _ from HH.out)
            refine bodyPost_ret (date_result rfl _ _ _ _ _ _ rfl hg6 rfl) rfl ⟨by rw [HDC.out, HQ.out]; rfl, ?_⟩
            exact below_set6 (below_drewN HA.out _) (Nat.le_refl _) _ _ _ _ _ _
  · have hu2 := HU.out (by omega)
    have hb := HBG.out.1 (by omega)
    go_enter Tryz.func44, Tryz.ntmps44
    go_wp2_with (go_at_call 20; refine (HDN.out _).mono ?_; rintro e w1 ⟨rfl, k1, rfl⟩)
    go_loopw [5] (fun v5 wr => ∃ y b : Int, v5 = .int .i64 y ∧ wr = ((w.alloc (.cells #[.int .i64 0, .int .i64 0, .int .i64 0, .int .i64 0, .int .i64 0, .int .i64 0] 39)).drewN k1) ∧ -2 ≤ y ∧ y ≤ 100000 ∧ Hid (b = BF y) ∧ b ≤ q) (fun v5 _ => (200000 - intOf v5).toNat)
    case atStart => exact ⟨_, _, rfl, by first | trivial | rfl, hb.2.1, hb.2.2, rfl, hb.1⟩
    case round =>
      obtain ⟨y, b, rfl, rfl, hy1, hy2, HB, hbq⟩ := hrel
      obtain ⟨y1, hy1e⟩ : ∃ y1, y + 1 = y1 := ⟨_, rfl⟩
      have hB1 := Lib.hid (fun W => HBA.out y1 (by omega) (by omega) W)
      have hbb := HBB.out y1 (by omega) (by omega)
      have hbb0 := HBB.out y (by omega) (by omega)
      rw [← HB.out] at hbb0
      obtain ⟨b1, hb1⟩ : ∃ b1, BF y1 = b1 := ⟨_, rfl⟩
      rw [hb1] at hB1 hbb
      by_cases hlt : b1 ≤ q
      · have HB1 := Lib.hid hb1
        clear hb1
        go_wp2_with (first | (go_at_call_of 86 y1; refine (hB1.out _).mono ?_; rintro e w2 ⟨rfl, rfl⟩) | (go_at_call 86; refine (HB0.out _).mono ?_; rintro e w2 ⟨rfl, rfl⟩))
        go_roundw
        case rel => exact ⟨y1, b1, by go_num, by first | trivial | rfl, by omega, by omega, HB1.out.symm, by omega⟩
        case measure => simp [intOf]; omega
      · have hyy := HBE.out y hy1 (by rw [← HB.out]; exact hbq) (by rw [hy1e, hb1]; omega)
        have hB := Lib.hid (fun W => before_any y hyy.1 (by omega) W)
        have HN := Lib.hid (bef_next y)
        have hle := leap1_le y
        have h13 := cum_13 y
        have h11 := cum_one y
        have HYY := Lib.hid hyy
        have hy0 := hyy.1
        have hr : 0 ≤ q - bef y ∧ q - bef y < 365 + leap1 y := by have := bef_next y; omega
        obtain ⟨B, hBe⟩ : ∃ B, bef y = B := ⟨_, rfl⟩
        rw [hBe] at hB hr
        have HBe := Lib.hid hBe
        have hHB1 := Lib.hid hb1
        have HL := Lib.hid hle
        have H13 := Lib.hid h13
        have H11 := Lib.hid h11
        have HR := Lib.hid hr
        have hB0 : 0 ≤ B ∧ B ≤ q := by rw [← hBe]; have := bef_far hy0; have h3 : bef 1 = 0 := by decide
                                       omega
        have hr0 : q - B ≤ 366 := by omega
        clear hb1 hyy hBe hle h13 h11 hr
        go_wp2_with (first | (go_at_call_of 86 y1; refine (hB1.out _).mono ?_; rintro e w2 ⟨rfl, rfl⟩) | (go_at_call_of 86 y; refine (hB.out _).mono ?_; rintro e w2 ⟨rfl, rfl⟩) | (go_at_call 86; refine (HB0.out _).mono ?_; rintro e w2 ⟨rfl, rfl⟩))
        go_loopw [3, 8] (fun v3 v8 w2 => ∃ m c : Int, v3 = .int .i64 (q - B - c) ∧ v8 = .int .i64 m ∧ w2 = ((w.alloc (.cells #[.int .i64 0, .int .i64 0, .int .i64 0, .int .i64 0, .int .i64 0, .int .i64 0] 39)).drewN k1) ∧ 1 ≤ m ∧ m ≤ 12 ∧ Hid (c = cum y m) ∧ 0 ≤ c ∧ c ≤ q - B) (fun _ v8 _ => (13 - intOf v8).toNat)
        case atStart => exact ⟨1, 0, by go_num, by first | trivial | rfl, by first | trivial | rfl, by omega, by omega, H11.out.symm, by omega, by omega⟩
        case round =>
          obtain ⟨m, c, rfl, rfl, rfl, hm1, hm2, HC, hc0, hc1⟩ := hrel
          have hD := Lib.hid (fun W => HDY.out y m (by omega) hm1 hm2 W)
          have hg := dim_ge y m
          have hcn := cum_next y hm1 hm2
          rw [← HC.out] at hcn
          obtain ⟨L, hL⟩ : ∃ L, dim y m = L := ⟨_, rfl⟩
          rw [hL] at hD hg hcn
          have HCN := Lib.hid hcn
          have HLL := Lib.hid hL
          clear hcn hL
          by_cases hlt2 : L ≤ q - B - c
          · have hm12 : m + 1 ≤ 12 := by
              rcases (show m + 1 ≤ 12 ∨ m = 12 by omega) with h | h
              · exact h
              · subst h
                have a1 := HCN.out
                have a2 := H13.out
                have a3 := HR.out
                rw [show (12 : Int) + 1 = 13 from rfl] at a1
                omega
            go_wp2_with (go_at_call 49; refine (hD.out _).mono ?_; rintro e w2 ⟨rfl, rfl⟩)
            go_roundw
            case rel => exact ⟨m + 1, c + L, by go_num, by go_num, by first | trivial | rfl, by omega, by omega, by show _ = _; rw [HCN.out], by omega, by omega⟩
            case measure => simp [intOf]; omega
          · have HDC : Hid (dateC t = ⟨y, m, q - B - c + 1, s / 3600, s / 60 % 60, s % 60⟩) := by
              have hok : DT.Ok ⟨y, m, q - B - c + 1, s / 3600, s / 60 % 60, s % 60⟩ := ⟨⟨hy0, hm1, hm2, by simp only; omega, by simp only; rw [HLL.out]; omega⟩, by simp only; omega, by simp only; omega, by simp only; omega, by simp only; omega, by simp only; omega, by simp only; omega⟩
              have ht := dateC_of hok
              have e : DT.time ⟨y, m, q - B - c + 1, s / 3600, s / 60 % 60, s % 60⟩ = t := by
                have a1 := HT.out
                have a2 := HBe.out
                have a3 := HC.out
                simp only [DT.time, dayNo]
                rw [a2, ← a3]
                omega
              rw [e] at ht
              exact ht
            go_wp2_with (go_at_call 49; refine (hD.out _).mono ?_; rintro e w2 ⟨rfl, rfl⟩)
            have hg6 := cells6_set _ _ _ _ _ _ _ _ _ _ (.int .i64 y) (.int .i64 m) (.int .i64 (n + 719162 - B - c + 1)) (.int .i64 (s / 3600)) (.int .i64 (s / 60 % 60)) (.int .i64 (s % 60)) (show ((w.alloc (.cells #[.int .i64 0, .int .i64 0, .int .i64 0, .int .i64 0, .int .i64 0, .int .i64 0] 39)).drewN k1).heap[w.heap.size]? = _ from HH.out)
            refine bodyPost_ret (date_result rfl _ _ _ _ _ _ rfl hg6 rfl) rfl ⟨by rw [HDC.out, HQ.out]; rfl, ?_⟩
            exact below_set6 (below_drewN HA.out _) (Nat.le_refl _) _ _ _ _ _ _
end Go.Proofs.YtkahakhhdiffcaaGreatDoor
namespace Go.Proofs.YtkahakhhdiffcaaGreatDoor
set_option linter.unusedVariables false
set_option linter.unusedSimpArgs false
open Go.RowKit
set_option maxRecDepth 100000 in
set_option maxHeartbeats 3200000 in
theorem rdate_any (t : Int) (ht : -62135596800 ≤ t) (ht2 : t ≤ 300000000000) (w : World) :
    Calls Tryz.prog 25 #[.int .i64 t] w fun e w' => e = .returned (dateC t).v ∧ Below w.heap.size w w' := by
  obtain ⟨n, hn⟩ : ∃ n, n = t + 62135596800 := ⟨_, rfl⟩
  obtain ⟨q, hq⟩ : ∃ q, n / 86400 = q := ⟨_, rfl⟩
  obtain ⟨s, hs⟩ : ∃ s, n % 86400 = s := ⟨_, rfl⟩
  have hn0 : 0 ≤ n := by omega
  have hn2 : n ≤ 400000000000 := by omega
  have hqs : 0 ≤ q ∧ q ≤ 4500000 := by omega
  have hs1 : 0 ≤ s ∧ s < 86400 := by omega
  have a1 : n.tdiv 86400 = q := by rw [Int.tdiv_eq_ediv_of_nonneg hn0]; exact hq
  have a2 : n.tmod 86400 = s := by rw [Int.tmod_eq_emod_of_nonneg hn0]; exact hs
  have a0 : t - -62135596800 = n := by omega
  have HT : Hid (t = q * 86400 + s - 62135596800) := by show _ = _; omega
  have HW := Lib.hid (fun k (hk : 1 ≤ k) W => rwhole_any k (by omega) W)
  have HD := Lib.hid (fun y k (hk : 1 ≤ y) W => rlength_any y k (by omega) W)
  have HB : Hid (∀ k : Int, 1 ≤ k → bef (k + 1) = bef k + (365 + leap1 k) ∧ 365 * (k - 1) ≤ bef k ∧ 0 ≤ leap1 k ∧ leap1 k ≤ 1) := by
    intro k a
    have q1 := bef_next k
    have q2 := bef_far a
    have q3 : bef 1 = 0 := by decide
    have q4 := leap1_le k
    omega
  have HB1 : Hid (bef 1 = 0) := by show _ = _; decide
  have HZ := Lib.hid (below_alloc1 w (.cells #[.int .i64 0, .int .i64 0, .int .i64 0, .int .i64 0, .int .i64 0, .int .i64 0] 39))
  clear hn ht ht2 hq hs
  go_enter Tryz.func25, Tryz.ntmps25
  go_wp2_with fail
  go_loopw [4] (fun v4 wr => ∃ y b x3 x4 x5 : Int, v4 = .int .i64 (q - b) ∧ wr = (w.alloc (.cells #[.int .i64 0, .int .i64 0, .int .i64 0, .int .i64 0, .int .i64 0, .int .i64 0] 39)).alloc (.cells #[.int .i64 y, .int .i64 1, .int .i64 0, .int .i64 x3, .int .i64 x4, .int .i64 x5] 39) ∧ Hid (x3 = s / 3600 ∧ x4 = s / 60 % 60 ∧ x5 = s % 60) ∧ 1 ≤ y ∧ y ≤ 100000 ∧ Hid (b = bef y) ∧ b ≤ q ∧ 0 ≤ b ∧ 365 * (y - 1) ≤ b) (fun v4 _ => (intOf v4).toNat)
  case atStart => exact ⟨1, 0, _, _, _, by go_num, by first | trivial | rfl, Lib.hid (by omega), by omega, by omega, HB1.out.symm, by omega, by omega, by omega⟩
  case round =>
    obtain ⟨y, b, x3, x4, x5, rfl, rfl, HX, hy1, hy2, HBB, hbq, hb0, hby⟩ := hrel
    have hw := Lib.hid (fun W => HW.out y hy1 W)
    have hbn := HB.out y hy1
    have hbn1 := HB.out (y + 1) (by omega)
    rw [← HBB.out] at hbn
    obtain ⟨L, hL⟩ : ∃ L, 365 + leap1 y = L := ⟨_, rfl⟩
    rw [hL] at hw hbn
    have hL1 : 365 ≤ L ∧ L ≤ 366 := by omega
    have HN := Lib.hid hbn.1
    have hfar : 365 * y ≤ b + L := by have := hbn1.2.1; omega
    have HL := Lib.hid hL
    clear hbn hbn1 hL
    by_cases hlt : L ≤ q - b
    · go_wp2_with (go_at_call 54; refine (hw.out _).mono ?_; rintro e w2 ⟨rfl, rfl⟩)
      go_roundw
      case rel => exact ⟨y + 1, b + L, x3, x4, x5, by go_num, by first | trivial | rfl, HX, by omega, by omega, by show _ = _; rw [HN.out], by omega, by omega, by omega⟩
      case measure => simp [intOf]; omega
    · have HG : Hid (∀ k : Int, 1 ≤ k → k ≤ 12 → cum y (k + 1) = cum y k + dim y k) := fun k a b => cum_next y a b
      have H13 : Hid (cum y 13 = L) := by have := cum_13 y; have h2 := HL.out; show _ = _; omega
      have H11 : Hid (cum y 1 = 0) := cum_one y
      go_wp2_with (go_at_call 54; refine (hw.out _).mono ?_; rintro e w2 ⟨rfl, rfl⟩)
      go_loopw [4] (fun v4 wr => ∃ m c : Int, v4 = .int .i64 (q - b - c) ∧ wr = (w.alloc (.cells #[.int .i64 0, .int .i64 0, .int .i64 0, .int .i64 0, .int .i64 0, .int .i64 0] 39)).alloc (.cells #[.int .i64 y, .int .i64 m, .int .i64 0, .int .i64 x3, .int .i64 x4, .int .i64 x5] 39) ∧ 1 ≤ m ∧ m ≤ 12 ∧ Hid (c = cum y m) ∧ 0 ≤ c ∧ c ≤ q - b) (fun v4 _ => (intOf v4).toNat)
      case atStart => exact ⟨1, 0, by go_num, by first | trivial | rfl, by omega, by omega, H11.out.symm, by omega, by omega⟩
      case round =>
        obtain ⟨m, c, rfl, rfl, hm1, hm2, HC, hc0, hc1⟩ := hrel
        have hD := Lib.hid (fun W => HD.out y m hy1 W)
        have hg := dim_ge y m
        have hcn := HG.out m hm1 hm2
        rw [← HC.out] at hcn
        obtain ⟨K, hK⟩ : ∃ K, dim y m = K := ⟨_, rfl⟩
        rw [hK] at hD hg hcn
        have HCN := Lib.hid hcn
        have HKK := Lib.hid hK
        clear hcn hK
        by_cases hlt2 : K ≤ q - b - c
        · have hm12 : m + 1 ≤ 12 := by
            rcases (show m + 1 ≤ 12 ∨ m = 12 by omega) with h | h
            · exact h
            · subst h
              have a1 := HCN.out
              have a2 := H13.out
              rw [show (12 : Int) + 1 = 13 from rfl] at a1
              omega
          go_wp2_with (go_at_call 27; refine (hD.out _).mono ?_; rintro e w2 ⟨rfl, rfl⟩)
          go_roundw
          case rel => exact ⟨m + 1, c + K, by go_num, by first | trivial | rfl, by omega, by omega, by show _ = _; rw [HCN.out], by omega, by omega⟩
          case measure => simp [intOf]; omega
        · have HDC : Hid (dateC t = ⟨y, m, q - b - c + 1, x3, x4, x5⟩) := by
            have hx := HX.out
            have hok : DT.Ok ⟨y, m, q - b - c + 1, x3, x4, x5⟩ := ⟨⟨hy1, hm1, hm2, by simp only; omega, by simp only; rw [HKK.out]; omega⟩, by simp only; omega, by simp only; omega, by simp only; omega, by simp only; omega, by simp only; omega, by simp only; omega⟩
            have ht := dateC_of hok
            have e : DT.time ⟨y, m, q - b - c + 1, x3, x4, x5⟩ = t := by
              have a1 := HT.out
              have a2 := HBB.out
              have a3 := HC.out
              simp only [DT.time, dayNo]
              rw [← a2, ← a3]
              omega
            rw [e] at ht
            exact ht
          go_wp2_with (go_at_call 27; refine (hD.out _).mono ?_; rintro e w2 ⟨rfl, rfl⟩)
          have hg6 : ((w.alloc (.cells #[.int .i64 y, .int .i64 m, .int .i64 (q - b - c + 1), .int .i64 x3, .int .i64 x4, .int .i64 x5] 39)).alloc (.cells #[.int .i64 y, .int .i64 m, .int .i64 (q - b - c + 1), .int .i64 x3, .int .i64 x4, .int .i64 x5] 39)).heap[w.heap.size]? = some (.cells #[.int .i64 y, .int .i64 m, .int .i64 (q - b - c + 1), .int .i64 x3, .int .i64 x4, .int .i64 x5] 39 (0, 0)) := by
            rw [heap_alloc_old _ _ (by simp)]
            exact heap_alloc_new _ _
          refine bodyPost_ret (date_result rfl _ _ _ _ _ _ rfl hg6 rfl) rfl ⟨by rw [HDC.out]; rfl, ?_⟩
          exact Below.alloc (below_alloc1 w _) (by simp) _
end Go.Proofs.YtkahakhhdiffcaaGreatDoor
namespace Go.Proofs.YtkahakhhdiffcaaGreatDoor
set_option linter.unusedVariables false
set_option linter.unusedSimpArgs false
open Go.RowKit
theorem date_result2 {fn : Func} {p u : Tmp} (h : fn.results = #[.cell p 39, .tmp u]) (tmps : Array Value) (w : World) (g : Nat) (cs : Array Value) (t : Nat) (fr : Nat × Nat)
    (hp : tmps.getD p undef = .pointer (some ⟨g, 0, none⟩)) (hg : w.heap[g]? = some (.cells cs t fr)) (hc : cs.size = 6) (v : Value) (hv : tmps.getD u undef = v) : (results fn tmps).run Tryz.prog w = .ok (.tuple #[.agg cs, v]) w := by
  rw [results_cell_tmp h, hp, hv]
  have := run_loadVar_row w g t 39 cs fr _ hg Tryz.underlying39 rfl (by rw [hc]; kernel_rfl)
  simp [asAddr, Result.andThen, this]
/-- What both 'Date's tell. -/
def DT.zero : DT := ⟨0, 0, 0, 0, 0, 0⟩
noncomputable def datesC (t : Int) : DT × Int := if validI t = true then (dateC t, 0) else (DT.zero, 7)
theorem validI_iff (t : Int) : validI t = true ↔ -62135596800 ≤ t ∧ t ≤ 253402300799 := by simp [validI, winI]

set_option maxRecDepth 100000 in
set_option maxHeartbeats 1600000 in
theorem Date_any (t : Int) (w : World) :
    Calls Tryz.prog 16 #[.int .i64 t] w fun e w' => e = .returned (.tuple #[(datesC t).1.v, .int .i64 (datesC t).2]) ∧ Below w.heap.size w w' := by
  have HV := Lib.hid (fun W => valid_any t W)
  have HZ := Lib.hid (below_alloc1 w (.cells #[.int .i64 0, .int .i64 0, .int .i64 0, .int .i64 0, .int .i64 0, .int .i64 0] 39))
  have HH := Lib.hid (heap_alloc_new w (.cells #[.int .i64 0, .int .i64 0, .int .i64 0, .int .i64 0, .int .i64 0, .int .i64 0] 39))
  have HC := Lib.hid (cells6_below w (.int .i64 0) (.int .i64 0) (.int .i64 0) (.int .i64 0) (.int .i64 0) (.int .i64 0) 39)
  unfold datesC
  by_cases hv : validI t = true
  · have hv2 := (validI_iff t).1 hv
    rw [hv] at HV
    rw [if_pos hv]
    have HD := Lib.hid (date_any t hv2.1 (by omega) (w.alloc (.cells #[.int .i64 0, .int .i64 0, .int .i64 0, .int .i64 0, .int .i64 0, .int .i64 0] 39)))
    have hsz : (w.alloc (.cells #[.int .i64 0, .int .i64 0, .int .i64 0, .int .i64 0, .int .i64 0, .int .i64 0] 39)).heap.size = w.heap.size + 1 := by simp
    rw [hsz] at HD
    generalize dateC t = D at *
    obtain ⟨y, m, d, h, mi, s⟩ := D
    simp only [DT.v] at HD ⊢
    go_enter Tryz.func16, Tryz.ntmps16
    go_wp2_with (first | (go_at_call 17; refine (HV.out _).mono ?_; rintro e w1 ⟨rfl, rfl⟩) | (go_at_call 44; refine HD.out.mono ?_; rintro e w2 ⟨rfl, hb2⟩; obtain ⟨c0, c1, c2, c3, c4, c5⟩ := HC.out _ hb2; have hbk := (hb2.block _ (by omega)).trans HH.out; have f0 := frozen_of_row w2 w.heap.size 0 _ _ hbk; have f1 := frozen_of_row w2 w.heap.size 1 _ _ hbk; have f2 := frozen_of_row w2 w.heap.size 2 _ _ hbk; have f3 := frozen_of_row w2 w.heap.size 3 _ _ hbk; have f4 := frozen_of_row w2 w.heap.size 4 _ _ hbk; have f5 := frozen_of_row w2 w.heap.size 5 _ _ hbk; clear hbk))
    have hg6 := cells6_set w2 w.heap.size _ _ _ _ _ _ _ _ (.int .i64 y) (.int .i64 m) (.int .i64 d) (.int .i64 h) (.int .i64 mi) (.int .i64 s) ((hb2.block _ (by omega)).trans HH.out)
    refine bodyPost_ret (date_result2 rfl _ _ _ _ _ _ rfl hg6 rfl (.int .i64 0) rfl) rfl ⟨rfl, ?_⟩
    exact below_set6 (HZ.out.trans (hb2.mono (by omega))) (Nat.le_refl _) _ _ _ _ _ _
  · rw [Bool.not_eq_true] at hv
    rw [hv] at HV
    rw [if_neg (by rw [hv]; decide)]
    go_enter Tryz.func16, Tryz.ntmps16
    go_wp2_with (go_at_call 17; refine (HV.out _).mono ?_; rintro e w1 ⟨rfl, rfl⟩)
    exact bodyPost_ret (date_result2 rfl _ _ _ _ _ _ rfl HH.out rfl (.int .i64 7) rfl) rfl ⟨rfl, HZ.out⟩

/-- What both 'Leap's and both 'Days's tell. -/
def leapC (y : Int) : Bool × Int := if winI y 1 9999 = true then (leapI y, 0) else (false, 7)
def daysC (y m : Int) : Int × Int := if winI y 1 9999 = true ∧ winI m 1 12 = true then (dim y m, 0) else (0, 7)
theorem ret2_bi {k' : IntKind} {a b : Bool} {a' b' : Int} (h : a = b) (h' : a' = b') : Ending.returned (.tuple #[.bool a, .int k' a']) = .returned (.tuple #[.bool b, .int k' b']) := by rw [h, h']

end Go.Proofs.YtkahakhhdiffcaaGreatDoor
