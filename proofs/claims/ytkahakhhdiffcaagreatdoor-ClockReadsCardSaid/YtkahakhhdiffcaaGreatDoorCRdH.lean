/- The time that was read (the reference), no seconds told. Printed by mkCRdG.py. -/
import Derived.Test.YtkahakhhdiffcaaGreatDoorCRdG
import Derived.Deep.RegionHeld3
namespace Go.Proofs.YtkahakhhdiffcaaGreatDoor
set_option linter.unusedVariables false
set_option linter.unusedSimpArgs false
open Go.RowKit Go.Shelf
set_option maxRecDepth 100000 in
set_option maxHeartbeats 6400000 in
theorem gtime_n (G : GotL) (h115 : gotT G 115 = none) (hG : G.length ≤ 1000) (hx : ∀ p ∈ G, p.2.length ≤ 1000000) (hN : Nums G) (ao : Option Addr) (cap : Nat) (W : World) (hr : GRow W ao G) (hE : ErrIs W) (hP : PowIs W) :
    Calls Tryz.prog 39 #[.agg #[.string ⟨(G.map (·.1)).toArray⟩, .slice ao G.length cap]] W fun e w' => e = .returned (.tuple #[.int .i64 (timeR G).1, .int .i64 (timeR G).2]) ∧ Below W.heap.size W w' := by
  have TX115 : Hid (∀ W', GRow W' ao G → Calls Tryz.prog 90 #[.agg #[.string ⟨(G.map (·.1)).toArray⟩, .slice ao G.length cap], .int .u8 115] W' fun e w' => e = .returned (.tuple #[.string ⟨((gotT G 115).getD []).toArray⟩, .bool (gotT G 115).isSome]) ∧ Below W'.heap.size W' w') := fun W' h => text_any G hG ao cap 115 W' h
  have TX121 : Hid (∀ W', GRow W' ao G → Calls Tryz.prog 90 #[.agg #[.string ⟨(G.map (·.1)).toArray⟩, .slice ao G.length cap], .int .u8 121] W' fun e w' => e = .returned (.tuple #[.string ⟨((gotT G 121).getD []).toArray⟩, .bool (gotT G 121).isSome]) ∧ Below W'.heap.size W' w') := fun W' h => text_any G hG ao cap 121 W' h
  have TX98 : Hid (∀ W', GRow W' ao G → Calls Tryz.prog 90 #[.agg #[.string ⟨(G.map (·.1)).toArray⟩, .slice ao G.length cap], .int .u8 98] W' fun e w' => e = .returned (.tuple #[.string ⟨((gotT G 98).getD []).toArray⟩, .bool (gotT G 98).isSome]) ∧ Below W'.heap.size W' w') := fun W' h => text_any G hG ao cap 98 W' h
  have TX66 : Hid (∀ W', GRow W' ao G → Calls Tryz.prog 90 #[.agg #[.string ⟨(G.map (·.1)).toArray⟩, .slice ao G.length cap], .int .u8 66] W' fun e w' => e = .returned (.tuple #[.string ⟨((gotT G 66).getD []).toArray⟩, .bool (gotT G 66).isSome]) ∧ Below W'.heap.size W' w') := fun W' h => text_any G hG ao cap 66 W' h
  have TX73 : Hid (∀ W', GRow W' ao G → Calls Tryz.prog 90 #[.agg #[.string ⟨(G.map (·.1)).toArray⟩, .slice ao G.length cap], .int .u8 73] W' fun e w' => e = .returned (.tuple #[.string ⟨((gotT G 73).getD []).toArray⟩, .bool (gotT G 73).isSome]) ∧ Below W'.heap.size W' w') := fun W' h => text_any G hG ao cap 73 W' h
  have TX72 : Hid (∀ W', GRow W' ao G → Calls Tryz.prog 90 #[.agg #[.string ⟨(G.map (·.1)).toArray⟩, .slice ao G.length cap], .int .u8 72] W' fun e w' => e = .returned (.tuple #[.string ⟨((gotT G 72).getD []).toArray⟩, .bool (gotT G 72).isSome]) ∧ Below W'.heap.size W' w') := fun W' h => text_any G hG ao cap 72 W' h
  have TX112 : Hid (∀ W', GRow W' ao G → Calls Tryz.prog 90 #[.agg #[.string ⟨(G.map (·.1)).toArray⟩, .slice ao G.length cap], .int .u8 112] W' fun e w' => e = .returned (.tuple #[.string ⟨((gotT G 112).getD []).toArray⟩, .bool (gotT G 112).isSome]) ∧ Below W'.heap.size W' w') := fun W' h => text_any G hG ao cap 112 W' h
  have TX106 : Hid (∀ W', GRow W' ao G → Calls Tryz.prog 90 #[.agg #[.string ⟨(G.map (·.1)).toArray⟩, .slice ao G.length cap], .int .u8 106] W' fun e w' => e = .returned (.tuple #[.string ⟨((gotT G 106).getD []).toArray⟩, .bool (gotT G 106).isSome]) ∧ Below W'.heap.size W' w') := fun W' h => text_any G hG ao cap 106 W' h
  have NU121 : Hid (∀ W' o, GRow W' ao G → ErrIs W' → Calls Tryz.prog 92 #[.agg #[.string ⟨(G.map (·.1)).toArray⟩, .slice ao G.length cap], .int .u8 121, .int .i64 o] W' fun e w' => e = .returned (.int .i64 (numC G 121 o)) ∧ Below W'.heap.size W' w') := fun W' o h hE => gnum_any G hG hx ao cap 121 o W' h hE
  have NU89 : Hid (∀ W' o, GRow W' ao G → ErrIs W' → Calls Tryz.prog 92 #[.agg #[.string ⟨(G.map (·.1)).toArray⟩, .slice ao G.length cap], .int .u8 89, .int .i64 o] W' fun e w' => e = .returned (.int .i64 (numC G 89 o)) ∧ Below W'.heap.size W' w') := fun W' o h hE => gnum_any G hG hx ao cap 89 o W' h hE
  have NU109 : Hid (∀ W' o, GRow W' ao G → ErrIs W' → Calls Tryz.prog 92 #[.agg #[.string ⟨(G.map (·.1)).toArray⟩, .slice ao G.length cap], .int .u8 109, .int .i64 o] W' fun e w' => e = .returned (.int .i64 (numC G 109 o)) ∧ Below W'.heap.size W' w') := fun W' o h hE => gnum_any G hG hx ao cap 109 o W' h hE
  have NU101 : Hid (∀ W' o, GRow W' ao G → ErrIs W' → Calls Tryz.prog 92 #[.agg #[.string ⟨(G.map (·.1)).toArray⟩, .slice ao G.length cap], .int .u8 101, .int .i64 o] W' fun e w' => e = .returned (.int .i64 (numC G 101 o)) ∧ Below W'.heap.size W' w') := fun W' o h hE => gnum_any G hG hx ao cap 101 o W' h hE
  have NU100 : Hid (∀ W' o, GRow W' ao G → ErrIs W' → Calls Tryz.prog 92 #[.agg #[.string ⟨(G.map (·.1)).toArray⟩, .slice ao G.length cap], .int .u8 100, .int .i64 o] W' fun e w' => e = .returned (.int .i64 (numC G 100 o)) ∧ Below W'.heap.size W' w') := fun W' o h hE => gnum_any G hG hx ao cap 100 o W' h hE
  have NU73 : Hid (∀ W' o, GRow W' ao G → ErrIs W' → Calls Tryz.prog 92 #[.agg #[.string ⟨(G.map (·.1)).toArray⟩, .slice ao G.length cap], .int .u8 73, .int .i64 o] W' fun e w' => e = .returned (.int .i64 (numC G 73 o)) ∧ Below W'.heap.size W' w') := fun W' o h hE => gnum_any G hG hx ao cap 73 o W' h hE
  have NU72 : Hid (∀ W' o, GRow W' ao G → ErrIs W' → Calls Tryz.prog 92 #[.agg #[.string ⟨(G.map (·.1)).toArray⟩, .slice ao G.length cap], .int .u8 72, .int .i64 o] W' fun e w' => e = .returned (.int .i64 (numC G 72 o)) ∧ Below W'.heap.size W' w') := fun W' o h hE => gnum_any G hG hx ao cap 72 o W' h hE
  have NU77 : Hid (∀ W' o, GRow W' ao G → ErrIs W' → Calls Tryz.prog 92 #[.agg #[.string ⟨(G.map (·.1)).toArray⟩, .slice ao G.length cap], .int .u8 77, .int .i64 o] W' fun e w' => e = .returned (.int .i64 (numC G 77 o)) ∧ Below W'.heap.size W' w') := fun W' o h hE => gnum_any G hG hx ao cap 77 o W' h hE
  have NU83 : Hid (∀ W' o, GRow W' ao G → ErrIs W' → Calls Tryz.prog 92 #[.agg #[.string ⟨(G.map (·.1)).toArray⟩, .slice ao G.length cap], .int .u8 83, .int .i64 o] W' fun e w' => e = .returned (.int .i64 (numC G 83 o)) ∧ Below W'.heap.size W' w') := fun W' o h hE => gnum_any G hG hx ao cap 83 o W' h hE
  have NU106 : Hid (∀ W' o, GRow W' ao G → ErrIs W' → Calls Tryz.prog 92 #[.agg #[.string ⟨(G.map (·.1)).toArray⟩, .slice ao G.length cap], .int .u8 106, .int .i64 o] W' fun e w' => e = .returned (.int .i64 (numC G 106 o)) ∧ Below W'.heap.size W' w') := fun W' o h hE => gnum_any G hG hx ao cap 106 o W' h hE
  have hb0 := below_alloc1 W (.cells #[.string ⟨(G.map (·.1)).toArray⟩, .slice ao G.length cap] 91)
  obtain ⟨q0, q1⟩ := cells2_new W (.string ⟨(G.map (·.1)).toArray⟩) (.slice ao G.length cap) 91
  have hrl : ∀ (k : Nat) (p : UInt8 × Bs), G[k]? = some p → ∃ g0, ao = some ⟨g0, 0, none⟩ ∧ g0 < W.heap.size := fun k p hp => by
    obtain ⟨g0, h1, h2⟩ := hr k p hp
    exact ⟨g0, h1, cell_lt h2⟩
  have hlow : 5 < W.heap.size ∧ 6 < W.heap.size := by
    obtain ⟨⟨a, c, h1⟩, d, e, h2⟩ := hE
    exact ⟨cell_lt h1, cell_lt h2⟩
  have HR0 := Lib.hid (hr.below hb0)
  have HE0 := Lib.hid (hE.below hb0)
  have HP0 := Lib.hid (hP.below hb0)
  have HB0 := Lib.hid hb0
  rw [h115] at TX115
  simp only [Option.getD_none, Option.isSome_none] at TX115
  obtain ⟨R, hR⟩ : ∃ R, timeR G = R := ⟨_, rfl⟩
  rw [hR]
  have TRh := Lib.hid (fun h1 => (tr_h (G := G) h115 h1).symm.trans hR)
  have TRn := Lib.hid (fun ho h1 h2 => (tr_nj (G := G) h115 (ho := ho) h1 h2).symm.trans hR)
  have TRb := Lib.hid (fun ho h1 x h2 h3 => (tr_jb (G := G) h115 (ho := ho) h1 (x := x) h2 h3).symm.trans hR)
  have TRj := Lib.hid (fun ho h1 x h2 h3 => (tr_j (G := G) h115 (ho := ho) h1 (x := x) h2 h3).symm.trans hR)
  clear h115 hR hr hE hP hb0
  have HN := Lib.hid hN
  have HX := Lib.hid hx
  clear hx hN
  go_enter Tryz.func39, Tryz.ntmps39
  go_upto_if 59 with (first | (go_at_call 90; have HQ := TX115; clear TX115; refine (HQ.out _ HR0.out).mono ?_; clear HQ; rintro e w1 ⟨rfl, hb1⟩; have HS : Hid (GSt W (w1.alloc (.cells #[.int .i64 1970, .int .i64 1, .int .i64 1, .int .i64 0, .int .i64 0, .int .i64 0] 39)) G ao cap w1.heap.size 1970 1 1 0 0 0) := gst_new HR0.out HE0.out q0 q1 hb1 hrl hlow HB0.out; clear hb1; obtain ⟨d0, d1, d2, d3, d4, d5, dz, e0, e1⟩ := HS.out.facts) | (go_at_call 90; refine (TX121.out _ HS.out.grow).mono ?_; rintro e wt ⟨rfl, hbt⟩; have HS := Lib.hid (HS.out.next hbt); clear hbt; obtain ⟨d0, d1, d2, d3, d4, d5, dz, e0, e1⟩ := HS.out.facts))
  generalize hbb : w1.heap.size = b at *
  clear hbb
  obtain ⟨Y1, hY1⟩ : ∃ Y1 : Int, Y1 = (match gotT G 121 with
    | some _ => if 1900 + numC G 121 0 < 1969 then 1900 + numC G 121 0 + 100 else 1900 + numC G 121 0
    | none => 1970) := ⟨_, rfl⟩
  obtain ⟨Mb, hMb⟩ : ∃ Mb : Int, Mb = (match gotT G 98 with
    | some x => monthC x
    | none => 1) := ⟨_, rfl⟩
  obtain ⟨MB, hMB⟩ : ∃ MB : Int, MB = (match gotT G 66 with
    | some x => monthC x
    | none => Mb) := ⟨_, rfl⟩
  have n121 := HN.out.at 121 (by simp) 0 (by omega) (by omega)
  have bY1 : 0 ≤ Y1 ∧ Y1 ≤ 10000000 := by
    rw [hY1]
    cases gotT G 121 with
    | none => exact ⟨by show (0 : Int) ≤ 1970; omega, by show (1970 : Int) ≤ 10000000; omega⟩
    | some x =>
      show 0 ≤ (if 1900 + numC G 121 0 < 1969 then 1900 + numC G 121 0 + 100 else 1900 + numC G 121 0) ∧ (if 1900 + numC G 121 0 < 1969 then 1900 + numC G 121 0 + 100 else 1900 + numC G 121 0) ≤ 10000000
      by_cases hlt : 1900 + numC G 121 0 < 1969
      · rw [if_pos hlt]; omega
      · rw [if_neg hlt]; omega
  obtain ⟨Y, hY⟩ : ∃ Y, numC G 89 Y1 = Y := ⟨_, rfl⟩
  have hYR : yR G = Y := by rw [← hY, hY1]; rfl
  obtain ⟨M, hM⟩ : ∃ M, numC G 109 MB = M := ⟨_, rfl⟩
  have hMR : moR G = M := by rw [← hM, hMB, hMb]; rfl
  obtain ⟨D1, hD1⟩ : ∃ D1, numC G 101 1 = D1 := ⟨_, rfl⟩
  obtain ⟨D, hD⟩ : ∃ D, numC G 100 D1 = D := ⟨_, rfl⟩
  have hDR : daR G = D := by rw [← hD, ← hD1]; rfl
  obtain ⟨Mi, hMi⟩ : ∃ Mi, numC G 77 0 = Mi := ⟨_, rfl⟩
  obtain ⟨Se, hSe⟩ : ∃ Se, numC G 83 0 = Se := ⟨_, rfl⟩
  obtain ⟨j, hj⟩ : ∃ j, numC G 106 0 = j := ⟨_, rfl⟩
  have bY : 0 ≤ Y ∧ Y ≤ 10000000 := by
    rw [← hY]
    unfold numC
    cases hq : gotT G 89 with
    | none => exact bY1
    | some x => have := HN.out.1 89 (by simp) x hq; simp only; omega
  have bj := HN.out.at 106 (by simp) 0 (by omega) (by omega)
  rw [hj] at bj
  rw [hMi, hSe, hYR, hMR, hDR] at TRn
  rw [hYR, hj] at TRb
  rw [hYR, hj, hMi, hSe] at TRj
  clear hYR hMR hDR
  go_cut [9, 10] from 28 (fun _ _ wx => Hid (GSt W wx G ao cap b Y1 1 1 0 0 0))
  case first =>
    as_aux_lemma =>
      cases hq : gotT G 121 with
      | none =>
        rw [hq] at hY1
        simp only at hY1
        subst hY1
        go_wp2_with fail
        go_meet
        case rel => exact HS
      | some x =>
        rw [hq] at hY1
        simp only at hY1
        have hw1 : IntKind.i64.wrap (1900 + numC G 121 0) = 1900 + numC G 121 0 := IntWalk.i64_in _ (by omega)
        have hw2 : IntKind.i64.wrap (1900 + numC G 121 0 + 100) = 1900 + numC G 121 0 + 100 := IntWalk.i64_in _ (by omega)
        obtain ⟨n, hn⟩ : ∃ n, numC G 121 0 = n := ⟨_, rfl⟩
        rw [hn] at hw1 hw2 hY1 n121
        by_cases hlt : 1900 + n < 1969
        · have t1 : decide (1900 + n < 1969) = true := by rw [decide_eq_true_eq]; exact hlt
          rw [if_pos hlt] at hY1
          subst hY1
          go_wp2_with (go_at_call 92; refine (NU121.out _ _ HS.out.grow HS.out.err).mono ?_; rintro e wn ⟨rfl, hbn⟩; have HS := Lib.hid (HS.out.next hbn); clear hbn; obtain ⟨d0, d1, d2, d3, d4, d5, dz, e0, e1⟩ := HS.out.facts)
          go_meet
          case rel => exact Lib.hid ((HS.out.upd 0 _ rfl).upd 0 _ rfl)
        · have t1 : decide (1900 + n < 1969) = false := by rw [decide_eq_false_iff_not]; exact hlt
          rw [if_neg hlt] at hY1
          subst hY1
          go_wp2_with (go_at_call 92; refine (NU121.out _ _ HS.out.grow HS.out.err).mono ?_; rintro e wn ⟨rfl, hbn⟩; have HS := Lib.hid (HS.out.next hbn); clear hbn; obtain ⟨d0, d1, d2, d3, d4, d5, dz, e0, e1⟩ := HS.out.facts)
          go_meet
          case rel => exact Lib.hid (HS.out.upd 0 _ rfl)
  case rest =>
    have HS := hcut
    obtain ⟨d0, d1, d2, d3, d4, d5, dz, e0, e1⟩ := HS.out.facts
    clear hY1 n121
    go_upto_region 13 with fail
    go_cut [] from 28 (fun wx => Hid (GSt W wx G ao cap b Y 1 1 0 0 0))
    case first =>
      as_aux_lemma =>
        go_wp2_with (go_at_call 92; refine (NU89.out _ _ HS.out.grow HS.out.err).mono ?_; rintro e wn ⟨rfl, hbn⟩; have HS := Lib.hid (HS.out.next hbn); clear hbn; obtain ⟨d0, d1, d2, d3, d4, d5, dz, e0, e1⟩ := HS.out.facts)
        go_meet
        case rel => exact Lib.hid (HS.out.upd 0 _ rfl)
    case rest =>
      have HS := hcut
      obtain ⟨d0, d1, d2, d3, d4, d5, dz, e0, e1⟩ := HS.out.facts
      clear hY
      go_upto_if 81 with (go_at_call 90; refine (TX98.out _ HS.out.grow).mono ?_; rintro e wt ⟨rfl, hbt⟩; have HS := Lib.hid (HS.out.next hbt); clear hbt; obtain ⟨d0, d1, d2, d3, d4, d5, dz, e0, e1⟩ := HS.out.facts)
      go_cut [11, 12] from 28 (fun _ _ wx => Hid (GSt W wx G ao cap b Y Mb 1 0 0 0))
      case first =>
        as_aux_lemma =>
          cases hq : gotT G 98 with
          | none =>
            rw [hq] at hMb
            simp only at hMb
            subst hMb
            go_wp2_with fail
            go_meet
            case rel => exact HS
          | some x =>
            rw [hq] at hMb
            simp only at hMb
            have hxl := got_len HX.out hq
            obtain ⟨hx3, _, _⟩ := HN.out.2 98 (by simp) x hq
            have MO := Lib.hid (fun W' => month_any x hx3 hxl W')
            rw [← hMb] at MO
            clear hMb
            go_wp2_with (go_at_call 93; refine (MO.out _).mono ?_; rintro e wm ⟨rfl, hbm⟩; have HS := Lib.hid (HS.out.next hbm); clear hbm; obtain ⟨d0, d1, d2, d3, d4, d5, dz, e0, e1⟩ := HS.out.facts)
            go_meet
            case rel => exact Lib.hid (HS.out.upd 1 _ rfl)
      case rest =>
        have HS := hcut
        obtain ⟨d0, d1, d2, d3, d4, d5, dz, e0, e1⟩ := HS.out.facts
        clear hMb
        go_upto_if 90 with (go_at_call 90; refine (TX66.out _ HS.out.grow).mono ?_; rintro e wt ⟨rfl, hbt⟩; have HS := Lib.hid (HS.out.next hbt); clear hbt; obtain ⟨d0, d1, d2, d3, d4, d5, dz, e0, e1⟩ := HS.out.facts)
        go_cut [13, 14] from 28 (fun _ _ wx => Hid (GSt W wx G ao cap b Y MB 1 0 0 0))
        case first =>
          as_aux_lemma =>
            cases hq : gotT G 66 with
            | none =>
              rw [hq] at hMB
              simp only at hMB
              subst hMB
              go_wp2_with fail
              go_meet
              case rel => exact HS
            | some x =>
              rw [hq] at hMB
              simp only at hMB
              have hxl := got_len HX.out hq
              obtain ⟨hx3, _, _⟩ := HN.out.2 66 (by simp) x hq
              have MO := Lib.hid (fun W' => month_any x hx3 hxl W')
              rw [← hMB] at MO
              clear hMB
              go_wp2_with (go_at_call 93; refine (MO.out _).mono ?_; rintro e wm ⟨rfl, hbm⟩; have HS := Lib.hid (HS.out.next hbm); clear hbm; obtain ⟨d0, d1, d2, d3, d4, d5, dz, e0, e1⟩ := HS.out.facts)
              go_meet
              case rel => exact Lib.hid (HS.out.upd 1 _ rfl)
        case rest =>
          have HS := hcut
          obtain ⟨d0, d1, d2, d3, d4, d5, dz, e0, e1⟩ := HS.out.facts
          clear hMB
          go_upto_region 20 with fail
          go_cut [] from 28 (fun wx => Hid (GSt W wx G ao cap b Y M 1 0 0 0))
          case first =>
            as_aux_lemma =>
              go_wp2_with (go_at_call 92; refine (NU109.out _ _ HS.out.grow HS.out.err).mono ?_; rintro e wn ⟨rfl, hbn⟩; have HS := Lib.hid (HS.out.next hbn); clear hbn; obtain ⟨d0, d1, d2, d3, d4, d5, dz, e0, e1⟩ := HS.out.facts)
              go_meet
              case rel => exact Lib.hid (HS.out.upd 1 _ rfl)
          case rest =>
            have HS := hcut
            obtain ⟨d0, d1, d2, d3, d4, d5, dz, e0, e1⟩ := HS.out.facts
            clear hM
            go_upto_region 21 with fail
            go_cut [] from 28 (fun wx => Hid (GSt W wx G ao cap b Y M D1 0 0 0))
            case first =>
              as_aux_lemma =>
                go_wp2_with (go_at_call 92; refine (NU101.out _ _ HS.out.grow HS.out.err).mono ?_; rintro e wn ⟨rfl, hbn⟩; have HS := Lib.hid (HS.out.next hbn); clear hbn; obtain ⟨d0, d1, d2, d3, d4, d5, dz, e0, e1⟩ := HS.out.facts)
                go_meet
                case rel => exact Lib.hid (HS.out.upd 2 _ rfl)
            case rest =>
              have HS := hcut
              obtain ⟨d0, d1, d2, d3, d4, d5, dz, e0, e1⟩ := HS.out.facts
              clear hD1
              go_upto_region 22 with fail
              go_cut [] from 28 (fun wx => Hid (GSt W wx G ao cap b Y M D 0 0 0))
              case first =>
                as_aux_lemma =>
                  go_wp2_with (go_at_call 92; refine (NU100.out _ _ HS.out.grow HS.out.err).mono ?_; rintro e wn ⟨rfl, hbn⟩; have HS := Lib.hid (HS.out.next hbn); clear hbn; obtain ⟨d0, d1, d2, d3, d4, d5, dz, e0, e1⟩ := HS.out.facts)
                  go_meet
                  case rel => exact Lib.hid (HS.out.upd 2 _ rfl)
              case rest =>
                have HS := hcut
                obtain ⟨d0, d1, d2, d3, d4, d5, dz, e0, e1⟩ := HS.out.facts
                clear hD
                rcases ho_cases G with ⟨hh, x, h73, h72, hw⟩ | ⟨H1, hh, h73⟩
                · obtain rfl : R = (0, 7) := (TRh.out hh).symm
                  rw [h73] at TX73
                  rw [h72] at TX72
                  obtain ⟨h, hhh⟩ : ∃ h, numC G 73 0 = h := ⟨_, rfl⟩
                  have RI := Lib.hid (fun W' => rin_any (numC G 73 0) 1 12 W')
                  rw [hw] at RI
                  simp only [hhh] at RI
                  simp only [Option.getD_some, Option.isSome_some, Option.getD_none, Option.isSome_none] at TX73 TX72
                  go_wp2_with (first | (go_at_call 90; have HQ := TX73; clear TX73; refine (HQ.out _ HS.out.grow).mono ?_; rintro e wt ⟨rfl, hbt⟩; have HS := Lib.hid (HS.out.next hbt); clear hbt; obtain ⟨d0, d1, d2, d3, d4, d5, dz, e0, e1⟩ := HS.out.facts) | (go_at_call 90; refine (TX72.out _ HS.out.grow).mono ?_; rintro e wt ⟨rfl, hbt⟩; have HS := Lib.hid (HS.out.next hbt); clear hbt; obtain ⟨d0, d1, d2, d3, d4, d5, dz, e0, e1⟩ := HS.out.facts) | (go_at_call 92; refine (NU73.out _ _ HS.out.grow HS.out.err).mono ?_; rintro e wn ⟨rfl, hbn⟩; have HS := Lib.hid (HS.out.next hbn); clear hbn; obtain ⟨d0, d1, d2, d3, d4, d5, dz, e0, e1⟩ := HS.out.facts) | (go_at_call 50; refine (RI.out _).mono ?_; rintro e wi ⟨rfl, rfl⟩))
                  go_ret2
                  exact ⟨rfl, HS.out.below⟩
                · go_upto_if 114 with (go_at_call 90; refine (TX73.out _ HS.out.grow).mono ?_; rintro e wt ⟨rfl, hbt⟩; have HS := Lib.hid (HS.out.next hbt); clear hbt; obtain ⟨d0, d1, d2, d3, d4, d5, dz, e0, e1⟩ := HS.out.facts)
                  go_cut [15, 16] from 28 (fun _ _ wx => Hid (GSt W wx G ao cap b Y M D H1 0 0))
                  case first =>
                    as_aux_lemma =>
                      rcases h73 with ⟨h73, rfl⟩ | ⟨x, h73, hw, hH1⟩
                      · rw [h73]
                        go_wp2_with fail
                        go_meet
                        case rel => exact HS
                      · rw [h73]
                        have RI := Lib.hid (fun W' => rin_any (numC G 73 0) 1 12 W')
                        have b73 := HN.out.at 73 (by simp) 0 (by omega) (by omega)
                        rw [Int.tmod_eq_emod_of_nonneg b73.1] at hH1
                        obtain ⟨h, hhh⟩ : ∃ h, numC G 73 0 = h := ⟨_, rfl⟩
                        rw [hhh] at b73 hH1
                        simp only [hhh] at RI
                        have hm0 : 0 ≤ h % 12 ∧ h % 12 < 12 := by omega
                        have hwm : IntKind.i64.wrap (h % 12) = h % 12 := IntWalk.i64_in _ (by omega)
                        have hwm2 : IntKind.i64.wrap (h % 12 + 12) = h % 12 + 12 := IntWalk.i64_in _ (by omega)
                        have hx112 : ((gotT G 112).getD []).length ≤ 1000000 := by
                          cases hq : gotT G 112 with
                          | none => simp
                          | some y => exact got_len HX.out hq
                        have LO := Lib.hid (fun W' => rlow_any ((gotT G 112).getD []) hx112 W')
                        have hpme : (lowL ((gotT G 112).getD []) == [112, 109]) = decide (lowL ((gotT G 112).getD []) = pmL) := by rw [Bool.eq_iff_iff, beq_iff_eq, decide_eq_true_eq]; exact Iff.rfl
                        have hpq : (if lowL ((gotT G 112).getD []) = pmL then 12 else 0 : Int) = if decide (lowL ((gotT G 112).getD []) = pmL) = true then 12 else 0 := by simp
                        rw [hpq] at hH1
                        clear hpq
                        generalize decide (lowL ((gotT G 112).getD []) = pmL) = pm at *
                        generalize lowL ((gotT G 112).getD []) = lp at *
                        have hwn : gotT G 72 = none → winI (numC G 73 0) 1 12 = true := hw
                        rw [hhh] at hwn
                        clear hw hx112
                        cases h72 : gotT G 72 with
                        | none =>
                          rw [h72] at TX72
                          rw [hwn h72] at RI
                          clear hwn
                          cases pm with
                          | true =>
                            rw [if_pos rfl] at hH1
                            subst hH1
                            go_wp2_with (first | (go_at_call 92; refine (NU73.out _ _ HS.out.grow HS.out.err).mono ?_; rintro e wn ⟨rfl, hbn⟩; have HS := Lib.hid (HS.out.next hbn); clear hbn; obtain ⟨d0, d1, d2, d3, d4, d5, dz, e0, e1⟩ := HS.out.facts) | (go_at_call 90; have HQ := TX72; clear TX72; refine (HQ.out _ HS.out.grow).mono ?_; rintro e wt ⟨rfl, hbt⟩; have HS := Lib.hid (HS.out.next hbt); clear hbt; obtain ⟨d0, d1, d2, d3, d4, d5, dz, e0, e1⟩ := HS.out.facts) | (go_at_call 50; refine (RI.out _).mono ?_; rintro e wi ⟨rfl, rfl⟩) | (go_at_call 90; refine (TX112.out _ (HS.out.upd 3 _ rfl).grow).mono ?_; rintro e wt ⟨rfl, hbt⟩; have HS := Lib.hid ((HS.out.upd 3 _ rfl).next hbt); clear hbt; obtain ⟨d0, d1, d2, d3, d4, d5, dz, e0, e1⟩ := HS.out.facts) | (go_at_call 41; refine (LO.out _).mono ?_; rintro e wl ⟨rfl, hbl⟩; have HS := Lib.hid (HS.out.next hbl); clear hbl; obtain ⟨d0, d1, d2, d3, d4, d5, dz, e0, e1⟩ := HS.out.facts))
                            go_meet
                            case rel => exact Lib.hid (HS.out.upd 3 _ rfl)
                          | false =>
                            rw [if_neg (by decide), Int.add_zero] at hH1
                            subst hH1
                            go_wp2_with (first | (go_at_call 92; refine (NU73.out _ _ HS.out.grow HS.out.err).mono ?_; rintro e wn ⟨rfl, hbn⟩; have HS := Lib.hid (HS.out.next hbn); clear hbn; obtain ⟨d0, d1, d2, d3, d4, d5, dz, e0, e1⟩ := HS.out.facts) | (go_at_call 90; have HQ := TX72; clear TX72; refine (HQ.out _ HS.out.grow).mono ?_; rintro e wt ⟨rfl, hbt⟩; have HS := Lib.hid (HS.out.next hbt); clear hbt; obtain ⟨d0, d1, d2, d3, d4, d5, dz, e0, e1⟩ := HS.out.facts) | (go_at_call 50; refine (RI.out _).mono ?_; rintro e wi ⟨rfl, rfl⟩) | (go_at_call 90; refine (TX112.out _ (HS.out.upd 3 _ rfl).grow).mono ?_; rintro e wt ⟨rfl, hbt⟩; have HS := Lib.hid ((HS.out.upd 3 _ rfl).next hbt); clear hbt; obtain ⟨d0, d1, d2, d3, d4, d5, dz, e0, e1⟩ := HS.out.facts) | (go_at_call 41; refine (LO.out _).mono ?_; rintro e wl ⟨rfl, hbl⟩; have HS := Lib.hid (HS.out.next hbl); clear hbl; obtain ⟨d0, d1, d2, d3, d4, d5, dz, e0, e1⟩ := HS.out.facts))
                            go_meet
                            case rel => exact HS
                        | some y =>
                          rw [h72] at TX72
                          clear hwn
                          cases pm with
                          | true =>
                            rw [if_pos rfl] at hH1
                            subst hH1
                            go_wp2_with (first | (go_at_call 92; refine (NU73.out _ _ HS.out.grow HS.out.err).mono ?_; rintro e wn ⟨rfl, hbn⟩; have HS := Lib.hid (HS.out.next hbn); clear hbn; obtain ⟨d0, d1, d2, d3, d4, d5, dz, e0, e1⟩ := HS.out.facts) | (go_at_call 90; have HQ := TX72; clear TX72; refine (HQ.out _ HS.out.grow).mono ?_; rintro e wt ⟨rfl, hbt⟩; have HS := Lib.hid (HS.out.next hbt); clear hbt; obtain ⟨d0, d1, d2, d3, d4, d5, dz, e0, e1⟩ := HS.out.facts) | (go_at_call 50; refine (RI.out _).mono ?_; rintro e wi ⟨rfl, rfl⟩) | (go_at_call 90; refine (TX112.out _ (HS.out.upd 3 _ rfl).grow).mono ?_; rintro e wt ⟨rfl, hbt⟩; have HS := Lib.hid ((HS.out.upd 3 _ rfl).next hbt); clear hbt; obtain ⟨d0, d1, d2, d3, d4, d5, dz, e0, e1⟩ := HS.out.facts) | (go_at_call 41; refine (LO.out _).mono ?_; rintro e wl ⟨rfl, hbl⟩; have HS := Lib.hid (HS.out.next hbl); clear hbl; obtain ⟨d0, d1, d2, d3, d4, d5, dz, e0, e1⟩ := HS.out.facts))
                            go_meet
                            case rel => exact Lib.hid (HS.out.upd 3 _ rfl)
                          | false =>
                            rw [if_neg (by decide), Int.add_zero] at hH1
                            subst hH1
                            go_wp2_with (first | (go_at_call 92; refine (NU73.out _ _ HS.out.grow HS.out.err).mono ?_; rintro e wn ⟨rfl, hbn⟩; have HS := Lib.hid (HS.out.next hbn); clear hbn; obtain ⟨d0, d1, d2, d3, d4, d5, dz, e0, e1⟩ := HS.out.facts) | (go_at_call 90; have HQ := TX72; clear TX72; refine (HQ.out _ HS.out.grow).mono ?_; rintro e wt ⟨rfl, hbt⟩; have HS := Lib.hid (HS.out.next hbt); clear hbt; obtain ⟨d0, d1, d2, d3, d4, d5, dz, e0, e1⟩ := HS.out.facts) | (go_at_call 50; refine (RI.out _).mono ?_; rintro e wi ⟨rfl, rfl⟩) | (go_at_call 90; refine (TX112.out _ (HS.out.upd 3 _ rfl).grow).mono ?_; rintro e wt ⟨rfl, hbt⟩; have HS := Lib.hid ((HS.out.upd 3 _ rfl).next hbt); clear hbt; obtain ⟨d0, d1, d2, d3, d4, d5, dz, e0, e1⟩ := HS.out.facts) | (go_at_call 41; refine (LO.out _).mono ?_; rintro e wl ⟨rfl, hbl⟩; have HS := Lib.hid (HS.out.next hbl); clear hbl; obtain ⟨d0, d1, d2, d3, d4, d5, dz, e0, e1⟩ := HS.out.facts))
                            go_meet
                            case rel => exact HS
                  case rest =>
                    have HS := hcut
                    obtain ⟨d0, d1, d2, d3, d4, d5, dz, e0, e1⟩ := HS.out.facts
                    clear h73
                    obtain ⟨Hh, hHh⟩ : ∃ Hh, numC G 72 H1 = Hh := ⟨_, rfl⟩
                    rw [hHh] at hh
                    go_upto_region 33 with fail
                    go_cut [] from 28 (fun wx => Hid (GSt W wx G ao cap b Y M D Hh 0 0))
                    case first =>
                      as_aux_lemma =>
                        go_wp2_with (go_at_call 92; refine (NU72.out _ _ HS.out.grow HS.out.err).mono ?_; rintro e wn ⟨rfl, hbn⟩; have HS := Lib.hid (HS.out.next hbn); clear hbn; obtain ⟨d0, d1, d2, d3, d4, d5, dz, e0, e1⟩ := HS.out.facts)
                        go_meet
                        case rel => exact Lib.hid (HS.out.upd 3 _ rfl)
                    case rest =>
                      have HS := hcut
                      obtain ⟨d0, d1, d2, d3, d4, d5, dz, e0, e1⟩ := HS.out.facts
                      clear hHh
                      go_upto_region 34 with fail
                      go_cut [] from 28 (fun wx => Hid (GSt W wx G ao cap b Y M D Hh Mi Se))
                      case first =>
                        as_aux_lemma =>
                          clear hcut TX98 TX66 TX73 TX72 TX112 TX106 NU121 NU89 NU109 NU101 NU100 NU73 NU72 NU106 TRn TRb TRj TRh hh hj
                          go_region_with (first | (go_at_call 92; have HQ := NU77; clear NU77; refine (HQ.out _ _ (by first | exact HS.out.grow | exact HS.out.drew.grow) (by first | exact HS.out.err | exact HS.out.drew.err)).mono ?_; clear HQ; rintro e wn ⟨rfl, hbn⟩; have HS : Hid (GSt W wn G ao cap b Y M D Hh 0 0) := (by first | exact Lib.hid (HS.out.next hbn) | exact Lib.hid (HS.out.drew.next hbn)); clear hbn; obtain ⟨d0, d1, d2, d3, d4, d5, dz, e0, e1⟩ := HS.out.facts) | (go_at_call 92; have HQ := NU83; refine (HQ.out _ _ (by first | exact HS.out.grow | exact HS.out.drew.grow) (by first | exact HS.out.err | exact HS.out.drew.err)).mono ?_; clear HQ; rintro e wn ⟨rfl, hbn⟩; have HS : Hid (GSt W wn G ao cap b Y M D Hh 0 0) := (by first | exact Lib.hid (HS.out.next hbn) | exact Lib.hid (HS.out.drew.next hbn)); clear hbn; obtain ⟨d0, d1, d2, d3, d4, d5, dz, e0, e1⟩ := HS.out.facts))
                          all_goals (go_wp2_with fail; go_meet; first | exact Lib.hid ((HS.out.upd 4 _ rfl).upd 5 _ rfl) | exact Lib.hid ((HS.out.upd 5 _ rfl).upd 4 _ rfl) | exact Lib.hid ((HS.out.drew.upd 4 _ rfl).upd 5 _ rfl) | exact Lib.hid ((HS.out.drew.upd 5 _ rfl).upd 4 _ rfl))
                      case rest =>
                        have HS := hcut
                        obtain ⟨d0, d1, d2, d3, d4, d5, dz, e0, e1⟩ := HS.out.facts
                        clear hMi hSe
                        clear TX98 TX66 TX73 TX72 TX112 NU121 NU89 NU109 NU101 NU100 NU73 NU72 NU77 NU83
                        cases h106 : gotT G 106 with
                        | none =>
                          as_aux_lemma =>
                            rw [h106] at TX106
                            simp only [Option.getD_some, Option.isSome_some, Option.getD_none, Option.isSome_none] at TX106
                            have hT : R = tmE (timeC Y M D Hh Mi Se) := (TRn.out Hh hh h106).symm
                            clear TRn TRb TRj TRh h106 hj
                            have RTm := Lib.hid (fun W' => rTime_any Y M D Hh Mi Se W')
                            rw [tm_plain] at hT
                            cases hv : validB Y M D Hh Mi Se with
                            | true =>
                              have e1 : timeC Y M D Hh Mi Se = (timeI Y M D Hh Mi Se, 0) := by unfold timeC; rw [if_pos hv]; rfl
                              rw [e1] at RTm
                              rw [if_pos hv] at hT
                              subst hT
                              clear e1 hv
                              obtain ⟨T, hT9⟩ : ∃ T, timeI Y M D Hh Mi Se = T := ⟨_, rfl⟩
                              rw [hT9] at RTm
                              go_wp2_with (first | (go_at_call 90; refine (TX106.out _ HS.out.grow).mono ?_; rintro e wt ⟨rfl, hbt⟩; have HS := Lib.hid (HS.out.next hbt); clear hbt; obtain ⟨d0, d1, d2, d3, d4, d5, dz, e0, e1⟩ := HS.out.facts) | (go_at_call 95; refine (RTm.out _).mono ?_; rintro e wz ⟨rfl, hbz⟩; have HZ := Lib.hid (HS.out.below.trans (hbz.mono HS.out.below.size)); clear hbz))
                              go_ret2
                              exact ⟨by first | rfl | (rw [hT9]; rfl) | (simp only [hT9]; rfl), HZ.out⟩
                            | false =>
                              have e1 : timeC Y M D Hh Mi Se = (0, 1) := by unfold timeC; rw [if_neg (by rw [hv]; decide)]
                              rw [e1] at RTm
                              rw [if_neg (by rw [hv]; decide)] at hT
                              subst hT
                              clear e1 hv
                              go_wp2_with (first | (go_at_call 90; refine (TX106.out _ HS.out.grow).mono ?_; rintro e wt ⟨rfl, hbt⟩; have HS := Lib.hid (HS.out.next hbt); clear hbt; obtain ⟨d0, d1, d2, d3, d4, d5, dz, e0, e1⟩ := HS.out.facts) | (go_at_call 95; refine (RTm.out _).mono ?_; rintro e wz ⟨rfl, hbz⟩; have HZ := Lib.hid (HS.out.below.trans (hbz.mono HS.out.below.size)); clear hbz))
                              go_ret2
                              exact ⟨rfl, HZ.out⟩
                        | some x =>
                          rw [h106] at TX106
                          simp only [Option.getD_some, Option.isSome_some, Option.getD_none, Option.isSome_none] at TX106
                          have RI1 := Lib.hid (fun W' => rin_any Y 1 9999 W')
                          have RW := Lib.hid (fun W' => rwhole_any Y bY.1 W')
                          have RI2 := Lib.hid (fun W' => rin_any j 1 (365 + leap1 Y) W')
                          by_cases hgood : winI Y 1 9999 = true ∧ winI j 1 (365 + leap1 Y) = true
                          · have hT : R = tmE (timeC Y (dateC (dayJ Y j)).m (dateC (dayJ Y j)).d Hh Mi Se) := (TRj.out Hh hh x h106 hgood).symm
                            rw [hgood.1] at RI1
                            rw [hgood.2] at RI2
                            have hg1 := hgood.1
                            have hg2 := hgood.2
                            simp only [winI, Bool.and_eq_true, decide_eq_true_eq] at hg1 hg2
                            have NB := Lib.hid (fun W' => rnumber_any Y 1 1 (by omega) (by omega) (by omega) (by omega) (by omega) (by omega) W')
                            have hdn : dayNo Y 1 1 = bef Y := by unfold dayNo; rw [cum_one]; omega
                            have hbf := bef_far hg1.1
                            rw [bef_one] at hbf
                            have hl1 := leap1_le Y
                            obtain ⟨X, hX⟩ : ∃ X, dateC (dayJ Y j) = X := ⟨_, rfl⟩
                            have DTt := fun W' => rdate_any (dayJ Y j) (by unfold dayJ; omega) (by unfold dayJ; omega) W'
                            rw [hX] at DTt hT
                            unfold dayJ at DTt
                            generalize dayNo Y 1 1 = dn at *
                            obtain ⟨Xy, Xm, Xd, Xh, Xi, Xs⟩ := X
                            simp only at hT
                            have DT' : Hid (∀ W', Calls Tryz.prog 25 #[.int .i64 (-62135596800 + (dn + j - 1) * 86400)] W' fun e w' => e = .returned (.agg #[.int .i64 Xy, .int .i64 Xm, .int .i64 Xd, .int .i64 Xh, .int .i64 Xi, .int .i64 Xs]) ∧ Below W'.heap.size W' w') := DTt
                            have hv1 : IntKind.i64.wrap (dn + j) = dn + j := IntWalk.i64_in _ (by omega)
                            have hv2 : IntKind.i64.wrap (dn + j - 1) = dn + j - 1 := IntWalk.i64_in _ (by omega)
                            have hv3 : IntKind.i64.wrap ((dn + j - 1) * 86400) = (dn + j - 1) * 86400 := IntWalk.i64_in _ (by omega)
                            have hv4 : IntKind.i64.wrap (-62135596800 + (dn + j - 1) * 86400) = -62135596800 + (dn + j - 1) * 86400 := IntWalk.i64_in _ (by omega)
                            clear TRn TRb TRj TRh h106 hX DTt hdn hbf hl1 hgood hg1 hg2
                            go_upto_region 41 with (first | (go_at_call 90; refine (TX106.out _ HS.out.grow).mono ?_; rintro e wt ⟨rfl, hbt⟩; have HS := Lib.hid (HS.out.next hbt); clear hbt; obtain ⟨d0, d1, d2, d3, d4, d5, dz, e0, e1⟩ := HS.out.facts) | (go_at_call 92; refine (NU106.out _ _ HS.out.grow HS.out.err).mono ?_; rintro e wn ⟨rfl, hbn⟩; have HS := Lib.hid (HS.out.next hbn); clear hbn; obtain ⟨d0, d1, d2, d3, d4, d5, dz, e0, e1⟩ := HS.out.facts) | (go_at_call 50; first | (have HQ := RI1; clear RI1; refine (HQ.out _).mono ?_; clear HQ; rintro e wi ⟨rfl, rfl⟩) | (refine (RI2.out _).mono ?_; rintro e wi ⟨rfl, rfl⟩)) | (go_at_call 54; refine (RW.out _).mono ?_; rintro e wi ⟨rfl, rfl⟩) | (go_at_call 94; refine (NB.out _).mono ?_; rintro e wi ⟨rfl, rfl⟩) | (go_at_call 25; refine (DT'.out _).mono ?_; rintro e wd ⟨rfl, hbd⟩; have HS0 := Lib.hid (HS.out.next hbd); have hlt := cell_lt HS0.out.facts.1; have HS := Lib.hid (HS0.out.next (below_alloc1 wd (.cells #[.int .i64 Xy, .int .i64 Xm, .int .i64 Xd, .int .i64 Xh, .int .i64 Xi, .int .i64 Xs] 39))); obtain ⟨q0, q1, q2, q3, q4, q5, qz, q6, q7⟩ := HS0.out.facts; clear hbd; obtain ⟨d0, d1, d2, d3, d4, d5, dz, e0, e1⟩ := HS.out.facts; obtain ⟨x0, x1, x2, x3, x4, x5⟩ := cells6_new wd (.int .i64 Xy) (.int .i64 Xm) (.int .i64 Xd) (.int .i64 Xh) (.int .i64 Xi) (.int .i64 Xs) 39))
                            have hbne : ¬ b = wd.heap.size := by intro e; rw [e] at hlt; exact Nat.lt_irrefl _ hlt
                            have hbne2 : ¬ wd.heap.size = b := fun e => hbne e.symm
                            go_cut [] from 28 (fun wx => Hid (GSt W wx G ao cap b Y Xm Xd Hh Mi Se))
                            case first =>
                              go_region
                              all_goals (go_wp2_with fail; go_meet; first | exact Lib.hid (((HS0.out.upd 1 _ rfl).upd 2 _ rfl).next (below_alloc1 _ _)) | exact Lib.hid ((((HS0.out.upd 1 _ rfl).upd 2 _ rfl).next (below_alloc1 _ _)).drew) | exact Lib.hid (((HS0.out.upd 2 _ rfl).upd 1 _ rfl).next (below_alloc1 _ _)) | exact Lib.hid ((((HS0.out.upd 2 _ rfl).upd 1 _ rfl).next (below_alloc1 _ _)).drew) | exact Lib.hid (((HS0.out.drew.upd 1 _ rfl).upd 2 _ rfl).next (below_alloc1 _ _)) | exact Lib.hid ((((HS0.out.drew.upd 1 _ rfl).upd 2 _ rfl).next (below_alloc1 _ _)).drew) | exact Lib.hid (((HS0.out.drew.upd 2 _ rfl).upd 1 _ rfl).next (below_alloc1 _ _)) | exact Lib.hid ((((HS0.out.drew.upd 2 _ rfl).upd 1 _ rfl).next (below_alloc1 _ _)).drew) | exact Lib.hid ((HS.out.upd 1 _ rfl).upd 2 _ rfl) | exact Lib.hid (((HS.out.upd 1 _ rfl).upd 2 _ rfl).drew) | exact Lib.hid ((HS.out.upd 2 _ rfl).upd 1 _ rfl) | exact Lib.hid (((HS.out.upd 2 _ rfl).upd 1 _ rfl).drew) | exact Lib.hid ((HS.out.drew.upd 1 _ rfl).upd 2 _ rfl) | exact Lib.hid (((HS.out.drew.upd 1 _ rfl).upd 2 _ rfl).drew) | exact Lib.hid ((HS.out.drew.upd 2 _ rfl).upd 1 _ rfl) | exact Lib.hid (((HS.out.drew.upd 2 _ rfl).upd 1 _ rfl).drew))
                            case rest =>
                              as_aux_lemma =>
                                have HS := hcut
                                obtain ⟨d0, d1, d2, d3, d4, d5, dz, e0, e1⟩ := HS.out.facts
                                have RTm := Lib.hid (fun W' => rTime_any Y Xm Xd Hh Mi Se W')
                                rw [tm_plain] at hT
                                cases hv : validB Y Xm Xd Hh Mi Se with
                                | true =>
                                  have e1 : timeC Y Xm Xd Hh Mi Se = (timeI Y Xm Xd Hh Mi Se, 0) := by unfold timeC; rw [if_pos hv]; rfl
                                  rw [e1] at RTm
                                  rw [if_pos hv] at hT
                                  subst hT
                                  clear e1 hv
                                  obtain ⟨T, hT9⟩ : ∃ T, timeI Y Xm Xd Hh Mi Se = T := ⟨_, rfl⟩
                                  rw [hT9] at RTm
                                  go_wp2_with (first | (go_at_call 95; refine (RTm.out _).mono ?_; rintro e wz ⟨rfl, hbz⟩; have HZ := Lib.hid (HS.out.below.trans (hbz.mono HS.out.below.size)); clear hbz))
                                  go_ret2
                                  exact ⟨by first | rfl | (rw [hT9]; rfl) | (simp only [hT9]; rfl), HZ.out⟩
                                | false =>
                                  have e1 : timeC Y Xm Xd Hh Mi Se = (0, 1) := by unfold timeC; rw [if_neg (by rw [hv]; decide)]
                                  rw [e1] at RTm
                                  rw [if_neg (by rw [hv]; decide)] at hT
                                  subst hT
                                  clear e1 hv
                                  go_wp2_with (first | (go_at_call 95; refine (RTm.out _).mono ?_; rintro e wz ⟨rfl, hbz⟩; have HZ := Lib.hid (HS.out.below.trans (hbz.mono HS.out.below.size)); clear hbz))
                                  go_ret2
                                  exact ⟨rfl, HZ.out⟩
                          · obtain rfl : R = (0, 7) := (TRb.out Hh hh x h106 hgood).symm
                            clear TRn TRb TRj TRh h106
                            cases hy : winI Y 1 9999 with
                            | false =>
                              rw [hy] at RI1
                              go_wp2_with (first | (go_at_call 90; refine (TX106.out _ HS.out.grow).mono ?_; rintro e wt ⟨rfl, hbt⟩; have HS := Lib.hid (HS.out.next hbt); clear hbt; obtain ⟨d0, d1, d2, d3, d4, d5, dz, e0, e1⟩ := HS.out.facts) | (go_at_call 92; refine (NU106.out _ _ HS.out.grow HS.out.err).mono ?_; rintro e wn ⟨rfl, hbn⟩; have HS := Lib.hid (HS.out.next hbn); clear hbn; obtain ⟨d0, d1, d2, d3, d4, d5, dz, e0, e1⟩ := HS.out.facts) | (go_at_call 50; refine (RI1.out _).mono ?_; rintro e wi ⟨rfl, rfl⟩))
                              go_ret2
                              exact ⟨rfl, HS.out.below⟩
                            | true =>
                              rw [hy] at RI1
                              have hj2 : winI j 1 (365 + leap1 Y) = false := by
                                cases hq : winI j 1 (365 + leap1 Y) with
                                | false => rfl
                                | true => exact absurd ⟨hy, hq⟩ hgood
                              rw [hj2] at RI2
                              clear hgood
                              go_wp2_with (first | (go_at_call 90; refine (TX106.out _ HS.out.grow).mono ?_; rintro e wt ⟨rfl, hbt⟩; have HS := Lib.hid (HS.out.next hbt); clear hbt; obtain ⟨d0, d1, d2, d3, d4, d5, dz, e0, e1⟩ := HS.out.facts) | (go_at_call 92; refine (NU106.out _ _ HS.out.grow HS.out.err).mono ?_; rintro e wn ⟨rfl, hbn⟩; have HS := Lib.hid (HS.out.next hbn); clear hbn; obtain ⟨d0, d1, d2, d3, d4, d5, dz, e0, e1⟩ := HS.out.facts) | (go_at_call 50; first | (have HQ := RI1; clear RI1; refine (HQ.out _).mono ?_; clear HQ; rintro e wi ⟨rfl, rfl⟩) | (refine (RI2.out _).mono ?_; rintro e wi ⟨rfl, rfl⟩)) | (go_at_call 54; refine (RW.out _).mono ?_; rintro e wi ⟨rfl, rfl⟩))
                              go_ret2
                              exact ⟨rfl, HS.out.below⟩
theorem gtime_any (G : GotL) (hG : G.length ≤ 1000) (hx : ∀ p ∈ G, p.2.length ≤ 1000000) (hN : Nums G) (ao : Option Addr) (cap : Nat) (W : World) (hr : GRow W ao G) (hE : ErrIs W) (hP : PowIs W) :
    Calls Tryz.prog 39 #[.agg #[.string ⟨(G.map (·.1)).toArray⟩, .slice ao G.length cap]] W fun e w' => e = .returned (.tuple #[.int .i64 (timeR G).1, .int .i64 (timeR G).2]) ∧ Below W.heap.size W w' := by
  cases h : gotT G 115 with
  | some x => exact gtime_s G h hG hx hN ao cap W hr hE hP
  | none => exact gtime_n G h hG hx hN ao cap W hr hE hP
end Go.Proofs.YtkahakhhdiffcaaGreatDoor
