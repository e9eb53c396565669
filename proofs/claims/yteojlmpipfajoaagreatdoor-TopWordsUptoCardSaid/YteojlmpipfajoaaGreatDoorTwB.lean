/- The reader of scripts: what stands between braces. -/
import Derived.Test.YteojlmpipfajoaaGreatDoorTwR3
import Derived.Test.YteojlmpipfajoaaGreatDoorLQuote
namespace Go.Proofs.YteojlmpipfajoaaGreatDoor
set_option linter.unusedVariables false
set_option linter.unusedSimpArgs false
open Go.RowKit
theorem at_byte {s l : Bs} {i : Nat} (h : s.drop i = l) {k : Nat} (hk : k < l.length) : ∃ h : i + k < s.length, s[i + k] = l[k] := by
  subst h
  rw [List.length_drop] at hk
  exact ⟨by omega, by rw [List.getElem_drop]⟩
theorem drop_more {s a b : Bs} {i : Nat} (h : s.drop i = a ++ b) : s.drop (i + a.length) = b := by
  rw [← List.drop_drop, h, List.drop_left]
/-- What the loop keeps: ahead of the brace, or within it. -/
def BrI (x : Bs) (i j : Nat) (d : Int) : Prop := (j = i ∧ d = 0) ∨ ∃ m dd : Nat, j = i + 1 + m ∧ m ≤ x.length ∧ d = (dd : Int) + 1 ∧ dd ≤ m ∧ balF (x.drop m) dd = true
section
variable {rb i : Nat} {s x R : Bs}
theorem rd_put {w wr : World} {j : Nat} (h1 : Rd wr rb s j) (h2 : Kp [rb] w wr) (n : Nat) (e : Int) (J : Nat) (he : e = (J : Int)) (hJ : J ≤ s.length) : Rd ((wr.drewN n).setCell ⟨rb, 1, none⟩ (.int .i64 e)) rb s J ∧ Kp [rb] w ((wr.drewN n).setCell ⟨rb, 1, none⟩ (.int .i64 e)) := by
  subst he
  exact ⟨(h1.drewN n).step J hJ, (h2.drewN n).setCell rb 1 _ (.inl (by simp))⟩
theorem rd_put2 {w wr : World} {j : Nat} (h1 : Rd wr rb s j) (h2 : Kp [rb] w wr) (n : Nat) (e0 e : Int) (J : Nat) (he : e = (J : Int)) (hJ : J ≤ s.length) : Rd (((wr.drewN n).setCell ⟨rb, 1, none⟩ (.int .i64 e0)).setCell ⟨rb, 1, none⟩ (.int .i64 e)) rb s J ∧ Kp [rb] w (((wr.drewN n).setCell ⟨rb, 1, none⟩ (.int .i64 e0)).setCell ⟨rb, 1, none⟩ (.int .i64 e)) := by
  subst he
  have h3 : Rd ((wr.drewN n).setCell ⟨rb, 1, none⟩ (.int .i64 e0)) rb s j → Rd (((wr.drewN n).setCell ⟨rb, 1, none⟩ (.int .i64 e0)).setCell ⟨rb, 1, none⟩ (.int .i64 (J : Int))) rb s J := fun h => h.step J hJ
  refine ⟨?_, ((h2.drewN n).setCell rb 1 _ (.inl (by simp))).setCell rb 1 _ (.inl (by simp))⟩
  have h0 := (h1.drewN n).h
  unfold RdO at h0
  have h4 := heap_setCell_same (wr.drewN n) rb 1 _ _ (.int .i64 e0) h0
  exact ⟨heap_setCell_same _ rb 1 _ _ (.int .i64 (J : Int)) h4, hJ, h1.len⟩
set_option maxRecDepth 100000 in
set_option maxHeartbeats 1600000 in
theorem brace_any {w : World} (h : Rd w rb s i) (hd : s.drop i = 123 :: (x ++ 125 :: R)) (hx : balF x 0 = true) :
    Calls Tryz.prog 101 #[.pointer (some ⟨rb, 0, none⟩)] w fun e w' => e = .returned (.string ⟨x.toArray⟩) ∧ Rd w' rb s (i + x.length + 2) ∧ Kp [rb] w w' := by
  have H0 := Lib.hid h
  have HD := Lib.hid hd
  have HX := Lib.hid hx
  have hlen := h.len
  obtain ⟨c0, c1, -, -, -, fz⟩ := h.f
  have hsl : i + x.length + 2 ≤ s.length := by
    have := congrArg List.length hd
    simp at this
    omega
  clear h hd hx
  go_enter Tryz.func101, Tryz.ntmps101
  go_wp2_with fail
  go_loopg [4] (x.length + 2) (fun g d wr => ∃ (j : Nat) (dd : Int), j + g = i + x.length + 2 ∧ d = .int .i64 dd ∧ Hid (BrI x i j dd ∧ Rd wr rb s j ∧ Kp [rb] w wr))
  case atStart => exact ⟨i, 0, by omega, rfl, .inl ⟨rfl, rfl⟩, H0.out, Kp.refl _ _⟩
  case round =>
    obtain ⟨j, d, hjg, rfl, HR⟩ := hrel
    have hle := HR.out.2.1.le
    clear c0 c1 fz
    obtain ⟨c0, c1, -, -, -, fz⟩ := HR.out.2.1.f
    rcases HR.out.1 with ⟨rfl, rfl⟩ | ⟨m, dd, rfl, hm, rfl, hdm, hb⟩
    · obtain ⟨hjl, hsj⟩ := at_byte HD.out (k := 0) (by simp)
      simp only [Nat.add_zero, List.getElem_cons_zero] at hjl hsj
      have EN := Lib.hid (end_no HR.out.2.1 hjl)
      have hb1 : (j : Int) < (s.length : Int) := by omega
      have hb0 : (0 : Int) ≤ (j : Int) := by omega
      go_wp2_with (go_at_call 47; refine EN.out.mono ?_; rintro e w1 ⟨rfl, m1, rfl⟩)
      go_quiet (fail)
      go_wp2_with fail
      go_roundg (gk - 1)
      case measure => omega
      case rel => exact ⟨j + 1, 1, by omega, rfl, .inr ⟨0, 0, by omega, Nat.zero_le _, rfl, Nat.le_refl _, HX.out⟩, rd_put HR.out.2.1 HR.out.2.2 _ _ (j + 1) (by omega) (by omega)⟩
    · have hjl : i + 1 + m < s.length := by omega
      have EN := Lib.hid (end_no HR.out.2.1 hjl)
      have hb1 : ((i + 1 + m : Nat) : Int) < (s.length : Int) := by omega
      have hb0 : (0 : Int) ≤ ((i + 1 + m : Nat) : Int) := by omega
      obtain ⟨j, hj⟩ : ∃ j, i + 1 + m = j := ⟨_, rfl⟩
      simp only [hj] at EN hb1 hb0 c1
      have HR1 : Hid (Rd wr rb s j ∧ Kp [rb] w wr) := by rw [← hj]; exact HR.out.2
      have hjl2 : j < s.length := by omega
      have hjm : j + gk = i + x.length + 2 := by omega
      rcases Nat.lt_or_ge m x.length with hmx | hmx
      · obtain ⟨hq, hsj⟩ := at_byte HD.out (k := 1 + m) (by simp; omega)
        have hsj1 : s[j] = x[m] := by
          have e : i + (1 + m) = j := by omega
          simp only [e] at hsj
          rw [hsj]
          rw [show (123 :: (x ++ 125 :: R))[1 + m]'(by simp; omega) = (x ++ 125 :: R)[m]'(by simp; omega) from by simp [Nat.add_comm 1 m]]
          exact List.getElem_append_left hmx
        clear hsj hq
        by_cases h92 : x[m] = 92
        · have hbe := bal_esc (d := dd) hmx h92
          rw [hb] at hbe
          have hm1 : m + 1 < x.length := by
            rcases Nat.lt_or_ge (m + 1) x.length with h | h
            · exact h
            · rw [dif_neg (by omega)] at hbe; cases hbe
          rw [dif_pos hm1] at hbe
          have hsj2 : s[j] = 92 := hsj1.trans h92
          have HB := Lib.hid hbe
          clear hsj1 h92 hb hbe hj
          go_wp2_with (go_at_call 47; refine EN.out.mono ?_; rintro e w1 ⟨rfl, m1, rfl⟩)
          go_quiet (fail)
          go_wp2_with fail
          go_roundg (gk - 2)
          case measure => omega
          case rel => exact ⟨j + 2, _, by omega, rfl, .inr ⟨m + 2, dd, by omega, by omega, rfl, by omega, HB.out.symm⟩, rd_put2 HR1.out.1 HR1.out.2 _ _ _ (j + 2) (by omega) (by omega)⟩
        · by_cases h123 : x[m] = 123
          · have hbe := bal_open (d := dd) hmx h123
            rw [hb] at hbe
            have hsj2 : s[j] = 123 := hsj1.trans h123
            have HB := Lib.hid hbe
            clear hsj1 h92 h123 hb hbe hj
            go_wp2_with (go_at_call 47; refine EN.out.mono ?_; rintro e w1 ⟨rfl, m1, rfl⟩)
            go_quiet (fail)
            go_wp2_with fail
            go_roundg (gk - 1)
            case measure => omega
            case rel => exact ⟨j + 1, _, by omega, rfl, .inr ⟨m + 1, dd + 1, by omega, by omega, by omega, by omega, HB.out.symm⟩, rd_put HR1.out.1 HR1.out.2 _ _ (j + 1) (by omega) (by omega)⟩
          · by_cases h125 : x[m] = 125
            · have hbe := bal_close (d := dd) hmx h125
              rw [hb] at hbe
              have hd0 : dd ≠ 0 := by
                intro e
                rw [if_pos e] at hbe
                cases hbe
              rw [if_neg hd0] at hbe
              have hsj2 : s[j] = 125 := hsj1.trans h125
              have HB := Lib.hid hbe
              have hd1 : ((dd : Int) + 1 - 1 == 0) = false := by rw [beq_eq_false_iff_ne]; omega
              have hd2 : ((dd : Int) == 0) = false := by rw [beq_eq_false_iff_ne]; omega
              clear hsj1 h92 h123 h125 hb hbe hj
              go_wp2_with (go_at_call 47; refine EN.out.mono ?_; rintro e w1 ⟨rfl, m1, rfl⟩)
              go_quiet (fail)
              go_wp2_with fail
              go_roundg (gk - 1)
              case measure => omega
              case rel => exact ⟨j + 1, _, by omega, rfl, .inr ⟨m + 1, dd - 1, by omega, by omega, by omega, by omega, HB.out.symm⟩, rd_put HR1.out.1 HR1.out.2 _ _ (j + 1) (by omega) (by omega)⟩
            · have hbe := bal_lit (d := dd) hmx h92 h123 h125
              rw [hb] at hbe
              have HB := Lib.hid hbe
              obtain ⟨c, hc⟩ : ∃ c, x[m] = c := ⟨_, rfl⟩
              rw [hc] at hsj1 h92 h123 h125
              have tne : ∀ v : UInt8, c ≠ v → ((c.toNat : Int) == (v.toNat : Int)) = false := fun v hv => by
                rw [beq_eq_false_iff_ne]
                intro e
                exact hv (UInt8.toNat_inj.1 (by exact_mod_cast e))
              have q1 : ((c.toNat : Int) == 92) = false := tne 92 h92
              have q2 : ((c.toNat : Int) == 123) = false := tne 123 h123
              have q3 : ((c.toNat : Int) == 125) = false := tne 125 h125
              have hsj2 : s[j] = c := hsj1
              clear tne hsj1 h92 h123 h125 hb hbe hj hc
              go_wp2_with (go_at_call 47; refine EN.out.mono ?_; rintro e w1 ⟨rfl, m1, rfl⟩)
              go_quiet (fail)
              go_wp2_with fail
              go_roundg (gk - 1)
              case measure => omega
              case rel => exact ⟨j + 1, _, by omega, rfl, .inr ⟨m + 1, dd, by omega, by omega, by omega, by omega, HB.out.symm⟩, rd_put HR1.out.1 HR1.out.2 _ _ (j + 1) (by omega) (by omega)⟩
      · obtain rfl : m = x.length := by omega
        obtain ⟨hq, hsj⟩ := at_byte HD.out (k := 1 + x.length) (by simp; omega)
        have hsj1 : s[j] = 125 := by
          have e : i + (1 + x.length) = j := by omega
          simp only [e] at hsj
          rw [hsj]
          rw [show (123 :: (x ++ 125 :: R))[1 + x.length]'(by simp; omega) = (x ++ 125 :: R)[x.length]'(by simp) from by simp [Nat.add_comm 1 x.length]]
          simp
        clear hsj hq
        have hd0 : dd = 0 := by
          rw [List.drop_length, balF] at hb
          simpa using hb
        subst hd0
        have hts : (⟨s.toArray⟩ : ByteArray).extract (i + 1) j = ⟨x.toArray⟩ := by
          rw [ba_extract]
          have e1 : s.drop (i + 1) = x ++ 125 :: R := by rw [← List.drop_drop, HD.out]; rfl
          rw [e1, show j - (i + 1) = x.length by omega, List.take_left]
        have HT := Lib.hid hts
        have HJ := Lib.hid hj
        have i1 : (0 : Int) ≤ (i : Int) + 1 := by omega
        have i2 : (i : Int) + 1 ≤ (j : Int) := by omega
        have i3 : (j : Int) ≤ (s.length : Int) := by omega
        clear hts hb hj
        go_wp2_with (go_at_call 47; refine EN.out.mono ?_; rintro e w1 ⟨rfl, m1, rfl⟩)
        go_quiet (fail)
        go_wp2_with fail
        go_quiet (fail)
        go_wp2_with fail
        go_ret
        have h9 := HT.out
        rw [ba_extract] at h9
        have h8 := fun n => rd_put HR1.out.1 HR1.out.2 n ((j : Int) + 1) (i + x.length + 2) (by have := HJ.out; omega) (by omega)
        exact ⟨by rw [h9]; rfl, (h8 _).1.drewN _, (h8 _).2.drewN _⟩
end
end Go.Proofs.YteojlmpipfajoaaGreatDoor
