/- The reference's Read. -/
import Derived.Test.YtkahakhhdiffcaaGreatDoorCRdJ
import Derived.Test.YtkahakhhdiffcaaGreatDoorCRdH
import Derived.Test.YtkahakhhdiffcaaGreatDoorCRWrt
import Derived.Test.YtkahakhhdiffcaaGreatDoorCRdB
import Derived.Deep.RegionHeld3
namespace Go.Proofs.YtkahakhhdiffcaaGreatDoor
set_option linter.unusedVariables false
set_option linter.unusedSimpArgs false
open Go.RowKit Go.Shelf
theorem timeR_two (G : GotL) : (timeR G).2 = 0 ∨ timeR G = (0, 7) := by
  have ht : ∀ p : Int × Int, (tmE p).2 = 0 ∨ tmE p = (0, 7) := by
    intro p
    unfold tmE
    split
    · rename_i h; exact .inl h
    · exact .inr rfl
  unfold timeR
  split
  · split
    · exact .inl rfl
    · exact .inr rfl
  · split
    · exact .inr rfl
    · split
      · exact ht _
      · split
        · exact ht _
        · exact .inr rfl
theorem nums_of {g : Vals} {G : GotL} (h : Rel g G) : Nums G := by
  refine ⟨fun c hc x hx => ?_, fun c hc x hx => ?_⟩
  · obtain ⟨v, _, ht⟩ := h.yes c x hx
    have hc2 : ∃ i, info (c.toNat : Int) = some i ∧ i.names = [] ∧ c ≠ 115 := by
      simp only [List.mem_cons, List.not_mem_nil, or_false] at hc
      rcases hc with rfl | rfl | rfl | rfl | rfl | rfl | rfl | rfl | rfl | rfl <;> exact ⟨_, rfl, rfl, by decide⟩
    obtain ⟨i, hi, hn, h115⟩ := hc2
    unfold Told at ht
    rw [hi] at ht
    simp only [if_pos hn, if_neg h115] at ht
    obtain ⟨h3, h4, h5, -⟩ := ht
    obtain ⟨_, h6, h7⟩ := valA_dg h3 h4 h5
    omega
  · obtain ⟨v, _, ht⟩ := h.yes c x hx
    have hm : ∀ (l : List Bs), (∀ y ∈ l, 3 ≤ y.length) → l.length = 12 → ∀ {i : Info}, info (c.toNat : Int) = some i → i.names = l → 3 ≤ x.length ∧ v ≤ 12 ∧ 1 ≤ v := by
      intro l hl hl2 i hi hn
      unfold Told at ht
      rw [hi] at ht
      have h0 : ¬ l = [] := by intro e; rw [e] at hl2; cases hl2
      simp only [hn, if_neg h0] at ht
      obtain ⟨k, y, h1, h2, _, h4⟩ := ht
      have h5 := hl y (List.mem_of_getElem? h1)
      have h6 := (List.getElem?_eq_some_iff.1 h1).1
      omega
    simp only [List.mem_cons, List.not_mem_nil, or_false] at hc
    rcases hc with rfl | rfl
    · have h1 := hm monthsL (by decide) rfl rfl rfl
      have h2 := told_B ht
      omega
    · have h1 := hm (monthsL.map (·.take 3)) (by decide) rfl rfl rfl
      have h2 := told_b ht
      omega
theorem rdR_none {s form : Bs} (h : readR s form = none) : rdR s form = (0, 2) := by unfold rdR; rw [h]
theorem rdR_bad {s form : Bs} {G : GotL} (h : readR s form = some G) (ht : timeR G = (0, 7)) : rdR s form = (0, 7) := by unfold rdR; rw [h]; simp only; rw [ht]; rfl
theorem rdR_yes {s form : Bs} {G : GotL} {t : Int} (h : readR s form = some G) (ht : timeR G = (t, 0)) (ha : (G.all fun p => decide (lowL (rletC p.1 t) = lowL p.2)) = true) : rdR s form = (t, 0) := by
  unfold rdR; rw [h]; simp only; rw [ht]; simp only [if_true]; rw [if_pos ha]
theorem rdR_no {s form : Bs} {G : GotL} {t : Int} (h : readR s form = some G) (ht : timeR G = (t, 0)) (ha : (G.all fun p => decide (lowL (rletC p.1 t) = lowL p.2)) = false) : rdR s form = (0, 9) := by
  unfold rdR; rw [h]; simp only; rw [ht]; simp only [if_true]; rw [if_neg (by rw [ha]; decide)]
set_option maxRecDepth 100000 in
set_option maxHeartbeats 3200000 in
theorem rRead_any (s form : Bs) (hs : s.length ≤ 10000) (hf : form.length ≤ 200) (w : World) (hP : PowIs w) (hE : ErrIs w) :
    Calls Tryz.prog 14 #[.string ⟨s.toArray⟩, .string ⟨form.toArray⟩] w fun e w' => e = .returned (.tuple #[.int .i64 (rdR s form).1, .int .i64 (rdR s form).2]) ∧ Below w.heap.size w w' := by
  have hrd := rread_any s form hs (by omega) w hP
  rcases read_law s form with ⟨-, hn⟩ | ⟨g, G, -, hG, hrel⟩
  · rw [rdR_none hn]
    have RD : Hid (Calls Tryz.prog 38 #[.string ⟨s.toArray⟩, .string ⟨form.toArray⟩] w fun e w' => (∃ l ao n cap, e = .returned (.tuple #[.agg #[.string l, .slice ao n cap], .bool false])) ∧ Below w.heap.size w w') := hrd.mono fun e w' hh => by
      obtain ⟨hb, hh⟩ := hh
      rcases hh with ⟨_, h⟩ | ⟨G, _, _, h, _⟩
      · exact ⟨h, hb⟩
      · rw [hn] at h; cases h
    clear hrd hn hP hE
    go_enter Tryz.func14, Tryz.ntmps14
    go_wp2_with (go_at_call 38; refine RD.out.mono ?_; rintro e w1 ⟨⟨l, ao, n, cap, rfl⟩, hb1⟩; have HB1 := Lib.hid (fun o => hb1.alloc hb1.size o); clear hb1)
    go_ret2
    exact ⟨rfl, HB1.out _⟩
  · have RD : Hid (Calls Tryz.prog 38 #[.string ⟨s.toArray⟩, .string ⟨form.toArray⟩] w fun e w' => ∃ ao cap, e = .returned (.tuple #[.agg #[.string ⟨(G.map (·.1)).toArray⟩, .slice ao G.length cap], .bool true]) ∧ GRow w' ao G ∧ Below w.heap.size w w') := hrd.mono fun e w' hh => by
      obtain ⟨hb, hh⟩ := hh
      rcases hh with ⟨h, _⟩ | ⟨G', ao, cap, h, h2, h3⟩
      · rw [hG] at h; cases h
      · rw [hG] at h; injection h with h; subst h; exact ⟨ao, cap, h2, h3, hb⟩
    obtain ⟨hb1, hb2⟩ := readR_bound hG
    have hNum := nums_of hrel
    have GT := Lib.hid (fun ao cap W (hr : GRow W ao G) hE hP => gtime_any G (by omega) (fun p hp => by have := hb2 p hp; omega) hNum ao cap W hr hE hP)
    have HXL : Hid (∀ p ∈ G, p.2.length ≤ 1000000) := fun p hp => by have := hb2 p hp; omega
    have hGl : G.length ≤ 1000 := by omega
    have HE := Lib.hid hE
    have HP := Lib.hid hP
    obtain ⟨R, hR⟩ : ∃ R, rdR s form = R := ⟨_, rfl⟩
    have HBAD := Lib.hid (fun h => (rdR_bad hG h).symm.trans hR)
    have HYES := Lib.hid (fun (t : Int) (h : timeR G = (t, 0)) h2 => (rdR_yes hG h h2).symm.trans hR)
    have HNO := Lib.hid (fun (t : Int) (h : timeR G = (t, 0)) h2 => (rdR_no hG h h2).symm.trans hR)
    have htwo := timeR_two G
    have hval : (timeR G).2 = 0 → -62135596800 ≤ (timeR G).1 ∧ (timeR G).1 ≤ 253402300799 := by
      intro h
      have h1 := (time_law hrel).1
      rw [h1] at h ⊢
      exact tm_valid g h
    rw [hR]
    clear hrd hG hrel hb1 hb2 hNum hR hE hP
    rcases htwo with h0 | h7
    · obtain ⟨t, ht⟩ : ∃ t, timeR G = (t, 0) := ⟨(timeR G).1, Prod.ext rfl h0⟩
      rw [ht] at hval
      obtain ⟨ht1, ht2⟩ := hval rfl
      have HY := Lib.hid (HYES.out t ht)
      have HN := Lib.hid (HNO.out t ht)
      simp only [ht] at GT
      have RL := Lib.hid (fun u W hp => rletter_any u t ht1 ht2 W hp)
      have RLL := Lib.hid (fun u => rletC_len u ht1 ht2)
      clear HBAD HYES HNO h0 ht hval
      go_enter Tryz.func14, Tryz.ntmps14
      go_wp2_with (first | (go_at_call 38; refine RD.out.mono ?_; rintro e w1 ⟨ao, cap, rfl, hrow, hb1⟩; have HRW := Lib.hid (hrow.below (below_alloc1 w1 (.cells #[.string ⟨(G.map (·.1)).toArray⟩, .slice ao G.length cap] 91))); have HB1 := Lib.hid (hb1.alloc hb1.size (.cells #[.string ⟨(G.map (·.1)).toArray⟩, .slice ao G.length cap] 91)); obtain ⟨c0, c1⟩ := cells2_new w1 (.string ⟨(G.map (·.1)).toArray⟩) (.slice ao G.length cap) 91; clear hrow hb1) | (go_at_call 39; refine (GT.out _ _ _ HRW.out (HE.out.below HB1.out) (HP.out.below HB1.out)).mono ?_; rintro e w2 ⟨rfl, hb2⟩; have c0 := (hb2.cell (cell_lt c0)).trans c0; have c1 := (hb2.cell (cell_lt c1)).trans c1; have HB2 := Lib.hid (HB1.out.trans (hb2.mono HB1.out.size)); have HRW2 := Lib.hid (HRW.out.below hb2); clear hb2))
      generalize hn1 : w1.heap.size = n1 at *
      have hmap : (G.map (·.1)).length = G.length := by simp
      go_loopw [10, 11, 12, 32] (fun v10 v11 v12 v32 wr => ∃ k : Nat, k ≤ G.length ∧ v32 = .int .i64 k ∧ Hid ((G.drop k).all (fun p => decide (lowL (rletC p.1 t) = lowL p.2)) = G.all (fun p => decide (lowL (rletC p.1 t) = lowL p.2))) ∧ Below w2.heap.size w2 wr) (fun _ _ _ v32 _ => G.length - (intOf v32).toNat)
      case atStart => exact ⟨0, Nat.zero_le _, rfl, by show _ = _; rw [List.drop_zero], Below.refl _ _⟩
      case round =>
        obtain ⟨k, hk, rfl, HA, hbw⟩ := hrel
        have HBW := Lib.hid hbw
        by_cases hlt : k < G.length
        · have e0 := (hbw.cell (cell_lt c0)).trans c0
          have e1 := (hbw.cell (cell_lt c1)).trans c1
          have hp : G[k]? = some G[k] := List.getElem?_eq_getElem hlt
          have hx9 := HXL.out _ (List.getElem_mem hlt)
          obtain ⟨g0, hao, hcx⟩ := (HRW2.out.below hbw) k _ hp
          subst hao
          have hlk : (G.map (·.1))[k]'(by rw [hmap]; exact hlt) = G[k].1 := by simp
          have HA2 : Hid ((decide (lowL (rletC G[k].1 t) = lowL G[k].2) && (G.drop (k + 1)).all (fun p => decide (lowL (rletC p.1 t) = lowL p.2))) = G.all (fun p => decide (lowL (rletC p.1 t) = lowL p.2))) := by
            have := HA.out
            rw [List.drop_eq_getElem_cons hlt, List.all_cons] at this
            exact this
          have HPK := Lib.hid ((HP.out.below HB2.out).below hbw)
          have t1 : decide ((k : Int) < (G.length : Int)) = true := by rw [decide_eq_true_eq]; omega
          have hk0 : (0 : Int) ≤ k := by omega
          have hki : (k : Int) < (G.length : Int) := by omega
          have hkm : k < (G.map (·.1)).length := by rw [hmap]; exact hlt
          have hw1 : IntKind.i64.wrap ((k : Int) + 1) = (k : Int) + 1 := IntWalk.i64_in _ (by omega)
          generalize (G.map (·.1)) = Ls at *
          generalize G[k] = p at *
          obtain ⟨c, x⟩ := p
          simp only at hlk hcx hx9 HA2
          have RLc := Lib.hid (fun W hp => RL.out c W hp)
          have hlc := RLL.out c
          obtain ⟨tx, htx⟩ : ∃ tx, rletC c t = tx := ⟨_, rfl⟩
          rw [htx] at hlc HA2
          simp only [htx] at RLc
          have HL1 := Lib.hid (fun W' => rlow_any tx (by omega) W')
          have HL2 := Lib.hid (fun W' => rlow_any x hx9 W')
          clear htx hp HA hbw
          go_wp2_with (go_at_call 40; refine (RLc.out _ HPK.out).mono ?_; rintro e w5 ⟨rfl, hb5⟩; have e0 := (hb5.cell (cell_lt e0)).trans e0; have e1 := (hb5.cell (cell_lt e1)).trans e1; have hcx := (hb5.cell (cell_lt hcx)).trans hcx; have HB5 := Lib.hid (HBW.out.trans (hb5.mono HBW.out.size)); clear hb5)
          obtain ⟨S0, hS0⟩ : ∃ S0 : World → Prop, S0 = fun w' => Below w5.heap.size w5 w' := ⟨_, rfl⟩
          have k0 : S0 w5 := by rw [hS0]; exact Below.refl _ _
          have k1 : ∀ W', S0 W' → S0 W'.drew := by intro W' hW; rw [hS0] at hW ⊢; exact hW.drew
          have k2 : ∀ W' W'', S0 W' → Below W'.heap.size W' W'' → S0 W'' ∧ W''.cell? ⟨n1, 1, none⟩ = some (.slice (some ⟨g0, 0, none⟩) G.length cap) ∧ W''.cell? ⟨g0, k, none⟩ = some (.string ⟨x.toArray⟩) := by
            intro W' W'' hW hb
            have h2 : Below w5.heap.size w5 W'' := by rw [hS0] at hW; exact hW.trans (hb.mono hW.size)
            have cl : ∀ {p : Addr} {x : Value}, w5.cell? p = some x → W''.cell? p = some x := fun {p x} h => (h2.cell (cell_lt h)).trans h
            exact ⟨by rw [hS0]; exact h2, cl e1, cl hcx⟩
          have kB : Hid (∀ W', S0 W' → Below w2.heap.size w2 W') := by intro W' hW; rw [hS0] at hW; exact HB5.out.trans (hW.mono HB5.out.size)
          clear hS0
          have hdq : decide (lowL tx = lowL x) = (lowL tx == lowL x) := by rw [Bool.eq_iff_iff, beq_iff_eq, decide_eq_true_eq]
          rw [hdq] at HA2
          clear hdq
          generalize lowL tx = u1 at *
          generalize lowL x = u2 at *
          cases hq : (u1 == u2) with
          | true =>
            have hqn : (u1 != u2) = false := by rw [bne, hq]; rfl
            rw [hq, Bool.true_and] at HA2
            go_region_held3 (fun w' => S0 w' ∧ w'.cell? ⟨n1, 1, none⟩ = some (.slice (some ⟨g0, 0, none⟩) G.length cap) ∧ w'.cell? ⟨g0, k, none⟩ = some (.string ⟨x.toArray⟩)) (first | go_keep | (exact k2 _ _ (by go_split_ands; assumption) hbx) | (exact k2 _ _ (k1 _ (by go_split_ands; assumption)) hbx) | (go_split_ands; exact ⟨k1 _ (by assumption), by assumption, by assumption⟩)) (first | (go_at_call_of 41 tx; refine (HL1.out _).mono ?_; rintro e w6 ⟨rfl, hbx⟩) | (go_at_call_of 41 x; refine (HL2.out _).mono ?_; rintro e w6 ⟨rfl, hbx⟩))
            all_goals go_split_ands
            all_goals go_wp2_with fail
            all_goals go_roundw
            case rel => exact ⟨k + 1, by omega, by go_num, HA2, kB.out _ (by assumption)⟩
            case measure => simp [intOf]; omega
          | false =>
            have hqn : (u1 != u2) = true := by rw [bne, hq]; rfl
            rw [hq, Bool.false_and] at HA2
            obtain rfl : R = (0, 9) := (HN.out HA2.out.symm).symm
            go_region_held3 (fun w' => S0 w' ∧ w'.cell? ⟨n1, 1, none⟩ = some (.slice (some ⟨g0, 0, none⟩) G.length cap) ∧ w'.cell? ⟨g0, k, none⟩ = some (.string ⟨x.toArray⟩)) (first | go_keep | (exact k2 _ _ (by go_split_ands; assumption) hbx) | (exact k2 _ _ (k1 _ (by go_split_ands; assumption)) hbx) | (go_split_ands; exact ⟨k1 _ (by assumption), by assumption, by assumption⟩)) (first | (go_at_call_of 41 tx; refine (HL1.out _).mono ?_; rintro e w6 ⟨rfl, hbx⟩) | (go_at_call_of 41 x; refine (HL2.out _).mono ?_; rintro e w6 ⟨rfl, hbx⟩))
            all_goals go_split_ands
            all_goals go_wp2_with fail
            all_goals go_ret2
            all_goals exact ⟨rfl, HB2.out.trans ((kB.out _ (by assumption)).mono HB2.out.size)⟩
        · obtain rfl : k = G.length := by omega
          have t1 : decide ((G.length : Int) < (G.length : Int)) = false := by rw [decide_eq_false_iff_not]; omega
          have hall : G.all (fun p => decide (lowL (rletC p.1 t) = lowL p.2)) = true := by
            have := HA.out
            rw [List.drop_length] at this
            exact this.symm
          obtain rfl : R = (t, 0) := (HY.out hall).symm
          clear HA
          go_wp2_with fail
          go_ret2
          exact ⟨rfl, HB2.out.trans (HBW.out.mono HB2.out.size)⟩
    · obtain rfl : R = (0, 7) := (HBAD.out h7).symm
      simp only [h7] at GT
      clear HBAD HYES HNO hval h7
      go_enter Tryz.func14, Tryz.ntmps14
      go_wp2_with (first | (go_at_call 38; refine RD.out.mono ?_; rintro e w1 ⟨ao, cap, rfl, hrow, hb1⟩; have HRW := Lib.hid (hrow.below (below_alloc1 w1 (.cells #[.string ⟨(G.map (·.1)).toArray⟩, .slice ao G.length cap] 91))); have HB1 := Lib.hid (hb1.alloc hb1.size (.cells #[.string ⟨(G.map (·.1)).toArray⟩, .slice ao G.length cap] 91)); obtain ⟨c0, c1⟩ := cells2_new w1 (.string ⟨(G.map (·.1)).toArray⟩) (.slice ao G.length cap) 91; clear hrow hb1) | (go_at_call 39; refine (GT.out _ _ _ HRW.out (HE.out.below HB1.out) (HP.out.below HB1.out)).mono ?_; rintro e w2 ⟨rfl, hb2⟩; have HB2 := Lib.hid (HB1.out.trans (hb2.mono HB1.out.size)); clear hb2))
      go_ret2
      exact ⟨rfl, HB2.out⟩
end Go.Proofs.YtkahakhhdiffcaaGreatDoor
