/- The time that was read, by the program and by the reference: the same. Plain. -/
import Derived.Test.YtkahakhhdiffcaaGreatDoorCRdQ
import Derived.Test.YtkahakhhdiffcaaGreatDoorCRdB
namespace Go.Proofs.YtkahakhhdiffcaaGreatDoor
set_option linter.unusedVariables false
set_option linter.unusedSimpArgs false
def yR (G : GotL) : Int := numC G 89 (match gotT G 121 with
  | some _ => if 1900 + numC G 121 0 < 1969 then 1900 + numC G 121 0 + 100 else 1900 + numC G 121 0
  | none => 1970)
def moR (G : GotL) : Int := numC G 109 (match gotT G 66 with
  | some x => monthC x
  | none => match gotT G 98 with
    | some x => monthC x
    | none => 1)
def daR (G : GotL) : Int := numC G 100 (numC G 101 1)
def pmL : Bs := [112, 109]
def hoR (G : GotL) : Option Int := match gotT G 73 with
  | none => some (numC G 72 0)
  | some _ => if gotT G 72 = none ∧ winI (numC G 73 0) 1 12 = false then none
      else some (numC G 72 ((numC G 73 0).tmod 12 + (if lowL ((gotT G 112).getD []) = pmL then 12 else 0)))
def dayJ (y j : Int) : Int := -62135596800 + (dayNo y 1 1 + j - 1) * 86400
noncomputable def tmE (p : Int × Int) : Int × Int := if p.2 = 0 then p else (0, 7)
noncomputable def timeR (G : GotL) : Int × Int := match gotT G 115 with
  | some x => if (Lib.itoa (atoiV x) = x ∨ x = [45, 48]) ∧ validI (atoiV x) = true then (atoiV x, 0) else (0, 7)
  | none => match hoR G with
    | none => (0, 7)
    | some h => match gotT G 106 with
      | none => tmE (timeC (yR G) (moR G) (daR G) h (numC G 77 0) (numC G 83 0))
      | some _ => if winI (yR G) 1 9999 = true ∧ winI (numC G 106 0) 1 (365 + leap1 (yR G)) = true then
          tmE (timeC (yR G) (dateC (dayJ (yR G) (numC G 106 0))).m (dateC (dayJ (yR G) (numC G 106 0))).d h (numC G 77 0) (numC G 83 0)) else (0, 7)
noncomputable def tmP (g : Vals) : Int × Int := match g 115 with
  | some t => if validI t = true then (t, 0) else (0, 7)
  | none => if (datedC g).2 = true ∧ validI (datedC g).1 = true then ((datedC g).1, 0) else (0, 7)
/-- A letter with digits: its number. -/
theorem num_law {g : Vals} {G : GotL} (h : Rel g G) (c : UInt8) (hc : c ≠ 115) {i : Info} (hi : info (c.toNat : Int) = some i) (hn : i.names = []) (o : Int) : numC G c o = (g (c.toNat : Int)).getD o := by
  unfold numC
  cases hg : gotT G c with
  | none => rw [h.no c hg]; rfl
  | some x =>
    obtain ⟨v, h1, h2⟩ := h.yes c x hg
    unfold Told at h2
    rw [hi] at h2
    simp only [if_pos hn, if_neg hc] at h2
    obtain ⟨h3, h4, h5, h6, -, -⟩ := h2
    rw [h1, h6]
    exact (valA_dg h3 h4 h5).2.1
theorem got_iff {g : Vals} {G : GotL} (h : Rel g G) (c : UInt8) : (gotT G c = none ∧ g (c.toNat : Int) = none) ∨ ∃ x v, gotT G c = some x ∧ g (c.toNat : Int) = some v ∧ Told c x v := by
  cases hg : gotT G c with
  | none => exact .inl ⟨rfl, h.no c hg⟩
  | some x =>
    obtain ⟨v, h1, h2⟩ := h.yes c x hg
    exact .inr ⟨x, v, rfl, h1, h2⟩
theorem rel_small {g : Vals} {G : GotL} (h : Rel g G) : Small g := by
  intro k v hk hv
  obtain ⟨c, rfl⟩ := h.byte k (by rw [hv]; simp)
  rcases got_iff h c with ⟨_, h2⟩ | ⟨x, w, _, h2, h3⟩
  · rw [h2] at hv; cases hv
  · rw [h2] at hv
    injection hv with hv
    subst hv
    have hc : c ≠ 115 := by rintro rfl; exact hk rfl
    unfold Told at h3
    cases hi : info (c.toNat : Int) with
    | none => rw [hi] at h3; exact h3.elim
    | some i =>
      rw [hi] at h3
      simp only at h3
      by_cases hn : i.names = []
      · simp only [if_pos hn, if_neg hc] at h3
        obtain ⟨h4, h5, h6, h7, -, -⟩ := h3
        have := (valA_dg h4 h5 h6).2.2
        omega
      · simp only [if_neg hn] at h3
        obtain ⟨k, y, h4, h5, -⟩ := h3
        have h6 := (List.getElem?_eq_some_iff.1 h4).1
        have h7 := ((info_dig c hi).2 hn).2
        omega
theorem month_low {x y : Bs} (h : lowL x = lowL y) : monthC x = monthC y := by
  have h1 : lowL (x.take 3) = lowL (y.take 3) := by
    unfold lowL at *
    rw [List.map_take, List.map_take, h]
  have h2 : ∀ (l : List Bs) (k : Int), monthFrom x l k = monthFrom y l k := by
    intro l
    induction l with
    | nil => intro k; rfl
    | cons m l ih => intro k; unfold monthFrom; rw [h1, ih]
  exact h2 _ _
theorem month_at : ∀ k, k < 12 → monthC (monthsL.getD k []) = (k : Int) + 1 ∧ monthC ((monthsL.map (·.take 3)).getD k []) = (k : Int) + 1 := by decide
theorem names_at {x : Bs} {v : Int} {l : List Bs} {i : Info} {c : UInt8} (hi : info (c.toNat : Int) = some i) (hl : i.names = l) (h0 : l ≠ []) (h : Told c x v) : ∃ k, k < l.length ∧ v = (k : Int) + 1 ∧ lowL x = lowL (l.getD k []) := by
  unfold Told at h
  rw [hi] at h
  simp only [hl, if_neg h0] at h
  obtain ⟨k, y, h1, h2, h3, -⟩ := h
  refine ⟨k, (List.getElem?_eq_some_iff.1 h1).1, h2, ?_⟩
  rw [h3, List.getD_eq_getElem?_getD, h1]
  rfl
theorem told_B {x : Bs} {v : Int} (h : Told 66 x v) : monthC x = v := by
  obtain ⟨k, h1, h2, h3⟩ := names_at (c := 66) rfl rfl (by decide) h
  rw [month_low h3, h2]
  exact (month_at k h1).1
theorem told_b {x : Bs} {v : Int} (h : Told 98 x v) : monthC x = v := by
  obtain ⟨k, h1, h2, h3⟩ := names_at (c := 98) rfl rfl (by decide) h
  rw [month_low h3, h2]
  exact (month_at k h1).2
theorem pm_at : ∀ k, k < 2 → (lowL (([[65, 77], [80, 77]] : List Bs).getD k []) = pmL ↔ k = 1) := by decide
theorem told_p {x : Bs} {v : Int} (h : Told 112 x v) : (if lowL x = pmL then 12 else 0 : Int) = 12 * (v - 1) := by
  obtain ⟨k, h1, h2, h3⟩ := names_at (c := 112) (l := [[65, 77], [80, 77]]) rfl rfl (by decide) h
  have h4 := pm_at k h1
  rw [h3, h2]
  by_cases hk : k = 1
  · rw [if_pos (h4.2 hk), hk]; rfl
  · rw [if_neg (fun e => hk (h4.1 e))]
    have h1' : k < 2 := h1
    have : k = 0 := by omega
    subst this; rfl
/-- A numeral of seconds is its number's, or too great. -/
theorem sig_law {x : Bs} (h : SigCanon x) : (valA x = atoiV x ∧ Lib.itoa (atoiV x) = x) ∨ (valA x = 253402300800 ∧ validI (atoiV x) = false) := by
  have hv : ∀ v : Int, v = 9223372036854775807 ∨ v = -9223372036854775808 → validI v = false := by
    rintro v (rfl | rfl) <;> decide
  have hs : Lib.atoiSat x = 9223372036854775807 ∨ Lib.atoiSat x = -9223372036854775808 := by
    unfold Lib.atoiSat
    split
    · exact .inr rfl
    · exact .inl rfl
  rcases h with h | ⟨y, rfl, h, h48⟩
  · have ha := atoi_dg h.1 h.2.1
    by_cases hl : decV x < 9223372036854775808
    · rw [if_pos hl] at ha
      refine .inl ⟨by unfold valA atoiV; rw [ha], ?_⟩
      rw [show atoiV x = (decV x : Int) by unfold atoiV; rw [ha], itoa_nat, canon_dec _ rfl h]
    · rw [if_neg hl] at ha
      exact .inr ⟨by unfold valA; rw [ha], hv _ (by rw [show atoiV x = Lib.atoiSat x by unfold atoiV; rw [ha]]; exact hs)⟩
  · have ha := atoi_mdg h.1 h.2.1
    have hp := dec_pos h h48
    by_cases hl : decV y ≤ 9223372036854775808
    · rw [if_pos hl] at ha
      refine .inl ⟨by unfold valA atoiV; rw [ha], ?_⟩
      rw [show atoiV (45 :: y) = -(decV y : Int) by unfold atoiV; rw [ha]]
      have := canon_dec _ rfl h
      unfold Lib.itoa
      rw [if_pos (by omega), show (-(decV y : Int)).natAbs = decV y by omega, this]
    · rw [if_neg hl] at ha
      exact .inr ⟨by unfold valA; rw [ha], hv _ (by rw [show atoiV (45 :: y) = Lib.atoiSat (45 :: y) by unfold atoiV; rw [ha]]; exact hs)⟩
theorem told_s {x : Bs} {v : Int} (h : Told 115 x v) : SigCanon x ∧ v = valA x := h
theorem pick_one {g : Vals} {G : GotL} (h : Rel g G) (c : UInt8) (hc : c ≠ 115) {i : Info} (hi : info (c.toNat : Int) = some i) (hn : i.names = []) (o : Int) : numC G c o = pickC g [c] o := by
  rw [num_law h c hc hi hn, pickC_cons, pickC_nil]
  cases g (c.toNat : Int) <;> rfl
theorem year_law {g : Vals} {G : GotL} (h : Rel g G) : yR G = yC g := by
  unfold yR
  rw [num_law h 89 (by decide) rfl rfl]
  have e89 : g (((89 : UInt8).toNat : Int)) = g 89 := rfl
  have e121 : g (((121 : UInt8).toNat : Int)) = g 121 := rfl
  have p89 : pickC g [89] 1970 = (g 89).getD 1970 := by rw [pickC_cons, pickC_nil]; rw [e89]; cases g 89 <;> rfl
  have h121 := num_law h 121 (by decide) rfl rfl 0
  rw [e121] at h121
  rw [e89]
  unfold yC
  rcases got_iff h 121 with ⟨h1, h2⟩ | ⟨x, v, h1, h2, h3⟩
  · rw [e121] at h2
    rw [h1, h2]
    exact p89.symm
  · rw [e121] at h2
    rw [h1, h2]
    rw [h2] at h121
    simp only [Option.getD_some] at h121
    rw [h121]
    simp only
    cases h89 : g 89 with
    | some y => rw [p89, h89]; rfl
    | none =>
      show (if 1900 + v < 1969 then 1900 + v + 100 else 1900 + v) = _
      by_cases h69 : 69 ≤ v
      · rw [if_neg (by omega), if_pos h69]
      · rw [if_pos (by omega), if_neg h69]
        show 1900 + v + 100 = 2000 + v
        omega
theorem month_law {g : Vals} {G : GotL} (h : Rel g G) : moR G = pickC g [109, 66, 98] 1 := by
  unfold moR
  rw [num_law h 109 (by decide) rfl rfl, pickC_cons]
  cases hm : g ((109 : UInt8).toNat : Int) with
  | some v => rfl
  | none =>
    simp only [Option.getD_none]
    rw [pickC_cons]
    rcases got_iff h 66 with ⟨h1, h2⟩ | ⟨x, v, h1, h2, h3⟩
    · rw [h1, h2]
      simp only
      rw [pickC_cons, pickC_nil]
      rcases got_iff h 98 with ⟨h4, h5⟩ | ⟨x, v, h4, h5, h6⟩
      · rw [h4, h5]
      · rw [h4, h5]; exact told_b h6
    · rw [h1, h2]; exact told_B h3
theorem day_law {g : Vals} {G : GotL} (h : Rel g G) : daR G = pickC g [100, 101] 1 := by
  unfold daR
  rw [num_law h 100 (by decide) rfl rfl, num_law h 101 (by decide) rfl rfl, pickC_cons, pickC_cons, pickC_nil]
  cases g ((100 : UInt8).toNat : Int) with
  | some v => rfl
  | none =>
    simp only [Option.getD_none]
    cases g ((101 : UInt8).toNat : Int) <;> rfl
theorem hour_law {g : Vals} {G : GotL} (h : Rel g G) : hoR G = hC g := by
  unfold hoR hC
  have h73 := num_law h 73 (by decide) rfl rfl 0
  have p72 := fun o => pick_one h 72 (by decide) rfl rfl o
  have e73 : g (((73 : UInt8).toNat : Int)) = g 73 := rfl
  have e72 : g (((72 : UInt8).toNat : Int)) = g 72 := rfl
  have e112 : g (((112 : UInt8).toNat : Int)) = g 112 := rfl
  rcases got_iff h 73 with ⟨h1, h2⟩ | ⟨x, v, h1, h2, h3⟩
  · rw [e73] at h2
    rw [h1, h2]
    simp only
    rw [p72]
  · rw [e73] at h2 h73
    rw [h1, h2]
    rw [h2] at h73
    simp only [Option.getD_some] at h73
    rw [h73]
    simp only
    have hpm : (if lowL ((gotT G 112).getD []) = pmL then 12 else 0 : Int) = 12 * (pickC g [112] 1 - 1) := by
      rw [pickC_cons, pickC_nil]
      rcases got_iff h 112 with ⟨h4, h5⟩ | ⟨x, v, h4, h5, h6⟩
      · rw [h4, h5]; rfl
      · rw [h4, h5]; exact told_p h6
    rcases got_iff h 72 with ⟨h4, h5⟩ | ⟨x, w, h4, h5, h6⟩
    · rw [e72] at h5
      rw [h5, h4]
      simp only
      have n72 : ∀ o, numC G 72 o = o := fun o => by unfold numC; rw [h4]
      rw [n72, hpm]
      cases hw : winI v 1 12 with
      | true => rw [if_neg (fun e => by cases e.2)]; simp
      | false => rw [if_pos (by simp)]; simp
    · rw [e72] at h5
      rw [h5, h4, if_neg (fun e => by cases e.1)]
      simp only
      have n72 : ∀ o, numC G 72 o = w := fun o => by rw [num_law h 72 (by decide) rfl rfl, e72, h5]; rfl
      rw [n72, pickC_cons, e72, h5]
theorem timeI_valid {y m d h mi s : Int} (hv : validB y m d h mi s = true) : validI (timeI y m d h mi s) = true := by
  unfold validB at hv
  simp only [decide_eq_true_eq] at hv
  have hdo : DateOk y m d := ⟨hv.1, by omega, by omega, by omega, by omega⟩
  have hok : DT.Ok ⟨y, m, d, h, mi, s⟩ := ⟨hdo, by show 0 ≤ h; omega, by show h ≤ 23; omega, by show 0 ≤ mi; omega, by show mi ≤ 59; omega, by show 0 ≤ s; omega, by show s ≤ 59; omega⟩
  have := time_le hok hv.2.1
  rw [validI_iff]
  exact ⟨this.2, this.1⟩
theorem tm_plain (y m d h mi s : Int) : tmE (timeC y m d h mi s) = if validB y m d h mi s = true then (timeI y m d h mi s, 0) else (0, 7) := by
  unfold tmE timeC
  by_cases hv : validB y m d h mi s = true
  · rw [if_pos hv, if_pos hv, if_pos rfl]; rfl
  · rw [if_neg hv, if_neg hv, if_neg (by simp)]
theorem day_j {y j h mi s : Int} (hy : winI y 1 9999 = true) (hj : winI j 1 (365 + leap1 y) = true) :
    validB y (dateC (dayJ y j)).m (dateC (dayJ y j)).d h mi s = validB y 1 1 h mi s ∧ timeI y (dateC (dayJ y j)).m (dateC (dayJ y j)).d h mi s = timeI y 1 1 h mi s + (j - 1) * 86400 := by
  simp only [winI, Bool.and_eq_true, decide_eq_true_eq] at hy hj
  have hd1 : dayNo y 1 1 = bef y := by unfold dayNo; rw [cum_one]; omega
  have hb0 := bef_far hy.1
  rw [bef_one] at hb0
  have ht : -62135596800 ≤ dayJ y j := by unfold dayJ; omega
  have hq : dayOf (dayJ y j) = bef y + (j - 1) := by unfold dayOf dayJ; omega
  have hn := bef_next y
  have hyi := year_in ht
  rw [hq] at hyi
  have hyy := year_uniq hyi.2.1 hyi.2.2 (z := y) (by omega) (by omega)
  have hdd := date_day ht
  rw [hq, hyy] at hdd
  have hok := (dateC_ok ht).1.date
  rw [hyy] at hok
  have o1 := hok.m1; have o2 := hok.m12; have o3 := hok.d1; have o4 := hok.dn
  have o5 := dim_ge y 1
  refine ⟨?_, ?_⟩
  · unfold validB
    rw [Bool.eq_iff_iff]
    simp only [decide_eq_true_eq]
    constructor
    · intro hh; omega
    · intro hh; omega
  · unfold timeI
    rw [hdd, hd1]
    omega
theorem one_law {g : Vals} {G : GotL} (h : Rel g G) : numC G 77 0 = pickC g [77] 0 ∧ numC G 83 0 = pickC g [83] 0 := ⟨pick_one h 77 (by decide) rfl rfl 0, pick_one h 83 (by decide) rfl rfl 0⟩
/-- Both tell the same time. -/
theorem time_law {g : Vals} {G : GotL} (h : Rel g G) : timeR G = tmP g ∧ ∀ x, gotT G 115 = some x → (timeR G).2 = 0 → Lib.itoa (timeR G).1 = x ∧ g 115 = some (timeR G).1 := by
  have e115 : g (((115 : UInt8).toNat : Int)) = g 115 := rfl
  unfold timeR tmP
  rcases got_iff h 115 with ⟨h1, h2⟩ | ⟨x, v, h1, h2, h3⟩
  · rw [e115] at h2
    rw [h1, h2]
    refine ⟨?_, fun x hx => by cases hx⟩
    simp only
    obtain ⟨q1, q2⟩ := one_law h
    have e106 : g (((106 : UInt8).toNat : Int)) = g 106 := rfl
    have n106 := num_law h 106 (by decide) rfl rfl 0
    rw [e106] at n106
    rw [hour_law h, year_law h, month_law h, day_law h, q1, q2]
    unfold datedC
    cases hh : hC g with
    | none => rw [if_neg (fun e => by cases e.1)]
    | some ho =>
      simp only
      rcases got_iff h 106 with ⟨h4, h5⟩ | ⟨x, j, h4, h5, h6⟩
      · rw [e106] at h5
        rw [h4, h5]
        simp only
        rw [tm_plain]
        by_cases hv : validB (yC g) (pickC g [109, 66, 98] 1) (pickC g [100, 101] 1) ho (pickC g [77] 0) (pickC g [83] 0) = true
        · rw [if_pos hv, if_pos hv, if_pos ⟨rfl, timeI_valid hv⟩]
        · rw [if_neg hv, if_neg hv, if_neg (fun e => by cases e.1)]
      · rw [e106] at h5
        rw [h4, h5]
        rw [h5] at n106
        simp only [Option.getD_some] at n106
        rw [n106]
        simp only
        have hbn : bef (yC g + 1) - bef (yC g) = 365 + leap1 (yC g) := by have := bef_next (yC g); omega
        rw [hbn]
        by_cases hy : winI (yC g) 1 9999 = true
        · by_cases hj : winI j 1 (365 + leap1 (yC g)) = true
          · rw [if_pos ⟨hy, hj⟩]
            obtain ⟨k1, k2⟩ := day_j (h := ho) (mi := pickC g [77] 0) (s := pickC g [83] 0) hy hj
            have k3 := fun hv => timeI_valid (y := yC g) (m := (dateC (dayJ (yC g) j)).m) (d := (dateC (dayJ (yC g) j)).d) (h := ho) (mi := pickC g [77] 0) (s := pickC g [83] 0) hv
            rw [k1, k2] at k3
            rw [tm_plain, k1, k2]
            by_cases hv : validB (yC g) 1 1 ho (pickC g [77] 0) (pickC g [83] 0) = true
            · rw [if_pos hv, if_pos hv, if_pos ⟨hj, k3 hv⟩]
            · rw [if_neg hv, if_neg hv, if_neg (fun e => by cases e.1)]
          · rw [if_neg (fun e => hj e.2)]
            split
            · rw [if_neg (fun e => hj e.1)]
            · rw [if_neg (fun e => by cases e.1)]
        · rw [if_neg (fun e => hy e.1)]
          have hv : ¬ validB (yC g) 1 1 ho (pickC g [77] 0) (pickC g [83] 0) = true := by
            rw [validB_eq]
            simp only [Bool.and_eq_true]
            intro e
            exact hy e.1.1.1.1.1
          rw [if_neg hv, if_neg (fun e => by cases e.1)]
  · rw [e115] at h2
    rw [h1, h2]
    simp only
    obtain ⟨h4, rfl⟩ := told_s h3
    rcases sig_law h4 with ⟨h5, h6⟩ | ⟨h5, h6⟩
    · rw [h5]
      by_cases hv : validI (atoiV x) = true
      · rw [if_pos ⟨.inl h6, hv⟩, if_pos hv]
        refine ⟨rfl, fun y hy _ => ?_⟩
        injection hy with hy
        subst hy
        exact ⟨h6, rfl⟩
      · rw [if_neg (fun e => hv e.2), if_neg hv]
        exact ⟨rfl, fun y _ e => by cases e⟩
    · rw [h5, if_neg (fun e => by rw [h6] at e; cases e.2), if_neg (by decide)]
      exact ⟨rfl, fun y _ e => by cases e⟩
/-- A letter's number of a time; its text is the text read, small letters, if the number is the number read. -/
noncomputable def fnL (c t : Int) : Int := match info c with
  | some i => fnC i.F t
  | none => 0
theorem fn_zero {i : Info} (hk : Kind i) (hn : i.names = []) (hs : i.F ≠ 79) {t : Int} (ht : -62135596800 ≤ t) (ht2 : t ≤ 253402300799) : 0 ≤ fnC i.F t := by
  have hok := (dateC_ok ht).1
  have hy := year_100000 ht (by omega)
  have h1 := hok.date.m1; have h3 := hok.date.d1; have h6 := hok.h0; have h8 := hok.mi0; have h10 := hok.s0
  have hth := th_in t
  have hle := th_le ht ht2
  have hyi := yearOf_in hle.1
  have hyt := year_in ht
  have b1 : 0 ≤ ydC t := by unfold ydC; omega
  have b2 : 0 ≤ weekN t := by unfold weekN; omega
  have b3 : 0 ≤ yearOf (thC t) := by omega
  have b4 : 0 ≤ wdC t := by omega
  clear hok hth hle hyi hyt ht ht2
  have hF : isOf i.F ∨ i.F = 72 ∨ i.F = 22 ∨ i.F = 73 ∨ i.F = 75 := by
    rcases hk with h | h | h | h | h
    · exact .inl h.2.1
    · rw [hn] at h; cases h.2.2.1
    · rw [hn] at h; cases h.2.2.1
    · rcases h.2.1 with h | h | h | h | h
      · exact .inr (.inl h)
      · exact .inr (.inr (.inl h))
      · exact .inr (.inr (.inr (.inl h)))
      · exact .inr (.inr (.inr (.inr h)))
      · exact absurd h hs
    · rw [hn] at h; cases h.2.2.1
  unfold fnC
  rcases hF with (h | h | h | h | h | h | h | h | h) | h | h | h | h <;> (rw [h]; simp only [if_pos, if_neg]; simp; omega)
theorem fn_names {i : Info} (hk : Kind i) (hn : i.names ≠ []) {t : Int} (ht : -62135596800 ≤ t) (ht2 : t ≤ 253402300799) : 1 ≤ fnC i.F t ∧ fnC i.F t ≤ i.names.length := by
  rcases hk with h | h | h | h | h
  · exact absurd h.2.2.1 hn
  · rw [h.2.1, h.2.2.1]; exact fn_pm ht
  · rw [h.2.1, h.2.2.1]; exact fn_month ht
  · exact absurd h.2.2.1 hn
  · rw [h.2.1, h.2.2.1]; exact fn_week t
theorem low_same {a b : Bs} (ha : AllDg a) (hb : AllDg b) (h : lowL a = lowL b) : a = b := by
  have h1 : a.map lowB = b.map lowB := h
  rwa [low_dg ha, low_dg hb] at h1
theorem told_text {c : UInt8} (hc : c ≠ 115) {x : Bs} {v : Int} (h : Told c x v) {t : Int} (ht : -62135596800 ≤ t) (ht2 : t ≤ 253402300799) : fnL (c.toNat : Int) t = v ↔ lowL (textD c t) = lowL x := by
  unfold Told at h
  unfold fnL textD
  cases hi : info (c.toNat : Int) with
  | none => rw [hi] at h; exact h.elim
  | some i =>
    rw [hi] at h
    simp only at h ⊢
    have hk := (kind_of c hi).1
    unfold textC
    by_cases hn : i.names = []
    · simp only [if_pos hn, if_neg hc] at h ⊢
      obtain ⟨h1, h2, h3, h4, h5, h6⟩ := h
      have hF : i.F ≠ 79 := by
        intro e
        have : ∀ n : Nat, n < 256 → n ≠ 115 → (match info (n : Int) with | some i => decide (i.F ≠ 79) | none => true) = true := by decide +kernel
        have h7 := this c.toNat c.toNat_lt (fun e => hc (u8_115 e))
        rw [hi] at h7
        simp only [decide_eq_true_eq] at h7
        exact h7 e
      have h0 := fn_zero hk hn hF ht ht2
      obtain ⟨m, hm⟩ : ∃ m : Nat, fnC i.F t = (m : Int) := ⟨(fnC i.F t).toNat, by omega⟩
      rw [hm, itoa_nat, h4]
      obtain ⟨d1, d2, d3⟩ := dec_of m
      have hdig : ∃ n : Nat, i.dig = (n : Int) ∧ padC n (Lib.decDigits (decV x)) = x := by
        by_cases h101 : c = 101
        · refine ⟨0, ?_, ?_⟩
          · subst h101; rcases (info_dig 101 hi).1 hn with h | h
            · exact h.2
            · exact absurd rfl h.1
          · rw [canon_dec _ rfl (h5 h101)]; exact pad_full (Nat.zero_le _)
        · have hl := h6 h101
          refine ⟨x.length, ?_, ?_⟩
          · have := List.length_pos_iff.2 h2
            omega
          · have := pad_back h1 h2
            rwa [itoa_nat] at this
      obtain ⟨n, hnd, hp⟩ := hdig
      rw [hnd]
      constructor
      · intro e
        have : m = decV x := by omega
        rw [this, hp]
      · intro e
        have := low_same (pad_dg n d1) h1 e
        have h8 := congrArg decV this
        rw [pad_dec, d2] at h8
        omega
    · simp only [if_neg hn] at h ⊢
      obtain ⟨k, y, h1, h2, h3, -⟩ := h
      obtain ⟨g1, g2⟩ := fn_names hk hn ht ht2
      have hap := (info_ok c hi).2.2
      have hj : i.names[(fnC i.F t - 1).toNat]? = some (i.names.getD (fnC i.F t - 1).toNat []) := by
        rw [List.getD_eq_getElem?_getD, List.getElem?_eq_getElem (by omega)]
        rfl
      rw [h2, h3]
      constructor
      · intro e
        have : (fnC i.F t - 1).toNat = k := by omega
        rw [this] at hj ⊢
        rw [h1] at hj
        injection hj with hj
        rw [← hj]
      · intro e
        have := apart_at hap hj h1 e
        omega
open Classical in
noncomputable def rdP (s form : Bs) : Int × Int := match valuesC s form with
  | none => (0, 2)
  | some g => if (tmP g).2 = 0 then (if ∀ c v, g c = some v → fnL c (tmP g).1 = v then ((tmP g).1, 0) else (0, 9)) else (0, 7)
noncomputable def rdR (s form : Bs) : Int × Int := match readR s form with
  | none => (0, 2)
  | some G => if (timeR G).2 = 0 then (if (G.all fun p => decide (lowL (rletC p.1 (timeR G).1) = lowL p.2)) = true then ((timeR G).1, 0) else (0, 9)) else (0, 7)
theorem tm_valid (g : Vals) (h : (tmP g).2 = 0) : -62135596800 ≤ (tmP g).1 ∧ (tmP g).1 ≤ 253402300799 := by
  unfold tmP at *
  split at h
  · split at h
    · rename_i h1
      rw [if_pos h1]
      exact (validI_iff _).1 h1
    · cases h
  · split at h
    · rename_i h1
      rw [if_pos h1]
      exact (validI_iff _).1 h1.2
    · cases h
/-- Both read the same. -/
theorem reads_law (s form : Bs) : rdR s form = rdP s form := by
  unfold rdR rdP
  rcases read_law s form with ⟨h1, h2⟩ | ⟨g, G, h1, h2, h3⟩
  · rw [h1, h2]
  · rw [h1, h2]
    simp only
    obtain ⟨h4, h5⟩ := time_law h3
    rw [h4] at h5 ⊢
    by_cases h6 : (tmP g).2 = 0
    · rw [if_pos h6, if_pos h6]
      have hv := tm_valid g h6
      have hiff : (G.all fun p => decide (lowL (rletC p.1 (tmP g).1) = lowL p.2)) = true ↔ ∀ c v, g c = some v → fnL c (tmP g).1 = v := by
        rw [List.all_eq_true]
        constructor
        · intro ha c v hc
          obtain ⟨u, rfl⟩ := h3.byte c (by rw [hc]; simp)
          rcases got_iff h3 u with ⟨_, q2⟩ | ⟨x, w, q1, q2, q3⟩
          · rw [q2] at hc; cases hc
          · rw [q2] at hc
            injection hc with hc
            subst hc
            by_cases h115 : u = 115
            · subst h115
              have := (h5 x q1 h6).2
              have e : g 115 = some w := q2
              rw [e] at this
              injection this with this
              rw [this]
              rfl
            · have hm : (u, x) ∈ G := by
                unfold gotT at q1
                cases hf : G.find? (fun p => p.1 == u) with
                | none => rw [hf] at q1; cases q1
                | some p =>
                  rw [hf] at q1
                  injection q1 with q1
                  have e1 := List.find?_some hf
                  have e2 := List.mem_of_find?_eq_some hf
                  have e3 : p.1 = u := by simpa using e1
                  have : p = (u, x) := Prod.ext e3 q1
                  rwa [this] at e2
              have := ha _ hm
              simp only [decide_eq_true_eq] at this
              have h37 : u ≠ 37 := by rintro rfl; have := told_known q3; cases this
              rw [rletC_of h37] at this
              exact (told_text h115 q3 hv.1 hv.2).2 this
        · intro ha p hp
          rw [decide_eq_true_eq]
          obtain ⟨c, x⟩ := p
          have q1 := h3.mem _ hp
          simp only at q1 ⊢
          obtain ⟨v, q2, q3⟩ := h3.yes c x q1
          have h37 : c ≠ 37 := by rintro rfl; have := told_known q3; cases this
          rw [rletC_of h37]
          by_cases h115 : c = 115
          · subst h115
            have := (h5 x q1 h6).1
            have e : textD 115 (tmP g).1 = Lib.itoa (tmP g).1 := by
              show padC 0 (Lib.itoa (tmP g).1) = _
              exact pad_full (Nat.zero_le _)
            rw [e, this]
          · exact (told_text h115 q3 hv.1 hv.2).1 (ha _ v q2)
      by_cases hh : (G.all fun p => decide (lowL (rletC p.1 (tmP g).1) = lowL p.2)) = true
      · rw [if_pos hh, if_pos (hiff.1 hh)]
      · rw [if_neg hh, if_neg (fun e => hh (hiff.2 e))]
    · rw [if_neg h6, if_neg h6]
end Go.Proofs.YtkahakhhdiffcaaGreatDoor
