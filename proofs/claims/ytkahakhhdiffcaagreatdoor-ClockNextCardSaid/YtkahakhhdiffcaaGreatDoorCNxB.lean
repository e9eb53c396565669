/- The reference's fields of a rule: lists of items. -/
import Derived.Test.YtkahakhhdiffcaaGreatDoorCNxA
namespace Go.Proofs.YtkahakhhdiffcaaGreatDoor
set_option linter.unusedVariables false
set_option linter.unusedSimpArgs false
open Go.RowKit Go.Shelf
/-- What 'field' tells. -/
def FieldRes (o : Option (Nat → Bool)) (e : Ending) : Prop := match o with
  | none => ∃ G, e = .returned (.tuple #[.agg (arrF 60 G), .bool false])
  | some F => e = .returned (.tuple #[.agg (arrF 60 F), .bool true])
theorem set_or {F : Nat → Bool} {j : Nat} : (fun k => if k = j then true else F k) = fun k => F k || decide (k = j) := by
  funext k
  by_cases h : k = j <;> simp [h]
theorem itemR_of {x a b : Bs} {both : Bool} (h : Lib.cut x [45] = (a, b, both)) (lo hi : Nat) : itemR x lo hi = if (okIn a lo hi && okIn (if both then b else a) lo hi && decide (numS a ≤ numS (if both then b else a))) = true then some (rangeF (numS a) (numS (if both then b else a)) 1) else none := by
  unfold itemR
  rw [h]
theorem fldG_none {item : Bs → Option (Nat → Bool)} {x : Bs} {r : List Bs} {F : Nat → Bool} (h : item x = none) : fieldsG item (x :: r) F = none := by
  unfold fieldsG; rw [h]
theorem fldG_some {item : Bs → Option (Nat → Bool)} {x : Bs} {r : List Bs} {F G : Nat → Bool} (h : item x = some G) : fieldsG item (x :: r) F = fieldsG item r (fun n => F n || G n) := by
  rw [fieldsG, h]
theorem MaxIs.low {w w' : World} (h : MaxIs w) (hb : Below w.heap.size w w') : MaxIs w' := by
  obtain ⟨m, hm⟩ := h
  exact ⟨m, (hb.cell (p := ⟨0, 0, none⟩) (by have := Lib.lt_of_cell hm; exact this)).trans hm⟩
/-- What holds while items are read. -/
structure FdJ (w : World) (sb : Nat) (l : List Bs) (F : Nat → Bool) (W : World) : Prop where
  a8 : ArrB W (w.heap.size + 1) F
  a6 : ArrB W w.heap.size (fun _ => false)
  sp : SpR W sb l
  below : Below w.heap.size w W
theorem FdJ.low {w : World} {sb : Nat} {l : List Bs} {F : Nat → Bool} {W W' : World} (h : FdJ w sb l F W) (hb : Below W.heap.size W W') : FdJ w sb l F W' := ⟨h.a8.low hb, h.a6.low hb, h.sp.low hb, h.below.trans (hb.mono h.below.size)⟩
theorem FdJ.put {w : World} {sb : Nat} {l : List Bs} {F : Nat → Bool} {W : World} (h : FdJ w sb l F W) (hs : w.heap.size + 1 < sb) (j : Nat) : FdJ w sb l (fun k => if k = j then true else F k) (W.setCell ⟨w.heap.size + 1, j, none⟩ (.bool true)) := by
  obtain ⟨h1, h2⟩ := h.a8.set j true
  exact ⟨h1, h.a6.ms h2 (by omega), h.sp.ms h2 (by omega), h.below.trans (h2.below (by omega) h.below.size)⟩
theorem fd_fail {w : World} {sb : Nat} {l : List Bs} {F : Nat → Bool} {W : World} (h : FdJ w sb l F W) (G : Nat → Bool) : (loadVar 58 ⟨w.heap.size, 0, none⟩).run Tryz.prog (W.setRow w.heap.size (arrF 60 G)) = .ok (.agg (arrF 60 G)) (W.setRow w.heap.size (arrF 60 G)) ∧ Below w.heap.size w (W.setRow w.heap.size (arrF 60 G)) := by
  obtain ⟨_, h1, h2⟩ := h.a6.store G
  exact ⟨h1.loadVar, h.below.trans (h2.below (Nat.le_refl _) h.below.size)⟩
set_option maxRecDepth 100000 in
set_option maxHeartbeats 3200000 in
theorem field_list (s : Bs) (h0 : s ≠ [42]) (hst : starS s = false) (hs : s.length ≤ 100000) (lo hi : Nat) (hlh : lo ≤ hi) (hhi : hi < 60) (w : World) (hE : ErrIs w) (hP : PowIs w) (hM : MaxIs w) :
    Calls Tryz.prog 24 #[.string ⟨s.toArray⟩, .int .i64 lo, .int .i64 hi] w fun e w' => FieldRes (fieldsG (fun x => itemR x lo hi) (Lib.split s [44]) (fun _ => false)) e ∧ Below w.heap.size w w' := by
  have hne : (s == [42]) = false := by rw [beq_eq_false_iff_ne]; exact h0
  obtain ⟨w2, hw2⟩ : ∃ w2, w2 = (w.alloc (.cells (arrF 60 (fun _ => false)) 58)).alloc (.cells (arrF 60 (fun _ => false)) 58) := ⟨_, rfl⟩
  obtain ⟨hsz, hA6, hA8, hB2⟩ := arr_start w hw2
  have HW2 := Lib.hid hw2
  have CP := Lib.hid (fun W => cutp_any s W)
  rw [hst] at CP
  simp only [Bool.false_eq_true, if_false] at CP
  have K : Hid (∀ W, Below w.heap.size w W → ErrIs W ∧ PowIs W ∧ MaxIs W) := fun W hB => ⟨hE.below hB, hP.low hB, hM.low hB⟩
  have SM0 := Lib.hid (fun W (hB : Below w.heap.size w W) => small_any s 1 59 hs W (K.out W hB).1 (K.out W hB).2.1)
  generalize atoiV s = n0 at *
  generalize okIn s 1 59 = b0 at *
  have SP := Lib.hid (fun W (hB : Below w.heap.size w W) => split_any s 44 hs W (K.out W hB).2.2)
  have hwl : ∀ x ∈ Lib.split s [44], x.length ≤ 100000 := fun x hx => by have := split_len [44] _ _ x hx; omega
  have hcnt : (Lib.split s [44]).length ≤ 100001 := by have := split_count s 44; omega
  generalize Lib.split s [44] = l at *
  obtain ⟨L, hL⟩ : ∃ L, l.length = L := ⟨_, rfl⟩
  rw [hL] at SP hcnt
  obtain ⟨res, hres⟩ : ∃ res, fieldsG (fun x => itemR x lo hi) l (fun _ => false) = res := ⟨_, rfl⟩
  rw [hres]
  have HRES := Lib.hid hres
  have HL := Lib.hid hL
  have HWL := Lib.hid hwl
  have HB2 := Lib.hid hB2
  have HA := Lib.hid (And.intro hA6 hA8)
  have HSZ := Lib.hid hsz
  clear hw2 hA6 hA8 hB2 hsz hE hP hM hwl hres hL hst h0
  go_enter Tryz.func24, Tryz.ntmps24
  go_wp2_with (first
    | (go_at_call 51; refine (CP.out _).mono ?_; rintro e w1 ⟨rfl, hw⟩; have hw' := HW2.out.trans hw; clear hw; subst hw')
    | (go_at_call 52; go_loud (refine (SM0.out _ HB2.out).mono ?_); rintro e w3 ⟨rfl, hB⟩; have H3 : Hid (ArrB w3 w.heap.size (fun _ => false) ∧ ArrB w3 (w.heap.size + 1) (fun _ => false) ∧ Below w.heap.size w w3) := ⟨HA.out.1.low hB, HA.out.2.low hB, HB2.out.trans (hB.mono HB2.out.size)⟩; have HS3 : Hid (w.heap.size + 2 ≤ w3.heap.size) := Nat.le_trans (Nat.le_of_eq HSZ.out.symm) hB.size; clear hB)
    | (go_at_call 18; refine (SP.out _ H3.out.2.2).mono ?_; rintro e w4 ⟨rfl, hsr, hB⟩; have H4 : Hid (FdJ w w3.heap.size l (fun _ => false) w4) := ⟨H3.out.2.1.low hB, H3.out.1.low hB, hsr, H3.out.2.2.trans (hB.mono H3.out.2.2.size)⟩; clear hsr hB))
  obtain ⟨sb, hsb⟩ : ∃ sb, w3.heap.size = sb := ⟨_, rfl⟩
  rw [hsb] at H4 HS3 ⊢
  have hsb2 : w.heap.size + 1 < sb := by have := HS3.out; omega
  clear hsb
  go_loopw [15, 16, 17, 18, 19, 20, 21, 22, 23, 57] (fun _ _ _ _ _ _ _ _ _ v wr => ∃ (k : Nat) (F : Nat → Bool), k ≤ L ∧ v = .int .i64 (k : Int) ∧ FdJ w sb l F wr ∧ Hid (fieldsG (fun x => itemR x lo hi) (l.drop k) F = res)) (fun _ _ _ _ _ _ _ _ _ v _ => L - (intOf v).toNat)
  case atStart => exact ⟨0, fun _ => false, Nat.zero_le _, rfl, H4.out, HRES.out⟩
  case round =>
    obtain ⟨k, F, hk, rfl, hJ, HR⟩ := hrel
    have HJ := Lib.hid hJ
    by_cases hlt : k < L
    · have hkl : k < l.length := by have := HL.out; omega
      have hcx := hJ.sp.at_ k hkl
      have HD := Lib.hid (List.drop_eq_getElem_cons hkl)
      have hxl := HWL.out l[k] (List.getElem_mem _)
      generalize l[k] = x at *
      have t1 : decide ((k : Int) < (L : Int)) = true := by rw [decide_eq_true_eq]; omega
      have i2 : (k : Int) < (L : Int) := by omega
      have hw1 : IntKind.i64.wrap ((k : Int) + 1) = (k : Int) + 1 := IntWalk.i64_in _ (by omega)
      obtain ⟨a, b, both, hc⟩ : ∃ a b both, Lib.cut x [45] = (a, b, both) := ⟨_, _, _, rfl⟩
      have CU := Lib.hid (cut_any x hxl hc wr (K.out _ hJ.below).2.2)
      obtain ⟨hla, hlb⟩ := cut_len hc
      have HI := Lib.hid (itemR_of hc lo hi)
      obtain ⟨b2, hb2⟩ : ∃ b2, (if both = true then b else a) = b2 := ⟨_, rfl⟩
      rw [hb2] at HI
      have hlb2 : b2.length ≤ 100000 := by rw [← hb2]; split <;> omega
      have SA := Lib.hid (fun W (hB : Below w.heap.size w W) => small_any a lo hi (by omega) W (K.out W hB).1 (K.out W hB).2.1)
      have SB := Lib.hid (fun W (hB : Below w.heap.size w W) => small_any b2 lo hi hlb2 W (K.out W hB).1 (K.out W hB).2.1)
      have HOA := Lib.hid (fun h : okIn a lo hi = true => okIn_ok h)
      have HOB := Lib.hid (fun h : okIn b2 lo hi = true => okIn_ok h)
      clear hJ hc hla hlb hxl
      cases both with
      | true =>
        simp only [if_true] at hb2
        subst hb2
        cases ha : okIn a lo hi with
        | false =>
          have hr2 : res = none := by
            have h1 := HR.out
            rw [HD.out, fldG_none (by rw [HI.out, if_neg (by rw [ha]; simp)])] at h1
            exact h1.symm
          subst hr2
          rw [ha] at SA
          generalize atoiV a = n1 at *
          generalize atoiV b = n2 at *
          generalize okIn b lo hi = bb at *
          clear HI HOA HOB ha
          go_wp2_with (first
            | (go_at_call 53; refine CU.out.mono ?_; rintro e w5 ⟨rfl, hB⟩; have J5 := Lib.hid (HJ.out.low hB); clear hB)
            | (go_at_call 52; refine (SB.out _ J6.out.below).mono ?_; rintro e w7 ⟨rfl, hB⟩; have J7 := Lib.hid (J6.out.low hB); clear hB)
            | (go_at_call 52; refine (SA.out _ J5.out.below).mono ?_; rintro e w6 ⟨rfl, hB⟩; have J6 := Lib.hid (J5.out.low hB); clear hB)
            | (refine wpList_arr_load rfl (.tmp 8) rfl rfl J7.out.a8 ?_) | (refine wpList_arr_store rfl (.tmp 6) (.tmp 95) rfl rfl rfl J7.out.a6 ?_))
          refine bodyPost_ret (results_ct rfl _ rfl (fd_fail J7.out F).1) rfl ⟨⟨_, rfl⟩, (fd_fail J7.out F).2⟩
        | true =>
          cases hb : okIn b lo hi with
          | false =>
            have hr2 : res = none := by
              have h1 := HR.out
              rw [HD.out, fldG_none (by rw [HI.out, if_neg (by rw [hb]; simp)])] at h1
              exact h1.symm
            subst hr2
            rw [ha] at SA
            rw [hb] at SB
            generalize atoiV a = n1 at *
            generalize atoiV b = n2 at *
            clear HI HOA HOB ha hb
            go_wp2_with (first
              | (go_at_call 53; refine CU.out.mono ?_; rintro e w5 ⟨rfl, hB⟩; have J5 := Lib.hid (HJ.out.low hB); clear hB)
              | (go_at_call 52; refine (SB.out _ J6.out.below).mono ?_; rintro e w7 ⟨rfl, hB⟩; have J7 := Lib.hid (J6.out.low hB); clear hB)
              | (go_at_call 52; refine (SA.out _ J5.out.below).mono ?_; rintro e w6 ⟨rfl, hB⟩; have J6 := Lib.hid (J5.out.low hB); clear hB)
              | (refine wpList_arr_load rfl (.tmp 8) rfl rfl J7.out.a8 ?_) | (refine wpList_arr_store rfl (.tmp 6) (.tmp 95) rfl rfl rfl J7.out.a6 ?_))
            refine bodyPost_ret (results_ct rfl _ rfl (fd_fail J7.out F).1) rfl ⟨⟨_, rfl⟩, (fd_fail J7.out F).2⟩
          | true =>
            obtain ⟨ea, ea1, ea2⟩ := HOA.out ha
            obtain ⟨eb, eb1, eb2⟩ := HOB.out hb
            rw [ha, ea] at SA
            rw [hb, eb] at SB
            rw [ha, hb] at HI
            obtain ⟨na, hna⟩ : ∃ na, numS a = na := ⟨_, rfl⟩
            obtain ⟨nb, hnb⟩ : ∃ nb, numS b = nb := ⟨_, rfl⟩
            rw [hna] at SA HI ea1 ea2
            rw [hnb] at SB HI eb1 eb2
            clear HOA HOB ha hb ea eb hna hnb
            by_cases hab : na ≤ nb
            · have HS : Hid (fieldsG (fun x => itemR x lo hi) (l.drop (k + 1)) (fun n => F n || rangeF na nb 1 n) = res) := by
                have h1 := HR.out
                rw [HD.out, fldG_some (G := rangeF na nb 1) (by rw [HI.out, if_pos (by simp [hab])])] at h1
                exact h1
              have t2 : decide ((nb : Int) < (na : Int)) = false := by rw [decide_eq_false_iff_not]; omega
              go_wp2_with (first
                | (go_at_call 53; refine CU.out.mono ?_; rintro e w5 ⟨rfl, hB⟩; have J5 := Lib.hid (HJ.out.low hB); clear hB)
                | (go_at_call 52; refine (SB.out _ J6.out.below).mono ?_; rintro e w7 ⟨rfl, hB⟩; have J7 := Lib.hid (J6.out.low hB); clear hB)
                | (go_at_call 52; refine (SA.out _ J5.out.below).mono ?_; rintro e w6 ⟨rfl, hB⟩; have J6 := Lib.hid (J5.out.low hB); clear hB)
                | (refine wpList_arr_load rfl (.tmp 8) rfl rfl J7.out.a8 ?_) | (refine wpList_arr_store rfl (.tmp 6) (.tmp 95) rfl rfl rfl J7.out.a6 ?_))
              go_loopw [23] (fun v wy => ∃ j : Nat, na ≤ j ∧ j ≤ nb + 1 ∧ v = .int .i64 (j : Int) ∧ FdJ w sb l (fun k => F k || (rangeF na nb 1 k && decide (k < j))) wy) (fun v _ => nb + 1 - (intOf v).toNat)
              case atStart => exact ⟨na, Nat.le_refl _, by omega, rfl, by rw [rangeF_none]; exact J7.out⟩
              case round =>
                obtain ⟨j, hj1, hj2, rfl, hJj⟩ := hrel
                have HJj := Lib.hid hJj
                by_cases hle : j ≤ nb
                · have t3 : decide ((j : Int) ≤ (nb : Int)) = true := by rw [decide_eq_true_eq]; omega
                  have i3 : j < 60 := by omega
                  have i4 : (j : Int) < 60 := by omega
                  have hw3 : IntKind.i64.wrap ((j : Int) + 1) = (j : Int) + 1 := IntWalk.i64_in _ (by omega)
                  have cx := hJj.a8.cell i3
                  have fx := hJj.a8.frozen j
                  have HS8 := Lib.hid (hJj.put hsb2 j)
                  clear hJj
                  go_wp2_with fail
                  go_roundw
                  case rel => exact ⟨j + 1, by omega, by omega, by go_num, by have h := HS8.out; rw [set_or, rangeF_step hj1 hle (Nat.mod_one j)] at h; exact h⟩
                  case measure => simp [intOf]; omega
                · have t3 : decide ((j : Int) ≤ (nb : Int)) = false := by rw [decide_eq_false_iff_not]; omega
                  obtain rfl : j = nb + 1 := by omega
                  clear hJj
                  go_wp2_with fail
                  go_roundw
                  case rel => exact ⟨k + 1, _, by omega, by go_num, by have h := HJj.out; rw [rangeF_all] at h; exact h, HS.out⟩
                  case measure => simp [intOf]; omega
            · have hr2 : res = none := by
                have h1 := HR.out
                rw [HD.out, fldG_none (by rw [HI.out, if_neg (by simp; omega)])] at h1
                exact h1.symm
              subst hr2
              have t2 : decide ((nb : Int) < (na : Int)) = true := by rw [decide_eq_true_eq]; omega
              clear HI
              go_wp2_with (first
                | (go_at_call 53; refine CU.out.mono ?_; rintro e w5 ⟨rfl, hB⟩; have J5 := Lib.hid (HJ.out.low hB); clear hB)
                | (go_at_call 52; refine (SB.out _ J6.out.below).mono ?_; rintro e w7 ⟨rfl, hB⟩; have J7 := Lib.hid (J6.out.low hB); clear hB)
                | (go_at_call 52; refine (SA.out _ J5.out.below).mono ?_; rintro e w6 ⟨rfl, hB⟩; have J6 := Lib.hid (J5.out.low hB); clear hB)
                | (refine wpList_arr_load rfl (.tmp 8) rfl rfl J7.out.a8 ?_) | (refine wpList_arr_store rfl (.tmp 6) (.tmp 95) rfl rfl rfl J7.out.a6 ?_))
              refine bodyPost_ret (results_ct rfl _ rfl (fd_fail J7.out F).1) rfl ⟨⟨_, rfl⟩, (fd_fail J7.out F).2⟩
      | false =>
        simp only [Bool.false_eq_true, if_false] at hb2
        subst hb2
        cases ha : okIn a lo hi with
        | false =>
          have hr2 : res = none := by
            have h1 := HR.out
            rw [HD.out, fldG_none (by rw [HI.out, if_neg (by rw [ha]; simp)])] at h1
            exact h1.symm
          subst hr2
          rw [ha] at SA SB
          generalize atoiV a = n1 at *
          clear HI HOA HOB ha
          go_wp2_with (first
            | (go_at_call 53; refine CU.out.mono ?_; rintro e w5 ⟨rfl, hB⟩; have J5 := Lib.hid (HJ.out.low hB); clear hB)
            | (go_at_call 52; refine (SB.out _ J6.out.below).mono ?_; rintro e w7 ⟨rfl, hB⟩; have J7 := Lib.hid (J6.out.low hB); clear hB)
            | (go_at_call 52; refine (SA.out _ J5.out.below).mono ?_; rintro e w6 ⟨rfl, hB⟩; have J6 := Lib.hid (J5.out.low hB); clear hB)
            | (refine wpList_arr_load rfl (.tmp 8) rfl rfl J7.out.a8 ?_) | (refine wpList_arr_store rfl (.tmp 6) (.tmp 95) rfl rfl rfl J7.out.a6 ?_))
          refine bodyPost_ret (results_ct rfl _ rfl (fd_fail J7.out F).1) rfl ⟨⟨_, rfl⟩, (fd_fail J7.out F).2⟩
        | true =>
          obtain ⟨ea, ea1, ea2⟩ := HOA.out ha
          rw [ha, ea] at SA SB
          rw [ha] at HI
          obtain ⟨na, hna⟩ : ∃ na, numS a = na := ⟨_, rfl⟩
          rw [hna] at SA SB HI ea1 ea2
          clear HOA HOB ha ea hna
          have HS : Hid (fieldsG (fun x => itemR x lo hi) (l.drop (k + 1)) (fun n => F n || rangeF na na 1 n) = res) := by
            have h1 := HR.out
            rw [HD.out, fldG_some (G := rangeF na na 1) (by rw [HI.out, if_pos (by simp)])] at h1
            exact h1
          have t2 : decide ((na : Int) < (na : Int)) = false := by rw [decide_eq_false_iff_not]; omega
          go_wp2_with (first
            | (go_at_call 53; refine CU.out.mono ?_; rintro e w5 ⟨rfl, hB⟩; have J5 := Lib.hid (HJ.out.low hB); clear hB)
            | (go_at_call 52; refine (SB.out _ J6.out.below).mono ?_; rintro e w7 ⟨rfl, hB⟩; have J7 := Lib.hid (J6.out.low hB); clear hB)
            | (go_at_call 52; refine (SA.out _ J5.out.below).mono ?_; rintro e w6 ⟨rfl, hB⟩; have J6 := Lib.hid (J5.out.low hB); clear hB)
            | (refine wpList_arr_load rfl (.tmp 8) rfl rfl J7.out.a8 ?_) | (refine wpList_arr_store rfl (.tmp 6) (.tmp 95) rfl rfl rfl J7.out.a6 ?_))
          go_loopw [23] (fun v wy => ∃ j : Nat, na ≤ j ∧ j ≤ na + 1 ∧ v = .int .i64 (j : Int) ∧ FdJ w sb l (fun k => F k || (rangeF na na 1 k && decide (k < j))) wy) (fun v _ => na + 1 - (intOf v).toNat)
          case atStart => exact ⟨na, Nat.le_refl _, by omega, rfl, by rw [rangeF_none]; exact J7.out⟩
          case round =>
            obtain ⟨j, hj1, hj2, rfl, hJj⟩ := hrel
            have HJj := Lib.hid hJj
            by_cases hle : j ≤ na
            · have t3 : decide ((j : Int) ≤ (na : Int)) = true := by rw [decide_eq_true_eq]; omega
              have i3 : j < 60 := by omega
              have i4 : (j : Int) < 60 := by omega
              have hw3 : IntKind.i64.wrap ((j : Int) + 1) = (j : Int) + 1 := IntWalk.i64_in _ (by omega)
              have cx := hJj.a8.cell i3
              have fx := hJj.a8.frozen j
              have HS8 := Lib.hid (hJj.put hsb2 j)
              clear hJj
              go_wp2_with fail
              go_roundw
              case rel => exact ⟨j + 1, by omega, by omega, by go_num, by have h := HS8.out; rw [set_or, rangeF_step hj1 hle (Nat.mod_one j)] at h; exact h⟩
              case measure => simp [intOf]; omega
            · have t3 : decide ((j : Int) ≤ (na : Int)) = false := by rw [decide_eq_false_iff_not]; omega
              obtain rfl : j = na + 1 := by omega
              clear hJj
              go_wp2_with fail
              go_roundw
              case rel => exact ⟨k + 1, _, by omega, by go_num, by have h := HJj.out; rw [rangeF_all] at h; exact h, HS.out⟩
              case measure => simp [intOf]; omega
    · obtain rfl : k = L := by omega
      have t1 : decide ((k : Int) < (k : Int)) = false := by rw [decide_eq_false_iff_not]; omega
      have hr := HR.out
      rw [List.drop_eq_nil_of_le (by have := HL.out; omega)] at hr
      have hr2 : res = some F := hr.symm
      subst hr2
      clear hr hJ
      go_wp2_with (first | (refine wpList_arr_load rfl (.tmp 8) rfl rfl HJ.out.a8 ?_) | (refine wpList_arr_store rfl (.tmp 6) (.tmp 105) rfl rfl rfl HJ.out.a6 ?_))
      refine bodyPost_ret (results_ct rfl _ rfl (fd_fail HJ.out F).1) rfl ⟨by unfold FieldRes; rfl, (fd_fail HJ.out F).2⟩
theorem field_any (s : Bs) (hs : s.length ≤ 100000) (lo hi : Nat) (hlh : lo ≤ hi) (hhi : hi < 60) (w : World) (hE : ErrIs w) (hP : PowIs w) (hM : MaxIs w) :
    Calls Tryz.prog 24 #[.string ⟨s.toArray⟩, .int .i64 lo, .int .i64 hi] w fun e w' => FieldRes (fieldP s lo hi) e ∧ Below w.heap.size w w' := by
  rw [← field_eq]
  unfold fieldR
  by_cases h0 : s = [42]
  · subst h0
    rw [if_pos rfl]
    exact field_star lo hi hlh hhi w hE hP
  · rw [if_neg h0]
    by_cases h1 : starS s = true
    · rw [if_pos h1]
      cases h2 : okIn (s.drop 2) 1 59 with
      | true => rw [if_pos rfl]; exact field_step s hs h1 h2 lo hi hlh hhi w hE hP
      | false =>
        rw [if_neg (by simp)]
        exact (field_bad s hs h1 h2 lo hi hlh hhi w hE hP).mono fun e w' h => ⟨⟨_, h.1⟩, h.2⟩
    · rw [if_neg h1]
      exact field_list s h0 (by simpa using h1) hs lo hi hlh hhi w hE hP hM
end Go.Proofs.YtkahakhhdiffcaaGreatDoor
