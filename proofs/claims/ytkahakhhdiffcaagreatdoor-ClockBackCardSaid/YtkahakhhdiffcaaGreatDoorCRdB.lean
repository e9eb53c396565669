/- The reference's digits: isDigit; names: named; month. What the reference has read: text, number. What the reference has read: number; the names with which a text begins. The number of a month's name: month of the reference. -/
import Derived.Test.YtkahakhhdiffcaaGreatDoorCRd4
import Derived.Test.YtkahakhhdiffcaaGreatDoorCNx9
import Derived.BigQuiet
import Derived.Deep.RegionHeld3
import Derived.Test.YtkahakhhdiffcaaGreatDoorCRLet
namespace Go.Proofs.YtkahakhhdiffcaaGreatDoor
set_option linter.unusedVariables false
set_option linter.unusedSimpArgs false
open Go.RowKit Go.Shelf
def digAt (s : Bs) (i : Nat) : Bool := match s[i]? with
  | some a => isDg a
  | none => false
set_option maxHeartbeats 800000 in
theorem isDigit_any (s : Bs) (i : Nat) (w : World) :
    Calls Tryz.prog 122 #[.string ⟨s.toArray⟩, .int .i64 i] w fun e w' => e = .returned (.bool (digAt s i)) ∧ w = w' := by
  by_cases h : i < s.length
  · have t1 : decide ((i : Int) < (s.length : Int)) = true := by rw [decide_eq_true_eq]; omega
    have e : digAt s i = isDg s[i] := by unfold digAt; rw [List.getElem?_eq_getElem h]
    rw [e]
    cases hd : isDg s[i] with
    | true =>
      obtain ⟨g1, g2⟩ := isDg_yes hd
      go_enter Tryz.func122, Tryz.ntmps122
      go_wp2_with fail
      go_ret
      exact ⟨rfl, rfl⟩
    | false =>
      rcases isDg_no hd with h1 | h1
      · have g1 : decide (48 ≤ (s[i].toNat : Int)) = false := by rw [decide_eq_false_iff_not]; omega
        go_enter Tryz.func122, Tryz.ntmps122
        go_wp2_with fail
        go_ret
        exact ⟨rfl, rfl⟩
      · have g1 : (48 : Int) ≤ (s[i].toNat : Int) := by omega
        have g2 : decide ((s[i].toNat : Int) ≤ 57) = false := by rw [decide_eq_false_iff_not]; omega
        go_enter Tryz.func122, Tryz.ntmps122
        go_wp2_with fail
        go_ret
        exact ⟨rfl, rfl⟩
  · have t1 : decide ((i : Int) < (s.length : Int)) = false := by rw [decide_eq_false_iff_not]; omega
    have e : digAt s i = false := by unfold digAt; rw [List.getElem?_eq_none (by omega)]
    rw [e]
    go_enter Tryz.func122, Tryz.ntmps122
    go_wp2_with fail
    go_ret
    exact ⟨rfl, rfl⟩
end Go.Proofs.YtkahakhhdiffcaaGreatDoor
namespace Go.Proofs.YtkahakhhdiffcaaGreatDoor
set_option linter.unusedVariables false
set_option linter.unusedSimpArgs false
open Go.RowKit Go.Shelf
/-- What was read: letters, each with its text. -/
abbrev GotL := List (UInt8 × Bs)
def gotT (G : GotL) (c : UInt8) : Option Bs := (G.find? (fun p => p.1 == c)).map (·.2)
def GRow (W : World) (ao : Option Addr) (G : GotL) : Prop := ∀ k p, G[k]? = some p → ∃ g0, ao = some ⟨g0, 0, none⟩ ∧ W.cell? ⟨g0, k, none⟩ = some (.string ⟨p.2.toArray⟩)
theorem GRow.below {W W' : World} {ao : Option Addr} {G : GotL} (h : GRow W ao G) (hb : Below W.heap.size W W') : GRow W' ao G := by
  intro k p hp
  obtain ⟨g0, h1, h2⟩ := h k p hp
  exact ⟨g0, h1, (hb.cell (cell_lt h2)).trans h2⟩
theorem index_got (c : UInt8) : ∀ G : GotL, (gotT G c = none ∧ Lib.indexByte (G.map (·.1)) c = -1) ∨ ∃ (k : Nat) (p : UInt8 × Bs), G[k]? = some p ∧ gotT G c = some p.2 ∧ Lib.indexByte (G.map (·.1)) c = (k : Int)
  | [] => .inl ⟨rfl, rfl⟩
  | q :: G => by
    unfold gotT
    rw [List.map_cons, Lib.indexByte, List.find?_cons]
    cases h : (q.1 == c) with
    | true => exact .inr ⟨0, q, rfl, rfl, by simp⟩
    | false =>
      rcases index_got c G with ⟨h1, h2⟩ | ⟨k, p, h1, h2, h3⟩
      · refine .inl ⟨h1, ?_⟩
        rw [h2]; rfl
      · refine .inr ⟨k + 1, p, by simpa using h1, h2, ?_⟩
        rw [h3]
        have : ((k : Int) == -1) = false := by simp
        rw [this]
        simp
set_option maxHeartbeats 800000 in
theorem text_any (G : GotL) (hG : G.length ≤ 1000) (ao : Option Addr) (cap : Nat) (c : UInt8) (W : World) (hr : GRow W ao G) :
    Calls Tryz.prog 90 #[.agg #[.string ⟨(G.map (·.1)).toArray⟩, .slice ao G.length cap], .int .u8 (c.toNat : Int)] W fun e w' => e = .returned (.tuple #[.string ⟨((gotT G c).getD []).toArray⟩, .bool (gotT G c).isSome]) ∧ Below W.heap.size W w' := by
  have hb0 := below_alloc1 W (.cells #[.string ⟨(G.map (·.1)).toArray⟩, .slice ao G.length cap] 91)
  have HR := Lib.hid (hr.below hb0)
  have HI := Lib.hid (fun W' => Tryz.strings_IndexByte ⟨(G.map (·.1)).toArray⟩ (c.toNat : Int) W')
  have hcc : (((c.toNat : Int)).toNat).toUInt8 = c := by
    apply UInt8.toNat_inj.1
    simp
  rw [hcc] at HI
  have e9 : (⟨(G.map (·.1)).toArray⟩ : ByteArray).data.toList = G.map (·.1) := rfl
  rw [e9] at HI
  clear hr hcc e9
  rcases index_got c G with ⟨h1, h2⟩ | ⟨k, p, h1, h2, h3⟩
  · rw [h1]
    rw [h2] at HI
    have HB := Lib.hid hb0
    clear hb0
    go_enter Tryz.func90, Tryz.ntmps90
    go_wp2_with (go_at_call 88; refine (HI.out _).mono ?_; rintro e w1 ⟨rfl, rfl⟩)
    go_ret2
    exact ⟨rfl, HB.out⟩
  · rw [h2]
    rw [h3] at HI
    obtain ⟨g0, rfl, hc⟩ := HR.out k p h1
    have hk : k < G.length := (List.getElem?_eq_some_iff.1 h1).1
    have hki : (k : Int) < (G.length : Int) := by omega
    have hk0 : (0 : Int) ≤ (k : Int) := by omega
    have hk1 : decide ((k : Int) < 0) = false := by rw [decide_eq_false_iff_not]; omega
    have HB := Lib.hid hb0
    clear hb0
    go_enter Tryz.func90, Tryz.ntmps90
    go_wp2_with (go_at_call 88; refine (HI.out _).mono ?_; rintro e w1 ⟨rfl, rfl⟩)
    go_ret2
    exact ⟨rfl, HB.out⟩
end Go.Proofs.YtkahakhhdiffcaaGreatDoor
namespace Go.Proofs.YtkahakhhdiffcaaGreatDoor
set_option linter.unusedVariables false
set_option linter.unusedSimpArgs false
open Go.RowKit Go.Shelf
def numC (G : GotL) (c : UInt8) (o : Int) : Int := match gotT G c with
  | none => o
  | some x => atoiV x
theorem cells2_new (w : World) (a b : Value) (t : Nat) :
    (w.alloc (.cells #[a, b] t)).cell? ⟨w.heap.size, 0, none⟩ = some a ∧ (w.alloc (.cells #[a, b] t)).cell? ⟨w.heap.size, 1, none⟩ = some b := by
  have hb := heap_alloc_new w (.cells #[a, b] t)
  refine ⟨?_, ?_⟩ <;> (simp only [World.cell?, hb]; rfl)
set_option maxHeartbeats 800000 in
theorem gnum_any (G : GotL) (hG : G.length ≤ 1000) (hx : ∀ p ∈ G, p.2.length ≤ 1000000) (ao : Option Addr) (cap : Nat) (c : UInt8) (o : Int) (W : World) (hr : GRow W ao G) (hE : ErrIs W) :
    Calls Tryz.prog 92 #[.agg #[.string ⟨(G.map (·.1)).toArray⟩, .slice ao G.length cap], .int .u8 (c.toNat : Int), .int .i64 o] W fun e w' => e = .returned (.int .i64 (numC G c o)) ∧ Below W.heap.size W w' := by
  have hb0 := below_alloc1 W (.cells #[.string ⟨(G.map (·.1)).toArray⟩, .slice ao G.length cap] 91)
  have HT := Lib.hid (text_any G hG ao cap c _ (hr.below hb0))
  have HB := Lib.hid hb0
  have HE := Lib.hid (hE.below hb0)
  unfold numC
  cases h : gotT G c with
  | none =>
    rw [h] at HT
    simp only
    clear hb0 hr hE hx
    go_enter Tryz.func92, Tryz.ntmps92
    go_wp2_with (go_at_call 90; refine HT.out.mono ?_; rintro e w1 ⟨rfl, hb1⟩)
    go_ret
    exact ⟨rfl, HB.out.trans (hb1.mono HB.out.size)⟩
  | some x =>
    rw [h] at HT
    have hxl : x.length ≤ 1000000 := by
      unfold gotT at h
      cases hf : G.find? (fun p => p.1 == c) with
      | none => rw [hf] at h; cases h
      | some p => rw [hf] at h; cases h; exact hx p (List.mem_of_find?_eq_some hf)
    have HA := Lib.hid (fun W' hE => atoi_full x (by omega) W' hE)
    simp only
    generalize atoiV x = v at *
    clear hb0 hr hE hx h
    go_enter Tryz.func92, Tryz.ntmps92
    go_wp2_with (first | (go_at_call 90; refine HT.out.mono ?_; rintro e w1 ⟨rfl, hb1⟩; have H1 := Lib.hid (HB.out.trans (hb1.mono HB.out.size)); have HE1 := Lib.hid (HE.out.below hb1); clear hb1) | (go_at_call 91; refine (HA.out _ HE1.out).mono ?_; rintro e w2 ⟨er, rfl, _, hb2⟩; have H2 := Lib.hid (H1.out.trans (hb2.mono H1.out.size)); clear hb2))
    go_ret
    exact ⟨rfl, H2.out⟩
theorem lowerB_lowB (c : UInt8) : Lib.lowerB c = lowB c := by
  have : ∀ n : Fin 256, Lib.lowerB (UInt8.ofNat n.val) = lowB (UInt8.ofNat n.val) := by decide +kernel
  have h := this ⟨c.toNat, c.toNat_lt⟩
  simpa using h
theorem toLowerA_low (l : Bs) : Lib.toLowerA l = lowL l := by
  unfold Lib.toLowerA lowL
  exact List.map_congr_left fun c _ => lowerB_lowB c
theorem tolower_any (l : Bs) (hl : l.length ≤ 1000) (ha : ∀ b ∈ l, b.toNat < 128) (w : World) :
    Calls Tryz.prog 134 #[.string ⟨l.toArray⟩] w fun e w' => e = .returned (.string ⟨(lowL l).toArray⟩) ∧ Below w.heap.size w w' := by
  refine (Tryz.strings_ToLower_ascii ⟨l.toArray⟩ w (by show l.length ≤ _; omega) (fun j b hj => ha b (List.mem_of_getElem? hj))).mono ?_
  rintro e w' ⟨rfl, hb⟩
  refine ⟨?_, hb⟩
  rw [← toLowerA_low]
/-- The longest name, cut, with which a text begins. -/
def nameStep (s : Bs) (most : Nat) (out : Int) (x : Bs) : Int := if hasName s (x.take most) = true then max out ((x.take most).length : Int) else out
def namedC (s : Bs) (l : List Bs) (most : Nat) : Int := l.foldl (nameStep s most) (-1)
set_option maxRecDepth 100000 in
set_option maxHeartbeats 1600000 in
theorem named_any (s : Bs) (hs : s.length ≤ 1000000) (l : List Bs) (hl9 : l.length ≤ 1000) (hx9 : ∀ x ∈ l, x.length ≤ 20 ∧ ∀ b ∈ x, b.toNat < 128) (most : Nat) (hm : most ≤ 1000) (b cap : Nat) (W : World) (hr : SRow W b l) (hbW : b < W.heap.size) :
    Calls Tryz.prog 123 #[.string ⟨s.toArray⟩, .slice (some ⟨b, 0, none⟩) l.length cap, .int .i64 most] W fun e w' => e = .returned (.int .i64 (namedC s l most)) ∧ Below W.heap.size W w' := by
  have HR := Lib.hid hr
  have HX := Lib.hid hx9
  obtain ⟨R, hR⟩ : ∃ R, namedC s l most = R := ⟨_, rfl⟩
  rw [hR]
  have HRR := Lib.hid hR
  clear hr hx9 hR
  go_enter Tryz.func123, Tryz.ntmps123
  go_wp2_with fail
  go_loopw [7, 9, 12] (fun v7 v9 v12 wr => ∃ (k : Nat) (o : Int), k ≤ l.length ∧ v12 = .int .i64 k ∧ v7 = .int .i64 o ∧ -1 ≤ o ∧ o ≤ 1000 ∧ Hid ((l.drop k).foldl (nameStep s most) o = R) ∧ Below W.heap.size W wr) (fun _ _ v12 _ => l.length - (intOf v12).toNat)
  case atStart => exact ⟨0, -1, Nat.zero_le _, rfl, rfl, by omega, by omega, by show _ = _; rw [List.drop_zero]; exact HRR.out, Below.refl _ _⟩
  case round =>
    obtain ⟨k, o, hk, rfl, rfl, ho, ho2, HO, hb⟩ := hrel
    by_cases hlt : k < l.length
    · have hx : l[k]? = some l[k] := List.getElem?_eq_getElem hlt
      have hck := (hb.cell (p := ⟨b, k, none⟩) hbW).trans (HR.out k _ hx)
      obtain ⟨hx20, hxa⟩ := HX.out _ (List.getElem_mem hlt)
      have HO2 : Hid ((l.drop (k + 1)).foldl (nameStep s most) (nameStep s most o l[k]) = R) := by
        have := HO.out
        rw [List.drop_eq_getElem_cons hlt, List.foldl_cons] at this
        exact this
      have t1 : decide ((k : Int) < (l.length : Int)) = true := by rw [decide_eq_true_eq]; omega
      have hw1 : IntKind.i64.wrap ((k : Int) + 1) = (k : Int) + 1 := IntWalk.i64_in _ (by omega)
      have hk0 : (0 : Int) ≤ k := by omega
      have hki : (k : Int) < (l.length : Int) := by omega
      have HB := Lib.hid hb
      clear hx HO HRR hb
      generalize l[k] = x at *
      obtain ⟨mm, hmm⟩ : ∃ mm : Nat, min x.length most = mm := ⟨_, rfl⟩
      have hmi : min (x.length : Int) (most : Int) = (mm : Int) := by omega
      have hmx : (mm : Int) ≤ (x.length : Int) := by omega
      have htk : x.take most = x.take mm := by
        rcases Nat.le_total x.length most with h | h
        · rw [List.take_of_length_le h, List.take_of_length_le (by omega)]
        · rw [show mm = most by omega]
      have hyl : (x.take mm).length = mm := by simp; omega
      have HTL := Lib.hid (fun W' => tolower_any (x.take mm) (by omega) (fun b hb => hxa b (List.mem_of_mem_take hb)) W')
      unfold nameStep at HO2
      rw [htk] at HO2
      have hmin2 : min mm x.length = mm := by omega
      by_cases h2 : mm ≤ s.length
      · have HL1 := Lib.hid (fun W' => rlow_any (s.take mm) (by simp; omega) W')
        have d2 : decide (mm ≤ s.length) = true := by rw [decide_eq_true_eq]; exact h2
        have e1 : hasName s (x.take mm) = (lowL (s.take mm) == lowL (x.take mm)) := by
          unfold hasName
          rw [hyl, d2, Bool.true_and]
        rw [e1, hyl] at HO2
        have hy2 : (mm : Int) ≤ (s.length : Int) := by omega
        generalize lowL (s.take mm) = u1 at *
        generalize lowL (x.take mm) = u2 at *
        clear e1 htk hyl
        go_wp2_with fail
        obtain ⟨S0, hS0⟩ : ∃ S0 : World → Prop, S0 = fun w' => Below W.heap.size W w' ∧ wr.heap.size ≤ w'.heap.size := ⟨_, rfl⟩
        have k0 : S0 wr := by rw [hS0]; exact ⟨HB.out, Nat.le_refl _⟩
        have k1 : ∀ W', S0 W' → S0 W'.drew := by intro W' hW; rw [hS0] at hW ⊢; exact ⟨hW.1.drew, hW.2⟩
        have k2 : ∀ W' W'', S0 W' → Below W'.heap.size W' W'' → S0 W'' := by intro W' W'' hW hb; rw [hS0] at hW ⊢; exact ⟨hW.1.trans (hb.mono hW.1.size), Nat.le_trans hW.2 hb.size⟩
        have kB : Hid (∀ W', S0 W' → Below W.heap.size W W') := by intro W' hW; rw [hS0] at hW; exact hW.1
        clear hS0
        have ec : (u1 == u2) = (u2 == u1) := BEq.comm
        rw [ec] at HO2
        clear ec
        cases hq : (u2 == u1) with
        | true =>
          rw [hq] at HO2
          simp only [if_true] at HO2
          go_region_held3 (fun w' => S0 w') (first | go_keep | (exact k2 _ _ (by assumption) hbx) | (exact k2 _ _ (k1 _ (by assumption)) hbx) | (exact k1 _ (by assumption))) (first | (go_at_call 134; refine (HTL.out _).mono ?_; rintro e w1 ⟨rfl, hbx⟩) | (go_at_call 41; refine (HL1.out _).mono ?_; rintro e w2 ⟨rfl, hbx⟩))
          all_goals go_split_ands
          all_goals go_wp2_with fail
          all_goals go_roundw
          case rel => exact ⟨k + 1, max o (mm : Int), by omega, by go_num, rfl, by omega, by omega, HO2, kB.out _ (by assumption)⟩
          case measure => simp [intOf]; omega
        | false =>
          rw [hq] at HO2
          simp only [Bool.false_eq_true, if_false] at HO2
          go_region_held3 (fun w' => S0 w') (first | go_keep | (exact k2 _ _ (by assumption) hbx) | (exact k2 _ _ (k1 _ (by assumption)) hbx) | (exact k1 _ (by assumption))) (first | (go_at_call 134; refine (HTL.out _).mono ?_; rintro e w1 ⟨rfl, hbx⟩) | (go_at_call 41; refine (HL1.out _).mono ?_; rintro e w2 ⟨rfl, hbx⟩))
          all_goals go_split_ands
          all_goals go_wp2_with fail
          all_goals go_roundw
          case rel => exact ⟨k + 1, o, by omega, by go_num, rfl, ho, ho2, HO2, kB.out _ (by assumption)⟩
          case measure => simp [intOf]; omega
      · have d1 : decide (mm ≤ s.length) = false := by rw [decide_eq_false_iff_not]; exact h2
        have hnn : hasName s (x.take mm) = false := by unfold hasName; rw [hyl, d1]; rfl
        have HO3 := HO2
        rw [hnn] at HO3
        simp only [Bool.false_eq_true, if_false] at HO3
        clear HO2 hnn htk hyl
        go_wp2_with fail
        go_quiet (fail)
        go_wp2_with fail
        go_roundw
        case rel => exact ⟨k + 1, o, by omega, by go_num, rfl, ho, ho2, HO3, below_drewN HB.out _⟩
        case measure => simp [intOf]; omega
    · obtain rfl : k = l.length := by omega
      have t1 : decide ((l.length : Int) < (l.length : Int)) = false := by rw [decide_eq_false_iff_not]; omega
      obtain rfl : o = R := by have := HO.out; rw [List.drop_length] at this; exact this
      have HB := Lib.hid hb
      clear hb HX HR HRR HO
      go_wp2_with fail
      go_ret
      exact ⟨rfl, HB.out⟩
end Go.Proofs.YtkahakhhdiffcaaGreatDoor
namespace Go.Proofs.YtkahakhhdiffcaaGreatDoor
set_option linter.unusedVariables false
set_option linter.unusedSimpArgs false
open Go.RowKit Go.Shelf
def monthFrom (x : Bs) : List Bs → Int → Int
  | [], _ => 0
  | m :: l, k => if (lowL (m.take 3) == lowL (x.take 3)) = true then k + 1 else monthFrom x l (k + 1)
def monthC (x : Bs) : Int := monthFrom x monthsL 0
theorem months_long : ∀ m ∈ monthsL, 3 ≤ m.length ∧ m.length ≤ 20 := by decide
set_option maxRecDepth 100000 in
set_option maxHeartbeats 1600000 in
theorem month_any (x : Bs) (hx3 : 3 ≤ x.length) (hx9 : x.length ≤ 1000000) (w : World) :
    Calls Tryz.prog 93 #[.string ⟨x.toArray⟩] w fun e w' => e = .returned (.int .i64 (monthC x)) ∧ Below w.heap.size w w' := by
  have HM := Lib.hid (fun W => rmonths_any W)
  have HML := Lib.hid months_long
  have h12 : monthsL.length = 12 := rfl
  obtain ⟨R, hR⟩ : ∃ R, monthC x = R := ⟨_, rfl⟩
  rw [hR]
  have HR := Lib.hid hR
  clear hR
  unfold monthC at HR
  go_enter Tryz.func93, Tryz.ntmps93
  go_wp2_with (go_at_call 99; refine (HM.out _).mono ?_; rintro e w1 ⟨rfl, hrow, hb1⟩; have HR1 := Lib.hid hrow; have HB1 := Lib.hid hb1; clear hrow hb1)
  have hlt0 : w.heap.size < w1.heap.size := cell_lt (HR1.out 0 _ rfl)
  generalize monthsL = l at *
  go_loopw [3, 4, 7] (fun _ _ v7 wr => ∃ k : Nat, k ≤ l.length ∧ v7 = .int .i64 k ∧ Hid (monthFrom x (l.drop k) k = R) ∧ Below w1.heap.size w1 wr) (fun _ _ v7 _ => l.length - (intOf v7).toNat)
  case atStart => exact ⟨0, Nat.zero_le _, rfl, by show _ = _; rw [List.drop_zero]; exact HR.out, Below.refl _ _⟩
  case round =>
    obtain ⟨k, hk, rfl, HO, hb⟩ := hrel
    by_cases hlt : k < l.length
    · have hx : l[k]? = some l[k] := List.getElem?_eq_getElem hlt
      have hck := (hb.cell (p := ⟨w.heap.size, k, none⟩) hlt0).trans (HR1.out k _ hx)
      obtain ⟨hm3, hm20⟩ := HML.out _ (List.getElem_mem hlt)
      have HO2 : Hid ((if (lowL (l[k].take 3) == lowL (x.take 3)) = true then (k : Int) + 1 else monthFrom x (l.drop (k + 1)) ((k : Int) + 1)) = R) := by
        have := HO.out
        rw [List.drop_eq_getElem_cons hlt, monthFrom] at this
        exact this
      have t1 : decide ((k : Int) < 12) = true := by rw [decide_eq_true_eq]; omega
      have hw1 : IntKind.i64.wrap ((k : Int) + 1) = (k : Int) + 1 := IntWalk.i64_in _ (by omega)
      have hk0 : (0 : Int) ≤ k := by omega
      have hki : (k : Int) < 12 := by omega
      have hs1 : (3 : Int) ≤ (l[k].length : Int) := by omega
      have hs2 : (3 : Int) ≤ (x.length : Int) := by omega
      have hs3 : 3 ≤ l[k].length := hm3
      have HL1 := Lib.hid (fun W' => rlow_any (l[k].take 3) (by simp; omega) W')
      have HL2 := Lib.hid (fun W' => rlow_any (x.take 3) (by simp; omega) W')
      have HB := Lib.hid hb
      clear hx HO HR hb HM HML
      generalize lowL (l[k].take 3) = u1 at *
      generalize lowL (x.take 3) = u2 at *
      generalize l[k] = m at *
      go_wp2_with fail
      obtain ⟨S0, hS0⟩ : ∃ S0 : World → Prop, S0 = fun w' => Below w1.heap.size w1 w' := ⟨_, rfl⟩
      have k0 : S0 wr := by rw [hS0]; exact HB.out
      have k1 : ∀ W', S0 W' → S0 W'.drew := by intro W' hW; rw [hS0] at hW ⊢; exact hW.drew
      have k2 : ∀ W' W'', S0 W' → Below W'.heap.size W' W'' → S0 W'' := by intro W' W'' hW hb; rw [hS0] at hW ⊢; exact hW.trans (hb.mono hW.size)
      have kB : Hid (∀ W', S0 W' → Below w1.heap.size w1 W') := by intro W' hW; rw [hS0] at hW; exact hW
      clear hS0
      cases hq : (u1 == u2) with
      | true =>
        rw [hq] at HO2
        simp only [if_true] at HO2
        have hR1 : R = (k : Int) + 1 := HO2.out.symm
        subst hR1
        go_region_held3 (fun w' => S0 w') (first | go_keep | (exact k2 _ _ (by assumption) hbx) | (exact k2 _ _ (k1 _ (by assumption)) hbx) | (exact k1 _ (by assumption))) (first | (go_at_call_of 41 m; refine (HL1.out _).mono ?_; rintro e w2 ⟨rfl, hbx⟩) | (go_at_call_of 41 x; refine (HL2.out _).mono ?_; rintro e w2 ⟨rfl, hbx⟩))
        all_goals go_split_ands
        all_goals go_wp2_with fail
        all_goals go_ret
        all_goals exact ⟨rfl, HB1.out.trans ((kB.out _ (by assumption)).mono HB1.out.size)⟩
      | false =>
        rw [hq] at HO2
        simp only [Bool.false_eq_true, if_false] at HO2
        go_region_held3 (fun w' => S0 w') (first | go_keep | (exact k2 _ _ (by assumption) hbx) | (exact k2 _ _ (k1 _ (by assumption)) hbx) | (exact k1 _ (by assumption))) (first | (go_at_call_of 41 m; refine (HL1.out _).mono ?_; rintro e w2 ⟨rfl, hbx⟩) | (go_at_call_of 41 x; refine (HL2.out _).mono ?_; rintro e w2 ⟨rfl, hbx⟩))
        all_goals go_split_ands
        all_goals go_wp2_with fail
        all_goals go_roundw
        case rel => exact ⟨k + 1, by omega, by go_num, HO2, kB.out _ (by assumption)⟩
        case measure => simp [intOf]; omega
    · obtain rfl : k = l.length := by omega
      have t1 : decide ((l.length : Int) < 12) = false := by rw [decide_eq_false_iff_not]; omega
      have hR0 : R = 0 := by have := HO.out; rw [List.drop_length] at this; exact this.symm
      subst hR0
      have HB := Lib.hid hb
      clear hb HO HR HML
      go_wp2_with fail
      go_ret
      exact ⟨rfl, HB1.out.trans (HB.out.mono HB1.out.size)⟩
end Go.Proofs.YtkahakhhdiffcaaGreatDoor
