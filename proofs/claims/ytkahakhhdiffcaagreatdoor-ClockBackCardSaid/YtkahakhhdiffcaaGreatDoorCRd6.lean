/- What a text's letters tell: values. The first letter that was read: pick. The date that was read: dated. The date that was read: what dated computes. Printed by mkCRd7.py. -/
import Derived.Test.YtkahakhhdiffcaaGreatDoorCRd4
import Derived.Test.YtkahakhhdiffcaaGreatDoorCWrite2
import Derived.Test.YtkahakhhdiffcaaGreatDoorCTime
import Derived.Test.YtkahakhhdiffcaaGreatDoorCDates
namespace Go.Proofs.YtkahakhhdiffcaaGreatDoor
set_option linter.unusedVariables false
set_option linter.unusedSimpArgs false
open Go.RowKit Go.Shelf
abbrev Vals := Int → Option Int
/-- A map of numbers, as it lies. -/
def VM (W : World) (b : Nat) (g : Vals) : Prop := MapAt Tryz.prog 5 encU W b (fun k => (g k).map (fun v => Value.int .i64 v))
theorem VM.below {W W' : World} {b : Nat} {g : Vals} (h : VM W b g) (hb : Below W.heap.size W W') : VM W' b g := MapAt.congr h (hb.block _ (MapAt.lt h))
theorem vm_new (W : World) : VM (W.alloc (.map #[] 0)) W.heap.size (fun _ => none) := mapAt_new _ _ _ _
theorem zero_int (w : World) : (zeroValue 3).run Tryz.prog w = .ok (.int .i64 0) w := by kernel_rfl
theorem VM.look {W : World} {b : Nat} {g : Vals} (h : VM W b g) (c : Int) (hc : 0 ≤ c ∧ c ≤ 255) : (Instr.lookup 85 (.map (some b)) (.int .u8 c) true).run Tryz.prog W = .ok (.tuple #[.int .i64 ((g c).getD 0), .bool (g c).isSome]) W := by
  have := look2 h Ukeyed (t := 85) Tryz.underlying85 (zero_int W) (ukey hc)
  unfold encU at this
  rw [this]
  cases g c <;> rfl
set_option maxRecDepth 100000 in
theorem upon_vm {o : Oper} {a : Act} {K : Act → World → Prop} {Q : Exit → Act → World → Prop} {W : World} {b : Nat} {g : Vals} {c v : Int} (h : VM W b g) (hc : 0 ≤ c ∧ c ≤ 255)
    (hK : ∀ W', Only b W W' → VM W' b (fun k => if k = c then some v else g k) → K (a.put o.dst undef) W') :
    Oper.upon Tryz.prog o a K Q (((Instr.mapUpdate 85 (.map (some b)) (.int .u8 c) (.int .i64 v)).run Tryz.prog W).andThen fun _ w' => .ok Next.skip w') := by
  obtain ⟨W', hrun, r1, r2⟩ := MapAt.store h Ukeyed (t := 85) (et := 3) Tryz.underlying85 encU_inj (ukey hc) (.int .i64 v)
  unfold encU at hrun
  rw [hrun]
  have := hK W' r1 (by
    have e : (fun k' => if k' = c then some (Value.int .i64 v) else (g k').map (fun v => Value.int .i64 v)) = fun k => ((if k = c then some v else g k : Option Int)).map (fun v => Value.int .i64 v) := by
      funext k
      by_cases hk : k = c
      · rw [if_pos hk, if_pos hk]; rfl
      · rw [if_neg hk, if_neg hk]
    unfold VM
    rw [← e]
    exact r2)
  simp only [Result.andThen, Oper.upon_skip]
  exact this
/-- One part of a form, read. -/
def stepP (p : Part) (s : Bs) (g : Vals) : Option (Bs × Vals) :=
  if p.2 = 0 then (if Lib.hasPrefix s p.1 = true then some (Lib.trimPrefix s p.1, g) else none)
  else if (g (p.2.toNat : Int)).isSome = true ∨ (readC p.2 s).2 = 0 then none
  else some (s.drop (readC p.2 s).2, fun k => if k = (p.2.toNat : Int) then some (readC p.2 s).1 else g k)
def runP : List Part → Bs → Vals → Option (Bs × Vals)
  | [], s, g => some (s, g)
  | p :: l, s, g => match stepP p s g with
    | none => none
    | some (s', g') => runP l s' g'
def endV (R : Option (Bs × Vals)) : Option Vals := match R with
  | none => none
  | some (s', g) => if s' = [] then some g else none
/-- What values tells: the letters' numbers. -/
def valuesC (s form : Bs) : Option Vals := match partsC form with
  | none => none
  | some l => endV (runP l s (fun _ => none))
theorem trim_le (s p : Bs) : (Lib.trimPrefix s p).length ≤ s.length := by
  unfold Lib.trimPrefix
  split <;> simp
theorem readC_le (c : UInt8) (s : Bs) : (readC c s).2 ≤ s.length := by
  unfold readC
  split
  · split
    · rename_i i _ _
      have h2 := digN_le s 2
      have hd := digN_le s i.dig.toNat
      unfold readD
      split
      · split
        · exact Nat.zero_le _
        · show lenE s ≤ _
          unfold lenE; split <;> omega
      · split
        · split
          · exact Nat.zero_le _
          · split
            · exact Nat.zero_le _
            · split
              · exact Nat.zero_le _
              · show sgn s + digN (s.drop (sgn s)) s.length ≤ _
                have h3 := (digN_le (s.drop (sgn s)) s.length).1
                have hg : sgn s ≤ s.length := by
                  unfold sgn
                  split
                  · rename_i h; cases s with
                    | nil => simp at h
                    | cons => simp
                  · exact Nat.zero_le _
                simp at h3
                omega
        · split
          · exact Nat.zero_le _
          · split
            · exact Nat.zero_le _
            · show i.dig.toNat ≤ _
              omega
    · rename_i i _ _
      unfold readN
      split
      · rename_i k hk
        show (i.names.getD k []).length ≤ _
        rw [List.findIdx?_eq_some_iff_getElem] at hk
        obtain ⟨h1, h2, _⟩ := hk
        unfold hasName at h2
        rw [Bool.and_eq_true, decide_eq_true_eq] at h2
        rw [List.getD_eq_getElem?_getD, List.getElem?_eq_getElem h1]
        exact h2.1
      · exact Nat.zero_le _
  · exact Nat.zero_le _
set_option maxRecDepth 100000 in
set_option maxHeartbeats 1600000 in
theorem values_any (s form : Bs) (hs : s.length ≤ 10000) (hf : form.length ≤ 10000) (w : World) (hT : SpaceIs w) (hE : ErrIs w) :
    Calls Tryz.prog 36 #[.string ⟨s.toArray⟩, .string ⟨form.toArray⟩] w fun e w' => ((valuesC s form = none ∧ ∃ m, e = .returned (.tuple #[.map m, .bool false])) ∨ ∃ g m, valuesC s form = some g ∧ e = .returned (.tuple #[.map (some m), .bool true]) ∧ VM w' m g) ∧ Below w.heap.size w w' := by
  cases hpc : partsC form with
  | none =>
    have hv : valuesC s form = none := by unfold valuesC; rw [hpc]
    rw [hv]
    have HPN := Lib.hid (parts_none form (by omega) w hT hpc)
    clear hpc hT hE hv
    go_enter Tryz.func36, Tryz.ntmps36
    go_wp2_with (go_at_call 33; refine HPN.out.mono ?_; rintro e w2 ⟨rfl, hb⟩)
    go_ret2
    exact ⟨.inl ⟨trivial, _, rfl⟩, hb⟩
  | some l =>
    have HPN := Lib.hid (parts_some form (by omega) w hT hpc)
    have HGood := Lib.hid (parts_good _ form (Nat.le_refl _) l hpc)
    have hll := parts_len _ form (Nat.le_refl _) l hpc
    have HT := Lib.hid hT
    have HE := Lib.hid hE
    obtain ⟨R, hR⟩ : ∃ R, runP l s (fun _ => none) = R := ⟨_, rfl⟩
    have hv : valuesC s form = endV R := by unfold valuesC; rw [hpc]; simp only; rw [hR]
    rw [hv]
    have HR := Lib.hid hR
    have hmk := fun W : World => run_makeMap (P := Tryz.prog) (w := W) 85
    clear hR hpc hT hE hv
    go_enter Tryz.func36, Tryz.ntmps36
    go_wp2_with (first | (go_at_call 33; refine HPN.out.mono ?_; rintro e w2 ⟨ao, cap, rfl, hrow, hb⟩) | (go_at_call 34; refine (letters_any _ (HT.out.below hb)).mono ?_; rintro e w3 ⟨rfl, hls⟩))
    obtain ⟨g, hg⟩ := letters_of hls
    have HB3 := Lib.hid (hb.trans (hls.below.mono hb.size))
    have HR3 := Lib.hid (hrow.below hls.below)
    have HE3 := Lib.hid (HE.out.below HB3.out)
    have HG3 := Lib.hid hg
    clear hg hrow hb hls
    go_loopw [0, 7, 11, 12, 13, 14, 15, 27] (fun v0 v7 v11 v12 v13 v14 v15 v27 wr => ∃ (k : Nat) (s' : Bs) (q : Vals) (bb : Bool), v27 = .int .i64 k ∧ k ≤ l.length ∧ v0 = .string ⟨s'.toArray⟩ ∧ v7 = .bool bb ∧ s'.length ≤ s.length ∧ Hid (R = runP (l.drop k) s' q) ∧ VM wr w3.heap.size q ∧ Below w3.heap.size w3 wr) (fun _ _ _ _ _ _ _ v27 _ => l.length - (intOf v27).toNat)
    case atStart => exact ⟨0, s, _, true, rfl, Nat.zero_le _, rfl, rfl, Nat.le_refl _, by show _ = _; rw [List.drop_zero]; exact HR.out.symm, vm_new w3, below_alloc1 _ _⟩
    case round =>
      obtain ⟨k, s', q, bb, rfl, hk, rfl, rfl, hs', HRR, hvm, hbw⟩ := hrel
      have HV := Lib.hid hvm
      have HBW := Lib.hid hbw
      have HRk := Lib.hid (HR3.out.below hbw)
      have HGk := Lib.hid (HG3.out.below hbw)
      have HEk := Lib.hid (HE3.out.below hbw)
      clear hvm
      by_cases hlt : k < l.length
      · have hp : l[k]? = some l[k] := List.getElem?_eq_getElem hlt
        have HRR2 : Hid (R = match stepP l[k] s' q with
          | none => none
          | some (s', g') => runP (l.drop (k + 1)) s' g') := by
          have := HRR.out
          rw [List.drop_eq_getElem_cons hlt] at this
          exact this
        have hgood := HGood.out _ (List.mem_of_getElem? hp)
        obtain ⟨g0, rfl, hc0, hc1⟩ := HRk.out k _ hp
        generalize l[k] = p at *
        obtain ⟨tx, c⟩ := p
        simp only [PGood] at hgood hc0 hc1
        clear HRR hp
        by_cases hc : c = 0
        · subst hc
          have t0 : ((((0 : UInt8).toNat : Int)) == 0) = true := rfl
          have HCP := Lib.hid (fun W => Tryz.strings_CutPrefix ⟨s'.toArray⟩ ⟨tx.toArray⟩ W)
          cases hpx : Lib.hasPrefix s' tx with
          | true =>
            have HN : Hid (R = runP (l.drop (k + 1)) (Lib.trimPrefix s' tx) q) := by
              have := HRR2.out
              simp only [stepP, hpx, if_true] at this
              exact this
            have htl := trim_le s' tx
            clear HRR2 hgood
            go_wp2_with (go_at_call 51; refine (HCP.out _).mono ?_; rintro e w4 ⟨rfl, rfl⟩)
            go_roundw
            case rel => exact ⟨k + 1, Lib.trimPrefix s' tx, q, true, by go_num, by omega, rfl, rfl, by omega, HN, HV.out.below (below_alloc1 _ _), HBW.out.trans ((below_alloc1 _ _).mono HBW.out.size)⟩
            case measure => simp [intOf]; omega
          | false =>
            have hR2 : R = none := by
              have := HRR2.out
              simp only [stepP, hpx, if_true] at this
              exact this
            subst hR2
            have he : endV none = none := rfl
            clear HRR2 hgood
            go_wp2_with (go_at_call 51; refine (HCP.out _).mono ?_; rintro e w4 ⟨rfl, rfl⟩)
            go_ret2
            exact ⟨.inl ⟨rfl, _, rfl⟩, HB3.out.trans ((HBW.out.trans ((below_alloc1 _ _).mono HBW.out.size)).mono HB3.out.size)⟩
        · have t0 : (((c.toNat : Int)) == 0) = false := by
            rw [beq_eq_false_iff_ne]
            intro h
            exact hc (UInt8.toNat_inj.1 (by simpa using h))
          have hi := hgood.2 hc
          have hc9 : (0 : Int) ≤ (c.toNat : Int) ∧ (c.toNat : Int) ≤ 255 := ⟨by omega, by have := c.toNat_lt; omega⟩
          have HGA := Lib.hid (HGk.out.below (below_alloc1 wr (.cells #[.string ⟨tx.toArray⟩, .int .u8 (c.toNat : Int)] 81)))
          obtain ⟨v, hgv, hlv⟩ := HGA.out.yes c hi
          have hlook := HGA.out.look1 c
          rw [hgv] at hlook
          simp only [Option.getD_some] at hlook
          have HRD := Lib.hid (letter_read _ _ c v hlv s' (by omega) (HEk.out.below (below_alloc1 wr (.cells #[.string ⟨tx.toArray⟩, .int .u8 (c.toNat : Int)] 81))))
          have hrn := readC_le c s'
          have HRR3 : Hid (R = match (if (q (c.toNat : Int)).isSome = true ∨ (readC c s').2 = 0 then none else some (s'.drop (readC c s').2, fun k => if k = (c.toNat : Int) then some (readC c s').1 else q k) : Option (Bs × Vals)) with
              | none => none
              | some (s', g') => runP (l.drop (k + 1)) s' g') := by
            have := HRR2.out
            simp only [stepP] at this
            rw [if_neg hc] at this
            exact this
          generalize readC c s' = rr at *
          obtain ⟨rv, rn⟩ := rr
          simp only at hrn HRR3
          have hbx1 : (wr.alloc (.cells #[.string ⟨tx.toArray⟩, .int .u8 (c.toNat : Int)] 81)).cell? ⟨wr.heap.size, 1, none⟩ = some (.int .u8 (c.toNat : Int)) := by
            have hb := heap_alloc_new wr (.cells #[.string ⟨tx.toArray⟩, .int .u8 (c.toNat : Int)] 81)
            simp only [World.cell?, hb]; rfl
          have HVL : Hid (∀ W', Below (wr.alloc (.cells #[.string ⟨tx.toArray⟩, .int .u8 (c.toNat : Int)] 81)).heap.size (wr.alloc (.cells #[.string ⟨tx.toArray⟩, .int .u8 (c.toNat : Int)] 81)) W' → VM W' w3.heap.size q ∧ W'.cell? ⟨wr.heap.size, 1, none⟩ = some (.int .u8 (c.toNat : Int)) ∧ Below w3.heap.size w3 W') := fun W' h =>
            ⟨(HV.out.below (below_alloc1 _ _)).below h, (h.cell (p := ⟨wr.heap.size, 1, none⟩) (by simp)).trans hbx1, (HBW.out.trans ((below_alloc1 _ _).mono HBW.out.size)).trans (h.mono (by have := HBW.out.size; simp; omega))⟩
          clear HRR2 hgood hgv hlv
          cases hq : q (c.toNat : Int) with
          | some x =>
            have hR2 : R = none := by
              have := HRR3.out
              rw [hq] at this
              simpa using this
            subst hR2
            have he : endV none = none := rfl
            go_wp2_with (go_at_call 82; refine HRD.out.mono ?_; rintro e w5 ⟨rfl, hb5⟩; have H5 := Lib.hid (HVL.out _ hb5); have hl5 := H5.out.1.look (c.toNat : Int) hc9; rw [hq] at hl5; simp only [Option.getD_some, Option.isSome_some] at hl5; have hc5 := H5.out.2.1)
            go_ret2
            exact ⟨.inl ⟨rfl, _, rfl⟩, HB3.out.trans (H5.out.2.2.mono HB3.out.size)⟩
          | none =>
            by_cases hr0 : rn = 0
            · subst hr0
              have hR2 : R = none := by
                have := HRR3.out
                rw [if_pos (.inr rfl)] at this
                exact this
              subst hR2
              have he : endV none = none := rfl
              go_wp2_with (go_at_call 82; refine HRD.out.mono ?_; rintro e w5 ⟨rfl, hb5⟩; have H5 := Lib.hid (HVL.out _ hb5); have hl5 := H5.out.1.look (c.toNat : Int) hc9; rw [hq] at hl5; simp only [Option.getD_none, Option.isSome_none] at hl5; have hc5 := H5.out.2.1)
              go_ret2
              exact ⟨.inl ⟨rfl, _, rfl⟩, HB3.out.trans (H5.out.2.2.mono HB3.out.size)⟩
            · have HN : Hid (R = runP (l.drop (k + 1)) (s'.drop rn) (fun k => if k = (c.toNat : Int) then some rv else q k)) := by
                have := HRR3.out
                rw [hq, if_neg (by simp [hr0])] at this
                exact this
              have z : ((rn : Int) == 0) = false := by simp; omega
              have hrn2 : (rn : Int) ≤ (s'.length : Int) := by omega
              clear HRR3
              go_wp2_with (first | (go_at_call 82; refine HRD.out.mono ?_; rintro e w5 ⟨rfl, hb5⟩; have H5 := Lib.hid (HVL.out _ hb5); have hl5 := H5.out.1.look (c.toNat : Int) hc9; rw [hq] at hl5; simp only [Option.getD_none, Option.isSome_none] at hl5; have hc5 := H5.out.2.1) | (refine upon_vm H5.out.1 hc9 ?_; intro w6 ho hv6; have H6 := Lib.hid (And.intro hv6 (H5.out.2.2.trans (ho.below (Nat.le_refl _)))); clear ho hv6))
              go_roundw
              case rel => exact ⟨k + 1, s'.drop rn, _, bb, by go_num, by omega, rfl, rfl, by simp; omega, HN, H6.out.1, H6.out.2⟩
              case measure => simp [intOf]; omega
      · obtain rfl : k = l.length := by omega
        have hR2 : R = some (s', q) := by have := HRR.out; rw [List.drop_length] at this; exact this
        subst hR2
        cases s' with
        | nil =>
          have he : endV (some (([] : Bs), q)) = some q := rfl
          go_wp2_with fail
          go_ret2
          exact ⟨.inr ⟨_, _, rfl, rfl, HV.out⟩, HB3.out.trans (HBW.out.mono HB3.out.size)⟩
        | cons a r =>
          have he : endV (some ((a :: r : Bs), q)) = none := rfl
          go_wp2_with fail
          go_ret2
          exact ⟨.inl ⟨rfl, _, rfl⟩, HB3.out.trans (HBW.out.mono HB3.out.size)⟩
end Go.Proofs.YtkahakhhdiffcaaGreatDoor
namespace Go.Proofs.YtkahakhhdiffcaaGreatDoor
set_option linter.unusedVariables false
set_option linter.unusedSimpArgs false
open Go.RowKit Go.Shelf
def pickC (g : Vals) (L : Bs) (o : Int) : Int := ((L.map (fun c => (c.toNat : Int))).findSome? g).getD o
theorem pickC_nil (g : Vals) (o : Int) : pickC g [] o = o := rfl
theorem pickC_cons (g : Vals) (c : UInt8) (L : Bs) (o : Int) : pickC g (c :: L) o = match g (c.toNat : Int) with
    | some n => n
    | none => pickC g L o := by
  unfold pickC
  rw [List.map_cons, List.findSome?_cons]
  cases g (c.toNat : Int) <;> rfl
set_option maxHeartbeats 800000 in
theorem pick_any (m : Nat) (g : Vals) (L : Bs) (hL : L.length ≤ 100) (o : Int) (w : World) (hV : VM w m g) :
    Calls Tryz.prog 83 #[.map (some m), .string ⟨L.toArray⟩, .int .i64 o] w fun e w' => e = .returned (.int .i64 (pickC g L o)) ∧ w = w' := by
  obtain ⟨R, hR⟩ : ∃ R, pickC g L o = R := ⟨_, rfl⟩
  rw [hR]
  have HR := Lib.hid hR
  have HV := Lib.hid hV
  clear hR hV
  go_enter Tryz.func83, Tryz.ntmps83
  go_wp2_with fail
  go_loop [7, 8, 9, 12] (fun _ _ _ v12 => ∃ k : Nat, v12 = .int .i64 k ∧ k ≤ L.length ∧ Hid (pickC g (L.drop k) o = R)) (fun _ _ _ v12 => L.length - (intOf v12).toNat)
  case atStart => exact ⟨0, rfl, Nat.zero_le _, by show _ = _; rw [List.drop_zero]; exact HR.out⟩
  case round =>
    obtain ⟨k, rfl, hk, HH⟩ := hrel
    by_cases hlt : k < L.length
    · have t1 : decide ((k : Int) < (L.length : Int)) = true := by rw [decide_eq_true_eq]; omega
      have hlk := HV.out.look ((L[k]).toNat : Int) ⟨by omega, by have := (L[k]).toNat_lt; omega⟩
      have hw1 : IntKind.i64.wrap ((k : Int) + 1) = (k : Int) + 1 := IntWalk.i64_in _ (by omega)
      have HH2 := Lib.hid (show (match g ((L[k]).toNat : Int) with
        | some n => n
        | none => pickC g (L.drop (k + 1)) o) = R from by rw [← pickC_cons, ← List.drop_eq_getElem_cons hlt]; exact HH.out)
      clear HH
      cases hg : g ((L[k]).toNat : Int) with
      | some n =>
        rw [hg] at hlk
        simp only [Option.getD_some, Option.isSome_some] at hlk
        obtain rfl : n = R := by have := HH2.out; rw [hg] at this; exact this
        clear HH2
        go_wp2_with fail
        go_ret
        exact ⟨rfl, rfl⟩
      | none =>
        rw [hg] at hlk
        simp only [Option.getD_none, Option.isSome_none] at hlk
        have HH3 : Hid (pickC g (L.drop (k + 1)) o = R) := by have := HH2.out; rw [hg] at this; exact this
        clear HH2
        go_wp2_with fail
        go_round
        case rel => exact ⟨k + 1, by go_num, by omega, HH3⟩
        case measure => simp [intOf]; omega
    · obtain rfl : k = L.length := by omega
      have t1 : decide ((L.length : Int) < (L.length : Int)) = false := by rw [decide_eq_false_iff_not]; omega
      obtain rfl : o = R := by have := HH.out; rw [List.drop_length] at this; exact this
      clear HH
      go_wp2_with fail
      go_ret
      exact ⟨rfl, rfl⟩
end Go.Proofs.YtkahakhhdiffcaaGreatDoor
namespace Go.Proofs.YtkahakhhdiffcaaGreatDoor
set_option linter.unusedVariables false
set_option linter.unusedSimpArgs false
open Go.RowKit Go.Shelf
def yC (g : Vals) : Int := match g 121 with
  | none => pickC g [89] 1970
  | some n => match g 89 with
    | some _ => pickC g [89] 1970
    | none => if 69 ≤ n then 1900 + n else 2000 + n
def hC (g : Vals) : Option Int := match g 73 with
  | none => some (pickC g [72] 0)
  | some n => match g 72 with
    | some _ => some (pickC g [72] 0)
    | none => if winI n 1 12 = true then some (n.tmod 12 + 12 * (pickC g [112] 1 - 1)) else none
noncomputable def timeI (y m d h mi s : Int) : Int := (dayNo y m d - 719162) * 86400 + h * 3600 + mi * 60 + s
noncomputable def datedC (g : Vals) : Int × Bool := match hC g with
  | none => (0, false)
  | some h => match g 106 with
    | none => if validB (yC g) (pickC g [109, 66, 98] 1) (pickC g [100, 101] 1) h (pickC g [77] 0) (pickC g [83] 0) = true then (timeI (yC g) (pickC g [109, 66, 98] 1) (pickC g [100, 101] 1) h (pickC g [77] 0) (pickC g [83] 0), true) else (0, false)
    | some j => if validB (yC g) 1 1 h (pickC g [77] 0) (pickC g [83] 0) = true then (timeI (yC g) 1 1 h (pickC g [77] 0) (pickC g [83] 0) + (j - 1) * 86400, winI j 1 (bef (yC g + 1) - bef (yC g))) else (0, false)
theorem y_cases (g : Vals) : (g 121 = none ∧ yC g = pickC g [89] 1970) ∨ (∃ n x, g 121 = some n ∧ g 89 = some x ∧ yC g = pickC g [89] 1970) ∨ (∃ n, g 121 = some n ∧ g 89 = none ∧ 69 ≤ n ∧ yC g = 1900 + n) ∨ (∃ n, g 121 = some n ∧ g 89 = none ∧ n < 69 ∧ yC g = 2000 + n) := by
  unfold yC
  cases h1 : g 121 with
  | none => exact .inl ⟨rfl, rfl⟩
  | some n =>
    cases h2 : g 89 with
    | some x => exact .inr (.inl ⟨n, x, rfl, rfl, rfl⟩)
    | none =>
      by_cases h : 69 ≤ n
      · exact .inr (.inr (.inl ⟨n, rfl, rfl, h, if_pos h⟩))
      · exact .inr (.inr (.inr ⟨n, rfl, rfl, by omega, if_neg h⟩))
theorem h_cases (g : Vals) : (g 73 = none ∧ hC g = some (pickC g [72] 0)) ∨ (∃ n x, g 73 = some n ∧ g 72 = some x ∧ hC g = some (pickC g [72] 0)) ∨ (∃ n, g 73 = some n ∧ g 72 = none ∧ winI n 1 12 = true ∧ hC g = some (n.tmod 12 + 12 * (pickC g [112] 1 - 1))) ∨ (∃ n, g 73 = some n ∧ g 72 = none ∧ winI n 1 12 = false ∧ hC g = none) := by
  unfold hC
  cases h1 : g 73 with
  | none => exact .inl ⟨rfl, rfl⟩
  | some n =>
    cases h2 : g 72 with
    | some x => exact .inr (.inl ⟨n, x, rfl, rfl, rfl⟩)
    | none =>
      cases h : winI n 1 12 with
      | true => exact .inr (.inr (.inl ⟨n, rfl, rfl, h, by simp [h]⟩))
      | false => exact .inr (.inr (.inr ⟨n, rfl, rfl, h, by simp [h]⟩))
/-- Numbers that no sum leads out of reach. -/
def Small (g : Vals) : Prop := ∀ c v, c ≠ 115 → g c = some v → 0 ≤ v ∧ v ≤ 100000
theorem pickC_small {g : Vals} (hg : Small g) : ∀ (L : Bs) (hL : ∀ c ∈ L, c ≠ 115) (o : Int) (h0 : 0 ≤ o) (h1 : o ≤ 100000), 0 ≤ pickC g L o ∧ pickC g L o ≤ 100000
  | [], _, o, h0, h1 => ⟨h0, h1⟩
  | c :: L, hL, o, h0, h1 => by
    rw [pickC_cons]
    cases h : g (c.toNat : Int) with
    | some n => exact hg _ n (by intro e; exact hL c (by simp) (u8_115 (by omega))) h
    | none => exact pickC_small hg L (fun d hd => hL d (by simp [hd])) o h0 h1
end Go.Proofs.YtkahakhhdiffcaaGreatDoor
