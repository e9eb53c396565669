/- The contract of the clock's Write. -/
import Derived.Test.YtkahakhhdiffcaaGreatDoorCWrite
namespace Go.Proofs.YtkahakhhdiffcaaGreatDoor
set_option linter.unusedVariables false
set_option linter.unusedSimpArgs false
open Go.RowKit

def PGood (p : Part) : Prop := p.1.length ≤ 1 ∧ (p.2 ≠ 0 → (info (p.2.toNat : Int)).isSome = true)
instance (p : Part) : Decidable (PGood p) := by unfold PGood; infer_instance
theorem partC_good {d : UInt8} {x : List Part} (h : partC d = some x) : ∀ p ∈ x, PGood p := by
  unfold partC at h
  split at h
  · cases h; decide
  · split at h
    · cases h; decide
    · split at h
      · cases h; decide
      · split at h
        · rename_i hi
          cases h
          intro p hp
          simp only [List.mem_singleton] at hp
          subst hp
          exact ⟨by simp, fun _ => hi⟩
        · cases h
theorem parts_good : ∀ (n : Nat) (s : Bs), s.length ≤ n → ∀ l, partsC s = some l → ∀ p ∈ l, PGood p
  | _, [], _, l, h => by simp [partsC] at h; subst h; simp
  | 0, c :: r, hn, l, h => by simp at hn
  | n + 1, c :: r, hn, l, h => by
    simp only [List.length_cons] at hn
    by_cases hc : c = 37
    · subst hc
      cases r with
      | nil => rw [partsC_end] at h; cases h
      | cons d r =>
        rw [partsC_letter] at h
        cases hd : partC d with
        | none => rw [hd] at h; cases h
        | some x =>
          rw [hd] at h
          simp only at h
          obtain ⟨l', hl', rfl⟩ := Option.map_eq_some_iff.1 h
          have ih := parts_good n r (by simp only [List.length_cons] at hn; omega) l' hl'
          intro p hp
          rcases List.mem_append.1 hp with h1 | h1
          · exact partC_good hd p h1
          · exact ih p h1
    · rw [partsC_plain hc] at h
      obtain ⟨l', hl', rfl⟩ := Option.map_eq_some_iff.1 h
      have ih := parts_good n r (by omega) l' hl'
      intro p hp
      rcases List.mem_cons.1 hp with rfl | h1
      · exact ⟨by simp, fun h => absurd rfl h⟩
      · exact ih p h1
theorem rowP_get : ∀ (l : List Part) (k : Nat) (p : Part), l[k]? = some p → (rowP l)[k * 2]? = some (.string ⟨p.1.toArray⟩) ∧ (rowP l)[k * 2 + 1]? = some (.int .u8 (p.2.toNat : Int))
  | [], k, p, h => by simp at h
  | q :: l, 0, p, h => by simp at h; subst h; exact ⟨rfl, rfl⟩
  | q :: l, k + 1, p, h => by
    have ih := rowP_get l k p (by simpa using h)
    have e : rowP (q :: l) = Part.cells q ++ rowP l := rfl
    rw [e, show (k + 1) * 2 = k * 2 + 2 by omega]
    constructor
    · rw [List.getElem?_append_right (by simp [Part.cells])]; simpa [Part.cells] using ih.1
    · rw [List.getElem?_append_right (by show 2 ≤ k * 2 + 2 + 1; omega)]; simpa [Part.cells] using ih.2
/-- Where the parts lie. -/
def PRow (W : World) (ao : Option Addr) (l : List Part) : Prop := ∀ k p, l[k]? = some p → ∃ g0, ao = some ⟨g0, 0, none⟩ ∧ W.cell? ⟨g0, k * 2, none⟩ = some (.string ⟨p.1.toArray⟩) ∧ W.cell? ⟨g0, k * 2 + 1, none⟩ = some (.int .u8 (p.2.toNat : Int))
theorem PRow.below {W W' : World} {ao : Option Addr} {l : List Part} (h : PRow W ao l) (hb : Below W.heap.size W W') : PRow W' ao l := by
  intro k p hp
  obtain ⟨g0, h1, h2, h3⟩ := h k p hp
  exact ⟨g0, h1, (hb.cell (cell_lt h2)).trans h2, (hb.cell (cell_lt h3)).trans h3⟩
theorem parts_none (s : Bs) (hs : s.length ≤ 100000) (w : World) (hT : SpaceIs w) (hn : partsC s = none) :
    Calls Tryz.prog 33 #[.string ⟨s.toArray⟩] w fun e w' => e = .returned (.tuple #[.slice none 0 0, .bool false]) ∧ Below w.heap.size w w' := by
  refine (parts_any s hs w hT).mono ?_
  rintro e w' ⟨hb, ⟨_, rfl⟩ | ⟨l, v, base, hl, _⟩⟩
  · exact ⟨rfl, hb⟩
  · rw [hn] at hl; cases hl
theorem parts_some (s : Bs) (hs : s.length ≤ 100000) (w : World) (hT : SpaceIs w) {l : List Part} (hl : partsC s = some l) :
    Calls Tryz.prog 33 #[.string ⟨s.toArray⟩] w fun e w' => ∃ ao cap, e = .returned (.tuple #[.slice ao l.length cap, .bool true]) ∧ PRow w' ao l ∧ Below w.heap.size w w' := by
  refine (parts_any s hs w hT).mono ?_
  rintro e w' ⟨hb, ⟨hn, _⟩ | ⟨l', v, base, hl', rfl, _, hown, _⟩⟩
  · rw [hn] at hl; cases hl
  · rw [hl] at hl'; cases hl'
    have hown2 := hown
    rcases hown2.2 with ⟨rfl, h0⟩ | ⟨g0, cap, cur, rfl, _⟩
    · have : l = [] := List.length_eq_zero_iff.1 h0
      subst this
      exact ⟨none, 0, rfl, fun k p hp => by simp at hp, hb⟩
    · refine ⟨_, _, rfl, fun k p hp => ?_, hb⟩
      have hk : k < l.length := (List.getElem?_eq_some_iff.1 hp).1
      have hg := rowP_get l k p hp
      exact ⟨g0, rfl, (hown.cellAt (k * 2) (by omega)).trans hg.1, (hown.cellAt (k * 2 + 1) (by omega)).trans hg.2⟩
theorem parts_len : ∀ (n : Nat) (s : Bs), s.length ≤ n → ∀ l, partsC s = some l → l.length ≤ 5 * s.length
  | _, [], _, l, h => by simp [partsC] at h; subst h; simp
  | 0, c :: r, hn, l, h => by simp at hn
  | n + 1, c :: r, hn, l, h => by
    simp only [List.length_cons] at hn ⊢
    by_cases hc : c = 37
    · subst hc
      cases r with
      | nil => rw [partsC_end] at h; cases h
      | cons d r =>
        rw [partsC_letter] at h
        cases hd : partC d with
        | none => rw [hd] at h; cases h
        | some x =>
          rw [hd] at h
          simp only at h
          obtain ⟨l', hl', rfl⟩ := Option.map_eq_some_iff.1 h
          have ih := parts_len n r (by simp only [List.length_cons] at hn; omega) l' hl'
          have hx : x.length ≤ 5 := by
            unfold partC at hd
            repeat' split at hd
            all_goals first | (cases hd; decide) | (cases hd; simp) | cases hd
          simp only [List.length_append, List.length_cons]; omega
    · rw [partsC_plain hc] at h
      obtain ⟨l', hl', rfl⟩ := Option.map_eq_some_iff.1 h
      have ih := parts_len n r (by omega) l' hl'
      simp only [List.length_cons]; omega
theorem writeC_take (t : Int) (l : List Part) (k : Nat) (p : Part) (h : l[k]? = some p) : writeC t (l.take (k + 1)) = writeC t (l.take k) ++ partText t p := by
  obtain ⟨hk, rfl⟩ := List.getElem?_eq_some_iff.1 h
  unfold writeC
  rw [List.take_succ_eq_append_getElem hk, List.flatMap_append]
  simp

theorem cell_of_blk {W : World} {n t : Nat} {a b : Value} {fr : Nat × Nat} (h : W.heap[n]? = some (.cells #[a, b] t fr)) (j : Nat) : W.cell? ⟨n, j, none⟩ = #[a, b][j]? := by
  simp [World.cell?, h]
theorem strCells_list (l : Bs) : Lib.strCells ⟨l.toArray⟩ = Lib.byteCells l := rfl
theorem byteCells_app (a b : Bs) : Lib.byteCells a ++ Lib.byteCells b = Lib.byteCells (a ++ b) := by simp [Lib.byteCells]
set_option maxRecDepth 100000 in
set_option maxHeartbeats 3200000 in
theorem Write_any (t : Int) (s : Bs) (hs : s.length ≤ 10000) (w : World) (hT : SpaceIs w) (hP : PowIs w) :
    Calls Tryz.prog 12 #[.int .i64 t, .string ⟨s.toArray⟩] w fun e w' => e = .returned (.tuple #[.string ⟨(writeP t s).1.toArray⟩, .int .i64 (writeP t s).2]) ∧ Below w.heap.size w w' := by
  have HV := Lib.hid (fun W => valid_any t W)
  unfold writeP
  by_cases hv : validI t = true
  · rw [if_pos hv]
    rw [hv] at HV
    have hvt := (validI_iff t).1 hv
    cases hpc : partsC s with
    | none =>
      have HPN := Lib.hid (parts_none s (by omega) w hT hpc)
      clear hpc hT hP hv
      go_enter Tryz.func12, Tryz.ntmps12
      go_wp2_with (first | (go_at_call 17; refine (HV.out _).mono ?_; rintro e w1 ⟨rfl, rfl⟩) | (go_at_call 33; refine HPN.out.mono ?_; rintro e w2 ⟨rfl, hb⟩))
      go_ret2
      exact ⟨rfl, hb⟩
    | some l =>
      have HPN := Lib.hid (parts_some s (by omega) w hT hpc)
      have HGood := Lib.hid (parts_good _ s (Nat.le_refl _) l hpc)
      have hll := parts_len _ s (Nat.le_refl _) l hpc
      have HT := Lib.hid hT
      have HP := Lib.hid hP
      clear hpc hT hP hv
      simp only
      go_enter Tryz.func12, Tryz.ntmps12
      go_wp2_with (first | (go_at_call 17; refine (HV.out _).mono ?_; rintro e w1 ⟨rfl, rfl⟩) | (go_at_call 33; refine HPN.out.mono ?_; rintro e w2 ⟨ao, cap, rfl, hrow, hb⟩) | (go_at_call 34; refine (letters_any _ (HT.out.below hb)).mono ?_; rintro e w3 ⟨rfl, hls⟩))
      obtain ⟨g, hg⟩ := letters_of hls
      have HB3 := Lib.hid (hb.trans (hls.below.mono hb.size))
      have HR3 := Lib.hid (hrow.below hls.below)
      have HP3 := Lib.hid (HP.out.below HB3.out)
      have HG3 := Lib.hid hg
      clear hg hrow hb hls
      go_loopw [11, 25] (fun v11 v25 wr => ∃ k : Nat, v25 = .int .i64 k ∧ k ≤ l.length ∧ IsB w3.heap.size w3.heap.size (Lib.byteCells (writeC t (l.take k))) wr ∧ Below w3.heap.size w3 wr ∧ (writeC t (l.take k)).length ≤ 201 * k) (fun _ v25 _ => l.length - (intOf v25).toNat)
      case atStart => exact ⟨0, by go_num, Nat.zero_le _, by simpa [writeC, Lib.byteCells] using IsB.new w3, below_alloc1 _ _, by simp [writeC]⟩
      case round =>
        obtain ⟨k, rfl, hk, hI, hbw, hlen⟩ := hrel
        by_cases hlt : k < l.length
        · have hp : l[k]? = some l[k] := List.getElem?_eq_getElem hlt
          have HTK := Lib.hid (writeC_take t l k _ hp)
          have hgood := HGood.out _ (List.mem_of_getElem? hp)
          obtain ⟨g0, rfl, hc0, hc1⟩ := (HR3.out.below hbw) k _ hp
          generalize l[k] = p at *
          obtain ⟨tx, c⟩ := p
          simp only [PGood] at hgood hc0 hc1
          generalize writeC t (l.take k) = acc at *
          have HI := Lib.hid hI
          have HBW := Lib.hid hbw
          have hbl : (Lib.byteCells acc).length = acc.length := byteCells_len acc
          have hsz3 : w3.heap.size < wr.heap.size := hI.elim (fun x => x.lt) (fun x => x.lt)
          clear hI hp
          by_cases hc : c = 0
          · subst hc
            have t0 : ((((0 : UInt8).toNat : Int)) == 0) = true := rfl
            go_wp2_with (go_at_call_of 29 tx; refine (WriteString_any _ _ _ ⟨tx.toArray⟩ _ (HI.out.below (below_alloc1 _ _)) (by rw [hbl]; show _ + tx.length ≤ _; omega) (by simp; omega)).mono ?_; rintro e w4 ⟨rfl, hat, hb4, hok⟩; have hpc := hok _ _ (heap_alloc_new _ _) (by intro h; injection h with h; omega) (by intro c fz h; injection h with _ h2; exact absurd h2 (by decide)); have d0 := cell_of_blk hpc 0; have d1 := cell_of_blk hpc 1; have HBW4 := Lib.hid ((HBW.out.alloc (Nat.le_of_lt hsz3) _).trans hb4); rw [strCells_list, byteCells_app] at hat; have HI4 : Hid (IsB w3.heap.size w3.heap.size (Lib.byteCells (acc ++ tx)) w4) := .inr hat; clear hpc hok hb4 hat)
            go_roundw
            case rel => exact ⟨k + 1, by go_num, by omega, by rw [HTK.out]; simpa [partText] using HI4.out, HBW4.out, by rw [HTK.out]; simp [partText]; omega⟩
            case measure => simp [intOf]; omega
          · have t0 : (((c.toNat : Int)) == 0) = false := by
              rw [beq_eq_false_iff_ne]
              intro h
              exact hc (UInt8.toNat_inj.1 (by simpa using h))
            have hi := hgood.2 hc
            have htl : (textD c t).length ≤ 200 := by
              obtain ⟨i, hi2⟩ := Option.isSome_iff_exists.1 hi
              have hk := kind_of c hi2
              unfold textD; rw [hi2]
              exact textC_len hk.1 hk.2 hvt.1 hvt.2
            have HTX : Hid (writeC t (l.take (k + 1)) = acc ++ tx ++ textD c t) := by
              show _ = _
              rw [HTK.out]; simp [partText, hc]
            have HLW : Hid (∀ W v, LetterV (w2.heap.size + 2) W (c.toNat : Int) v → PowIs W → Calls Tryz.prog 35 #[v, .int .i64 t] W fun e w' => e = .returned (.string ⟨(textD c t).toArray⟩) ∧ Below W.heap.size W w') := fun W v h1 h2 => letter_write _ W c v hi h1 t hvt.1 hvt.2 h2
            generalize textD c t = ty at *
            clear HTK hc
            go_wp2_with (first | (go_at_call_of 29 tx; refine (WriteString_any _ _ _ ⟨tx.toArray⟩ _ (HI.out.below (below_alloc1 _ _)) (by rw [hbl]; show _ + tx.length ≤ _; omega) (by simp; omega)).mono ?_; rintro e w4 ⟨rfl, hat, hb4, hok⟩; have hpc := hok _ _ (heap_alloc_new _ _) (by intro h; injection h with h; omega) (by intro c fz h; injection h with _ h2; exact absurd h2 (by decide)); have d0 := cell_of_blk hpc 0; have d1 := cell_of_blk hpc 1; have HBW4 := Lib.hid ((HBW.out.alloc (Nat.le_of_lt hsz3) _).trans hb4); rw [strCells_list, byteCells_app] at hat; have HI4 : Hid (IsB w3.heap.size w3.heap.size (Lib.byteCells (acc ++ tx)) w4) := .inr hat; clear hpc hok hb4 hat; have HG4 := HG3.out.below HBW4.out; obtain ⟨v, hgv, hlv⟩ := HG4.yes c hi; have hlook := HG4.look1 c; rw [hgv] at hlook; simp only [Option.getD_some] at hlook; have HP4 := Lib.hid (HP3.out.below HBW4.out); clear HG4 hgv) | (go_at_call 35; refine (HLW.out _ _ hlv HP4.out).mono ?_; rintro e w5 ⟨rfl, hb5⟩; have HBW5 := Lib.hid (HBW4.out.trans (hb5.mono HBW4.out.size)); have HI5 := Lib.hid (HI4.out.below hb5); clear hb5) | (go_at_call_of 29 ty; refine (WriteString_any _ _ _ ⟨ty.toArray⟩ _ HI5.out (by rw [byteCells_len]; show (acc ++ tx).length + ty.length ≤ _; rw [List.length_append]; omega) HBW5.out.size).mono ?_; rintro e w6 ⟨rfl, hat, hb6, hok⟩; have HBW6 := Lib.hid (HBW5.out.trans hb6); rw [strCells_list, byteCells_app] at hat; have HI6 : Hid (IsB w3.heap.size w3.heap.size (Lib.byteCells (acc ++ tx ++ ty)) w6) := .inr hat; clear hok hb6 hat))
            go_roundw
            case rel => exact ⟨k + 1, by go_num, by omega, by rw [HTX.out]; exact HI6.out, HBW6.out, by rw [HTX.out]; simp; omega⟩
            case measure => simp [intOf]; omega
        · obtain rfl : k = l.length := by omega
          rw [List.take_length] at hI hlen
          have HI := Lib.hid hI
          have HBW := Lib.hid hbw
          clear hI hbw
          go_wp2_with (go_at_call 30; refine (Tryz.Builder_String_any_f _ _ (writeC t l) _ HI.out HBW.out.size).mono ?_; rintro e w7 ⟨rfl, _, hb7⟩)
          go_ret2
          exact ⟨rfl, HB3.out.trans ((HBW.out.trans hb7).mono HB3.out.size)⟩
  · rw [if_neg hv]
    rw [Bool.not_eq_true] at hv
    rw [hv] at HV
    go_enter Tryz.func12, Tryz.ntmps12
    go_wp2_with (go_at_call 17; refine (HV.out _).mono ?_; rintro e w1 ⟨rfl, rfl⟩)
    go_ret2
    exact ⟨rfl, Below.refl _ _⟩
end Go.Proofs.YtkahakhhdiffcaaGreatDoor
