/- The reference's spread and Write: what they compute, and that it is what the program's Write does. The reference's Write: what it computes. -/
import Derived.Test.YtkahakhhdiffcaaGreatDoorCRLet
namespace Go.Proofs.YtkahakhhdiffcaaGreatDoor
set_option linter.unusedVariables false
set_option linter.unusedSimpArgs false
open Go.RowKit
attribute [local go_sem] ba_append ba_get ba_extract take_drop_all

def tD : Bs := [37, 109, 47, 37, 100, 47, 37, 89]
def tT : Bs := [37, 72, 58, 37, 77, 58, 37, 83]
def sprD (d : UInt8) : Option Bs := if d = 68 then some tD else if d = 84 then some tT else if known d = true then some [37, d] else none
def sprC : Bs → Option Bs
  | [] => some []
  | c :: r => if c = 37 then (match r with
      | [] => none
      | d :: r' => match sprD d with
        | none => none
        | some x => (sprC r').map (x ++ ·)) else (sprC r).map (c :: ·)
theorem sprC_plain {c : UInt8} {r : Bs} (h : c ≠ 37) : sprC (c :: r) = (sprC r).map (c :: ·) := by rw [sprC.eq_def]; simp [h]
theorem sprC_end : sprC [37] = none := by rw [sprC.eq_def]; rfl
theorem sprC_letter (d : UInt8) (r : Bs) : sprC (37 :: d :: r) = match sprD d with
        | none => none
        | some x => (sprC r).map (x ++ ·) := by rw [sprC.eq_def]; simp
noncomputable def rdC (t : Int) : Bs → Bs
  | [] => []
  | c :: r => if c = 37 then (match r with
      | [] => []
      | d :: r' => rletC d t ++ rdC t r') else c :: rdC t r
theorem rdC_plain {t : Int} {c : UInt8} {r : Bs} (h : c ≠ 37) : rdC t (c :: r) = c :: rdC t r := by rw [rdC.eq_def]; simp [h]
theorem rdC_letter (t : Int) (d : UInt8) (r : Bs) : rdC t (37 :: d :: r) = rletC d t ++ rdC t r := by rw [rdC.eq_def]; simp
def rdOK : Bs → Bool
  | [] => true
  | c :: r => if c = 37 then (match r with
      | [] => false
      | d :: r' => rdOK r') else rdOK r
theorem rdOK_plain {c : UInt8} {r : Bs} (h : c ≠ 37) : rdOK (c :: r) = rdOK r := by rw [rdOK.eq_def]; simp [h]
theorem rdOK_end : rdOK [37] = false := by rw [rdOK.eq_def]; rfl
theorem rdOK_letter (d : UInt8) (r : Bs) : rdOK (37 :: d :: r) = rdOK r := by rw [rdOK.eq_def]; simp

theorem rletC_of {d : UInt8} (h : d ≠ 37) (t : Int) : rletC d t = textD d t := if_neg h
theorem rdC_tD (t : Int) (f : Bs) : rdC t (tD ++ f) = writeC t partD ++ rdC t f := by
  show rdC t (37 :: 109 :: 47 :: 37 :: 100 :: 47 :: 37 :: 89 :: f) = _
  rw [rdC_letter, rdC_plain (by decide), rdC_letter, rdC_plain (by decide), rdC_letter, rletC_of (by decide), rletC_of (by decide), rletC_of (by decide)]
  simp [writeC, partD, partText]
theorem rdC_tT (t : Int) (f : Bs) : rdC t (tT ++ f) = writeC t partT ++ rdC t f := by
  show rdC t (37 :: 72 :: 58 :: 37 :: 77 :: 58 :: 37 :: 83 :: f) = _
  rw [rdC_letter, rdC_plain (by decide), rdC_letter, rdC_plain (by decide), rdC_letter, rletC_of (by decide), rletC_of (by decide), rletC_of (by decide)]
  simp [writeC, partT, partText]
theorem rdOK_tD (f : Bs) : rdOK (tD ++ f) = rdOK f := by
  show rdOK (37 :: 109 :: 47 :: 37 :: 100 :: 47 :: 37 :: 89 :: f) = _
  rw [rdOK_letter, rdOK_plain (by decide), rdOK_letter, rdOK_plain (by decide), rdOK_letter]
theorem rdOK_tT (f : Bs) : rdOK (tT ++ f) = rdOK f := by
  show rdOK (37 :: 72 :: 58 :: 37 :: 77 :: 58 :: 37 :: 83 :: f) = _
  rw [rdOK_letter, rdOK_plain (by decide), rdOK_letter, rdOK_plain (by decide), rdOK_letter]

/-- One letter: both read the same. -/
theorem spr_part (d : UInt8) : (sprD d = none ∧ partC d = none) ∨ ∃ x l, sprD d = some x ∧ partC d = some l ∧ x.length ≤ 8 ∧ (∀ t f, rdC t (x ++ f) = writeC t l ++ rdC t f) ∧ ∀ f, rdOK (x ++ f) = rdOK f := by
  by_cases h37 : d = 37
  · subst h37
    refine .inr ⟨[37, 37], [([37], 0)], by decide, by decide, by decide, fun t f => ?_, fun f => rdOK_letter 37 f⟩
    show rdC t (37 :: 37 :: f) = _
    rw [rdC_letter]
    rfl
  · by_cases h68 : d = 68
    · subst h68; exact .inr ⟨tD, partD, rfl, rfl, by decide, rdC_tD, rdOK_tD⟩
    · by_cases h84 : d = 84
      · subst h84; exact .inr ⟨tT, partT, rfl, rfl, by decide, rdC_tT, rdOK_tT⟩
      · have hk : known d = (info (d.toNat : Int)).isSome := by unfold known; rw [decide_eq_false h37]; rfl
        unfold sprD partC
        rw [if_neg h68, if_neg h84, if_neg h37, if_neg h68, if_neg h84, hk]
        cases hi : (info (d.toNat : Int)).isSome with
        | false => exact .inl ⟨rfl, rfl⟩
        | true =>
          have h0 : d ≠ 0 := by intro h; subst h; revert hi; decide
          refine .inr ⟨[37, d], [([], d)], rfl, rfl, by simp, fun t f => ?_, fun f => rdOK_letter d f⟩
          show rdC t (37 :: d :: f) = _
          rw [rdC_letter, rletC_of h37]
          simp [writeC, partText, h0]
theorem writeC_append (t : Int) (a b : List Part) : writeC t (a ++ b) = writeC t a ++ writeC t b := by simp [writeC]
theorem spread_law (t : Int) : ∀ (n : Nat) (s : Bs), s.length ≤ n → (sprC s = none ∧ partsC s = none) ∨ ∃ f l, sprC s = some f ∧ partsC s = some l ∧ f.length ≤ 8 * s.length ∧ rdC t f = writeC t l ∧ rdOK f = true
  | _, [], _ => .inr ⟨[], [], rfl, rfl, by simp, rfl, rfl⟩
  | 0, c :: r, hn => by simp at hn
  | n + 1, c :: r, hn => by
    simp only [List.length_cons] at hn ⊢
    by_cases hc : c = 37
    · subst hc
      cases r with
      | nil => exact .inl ⟨sprC_end, partsC_end⟩
      | cons d r =>
        simp only [List.length_cons] at hn
        rw [sprC_letter, partsC_letter]
        rcases spr_part d with ⟨h1, h2⟩ | ⟨x, l, h1, h2, hx, h3, h4⟩
        · rw [h1, h2]; exact .inl ⟨rfl, rfl⟩
        · rw [h1, h2]
          rcases spread_law t n r (by omega) with ⟨i1, i2⟩ | ⟨f, m, i1, i2, i3, i4, i5⟩
          · rw [i1, i2]; exact .inl ⟨rfl, rfl⟩
          · rw [i1, i2]
            refine .inr ⟨x ++ f, l ++ m, rfl, rfl, by simp only [List.length_append, List.length_cons]; omega, by rw [h3, i4, writeC_append], by rw [h4]; exact i5⟩
    · rw [sprC_plain hc, partsC_plain hc]
      rcases spread_law t n r (by omega) with ⟨i1, i2⟩ | ⟨f, m, i1, i2, i3, i4, i5⟩
      · rw [i1, i2]; exact .inl ⟨rfl, rfl⟩
      · rw [i1, i2]
        refine .inr ⟨c :: f, ([c], 0) :: m, rfl, rfl, by simp only [List.length_cons]; omega, by rw [rdC_plain hc, i4]; simp [writeC, partText], by rw [rdOK_plain hc]; exact i5⟩

set_option maxRecDepth 100000 in
set_option maxHeartbeats 3200000 in
theorem rspread_any (s : Bs) (hs : s.length ≤ 10000) (w : World) (hP : PowIs w) :
    Calls Tryz.prog 87 #[.string ⟨s.toArray⟩] w fun e w' => Below w.heap.size w w' ∧ ((sprC s = none ∧ e = .returned (.tuple #[.string ⟨([] : Bs).toArray⟩, .bool false])) ∨ ∃ f, sprC s = some f ∧ e = .returned (.tuple #[.string ⟨f.toArray⟩, .bool true])) := by
  have HPW := Lib.hid hP
  have HLT := Lib.hid (fun u W hp => rletter_any u 0 (by decide) (by decide) W hp)
  clear hP
  go_enter Tryz.func87, Tryz.ntmps87
  obtain ⟨w1, hw1⟩ : ∃ w1, w = w1 := ⟨_, rfl⟩
  subst hw1
  go_wp2_with fail
  go_loopw [4, 5, 6, 7] (fun v4 v5 v6 v7 wr => ∃ (k : Nat) (acc : Bs), v5 = .int .i64 k ∧ v4 = .string ⟨acc.toArray⟩ ∧ k ≤ s.length ∧ acc.length ≤ 8 * k ∧ Below w.heap.size w wr ∧ Hid (sprC s = (sprC (s.drop k)).map (acc ++ ·))) (fun _ v5 _ _ _ => s.length - (intOf v5).toNat)
  case atStart => exact ⟨0, [], by go_num, by first | trivial | rfl, Nat.zero_le _, by simp, Below.refl _ _, by show _ = _; simp⟩
  case round =>
    obtain ⟨k, acc, rfl, rfl, hk, hal, hbw, HP⟩ := hrel
    have HPR := Lib.hid (HPW.out.below hbw)
    by_cases hlt : k < s.length
    · obtain ⟨c, hck⟩ : ∃ c, s[k] = c := ⟨_, rfl⟩
      have hdrop : s.drop k = c :: s.drop (k + 1) := by rw [← hck]; exact List.drop_eq_getElem_cons hlt
      have hx1 : (s.drop k).take 1 = [c] := by rw [hdrop]; rfl
      by_cases hc : c = 37
      · subst hc
        have t37 : ((((37 : UInt8).toNat : Int)) == 37) = true := rfl
        by_cases hlt2 : k + 1 < s.length
        · obtain ⟨d, hdk⟩ : ∃ d, s[k + 1] = d := ⟨_, rfl⟩
          have hdrop2 : s.drop (k + 1) = d :: s.drop (k + 2) := by rw [← hdk]; exact List.drop_eq_getElem_cons hlt2
          have hx2 : (s.drop k).take 2 = [37, d] := by rw [hdrop, hdrop2]; rfl
          have HP2 : Hid (sprC s = match sprD d with
              | none => none
              | some x => (sprC (s.drop (k + 2))).map ((acc ++ x) ++ ·)) := by
            show _ = _
            rw [HP.out, hdrop, hdrop2, sprC_letter]
            cases sprD d with
            | none => rfl
            | some x => simp [Option.map_map, Function.comp_def]
          have hne2 : (((k : Int) + 1) == (s.length : Int)) = false := by rw [beq_eq_false_iff_ne]; omega
          by_cases h68 : d = 68
          · subst h68
            have HPP : Hid (sprC s = (sprC (s.drop (k + 2))).map ((acc ++ tD) ++ ·)) := HP2.out
            clear HP2 hdrop hdrop2 hx1 hx2
            go_wp2_with fail
            go_roundw
            case rel => exact ⟨k + 2, acc ++ tD, by go_num, by first | trivial | rfl, by omega, by simp [tD]; omega, hbw, HPP⟩
            case measure => simp [intOf]; omega
          · by_cases h84 : d = 84
            · subst h84
              have HPP : Hid (sprC s = (sprC (s.drop (k + 2))).map ((acc ++ tT) ++ ·)) := HP2.out
              clear HP2 hdrop hdrop2 hx1 hx2
              go_wp2_with fail
              go_roundw
              case rel => exact ⟨k + 2, acc ++ tT, by go_num, by first | trivial | rfl, by omega, by simp [tT]; omega, hbw, HPP⟩
              case measure => simp [intOf]; omega
            · have b68 := u8_ne (k := 68) (by decide) h68
              have b84 := u8_ne (k := 84) (by decide) h84
              have HL1 := Lib.hid (HLT.out d)
              cases hkn : known d with
              | false =>
                have HPP : Hid (sprC s = none) := by
                  have e : sprD d = none := by simp [sprD, h68, h84, hkn]
                  show _ = _; rw [HP2.out, e]
                rw [hkn] at HL1
                clear HP2 hdrop hdrop2 hx1 hx2 h68 h84 hkn HLT
                generalize rletC d 0 = q at *
                go_wp2_with (go_at_call 40; refine (HL1.out _ HPR.out).mono ?_; rintro e w4 ⟨rfl, hb4⟩)
                go_ret2
                exact ⟨hbw.trans (hb4.mono hbw.size), .inl ⟨HPP.out, rfl⟩⟩
              | true =>
                have HPP : Hid (sprC s = (sprC (s.drop (k + 2))).map ((acc ++ [37, d]) ++ ·)) := by
                  have e : sprD d = some [37, d] := by simp [sprD, h68, h84, hkn]
                  show _ = _; rw [HP2.out, e]
                rw [hkn] at HL1
                clear HP2 hdrop hdrop2 hx1 h68 h84 hkn HLT
                generalize rletC d 0 = q at *
                go_wp2_with (go_at_call 40; refine (HL1.out _ HPR.out).mono ?_; rintro e w4 ⟨rfl, hb4⟩)
                go_roundw
                case rel => exact ⟨k + 2, acc ++ [37, d], by go_num, by rw [show k + 1 + 1 - k = 2 by omega, hx2], by omega, by simp; omega, hbw.trans (hb4.mono hbw.size), HPP⟩
                case measure => simp [intOf]; omega
        · have hk1 : k + 1 = s.length := by omega
          have HPP : Hid (sprC s = none) := by
            have e : s.drop (k + 1) = [] := List.drop_eq_nil_of_le (by omega)
            show _ = _; rw [HP.out, hdrop, e, sprC_end]; rfl
          have heq2 : (((k : Int) + 1) == (s.length : Int)) = true := by rw [beq_iff_eq]; omega
          clear hdrop hx1
          go_wp2_with fail
          go_ret2
          exact ⟨hbw, .inl ⟨HPP.out, rfl⟩⟩
      · have HPP : Hid (sprC s = (sprC (s.drop (k + 1))).map ((acc ++ [c]) ++ ·)) := by
          show _ = _
          rw [HP.out, hdrop, sprC_plain hc]
          simp [Option.map_map, Function.comp_def]
        have t37 := u8_ne (k := 37) (by decide) hc
        clear hdrop hc
        go_wp2_with fail
        go_roundw
        case rel => exact ⟨k + 1, acc ++ [c], by go_num, by first | trivial | rfl, by omega, by simp; omega, hbw, HPP⟩
        case measure => simp [intOf]; omega
    · have hk2 : k = s.length := by omega
      have HPP : Hid (sprC s = some acc) := by
        show _ = _
        rw [HP.out, List.drop_eq_nil_of_le (by omega)]
        simp [sprC]
      go_wp2_with fail
      go_ret2
      exact ⟨hbw, .inr ⟨acc, HPP.out, rfl⟩⟩
end Go.Proofs.YtkahakhhdiffcaaGreatDoor
namespace Go.Proofs.YtkahakhhdiffcaaGreatDoor
set_option linter.unusedVariables false
set_option linter.unusedSimpArgs false
open Go.RowKit
attribute [local go_sem] ba_append ba_get ba_extract take_drop_all

theorem rletC_len (u : UInt8) {t : Int} (ht : -62135596800 ≤ t) (ht2 : t ≤ 253402300799) : (rletC u t).length ≤ 200 := by
  by_cases h37 : u = 37
  · subst h37; show ([37] : Bs).length ≤ 200; decide
  · rw [rletC_of h37]
    cases hi2 : info (u.toNat : Int) with
    | none => unfold textD; rw [hi2]; simp
    | some i =>
      have hk := kind_of u hi2
      unfold textD; rw [hi2]
      exact textC_len hk.1 hk.2 ht ht2
end Go.Proofs.YtkahakhhdiffcaaGreatDoor
