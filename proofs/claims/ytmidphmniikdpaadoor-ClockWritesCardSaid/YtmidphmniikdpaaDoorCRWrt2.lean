/- The reference's Write: what it computes. -/
import Derived.Test.YtmidphmniikdpaaDoorCRWrt
namespace Go.Proofs.YtmidphmniikdpaaDoor
set_option linter.unusedVariables false
set_option linter.unusedSimpArgs false
open Go.RowKit
attribute [local go_sem] ba_append ba_get ba_extract take_drop_all

theorem rletC_len (u : UInt8) {t : Int} (ht : -62135596800 ≤ t) (ht2 : t ≤ 253402300799) : (rletC u t).length ≤ 200 := by
  by_cases h37 : u = 37
  · subst h37; show ([37] : Bs).length ≤ 200; decide
  · rw [rletC_of h37]
    cases hi2 : info (u.toNat : Int) with
    | none => unfold textD; rw [hi2]; simp
    | some i =>
      have hk := kind_of u hi2
      unfold textD; rw [hi2]
      exact textC_len hk.1 hk.2 ht ht2
set_option maxRecDepth 100000 in
set_option maxHeartbeats 3200000 in
theorem rWrite_any (t : Int) (s : Bs) (hs : s.length ≤ 1000) (w : World) (hP : PowIs w) :
    Calls Tryd.prog 11 #[.int .i64 t, .string ⟨s.toArray⟩] w fun e w' => e = .returned (.tuple #[.string ⟨(writeP t s).1.toArray⟩, .int .i64 (writeP t s).2]) ∧ Below w.heap.size w w' := by
  have HV := Lib.hid (fun W => rright_any t W)
  unfold writeP
  by_cases hv : validI t = true
  · rw [if_pos hv]
    rw [hv] at HV
    have hvt := (validI_iff t).1 hv
    have hsp := rspread_any s (by omega) w hP
    rcases spread_law t _ s (Nat.le_refl _) with ⟨i1, i2⟩ | ⟨f, l, i1, i2, i3, i4, i5⟩
    · rw [i2]
      have HS : Hid (Calls Tryd.prog 45 #[.string ⟨s.toArray⟩] w fun e w' => Below w.heap.size w w' ∧ e = .returned (.tuple #[.string ⟨([] : Bs).toArray⟩, .bool false])) := hsp.mono fun e w' ⟨hb, h⟩ => ⟨hb, by
        rcases h with ⟨_, h⟩ | ⟨f, h, _⟩
        · exact h
        · rw [i1] at h; cases h⟩
      clear hsp i1 i2 hv
      go_enter Tryd.func11, Tryd.ntmps11
      go_wp2_with (first | (go_at_call 44; refine (HV.out _).mono ?_; rintro e w1 ⟨rfl, rfl⟩) | (go_at_call 45; refine HS.out.mono ?_; rintro e w2 ⟨hb, rfl⟩))
      go_ret2
      exact ⟨rfl, hb⟩
    · rw [i2]
      have HS : Hid (Calls Tryd.prog 45 #[.string ⟨s.toArray⟩] w fun e w' => Below w.heap.size w w' ∧ e = .returned (.tuple #[.string ⟨f.toArray⟩, .bool true])) := hsp.mono fun e w' ⟨hb, h⟩ => ⟨hb, by
        rcases h with ⟨h, _⟩ | ⟨f', h, he⟩
        · rw [i1] at h; cases h
        · rw [i1] at h; cases h; exact he⟩
      have hfl : f.length ≤ 8000 := by omega
      have HLT := Lib.hid (fun u W hp => rletter_any u t hvt.1 hvt.2 W hp)
      have HLL := Lib.hid (fun u => rletC_len u hvt.1 hvt.2)
      have HPW := Lib.hid hP
      have HR : Hid (writeC t l = rdC t f) := i4.symm
      have HOK := Lib.hid i5
      simp only
      clear hsp i1 i2 i3 i4 i5 hv hP hs
      go_enter Tryd.func11, Tryd.ntmps11
      go_wp2_with (first | (go_at_call 44; refine (HV.out _).mono ?_; rintro e w1 ⟨rfl, rfl⟩) | (go_at_call 45; refine HS.out.mono ?_; rintro e w2 ⟨hb, rfl⟩))
      go_loopw [8, 9, 10, 11] (fun v8 v9 v10 v11 wr => ∃ (k : Nat) (acc : Bs), v9 = .int .i64 k ∧ v8 = .string ⟨acc.toArray⟩ ∧ k ≤ f.length ∧ acc.length ≤ 200 * k ∧ Below w.heap.size w wr ∧ Hid (rdC t f = acc ++ rdC t (f.drop k)) ∧ Hid (rdOK (f.drop k) = true)) (fun _ v9 _ _ _ => f.length - (intOf v9).toNat)
      case atStart => exact ⟨0, [], by go_num, by first | trivial | rfl, Nat.zero_le _, by simp, hb, by show _ = _; simp, HOK⟩
      case round =>
        obtain ⟨k, acc, rfl, rfl, hk, hal, hbw, HP, HO⟩ := hrel
        have HPR := Lib.hid (HPW.out.below hbw)
        by_cases hlt : k < f.length
        · obtain ⟨c, hck⟩ : ∃ c, f[k] = c := ⟨_, rfl⟩
          have hdrop : f.drop k = c :: f.drop (k + 1) := by rw [← hck]; exact List.drop_eq_getElem_cons hlt
          have hx1 : (f.drop k).take 1 = [c] := by rw [hdrop]; rfl
          by_cases hc : c = 37
          · subst hc
            have t37 : ((((37 : UInt8).toNat : Int)) == 37) = true := rfl
            have hlt2 : k + 1 < f.length := by
              by_cases h : k + 1 < f.length
              · exact h
              · have e : f.drop (k + 1) = [] := List.drop_eq_nil_of_le (by omega)
                have := HO.out
                rw [hdrop, e, rdOK_end] at this
                cases this
            obtain ⟨d, hdk⟩ : ∃ d, f[k + 1] = d := ⟨_, rfl⟩
            have hdrop2 : f.drop (k + 1) = d :: f.drop (k + 2) := by rw [← hdk]; exact List.drop_eq_getElem_cons hlt2
            have HO2 : Hid (rdOK (f.drop (k + 2)) = true) := by
              have := HO.out
              rw [hdrop, hdrop2, rdOK_letter] at this
              exact this
            have HPP : Hid (rdC t f = (acc ++ rletC d t) ++ rdC t (f.drop (k + 2))) := by
              show _ = _
              rw [HP.out, hdrop, hdrop2, rdC_letter, List.append_assoc]
            have HL1 := Lib.hid (HLT.out d)
            have hll := HLL.out d
            clear HP HO hdrop hdrop2 hx1
            generalize rletC d t = q at *
            go_wp2_with (go_at_call 46; refine (HL1.out _ HPR.out).mono ?_; rintro e w4 ⟨rfl, hb4⟩)
            go_roundw
            case rel => exact ⟨k + 2, acc ++ q, by go_num, by first | trivial | rfl, by omega, by simp; omega, hbw.trans (hb4.mono hbw.size), HPP, HO2⟩
            case measure => simp [intOf]; omega
          · have HPP : Hid (rdC t f = (acc ++ [c]) ++ rdC t (f.drop (k + 1))) := by
              show _ = _
              rw [HP.out, hdrop, rdC_plain hc]
              simp
            have HO2 : Hid (rdOK (f.drop (k + 1)) = true) := by
              have := HO.out
              rw [hdrop, rdOK_plain hc] at this
              exact this
            have t37 := u8_ne (k := 37) (by decide) hc
            clear HP HO hdrop hc
            go_wp2_with fail
            go_roundw
            case rel => exact ⟨k + 1, acc ++ [c], by go_num, by first | trivial | rfl, by omega, by simp; omega, hbw, HPP, HO2⟩
            case measure => simp [intOf]; omega
        · have HPP : Hid (writeC t l = acc) := by
            show _ = _
            rw [HR.out, HP.out, List.drop_eq_nil_of_le (by omega)]
            simp [rdC]
          go_wp2_with fail
          go_ret2
          exact ⟨by rw [HPP.out]; rfl, hbw⟩
  · rw [if_neg hv]
    rw [Bool.not_eq_true] at hv
    rw [hv] at HV
    go_enter Tryd.func11, Tryd.ntmps11
    go_wp2_with (go_at_call 44; refine (HV.out _).mono ?_; rintro e w1 ⟨rfl, rfl⟩)
    go_ret2
    exact ⟨rfl, Below.refl _ _⟩
end Go.Proofs.YtmidphmniikdpaaDoor
