/- Contracts of what reads a space of variables: Split, there, state, find, Get, Kind, Linked. -/
import Derived.Test.YtcaifihdbcjakaaGreatVRep
import Derived.Test.YtcaifihdbcjakaaGreatVSem
import Derived.Test.YtcaifihdbcjakaaGreatShelf
import Derived.BigQuiet
import Derived.Deep.QuietTactic
import Derived.OwnWalk
namespace Go.Proofs.YtcaifihdbcjakaaGreat
set_option linter.unusedVariables false
set_option linter.unusedSimpArgs false
open Go.RowKit
variable {N : Nat}

theorem ba_get (l : List UInt8) (k : Nat) (h : k < (⟨l.toArray⟩ : ByteArray).size) : (⟨l.toArray⟩ : ByteArray)[k] = l[k]'(show k < l.length from h) := rfl
theorem ba_extract (l : List UInt8) (a b : Nat) : (⟨l.toArray⟩ : ByteArray).extract a b = ⟨((l.drop a).take (b - a)).toArray⟩ := ByteArray.extract_mk l a b
theorem take_drop_all (l : List UInt8) (i : Nat) : (l.drop i).take (l.length - i) = l.drop i := List.take_of_length_le (by simp)
attribute [go_sem] ba_get ba_extract take_drop_all
theorem byte_lt (c : UInt8) : (c.toNat : Int) ≤ 255 := by have := c.toNat_lt; omega
theorem byte_inj {a b : UInt8} (h : a.toNat = b.toNat) : a = b := UInt8.toNat_inj.1 h

theorem split_len (s : Bs) : (splitC s).1.length ≤ s.length ∧ (splitC s).2.1.length ≤ s.length := by
  unfold splitC
  split
  · exact ⟨Nat.le_refl _, Nat.zero_le _⟩
  · constructor
    · simp only [List.length_take]; omega
    · simp only [List.length_take, List.length_drop]; omega

set_option maxRecDepth 100000 in
set_option maxHeartbeats 400000 in
theorem Split_any (s : Bs) (hs : s.length ≤ maxLen) (w : World) :
    Calls Tryz.prog 51 #[.string ⟨s.toArray⟩] w fun e w' => e = .returned (.tuple #[.string ⟨(splitC s).1.toArray⟩, .string ⟨(splitC s).2.1.toArray⟩, .bool (splitC s).2.2]) ∧ ∃ m, w' = w.drewN m := by
  have hsl : s.length ≤ 9223372036854775807 := by simpa [maxLen] using hs
  have HIB : Hid (∀ W, Calls Tryz.prog 75 #[.string ⟨s.toArray⟩, .int .u8 40] W fun e w' => e = .returned (.int .i64 (Lib.indexByte s 40)) ∧ W = w') := by
    intro W
    exact (Tryz.strings_IndexByte ⟨s.toArray⟩ 40 W).mono fun e w' h => ⟨h.1, h.2.symm⟩
  have HS : Hid (splitC s = if Lib.indexByte s 40 = -1 ∨ s.getLast? ≠ some 41 then (s, [], false) else (s.take (Lib.indexByte s 40).toNat, (s.drop ((Lib.indexByte s 40).toNat + 1)).take (s.length - 1 - ((Lib.indexByte s 40).toNat + 1)), true)) := rfl
  by_cases hi : Lib.indexByte s 40 = -1
  · rw [hi] at HIB HS
    have HR := Lib.hid (HS.out.trans (if_pos (.inl rfl)))
    clear HS hi
    go_enter Tryz.func51, Tryz.ntmps51
    go_wp2_with (go_at_call 75; refine (HIB.out _).mono ?_; rintro e w' ⟨rfl, rfl⟩)
    go_ret3
    exact ⟨by rw [HR.out]; rfl, 0, rfl⟩
  · have hge := Lib.indexByte_ge s 40
    obtain ⟨k, hk⟩ : ∃ k : Nat, Lib.indexByte s 40 = k := ⟨(Lib.indexByte s 40).toNat, by omega⟩
    have hks := (Lib.indexByte_some hk).1
    obtain ⟨hkl, hke⟩ := List.getElem?_eq_some_iff.1 hks
    have hl0 : 0 < s.length := by omega
    have hq : s.length - 1 < s.length := by omega
    have hlast : s.getLast? = some (s[s.length - 1]'hq) := by rw [List.getLast?_eq_getElem?, List.getElem?_eq_getElem hq]
    rw [hk] at HIB HS
    have e1 : ((s.length : Int) - 1).toNat = s.length - 1 := by omega
    have e2 : (0 : Int) ≤ (s.length : Int) - 1 := by omega
    have e3 : ¬ ((k : Int) < 0) := by omega
    by_cases h41 : (s[s.length - 1]'hq).toNat = 41
    · have h41b : s[s.length - 1]'hq = 41 := byte_inj h41
      have hk2 : k < s.length - 1 := by
        rcases Nat.lt_or_ge k (s.length - 1) with h | h
        · exact h
        · have : k = s.length - 1 := by omega
          subst this
          rw [hke] at h41; exact absurd h41 (by decide)
      have HR : Hid (splitC s = (s.take k, (s.drop (k + 1)).take (s.length - 1 - (k + 1)), true)) := by
        show _ = _
        rw [HS.out, if_neg]
        · simp
        · rintro (h | h)
          · omega
          · exact h (by rw [hlast, h41b])
      have t1 : (((s[s.length - 1]'hq).toNat : Int) != 41) = false := by simp; omega
      have e4 : (k : Int) + 1 ≤ (s.length : Int) - 1 := by omega
      have e5 : k + 1 ≤ s.length - 1 := by omega
      have e6 : (k : Int) ≤ (s.length : Int) := by omega
      have e7 : (s.length : Int) - 1 ≤ (s.length : Int) := by omega
      clear HS hk hks hke hlast h41 h41b hge hi
      go_enter Tryz.func51, Tryz.ntmps51
      go_wp2_with (go_at_call 75; refine (HIB.out _).mono ?_; rintro e w' ⟨rfl, rfl⟩)
      go_quiet (fail)
      go_wp2_with fail
      go_ret3
      exact ⟨by rw [HR.out]; simp, _, rfl⟩
    · have HR : Hid (splitC s = (s, [], false)) := by
        show _ = _
        rw [HS.out, if_pos]
        right
        rw [hlast]
        intro h; exact h41 (by rw [Option.some.inj h]; rfl)
      have t1 : (((s[s.length - 1]'hq).toNat : Int) != 41) = true := by simp; omega
      clear HS hk hks hke hlast h41 hge hi
      go_enter Tryz.func51, Tryz.ntmps51
      go_wp2_with (go_at_call 75; refine (HIB.out _).mono ?_; rintro e w' ⟨rfl, rfl⟩)
      go_ret3
      exact ⟨by rw [HR.out]; rfl, 0, rfl⟩

set_option maxRecDepth 100000 in
set_option maxHeartbeats 400000 in
theorem state_any {B : Nat} {S : St} {w : World} (h : Rep B w S) (hwf : WF S) {c : Nat} {k : Int} {v : Bs} {e p : Option Nat} (hc : S c = some (.cell k v e p)) :
    Calls Tryz.prog 36 #[.pointer (some ⟨c, 0, none⟩)] w fun en w' => en = .returned (.tuple #[.int .i64 (stateC S c).1, .int .i64 (stateC S c).2]) ∧ w = w' := by
  obtain ⟨c0, c1, c2, c3, _, _⟩ := h.cell hc
  cases p with
  | none =>
    have hst : stateC S c = (k, 0) := by simp [stateC, parOf, kindOf, hc]
    rw [hst]
    simp only [Option.map_none] at c3
    go_enter Tryz.func36, Tryz.ntmps36
    go_wp2_with fail
    go_ret2
    exact ⟨rfl, rfl⟩
  | some p =>
    obtain ⟨kp, vp, ep, hp⟩ := hwf.par hc
    obtain ⟨p0, _⟩ := h.cell hp
    have hkk := hwf.kinds hp
    have hst : stateC S c = if kp = 1 then (0, 11) else if kp = 0 then (0, 0) else (k, 0) := by simp [stateC, parOf, kindOf, hc, hp]
    rw [hst]
    simp only [Option.map_some] at c3
    clear hst
    rcases hkk with rfl | rfl | rfl
    all_goals (go_enter Tryz.func36, Tryz.ntmps36; go_wp2_with fail; go_ret2; exact ⟨rfl, rfl⟩)

theorem neq_names_nil (W : World) : (binOp .neq 46 (.map none) (.map none)).run Tryz.prog W = .ok (.bool false) W := by kernel_rfl
theorem neq_names_some (m : Nat) (W : World) : (binOp .neq 46 (.map (some m)) (.map none)).run Tryz.prog W = .ok (.bool true) W := by kernel_rfl

set_option maxRecDepth 100000 in
set_option maxHeartbeats 400000 in
theorem there_any {B : Nat} {S : St} {w : World} (h : Rep B w S) {x sm : Nat} {g : Int → Option Nat} (hp : Sp N S x sm g) {i : Int} (hi : (Lit.int .i64 i).wf = true) :
    Calls Tryz.prog 35 #[.pointer (some ⟨x, 0, none⟩), .int .i64 i] w fun en w' => en = .returned (.bool (g i).isSome) ∧ w = w' := by
  obtain ⟨cs, rm, r, hx, _⟩ := hp.space
  obtain ⟨x0, _⟩ := h.space hx
  have hl := h.lookScope hp.smap hi
  cases hg : g i with
  | none =>
    rw [hg] at hl
    have hcmp := neq_names_nil w
    go_enter Tryz.func35, Tryz.ntmps35
    go_wp2_with fail
    go_ret
    exact ⟨rfl, rfl⟩
  | some m =>
    rw [hg] at hl
    have hcmp := neq_names_some m w
    go_enter Tryz.func35, Tryz.ntmps35
    go_wp2_with fail
    go_ret
    exact ⟨rfl, rfl⟩
end Go.Proofs.YtcaifihdbcjakaaGreat
