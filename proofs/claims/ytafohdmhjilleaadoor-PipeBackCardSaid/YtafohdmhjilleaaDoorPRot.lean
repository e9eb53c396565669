/- rot: each letter 13 places further. -/
import Derived.Test.YtafohdmhjilleaaDoorPAwake
namespace Go.Proofs.YtafohdmhjilleaaDoor
set_option linter.unusedVariables false
set_option linter.unusedSimpArgs false
open Go.RowKit Go.Shelf

def rotB (c : UInt8) : UInt8 := if 97 ≤ c.toNat ∧ c.toNat < 123 then UInt8.ofNat (97 + (c.toNat - 97 + 13) % 26) else if 65 ≤ c.toNat ∧ c.toNat < 91 then UInt8.ofNat (65 + (c.toNat - 65 + 13) % 26) else c
theorem rot_low {c : UInt8} (h1 : 97 ≤ c.toNat) (h2 : c.toNat < 123) : (rotB c).toNat = 97 + (c.toNat - 97 + 13) % 26 := by
  unfold rotB
  rw [if_pos ⟨h1, h2⟩, UInt8.toNat_ofNat']
  omega
theorem rot_up {c : UInt8} (h1 : 65 ≤ c.toNat) (h2 : c.toNat < 91) : (rotB c).toNat = 65 + (c.toNat - 65 + 13) % 26 := by
  unfold rotB
  rw [if_neg (by omega), if_pos ⟨h1, h2⟩, UInt8.toNat_ofNat']
  omega
theorem rot_not {c : UInt8} (h1 : ¬ (97 ≤ c.toNat ∧ c.toNat < 123)) (h2 : ¬ (65 ≤ c.toNat ∧ c.toNat < 91)) : rotB c = c := by
  unfold rotB
  rw [if_neg h1, if_neg h2]
theorem rot_rot (c : UInt8) : rotB (rotB c) = c := by
  by_cases h1 : 97 ≤ c.toNat ∧ c.toNat < 123
  · have e := rot_low h1.1 h1.2
    have e2 := rot_low (c := rotB c) (by omega) (by omega)
    exact UInt8.toNat_inj.1 (by omega)
  · by_cases h2 : 65 ≤ c.toNat ∧ c.toNat < 91
    · have e := rot_up h2.1 h2.2
      have e2 := rot_up (c := rotB c) (by omega) (by omega)
      exact UInt8.toNat_inj.1 (by omega)
    · rw [rot_not h1 h2, rot_not h1 h2]
theorem set_same (l : Bs) (f : UInt8 → UInt8) (k : Nat) (h : k < l.length) : (upto f l k).set k l[k] = upto f l k := by
  have h' : k < (upto f l k).length := by rw [upto_len]; exact h
  have e := upto_get f l k h h'
  rw [← e]
  exact List.set_getElem_self h'
theorem idx_two (x y : Value) (W : World) : (Instr.index 101 (.agg #[x, y]) (.int .i64 0)).run Tryd.prog W = .ok x W ∧ (Instr.index 101 (.agg #[x, y]) (.int .i64 1)).run Tryd.prog W = .ok y W := by
  refine ⟨?_, ?_⟩ <;> kernel_rfl
/-- The bytes within the inner loop: none, the first, both of the rounds are done. -/
def RotR (w : World) (l : Bs) (k g : Nat) (stage : Nat → UInt8) (v18 : Value) (wr : World) : Prop := ∃ j : Nat, j ≤ 2 ∧ v18 = .int .i64 (j : Int) ∧ BRow wr g ((upto rotB l k).set k (stage j)) ∧ Below w.heap.size w wr

set_option maxRecDepth 100000 in
set_option maxHeartbeats 1600000 in
theorem rot_any (l : Bs) (hl : l.length ≤ 1000000) (w : World) :
    Calls Tryd.prog 57 #[.string ⟨l.toArray⟩] w fun e w' => e = .returned (.string ⟨(l.map rotB).toArray⟩) ∧ Below w.heap.size w w' := by
  go_enter Tryd.func57, Tryd.ntmps57
  go_wp2_with (refine wpList_bytes rfl _ _ 5 _ rfl Tryd.underlying9 Tryd.underlying22 Tryd.underlying5 l rfl ?_; intro w1 cap hB hsz hR)
  go_loopw [12] (fun i wr => ∃ k : Nat, k ≤ l.length ∧ i = .int .i64 k ∧ BRow wr w.heap.size (upto rotB l k) ∧ Below w.heap.size w wr) (fun i wr => l.length - (intOf i).toNat)
  case atStart => exact ⟨0, Nat.zero_le _, rfl, by rw [upto_zero]; exact hR, hB⟩
  case round =>
    obtain ⟨k, hk, rfl, hr, hb⟩ := hrel
    have hlen := upto_len rotB l k
    by_cases hlt : k < l.length
    · have hkk : k < (upto rotB l k).length := by omega
      have hc := hr.cell hkk
      rw [upto_get rotB l k hlt] at hc
      have hset := upto_set rotB l k hlt
      have hsame := set_same l rotB k hlt
      have h255 := byte_lt l[k]
      clear hR hB hsz hlen
      obtain ⟨wo, rfl⟩ : ∃ wo : World, wo = wr := ⟨_, rfl⟩
      have hi2 := idx_two (.int .u8 97) (.int .u8 65)
      obtain ⟨c, hcc⟩ : ∃ c, c = l[k] := ⟨_, rfl⟩
      rw [← hcc] at hc hset hsame h255
      rcases (by omega : c.toNat < 65 ∨ (65 ≤ c.toNat ∧ c.toNat < 91) ∨ (91 ≤ c.toNat ∧ c.toNat < 97) ∨ (97 ≤ c.toNat ∧ c.toNat < 123) ∨ 123 ≤ c.toNat) with hc0 | ⟨hc0, hc1⟩ | ⟨hc0, hc1⟩ | ⟨hc0, hc1⟩ | hc0
      · have f1 : decide ((97 : Int) ≤ (c.toNat : Int)) = false := by simp <;> omega
        have f2 : decide ((c.toNat : Int) < 123) = true := by simp <;> omega
        have f3 : decide ((65 : Int) ≤ (c.toNat : Int)) = false := by simp <;> omega
        have f4 : decide ((c.toNat : Int) < 91) = true := by simp <;> omega
        have hrc : rotB c = c := rot_not (by omega) (by omega)
        rw [hrc] at hset
        have HS := Lib.hid hset
        have HM := Lib.hid hsame
        have HC := Lib.hid hcc
        clear hset hsame hcc hrc
        obtain ⟨st, hst⟩ : ∃ st : Nat → UInt8, st = fun _ => c := ⟨_, rfl⟩
        have s0 : st 0 = c := by rw [hst]
        have s1 : st 1 = c := by rw [hst]
        have s2 : st 2 = c := by rw [hst]
        have HST := Lib.hid (And.intro s0 (And.intro s1 s2))
        clear hst s0 s1 s2
        go_wp2
        go_loopw [18] (fun v18 wr => RotR w l k w.heap.size st v18 wr) (fun v18 _ => 2 - (intOf v18).toNat)
        case atStart => exact ⟨0, by omega, rfl, by rw [HST.out.1, HM.out]; exact hr, hb⟩
        case round =>
          clear hr hb
          obtain ⟨j, hj, rfl, hr, hb⟩ := hrel
          have hcs := hr.cell (j := k) (by simp; exact hkk)
          have hfs := hr.free (j := k) (by simp; exact hkk)
          rw [List.getElem_set_self] at hcs
          rcases (by omega : j = 0 ∨ j = 1 ∨ j = 2) with rfl | rfl | rfl
          · have HB := Lib.hid hr
            clear hr
            go_wp2
            go_roundw
            case rel => exact ⟨1, by omega, by go_num, by have h := HB.out; rw [HST.out.1] at h; rw [HST.out.2.1]; exact h, hb⟩
            case measure => simp [intOf]
          · have HB := Lib.hid hr
            clear hr
            go_wp2
            go_roundw
            case rel => exact ⟨2, by omega, by go_num, by have h := HB.out; rw [HST.out.2.1] at h; rw [HST.out.2.2]; exact h, hb⟩
            case measure => simp [intOf]
          · rw [HST.out.2.2, HS.out] at hr
            have HB := Lib.hid hr
            clear hr
            go_wp2
            go_roundw
            case rel => exact ⟨k + 1, by omega, by go_num, HB.out, hb⟩
            case measure => simp [intOf]; omega
      · have f1 : decide ((97 : Int) ≤ (c.toNat : Int)) = false := by simp <;> omega
        have f2 : decide ((c.toNat : Int) < 123) = true := by simp <;> omega
        have f3 : decide ((65 : Int) ≤ (c.toNat : Int)) = true := by simp <;> omega
        have f4 : decide ((c.toNat : Int) < 91) = true := by simp <;> omega
        have hv : 65 + ((c.toNat : Int) - 65 + 13) % 26 = ((rotB c).toNat : Int) := by have := rot_up (c := c) (by omega) (by omega); omega
        have HS := Lib.hid hset
        have HM := Lib.hid hsame
        have HC := Lib.hid hcc
        clear hset hsame hcc
        obtain ⟨st, hst⟩ : ∃ st : Nat → UInt8, st = fun j => if j ≤ 1 then c else rotB c := ⟨_, rfl⟩
        have s0 : st 0 = c := by rw [hst]; rfl
        have s1 : st 1 = c := by rw [hst]; rfl
        have s2 : st 2 = rotB c := by rw [hst]; rfl
        have HST := Lib.hid (And.intro s0 (And.intro s1 s2))
        clear hst s0 s1 s2
        go_wp2
        go_loopw [18] (fun v18 wr => RotR w l k w.heap.size st v18 wr) (fun v18 _ => 2 - (intOf v18).toNat)
        case atStart => exact ⟨0, by omega, rfl, by rw [HST.out.1, HM.out]; exact hr, hb⟩
        case round =>
          clear hr hb
          obtain ⟨j, hj, rfl, hr, hb⟩ := hrel
          have hcs := hr.cell (j := k) (by simp; exact hkk)
          have hfs := hr.free (j := k) (by simp; exact hkk)
          rw [List.getElem_set_self] at hcs
          rcases (by omega : j = 0 ∨ j = 1 ∨ j = 2) with rfl | rfl | rfl
          · have HB := Lib.hid hr
            clear hr
            go_wp2
            go_roundw
            case rel => exact ⟨1, by omega, by go_num, by have h := HB.out; rw [HST.out.1] at h; rw [HST.out.2.1]; exact h, hb⟩
            case measure => simp [intOf]
          · have hs := hr.set (k := k) (by simp; exact hkk) (rotB c)
            rw [List.set_set] at hs
            have HB := Lib.hid hr
            clear hr
            go_wp2
            go_roundw
            case rel => exact ⟨2, by omega, by go_num, by rw [HST.out.2.2]; exact hs, hb.setCell (Nat.le_refl _) _⟩
            case measure => simp [intOf]
          · rw [HST.out.2.2, HS.out] at hr
            have HB := Lib.hid hr
            clear hr
            go_wp2
            go_roundw
            case rel => exact ⟨k + 1, by omega, by go_num, HB.out, hb⟩
            case measure => simp [intOf]; omega
      · have f1 : decide ((97 : Int) ≤ (c.toNat : Int)) = false := by simp <;> omega
        have f2 : decide ((c.toNat : Int) < 123) = true := by simp <;> omega
        have f3 : decide ((65 : Int) ≤ (c.toNat : Int)) = true := by simp <;> omega
        have f4 : decide ((c.toNat : Int) < 91) = false := by simp <;> omega
        have hrc : rotB c = c := rot_not (by omega) (by omega)
        rw [hrc] at hset
        have HS := Lib.hid hset
        have HM := Lib.hid hsame
        have HC := Lib.hid hcc
        clear hset hsame hcc hrc
        obtain ⟨st, hst⟩ : ∃ st : Nat → UInt8, st = fun _ => c := ⟨_, rfl⟩
        have s0 : st 0 = c := by rw [hst]
        have s1 : st 1 = c := by rw [hst]
        have s2 : st 2 = c := by rw [hst]
        have HST := Lib.hid (And.intro s0 (And.intro s1 s2))
        clear hst s0 s1 s2
        go_wp2
        go_loopw [18] (fun v18 wr => RotR w l k w.heap.size st v18 wr) (fun v18 _ => 2 - (intOf v18).toNat)
        case atStart => exact ⟨0, by omega, rfl, by rw [HST.out.1, HM.out]; exact hr, hb⟩
        case round =>
          clear hr hb
          obtain ⟨j, hj, rfl, hr, hb⟩ := hrel
          have hcs := hr.cell (j := k) (by simp; exact hkk)
          have hfs := hr.free (j := k) (by simp; exact hkk)
          rw [List.getElem_set_self] at hcs
          rcases (by omega : j = 0 ∨ j = 1 ∨ j = 2) with rfl | rfl | rfl
          · have HB := Lib.hid hr
            clear hr
            go_wp2
            go_roundw
            case rel => exact ⟨1, by omega, by go_num, by have h := HB.out; rw [HST.out.1] at h; rw [HST.out.2.1]; exact h, hb⟩
            case measure => simp [intOf]
          · have HB := Lib.hid hr
            clear hr
            go_wp2
            go_roundw
            case rel => exact ⟨2, by omega, by go_num, by have h := HB.out; rw [HST.out.2.1] at h; rw [HST.out.2.2]; exact h, hb⟩
            case measure => simp [intOf]
          · rw [HST.out.2.2, HS.out] at hr
            have HB := Lib.hid hr
            clear hr
            go_wp2
            go_roundw
            case rel => exact ⟨k + 1, by omega, by go_num, HB.out, hb⟩
            case measure => simp [intOf]; omega
      · have f1 : decide ((97 : Int) ≤ (c.toNat : Int)) = true := by simp <;> omega
        have f2 : decide ((c.toNat : Int) < 123) = true := by simp <;> omega
        have f3 : decide ((65 : Int) ≤ (c.toNat : Int)) = true := by simp <;> omega
        have f4 : decide ((c.toNat : Int) < 91) = false := by simp <;> omega
        have hv : 97 + ((c.toNat : Int) - 97 + 13) % 26 = ((rotB c).toNat : Int) := by have := rot_low (c := c) (by omega) (by omega); omega
        have HS := Lib.hid hset
        have HM := Lib.hid hsame
        have HC := Lib.hid hcc
        clear hset hsame hcc
        obtain ⟨st, hst⟩ : ∃ st : Nat → UInt8, st = fun j => if j = 0 then c else rotB c := ⟨_, rfl⟩
        have s0 : st 0 = c := by rw [hst]; rfl
        have s1 : st 1 = rotB c := by rw [hst]; rfl
        have s2 : st 2 = rotB c := by rw [hst]; rfl
        have HST := Lib.hid (And.intro s0 (And.intro s1 s2))
        clear hst s0 s1 s2
        go_wp2
        go_loopw [18] (fun v18 wr => RotR w l k w.heap.size st v18 wr) (fun v18 _ => 2 - (intOf v18).toNat)
        case atStart => exact ⟨0, by omega, rfl, by rw [HST.out.1, HM.out]; exact hr, hb⟩
        case round =>
          clear hr hb
          obtain ⟨j, hj, rfl, hr, hb⟩ := hrel
          have hcs := hr.cell (j := k) (by simp; exact hkk)
          have hfs := hr.free (j := k) (by simp; exact hkk)
          rw [List.getElem_set_self] at hcs
          rcases (by omega : j = 0 ∨ j = 1 ∨ j = 2) with rfl | rfl | rfl
          · have hs := hr.set (k := k) (by simp; exact hkk) (rotB c)
            rw [List.set_set] at hs
            have HB := Lib.hid hr
            clear hr
            go_wp2
            go_roundw
            case rel => exact ⟨1, by omega, by go_num, by rw [HST.out.2.1]; exact hs, hb.setCell (Nat.le_refl _) _⟩
            case measure => simp [intOf]
          · have HB := Lib.hid hr
            clear hr
            go_wp2
            go_roundw
            case rel => exact ⟨2, by omega, by go_num, by have h := HB.out; rw [HST.out.2.1] at h; rw [HST.out.2.2]; exact h, hb⟩
            case measure => simp [intOf]
          · rw [HST.out.2.2, HS.out] at hr
            have HB := Lib.hid hr
            clear hr
            go_wp2
            go_roundw
            case rel => exact ⟨k + 1, by omega, by go_num, HB.out, hb⟩
            case measure => simp [intOf]; omega
      · have f1 : decide ((97 : Int) ≤ (c.toNat : Int)) = true := by simp <;> omega
        have f2 : decide ((c.toNat : Int) < 123) = false := by simp <;> omega
        have f3 : decide ((65 : Int) ≤ (c.toNat : Int)) = true := by simp <;> omega
        have f4 : decide ((c.toNat : Int) < 91) = false := by simp <;> omega
        have hrc : rotB c = c := rot_not (by omega) (by omega)
        rw [hrc] at hset
        have HS := Lib.hid hset
        have HM := Lib.hid hsame
        have HC := Lib.hid hcc
        clear hset hsame hcc hrc
        obtain ⟨st, hst⟩ : ∃ st : Nat → UInt8, st = fun _ => c := ⟨_, rfl⟩
        have s0 : st 0 = c := by rw [hst]
        have s1 : st 1 = c := by rw [hst]
        have s2 : st 2 = c := by rw [hst]
        have HST := Lib.hid (And.intro s0 (And.intro s1 s2))
        clear hst s0 s1 s2
        go_wp2
        go_loopw [18] (fun v18 wr => RotR w l k w.heap.size st v18 wr) (fun v18 _ => 2 - (intOf v18).toNat)
        case atStart => exact ⟨0, by omega, rfl, by rw [HST.out.1, HM.out]; exact hr, hb⟩
        case round =>
          clear hr hb
          obtain ⟨j, hj, rfl, hr, hb⟩ := hrel
          have hcs := hr.cell (j := k) (by simp; exact hkk)
          have hfs := hr.free (j := k) (by simp; exact hkk)
          rw [List.getElem_set_self] at hcs
          rcases (by omega : j = 0 ∨ j = 1 ∨ j = 2) with rfl | rfl | rfl
          · have HB := Lib.hid hr
            clear hr
            go_wp2
            go_roundw
            case rel => exact ⟨1, by omega, by go_num, by have h := HB.out; rw [HST.out.1] at h; rw [HST.out.2.1]; exact h, hb⟩
            case measure => simp [intOf]
          · have HB := Lib.hid hr
            clear hr
            go_wp2
            go_roundw
            case rel => exact ⟨2, by omega, by go_num, by have h := HB.out; rw [HST.out.2.1] at h; rw [HST.out.2.2]; exact h, hb⟩
            case measure => simp [intOf]
          · rw [HST.out.2.2, HS.out] at hr
            have HB := Lib.hid hr
            clear hr
            go_wp2
            go_roundw
            case rel => exact ⟨k + 1, by omega, by go_num, HB.out, hb⟩
            case measure => simp [intOf]; omega
    · have hk' : k = l.length := by omega
      subst hk'
      rw [upto_all] at hr
      have hcv := run_back (P := Tryd.prog) 22 9 5 Tryd.underlying22 Tryd.underlying5 Tryd.underlying9 (cap := cap) (n := l.length) hr (by simp)
      clear hlen hR hB hsz
      go_wp2
      go_ret
      exact ⟨rfl, hb⟩
end Go.Proofs.YtafohdmhjilleaaDoor
