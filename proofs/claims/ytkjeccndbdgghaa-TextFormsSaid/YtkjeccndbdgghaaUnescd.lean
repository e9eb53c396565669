/- 'Unescaped' of both packages. -/
import Derived.Test.YtkjeccndbdgghaaUnesc3
import Derived.Test.YtkjeccndbdgghaaBuilder
import Derived.Test.YtkjeccndbdgghaaRepeat
import Derived.Deep.LoopGhost
namespace Go.Proofs.Ytkjeccndbdgghaa
open Go.RowKit

set_option maxRecDepth 100000 in
set_option maxHeartbeats 1600000 in
theorem Unescaped_any (s : Bs) (hs : s.length ≤ 1000000) (w : World) :
    Calls Try.prog 29 #[.string ⟨s.toArray⟩] w fun e w' => e = .returned (.string ⟨(unescAll s).toArray⟩) ∧ Below w.heap.size w w' := by
  go_enter Try.func29, Try.ntmps29
  go_wp2_with fail
  go_loopg [0, 4, 5] s.length (fun g v _ _ wr => ∃ (i : Nat) (t acc : Bs), i + g = s.length ∧ t = s.drop i ∧ v = .string ⟨t.toArray⟩ ∧ IsB w.heap.size w.heap.size (Lib.byteCells acc) wr ∧ Below w.heap.size w wr ∧ Hid (acc ++ unescAll t = unescAll s) ∧ acc.length ≤ i)
  case atStart => exact ⟨0, s, [], by omega, rfl, rfl, IsB.new w, (Below.refl _ _).alloc (Nat.le_refl _) _, by simp [Hid], by simp⟩
  case round =>
    obtain ⟨i, t, acc, hig, ht, rfl, hB, hb, HI, hacc⟩ := hrel
    have htl : t.length = s.length - i := by rw [ht]; simp
    have HT := Lib.hid ht
    clear ht
    by_cases hne : t = []
    · have hres : unescAll s = acc := by rw [← HI.out, hne]; simp [unescAll_nil]
      have Hres := Lib.hid hres
      subst hne
      clear hres HI HT
      go_wp2_with (first | (go_at_call 53; refine (Try.Builder_String_any_f _ _ _ _ hB hb.size).mono ?_; rintro e w2 ⟨rfl, hB2, hb2⟩))
      go_ret
      exact ⟨by rw [Hres.out]; rfl, hb.trans hb2⟩
    · have hl : 0 < t.length := List.length_pos_iff.2 hne
      have hl1 : 1 ≤ t.length := hl
      have hlI : (1 : Int) ≤ (t.length : Int) := by omega
      have he : t.isEmpty = false := by cases t with | nil => exact absurd rfl hne | cons _ _ => rfl
      have HU := Lib.hid (fun W => Unescape_any t (by omega) W)
      have hul := unesc_len t
      have HZ : Hid ((unesc t).2 = 0 → acc ++ t.take 1 ++ unescAll (t.drop 1) = unescAll s) := fun h => by rw [← HI.out, unescAll_zero hne h, List.append_assoc]
      have HS : Hid ((unesc t).2 ≠ 0 → acc ++ (unesc t).1 ++ unescAll (t.drop (unesc t).2) = unescAll s) := fun h => by rw [← HI.out, unescAll_some hne h, List.append_assoc]
      generalize unesc t = q at *
      obtain ⟨qc, qn⟩ := q
      simp only at HU hul HZ HS
      obtain ⟨hu1, hu2, hu3⟩ := hul
      clear HI hne
      by_cases hz : qn = 0
      · subst hz
        have HA := Lib.hid (HZ.out rfl)
        clear HZ HS hu1 hu2 hu3
        go_wp2_with (first | (go_at_call 15; refine (HU.out _).mono ?_; rintro e w2 ⟨rfl, hbx⟩) | (go_at_call 50; refine (WriteString_any _ _ _ _ _ (hB.below hbx) (by rw [byteCells_len]; simp [ByteArray.size]; omega) (hb.trans (hbx.mono hb.size)).size).mono ?_; rintro e w4 ⟨rfl, hB5, hb5, hk5⟩))
        go_roundg (gk - 1)
        case measure => omega
        case rel =>
          refine ⟨i + 1, t.drop 1, acc ++ t.take 1, by omega, by rw [HT.out, List.drop_drop], by first | (simp; done) | (simp; rw [List.take_of_length_le (by simp; omega)]), .inr ?_, (hb.trans (hbx.mono hb.size)).trans hb5, HA, by simp; omega⟩
          rw [show Lib.byteCells (acc ++ t.take 1) = Lib.byteCells acc ++ Lib.strCells ⟨(t.take 1).toArray⟩ from by simp [Lib.byteCells, Lib.strCells]]; exact hB5
      · have HA := Lib.hid (HS.out hz)
        have t1 : ((qn : Int) == 0) = false := by rw [beq_eq_false_iff_ne]; omega
        have e1 : (qn : Int) ≤ (t.length : Int) := by omega
        clear HZ HS
        go_wp2_with (first | (go_at_call 15; refine (HU.out _).mono ?_; rintro e w2 ⟨rfl, hbx⟩) | (go_at_call 50; refine (WriteString_any _ _ _ _ _ (hB.below hbx) (by rw [byteCells_len]; simp [ByteArray.size]; omega) (hb.trans (hbx.mono hb.size)).size).mono ?_; rintro e w4 ⟨rfl, hB5, hb5, hk5⟩))
        go_roundg (gk - qn)
        case measure => omega
        case rel =>
          refine ⟨i + qn, t.drop qn, acc ++ qc, by omega, by rw [HT.out, List.drop_drop], by first | (simp; done) | (simp; rw [List.take_of_length_le (by simp; omega)]), .inr ?_, (hb.trans (hbx.mono hb.size)).trans hb5, HA, by simp; omega⟩
          rw [show Lib.byteCells (acc ++ qc) = Lib.byteCells acc ++ Lib.strCells ⟨qc.toArray⟩ from by simp [Lib.byteCells, Lib.strCells]]; exact hB5

attribute [local go_sem] ba_append in
set_option maxRecDepth 100000 in
set_option maxHeartbeats 1600000 in
theorem rUnescaped_any (s : Bs) (hs : s.length ≤ 1000000) (w : World) :
    Calls Try.prog 30 #[.string ⟨s.toArray⟩] w fun e w' => e = .returned (.string ⟨(unescAll s).toArray⟩) ∧ Below w.heap.size w w' := by
  go_enter Try.func30, Try.ntmps30
  go_wp2_with fail
  go_loopg [0, 3, 4, 5] s.length (fun g v o _ _ wr => ∃ (i : Nat) (t acc : Bs), i + g = s.length ∧ t = s.drop i ∧ v = .string ⟨t.toArray⟩ ∧ o = .string ⟨acc.toArray⟩ ∧ Below w.heap.size w wr ∧ Hid (acc ++ unescAll t = unescAll s) ∧ acc.length ≤ i)
  case atStart => exact ⟨0, s, [], by omega, rfl, rfl, rfl, Below.refl _ _, by simp [Hid], by simp⟩
  case round =>
    obtain ⟨i, t, acc, hig, ht, rfl, rfl, hb, HI, hacc⟩ := hrel
    have htl : t.length = s.length - i := by rw [ht]; simp
    have HT := Lib.hid ht
    clear ht
    by_cases hne : t = []
    · have hres : unescAll s = acc := by rw [← HI.out, hne]; simp [unescAll_nil]
      have Hres := Lib.hid hres
      subst hne
      clear hres HI HT
      go_wp2_with fail
      go_ret
      exact ⟨by rw [Hres.out]; rfl, hb⟩
    · have hl : 0 < t.length := List.length_pos_iff.2 hne
      have hl1 : 1 ≤ t.length := hl
      have hlI : (1 : Int) ≤ (t.length : Int) := by omega
      have he : t.isEmpty = false := by cases t with | nil => exact absurd rfl hne | cons _ _ => rfl
      have HU := Lib.hid (fun W => rUnescape_any t (by omega) W)
      have hul := unesc_len t
      have HZ : Hid ((unesc t).2 = 0 → acc ++ t.take 1 ++ unescAll (t.drop 1) = unescAll s) := fun h => by rw [← HI.out, unescAll_zero hne h, List.append_assoc]
      have HS : Hid ((unesc t).2 ≠ 0 → acc ++ (unesc t).1 ++ unescAll (t.drop (unesc t).2) = unescAll s) := fun h => by rw [← HI.out, unescAll_some hne h, List.append_assoc]
      generalize unesc t = q at *
      obtain ⟨qc, qn⟩ := q
      simp only at HU hul HZ HS
      obtain ⟨hu1, hu2, hu3⟩ := hul
      clear HI hne
      by_cases hz : qn = 0
      · subst hz
        have HA := Lib.hid (HZ.out rfl)
        have hcat : ¬ ((9223372036854775807 : Int) < (acc.length : Int) + ((t.take 1).length : Int)) := by simp; omega
        clear HZ HS hu1 hu2 hu3
        go_wp2_with (first | (go_at_call 16; refine (HU.out _).mono ?_; rintro e w2 ⟨rfl, hbx⟩))
        go_roundg (gk - 1)
        case measure => omega
        case rel => exact ⟨i + 1, t.drop 1, acc ++ t.take 1, by omega, by rw [HT.out, List.drop_drop], by first | (simp; done) | (simp; rw [List.take_of_length_le (by simp; omega)]), rfl, hb.trans (hbx.mono hb.size), HA, by simp; omega⟩
      · have HA := Lib.hid (HS.out hz)
        have t1 : ((qn : Int) == 0) = false := by rw [beq_eq_false_iff_ne]; omega
        have e1 : (qn : Int) ≤ (t.length : Int) := by omega
        clear HZ HS
        go_wp2_with (first | (go_at_call 16; refine (HU.out _).mono ?_; rintro e w2 ⟨rfl, hbx⟩))
        go_roundg (gk - qn)
        case measure => omega
        case rel => exact ⟨i + qn, t.drop qn, acc ++ qc, by omega, by rw [HT.out, List.drop_drop], by first | (simp; done) | (simp; rw [List.take_of_length_le (by simp; omega)]), rfl, hb.trans (hbx.mono hb.size), HA, by simp; omega⟩
end Go.Proofs.Ytkjeccndbdgghaa
