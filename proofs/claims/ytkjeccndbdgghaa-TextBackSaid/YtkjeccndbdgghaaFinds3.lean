/- First, Last and Count of package text; Compare and Count of the reference. -/
import Derived.Test.YtkjeccndbdgghaaFinds2
import Derived.Lib.CountLaws
import Derived.Lib.SplitLaws
namespace Go.Proofs.Ytkjeccndbdgghaa
open Go.RowKit

set_option maxRecDepth 20000 in
set_option maxHeartbeats 800000 in
theorem First_any (n s : Bs) (fr m : Int) (hn : n.length ≤ 1000000) (hs : s.length ≤ 1000000) (w : World) (hm : w.cell? ⟨0, 0, none⟩ = some (.int .i64 m)) :
    Calls Try.prog 41 #[.string ⟨n.toArray⟩, .string ⟨s.toArray⟩, .int .i64 fr] w fun e w' => e = .returned (.int .i64 (firstI n s fr)) ∧ w = w' := by
  by_cases hne : n = []
  · subst hne
    rw [firstI_empty]
    go_enter Try.func41, Try.ntmps41
    go_wp2_with fail
    go_ret
    exact ⟨rfl, rfl⟩
  · have he : n.isEmpty = false := by cases n with | nil => exact absurd rfl hne | cons _ _ => rfl
    by_cases hl : (s.length : Int) < max fr 0
    · rw [first_past hl]
      go_enter Try.func41, Try.ntmps41
      go_wp2_with fail
      go_ret
      exact ⟨rfl, rfl⟩
    · obtain ⟨k, hk⟩ : ∃ k : Nat, max fr 0 = k := ⟨(max fr 0).toNat, by omega⟩
      have hix := (Try.strings_Index ⟨(s.drop k).toArray⟩ ⟨n.toArray⟩ m w (by simp [ByteArray.size]; omega) hm).mono (R' := fun e w' => e = .returned (.int .i64 (Lib.index (s.drop k) n)) ∧ w = w') fun e w' h => ⟨h.1, h.2.symm⟩
      have hfl := first_law (s := s) hne hk
      have hge := Lib.index_ge (s.drop k) n
      have hle := Lib.index_le (s.drop k) n
      have hkl : k ≤ s.length := by omega
      rw [List.length_drop] at hle
      generalize Lib.index (s.drop k) n = r at *
      have HI := Lib.hid hix
      clear hix
      by_cases hr : r = -1
      · rw [if_pos hr] at hfl
        rw [hfl]
        subst hr
        clear hfl
        go_enter Try.func41, Try.ntmps41
        go_wp2_with (go_at_call 72; refine HI.out.mono ?_; rintro e w' ⟨rfl, rfl⟩)
        go_ret
        exact ⟨rfl, rfl⟩
      · rw [if_neg hr] at hfl
        rw [hfl]
        have hr0 : 0 ≤ r := by omega
        have hr1 : (k : Int) + r ≤ 2000000 := by omega
        clear hfl hr
        go_enter Try.func41, Try.ntmps41
        go_wp2_with (go_at_call 72; refine HI.out.mono ?_; rintro e w' ⟨rfl, rfl⟩)
        go_ret
        exact ⟨rfl, rfl⟩

set_option maxRecDepth 20000 in
set_option maxHeartbeats 800000 in
theorem Last_any (n s : Bs) (tt : Int) (hn : n.length ≤ 1000000) (hs : s.length ≤ 1000000) (w : World) :
    Calls Try.prog 43 #[.string ⟨n.toArray⟩, .string ⟨s.toArray⟩, .int .i64 tt] w fun e w' => e = .returned (.int .i64 (lastI n s tt)) ∧ w = w' := by
  by_cases hne : n = []
  · subst hne
    rw [lastI_empty]
    go_enter Try.func43, Try.ntmps43
    go_wp2_with fail
    go_ret
    exact ⟨rfl, rfl⟩
  · have he : n.isEmpty = false := by cases n with | nil => exact absurd rfl hne | cons _ _ => rfl
    by_cases hl : tt < 0
    · rw [last_before hl]
      go_enter Try.func43, Try.ntmps43
      go_wp2_with fail
      go_ret
      exact ⟨rfl, rfl⟩
    · rw [last_law hne (by omega)]
      have hli := fun (z : Bs) (hz : z.length ≤ 1000000) W => (Try.strings_LastIndex ⟨z.toArray⟩ ⟨n.toArray⟩ (by simp [ByteArray.size]; omega) W).mono (R' := fun e w' => e = .returned (.int .i64 (Lib.lastIndex z n)) ∧ W = w') fun e w' h => ⟨h.1, h.2.symm⟩
      obtain ⟨k, rfl⟩ : ∃ k : Nat, tt = k := ⟨tt.toNat, by omega⟩
      rw [Int.toNat_natCast]
      by_cases hc : (k : Int) < (s.length : Int) - n.length
      · rw [if_pos hc]
        have HI := Lib.hid (fun W => hli (s.take (k + n.length)) (by simp; omega) W)
        clear hli
        go_enter Try.func43, Try.ntmps43
        go_wp2_with (go_at_call 74; refine (HI.out _).mono ?_; rintro e w' ⟨rfl, rfl⟩)
        go_ret
        exact ⟨rfl, rfl⟩
      · rw [if_neg hc]
        have HI := Lib.hid (fun W => hli s hs W)
        clear hli
        go_enter Try.func43, Try.ntmps43
        go_wp2_with (go_at_call 74; refine (HI.out _).mono ?_; rintro e w' ⟨rfl, rfl⟩)
        go_ret
        exact ⟨rfl, rfl⟩

set_option maxHeartbeats 800000 in
theorem rCompare_any (a b : Bs) (ha : a.length ≤ 1000000) (w : World) :
    Calls Try.prog 38 #[.string ⟨a.toArray⟩, .string ⟨b.toArray⟩] w fun e w' => e = .returned (.int .i64 (Lib.compareBytes a b)) ∧ w = w' := by
  rw [less_compare]
  cases h1 : Op.bytesLess a b
  · by_cases h2 : a = b
    · rw [if_neg (by simp), if_pos h2]
      have h3 : (a == b) = true := by simpa using h2
      clear h2
      go_enter Try.func38, Try.ntmps38
      go_wp2_with fail
      go_ret
      exact ⟨rfl, rfl⟩
    · rw [if_neg (by simp), if_neg h2]
      have h3 : (a == b) = false := by simpa using h2
      go_enter Try.func38, Try.ntmps38
      go_wp2_with fail
      go_ret
      exact ⟨rfl, rfl⟩
  · rw [if_pos rfl]
    go_enter Try.func38, Try.ntmps38
    go_wp2_with fail
    go_ret
    exact ⟨rfl, rfl⟩
end Go.Proofs.Ytkjeccndbdgghaa
