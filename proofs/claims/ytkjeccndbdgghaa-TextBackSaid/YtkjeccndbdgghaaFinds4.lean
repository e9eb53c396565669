/- Count, both ones. -/
import Derived.Test.YtkjeccndbdgghaaFinds3
namespace Go.Proofs.Ytkjeccndbdgghaa
open Go.RowKit

def countC (n s : Bs) : Nat := if n = [] then 0 else Lib.count s n

set_option maxRecDepth 20000 in
set_option maxHeartbeats 800000 in
theorem Count_any (n s : Bs) (m : Int) (hn : n.length ≤ 1000000) (hs : s.length ≤ 1000000) (w : World) (hm : w.cell? ⟨0, 0, none⟩ = some (.int .i64 m)) :
    Calls Try.prog 45 #[.string ⟨n.toArray⟩, .string ⟨s.toArray⟩] w fun e w' => e = .returned (.int .i64 (countC n s : Nat)) ∧ w = w' := by
  by_cases hne : n = []
  · rw [countC, if_pos hne]
    subst hne
    go_enter Try.func45, Try.ntmps45
    go_wp2_with fail
    go_ret
    exact ⟨rfl, rfl⟩
  · have he : n.isEmpty = false := by cases n with | nil => exact absurd rfl hne | cons _ _ => rfl
    rw [countC, if_neg hne]
    have hc : ∀ W : World, W.cell? ⟨0, 0, none⟩ = some (.int .i64 m) → Calls Try.prog 75 #[.string ⟨s.toArray⟩, .string ⟨n.toArray⟩] W fun e w' => e = .returned (.int .i64 (Lib.count s n : Nat)) ∧ W = w' := by
      intro W hW
      match n, hne with
      | [c], _ =>
        refine (Try.strings_Count_one ⟨s.toArray⟩ c W).mono fun e w' h => ⟨?_, h.2.symm⟩
        rw [h.1, Lib.count_one]; rfl
      | a :: b :: r, _ =>
        refine (Try.strings_Count ⟨s.toArray⟩ ⟨(a :: b :: r).toArray⟩ m W (by simp [ByteArray.size]; omega) hW (by simp [ByteArray.size])).mono fun e w' h => ⟨h.1, h.2.symm⟩
    have HC := Lib.hid (hc w hm)
    clear hc
    go_enter Try.func45, Try.ntmps45
    go_wp2_with (go_at_call 75; refine HC.out.mono ?_; rintro e w' ⟨rfl, rfl⟩)
    go_ret
    exact ⟨rfl, rfl⟩

set_option maxRecDepth 20000 in
set_option maxHeartbeats 800000 in
theorem rCount_any (n s : Bs) (hn : n.length ≤ 1000000) (hs : s.length ≤ 1000000) (w : World) :
    Calls Try.prog 46 #[.string ⟨n.toArray⟩, .string ⟨s.toArray⟩] w fun e w' => e = .returned (.int .i64 (countC n s : Nat)) ∧ w = w' := by
  have HF := Lib.hid (fun (p : Int) W => rFirst_any n s p hn hs W)
  by_cases hne : n = []
  · rw [countC, if_pos hne]
    have h0 := fun (p : Int) => firstI_empty s p
    subst hne
    have HF0 : Hid (∀ (p : Int) W, Calls Try.prog 42 #[.string ⟨([] : Bs).toArray⟩, .string ⟨s.toArray⟩, .int .i64 p] W fun e w' => e = .returned (.int .i64 (-1)) ∧ W = w') := fun p W => by have := HF.out p W; rw [h0] at this; exact this
    clear HF h0
    go_enter Try.func46, Try.ntmps46
    go_wp2_with (go_at_call 42; refine (HF0.out _ _).mono ?_; rintro e w' ⟨rfl, rfl⟩)
    go_loopw [5, 6] (fun v5 v6 wr => v5 = .int .i64 0 ∧ v6 = .int .i64 (-1) ∧ w = wr) (fun _ _ _ => 0)
    case atStart => exact ⟨rfl, rfl, rfl⟩
    case round =>
      obtain ⟨rfl, rfl, rfl⟩ := hrel
      go_wp2_with fail
      go_ret
      exact ⟨rfl, rfl⟩
  · have hn0 : 0 < n.length := by cases n with | nil => exact absurd rfl hne | cons _ _ => simp
    rw [countC, if_neg hne]
    have HL : Hid (∀ p : Nat, firstI n s p = if Lib.index (s.drop p) n = -1 then -1 else p + Lib.index (s.drop p) n) := fun p => first_law hne (by omega)
    go_enter Try.func46, Try.ntmps46
    go_wp2_with (go_at_call 42; refine (HF.out _ _).mono ?_; rintro e w' ⟨rfl, rfl⟩)
    go_loopg [5, 6] (s.length + 1) (fun g v5 v6 wr => ∃ (c p : Nat) (q : Int), v5 = .int .i64 c ∧ v6 = .int .i64 q ∧ w = wr ∧ p ≤ s.length ∧ c ≤ p ∧ p + g = s.length + 1 ∧ Hid (q = firstI n s p) ∧ Hid (Lib.count s n = c + Lib.count (s.drop p) n))
    case atStart => exact ⟨0, 0, _, rfl, rfl, by first | trivial | rfl, Nat.zero_le _, Nat.le_refl _, by omega, rfl, by simp [Hid]⟩
    case round =>
      obtain ⟨c, p, q, rfl, rfl, rfl, hp, hcp, hg, HQ, HC⟩ := hrel
      rcases Lib.index_spec (s.drop p) n with ⟨h1, _⟩ | ⟨i, h1, h2, h3, _⟩
      · have hq : q = -1 := by rw [HQ.out, HL.out, if_pos h1]
        have HE : Hid (Lib.count s n = c) := by show _ = _; rw [HC.out, Lib.count_miss h1]; rfl
        subst hq
        go_wp2_with fail
        go_ret
        exact ⟨by rw [HE.out]; rfl, rfl⟩
      · have hq : q = (p : Int) + i := by rw [HQ.out, HL.out, if_neg (by omega), h1]
        have hroom := Lib.index_room (s.drop p) n (by omega)
        rw [h1, List.length_drop] at hroom
        have HE : Hid (Lib.count s n = (c + 1 : Nat) + Lib.count (s.drop (p + i + n.length)) n) := by
          show _ = _
          rw [HC.out, Lib.count_hit hne h1, List.drop_drop, show p + (i + n.length) = p + i + n.length from by omega]; omega
        subst hq
        clear h1 h2 h3 HQ HC
        have HF1 := Lib.hid (fun W => HF.out ((p + i + n.length : Nat) : Int) W)
        go_wp2_with (go_at_call 42; refine (HF.out _ _).mono ?_; rintro e w' ⟨rfl, rfl⟩)
        go_roundg (s.length + 1 - (p + i + n.length))
        case measure => omega
        case rel => exact ⟨c + 1, p + i + n.length, _, by go_num, rfl, by first | trivial | rfl, by omega, by omega, by omega, by show _ = _; congr 1, HE⟩
end Go.Proofs.Ytkjeccndbdgghaa
