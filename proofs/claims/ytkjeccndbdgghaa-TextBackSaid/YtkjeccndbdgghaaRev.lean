/- 'Reverse' of both packages. -/
import Derived.Test.YtkjeccndbdgghaaRef1
import Derived.Laws.OwnMore
namespace Go.Proofs.Ytkjeccndbdgghaa
open Go.RowKit

def zerosObj (n : Nat) : Obj := .cells (madeCells #[.int .u8 0] n) 5
theorem brow_zeros (w : World) (n : Nat) : BRow (w.alloc (zerosObj n)) w.heap.size (List.replicate n 0) := by
  intro j hj
  rw [List.length_replicate] at hj
  have hb := heap_alloc_new w (zerosObj n)
  generalize w.alloc (zerosObj n) = W at hb ⊢
  constructor
  · simp only [World.cell?, hb, zerosObj]
    simp [madeCells, hj, Nat.mod_one]
  · simp only [World.frozen?, hb, zerosObj]
    simp
theorem run_zeros (n : Nat) (hn : n ≤ 2000000) (u : World) : (Instr.makeSlice 50 (.int .i64 (n : Int)) (.int .i64 (n : Int))).run Try.prog u = .ok (.slice (some ⟨u.heap.size, 0, none⟩) n n) (u.alloc (zerosObj n)) := by
  obtain ⟨i0, h1, h2, h3, h4⟩ := info_parts Try.infoU8
  have := run_makeSlice (P := Try.prog) u 50 5 i0 (.int .u8 0) Try.underlying50 h1 h2 .i64 .i64 n n (by omega) (Int.le_refl _) (by rw [h3]; omega) (by rw [h4]; omega) (by omega)
  rw [h3, Int.toNat_natCast, Nat.mul_one] at this
  exact this

/-- The row of 'Reverse' when the first k are laid. -/
def revRow (s : Bs) (k : Nat) : Bs := s.reverse.take k ++ List.replicate (s.length - k) 0
theorem revRow_len (s : Bs) (k : Nat) (h : k ≤ s.length) : (revRow s k).length = s.length := by simp [revRow]; omega
theorem revRow_set (s : Bs) (k : Nat) (h : k < s.length) : (revRow s k).set k s[s.length - 1 - k] = revRow s (k + 1) := by
  have hl : (s.reverse.take k).length = k := by simp; omega
  rw [revRow, List.set_append_right _ _ (by omega), hl, Nat.sub_self, revRow, show s.length - k = (s.length - (k + 1)) + 1 from by omega, List.replicate_succ, List.set_cons_zero, List.take_succ_eq_append_getElem (show k < s.reverse.length by simpa using h), List.append_assoc, List.getElem_reverse]
  rfl
theorem revRow_all (s : Bs) : revRow s s.length = s.reverse := by
  rw [revRow, Nat.sub_self, List.take_of_length_le (by simp)]; simp

set_option maxHeartbeats 800000 in
theorem Reverse_any (s : Bs) (hs : s.length ≤ 1000000) (w : World) :
    Calls Try.prog 17 #[.string ⟨s.toArray⟩] w fun e w' => e = .returned (.string ⟨s.reverse.toArray⟩) ∧ Below w.heap.size w w' := by
  have hmk := fun u => run_zeros s.length (by omega) u
  go_enter Try.func17, Try.ntmps17
  go_wp2_with fail
  have hR0 : BRow (w.alloc (zerosObj s.length)) w.heap.size (revRow s 0) := by
    have h := brow_zeros w s.length
    simpa [revRow] using h
  have hB0 : Below w.heap.size w (w.alloc (zerosObj s.length)) := (Below.refl _ _).alloc (Nat.le_refl _) _
  clear hmk
  go_loopw [10] (fun v10 wr => ∃ k : Nat, k ≤ s.length ∧ v10 = .int .i64 k ∧ BRow wr w.heap.size (revRow s k) ∧ Below w.heap.size w wr) (fun v10 _ => s.length - (intOf v10).toNat)
  case atStart => exact ⟨0, Nat.zero_le _, rfl, hR0, hB0⟩
  case round =>
    obtain ⟨k, hk, rfl, hr, hb⟩ := hrel
    clear hR0 hB0
    have hlen := revRow_len s k hk
    by_cases hlt : k < s.length
    · have hkk : k < (revRow s k).length := by omega
      obtain ⟨cv, hc⟩ : ∃ cv, wr.cell? ⟨w.heap.size, k, none⟩ = some cv := ⟨_, hr.cell hkk⟩
      have hf := hr.free hkk
      have e2 : s.length - 1 - k < s.length := by omega
      have hst : BRow (wr.setCell ⟨w.heap.size, k, none⟩ (.int .u8 ((s[s.length - 1 - k]'e2).toNat))) w.heap.size (revRow s (k + 1)) := by
        have h := hr.set hkk (s[s.length - 1 - k]'e2)
        rwa [revRow_set s k hlt] at h
      have e1 : ((s.length : Int) - 1 - k).toNat = s.length - 1 - k := by omega
      have e3 : (0 : Int) ≤ (s.length : Int) - 1 - k := by omega
      clear hlen hkk hr
      go_wp2_with fail
      go_roundw
      case rel => exact ⟨k + 1, by omega, by go_num, hst, hb.setCell (Nat.le_refl _) _⟩
      case measure => simp [intOf]; omega
    · obtain rfl : k = s.length := by omega
      rw [revRow_all] at hr
      have hcv := run_back (P := Try.prog) 50 9 5 Try.underlying50 Try.underlying5 Try.underlying9 (cap := s.length) (n := s.length) hr (by simp)
      clear hlen
      go_wp2
      go_ret
      exact ⟨rfl, hb⟩

set_option maxHeartbeats 400000 in
theorem rReverse_any (l : Bs) (hl : l.length ≤ 1000000) (w : World) :
    Calls Try.prog 18 #[.string ⟨l.toArray⟩] w fun e w' => e = .returned (.string ⟨l.reverse.toArray⟩) ∧ Below w.heap.size w w' := by
  go_enter Try.func18, Try.ntmps18
  go_wp2
  go_loopw [3, 4] (fun v i wr => ∃ k : Nat, k ≤ l.length ∧ i = .int .i64 ((l.length : Int) - 1 - k) ∧ wr.ownsRow w.heap.size 5 1 v k (Lib.byteCells (l.reverse.take k)) ∧ Below w.heap.size w wr) (fun _ i wr => (intOf i + 1).toNat)
  case atStart => exact ⟨0, Nat.zero_le _, by go_num, World.ownsRow_nil _ _ _ _, Below.refl _ _⟩
  case round =>
    obtain ⟨k, hk, rfl, hown, hb⟩ := hrel
    by_cases hlt : k < l.length
    · have e1 : ((l.length : Int) - 1 - k).toNat = l.length - 1 - k := by omega
      have e2 : l.length - 1 - k < l.length := by omega
      have e3 : (0 : Int) ≤ (l.length : Int) - 1 - k := by omega
      have h255 := byte_lt l[l.length - 1 - k]
      have hT : Hid (l.reverse.take (k + 1) = l.reverse.take k ++ [l[l.length - 1 - k]]) := by
        show _ = _
        rw [List.take_succ_eq_append_getElem (show k < l.reverse.length by simpa using hlt), List.getElem_reverse]
      go_wp2_with (first
        | (at_builtin; refine wpList_push rfl _ _ 50 rfl w.heap.size 5 (.int .u8 0) 1 Try.underlying50 Try.infoU8 rfl _ k _ rfl hown (.int .u8 (l[l.length - 1 - k].toNat)) _ rfl rfl (by unfold maxLen; omega) (by omega) hb.size ?_; intro g cap w1 hg hown1 hb1 _))
      go_roundw
      case rel =>
        refine ⟨k + 1, by omega, by go_num, ?_, hb.trans hb1⟩
        rw [byteCells_snoc] at hown1
        rw [hT.out]
        exact hown1
      case measure => simp [intOf]; omega
    · have hk' : k = l.length := by omega
      subst hk'
      rw [List.take_of_length_le (show l.reverse.length ≤ l.length by simp)] at hown
      have hcv := run_back_own (P := Try.prog) 50 9 5 Try.underlying50 Try.underlying5 Try.underlying9 (l := l.reverse) (by simpa using hown)
      have e9 : ((l.length : Int) - 1 - l.length) = -1 := by omega
      rw [e9]
      clear hown
      go_wp2
      go_ret
      exact ⟨rfl, hb⟩
end Go.Proofs.Ytkjeccndbdgghaa
