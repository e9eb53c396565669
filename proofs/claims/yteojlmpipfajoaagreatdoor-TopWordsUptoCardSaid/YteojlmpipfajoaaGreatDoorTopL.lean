/- TopPairs: 'small9', 'list.Length', 'list.Canonical', 'list.IsCanonical', 'parse.Quoted'. -/
import Derived.Test.YteojlmpipfajoaaGreatDoorMergeR
import Derived.Test.YteojlmpipfajoaaGreatDoorBook15
import Derived.Test.YteojlmpipfajoaaGreatDoorShelf
import Derived.Deep.LoopGhost
import Derived.IntWalk
namespace Go.Proofs.YteojlmpipfajoaaGreatDoor
set_option linter.unusedVariables false
set_option linter.unusedSimpArgs false
open Go.RowKit

theorem small9_any (ss : List Bs) (v : Value) (w : World) (hno : longS ss ≤ 9223372036854775807) (ht : TxtRow w v ss) :
    Calls Tryz.prog 4 #[v] w fun e w' => e = .returned (.bool (decide (longS ss ≤ 600))) ∧ w = w' := by
  obtain ⟨o, c, rfl, _⟩ := id ht
  obtain ⟨_, h1, h2, h3⟩ := ht.at_
  have HT := Lib.hid h3
  have HNO := Lib.hid hno
  unfold maxLen at h2
  clear ht hno h3
  go_enter Tryz.func4, Tryz.ntmps4
  go_wp2
  go_loop [3, 8] (fun a i => ∃ k : Nat, k ≤ ss.length ∧ i = .int .i64 k ∧ a = .int .i64 (longS (ss.take k))) (fun a i => ss.length - (intOf i).toNat)
  case atStart => exact ⟨0, Nat.zero_le _, rfl, rfl⟩
  case round =>
    obtain ⟨k, hk, rfl, rfl⟩ := hrel
    by_cases hlt : k < ss.length
    · obtain ⟨b, off, rfl, hbb, hc⟩ := HT.out k hlt
      have e1 := longS_take hlt
      have e2 := longS_le ss (k + 1)
      have e3 := HNO.out
      have hS : Hid (longS (ss.take (k + 1)) = longS (ss.take k) + ss[k].length + 1) := e1
      have b1 : longS (ss.take k) + (ss[k].length + 1) ≤ 9223372036854775807 := by omega
      clear e1 e2 e3
      generalize longS (ss.take k) = m at *
      go_wp2
      go_round
      case rel => exact ⟨k + 1, by omega, by go_num, by rw [hS.out]; go_num⟩
      case measure => simp [intOf]; omega
    · obtain rfl : k = ss.length := by omega
      rw [List.take_length]
      have e3 := HNO.out
      go_wp2
      go_ret
      exact ⟨by simp; omega, rfl⟩
theorem Length_any (s : Bs) (hs : s.length ≤ 1000000) (l : List Bs) (hl : splitL s = some l) (h1 : l.length ≤ 10000) (w : World) :
    Calls Tryz.prog 16 #[.string ⟨s.toArray⟩] w fun e w' => e = .returned (.tuple #[.int .i64 (l.length : Int), .int .i64 0]) ∧ Below w.heap.size w w' := by
  have SP : Hid (Calls Tryz.prog 35 #[.string ⟨s.toArray⟩] w fun e w' => Below w.heap.size w w' ∧ ∃ o c, e = .returned (.tuple #[.slice o l.length c, .int .i64 0, .int .i64 0])) := (Split_any s hs w).mono fun e w' ⟨hB, h⟩ => by
    refine ⟨hB, ?_⟩
    rcases h with ⟨h, _⟩ | ⟨l', h, h2, _⟩ | ⟨l', h, h2, v, he, ho⟩
    · rw [hl] at h; cases h
    · rw [hl] at h; cases h; omega
    · rw [hl] at h; cases h
      obtain ⟨o, c, rfl⟩ := owns_slice ho
      exact ⟨o, c, he⟩
  generalize l.length = n at *
  clear hl
  go_enter Tryz.func16, Tryz.ntmps16
  go_wp2_with (go_at_call 35; refine SP.out.mono ?_; rintro e w1 ⟨hB, o, c, rfl⟩; have H1 := Lib.hid hB; clear hB)
  go_ret2
  exact ⟨rfl, H1.out⟩
theorem join_quotes : ∀ ss : List Bs, Lib.join (ss.map quote) [32] = joinL ss
  | [] => rfl
  | [x] => by simp [Lib.join_one, joinL]
  | x :: y :: r => by
    have h := join_quotes (y :: r)
    rw [List.map_cons, Lib.join_cons] at h
    rw [List.map_cons, List.map_cons, Lib.join_cons, joinL]
    · rw [← h]
      simp [Lib.joinTail]
    · simp
theorem Quoted_any (ss : List Bs) (v : Value) (w : World) (hM : MaxIs w) (ht : TxtRow w v ss) (hl : ss.length ≤ 10000) (hx : ∀ x ∈ ss, x.length ≤ 1000000) (hj : (joinL ss).length ≤ 140737488355328) :
    Calls Tryz.prog 8 #[v] w fun e w' => e = .returned (.string ⟨(joinL ss).toArray⟩) ∧ Below w.heap.size w w' := by
  obtain ⟨o, c, rfl⟩ := ht.len
  have TR : Hid (∀ W, Below w.heap.size w W → TxtRow W (.slice o ss.length c) ss) := fun W h => ht.below h
  have QU : Hid (∀ (k : Nat) (h : k < ss.length) W, Below w.heap.size w W → Calls Tryz.prog 20 #[.string ⟨ss[k].toArray⟩] W fun e w' => e = .returned (.string ⟨(quote ss[k]).toArray⟩) ∧ Below W.heap.size W w') := fun k h W hB => Quote_any ss[k] (hx _ (List.getElem_mem h)) W (hM.below hB hM.pos)
  have JO : Hid (∀ W (ao : Option Addr) (cap : Nat), W.ownsRow w.heap.size 9 1 (.slice ao ss.length cap) ss.length ((ss.map quote).map sv) → Calls Tryz.prog 27 #[.slice ao ss.length cap, .string ⟨#[32]⟩] W fun e w' => e = .returned (.string ⟨(joinL ss).toArray⟩) ∧ Below W.heap.size W w') := fun W ao cap ho => by
    have hTR : TxtRow W (.slice ao ss.length cap) (ss.map quote) := by
      have := TxtRow.of_owns (ss := ss.map quote) (v := .slice ao ss.length cap) (base := w.heap.size) (w := W) (by simpa using ho)
      exact this
    obtain ⟨o', c', e, hcc, hcm, hcell⟩ := hTR
    rw [List.length_map] at e
    cases e
    rcases Nat.eq_zero_or_pos ss.length with h0 | h0
    · have hss : ss = [] := List.eq_nil_of_length_eq_zero h0
      subst hss
      exact (Tryz.strings_Join_none ao cap ⟨#[32]⟩ W).mono fun e w' ⟨h1, h2⟩ => ⟨h1, h2 ▸ Below.refl _ _⟩
    · obtain ⟨b, off, rfl, hb, _⟩ := hcell 0 (by simpa using h0)
      have hq : ((ss.map fun x => (⟨(quote x).toArray⟩ : ByteArray)).map (·.data.toList)) = ss.map quote := by rw [List.map_map]; exact List.map_congr_left fun x _ => by simp
      have h := Tryz.strings_Join b off cap (ss.map fun x => ⟨(quote x).toArray⟩) ⟨#[32]⟩ W (fun j x hj => by
        have hjl : j < ss.length := by
          rcases Nat.lt_or_ge j ss.length with h | h
          · exact h
          · rw [List.getElem?_eq_none (by simpa using h)] at hj; cases hj
        obtain ⟨b', off', e, _, hc⟩ := hcell j (by simpa using hjl)
        cases e
        rw [hc]
        rw [List.getElem?_map, List.getElem?_eq_getElem hjl] at hj
        cases hj
        simp [sv]) hb (by simp; omega) (by simpa using hcc) (by rw [hq]; show (Lib.join (ss.map quote) [32]).length ≤ _; rw [join_quotes]; exact hj)
      rw [hq] at h
      rw [List.length_map] at h
      have h2 : Lib.join (ss.map quote) (⟨#[32]⟩ : ByteArray).data.toList = joinL ss := join_quotes ss
      rw [h2] at h
      exact h
  have HL := Lib.hid (And.intro hl ht)
  obtain ⟨n, hn⟩ : ∃ n, ss.length = n := ⟨_, rfl⟩
  have HN := Lib.hid hn
  rw [hn] at TR JO hl ⊢
  clear ht hM hx hj hn
  go_enter Tryz.func8, Tryz.ntmps8
  go_wp2_with fail
  go_loopg [3, 8] n (fun g out i wr => ∃ (k : Nat) (ao : Option Addr) (cap : Nat), k + g = n ∧ i = .int .i64 (k : Int) ∧ out = .slice ao k cap ∧ Hid (wr.ownsRow w.heap.size 9 1 (.slice ao k cap) k (((ss.take k).map quote).map sv)) ∧ Below w.heap.size w wr)
  case atStart => exact ⟨0, none, 0, by omega, rfl, rfl, World.ownsRow_nil _ _ _ _, Below.refl _ _⟩
  case round =>
    obtain ⟨k, ao, cap, hkg, rfl, rfl, HO, hb⟩ := hrel
    have HB := Lib.hid hb
    by_cases hlt : k < n
    · have hn := HN.out
      obtain ⟨z1, hc0, hcm0, h0⟩ := (TR.out _ hb).at_
      obtain ⟨g0, f0, rfl, hl0, hc⟩ := h0 k (by omega)
      have QU2 := Lib.hid (QU.out k (by omega) wr hb)
      have HS : Hid (((ss.take (k + 1)).map quote).map sv = ((ss.take k).map quote).map sv ++ [sv (quote (ss[k]'(by omega)))]) := by
        show _ = _
        rw [List.take_succ_eq_append_getElem (by omega), List.map_append, List.map_append]; rfl
      generalize ss[k]'(by omega) = s at *
      have hcx : wr.cell? ⟨g0, f0 + k, none⟩ = some (.string ⟨s.toArray⟩) := hc
      have HKG := Lib.hid hkg
      clear z1 hc0 hcm0 h0 hc hb hkg hn
      go_wp2_with (first | (go_at_call 20; refine QU2.out.mono ?_; rintro e w1 ⟨rfl, hB1⟩; have H1 := Lib.hid (And.intro hB1 (And.intro (HB.out.trans (hB1.mono HB.out.size)) (ownsRow_kp HO.out (kp_of_below hB1) (by simp)))); clear hB1) | (at_builtin; go_loud (refine wpList_push rfl (.tmp 12) (.tmp 15) 22 rfl w.heap.size 9 (.string ⟨#[]⟩) 16 Tryz.underlying22 infoStr rfl (.slice ao k cap) k _ rfl H1.out.2.2 (.string ⟨(quote s).toArray⟩) _ rfl rfl (by unfold maxLen; omega) (by omega) H1.out.2.1.size ?_); intro g1 c1 w3 hg1 hown3 hb3 _; have H3 := Lib.hid (And.intro hown3 hb3); clear hg1 hown3 hb3))
      go_roundg (gk - 1)
      case measure => have := HKG.out; omega
      case rel =>
        have := HKG.out
        refine ⟨k + 1, _, _, by omega, by go_num, rfl, ?_, H1.out.2.1.trans H3.out.2⟩
        show World.ownsRow _ _ _ _ _ _ _
        rw [HS.out]
        exact H3.out.1
    · obtain rfl : k = n := by omega
      have hO2 := HO.out
      rw [List.take_of_length_le (by have := HN.out; omega)] at hO2
      have JO2 := Lib.hid (JO.out _ _ _ hO2)
      have t0 : decide ((k : Int) < (k : Int)) = false := by rw [decide_eq_false_iff_not]; omega
      clear hkg hlt hb hO2
      go_wp2_with (go_at_call 27; refine JO2.out.mono ?_; rintro e w2 ⟨rfl, hB2⟩; have H2 := Lib.hid (HB.out.trans (hB2.mono HB.out.size)); clear hB2)
      go_ret
      exact ⟨rfl, H2.out⟩
end Go.Proofs.YteojlmpipfajoaaGreatDoor
