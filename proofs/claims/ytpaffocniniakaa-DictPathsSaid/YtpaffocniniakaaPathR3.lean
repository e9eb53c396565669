/- The reference's set, put, Set. -/
import Derived.Test.YtpaffocniniakaaPathR2
namespace Go.Proofs.Ytpaffocniniakaa
set_option linter.unusedVariables false
set_option linter.unusedSimpArgs false
open Go.RowKit

theorem owns_empty (w : World) {B : Nat} (h : B ≤ w.heap.size) (e : TypeId) : (w.alloc (.cells #[] e)).ownsRow B e 1 (.slice (some ⟨w.heap.size, 0, none⟩) 0 0) 0 [] :=
  ⟨by simp, .inr ⟨w.heap.size, 0, #[], rfl, h, by rw [World.alloc_heap_new], by omega, by unfold maxLen; omega, by simp, by simp⟩⟩
set_option maxRecDepth 100000 in
set_option maxHeartbeats 1600000 in
theorem rset_any (v : Value) (ps : Prs) (k x : Bs) (w : World) (ht : TxtRow w v (flatP ps)) (hl : ps.length ≤ 100000) :
    Calls Try.prog 62 #[v, .string ⟨k.toArray⟩, .string ⟨x.toArray⟩] w fun e w' => ∃ r, e = .returned r ∧ Below w.heap.size w w' ∧ w'.ownsRow w.heap.size 9 1 r (flatP (setP ps k x)).length ((flatP (setP ps k x)).map sv) := by
  obtain ⟨o, c, rfl⟩ := ht.len
  have hfl := flatP_len ps
  obtain ⟨n, hn⟩ : ∃ n, (flatP ps).length = n := ⟨_, rfl⟩
  have HN := Lib.hid (And.intro hn (And.intro hfl hl))
  rw [hn] at ht ⊢
  have hn2 : n ≤ 200000 := by omega
  have HT := Lib.hid ht
  have HA0 : Hid (Below w.heap.size w (w.alloc (.cells #[] 9)) ∧ (w.alloc (.cells #[] 9)).ownsRow w.heap.size 9 1 (.slice (some ⟨w.heap.size, 0, none⟩) 0 0) 0 []) := ⟨(Below.refl _ _).alloc (Nat.le_refl _) _, owns_empty w (Nat.le_refl _) _⟩
  clear hn hfl hl ht
  go_enter Try.func62, Try.ntmps62
  go_wp2_with (at_builtin; go_loud (refine wpList_pushRow rfl (.tmp 9) (.tmp 10) 29 rfl w.heap.size 9 (.string ⟨#[]⟩) 16 Try.underlying29 infoStr rfl (.slice (some ⟨w.heap.size, 0, none⟩) 0 0) 0 [] rfl HA0.out.2 o n c (flatP ps) rfl (HT.out.below HA0.out.1) (by unfold maxLen; omega) (by omega) (by simp) ?_); intro v1 w1 hown1 hB1; have H1 := Lib.hid (And.intro hown1 (HA0.out.1.trans (hB1.mono (by simp)))); clear hown1 hB1)
  have hown : w1.ownsRow w.heap.size 9 1 v1 n ((flatP ps).map sv) := by simpa using H1.out.1
  obtain ⟨ao, cap, rfl⟩ := owns_slice hown
  have HO := Lib.hid hown
  clear hown
  go_loopg [8] ps.length (fun g v wr => ∃ (j : Nat), j + g = ps.length ∧ v = .int .i64 ((2 * j : Nat) : Int) ∧ wr = w1 ∧ Hid (findP ps k = (findP (ps.drop j) k).map (j + ·)))
  case atStart => exact ⟨0, by omega, rfl, rfl, by show _ = _; cases h : findP ps k <;> simp [h]⟩
  case round =>
    obtain ⟨j, hjg, rfl, rfl, HI⟩ := hrel
    obtain ⟨hn, hfl, hl⟩ := HN.out
    by_cases hlt : j < ps.length
    · obtain ⟨g, hg⟩ : ∃ g, ao = some ⟨g, 0, none⟩ := by
        rcases HO.out.2 with ⟨_, h0⟩ | ⟨g, _, _, he, _⟩
        · omega
        · cases he; exact ⟨g, rfl⟩
      subst hg
      have hc := HO.out.cellAt (2 * j) (by omega)
      rw [List.getElem?_map, List.getElem?_eq_getElem (by omega), (flat_at' hlt).1] at hc
      obtain ⟨q1, ⟨u, q2⟩, q3⟩ := row_set (i := 2 * j + 1) (.string ⟨x.toArray⟩) HO.out (by omega)
      have hb := (ownsRow_type HO.out g rfl).1
      obtain ⟨q, hq⟩ : ∃ q, q = ps[j].1 := ⟨_, rfl⟩
      rw [← hq] at hc
      have t0 : decide (((2 * j : Nat) : Int) < (n : Int)) = true := by rw [decide_eq_true_eq]; omega
      have i1 : (2 * j : Nat) < n := by omega
      have i3 : (0 : Int) ≤ ((2 * j : Nat) : Int) + 1 := by omega
      have i4 : ((2 * j : Nat) : Int) + 1 < (n : Int) := by omega
      obtain ⟨jj, hjj⟩ : ∃ jj, 2 * j = jj := ⟨_, rfl⟩
      rw [hjj] at hc t0 i1 i3 i4 q1 q2 q3 ⊢
      have hcx : wr.cell? ⟨g, jj, none⟩ = some (.string ⟨q.toArray⟩) := by simpa using hc
      have Q3 := Lib.hid q3
      by_cases hk : q = k
      · have HF : Hid (findP ps k = some j) := by
          show _ = _
          have h := HI.out
          rw [find_drop_hit hlt (hq ▸ hk)] at h
          rw [h]; rfl
        have HS := Lib.hid (flat_set ps k x j HF.out)
        have HJ := Lib.hid (And.intro hjj hb)
        subst hk
        clear HI hq hfl hn hjj hl hc q3 hb hlt hjg
        go_wp2_with fail
        go_ret
        refine ⟨_, rfl, H1.out.2.setCell HJ.out.2 _, ?_⟩
        have h := Q3.out
        rw [HS.out, List.length_set, List.map_set, HN.out.1, HJ.out.1]
        exact h
      · have HA : Hid (findP ps k = (findP (ps.drop (j + 1)) k).map (j + 1 + ·)) := by
          show _ = _
          rw [HI.out, find_drop_miss hlt (hq ▸ hk), Option.map_map]
          congr 1; funext x; simp only [Function.comp]; omega
        have hne : (⟨q.toArray⟩ : ByteArray) ≠ ⟨k.toArray⟩ := fun e => hk (by simpa using e)
        have HJ := Lib.hid hjj
        have hk2 : (q == k) = false := beq_eq_false_iff_ne.2 hk
        have hk3 : decide (q = k) = false := decide_eq_false_iff_not.2 hk
        clear HI hq hfl hn hjj hl hc q1 q2 q3 hb
        go_wp2_with fail
        go_roundg (gk - 1)
        case measure => omega
        case rel => exact ⟨j + 1, by omega, by have := HJ.out; rw [show 2 * (j + 1) = jj + 2 by omega]; go_num, rfl, HA⟩
    · obtain rfl : j = ps.length := by omega
      have HF : Hid (findP ps k = none) := by
        show _ = _
        have h := HI.out
        rw [List.drop_length] at h
        rw [h]; rfl
      have HS := Lib.hid (flat_new ps k x HF.out)
      have t0 : decide ((n : Int) < (n : Int)) = false := by rw [decide_eq_false_iff_not]; omega
      rw [show 2 * ps.length = n by omega]
      clear hn hfl hl HI hlt hjg
      go_wp2_with (at_builtin; go_loud (refine wpList_pushTwo rfl (.tmp 30) (.tmp 33) 29 rfl w.heap.size 9 (.string ⟨#[]⟩) 16 Try.underlying29 infoStr rfl (.slice ao n cap) n _ rfl HO.out (.string ⟨k.toArray⟩) (.string ⟨x.toArray⟩) wr.heap.size rfl rfl rfl rfl (by unfold maxLen; omega) (by omega) H1.out.2.size ?_); intro g2 cap2 w2 hg2 hown2 hB2; have H2 := Lib.hid (And.intro hown2 hB2); clear hown2 hB2)
      go_ret
      refine ⟨_, rfl, H1.out.2.trans H2.out.2, ?_⟩
      rw [HS.out, List.length_append, List.map_append, HN.out.1]
      exact H2.out.1
end Go.Proofs.Ytpaffocniniakaa
