/- The reference's Remove, Unset. -/
import Derived.Test.YtpaffocniniakaaPathR5
namespace Go.Proofs.Ytpaffocniniakaa
set_option linter.unusedVariables false
set_option linter.unusedSimpArgs false
open Go.RowKit

theorem remC_eq (s : Bs) (keys : List Bs) : remC s keys = match readC s with | none => ([], 11) | some ps => joinE (flatP (ps.filter fun p => !keys.contains p.1)) := by
  unfold remC chgE
  cases readC s <;> rfl
theorem has_take {keys : List Bs} {t : Nat} (h : t < keys.length) (k : Bs) : (keys.take (t + 1)).contains k = ((keys.take t).contains k || (keys[t] == k)) := by
  rw [List.take_succ_eq_append_getElem h, Bool.eq_iff_iff]
  simp only [List.contains_iff_mem, List.mem_append, List.mem_singleton, Bool.or_eq_true, beq_iff_eq]
  constructor
  · rintro (h | h)
    · exact .inl h
    · exact .inr h.symm
  · rintro (h | h)
    · exact .inl h
    · exact .inr h.symm
theorem filter_take {ps : Prs} {j : Nat} (h : j < ps.length) (f : Bs × Bs → Bool) : (ps.take (j + 1)).filter f = (ps.take j).filter f ++ if f ps[j] then [ps[j]] else [] := by
  rw [List.take_succ_eq_append_getElem h, List.filter_append]
  by_cases hf : f ps[j] = true
  · rw [if_pos hf]; simp [hf]
  · rw [if_neg hf]; simp [hf]
set_option maxRecDepth 100000 in
set_option maxHeartbeats 3200000 in
theorem rRemove_any (s : Bs) (keys : List Bs) (v : Value) (w : World) (hs : s.length ≤ 19999) (ht : TxtRow w v keys) :
    Calls Try.prog 28 #[.string ⟨s.toArray⟩, v] w fun e w' => e = .returned (.tuple #[.string ⟨(remC s keys).1.toArray⟩, .int .i64 (remC s keys).2]) ∧ Below w.heap.size w w' := by
  rw [remC_eq]
  obtain ⟨ok, ck, rfl⟩ := ht.len
  cases hr : readC s with
  | none =>
    have P1 := Lib.hid (rp_none hs hr w)
    clear hr ht
    go_enter Try.func28, Try.ntmps28
    go_wp2_with (go_at_call 17; refine P1.out.mono ?_; rintro e w1 ⟨rfl, hB1⟩; have H1 := Lib.hid hB1; clear hB1)
    go_ret2
    exact ⟨rfl, H1.out⟩
  | some ps =>
    have P1 := Lib.hid (rp_some hs hr w)
    have hrl := read_len hr
    have hfl := flatP_len ps
    have hrf := read_flat hr
    have JO : Hid (∀ v W, TxtRow W v (flatP (ps.filter fun p => !keys.contains p.1)) → Calls Try.prog 37 #[v] W fun e w' => e = .returned (.tuple #[.string ⟨(joinE (flatP (ps.filter fun p => !keys.contains p.1))).1.toArray⟩, .int .i64 (joinE (flatP (ps.filter fun p => !keys.contains p.1))).2]) ∧ Below W.heap.size W w') := fun v W h => rJoin_any v _ W h (fun x hx => by
      obtain ⟨p, hp, hx'⟩ := mem_flat hx
      have := read_mem hr (List.mem_filter.1 hp).1
      rcases hx' with rfl | rfl <;> omega)
    simp only
    obtain ⟨q, hq⟩ : ∃ q, joinE (flatP (ps.filter fun p => !keys.contains p.1)) = q := ⟨_, rfl⟩
    rw [hq] at JO ⊢
    obtain ⟨n, hn⟩ : ∃ n, (flatP ps).length = n := ⟨_, rfl⟩
    rw [hn] at P1
    have HN := Lib.hid (And.intro hn (And.intro hfl (And.intro hrl hs)))
    have hn2 : n ≤ 100000 := by omega
    have HK := Lib.hid ht
    obtain ⟨_, hk1, hk2, _⟩ := ht.at_
    obtain ⟨nk, hnk⟩ : ∃ nk, keys.length = nk := ⟨_, rfl⟩
    have HNK := Lib.hid hnk
    rw [hnk] at HK hk1 ⊢
    unfold maxLen at hk2
    clear hq hn hfl hrl hrf hr ht hs hnk
    go_enter Try.func28, Try.ntmps28
    go_wp2_with (go_at_call 17; refine P1.out.mono ?_; rintro e w1 ⟨o1, c1, rfl, hB1, hT1⟩; have H1 := Lib.hid (And.intro hB1 hT1); clear hB1 hT1)
    go_loopg [8, 9, 10, 12, 27, 28, 29] ps.length (fun g out i _ _ _ _ _ wr => ∃ (j : Nat), j + g = ps.length ∧ i = .int .i64 ((2 * j : Nat) : Int) ∧ Hid (wr.ownsRow w1.heap.size 9 1 out (flatP ((ps.take j).filter fun p => !keys.contains p.1)).length ((flatP ((ps.take j).filter fun p => !keys.contains p.1)).map sv)) ∧ Below w1.heap.size w1 wr)
    case atStart => exact ⟨0, by omega, rfl, World.ownsRow_nil _ _ _ _, Below.refl _ _⟩
    case round =>
      obtain ⟨j, hjg, rfl, HO, hb⟩ := hrel
      obtain ⟨hn, hfl, hrl, hs⟩ := HN.out
      obtain ⟨ao, cap, rfl⟩ := owns_slice HO.out
      obtain ⟨go, rfl⟩ : ∃ go : Nat, go = gk := ⟨_, rfl⟩
      obtain ⟨wo, rfl⟩ : ∃ wo : World, wo = wr := ⟨_, rfl⟩
      have hlf := List.length_filter_le (fun p => !keys.contains p.1) (ps.take j)
      rw [List.length_take] at hlf
      have hff := flatP_len ((ps.take j).filter fun p => !keys.contains p.1)
      by_cases hlt : j < ps.length
      · obtain ⟨z1, hc0, hcm0, h0⟩ := (H1.out.2.below hb).at_
        obtain ⟨g0, f0, rfl, hl0, hc00⟩ := h0 (2 * j) (by omega)
        obtain ⟨g0', f0', e, _, hc01⟩ := h0 (2 * j + 1) (by omega)
        cases e
        rw [(flat_at' hlt).1] at hc00
        rw [(flat_at' hlt).2] at hc01
        have HFT : Hid ((ps.take (j + 1)).filter (fun p => !keys.contains p.1) = (ps.take j).filter (fun p => !keys.contains p.1) ++ if !keys.contains ps[j].1 then [(ps[j].1, ps[j].2)] else []) := filter_take hlt _
        generalize ps[j].1 = k at *
        generalize ps[j].2 = u at *
        obtain ⟨jj, hjj⟩ : ∃ jj, 2 * j = jj := ⟨_, rfl⟩
        rw [hjj] at hc00 hc01 ⊢
        have hA : wo.cell? ⟨g0, f0 + jj, none⟩ = some (.string ⟨k.toArray⟩) := hc00
        have hB : wo.cell? ⟨g0, f0 + (jj + 1), none⟩ = some (.string ⟨u.toArray⟩) := hc01
        have i1 : jj < n := by omega
        have i3 : (0 : Int) ≤ (jj : Int) + 1 := by omega
        have i4 : (jj : Int) + 1 < (n : Int) := by omega
        have i6 : jj ≤ 100000 := by omega
        have hj5 : IntKind.i64.wrap ((jj : Int) + 1) = (jj : Int) + 1 := IntWalk.i64_in _ (by omega)
        have t0 : decide ((jj : Int) < (n : Int)) = true := by rw [decide_eq_true_eq]; omega
        obtain ⟨acc, hacc⟩ : ∃ acc, (ps.take j).filter (fun p => !keys.contains p.1) = acc := ⟨_, rfl⟩
        rw [hacc] at HO HFT hff hlf
        have hal : (flatP acc).length ≤ 100000 := by omega
        obtain ⟨fa, hfa⟩ : ∃ fa, (flatP acc).length = fa := ⟨_, rfl⟩
        rw [hfa] at hal
        have HFA := Lib.hid hfa
        rw [hacc, hfa]
        rw [hfa] at HO
        have HJ := Lib.hid (And.intro hjj hjg)
        have HB := Lib.hid hb
        have HKR := Lib.hid (HK.out.below (H1.out.1.trans (hb.mono H1.out.1.size)))
        clear hjj hjg hn hfl hrl hs z1 hc0 hcm0 h0 hc00 hc01 hb hlt hacc hfa hff hlf
        go_wp2_with fail
        go_loopg [10, 12, 29] nk (fun g b _ i wr => ∃ t : Nat, t + g = nk ∧ i = .int .i64 (t : Int) ∧ wr = wo ∧ b = .bool ((keys.take t).contains k))
        case atStart => exact ⟨0, by omega, rfl, rfl, rfl⟩
        case round =>
          obtain ⟨t, htg, rfl, rfl, rfl⟩ := hrel
          have hnk := HNK.out
          by_cases hlt : t < nk
          · obtain ⟨_, _, _, h3⟩ := HKR.out.at_
            obtain ⟨gk2, fk, rfl, hlk, hck⟩ := h3 t (by omega)
            have HTT := Lib.hid (has_take (keys := keys) (t := t) (by omega) k)
            generalize keys[t]'(by omega) = kk at *
            have hC : wr.cell? ⟨gk2, fk + t, none⟩ = some (.string ⟨kk.toArray⟩) := hck
            have t1 : decide ((t : Int) < (nk : Int)) = true := by rw [decide_eq_true_eq]; omega
            have i7 : t < nk := hlt
            have HTG := Lib.hid htg
            cases hg : (keys.take t).contains k with
            | true =>
              have HT2 : Hid ((keys.take (t + 1)).contains k = true) := by show _ = _; rw [HTT.out, hg]; rfl
              clear hg htg hck h3 hnk hlt
              go_wp2_with fail
              go_roundg (gk - 1)
              case measure => have := HTG.out; omega
              case rel => exact ⟨t + 1, by have := HTG.out; omega, by go_num, rfl, by rw [HT2.out]⟩
            | false =>
              by_cases hk : kk = k
              · have HT2 : Hid ((keys.take (t + 1)).contains k = true) := by show _ = _; rw [HTT.out, hg, hk]; simp
                subst hk
                clear hg htg hck h3 hnk hlt HTT
                go_wp2_with fail
                go_roundg (gk - 1)
                case measure => have := HTG.out; omega
                case rel => exact ⟨t + 1, by have := HTG.out; omega, by go_num, rfl, by rw [HT2.out]⟩
              · have HT2 : Hid ((keys.take (t + 1)).contains k = false) := by show _ = _; rw [HTT.out, hg, beq_eq_false_iff_ne.2 hk]; rfl
                have hne : (⟨kk.toArray⟩ : ByteArray) ≠ ⟨k.toArray⟩ := fun e => hk (by simpa using e)
                have hk2 : (kk == k) = false := beq_eq_false_iff_ne.2 hk
                have hk3 : decide (kk = k) = false := decide_eq_false_iff_not.2 hk
                clear hg htg hck h3 hnk hlt HTT
                go_wp2_with fail
                go_roundg (gk - 1)
                case measure => have := HTG.out; omega
                case rel => exact ⟨t + 1, by have := HTG.out; omega, by go_num, rfl, by rw [HT2.out]⟩
          · obtain rfl : t = nk := by omega
            have t1 : decide ((t : Int) < (t : Int)) = false := by rw [decide_eq_false_iff_not]; omega
            rw [List.take_of_length_le (by omega)]
            clear htg hlt hnk
            cases hg : keys.contains k with
            | true =>
              rw [hg] at HFT
              clear hg
              go_wp2_with fail
              go_roundg (go - 1)
              case measure => have := HJ.out; have := HN.out; omega
              case rel =>
                have hj := HJ.out
                have hn := HN.out
                refine ⟨j + 1, by omega, by rw [show 2 * (j + 1) = jj + 2 by omega]; go_num, ?_, HB.out⟩
                show World.ownsRow _ _ _ _ _ _ _
                rw [HFT.out]
                simp only [Bool.not_true, Bool.false_eq_true, if_false, List.append_nil]
                rw [HFA.out]
                exact HO.out
            | false =>
              rw [hg] at HFT
              clear hg
              have HD : Hid (wr.drew.ownsRow w1.heap.size 9 1 (.slice ao fa cap) fa ((flatP acc).map sv)) := HO.out
              have hk1d : wr.drew.cell? ⟨g0, f0 + jj, none⟩ = some (.string ⟨k.toArray⟩) := hA
              have hx1d : wr.drew.cell? ⟨g0, f0 + (jj + 1), none⟩ = some (.string ⟨u.toArray⟩) := hB
              go_wp2_with fail
              go_region_law (refine step_append_two rfl (.tmp 45) (.tmp 55) 29 rfl w1.heap.size 9 (.string ⟨#[]⟩) 16 Try.underlying29 infoStr rfl (.slice ao fa cap) fa _ (by simp [Act.eval, Act.put]) wr.drew HD.out (.string ⟨k.toArray⟩) (.string ⟨u.toArray⟩) rfl (by simp [Act.eval, Act.put]) rfl rfl (by unfold maxLen; omega) (by omega) (by show w1.heap.size ≤ wr.heap.size; exact HB.out.size) ?_; intro g c2 w2 hg hown2 hb2; have HOW := Lib.hid (And.intro hown2 hb2); clear hown2 hb2)
              all_goals
                go_wp2_with fail
                go_roundg (go - 1)
                case measure => have := HJ.out; have := HN.out; omega
                case rel =>
                  have hj := HJ.out
                  have hn := HN.out
                  refine ⟨j + 1, by omega, by rw [show 2 * (j + 1) = jj + 2 by omega]; go_num, ?_, HB.out.trans ((Below.refl _ _).drew.trans HOW.out.2)⟩
                  show World.ownsRow _ _ _ _ _ _ _
                  rw [HFT.out]
                  simp only [Bool.not_false, if_true]
                  rw [flatP_append, List.length_append, List.map_append, HFA.out]
                  exact HOW.out.1
      · obtain rfl : j = ps.length := by omega
        have HTR := Lib.hid (TxtRow.of_owns HO.out)
        rw [List.take_length] at HTR ⊢
        have HQ := Lib.hid (JO.out _ _ HTR.out)
        have t0 : decide ((n : Int) < (n : Int)) = false := by rw [decide_eq_false_iff_not]; omega
        rw [show 2 * ps.length = n by omega]
        have hbw := Lib.hid (H1.out.1.trans (hb.mono H1.out.1.size))
        generalize (flatP (ps.filter fun p => !keys.contains p.1)).length = fa at *
        clear hn hfl hrl hs hjg hlt hlf hff hb
        go_wp2_with (go_at_call 37; refine HQ.out.mono ?_; rintro e w3 ⟨rfl, hB3⟩; have H3 := Lib.hid hB3; clear hB3)
        go_ret2
        exact ⟨rfl, hbw.out.trans (H3.out.mono hbw.out.size)⟩
end Go.Proofs.Ytpaffocniniakaa
