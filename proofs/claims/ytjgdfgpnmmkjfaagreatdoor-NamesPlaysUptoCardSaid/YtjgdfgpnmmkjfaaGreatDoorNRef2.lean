/- NamesPaths: the reference: Parts. NamesPaths: the reference: of, Canonical, Head, Tail. -/
import Derived.Test.YtjgdfgpnmmkjfaaGreatDoorNWalk
import Derived.Deep.DeepCutAuto
namespace Go.Proofs.YtjgdfgpnmmkjfaaGreatDoor
set_option linter.unusedVariables false
set_option linter.unusedSimpArgs false
open Go.RowKit

theorem byte_ne {c : UInt8} (h : c ≠ 58) : ((c.toNat : Int) == 58) = false := by
  rw [beq_eq_false_iff_ne]
  intro e
  have e2 : c.toNat = 58 := by omega
  exact h (UInt8.toNat_inj.1 e2)
theorem col_ne {c : UInt8} {r : Bs} (h : c ≠ 58) : decide (col (c :: r) = 1) = false := by rw [col_zero h]; rfl
theorem col_two {r : Bs} : decide (col (58 :: 58 :: r) = 1) = false := by rw [decide_eq_false_iff_not]; simp [col]
theorem col_lone {d : UInt8} {r : Bs} (h : d ≠ 58) : decide (col (58 :: d :: r) = 1) = true := by rw [decide_eq_true_eq, col, if_pos rfl, col_zero h]
theorem last_rev {t u : Bs} {x : UInt8} (h : t.reverse = x :: u) : t = u.reverse ++ [x] := by
  have := congrArg List.reverse h
  simpa using this
set_option maxRecDepth 100000 in
set_option maxHeartbeats 1600000 in
theorem rParts_any (s : Bs) (hs : s.length ≤ 1000000) (w : World) : Calls Tryz.prog 55 #[.string ⟨s.toArray⟩] w (PartsR w s) := by
  unfold PartsR
  go_enter Tryz.func55, Tryz.ntmps55
  go_upto_region 2 with fail
  go_cut [26] (fun c wx => c = .bool (decide (col s = 1)) ∧ w = wx)
  case first =>
    match s with
    | [] => go_wp2_with fail; go_meet; exact ⟨rfl, rfl⟩
    | [c] =>
      by_cases hc : c = 58
      · subst hc; go_wp2_with fail; go_meet; exact ⟨rfl, rfl⟩
      · have h1 := byte_ne hc
        go_wp2_with fail; go_meet; exact ⟨(congrArg Value.bool (col_ne hc)).symm, rfl⟩
    | c :: d :: r =>
      have hrl : r.length ≤ 1000000 := by simp at hs; omega
      by_cases hc : c = 58
      · subst hc
        by_cases hd : d = 58
        · subst hd
          go_wp2_with fail; go_meet; exact ⟨(congrArg Value.bool (col_two)).symm, rfl⟩
        · have h2 := byte_ne hd
          go_wp2_with fail; go_meet; exact ⟨congrArg Value.bool (by rw [col_lone hd]; simp [bne, h2]), rfl⟩
      · have h1 := byte_ne hc
        go_wp2_with fail; go_meet; exact ⟨(congrArg Value.bool (col_ne hc)).symm, rfl⟩
  case rest =>
  obtain ⟨rfl, rfl⟩ := hcut
  go_upto_if 26 with fail
  go_cut [0] (fun p wx => p = .string ⟨(bareL s).toArray⟩ ∧ w = wx)
  case first =>
    by_cases h1 : col s = 1
    · rw [decide_eq_true h1]
      obtain ⟨t, rfl⟩ : ∃ t, s = 58 :: t := by
        cases s with
        | nil => simp [col] at h1
        | cons c r =>
          by_cases hc : c = 58
          · exact ⟨r, by rw [hc]⟩
          · rw [col_zero hc] at h1; cases h1
      have hb : bareL (58 :: t) = t := by unfold bareL; rw [if_pos h1]; rfl
      have htl : t.length ≤ 1000000 := by simp at hs; omega
      have HB : Hid (bareL (58 :: t) = t) := hb
      clear hb
      go_wp2_with fail; go_meet; exact ⟨by rw [HB.out], rfl⟩
    · rw [decide_eq_false h1]
      have HB : Hid (bareL s = s) := bareL_of h1
      go_wp2_with fail; go_meet; exact ⟨by rw [HB.out], rfl⟩
  case rest =>
  obtain ⟨rfl, rfl⟩ := hcut
  have hbl : (bareL s).length ≤ 1000000 := by unfold bareL; split; (rw [List.length_drop]; omega); omega
  have hpt : partsN s = goN (some []) (bareR (bareL s)) := rfl
  have hpl := bare_len s
  rw [bareR_col] at hpt hpl
  obtain ⟨l, hl⟩ : ∃ l, partsN s = l := ⟨_, rfl⟩
  have HPL := Lib.hid hl
  rw [hl] at hpt
  clear hl
  generalize bareL s = t at *
  obtain ⟨L, hL⟩ : ∃ L, t.length = L := ⟨_, rfl⟩
  rw [hL] at hbl hpt hpl
  go_upto_region 5 with fail
  go_cut [50] (fun c wx => c = .bool (decide (col t.reverse = 1)) ∧ w = wx)
  case first =>
    clear hpt hpl
    cases hr : t.reverse with
    | nil =>
      have : t = [] := by simpa using hr
      subst this
      have hL0 : L = 0 := hL.symm
      subst hL0
      go_wp2_with fail; go_meet; exact ⟨rfl, rfl⟩
    | cons x u =>
      have ht := last_rev hr
      cases u with
      | nil =>
        simp at ht
        subst ht
        have hL0 : L = 1 := hL.symm
        subst hL0
        by_cases hc : x = 58
        · subst hc; go_wp2_with fail; go_meet; exact ⟨rfl, rfl⟩
        · have h1 := byte_ne hc
          go_wp2_with fail; go_meet; exact ⟨(congrArg Value.bool (col_ne hc)).symm, rfl⟩
      | cons y v =>
        obtain ⟨m, hm⟩ : ∃ m, m = v.length := ⟨_, rfl⟩
        have htl : t.length = m + 2 := by rw [ht]; simp [hm]
        have i1 : m + 1 < t.length := by omega
        have i2 : m < t.length := by omega
        have i3 : m ≤ 1000000 := by omega
        have hx : t[m + 1]'i1 = x := by
          have e : t[m + 1]? = some x := by rw [ht]; simp [hm]
          rw [List.getElem?_eq_getElem (by omega)] at e
          exact Option.some.inj e
        have hy : t[m]'i2 = y := by
          have e : t[m]? = some y := by rw [ht]; simp [hm]
          rw [List.getElem?_eq_getElem (by omega)] at e
          exact Option.some.inj e
        have hL2 : L = m + 2 := by omega
        subst hL2
        have HR : Hid (t.reverse = x :: y :: v) := hr
        clear ht hr hm htl
        by_cases hc : x = 58
        · have h1 : ((x.toNat : Int) == 58) = true := by rw [hc]; rfl
          by_cases hd : y = 58
          · have h2 : ((y.toNat : Int) == 58) = true := by rw [hd]; rfl
            go_wp2_with fail; go_meet; refine ⟨congrArg Value.bool ?_, rfl⟩; rw [HR.out, hc, hd, col_two, beq_eq_false_iff_ne]; omega
          · have h2 := byte_ne hd
            go_wp2_with fail; go_meet; refine ⟨congrArg Value.bool ?_, rfl⟩; rw [HR.out, hc, col_lone hd]; simp [bne, h2]
        · have h1 := byte_ne hc
          go_wp2_with fail; go_meet; exact ⟨congrArg Value.bool (by rw [HR.out]; exact (col_ne hc).symm), rfl⟩
  case rest =>
  obtain ⟨rfl, rfl⟩ := hcut
  go_upto_if 50 with fail
  go_cut [0] (fun p wx => p = .string ⟨(if col t.reverse = 1 then t.take (L - 1) else t).toArray⟩ ∧ w = wx)
  case first =>
    clear hpt hpl
    by_cases h1 : col t.reverse = 1
    · rw [decide_eq_true h1]
      have hL1 : 1 ≤ L := by
        rcases Nat.eq_zero_or_pos L with h | h
        · have : t = [] := List.eq_nil_of_length_eq_zero (hL.trans h)
          subst this; simp [col] at h1
        · exact h
      have HB : Hid ((if col t.reverse = 1 then t.take (L - 1) else t) = t.take (L - 1)) := if_pos h1
      clear h1
      go_wp2_with fail; go_meet; exact ⟨by rw [HB.out], rfl⟩
    · rw [decide_eq_false h1]
      have HB : Hid ((if col t.reverse = 1 then t.take (L - 1) else t) = t) := if_neg h1
      clear h1
      go_wp2_with fail; go_meet; exact ⟨by rw [HB.out], rfl⟩
  case rest =>
  obtain ⟨rfl, rfl⟩ := hcut
  generalize (if col t.reverse = 1 then t.take (L - 1) else t) = p at *
  have hp1 : p.length ≤ 1000000 := by omega
  have HS := Lib.hid hpt
  clear hpl hbl hL hs hpt
  go_wp2_with fail
  go_loopg [5, 6, 7, 8] p.length (fun g out pt i n wr => ∃ (b : Nat) (acc : Bs) (pre : List Bs) (ao : Option Addr) (nn cap : Nat), b + g = p.length ∧ i = .int .i64 (b : Int) ∧ pt = .string ⟨acc.toArray⟩ ∧ acc.length ≤ b ∧ out = .slice ao nn cap ∧ nn ≤ b ∧ Hid (nn = pre.length) ∧ Hid (wr.ownsRow w.heap.size 9 1 (.slice ao nn cap) nn (pre.map sv)) ∧ Hid (pre ++ goN (some acc) (p.drop b) = l) ∧ Below w.heap.size w wr)
  case atStart => exact ⟨0, [], [], none, 0, 0, by omega, rfl, rfl, by simp, rfl, by omega, rfl, World.ownsRow_nil _ _ _ _, by show _ = _; rw [HS.out]; simp, Below.refl _ _⟩
  case round =>
    obtain ⟨b, acc, pre, ao, nn, cap, hbg, rfl, rfl, hal, rfl, hnb, HK, HO, HI, hb⟩ := hrel
    have HB := Lib.hid hb
    have hn2 : nn ≤ 1000000 := by omega
    have hal2 : acc.length ≤ 1000000 := by omega
    obtain ⟨go, hgo⟩ : ∃ go, go = gk := ⟨gk, rfl⟩
    subst hgo
    clear hb
    by_cases hlt : b < p.length
    · have hcl := col_le (p.drop b)
      rw [List.length_drop] at hcl
      have t0 : decide ((b : Int) < (p.length : Int)) = true := by rw [decide_eq_true_eq]; omega
      obtain ⟨m, hm⟩ : ∃ m, m = col (p.drop b) := ⟨_, rfl⟩
      have HM := Lib.hid hm
      rw [← hm] at hcl
      clear hm
      go_wp2_with fail
      go_loopg [8] m (fun g n wx => ∃ k : Nat, k + g = m ∧ n = .int .i64 (k : Int) ∧ wr = wx)
      case atStart => exact ⟨0, by omega, rfl, rfl⟩
      case round =>
        obtain ⟨k, hkg, rfl, rfl⟩ := hrel
        by_cases hk : k < m
        · obtain ⟨h1, h2⟩ := col_in (s := p) (b := b) (k := k) (by rw [← HM.out]; exact hk)
          have t1 : decide ((b : Int) + (k : Int) < (p.length : Int)) = true := by rw [decide_eq_true_eq]; omega
          have HK2 := Lib.hid (And.intro hkg hk)
          clear HI
          go_wp2_with fail
          go_roundg (gk - 1)
          case measure => have := HK2.out; omega
          case rel => have := HK2.out; exact ⟨k + 1, by omega, by push_cast; rfl, rfl⟩
        · obtain rfl : k = m := by omega
          have hkl : k ≤ 1000000 := by omega
          have hbb : b ≤ 1000000 := by omega
          by_cases h3 : b + k < p.length
          · have h4 : p[b + k] ≠ 58 := by
              have hmm := HM.out
              have := col_out (s := p) (b := b) (by rw [← hmm]; exact h3)
              simpa only [← hmm] using this
            have h4b := byte_ne h4
            have t1 : decide ((b : Int) + (k : Int) < (p.length : Int)) = true := by rw [decide_eq_true_eq]; omega
            by_cases hm2 : 2 ≤ k
            · have t4 : decide ((k : Int) < 2) = false := by rw [decide_eq_false_iff_not]; omega
              have HE : Hid (goN (some acc) (p.drop b) = emitP acc ++ goN (some []) (p.drop (b + k))) := by
                show _ = _
                have h2 : 2 ≤ col (p.drop b) := by rw [← HM.out]; exact hm2
                rw [goN_sep h2, List.drop_drop, ← HM.out]
              have HG := Lib.hid (And.intro hbg (And.intro hlt (And.intro hcl (And.intro hm2 hnb))))
              by_cases ha : acc = []
              · have HA : Hid (pre ++ goN (some []) (p.drop (b + k)) = l) := by
                  show _ = _
                  rw [← HI.out, HE.out, ha]; rfl
                clear HI HE hm2 hbg hcl hlt
                subst ha
                go_wp2_with fail
                go_roundg (go - k)
                case measure => have := HG.out; omega
                case rel => have h1 := HG.out; exact ⟨b + k, [], pre, ao, nn, cap, by omega, by push_cast; rfl, rfl, by simp, rfl, by omega, HK, HO, HA, HB.out⟩
              · have HA : Hid ((pre ++ [acc]) ++ goN (some []) (p.drop (b + k)) = l) := by
                  show _ = _
                  rw [← HI.out, HE.out, emitP, if_neg ha]; simp
                have hne : (⟨acc.toArray⟩ : ByteArray) ≠ ⟨#[]⟩ := fun e => ha (by simpa using e)
                have hne2 : (acc == []) = false := beq_eq_false_iff_ne.2 ha
                clear HI HE hm2 hbg hcl hlt
                go_wp2_with (at_builtin; go_loud (refine wpList_push rfl (.tmp 88) (.tmp 90) 27 rfl w.heap.size 9 (.string ⟨#[]⟩) 16 Tryz.underlying27 infoStr rfl (.slice ao nn cap) nn _ rfl HO.out (.string ⟨acc.toArray⟩) _ rfl rfl (by unfold maxLen; omega) (by omega) HB.out.size ?_); intro g1 c1 w3 hg1 hown3 hb3 _; have H3 := Lib.hid (And.intro hown3 hb3); clear hg1 hown3 hb3)
                go_roundg (go - k)
                case measure => have := HG.out; omega
                case rel => have h1 := HG.out; have h3 := HK.out; exact ⟨b + k, [], pre ++ [acc], _, nn + 1, c1, by omega, by push_cast; rfl, rfl, by simp, rfl, by omega, by show _ = _; rw [List.length_append, h3]; rfl, by show World.ownsRow _ _ _ _ _ _ _; rw [List.map_append]; exact H3.out.1, HA, HB.out.trans H3.out.2⟩
            · have t4 : decide ((k : Int) < 2) = true := by rw [decide_eq_true_eq]; omega
              have HA : Hid (pre ++ goN (some (acc ++ [p[b]])) (p.drop (b + 1)) = l) := by
                show _ = _
                have hmm := HM.out
                have h5 := HI.out
                rw [List.drop_eq_getElem_cons hlt] at hmm h5
                rw [goN_char (by omega)] at h5
                exact h5
              have HT : Hid ((p.drop b).take 1 = [p[b]]) := by
                show _ = _
                rw [List.drop_eq_getElem_cons hlt]; rfl
              have HG := Lib.hid (And.intro hbg (And.intro hlt (And.intro hnb hal)))
              clear HI hm2 hcl
              go_wp2_with fail
              go_roundg (go - 1)
              case measure => have := HG.out; omega
              case rel => have h1 := HG.out; exact ⟨b + 1, acc ++ [p[b]'h1.2.1], pre, ao, nn, cap, by omega, by push_cast; rfl, by rw [ba_append, HT.out], by rw [List.length_append]; simp; omega, rfl, by omega, HK, HO, HA, HB.out⟩
          · have t1 : decide ((b : Int) + (k : Int) < (p.length : Int)) = false := by rw [decide_eq_false_iff_not]; omega
            by_cases hm2 : 2 ≤ k
            · have t4 : decide ((k : Int) < 2) = false := by rw [decide_eq_false_iff_not]; omega
              have HE : Hid (goN (some acc) (p.drop b) = emitP acc ++ goN (some []) (p.drop (b + k))) := by
                show _ = _
                have h2 : 2 ≤ col (p.drop b) := by rw [← HM.out]; exact hm2
                rw [goN_sep h2, List.drop_drop, ← HM.out]
              have HG := Lib.hid (And.intro hbg (And.intro hlt (And.intro hcl (And.intro hm2 hnb))))
              by_cases ha : acc = []
              · have HA : Hid (pre ++ goN (some []) (p.drop (b + k)) = l) := by
                  show _ = _
                  rw [← HI.out, HE.out, ha]; rfl
                clear HI HE hm2 hbg hcl hlt
                subst ha
                go_wp2_with fail
                go_roundg (go - k)
                case measure => have := HG.out; omega
                case rel => have h1 := HG.out; exact ⟨b + k, [], pre, ao, nn, cap, by omega, by push_cast; rfl, rfl, by simp, rfl, by omega, HK, HO, HA, HB.out⟩
              · have HA : Hid ((pre ++ [acc]) ++ goN (some []) (p.drop (b + k)) = l) := by
                  show _ = _
                  rw [← HI.out, HE.out, emitP, if_neg ha]; simp
                have hne : (⟨acc.toArray⟩ : ByteArray) ≠ ⟨#[]⟩ := fun e => ha (by simpa using e)
                have hne2 : (acc == []) = false := beq_eq_false_iff_ne.2 ha
                clear HI HE hm2 hbg hcl hlt
                go_wp2_with (at_builtin; go_loud (refine wpList_push rfl (.tmp 88) (.tmp 90) 27 rfl w.heap.size 9 (.string ⟨#[]⟩) 16 Tryz.underlying27 infoStr rfl (.slice ao nn cap) nn _ rfl HO.out (.string ⟨acc.toArray⟩) _ rfl rfl (by unfold maxLen; omega) (by omega) HB.out.size ?_); intro g1 c1 w3 hg1 hown3 hb3 _; have H3 := Lib.hid (And.intro hown3 hb3); clear hg1 hown3 hb3)
                go_roundg (go - k)
                case measure => have := HG.out; omega
                case rel => have h1 := HG.out; have h3 := HK.out; exact ⟨b + k, [], pre ++ [acc], _, nn + 1, c1, by omega, by push_cast; rfl, rfl, by simp, rfl, by omega, by show _ = _; rw [List.length_append, h3]; rfl, by show World.ownsRow _ _ _ _ _ _ _; rw [List.map_append]; exact H3.out.1, HA, HB.out.trans H3.out.2⟩
            · have t4 : decide ((k : Int) < 2) = true := by rw [decide_eq_true_eq]; omega
              have HA : Hid (pre ++ goN (some (acc ++ [p[b]])) (p.drop (b + 1)) = l) := by
                show _ = _
                have hmm := HM.out
                have h5 := HI.out
                rw [List.drop_eq_getElem_cons hlt] at hmm h5
                rw [goN_char (by omega)] at h5
                exact h5
              have HT : Hid ((p.drop b).take 1 = [p[b]]) := by
                show _ = _
                rw [List.drop_eq_getElem_cons hlt]; rfl
              have HG := Lib.hid (And.intro hbg (And.intro hlt (And.intro hnb hal)))
              clear HI hm2 hcl
              go_wp2_with fail
              go_roundg (go - 1)
              case measure => have := HG.out; omega
              case rel => have h1 := HG.out; exact ⟨b + 1, acc ++ [p[b]'h1.2.1], pre, ao, nn, cap, by omega, by push_cast; rfl, by rw [ba_append, HT.out], by rw [List.length_append]; simp; omega, rfl, by omega, HK, HO, HA, HB.out⟩
    · obtain rfl : b = p.length := by omega
      have t0 : decide ((p.length : Int) < (p.length : Int)) = false := by rw [decide_eq_false_iff_not]; omega
      have h5 := HI.out
      rw [List.drop_length, goN] at h5
      by_cases ha : acc = []
      · have HA : Hid (l = pre) := by
          show _ = _
          rw [← h5, ha, emitP, if_pos rfl, List.append_nil]
        subst ha
        clear HI h5 hlt hbg hnb hal
        go_wp2_with fail
        go_ret
        refine ⟨_, rfl, ?_, HB.out⟩
        rw [HPL.out, HA.out, ← HK.out]
        exact HO.out
      · have HA : Hid (l = pre ++ [acc]) := by
          show _ = _
          rw [← h5, emitP, if_neg ha]
        have hne : (⟨acc.toArray⟩ : ByteArray) ≠ ⟨#[]⟩ := fun e => ha (by simpa using e)
        have hne2 : (acc == []) = false := beq_eq_false_iff_ne.2 ha
        clear HI h5 hlt hbg hnb hal
        go_wp2_with (at_builtin; go_loud (refine wpList_push rfl (.tmp 97) (.tmp 99) 27 rfl w.heap.size 9 (.string ⟨#[]⟩) 16 Tryz.underlying27 infoStr rfl (.slice ao nn cap) nn _ rfl HO.out (.string ⟨acc.toArray⟩) _ rfl rfl (by unfold maxLen; omega) (by omega) HB.out.size ?_); intro g1 c1 w3 hg1 hown3 hb3 _; have H3 := Lib.hid (And.intro hown3 hb3); clear hg1 hown3 hb3)
        go_ret
        refine ⟨_, rfl, ?_, HB.out.trans H3.out.2⟩
        rw [HPL.out, HA.out, List.length_append, List.map_append, ← HK.out]
        exact H3.out.1
end Go.Proofs.YtjgdfgpnmmkjfaaGreatDoor
namespace Go.Proofs.YtjgdfgpnmmkjfaaGreatDoor
set_option linter.unusedVariables false
set_option linter.unusedSimpArgs false
open Go.RowKit

def ofN : List Bs → Bs
  | [] => []
  | p :: r => 58 :: 58 :: (p ++ ofN r)
theorem of_can : ∀ l : List Bs, l ≠ [] → ofN l = canN l
  | [], h => absurd rfl h
  | [p], _ => by simp [ofN, canN, joinN]
  | p :: q :: r, _ => by
    have h := of_can (q :: r) (by simp)
    have e : joinN (p :: q :: r) = p ++ 58 :: 58 :: joinN (q :: r) := by
      rw [joinN]
      simp
    rw [ofN, h, canN, canN, e]
theorem of_app (a b : List Bs) : ofN (a ++ b) = ofN a ++ ofN b := by
  induction a with
  | nil => rfl
  | cons x r ih => simp only [List.cons_append, ofN, ih, List.append_assoc]
theorem of_w : ∀ l : List Bs, (ofN l).length ≤ wN l
  | [] => Nat.le_refl _
  | p :: r => by have h := of_w r; simp only [ofN, wN, List.length_cons, List.length_append]; omega
theorem wN_take (l : List Bs) (k : Nat) : wN (l.take k) ≤ wN l := by
  have h := wN_app (l.take k) (l.drop k)
  rw [List.take_append_drop] at h
  omega
theorem wN_mem {l : List Bs} {x : Bs} (h : x ∈ l) : x.length ≤ wN l := by
  induction l with
  | nil => cases h
  | cons y r ih =>
    simp only [wN]
    rcases List.mem_cons.1 h with rfl | h
    · omega
    · have := ih h; omega
set_option maxRecDepth 100000 in
set_option maxHeartbeats 800000 in
theorem of_any (l : List Bs) (v : Value) (w : World) (ht : TxtRow w v l) (hw : wN l ≤ 1000000000) : Calls Tryz.prog 57 #[v] w fun e w' => e = .returned (.string ⟨(canN l).toArray⟩) ∧ Below w.heap.size w w' := by
  obtain ⟨o, c, rfl⟩ := ht.len
  obtain ⟨_, h1, h2, h3⟩ := ht.at_
  have HT := Lib.hid h3
  have HW := Lib.hid hw
  have hl := len_w l
  obtain ⟨n, hn⟩ : ∃ n, l.length = n := ⟨_, rfl⟩
  have HN := Lib.hid hn
  rw [hn] at hl h1 ⊢
  have hn1 : n ≤ 1000000000 := by omega
  unfold maxLen at h2
  clear ht h3 hw hl hn
  go_enter Tryz.func57, Tryz.ntmps57
  go_wp2_with fail
  go_loopg [3, 8] n (fun g out i wr => ∃ (k : Nat) (acc : Bs), k + g = n ∧ i = .int .i64 (k : Int) ∧ out = .string ⟨acc.toArray⟩ ∧ acc.length ≤ 1000000000 ∧ Hid (acc = ofN (l.take k)) ∧ w = wr)
  case atStart => exact ⟨0, [], by omega, rfl, rfl, by simp, rfl, rfl⟩
  case round =>
    obtain ⟨k, acc, hkg, rfl, rfl, hal, HA, rfl⟩ := hrel
    have hn := HN.out
    by_cases hlt : k < n
    · obtain ⟨g0, f0, rfl, hl0, hc⟩ := HT.out k (by omega)
      have hpl := wN_mem (List.getElem_mem (l := l) (n := k) (by omega))
      have hww := HW.out
      have HS : Hid (ofN (l.take (k + 1)) = acc ++ (58 :: 58 :: l[k]'(by omega))) := by
        show _ = _
        rw [List.take_succ_eq_append_getElem (by omega), of_app, ← HA.out]; simp [ofN]
      have hSl := of_w (l.take (k + 1))
      have hSw := wN_take l (k + 1)
      rw [HS.out] at hSl
      generalize l[k]'(by omega) = p at *
      have hcx : w.cell? ⟨g0, f0 + k, none⟩ = some (.string ⟨p.toArray⟩) := hc
      have hp1 : p.length ≤ 1000000000 := by omega
      have hsl : (acc ++ (58 :: 58 :: p)).length ≤ 1000000000 := by omega
      have HG := Lib.hid (And.intro hkg hsl)
      clear hSl hSw hww hpl hc hkg hn hsl
      go_wp2_with fail
      go_roundg (gk - 1)
      case measure => have := HG.out; omega
      case rel =>
        have h9 := HG.out
        refine ⟨k + 1, acc ++ (58 :: 58 :: p), by omega, by push_cast; rfl, ?_, h9.2, HS.out.symm, rfl⟩
        show Value.string ((⟨acc.toArray⟩ : ByteArray) ++ ((⟨([58, 58] : Bs).toArray⟩ : ByteArray) ++ ⟨p.toArray⟩)) = _
        rw [ba_append, ba_append]; rfl
    · obtain rfl : k = n := by omega
      have t0 : decide ((k : Int) < (k : Int)) = false := by rw [decide_eq_false_iff_not]; omega
      have h5 := HA.out
      rw [List.take_of_length_le (by omega)] at h5
      by_cases he : l = []
      · have ha : acc = [] := by rw [h5, he]; rfl
        have HR : Hid (canN l = [58, 58]) := by show _ = _; rw [he]; rfl
        subst ha
        clear HA h5 he hn hkg hlt
        go_wp2_with fail
        go_ret
        exact ⟨by rw [HR.out]; rfl, Below.refl _ _⟩
      · have HR : Hid (canN l = acc) := by show _ = _; rw [h5]; exact (of_can l he).symm
        have ha : acc ≠ [] := by
          rw [h5, of_can l he]; simp [canN]
        have hne : (⟨acc.toArray⟩ : ByteArray) ≠ ⟨#[]⟩ := fun e => ha (by simpa using e)
        have hne2 : (acc == []) = false := beq_eq_false_iff_ne.2 ha
        clear HA h5 he hn hkg hlt
        go_wp2_with fail
        go_ret
        exact ⟨by rw [HR.out]; rfl, Below.refl _ _⟩
set_option maxHeartbeats 800000 in
theorem rCanonical_any (space path : Bs) (h1 : space.length ≤ 100000) (h2 : path.length ≤ 100000) (w : World) : Calls Tryz.prog 58 #[.string ⟨space.toArray⟩, .string ⟨path.toArray⟩] w fun e w' => e = .returned (.string ⟨(canonN space path).toArray⟩) ∧ Below w.heap.size w w' := by
  have AB : Hid (∀ W, Calls Tryz.prog 79 #[.string ⟨path.toArray⟩] W fun e w' => e = .returned (.bool (absN path)) ∧ W = w') := fun W => rAbsolute_any path (by omega) W
  have w1 := parts_w path
  have w2 := parts_w space
  have l1 := len_w (partsN path)
  have l2 := len_w (partsN space)
  have PA : Hid (∀ W, Calls Tryz.prog 55 #[.string ⟨path.toArray⟩] W (PartsR W path)) := fun W => rParts_any path (by omega) W
  have PS : Hid (∀ W, Calls Tryz.prog 55 #[.string ⟨space.toArray⟩] W (PartsR W space)) := fun W => rParts_any space (by omega) W
  have JO : Hid (∀ W v l, wN l ≤ 1000000000 → TxtRow W v l → Calls Tryz.prog 57 #[v] W fun e w' => e = .returned (.string ⟨(canN l).toArray⟩) ∧ Below W.heap.size W w') := fun W v l q ht => of_any l v W ht q
  have wa := wN_app (partsN space) (partsN path)
  unfold canonN
  cases hb : absN path with
  | true =>
    rw [if_pos rfl]
    rw [hb] at AB
    have HW : Hid (wN (partsN path) ≤ 1000000000) := by show _ ≤ _; omega
    clear hb h1 h2 w1 w2 l1 l2 wa
    go_enter Tryz.func58, Tryz.ntmps58
    go_wp2_with (first | (go_at_call 79; refine (AB.out _).mono ?_; rintro e w1 ⟨rfl, rfl⟩) | (go_at_call 55; refine (PA.out _).mono ?_; rintro e w2 ⟨r, rfl, ho, hB⟩; have H2 := Lib.hid (And.intro hB (TxtRow.of_owns ho)); clear ho hB) | (go_at_call 57; refine (JO.out _ _ _ HW.out H2.out.2).mono ?_; rintro e w3 ⟨rfl, hB⟩; have H3 := Lib.hid (H2.out.1.trans (hB.mono H2.out.1.size)); clear hB))
    go_ret
    exact ⟨rfl, H3.out⟩
  | false =>
    rw [if_neg (by simp)]
    rw [hb] at AB
    have HW : Hid (wN (partsN space ++ partsN path) ≤ 1000000000) := by show _ ≤ _; omega
    have PAT : Hid (∀ W, Calls Tryz.prog 55 #[.string ⟨path.toArray⟩] W fun e w' => ∃ o c, e = .returned (.slice o (partsN path).length c) ∧ TxtRow w' (.slice o (partsN path).length c) (partsN path) ∧ Below W.heap.size W w') := fun W => (PA.out W).mono fun e w' ⟨r, he, ho, hB⟩ => by
      obtain ⟨o, c, rfl⟩ := owns_slice ho
      exact ⟨o, c, he, TxtRow.of_owns ho, hB⟩
    have PST : Hid (∀ W, Calls Tryz.prog 55 #[.string ⟨space.toArray⟩] W fun e w' => ∃ o c, e = .returned (.slice o (partsN space).length c) ∧ w'.ownsRow W.heap.size 9 1 (.slice o (partsN space).length c) (partsN space).length ((partsN space).map sv) ∧ Below W.heap.size W w') := fun W => (PS.out W).mono fun e w' ⟨r, he, ho, hB⟩ => by
      obtain ⟨o, c, rfl⟩ := owns_slice ho
      exact ⟨o, c, he, ho, hB⟩
    have hb1 : (partsN space).length ≤ 1000000 := by omega
    have hb2 : (partsN path).length ≤ 1000000 := by omega
    obtain ⟨ls, hls⟩ : ∃ ls, ls = partsN space := ⟨_, rfl⟩
    obtain ⟨lp, hlp⟩ : ∃ lp, lp = partsN path := ⟨_, rfl⟩
    rw [← hls, ← hlp] at HW ⊢
    rw [← hls] at PST hb1
    rw [← hlp] at PAT hb2
    obtain ⟨n1, hn1⟩ : ∃ n1, ls.length = n1 := ⟨_, rfl⟩
    obtain ⟨n2, hn2⟩ : ∃ n2, lp.length = n2 := ⟨_, rfl⟩
    have HN := Lib.hid (And.intro hn1 hn2)
    rw [hn1] at PST hb1
    rw [hn2] at PAT hb2
    clear hb h1 h2 w1 w2 l1 l2 wa hls hlp hn1 hn2 PA PS
    go_enter Tryz.func58, Tryz.ntmps58
    go_wp2_with (first | (go_at_call 79; refine (AB.out _).mono ?_; rintro e w1 ⟨rfl, rfl⟩) | (go_at_call_of 55 (Value.string ⟨space.toArray⟩); refine (PST.out _).mono ?_; rintro e w2 ⟨o1, c1, rfl, ho, hB⟩; have H2 := Lib.hid (And.intro hB ho); clear ho hB PST) | (go_at_call 55; refine (PAT.out _).mono ?_; rintro e w3 ⟨o2, c2, rfl, ht, hB⟩; have H3 := Lib.hid (And.intro (H2.out.1.trans (hB.mono H2.out.1.size)) (And.intro (ownsRow_kp H2.out.2 (kp_of_below hB) (by simp)) ht)); clear ht hB) | (at_builtin; go_loud (refine wpList_pushRow rfl (.tmp 11) (.tmp 13) 27 rfl w.heap.size 9 (.string ⟨#[]⟩) 16 Tryz.underlying27 infoStr rfl (.slice o1 n1 c1) n1 _ rfl H3.out.2.1 o2 n2 c2 lp rfl H3.out.2.2 (by unfold maxLen; omega) (by omega) H3.out.1.size ?_); intro v4 w4 hown4 hB4; have H4 := Lib.hid (And.intro (H3.out.1.trans hB4) (TxtRow.of_owns (ss := ls ++ lp) (by rw [List.length_append, List.map_append, HN.out.1, HN.out.2]; exact hown4))); clear hown4 hB4) | (go_at_call 57; refine (JO.out _ _ _ HW.out H4.out.2).mono ?_; rintro e w5 ⟨rfl, hB⟩; have H5 := Lib.hid (H4.out.1.trans (hB.mono H4.out.1.size)); clear hB))
    go_ret
    exact ⟨rfl, H5.out⟩
end Go.Proofs.YtjgdfgpnmmkjfaaGreatDoor
