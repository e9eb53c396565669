/- NamesPaths: the walks of package names: colons, bared, Parts. NamesPaths: Parts of package names. NamesPaths: Absolute, joined, Canonical, last, Head, Tail of package names. NamesPaths: last, Head, Tail of package names. NamesPaths: the reference: Absolute, of, cut, Tail. -/
import Derived.Test.YtjgdfgpnmmkjfaaGreatDoorNBase
import Derived.Test.YtjgdfgpnmmkjfaaGreatDoorNPlain
import Derived.Test.YtjgdfgpnmmkjfaaGreatDoorShelf
import Derived.WalkMore
namespace Go.Proofs.YtjgdfgpnmmkjfaaGreatDoor
set_option linter.unusedVariables false
set_option linter.unusedSimpArgs false
open Go.RowKit

theorem trim_col : ∀ s : Bs, Lib.trimLeftB s 58 = s.drop (col s)
  | [] => rfl
  | c :: r => by
    have h := trim_col r
    unfold Lib.trimLeftB at h ⊢
    rw [List.dropWhile_cons, col]
    by_cases hc : c = 58
    · rw [if_pos hc, if_pos (by simp [hc]), h]; rfl
    · rw [if_neg hc, if_neg (by simp [hc])]; rfl
theorem trimR_len (s : Bs) : (Lib.trimRightB s 58).length + col s.reverse = s.length := by
  have h := trim_col s.reverse
  unfold Lib.trimLeftB at h
  unfold Lib.trimRightB
  rw [List.length_reverse, h, List.length_drop, List.length_reverse]
  have := col_le s.reverse
  rw [List.length_reverse] at this
  omega
theorem col_one : ∀ r : Bs, col r = 1 ↔ (r.head? = some 58 ∧ r.tail.head? ≠ some 58)
  | [] => by simp [col]
  | [c] => by simp [col]
  | c :: d :: r => by
    simp only [col, List.head?_cons, List.tail_cons]
    by_cases hc : c = 58 <;> by_cases hd : d = 58 <;> simp [hc, hd]
theorem bareR_col (s : Bs) : bareR s = if col s.reverse = 1 then s.take (s.length - 1) else s := by
  unfold bareR
  rw [← List.dropLast_eq_take]
  have h := col_one s.reverse
  rw [List.head?_reverse, List.tail_reverse, List.head?_reverse] at h
  by_cases h1 : col s.reverse = 1
  · rw [if_pos h1, if_pos (h.1 h1)]
  · rw [if_neg h1, if_neg (fun e => h1 (h.2 e))]
theorem colons_any (s : Bs) (hs : s.length ≤ 1000000) (w : World) : Calls Tryz.prog 64 #[.string ⟨s.toArray⟩] w fun e w' => e = .returned (.int .i64 (col s : Int)) ∧ w = w' := by
  obtain ⟨u, hu⟩ : ∃ u, u = s.drop (col s) := ⟨_, rfl⟩
  have hul : u.length + col s = s.length := by rw [hu, List.length_drop]; have := col_le s; omega
  have TL : Hid (∀ W, Calls Tryz.prog 94 #[.string ⟨s.toArray⟩, .string ⟨#[58]⟩] W fun e w' => e = .returned (.string ⟨u.toArray⟩) ∧ W = w') := fun W => by
    have h := Tryz.strings_TrimLeft_one ⟨s.toArray⟩ 58 (by decide) W
    rw [show Lib.trimLeftB (⟨s.toArray⟩ : ByteArray).data.toList 58 = u by rw [hu]; exact trim_col s] at h
    exact h.mono fun e w' ⟨h1, h2⟩ => ⟨h1, h2.symm⟩
  clear hu
  generalize col s = n at *
  have hw : IntKind.i64.wrap ((s.length : Int) - (u.length : Int)) = (n : Int) := by rw [IntWalk.i64_in _ (by omega)]; omega
  go_enter Tryz.func64, Tryz.ntmps64
  go_wp2_with (go_at_call 94; refine (TL.out _).mono ?_; rintro e w1 ⟨rfl, rfl⟩)
  go_ret
  exact ⟨ret_int (by omega), rfl⟩
set_option maxHeartbeats 1600000 in
theorem bared_any (s : Bs) (hs : s.length ≤ 1000000) (w : World) : Calls Tryz.prog 65 #[.string ⟨s.toArray⟩] w fun e w' => e = .returned (.string ⟨(bareR (bareL s)).toArray⟩) ∧ w = w' := by
  have CO : Hid (∀ W, Calls Tryz.prog 64 #[.string ⟨s.toArray⟩] W fun e w' => e = .returned (.int .i64 (col s : Int)) ∧ W = w') := fun W => colons_any s hs W
  have hcl := col_le s
  obtain ⟨t, ht⟩ : ∃ t, t = bareL s := ⟨_, rfl⟩
  have htl : t.length ≤ 1000000 := by rw [ht]; unfold bareL; split; (rw [List.length_drop]; omega); omega
  have hRl := trimR_len t
  obtain ⟨u, hu⟩ : ∃ u, u = Lib.trimRightB t 58 := ⟨_, rfl⟩
  rw [← hu] at hRl
  have TR : Hid (∀ W, Calls Tryz.prog 95 #[.string ⟨t.toArray⟩, .string ⟨#[58]⟩] W fun e w' => e = .returned (.string ⟨u.toArray⟩) ∧ W = w') := fun W => by
    have h := Tryz.strings_TrimRight_one ⟨t.toArray⟩ 58 (by decide) W (show t.length ≤ _ from by omega)
    rw [show Lib.trimRightB (⟨t.toArray⟩ : ByteArray).data.toList 58 = u from hu.symm] at h
    exact h.mono fun e w' ⟨h1, h2⟩ => ⟨h1, h2.symm⟩
  rw [← ht, bareR_col]
  generalize col t.reverse = m at *
  have hRes : Hid ((if m = 1 then t.take (t.length - 1) else t) = bareR (bareL s) ∨ True) := .inr trivial
  by_cases h1 : col s = 1
  · have hs2 : s = 58 :: t := by
      cases s with
      | nil => simp [col] at h1
      | cons c r =>
        have hc : c = 58 := by
          rcases Classical.em (c = 58) with h | h
          · exact h
          · rw [col, if_neg h] at h1; cases h1
        rw [ht]; unfold bareL; rw [if_pos h1, hc]; rfl
    rw [h1] at CO hcl
    subst hs2
    clear ht h1 hu hRes
    by_cases h2 : m = 1
    · rw [if_pos h2]
      subst h2
      have hw : IntKind.i64.wrap ((t.length : Int) - (u.length : Int)) = 1 := by rw [IntWalk.i64_in _ (by omega)]; omega
      go_enter Tryz.func65, Tryz.ntmps65
      go_wp2_with (first | (go_at_call 64; refine (CO.out _).mono ?_; rintro e w1 ⟨rfl, rfl⟩) | (go_at_call 95; refine (TR.out _).mono ?_; rintro e w2 ⟨rfl, rfl⟩))
      go_ret
      exact ⟨rfl, rfl⟩
    · rw [if_neg h2]
      have h3 : ((t.length : Int) - (u.length : Int) == 1) = false := by rw [beq_eq_false_iff_ne]; omega
      go_enter Tryz.func65, Tryz.ntmps65
      go_wp2_with (first | (go_at_call 64; refine (CO.out _).mono ?_; rintro e w1 ⟨rfl, rfl⟩) | (go_at_call 95; refine (TR.out _).mono ?_; rintro e w2 ⟨rfl, rfl⟩))
      go_ret
      exact ⟨rfl, rfl⟩
  · have ht2 : t = s := by rw [ht]; unfold bareL; rw [if_neg h1]
    have h1' : ((col s : Int) == 1) = false := by rw [beq_eq_false_iff_ne]; omega
    subst ht2
    clear ht hu hRes
    generalize col t = k at *
    by_cases h2 : m = 1
    · rw [if_pos h2]
      subst h2
      have hw : IntKind.i64.wrap ((t.length : Int) - (u.length : Int)) = 1 := by rw [IntWalk.i64_in _ (by omega)]; omega
      go_enter Tryz.func65, Tryz.ntmps65
      go_wp2_with (first | (go_at_call 64; refine (CO.out _).mono ?_; rintro e w1 ⟨rfl, rfl⟩) | (go_at_call 95; refine (TR.out _).mono ?_; rintro e w2 ⟨rfl, rfl⟩))
      go_ret
      exact ⟨rfl, rfl⟩
    · rw [if_neg h2]
      have h3 : ((t.length : Int) - (u.length : Int) == 1) = false := by rw [beq_eq_false_iff_ne]; omega
      go_enter Tryz.func65, Tryz.ntmps65
      go_wp2_with (first | (go_at_call 64; refine (CO.out _).mono ?_; rintro e w1 ⟨rfl, rfl⟩) | (go_at_call 95; refine (TR.out _).mono ?_; rintro e w2 ⟨rfl, rfl⟩))
      go_ret
      exact ⟨rfl, rfl⟩
end Go.Proofs.YtjgdfgpnmmkjfaaGreatDoor
namespace Go.Proofs.YtjgdfgpnmmkjfaaGreatDoor
set_option linter.unusedVariables false
set_option linter.unusedSimpArgs false
open Go.RowKit

theorem part_snoc {p : Bs} {a b : Nat} (ha : a ≤ b) (hb : b < p.length) : (p.drop a).take (b + 1 - a) = (p.drop a).take (b - a) ++ [p[b]] := by
  have h1 : b - a < (p.drop a).length := by rw [List.length_drop]; omega
  rw [show b + 1 - a = b - a + 1 by omega, List.take_succ_eq_append_getElem h1, List.getElem_drop]
  congr 2
  simp [show a + (b - a) = b by omega]
theorem bare_len (s : Bs) : (bareR (bareL s)).length ≤ s.length := by
  have h1 : (bareL s).length ≤ s.length := by unfold bareL; split; (rw [List.length_drop]; omega); omega
  have h2 : (bareR (bareL s)).length ≤ (bareL s).length := by unfold bareR; split; (rw [List.length_dropLast]; omega); omega
  omega
/-- What 'Parts' gives. -/
def PartsR (w : World) (s : Bs) (e : Ending) (w' : World) : Prop := ∃ r, e = .returned r ∧ w'.ownsRow w.heap.size 9 1 r (partsN s).length ((partsN s).map sv) ∧ Below w.heap.size w w'
set_option maxRecDepth 100000 in
set_option maxHeartbeats 1600000 in
theorem Parts_any (s : Bs) (hs : s.length ≤ 1000000) (w : World) : Calls Tryz.prog 34 #[.string ⟨s.toArray⟩] w (PartsR w s) := by
  have BA : Hid (∀ W, Calls Tryz.prog 65 #[.string ⟨s.toArray⟩] W fun e w' => e = .returned (.string ⟨(bareR (bareL s)).toArray⟩) ∧ W = w') := fun W => bared_any s hs W
  have hpl := bare_len s
  obtain ⟨p, hp⟩ : ∃ p, p = bareR (bareL s) := ⟨_, rfl⟩
  have hpt : partsN s = goN (some []) p := by unfold partsN; rw [hp]
  rw [← hp] at BA hpl
  have CO : Hid (∀ (k : Nat) W, Calls Tryz.prog 64 #[.string ⟨(p.drop k).toArray⟩] W fun e w' => e = .returned (.int .i64 (col (p.drop k) : Int)) ∧ W = w') := fun k W => colons_any _ (by rw [List.length_drop]; omega) W
  unfold PartsR
  have HS := Lib.hid hpt
  clear hp
  obtain ⟨l, hl⟩ : ∃ l, partsN s = l := ⟨_, rfl⟩
  rw [hl] at HS ⊢
  have hp1 : p.length ≤ 1000000 := by omega
  clear hpl hl hpt
  go_enter Tryz.func34, Tryz.ntmps34
  go_wp2_with fail
  go_step3
  go_wp2_with (go_at_call 65; refine (BA.out _).mono ?_; rintro e w1 ⟨rfl, rfl⟩)
  go_step3
  go_wp2_with fail
  go_loopg [3, 4, 5, 6] p.length (fun g out fr i n wr => ∃ (a b : Nat) (pre : List Bs) (ao : Option Addr) (k cap : Nat), a ≤ b ∧ b + g = p.length ∧ fr = .int .i64 (a : Int) ∧ i = .int .i64 (b : Int) ∧ out = .slice ao k cap ∧ k ≤ b ∧ Hid (k = pre.length) ∧ Hid (wr.ownsRow w.heap.size 9 1 (.slice ao k cap) k (pre.map sv)) ∧ Hid (pre ++ goN (some ((p.drop a).take (b - a))) (p.drop b) = l) ∧ Below w.heap.size w wr)
  case atStart => exact ⟨0, 0, [], none, 0, 0, by omega, by omega, rfl, rfl, rfl, by omega, rfl, World.ownsRow_nil _ _ _ _, by show _ = _; rw [HS.out]; simp, Below.refl _ _⟩
  case round =>
    obtain ⟨a, b, pre, ao, k, cap, hab, hbg, rfl, rfl, rfl, hkb, HK, HO, HI, hb⟩ := hrel
    have HB := Lib.hid hb
    have hk2 : k ≤ 1000000 := by omega
    by_cases hlt : b < p.length
    · have hcl := col_le (p.drop b)
      rw [List.length_drop] at hcl
      have CO2 := Lib.hid (CO.out b)
      have HG := Lib.hid (And.intro hab (And.intro hbg (And.intro hlt hkb)))
      have t0 : decide ((b : Int) < (p.length : Int)) = true := by rw [decide_eq_true_eq]; omega
      by_cases h2 : 2 ≤ col (p.drop b)
      · have HE : Hid (goN (some ((p.drop a).take (b - a))) (p.drop b) = emitP ((p.drop a).take (b - a)) ++ goN (some []) (p.drop (b + col (p.drop b)))) := by
          show _ = _
          rw [goN_sep h2, List.drop_drop]
        generalize col (p.drop b) = n at *
        have HN := Lib.hid (And.intro h2 hcl)
        have t1 : decide ((2 : Int) ≤ (n : Int)) = true := by rw [decide_eq_true_eq]; omega
        by_cases h3 : a < b
        · have t2 : decide ((a : Int) < (b : Int)) = true := by rw [decide_eq_true_eq]; omega
          have HEM : Hid (emitP ((p.drop a).take (b - a)) = [(p.drop a).take (b - a)]) := by
            show _ = _
            unfold emitP
            rw [if_neg]
            intro h
            have := congrArg List.length h
            rw [List.length_take, List.length_drop] at this
            simp at this; omega
          have HA : Hid ((pre ++ [(p.drop a).take (b - a)]) ++ goN (some ((p.drop (b + n)).take (b + n - (b + n)))) (p.drop (b + n)) = l) := by
            show _ = _
            rw [← HI.out, HE.out, HEM.out]; simp
          clear HI HE HEM hb hkb
          go_wp2_with (first | (go_at_call 64; refine (CO2.out _).mono ?_; rintro e w2 ⟨rfl, rfl⟩) | (at_builtin; go_loud (refine wpList_push rfl (.tmp 25) (.tmp 30) 27 rfl w.heap.size 9 (.string ⟨#[]⟩) 16 Tryz.underlying27 infoStr rfl (.slice ao k cap) k _ rfl HO.out (.string ⟨((p.drop a).take (b - a)).toArray⟩) _ rfl rfl (by unfold maxLen; omega) (by omega) HB.out.size ?_); intro g1 c1 w3 hg1 hown3 hb3 _; have H3 := Lib.hid (And.intro hown3 hb3); clear hg1 hown3 hb3))
          go_roundg (gk - n)
          case measure => have := HG.out; have := HN.out; omega
          case rel => have h1 := HG.out; have h2 := HN.out; have h3 := HK.out; exact ⟨b + n, b + n, _, _, k + 1, c1, Nat.le_refl _, by omega, by push_cast; rfl, by push_cast; rfl, rfl, by omega, by show _ = _; rw [List.length_append, h3]; rfl, by show World.ownsRow _ _ _ _ _ _ _; rw [List.map_append]; exact H3.out.1, HA, HB.out.trans H3.out.2⟩
        · have t2 : decide ((a : Int) < (b : Int)) = false := by rw [decide_eq_false_iff_not]; omega
          have HA : Hid (pre ++ goN (some ((p.drop (b + n)).take (b + n - (b + n)))) (p.drop (b + n)) = l) := by
            show _ = _
            rw [← HI.out, HE.out, show b - a = 0 by omega]; simp [emitP]
          clear HI HE hb hkb
          go_wp2_with (go_at_call 64; refine (CO2.out _).mono ?_; rintro e w2 ⟨rfl, rfl⟩)
          go_roundg (gk - n)
          case measure => have := HG.out; have := HN.out; omega
          case rel => have h1 := HG.out; have h2 := HN.out; have h3 := HK.out; exact ⟨b + n, b + n, _, _, k, cap, Nat.le_refl _, by omega, by push_cast; rfl, by push_cast; rfl, rfl, by omega, HK, HO, HA, HB.out⟩
      · have HA : Hid (pre ++ goN (some ((p.drop a).take (b + 1 - a))) (p.drop (b + 1)) = l) := by
          show _ = _
          have h5 := HI.out
          rw [List.drop_eq_getElem_cons hlt] at h2 h5
          rw [goN_char (by omega), ← part_snoc hab hlt] at h5
          exact h5
        generalize col (p.drop b) = n at *
        have t1 : decide ((2 : Int) ≤ (n : Int)) = false := by rw [decide_eq_false_iff_not]; omega
        have hn : n = 0 ∨ n = 1 := by omega
        clear HI hb hkb
        rcases hn with rfl | rfl
        all_goals
          go_wp2_with (go_at_call 64; refine (CO2.out _).mono ?_; rintro e w2 ⟨rfl, rfl⟩)
          go_roundg (gk - 1)
          case measure => have := HG.out; omega
          case rel => have h1 := HG.out; have h3 := HK.out; exact ⟨a, b + 1, _, _, k, cap, by omega, by omega, rfl, by push_cast; rfl, rfl, by omega, HK, HO, HA, HB.out⟩
    · obtain rfl : b = p.length := by omega
      have t0 : decide ((p.length : Int) < (p.length : Int)) = false := by rw [decide_eq_false_iff_not]; omega
      have h5 := HI.out
      rw [List.drop_length, List.take_of_length_le (by rw [List.length_drop]; omega)] at h5
      by_cases h3 : a < p.length
      · have t2 : decide ((a : Int) < (p.length : Int)) = true := by rw [decide_eq_true_eq]; omega
        have HA : Hid (l = pre ++ [p.drop a]) := by
          show _ = _
          rw [← h5, goN, emitP, if_neg]
          intro h
          have := congrArg List.length h
          rw [List.length_drop] at this
          simp at this; omega
        clear HI hb hkb h5
        go_wp2_with (at_builtin; go_loud (refine wpList_push rfl (.tmp 45) (.tmp 49) 27 rfl w.heap.size 9 (.string ⟨#[]⟩) 16 Tryz.underlying27 infoStr rfl (.slice ao k cap) k _ rfl HO.out (.string ⟨(p.drop a).toArray⟩) _ rfl rfl (by unfold maxLen; omega) (by omega) HB.out.size ?_); intro g1 c1 w3 hg1 hown3 hb3 _; have H3 := Lib.hid (And.intro hown3 hb3); clear hg1 hown3 hb3)
        try rw [Exit.noGoto_ret]
        go_ret
        refine ⟨_, rfl, ?_, HB.out.trans H3.out.2⟩
        rw [HA.out, List.length_append, List.map_append, ← HK.out]
        exact H3.out.1
      · have t2 : decide ((a : Int) < (p.length : Int)) = false := by rw [decide_eq_false_iff_not]; omega
        have HA : Hid (l = pre) := by
          show _ = _
          rw [← h5, goN, emitP, if_pos (List.drop_eq_nil_of_le (by omega)), List.append_nil]
        clear HI hb hkb h5
        go_wp2_with fail
        try rw [Exit.noGoto_ret]
        go_ret
        refine ⟨_, rfl, ?_, HB.out⟩
        rw [HA.out, ← HK.out]
        exact HO.out
end Go.Proofs.YtjgdfgpnmmkjfaaGreatDoor
namespace Go.Proofs.YtjgdfgpnmmkjfaaGreatDoor
set_option linter.unusedVariables false
set_option linter.unusedSimpArgs false
open Go.RowKit

def wN : List Bs → Nat
  | [] => 0
  | p :: r => p.length + 2 + wN r
theorem wN_app (a b : List Bs) : wN (a ++ b) = wN a + wN b := by
  induction a with
  | nil => simp [wN]
  | cons x r ih => simp only [List.cons_append, wN, ih]; omega
theorem wN_emit (p : Bs) : wN (emitP p) ≤ p.length + 2 := by unfold emitP; split <;> simp [wN]
theorem goN_w : ∀ s : Bs, wN (goN none s) ≤ 3 * s.length ∧ ∀ p, wN (goN (some p) s) ≤ p.length + 2 + 3 * s.length
  | [] => ⟨by simp [goN, wN], fun p => by rw [goN]; have := wN_emit p; omega⟩
  | c :: r => by
    obtain ⟨h1, h2⟩ := goN_w r
    refine ⟨?_, fun p => ?_⟩
    · rw [goN, List.length_cons]
      split
      · omega
      · have := h2 [c]; simp at this; omega
    · rw [goN, List.length_cons]
      split
      · rw [wN_app]; have := wN_emit p; omega
      · have := h2 (p ++ [c]); rw [List.length_append] at this; simp at this; omega
theorem parts_w (s : Bs) : wN (partsN s) ≤ 2 + 3 * s.length := by
  have h1 := (goN_w (bareR (bareL s))).2 []
  have h2 := bare_len s
  unfold partsN
  simp at h1
  omega
theorem join_w : ∀ l : List Bs, (joinN l).length ≤ wN l
  | [] => Nat.le_refl _
  | [p] => by simp [joinN, wN]
  | p :: q :: r => by
    have h := join_w (q :: r)
    rw [joinN, wN]
    · rw [List.length_append, List.length_cons, List.length_cons]; omega
    · simp
theorem len_w : ∀ l : List Bs, l.length ≤ wN l
  | [] => Nat.le_refl _
  | p :: r => by have h := len_w r; simp only [List.length_cons, wN]; omega
theorem join_lib : ∀ l : List Bs, Lib.join l [58, 58] = joinN l
  | [] => rfl
  | [x] => by simp [Lib.join_one, joinN]
  | x :: y :: r => by
    have h := join_lib (y :: r)
    rw [Lib.join_cons] at h
    rw [Lib.join_cons, joinN]
    · rw [← h]
      simp [Lib.joinTail]
    · simp
theorem abs_lib (s : Bs) : Lib.hasPrefix s [58, 58] = absN s := by
  match s with
  | [] => rfl
  | [c] =>
    have : absN [c] = false := by
      unfold absN
      split
      · rename_i e; simp at e
      · rfl
    rw [this]
    simp [Lib.hasPrefix, List.isPrefixOf]
  | c :: d :: r =>
    by_cases hc : c = 58
    · subst hc
      by_cases hd : d = 58
      · subst hd; simp [Lib.hasPrefix, absN, List.isPrefixOf]
      · rw [abs_not_head (.inr hd)]
        simp [Lib.hasPrefix, List.isPrefixOf]; exact fun e => hd e.symm
    · rw [abs_not_head (.inl hc)]
      simp [Lib.hasPrefix, List.isPrefixOf]; exact fun e => absurd e.symm hc
theorem Absolute_any (s : Bs) (w : World) : Calls Tryz.prog 18 #[.string ⟨s.toArray⟩] w fun e w' => e = .returned (.bool (absN s)) ∧ w = w' := by
  have HP : Hid (∀ W, Calls Tryz.prog 40 #[.string ⟨s.toArray⟩, .string ⟨#[58, 58]⟩] W fun e w' => e = .returned (.bool (absN s)) ∧ W = w') := fun W => by
    have h := Tryz.strings_HasPrefix ⟨s.toArray⟩ ⟨#[58, 58]⟩ W
    rw [show Lib.hasPrefix (⟨s.toArray⟩ : ByteArray).data.toList (⟨#[58, 58]⟩ : ByteArray).data.toList = absN s from abs_lib s] at h
    exact h.mono fun e w' ⟨h1, h2⟩ => ⟨h1, h2.symm⟩
  generalize absN s = b at *
  go_enter Tryz.func18, Tryz.ntmps18
  go_wp2_with (go_at_call 40; refine (HP.out _).mono ?_; rintro e w1 ⟨rfl, rfl⟩)
  go_ret
  exact ⟨rfl, rfl⟩
theorem joinS_any (l : List Bs) (v : Value) (w : World) (ht : TxtRow w v l) (hw : wN l ≤ 1000000000) : Calls Tryz.prog 66 #[v, .string ⟨#[58, 58]⟩] w fun e w' => e = .returned (.string ⟨(joinN l).toArray⟩) ∧ Below w.heap.size w w' := by
  have hl := len_w l
  have hj := join_w l
  obtain ⟨o', cap, rfl, hcc, hcm, hcell⟩ := ht
  rcases Nat.eq_zero_or_pos l.length with h0 | h0
  · have hss : l = [] := List.eq_nil_of_length_eq_zero h0
    subst hss
    exact (Tryz.strings_Join_none o' cap ⟨#[58, 58]⟩ w).mono fun e w' ⟨h1, h2⟩ => ⟨h1, h2 ▸ Below.refl _ _⟩
  · obtain ⟨b, off, rfl, hb, _⟩ := hcell 0 (by simpa using h0)
    have hq : ((l.map fun x => (⟨x.toArray⟩ : ByteArray)).map (·.data.toList)) = l := by rw [List.map_map]; exact (List.map_congr_left fun x _ => rfl).trans (List.map_id l)
    have h := Tryz.strings_Join b off cap (l.map fun x => ⟨x.toArray⟩) ⟨#[58, 58]⟩ w (fun j x hj => by
      have hjl : j < l.length := by
        rcases Nat.lt_or_ge j l.length with h | h
        · exact h
        · rw [List.getElem?_eq_none (by simpa using h)] at hj; cases hj
      obtain ⟨b', off', e, _, hc⟩ := hcell j hjl
      cases e
      rw [hc]
      rw [List.getElem?_map, List.getElem?_eq_getElem hjl] at hj
      cases hj
      simp [sv]) hb (by simp; omega) (by simpa using hcc) (by rw [hq]; show (Lib.join l [58, 58]).length ≤ _; rw [join_lib]; omega)
    rw [hq] at h
    rw [List.length_map] at h
    have h2 : Lib.join l (⟨#[58, 58]⟩ : ByteArray).data.toList = joinN l := join_lib l
    rw [h2] at h
    exact h
theorem joined_any (l : List Bs) (v : Value) (w : World) (ht : TxtRow w v l) (hw : wN l ≤ 1000000000) : Calls Tryz.prog 35 #[v] w fun e w' => e = .returned (.string ⟨(canN l).toArray⟩) ∧ Below w.heap.size w w' := by
  have JO := Lib.hid (joinS_any l v w ht hw)
  have hj := join_w l
  unfold canN
  generalize joinN l = j at *
  have hjl : j.length ≤ 1000000000 := by omega
  clear ht hw hj
  go_enter Tryz.func35, Tryz.ntmps35
  go_wp2_with (go_at_call 66; refine JO.out.mono ?_; rintro e w1 ⟨rfl, hB⟩; have H1 := Lib.hid hB; clear hB)
  go_ret
  refine ⟨?_, H1.out⟩
  show Ending.returned (.string ((⟨([58, 58] : Bs).toArray⟩ : ByteArray) ++ ⟨j.toArray⟩)) = _
  rw [ba_append]; rfl
set_option maxHeartbeats 800000 in
theorem Canonical_any (space path : Bs) (h1 : space.length ≤ 100000) (h2 : path.length ≤ 100000) (w : World) : Calls Tryz.prog 19 #[.string ⟨space.toArray⟩, .string ⟨path.toArray⟩] w fun e w' => e = .returned (.string ⟨(canonN space path).toArray⟩) ∧ Below w.heap.size w w' := by
  have AB : Hid (∀ W, Calls Tryz.prog 18 #[.string ⟨path.toArray⟩] W fun e w' => e = .returned (.bool (absN path)) ∧ W = w') := fun W => Absolute_any path W
  have w1 := parts_w path
  have w2 := parts_w space
  have l1 := len_w (partsN path)
  have l2 := len_w (partsN space)
  have PA : Hid (∀ W, Calls Tryz.prog 34 #[.string ⟨path.toArray⟩] W (PartsR W path)) := fun W => Parts_any path (by omega) W
  have PS : Hid (∀ W, Calls Tryz.prog 34 #[.string ⟨space.toArray⟩] W (PartsR W space)) := fun W => Parts_any space (by omega) W
  have JO : Hid (∀ W v l, wN l ≤ 1000000000 → TxtRow W v l → Calls Tryz.prog 35 #[v] W fun e w' => e = .returned (.string ⟨(canN l).toArray⟩) ∧ Below W.heap.size W w') := fun W v l q ht => joined_any l v W ht q
  have wa := wN_app (partsN space) (partsN path)
  unfold canonN
  cases hb : absN path with
  | true =>
    rw [if_pos rfl]
    rw [hb] at AB
    have HW : Hid (wN (partsN path) ≤ 1000000000) := by show _ ≤ _; omega
    clear hb h1 h2 w1 w2 l1 l2 wa
    go_enter Tryz.func19, Tryz.ntmps19
    go_wp2_with (first | (go_at_call 18; refine (AB.out _).mono ?_; rintro e w1 ⟨rfl, rfl⟩) | (go_at_call 34; refine (PA.out _).mono ?_; rintro e w2 ⟨r, rfl, ho, hB⟩; have H2 := Lib.hid (And.intro hB (TxtRow.of_owns ho)); clear ho hB) | (go_at_call 35; refine (JO.out _ _ _ HW.out H2.out.2).mono ?_; rintro e w3 ⟨rfl, hB⟩; have H3 := Lib.hid (H2.out.1.trans (hB.mono H2.out.1.size)); clear hB))
    go_ret
    exact ⟨rfl, H3.out⟩
  | false =>
    rw [if_neg (by simp)]
    rw [hb] at AB
    have HW : Hid (wN (partsN space ++ partsN path) ≤ 1000000000) := by show _ ≤ _; omega
    have PAT : Hid (∀ W, Calls Tryz.prog 34 #[.string ⟨path.toArray⟩] W fun e w' => ∃ o c, e = .returned (.slice o (partsN path).length c) ∧ TxtRow w' (.slice o (partsN path).length c) (partsN path) ∧ Below W.heap.size W w') := fun W => (PA.out W).mono fun e w' ⟨r, he, ho, hB⟩ => by
      obtain ⟨o, c, rfl⟩ := owns_slice ho
      exact ⟨o, c, he, TxtRow.of_owns ho, hB⟩
    have PST : Hid (∀ W, Calls Tryz.prog 34 #[.string ⟨space.toArray⟩] W fun e w' => ∃ o c, e = .returned (.slice o (partsN space).length c) ∧ w'.ownsRow W.heap.size 9 1 (.slice o (partsN space).length c) (partsN space).length ((partsN space).map sv) ∧ Below W.heap.size W w') := fun W => (PS.out W).mono fun e w' ⟨r, he, ho, hB⟩ => by
      obtain ⟨o, c, rfl⟩ := owns_slice ho
      exact ⟨o, c, he, ho, hB⟩
    have hb1 : (partsN space).length ≤ 1000000 := by omega
    have hb2 : (partsN path).length ≤ 1000000 := by omega
    obtain ⟨ls, hls⟩ : ∃ ls, ls = partsN space := ⟨_, rfl⟩
    obtain ⟨lp, hlp⟩ : ∃ lp, lp = partsN path := ⟨_, rfl⟩
    rw [← hls, ← hlp] at HW ⊢
    rw [← hls] at PST hb1
    rw [← hlp] at PAT hb2
    obtain ⟨n1, hn1⟩ : ∃ n1, ls.length = n1 := ⟨_, rfl⟩
    obtain ⟨n2, hn2⟩ : ∃ n2, lp.length = n2 := ⟨_, rfl⟩
    have HN := Lib.hid (And.intro hn1 hn2)
    rw [hn1] at PST hb1
    rw [hn2] at PAT hb2
    clear hb h1 h2 w1 w2 l1 l2 wa hls hlp hn1 hn2 PA PS
    go_enter Tryz.func19, Tryz.ntmps19
    go_wp2_with (first | (go_at_call 18; refine (AB.out _).mono ?_; rintro e w1 ⟨rfl, rfl⟩) | (go_at_call_of 34 (Value.string ⟨space.toArray⟩); refine (PST.out _).mono ?_; rintro e w2 ⟨o1, c1, rfl, ho, hB⟩; have H2 := Lib.hid (And.intro hB ho); clear ho hB PST) | (go_at_call 34; refine (PAT.out _).mono ?_; rintro e w3 ⟨o2, c2, rfl, ht, hB⟩; have H3 := Lib.hid (And.intro (H2.out.1.trans (hB.mono H2.out.1.size)) (And.intro (ownsRow_kp H2.out.2 (kp_of_below hB) (by simp)) ht)); clear ht hB) | (at_builtin; go_loud (refine wpList_pushRow rfl (.tmp 11) (.tmp 13) 27 rfl w.heap.size 9 (.string ⟨#[]⟩) 16 Tryz.underlying27 infoStr rfl (.slice o1 n1 c1) n1 _ rfl H3.out.2.1 o2 n2 c2 lp rfl H3.out.2.2 (by unfold maxLen; omega) (by omega) H3.out.1.size ?_); intro v4 w4 hown4 hB4; have H4 := Lib.hid (And.intro (H3.out.1.trans hB4) (TxtRow.of_owns (ss := ls ++ lp) (by rw [List.length_append, List.map_append, HN.out.1, HN.out.2]; exact hown4))); clear hown4 hB4) | (go_at_call 35; refine (JO.out _ _ _ HW.out H4.out.2).mono ?_; rintro e w5 ⟨rfl, hB⟩; have H5 := Lib.hid (H4.out.1.trans (hB.mono H4.out.1.size)); clear hB))
    go_ret
    exact ⟨rfl, H5.out⟩
end Go.Proofs.YtjgdfgpnmmkjfaaGreatDoor
namespace Go.Proofs.YtjgdfgpnmmkjfaaGreatDoor
set_option linter.unusedVariables false
set_option linter.unusedSimpArgs false
open Go.RowKit

theorem col_none {s : Bs} {k : Nat} (h : s[k]? ≠ some 58) : col (s.drop k) = 0 := by
  cases hd : s.drop k with
  | nil => rfl
  | cons c r =>
    refine col_zero (fun e => h ?_)
    have := congrArg (·[0]?) hd
    simp at this
    rw [this, e]
/-- Behind the run that begins at b. -/
theorem last_run {s : Bs} {b : Nat} (h : RunAt s b) : ∀ m, 1 ≤ m → m ≤ col (s.drop b) → lastN s (b + m) = some (b, b + col (s.drop b))
  | 0, h1, _ => by omega
  | 1, _, _ => by rw [lastN]; exact if_pos h
  | m + 2, _, h2 => by
    have ih := last_run h (m + 1) (by omega) (by omega)
    rw [show b + (m + 2) = b + (m + 1) + 1 by omega, lastN, if_neg, ih]
    rintro ⟨_, h3 | h3⟩
    · omega
    · apply h3
      obtain ⟨q1, _⟩ := col_take (s.drop b)
      have hl := col_le (s.drop b)
      have hm : ((s.drop b).take (col (s.drop b)))[m]? = some ((s.drop b)[m]'(by omega)) := by
        rw [List.getElem?_take, if_pos (by omega), List.getElem?_eq_getElem (by omega)]
      have := q1 _ (List.mem_of_getElem? hm)
      rw [List.getElem_drop] at this
      rw [show b + (m + 1) - 1 = b + m by omega, List.getElem?_eq_getElem (by rw [List.length_drop] at hl; omega), this]
theorem last_skip {s : Bs} {b : Nat} (h : col (s.drop b) < 2) : lastN s (b + 1) = lastN s b := by
  rw [lastN, if_neg (fun e => by have := e.1; omega)]
def fromI (o : Option (Nat × Nat)) : Int := match o with | none => -1 | some p => (p.1 : Int)
def toI (o : Option (Nat × Nat)) : Int := match o with | none => 0 | some p => (p.2 : Int)
/-- The loop of 'last' is not within a run. -/
def OutR (s : Bs) (b : Nat) : Prop := b = 0 ∨ s[b-1]? ≠ some 58 ∨ s[b]? ≠ some 58
set_option maxRecDepth 100000 in
set_option maxHeartbeats 800000 in
theorem last_any (s : Bs) (hs : s.length ≤ 1000000) (w : World) : Calls Tryz.prog 33 #[.string ⟨s.toArray⟩] w fun e w' => e = .returned (.tuple #[.int .i64 (fromI (cutN s)), .int .i64 (toI (cutN s))]) ∧ w = w' := by
  have CO : Hid (∀ (k : Nat) W, Calls Tryz.prog 64 #[.string ⟨(s.drop k).toArray⟩] W fun e w' => e = .returned (.int .i64 (col (s.drop k) : Int)) ∧ W = w') := fun k W => colons_any _ (by rw [List.length_drop]; omega) W
  go_enter Tryz.func33, Tryz.ntmps33
  go_wp2_with fail
  go_loopg [2, 3, 4, 5] s.length (fun g fr to i n wr => ∃ (b : Nat) (x y : Int), b + g = s.length ∧ i = .int .i64 (b : Int) ∧ fr = .int .i64 x ∧ to = .int .i64 y ∧ w = wr ∧ Hid (OutR s b ∧ x = fromI (lastN s b) ∧ y = toI (lastN s b)))
  case atStart => exact ⟨0, -1, 0, by omega, rfl, rfl, rfl, rfl, .inl rfl, rfl, rfl⟩
  case round =>
    obtain ⟨b, x, y, hbg, rfl, rfl, rfl, rfl, HI⟩ := hrel
    by_cases hlt : b < s.length
    · have hcl := col_le (s.drop b)
      rw [List.length_drop] at hcl
      have CO2 := Lib.hid (CO.out b)
      have t0 : decide ((b : Int) < (s.length : Int)) = true := by rw [decide_eq_true_eq]; omega
      by_cases h2 : 2 ≤ col (s.drop b)
      · have hrun : RunAt s b := by
          refine ⟨h2, ?_⟩
          rcases HI.out.1 with h | h | h
          · exact .inl h
          · exact .inr h
          · rw [col_none h] at h2; omega
        have HA : Hid (OutR s (b + col (s.drop b)) ∧ lastN s (b + col (s.drop b)) = some (b, b + col (s.drop b))) := by
          refine ⟨.inr (.inr ?_), last_run hrun _ (by omega) (Nat.le_refl _)⟩
          have h5 := (col_take (s.drop b)).2
          rw [List.drop_drop, List.head?_drop] at h5
          exact h5
        generalize col (s.drop b) = n at *
        have HN := Lib.hid (And.intro h2 (And.intro hcl (And.intro hbg hlt)))
        have t1 : decide ((2 : Int) ≤ (n : Int)) = true := by rw [decide_eq_true_eq]; omega
        clear HI hrun
        go_wp2_with (go_at_call 64; refine (CO2.out _).mono ?_; rintro e w2 ⟨rfl, rfl⟩)
        go_roundg (gk - n)
        case measure => have := HN.out; omega
        case rel =>
          have h1 := HN.out
          obtain ⟨a1, a2⟩ := HA.out
          exact ⟨b + n, (b : Int), ((b + n : Nat) : Int), by omega, by push_cast; congr 1; omega, rfl, by push_cast; rfl, rfl, a1, by rw [a2]; rfl, by rw [a2]; rfl⟩
      · have HA : Hid (OutR s (b + 1) ∧ x = fromI (lastN s (b + 1)) ∧ y = toI (lastN s (b + 1))) := by
          rw [last_skip (by omega)]
          refine ⟨?_, HI.out.2⟩
          by_cases h5 : s[b]? = some 58
          · have h6 := col_drop_pred h5
            refine .inr (.inr (fun h7 => ?_))
            have h8 := col_drop_pred h7
            omega
          · exact .inr (.inl (by simpa using h5))
        generalize col (s.drop b) = n at *
        have t1 : decide ((2 : Int) ≤ (n : Int)) = false := by rw [decide_eq_false_iff_not]; omega
        have HN := Lib.hid (And.intro hbg hlt)
        clear HI
        go_wp2_with (go_at_call 64; refine (CO2.out _).mono ?_; rintro e w2 ⟨rfl, rfl⟩)
        go_roundg (gk - 1)
        case measure => have := HN.out; omega
        case rel => have h1 := HN.out; exact ⟨b + 1, x, y, by omega, by push_cast; rfl, rfl, rfl, rfl, HA⟩
    · obtain rfl : b = s.length := by omega
      have t0 : decide ((s.length : Int) < (s.length : Int)) = false := by rw [decide_eq_false_iff_not]; omega
      have HR : Hid (x = fromI (cutN s) ∧ y = toI (cutN s)) := HI.out.2
      clear HI
      go_wp2_with fail
      go_ret2
      exact ⟨ret2_ii HR.out.1 HR.out.2, rfl⟩
theorem cut_le {s : Bs} {f t : Nat} (h : cutN s = some (f, t)) : f ≤ s.length ∧ t ≤ s.length := by
  obtain ⟨h1, h2, h3, _⟩ := last_some h
  have := col_le (s.drop f)
  rw [List.length_drop] at this
  omega
theorem Head_any (s : Bs) (hs : s.length ≤ 100000) (w : World) : Calls Tryz.prog 13 #[.string ⟨s.toArray⟩] w fun e w' => e = .returned (.string ⟨(headN s).toArray⟩) ∧ Below w.heap.size w w' := by
  have LA := last_any s (by omega) w
  have CA : Hid (∀ p W, p.length ≤ 100000 → Calls Tryz.prog 19 #[.string ⟨#[58, 58]⟩, .string ⟨p.toArray⟩] W fun e w' => e = .returned (.string ⟨(canonN rootN p).toArray⟩) ∧ Below W.heap.size W w') := fun p W hp => Canonical_any rootN p (by decide) hp W
  unfold headN
  cases hc : cutN s with
  | none =>
    rw [hc] at LA
    have LA2 := Lib.hid LA
    have CA2 := Lib.hid (CA.out [] w (by simp))
    generalize canonN rootN [] = r at *
    clear LA CA hc
    go_enter Tryz.func13, Tryz.ntmps13
    go_wp2_with (first | (go_at_call 33; refine LA2.out.mono ?_; rintro e w1 ⟨rfl, rfl⟩; simp only [fromI, toI]) | (go_at_call 19; refine CA2.out.mono ?_; rintro e w2 ⟨rfl, hB⟩; have H2 := Lib.hid hB; clear hB))
    go_ret
    exact ⟨rfl, H2.out⟩
  | some ft =>
    obtain ⟨f, t⟩ := ft
    obtain ⟨hf, ht⟩ := cut_le hc
    rw [hc] at LA
    have LA2 := Lib.hid LA
    have CA2 := Lib.hid (CA.out (s.take f) w (by rw [List.length_take]; omega))
    show Calls Tryz.prog 13 #[.string ⟨s.toArray⟩] w fun e w' => e = .returned (.string ⟨(canonN rootN (s.take f)).toArray⟩) ∧ Below w.heap.size w w'
    generalize canonN rootN (s.take f) = r at *
    have t1 : max (f : Int) 0 = (f : Int) := by omega
    clear LA CA hc
    go_enter Tryz.func13, Tryz.ntmps13
    go_wp2_with (first | (go_at_call 33; refine LA2.out.mono ?_; rintro e w1 ⟨rfl, rfl⟩; simp only [fromI, toI]) | (go_at_call 19; refine CA2.out.mono ?_; rintro e w2 ⟨rfl, hB⟩; have H2 := Lib.hid hB; clear hB))
    go_ret
    exact ⟨rfl, H2.out⟩
theorem Tail_any (s : Bs) (hs : s.length ≤ 100000) (w : World) : Calls Tryz.prog 74 #[.string ⟨s.toArray⟩] w fun e w' => e = .returned (.string ⟨(tailN s).toArray⟩) ∧ w = w' := by
  have LA := last_any s (by omega) w
  unfold tailN
  cases hc : cutN s with
  | none =>
    rw [hc] at LA
    have LA2 := Lib.hid LA
    clear LA hc
    go_enter Tryz.func74, Tryz.ntmps74
    go_wp2_with (first | (go_at_call 33; refine LA2.out.mono ?_; rintro e w1 ⟨rfl, rfl⟩; simp only [fromI, toI]))
    go_ret
    exact ⟨rfl, rfl⟩
  | some ft =>
    obtain ⟨f, t⟩ := ft
    obtain ⟨hf, ht⟩ := cut_le hc
    rw [hc] at LA
    have LA2 := Lib.hid LA
    clear LA hc
    show Calls Tryz.prog 74 #[.string ⟨s.toArray⟩] w fun e w' => e = .returned (.string ⟨(s.drop t).toArray⟩) ∧ w = w'
    go_enter Tryz.func74, Tryz.ntmps74
    go_wp2_with (first | (go_at_call 33; refine LA2.out.mono ?_; rintro e w1 ⟨rfl, rfl⟩; simp only [fromI, toI]))
    go_ret
    exact ⟨rfl, rfl⟩
end Go.Proofs.YtjgdfgpnmmkjfaaGreatDoor
namespace Go.Proofs.YtjgdfgpnmmkjfaaGreatDoor
set_option linter.unusedVariables false
set_option linter.unusedSimpArgs false
open Go.RowKit

theorem rAbsolute_any (s : Bs) (hs : s.length ≤ 1000000) (w : World) : Calls Tryz.prog 79 #[.string ⟨s.toArray⟩] w fun e w' => e = .returned (.bool (absN s)) ∧ w = w' := by
  match s with
  | [] =>
    go_enter Tryz.func79, Tryz.ntmps79
    go_wp2
    go_ret
    exact ⟨rfl, rfl⟩
  | [c] =>
    have h : absN [c] = false := by
      unfold absN
      split
      · rename_i e; simp at e
      · rfl
    rw [h]
    go_enter Tryz.func79, Tryz.ntmps79
    go_wp2
    go_ret
    exact ⟨rfl, rfl⟩
  | c :: d :: r =>
    have hb : absN (c :: d :: r) = ([c, d] == ([58, 58] : Bs)) := by
      by_cases hc : c = 58
      · by_cases hd : d = 58
        · subst hc hd; rfl
        · rw [abs_not_head (.inr hd)]; symm; rw [beq_eq_false_iff_ne]; intro e; cases e; exact hd rfl
      · rw [abs_not_head (.inl hc)]; symm; rw [beq_eq_false_iff_ne]; intro e; cases e; exact hc rfl
    rw [hb]
    have hrl : r.length ≤ 1000000 := by simp at hs; omega
    have t1 : decide ((1 : Int) < ((c :: d :: r).length : Int)) = true := by rw [decide_eq_true_eq]; simp only [List.length_cons]; omega
    clear hb
    go_enter Tryz.func79, Tryz.ntmps79
    go_wp2
    all_goals
      go_ret
      refine ⟨?_, rfl⟩
      first | rfl | (simp; done) | skip
theorem col_in {s : Bs} {b k : Nat} (h : k < col (s.drop b)) : ∃ h : b + k < s.length, s[b + k] = 58 := by
  obtain ⟨q1, _⟩ := col_take (s.drop b)
  have hl := col_le (s.drop b)
  have hl2 := hl
  rw [List.length_drop] at hl2
  have hm : ((s.drop b).take (col (s.drop b)))[k]? = some ((s.drop b)[k]'(by omega)) := by
    rw [List.getElem?_take, if_pos h, List.getElem?_eq_getElem (by omega)]
  have := q1 _ (List.mem_of_getElem? hm)
  rw [List.getElem_drop] at this
  exact ⟨by omega, this⟩
theorem col_out {s : Bs} {b : Nat} (h : b + col (s.drop b) < s.length) : s[b + col (s.drop b)] ≠ 58 := by
  have h5 := (col_take (s.drop b)).2
  rw [List.drop_drop, List.head?_drop, List.getElem?_eq_getElem h] at h5
  exact fun e => h5 (by rw [e])
def rtoI (o : Option (Nat × Nat)) : Int := match o with | none => -1 | some p => (p.2 : Int)
end Go.Proofs.YtjgdfgpnmmkjfaaGreatDoor
