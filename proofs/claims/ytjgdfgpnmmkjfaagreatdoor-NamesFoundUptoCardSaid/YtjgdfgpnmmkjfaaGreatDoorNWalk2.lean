/- NamesPaths: Parts of package names. -/
import Derived.Test.YtjgdfgpnmmkjfaaGreatDoorNWalk
import Derived.WalkMore
namespace Go.Proofs.YtjgdfgpnmmkjfaaGreatDoor
set_option linter.unusedVariables false
set_option linter.unusedSimpArgs false
open Go.RowKit

theorem part_snoc {p : Bs} {a b : Nat} (ha : a ≤ b) (hb : b < p.length) : (p.drop a).take (b + 1 - a) = (p.drop a).take (b - a) ++ [p[b]] := by
  have h1 : b - a < (p.drop a).length := by rw [List.length_drop]; omega
  rw [show b + 1 - a = b - a + 1 by omega, List.take_succ_eq_append_getElem h1, List.getElem_drop]
  congr 2
  simp [show a + (b - a) = b by omega]
theorem bare_len (s : Bs) : (bareR (bareL s)).length ≤ s.length := by
  have h1 : (bareL s).length ≤ s.length := by unfold bareL; split; (rw [List.length_drop]; omega); omega
  have h2 : (bareR (bareL s)).length ≤ (bareL s).length := by unfold bareR; split; (rw [List.length_dropLast]; omega); omega
  omega
/-- What 'Parts' gives. -/
def PartsR (w : World) (s : Bs) (e : Ending) (w' : World) : Prop := ∃ r, e = .returned r ∧ w'.ownsRow w.heap.size 9 1 r (partsN s).length ((partsN s).map sv) ∧ Below w.heap.size w w'
set_option maxRecDepth 100000 in
set_option maxHeartbeats 1600000 in
theorem Parts_any (s : Bs) (hs : s.length ≤ 1000000) (w : World) : Calls Tryz.prog 34 #[.string ⟨s.toArray⟩] w (PartsR w s) := by
  have BA : Hid (∀ W, Calls Tryz.prog 65 #[.string ⟨s.toArray⟩] W fun e w' => e = .returned (.string ⟨(bareR (bareL s)).toArray⟩) ∧ W = w') := fun W => bared_any s hs W
  have hpl := bare_len s
  obtain ⟨p, hp⟩ : ∃ p, p = bareR (bareL s) := ⟨_, rfl⟩
  have hpt : partsN s = goN (some []) p := by unfold partsN; rw [hp]
  rw [← hp] at BA hpl
  have CO : Hid (∀ (k : Nat) W, Calls Tryz.prog 64 #[.string ⟨(p.drop k).toArray⟩] W fun e w' => e = .returned (.int .i64 (col (p.drop k) : Int)) ∧ W = w') := fun k W => colons_any _ (by rw [List.length_drop]; omega) W
  unfold PartsR
  have HS := Lib.hid hpt
  clear hp
  obtain ⟨l, hl⟩ : ∃ l, partsN s = l := ⟨_, rfl⟩
  rw [hl] at HS ⊢
  have hp1 : p.length ≤ 1000000 := by omega
  clear hpl hl hpt
  go_enter Tryz.func34, Tryz.ntmps34
  go_wp2_with fail
  go_step3
  go_wp2_with (go_at_call 65; refine (BA.out _).mono ?_; rintro e w1 ⟨rfl, rfl⟩)
  go_step3
  go_wp2_with fail
  go_loopg [3, 4, 5, 6] p.length (fun g out fr i n wr => ∃ (a b : Nat) (pre : List Bs) (ao : Option Addr) (k cap : Nat), a ≤ b ∧ b + g = p.length ∧ fr = .int .i64 (a : Int) ∧ i = .int .i64 (b : Int) ∧ out = .slice ao k cap ∧ k ≤ b ∧ Hid (k = pre.length) ∧ Hid (wr.ownsRow w.heap.size 9 1 (.slice ao k cap) k (pre.map sv)) ∧ Hid (pre ++ goN (some ((p.drop a).take (b - a))) (p.drop b) = l) ∧ Below w.heap.size w wr)
  case atStart => exact ⟨0, 0, [], none, 0, 0, by omega, by omega, rfl, rfl, rfl, by omega, rfl, World.ownsRow_nil _ _ _ _, by show _ = _; rw [HS.out]; simp, Below.refl _ _⟩
  case round =>
    obtain ⟨a, b, pre, ao, k, cap, hab, hbg, rfl, rfl, rfl, hkb, HK, HO, HI, hb⟩ := hrel
    have HB := Lib.hid hb
    have hk2 : k ≤ 1000000 := by omega
    by_cases hlt : b < p.length
    · have hcl := col_le (p.drop b)
      rw [List.length_drop] at hcl
      have CO2 := Lib.hid (CO.out b)
      have HG := Lib.hid (And.intro hab (And.intro hbg (And.intro hlt hkb)))
      have t0 : decide ((b : Int) < (p.length : Int)) = true := by rw [decide_eq_true_eq]; omega
      by_cases h2 : 2 ≤ col (p.drop b)
      · have HE : Hid (goN (some ((p.drop a).take (b - a))) (p.drop b) = emitP ((p.drop a).take (b - a)) ++ goN (some []) (p.drop (b + col (p.drop b)))) := by
          show _ = _
          rw [goN_sep h2, List.drop_drop]
        generalize col (p.drop b) = n at *
        have HN := Lib.hid (And.intro h2 hcl)
        have t1 : decide ((2 : Int) ≤ (n : Int)) = true := by rw [decide_eq_true_eq]; omega
        by_cases h3 : a < b
        · have t2 : decide ((a : Int) < (b : Int)) = true := by rw [decide_eq_true_eq]; omega
          have HEM : Hid (emitP ((p.drop a).take (b - a)) = [(p.drop a).take (b - a)]) := by
            show _ = _
            unfold emitP
            rw [if_neg]
            intro h
            have := congrArg List.length h
            rw [List.length_take, List.length_drop] at this
            simp at this; omega
          have HA : Hid ((pre ++ [(p.drop a).take (b - a)]) ++ goN (some ((p.drop (b + n)).take (b + n - (b + n)))) (p.drop (b + n)) = l) := by
            show _ = _
            rw [← HI.out, HE.out, HEM.out]; simp
          clear HI HE HEM hb hkb
          go_wp2_with (first | (go_at_call 64; refine (CO2.out _).mono ?_; rintro e w2 ⟨rfl, rfl⟩) | (at_builtin; go_loud (refine wpList_push rfl (.tmp 25) (.tmp 30) 27 rfl w.heap.size 9 (.string ⟨#[]⟩) 16 Tryz.underlying27 infoStr rfl (.slice ao k cap) k _ rfl HO.out (.string ⟨((p.drop a).take (b - a)).toArray⟩) _ rfl rfl (by unfold maxLen; omega) (by omega) HB.out.size ?_); intro g1 c1 w3 hg1 hown3 hb3 _; have H3 := Lib.hid (And.intro hown3 hb3); clear hg1 hown3 hb3))
          go_roundg (gk - n)
          case measure => have := HG.out; have := HN.out; omega
          case rel => have h1 := HG.out; have h2 := HN.out; have h3 := HK.out; exact ⟨b + n, b + n, _, _, k + 1, c1, Nat.le_refl _, by omega, by push_cast; rfl, by push_cast; rfl, rfl, by omega, by show _ = _; rw [List.length_append, h3]; rfl, by show World.ownsRow _ _ _ _ _ _ _; rw [List.map_append]; exact H3.out.1, HA, HB.out.trans H3.out.2⟩
        · have t2 : decide ((a : Int) < (b : Int)) = false := by rw [decide_eq_false_iff_not]; omega
          have HA : Hid (pre ++ goN (some ((p.drop (b + n)).take (b + n - (b + n)))) (p.drop (b + n)) = l) := by
            show _ = _
            rw [← HI.out, HE.out, show b - a = 0 by omega]; simp [emitP]
          clear HI HE hb hkb
          go_wp2_with (go_at_call 64; refine (CO2.out _).mono ?_; rintro e w2 ⟨rfl, rfl⟩)
          go_roundg (gk - n)
          case measure => have := HG.out; have := HN.out; omega
          case rel => have h1 := HG.out; have h2 := HN.out; have h3 := HK.out; exact ⟨b + n, b + n, _, _, k, cap, Nat.le_refl _, by omega, by push_cast; rfl, by push_cast; rfl, rfl, by omega, HK, HO, HA, HB.out⟩
      · have HA : Hid (pre ++ goN (some ((p.drop a).take (b + 1 - a))) (p.drop (b + 1)) = l) := by
          show _ = _
          have h5 := HI.out
          rw [List.drop_eq_getElem_cons hlt] at h2 h5
          rw [goN_char (by omega), ← part_snoc hab hlt] at h5
          exact h5
        generalize col (p.drop b) = n at *
        have t1 : decide ((2 : Int) ≤ (n : Int)) = false := by rw [decide_eq_false_iff_not]; omega
        have hn : n = 0 ∨ n = 1 := by omega
        clear HI hb hkb
        rcases hn with rfl | rfl
        all_goals
          go_wp2_with (go_at_call 64; refine (CO2.out _).mono ?_; rintro e w2 ⟨rfl, rfl⟩)
          go_roundg (gk - 1)
          case measure => have := HG.out; omega
          case rel => have h1 := HG.out; have h3 := HK.out; exact ⟨a, b + 1, _, _, k, cap, by omega, by omega, rfl, by push_cast; rfl, rfl, by omega, HK, HO, HA, HB.out⟩
    · obtain rfl : b = p.length := by omega
      have t0 : decide ((p.length : Int) < (p.length : Int)) = false := by rw [decide_eq_false_iff_not]; omega
      have h5 := HI.out
      rw [List.drop_length, List.take_of_length_le (by rw [List.length_drop]; omega)] at h5
      by_cases h3 : a < p.length
      · have t2 : decide ((a : Int) < (p.length : Int)) = true := by rw [decide_eq_true_eq]; omega
        have HA : Hid (l = pre ++ [p.drop a]) := by
          show _ = _
          rw [← h5, goN, emitP, if_neg]
          intro h
          have := congrArg List.length h
          rw [List.length_drop] at this
          simp at this; omega
        clear HI hb hkb h5
        go_wp2_with (at_builtin; go_loud (refine wpList_push rfl (.tmp 45) (.tmp 49) 27 rfl w.heap.size 9 (.string ⟨#[]⟩) 16 Tryz.underlying27 infoStr rfl (.slice ao k cap) k _ rfl HO.out (.string ⟨(p.drop a).toArray⟩) _ rfl rfl (by unfold maxLen; omega) (by omega) HB.out.size ?_); intro g1 c1 w3 hg1 hown3 hb3 _; have H3 := Lib.hid (And.intro hown3 hb3); clear hg1 hown3 hb3)
        try rw [Exit.noGoto_ret]
        go_ret
        refine ⟨_, rfl, ?_, HB.out.trans H3.out.2⟩
        rw [HA.out, List.length_append, List.map_append, ← HK.out]
        exact H3.out.1
      · have t2 : decide ((a : Int) < (p.length : Int)) = false := by rw [decide_eq_false_iff_not]; omega
        have HA : Hid (l = pre) := by
          show _ = _
          rw [← h5, goN, emitP, if_pos (List.drop_eq_nil_of_le (by omega)), List.append_nil]
        clear HI hb hkb h5
        go_wp2_with fail
        try rw [Exit.noGoto_ret]
        go_ret
        refine ⟨_, rfl, ?_, HB.out⟩
        rw [HA.out, ← HK.out]
        exact HO.out
end Go.Proofs.YtjgdfgpnmmkjfaaGreatDoor
