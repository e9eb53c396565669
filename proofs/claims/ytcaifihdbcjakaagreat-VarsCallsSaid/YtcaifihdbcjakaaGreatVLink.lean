/- 'Link' of a space of variables. -/
import Derived.Test.YtcaifihdbcjakaaGreatVLinkU1
import Derived.Test.YtcaifihdbcjakaaGreatVLinkU2
namespace Go.Proofs.YtcaifihdbcjakaaGreat
set_option linter.unusedVariables false
set_option linter.unusedSimpArgs false
open Go.RowKit
variable {N : Nat}

set_option maxRecDepth 100000 in
set_option maxHeartbeats 3200000 in
theorem Link_any {B : Nat} {S : St} {w : World} (hB : B ≤ w.heap.size) (h : Rep B w S) {x sm : Nat} {g : Int → Option Nat} (hp : Sp N S x sm g) {i j : Int} (hi : (Lit.int .i64 i).wf = true) (hj : (Lit.int .i64 j).wf = true) {word target : Bs} (hw : word.length ≤ maxLen) (ht : target.length ≤ maxLen) :
    Calls Tryz.prog 19 #[.pointer (some ⟨x, 0, none⟩), .int .i64 i, .string ⟨word.toArray⟩, .int .i64 j, .string ⟨target.toArray⟩] w fun en w' => LinkRes N B S w x sm g i j word target en w' := by
  obtain ⟨cs, rm, r0, hx, _⟩ := hp.space
  obtain ⟨x0, _⟩ := h.space hx
  have HT1 := Lib.hid (there_any h hp hi)
  have HT2 := Lib.hid (there_any h hp hj)
  have HD := Lib.hid (fun m0 => goes_drewN h m0)
  have HSW := Lib.hid (fun W => Split_any word hw W)
  have HST := Lib.hid (fun W => Split_any target ht W)
  have HBZ := Lib.hid hB
  cases hgi : g i with
  | none =>
    rw [hgi] at HT1
    have HE : Hid (LinkRes N B S w x sm g i j word target (.returned (.int .i64 7)) w) := ⟨7, rfl, .inl ⟨by decide, fun hk => (by obtain ⟨⟨m, hm, _⟩, _⟩ := hk; rw [hgi] at hm; cases hm), h.goes⟩⟩
    clear hgi
    go_enter Tryz.func19, Tryz.ntmps19
    go_wp2_with (first | (go_at_call_of 35 (Value.int IntKind.i64 i); refine HT1.out.mono ?_; rintro e w' ⟨rfl, rfl⟩) | (go_at_call_of 35 (Value.int IntKind.i64 j); refine HT2.out.mono ?_; rintro e w' ⟨rfl, rfl⟩))
    go_ret
    exact HE.out
  | some ma =>
    rw [hgi] at HT1
    obtain ⟨fa, hma⟩ := hp.wf.scope hp.smap hgi
    cases hgj : g j with
    | none =>
      rw [hgj] at HT2
      have HE : Hid (LinkRes N B S w x sm g i j word target (.returned (.int .i64 7)) w) := ⟨7, rfl, .inl ⟨by decide, fun hk => (by obtain ⟨_, ⟨m, hm⟩, _⟩ := hk; rw [hgj] at hm; cases hm), h.goes⟩⟩
      clear hgi hgj
      go_enter Tryz.func19, Tryz.ntmps19
      go_wp2_with (first | (go_at_call_of 35 (Value.int IntKind.i64 i); refine HT1.out.mono ?_; rintro e w' ⟨rfl, rfl⟩) | (go_at_call_of 35 (Value.int IntKind.i64 j); refine HT2.out.mono ?_; rintro e w' ⟨rfl, rfl⟩))
      go_ret
      exact HE.out
    | some mb =>
      rw [hgj] at HT2
      obtain ⟨fb, hmb⟩ := hp.wf.scope hp.smap hgj
      have HE : Hid (∀ r m, r ≠ 0 → ¬ LinkOk S g i j word target → LinkRes N B S w x sm g i j word target (.returned (.int .i64 r)) (w.drewN m)) := fun r m hr hno => ⟨r, rfl, .inl ⟨hr, hno, goes_drewN h m⟩⟩
      have hqw := split_len word
      have hqt := split_len target
      have HF : Hid (∀ W, Rep B W S → Calls Tryz.prog 39 #[.pointer (some ⟨x, 0, none⟩), .int .i64 j, .string ⟨target.toArray⟩] W fun en w' => en = .returned (.tuple #[.pointer ((findC S g j target).1.map fun b => ⟨b, 0, none⟩), .int .i64 (findC S g j target).2]) ∧ ∃ m, w' = W.drewN m) := fun W hW => find_any hW hp hj ht
      obtain ⟨qw, hqwe⟩ : ∃ q, splitC word = q := ⟨_, rfl⟩
      obtain ⟨qt, hqte⟩ : ∃ q, splitC target = q := ⟨_, rfl⟩
      have HQW := Lib.hid hqwe
      have HWE := Lib.hid hqwe
      have HQT := Lib.hid hqte
      rw [hqwe] at HSW hqw
      rw [hqte] at HST hqt
      clear hqwe hqte
      obtain ⟨s1, s2, el⟩ := qw
      obtain ⟨v, t2, te⟩ := qt
      simp only at HSW HST hqw hqt
      have hvl : v.length ≤ maxLen := Nat.le_trans hqt.1 ht
      have HL1 : Hid (∀ W, Rep B W S → (Instr.lookup 47 (.map (some sm)) (.int .i64 i) false).run Tryz.prog W = .ok (.map (some ma)) W ∧ (Instr.lookup 46 (.map (some ma)) (.string ⟨word.toArray⟩) false).run Tryz.prog W = .ok (.pointer ((fa word).map fun b => ⟨b, 0, none⟩)) W) := fun W hW => ⟨by have := hW.lookScope hp.smap hi; rwa [hgi] at this, hW.lookName hma hw⟩
      have HL2 : Hid (∀ W, Rep B W S → (Instr.lookup 47 (.map (some sm)) (.int .i64 j) false).run Tryz.prog W = .ok (.map (some mb)) W ∧ (Instr.lookup 46 (.map (some mb)) (.string ⟨v.toArray⟩) false).run Tryz.prog W = .ok (.pointer ((fb v).map fun b => ⟨b, 0, none⟩)) W) := fun W hW => ⟨by have := hW.lookScope hp.smap hj; rwa [hgj] at this, hW.lookName hmb hvl⟩
      have HGI := Lib.hid hgi
      cases el with
      | true =>
        have HNO : Hid (¬ LinkOk S g i j word target) := fun hk => by have := hk.2.2.1; rw [HQW.out] at this; cases this
        clear hgi hgj
        go_enter Tryz.func19, Tryz.ntmps19
        go_wp2_with (first | (go_at_call_of 35 (Value.int IntKind.i64 i); refine HT1.out.mono ?_; rintro e w' ⟨rfl, rfl⟩) | (go_at_call_of 35 (Value.int IntKind.i64 j); refine HT2.out.mono ?_; rintro e w' ⟨rfl, rfl⟩) | (go_at_call_of 51 (Value.string ⟨word.toArray⟩); refine (HSW.out _).mono ?_; rintro e w' ⟨rfl, m0, rfl⟩; obtain ⟨ha1, ha2⟩ := HL1.out _ (h.drewN m0)) | (go_at_call_of 51 (Value.string ⟨target.toArray⟩); refine (HST.out _).mono ?_; rintro e w' ⟨rfl, m1, rfl⟩; rw [World.drewN_drewN]) | (go_at_call 39; refine (HF.out _ (h.drewN (m0 + m1))).mono ?_; rintro e w' ⟨rfl, m2, rfl⟩; rw [World.drewN_drewN]))
        go_ret
        exact HE.out _ _ (by decide) HNO.out
      | false =>
        have hfe := find_err (S := S) (g := g) (i := j) (w := target)
        have hfc := fun c => findC_cell (c := c) hp.wf hp.smap (i := j) (word := target)
        obtain ⟨fr, hfr⟩ : ∃ q, findC S g j target = q := ⟨_, rfl⟩
        have HFR := Lib.hid hfr
        rw [hfr] at hfe hfc
        simp only [hfr] at HF
        clear hfr
        obtain ⟨r, en⟩ := fr
        simp only at HF hfe hfc
        -- what the name has now
        have hhave : (∃ n0 c0 k0, fa word = some n0 ∧ S n0 = some (.name c0 false) ∧ (∃ v0 e0 p0, S c0 = some (.cell k0 v0 e0 p0))) ∨ fa word = none ∨ (∃ n0 c0, fa word = some n0 ∧ S n0 = some (.name c0 true)) := by
          cases hf : fa word with
          | none => exact .inr (.inl rfl)
          | some n0 =>
            obtain ⟨c0, l0, hn0⟩ := hp.wf.nm hma hf
            obtain ⟨k0, v0, e0, p0, hc0⟩ := hp.wf.nc hn0
            cases l0 with
            | true => exact .inr (.inr ⟨n0, c0, rfl, hn0⟩)
            | false => exact .inl ⟨n0, c0, k0, rfl, hn0, v0, e0, p0, hc0⟩
        by_cases hsame : i = j ∧ v = word
        · obtain ⟨hij, hvw⟩ := hsame
          have HNO : Hid (¬ LinkOk S g i j word target) := fun hk => hk.2.2.2.1 ⟨hij, by rw [HQT.out]; exact hvw⟩
          have tij : ((i : Int) == j) = true := by simpa using hij
          have tvw : (v == word) = true := by simpa using hvw
          clear hij
          rcases hhave with ⟨n0, c0, k0, hfn, hn0, v0, e0, p0, hc0⟩ | hfn | ⟨n0, c0, hfn, hn0⟩
          · have HNO : Hid (¬ LinkOk S g i j word target) := fun hk => by obtain ⟨⟨m, hm, hnone⟩, _⟩ := hk; rw [HGI.out] at hm; cases hm; simp [nmOf, hma, hfn] at hnone
            obtain ⟨n00, n01⟩ := h.name hn0
            obtain ⟨cc0, _⟩ := h.cell hc0
            simp only [hfn, Option.map_some] at HL1
            have HFN := Lib.hid hfn
            clear hfn
            clear hfe hfc
            by_cases hk0 : k0 = 0
            · subst hk0
              go_enter Tryz.func19, Tryz.ntmps19
              go_wp2_with (first | (go_at_call_of 35 (Value.int IntKind.i64 i); refine HT1.out.mono ?_; rintro e w' ⟨rfl, rfl⟩) | (go_at_call_of 35 (Value.int IntKind.i64 j); refine HT2.out.mono ?_; rintro e w' ⟨rfl, rfl⟩) | (go_at_call_of 51 (Value.string ⟨word.toArray⟩); refine (HSW.out _).mono ?_; rintro e w' ⟨rfl, m0, rfl⟩; obtain ⟨ha1, ha2⟩ := HL1.out _ (h.drewN m0)) | (go_at_call_of 51 (Value.string ⟨target.toArray⟩); refine (HST.out _).mono ?_; rintro e w' ⟨rfl, m1, rfl⟩; rw [World.drewN_drewN]) | (go_at_call 39; refine (HF.out _ (h.drewN (m0 + m1))).mono ?_; rintro e w' ⟨rfl, m2, rfl⟩; rw [World.drewN_drewN]))
              go_ret
              exact HE.out _ _ (by decide) HNO.out
            · have tk : ((k0 : Int) != 0) = true := by simpa using hk0
              go_enter Tryz.func19, Tryz.ntmps19
              go_wp2_with (first | (go_at_call_of 35 (Value.int IntKind.i64 i); refine HT1.out.mono ?_; rintro e w' ⟨rfl, rfl⟩) | (go_at_call_of 35 (Value.int IntKind.i64 j); refine HT2.out.mono ?_; rintro e w' ⟨rfl, rfl⟩) | (go_at_call_of 51 (Value.string ⟨word.toArray⟩); refine (HSW.out _).mono ?_; rintro e w' ⟨rfl, m0, rfl⟩; obtain ⟨ha1, ha2⟩ := HL1.out _ (h.drewN m0)) | (go_at_call_of 51 (Value.string ⟨target.toArray⟩); refine (HST.out _).mono ?_; rintro e w' ⟨rfl, m1, rfl⟩; rw [World.drewN_drewN]) | (go_at_call 39; refine (HF.out _ (h.drewN (m0 + m1))).mono ?_; rintro e w' ⟨rfl, m2, rfl⟩; rw [World.drewN_drewN]))
              go_ret
              exact HE.out _ _ (by decide) HNO.out
          · simp only [hfn, Option.map_none] at HL1
            clear hfn
            clear hfe hfc
            go_enter Tryz.func19, Tryz.ntmps19
            go_wp2_with (first | (go_at_call_of 35 (Value.int IntKind.i64 i); refine HT1.out.mono ?_; rintro e w' ⟨rfl, rfl⟩) | (go_at_call_of 35 (Value.int IntKind.i64 j); refine HT2.out.mono ?_; rintro e w' ⟨rfl, rfl⟩) | (go_at_call_of 51 (Value.string ⟨word.toArray⟩); refine (HSW.out _).mono ?_; rintro e w' ⟨rfl, m0, rfl⟩; obtain ⟨ha1, ha2⟩ := HL1.out _ (h.drewN m0)) | (go_at_call_of 51 (Value.string ⟨target.toArray⟩); refine (HST.out _).mono ?_; rintro e w' ⟨rfl, m1, rfl⟩; rw [World.drewN_drewN]) | (go_at_call 39; refine (HF.out _ (h.drewN (m0 + m1))).mono ?_; rintro e w' ⟨rfl, m2, rfl⟩; rw [World.drewN_drewN]))
            go_ret
            exact HE.out _ _ (by decide) HNO.out
          · obtain ⟨n00, n01⟩ := h.name hn0
            simp only [hfn, Option.map_some] at HL1
            clear hfn
            clear hfe hfc
            go_enter Tryz.func19, Tryz.ntmps19
            go_wp2_with (first | (go_at_call_of 35 (Value.int IntKind.i64 i); refine HT1.out.mono ?_; rintro e w' ⟨rfl, rfl⟩) | (go_at_call_of 35 (Value.int IntKind.i64 j); refine HT2.out.mono ?_; rintro e w' ⟨rfl, rfl⟩) | (go_at_call_of 51 (Value.string ⟨word.toArray⟩); refine (HSW.out _).mono ?_; rintro e w' ⟨rfl, m0, rfl⟩; obtain ⟨ha1, ha2⟩ := HL1.out _ (h.drewN m0)) | (go_at_call_of 51 (Value.string ⟨target.toArray⟩); refine (HST.out _).mono ?_; rintro e w' ⟨rfl, m1, rfl⟩; rw [World.drewN_drewN]) | (go_at_call 39; refine (HF.out _ (h.drewN (m0 + m1))).mono ?_; rintro e w' ⟨rfl, m2, rfl⟩; rw [World.drewN_drewN]))
            go_ret
            exact HE.out _ _ (by decide) HNO.out
        · have HPK : Hid (∀ WW S1 w1 c, B ≤ WW.heap.size → Goes B S WW S1 w1 → Sp N S1 x sm g → More S S1 → ∃ f1 w3, S1 ma = some (.nmap f1) ∧ w1.cell? ⟨x, 0, none⟩ = some (.map (some sm)) ∧ (w1.alloc (newNameO c true)).cell? ⟨x, 0, none⟩ = some (.map (some sm)) ∧ w3.cell? ⟨x, 0, none⟩ = some (.map (some sm)) ∧ (Instr.lookup 47 (.map (some sm)) (.int .i64 i) false).run Tryz.prog w1 = .ok (.map (some ma)) w1 ∧ (Instr.lookup 47 (.map (some sm)) (.int .i64 i) false).run Tryz.prog (w1.alloc (newNameO c true)) = .ok (.map (some ma)) (w1.alloc (newNameO c true)) ∧ (Instr.mapUpdate 46 (.map (some ma)) (.string ⟨word.toArray⟩) (.pointer (some ⟨w1.heap.size, 0, none⟩))).run Tryz.prog (w1.alloc (newNameO c true)) = .ok () w3 ∧ Goes B S WW (linkS S1 ma w1.heap.size c f1 word) w3) := fun WW S1 w1 c h1 h2 h3 h4 => link_pack h2 h1 h3 h4 hma hi HGI.out hw c
          have HNS := Lib.hid hsame
          have hcond : (((i : Int) == j) = false) ∨ (((i : Int) == j) = true ∧ (v == word) = false ∧ ¬ v = word ∧ decide (v = word) = false) := by
            by_cases hij : i = j
            · right
              have hv : ¬ v = word := fun e => hsame ⟨hij, e⟩
              exact ⟨by simpa using hij, by simpa using hv, hv, by simpa using hv⟩
            · left; simpa using hij
          clear hsame
          rcases hhave with ⟨n0, c0, k0, hfn, hn0, v0, e0, p0, hc0⟩ | hfn | ⟨n0, c0, hfn, hn0⟩
          · have HNO : Hid (¬ LinkOk S g i j word target) := fun hk => by obtain ⟨⟨m, hm, hnone⟩, _⟩ := hk; rw [HGI.out] at hm; cases hm; simp [nmOf, hma, hfn] at hnone
            obtain ⟨n00, n01⟩ := h.name hn0
            obtain ⟨cc0, _⟩ := h.cell hc0
            simp only [hfn, Option.map_some] at HL1
            have HFN := Lib.hid hfn
            clear hfn
            by_cases hk0 : k0 = 0
            · subst hk0
              have hel' : (splitC word).2.2 = false := by rw [HQW.out]
              have hns' : ¬ (i = j ∧ (splitC target).1 = word) := by rw [HQT.out]; exact HNS.out
              by_cases hij : i = j
              · exact Link_un2 hB h hp hi hj hw ht hgi hma hgj hmb hel' hns' HFN.out hn0 hc0 hij
              · exact Link_un1 hB h hp hi hj hw ht hgi hma hgj hmb hel' hns' HFN.out hn0 hc0 hij
            · have tk : ((k0 : Int) != 0) = true := by simpa using hk0
              clear hfe hfc
              go_enter Tryz.func19, Tryz.ntmps19
              go_wp2_with (first | (go_at_call_of 35 (Value.int IntKind.i64 i); refine HT1.out.mono ?_; rintro e w' ⟨rfl, rfl⟩) | (go_at_call_of 35 (Value.int IntKind.i64 j); refine HT2.out.mono ?_; rintro e w' ⟨rfl, rfl⟩) | (go_at_call_of 51 (Value.string ⟨word.toArray⟩); refine (HSW.out _).mono ?_; rintro e w' ⟨rfl, m0, rfl⟩; obtain ⟨ha1, ha2⟩ := HL1.out _ (h.drewN m0)) | (go_at_call_of 51 (Value.string ⟨target.toArray⟩); refine (HST.out _).mono ?_; rintro e w' ⟨rfl, m1, rfl⟩; rw [World.drewN_drewN]) | (go_at_call 39; refine (HF.out _ (h.drewN (m0 + m1))).mono ?_; rintro e w' ⟨rfl, m2, rfl⟩; rw [World.drewN_drewN]))
              go_ret
              exact HE.out _ _ (by decide) HNO.out
          · simp only [hfn, Option.map_none] at HL1
            clear hfn
            rcases hcond with tij | ⟨tij, tv1, tv2, tv3⟩
            · by_cases he : en = 0
              · subst he
                have HM : Hid (∀ W, B ≤ W.heap.size → Rep B W S → Calls Tryz.prog 43 #[.pointer (some ⟨x, 0, none⟩), .int .i64 j, .string ⟨target.toArray⟩] W fun en w' => MakeRes N B S W x sm g j target en w') := fun W hBW hW => make_any hBW hW hp hj ht (by rw [HFR.out])
                clear hfe hfc
                go_enter Tryz.func19, Tryz.ntmps19
                go_wp2_with (first | (go_at_call_of 35 (Value.int IntKind.i64 i); refine HT1.out.mono ?_; rintro e w' ⟨rfl, rfl⟩) | (go_at_call_of 35 (Value.int IntKind.i64 j); refine HT2.out.mono ?_; rintro e w' ⟨rfl, rfl⟩) | (go_at_call_of 51 (Value.string ⟨word.toArray⟩); refine (HSW.out _).mono ?_; rintro e w' ⟨rfl, m0, rfl⟩; obtain ⟨ha1, ha2⟩ := HL1.out _ (h.drewN m0)) | (go_at_call_of 51 (Value.string ⟨target.toArray⟩); refine (HST.out _).mono ?_; rintro e w' ⟨rfl, m1, rfl⟩; rw [World.drewN_drewN]) | (go_at_call 39; refine (HF.out _ (h.drewN (m0 + m1))).mono ?_; rintro e w' ⟨rfl, m2, rfl⟩; rw [World.drewN_drewN]))
                go_quiet (fail)
                try rw [World.drewN_drewN]
                generalize m0 + m1 + m2 + nq = X1
                obtain ⟨hb1, hb2⟩ := HL2.out _ (h.drewN X1)
                go_wp2_with fail
                obtain ⟨hd1, hd2⟩ := HL1.out _ (h.drewN (X1 + 1))
                go_region_held3 (fun w' => w'.cell? ⟨x, 0, none⟩ = some (.map (some sm))) (first | go_keep | assumption) (first | (go_at_call 43; refine (HM.out _ (by simpa using HBZ.out) (by first | exact h.drewN _ | exact (h.drewN _).drew)).mono ?_; rintro e w1 ⟨c, S1, rfl, hG1, hp1, hsame1, hmore1, hfind1⟩; obtain ⟨f1, w3, hm1, z0, z1, z2, z3, z5, z4, hgo⟩ := HPK.out _ _ _ c (by simpa using HBZ.out) hG1 hp1 hmore1; simp only [newNameO] at z1 z4 z5))
                all_goals (go_wp2_with fail; go_ret; exact ⟨0, rfl, .inr ⟨rfl, S1, c, _, ma, f1, hp1, hsame1, hmore1, hfind1, HGI.out, hm1, hG1.rep.free (Nat.le_refl _), by rw [HQW.out], by rw [HQT.out]; exact HNS.out, by first | exact ((goes_drewN h _).drew).trans hgo | exact (goes_drewN h _).trans hgo⟩⟩)
              · have HNO : Hid (¬ LinkOk S g i j word target) := fun hk => he (by have := hk.2.2.2.2; rw [HFR.out] at this; exact this)
                have te : ((en : Int) != 0) = true := by simpa using he
                have te2 : ((en : Int) == 0) = false := by simpa using he
                have HEN := Lib.hid he
                clear hfe hfc he
                go_enter Tryz.func19, Tryz.ntmps19
                go_wp2_with (first | (go_at_call_of 35 (Value.int IntKind.i64 i); refine HT1.out.mono ?_; rintro e w' ⟨rfl, rfl⟩) | (go_at_call_of 35 (Value.int IntKind.i64 j); refine HT2.out.mono ?_; rintro e w' ⟨rfl, rfl⟩) | (go_at_call_of 51 (Value.string ⟨word.toArray⟩); refine (HSW.out _).mono ?_; rintro e w' ⟨rfl, m0, rfl⟩; obtain ⟨ha1, ha2⟩ := HL1.out _ (h.drewN m0)) | (go_at_call_of 51 (Value.string ⟨target.toArray⟩); refine (HST.out _).mono ?_; rintro e w' ⟨rfl, m1, rfl⟩; rw [World.drewN_drewN]) | (go_at_call 39; refine (HF.out _ (h.drewN (m0 + m1))).mono ?_; rintro e w' ⟨rfl, m2, rfl⟩; rw [World.drewN_drewN]))
                go_quiet (fail)
                try rw [World.drewN_drewN]
                generalize m0 + m1 + m2 + nq = X1
                obtain ⟨hb1, hb2⟩ := HL2.out _ (h.drewN X1)
                go_wp2_with fail
                go_ret
                exact HE.out _ _ HEN.out HNO.out
            · by_cases he : en = 0
              · subst he
                have HM : Hid (∀ W, B ≤ W.heap.size → Rep B W S → Calls Tryz.prog 43 #[.pointer (some ⟨x, 0, none⟩), .int .i64 j, .string ⟨target.toArray⟩] W fun en w' => MakeRes N B S W x sm g j target en w') := fun W hBW hW => make_any hBW hW hp hj ht (by rw [HFR.out])
                clear hfe hfc
                go_enter Tryz.func19, Tryz.ntmps19
                go_wp2_with (first | (go_at_call_of 35 (Value.int IntKind.i64 i); refine HT1.out.mono ?_; rintro e w' ⟨rfl, rfl⟩) | (go_at_call_of 35 (Value.int IntKind.i64 j); refine HT2.out.mono ?_; rintro e w' ⟨rfl, rfl⟩) | (go_at_call_of 51 (Value.string ⟨word.toArray⟩); refine (HSW.out _).mono ?_; rintro e w' ⟨rfl, m0, rfl⟩; obtain ⟨ha1, ha2⟩ := HL1.out _ (h.drewN m0)) | (go_at_call_of 51 (Value.string ⟨target.toArray⟩); refine (HST.out _).mono ?_; rintro e w' ⟨rfl, m1, rfl⟩; rw [World.drewN_drewN]) | (go_at_call 39; refine (HF.out _ (h.drewN (m0 + m1))).mono ?_; rintro e w' ⟨rfl, m2, rfl⟩; rw [World.drewN_drewN]))
                go_quiet (fail)
                try rw [World.drewN_drewN]
                generalize m0 + m1 + m2 + nq = X1
                obtain ⟨hb1, hb2⟩ := HL2.out _ (h.drewN X1)
                go_wp2_with fail
                obtain ⟨hd1, hd2⟩ := HL1.out _ (h.drewN (X1 + 1))
                go_region_held3 (fun w' => w'.cell? ⟨x, 0, none⟩ = some (.map (some sm))) (first | go_keep | assumption) (first | (go_at_call 43; refine (HM.out _ (by simpa using HBZ.out) (by first | exact h.drewN _ | exact (h.drewN _).drew)).mono ?_; rintro e w1 ⟨c, S1, rfl, hG1, hp1, hsame1, hmore1, hfind1⟩; obtain ⟨f1, w3, hm1, z0, z1, z2, z3, z5, z4, hgo⟩ := HPK.out _ _ _ c (by simpa using HBZ.out) hG1 hp1 hmore1; simp only [newNameO] at z1 z4 z5))
                all_goals (go_wp2_with fail; go_ret; exact ⟨0, rfl, .inr ⟨rfl, S1, c, _, ma, f1, hp1, hsame1, hmore1, hfind1, HGI.out, hm1, hG1.rep.free (Nat.le_refl _), by rw [HQW.out], by rw [HQT.out]; exact HNS.out, by first | exact ((goes_drewN h _).drew).trans hgo | exact (goes_drewN h _).trans hgo⟩⟩)
              · have HNO : Hid (¬ LinkOk S g i j word target) := fun hk => he (by have := hk.2.2.2.2; rw [HFR.out] at this; exact this)
                have te : ((en : Int) != 0) = true := by simpa using he
                have te2 : ((en : Int) == 0) = false := by simpa using he
                have HEN := Lib.hid he
                clear hfe hfc he
                go_enter Tryz.func19, Tryz.ntmps19
                go_wp2_with (first | (go_at_call_of 35 (Value.int IntKind.i64 i); refine HT1.out.mono ?_; rintro e w' ⟨rfl, rfl⟩) | (go_at_call_of 35 (Value.int IntKind.i64 j); refine HT2.out.mono ?_; rintro e w' ⟨rfl, rfl⟩) | (go_at_call_of 51 (Value.string ⟨word.toArray⟩); refine (HSW.out _).mono ?_; rintro e w' ⟨rfl, m0, rfl⟩; obtain ⟨ha1, ha2⟩ := HL1.out _ (h.drewN m0)) | (go_at_call_of 51 (Value.string ⟨target.toArray⟩); refine (HST.out _).mono ?_; rintro e w' ⟨rfl, m1, rfl⟩; rw [World.drewN_drewN]) | (go_at_call 39; refine (HF.out _ (h.drewN (m0 + m1))).mono ?_; rintro e w' ⟨rfl, m2, rfl⟩; rw [World.drewN_drewN]))
                go_quiet (fail)
                try rw [World.drewN_drewN]
                generalize m0 + m1 + m2 + nq = X1
                obtain ⟨hb1, hb2⟩ := HL2.out _ (h.drewN X1)
                go_wp2_with fail
                go_ret
                exact HE.out _ _ HEN.out HNO.out
          · obtain ⟨n00, n01⟩ := h.name hn0
            simp only [hfn, Option.map_some] at HL1
            clear hfn
            rcases hcond with tij | ⟨tij, tv1, tv2, tv3⟩
            · by_cases he : en = 0
              · subst he
                have HM : Hid (∀ W, B ≤ W.heap.size → Rep B W S → Calls Tryz.prog 43 #[.pointer (some ⟨x, 0, none⟩), .int .i64 j, .string ⟨target.toArray⟩] W fun en w' => MakeRes N B S W x sm g j target en w') := fun W hBW hW => make_any hBW hW hp hj ht (by rw [HFR.out])
                clear hfe hfc
                go_enter Tryz.func19, Tryz.ntmps19
                go_wp2_with (first | (go_at_call_of 35 (Value.int IntKind.i64 i); refine HT1.out.mono ?_; rintro e w' ⟨rfl, rfl⟩) | (go_at_call_of 35 (Value.int IntKind.i64 j); refine HT2.out.mono ?_; rintro e w' ⟨rfl, rfl⟩) | (go_at_call_of 51 (Value.string ⟨word.toArray⟩); refine (HSW.out _).mono ?_; rintro e w' ⟨rfl, m0, rfl⟩; obtain ⟨ha1, ha2⟩ := HL1.out _ (h.drewN m0)) | (go_at_call_of 51 (Value.string ⟨target.toArray⟩); refine (HST.out _).mono ?_; rintro e w' ⟨rfl, m1, rfl⟩; rw [World.drewN_drewN]) | (go_at_call 39; refine (HF.out _ (h.drewN (m0 + m1))).mono ?_; rintro e w' ⟨rfl, m2, rfl⟩; rw [World.drewN_drewN]))
                go_quiet (fail)
                try rw [World.drewN_drewN]
                generalize m0 + m1 + m2 + nq = X1
                obtain ⟨hb1, hb2⟩ := HL2.out _ (h.drewN X1)
                go_wp2_with fail
                obtain ⟨hd1, hd2⟩ := HL1.out _ (h.drewN (X1 + 1))
                go_region_held3 (fun w' => w'.cell? ⟨x, 0, none⟩ = some (.map (some sm))) (first | go_keep | assumption) (first | (go_at_call 43; refine (HM.out _ (by simpa using HBZ.out) (by first | exact h.drewN _ | exact (h.drewN _).drew)).mono ?_; rintro e w1 ⟨c, S1, rfl, hG1, hp1, hsame1, hmore1, hfind1⟩; obtain ⟨f1, w3, hm1, z0, z1, z2, z3, z5, z4, hgo⟩ := HPK.out _ _ _ c (by simpa using HBZ.out) hG1 hp1 hmore1; simp only [newNameO] at z1 z4 z5))
                all_goals (go_wp2_with fail; go_ret; exact ⟨0, rfl, .inr ⟨rfl, S1, c, _, ma, f1, hp1, hsame1, hmore1, hfind1, HGI.out, hm1, hG1.rep.free (Nat.le_refl _), by rw [HQW.out], by rw [HQT.out]; exact HNS.out, by first | exact ((goes_drewN h _).drew).trans hgo | exact (goes_drewN h _).trans hgo⟩⟩)
              · have HNO : Hid (¬ LinkOk S g i j word target) := fun hk => he (by have := hk.2.2.2.2; rw [HFR.out] at this; exact this)
                have te : ((en : Int) != 0) = true := by simpa using he
                have te2 : ((en : Int) == 0) = false := by simpa using he
                have HEN := Lib.hid he
                clear hfe hfc he
                go_enter Tryz.func19, Tryz.ntmps19
                go_wp2_with (first | (go_at_call_of 35 (Value.int IntKind.i64 i); refine HT1.out.mono ?_; rintro e w' ⟨rfl, rfl⟩) | (go_at_call_of 35 (Value.int IntKind.i64 j); refine HT2.out.mono ?_; rintro e w' ⟨rfl, rfl⟩) | (go_at_call_of 51 (Value.string ⟨word.toArray⟩); refine (HSW.out _).mono ?_; rintro e w' ⟨rfl, m0, rfl⟩; obtain ⟨ha1, ha2⟩ := HL1.out _ (h.drewN m0)) | (go_at_call_of 51 (Value.string ⟨target.toArray⟩); refine (HST.out _).mono ?_; rintro e w' ⟨rfl, m1, rfl⟩; rw [World.drewN_drewN]) | (go_at_call 39; refine (HF.out _ (h.drewN (m0 + m1))).mono ?_; rintro e w' ⟨rfl, m2, rfl⟩; rw [World.drewN_drewN]))
                go_quiet (fail)
                try rw [World.drewN_drewN]
                generalize m0 + m1 + m2 + nq = X1
                obtain ⟨hb1, hb2⟩ := HL2.out _ (h.drewN X1)
                go_wp2_with fail
                go_ret
                exact HE.out _ _ HEN.out HNO.out
            · by_cases he : en = 0
              · subst he
                have HM : Hid (∀ W, B ≤ W.heap.size → Rep B W S → Calls Tryz.prog 43 #[.pointer (some ⟨x, 0, none⟩), .int .i64 j, .string ⟨target.toArray⟩] W fun en w' => MakeRes N B S W x sm g j target en w') := fun W hBW hW => make_any hBW hW hp hj ht (by rw [HFR.out])
                clear hfe hfc
                go_enter Tryz.func19, Tryz.ntmps19
                go_wp2_with (first | (go_at_call_of 35 (Value.int IntKind.i64 i); refine HT1.out.mono ?_; rintro e w' ⟨rfl, rfl⟩) | (go_at_call_of 35 (Value.int IntKind.i64 j); refine HT2.out.mono ?_; rintro e w' ⟨rfl, rfl⟩) | (go_at_call_of 51 (Value.string ⟨word.toArray⟩); refine (HSW.out _).mono ?_; rintro e w' ⟨rfl, m0, rfl⟩; obtain ⟨ha1, ha2⟩ := HL1.out _ (h.drewN m0)) | (go_at_call_of 51 (Value.string ⟨target.toArray⟩); refine (HST.out _).mono ?_; rintro e w' ⟨rfl, m1, rfl⟩; rw [World.drewN_drewN]) | (go_at_call 39; refine (HF.out _ (h.drewN (m0 + m1))).mono ?_; rintro e w' ⟨rfl, m2, rfl⟩; rw [World.drewN_drewN]))
                go_quiet (fail)
                try rw [World.drewN_drewN]
                generalize m0 + m1 + m2 + nq = X1
                obtain ⟨hb1, hb2⟩ := HL2.out _ (h.drewN X1)
                go_wp2_with fail
                obtain ⟨hd1, hd2⟩ := HL1.out _ (h.drewN (X1 + 1))
                go_region_held3 (fun w' => w'.cell? ⟨x, 0, none⟩ = some (.map (some sm))) (first | go_keep | assumption) (first | (go_at_call 43; refine (HM.out _ (by simpa using HBZ.out) (by first | exact h.drewN _ | exact (h.drewN _).drew)).mono ?_; rintro e w1 ⟨c, S1, rfl, hG1, hp1, hsame1, hmore1, hfind1⟩; obtain ⟨f1, w3, hm1, z0, z1, z2, z3, z5, z4, hgo⟩ := HPK.out _ _ _ c (by simpa using HBZ.out) hG1 hp1 hmore1; simp only [newNameO] at z1 z4 z5))
                all_goals (go_wp2_with fail; go_ret; exact ⟨0, rfl, .inr ⟨rfl, S1, c, _, ma, f1, hp1, hsame1, hmore1, hfind1, HGI.out, hm1, hG1.rep.free (Nat.le_refl _), by rw [HQW.out], by rw [HQT.out]; exact HNS.out, by first | exact ((goes_drewN h _).drew).trans hgo | exact (goes_drewN h _).trans hgo⟩⟩)
              · have HNO : Hid (¬ LinkOk S g i j word target) := fun hk => he (by have := hk.2.2.2.2; rw [HFR.out] at this; exact this)
                have te : ((en : Int) != 0) = true := by simpa using he
                have te2 : ((en : Int) == 0) = false := by simpa using he
                have HEN := Lib.hid he
                clear hfe hfc he
                go_enter Tryz.func19, Tryz.ntmps19
                go_wp2_with (first | (go_at_call_of 35 (Value.int IntKind.i64 i); refine HT1.out.mono ?_; rintro e w' ⟨rfl, rfl⟩) | (go_at_call_of 35 (Value.int IntKind.i64 j); refine HT2.out.mono ?_; rintro e w' ⟨rfl, rfl⟩) | (go_at_call_of 51 (Value.string ⟨word.toArray⟩); refine (HSW.out _).mono ?_; rintro e w' ⟨rfl, m0, rfl⟩; obtain ⟨ha1, ha2⟩ := HL1.out _ (h.drewN m0)) | (go_at_call_of 51 (Value.string ⟨target.toArray⟩); refine (HST.out _).mono ?_; rintro e w' ⟨rfl, m1, rfl⟩; rw [World.drewN_drewN]) | (go_at_call 39; refine (HF.out _ (h.drewN (m0 + m1))).mono ?_; rintro e w' ⟨rfl, m2, rfl⟩; rw [World.drewN_drewN]))
                go_quiet (fail)
                try rw [World.drewN_drewN]
                generalize m0 + m1 + m2 + nq = X1
                obtain ⟨hb1, hb2⟩ := HL2.out _ (h.drewN X1)
                go_wp2_with fail
                go_ret
                exact HE.out _ _ HEN.out HNO.out
end Go.Proofs.YtcaifihdbcjakaaGreat
