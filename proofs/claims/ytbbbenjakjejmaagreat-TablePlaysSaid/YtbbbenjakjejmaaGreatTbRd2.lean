/- The reference's table: 'leads', 'Origin', 'Name', 'Count'. -/
import Derived.Test.YtbbbenjakjejmaaGreatTbRd1
import Derived.Deep.LoopGhost
namespace Go.Proofs.YtbbbenjakjejmaaGreat
set_option linter.unusedVariables false
set_option linter.unusedSimpArgs false
open Go.RowKit Go.MapKept Go.WideMaps
theorem up_root {S : TS} {n r s : Nat} {c d : Cm} (h : Up S n r) (k : Up S n s) (hc : S.cm r = some c) (h0 : c.org = 0) (hd : S.cm s = some d) (k0 : d.org = 0) : r = s := by
  induction h with
  | refl n =>
    cases k with
    | refl => rfl
    | step h1 h2 _ => rw [hc] at h1; cases h1; exact absurd h0 h2
  | step h1 h2 _ ih =>
    cases k with
    | refl => rw [hd] at h1; cases h1; exact absurd k0 h2
    | step h3 h4 k' => rw [h1] at h3; cases h3; exact ih k' hc
theorem keys_snoc (f : Nat → Option Cm) (n : Nat) : ((List.range (n + 1)).filter fun k => (f k).isSome) = ((List.range n).filter fun k => (f k).isSome) ++ (if (f n).isSome = true then [n] else []) := by
  rw [List.range_succ, List.filter_append]
  congr 1
  by_cases h : (f n).isSome = true <;> simp [List.filter_cons, h]
section
variable {w : World} {B yb ep : Nat} {l : List RC} {v : Value} {S : TS}
/-- What lies at the number of a command that is there. -/
theorem Rf.num (h : Rf w B yb l ep v) (hs : Sim S l) (hW : WF S) {a : Nat} {d : Cm} (hd : S.cm a = some d) : ∃ i g cap, a = i + 1 ∧ i < l.length ∧ v = .slice (some ⟨g, 0, none⟩) l.length cap ∧
    w.cell? ⟨g, i * 4, none⟩ = some (.string ⟨d.name.toArray⟩) ∧ w.cell? ⟨g, i * 4 + 1, none⟩ = some (.bool d.hid) ∧ w.cell? ⟨g, i * 4 + 2, none⟩ = some (.bool true) ∧ w.cell? ⟨g, i * 4 + 3, none⟩ = some (.int .i64 (d.org : Int)) := by
  obtain ⟨i, r, rfl, hi, ht, e1, e2, e3⟩ := hs.at_ hW hd
  obtain ⟨g, cap, hv, hg, d0, d1, d2, d3, _⟩ := h.at_ hi
  rw [ht] at d2
  rw [e1, e2, e3]
  exact ⟨i, g, cap, rfl, (List.getElem?_eq_some_iff.1 hi).1, hv, d0, d1, d2, d3⟩
set_option maxHeartbeats 800000 in
theorem rleads_any (h : Rf w B yb l ep v) (hs : Sim S l) (hW : WF S) (hl : S.last ≤ 100000) {n : Nat} {c : Cm} (hc : S.cm n = some c) (to : Nat) (ht : 1 ≤ to) :
    Calls Tryz.prog 48 #[.pointer (some ⟨yb, 0, none⟩), .int .i64 (n : Int), .int .i64 (to : Int)] w fun e w' => ∃ q, e = .returned (.bool q) ∧ (q = true ↔ Up S n to) ∧ w = w' := by
  obtain ⟨c0, _⟩ := h.cells
  obtain ⟨i0, g, cap, hx1, hi0, hv, hx2⟩ := h.num hs hW hc
  clear hx1 hx2
  rw [hv] at c0
  have H := Lib.hid (And.intro h (And.intro hs (And.intro hW (And.intro hc (And.intro hv (And.intro hl hs.len))))))
  obtain ⟨N, hN⟩ : ∃ N, l.length = N := ⟨_, rfl⟩
  have HN := Lib.hid hN
  rw [hN] at c0
  clear h hs hW hc hv hi0 hN hl
  go_enter Tryz.func48, Tryz.ntmps48
  go_wp2_with fail
  go_loopg [1] n (fun gh q wr => w = wr ∧ ∃ a : Nat, a ≤ gh ∧ q = .int .i64 (a : Int) ∧ (a ≠ 0 → ∃ d, S.cm a = some d) ∧ (a ≠ 0 → Up S n a) ∧ (Up S n to → a ≠ 0 ∧ Up S a to))
  case atStart => exact ⟨rfl, n, Nat.le_refl _, rfl, fun _ => ⟨c, H.out.2.2.2.1⟩, fun _ => .refl _, fun hu => ⟨by have := (H.out.2.2.1.pos n c H.out.2.2.2.1).1; omega, hu⟩⟩
  case round =>
    obtain ⟨rfl, a, hag, rfl, hex, hup, hto⟩ := hrel
    by_cases ha : a = 0
    · subst ha
      have HQ := Lib.hid hto
      clear hex hup hto hag
      go_wp2_with fail
      go_ret
      exact ⟨false, rfl, ⟨(fun h => by cases h), fun hu => absurd rfl (HQ.out hu).1⟩, rfl⟩
    · obtain ⟨d, hd⟩ := hex ha
      obtain ⟨i, g2, cap2, hai, hil, hv2, d0, d1, d2, d3⟩ := H.out.1.num H.out.2.1 H.out.2.2.1 hd
      rw [H.out.2.2.2.2.1] at hv2
      cases hv2
      have t0 : decide (0 < (a : Int)) = true := by rw [decide_eq_true_eq]; omega
      have t1 : 0 < a := by omega
      by_cases hat : a = to
      · subst hat
        have HQ := Lib.hid (hup ha)
        clear hex hup hto hag hai hil hd d0 d1 d2 d3
        go_wp2_with fail
        go_ret
        exact ⟨true, rfl, ⟨fun _ => HQ.out, fun _ => rfl⟩, rfl⟩
      · have t2 : ((a : Int) == (to : Int)) = false := beq_eq_false_iff_ne.2 (by omega)
        have t3 : ¬ a = to := hat
        have hw1 : IntKind.i64.wrap ((a : Int) - 1) = (i : Int) := by rw [IntWalk.i64_in _ (by have := H.out.2.2.2.2.2.2; have := H.out.2.2.2.2.2.1; omega)]; omega
        have i1 : i < N := by rw [← HN.out]; exact hil
        have hdo := H.out.2.2.1.org a d hd
        have HQ : Hid (d.org < a ∧ (d.org ≠ 0 → ∃ d', S.cm d.org = some d') ∧ (d.org ≠ 0 → Up S n d.org) ∧ (Up S n to → d.org ≠ 0 ∧ Up S d.org to) ∧ a ≤ gk) := by
          refine ⟨?_, fun h0 => ?_, fun h0 => ?_, fun hu => ?_, hag⟩
          · by_cases h0 : d.org = 0
            · omega
            · obtain ⟨p, _, _, hlt⟩ := hdo h0; exact hlt
          · obtain ⟨p, hp, _⟩ := hdo h0; exact ⟨p, hp⟩
          · exact up_snoc (hup ha) hd h0
          · cases (hto hu).2 with
            | refl => exact absurd rfl hat
            | step h1 h2 h3 => rw [hd] at h1; cases h1; exact ⟨h2, h3⟩
        generalize d.org = og at *
        clear hex hup hto hag hai hil hd d0 d1 d2 hdo
        go_wp2_with fail
        go_roundg (gk - 1)
        case measure => have := HQ.out.1; have := HQ.out.2.2.2.2; omega
        case rel => exact ⟨rfl, og, by have := HQ.out.1; have := HQ.out.2.2.2.2; omega, rfl, HQ.out.2.1, HQ.out.2.2.1, HQ.out.2.2.2.1⟩
set_option maxHeartbeats 800000 in
theorem rOrigin_none (h : Rf w B yb l ep v) (hs : Sim S l) (hW : WF S) (hl : S.last ≤ 100000) {i : Int} (hi : (Lit.int .i64 i).wf = true) (hn : S.num i = none) :
    Calls Tryz.prog 24 #[.pointer (some ⟨yb, 0, none⟩), .int .i64 i] w fun e w' => e = .returned (.tuple #[.int .i64 0, .int .i64 8]) ∧ w = w' := by
  have TH := Lib.hid (rthere_any h hs hW hl i hi (q := false) (by rw [hn]; rfl))
  clear h hs hW
  go_enter Tryz.func24, Tryz.ntmps24
  go_wp2_with (go_at_call 47; refine TH.out.mono ?_; rintro e w2 ⟨rfl, rfl⟩)
  go_ret2
  exact ⟨rfl, rfl⟩
set_option maxRecDepth 100000 in
set_option maxHeartbeats 800000 in
theorem rOrigin_any (h : Rf w B yb l ep v) (hs : Sim S l) (hW : WF S) (hl : S.last ≤ 100000) {n : Nat} {c : Cm} (hc : S.cm n = some c) :
    Calls Tryz.prog 24 #[.pointer (some ⟨yb, 0, none⟩), .int .i64 (n : Int)] w fun e w' => ∃ (r : Nat) (d : Cm), e = .returned (.tuple #[.int .i64 (r : Int), .int .i64 0]) ∧ S.cm r = some d ∧ d.org = 0 ∧ Up S n r ∧ w = w' := by
  have hnl := hW.pos n c hc
  have TH := Lib.hid (rthere_any h hs hW hl (n : Int) (nat_wf (by omega)) (q := true) (by rw [num_nat, hc]; rfl))
  obtain ⟨c0, _⟩ := h.cells
  obtain ⟨i0, g, cap, hx1, hi0, hv, hx2⟩ := h.num hs hW hc
  clear hx1 hx2
  rw [hv] at c0
  have H := Lib.hid (And.intro h (And.intro hs (And.intro hW (And.intro hc (And.intro hv (And.intro hl hs.len))))))
  obtain ⟨N, hN⟩ : ∃ N, l.length = N := ⟨_, rfl⟩
  have HN := Lib.hid hN
  rw [hN] at c0
  clear h hs hW hc hv hi0 hN hl hnl
  go_enter Tryz.func24, Tryz.ntmps24
  go_wp2_with (go_at_call 47; refine TH.out.mono ?_; rintro e w2 ⟨rfl, rfl⟩)
  go_loopg [1] n (fun gh q wr => w = wr ∧ ∃ (a : Nat) (d : Cm), a ≤ gh ∧ q = .int .i64 (a : Int) ∧ S.cm a = some d ∧ Up S n a)
  case atStart => exact ⟨rfl, n, c, Nat.le_refl _, rfl, H.out.2.2.2.1, .refl _⟩
  case round =>
    obtain ⟨rfl, a, d, hag, rfl, hd, hup⟩ := hrel
    obtain ⟨i, g2, cap2, hai, hil, hv2, d0, d1, d2, d3⟩ := H.out.1.num H.out.2.1 H.out.2.2.1 hd
    rw [H.out.2.2.2.2.1] at hv2
    cases hv2
    have hw1 : IntKind.i64.wrap ((a : Int) - 1) = (i : Int) := by rw [IntWalk.i64_in _ (by have := H.out.2.2.2.2.2.2; have := H.out.2.2.2.2.2.1; omega)]; omega
    have i1 : i < N := by rw [← HN.out]; exact hil
    by_cases h0 : d.org = 0
    · rw [h0] at d3
      have HQ := Lib.hid (And.intro hd (And.intro h0 hup))
      clear hd h0 hup hag hai hil d0 d1 d2
      go_wp2_with fail
      go_ret2
      exact ⟨a, d, rfl, HQ.out.1, HQ.out.2.1, HQ.out.2.2, rfl⟩
    · obtain ⟨p, hp, _, hlt⟩ := H.out.2.2.1.org a d hd h0
      have hup2 := up_snoc hup hd h0
      generalize d.org = og at *
      have t0 : decide (0 < (og : Int)) = true := by rw [decide_eq_true_eq]; omega
      have t1 : 0 < og := by omega
      have HQ := Lib.hid (And.intro hlt (And.intro hp (And.intro hup2 hag)))
      clear hd h0 hup hup2 hag hai hil d0 d1 d2 hlt hp
      go_wp2_with fail
      go_roundg (gk - 1)
      case measure => have := HQ.out.1; have := HQ.out.2.2.2; omega
      case rel => exact ⟨rfl, og, p, by have := HQ.out.1; have := HQ.out.2.2.2; omega, rfl, HQ.out.2.1, HQ.out.2.2.1⟩
theorem rName_none (h : Rf w B yb l ep v) (hs : Sim S l) (hW : WF S) (hl : S.last ≤ 100000) {i : Int} (hi : (Lit.int .i64 i).wf = true) (hn : S.num i = none) :
    Calls Tryz.prog 26 #[.pointer (some ⟨yb, 0, none⟩), .int .i64 i] w fun e w' => e = .returned (.tuple #[.string ⟨#[]⟩, .bool false, .bool false]) ∧ Below w.heap.size w w' := by
  have TH := Lib.hid (rthere_any h hs hW hl i hi (q := false) (by rw [hn]; rfl))
  clear h hs hW
  go_enter Tryz.func26, Tryz.ntmps26
  go_wp2_with (go_at_call 47; refine TH.out.mono ?_; rintro e w2 ⟨rfl, rfl⟩)
  go_ret3
  exact ⟨rfl, Below.refl _ _⟩
theorem rName_any (h : Rf w B yb l ep v) (hs : Sim S l) (hW : WF S) (hl : S.last ≤ 100000) {n : Nat} {c : Cm} (hc : S.cm n = some c) :
    Calls Tryz.prog 26 #[.pointer (some ⟨yb, 0, none⟩), .int .i64 (n : Int)] w fun e w' => e = .returned (.tuple #[.string ⟨c.name.toArray⟩, .bool c.hid, .bool true]) ∧ Below w.heap.size w w' := by
  have hnl := hW.pos n c hc
  have TH := Lib.hid (rthere_any h hs hW hl (n : Int) (nat_wf (by omega)) (q := true) (by rw [num_nat, hc]; rfl))
  obtain ⟨c0, _⟩ := h.cells
  obtain ⟨i, g, cap, hai, hil, hv, d0, d1, d2, d3⟩ := h.num hs hW hc
  rw [hv] at c0
  have hw1 : IntKind.i64.wrap ((n : Int) - 1) = (i : Int) := by rw [IntWalk.i64_in _ (by have := hs.len; omega)]; omega
  generalize l.length = N at *
  have i1 : i < N := hil
  clear h hs hW hc hv hai hil hnl d2 d3 hl
  go_enter Tryz.func26, Tryz.ntmps26
  go_wp2_with (go_at_call 47; refine TH.out.mono ?_; rintro e w2 ⟨rfl, rfl⟩)
  go_quiet (fail)
  go_wp2_with fail
  go_ret3
  exact ⟨rfl, below_drewN (Below.refl _ w) _⟩
set_option maxHeartbeats 800000 in
theorem rCount_any (h : Rf w B yb l ep v) (hs : Sim S l) (hW : WF S) (hl : S.last ≤ 100000) :
    Calls Tryz.prog 41 #[.pointer (some ⟨yb, 0, none⟩)] w fun e w' => e = .returned (.int .i64 (S.cnt : Int)) ∧ Below w.heap.size w w' := by
  have hlen := hs.len
  obtain ⟨c0, _⟩ := h.cells
  obtain ⟨vo, vc, hv⟩ := h.shape
  obtain ⟨N, hN⟩ : ∃ N, l.length = N := ⟨_, rfl⟩
  have H := Lib.hid (And.intro h (And.intro hs (And.intro hW (And.intro hN hv))))
  rw [hv, hN] at c0
  have hNl : N ≤ 100000 := by omega
  have HK : Hid (S.keys = ((List.range (N + 1)).filter fun k => (S.cm k).isSome)) := by
    unfold TS.keys
    rw [← hN, hlen]
    exact rfl
  have hz0 : S.cm 0 = none := by
    cases e : S.cm 0 with
    | none => rfl
    | some d => have := (hW.pos 0 d e).1; omega
  have H0 := Lib.hid hz0
  clear hz0
  clear h hs hW hlen hN hv hl
  go_enter Tryz.func41, Tryz.ntmps41
  go_wp2_with fail
  go_loopw [3, 13] (fun n i wr => ∃ k c : Nat, k ≤ N ∧ i = .int .i64 (k : Int) ∧ n = .int .i64 (c : Int) ∧ c = ((List.range (k + 1)).filter fun k => (S.cm k).isSome).length ∧ c ≤ k ∧ Below w.heap.size w wr) (fun _ i _ => N - (intOf i).toNat)
  case atStart => exact ⟨0, 0, Nat.zero_le _, rfl, rfl, by rw [keys_snoc, H0.out]; rfl, Nat.le_refl _, Below.refl _ _⟩
  case round =>
    obtain ⟨k, c, hk, rfl, rfl, hcc, hck, hB⟩ := hrel
    by_cases hlt : k < N
    · have hkl : k < l.length := by have := H.out.2.2.2.1; omega
      have hr : l[k]? = some l[k] := List.getElem?_eq_getElem hkl
      obtain ⟨g, cap, hv, hg, d0, d1, d2, d3, _⟩ := (H.out.1.low hB).at_ hr
      rw [H.out.2.2.2.2] at hv
      injection hv with hv1 hv2 hv3
      subst hv1
      have hcm := H.out.2.1.cm k _ hr
      generalize l[k] = r at *
      obtain ⟨e0, e1, e2, e3⟩ := boxR_cells (heap_alloc_new wr (boxR r))
      unfold boxR at e0 e1 e2 e3
      have i1 : k < N := hlt
      have hw1 : IntKind.i64.wrap ((k : Int) + 1) = (k : Int) + 1 := IntWalk.i64_in _ (by omega)
      have hw2 : IntKind.i64.wrap ((c : Int) + 1) = (c : Int) + 1 := IntWalk.i64_in _ (by omega)
      have HB := Lib.hid (And.intro (hB.alloc (o := boxR r) hB.size) (And.intro hcc (And.intro hcm (And.intro hlt hck))))
      unfold boxR at HB
      obtain ⟨rn, rh, rt, ro⟩ := r
      simp only at d0 d1 d2 d3 e0 e1 e2 e3 HB
      clear hkl hr hg hB hk hlt hv2 hv3 hcc hcm hck
      cases rt with
      | false =>
        go_wp2_with fail
        exact ⟨⟨k + 1, c, by have := HB.out.2.2.2.1; omega, by go_num, rfl, by rw [keys_snoc, HB.out.2.2.1.2 rfl, HB.out.2.1]; simp, by have := HB.out.2.2.2.2; omega, HB.out.1⟩, by have := HB.out.2.2.2.1; simp [intOf]; omega⟩
      | true =>
        go_wp2_with fail
        obtain ⟨cm, hcm, _⟩ := HB.out.2.2.1.1 rfl
        exact ⟨⟨k + 1, c + 1, by have := HB.out.2.2.2.1; omega, by go_num, by go_num, by rw [keys_snoc, hcm, HB.out.2.1]; simp, by have := HB.out.2.2.2.2; omega, HB.out.1⟩, by have := HB.out.2.2.2.1; simp [intOf]; omega⟩
    · obtain rfl : k = N := by omega
      have i1 : decide ((k : Int) < (k : Int)) = false := by rw [decide_eq_false_iff_not]; omega
      have HB := Lib.hid (And.intro hB hcc)
      clear hB hk hlt hcc hck
      go_wp2_with fail
      go_ret
      exact ⟨ret_int (by rw [HB.out.2]; unfold TS.cnt; rw [HK.out]), HB.out.1⟩
end
end Go.Proofs.YtbbbenjakjejmaaGreat
