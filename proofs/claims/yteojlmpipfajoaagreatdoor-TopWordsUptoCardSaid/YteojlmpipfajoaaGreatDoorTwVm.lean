/- The reader of scripts: parts of a word without variables and scripts. The reader of scripts: a quoted word. -/
import Derived.Test.YteojlmpipfajoaaGreatDoorTwFm
import Derived.Test.YteojlmpipfajoaaGreatDoorUnesc2
import Derived.StillTailTactics
import Derived.Deep.RegionHeld3
namespace Go.Proofs.YteojlmpipfajoaaGreatDoor
set_option linter.unusedVariables false
set_option linter.unusedSimpArgs false
open Go.RowKit
section
variable {rb i j b2 b3 : Nat} {s x R : Bs}
theorem jn_two {a b : UInt8} {q : Bs} (h : s.drop j = a :: b :: q) (hb : b ≠ 10) : jnB s j = false := by
  unfold jnB Lib.hasPrefix
  rw [h]
  simp [List.isPrefixOf, Ne.symm hb]
theorem ended_rest {w : World} (h : Rd w rb s j) (hr : Rest (s.drop j)) : Calls Tryz.prog 78 #[.pointer (some ⟨rb, 0, none⟩), .bool false] w (QB true w) := by
  rcases hr with hr | ⟨q, hr⟩
  · have hle := h.le
    have hi : j = s.length := by
      have := congrArg List.length hr
      simp at this
      omega
    subst hi
    exact ended_end h
  · have hi : j < s.length := by
      rcases Nat.lt_or_ge j s.length with h' | h'
      · exact h'
      · rw [List.drop_eq_nil_of_le h'] at hr; cases hr
    have h1 : s[j] = 32 := by
      rw [List.drop_eq_getElem_cons hi] at hr
      injection hr
    exact ended_white h hi h1
/-- The closure that asks whether the word ends. -/
theorem ends_any {w : World} {v : Bool} (c2 : w.cell? ⟨b2, 0, none⟩ = some (.pointer (some ⟨rb, 0, none⟩))) (c3 : w.cell? ⟨b3, 0, none⟩ = some (.bool false)) (h : Calls Tryz.prog 78 #[.pointer (some ⟨rb, 0, none⟩), .bool false] w (QB v w)) :
    Calls Tryz.prog 77 #[.pointer (some ⟨b2, 0, none⟩), .pointer (some ⟨b3, 0, none⟩)] w (QB v w) := by
  have H := Lib.hid h
  unfold QB at H ⊢
  clear h
  go_enter Tryz.func77, Tryz.ntmps77
  go_wp2_with (go_at_call 78; refine H.out.mono ?_; rintro e w1 ⟨rfl, m, rfl⟩)
  go_ret
  exact ⟨rfl, _, rfl⟩
/-- What the reading of parts keeps, k bytes being read. -/
structure PtI (w wr : World) (rb : Nat) (s x R : Bs) (k : Nat) : Prop where
  j : ∃ j, Rd wr rb s j ∧ s.drop j = pcs x k ++ R
  tk : wr.heap[w.heap.size]? = some TksO
  bu : IsB (w.heap.size + 1) (w.heap.size + 1) (Lib.byteCells (x.take k)) wr
  kp : Kp [rb] w wr
theorem Kp.to {D : List Nat} {B : Nat} {w w1 w2 : World} (h : Kp D w w1) (hb : Below B w1 w2) (hB : w.heap.size ≤ B) : Kp D w w2 :=
  ⟨hb.os.trans h.os, hb.tape.trans h.tape, hb.output.trans h.output, Nat.le_trans h.size hb.size, fun k hk hn => (hb.block k (by omega)).trans (h.block k hk hn)⟩
/-- A builder stays where a block below it is written. -/
theorem bat_other {B b n i : Nat} {bs : List Value} {v : Value} {w : World} (h : BAt B b bs w) (hn : n < B) : BAt B b bs (w.setCell ⟨n, i, none⟩ v) := by
  obtain ⟨hB, u, hb, hown, hne⟩ := h
  refine ⟨hB, u, ?_, ?_, hne⟩
  · rw [Below.heap_setCell w ⟨n, i, none⟩ _ _ (by show b ≠ n; omega)]
    exact hb
  · refine ⟨hown.1, ?_⟩
    rcases hown.2 with h0 | ⟨g, cap, cur, fz, rfl, hg, hh, rest⟩
    · exact .inl h0
    · exact .inr ⟨g, cap, cur, fz, rfl, hg, by rw [Below.heap_setCell w ⟨n, i, none⟩ _ _ (by show g ≠ n; omega)]; exact hh, rest⟩
theorem rd_kept {B : Nat} {wr V w4 : World} (hj : Rd wr rb s j) (hV : Below wr.heap.size wr V) (hb : Below B V w4) (hB : rb < B) : Rd w4 rb s j :=
  ⟨(hb.block rb hB).trans (hj.below hV).h, hj.le, hj.len⟩
theorem tks_cell {w : World} {tb : Nat} {v : Value} (h : w.heap[tb]? = some (.cells #[v] 150 (0, 0))) : w.cell? ⟨tb, 0, none⟩ = some v := by
  simp only [World.cell?, h]; rfl
/-- One byte more. -/
theorem pt_next {w wr V w4 : World} {k d : Nat} {e : Int} {bs : List Value} (hrb : rb < w.heap.size) (H : PtI w wr rb s x R k) (hj : Rd wr rb s j) (hVB : Below wr.heap.size wr V) (hb : Below (w.heap.size + 1) V w4) (hB : BAt (w.heap.size + 1) (w.heap.size + 1) bs w4) (hbs : bs = Lib.byteCells (x.take (k + 1))) (he : e = ((j + d : Nat) : Int)) (hd : s.drop (j + d) = pcs x (k + 1) ++ R) (hl : j + d ≤ s.length) :
    Hid (PtI w (w4.setCell ⟨rb, 1, none⟩ (.int .i64 e)) rb s x R (k + 1)) := by
  subst he hbs
  have hwl := H.kp.size
  have htl : w.heap.size < wr.heap.size := (Array.getElem?_eq_some_iff.1 H.tk).1
  have hR4 : Rd w4 rb s j := ⟨(hb.block rb (by omega)).trans (hj.below hVB).h, hj.le, hj.len⟩
  have hk4 : Kp [rb] w w4 := (H.kp.to hVB H.kp.size).to hb (by omega)
  have ht4 : w4.heap[w.heap.size]? = some TksO := (hb.block _ (by omega)).trans ((hVB.block _ htl).trans H.tk)
  refine ⟨⟨j + d, hR4.step (j + d) hl, hd⟩, ?_, ?_, hk4.setCell rb 1 _ (.inl (by simp))⟩
  · rw [Below.heap_setCell w4 ⟨rb, 1, none⟩ _ _ (by show w.heap.size ≠ rb; omega)]
    exact ht4
  · exact .inr (bat_other hB (by omega))
set_option maxRecDepth 100000 in
set_option maxHeartbeats 3200000 in
theorem parts_any {w : World} (h : Rd w rb s i) (hd : s.drop i = slashed x ++ R) (hR : Rest R) (hx : x ≠ []) (hxl : x.length ≤ 100000) (h2 : w.cell? ⟨b2, 0, none⟩ = some (.pointer (some ⟨rb, 0, none⟩))) (h3 : w.cell? ⟨b3, 0, none⟩ = some (.bool false)) (n2 : b2 ≠ rb) (n3 : b3 ≠ rb) :
    Calls Tryz.prog 76 #[.pointer (some ⟨rb, 0, none⟩), .func (.func 77) #[] #[.pointer (some ⟨b2, 0, none⟩), .pointer (some ⟨b3, 0, none⟩)]] w fun e w' => ∃ v, e = .returned v ∧ TokAt w' v x ∧ (∀ g c n, v = .slice (some ⟨g, 0, none⟩) n c → w.heap.size ≤ g) ∧ Rd w' rb s (i + (slashed x).length) ∧ Kp [rb] w w' := by
  have hmf : ∀ (fn : Fn) (first cap : Array Value) (w : World), (Instr.makeFunc fn first cap).run Tryz.prog w = .ok (.func fn first cap) w := fun _ _ _ _ => rfl
  have hrb := h.lt
  have hlen := h.len
  have l2 : b2 < w.heap.size := by
    rcases Nat.lt_or_ge b2 w.heap.size with hh | hh
    · exact hh
    · simp [World.cell?, Array.getElem?_eq_none hh] at h2
  have l3 : b3 < w.heap.size := by
    rcases Nat.lt_or_ge b3 w.heap.size with hh | hh
    · exact hh
    · simp [World.cell?, Array.getElem?_eq_none hh] at h3
  have H0 := Lib.hid h
  have HD := Lib.hid hd
  have HRR := Lib.hid hR
  have HX := Lib.hid hx
  have KC : Hid (∀ W, Kp [rb] w W → W.cell? ⟨b2, 0, none⟩ = some (.pointer (some ⟨rb, 0, none⟩)) ∧ W.cell? ⟨b3, 0, none⟩ = some (.bool false)) := fun W hk =>
    ⟨by have := hk.block b2 l2 (by simpa using n2); simp only [World.cell?] at h2 ⊢; rw [this]; exact h2, by have := hk.block b3 l3 (by simpa using n3); simp only [World.cell?] at h3 ⊢; rw [this]; exact h3⟩
  have hI0 : PtI w ((w.alloc (.cells #[.slice none 0 0] 150)).alloc (.cells #[.pointer none, .slice none 0 0] 54)) rb s x R 0 := by
    have hA := (Below.refl w.heap.size w).alloc (Nat.le_refl _) (.cells #[.slice none 0 0] 150)
    have hA2 := hA.alloc (by simp) (.cells #[.pointer none, .slice none 0 0] 54)
    refine ⟨⟨i, h.below hA2, by rw [pcs_zero]; exact hd⟩, ?_, ?_, (kp_of_below hA2).mono (by simp)⟩
    · exact (Below.heap_alloc _ _ _ (by simp)).trans (heap_alloc_new w _)
    · have hz : (w.alloc (.cells #[.slice none 0 0] 150)).heap.size = w.heap.size + 1 := by simp
      have := IsB.new (w.alloc (.cells #[.slice none 0 0] 150))
      rw [hz] at this
      exact this
  have HI0 := Lib.hid hI0
  clear h hd hR hx h2 h3 hI0
  go_enter Tryz.func76, Tryz.ntmps76
  go_wp2_with fail
  go_loopg [8, 9, 10, 11, 12] x.length (fun g _ _ _ _ _ wr => ∃ k, k + g = x.length ∧ Hid (PtI w wr rb s x R k))
  case atStart => exact ⟨0, by omega, HI0.out⟩
  case round =>
    obtain ⟨k, hkg, HI⟩ := hrel
    obtain ⟨j, hj, hdj⟩ := HI.out.j
    have HJ := Lib.hid hj
    have hjle := hj.le
    obtain ⟨c0, c1, c3, c4, c5, fz⟩ := hj.f
    obtain ⟨k2, k3⟩ := KC.out wr HI.out.kp
    by_cases hlt : k < x.length
    · have hps := pcs_step x hlt
      rw [hps, List.append_assoc] at hdj
      obtain ⟨c, hc⟩ : ∃ c, x[k] = c := ⟨_, rfl⟩
      rw [hc] at hdj
      have htk : x.take (k + 1) = x.take k ++ [c] := by rw [List.take_succ_eq_append_getElem hlt, hc]
      have hjl : j < s.length := by
        rcases Nat.lt_or_ge j s.length with h' | h'
        · exact h'
        · rw [List.drop_eq_nil_of_le h'] at hdj
          rcases piece (k == 0) c with ⟨q, _⟩ | ⟨q, _⟩ <;> (rw [q] at hdj; cases hdj)
      have hjI : (j : Int) < (s.length : Int) := by omega
      have hj0 : (0 : Int) ≤ (j : Int) := by omega
      rcases piece (k == 0) c with ⟨q, lit⟩ | ⟨q, ue⟩
      · rw [q] at hdj
        have hsj : s[j] = c := by
          rw [List.drop_eq_getElem_cons hjl] at hdj
          injection hdj
        have hd1 : s.drop (j + 1) = pcs x (k + 1) ++ R := by
          rw [List.drop_eq_getElem_cons hjl] at hdj
          injection hdj
        have EN := Lib.hid (ends_any k2 k3 (ended_no hj hjl (by rw [hsj]; exact lit.nl) (by rw [hsj]; exact lit.semi) (by rw [hsj]; exact lit.white) (jn_first hjl (by rw [hsj]; exact lit.back))))
        unfold QB at EN
        have t1 : ((c.toNat : Int) == 92) = false := u8_ne (n := 92) lit.back
        have t2 : ((c.toNat : Int) == 36) = false := u8_ne (n := 36) lit.dollar
        have t3 : ((c.toNat : Int) == 91) = false := u8_ne (n := 91) lit.brack
        have HQ := Lib.hid (And.intro hd1 htk)
        clear hdj q lit hd1 htk hps hc
        go_wp2_with (go_at_call 77; refine EN.out.mono ?_; rintro e w1 ⟨rfl, m1, rfl⟩)
        go_quiet (fail)
        go_wp2_with fail
        refine wp_region_still_tail 9 (by kernel_rfl) (by kernel_rfl) ?_
        have hV : Below wr.heap.size wr { wr.drewN (m1 + nq) with drawn := (wr.drewN (m1 + nq)).drawn + 1 } := ⟨rfl, rfl, rfl, Nat.le_refl _, fun _ _ => rfl⟩
        obtain ⟨V, hVe⟩ : ∃ V, V = ({ wr.drewN (m1 + nq) with drawn := (wr.drewN (m1 + nq)).drawn + 1 } : World) := ⟨_, rfl⟩
        rw [← hVe] at hV ⊢
        clear hVe
        obtain ⟨d0, d1, -, -, -, -⟩ := (HJ.out.below hV).f
        have HV := Lib.hid hV
        have HBV := Lib.hid (HI.out.bu.below hV)
        have htl : w.heap.size < wr.heap.size := (Array.getElem?_eq_some_iff.1 HI.out.tk).1
        have hVs := hV.size
        have hkl : (x.take k).length ≤ 100000 := by rw [List.length_take]; omega
        have RK := Lib.hid (fun w4 (hb : Below (w.heap.size + 1) V w4) => rd_kept HJ.out HV.out hb (by omega))
        clear hV
        simp only [List.take_succ_cons, List.take_zero, List.drop_succ_cons, List.drop_zero]
        repeat still_step
        try refine wpStill_nil ?_
        go_wp2_with (go_at_call 18; refine (WriteByte_any _ _ _ _ _ HBV.out (by rw [byteCells_len]; omega) (by omega)).mono ?_; rintro e w4 ⟨rfl, hB5, hb5, hk5⟩; obtain ⟨f0, f1, -, -, -, ff⟩ := (RK.out _ hb5).f; have H5 := Lib.hid (And.intro hB5 hb5); clear hB5 hb5 hk5)
        go_roundg (gk - 1)
        case measure => omega
        case rel => exact ⟨k + 1, by omega, pt_next (d := 1) hrb HI.out HJ.out HV.out H5.out.2 H5.out.1 (by rw [HQ.out.2, byteCells_snoc]) (by omega) HQ.out.1 (by omega)⟩
      · rw [q] at hdj
        have hd2 : s.drop j = 92 :: letW c :: (pcs x (k + 1) ++ R) := hdj
        have hsj : s[j] = 92 := by
          rw [List.drop_eq_getElem_cons hjl] at hd2
          injection hd2
        have hdn : s.drop (j + 2) = pcs x (k + 1) ++ R := by rw [← List.drop_drop, hd2]; rfl
        have hj2 : j + 2 ≤ s.length := by
          have := congrArg List.length hd2
          simp at this
          omega
        have EN := Lib.hid (ends_any k2 k3 (ended_no hj hjl (by rw [hsj]; decide) (by rw [hsj]; decide) (by rw [hsj]; decide) (jn_two hd2 (letW_ne c))))
        unfold QB at EN
        have UN := Lib.hid (fun W => Unescape_any (s.drop j) (by rw [List.length_drop]; omega) W)
        rw [hd2, ue, ← hd2] at UN
        have HQ := Lib.hid (And.intro hdn htk)
        clear hdj q ue hd2 hdn htk hps hc
        go_wp2_with (go_at_call 77; refine EN.out.mono ?_; rintro e w1 ⟨rfl, m1, rfl⟩)
        go_quiet (fail)
        go_wp2_with fail
        have hks : ∀ W W' : World, (Below wr.heap.size wr W ∧ W.cell? ⟨rb, 0, none⟩ = some (.string ⟨s.toArray⟩) ∧ W.cell? ⟨rb, 1, none⟩ = some (.int .i64 (j : Int))) → Below W.heap.size W W' → (Below wr.heap.size wr W' ∧ W'.cell? ⟨rb, 0, none⟩ = some (.string ⟨s.toArray⟩) ∧ W'.cell? ⟨rb, 1, none⟩ = some (.int .i64 (j : Int))) := fun W W' h hb => by
          have hb2 := h.1.trans (hb.mono h.1.size)
          have := (HJ.out.below hb2).f
          exact ⟨hb2, this.1, this.2.1⟩
        have hs0 : Below wr.heap.size wr (wr.drewN (m1 + nq)).drew ∧ (wr.drewN (m1 + nq)).drew.cell? ⟨rb, 0, none⟩ = some (.string ⟨s.toArray⟩) ∧ (wr.drewN (m1 + nq)).drew.cell? ⟨rb, 1, none⟩ = some (.int .i64 (j : Int)) := ⟨⟨rfl, rfl, rfl, Nat.le_refl _, fun _ _ => rfl⟩, c0, c1⟩
        have HSn : Hid (∀ n, Below wr.heap.size wr (wr.drewN n) ∧ (wr.drewN n).cell? ⟨rb, 0, none⟩ = some (.string ⟨s.toArray⟩) ∧ (wr.drewN n).cell? ⟨rb, 1, none⟩ = some (.int .i64 (j : Int))) := fun n => ⟨⟨rfl, rfl, rfl, Nat.le_refl _, fun _ _ => rfl⟩, c0, c1⟩
        have KS := Lib.hid hks
        have HS0 := Lib.hid hs0
        have hjL : (j : Int) ≤ (s.length : Int) := by omega
        have htl : w.heap.size < wr.heap.size := (Array.getElem?_eq_some_iff.1 HI.out.tk).1
        have hkl : (x.take k).length ≤ 100000 := by rw [List.length_take]; omega
        clear hks hs0
        go_region_held3 (fun w' => Below wr.heap.size wr w' ∧ w'.cell? ⟨rb, 0, none⟩ = some (.string ⟨s.toArray⟩) ∧ w'.cell? ⟨rb, 1, none⟩ = some (.int .i64 (j : Int))) (first | (with_reducible exact HS0.out) | (with_reducible exact HSn.out _) | (with_reducible exact KS.out _ _ (HSn.out _) hbu)) ((go_at_call 94; refine (UN.out _).mono ?_; rintro e w2 ⟨rfl, hbu⟩))
        have HV := Lib.hid (show Below wr.heap.size wr w2 from (HSn.out (m1 + nq + 1)).1.trans hbu)
        have HBV := Lib.hid (HI.out.bu.below HV.out)
        have hVs := HV.out.size
        have RK := Lib.hid (fun w4 (hb : Below (w.heap.size + 1) w2 w4) => rd_kept HJ.out HV.out hb (by omega))
        clear hbu
        go_wp2_with (go_at_call 19; refine (WriteString_any _ _ _ ⟨#[c]⟩ _ HBV.out (by rw [byteCells_len]; simp [ByteArray.size]; omega) (by omega)).mono ?_; rintro e w4 ⟨rfl, hB5, hb5, hk5⟩; obtain ⟨f0, f1, -, -, -, ff⟩ := (RK.out _ hb5).f; have H5 := Lib.hid (And.intro hB5 hb5); clear hB5 hb5 hk5)
        go_roundg (gk - 1)
        case measure => omega
        case rel => exact ⟨k + 1, by omega, pt_next (d := 2) hrb HI.out HJ.out HV.out H5.out.2 H5.out.1 (by rw [HQ.out.2, byteCells_more]) (by omega) HQ.out.1 (by omega)⟩
    · obtain rfl : k = x.length := by omega
      rw [pcs_end x HX.out, List.nil_append] at hdj
      have hjJ : j = i + (slashed x).length := by
        have e1 := congrArg List.length HD.out
        have e2 := congrArg List.length hdj
        have e3 := H0.out.le
        simp at e1 e2
        omega
      have EN := Lib.hid (ends_any k2 k3 (ended_rest hj (by rw [hdj]; exact HRR.out)))
      unfold QB at EN
      have FL : Hid (∀ n, Calls Tryz.prog 90 #[.pointer (some ⟨w.heap.size + 1, 0, none⟩), .pointer (some ⟨w.heap.size, 0, none⟩)] (wr.drewN n) fun e w' => e = .returned (.tuple #[]) ∧ (∃ g c, w'.heap[w.heap.size]? = some (.cells #[.slice (some ⟨g, 0, none⟩) 1 c] 150 (0, 0)) ∧ w.heap.size + 1 < g ∧ TokAt w' (.slice (some ⟨g, 0, none⟩) 1 c) x) ∧ Below w.heap.size (wr.drewN n) w') := fun n =>
        flush_any HX.out (by omega) HI.out.tk (by have := HI.out.bu.below (below_drewN (Below.refl _ _) n); rw [List.take_length] at this; exact this)
      clear hdj
      go_wp2_with (first | (go_at_call 77; refine EN.out.mono ?_; rintro e w1 ⟨rfl, m1, rfl⟩) | (go_at_call 90; refine (FL.out _).mono ?_; rintro e w3 ⟨rfl, ⟨g, cg, hh3, hg3, ht3⟩, hb3⟩; have ch3 := tks_cell hh3; have H3 := Lib.hid (And.intro hh3 (And.intro hg3 (And.intro ht3 hb3))); clear hh3 hg3 ht3 hb3))
      go_ret
      obtain ⟨q1, q2, q3, q4⟩ := H3.out
      refine ⟨_, rfl, q3, fun g' c' n' e => ?_, ?_, ?_⟩
      · cases e; omega
      · rw [← hjJ]
        exact ⟨(q4.block rb hrb).trans (HJ.out.drewN _).h, HJ.out.le, HJ.out.len⟩
      · exact (HI.out.kp.drewN _).to q4 (Nat.le_refl _)
end
end Go.Proofs.YteojlmpipfajoaaGreatDoor
namespace Go.Proofs.YteojlmpipfajoaaGreatDoor
set_option linter.unusedVariables false
set_option linter.unusedSimpArgs false
open Go.RowKit Go.MapKept
section
variable {rb i J : Nat} {s x R : Bs}
/-- The word's block is written. -/
theorem word_done {w w4 : World} {b g c : Nat} (hrb : rb < w.heap.size) (K4 : Kp [rb] w w4) (hb : w.heap.size ≤ b) (hT : TokAt w4 (.slice (some ⟨g, 0, none⟩) 1 c) x) (hg : w.heap.size ≤ g) (hne : g ≠ b) (hR : Rd w4 rb s J) :
    TokAt ((w4.setCell ⟨b, 0, none⟩ (.bool false)).setCell ⟨b, 1, none⟩ (.slice (some ⟨g, 0, none⟩) 1 c)) (.slice (some ⟨g, 0, none⟩) 1 c) x ∧ Rd ((w4.setCell ⟨b, 0, none⟩ (.bool false)).setCell ⟨b, 1, none⟩ (.slice (some ⟨g, 0, none⟩) 1 c)) rb s J ∧ Kp [rb] w ((w4.setCell ⟨b, 0, none⟩ (.bool false)).setCell ⟨b, 1, none⟩ (.slice (some ⟨g, 0, none⟩) 1 c)) := by
  have hS : Kp [b] w4 ((w4.setCell ⟨b, 0, none⟩ (.bool false)).setCell ⟨b, 1, none⟩ (.slice (some ⟨g, 0, none⟩) 1 c)) :=
    ((Kp.refl _ w4).setCell b 0 _ (.inl (by simp))).setCell b 1 _ (.inl (by simp))
  exact ⟨hT.kp hS (fun g' c' n' e => by cases e; simpa using hne), hR.kp hS (by simp; omega), (K4.setCell b 0 _ (.inr hb)).setCell b 1 _ (.inr hb)⟩
/-- The boxes of a word that is being read. -/
structure WB (w V : World) (rb : Nat) : Prop where
  below : Below w.heap.size w V
  b0 : V.cell? ⟨w.heap.size, 0, none⟩ = some (.pointer (some ⟨rb, 0, none⟩))
  b1 : V.cell? ⟨w.heap.size + 1, 0, none⟩ = some (.bool false)
  b2 : V.heap[w.heap.size + 1 + 1]? = some WdO
theorem wb_new (w : World) (rb : Nat) : WB w (((w.alloc (.cells #[.pointer (some ⟨rb, 0, none⟩)] 63)).alloc (.cells #[.bool false] 4)).alloc (.cells #[.bool false, .slice none 0 0] 41)) rb := by
  have h1 := (Below.refl w.heap.size w).alloc (Nat.le_refl _) (.cells #[.pointer (some ⟨rb, 0, none⟩)] 63)
  have h2 := h1.alloc (by simp) (.cells #[.bool false] 4)
  have h3 := h2.alloc (by simp; omega) (.cells #[.bool false, .slice none 0 0] 41)
  refine ⟨h3, by simp [go_sem], by simp [go_sem], ?_⟩
  have hn := heap_alloc_new ((w.alloc (.cells #[.pointer (some ⟨rb, 0, none⟩)] 63)).alloc (.cells #[.bool false] 4)) (.cells #[.bool false, .slice none 0 0] 41)
  have hz : ((w.alloc (.cells #[.pointer (some ⟨rb, 0, none⟩)] 63)).alloc (.cells #[.bool false] 4)).heap.size = w.heap.size + 1 + 1 := by simp
  rw [hz] at hn
  exact hn
theorem WB.lt {w V : World} (h : WB w V rb) : w.heap.size + 1 + 1 < V.heap.size := (Array.getElem?_eq_some_iff.1 h.b2).1
theorem WB.kp {w V V' : World} (h : WB w V rb) (hrb : rb < w.heap.size) (hk : Kp [rb] V V') (hb : Kp [rb] w V') : V'.cell? ⟨w.heap.size, 0, none⟩ = some (.pointer (some ⟨rb, 0, none⟩)) ∧ V'.cell? ⟨w.heap.size + 1, 0, none⟩ = some (.bool false) ∧ V'.heap[w.heap.size + 1 + 1]? = some WdO := by
  have hl := h.lt
  have e : ∀ b, b < V.heap.size → b ≠ rb → ∀ j, V'.cell? ⟨b, j, none⟩ = V.cell? ⟨b, j, none⟩ := fun b h1 h2 j => by simp only [World.cell?]; rw [hk.block b h1 (by simpa using h2)]
  exact ⟨(e _ (by omega) (by omega) 0).trans h.b0, (e _ (by omega) (by omega) 0).trans h.b1, (hk.block _ hl (by simp; omega)).trans h.b2⟩
theorem WB.low {w V V' : World} (h : WB w V rb) (hb : Below V.heap.size V V') : WB w V' rb := by
  have hl := h.lt
  have e : ∀ b, b < V.heap.size → ∀ j, V'.cell? ⟨b, j, none⟩ = V.cell? ⟨b, j, none⟩ := fun b h1 j => by simp only [World.cell?]; rw [hb.block b h1]
  exact ⟨h.below.trans (hb.mono h.below.size), (e _ (by omega) 0).trans h.b0, (e _ (by omega) 0).trans h.b1, (hb.block _ hl).trans h.b2⟩
theorem word_blk {w V V' : World} {B : Nat} (hrb : rb < w.heap.size) (h : WB w V rb) (hk : Kp [rb] V V') (hB : w.heap.size = B) : V'.heap[B + 1 + 1]? = some WdO := by
  subst hB
  exact (hk.block _ h.lt (by simp; omega)).trans h.b2
/-- What the first region of 'word' reads. -/
def WS (w V : World) (rb : Nat) (s : Bs) (i : Nat) : Prop := WB w V rb ∧ V.cell? ⟨w.heap.size, 0, none⟩ = some (.pointer (some ⟨rb, 0, none⟩)) ∧ V.cell? ⟨rb, 0, none⟩ = some (.string ⟨s.toArray⟩) ∧ V.cell? ⟨rb, 1, none⟩ = some (.int .i64 (i : Int))
theorem WS.low {w V V' : World} (hj : Rd w rb s i) (h : WS w V rb s i) (hb : Below V.heap.size V V') : WS w V' rb s i := by
  have h1 := h.1.low hb
  have h2 := (hj.below h1.below).f
  exact ⟨h1, h1.b0, h2.1, h2.2.1⟩
theorem ws_new {w : World} (h : Rd w rb s i) : WS w (((w.alloc (.cells #[.pointer (some ⟨rb, 0, none⟩)] 63)).alloc (.cells #[.bool false] 4)).alloc (.cells #[.bool false, .slice none 0 0] 41)) rb s i := by
  have h1 := wb_new w rb
  have h2 := (h.below h1.below).f
  exact ⟨h1, h1.b0, h2.1, h2.2.1⟩
set_option maxRecDepth 100000 in
set_option maxHeartbeats 3200000 in
theorem word_braced {w : World} (h : Rd w rb s i) (hd : s.drop i = 123 :: (x ++ 125 :: R)) (hR : Rest R) (hx : balF x 0 = true) (hc : Lib.contains x [92, 10] = false) (h42 : x ≠ [42]) :
    Calls Tryz.prog 65 #[.pointer (some ⟨rb, 0, none⟩), .bool false] w (WordR rb s x (i + x.length + 2) w) := by
  have hrb := h.lt
  have hil : i < s.length := by
    rcases Nat.lt_or_ge i s.length with h' | h'
    · exact h'
    · rw [List.drop_eq_nil_of_le h'] at hd; cases hd
  have hsi : s[i] = 123 := by
    have hd2 := hd
    rw [List.drop_eq_getElem_cons hil] at hd2
    injection hd2
  have BR := Lib.hid (fun W (hW : Rd W rb s i) => braced_any hW hd hR hx hc h42)
  have HJ := Lib.hid h
  have HN := Lib.hid (ws_new h)
  have hi0 : (0 : Int) ≤ (i : Int) := by omega
  have hi1 : (i : Int) < (s.length : Int) := by omega
  have WO := Lib.hid (fun W => words_any W)
  obtain ⟨J, hJ⟩ : ∃ J, i + x.length + 2 = J := ⟨_, rfl⟩
  rw [hJ] at BR ⊢
  clear h hd hR hx hc h42 hJ
  go_enter Tryz.func65, Tryz.ntmps65
  go_wp2_with fail
  have HN2 := Lib.hid (HN.out)
  generalize ((w.alloc (.cells #[.pointer (some ⟨rb, 0, none⟩)] 63)).alloc (.cells #[.bool false] 4)).alloc (.cells #[.bool false, .slice none 0 0] 41) = V at *
  obtain ⟨B, hB⟩ : ∃ B, w.heap.size = B := ⟨_, rfl⟩
  have KS : Hid (∀ V', Below V.heap.size V V' → WB w V' rb ∧ V'.cell? ⟨B, 0, none⟩ = some (.pointer (some ⟨rb, 0, none⟩)) ∧ V'.cell? ⟨rb, 0, none⟩ = some (.string ⟨s.toArray⟩) ∧ V'.cell? ⟨rb, 1, none⟩ = some (.int .i64 (i : Int))) := fun V' hb => by rw [← hB]; exact HN.out.low HJ.out hb
  have KS2 : Hid (∀ V1 V', (WB w V1 rb ∧ V1.cell? ⟨B, 0, none⟩ = some (.pointer (some ⟨rb, 0, none⟩)) ∧ V1.cell? ⟨rb, 0, none⟩ = some (.string ⟨s.toArray⟩) ∧ V1.cell? ⟨rb, 1, none⟩ = some (.int .i64 (i : Int))) → Below V1.heap.size V1 V' → (WB w V' rb ∧ V'.cell? ⟨B, 0, none⟩ = some (.pointer (some ⟨rb, 0, none⟩)) ∧ V'.cell? ⟨rb, 0, none⟩ = some (.string ⟨s.toArray⟩) ∧ V'.cell? ⟨rb, 1, none⟩ = some (.int .i64 (i : Int)))) := fun V1 V' h1 hb => by rw [← hB] at h1 ⊢; exact WS.low HJ.out h1 hb
  have HB := Lib.hid hB
  rw [hB]
  clear hB
  go_region_held3 (fun w' => WB w w' rb ∧ w'.cell? ⟨B, 0, none⟩ = some (.pointer (some ⟨rb, 0, none⟩)) ∧ w'.cell? ⟨rb, 0, none⟩ = some (.string ⟨s.toArray⟩) ∧ w'.cell? ⟨rb, 1, none⟩ = some (.int .i64 (i : Int))) (first | (with_reducible exact KS.out _ ((Below.refl _ _).drew)) | (with_reducible exact KS2.out _ _ (KS.out _ (below_drewN (Below.refl _ _) _)) hbw) | (with_reducible exact KS2.out _ _ (KS.out _ (Below.refl _ _).drew) hbw)) ((go_at_call 75; refine (WO.out _).mono ?_; rintro e w2 ⟨rfl, hbw, hmw⟩; have hlk : (Instr.lookup 142 (.map (some V.heap.size)) (.int .u8 123) true).run Tryz.prog w2 = .ok (.tuple #[.func (.func 88) #[] #[], .bool true]) w2 := (gW_look hmw 123)))
  all_goals
    have HW := Lib.hid (KS2.out _ _ (KS.out _ (Below.refl _ _).drew) hbw).1
    have HR2 := HJ.out.below HW.out.below
    have HR2' := Lib.hid HR2
    have e0 : w2.cell? ⟨B, 0, none⟩ = some (.pointer (some ⟨rb, 0, none⟩)) := by rw [← HB.out]; exact HW.out.b0
    have e1 : w2.cell? ⟨B + 1, 0, none⟩ = some (.bool false) := by rw [← HB.out]; exact HW.out.b1
    have hbs := HB.out
    have hw2l := HW.out.lt
    clear hbw hmw hlk HR2
    go_wp2_with (go_at_call 88; refine (BR.out _ HR2'.out).mono ?_; rintro e w3 ⟨v, rfl, ht3, hf3, hr3, hk3⟩; obtain ⟨g, cg, rfl, -⟩ := id ht3.ex; obtain ⟨d0, d1, df⟩ := WdO.f (word_blk hrb HW.out hk3 HB.out); have df0 := df 0; have df1 := df 1; have H3 := Lib.hid (And.intro ht3 (And.intro (hf3 g cg 1 rfl) (And.intro hr3 hk3))); clear df ht3 hf3 hr3 hk3)
    obtain ⟨z1, z2, z3, z4⟩ := H3.out
    have hk : Kp [rb] w w3 := ((kp_of_below HW.out.below).mono (D' := [rb]) (by simp)).trans z4 (by simp)
    have hD := word_done (b := B + 1 + 1) hrb hk (by omega) z1 (by omega) (by omega) z3
    exact bodyPost_ret (v := .agg #[.bool false, .slice (some ⟨g, 0, none⟩) 1 cg]) (by simp [results, Tryz.results65, go_sem, d0, d1, df0, df1]) rfl ⟨_, rfl, hD.1, fun g' c' n' e => by cases e; omega, hD.2.1, hD.2.2⟩
theorem gW_none {w : World} {b : Nat} {c : UInt8} (h : gW c = none) (hl : (Instr.lookup 142 (.map (some b)) (.int .u8 (c.toNat : Int)) true).run Tryz.prog w = .ok (.tuple #[(gW c).getD .nilFunc, .bool (gW c).isSome]) w) : (Instr.lookup 142 (.map (some b)) (.int .u8 (c.toNat : Int)) true).run Tryz.prog w = .ok (.tuple #[.nilFunc, .bool false]) w := by
  rw [h] at hl
  exact hl
set_option maxRecDepth 100000 in
set_option maxHeartbeats 3200000 in
theorem word_bare {w : World} {c : UInt8} {q : Bs} (h : Rd w rb s i) (hd : s.drop i = slashed x ++ R) (hR : Rest R) (hx : x ≠ []) (hxl : x.length ≤ 100000) (hsl : slashed x = c :: q) (h123 : c ≠ 123) (h34 : c ≠ 34) :
    Calls Tryz.prog 65 #[.pointer (some ⟨rb, 0, none⟩), .bool false] w (WordR rb s x (i + (slashed x).length) w) := by
  have hrb := h.lt
  have hil : i < s.length := by
    rcases Nat.lt_or_ge i s.length with h' | h'
    · exact h'
    · rw [List.drop_eq_nil_of_le h', hsl] at hd; cases hd
  have hsi : s[i] = c := by
    have hd2 := hd
    rw [List.drop_eq_getElem_cons hil, hsl] at hd2
    injection hd2
  have hmf : ∀ (fn : Fn) (first cap : Array Value) (w : World), (Instr.makeFunc fn first cap).run Tryz.prog w = .ok (.func fn first cap) w := fun _ _ _ _ => rfl
  have hgW : gW c = none := by unfold gW; rw [if_neg h34, if_neg h123]
  have PT := Lib.hid (fun W (hW : Rd W rb s i) b2 b3 h2 h3 (n2 : b2 ≠ rb) (n3 : b3 ≠ rb) => parts_any (b2 := b2) (b3 := b3) hW hd hR hx hxl h2 h3 n2 n3)
  have HGW := Lib.hid hgW
  have HJ := Lib.hid h
  have HN := Lib.hid (ws_new h)
  have hi0 : (0 : Int) ≤ (i : Int) := by omega
  have hi1 : (i : Int) < (s.length : Int) := by omega
  have WO := Lib.hid (fun W => words_any W)
  obtain ⟨J, hJ⟩ : ∃ J, i + (slashed x).length = J := ⟨_, rfl⟩
  simp only [hJ] at PT ⊢
  clear h hd hR hx hxl hsl h123 h34 hJ hgW
  go_enter Tryz.func65, Tryz.ntmps65
  go_wp2_with fail
  have HN2 := Lib.hid (HN.out)
  generalize ((w.alloc (.cells #[.pointer (some ⟨rb, 0, none⟩)] 63)).alloc (.cells #[.bool false] 4)).alloc (.cells #[.bool false, .slice none 0 0] 41) = V at *
  obtain ⟨B, hB⟩ : ∃ B, w.heap.size = B := ⟨_, rfl⟩
  have KS : Hid (∀ V', Below V.heap.size V V' → WB w V' rb ∧ V'.cell? ⟨B, 0, none⟩ = some (.pointer (some ⟨rb, 0, none⟩)) ∧ V'.cell? ⟨rb, 0, none⟩ = some (.string ⟨s.toArray⟩) ∧ V'.cell? ⟨rb, 1, none⟩ = some (.int .i64 (i : Int))) := fun V' hb => by rw [← hB]; exact HN.out.low HJ.out hb
  have KS2 : Hid (∀ V1 V', (WB w V1 rb ∧ V1.cell? ⟨B, 0, none⟩ = some (.pointer (some ⟨rb, 0, none⟩)) ∧ V1.cell? ⟨rb, 0, none⟩ = some (.string ⟨s.toArray⟩) ∧ V1.cell? ⟨rb, 1, none⟩ = some (.int .i64 (i : Int))) → Below V1.heap.size V1 V' → (WB w V' rb ∧ V'.cell? ⟨B, 0, none⟩ = some (.pointer (some ⟨rb, 0, none⟩)) ∧ V'.cell? ⟨rb, 0, none⟩ = some (.string ⟨s.toArray⟩) ∧ V'.cell? ⟨rb, 1, none⟩ = some (.int .i64 (i : Int)))) := fun V1 V' h1 hb => by rw [← hB] at h1 ⊢; exact WS.low HJ.out h1 hb
  have HB := Lib.hid hB
  rw [hB]
  clear hB
  go_region_held3 (fun w' => WB w w' rb ∧ w'.cell? ⟨B, 0, none⟩ = some (.pointer (some ⟨rb, 0, none⟩)) ∧ w'.cell? ⟨rb, 0, none⟩ = some (.string ⟨s.toArray⟩) ∧ w'.cell? ⟨rb, 1, none⟩ = some (.int .i64 (i : Int))) (first | (with_reducible exact KS.out _ ((Below.refl _ _).drew)) | (with_reducible exact KS2.out _ _ (KS.out _ (below_drewN (Below.refl _ _) _)) hbw) | (with_reducible exact KS2.out _ _ (KS.out _ (Below.refl _ _).drew) hbw)) ((go_at_call 75; refine (WO.out _).mono ?_; rintro e w2 ⟨rfl, hbw, hmw⟩; have hlk : (Instr.lookup 142 (.map (some V.heap.size)) (.int .u8 (c.toNat : Int)) true).run Tryz.prog w2 = .ok (.tuple #[.nilFunc, .bool false]) w2 := (gW_none HGW.out (gW_look hmw c))))
  all_goals
    have HW := Lib.hid (KS2.out _ _ (KS.out _ (Below.refl _ _).drew) hbw).1
    have HR2 := HJ.out.below HW.out.below
    have HR2' := Lib.hid HR2
    have e0 : w2.cell? ⟨B, 0, none⟩ = some (.pointer (some ⟨rb, 0, none⟩)) := by rw [← HB.out]; exact HW.out.b0
    have e1 : w2.cell? ⟨B + 1, 0, none⟩ = some (.bool false) := by rw [← HB.out]; exact HW.out.b1
    have hbs := HB.out
    have hw2l := HW.out.lt
    clear hbw hmw hlk HR2
    go_wp2_with (go_at_call 76; refine (PT.out _ HR2'.out _ _ e0 e1 (by omega) (by omega)).mono ?_; rintro e w3 ⟨v, rfl, ht3, hf3, hr3, hk3⟩; obtain ⟨g, cg, rfl, -⟩ := id ht3.ex; obtain ⟨d0, d1, df⟩ := WdO.f (word_blk hrb HW.out hk3 HB.out); have df0 := df 0; have df1 := df 1; have H3 := Lib.hid (And.intro ht3 (And.intro (hf3 g cg 1 rfl) (And.intro hr3 hk3))); clear df ht3 hf3 hr3 hk3)
    obtain ⟨z1, z2, z3, z4⟩ := H3.out
    have hk : Kp [rb] w w3 := ((kp_of_below HW.out.below).mono (D' := [rb]) (by simp)).trans z4 (by simp)
    have hD := word_done (b := B + 1 + 1) hrb hk (by omega) z1 (by omega) (by omega) z3
    exact bodyPost_ret (v := .agg #[.bool false, .slice (some ⟨g, 0, none⟩) 1 cg]) (by simp [results, Tryz.results65, go_sem, d0, d1, df0, df1]) rfl ⟨_, rfl, hD.1, fun g' c' n' e => by cases e; omega, hD.2.1, hD.2.2⟩
/-- A quoted word, whatever its text. -/
theorem word_any {w : World} (h : Rd w rb s i) (hd : s.drop i = quote x ++ R) (hR : Rest R) (hxl : x.length ≤ 100000) :
    Calls Tryz.prog 65 #[.pointer (some ⟨rb, 0, none⟩), .bool false] w (WordR rb s x (i + (quote x).length) w) := by
  rcases quote_ways x with ⟨y, hq, rfl, hy⟩ | ⟨hx, hq, c, q, hsl, h1, h2, h3, h4, h5⟩
  · have h42 : x ≠ [42] := by
      rintro rfl
      revert hq
      decide
    have hb : balF x 0 = true ∧ Lib.contains x [92, 10] = false := by
      rcases hy with rfl | hy
      · exact ⟨rfl, rfl⟩
      · exact hy
    have hl : i + (quote x).length = i + x.length + 2 := by rw [hq]; simp; omega
    rw [hl]
    exact word_braced h (by rw [hd, hq]; simp) hR hb.1 hb.2 h42
  · rw [hq]
    exact word_bare h (by rw [hd, hq]) hR hx hxl hsl h1 h2
end
end Go.Proofs.YteojlmpipfajoaaGreatDoor
