/- (*book).kept at the keeper of Filter. Printed by mkKe.py. -/
import Derived.Test.YtpaffocniniakaaGreatKept
import Derived.Test.YtpaffocniniakaaGreatTell3
namespace Go.Proofs.YtpaffocniniakaaGreat
set_option linter.unusedVariables false
set_option linter.unusedSimpArgs false
open Go.RowKit Go.MapKept Go.WideMaps
attribute [local go_sem] Oper.semAt_some wide_fn

set_option maxRecDepth 100000 in
set_option maxHeartbeats 1600000 in
theorem kept_fil {w : World} {b1 : Nat} {vb qb : Nat} {F1 : List Nat} {ps : Prs} (hb1 : Bk w b1 F1 ps) (hps : ps.length ≤ 100000) (hkl : ∀ p ∈ ps, clip2 p = p) (keep : Bs → Bs → Bool)
    (HK : ∀ W (k x : Bs), Below w.heap.size w W → k.length ≤ 1000000 → x.length ≤ 1000000 → Calls Tryz.prog 38 #[.string ⟨k.toArray⟩, .string ⟨x.toArray⟩, .pointer (some ⟨vb, 0, none⟩), .pointer (some ⟨qb, 0, none⟩)] W fun e w' => e = .returned (.bool (keep k x)) ∧ Below W.heap.size W w') :
    Calls Tryz.prog 37 #[.pointer (some ⟨b1, 0, none⟩), .func (.func 38) #[] #[.pointer (some ⟨vb, 0, none⟩), .pointer (some ⟨qb, 0, none⟩)]] w fun e w' => Below w.heap.size w w' ∧ ∃ b F, e = .returned (.pointer (some ⟨b, 0, none⟩)) ∧ Bk w' b F (ps.filter fun p => keep p.1 p.2) ∧ ∀ d ∈ F, w.heap.size ≤ d := by
  have HKK := Lib.hid HK
  have HB1 := Lib.hid hb1
  have HKL := Lib.hid hkl
  clear HK hb1 hkl
  refine callsIn_wide (n := 3) |>.1 ?_
  refine callsIn_of_wp_marks Tryz.func37 rfl trivial ?_ rfl
  simp only [Tryz.ntmps37, List.size_toArray, List.length_cons, List.length_nil, Nat.reduceAdd, Nat.reduceSub, Array.replicate_succ, Array.replicate_zero, List.push_toArray, List.append_toArray, List.nil_append, List.cons_append]
  gi_wp2_with (first | (gi_at_call 41; refine (callsIn_wide.2 (none_any _)).mono ?_; rintro e w1 ⟨b, F, rfl, hb, hB, hF⟩; have HBN := Lib.hid (And.intro hb (And.intro hB hF)); clear hb hB hF) | (gi_at_call 42; refine (callsIn_wide.2 (all_any _ _)).mono ?_; rintro e w4 ⟨rfl, rfl⟩))
  obtain ⟨w0, hw0⟩ : ∃ w0, w.alloc (.cells #[.func (.func 38) #[] #[.pointer (some ⟨vb, 0, none⟩), .pointer (some ⟨qb, 0, none⟩)]] 56) = w0 := ⟨_, rfl⟩
  rw [hw0] at HBN
  have hkb := Boxed.new w 56 (.func (.func 38) #[] #[.pointer (some ⟨vb, 0, none⟩), .pointer (some ⟨qb, 0, none⟩)])
  rw [hw0] at hkb
  have hs0 : w0.heap.size = w.heap.size + 1 := by rw [← hw0]; simp
  have hB0 : Below w.heap.size w w0 := by rw [← hw0]; exact (Below.refl _ _).alloc (Nat.le_refl _) _
  clear hw0
  obtain ⟨hb, hB1, hF⟩ := HBN.out
  have hs1 := hB1.size
  have hF1lt := HB1.out.lt
  obtain ⟨m, hm1, hmF⟩ := hb.map_at
  have hblt := hb.lt
  have hmlt := hblt m hmF
  have hbO := (Boxed.new w1 39 (.pointer (some ⟨b, 0, none⟩))).alloc (.cells #[.pointer (some ⟨b1, 0, none⟩)] 39)
  have hbX := Boxed.new (w1.alloc (.cells #[.pointer (some ⟨b, 0, none⟩)] 39)) 39 (.pointer (some ⟨b1, 0, none⟩))
  have hB4 : Below w1.heap.size w1 ((w1.alloc (.cells #[.pointer (some ⟨b, 0, none⟩)] 39)).alloc (.cells #[.pointer (some ⟨b1, 0, none⟩)] 39)) := ((Below.refl _ w1).alloc (Nat.le_refl _) _).alloc (by simp) _
  have hs4 : ((w1.alloc (.cells #[.pointer (some ⟨b, 0, none⟩)] 39)).alloc (.cells #[.pointer (some ⟨b1, 0, none⟩)] 39)).heap.size = w1.heap.size + 2 := by simp
  rw [show (w1.alloc (.cells #[.pointer (some ⟨b, 0, none⟩)] 39)).heap.size = w1.heap.size + 1 by simp] at hbX
  generalize ((w1.alloc (.cells #[.pointer (some ⟨b, 0, none⟩)] 39)).alloc (.cells #[.pointer (some ⟨b1, 0, none⟩)] 39)) = w4 at *
  have hB04 : Below w0.heap.size w0 w4 := hB1.trans (hB4.mono hs1)
  have hbx := hbX.cell
  have hbk1 : Bk w4 b1 F1 ps := (HB1.out.below hB0).below hB04
  have hF1B : ∀ d ∈ F1, d < w4.heap.size := fun d hd => by have := hF1lt d hd; omega
  have hbxB : w1.heap.size + 1 < w4.heap.size := by omega
  have hboB : w1.heap.size < w4.heap.size := by omega
  have hmB : m < w4.heap.size := by omega
  have hJ0 : KeJ w0 b m w1.heap.size keep F1 (w1.heap.size + 1) w4.heap.size [] w4 :=
    ⟨⟨F, hb.below hB4, fun d hd => ⟨hF d hd, fun h2 => by have := hF d hd; have := hF1lt d h2; omega, by have := hblt d hd; omega, by have := hblt d hd; omega⟩⟩, (hB4.cell (p := ⟨b, 1, none⟩) (hblt b hb.mem)).trans hm1, hbO, by simp, hB04, Nat.le_refl _⟩
  have HH := Lib.hid (And.intro hB0 (And.intro hkb (And.intro hB04 (And.intro hB4 hs4))))
  clear hB0 hkb hB04 hB4 hb hB1 hF hF1lt hm1 hbO hbX hmF
  obtain ⟨bo, hbo⟩ : ∃ bo, w1.heap.size = bo := ⟨_, rfl⟩
  rw [hbo] at hJ0 hbx hbxB hboB hs1 hs4 hmlt hblt ⊢
  clear hmlt hblt
  refine wpIn_rangeFunc_ownG rfl (by omega) (gf := 60) (lb := #[.pointer (some ⟨bo + 1, 0, none⟩)]) rfl trivial (enters_of Tryz.func60 (by kernel_rfl) rfl)
    (all_stops (bo + 1) b1 F1 ps (by omega) clip2 HKL.out w4 hbxB hbx hbk1) KB.trans (kb_put hbxB hF1B) (Below.refl _ _) (fun _ => rfl)
    (KeJ w0 b m bo keep F1 (bo + 1) w4.heap.size) (fun _ _ _ => False) (kej_own hmB (by omega)) (fun _ _ _ _ _ hs _ _ => hs) hJ0
    (fun x => { tmps := #[.pointer (some ⟨b1, 0, none⟩), .func (.func 38) #[] #[.pointer (some ⟨vb, 0, none⟩), .pointer (some ⟨qb, 0, none⟩)], undef, .pointer (some ⟨w.heap.size, 0, none⟩), .pointer none, .pointer (some ⟨bo, 0, none⟩), .string ⟨(clip2 x).1.toArray⟩, .string ⟨(clip2 x).2.toArray⟩, .pointer (some ⟨b, 0, none⟩), .pointer (some ⟨b1, 0, none⟩), .func (.func 60) #[] #[.pointer (some ⟨bo + 1, 0, none⟩)], .string ⟨(clip2 x).1.toArray⟩, .string ⟨(clip2 x).2.toArray⟩, undef, undef, undef, undef, undef, undef, undef, undef, undef], defers := [] }) ?assign ?body ?done ?stop
  case assign =>
    intro l x W K hK
    gi_wp2
    exact hK
  case body =>
    rintro l pre x W hJ hpl
    have hJB := MgJ.below hJ
    have hkb : W.cell? ⟨w.heap.size, 0, none⟩ = some (.func (.func 38) #[] #[.pointer (some ⟨vb, 0, none⟩), .pointer (some ⟨qb, 0, none⟩)]) := (boxed_below HH.out.2.1 hJB).cell
    have hln := add_len [] (((pre.map clip2).filter fun p => keep p.1 p.2).map clipP)
    have hfl := List.length_filter_le (fun p => keep p.1 p.2) (pre.map clip2)
    rw [List.length_map] at hln hfl
    obtain ⟨hx1, hx2⟩ := clip2_len x
    have KP : Hid (Calls Tryz.prog 38 #[.string ⟨(clip2 x).1.toArray⟩, .string ⟨(clip2 x).2.toArray⟩, .pointer (some ⟨vb, 0, none⟩), .pointer (some ⟨qb, 0, none⟩)] W fun e w' => e = .returned (.bool (keep (clip2 x).1 (clip2 x).2)) ∧ Below W.heap.size W w') := HKK.out W _ _ (HH.out.1.trans (hJB.mono (by omega))) hx1 hx2
    cases hkk : keep (clip2 x).1 (clip2 x).2 with
    | false =>
      rw [hkk] at KP
      have HG : Hid (∀ W', Below W.heap.size W W' → KeepsFrom w4.heap.size W W' ∧ KB F1 (bo + 1) W W' ∧ KeJ w0 b m bo keep F1 (bo + 1) w4.heap.size (pre ++ [x]) W') := fun W' h => kej_no hJ h hbxB hF1B hkk
      clear hkk hJ hJB hJ0 hbx hbk1 hln hfl hx1 hx2
      generalize clip2 x = y at *
      gi_wp2_with (gi_at_call 38; refine (callsIn_wide.2 KP.out).mono ?_; rintro e W2 ⟨rfl, hs2⟩; have HS := Lib.hid hs2; clear hs2)
      exact HG.out _ HS.out
    | true =>
      rw [hkk] at KP
      have SET : Hid (∀ W1, Below W.heap.size W W1 → ∃ F, (∀ d ∈ F, w0.heap.size ≤ d ∧ d ∉ F1 ∧ d ≠ bo + 1 ∧ d ≠ bo) ∧ Bk W1 b F (addP [] (((pre.map clip2).filter fun p => keep p.1 p.2).map clipP)) ∧ W1.cell? ⟨bo, 0, none⟩ = some (.pointer (some ⟨b, 0, none⟩)) ∧ Calls Tryz.prog 43 #[.pointer (some ⟨b, 0, none⟩), .string ⟨(clip2 x).1.toArray⟩, .string ⟨(clip2 x).2.toArray⟩] W1 fun e w' => e = .returned (.tuple #[]) ∧ SetRes W1 b F (setP (addP [] (((pre.map clip2).filter fun p => keep p.1 p.2).map clipP)) (clip2 x).1 (clip2 x).2) w') := fun W1 h => by
        obtain ⟨F, hbF, hF⟩ := (MgJ.down hJ h).bk
        exact ⟨F, hF, hbF, (MgJ.down hJ h).box.cell, set_any hbF _ _ (by unfold maxLen; omega) (by simp at hln; omega)⟩
      have HG : Hid (∀ W1 W' F, Below W.heap.size W W1 → (∀ d ∈ F, w0.heap.size ≤ d ∧ d ∉ F1 ∧ d ≠ bo + 1 ∧ d ≠ bo) → Bk W1 b F (addP [] (((pre.map clip2).filter fun p => keep p.1 p.2).map clipP)) → SetRes W1 b F (setP (addP [] (((pre.map clip2).filter fun p => keep p.1 p.2).map clipP)) (clip2 x).1 (clip2 x).2) W' → KeepsFrom w4.heap.size W W' ∧ KB F1 (bo + 1) W W' ∧ KeJ w0 b m bo keep F1 (bo + 1) w4.heap.size (pre ++ [x]) W') := fun W1 W' F h1 h2 h3 h4 => kej_yes hJ h1 hmB hbxB hboB hF1B hkk h2 h3 h4
      clear hkk hJ hJB hJ0 hbx hbk1 hln hfl hx1 hx2
      generalize (addP [] (((pre.map clip2).filter fun p => keep p.1 p.2).map clipP)) = acc at *
      generalize clip2 x = y at *
      gi_wp2_with (first | (gi_at_call 38; refine (callsIn_wide.2 KP.out).mono ?_; rintro e W1 ⟨rfl, hs1⟩; have HS1 := Lib.hid hs1; clear hs1; obtain ⟨F, hF, hbF, hcb, hST⟩ := SET.out _ HS1.out; have HST := Lib.hid hST; have HF := Lib.hid (And.intro hF hbF); clear hST hF hbF) | (gi_at_call 43; refine (callsIn_wide.2 HST.out).mono ?_; rintro e W2 ⟨rfl, hs2⟩; have HS := Lib.hid hs2; clear hs2))
      exact HG.out _ _ _ HS1.out HF.out.1 HF.out.2 HS.out
  case done =>
    rintro D ys W hDl hys hJ hKd
    have hJ' := hJ
    unfold KeJ at hJ'
    obtain ⟨F, hbF, hFF⟩ := hJ'.bk
    have huq : Uniq (ps.filter fun p => keep p.1 p.2) := filter_uniq HB1.out.uniq _
    rw [hys, map_clip2 HKL.out, clip_filter HKL.out, add_self huq] at hbF
    have hcb := hJ'.box.cell
    have HX := Lib.hid (And.intro hbF (And.intro hFF (And.intro hJ'.below hKd)))
    have hs3 := hJ'.below.size
    clear hJ hJ' hbF hFF huq hKd hJ0 hbx hbk1
    gi_wp2
    refine leaves_marks [D] _ (fun E hE => ?_) (by simp) (fun w' hk' => ?_)
    · simp at hE; subst hE; exact HX.out.2.2.2
    · have hDw : w.heap.size ≤ D := by omega
      have hDF : D ∉ F := fun hd => by
        obtain ⟨kv, vv, m', hbb, _, _, hmm, _⟩ := HX.out.1.ex
        have hm1 := (cells3 hbb).2.1
        have hco := (HX.out.1.cells_or hm1).2
        by_cases e : D = m'
        · subst e
          obtain ⟨es, clock, h1, _⟩ := hmm
          have := HX.out.2.2.2; rw [h1] at this; cases this
        · obtain ⟨c, t, hct⟩ := hco D hd e
          have := HX.out.2.2.2; rw [hct] at this; cases this
      have hkb : KB F w.heap.size W w' := ⟨hk'.block _ (by omega) (by simp; omega), fun d hd => hk'.block d (HX.out.1.lt d hd) (by simp; exact fun e => hDF (e ▸ hd))⟩
      have hBW : Below w.heap.size w W := HH.out.1.trans (HX.out.2.2.1.mono (by omega))
      refine ⟨_, results_tmp rfl _ _ _, ⟨hBW.trans (hk'.below (by omega) (fun E hE => by simp at hE; omega)), b, F, rfl, HX.out.1.kb hkb, fun d hd => by have := (HX.out.2.1 d hd).1; omega⟩⟩
  case stop =>
    rintro D c pre W _ _ h _
    exact h.elim
end Go.Proofs.YtpaffocniniakaaGreat
