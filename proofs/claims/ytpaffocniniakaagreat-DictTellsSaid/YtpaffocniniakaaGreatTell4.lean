/- Filter, Invert. -/
import Derived.Test.YtpaffocniniakaaGreatTellK
namespace Go.Proofs.YtpaffocniniakaaGreat
set_option linter.unusedVariables false
set_option linter.unusedSimpArgs false
open Go.RowKit Go.MapKept Go.WideMaps

theorem read_clip2' {s : Bs} {ps : Prs} (h : readC s = some ps) (hs : s.length ≤ 19999) : ∀ p ∈ ps, clip2 p = p := fun p hp => by
  have := read_mem h hp
  exact clip2_id (by omega) (by omega)
/-! Filter -/
def filP (values : Bool) (pat : Bs) (p : Bs × Bs) : Bool := matchP false pat (if values then p.2 else p.1)
def filC (s pat : Bs) (values : Bool) : Bs × Int := chgE s (fun _ => 0) (fun ps => ps.filter (filP values pat))
set_option maxRecDepth 100000 in
set_option maxHeartbeats 400000 in
theorem fil_keep {vb qb : Nat} {pat : Bs} {values : Bool} (k x : Bs) (W : World) (hv : W.cell? ⟨vb, 0, none⟩ = some (.bool values)) (hq : W.cell? ⟨qb, 0, none⟩ = some (.string ⟨pat.toArray⟩)) (hp : pat.length ≤ 1000000) (hk : k.length ≤ 1000000) (hx : x.length ≤ 1000000) :
    Calls Tryz.prog 38 #[.string ⟨k.toArray⟩, .string ⟨x.toArray⟩, .pointer (some ⟨vb, 0, none⟩), .pointer (some ⟨qb, 0, none⟩)] W fun e w' => e = .returned (.bool (filP values pat (k, x))) ∧ Below W.heap.size W w' := by
  have GL := Lib.hid (glob_m pat (if values then x else k) false hp (by split <;> assumption) W)
  unfold filP
  simp only
  cases values with
  | true =>
    simp only [if_true] at GL ⊢
    generalize matchP false pat x = q at *
    go_enter Tryz.func38, Tryz.ntmps38
    go_wp2_with (go_at_call 33; refine GL.out.mono ?_; rintro e w1 ⟨rfl, hB1⟩; have H1 := Lib.hid hB1; clear hB1)
    go_ret
    exact ⟨rfl, H1.out⟩
  | false =>
    simp only [Bool.false_eq_true, if_false] at GL ⊢
    generalize matchP false pat k = q at *
    go_enter Tryz.func38, Tryz.ntmps38
    go_wp2_with (go_at_call 33; refine GL.out.mono ?_; rintro e w1 ⟨rfl, hB1⟩; have H1 := Lib.hid hB1; clear hB1)
    go_ret
    exact ⟨rfl, H1.out⟩
set_option maxRecDepth 100000 in
set_option maxHeartbeats 400000 in
theorem fil_in {vb qb : Nat} {pat : Bs} {values : Bool} {w W : World} {ps : Prs} {b : Nat} {F : List Nat} (hps : ps.length ≤ 100000) (hcl : ∀ p ∈ ps, clip2 p = p) (hp : pat.length ≤ 1000000)
    (hv : w.cell? ⟨vb, 0, none⟩ = some (.bool values)) (hq : w.cell? ⟨qb, 0, none⟩ = some (.string ⟨pat.toArray⟩)) (hvl : vb < w.heap.size) (hql : qb < w.heap.size) (hW : Below w.heap.size w W) (hb : Bk W b F ps) :
    Calls Tryz.prog 36 #[.pointer (some ⟨b, 0, none⟩), .pointer (some ⟨vb, 0, none⟩), .pointer (some ⟨qb, 0, none⟩)] W (ChF w 0 (ps.filter (filP values pat))) := by
  have hlo := hW.size
  have KEPT : Hid (Calls Tryz.prog 37 #[.pointer (some ⟨b, 0, none⟩), .func (.func 38) #[] #[.pointer (some ⟨vb, 0, none⟩), .pointer (some ⟨qb, 0, none⟩)]] W fun e w' => Below W.heap.size W w' ∧ ∃ b F, e = .returned (.pointer (some ⟨b, 0, none⟩)) ∧ Bk w' b F (ps.filter (filP values pat)) ∧ ∀ d ∈ F, W.heap.size ≤ d) :=
    kept_fil hb hps hcl (fun k' x' => filP values pat (k', x')) (fun W' k' x' h1 h2 h3 => by
      have h4 : Below w.heap.size w W' := hW.trans (h1.mono hlo)
      exact fil_keep k' x' W' ((h4.cell (p := ⟨vb, 0, none⟩) hvl).trans hv) ((h4.cell (p := ⟨qb, 0, none⟩) hql).trans hq) hp h2 h3)
  have HWW := Lib.hid hW
  clear hb hW hv hq
  generalize (ps.filter (filP values pat)) = rs at *
  go_enter Tryz.func36, Tryz.ntmps36
  go_wp2_with (go_at_call 37; refine KEPT.out.mono ?_; rintro e w3 ⟨hB3, b3, F3, rfl, hb3, hF3⟩; have H3 := Lib.hid (And.intro hB3 (And.intro hb3 hF3)); clear hB3 hb3 hF3)
  go_ret2
  exact ⟨HWW.out.trans (H3.out.1.mono hlo), .inr ⟨rfl, b3, F3, rfl, H3.out.2.1⟩⟩
set_option maxRecDepth 100000 in
set_option maxHeartbeats 400000 in
theorem Filter_any (s pat : Bs) (values : Bool) (w : World) (hM : MaxIs w) (hs : s.length ≤ 19999) (hp : pat.length ≤ 1000000) :
    Calls Tryz.prog 19 #[.string ⟨s.toArray⟩, .string ⟨pat.toArray⟩, .bool values] w fun e w' => e = .returned (.tuple #[.string ⟨(filC s pat values).1.toArray⟩, .int .i64 (filC s pat values).2]) ∧ Below w.heap.size w w' := by
  have CH : ∀ W vb qb, Below w.heap.size w W → W.cell? ⟨vb, 0, none⟩ = some (.bool values) → W.cell? ⟨qb, 0, none⟩ = some (.string ⟨pat.toArray⟩) → vb < W.heap.size → qb < W.heap.size → Calls Tryz.prog 24 #[.string ⟨s.toArray⟩, .func (.func 36) #[] #[.pointer (some ⟨vb, 0, none⟩), .pointer (some ⟨qb, 0, none⟩)]] W fun e w' => e = .returned (.tuple #[.string ⟨(filC s pat values).1.toArray⟩, .int .i64 (filC s pat values).2]) ∧ Below w.heap.size w w' := fun W vb qb hB h1 h2 h3 h4 =>
    (changed_fil s hs W (hM.below hB hM.pos) (fun _ => 0) (fun ps => ps.filter (filP values pat)) (fun ps hr W' b F hW hb hF => fil_in (by have := read_len hr; omega) (read_clip2' hr hs) hp h1 h2 h3 h4 hW hb) (fun ps hr => by
      have q1 := List.length_filter_le (filP values pat) ps
      have q2 := read_len hr
      omega)).mono fun e w' ⟨q1, q2⟩ => ⟨q1, hB.trans (q2.mono hB.size)⟩
  have HCH := Lib.hid CH
  clear CH hM
  generalize filC s pat values = q at *
  have b1 := Boxed.new w 9 (.string ⟨pat.toArray⟩)
  have b2 := Boxed.new (w.alloc (.cells #[.string ⟨pat.toArray⟩] 9)) 4 (.bool values)
  have b3 := (b1.alloc (.cells #[.bool values] 4)).cell
  rw [show (w.alloc (.cells #[.string ⟨pat.toArray⟩] 9)).heap.size = w.heap.size + 1 by simp] at b2
  have hB2 : Below w.heap.size w ((w.alloc (.cells #[.string ⟨pat.toArray⟩] 9)).alloc (.cells #[.bool values] 4)) := ((Below.refl _ w).alloc (Nat.le_refl _) _).alloc (by simp) _
  have CH2 := Lib.hid (HCH.out _ (w.heap.size + 1) w.heap.size hB2 b2.cell b3 (by simp) (by simp; omega))
  clear b1 b2 b3 hB2 HCH
  go_enter Tryz.func19, Tryz.ntmps19
  go_wp2_with (go_at_call 24; refine CH2.out.mono ?_; rintro e w3 ⟨rfl, hB3⟩; have H3 := Lib.hid hB3; clear hB3)
  go_ret2
  exact ⟨rfl, H3.out⟩
/-! Invert -/
def swapP (p : Bs × Bs) : Bs × Bs := (p.2, p.1)
def invC (s : Bs) : Bs × Int := chgE s (fun _ => 0) (fun ps => addP [] (ps.map swapP))
theorem clipP_swap (x : Bs × Bs) : clipP (swapP (clip2 x)) = swapP (clip2 x) := clipP_id (clip2_len x).2
theorem map_clip_swap (a : Prs) : ((a.map clip2).map swapP).map clipP = (a.map clip2).map swapP := by
  conv => rhs; rw [← List.map_id ((a.map clip2).map swapP)]
  refine List.map_congr_left fun p hp => ?_
  rw [List.mem_map] at hp
  obtain ⟨q, hq, rfl⟩ := hp
  rw [List.mem_map] at hq
  obtain ⟨r, _, rfl⟩ := hq
  exact clipP_swap r
def InJ (w : World) (b m bo : Nat) (F2 : List Nat) (bx B2 : Nat) (pre : Prs) (W : World) : Prop := MgJ w b m bo [] [] F2 bx B2 ((pre.map clip2).map swapP) W
theorem inj_own {w : World} {b m bo : Nat} {F2 : List Nat} {bx B2 : Nat} (hm : m < B2) (hB : w.heap.size ≤ B2) : OwnFrom B2 (InJ w b m bo F2 bx B2) := fun pre W W' row h hg hr =>
  mgj_own hm (by simp) hB ((pre.map clip2).map swapP) W W' row h hg hr
section
attribute [local go_sem] Oper.semAt_some wide_fn
set_option maxRecDepth 100000 in
set_option maxHeartbeats 1600000 in
theorem inv_in {w0 w : World} {b1 : Nat} {F1 : List Nat} {ps : Prs} (hb1 : Bk w b1 F1 ps) (hps : ps.length ≤ 100000) (hkl : ∀ p ∈ ps, clip2 p = p) (hW : Below w0.heap.size w0 w) :
    Calls Tryz.prog 40 #[.pointer (some ⟨b1, 0, none⟩)] w (ChF w0 0 (addP [] (ps.map swapP))) := by
  have HB1 := Lib.hid hb1
  have HKL := Lib.hid hkl
  have HW := Lib.hid hW
  clear hb1 hkl hW
  refine callsIn_wide (n := 3) |>.1 ?_
  refine callsIn_of_wp_marks Tryz.func40 rfl trivial ?_ rfl
  simp only [Tryz.ntmps40, List.size_toArray, List.length_cons, List.length_nil, Nat.reduceAdd, Nat.reduceSub, Array.replicate_succ, Array.replicate_zero, List.push_toArray, List.append_toArray, List.nil_append, List.cons_append]
  gi_wp2_with (first | (gi_at_call 41; refine (callsIn_wide.2 (none_any _)).mono ?_; rintro e w1 ⟨b, F, rfl, hb, hB, hF⟩; have HBN := Lib.hid (And.intro hb (And.intro hB hF)); clear hb hB hF) | (gi_at_call 42; refine (callsIn_wide.2 (all_any _ _)).mono ?_; rintro e w4 ⟨rfl, rfl⟩))
  obtain ⟨hb, hB1, hF⟩ := HBN.out
  have hs1 := hB1.size
  have hF1lt := HB1.out.lt
  obtain ⟨m, hm1, hmF⟩ := hb.map_at
  have hblt := hb.lt
  have hmlt := hblt m hmF
  have hbO := (Boxed.new w1 39 (.pointer (some ⟨b, 0, none⟩))).alloc (.cells #[.pointer (some ⟨b1, 0, none⟩)] 39)
  have hbX := Boxed.new (w1.alloc (.cells #[.pointer (some ⟨b, 0, none⟩)] 39)) 39 (.pointer (some ⟨b1, 0, none⟩))
  have hB4 : Below w1.heap.size w1 ((w1.alloc (.cells #[.pointer (some ⟨b, 0, none⟩)] 39)).alloc (.cells #[.pointer (some ⟨b1, 0, none⟩)] 39)) := ((Below.refl _ w1).alloc (Nat.le_refl _) _).alloc (by simp) _
  have hs4 : ((w1.alloc (.cells #[.pointer (some ⟨b, 0, none⟩)] 39)).alloc (.cells #[.pointer (some ⟨b1, 0, none⟩)] 39)).heap.size = w1.heap.size + 2 := by simp
  rw [show (w1.alloc (.cells #[.pointer (some ⟨b, 0, none⟩)] 39)).heap.size = w1.heap.size + 1 by simp] at hbX
  generalize ((w1.alloc (.cells #[.pointer (some ⟨b, 0, none⟩)] 39)).alloc (.cells #[.pointer (some ⟨b1, 0, none⟩)] 39)) = w4 at *
  have hB04 : Below w.heap.size w w4 := hB1.trans (hB4.mono hs1)
  have hbx := hbX.cell
  have hbk1 : Bk w4 b1 F1 ps := HB1.out.below hB04
  have hF1B : ∀ d ∈ F1, d < w4.heap.size := fun d hd => by have := hF1lt d hd; omega
  have hbxB : w1.heap.size + 1 < w4.heap.size := by omega
  have hboB : w1.heap.size < w4.heap.size := by omega
  have hmB : m < w4.heap.size := by omega
  have hJ0 : InJ w b m w1.heap.size F1 (w1.heap.size + 1) w4.heap.size [] w4 :=
    ⟨⟨F, hb.below hB4, fun d hd => ⟨hF d hd, fun h2 => by have := hF d hd; have := hF1lt d h2; omega, by have := hblt d hd; omega, by have := hblt d hd; omega⟩⟩, (hB4.cell (p := ⟨b, 1, none⟩) (hblt b hb.mem)).trans hm1, hbO, by simp, hB04, Nat.le_refl _⟩
  have HH := Lib.hid (And.intro hB04 (And.intro hB4 hs4))
  clear hB04 hB4 hb hB1 hF hF1lt hm1 hbO hbX hmF
  obtain ⟨bo, hbo⟩ : ∃ bo, w1.heap.size = bo := ⟨_, rfl⟩
  rw [hbo] at hJ0 hbx hbxB hboB hs1 hs4 hmlt hblt ⊢
  clear hmlt hblt
  refine wpIn_rangeFunc_ownG rfl (by omega) (gf := 60) (lb := #[.pointer (some ⟨bo + 1, 0, none⟩)]) rfl trivial (enters_of Tryz.func60 (by kernel_rfl) rfl)
    (all_stops (bo + 1) b1 F1 ps (by omega) clip2 HKL.out w4 hbxB hbx hbk1) KB.trans (kb_put hbxB hF1B) (Below.refl _ _) (fun _ => rfl)
    (InJ w b m bo F1 (bo + 1) w4.heap.size) (fun _ _ _ => False) (inj_own hmB (by omega)) (fun _ _ _ _ _ hs _ _ => hs) hJ0
    (fun x => { tmps := #[.pointer (some ⟨b1, 0, none⟩), undef, .pointer none, .int .i64 0, .pointer (some ⟨bo, 0, none⟩), .string ⟨(clip2 x).1.toArray⟩, .string ⟨(clip2 x).2.toArray⟩, .pointer (some ⟨b, 0, none⟩), .pointer (some ⟨b1, 0, none⟩), .func (.func 60) #[] #[.pointer (some ⟨bo + 1, 0, none⟩)], .string ⟨(clip2 x).1.toArray⟩, .string ⟨(clip2 x).2.toArray⟩, undef, undef, undef, undef, undef], defers := [] }) ?assign ?body ?done ?stop
  case assign =>
    intro l x W K hK
    gi_wp2
    exact hK
  case body =>
    rintro l pre x W hJ hpl
    have hln := add_len [] (((pre.map clip2).map swapP).map clipP)
    rw [List.length_map, List.length_map, List.length_map] at hln
    obtain ⟨hx1, hx2⟩ := clip2_len x
    have hcb := (MgJ.box hJ).cell
    obtain ⟨F, hbF, hF⟩ := MgJ.bk hJ
    have SET : Hid (Calls Tryz.prog 43 #[.pointer (some ⟨b, 0, none⟩), .string ⟨(clip2 x).2.toArray⟩, .string ⟨(clip2 x).1.toArray⟩] W fun e w' => e = .returned (.tuple #[]) ∧ SetRes W b F (setP (addP [] (((pre.map clip2).map swapP).map clipP)) (clip2 x).2 (clip2 x).1) w') := set_any hbF _ _ (by unfold maxLen; omega) (by rw [List.length_nil] at hln; omega)
    have HG : Hid (∀ W', SetRes W b F (setP (addP [] (((pre.map clip2).map swapP).map clipP)) (clip2 x).2 (clip2 x).1) W' → KeepsFrom w4.heap.size W W' ∧ KB F1 (bo + 1) W W' ∧ InJ w b m bo F1 (bo + 1) w4.heap.size (pre ++ [x]) W') := fun W' h => by
      have h' : SetRes W b F (setP (addP [] (((pre.map clip2).map swapP).map clipP)) (clipP (swapP (clip2 x))).1 (clipP (swapP (clip2 x))).2) W' := by rw [clipP_swap]; exact h
      obtain ⟨q1, q2, q3⟩ := mg_set hJ hmB (by simp) hF1B hbxB hboB hF hbF h'
      refine ⟨q1, q2, ?_⟩
      unfold InJ
      rw [List.map_append, List.map_append]
      exact q3
    clear hJ hJ0 hbx hbk1 hln hx1 hx2 hbF hF
    generalize (addP [] (((pre.map clip2).map swapP).map clipP)) = acc at *
    generalize clip2 x = y at *
    gi_wp2_with (gi_at_call 43; refine (callsIn_wide.2 SET.out).mono ?_; rintro e W2 ⟨rfl, hs2⟩; have HS := Lib.hid hs2; clear hs2)
    exact HG.out _ HS.out
  case done =>
    rintro D ys W hDl hys hJ hKd
    have hJ' := hJ
    unfold InJ at hJ'
    obtain ⟨F, hbF, hFF⟩ := hJ'.bk
    rw [map_clip_swap, hys, map_clip2 HKL.out] at hbF
    have hcb := hJ'.box.cell
    have HX := Lib.hid (And.intro hbF (And.intro hFF (And.intro hJ'.below hKd)))
    have hs3 := hJ'.below.size
    clear hJ hJ' hbF hFF hKd hJ0 hbx hbk1
    gi_wp2
    refine leaves_marks [D] _ (fun E hE => ?_) (by simp) (fun w' hk' => ?_)
    · simp at hE; subst hE; exact HX.out.2.2.2
    · have hDw : w.heap.size ≤ D := by omega
      have hDF : D ∉ F := fun hd => by
        obtain ⟨kv, vv, m', hbb, _, _, hmm, _⟩ := HX.out.1.ex
        have hm1 := (cells3 hbb).2.1
        have hco := (HX.out.1.cells_or hm1).2
        by_cases e : D = m'
        · subst e
          obtain ⟨es, clock, h1, _⟩ := hmm
          have := HX.out.2.2.2; rw [h1] at this; cases this
        · obtain ⟨c, t, hct⟩ := hco D hd e
          have := HX.out.2.2.2; rw [hct] at this; cases this
      have hF0 : ∀ d ∈ F, d ≠ D := fun d hd e => hDF (e ▸ hd)
      have hkb : Bk w' b F (addP [] (ps.map swapP)) := by
        have hF' : ∀ d ∈ F, w'.heap[d]? = W.heap[d]? := fun d hd => hk'.block d (HX.out.1.lt d hd) (by simp; exact hF0 d hd)
        exact HX.out.1.kb (x := b) ⟨hF' b HX.out.1.mem, hF'⟩
      have hBW : Below w.heap.size w W := HX.out.2.2.1
      refine ⟨_, results_tmp2 rfl _ _ _, ⟨HW.out.trans ((hBW.trans (hk'.below (by omega) (fun E hE => by simp at hE; omega))).mono HW.out.size), .inr ⟨rfl, b, F, rfl, hkb⟩⟩⟩
  case stop =>
    rintro D c pre W _ _ h _
    exact h.elim
end
set_option maxRecDepth 100000 in
set_option maxHeartbeats 400000 in
theorem Invert_any (s : Bs) (w : World) (hM : MaxIs w) (hs : s.length ≤ 19999) :
    Calls Tryz.prog 21 #[.string ⟨s.toArray⟩] w fun e w' => e = .returned (.tuple #[.string ⟨(invC s).1.toArray⟩, .int .i64 (invC s).2]) ∧ Below w.heap.size w w' := by
  have CH := Lib.hid (changed_inv s hs w hM (fun _ => 0) (fun ps => addP [] (ps.map swapP)) (fun ps hr W b F hW hb hF => inv_in hb (by have := read_len hr; omega) (read_clip2' hr hs) hW) (fun ps hr => by
    have q1 := add_len [] (ps.map swapP)
    have q2 := read_len hr
    rw [List.length_map] at q1
    simp at q1; omega))
  have he : chgE s (fun _ => 0) (fun ps => addP [] (ps.map swapP)) = invC s := rfl
  rw [he] at CH
  clear hM
  generalize invC s = q at *
  go_enter Tryz.func21, Tryz.ntmps21
  go_wp2_with (go_at_call 24; refine CH.out.mono ?_; rintro e w1 ⟨rfl, hB1⟩; have H1 := Lib.hid hB1; clear hB1)
  go_ret2
  exact ⟨rfl, H1.out⟩
end Go.Proofs.YtpaffocniniakaaGreat
