/- The program's 'Next': the walk. -/
import Derived.Test.YtkahakhhdiffcaaGreatDoorCNx7
import Derived.Deep.RegionHeld3
import Derived.BigQuiet
namespace Go.Proofs.YtkahakhhdiffcaaGreatDoor
set_option linter.unusedVariables false
set_option linter.unusedSimpArgs false
open Go.RowKit Go.Shelf
attribute [local go_sem] Oper.semAt_some wide_fnD
theorem nx_r0 {w w4 : World} {l : List Bs} {t : Int} (h2 : Boxed w4 w.heap.size 3 (.int .i64 t)) (h4 : Boxed w4 (w.heap.size + 1) 3 (.int .i64 0)) (h5 : Boxed w4 (w.heap.size + 1 + 1) 23 (.int .i64 0)) (hs : SpR w4 (w.heap.size + 3) l) (hB : Below w.heap.size w w4) :
    NxR w l t w4.heap.size 0 [] [] (.slice none 0 0) (w4.alloc (.cells #[.slice none 0 0] 44)) :=
  ⟨trivial, rfl, by simp, ⟨rfl, .inl ⟨rfl, rfl⟩⟩, Boxed.new w4 _ _, hs.low ((Below.refl _ w4).alloc (Nat.le_refl _) _), h2.alloc _, h4.alloc _, h5.alloc _, hB.alloc hB.size _, by simp⟩
theorem validI_in {t : Int} (h : validI t = true) : -62135596800 ≤ t ∧ t ≤ 253402300799 := by
  unfold validI winI at h
  simpa using h
theorem fieldsL_drop {l : List Bs} {k lo hi : Nat} {x : Bs} (h : l.drop k = x :: l.drop (k + 1)) (h1 : loF k = lo) (h2 : hiF k = hi) : fieldsL (l.drop k) k = match fieldP x lo hi with
    | none => none
    | some F => (fieldsL (l.drop (k + 1)) (k + 1)).map (F :: ·) := by
  rw [h, fieldsL, h1, h2]
  rfl
/-- What holds while days are tried: all that lay ahead of them; no day fitted yet. -/
def NxI (b1 : Nat) (V : World) (F : Fits) (t : Int) (res : Option Int) (q : Int) (W : World) : Prop := Below b1 V W ∧ dayS (F.hit t) (dayK q) q = res
/-- What holds when one fitted. -/
def NxX (w : World) (res : Option Int) (c : Code) (W : World) : Prop := c = .ret ∧ ∃ a, res = some a ∧ Boxed W (w.heap.size + 1) 3 (.int .i64 a) ∧ Boxed W (w.heap.size + 1 + 1) 23 (.int .i64 0) ∧ Below w.heap.size w W
theorem boxed_own2 {W W' : World} {B : Nat} {t : TypeId} {v : Value} {row : Option Nat} (h : Boxed W B t v) (hg : W.grownBy W' row) (hr : ∀ r, row = some r → ∃ o : Obj, W.heap[r]? = some o ∧ o.isCells = false) : Boxed W' B t v :=
  h.kept hg (fun e => by obtain ⟨o, ho, hc⟩ := hr B e.symm; rw [show W.heap[B]? = _ from h] at ho; cases ho; cases hc)
theorem boxed_putN {W : World} {B D : Nat} {t : TypeId} {v : Value} {o o' : Obj} (h : Boxed W B t v) (hD : W.heap[D]? = some o) (ho : o.isCells = false) : Boxed (W.putObj D o') B t v :=
  boxed_own2 h (grownBy_putObj' W D o') (fun r e => by cases e; exact ⟨o, hD, ho⟩)
theorem nx_ownI {b1 C : Nat} {V : World} {F : Fits} {t : Int} {res : Option Int} (hV : V.heap.size = b1) (hC : b1 ≤ C) : OwnFrom C (NxI b1 V F t res) := fun q W W' row h hg hr =>
  ⟨h.1.grown hg (by have := h.1.size; omega) (fun r e => by have := (hr r e).1; omega), h.2⟩
theorem nx_ab {b1 B : Nat} {V X Y : World} {F : Fits} {t : Int} {res : Option Int} {q : Int} (hV : V.heap.size = b1) (hB : b1 ≤ B) (h : NxI b1 V F t res q X) (hab : MB b1 B X Y) : NxI b1 V F t res q Y :=
  ⟨⟨hab.os.trans h.1.os, hab.tape.trans h.1.tape, hab.output.trans h.1.output, Nat.le_trans h.1.size hab.size, fun k hk => (hab.block k (by omega) (by omega)).trans (h.1.block k hk)⟩, h.2⟩
theorem nx_ownX {w : World} {C : Nat} {res : Option Int} (hC : w.heap.size ≤ C) : OwnFrom C (NxX w res) := fun c W W' row ⟨h1, a, h2, h3, h4, h5⟩ hg hr => by
  have hr' := fun r e => (hr r e).2
  exact ⟨h1, a, h2, boxed_own2 h3 hg hr', boxed_own2 h4 hg hr', h5.grown hg h5.size (fun r e => Nat.le_trans hC (hr r e).1)⟩
theorem nx_ownA {b1 C : Nat} {y m d : Int} {p : Nat → Prop} (hC : b1 ≤ C) : OwnFrom C (fun (_ : Unit) W => ∃ bx, b1 ≤ bx ∧ DBox W bx y m d ∧ p bx) := fun _ W W' row ⟨bx, h1, h2, h3⟩ hg hr => by
  refine ⟨bx, h1, (hg.block bx (Array.getElem?_eq_some_iff.1 h2).1 (fun e => ?_)).trans h2, h3⟩
  obtain ⟨_, o, ho, hc⟩ := hr bx e.symm
  rw [show W.heap[bx]? = _ from h2] at ho; cases ho; cases hc
theorem KeepsFrom.of_heap {B : Nat} {W W' : World} (h : W'.heap = W.heap) : KeepsFrom B W W' := ⟨by rw [h]; exact Nat.le_refl _, fun k o _ hk _ => by rw [h]; exact hk⟩
theorem FAt.lookI {w : World} {mb : Nat} {F : Nat → Bool} (h : FAt w mb F) {x : Int} (h0 : 0 ≤ x) (h1 : x ≤ 1000) (n : Nat) :
    (Instr.lookup 48 (.map (some mb)) (.int .i64 x) false).run Tryz.prog (w.drewN n) = .ok (.bool (F x.toNat)) (w.drewN n) := by
  have h2 : FAt (w.drewN n) mb F := h.below (below_drewN (Below.refl _ _) n)
  have := h2.look (n := x.toNat) (by omega)
  rwa [Int.toNat_of_nonneg h0] at this
/-- What lies ready when days begin. -/
structure NxV (w : World) (t : Int) (F : Fits) (b7 g cap m0 m1 m2 m3 m4 : Nat) (V : World) : Prop where
  f0 : FAt V m0 F.mi
  f1 : FAt V m1 F.ho
  f2 : FAt V m2 F.da
  f3 : FAt V m3 F.mo
  f4 : FAt V m4 F.wd
  r0 : V.cell? ⟨g, 0, none⟩ = some (.map (some m0))
  r1 : V.cell? ⟨g, 1, none⟩ = some (.map (some m1))
  r2 : V.cell? ⟨g, 2, none⟩ = some (.map (some m2))
  r3 : V.cell? ⟨g, 3, none⟩ = some (.map (some m3))
  r4 : V.cell? ⟨g, 4, none⟩ = some (.map (some m4))
  c7 : Boxed V b7 44 (.slice (some ⟨g, 0, none⟩) 5 cap)
  ct : Boxed V w.heap.size 3 (.int .i64 t)
  c4 : Boxed V (w.heap.size + 1) 3 (.int .i64 0)
  c5 : Boxed V (w.heap.size + 1 + 1) 23 (.int .i64 0)
  below : Below w.heap.size w V
theorem NxV.low {w : World} {t : Int} {F : Fits} {b7 g cap m0 m1 m2 m3 m4 : Nat} {V W : World} (h : NxV w t F b7 g cap m0 m1 m2 m3 m4 V) (hb : Below V.heap.size V W) : NxV w t F b7 g cap m0 m1 m2 m3 m4 W :=
  have r : ∀ i v, V.cell? ⟨g, i, none⟩ = some v → W.cell? ⟨g, i, none⟩ = some v := fun i v h => (hb.cell (p := ⟨g, i, none⟩) (by have := Lib.lt_of_cell h; exact this)).trans h
  ⟨h.f0.below hb, h.f1.below hb, h.f2.below hb, h.f3.below hb, h.f4.below hb, r _ _ h.r0, r _ _ h.r1, r _ _ h.r2, r _ _ h.r3, r _ _ h.r4, boxLowN h.c7 hb, boxLowN h.ct hb, boxLowN h.c4 hb, boxLowN h.c5 hb, h.below.trans (hb.mono h.below.size)⟩
theorem nxv_of {w : World} {l : List Bs} {t : Int} {b7 : Nat} {ms : List Nat} {Fs : List (Nat → Bool)} {vr : Value} {V : World} (h : NxR w l t b7 5 ms Fs vr V) (hl : l.length = 5) : ∃ F g cap m0 m1 m2 m3 m4, nextF t (fieldsL l 0) = (match nextT F t with | some x => (x, 0) | none => (0, 8)) ∧ vr = .slice (some ⟨g, 0, none⟩) 5 cap ∧ NxV w t F b7 g cap m0 m1 m2 m3 m4 V := by
  have h1 := h.len
  have h2 := FsAt.len h.fs
  match ms, Fs, h1, h2 with
  | [m0, m1, m2, m3, m4], [a, b, c, d, e], _, _ =>
    obtain ⟨⟨-, f0⟩, ⟨-, f1⟩, ⟨-, f2⟩, ⟨-, f3⟩, ⟨-, f4⟩, -⟩ := h.fs
    rcases h.row.2 with ⟨_, h5⟩ | ⟨g, cap, cur, hv, _⟩
    · cases h5
    · have hr := h.row
      have h7 := h.c7
      rw [hv] at hr h7
      have e : ∀ j (hj : j < 5), V.cell? ⟨g, j, none⟩ = ([m0, m1, m2, m3, m4].map mpv)[j]? := fun j hj => hr.cellAt j (by omega)
      refine ⟨⟨a, b, c, d, _⟩, g, cap, m0, m1, m2, m3, m4, ?_, hv, ⟨f0, f1, f2, f3, f4, e 0 (by omega), e 1 (by omega), e 2 (by omega), e 3 (by omega), e 4 (by omega), h7, h.ct, h.c4, h.c5, h.below⟩⟩
      rw [h.tell, List.drop_eq_nil_of_le (by omega)]
      rfl
set_option maxRecDepth 100000 in
set_option maxHeartbeats 3200000 in
theorem Next_main (t : Int) (rule : Bs) (hs : rule.length ≤ 100000) (hv : validI t = true) (hn : (Lib.split rule [32]).length = 5) (w : World) (hM : MaxIs w) (hM0 : 0 < w.heap.size) :
    Calls Tryz.prog 7 #[.int .i64 t, .string ⟨rule.toArray⟩] w fun e w' => e = .returned (.tuple #[.int .i64 (nextF t (fieldsL (Lib.split rule [32]) 0)).1, .int .i64 (nextF t (fieldsL (Lib.split rule [32]) 0)).2]) ∧ Below w.heap.size w w' := by
  have VA := Lib.hid (fun W => valid_any t W)
  rw [hv] at VA
  obtain ⟨w3, hw3⟩ : ∃ w3, w3 = ((w.alloc (.cells #[.int .i64 t] 3)).alloc (.cells #[.int .i64 0] 3)).alloc (.cells #[.int .i64 0] 23) := ⟨_, rfl⟩
  obtain ⟨hsz, h2, h4, h5, hB⟩ := nx_start t w hw3
  have HMX : Hid (∀ W, Below w.heap.size w W → MaxIs W) := fun W hW => by
    obtain ⟨m, hm⟩ := hM
    exact ⟨m, (hW.cell (p := ⟨0, 0, none⟩) hM0).trans hm⟩
  have SP := Lib.hid (words_any rule hs w3 (HMX.out _ hB))
  have hwl : ∀ x ∈ Lib.split rule [32], x.length ≤ 100000 := fun x hx => by have := split_len [32] _ _ x hx; omega
  generalize Lib.split rule [32] = l at *
  rw [hn, hsz] at SP
  have HWL := Lib.hid hwl
  have HL := Lib.hid hn
  have c2 := h2.cell
  have HW3 := Lib.hid hw3
  have H := Lib.hid (And.intro h2 (And.intro h4 (And.intro h5 hB)))
  have HV := Lib.hid hv
  clear hw3 hn h2 h4 h5 hB hM hwl hv hM0 hs
  refine callsIn_wide (n := 3) |>.1 ?_
  refine callsIn_of_wp_marks Tryz.func7 rfl trivial ?_ rfl
  simp only [Tryz.ntmps7, List.size_toArray, List.length_cons, List.length_nil, Nat.reduceAdd, Nat.reduceSub, Array.replicate_succ, Array.replicate_zero, List.push_toArray, List.append_toArray, List.nil_append, List.cons_append]
  gi_wp2_with (first
    | (gi_at_call 17; refine (callsIn_wide.2 (VA.out _)).mono ?_; rintro e w1 ⟨rfl, hw⟩; have hw' := HW3.out.trans hw; clear hw; subst hw')
    | (gi_at_call 18; refine (callsIn_wide.2 SP.out).mono ?_; rintro e w4 ⟨rfl, hsr, hBs⟩; have HR0 := Lib.hid (nx_r0 (boxLowN H.out.1 (hBs.mono (by omega))) (boxLowN H.out.2.1 (hBs.mono (by omega))) (boxLowN H.out.2.2.1 (hBs.mono (by omega))) hsr (H.out.2.2.2.trans (hBs.mono (by omega)))); have HSZ := Lib.hid hsr.lt; clear hsr hBs))
  obtain ⟨b7, hb7⟩ : ∃ b7, w4.heap.size = b7 := ⟨_, rfl⟩
  rw [hb7] at HR0 HSZ ⊢
  obtain ⟨w5, hw5⟩ : ∃ w5, w4.alloc (.cells #[.slice none 0 0] 44) = w5 := ⟨_, rfl⟩
  rw [hw5] at HR0 ⊢
  clear hw5 hb7 c2 SP H
  refine wpIn_wide.2 ?_
  go_loopw [8, 9, 10, 11, 32] (fun v8 v9 v10 v11 v32 wr => ∃ (k : Nat) (ms : List Nat) (Fs : List (Nat → Bool)) (vr : Value), k ≤ 5 ∧ v32 = .int .i64 (k : Int) ∧ NxR w l t b7 k ms Fs vr wr) (fun _ _ _ _ v32 _ => 5 - (intOf v32).toNat)
  case atStart => exact ⟨0, [], [], _, by omega, rfl, HR0.out⟩
  case round =>
    obtain ⟨k, ms, Fs, vr, hk, rfl, hR⟩ := hrel
    by_cases hlt : k < 5
    · have hkl : k < l.length := by have := HL.out; omega
      have HX := Lib.hid (List.drop_eq_getElem_cons hkl)
      have hxl := HWL.out l[k] (List.getElem_mem _)
      have hcx := hR.sp.at_ k hkl
      have hspl := hR.sp.lt
      generalize l[k] = x at *
      have t1 : decide ((k : Int) < 5) = true := by rw [decide_eq_true_eq]; omega
      have i1 : k < 5 := hlt
      have i2 : (k : Int) < 5 := by omega
      have hw1 : IntKind.i64.wrap ((k : Int) + 1) = (k : Int) + 1 := IntWalk.i64_in _ (by omega)
      have hidx := fun W => bnd_idx k hlt W
      obtain ⟨lo, hlo⟩ : ∃ lo, loF k = lo := ⟨_, rfl⟩
      obtain ⟨hi, hhi⟩ : ∃ hi, hiF k = hi := ⟨_, rfl⟩
      have hb := loF_hi k
      rw [hlo, hhi] at hb
      have HHL := Lib.hid (And.intro hlo hhi)
      dsimp only [bndE] at hidx
      simp only [hlo, hhi] at hidx
      obtain ⟨wa, hwa⟩ : ∃ wa, wa = wr.alloc (.cells #[.int .i64 (lo : Int), .int .i64 (hi : Int)] 45) := ⟨_, rfl⟩
      have hba : Below wr.heap.size wr wa := by subst hwa; exact (Below.refl _ wr).alloc (Nat.le_refl _) _
      have hnew : wa.heap[wr.heap.size]? = some (.cells #[.int .i64 (lo : Int), .int .i64 (hi : Int)] 45 (0, 0)) := by subst hwa; exact heap_alloc_new wr _
      have hsza : wa.heap.size = wr.heap.size + 1 := by subst hwa; simp
      have cx : wa.cell? ⟨w.heap.size + 3, k, none⟩ = some (.string ⟨x.toArray⟩) := (hba.cell (p := ⟨w.heap.size + 3, k, none⟩) hspl).trans hcx
      have c0 : wa.cell? ⟨wr.heap.size, 0, none⟩ = some (.int .i64 (lo : Int)) := by simp [World.cell?, hnew]
      have c1 : wa.cell? ⟨wr.heap.size, 1, none⟩ = some (.int .i64 (hi : Int)) := by simp [World.cell?, hnew]
      have HRA := Lib.hid (hR.low hba)
      have FO := Lib.hid (fun W (hW : MaxIs W) => fieldOf_any x hxl lo hi hb.1 hb.2 W hW)
      have HWA := Lib.hid hwa
      clear hwa hba hnew hsza hcx hspl hR hxl hb hlo hhi
      go_wp2_with fail
      rw [← HWA.out]
      obtain ⟨S0, hS0⟩ : ∃ S0 : World → Prop, S0 = fun w' => Below wa.heap.size wa w' := ⟨_, rfl⟩
      have k0 : S0 wa := by rw [hS0]; exact Below.refl _ _
      have k1 : ∀ W, S0 W → S0 W.drew := by intro W hW; rw [hS0] at hW ⊢; exact hW.drew
      have FO2 : Hid (∀ W, S0 W → Calls Tryz.prog 19 #[.string ⟨x.toArray⟩, .int .i64 lo, .int .i64 hi] W fun e w' => ∃ m b, e = .returned (.tuple #[.map m, .bool b]) ∧ (Below W.heap.size W w' ∧ S0 w') ∧ match fieldP x lo hi with
          | none => b = false
          | some F => b = true ∧ ∃ mb, m = some mb ∧ W.heap.size ≤ mb ∧ FAt w' mb F) := by
        intro W hW
        rw [hS0] at hW ⊢
        refine (FO.out W (HMX.out W (HRA.out.below.trans (hW.mono HRA.out.below.size)))).mono ?_
        intro e w' he
        obtain ⟨hb, hm⟩ := he
        cases hfp : fieldP x lo hi with
        | none => rw [hfp] at hm; exact ⟨none, false, hm, ⟨hb, hW.trans (hb.mono hW.size)⟩, rfl⟩
        | some F => rw [hfp] at hm; obtain ⟨mb, h1, h2, h3⟩ := hm; exact ⟨some mb, true, h1, ⟨hb, hW.trans (hb.mono hW.size)⟩, rfl, mb, rfl, h2, h3⟩
      have k2 : ∀ W W', S0 W → Below W.heap.size W W' → S0 W' ∧ W'.cell? ⟨w.heap.size + 3, k, none⟩ = some (.string ⟨x.toArray⟩) ∧ W'.cell? ⟨wr.heap.size, 0, none⟩ = some (.int .i64 (lo : Int)) ∧ W'.cell? ⟨wr.heap.size, 1, none⟩ = some (.int .i64 (hi : Int)) := by
        intro W W' hW hb
        have h2 : Below wa.heap.size wa W' := by rw [hS0] at hW; exact hW.trans (hb.mono hW.size)
        exact ⟨by rw [hS0]; exact h2, (h2.cell (p := ⟨w.heap.size + 3, k, none⟩) (by have := Lib.lt_of_cell cx; exact this)).trans cx, (h2.cell (p := ⟨wr.heap.size, 0, none⟩) (by have := Lib.lt_of_cell c0; exact this)).trans c0, (h2.cell (p := ⟨wr.heap.size, 1, none⟩) (by have := Lib.lt_of_cell c0; exact this)).trans c1⟩
      have HS0 := Lib.hid hS0
      clear hS0 FO hidx
      go_region_held3 (fun w' => S0 w' ∧ w'.cell? ⟨w.heap.size + 3, k, none⟩ = some (.string ⟨x.toArray⟩) ∧ w'.cell? ⟨wr.heap.size, 0, none⟩ = some (.int .i64 (lo : Int)) ∧ w'.cell? ⟨wr.heap.size, 1, none⟩ = some (.int .i64 (hi : Int))) (first | go_keep | (exact k2 _ _ (by go_split_ands; assumption) hbx) | (exact k2 _ _ (k1 _ (by go_split_ands; assumption)) hbx) | (go_split_ands; exact ⟨k1 _ (by assumption), by assumption, by assumption, by assumption⟩)) ((go_at_call 19; refine (FO2.out _ (by first | assumption | exact k1 _ (by assumption))).mono ?_; rintro e w6 ⟨m, bb, rfl, ⟨hbx, -⟩, hm⟩; have HM6 := Lib.hid (And.intro hbx hm); clear hm))
      go_split_ands
      have h6 : Below wa.heap.size wa w6 := ((Below.refl wa.heap.size wa).drew).trans hbx
      have R6 := HRA.out.low h6
      have hm := HM6.out.2
      have hdt := fieldsL_drop HX.out HHL.out.1 HHL.out.2
      have cv := R6.c7.cell
      have fv := R6.c7.frozen
      have c4 := R6.c4.cell
      have f4 := R6.c4.frozen
      have c5 := R6.c5.cell
      have f5 := (R6.c5.other (by omega : w.heap.size + 1 + 1 ≠ w.heap.size + 1) (.int .i64 0)).frozen
      clear k0 k1 k2 cx c0 c1 hbx
      cases hfp : fieldP x lo hi with
      | none =>
        rw [hfp] at hm hdt
        dsimp only at hm hdt
        subst hm
        have K := Lib.hid (nx_put R6.c4 R6.c5 0 2 R6.below (by omega))
        have HT := Lib.hid (R6.tell)
        rw [hdt, Option.map_none] at HT
        clear R6 hdt
        go_wp2_with fail
        obtain ⟨k4, k5, kB, -⟩ := K.out
        have r4 := k4.cell
        have r5 := k5.cell
        rw [HT.out]
        refine ⟨.tuple #[.int .i64 0, .int .i64 2], ?_, rfl, kB⟩
        simp [results, Tryz.f7, go_sem, r4, r5]
      | some F =>
        rw [hfp] at hm hdt
        dsimp only at hm hdt
        obtain ⟨rfl, mb, rfl, hmb, hF⟩ := hm
        have H6 := Lib.hid (And.intro R6 (And.intro hF (And.intro hdt hmb)))
        obtain ⟨vo, vn, vc, rfl⟩ : ∃ o n c, vr = .slice o n c := by
          rcases R6.row.2 with ⟨rfl, _⟩ | ⟨g, cap, cur, rfl, _⟩
          · exact ⟨_, _, _, rfl⟩
          · exact ⟨_, _, _, rfl⟩
        clear R6 hdt hF hmb
        go_wp2_with (at_builtin; go_loud (refine wpList_push1 rfl (.tmp 50) (.tmp 52) 44 rfl (b7 + 1) 48 (.map none) 8 Tryz.underlying44 infoNum rfl (.slice vo vn vc) k _ rfl H6.out.1.row (.map (some mb)) _ rfl rfl rfl (by unfold maxLen; omega) (by omega) (by have := H6.out.1.size; omega) ?_); intro g4 c4 w7 hg4 hown4 hk4 hloc; have hb7 : Boxed w7 b7 44 (.slice vo vn vc) := (hk4.block b7 H6.out.1.size (fun hm => by have := (ownsRow_type H6.out.1.row b7 (by simpa using hm)).1; omega)).trans H6.out.1.c7; have cv7 := hb7.cell; have fv7 := hb7.frozen; have H7 := Lib.hid (And.intro hown4 (And.intro hk4 hg4)); clear hg4 hown4 hk4 hloc hb7)
        go_roundw
        case rel => exact ⟨k + 1, ms ++ [mb], Fs ++ [F], _, by omega, by go_num, H6.out.1.push HSZ.out (by have h1 := H6.out.2.2.2; have h2 := HRA.out.size; have h3 : wa.drew.heap.size = wa.heap.size := rfl; omega) H6.out.2.1 H6.out.2.2.1 H7.out.1 H7.out.2.2 H7.out.2.1⟩
        case measure => simp [intOf]; omega
    · obtain rfl : k = 5 := by omega
      have t1 : decide (((5 : Nat) : Int) < 5) = false := by decide
      have HRF := Lib.hid hR
      clear hR
      go_wp2_with fail
      obtain ⟨F, g, cap, m0, m1, m2, m3, m4, hN, rfl, hV⟩ := nxv_of HRF.out HL.out
      have hti := validI_in HV.out
      have DN := Lib.hid (fun W => down_any t 86400 (by omega) (by omega) (by omega) (by omega) W)
      have c2 := hV.ct.cell
      have HVV := Lib.hid hV
      obtain ⟨res, hres⟩ : ∃ res, nextT F t = res := ⟨_, rfl⟩
      rw [hres] at hN
      have HN := Lib.hid hN
      have HRES := Lib.hid hres
      clear hN hres hV HRF hti
      gi_wp2_with (first
        | (gi_at_call 20; refine (callsIn_wide.2 (DN.out _)).mono ?_; rintro e w6 ⟨rfl, dn, rfl⟩)
        | (gi_at_call 21; refine (callsIn_wide.2 (from_any _ _)).mono ?_; rintro e w7 ⟨rfl, rfl⟩))
      have HV6 : Hid (NxV w t F b7 g cap m0 m1 m2 m3 m4 (wr.drewN dn)) := HVV.out.low (below_drewN (Below.refl _ _) _)
      clear HVV c2
      obtain ⟨V, hVd⟩ : ∃ V, wr.drewN dn = V := ⟨_, rfl⟩
      rw [hVd] at HV6 ⊢
      obtain ⟨b1, hb1⟩ : ∃ b1, wr.heap.size = b1 := ⟨_, rfl⟩
      have hvs : V.heap.size = b1 := by rw [← hb1, ← hVd]; rfl
      rw [hb1]
      clear hVd hb1
      have hW0 : (V.alloc (.cells #[.int .i64 (t / 86400)] 3)).heap.size = b1 + 1 := by simp [hvs]
      have hbox : (V.alloc (.cells #[.int .i64 (t / 86400)] 3)).heap[b1]? = some (.cells #[.int .i64 (t / 86400)] 3 (0, 0)) := by rw [← hvs]; exact heap_alloc_new V _
      have hti := validI_in HV.out
      have hVb := HV6.out.below.size
      refine wpIn_iterOwn (F := Fence.wide) rfl (by omega) (gf := 48) (lb := #[.pointer (some ⟨b1, 0, none⟩)]) rfl trivial (enters_of Tryz.func48 (by kernel_rfl) rfl)
        (fun o1 o2 => from1_in 2 (by omega) b1 (t / 86400) (by omega) (by omega) _ ((Below.heap_alloc _ _ _ (by simp; omega)).trans ((Below.heap_alloc _ _ _ (by omega)).trans hbox)))
        (fun B X Y h k hk hkB => h.block k hkB (by omega)) KC.trans (fun W l o o' _ h ho => KC.put o' h ho) (fun _ => rfl)
        (NxI b1 V F t res) (NxX w res) (nx_ownI hvs (by omega)) (fun q X Y h hab => nx_ab hvs (by omega) h hab) (nx_ownX (by omega)) ⟨by rw [← hvs]; exact (Below.refl _ V).alloc (Nat.le_refl _) _, HRES.out⟩
        (fun q a' W => ∃ bx, b1 ≤ bx ∧ DBox W bx (dd q).y (dd q).m (dd q).d ∧ a' = { tmps := #[.int .i64 t, .string ⟨rule.toArray⟩, .pointer (some ⟨w.heap.size, 0, none⟩), undef, .pointer (some ⟨w.heap.size + 1, 0, none⟩), .pointer (some ⟨w.heap.size + 1 + 1, 0, none⟩), .slice (some ⟨w.heap.size + 3, 0, none⟩) 5 5, .pointer (some ⟨b7, 0, none⟩), u8, u9, u10, u11, .int .i64 (t / 86400), .int .i64 (t % 86400), .int .i64 q, .pointer (some ⟨bx, 0, none⟩), undef, undef, .int .i64 t, .bool true, .bool false, .string ⟨rule.toArray⟩, .slice (some ⟨w.heap.size + 3, 0, none⟩) 5 5, .slice (some ⟨w.heap.size + 3, 0, none⟩) 5 5, .int .i64 5, .bool false, .agg #[.int .i64 0, .int .i64 59], .agg #[.int .i64 0, .int .i64 23], .agg #[.int .i64 1, .int .i64 31], .agg #[.int .i64 1, .int .i64 12], .agg #[.int .i64 1, .int .i64 7], .agg #[.int .i64 0, .int .i64 59, .int .i64 0, .int .i64 23, .int .i64 1, .int .i64 31, .int .i64 1, .int .i64 12, .int .i64 1, .int .i64 7], .int .i64 5, .bool false, u34, u35, u36, u37, u38, u39, u40, u41, u42, u43, u44, u45, u46, u47, u48, u49, u50, u51, u52, u53, u54, .tuple #[.int .i64 (t / 86400), .int .i64 (t % 86400)], .int .i64 t, .tuple #[.int .i64 (t / 86400), .int .i64 (t % 86400)], .int .i64 (t / 86400), .int .i64 (t % 86400), .int .i64 (t / 86400), .func (.func 48) #[] #[.pointer (some ⟨b1, 0, none⟩)], .int .i64 q, .agg #[.int .i64 (dd q).y, .int .i64 (dd q).m, .int .i64 (dd q).d, .int .i64 0, .int .i64 0, .int .i64 0], undef, undef, undef, undef, undef, undef, undef, undef, undef, undef, undef, undef, undef, undef, undef, undef, undef, undef, undef, undef, undef, undef, undef, undef, undef, undef, undef, undef, undef, undef, undef, undef, undef, undef, undef, undef, undef, undef, undef, undef, undef, undef, undef, undef, undef, undef, undef, undef, undef, undef, undef, undef, undef, undef, undef], defers := [] }) (fun q a' => nx_ownA (by omega)) ?assign ?body ?done ?stop
      case assign =>
        intro l q W K hI hok hK
        obtain ⟨hq1, hq2⟩ := hok
        have hcl := clipD_of hq1 hq2
        obtain ⟨-, -, hd3, hd4, hd5⟩ := dd_ok hq1
        have HK := Lib.hid hK
        have hIs := hI.1.size
        clear hK
        dsimp only [encD]
        rw [hcl]
        unfold DT.v
        rw [hd3, hd4, hd5]
        gi_wp2
        exact HK.out _ _ ((KeepsOthers.alloc W _).from _) ((KC.refl W).alloc _) ⟨hI.1.alloc (by omega) _, hI.2⟩ ⟨W.heap.size, by omega, heap_alloc_new W _, rfl⟩
      case body =>
        rintro l q a' W ⟨hB, hr⟩ ⟨hq1, hq2⟩ ⟨bx, hbx, hbox2, rfl⟩
        have hW := HV6.out.low (by rw [hvs]; exact hB)
        obtain ⟨hdo, -, -, -, -⟩ := dd_ok hq1
        have HE := Lib.hid hr
        have HI := Lib.hid (And.intro hB (And.intro hq1 hq2))
        have L2 := fun n => hW.f2.lookI (x := (dd q).d) (by have := hdo.d1; omega) (by have := hdo.dn; have := dim_ge (dd q).y (dd q).m; omega) n
        have L3 := fun n => hW.f3.lookI (x := (dd q).m) (by have := hdo.m1; omega) (by have := hdo.m12; omega) n
        have L4 := fun n => hW.f4.lookI (x := wdC (q * 86400)) (by rw [wd_day]; omega) (by rw [wd_day]; omega) n
        have HDY : Hid (F.day q = (F.da (dd q).d.toNat && F.mo (dd q).m.toNat && F.wd (wdC (q * 86400)).toNat)) := rfl
        generalize F.da (dd q).d.toNat = ba at *
        generalize F.mo (dd q).m.toNat = bm at *
        generalize F.wd (wdC (q * 86400)).toNat = bw at *
        have WK := Lib.hid (fun W => weekday_any (q * 86400) (by omega) (by omega) W)
        have hwq : IntKind.i64.wrap (q * 86400) = q * 86400 := IntWalk.i64_in _ (by omega)
        have c7 := hW.c7.cell
        have r2 := hW.r2
        have r3 := hW.r3
        have r4 := hW.r4
        obtain ⟨-, d1, d2, -, -, -⟩ := hbox2.cell
        have HW := Lib.hid hW
        clear hr hB hW hbox2 hdo hbox
        have skip : (ba && bm && bw) = false → Hid (∀ nq, KeepsFrom (V.alloc (.cells #[.int .i64 (t / 86400)] 3)).heap.size W (W.drewN nq) ∧ KC W (W.drewN nq) ∧ NxI b1 V F t res (q + 1) (W.drewN nq)) := fun hf nq =>
          ⟨KeepsFrom.of_heap rfl, ⟨Nat.le_refl _, fun _ _ h _ => h⟩, below_drewN HI.out.1 nq, by
            have h1 := dayS_step (F.hit t) HI.out.2.2
            have h2 : F.hit t q = none := by unfold Fits.hit; rw [HDY.out, hf]; rfl
            rw [h2] at h1
            exact h1.symm.trans HE.out⟩
        cases ba with
        | false =>
          have SK := skip rfl
          clear skip L3 L4
          gi_wp2
          refine wpIn_region_quiet_round (F := Fence.wide) rfl (by kernel_rfl) (by kernel_rfl) (by kernel_rfl) ?_
          repeat (gi_big_quiet_step (fail))
          refine wpQuietIn_nil ?_
          rintro _ ⟨nq, rfl⟩
          gi_wp2
          exact SK.out nq
        | true =>
          cases bm with
          | false =>
            have SK := skip rfl
            clear skip L4
            gi_wp2
            refine wpIn_region_quiet_round (F := Fence.wide) rfl (by kernel_rfl) (by kernel_rfl) (by kernel_rfl) ?_
            repeat (gi_big_quiet_step (fail))
            refine wpQuietIn_nil ?_
            rintro _ ⟨nq, rfl⟩
            gi_wp2
            exact SK.out nq
          | true =>
            cases bw with
            | false =>
              have SK := skip rfl
              clear skip
              gi_wp2
              refine wpIn_region_quiet_round (F := Fence.wide) rfl (by kernel_rfl) (by kernel_rfl) (by kernel_rfl) ?_
              repeat (gi_big_quiet_step ((gi_at_call 22; exact CallsIn.quiet_of (callsIn_wide.2 (WK.out _)))))
              refine wpQuietIn_nil ?_
              rintro _ ⟨nq, rfl⟩
              gi_wp2
              exact SK.out nq
            | true =>
              have hday : F.day q = true := HDY.out
              have HHIT : Hid (F.hit t q = (minS (F.at t q) 1440 0).map fun (m : Nat) => q * 86400 + 60 * (m : Int)) := by
                show _ = _
                unfold Fits.hit
                rw [if_pos hday]
              have HSTEP : Hid (res = match F.hit t q with | some a => some a | none => dayS (F.hit t) (dayK (q + 1)) (q + 1)) := HE.out.symm.trans (dayS_step (F.hit t) HI.out.2.2)
              clear skip HDY hday
              gi_wp2
              refine wpIn_region_quiet_round (F := Fence.wide) rfl (by kernel_rfl) (by kernel_rfl) (by kernel_rfl) ?_
              repeat (gi_big_quiet_step ((gi_at_call 22; exact CallsIn.quiet_of (callsIn_wide.2 (WK.out _)))))
              refine wpQuietIn_nil ?_
              rintro _ ⟨nq, rfl⟩
              clear L2 L3 L4 c7 r2 r3 r4 d1 d2
              gi_wp2
              gi_loopw [16, 17, 90] (fun _ _ v wr => ∃ (m n : Nat), m ≤ 1440 ∧ v = .int .i64 (m : Int) ∧ wr = W.drewN n ∧ Hid (minS (F.at t q) 1440 0 = minS (F.at t q) (1440 - m) m)) (fun _ _ v _ => 1440 - (intOf v).toNat)
              case atStart => exact ⟨0, nq, by omega, rfl, rfl, rfl⟩
              case round =>
                obtain ⟨m, n, hm, rfl, rfl, HM⟩ := hrel
                by_cases hlt : m < 1440
                · have t1 : decide ((m : Int) < 1440) = true := by rw [decide_eq_true_eq]; omega
                  have hw1 : IntKind.i64.wrap ((m : Int) + 1) = (m : Int) + 1 := IntWalk.i64_in _ (by omega)
                  have hw2 : IntKind.i64.wrap (60 * (m : Int)) = 60 * (m : Int) := IntWalk.i64_in _ (by omega)
                  have hw3 : IntKind.i64.wrap (q * 86400 + 60 * (m : Int)) = q * 86400 + 60 * (m : Int) := IntWalk.i64_in _ (by omega)
                  have hdv : (m : Int).tdiv 60 = ((m / 60 : Nat) : Int) := by rw [Int.tdiv_eq_ediv_of_nonneg (by omega)]; rfl
                  have hrm : (m : Int).tmod 60 = ((m % 60 : Nat) : Int) := by rw [Int.tmod_eq_emod_of_nonneg (by omega)]; rfl
                  have HST : Hid (minS (F.at t q) (1440 - m) m = if F.at t q m = true then some m else minS (F.at t q) (1440 - (m + 1)) (m + 1)) := by
                    show _ = _
                    rw [show 1440 - m = (1440 - (m + 1)) + 1 by omega]
                    rfl
                  have HAT : Hid (F.at t q m = (decide (t < q * 86400 + 60 * (m : Int)) && F.ho (m / 60) && F.mi (m % 60))) := rfl
                  have hWn : NxV w t F b7 g cap m0 m1 m2 m3 m4 (W.drewN n) := HW.out.low (below_drewN (Below.refl _ _) n)
                  have L0 := hWn.f0.look (n := m % 60) (by omega)
                  have L1 := hWn.f1.look (n := m / 60) (by omega)
                  rw [show ((m / 60 : Nat) : Int) = (m : Int) / 60 from rfl] at L1 hdv
                  rw [show ((m % 60 : Nat) : Int) = (m : Int) % 60 from rfl] at L0 hrm
                  have c7 := hWn.c7.cell
                  have c2 := hWn.ct.cell
                  have r0 := hWn.r0
                  have r1 := hWn.r1
                  have HWN := Lib.hid hWn
                  clear hWn
                  generalize F.ho (m / 60) = bh at *
                  generalize F.mi (m % 60) = bi at *
                  obtain ⟨bt, hbt⟩ : ∃ bt, decide (t < q * 86400 + 60 * (m : Int)) = bt := ⟨_, rfl⟩
                  rw [hbt] at HAT
                  obtain ⟨Wn, hWe⟩ : ∃ Wn, W.drewN n = Wn := ⟨_, rfl⟩
                  rw [hWe] at L0 L1 c7 c2 r0 r1 HWN ⊢
                  have HWE := Lib.hid hWe
                  clear hWe
                  cases bt with
                  | false =>
                    clear L0 L1
                    have SK : Hid (minS (F.at t q) 1440 0 = minS (F.at t q) (1440 - (m + 1)) (m + 1)) := by
                      show _ = _
                      rw [HM.out, HST.out, if_neg (by rw [HAT.out]; simp)]
                    gi_wp2
                    go_roundw
                    case rel => exact ⟨m + 1, n, by omega, by go_num, HWE.out.symm, SK.out⟩
                    case measure => simp [intOf]; omega
                  | true =>
                    cases bh with
                    | false =>
                      clear L0
                      have SK : Hid (minS (F.at t q) 1440 0 = minS (F.at t q) (1440 - (m + 1)) (m + 1)) := by
                        show _ = _
                        rw [HM.out, HST.out, if_neg (by rw [HAT.out]; simp)]
                      gi_wp2
                      go_roundw
                      case rel => exact ⟨m + 1, n, by omega, by go_num, HWE.out.symm, SK.out⟩
                      case measure => simp [intOf]; omega
                    | true =>
                      cases bi with
                      | false =>
                        have SK : Hid (minS (F.at t q) 1440 0 = minS (F.at t q) (1440 - (m + 1)) (m + 1)) := by
                          show _ = _
                          rw [HM.out, HST.out, if_neg (by rw [HAT.out]; simp)]
                        gi_wp2
                        go_roundw
                        case rel => exact ⟨m + 1, n, by omega, by go_num, HWE.out.symm, SK.out⟩
                        case measure => simp [intOf]; omega
                      | true =>
                        have HRS : Hid (res = some (q * 86400 + 60 * (m : Int))) := by
                          show _ = _
                          rw [HSTEP.out, HHIT.out, HM.out, HST.out, if_pos (by rw [HAT.out]; rfl)]
                          rfl
                        have hz := HWN.out
                        have c4 := hz.c4.cell
                        have f4 := hz.c4.frozen
                        have c5 := hz.c5.cell
                        have f5 := (hz.c5.other (by omega : w.heap.size + 1 + 1 ≠ w.heap.size + 1) (.int .i64 (q * 86400 + 60 * (m : Int)))).frozen
                        have HZ := Lib.hid (nx_put hz.c4 hz.c5 (q * 86400 + 60 * (m : Int)) 0 hz.below (by omega))
                        have HKF : Hid (KeepsFrom (V.alloc (.cells #[.int .i64 (t / 86400)] 3)).heap.size W Wn) := KeepsFrom.of_heap (by rw [← HWE.out]; rfl)
                        clear hz
                        gi_wp2
                        exact ⟨HKF.out.trans (HZ.out.2.2.2.from _), rfl, _, HRS.out, HZ.out.1, HZ.out.2.1, HZ.out.2.2.1⟩
                · obtain rfl : m = 1440 := by omega
                  have t1 : decide (((1440 : Nat) : Int) < 1440) = false := by decide
                  have hn : F.hit t q = none := by rw [HHIT.out, HM.out]; rfl
                  have HNI : Hid (NxI b1 V F t res (q + 1) (W.drewN n)) := ⟨below_drewN HI.out.1 n, by have := HSTEP.out; rw [hn] at this; exact this.symm⟩
                  clear hn
                  gi_wp2
                  exact ⟨KeepsFrom.of_heap rfl, ⟨Nat.le_refl _, fun _ _ h _ => h⟩, HNI.out⟩
      case done =>
        rintro D q W hD rfl ⟨hB, hr⟩ hK
        have hr2 : res = none := by rw [← hr]; exact dayS_stop _ (by omega)
        have hW := HV6.out.low (by rw [hvs]; exact hB)
        have HP := Lib.hid (nx_put hW.c4 hW.c5 0 8 hW.below (by omega))
        have c4 := hW.c4.cell
        have f4 := hW.c4.frozen
        have c5 := hW.c5.cell
        have f5 := (hW.c5.other (by omega : w.heap.size + 1 + 1 ≠ w.heap.size + 1) (.int .i64 0)).frozen
        clear hW hr
        gi_wp2_with fail
        obtain ⟨g4, g5, gB, gK⟩ := HP.out
        have hK' := gK.same D _ hK rfl
        refine ⟨by simp, .inl ⟨_, _, rfl, run_takeDeferred hK', ?_⟩⟩
        have r4 := (boxed_putN (o' := .deferred none) g4 hK' rfl).cell
        have r5 := (boxed_putN (o' := .deferred none) g5 hK' rfl).cell
        rw [HN.out, hr2]
        refine ⟨.tuple #[.int .i64 0, .int .i64 8], ?_, rfl, gB.trans (belowK_b (w := w) (Nat.le_refl _) _ D _ _ (by omega) hK' rfl rfl)⟩
        simp [results, Tryz.f7, go_sem, r4, r5]
      case stop =>
        rintro D c' W hD ⟨rfl, x, hr, g4, g5, gB⟩ hK
        gi_wp2_with fail
        refine ⟨by simp, .inl ⟨_, _, rfl, run_takeDeferred hK, ?_⟩⟩
        have r4 := (boxed_putN (o' := .deferred none) g4 hK rfl).cell
        have r5 := (boxed_putN (o' := .deferred none) g5 hK rfl).cell
        rw [HN.out, hr]
        refine ⟨.tuple #[.int .i64 x, .int .i64 0], ?_, rfl, gB.trans (belowK_b (w := w) (Nat.le_refl _) _ D _ _ (by omega) hK rfl rfl)⟩
        simp [results, Tryz.f7, go_sem, r4, r5]
theorem Next_any (t : Int) (rule : Bs) (hs : rule.length ≤ 100000) (w : World) (hM : MaxIs w) :
    Calls Tryz.prog 7 #[.int .i64 t, .string ⟨rule.toArray⟩] w fun e w' => e = .returned (.tuple #[.int .i64 (nextC t rule).1, .int .i64 (nextC t rule).2]) ∧ Below w.heap.size w w' := by
  have hM0 : 0 < w.heap.size := by
    obtain ⟨m, hm⟩ := hM
    have := Lib.lt_of_cell hm
    exact this
  unfold nextC
  cases hv : validI t with
  | false => rw [if_pos rfl]; exact Next_bad t rule hv w
  | true =>
    rw [if_neg (by simp)]
    by_cases hn : (Lib.split rule [32]).length = 5
    · rw [if_neg (by simpa using hn)]
      exact Next_main t rule hs hv hn w hM hM0
    · rw [if_pos hn]
      exact Next_words t rule hs hv hn w hM hM0
end Go.Proofs.YtkahakhhdiffcaaGreatDoor
