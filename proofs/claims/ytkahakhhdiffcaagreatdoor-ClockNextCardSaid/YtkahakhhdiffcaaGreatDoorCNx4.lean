/- What 'from' yields: days. -/
import Derived.RangeFuncNested
import Derived.RangeFuncBound
import Derived.RangeFuncCalls
import Derived.RangeFuncLeaves
import Derived.RangeFuncBox
import Derived.Shelf.Abstract
import Derived.Shelf.RegionOpen
import Derived.OwnWalkIn
import Derived.TacticsInMore
import Derived.LoopNIn
import Derived.LoopIn
import Derived.BigRegionIn
import Derived.Sort.QuietIn
import Derived.Test.YtkahakhhdiffcaaGreatDoorCNx3
import Derived.Test.YtkahakhhdiffcaaGreatDoorCNxL
import Derived.Test.YtkahakhhdiffcaaGreatDoorCWeek
namespace Go.Proofs.YtkahakhhdiffcaaGreatDoor
set_option linter.unusedVariables false
set_option linter.unusedSimpArgs false
open Go.RowKit Go.Shelf
theorem wide_fnD (f : FuncId) : Fence.wide.fn f = True := rfl
attribute [local go_sem] Oper.semAt_some wide_fnD
def clipD (n : Int) : Int := max (-719162) (min n 2932896)
theorem clipD_of {n : Int} (h : -719162 ≤ n) (h2 : n ≤ 2932896) : clipD n = n := by unfold clipD; omega
/-- A day as it is yielded. -/
noncomputable abbrev encD (n : Int) : Array Value := #[.int .i64 (clipD n), (dd (clipD n)).v]
/-- All below B but block b1 stays. -/
structure MB (b1 B : Nat) (w w' : World) : Prop where
  os : w'.os = w.os
  tape : w'.tape = w.tape
  output : w'.output = w.output
  size : w.heap.size ≤ w'.heap.size
  block : ∀ k, k < B → k ≠ b1 → w'.heap[k]? = w.heap[k]?
theorem MB.trans {b1 B : Nat} {u v w : World} (h : MB b1 B u v) (k : MB b1 B v w) : MB b1 B u w :=
  ⟨k.os.trans h.os, k.tape.trans h.tape, k.output.trans h.output, Nat.le_trans h.size k.size, fun i hi hb => (k.block i hi hb).trans (h.block i hi hb)⟩
theorem MB.of_ms {b b1 B : Nat} {w w' : World} (h : MS b w w') (hb : B ≤ b) (hB : B ≤ w.heap.size) : MB b1 B w w' := ⟨h.os, h.tape, h.output, h.size, fun k hk hk1 => h.block k (by omega) (by omega)⟩
theorem MB.of_ms1 {b1 B : Nat} {w w' : World} (h : MS b1 w w') (hB : B ≤ w.heap.size) : MB b1 B w w' := ⟨h.os, h.tape, h.output, h.size, fun k hk hk1 => h.block k (by omega) hk1⟩
/-- All cells stay. -/
structure KC (w w' : World) : Prop where
  size : w.heap.size ≤ w'.heap.size
  cells : ∀ (k : Nat) (o : Obj), w.heap[k]? = some o → o.isCells = true → w'.heap[k]? = some o
theorem KC.refl (w : World) : KC w w := ⟨Nat.le_refl _, fun _ _ h _ => h⟩
theorem KC.trans {u v w : World} (h : KC u v) (k : KC v w) : KC u w := ⟨Nat.le_trans h.size k.size, fun i o h1 h2 => k.cells i o (h.cells i o h1 h2) h2⟩
theorem KC.put {W : World} {l : Nat} {o : Obj} (o' : Obj) (h : W.heap[l]? = some o) (ho : o.isCells = false) : KC W (W.putObj l o') :=
  ⟨by simp [World.putObj], fun k x hk hx => by
    have hne : k ≠ l := fun e => by subst e; rw [hk] at h; injection h with h; rw [h, ho] at hx; cases hx
    exact (World.putObj_heap_other hne).trans hk⟩
theorem KC.alloc {u w : World} (h : KC u w) (o : Obj) : KC u (w.alloc o) := h.trans ⟨by simp, fun k x hk hx => (Below.heap_alloc _ _ _ (Array.getElem?_eq_some_iff.1 hk).1).trans hk⟩
/-- The box of a date. -/
def DBox (w : World) (b : Nat) (y m d : Int) : Prop := w.heap[b]? = some (.cells #[.int .i64 y, .int .i64 m, .int .i64 d, .int .i64 0, .int .i64 0, .int .i64 0] 39 (0, 0))
theorem DBox.cell {w : World} {b : Nat} {y m d : Int} (h : DBox w b y m d) : w.cell? ⟨b, 0, none⟩ = some (.int .i64 y) ∧ w.cell? ⟨b, 1, none⟩ = some (.int .i64 m) ∧ w.cell? ⟨b, 2, none⟩ = some (.int .i64 d) ∧ w.cell? ⟨b, 3, none⟩ = some (.int .i64 0) ∧ w.cell? ⟨b, 4, none⟩ = some (.int .i64 0) ∧ w.cell? ⟨b, 5, none⟩ = some (.int .i64 0) := by
  unfold DBox at h
  refine ⟨?_, ?_, ?_, ?_, ?_, ?_⟩ <;> simp [World.cell?, h]
theorem DBox.frozen {w : World} {b : Nat} {y m d : Int} (h : DBox w b y m d) (i : Nat) : w.frozen? ⟨b, i, none⟩ = false := by
  unfold DBox at h
  simp [World.frozen?, h]
theorem DBox.set {w : World} {b : Nat} {y m d : Int} (h : DBox w b y m d) :
    (∀ u, MS b w (w.setCell ⟨b, 0, none⟩ (.int .i64 u)) ∧ DBox (w.setCell ⟨b, 0, none⟩ (.int .i64 u)) b u m d) ∧
    (∀ u, MS b w (w.setCell ⟨b, 1, none⟩ (.int .i64 u)) ∧ DBox (w.setCell ⟨b, 1, none⟩ (.int .i64 u)) b y u d) ∧
    (∀ u, MS b w (w.setCell ⟨b, 2, none⟩ (.int .i64 u)) ∧ DBox (w.setCell ⟨b, 2, none⟩ (.int .i64 u)) b y m u) := by
  unfold DBox at h
  refine ⟨fun u => ?_, fun u => ?_, fun u => ?_⟩
  all_goals
    rw [setCell_eq_setRow w b _ _ _ _ _ h]
    exact ⟨⟨rfl, rfl, rfl, by simp [World.setRow], fun k _ hk => by simp [World.setRow, Array.getElem?_modify, Ne.symm hk]⟩, setRow_heap w b _ _ _ _ h⟩
theorem MS.drew {b : Nat} {w : World} (n : Nat) : MS b w (w.drewN n) := MS.of_below (below_drewN (Below.refl _ _) _)
/-- The number in a box. -/
def boxI (w : World) (b : Nat) : Int := match w.cell? ⟨b, 0, none⟩ with
  | some (.int .i64 q) => q
  | _ => 0
theorem boxI_of {w : World} {b : Nat} {q : Int} (h : w.heap[b]? = some (.cells #[.int .i64 q] 3 (0, 0))) : boxI w b = q := by
  have : w.cell? ⟨b, 0, none⟩ = some (.int .i64 q) := by simp [World.cell?, h]
  unfold boxI
  rw [this]
/-- What a round of 'from' leaves. -/
theorem from_end {b1 b B : Nat} {W V : World} {q : Int} (hms : MS b W V) (hb1 : b1 < W.heap.size) (hbb : b1 ≠ b) (hBb : B ≤ b) (hBW : B ≤ W.heap.size) (hn : W.heap[b1]? = some (.cells #[.int .i64 q] 3 (0, 0))) (q' : Int) :
    (∀ o, (V.alloc o).cell? ⟨b1, 0, none⟩ = some (.int .i64 q)) ∧ (∀ o, (V.alloc o).frozen? ⟨b1, 0, none⟩ = false) ∧ b1 < V.heap.size ∧
    Hid (∀ o, MB b1 B W ((V.setCell ⟨b1, 0, none⟩ (.int .i64 q')).alloc o) ∧ ((V.setCell ⟨b1, 0, none⟩ (.int .i64 q')).alloc o).heap[V.heap.size]? = some o ∧ ((V.setCell ⟨b1, 0, none⟩ (.int .i64 q')).alloc o).heap[b1]? = some (.cells #[.int .i64 q'] 3 (0, 0)) ∧ b1 ≠ V.heap.size ∧ B ≤ V.heap.size) := by
  have hV : V.heap[b1]? = some (.cells #[.int .i64 q] 3 (0, 0)) := (hms.block b1 hb1 hbb).trans hn
  have hsz : (V.setCell ⟨b1, 0, none⟩ (.int .i64 q')).heap.size = V.heap.size := by simp [World.setCell]
  have hs := hms.size
  have hVo : ∀ o, (V.alloc o).heap[b1]? = some (.cells #[.int .i64 q] 3 (0, 0)) := fun o => (Below.heap_alloc _ _ _ (by omega)).trans hV
  refine ⟨fun o => by simp only [World.cell?, hVo o]; rfl, fun o => by simp only [World.frozen?, hVo o]; rfl, by omega, fun o => ?_⟩
  have h1 := heap_alloc_new (V.setCell ⟨b1, 0, none⟩ (.int .i64 q')) o
  rw [hsz] at h1
  have hset : (V.setCell ⟨b1, 0, none⟩ (.int .i64 q')).heap[b1]? = some (.cells #[.int .i64 q'] 3 (0, 0)) := by
    rw [setCell_eq_setRow V b1 0 _ _ _ _ hV]
    exact setRow_heap V b1 _ _ _ _ hV
  refine ⟨⟨hms.os, hms.tape, hms.output, by simp; omega, fun k hk hk1 => ?_⟩, h1, (Below.heap_alloc _ _ _ (by rw [hsz]; omega)).trans hset, by omega, by omega⟩
  exact (Below.heap_alloc _ _ _ (by rw [hsz]; omega)).trans ((Below.heap_setCell V ⟨b1, 0, none⟩ _ k hk1).trans (hms.block k (by omega) (by omega)))
set_option maxRecDepth 100000 in
set_option maxHeartbeats 3200000 in
theorem from1_in (n : Nat) (hn : 1 ≤ n) (b1 : Nat) (s : Int) (hs : -719162 ≤ s) (hs2 : s ≤ 2932896) (W : World) (h1 : W.heap[b1]? = some (.cells #[.int .i64 s] 3 (0, 0))) :
    IterOwn Fence.wide n Tryz.prog 48 #[.pointer (some ⟨b1, 0, none⟩)] encD (· + 1) (fun q => -719162 ≤ q ∧ q ≤ 2932896) (fun q => q = 2932897) KC (MB b1) s W := by
  intro l J Jx hJb hY h0
  obtain ⟨B, hB⟩ : ∃ B, W.heap.size = B := ⟨_, rfl⟩
  rw [hB] at hJb
  have hBW : B ≤ W.heap.size := by omega
  rw [show #[Value.func (.yield l) #[] #[]] ++ #[Value.pointer (some ⟨b1, 0, none⟩)] = #[.func (.yield l) #[] #[], .pointer (some ⟨b1, 0, none⟩)] from rfl]
  have c1 : W.cell? ⟨b1, 0, none⟩ = some (.int .i64 s) := by simp [World.cell?, h1]
  have hb1 := (Array.getElem?_eq_some_iff.1 h1).1
  have DT0 := Lib.hid (date_any (s * 86400) (by omega) (by omega) W)
  have hw0 : IntKind.i64.wrap (s * 86400) = s * 86400 := IntWalk.i64_in _ (by omega)
  refine callsIn_of_wp Tryz.func48 rfl trivial ?_ rfl
  simp only [Tryz.ntmps48, List.size_toArray, List.length_cons, List.length_nil, Nat.reduceAdd, Nat.reduceSub, Array.replicate_succ, Array.replicate_zero, List.push_toArray, List.append_toArray, List.nil_append, List.cons_append]
  gi_wp2_with (gi_at_call 44; refine (callsIn_wide.2 DT0.out).mono ?_; rintro e w1 ⟨rfl, hB⟩; unfold DT.v; have H1 := Lib.hid hB; clear hB)
  have hdd : dateC (s * 86400) = dd s := rfl
  rw [hdd]
  have HW : Hid (∀ o : Obj, MS b1 W (w1.alloc o)) := fun o => (MS.of_below H1.out).trans (MS.of_below ((Below.refl _ w1).alloc (Nat.le_refl _) o))
  have HH : Hid (∀ o : Obj, (w1.alloc o).heap[b1]? = W.heap[b1]? ∧ (w1.alloc o).heap[w1.heap.size]? = some o ∧ b1 ≠ w1.heap.size) := fun o => by
    have hb := H1.out.trans (((Below.refl _ w1).alloc (Nat.le_refl _) o).mono H1.out.size)
    have := H1.out.size
    exact ⟨hb.block b1 hb1, (MapKept.heap_alloc w1 o).1, by omega⟩
  gi_loopw [3] (fun v wr => ∃ (q : Int) (b : Nat), s ≤ q ∧ q ≤ 2932897 ∧ v = .pointer (some ⟨b, 0, none⟩) ∧ b1 ≠ b ∧ wr.heap[b]? = some (.cells #[.int .i64 (dd q).y, .int .i64 (dd q).m, .int .i64 (dd q).d, .int .i64 (dd q).h, .int .i64 (dd q).mi, .int .i64 (dd q).s] 39 (0, 0)) ∧ wr.heap[b1]? = some (.cells #[.int .i64 q] 3 (0, 0)) ∧ B ≤ b ∧ J q wr)
    (fun _ wr => (2932897 - boxI wr b1).toNat)
  case atStart => exact ⟨s, _, by omega, by omega, rfl, (HH.out (.map #[] 0)).2.2, (HH.out _).2.1, (HH.out _).1.trans h1, by have := H1.out.size; omega, hJb _ _ _ h0 (MB.of_ms1 (HW.out _) hBW)⟩
  case round =>
    obtain ⟨q, b, hq1, hq2, rfl, hbb, hbx, hnx, hBb, hJ⟩ := hrel
    have hx0 : wr.cell? ⟨b, 0, none⟩ = some (.int .i64 (dd q).y) := by simp [World.cell?, hbx]
    obtain ⟨hdo, hdn, hd3, hd4, hd5⟩ := dd_ok (n := q) (by omega)
    have hyr := dd_year (n := q) (by omega)
    by_cases hlt : q ≤ 2932896
    · have t1 : decide ((dd q).y ≤ 9999) = true := by rw [decide_eq_true_eq]; exact hyr.2 hlt
      have hn1 : wr.cell? ⟨b1, 0, none⟩ = some (.int .i64 q) := by simp [World.cell?, hnx]
      have hx1 : wr.cell? ⟨b, 1, none⟩ = some (.int .i64 (dd q).m) := by simp [World.cell?, hbx]
      have hx2 : wr.cell? ⟨b, 2, none⟩ = some (.int .i64 (dd q).d) := by simp [World.cell?, hbx]
      have hx3 : wr.cell? ⟨b, 3, none⟩ = some (.int .i64 (dd q).h) := by simp [World.cell?, hbx]
      have hx4 : wr.cell? ⟨b, 4, none⟩ = some (.int .i64 (dd q).mi) := by simp [World.cell?, hbx]
      have hx5 : wr.cell? ⟨b, 5, none⟩ = some (.int .i64 (dd q).s) := by simp [World.cell?, hbx]
      obtain ⟨fn, tmps, assign, body, hy, hR⟩ := hY q wr hJ ⟨by omega, hlt⟩
      dsimp only [encD] at hy
      simp only [clipD_of (show -719162 ≤ q by omega) hlt] at hy
      unfold DT.v at hy
      rw [hd3, hd4, hd5] at hy hbx
      have HNX := dd_next (n := q) (by omega)
      have HBI := Lib.hid (boxI_of hnx)
      have HDAYS := Lib.hid (fun W => days_any (dd q).y (dd q).m (by have := hdo.y1; omega) hdo.m1 hdo.m12 W)
      clear hY
      gi_wp2_with fail
      refine hR.mono ?_
      rintro e W3 (⟨rfl, hJ3, hB3⟩ | ⟨rfl, hJx3⟩)
      · have hbx3 : DBox W3 b (dd q).y (dd q).m (dd q).d := hB3.cells b _ hbx rfl
        have hnx3 := hB3.cells b1 _ hnx rfl
        have hBW3 : B ≤ W3.heap.size := by have := (Array.getElem?_eq_some_iff.1 hbx3).1; omega
        have hb13 : b1 < W3.heap.size := (Array.getElem?_eq_some_iff.1 hnx3).1
        clear hx0 hx1 hx2 hx3 hx4 hx5 hn1 hR hy hbx hnx
        obtain ⟨hx0, hx1, hx2, -, -, -⟩ := hbx3.cell
        have hfr := hbx3.frozen 2
        have hd := hdo.dn
        have hd1 := hdo.d1
        have hdg := dim_ge (dd q).y (dd q).m
        have hw1 : IntKind.i64.wrap ((dd q).d + 1) = (dd q).d + 1 := IntWalk.i64_in _ (by omega)
        gi_wp2_with fail
        obtain ⟨hm4, hbx4⟩ := hbx3.set.2.2 ((dd q).d + 1)
        generalize W3.setCell ⟨b, 2, none⟩ (.int .i64 ((dd q).d + 1)) = W4 at hm4 hbx4 ⊢
        clear hx0 hx1 hx2 hfr
        obtain ⟨hx0, hx1, hx2, -, -, -⟩ := hbx4.cell
        refine wpIn_wide.2 ?_
        go_quiet ((go_at_call 49; exact Calls.quiet_of_same ((HDAYS.out _).mono fun e w' h => ⟨h.1, h.2.symm⟩)))
        have hm5 : MS b W3 (World.drewN W4 nq) := hm4.trans (MS.drew nq)
        have hbx5 : DBox (World.drewN W4 nq) b (dd q).y (dd q).m ((dd q).d + 1) := hbx4
        clear hx0 hx1 hx2 hm4 hbx4 hyr hdn
        generalize World.drewN W4 nq = W5 at hm5 hbx5 ⊢
        have hwq : IntKind.i64.wrap (q + 1) = q + 1 := IntWalk.i64_in _ (by omega)
        have hm1 := hdo.m1
        have hm12 := hdo.m12
        have hy1 := hdo.y1
        by_cases hd2 : dim (dd q).y (dd q).m < (dd q).d + 1
        · have t2 : decide (dim (dd q).y (dd q).m < (dd q).d + 1) = true := by rw [decide_eq_true_eq]; exact hd2
          have hwm : IntKind.i64.wrap ((dd q).m + 1) = (dd q).m + 1 := IntWalk.i64_in _ (by omega)
          obtain ⟨hm6, hbx6⟩ := hbx5.set.2.1 ((dd q).m + 1)
          obtain ⟨hm7, hbx7⟩ := hbx6.set.2.2 1
          obtain ⟨W7, hW7⟩ : ∃ W7, (W5.setCell ⟨b, 1, none⟩ (.int .i64 ((dd q).m + 1))).setCell ⟨b, 2, none⟩ (.int .i64 1) = W7 := ⟨_, rfl⟩
          have hm8 := (hm5.trans hm6).trans hm7
          rw [hW7] at hm8 hbx7
          have HF := Lib.hid hbx7.frozen
          obtain ⟨hx0, hx1, hx2, hx3, hx4, hx5⟩ := hbx5.cell
          have hf1 := hbx5.frozen 1
          have hf2 := hbx6.frozen 2
          by_cases hm2 : 12 < (dd q).m + 1
          · have t3 : decide (12 < (dd q).m + 1) = true := by rw [decide_eq_true_eq]; exact hm2
            have hE : nextD (dd q).y (dd q).m (dd q).d = ((dd q).y + 1, 1, 1) := by unfold nextD; rw [if_pos hd2, if_pos hm2]
            rw [hE] at HNX
            have hwy : IntKind.i64.wrap ((dd q).y + 1) = (dd q).y + 1 := IntWalk.i64_in _ (by simp only [decide_eq_true_eq] at t1; omega)
            obtain ⟨gx0, gx1, gx2, gx3, gx4, gx5⟩ := hbx7.cell
            have gf0 := hbx7.frozen 0
            obtain ⟨hm9, hbx9⟩ := hbx7.set.1 ((dd q).y + 1)
            have gf1 := hbx9.frozen 1
            obtain ⟨hm10, hbx10⟩ := hbx9.set.2.1 1
            obtain ⟨W10, hW10⟩ : ∃ W10, (W7.setCell ⟨b, 0, none⟩ (.int .i64 ((dd q).y + 1))).setCell ⟨b, 1, none⟩ (.int .i64 1) = W10 := ⟨_, rfl⟩
            have hm11 := (hm8.trans hm9).trans hm10
            rw [hW10] at hm11 hbx10
            obtain ⟨kx0, kx1, kx2, kx3, kx4, kx5⟩ := hbx10.cell
            obtain ⟨e1, e2, e3, HE⟩ := from_end hm11 hb13 hbb hBb hBW3 hnx3 (q + 1)
            clear hm5 hm6 hm7 hm8 hm9 hm10 hm11 hbx5 hbx6 hbx7 hbx9 hbx10
            gi_wp2_with fail
            go_roundw
            case rel => exact ⟨q + 1, _, by omega, by omega, rfl, (HE.out (.map #[] 0)).2.2.2.1, by rw [HNX]; exact (HE.out _).2.1, (HE.out _).2.2.1, (HE.out (.map #[] 0)).2.2.2.2, hJb _ _ _ hJ3 (HE.out _).1⟩
            case measure => rw [boxI_of (HE.out _).2.2.1, HBI.out]; omega
          · have t3 : decide (12 < (dd q).m + 1) = false := by rw [decide_eq_false_iff_not]; exact hm2
            have hE : nextD (dd q).y (dd q).m (dd q).d = ((dd q).y, (dd q).m + 1, 1) := by unfold nextD; rw [if_pos hd2, if_neg hm2]
            rw [hE] at HNX
            obtain ⟨e1, e2, e3, HE⟩ := from_end hm8 hb13 hbb hBb hBW3 hnx3 (q + 1)
            obtain ⟨gx0, gx1, gx2, gx3, gx4, gx5⟩ := hbx7.cell
            clear hm5 hm6 hm7 hm8 hbx5 hbx6 hbx7
            gi_wp2_with fail
            go_roundw
            case rel => exact ⟨q + 1, _, by omega, by omega, rfl, (HE.out (.map #[] 0)).2.2.2.1, by rw [HNX]; exact (HE.out _).2.1, (HE.out _).2.2.1, (HE.out (.map #[] 0)).2.2.2.2, hJb _ _ _ hJ3 (HE.out _).1⟩
            case measure => rw [boxI_of (HE.out _).2.2.1, HBI.out]; omega
        · have t2 : decide (dim (dd q).y (dd q).m < (dd q).d + 1) = false := by rw [decide_eq_false_iff_not]; exact hd2
          have t3 : decide (12 < (dd q).m) = false := by rw [decide_eq_false_iff_not]; omega
          have hE : nextD (dd q).y (dd q).m (dd q).d = ((dd q).y, (dd q).m, (dd q).d + 1) := by unfold nextD; rw [if_neg hd2]
          rw [hE] at HNX
          obtain ⟨e1, e2, e3, HE⟩ := from_end hm5 hb13 hbb hBb hBW3 hnx3 (q + 1)
          obtain ⟨hx0, hx1, hx2, hx3, hx4, hx5⟩ := hbx5.cell
          gi_wp2_with fail
          go_roundw
          case rel => exact ⟨q + 1, _, by omega, by omega, rfl, (HE.out (.map #[] 0)).2.2.2.1, by rw [HNX]; exact (HE.out _).2.1, (HE.out _).2.2.1, (HE.out (.map #[] 0)).2.2.2.2, hJb _ _ _ hJ3 (HE.out _).1⟩
          case measure => rw [boxI_of (HE.out _).2.2.1, HBI.out]; omega
      · gi_wp2_with fail
        refine bodyPost_ret (results_none rfl _ _ _) rfl ?_
        exact ⟨⟨_, rfl⟩, .inr hJx3⟩
    · obtain rfl : q = 2932897 := by omega
      have t1 : decide ((dd 2932897).y ≤ 9999) = false := by rw [decide_eq_false_iff_not]; intro h; have := hyr.1 h; omega
      clear hY hJb
      gi_wp2_with fail
      go_end0
      exact ⟨⟨_, rfl⟩, .inl hJ⟩
end Go.Proofs.YtkahakhhdiffcaaGreatDoor
