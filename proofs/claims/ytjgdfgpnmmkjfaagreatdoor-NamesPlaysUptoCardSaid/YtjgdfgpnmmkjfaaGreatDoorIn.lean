/- 'in' of package text: whether a set has a byte. -/
import Derived.Test.YtjgdfgpnmmkjfaaGreatDoorSpans
import Derived.Test.YtjgdfgpnmmkjfaaGreatDoorRound
namespace Go.Proofs.YtjgdfgpnmmkjfaaGreatDoor
set_option linter.unusedVariables false
set_option linter.unusedSimpArgs false
open Go.RowKit Go.Shelf
attribute [local go_sem] Oper.semAt_some
theorem wide_fnG (f : FuncId) : Fence.wide.fn f = True := rfl
attribute [local go_sem] wide_fnG

theorem cell_new_l (W : World) (v : Value) (t : TypeId) : (W.alloc (.cells #[v] t)).cell? ⟨W.heap.size, 0, none⟩ = some v ∧ (W.alloc (.cells #[v] t)).frozen? ⟨W.heap.size, 0, none⟩ = false := by
  have h := World.alloc_heap_new W (.cells #[v] t)
  generalize W.alloc (.cells #[v] t) = W' at h ⊢
  exact ⟨by simp only [World.cell?, h]; rfl, by simp only [World.frozen?, h]; rfl⟩
theorem cell_alloc_l {W : World} {a : Addr} {v : Value} (o : Obj) (h : W.cell? a = some v) : (W.alloc o).cell? a = some v := cell_kept h (World.grownBy_alloc W o none) (fun r e => by cases e)
theorem frozen_alloc_l {W : World} {a : Addr} {v : Value} (o : Obj) (h : W.cell? a = some v) (hf : W.frozen? a = false) : (W.alloc o).frozen? a = false := (frozen_kept h (World.grownBy_alloc W o none) (fun r e => by cases e)).trans hf

def inP (p : UInt8 × UInt8) (x : UInt8) : Bool := decide (p.1 ≤ x) && decide (x ≤ p.2)
def inS (set : Bs) (c : UInt8) : Bool := (spansL set).any fun p => inP p c
def spanHit (c : UInt8) (fold : Bool) (p : UInt8 × UInt8) : Bool := inP p c || fold && (inP p (lowB c) || inP p (upB c))
def inC (set : Bs) (c : UInt8) (fold : Bool) : Bool := (spansL set).any (spanHit c fold)
/-- The k-th of the three bytes that are looked for. -/
def thr (c : UInt8) (k : Nat) : UInt8 := if k = 0 then c else if k = 1 then lowB c else upB c
def hitI (lo hi c x : Int) (fold : Bool) : Prop := lo ≤ x ∧ x ≤ hi ∧ (fold = true ∨ x = c)

theorem inP_iff (p : UInt8 × UInt8) (x : UInt8) : inP p x = true ↔ (p.1.toNat : Int) ≤ x.toNat ∧ (x.toNat : Int) ≤ p.2.toNat := by
  simp only [inP, Bool.and_eq_true, decide_eq_true_eq, UInt8.le_iff_toNat_le]; omega

theorem spanHit_iff (c : UInt8) (fold : Bool) (p : UInt8 × UInt8) : spanHit c fold p = true ↔ ∃ k, k < 3 ∧ hitI p.1.toNat p.2.toNat c.toNat (thr c k).toNat fold := by
  unfold spanHit hitI
  rw [Bool.or_eq_true, Bool.and_eq_true, Bool.or_eq_true, inP_iff, inP_iff, inP_iff]
  constructor
  · rintro (h | ⟨hf, h | h⟩)
    · exact ⟨0, by omega, h.1, h.2, .inr rfl⟩
    · exact ⟨1, by omega, h.1, h.2, .inl hf⟩
    · exact ⟨2, by omega, h.1, h.2, .inl hf⟩
  · rintro ⟨k, hk, h1, h2, h3⟩
    rcases h3 with hf | he
    · match k, hk with
      | 0, _ => exact .inl ⟨h1, h2⟩
      | 1, _ => exact .inr ⟨hf, .inl ⟨h1, h2⟩⟩
      | 2, _ => exact .inr ⟨hf, .inr ⟨h1, h2⟩⟩
    · rw [he] at h1 h2; exact .inl ⟨h1, h2⟩

theorem KeepsOthers.drewN' (W : World) (n : Nat) : KeepsOthers W (W.drewN n) := ⟨Nat.le_refl _, fun _ _ h _ => h⟩
theorem ne_of_beq_false {a b : Int} (h : (a == b) = false) : a ≠ b := by simpa using h
theorem any_hit {f : UInt8 × UInt8 → Bool} {pre : List (UInt8 × UInt8)} {x : UInt8 × UInt8} (h : f x = true) : (pre ++ [x]).any f = true := by simp [h]
theorem any_miss {f : UInt8 × UInt8 → Bool} {pre : List (UInt8 × UInt8)} {x : UInt8 × UInt8} (hp : pre.any f = false) (h : f x = false) : (pre ++ [x]).any f = false := by rw [List.any_append, hp]; simp [h]
theorem any_prefix {f : UInt8 × UInt8 → Bool} {pre l : List (UInt8 × UInt8)} (hp : pre <+: l) (h : pre.any f = true) : l.any f = true := by
  obtain ⟨t, rfl⟩ := hp; rw [List.any_append, h]; rfl
theorem no_hit {lo hi c : Int} {d : UInt8} {fold : Bool} {j : Nat} (h : ∀ k, k < j → ¬ hitI lo hi c (thr d k).toNat fold) (hj : ¬ hitI lo hi c (thr d j).toNat fold) : Hid (∀ k, k < j + 1 → ¬ hitI lo hi c (thr d k).toNat fold) := by
  intro k hk
  by_cases e : k = j
  · subst e; exact hj
  · exact h k (by omega)
theorem spanHit_no {c : UInt8} {fold : Bool} {x : UInt8 × UInt8} (h : ∀ k, k < 3 → ¬ hitI x.1.toNat x.2.toNat c.toNat (thr c k).toNat fold) : spanHit c fold x = false := by
  rw [← Bool.not_eq_true, spanHit_iff]
  rintro ⟨k, hk, hh⟩
  exact h k hk hh

theorem spans_stops (bx : Nat) (s : Bs) (hs : s.length ≤ 1000000) (w : World) (hbx : bx < w.heap.size) (hc : w.cell? ⟨bx, 0, none⟩ = some (.string ⟨s.toArray⟩)) :
    SeqStopsK Fence.wide 2 Tryz.prog 145 #[.pointer (some ⟨bx, 0, none⟩)] encU (Below w.heap.size) (fun ys => ys = spansL s) (fun pre => pre <+: spansL s) s.length w := fun l J Jx W hW hJ _ hY h0 => by
  refine (spans1_in 2 (by omega) l bx w.heap.size s hs hbx J Jx ?_ hY W ((hW.cell (p := ⟨bx, 0, none⟩) hbx).trans hc) h0)
  exact fun pre W k hj => hJ pre W _ none hj ⟨rfl, rfl, rfl, Nat.le_refl _, fun _ _ _ => rfl⟩ (fun r e => by cases e)

set_option maxHeartbeats 400000 in
theorem spans_any (s : Bs) (w : World) :
    Calls Tryz.prog 137 #[.string ⟨s.toArray⟩] w fun e w' => e = .returned (.func (.func 145) #[] #[.pointer (some ⟨w.heap.size, 0, none⟩)]) ∧ w' = w.alloc (.cells #[.string ⟨s.toArray⟩] 9) := by
  go_enter Tryz.func137, Tryz.ntmps137
  go_wp2
  go_ret
  exact ⟨rfl, rfl⟩

theorem idx3 (a b c : Value) (wx : World) : (Instr.index 160 (.agg #[a, b, c]) (.int .i64 0)).run Tryz.prog wx = .ok a wx ∧ (Instr.index 160 (.agg #[a, b, c]) (.int .i64 1)).run Tryz.prog wx = .ok b wx ∧ (Instr.index 160 (.agg #[a, b, c]) (.int .i64 2)).run Tryz.prog wx = .ok c wx := by
  refine ⟨?_, ?_, ?_⟩ <;> kernel_rfl
theorem thr_at0 (c : UInt8) (wx : World) : (Instr.index 160 (.agg #[.int .u8 c.toNat, .int .u8 (lowI c.toNat), .int .u8 (upI c.toNat)]) (.int .i64 ((0 : Nat) : Int))).run Tryz.prog wx = .ok (.int .u8 (thr c 0).toNat) wx := (idx3 _ _ _ wx).1
theorem thr_at1 (c : UInt8) (wx : World) : (Instr.index 160 (.agg #[.int .u8 c.toNat, .int .u8 (lowI c.toNat), .int .u8 (upI c.toNat)]) (.int .i64 ((1 : Nat) : Int))).run Tryz.prog wx = .ok (.int .u8 (thr c 1).toNat) wx := by
  rw [show thr c 1 = lowB c from rfl, lowB_toNat]; exact (idx3 _ _ _ wx).2.1
theorem thr_at2 (c : UInt8) (wx : World) : (Instr.index 160 (.agg #[.int .u8 c.toNat, .int .u8 (lowI c.toNat), .int .u8 (upI c.toNat)]) (.int .i64 ((2 : Nat) : Int))).run Tryz.prog wx = .ok (.int .u8 (thr c 2).toNat) wx := by
  rw [show thr c 2 = upB c from rfl, upB_toNat]; exact (idx3 _ _ _ wx).2.2

set_option maxRecDepth 100000 in
set_option maxHeartbeats 1000000 in
theorem in_any (set : Bs) (c : UInt8) (fold : Bool) (hs : set.length ≤ 1000000) (w : World) :
    Calls Tryz.prog 122 #[.string ⟨set.toArray⟩, .int .u8 c.toNat, .bool fold] w fun e w' => e = .returned (.bool (inC set c fold)) ∧ Below w.heap.size w w' := by
  refine callsIn_wide (n := 3) |>.1 ?_
  refine callsIn_of_wp_marks Tryz.func122 rfl trivial ?_ rfl
  simp only [Tryz.ntmps122, List.size_toArray, List.length_cons, List.length_nil, Nat.reduceAdd, Nat.reduceSub, Array.replicate_succ, Array.replicate_zero, List.push_toArray, List.append_toArray, List.nil_append, List.cons_append]
  gi_wp2_with (gi_at_call 137; refine (callsIn_wide.2 (spans_any _ _)).mono ?_; rintro e w' ⟨rfl, rfl⟩)
  have c0 := cell_new_l w (.int .u8 c.toNat) 5
  have c1 := cell_new_l (w.alloc (.cells #[.int .u8 c.toNat] 5)) (.bool fold) 4
  have c2 := cell_new_l ((w.alloc (.cells #[.int .u8 c.toNat] 5)).alloc (.cells #[.bool fold] 4)) (.bool false) 4
  have c3 := cell_new_l (((w.alloc (.cells #[.int .u8 c.toNat] 5)).alloc (.cells #[.bool fold] 4)).alloc (.cells #[.bool false] 4)) (.string ⟨set.toArray⟩) 9
  simp only [World.size_alloc] at c1 c2 c3
  have hB0 : Below w.heap.size w ((((w.alloc (.cells #[.int .u8 c.toNat] 5)).alloc (.cells #[.bool fold] 4)).alloc (.cells #[.bool false] 4)).alloc (.cells #[.string ⟨set.toArray⟩] 9)) := ((((Below.refl _ w).alloc (Nat.le_refl _) _).alloc (by simp) _).alloc (by simp; omega) _).alloc (by simp; omega) _
  refine wpIn_rangeFunc_ownF rfl (by omega) (gf := 145) (lb := #[.pointer (some ⟨w.heap.size + 1 + 1 + 1, 0, none⟩)]) rfl trivial (enters_of Tryz.func145 (by kernel_rfl) rfl)
    (spans_stops (w.heap.size + 1 + 1 + 1) set hs _ (by simp) c3.1) belowK_t (belowK_b (by simp)) (Below.refl _ _) (fun _ => rfl)
    (fun pre W => (pre.any (spanHit c fold) = false ∧ W.cell? ⟨w.heap.size, 0, none⟩ = some (.int .u8 c.toNat) ∧ W.cell? ⟨w.heap.size + 1, 0, none⟩ = some (.bool fold) ∧ W.cell? ⟨w.heap.size + 1 + 1, 0, none⟩ = some (.bool false) ∧ W.frozen? ⟨w.heap.size + 1 + 1, 0, none⟩ = false) ∧ Below w.heap.size w W)
    (fun c' pre W => (c' = .ret ∧ pre.any (spanHit c fold) = true ∧ W.cell? ⟨w.heap.size + 1 + 1, 0, none⟩ = some (.bool true)) ∧ Below w.heap.size w W)
    (OwnFrom.and (Own.from (fun s A B row hs hg hr => ⟨hs.1, cell_kept hs.2.1 hg hr, cell_kept hs.2.2.1 hg hr, cell_kept hs.2.2.2.1 hg hr, (frozen_kept hs.2.2.2.1 hg hr).trans hs.2.2.2.2⟩) _) (ownFrom_below (Nat.le_refl _) (by simp; omega)))
    (fun c => OwnFrom.and (Own.from (fun s A B row hs hg hr => ⟨hs.1, hs.2.1, cell_kept hs.2.2 hg hr⟩) _) (ownFrom_below (Nat.le_refl _) (by simp; omega)))
    ⟨⟨by simp, cell_alloc_l _ (cell_alloc_l _ (cell_alloc_l _ c0.1)), cell_alloc_l _ (cell_alloc_l _ c1.1), cell_alloc_l _ c2.1, frozen_alloc_l _ c2.1 c2.2⟩, hB0⟩
    (fun x => { tmps := #[.string ⟨set.toArray⟩, .int .u8 c.toNat, .bool fold, undef, .pointer (some ⟨w.heap.size, 0, none⟩), .pointer (some ⟨w.heap.size + 1, 0, none⟩), .pointer (some ⟨w.heap.size + 1 + 1, 0, none⟩), .int .u8 x.1.toNat, .int .u8 x.2.toNat, undef, undef, .string ⟨set.toArray⟩, .func (.func 145) #[] #[.pointer (some ⟨w.heap.size + 1 + 1 + 1, 0, none⟩)], .int .u8 x.1.toNat, .int .u8 x.2.toNat, undef, undef, undef, undef, undef, undef, undef, undef, undef, undef, undef, undef, undef, undef, undef, undef, undef, undef, undef, undef, undef, undef, undef, undef, undef, undef], defers := [] }) ?assign ?body ?done ?stop
  case assign =>
    intro l x W K hK
    gi_wp2
    exact hK
  case body =>
    rintro l pre x W ⟨⟨hp, hcw, hcf, hcr, hfr⟩, hB⟩ _
    have H0 := Lib.hid hp
    clear hp c0 c1 c2 c3 hB0
    have hc255 := byte_lt c
    have Hlo : ∀ n W, CallsIn Fence.wide n Tryz.prog 124 #[.int .u8 c.toNat] W fun e w' => e = .returned (.int .u8 (lowI c.toNat)) ∧ w' = W := fun n W => callsIn_wide.2 ((lower_any _ (by omega) (by omega) _).mono fun e w' h => ⟨h.1, h.2.symm⟩)
    have Hup : ∀ n W, CallsIn Fence.wide n Tryz.prog 138 #[.int .u8 c.toNat] W fun e w' => e = .returned (.int .u8 (upI c.toNat)) ∧ w' = W := fun n W => callsIn_wide.2 ((upper_any _ (by omega) (by omega) _).mono fun e w' h => ⟨h.1, h.2.symm⟩)
    gi_wp2
    refine wpIn_region_quiet_round rfl (by kernel_rfl) (by kernel_rfl) (by kernel_rfl) ?_
    repeat (gi_big_quiet_step (first | (gi_at_call 124; refine CallsIn.quiet_of_same (Hlo _ _)) | (gi_at_call 138; refine CallsIn.quiet_of_same (Hup _ _))))
    refine wpQuietIn_nil ?_
    rintro _ ⟨nq, rfl⟩
    clear Hlo Hup
    gi_wp2
    gi_loopw [21] (fun v wy => ∃ j : Nat, j ≤ 3 ∧ v = .int .i64 j ∧ W.drewN nq = wy ∧ Hid (∀ k, k < j → ¬ hitI x.1.toNat x.2.toNat c.toNat (thr c k).toNat fold)) (fun v _ => 3 - (intOf v).toNat)
    case atStart => exact ⟨0, by omega, rfl, rfl, fun k hk => by omega⟩
    case round =>
      obtain ⟨j, hj, rfl, rfl, HN⟩ := hrel
      by_cases hlt : j < 3
      · have hidx : ∀ wx, (Instr.index 160 (.agg #[.int .u8 c.toNat, .int .u8 (lowI c.toNat), .int .u8 (upI c.toNat)]) (.int .i64 j)).run Tryz.prog wx = .ok (.int .u8 (thr c j).toNat) wx := by
          intro wx
          match j, hlt with
          | 0, _ => exact thr_at0 c wx
          | 1, _ => exact thr_at1 c wx
          | 2, _ => exact thr_at2 c wx
        cases fold
        · gi_wp2
          · have he : ((thr c j).toNat : Int) = c.toNat := eq_of_beq (by assumption)
            exact ⟨(KeepsOthers.drewN' W nq).trans (KeepsOthers.setCell _ _ _), ⟨rfl, any_hit ((spanHit_iff c false x).2 ⟨j, hlt, by omega, by omega, .inr he⟩), World.cell?_setCell_same' _ _ _ (by rw [show World.cell? (W.drewN nq) _ = W.cell? _ from rfl, hcr]; rfl)⟩, (below_drewN hB nq).setCell (p := ⟨w.heap.size + 1 + 1, 0, none⟩) (by simp; omega) _⟩
          · have he : ((thr c j).toNat : Int) ≠ c.toNat := ne_of_beq_false (by assumption)
            exact ⟨⟨j + 1, by omega, by go_num, trivial, no_hit HN.out (by unfold hitI; simp; omega)⟩, by simp [intOf]; omega⟩
          · exact ⟨⟨j + 1, by omega, by go_num, trivial, no_hit HN.out (by unfold hitI; simp; omega)⟩, by simp [intOf]; omega⟩
          · exact ⟨⟨j + 1, by omega, by go_num, trivial, no_hit HN.out (by unfold hitI; simp; omega)⟩, by simp [intOf]; omega⟩
        · gi_wp2
          · exact ⟨(KeepsOthers.drewN' W nq).trans (KeepsOthers.setCell _ _ _), ⟨rfl, any_hit ((spanHit_iff c true x).2 ⟨j, hlt, by omega, by omega, .inl rfl⟩), World.cell?_setCell_same' _ _ _ (by rw [show World.cell? (W.drewN nq) _ = W.cell? _ from rfl, hcr]; rfl)⟩, (below_drewN hB nq).setCell (p := ⟨w.heap.size + 1 + 1, 0, none⟩) (by simp; omega) _⟩
          · exact ⟨⟨j + 1, by omega, by go_num, trivial, no_hit HN.out (by unfold hitI; simp; omega)⟩, by simp [intOf]; omega⟩
          · exact ⟨⟨j + 1, by omega, by go_num, trivial, no_hit HN.out (by unfold hitI; simp; omega)⟩, by simp [intOf]; omega⟩
      · obtain rfl : j = 3 := by omega
        gi_wp2
        exact ⟨KeepsOthers.drewN' W nq, below_drewN (Below.refl _ W) nq, ⟨any_miss H0.out (spanHit_no HN.out), hcw, hcf, hcr, hfr⟩, below_drewN hB nq⟩
  case done =>
    rintro D ys W hD rfl ⟨⟨hne, _, _, hcr, hfr⟩, hB⟩ hK
    gi_wp2
    have hK' := (KeepsOthers.setCell W ⟨w.heap.size + 1 + 1, 0, none⟩ (.bool false)).same D _ hK rfl
    refine ⟨by simp, .inl ⟨_, _, rfl, run_takeDeferred hK', ?_⟩⟩
    have hc5 := cell_kept (World.cell?_setCell_same' W ⟨w.heap.size + 1 + 1, 0, none⟩ (.bool false) (by rw [hcr]; rfl)) (grownBy_putObj' _ D (.deferred none)) (fun r e => by cases e; exact ⟨_, hK', rfl⟩)
    refine ⟨.bool false, ?_, by rw [inC, hne], (hB.setCell (p := ⟨w.heap.size + 1 + 1, 0, none⟩) (by simp; omega) _).trans (belowK_b (w := w) (Nat.le_refl _) _ D _ _ (by simp at hD; omega) hK' rfl rfl)⟩
    simp [results, Tryz.f122, go_sem, hc5]
  case stop =>
    rintro D c' pre W hD hpre ⟨⟨rfl, hin, hcr⟩, hB⟩ hK
    gi_wp2
    refine ⟨by simp, .inl ⟨_, _, rfl, run_takeDeferred hK, ?_⟩⟩
    have hc5 := cell_kept hcr (grownBy_putObj' _ D (.deferred none)) (fun r e => by cases e; exact ⟨_, hK, rfl⟩)
    refine ⟨.bool true, ?_, by rw [inC, any_prefix hpre hin], hB.trans (belowK_b (w := w) (Nat.le_refl _) W D _ _ (by simp at hD; omega) hK rfl rfl)⟩
    simp [results, Tryz.f122, go_sem, hc5]
end Go.Proofs.YtjgdfgpnmmkjfaaGreatDoor
