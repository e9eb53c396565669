/- The reference's 'Glob', walked: the set of the numbers of parts that can have been matched. -/
import Derived.Test.YtjgdfgpnmmkjfaaGreatDoorTakes
import Derived.Test.YtjgdfgpnmmkjfaaGreatDoorGlob1
import Derived.Laws.OwnMore
import Derived.Deep.LoopGhost
import Derived.Deep.RegionHeld3
namespace Go.Proofs.YtjgdfgpnmmkjfaaGreatDoor
set_option linter.unusedVariables false
set_option linter.unusedSimpArgs false
open Go.RowKit

def RP.isMany : RP → Bool | .many => true | _ => false
def upd (A : Nat → Bool) (k : Nat) : Nat → Bool := fun j => if j = k then true else A j
/-- A part of any bytes may match none. -/
def cloG (l : List RP) (A : Nat → Bool) : Nat → Nat → Bool
  | 0 => A
  | k + 1 => if (cloG l A k k && (l.getD k .none).isMany) = true then upd (cloG l A k) (k + 1) else cloG l A k
def nxtStep (l : List RP) (A : Nat → Bool) (c : UInt8) (fold : Bool) (N : Nat → Bool) (k : Nat) : Nat → Bool :=
  let N1 := if (A k && (l.getD k .none).isMany) = true then upd N k else N
  if (A k && (l.getD k .none).takes fold c) = true then upd N1 (k + 1) else N1
def nxt (l : List RP) (A : Nat → Bool) (c : UInt8) (fold : Bool) : Nat → Nat → Bool
  | 0 => fun _ => false
  | k + 1 => nxtStep l A c fold (nxt l A c fold k) k
def gl (fold : Bool) (l : List RP) : Bs → (Nat → Bool) → Bool
  | [], A => cloG l A l.length l.length
  | c :: t, A => gl fold l t (nxt l (cloG l A l.length) c fold l.length)

/-- A row of bools. -/
def FRow (w : World) (g n : Nat) (A : Nat → Bool) : Prop := ∀ j, j < n → w.cell? ⟨g, j, none⟩ = some (.bool (A j)) ∧ w.frozen? ⟨g, j, none⟩ = false
theorem FRow.below {w w' : World} {g n B : Nat} {A : Nat → Bool} (h : FRow w g n A) (hb : Below B w w') (hg : g < B) : FRow w' g n A :=
  fun j hj => ⟨(hb.cell (p := ⟨g, j, none⟩) hg).trans (h j hj).1, (hb.frozen (p := ⟨g, j, none⟩) hg).trans (h j hj).2⟩
theorem FRow.set {w : World} {g n : Nat} {A : Nat → Bool} (h : FRow w g n A) {k : Nat} (hk : k < n) : FRow (w.setCell ⟨g, k, none⟩ (.bool true)) g n (upd A k) := by
  intro j hj
  refine ⟨?_, by rw [World.frozen?_setCell]; exact (h j hj).2⟩
  unfold upd
  by_cases e : j = k
  · subst e
    rw [World.cell?_setCell_same _ _ _ (h j hk).1, if_pos rfl]
  · rw [World.cell?_setCell_other _ _ _ _ (by intro hh; exact e (congrArg Addr.off hh).symm), (h j hj).1, if_neg e]
theorem FRow.other {w : World} {g n : Nat} {A : Nat → Bool} (h : FRow w g n A) {g' k : Nat} {v : Value} (hg : g ≠ g') : FRow (w.setCell ⟨g', k, none⟩ v) g n A := by
  intro j hj
  refine ⟨?_, by rw [World.frozen?_setCell]; exact (h j hj).2⟩
  rw [World.cell?_setCell_other _ _ _ _ (by intro hh; exact hg (congrArg Addr.block hh).symm), (h j hj).1]

def falsesObj (n : Nat) : Obj := .cells (madeCells #[.bool false] n) 4
theorem frow_new (w : World) (n : Nat) : FRow (w.alloc (falsesObj n)) w.heap.size n (fun _ => false) := by
  intro j hj
  have hb := heap_alloc_new w (falsesObj n)
  generalize w.alloc (falsesObj n) = W at hb ⊢
  constructor
  · simp only [World.cell?, hb, falsesObj]
    simp [madeCells, hj, Nat.mod_one]
  · simp only [World.frozen?, hb, falsesObj]
    simp

theorem Tryz.infoBool : (Tryz.prog.info? 4).map (fun i => (i.zero, i.size, i.bytes)) = some (some (.bool false), 1, 1) := by kernel_rfl
theorem run_falses (n : Nat) (hn : n ≤ 2000000) (u : World) : (Instr.makeSlice 125 (.int .i64 (n : Int)) (.int .i64 (n : Int))).run Tryz.prog u = .ok (.slice (some ⟨u.heap.size, 0, none⟩) n n) (u.alloc (falsesObj n)) := by
  obtain ⟨i0, h1, h2, h3, h4⟩ := info_parts Tryz.infoBool
  have := run_makeSlice (P := Tryz.prog) u 125 4 i0 (.bool false) Tryz.underlying125 h1 h2 .i64 .i64 n n (by omega) (Int.le_refl _) (by rw [h3]; omega) (by rw [h4]; omega) (by omega)
  rw [h3, Int.toNat_natCast, Nat.mul_one] at this
  exact this

/-- Parts in memory. -/
def PRow (B : Nat) (w : World) (ao : Option Addr) (l : List RP) : Prop := l ≠ [] → ∃ g, ao = some ⟨g, 0, none⟩ ∧ g < B ∧ ∀ k (h : k < l.length) j u, (l[k].cells)[j]? = some u → w.cell? ⟨g, k * 6 + j, none⟩ = some u
theorem PRow.below {B B' : Nat} {w w' : World} {ao : Option Addr} {l : List RP} (h : PRow B w ao l) (hb : Below B' w w') (hB : B ≤ B') : PRow B w' ao l := by
  intro hne
  obtain ⟨g, h1, h2, h3⟩ := h hne
  exact ⟨g, h1, h2, fun k hk j u hu => (hb.cell (p := ⟨g, k * 6 + j, none⟩) (by show g < B'; omega)).trans (h3 k hk j u hu)⟩
theorem RP.cells_len (x : RP) : x.cells.length = 6 := by cases x <;> rfl
theorem RP.row_get : ∀ (l : List RP) (k : Nat) (h : k < l.length) (j : Nat), j < 6 → (RP.row l)[k * 6 + j]? = (l[k].cells)[j]?
  | x :: r, 0, _, j, hj => by
    show (x.cells ++ RP.row r)[0 * 6 + j]? = _
    rw [List.getElem?_append_left (by rw [RP.cells_len]; omega)]; simp
  | x :: r, k + 1, h, j, hj => by
    show (x.cells ++ RP.row r)[(k + 1) * 6 + j]? = _
    rw [List.getElem?_append_right (by rw [RP.cells_len]; omega), RP.cells_len, show (k + 1) * 6 + j - 6 = k * 6 + j from by omega]
    exact RP.row_get r k (by simpa using h) j hj
theorem RP.row_len (l : List RP) : (RP.row l).length = l.length * 6 := by
  induction l with
  | nil => rfl
  | cons x r ih => show (x.cells ++ RP.row r).length = _; rw [List.length_append, RP.cells_len, ih]; simp; omega

theorem prow_of_own {w : World} {B : Nat} {v : Value} {l : List RP} (h : w.ownsRow B 127 6 v l.length (RP.row l)) : ∃ ao cap, v = .slice ao l.length cap ∧ PRow w.heap.size w ao l := by
  rcases h.2 with ⟨h1, h2⟩ | ⟨g, cap, cur, h1, h3, h4, _⟩
  · refine ⟨none, 0, by rw [h1, h2], fun hne => absurd (List.length_eq_zero_iff.1 h2) hne⟩
  · subst h1
    refine ⟨_, cap, rfl, fun hne => ⟨g, rfl, ?_, fun k hk j u hu => ?_⟩⟩
    · exact (Array.getElem?_eq_some_iff.1 h4).1
    · have hj : j < 6 := by rw [← RP.cells_len l[k]]; exact (List.getElem?_eq_some_iff.1 hu).1
      exact (h.cellAt (k * 6 + j) (by omega)).trans ((RP.row_get l k hk j hj).trans hu)

theorem takes_below (x : RP) (c : UInt8) (fold : Bool) (hx : ∀ s, x = .set s → s.length ≤ 1000000) (w : World) :
    Calls Tryz.prog 102 #[.agg x.cells.toArray, .int .u8 c.toNat, .bool fold] w fun e w' => e = .returned (.bool (x.takes fold c)) ∧ Below w.heap.size w w' :=
  (takes_any x c fold hx w).mono fun e w' ⟨h1, m, o, h2⟩ => ⟨h1, h2 ▸ below_drewN ((Below.refl _ _).alloc (Nat.le_refl _) _) _⟩
theorem cell_box {w : World} {cs : List Value} {t : TypeId} {j : Nat} {v : Value} (h : cs[j]? = some v) : (w.alloc (.cells cs.toArray t)).cell? ⟨w.heap.size, j, none⟩ = some v := by
  have hb := heap_alloc_new w (.cells cs.toArray t)
  simp only [World.cell?, hb]
  simpa using h
theorem cell_set_other {w : World} {a b : Addr} {u v : Value} (h : w.cell? a = some u) (hn : a.block ≠ b.block) : (w.setCell b v).cell? a = some u := by
  rw [World.cell?_setCell_other _ _ _ _ (by intro hh; exact hn (by rw [hh])), h]
theorem RP.cells0 (x : RP) : x.cells[0]? = some (.bool x.isMany) := by cases x <;> rfl
theorem RP.cells6 (x : RP) : ∃ a b z o d, x.cells = [.bool x.isMany, .bool a, .bool b, .string ⟨z⟩, .int .u8 o, .bool d] := by
  cases x <;> exact ⟨_, _, _, _, _, rfl⟩
theorem getD_lt {l : List RP} {k : Nat} (h : k < l.length) : l.getD k .none = l[k] := by simp [List.getD, h]

theorem partsF_set : ∀ (n : Nat) (p : Bs) (x : RP), x ∈ partsF n p → ∀ s, x = .set s → s.length ≤ p.length := by
  intro n
  induction n with
  | zero => intro p x h; simp [partsF] at h
  | succ n ih =>
    intro p x h s hs
    cases p with
    | nil => simp [partsF] at h
    | cons c r =>
      simp only [partsF] at h
      split at h
      · rcases List.mem_cons.1 h with h | h
        · rw [h] at hs; cases hs
        · have := ih _ _ h s hs; simp; omega
      · split at h
        · rcases List.mem_cons.1 h with h | h
          · rw [h] at hs; cases hs
          · have := ih _ _ h s hs; simp; omega
        · split at h
          · split at h
            · simp at h; rw [h] at hs; cases hs
            · rcases List.mem_cons.1 h with h | h
              · rw [h] at hs; cases hs; simp; omega
              · have := ih _ _ h s hs; simp at this ⊢; omega
          · split at h
            · rcases List.mem_cons.1 h with h | h
              · rw [h] at hs; cases hs
              · have := ih _ _ h s hs; simp at this ⊢; omega
            · rcases List.mem_cons.1 h with h | h
              · rw [h] at hs; cases hs
              · have := ih _ _ h s hs; simp; omega
theorem partsF_len : ∀ (n : Nat) (p : Bs), (partsF n p).length ≤ p.length := by
  intro n
  induction n with
  | zero => intro p; simp [partsF]
  | succ n ih =>
    intro p
    cases p with
    | nil => simp [partsF]
    | cons c r =>
      simp only [partsF]
      split
      · have := ih r; simp; omega
      · split
        · have := ih r; simp; omega
        · split
          · split
            · simp
            · have := ih (r.drop ((Lib.indexByte r 93).toNat + 1)); simp at this ⊢; omega
          · split
            · have := ih r.tail; simp at this ⊢; omega
            · have := ih r; simp; omega

set_option maxRecDepth 100000 in
set_option maxHeartbeats 1600000 in
theorem rGlob_any (p s : Bs) (fold : Bool) (hp : p.length ≤ 1000000) (hs : s.length ≤ 1000000) (w : World) :
    Calls Tryz.prog 75 #[.string ⟨p.toArray⟩, .string ⟨s.toArray⟩, .bool fold] w fun e w' => e = .returned (.bool (gl fold (partsA p) s (fun k => decide (k = 0)))) ∧ Below w.heap.size w w' := by
  have hpa := fun W => parts_any p hp W
  have hset : ∀ x ∈ partsA p, ∀ z, x = .set z → z.length ≤ 1000000 := fun x hx z hz => by have := partsF_set _ _ x hx z hz; omega
  have hlen : (partsA p).length ≤ 1000000 := by have := partsF_len p.length p; exact Nat.le_trans this hp
  generalize partsA p = l at *
  have HPA := Lib.hid hpa
  have HSET := Lib.hid hset
  clear hpa hset
  have hmk : ∀ u : World, (Instr.makeSlice 125 (.int .i64 ((l.length : Int) + 1)) (.int .i64 ((l.length : Int) + 1))).run Tryz.prog u = .ok (.slice (some ⟨u.heap.size, 0, none⟩) (l.length + 1) (l.length + 1)) (u.alloc (falsesObj (l.length + 1))) := run_falses (l.length + 1) (by omega)
  go_enter Tryz.func75, Tryz.ntmps75
  go_wp2_with (go_at_call 101; refine (HPA.out _).mono ?_; rintro e w1 ⟨hb1, v, rfl, hown⟩; obtain ⟨ao, cap, rfl, hPR⟩ := prow_of_own hown; clear hown; have hst := (frow_new w1 (l.length + 1) 0 (by omega)).1; have hfz := (frow_new w1 (l.length + 1) 0 (by omega)).2)
  have hA0 : FRow ((w1.alloc (falsesObj (l.length + 1))).setCell ⟨w1.heap.size, 0, none⟩ (.bool true)) w1.heap.size (l.length + 1) (fun k => decide (k = 0)) := by
    have h := (frow_new w1 (l.length + 1)).set (k := 0) (by omega)
    intro j hj
    have h2 := h j hj
    refine ⟨h2.1.trans ?_, h2.2⟩
    by_cases e : j = 0 <;> simp [upd, e]
  have hB0 : Below w1.heap.size w1 ((w1.alloc (falsesObj (l.length + 1))).setCell ⟨w1.heap.size, 0, none⟩ (.bool true)) := ((Below.refl _ _).alloc (Nat.le_refl _) _).setCell (Nat.le_refl _) _
  clear hst hfz
  have HMK := Lib.hid hmk
  clear hmk
  go_loopw [8, 9] (fun v8 v9 wr => ∃ (i ga : Nat) (A : Nat → Bool), i ≤ s.length ∧ v9 = .int .i64 i ∧ v8 = .slice (some ⟨ga, 0, none⟩) (l.length + 1) (l.length + 1) ∧ w1.heap.size ≤ ga ∧ ga < wr.heap.size ∧ FRow wr ga (l.length + 1) A ∧ Below w1.heap.size w1 wr ∧ Hid (gl fold l s (fun k => decide (k = 0)) = gl fold l (s.drop i) A))
    (fun _ v9 _ => s.length - (intOf v9).toNat)
  case atStart => exact ⟨0, w1.heap.size, _, Nat.zero_le _, rfl, rfl, Nat.le_refl _, by simp, hA0, hB0, rfl⟩
  case round =>
    obtain ⟨i, ga, A, hi, rfl, rfl, hga, hga2, hA, hb, HG⟩ := hrel
    go_wp2_with fail
    obtain ⟨wo, rfl⟩ : ∃ wo : World, wo = wr := ⟨_, rfl⟩
    go_loopw [26] (fun v26 wy => ∃ k : Nat, k ≤ l.length ∧ v26 = .int .i64 k ∧ ga < wy.heap.size ∧ FRow wy ga (l.length + 1) (cloG l A k) ∧ Below w1.heap.size w1 wy) (fun v26 _ => l.length - (intOf v26).toNat)
    case atStart => exact ⟨0, Nat.zero_le _, rfl, hga2, hA, hb⟩
    case round =>
      obtain ⟨k, hk, rfl, hg3, hC, hb2⟩ := hrel
      by_cases hlt : k < l.length
      · obtain ⟨g, rfl, hgg, hcells⟩ := (hPR.below hb2 (Nat.le_refl _)) (by intro h; rw [h] at hlt; simp at hlt)
        have hcm := hcells k hlt 0 _ (RP.cells0 _)
        rw [Nat.add_zero] at hcm
        have hca := (hC k (by omega)).1
        have hst := (hC (k + 1) (by omega)).1
        have hfz := (hC (k + 1) (by omega)).2
        have hstep : cloG l A (k + 1) = if (cloG l A k k && l[k].isMany) = true then upd (cloG l A k) (k + 1) else cloG l A k := by rw [cloG, getD_lt hlt]
        have HST := Lib.hid hstep
        have HC := Lib.hid hC
        have i1 : (k : Int) < (l.length : Int) + 1 := by omega
        have i2 : (k : Int) + 1 < (l.length : Int) + 1 := by omega
        clear hcells hstep hC hA hB0 hA0
        cases hb1 : cloG l A k k
        · rw [hb1] at hca
          have HS : Hid (cloG l A (k + 1) = cloG l A k) := by show _ = _; rw [HST.out, hb1]; rfl
          clear HST
          go_wp2_with fail
          go_roundw
          case rel => exact ⟨k + 1, by omega, by go_num, hg3, by rw [HS.out]; exact HC.out, hb2⟩
          case measure => simp [intOf]; omega
        · cases hb3 : l[k].isMany
          · rw [hb1] at hca
            rw [hb3] at hcm
            have HS : Hid (cloG l A (k + 1) = cloG l A k) := by show _ = _; rw [HST.out, hb1, hb3]; rfl
            clear HST
            go_wp2_with fail
            go_roundw
            case rel => exact ⟨k + 1, by omega, by go_num, hg3, by rw [HS.out]; exact HC.out, hb2⟩
            case measure => simp [intOf]; omega
          · rw [hb1] at hca
            rw [hb3] at hcm
            have HS : Hid (cloG l A (k + 1) = upd (cloG l A k) (k + 1)) := by show _ = _; rw [HST.out, hb1, hb3]; rfl
            clear HST
            go_wp2_with fail
            go_roundw
            case rel => exact ⟨k + 1, by omega, by go_num, by simpa using hg3, by rw [HS.out]; exact HC.out.set (by omega), hb2.setCell hga _⟩
            case measure => simp [intOf]; omega
      · obtain rfl : k = l.length := by omega
        by_cases his : i < s.length
        · have t1 : ((i : Int) == s.length) = false := by rw [beq_eq_false_iff_ne]; omega
          have HS : Hid (gl fold l s (fun k => decide (k = 0)) = gl fold l (s.drop (i + 1)) (nxt l (cloG l A l.length) s[i] fold l.length)) := by
            show _ = _
            rw [HG.out, List.drop_eq_getElem_cons his, gl]
          clear HG hA hA0 hB0
          generalize cloG l A l.length = C at *
          have hmk := HMK.out
          go_wp2_with fail
          have hbn : Below w1.heap.size w1 (wr.alloc (falsesObj (l.length + 1))) := hb2.alloc hb2.size _
          have hCn : FRow (wr.alloc (falsesObj (l.length + 1))) ga (l.length + 1) C := hC.below ((Below.refl wr.heap.size wr).alloc (Nat.le_refl _) _) hg3
          have hNn := frow_new wr (l.length + 1)
          obtain ⟨gn, hgn⟩ : ∃ gn, gn = wr.heap.size := ⟨_, rfl⟩
          rw [← hgn] at hg3 hNn
          simp only [← hgn]
          have hgn2 : gn < (wr.alloc (falsesObj (l.length + 1))).heap.size := by simp; omega
          have hgn3 : w1.heap.size ≤ gn := by have := hb2.size; omega
          clear hmk hgn hC hb2
          generalize wr.alloc (falsesObj (l.length + 1)) = wq at *
          go_loopw [55] (fun v55 wz => ∃ k : Nat, k ≤ l.length ∧ v55 = .int .i64 k ∧ gn < wz.heap.size ∧ FRow wz ga (l.length + 1) C ∧ FRow wz gn (l.length + 1) (nxt l C s[i] fold k) ∧ Below w1.heap.size w1 wz) (fun v55 _ => l.length - (intOf v55).toNat)
          case atStart => exact ⟨0, Nat.zero_le _, rfl, hgn2, hCn, hNn, hbn⟩
          case round =>
            obtain ⟨k, hk, rfl, hg4, hC, hN, hb3⟩ := hrel
            clear hgn2 hCn hNn hbn
            by_cases hlt : k < l.length
            · obtain ⟨g, rfl, hgg, hcells⟩ := (hPR.below hb3 (Nat.le_refl _)) (by intro h; rw [h] at hlt; simp at hlt)
              have htk := fun W => takes_below l[k] s[i] fold (HSET.out _ (List.getElem_mem hlt)) W
              have hstep : nxt l C s[i] fold (k + 1) = nxtStep l C s[i] fold (nxt l C s[i] fold k) k := rfl
              unfold nxtStep at hstep
              rw [getD_lt hlt] at hstep
              obtain ⟨xa, xb, xz, xo, xd, hx6⟩ := RP.cells6 l[k]
              have hcs := hcells k hlt
              rw [hx6] at hcs htk
              generalize l[k].isMany = bm at *
              generalize l[k].takes fold s[i] = bt at *
              have c0 := hcs 0 _ rfl
              have c1 := hcs 1 _ rfl
              have c2 := hcs 2 _ rfl
              have c3 := hcs 3 _ rfl
              have c4 := hcs 4 _ rfl
              have c5 := hcs 5 _ rfl
              rw [Nat.add_zero] at c0
              have hal : Below wr.heap.size wr (wr.alloc (.cells #[.bool bm, .bool xa, .bool xb, .string ⟨xz⟩, .int .u8 xo, .bool xd] 127)) := (Below.refl _ _).alloc (Nat.le_refl _) _
              have hC0 := hC.below hal (by omega)
              have hN0 := hN.below hal hg4
              have hb0 := hb3.trans (hal.mono hb3.size)
              have hsz0 : (wr.alloc (.cells #[.bool bm, .bool xa, .bool xb, .string ⟨xz⟩, .int .u8 xo, .bool xd] 127)).heap.size = wr.heap.size + 1 := by simp
              have b0 := cell_box (w := wr) (cs := [.bool bm, .bool xa, .bool xb, .string ⟨xz⟩, .int .u8 xo, .bool xd]) (t := 127) (j := 0) rfl
              have b1 := cell_box (w := wr) (cs := [.bool bm, .bool xa, .bool xb, .string ⟨xz⟩, .int .u8 xo, .bool xd]) (t := 127) (j := 1) rfl
              have b2 := cell_box (w := wr) (cs := [.bool bm, .bool xa, .bool xb, .string ⟨xz⟩, .int .u8 xo, .bool xd]) (t := 127) (j := 2) rfl
              have b3 := cell_box (w := wr) (cs := [.bool bm, .bool xa, .bool xb, .string ⟨xz⟩, .int .u8 xo, .bool xd]) (t := 127) (j := 3) rfl
              have b4 := cell_box (w := wr) (cs := [.bool bm, .bool xa, .bool xb, .string ⟨xz⟩, .int .u8 xo, .bool xd]) (t := 127) (j := 4) rfl
              have b5 := cell_box (w := wr) (cs := [.bool bm, .bool xa, .bool xb, .string ⟨xz⟩, .int .u8 xo, .bool xd]) (t := 127) (j := 5) rfl
              have hca := (hC0 k (by omega)).1
              have hs0 := (hN0 k (by omega)).1
              have hf0 := (hN0 k (by omega)).2
              have HST := Lib.hid hstep
              have HC := Lib.hid hC0
              have HN := Lib.hid hN0
              have HTK := Lib.hid htk
              have i1 : (k : Int) < (l.length : Int) + 1 := by omega
              have i2 : (k : Int) + 1 < (l.length : Int) + 1 := by omega
              have gk0 : ga < (wr.alloc (.cells #[.bool bm, .bool xa, .bool xb, .string ⟨xz⟩, .int .u8 xo, .bool xd] 127)).heap.size := by omega
              have gk1 : wr.heap.size < (wr.alloc (.cells #[.bool bm, .bool xa, .bool xb, .string ⟨xz⟩, .int .u8 xo, .bool xd] 127)).heap.size := by omega
              have gk2 : gn < (wr.alloc (.cells #[.bool bm, .bool xa, .bool xb, .string ⟨xz⟩, .int .u8 xo, .bool xd] 127)).heap.size := by omega
              have HB0 := Lib.hid hb0
              clear hcells hcs hstep hC hN htk hx6 hC0 hN0 hal hb0 hsz0
              cases hck : C k
              · rw [hck] at hca
                have HS2 : Hid (nxt l C s[i] fold (k + 1) = nxt l C s[i] fold k) := by show _ = _; rw [HST.out, hck]; rfl
                clear HST hs0 hf0
                go_wp2_with fail
                go_quiet (fail)
                go_wp2_with fail
                go_roundw
                case rel => exact ⟨k + 1, by omega, by go_num, by simpa using Nat.lt_succ_of_lt hg4, HC.out.below (below_drewN (Below.refl _ _) _) gk0, by rw [HS2.out]; exact HN.out.below (below_drewN (Below.refl _ _) _) gk2, below_drewN HB0.out _⟩
                case measure => simp [intOf]; omega
              · rw [hck] at hca HST
                cases bm
                · have HST2 : Hid (nxt l C s[i] fold (k + 1) = if bt = true then upd (nxt l C s[i] fold k) (k + 1) else (nxt l C s[i] fold k)) := by show _ = _; rw [HST.out]; rfl
                  clear HST hs0 hf0
                  go_wp2_with fail
                  generalize (wr.alloc (.cells #[.bool false, .bool xa, .bool xb, .string ⟨xz⟩, .int .u8 xo, .bool xd] 127)) = W at *
                  go_region_held3 (fun w' => w'.cell? ⟨ga, k, none⟩ = some (.bool true) ∧ w'.cell? ⟨wr.heap.size, 0, none⟩ = some (.bool false) ∧ w'.cell? ⟨wr.heap.size, 1, none⟩ = some (.bool xa) ∧ w'.cell? ⟨wr.heap.size, 2, none⟩ = some (.bool xb) ∧ w'.cell? ⟨wr.heap.size, 3, none⟩ = some (.string ⟨xz⟩) ∧ w'.cell? ⟨wr.heap.size, 4, none⟩ = some (.int .u8 xo) ∧ w'.cell? ⟨wr.heap.size, 5, none⟩ = some (.bool xd)) (first | go_keep | (go_split_ands; exact ⟨(hbx.cell gk0).trans hca, (hbx.cell gk1).trans b0, (hbx.cell gk1).trans b1, (hbx.cell gk1).trans b2, (hbx.cell gk1).trans b3, (hbx.cell gk1).trans b4, (hbx.cell gk1).trans b5⟩)) ((go_at_call 102; refine (HTK.out _).mono ?_; rintro e w2 ⟨rfl, hbx⟩))
                  have hbx' : Below W.heap.size W w2 := (Below.refl W.heap.size W).drew.trans hbx
                  have hbb := HB0.out.trans (hbx'.mono HB0.out.size)
                  have hC2 := HC.out.below hbx' gk0
                  have hN2 := HN.out.below hbx' gk2
                  have gk3 : gn < w2.heap.size := Nat.lt_of_lt_of_le gk2 hbx'.size
                  have hs2 := (hN2 (k + 1) (by omega)).1
                  have hf2 := (hN2 (k + 1) (by omega)).2
                  have HC2 := Lib.hid hC2
                  have HN2 := Lib.hid hN2
                  clear hC2 hN2 hbx' hbx hca b0 b1 b2 b3 b4 b5
                  cases bt
                  · go_wp2_with fail
                    go_roundw
                    case rel => exact ⟨k + 1, by omega, by go_num, gk3, HC2.out, by rw [HST2.out]; exact HN2.out, hbb⟩
                    case measure => simp [intOf]; omega
                  · go_wp2_with fail
                    go_roundw
                    case rel => exact ⟨k + 1, by omega, by go_num, by simpa using gk3, HC2.out.other (by omega : ga ≠ gn), by rw [HST2.out]; exact HN2.out.set (by omega), hbb.setCell hgn3 _⟩
                    case measure => simp [intOf]; omega
                · have hC1 := HC.out.other (g' := gn) (k := k) (v := .bool true) (by omega : ga ≠ gn)
                  have hN1 := HN.out.set (k := k) (by omega)
                  have b0 := cell_set_other (b := ⟨gn, k, none⟩) (v := .bool true) b0 (by show wr.heap.size ≠ gn; omega)
                  have b1 := cell_set_other (b := ⟨gn, k, none⟩) (v := .bool true) b1 (by show wr.heap.size ≠ gn; omega)
                  have b2 := cell_set_other (b := ⟨gn, k, none⟩) (v := .bool true) b2 (by show wr.heap.size ≠ gn; omega)
                  have b3 := cell_set_other (b := ⟨gn, k, none⟩) (v := .bool true) b3 (by show wr.heap.size ≠ gn; omega)
                  have b4 := cell_set_other (b := ⟨gn, k, none⟩) (v := .bool true) b4 (by show wr.heap.size ≠ gn; omega)
                  have b5 := cell_set_other (b := ⟨gn, k, none⟩) (v := .bool true) b5 (by show wr.heap.size ≠ gn; omega)
                  have hb1' := HB0.out.setCell (p := ⟨gn, k, none⟩) hgn3 (.bool true)
                  have hca1 := (hC1 k (by omega)).1
                  rw [hck] at hca1
                  have HC1 := Lib.hid hC1
                  have HN1 := Lib.hid hN1
                  have HB1 := Lib.hid hb1'
                  have gs : ((wr.alloc (.cells #[.bool true, .bool xa, .bool xb, .string ⟨xz⟩, .int .u8 xo, .bool xd] 127)).setCell ⟨gn, k, none⟩ (.bool true)).heap.size = (wr.alloc (.cells #[.bool true, .bool xa, .bool xb, .string ⟨xz⟩, .int .u8 xo, .bool xd] 127)).heap.size := by simp
                  rw [← gs] at gk0 gk1 gk2
                  clear hC1 hN1 hb1' gs HC HN HB0
                  have hcomm : ((wr.alloc (.cells #[.bool true, .bool xa, .bool xb, .string ⟨xz⟩, .int .u8 xo, .bool xd] 127)).setCell ⟨gn, k, none⟩ (.bool true)) = ((wr.setCell ⟨gn, k, none⟩ (.bool true)).alloc (.cells #[.bool true, .bool xa, .bool xb, .string ⟨xz⟩, .int .u8 xo, .bool xd] 127)) := World.setCell_alloc_past _ _ _ _ hg4
                  have HST2 : Hid (nxt l C s[i] fold (k + 1) = if bt = true then upd (upd (nxt l C s[i] fold k) k) (k + 1) else upd (nxt l C s[i] fold k) k) := by show _ = _; rw [HST.out]; rfl
                  clear HST
                  go_wp2_with fail
                  rw [hcomm] at hca1 b0 b1 b2 b3 b4 b5 gk0 gk1 gk2 HC1 HN1 HB1
                  clear hcomm
                  generalize ((wr.setCell ⟨gn, k, none⟩ (.bool true)).alloc (.cells #[.bool true, .bool xa, .bool xb, .string ⟨xz⟩, .int .u8 xo, .bool xd] 127)) = W at *
                  go_region_held3 (fun w' => w'.cell? ⟨ga, k, none⟩ = some (.bool true) ∧ w'.cell? ⟨wr.heap.size, 0, none⟩ = some (.bool true) ∧ w'.cell? ⟨wr.heap.size, 1, none⟩ = some (.bool xa) ∧ w'.cell? ⟨wr.heap.size, 2, none⟩ = some (.bool xb) ∧ w'.cell? ⟨wr.heap.size, 3, none⟩ = some (.string ⟨xz⟩) ∧ w'.cell? ⟨wr.heap.size, 4, none⟩ = some (.int .u8 xo) ∧ w'.cell? ⟨wr.heap.size, 5, none⟩ = some (.bool xd)) (first | go_keep | (go_split_ands; exact ⟨(hbx.cell gk0).trans hca1, (hbx.cell gk1).trans b0, (hbx.cell gk1).trans b1, (hbx.cell gk1).trans b2, (hbx.cell gk1).trans b3, (hbx.cell gk1).trans b4, (hbx.cell gk1).trans b5⟩)) ((go_at_call 102; refine (HTK.out _).mono ?_; rintro e w2 ⟨rfl, hbx⟩))
                  have hbx' : Below W.heap.size W w2 := (Below.refl W.heap.size W).drew.trans hbx
                  have hbb := HB1.out.trans (hbx'.mono HB1.out.size)
                  have hC2 := HC1.out.below hbx' gk0
                  have hN2 := HN1.out.below hbx' gk2
                  have gk3 : gn < w2.heap.size := Nat.lt_of_lt_of_le gk2 hbx'.size
                  have hs2 := (hN2 (k + 1) (by omega)).1
                  have hf2 := (hN2 (k + 1) (by omega)).2
                  have HC2 := Lib.hid hC2
                  have HN2 := Lib.hid hN2
                  clear hC2 hN2 hbx' hbx hca1 b0 b1 b2 b3 b4 b5
                  cases bt
                  · go_wp2_with fail
                    go_roundw
                    case rel => exact ⟨k + 1, by omega, by go_num, gk3, HC2.out, by rw [HST2.out]; exact HN2.out, hbb⟩
                    case measure => simp [intOf]; omega
                  · go_wp2_with fail
                    go_roundw
                    case rel => exact ⟨k + 1, by omega, by go_num, by simpa using gk3, HC2.out.other (by omega : ga ≠ gn), by rw [HST2.out]; exact HN2.out.set (by omega), hbb.setCell hgn3 _⟩
                    case measure => simp [intOf]; omega
            · obtain rfl : k = l.length := by omega
              go_wp2_with fail
              go_roundw
              case rel => exact ⟨i + 1, gn, _, by omega, by go_num, rfl, hgn3, hg4, hN, hb3, HS⟩
              case measure => simp [intOf]; omega
        · have t1 : ((i : Int) == s.length) = true := by rw [beq_iff_eq]; omega
          have hca := (hC l.length (by omega)).1
          have HS : Hid (gl fold l s (fun k => decide (k = 0)) = cloG l A l.length l.length) := by
            show _ = _
            rw [HG.out, List.drop_eq_nil_of_le (by omega), gl]
          clear HG hA hA0 hB0 hC
          go_wp2_with fail
          go_ret
          exact ⟨by rw [HS.out]; rfl, hb1.trans (hb2.mono hb1.size)⟩
end Go.Proofs.YtjgdfgpnmmkjfaaGreatDoor
