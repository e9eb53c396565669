/- The walk of ClockBack. -/
import Derived.Test.YtkahakhhdiffcaaGreatDoorCBkI
import Derived.RangeFuncRecord
namespace Go.Proofs.YtkahakhhdiffcaaGreatDoor
set_option linter.unusedVariables false
set_option linter.unusedSimpArgs false
open Go.RowKit Go.Shelf
attribute [local go_sem] ba_extract
set_option maxRecDepth 100000 in
set_option maxHeartbeats 1600000 in
theorem back_early (t : Int) (A : Option Addr) (n cap : Nat) (b : UInt8) (w : World) (hT : SpaceIs w) (hP : PowIs w) (h : 30 < n ∨ (n ≤ 30 ∧ (b = 37 ∨ b = 45 ∨ (b ≠ 37 ∧ b ≠ 45 ∧ isDg b = true)))) :
    Calls Tryz.prog 4 #[.int .i64 t, .slice A n cap, .int .u8 (b.toNat : Int)] w fun e w' => e = .returned (.bool true) ∧ Below w.heap.size w w' := by
  have AW := Lib.hid (awake_any w hT hP)
  clear hT hP
  rcases h with h | ⟨h, rfl | rfl | ⟨h1, h2, h3⟩⟩
  · have t1 : decide (30 < (n : Int)) = true := by rw [decide_eq_true_eq]; omega
    clear h
    go_enter Tryz.func4, Tryz.ntmps4
    go_wp2_with (go_at_call 6; refine AW.out.mono ?_; rintro e w1 ⟨rfl, hB⟩; have H1 := Lib.hid hB; clear hB)
    go_ret
    exact ⟨rfl, H1.out⟩
  · have t1 : decide (30 < (n : Int)) = false := by rw [decide_eq_false_iff_not]; omega
    have t2 : (((37 : UInt8).toNat : Int) == 37) = true := by decide
    clear h
    go_enter Tryz.func4, Tryz.ntmps4
    go_wp2_with (go_at_call 6; refine AW.out.mono ?_; rintro e w1 ⟨rfl, hB⟩; have H1 := Lib.hid hB; clear hB)
    go_ret
    exact ⟨rfl, H1.out⟩
  · have t1 : decide (30 < (n : Int)) = false := by rw [decide_eq_false_iff_not]; omega
    have e45 : (((45 : UInt8).toNat : Nat) : Int) = 45 := by decide
    rw [e45]
    clear h e45
    go_enter Tryz.func4, Tryz.ntmps4
    go_wp2_with (go_at_call 6; refine AW.out.mono ?_; rintro e w1 ⟨rfl, hB⟩; have H1 := Lib.hid hB; clear hB)
    go_ret
    exact ⟨rfl, H1.out⟩
  · have t1 : decide (30 < (n : Int)) = false := by rw [decide_eq_false_iff_not]; omega
    obtain ⟨g1, g2⟩ := isDg_yes h3
    have t2 : ((b.toNat : Int) == 37) = false := by rw [beq_eq_false_iff_ne]; omega
    clear h h1 h2 h3
    go_enter Tryz.func4, Tryz.ntmps4
    go_wp2_with (go_at_call 6; refine AW.out.mono ?_; rintro e w1 ⟨rfl, hB⟩; have H1 := Lib.hid hB; clear hB)
    go_ret
    exact ⟨rfl, H1.out⟩
theorem rep_len : ∀ l ∈ groupsB, (Lib.replaceAll (pairL l) [37, 84] [37, 72, 37, 77, 37, 83]).length ≤ 10000 := by decide +kernel
theorem maxIs_low {w w' : World} (h : MaxIs w) (hb : Below w.heap.size w w') : MaxIs w' := by
  obtain ⟨m, hm⟩ := h
  exact ⟨m, (hb.cell (cell_lt hm)).trans hm⟩
/-- The groups as they lie: the outer row's block is g. -/
def GrpAt (w wx : World) (g : Nat) : Prop := ∀ k l, groupsB[k]? = some l → ∃ gb, gb < wx.heap.size ∧ wx.cell? ⟨g, k, none⟩ = some (.slice (some ⟨gb, 0, none⟩) l.length l.length) ∧ ∀ (j : Nat) (c : UInt8), l[j]? = some c → wx.cell? ⟨gb, j, none⟩ = some (sv [37, c])
def groupsW (w : World) : World := ((((((w.alloc (.cells #[.string ⟨#[37, 89]⟩, .string ⟨#[37, 109]⟩, .string ⟨#[37, 100]⟩, .string ⟨#[37, 72]⟩, .string ⟨#[37, 77]⟩, .string ⟨#[37, 83]⟩] 9)).alloc
  (.cells #[.string ⟨#[37, 89]⟩, .string ⟨#[37, 106]⟩, .string ⟨#[37, 84]⟩] 9)).alloc
  (.cells #[.string ⟨#[37, 68]⟩, .string ⟨#[37, 73]⟩, .string ⟨#[37, 112]⟩, .string ⟨#[37, 77]⟩, .string ⟨#[37, 83]⟩] 9)).alloc
  (.cells #[.string ⟨#[37, 115]⟩] 9)).alloc
  (.cells #[.string ⟨#[37, 89]⟩, .string ⟨#[37, 66]⟩, .string ⟨#[37, 101]⟩, .string ⟨#[37, 84]⟩] 9)).alloc
  (.cells #[.slice (some ⟨w.heap.size, 0, none⟩) 6 6, .slice (some ⟨w.heap.size + 1, 0, none⟩) 3 3, .slice (some ⟨w.heap.size + 1 + 1, 0, none⟩) 5 5, .slice (some ⟨w.heap.size + 1 + 1 + 1, 0, none⟩) 1 1, .slice (some ⟨w.heap.size + 1 + 1 + 1 + 1, 0, none⟩) 4 4] 28))
theorem groupsW_below (w : World) : Below w.heap.size w (groupsW w) :=
  ((((((Below.refl _ _).alloc (Nat.le_refl _) _).alloc (by simp) _).alloc (by simp; omega) _).alloc (by simp; omega) _).alloc (by simp; omega) _).alloc (by simp; omega) _
theorem heap_keep (w : World) (o : Obj) {k : Nat} (h : k < w.heap.size) : (w.alloc o).heap[k]? = w.heap[k]? := ((Below.refl w.heap.size w).alloc (Nat.le_refl _) o).block k h
theorem heap_new (w : World) (o : Obj) {n : Nat} (h : w.heap.size = n) : (w.alloc o).heap[n]? = some o := by subst h; exact World.alloc_heap_new w o
theorem grp_new (w : World) : GrpAt w (groupsW w) (w.heap.size + 1 + 1 + 1 + 1 + 1) := by
  intro k l hl
  have hk : k < 5 := by
    rcases Nat.lt_or_ge k 5 with h | h
    · exact h
    · rw [List.getElem?_eq_none (by simpa [groupsB] using h)] at hl; cases hl
  have hz : (groupsW w).heap.size = w.heap.size + 6 := by simp [groupsW]
  have fin : ∀ (gb : Nat) (cs : Array Value), (groupsW w).heap[gb]? = some (.cells cs 9) → (∀ (j : Nat) (c : UInt8), l[j]? = some c → cs[j]? = some (sv [37, c])) → ∀ (j : Nat) (c : UInt8), l[j]? = some c → (groupsW w).cell? ⟨gb, j, none⟩ = some (sv [37, c]) := fun gb cs h1 h2 j c hj => by
    simp only [World.cell?, h1]
    exact h2 j c hj
  have hcs : ∀ (xs : Bs) (cs : Array Value), cs.toList = (xs.map fun c => sv [37, c]) → ∀ (j : Nat) (c : UInt8), xs[j]? = some c → cs[j]? = some (sv [37, c]) := fun xs cs h j c hj => by
    rw [← Array.getElem?_toList, h, List.getElem?_map, hj]; rfl
  have hout := heap_new (((((w.alloc (.cells #[.string ⟨#[37, 89]⟩, .string ⟨#[37, 109]⟩, .string ⟨#[37, 100]⟩, .string ⟨#[37, 72]⟩, .string ⟨#[37, 77]⟩, .string ⟨#[37, 83]⟩] 9)).alloc (.cells #[.string ⟨#[37, 89]⟩, .string ⟨#[37, 106]⟩, .string ⟨#[37, 84]⟩] 9)).alloc (.cells #[.string ⟨#[37, 68]⟩, .string ⟨#[37, 73]⟩, .string ⟨#[37, 112]⟩, .string ⟨#[37, 77]⟩, .string ⟨#[37, 83]⟩] 9)).alloc (.cells #[.string ⟨#[37, 115]⟩] 9)).alloc (.cells #[.string ⟨#[37, 89]⟩, .string ⟨#[37, 66]⟩, .string ⟨#[37, 101]⟩, .string ⟨#[37, 84]⟩] 9)) (.cells #[.slice (some ⟨w.heap.size, 0, none⟩) 6 6, .slice (some ⟨w.heap.size + 1, 0, none⟩) 3 3, .slice (some ⟨w.heap.size + 1 + 1, 0, none⟩) 5 5, .slice (some ⟨w.heap.size + 1 + 1 + 1, 0, none⟩) 1 1, .slice (some ⟨w.heap.size + 1 + 1 + 1 + 1, 0, none⟩) 4 4] 28) (n := w.heap.size + 1 + 1 + 1 + 1 + 1) (by simp)
  have out : ∀ (k : Nat) (v : Value), #[Value.slice (some ⟨w.heap.size, 0, none⟩) 6 6, .slice (some ⟨w.heap.size + 1, 0, none⟩) 3 3, .slice (some ⟨w.heap.size + 1 + 1, 0, none⟩) 5 5, .slice (some ⟨w.heap.size + 1 + 1 + 1, 0, none⟩) 1 1, .slice (some ⟨w.heap.size + 1 + 1 + 1 + 1, 0, none⟩) 4 4][k]? = some v → (groupsW w).cell? ⟨w.heap.size + 1 + 1 + 1 + 1 + 1, k, none⟩ = some v := fun k v h => by
    unfold groupsW
    simp only [World.cell?, hout]
    exact h
  rcases k with _ | _ | _ | _ | _ | k
  · obtain rfl : [89, 109, 100, 72, 77, 83] = l := Option.some.inj hl
    exact ⟨w.heap.size, by omega, out 0 _ rfl, fin _ _ (by unfold groupsW; first | exact heap_new _ _ (by simp) | (rw [heap_keep _ _ (by first | (simp; done) | (simp; omega))]; first | exact heap_new _ _ (by simp) | (rw [heap_keep _ _ (by first | (simp; done) | (simp; omega))]; first | exact heap_new _ _ (by simp) | (rw [heap_keep _ _ (by first | (simp; done) | (simp; omega))]; first | exact heap_new _ _ (by simp) | (rw [heap_keep _ _ (by first | (simp; done) | (simp; omega))]; first | exact heap_new _ _ (by simp) | (rw [heap_keep _ _ (by first | (simp; done) | (simp; omega))]; exact heap_new _ _ (by simp))))))) (hcs _ _ rfl)⟩
  · obtain rfl : [89, 106, 84] = l := Option.some.inj hl
    exact ⟨w.heap.size + 1, by omega, out 1 _ rfl, fin _ _ (by unfold groupsW; first | exact heap_new _ _ (by simp) | (rw [heap_keep _ _ (by first | (simp; done) | (simp; omega))]; first | exact heap_new _ _ (by simp) | (rw [heap_keep _ _ (by first | (simp; done) | (simp; omega))]; first | exact heap_new _ _ (by simp) | (rw [heap_keep _ _ (by first | (simp; done) | (simp; omega))]; first | exact heap_new _ _ (by simp) | (rw [heap_keep _ _ (by first | (simp; done) | (simp; omega))]; first | exact heap_new _ _ (by simp) | (rw [heap_keep _ _ (by first | (simp; done) | (simp; omega))]; exact heap_new _ _ (by simp))))))) (hcs _ _ rfl)⟩
  · obtain rfl : [68, 73, 112, 77, 83] = l := Option.some.inj hl
    exact ⟨w.heap.size + 1 + 1, by omega, out 2 _ rfl, fin _ _ (by unfold groupsW; first | exact heap_new _ _ (by simp) | (rw [heap_keep _ _ (by first | (simp; done) | (simp; omega))]; first | exact heap_new _ _ (by simp) | (rw [heap_keep _ _ (by first | (simp; done) | (simp; omega))]; first | exact heap_new _ _ (by simp) | (rw [heap_keep _ _ (by first | (simp; done) | (simp; omega))]; first | exact heap_new _ _ (by simp) | (rw [heap_keep _ _ (by first | (simp; done) | (simp; omega))]; first | exact heap_new _ _ (by simp) | (rw [heap_keep _ _ (by first | (simp; done) | (simp; omega))]; exact heap_new _ _ (by simp))))))) (hcs _ _ rfl)⟩
  · obtain rfl : [115] = l := Option.some.inj hl
    exact ⟨w.heap.size + 1 + 1 + 1, by omega, out 3 _ rfl, fin _ _ (by unfold groupsW; first | exact heap_new _ _ (by simp) | (rw [heap_keep _ _ (by first | (simp; done) | (simp; omega))]; first | exact heap_new _ _ (by simp) | (rw [heap_keep _ _ (by first | (simp; done) | (simp; omega))]; first | exact heap_new _ _ (by simp) | (rw [heap_keep _ _ (by first | (simp; done) | (simp; omega))]; first | exact heap_new _ _ (by simp) | (rw [heap_keep _ _ (by first | (simp; done) | (simp; omega))]; first | exact heap_new _ _ (by simp) | (rw [heap_keep _ _ (by first | (simp; done) | (simp; omega))]; exact heap_new _ _ (by simp))))))) (hcs _ _ rfl)⟩
  · obtain rfl : [89, 66, 101, 84] = l := Option.some.inj hl
    exact ⟨w.heap.size + 1 + 1 + 1 + 1, by omega, out 4 _ rfl, fin _ _ (by unfold groupsW; first | exact heap_new _ _ (by simp) | (rw [heap_keep _ _ (by first | (simp; done) | (simp; omega))]; first | exact heap_new _ _ (by simp) | (rw [heap_keep _ _ (by first | (simp; done) | (simp; omega))]; first | exact heap_new _ _ (by simp) | (rw [heap_keep _ _ (by first | (simp; done) | (simp; omega))]; first | exact heap_new _ _ (by simp) | (rw [heap_keep _ _ (by first | (simp; done) | (simp; omega))]; first | exact heap_new _ _ (by simp) | (rw [heap_keep _ _ (by first | (simp; done) | (simp; omega))]; exact heap_new _ _ (by simp))))))) (hcs _ _ rfl)⟩
  · omega
/-- A row without elements that is not nil. -/
theorem owns_empty (w : World) (B : Nat) (hB : B ≤ w.heap.size) : (w.alloc (.cells #[] 9)).ownsRow B 9 1 (.slice (some ⟨w.heap.size, 0, none⟩) 0 0) 0 [] :=
  ⟨rfl, .inr ⟨w.heap.size, 0, #[], rfl, hB, World.alloc_heap_new w _, Nat.le_refl _, by unfold maxLen; omega, by simp, rfl⟩⟩
def NumK (c : Value) : Prop := ∃ kk : Nat, kk < 5 ∧ c = .int .i64 (kk : Int)
def PartsR (w : World) (p : Value) (wx : World) : Prop := ∃ l, l ∈ groupsB ∧ wx.ownsRow w.heap.size 9 1 p (tokV l).length ((tokV l).map sv) ∧ Below w.heap.size w wx
/-- The loop's invariant: tokens that tell the whole time, their texts and their letters. -/
def BkI (w wr : World) (p : Value) (toks : Bs) (k : Nat) : Prop := OkB toks ∧ toks.length ≤ 6 + k ∧ (usedB toks).length ≤ 7 + k ∧ wr.ownsRow w.heap.size 9 1 p toks.length ((tokV toks).map sv) ∧ Below w.heap.size w wr
/-- What the loop ranges over: the choices behind the first. -/
def ChoR (w : World) (A : Option Addr) (n : Nat) (z : Nat → Int) (mm : Nat) (s u : Value) : Prop := ∃ A' c', s = .slice A' mm c' ∧ u = .int .i64 (mm : Int) ∧ ∀ j, j < mm → ∃ cb off, A' = some ⟨cb, off, none⟩ ∧ cb < w.heap.size ∧ w.cell? ⟨cb, off + j, none⟩ = some (.int .u8 (z (j + 1)))
set_option maxRecDepth 100000 in
set_option maxHeartbeats 1600000 in
theorem back_main (t : Int) (A : Option Addr) (n cap : Nat) (z : Nat → Int) (b : UInt8) (w : World) (hT : SpaceIs w) (hP : PowIs w) (hE : ErrIs w) (hM : MaxIs w)
    (hA : A = none → cap = 0) (hn : n ≤ 30) (hcap : n ≤ cap) (hcm : cap ≤ maxLen) (hc : ∀ j, j < n → 0 ≤ z j ∧ z j ≤ 255 ∧ ∃ cb off, A = some ⟨cb, off, none⟩ ∧ cb < w.heap.size ∧ w.cell? ⟨cb, off + j, none⟩ = some (.int .u8 (z j))) (hb37 : b ≠ 37) (hb45 : b ≠ 45) (hbd : isDg b = false) :
    Calls Tryz.prog 4 #[.int .i64 t, .slice A n cap, .int .u8 (b.toNat : Int)] w fun e w' => e = .returned (.bool true) ∧ Below w.heap.size w w' := by
  have AW := Lib.hid (fun W (hB : Below w.heap.size w W) => awake_any W (hT.below hB) (hP.low hB))
  have t1 : decide (30 < (n : Int)) = false := by rw [decide_eq_false_iff_not]; omega
  have t2 : ((b.toNat : Int) == 37) = false := by
    rw [beq_eq_false_iff_ne]; intro e; exact hb37 (UInt8.toNat_inj.1 (by simpa using (by exact_mod_cast e : b.toNat = 37)))
  have t3 : ((b.toNat : Int) == 45) = false := by
    rw [beq_eq_false_iff_ne]; intro e; exact hb45 (UInt8.toNat_inj.1 (by simpa using (by exact_mod_cast e : b.toNat = 45)))
  have t4 : (48 ≤ (b.toNat : Int) ∧ decide ((b.toNat : Int) ≤ 57) = false) ∨ decide (48 ≤ (b.toNat : Int)) = false := by
    rcases isDg_no hbd with h | h
    · right; rw [decide_eq_false_iff_not]; omega
    · left; exact ⟨by omega, by rw [decide_eq_false_iff_not]; omega⟩
  have HC := Lib.hid hc
  have HX := Lib.hid (And.intro hb37 hbd)
  have HTT := Lib.hid hT
  have HPP := Lib.hid hP
  have HEE := Lib.hid hE
  have HMM := Lib.hid hM
  clear hc hb37 hb45 hbd hT hP hE hM
  go_enter Tryz.func4, Tryz.ntmps4
  go_upto_region 1 with fail
  go_cut [37] (fun c wx => c = .bool false ∧ w = wx)
  case first =>
    rcases t4 with ⟨t4, t5⟩ | t4
    · go_wp2_with fail
      go_meet
      case rel => exact ⟨rfl, rfl⟩
    · go_wp2_with fail
      go_meet
      case rel => exact ⟨rfl, rfl⟩
  case rest =>
    obtain ⟨rfl, rfl⟩ := hcut
    clear t1 t2 t3 t4
    go_upto_region 3 with fail
    go_cut [7] (fun g wx => ∃ gb, g = .slice (some ⟨gb, 0, none⟩) 5 5 ∧ Hid (GrpAt w wx gb ∧ Below w.heap.size w wx))
    case first =>
      have hgn := Lib.hid (And.intro (grp_new w) (groupsW_below w))
      go_wp2_with fail
      go_meet
      case rel => exact ⟨_, rfl, hgn⟩
    case rest =>
    obtain ⟨gb, rfl, HG⟩ := hcut
    obtain ⟨wa, rfl⟩ : ∃ wa : World, wa = wc := ⟨_, rfl⟩
    go_upto_if 47 with fail
    go_cut [8] (fun c wx => NumK c ∧ wa = wx)
    case first =>
      by_cases h0 : 0 < n
      · obtain ⟨hz0, hz1, cb, off, rfl, hlt, hcell⟩ := HC.out 0 h0
        rw [Nat.add_zero] at hcell
        have hcell2 := (HG.out.2.cell (p := ⟨cb, off, none⟩) hlt).trans hcell
        clear hcell
        obtain ⟨kk, hk⟩ : ∃ kk : Nat, z 0 % 5 = (kk : Int) := ⟨(z 0 % 5).toNat, by omega⟩
        have hk5 : kk < 5 := by omega
        generalize z 0 = z0 at *
        go_wp2_with fail
        go_meet
        case rel => exact ⟨⟨kk, hk5, congrArg (Value.int .i64) hk⟩, rfl⟩
      · have h0' : decide (0 < n) = false := by rw [decide_eq_false_iff_not]; exact h0
        go_wp2_with fail
        go_meet
        case rel => exact ⟨⟨0, by omega, rfl⟩, rfl⟩
    case rest =>
      obtain ⟨⟨kk, hk5, rfl⟩, rfl⟩ := hcut
      go_upto_region 7 with fail
      go_cut [9] (fun p wx => Hid (PartsR w p wx))
      case first =>
        obtain ⟨l, hl, hlk⟩ := group_at kk hk5
        obtain ⟨rb, hrb, hcell, hrow⟩ := HG.out.1 kk l hlk
        have HR := Lib.hid hrow
        have HL := Lib.hid (And.intro hl hrb)
        have hl6 := (group_small l hl).1
        clear hrow hl hrb hlk
        have z1 : (kk : Int) < 5 := by omega
        have z2 : 0 ≤ (kk : Int) := by omega
        obtain ⟨m, hm⟩ : ∃ m, l.length = m := ⟨_, rfl⟩
        have HMl := Lib.hid hm
        rw [hm] at hcell hl6
        have hgl : gb < wa.heap.size := cell_lt hcell
        have HOW := owns_empty wa w.heap.size HG.out.2.size
        clear hm
        have HT : Hid (TxtRow (wa.alloc (.cells #[] 9)) (.slice (some ⟨rb, 0, none⟩) m m) (tokV l)) := by
          have hm := HMl.out
          refine ⟨some ⟨rb, 0, none⟩, m, by rw [tokV_len, hm], by rw [tokV_len, hm]; exact Nat.le_refl _, by unfold maxLen; omega, fun i hi => ⟨rb, 0, rfl, by have := HL.out.2; simp; omega, ?_⟩⟩
          rw [tokV_len] at hi
          rw [Nat.zero_add]
          refine (((Below.refl wa.heap.size wa).alloc (Nat.le_refl _) _).cell (p := ⟨rb, i, none⟩) HL.out.2).trans ?_
          rw [HR.out i l[i] (List.getElem?_eq_getElem hi)]
          simp [tokV]
        go_wp2_with (at_builtin; go_loud (refine wpList_pushRow rfl (.tmp 55) (.tmp 59) 28 rfl w.heap.size 9 (.string ⟨#[]⟩) 16 Tryz.underlying28 infoStr rfl (.slice (some ⟨wa.heap.size, 0, none⟩) 0 0) 0 [] rfl HOW (some ⟨rb, 0, none⟩) m m (tokV l) rfl HT.out (by unfold maxLen; omega) (by omega) (by have := HG.out.2.size; simp; omega) ?_); intro v' w1 hown' hgrow; have H1 := Lib.hid (And.intro hown' hgrow); clear hown' hgrow)
        go_meet
        case rel =>
          refine ⟨l, HL.out.1, ?_, ((HG.out.2.alloc HG.out.2.size _).trans H1.out.2)⟩
          have h1 := H1.out.1
          have hm := HMl.out
          rw [tokV_len, hm]
          simpa using h1
      case rest =>
        obtain ⟨l, hl, hown, hb⟩ := hcut.out
        obtain ⟨wb, rfl⟩ : ∃ wb : World, wb = wc := ⟨_, rfl⟩
        rw [tokV_len] at hown
        obtain ⟨ao, cp, rfl⟩ := owns_slice hown
        obtain ⟨h6, h7⟩ := group_small l hl
        have HOK := Lib.hid (groupB_ok l hl)
        have JO := Lib.hid (joinW_any (tokV l) [] _ wb (TxtRow.of_owns (by rw [tokV_len]; exact hown)) (by rw [tokV_len]; omega) (by have := (tokJ_len l 0).2; omega))
        have e1 : Lib.join (tokV l) [] = pairL l := join_pairs l
        rw [e1] at JO
        have R1 := Lib.hid (fun W (hM : MaxIs W) => replaceW_any (pairL l) [37, 84] [37, 72, 37, 77, 37, 83] (by decide) (by rw [pair_len]; omega) (by decide) W hM)
        have R2 := Lib.hid (fun W (hM : MaxIs W) => replaceW_any (Lib.replaceAll (pairL l) [37, 84] [37, 72, 37, 77, 37, 83]) [37, 68] [37, 109, 37, 100, 37, 89] (by decide) (rep_len l hl) (by decide) W hM)
        rw [replaced l hl] at R2
        have HMX := Lib.hid (fun W (hB : Below w.heap.size w W) => maxIs_low HMM.out hB)
        have HB := Lib.hid hb
        have HO := Lib.hid hown
        obtain ⟨rt, hrt⟩ : ∃ rt, Lib.replaceAll (pairL l) [37, 84] [37, 72, 37, 77, 37, 83] = rt := ⟨_, rfl⟩
        obtain ⟨pl, hpl⟩ : ∃ pl, pairL l = pl := ⟨_, rfl⟩
        rw [hrt] at R1 R2
        rw [hpl] at R1 JO
        clear hl e1 hrt hb hown hpl
        obtain ⟨m0, hm0⟩ : ∃ m0, l.length = m0 := ⟨_, rfl⟩
        have HM0 := Lib.hid hm0
        rw [hm0] at h6
        rw [hm0] at JO
        rw [hm0] at HO
        rw [hm0]
        clear hm0
        go_upto_region 11 with (first | (go_at_call 9; refine JO.out.mono ?_; rintro e wj ⟨rfl, hB⟩; have HB1 := Lib.hid (HB.out.trans (hB.mono HB.out.size)); have HK1 := Lib.hid hB; clear hB) | (go_at_call 10; have HQ := R1; clear R1; refine (HQ.out _ (HMX.out _ HB1.out)).mono ?_; rintro e wr1 ⟨rfl, hB⟩; have HB2 := Lib.hid (HB1.out.trans (hB.mono HB1.out.size)); have HK2 := Lib.hid (HK1.out.trans (hB.mono HK1.out.size)); clear hB) | (go_at_call 10; refine (R2.out _ (HMX.out _ HB2.out)).mono ?_; rintro e wr2 ⟨rfl, hB⟩; have HB3 := Lib.hid (HB2.out.trans (hB.mono HB2.out.size)); have HK3 := Lib.hid (HK2.out.trans (hB.mono HK2.out.size)); clear hB))
        obtain ⟨mm, hmm⟩ : ∃ mm : Nat, mm = n - 1 := ⟨_, rfl⟩
        clear JO R2
        go_cut [71, 72, 73] (fun s u i wx => ChoR w A n z mm s u ∧ i = .int .i64 0 ∧ wr2 = wx)
        case first =>
          rcases Nat.eq_zero_or_pos n with h0 | h0
          · subst h0
            subst hmm
            have hmin : min (1 : Int) 0 = 0 := by decide
            cases A with
            | none =>
              obtain rfl : cap = 0 := hA rfl
              go_wp2_with fail
              go_meet
              case rel => exact ⟨⟨_, _, rfl, rfl, fun j hj => by omega⟩, rfl, rfl⟩
            | some a =>
              rcases Nat.eq_zero_or_pos cap with hc0 | hc0
              · subst hc0
                go_wp2_with fail
                go_meet
                case rel => exact ⟨⟨_, _, rfl, rfl, fun j hj => by omega⟩, rfl, rfl⟩
              · have hc1 : ¬ (0 = cap) := by omega
                have hc2 : ¬ (cap = 0) := by omega
                go_wp2_with fail
                go_meet
                case rel => exact ⟨⟨_, _, rfl, rfl, fun j hj => by omega⟩, rfl, rfl⟩
          · obtain ⟨-, -, cb, off, rfl, hlt, hcell⟩ := HC.out 0 h0
            have hmin : min (1 : Int) (n : Int) = 1 := by omega
            clear hcell
            have hz1 : (1 : Int) ≤ (n : Int) := by omega
            unfold maxLen at hcm
            by_cases hc1 : cap = 1
            · subst hc1
              obtain rfl : n = 1 := by omega
              subst hmm
              go_wp2_with fail
              go_meet
              case rel => exact ⟨⟨_, _, rfl, rfl, fun j hj => by omega⟩, rfl, rfl⟩
            · have hc2 : ¬ (1 = cap) := by omega
              have hc3 : (1 : Int) ≤ (cap : Int) := by omega
              go_wp2_with fail
              go_meet
              case rel =>
                refine ⟨⟨_, _, by rw [hmm], by rw [hmm], fun j hj => ?_⟩, rfl, rfl⟩
                obtain ⟨-, -, cb', off', e, h1, h2⟩ := HC.out (j + 1) (by omega)
                cases e
                exact ⟨cb, off + 1, rfl, h1, by rw [Nat.add_assoc, Nat.add_comm 1 j]; exact h2⟩
        case rest =>
          obtain ⟨⟨A', c', rfl, rfl, hch⟩, rfl, rfl⟩ := hcut
          have HCH := Lib.hid hch
          have HNM := Lib.hid hmm
          clear hmm
          have HI : Hid (BkI w wr2 (.slice ao m0 cp) l 0) := ⟨HOK.out, by rw [HM0.out]; omega, by omega, by rw [HM0.out]; exact ownsRow_kp HO.out (kp_of_below HK3.out) (by simp), HB3.out⟩
          clear hch HOK HO HK3 HK2 HK1 HB3 HB2 HB1 HB h7 h6 HM0 HQ
          obtain ⟨wo, rfl⟩ : ∃ wo : World, wo = wr2 := ⟨_, rfl⟩
          go_wp2_with fail
          go_loopg [9, 10, 12, 13, 73] mm (fun g p u _ _ i wr => ∃ (k : Nat) (toks : Bs), k + g = mm ∧ i = .int .i64 (k : Int) ∧ u = .string ⟨(pairL (usedB toks)).toArray⟩ ∧ Hid (BkI w wr p toks k))
          case atStart => exact ⟨0, l, by omega, rfl, rfl, HI⟩
          case round =>
            obtain ⟨k, toks, hkg, rfl, rfl, HJ⟩ := hrel
            by_cases hlt : k < mm
            · obtain ⟨cb, off, rfl, hcl, hcell0⟩ := HCH.out k hlt
              obtain ⟨hx0, hx1, -⟩ := HC.out (k + 1) (by have := HNM.out; omega)
              have hcell := (HJ.out.2.2.2.2.cell (p := ⟨cb, off + k, none⟩) hcl).trans hcell0
              clear hcell0
              obtain ⟨x, hx⟩ : ∃ x, z (k + 1) = x := ⟨_, rfl⟩
              rw [hx] at hx0 hx1 hcell
              clear hx
              obtain ⟨q, hq⟩ : ∃ q : Nat, x % 19 = (q : Int) := ⟨(x % 19).toNat, by omega⟩
              have hq19 : q < 19 := by omega
              obtain ⟨c, hcm2, hcd, hc37⟩ := letter_at q hq19
              have t1 : decide ((k : Int) < (mm : Int)) = true := by rw [decide_eq_true_eq]; omega
              have hki : (k : Int) < (mm : Int) := by omega
              have hu8 : IntKind.u8.wrap ((q : Int) + 1) = (q : Int) + 1 := by
                have h1 : IntKind.u8.wrap ((q : Int) + 1) = (((q : Int) + 1) % 256) := rfl
                omega
              have hcd2 : List.take 1 (List.drop q [89, 121, 109, 100, 72, 77, 83, 101, 73, 112, 106, 117, 71, 86, 66, 98, 65, 97, 115]) = [c] := hcd
              have hap : (⟨#[37]⟩ : ByteArray) ++ ⟨#[c]⟩ = ⟨#[37, c]⟩ := ba_append [37] [c]
              have hk30 : k ≤ 30 := by have := HNM.out; omega
              obtain ⟨hok, hl1, hl2, hown, hbl⟩ := HJ.out
              have hpc := pair_contains hc37 (usedB toks) (used_no37 hok)
              have hplen := pair_len (usedB toks)
              have CO := containsW_any (pairL (usedB toks)) [37, c] (by omega) wr (maxIs_low HMM.out hbl)
              rw [hpc] at CO
              have HOKB := Lib.hid (And.intro hok (And.intro hl1 hl2))
              obtain ⟨pu, hpu⟩ : ∃ pu, pairL (usedB toks) = pu := ⟨_, rfl⟩
              rw [hpu] at CO hplen ⊢
              have HPU := Lib.hid hpu
              obtain ⟨tl, htl⟩ : ∃ tl, toks.length = tl := ⟨_, rfl⟩
              rw [htl] at hown hl1
              have HTL := Lib.hid htl
              obtain ⟨ao', cp', rfl⟩ := owns_slice hown
              have HOW := Lib.hid hown
              have HBL := Lib.hid hbl
              have HCM := Lib.hid (And.intro hcm2 hc37)
              clear hpc hpu hok hown hbl htl hcd hcm2 hc37 hlt HJ
              by_cases hm : c ∈ usedB toks
              · rw [decide_eq_true hm] at CO
                have CO := Lib.hid CO
                have HIN := Lib.hid hm
                clear hm
                go_wp2_with (go_at_call 11; refine CO.out.mono ?_; rintro e wk ⟨rfl, rfl⟩)
                go_roundg (gk - 1)
                case measure => omega
                case rel => exact ⟨k + 1, toks, by omega, by go_num, by rw [HPU.out], HOKB.out.1, by have := HOKB.out.2.1; omega, by have := HOKB.out.2.2; omega, by rw [HTL.out]; exact HOW.out, HBL.out⟩
              · rw [decide_eq_false hm] at CO
                have CO := Lib.hid CO
                have HIN := Lib.hid hm
                have hap2 : (⟨pu.toArray⟩ : ByteArray) ++ ⟨#[37, c]⟩ = ⟨(pu ++ [37, c]).toArray⟩ := ba_append pu [37, c]
                clear hm
                go_wp2_with (first | (go_at_call 11; refine CO.out.mono ?_; rintro e wk ⟨rfl, rfl⟩) | (at_builtin; go_loud (refine wpList_push1 rfl (.tmp 88) (.tmp 91) 28 rfl w.heap.size 9 (.string ⟨#[]⟩) 16 Tryz.underlying28 infoStr rfl (.slice ao' tl cp') tl _ rfl HOW.out (.string ⟨#[37, c]⟩) _ rfl rfl rfl (by unfold maxLen; omega) (by omega) HBL.out.size ?_); intro g4 c4 w7 hg4 hown4 hk4 hloc; have H7 := Lib.hid (And.intro hown4 (And.intro hk4 hg4)); clear hg4 hown4 hk4 hloc))
                go_roundg (gk - 1)
                case measure => omega
                case rel =>
                  have ha : addB toks c = toks ++ [c] := by unfold addB; rw [if_neg HIN.out]
                  have hk := HOKB.out.1.add HCM.out.1
                  have hal := add_len2 toks HCM.out.1
                  have hu := add_used (toks := toks) HCM.out.1
                  rw [if_neg HIN.out] at hu
                  rw [ha] at hk hal hu
                  refine ⟨k + 1, toks ++ [c], by omega, by go_num, by rw [hu, pair_snoc, HPU.out], hk, by have := HOKB.out.2.1; omega, by have := HOKB.out.2.2; omega, ?_, HBL.out.trans (H7.out.2.1.below HBL.out.size (fun d hd => (ownsRow_type HOW.out d (by simpa using hd)).1))⟩
                  have h7 := H7.out.1
                  rw [tokV_snoc, List.map_append, List.length_append, HTL.out]
                  exact h7
            · obtain rfl : k = mm := by omega
              have t1 : decide ((k : Int) < (k : Int)) = false := by rw [decide_eq_false_iff_not]; omega
              obtain ⟨hok, hl1, hl2, hown, hbl⟩ := HJ.out
              have hk30 : k ≤ 30 := by have := HNM.out; omega
              obtain ⟨ao', cp', rfl⟩ := owns_slice hown
              have HJO := Lib.hid (fun W (hW : Below wr.heap.size wr W) => joinW_any (tokV toks) [b] (.slice ao' toks.length cp') W (TxtRow.of_owns (by rw [tokV_len]; exact ownsRow_kp hown (kp_of_below hW) (by simp))) (by rw [tokV_len]; omega) (by have := (tokJ_len toks b).1; omega))
              have hjf : Lib.join (tokV toks) [b] = formB b toks := join_form b toks
              rw [hjf] at HJO
              have hfl := form_len b toks
              have HFA := Lib.hid (form_all hok HX.out.2 HX.out.1 (by omega) (by omega) t)
              obtain ⟨fm, hfm⟩ : ∃ fm, formB b toks = fm := ⟨_, rfl⟩
              rw [hfm] at HJO hfl HFA
              have hfl2 : fm.length ≤ 10000 := by omega
              have WR := Lib.hid (fun W (hW : Below w.heap.size w W) => Write_any t fm hfl2 W (HTT.out.below hW) (HPP.out.low hW))
              obtain ⟨tl, htl⟩ : ∃ tl, toks.length = tl := ⟨_, rfl⟩
              rw [htl] at HJO
              rw [htl]
              have HBL := Lib.hid hbl
              clear htl hfm hjf hok hown hbl hl1 hl2 hfl HJ
              have hcv : (convert 27 9 (.slice (some ⟨wr.heap.size, 0, none⟩) 1 1)).run Tryz.prog (wr.alloc (.cells #[.int .u8 (b.toNat : Int)] 5)) = .ok (.string ⟨#[b]⟩) (wr.alloc (.cells #[.int .u8 (b.toNat : Int)] 5)) :=
                run_convert_bytes_back _ 27 9 5 ⟨wr.heap.size, 0, none⟩ 1 [b] Tryz.underlying27 Tryz.underlying5 Tryz.underlying9 (fun j hj => by
                  obtain rfl : j = 0 := by simpa using hj
                  rw [show ((⟨wr.heap.size, 0, none⟩ : Addr).add 0) = ⟨wr.heap.size, 0, none⟩ from rfl]
                  simp only [World.cell?, heap_new wr (.cells #[.int .u8 (b.toNat : Int)] 5) rfl]
                  rfl)
              have HBA : Hid (Below wr.heap.size wr (wr.alloc (.cells #[.int .u8 (b.toNat : Int)] 5))) := (Below.refl _ _).alloc (Nat.le_refl _) _
              obtain ⟨s0, hs0⟩ : ∃ s0, (writeP t fm).1 = s0 := ⟨_, rfl⟩
              obtain ⟨e0, he0⟩ : ∃ e0, (writeP t fm).2 = e0 := ⟨_, rfl⟩
              simp only [hs0, he0] at WR HFA
              clear hs0 he0
              obtain ⟨hsl, ⟨h0, hr⟩ | ⟨h7, ht⟩⟩ := HFA.out
              · subst h0
                have RD := Lib.hid (fun W (hW : Below w.heap.size w W) => Read_any s0 fm hsl hfl2 W (HTT.out.below hW) (HEE.out.below hW))
                simp only [hr] at RD
                clear HFA hr hsl
                go_wp2_with (first | (go_at_call 9; refine (HJO.out _ HBA.out).mono ?_; rintro e w2 ⟨rfl, hB⟩; have H2 := Lib.hid (HBL.out.trans ((HBA.out.trans (hB.mono HBA.out.size)).mono HBL.out.size)); clear hB) | (go_at_call 12; refine (WR.out _ H2.out).mono ?_; rintro e w3 ⟨rfl, hB⟩; have H3 := Lib.hid (H2.out.trans (hB.mono H2.out.size)); clear hB) | (go_at_call 13; refine (RD.out _ H3.out).mono ?_; rintro e w4 ⟨rfl, hB⟩; have H4 := Lib.hid (H3.out.trans (hB.mono H3.out.size)); clear hB) | (go_at_call 6; refine (AW.out _ H4.out).mono ?_; rintro e w5 ⟨rfl, hB⟩; have H5 := Lib.hid (H4.out.trans (hB.mono H4.out.size)); clear hB))
                go_ret
                exact ⟨rfl, H5.out⟩
              · subst h7
                clear HFA hsl
                rcases ht with ht | ht
                · have t6 : decide (t < -62135596800) = true := by rw [decide_eq_true_eq]; exact ht
                  clear ht
                  go_wp2_with (first | (go_at_call 9; refine (HJO.out _ HBA.out).mono ?_; rintro e w2 ⟨rfl, hB⟩; have H2 := Lib.hid (HBL.out.trans ((HBA.out.trans (hB.mono HBA.out.size)).mono HBL.out.size)); clear hB) | (go_at_call 12; refine (WR.out _ H2.out).mono ?_; rintro e w3 ⟨rfl, hB⟩; have H3 := Lib.hid (H2.out.trans (hB.mono H2.out.size)); clear hB) | (go_at_call 6; refine (AW.out _ H3.out).mono ?_; rintro e w5 ⟨rfl, hB⟩; have H5 := Lib.hid (H3.out.trans (hB.mono H3.out.size)); clear hB))
                  go_ret
                  exact ⟨rfl, H5.out⟩
                · have t6 : decide (t < -62135596800) = false := by rw [decide_eq_false_iff_not]; omega
                  have t7 : decide (253402300799 < t) = true := by rw [decide_eq_true_eq]; exact ht
                  clear ht
                  go_wp2_with (first | (go_at_call 9; refine (HJO.out _ HBA.out).mono ?_; rintro e w2 ⟨rfl, hB⟩; have H2 := Lib.hid (HBL.out.trans ((HBA.out.trans (hB.mono HBA.out.size)).mono HBL.out.size)); clear hB) | (go_at_call 12; refine (WR.out _ H2.out).mono ?_; rintro e w3 ⟨rfl, hB⟩; have H3 := Lib.hid (H2.out.trans (hB.mono H2.out.size)); clear hB) | (go_at_call 6; refine (AW.out _ H3.out).mono ?_; rintro e w5 ⟨rfl, hB⟩; have H5 := Lib.hid (H3.out.trans (hB.mono H3.out.size)); clear hB))
                  go_ret
                  exact ⟨rfl, H5.out⟩
end Go.Proofs.YtkahakhhdiffcaaGreatDoor
