/- PipeBack: the walk. Printed by mkPBk.py. -/
import Derived.Test.YtafohdmhjilleaaDoorPBackP
import Derived.Test.YtafohdmhjilleaaDoorPLineP
import Derived.Deep.Grids
namespace Go.Proofs.YtafohdmhjilleaaDoor
set_option linter.unusedVariables false
set_option linter.unusedSimpArgs false
open Go.RowKit Go.Shelf

/-- A slice of bools that came in. -/
def Bools3 (W : World) (v : Value) : Prop := ∃ (o : Option Addr) (n cap : Nat) (z : Nat → Bool), v = .slice o n cap ∧ n ≤ cap ∧ cap ≤ maxLen ∧ ∀ i, i < n → ∃ cb off, o = some ⟨cb, off, none⟩ ∧ cb < W.heap.size ∧ W.cell? ⟨cb, off + i, none⟩ = some (.bool (z i))
/-- What holds at the loop's head. -/
def BkR (w : World) (mode : Bs) (b1 b2 n : Nat) (v57 : Value) (wr : World) : Prop := ∃ (i : Nat) (p q : PP) (fs1 fs2 : List (Nat × Bool)), i ≤ n ∧ v57 = .int .i64 (i : Int) ∧ fs1.length = i ∧ fs2.length = i ∧ fs1.map (·.2) = fs2.map (·.2) ∧ Pm mode p ∧ Pm mode q ∧ BkS w b1 b2 p q fs1 fs2 wr
theorem BkS.new {w W : World} {b1 b2 : Nat} {mode : Bs} (h : At2 w b1 (madeP mode mode) b2 (madeP mode mode) W) : BkS w b1 b2 (madeP mode mode) (madeP mode mode) [] [] W := ⟨h, fls_nil _ _, fls_nil _ _, fun _ => rfl, fun _ => rfl⟩
theorem contains_cr (a : Bs) (W : World) : Calls Tryd.prog 27 #[.string ⟨a.toArray⟩, .string ⟨#[13]⟩] W fun e w' => e = .returned (.bool (decide (0 ≤ Lib.indexByte a 13))) ∧ W = w' :=
  (Tryd.strings_Contains_one ⟨a.toArray⟩ 13 W).mono fun e w' ⟨h1, h2⟩ => ⟨h1, h2.symm⟩
theorem decide_map {k : Bool} {a b : List (Nat × Bool)} {x y : Nat} (h : a.map (·.2) = b.map (·.2)) : (a ++ [(x, k)]).map (·.2) = (b ++ [(y, k)]).map (·.2) := by simp [h]
theorem index_none' {l : Bs} (h : (13 : UInt8) ∉ l) : decide (0 ≤ Lib.indexByte l 13) = false := by
  have : Lib.indexByte l 13 = -1 := by
    induction l with
    | nil => rfl
    | cons c r ih =>
      simp only [List.mem_cons, not_or] at h
      unfold Lib.indexByte
      rw [if_neg (by simp; exact fun e => h.1 e.symm), ih h.2]
      rfl
  rw [this]; rfl
theorem index_in {l : Bs} (h : (13 : UInt8) ∈ l) : decide (0 ≤ Lib.indexByte l 13) = true := by
  by_cases hn : Lib.indexByte l 13 = -1
  · obtain ⟨k, hk⟩ := List.getElem?_of_mem h
    exact absurd hk (Lib.indexByte_none hn k)
  · rw [decide_eq_true_eq]
    have := Lib.indexByte_ge l 13
    omega
theorem Pm.new (mode : Bs) : Pm mode (madeP mode mode) := rfl
set_option maxRecDepth 100000 in
set_option maxHeartbeats 1600000 in
theorem back_long (s mode : Bs) (o : Option Addr) (n cap : Nat) (w : World) (hM : MaxIs w) (hs : 600 < s.length) :
    Calls Tryd.prog 8 #[.string ⟨s.toArray⟩, .string ⟨mode.toArray⟩, .slice o n cap] w fun e w' => e = .returned (.bool true) ∧ Below w.heap.size w w' := by
  have H0 := Lib.hid hM
  clear hM
  go_enter Tryd.func8, Tryd.ntmps8
  go_wp2_with (first | (go_at_call 10; refine (awake_any _ H0.out).mono ?_; rintro e w' ⟨rfl, hb⟩) | (go_at_call 27; refine (contains_cr s _).mono ?_; rintro e w1 ⟨rfl, rfl⟩))
  go_ret
  exact ⟨rfl, hb⟩
set_option maxRecDepth 100000 in
set_option maxHeartbeats 1600000 in
theorem back_many (s mode : Bs) (o : Option Addr) (n cap : Nat) (w : World) (hM : MaxIs w) (hs : s.length ≤ 600) (hn : 3 < n) :
    Calls Tryd.prog 8 #[.string ⟨s.toArray⟩, .string ⟨mode.toArray⟩, .slice o n cap] w fun e w' => e = .returned (.bool true) ∧ Below w.heap.size w w' := by
  have H0 := Lib.hid hM
  clear hM
  go_enter Tryd.func8, Tryd.ntmps8
  go_wp2_with (first | (go_at_call 10; refine (awake_any _ H0.out).mono ?_; rintro e w' ⟨rfl, hb⟩) | (go_at_call 27; refine (contains_cr s _).mono ?_; rintro e w1 ⟨rfl, rfl⟩))
  go_ret
  exact ⟨rfl, hb⟩
set_option maxRecDepth 100000 in
set_option maxHeartbeats 1600000 in
theorem back_mode (s mode : Bs) (o : Option Addr) (n cap : Nat) (w : World) (hM : MaxIs w) (hs : s.length ≤ 600) (hn : n ≤ 3) (hm : ¬ (mode = lfM ∨ mode = crM ∨ mode = crlfM)) :
    Calls Tryd.prog 8 #[.string ⟨s.toArray⟩, .string ⟨mode.toArray⟩, .slice o n cap] w fun e w' => e = .returned (.bool true) ∧ Below w.heap.size w w' := by
  have H0 := Lib.hid hM
  clear hM
  have t1 : (mode == ([108, 102] : Bs)) = false := beq_eq_false_iff_ne.2 (fun e => hm (.inl e))
  have t2 : (mode == ([99, 114] : Bs)) = false := beq_eq_false_iff_ne.2 (fun e => hm (.inr (.inl e)))
  have t3 : (mode == ([99, 114, 108, 102] : Bs)) = false := beq_eq_false_iff_ne.2 (fun e => hm (.inr (.inr e)))
  clear hm
  go_enter Tryd.func8, Tryd.ntmps8
  go_wp2_with (first | (go_at_call 10; refine (awake_any _ H0.out).mono ?_; rintro e w' ⟨rfl, hb⟩) | (go_at_call 27; refine (contains_cr s _).mono ?_; rintro e w1 ⟨rfl, rfl⟩))
  go_ret
  exact ⟨rfl, hb⟩
set_option maxRecDepth 100000 in
set_option maxHeartbeats 1600000 in
theorem back_13cr (s : Bs) (o : Option Addr) (n cap : Nat) (w : World) (hM : MaxIs w) (hs : s.length ≤ 600) (hn : n ≤ 3) (h13 : decide (0 ≤ Lib.indexByte s 13) = true) :
    Calls Tryd.prog 8 #[.string ⟨s.toArray⟩, .string ⟨#[99, 114]⟩, .slice o n cap] w fun e w' => e = .returned (.bool true) ∧ Below w.heap.size w w' := by
  have H0 := Lib.hid hM
  clear hM
  go_enter Tryd.func8, Tryd.ntmps8
  go_wp2_with (first | (go_at_call 10; refine (awake_any _ H0.out).mono ?_; rintro e w' ⟨rfl, hb⟩) | (go_at_call 27; refine (contains_cr s _).mono ?_; rintro e w1 ⟨rfl, rfl⟩))
  go_ret
  exact ⟨rfl, hb⟩
set_option maxRecDepth 100000 in
set_option maxHeartbeats 1600000 in
theorem back_13crlf (s : Bs) (o : Option Addr) (n cap : Nat) (w : World) (hM : MaxIs w) (hs : s.length ≤ 600) (hn : n ≤ 3) (h13 : decide (0 ≤ Lib.indexByte s 13) = true) :
    Calls Tryd.prog 8 #[.string ⟨s.toArray⟩, .string ⟨#[99, 114, 108, 102]⟩, .slice o n cap] w fun e w' => e = .returned (.bool true) ∧ Below w.heap.size w w' := by
  have H0 := Lib.hid hM
  clear hM
  go_enter Tryd.func8, Tryd.ntmps8
  go_wp2_with (first | (go_at_call 10; refine (awake_any _ H0.out).mono ?_; rintro e w' ⟨rfl, hb⟩) | (go_at_call 27; refine (contains_cr s _).mono ?_; rintro e w1 ⟨rfl, rfl⟩))
  go_ret
  exact ⟨rfl, hb⟩
set_option maxRecDepth 100000 in
set_option maxHeartbeats 3200000 in
theorem back_lf (s : Bs) (o : Option Addr) (n cap : Nat) (z : Nat → Bool) (w : World) (hM : MaxIs w) (hs : s.length ≤ 600) (hn : n ≤ 3) (h13 : lfM ≠ lfM → (13 : UInt8) ∉ s) (hnc : n ≤ cap) (hcm : cap ≤ maxLen) (hz : ∀ i, i < n → ∃ cb off, o = some ⟨cb, off, none⟩ ∧ cb < w.heap.size ∧ w.cell? ⟨cb, off + i, none⟩ = some (.bool (z i))) :
    Calls Tryd.prog 8 #[.string ⟨s.toArray⟩, .string ⟨#[108, 102]⟩, .slice o n cap] w fun e w' => e = .returned (.bool true) ∧ Below w.heap.size w w' := by
  have MM : Hid (∀ W, MaxIs W → Calls Tryd.prog 16 #[.string ⟨#[108, 102]⟩, .string ⟨#[108, 102]⟩, .int .i64 10] W fun e w' => ∃ b, e = .returned (.pointer (some ⟨b, 0, none⟩)) ∧ At1 W b (madeP lfM lfM) w') := fun W hW => made_at lfM lfM rfl rfl W hW
  have hN := fun W b => ptr_nil W b
  have H0 := Lib.hid hM
  have HZ := Lib.hid hz
  have H13 := Lib.hid h13
  have HL := Lib.hid (outM_len lfM s).2
  unfold maxLen at hcm
  clear hM hz h13
  go_enter Tryd.func8, Tryd.ntmps8
  go_wp2_with (first | (go_at_call 16; refine (MM.out _ H0.out).mono ?_; rintro e w1 ⟨b1, rfl, h1⟩; have H1 := Lib.hid h1; clear h1 H0) | (go_at_call 16; refine (MM.out _ H1.out.max).mono ?_; rintro e w2 ⟨b2, rfl, h2⟩; have H2 := Lib.hid (At2.of H1.out h2); clear h2 H1 MM))
  go_loopw [57] (fun v57 wr => BkR w lfM b1 b2 n v57 wr) (fun v57 _ => n - (intOf v57).toNat)
  case atStart => exact ⟨0, _, _, [], [], Nat.zero_le _, rfl, rfl, rfl, rfl, Pm.new _, Pm.new _, BkS.new H2.out⟩
  case round =>
    obtain ⟨i, p, q, fs1, fs2, hi, rfl, hl1, hl2, hks, hp, hq, hB⟩ := hrel
    clear H2
    by_cases hlt : i < n
    · obtain ⟨cb, off, rfl, hcb, hcell⟩ := HZ.out i hlt
      have hcc := (hB.at2.below.cell (p := ⟨cb, off + i, none⟩) hcb).trans hcell
      have HB := Lib.hid hB
      have HX := Lib.hid (And.intro hl1 (And.intro hl2 (And.intro hks (And.intro hp hq))))
      have hic : (i : Int) < (cap : Int) := by omega
      clear hB hl1 hl2 hks hp hq hcell
      obtain ⟨k, hk⟩ : ∃ k, z i = k := ⟨_, rfl⟩
      rw [hk] at hcc
      clear hk
      cases k
      · go_wp2_with (first | (go_at_call_of 28 (Value.pointer (some ⟨b1, 0, none⟩)); refine (lay_1 HB.out (by have := HX.out.1; omega) false).mono ?_; rintro e w3 ⟨rfl, v1, f1, hb3⟩; replace HB := Lib.hid hb3; clear hb3) | (go_at_call_of 28 (Value.pointer (some ⟨b2, 0, none⟩)); refine (lay_2 HB.out (by have := HX.out.2.1; omega) false).mono ?_; rintro e w4 ⟨rfl, v2, f2, hb4⟩; replace HB := Lib.hid hb4; clear hb4))
        go_roundw
        case rel => exact ⟨i + 1, _, _, _, _, hlt, by go_num, by simp [HX.out.1], by simp [HX.out.2.1], decide_map HX.out.2.2.1, HX.out.2.2.2.1.fv _, HX.out.2.2.2.2.fv _, HB.out⟩
        case measure => simp [intOf]; omega
      · go_wp2_with (first | (go_at_call_of 28 (Value.pointer (some ⟨b1, 0, none⟩)); refine (lay_1 HB.out (by have := HX.out.1; omega) true).mono ?_; rintro e w3 ⟨rfl, v1, f1, hb3⟩; replace HB := Lib.hid hb3; clear hb3) | (go_at_call_of 28 (Value.pointer (some ⟨b2, 0, none⟩)); refine (lay_2 HB.out (by have := HX.out.2.1; omega) true).mono ?_; rintro e w4 ⟨rfl, v2, f2, hb4⟩; replace HB := Lib.hid hb4; clear hb4))
        go_roundw
        case rel => exact ⟨i + 1, _, _, _, _, hlt, by go_num, by simp [HX.out.1], by simp [HX.out.2.1], decide_map HX.out.2.2.1, HX.out.2.2.2.1.fv _, HX.out.2.2.2.2.fv _, HB.out⟩
        case measure => simp [intOf]; omega
    · have h31 : fs1.length ≤ 3 := by omega
      have h32 : fs2.length ≤ 3 := by omega
      have HB := Lib.hid hB
      have HX := Lib.hid (And.intro hks (And.intro hp hq))
      have hin : ¬ (i : Int) < (n : Int) := by omega
      clear hB hks hp hq
      go_wp2_with (first | (go_at_call 11; refine (bwrite_1 HB.out HX.out.2.1 rfl h31 s hs).mono ?_; rintro e w5 ⟨rfl, hb5⟩; replace HB := Lib.hid hb5; clear hb5) | (go_at_call 13; refine (bflush_1 HX.out.2.1 h31 s hs HB.out).mono ?_; rintro e w6 ⟨rfl, p6, hg6, hb6⟩; replace HB := Lib.hid hb6; have HG := Lib.hid hg6; clear hb6 hg6) | (go_at_call 15; refine (bout_1 HB.out HG.out).mono ?_; rintro e w7 ⟨rfl, hb7⟩; replace HB := Lib.hid hb7; clear hb7) | (go_at_call 17; refine (bfeed_2 HB.out HX.out.2.2 h32 HX.out.1 (outM lfM s) (by have := HL.out; omega)).mono ?_; rintro e w8 ⟨rfl, hb8⟩; replace HB := Lib.hid hb8; clear hb8) | (go_at_call 18; refine (bclose_2 HB.out HX.out.2.2).mono ?_; rintro e w9 ⟨rfl, hb9⟩; replace HB := Lib.hid hb9; clear hb9) | (go_at_call 19; refine (bread_2 (s := s) (mode := lfM) HB.out HX.out.2.2 (by simp) hs H13.out).mono ?_; rintro e w10 ⟨rfl, hb10, hm10⟩; have HE := Lib.hid (And.intro hb10 hm10); clear hb10 hm10) | (go_at_call 10; refine (awake_any _ HE.out.2).mono ?_; rintro e w11 ⟨rfl, hb11⟩; have HZ := Lib.hid (HE.out.1.trans (hb11.mono HE.out.1.size)); clear hb11))
      go_ret
      exact ⟨rfl, HZ.out⟩
set_option maxRecDepth 100000 in
set_option maxHeartbeats 3200000 in
theorem back_cr (s : Bs) (o : Option Addr) (n cap : Nat) (z : Nat → Bool) (w : World) (hM : MaxIs w) (hs : s.length ≤ 600) (hn : n ≤ 3) (h13 : crM ≠ lfM → (13 : UInt8) ∉ s) (hnc : n ≤ cap) (hcm : cap ≤ maxLen) (hz : ∀ i, i < n → ∃ cb off, o = some ⟨cb, off, none⟩ ∧ cb < w.heap.size ∧ w.cell? ⟨cb, off + i, none⟩ = some (.bool (z i))) :
    Calls Tryd.prog 8 #[.string ⟨s.toArray⟩, .string ⟨#[99, 114]⟩, .slice o n cap] w fun e w' => e = .returned (.bool true) ∧ Below w.heap.size w w' := by
  have MM : Hid (∀ W, MaxIs W → Calls Tryd.prog 16 #[.string ⟨#[99, 114]⟩, .string ⟨#[99, 114]⟩, .int .i64 10] W fun e w' => ∃ b, e = .returned (.pointer (some ⟨b, 0, none⟩)) ∧ At1 W b (madeP crM crM) w') := fun W hW => made_at crM crM rfl rfl W hW
  have hN := fun W b => ptr_nil W b
  have H0 := Lib.hid hM
  have HZ := Lib.hid hz
  have H13 := Lib.hid h13
  have HL := Lib.hid (outM_len crM s).2
  have t13 := index_none' (h13 (by decide))
  unfold maxLen at hcm
  clear hM hz h13
  go_enter Tryd.func8, Tryd.ntmps8
  go_wp2_with (first | (go_at_call 27; refine (contains_cr s _).mono ?_; rintro e w1 ⟨rfl, rfl⟩) | (go_at_call 16; refine (MM.out _ H0.out).mono ?_; rintro e w1 ⟨b1, rfl, h1⟩; have H1 := Lib.hid h1; clear h1 H0) | (go_at_call 16; refine (MM.out _ H1.out.max).mono ?_; rintro e w2 ⟨b2, rfl, h2⟩; have H2 := Lib.hid (At2.of H1.out h2); clear h2 H1 MM))
  go_loopw [57] (fun v57 wr => BkR w crM b1 b2 n v57 wr) (fun v57 _ => n - (intOf v57).toNat)
  case atStart => exact ⟨0, _, _, [], [], Nat.zero_le _, rfl, rfl, rfl, rfl, Pm.new _, Pm.new _, BkS.new H2.out⟩
  case round =>
    obtain ⟨i, p, q, fs1, fs2, hi, rfl, hl1, hl2, hks, hp, hq, hB⟩ := hrel
    clear H2
    by_cases hlt : i < n
    · obtain ⟨cb, off, rfl, hcb, hcell⟩ := HZ.out i hlt
      have hcc := (hB.at2.below.cell (p := ⟨cb, off + i, none⟩) hcb).trans hcell
      have HB := Lib.hid hB
      have HX := Lib.hid (And.intro hl1 (And.intro hl2 (And.intro hks (And.intro hp hq))))
      have hic : (i : Int) < (cap : Int) := by omega
      clear hB hl1 hl2 hks hp hq hcell
      obtain ⟨k, hk⟩ : ∃ k, z i = k := ⟨_, rfl⟩
      rw [hk] at hcc
      clear hk
      cases k
      · go_wp2_with (first | (go_at_call_of 28 (Value.pointer (some ⟨b1, 0, none⟩)); refine (lay_1 HB.out (by have := HX.out.1; omega) false).mono ?_; rintro e w3 ⟨rfl, v1, f1, hb3⟩; replace HB := Lib.hid hb3; clear hb3) | (go_at_call_of 28 (Value.pointer (some ⟨b2, 0, none⟩)); refine (lay_2 HB.out (by have := HX.out.2.1; omega) false).mono ?_; rintro e w4 ⟨rfl, v2, f2, hb4⟩; replace HB := Lib.hid hb4; clear hb4))
        go_roundw
        case rel => exact ⟨i + 1, _, _, _, _, hlt, by go_num, by simp [HX.out.1], by simp [HX.out.2.1], decide_map HX.out.2.2.1, HX.out.2.2.2.1.fv _, HX.out.2.2.2.2.fv _, HB.out⟩
        case measure => simp [intOf]; omega
      · go_wp2_with (first | (go_at_call_of 28 (Value.pointer (some ⟨b1, 0, none⟩)); refine (lay_1 HB.out (by have := HX.out.1; omega) true).mono ?_; rintro e w3 ⟨rfl, v1, f1, hb3⟩; replace HB := Lib.hid hb3; clear hb3) | (go_at_call_of 28 (Value.pointer (some ⟨b2, 0, none⟩)); refine (lay_2 HB.out (by have := HX.out.2.1; omega) true).mono ?_; rintro e w4 ⟨rfl, v2, f2, hb4⟩; replace HB := Lib.hid hb4; clear hb4))
        go_roundw
        case rel => exact ⟨i + 1, _, _, _, _, hlt, by go_num, by simp [HX.out.1], by simp [HX.out.2.1], decide_map HX.out.2.2.1, HX.out.2.2.2.1.fv _, HX.out.2.2.2.2.fv _, HB.out⟩
        case measure => simp [intOf]; omega
    · have h31 : fs1.length ≤ 3 := by omega
      have h32 : fs2.length ≤ 3 := by omega
      have HB := Lib.hid hB
      have HX := Lib.hid (And.intro hks (And.intro hp hq))
      have hin : ¬ (i : Int) < (n : Int) := by omega
      clear hB hks hp hq
      go_wp2_with (first | (go_at_call 11; refine (bwrite_1 HB.out HX.out.2.1 rfl h31 s hs).mono ?_; rintro e w5 ⟨rfl, hb5⟩; replace HB := Lib.hid hb5; clear hb5) | (go_at_call 13; refine (bflush_1 HX.out.2.1 h31 s hs HB.out).mono ?_; rintro e w6 ⟨rfl, p6, hg6, hb6⟩; replace HB := Lib.hid hb6; have HG := Lib.hid hg6; clear hb6 hg6) | (go_at_call 15; refine (bout_1 HB.out HG.out).mono ?_; rintro e w7 ⟨rfl, hb7⟩; replace HB := Lib.hid hb7; clear hb7) | (go_at_call 17; refine (bfeed_2 HB.out HX.out.2.2 h32 HX.out.1 (outM crM s) (by have := HL.out; omega)).mono ?_; rintro e w8 ⟨rfl, hb8⟩; replace HB := Lib.hid hb8; clear hb8) | (go_at_call 18; refine (bclose_2 HB.out HX.out.2.2).mono ?_; rintro e w9 ⟨rfl, hb9⟩; replace HB := Lib.hid hb9; clear hb9) | (go_at_call 19; refine (bread_2 (s := s) (mode := crM) HB.out HX.out.2.2 (by simp) hs H13.out).mono ?_; rintro e w10 ⟨rfl, hb10, hm10⟩; have HE := Lib.hid (And.intro hb10 hm10); clear hb10 hm10) | (go_at_call 10; refine (awake_any _ HE.out.2).mono ?_; rintro e w11 ⟨rfl, hb11⟩; have HZ := Lib.hid (HE.out.1.trans (hb11.mono HE.out.1.size)); clear hb11))
      go_ret
      exact ⟨rfl, HZ.out⟩
set_option maxRecDepth 100000 in
set_option maxHeartbeats 3200000 in
theorem back_crlf (s : Bs) (o : Option Addr) (n cap : Nat) (z : Nat → Bool) (w : World) (hM : MaxIs w) (hs : s.length ≤ 600) (hn : n ≤ 3) (h13 : crlfM ≠ lfM → (13 : UInt8) ∉ s) (hnc : n ≤ cap) (hcm : cap ≤ maxLen) (hz : ∀ i, i < n → ∃ cb off, o = some ⟨cb, off, none⟩ ∧ cb < w.heap.size ∧ w.cell? ⟨cb, off + i, none⟩ = some (.bool (z i))) :
    Calls Tryd.prog 8 #[.string ⟨s.toArray⟩, .string ⟨#[99, 114, 108, 102]⟩, .slice o n cap] w fun e w' => e = .returned (.bool true) ∧ Below w.heap.size w w' := by
  have MM : Hid (∀ W, MaxIs W → Calls Tryd.prog 16 #[.string ⟨#[99, 114, 108, 102]⟩, .string ⟨#[99, 114, 108, 102]⟩, .int .i64 10] W fun e w' => ∃ b, e = .returned (.pointer (some ⟨b, 0, none⟩)) ∧ At1 W b (madeP crlfM crlfM) w') := fun W hW => made_at crlfM crlfM rfl rfl W hW
  have hN := fun W b => ptr_nil W b
  have H0 := Lib.hid hM
  have HZ := Lib.hid hz
  have H13 := Lib.hid h13
  have HL := Lib.hid (outM_len crlfM s).2
  have t13 := index_none' (h13 (by decide))
  unfold maxLen at hcm
  clear hM hz h13
  go_enter Tryd.func8, Tryd.ntmps8
  go_wp2_with (first | (go_at_call 27; refine (contains_cr s _).mono ?_; rintro e w1 ⟨rfl, rfl⟩) | (go_at_call 16; refine (MM.out _ H0.out).mono ?_; rintro e w1 ⟨b1, rfl, h1⟩; have H1 := Lib.hid h1; clear h1 H0) | (go_at_call 16; refine (MM.out _ H1.out.max).mono ?_; rintro e w2 ⟨b2, rfl, h2⟩; have H2 := Lib.hid (At2.of H1.out h2); clear h2 H1 MM))
  go_loopw [57] (fun v57 wr => BkR w crlfM b1 b2 n v57 wr) (fun v57 _ => n - (intOf v57).toNat)
  case atStart => exact ⟨0, _, _, [], [], Nat.zero_le _, rfl, rfl, rfl, rfl, Pm.new _, Pm.new _, BkS.new H2.out⟩
  case round =>
    obtain ⟨i, p, q, fs1, fs2, hi, rfl, hl1, hl2, hks, hp, hq, hB⟩ := hrel
    clear H2
    by_cases hlt : i < n
    · obtain ⟨cb, off, rfl, hcb, hcell⟩ := HZ.out i hlt
      have hcc := (hB.at2.below.cell (p := ⟨cb, off + i, none⟩) hcb).trans hcell
      have HB := Lib.hid hB
      have HX := Lib.hid (And.intro hl1 (And.intro hl2 (And.intro hks (And.intro hp hq))))
      have hic : (i : Int) < (cap : Int) := by omega
      clear hB hl1 hl2 hks hp hq hcell
      obtain ⟨k, hk⟩ : ∃ k, z i = k := ⟨_, rfl⟩
      rw [hk] at hcc
      clear hk
      cases k
      · go_wp2_with (first | (go_at_call_of 28 (Value.pointer (some ⟨b1, 0, none⟩)); refine (lay_1 HB.out (by have := HX.out.1; omega) false).mono ?_; rintro e w3 ⟨rfl, v1, f1, hb3⟩; replace HB := Lib.hid hb3; clear hb3) | (go_at_call_of 28 (Value.pointer (some ⟨b2, 0, none⟩)); refine (lay_2 HB.out (by have := HX.out.2.1; omega) false).mono ?_; rintro e w4 ⟨rfl, v2, f2, hb4⟩; replace HB := Lib.hid hb4; clear hb4))
        go_roundw
        case rel => exact ⟨i + 1, _, _, _, _, hlt, by go_num, by simp [HX.out.1], by simp [HX.out.2.1], decide_map HX.out.2.2.1, HX.out.2.2.2.1.fv _, HX.out.2.2.2.2.fv _, HB.out⟩
        case measure => simp [intOf]; omega
      · go_wp2_with (first | (go_at_call_of 28 (Value.pointer (some ⟨b1, 0, none⟩)); refine (lay_1 HB.out (by have := HX.out.1; omega) true).mono ?_; rintro e w3 ⟨rfl, v1, f1, hb3⟩; replace HB := Lib.hid hb3; clear hb3) | (go_at_call_of 28 (Value.pointer (some ⟨b2, 0, none⟩)); refine (lay_2 HB.out (by have := HX.out.2.1; omega) true).mono ?_; rintro e w4 ⟨rfl, v2, f2, hb4⟩; replace HB := Lib.hid hb4; clear hb4))
        go_roundw
        case rel => exact ⟨i + 1, _, _, _, _, hlt, by go_num, by simp [HX.out.1], by simp [HX.out.2.1], decide_map HX.out.2.2.1, HX.out.2.2.2.1.fv _, HX.out.2.2.2.2.fv _, HB.out⟩
        case measure => simp [intOf]; omega
    · have h31 : fs1.length ≤ 3 := by omega
      have h32 : fs2.length ≤ 3 := by omega
      have HB := Lib.hid hB
      have HX := Lib.hid (And.intro hks (And.intro hp hq))
      have hin : ¬ (i : Int) < (n : Int) := by omega
      clear hB hks hp hq
      go_wp2_with (first | (go_at_call 11; refine (bwrite_1 HB.out HX.out.2.1 rfl h31 s hs).mono ?_; rintro e w5 ⟨rfl, hb5⟩; replace HB := Lib.hid hb5; clear hb5) | (go_at_call 13; refine (bflush_1 HX.out.2.1 h31 s hs HB.out).mono ?_; rintro e w6 ⟨rfl, p6, hg6, hb6⟩; replace HB := Lib.hid hb6; have HG := Lib.hid hg6; clear hb6 hg6) | (go_at_call 15; refine (bout_1 HB.out HG.out).mono ?_; rintro e w7 ⟨rfl, hb7⟩; replace HB := Lib.hid hb7; clear hb7) | (go_at_call 17; refine (bfeed_2 HB.out HX.out.2.2 h32 HX.out.1 (outM crlfM s) (by have := HL.out; omega)).mono ?_; rintro e w8 ⟨rfl, hb8⟩; replace HB := Lib.hid hb8; clear hb8) | (go_at_call 18; refine (bclose_2 HB.out HX.out.2.2).mono ?_; rintro e w9 ⟨rfl, hb9⟩; replace HB := Lib.hid hb9; clear hb9) | (go_at_call 19; refine (bread_2 (s := s) (mode := crlfM) HB.out HX.out.2.2 (by simp) hs H13.out).mono ?_; rintro e w10 ⟨rfl, hb10, hm10⟩; have HE := Lib.hid (And.intro hb10 hm10); clear hb10 hm10) | (go_at_call 10; refine (awake_any _ HE.out.2).mono ?_; rintro e w11 ⟨rfl, hb11⟩; have HZ := Lib.hid (HE.out.1.trans (hb11.mono HE.out.1.size)); clear hb11))
      go_ret
      exact ⟨rfl, HZ.out⟩
end Go.Proofs.YtafohdmhjilleaaDoor
