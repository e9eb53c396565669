/- pipe.Outward: what a text becomes by a translation. -/
import Derived.Test.YtafohdmhjilleaaDoorPIn
import Derived.Test.YtafohdmhjilleaaDoorVMap
import Derived.Outline
namespace Go.Proofs.YtafohdmhjilleaaDoor
set_option linter.unusedVariables false
set_option linter.unusedSimpArgs false
open Go.RowKit Go.Shelf
open Go.Maps (Keyed string_keyed)

theorem replK (new : Bs) : ∀ (n : Nat) (s : Bs), s.length ≤ n → Lib.replaceK [10] new (Lib.count s [10]) s = s.flatMap (fun c => if c = 10 then new else [c]) := by
  intro n
  induction n with
  | zero =>
    intro s h
    obtain rfl : s = [] := List.length_eq_zero_iff.1 (by omega)
    rfl
  | succ n ih =>
    intro s h
    cases s with
    | nil => rfl
    | cons c r =>
      by_cases hc : c = 10
      · subst hc
        have hi : Lib.index (10 :: r) [10] = (0 : Nat) := by simp [Lib.index]
        rw [Lib.count_hit (by simp) hi, Nat.add_comm, Lib.replaceK_hit _ _ _ _ _ hi]
        simp only [List.length_cons, List.length_nil, Nat.zero_add, List.take_zero, List.nil_append, List.drop_succ_cons, List.drop_zero, List.flatMap_cons]
        rw [ih r (by simp at h; omega)]
        simp
      · have hp : List.isPrefixOf [10] (c :: r) = false := by
          rw [← Bool.not_eq_true]
          intro h
          simp [List.isPrefixOf] at h
          exact hc h.symm
        have ihr := ih r (by simp at h; omega)
        simp only [List.flatMap_cons, if_neg hc]
        by_cases hm : Lib.index r [10] = -1
        · have hi : Lib.index (c :: r) [10] = -1 := by simp [Lib.index, hp, hm]
          rw [Lib.count_miss hi]
          rw [Lib.count_miss hm] at ihr
          rw [← ihr]
          rfl
        · have hge := Lib.index_ge r [10]
          obtain ⟨i, hi⟩ : ∃ i : Nat, Lib.index r [10] = i := ⟨(Lib.index r [10]).toNat, by omega⟩
          have hi2 : Lib.index (c :: r) [10] = (i + 1 : Nat) := by
            rw [Lib.index, hp]
            simp only [Bool.false_eq_true, if_false, hi]
            rw [if_neg (by simp <;> omega)]
            rfl
          rw [Lib.count_hit (by simp) hi2, Nat.add_comm, Lib.replaceK_hit _ _ _ _ _ hi2]
          rw [Lib.count_hit (by simp) hi, Nat.add_comm, Lib.replaceK_hit _ _ _ _ _ hi] at ihr
          simp only [List.length_cons, List.length_nil, Nat.zero_add] at ihr ⊢
          rw [List.take_succ_cons, show i + 1 + 1 = (i + 1) + 1 from rfl, List.drop_succ_cons, ← ihr]
          simp
theorem replaceAll_ten (new s : Bs) (hne : new ≠ [10]) : Lib.replaceAll s [10] new = s.flatMap (fun c => if c = 10 then new else [c]) := by
  unfold Lib.replaceAll Lib.replace Lib.replaceNum
  rw [if_neg (by simp; exact fun e => hne e.symm), if_pos (.inl (by omega))]
  exact replK new s.length s (Nat.le_refl _)
theorem replaceAll_same (s : Bs) : Lib.replaceAll s [10] [10] = s := by
  unfold Lib.replaceAll Lib.replace
  rw [if_pos (by simp)]
/-- What a line feed becomes. -/
def endM (mode : Bs) : Bs := if mode = crM then [13] else if mode = crlfM then [13, 10] else [10]
theorem replaceAll_out {mode : Bs} (hm : mode = lfM ∨ mode = crM ∨ mode = crlfM) (s : Bs) : Lib.replaceAll s [10] (endM mode) = outM mode s := by
  rcases hm with rfl | rfl | rfl
  · rw [show endM lfM = [10] from rfl, replaceAll_same]; rfl
  · rw [show endM crM = [13] from rfl, replaceAll_ten _ _ (by simp)]; rfl
  · rw [show endM crlfM = [13, 10] from rfl, replaceAll_ten _ _ (by simp)]; rfl

def sv (b : Bs) : Value := .string ⟨b.toArray⟩
theorem sv_inj (a b : Bs) (h : sv a = sv b) : a = b := by
  simp only [sv, Value.string.injEq, ByteArray.mk.injEq] at h
  simpa using congrArg Array.toList h
theorem Skeyed : Keyed Tryd.prog 9 := string_keyed Tryd.underlying9
theorem skey {s : Bs} (hs : s.length ≤ maxLen) : keyOf Tryd.prog 9 (sv s) = some (.string s) := WideMaps.keyOf_string_mk Tryd.underlying9 (by simpa [ByteArray.size] using hs)
theorem zero_string (w : World) : (zeroValue 9).run Tryd.prog w = .ok (.string ⟨#[]⟩) w := by kernel_rfl

/-- The map literal of Outward: made, filled, asked. -/
theorem lit_map (w : World) : ∃ w1 w2 w3, Below w.heap.size w w3 ∧
    (Instr.makeMap 56 none).run Tryd.prog w = .ok (.map (some w.heap.size)) (w.alloc (.map #[] 0)) ∧
    (Instr.mapUpdate 56 (.map (some w.heap.size)) (.string ⟨#[108, 102]⟩) (.string ⟨#[10]⟩)).run Tryd.prog (w.alloc (.map #[] 0)) = .ok () w1 ∧
    (Instr.mapUpdate 56 (.map (some w.heap.size)) (.string ⟨#[99, 114]⟩) (.string ⟨#[13]⟩)).run Tryd.prog w1 = .ok () w2 ∧
    (Instr.mapUpdate 56 (.map (some w.heap.size)) (.string ⟨#[99, 114, 108, 102]⟩) (.string ⟨#[13, 10]⟩)).run Tryd.prog w2 = .ok () w3 ∧
    ∀ m, m = lfM ∨ m = crM ∨ m = crlfM → (Instr.lookup 56 (.map (some w.heap.size)) (.string ⟨m.toArray⟩) false).run Tryd.prog w3 = .ok (.string ⟨(endM m).toArray⟩) w3 := by
  have h0 := mapAt_new Tryd.prog 9 sv w
  obtain ⟨w1, r1, o1, m1⟩ := h0.store Skeyed Tryd.underlying56 sv_inj (k := lfM) (skey (by decide)) (.string ⟨#[10]⟩)
  obtain ⟨w2, r2, o2, m2⟩ := m1.store Skeyed Tryd.underlying56 sv_inj (k := crM) (skey (by decide)) (.string ⟨#[13]⟩)
  obtain ⟨w3, r3, o3, m3⟩ := m2.store Skeyed Tryd.underlying56 sv_inj (k := crlfM) (skey (by decide)) (.string ⟨#[13, 10]⟩)
  refine ⟨w1, w2, w3, ?_, run_makeMap _ _, r1, r2, r3, fun m hm => ?_⟩
  · exact ((((Below.refl _ w).alloc (Nat.le_refl _) _).trans (o1.below (Nat.le_refl _))).trans (o2.below (Nat.le_refl _))).trans (o3.below (Nat.le_refl _))
  · have := m3.look Skeyed Tryd.underlying56 (zero_string w3) (k := m) (l := .string m) (skey (by rcases hm with rfl | rfl | rfl <;> decide))
    rcases hm with rfl | rfl | rfl
    · exact this
    · exact this
    · exact this

/-- What internal/bytealg.MaxLen holds is a number. -/
def MaxIs (w : World) : Prop := ∃ m, w.cell? ⟨0, 0, none⟩ = some (.int .i64 m)
theorem MaxIs.below {w w' : World} {B : Nat} (h : MaxIs w) (hb : Below B w w') (hB : 0 < B) : MaxIs w' := by
  obtain ⟨m, hm⟩ := h
  exact ⟨m, (hb.cell (p := ⟨0, 0, none⟩) hB).trans hm⟩
theorem MaxIs.pos {w : World} (h : MaxIs w) : 0 < w.heap.size := by
  obtain ⟨m, hm⟩ := h
  rcases Nat.lt_or_ge 0 w.heap.size with h' | h'
  · exact h'
  · exfalso
    simp [World.cell?, Array.getElem?_eq_none h'] at hm

theorem replace_any {mode : Bs} (hm : mode = lfM ∨ mode = crM ∨ mode = crlfM) (s : Bs) (hs : s.length ≤ 10000000) (w : World) (hM : MaxIs w) :
    Calls Tryd.prog 34 #[.string ⟨s.toArray⟩, .string ⟨#[10]⟩, .string ⟨(endM mode).toArray⟩] w fun e w' => e = .returned (.string ⟨(outM mode s).toArray⟩) ∧ Below w.heap.size w w' := by
  obtain ⟨m, hm0⟩ := hM
  have hl : (endM mode).length ≤ 2 := by rcases hm with rfl | rfl | rfl <;> decide
  have hc := Lib.count_le s [10]
  have hcb : Lib.countB ⟨s.toArray⟩ ⟨#[10]⟩ = Lib.count s [10] := rfl
  have := Tryd.strings_ReplaceAll ⟨s.toArray⟩ ⟨#[10]⟩ ⟨(endM mode).toArray⟩ m w (by show s.length < _; omega) hm0 (by decide) (by
    rw [hcb]
    show s.length + Lib.count s [10] * (endM mode).length ≤ _
    have : Lib.count s [10] * (endM mode).length ≤ (s.length + 1) * 2 := Nat.mul_le_mul hc hl
    omega)
  rwa [show (⟨s.toArray⟩ : ByteArray).data.toList = s from rfl, show (⟨(endM mode).toArray⟩ : ByteArray).data.toList = endM mode from rfl, show (⟨#[10]⟩ : ByteArray).data.toList = [10] from rfl, replaceAll_out hm] at this

theorem outM_cases {m : Bs} (h : isOutM m = true) : m = lfM ∨ m = crM ∨ m = crlfM := by
  simp only [isOutM, Bool.or_eq_true, decide_eq_true_eq] at h
  rcases h with (h | h) | h <;> simp [h]
set_option maxRecDepth 100000 in
theorem Outward_yes (s mode : Bs) (hm : isOutM mode = true) (hs : s.length ≤ 10000000) (w : World) (hM : MaxIs w) : Calls Tryd.prog 14 #[.string ⟨s.toArray⟩, .string ⟨mode.toArray⟩] w fun e w' => e = .returned (.tuple #[.string ⟨(outM mode s).toArray⟩, .int .i64 0]) ∧ Below w.heap.size w w' := by
  have hmo := outM_cases hm
  have HM : Hid (∀ W, Calls Tryd.prog 30 #[.string ⟨mode.toArray⟩] W fun e w' => e = .returned (.bool true) ∧ W = w') := fun W => by have := outName_any mode W; rwa [hm] at this
  obtain ⟨w1, w2, w3, hb, r0, r1, r2, r3, r4⟩ := lit_map w
  have r5 := r4 mode hmo
  have HR := Lib.hid (replace_any hmo s hs w3 (hM.below hb hM.pos))
  have HB := Lib.hid hb
  clear r4 hb hm hmo hM
  go_enter Tryd.func14, Tryd.ntmps14
  go_wp2_with (first | (go_at_call 30; refine (HM.out _).mono ?_; rintro e w' ⟨rfl, rfl⟩) | (go_at_call 34; refine HR.out.mono ?_; rintro e w' ⟨rfl, hb4⟩))
  go_ret2
  exact ⟨rfl, HB.out.trans (hb4.mono HB.out.size)⟩
set_option maxRecDepth 100000 in
theorem Outward_no (s mode : Bs) (hm : isOutM mode = false) (w : World) : Calls Tryd.prog 14 #[.string ⟨s.toArray⟩, .string ⟨mode.toArray⟩] w fun e w' => e = .returned (.tuple #[.string ⟨#[]⟩, .int .i64 5]) ∧ Below w.heap.size w w' := by
  have HM : Hid (∀ W, Calls Tryd.prog 30 #[.string ⟨mode.toArray⟩] W fun e w' => e = .returned (.bool false) ∧ W = w') := fun W => by have := outName_any mode W; rwa [hm] at this
  clear hm
  go_enter Tryd.func14, Tryd.ntmps14
  go_wp2_with (go_at_call 30; refine (HM.out _).mono ?_; rintro e w' ⟨rfl, rfl⟩)
  go_ret2
  exact ⟨rfl, Below.refl _ _⟩
set_option maxRecDepth 100000 in
theorem In_no (s mode : Bs) (closed : Bool) (hm : isInM mode = false) (w : World) : Calls Tryd.prog 20 #[.string ⟨s.toArray⟩, .string ⟨mode.toArray⟩, .bool closed] w fun e w' => e = .returned (.tuple #[.string ⟨#[]⟩, .string ⟨#[]⟩, .int .i64 5]) ∧ Below w.heap.size w w' := by
  have HM : Hid (∀ W, Calls Tryd.prog 29 #[.string ⟨mode.toArray⟩] W fun e w' => e = .returned (.bool false) ∧ W = w') := fun W => by have := inName_any mode W; rwa [hm] at this
  clear hm
  go_enter Tryd.func20, Tryd.ntmps20
  go_wp2_with (go_at_call 29; refine (HM.out _).mono ?_; rintro e w' ⟨rfl, rfl⟩)
  go_ret3
  exact ⟨rfl, Below.refl _ _⟩
end Go.Proofs.YtafohdmhjilleaaDoor
