/- The contract of the clock's Write: the parts of a form, each with its text or its letter. -/
import Derived.Test.YtkahakhhdiffcaaGreatDoorCForm
import Derived.Test.YtkahakhhdiffcaaGreatDoorCWrt
import Derived.Test.YtkahakhhdiffcaaGreatDoorBuilder
namespace Go.Proofs.YtkahakhhdiffcaaGreatDoor
set_option linter.unusedVariables false
set_option linter.unusedSimpArgs false
open Go.RowKit

noncomputable def textC (i : Info) (t : Int) : Bs := if i.names = [] then padC i.dig (Lib.itoa (fnC i.F t)) else i.names.getD (fnC i.F t - 1).toNat []
noncomputable def textD (d : UInt8) (t : Int) : Bs := match info (d.toNat : Int) with
  | some i => textC i t
  | none => []
noncomputable def partText (t : Int) (p : Part) : Bs := p.1 ++ (if p.2 = 0 then [] else textD p.2 t)
noncomputable def writeC (t : Int) (l : List Part) : Bs := l.flatMap (partText t)
noncomputable def writeP (t : Int) (s : Bs) : Bs × Int := if validI t = true then (match partsC s with
  | none => ([], 2)
  | some l => (writeC t l, 0)) else ([], 7)

/-- What kinds of letters there are. -/
def Kind (i : Info) : Prop :=
  (i.direct = false ∧ isOf i.F ∧ i.names = [] ∧ 0 ≤ i.dig ∧ i.dig ≤ 100) ∨ (i.direct = false ∧ i.F = 71 ∧ i.names.length = 2 ∧ i.dig = 0) ∨ (i.direct = false ∧ i.F = 63 ∧ i.names.length = 12 ∧ i.dig = 0) ∨
  (i.direct = true ∧ (i.F = 72 ∨ i.F = 22 ∨ i.F = 73 ∨ i.F = 75 ∨ i.F = 79) ∧ i.names = [] ∧ 0 ≤ i.dig ∧ i.dig ≤ 100) ∨ (i.direct = true ∧ i.F = 22 ∧ i.names.length = 7 ∧ i.dig = 0)
instance (F : Nat) : Decidable (isOf F) := by unfold isOf; infer_instance
instance (i : Info) : Decidable (Kind i) := by unfold Kind; infer_instance
theorem kinds_all : ∀ n : Nat, n < 256 → (match info (n : Int) with
  | some i => decide (Kind i) && i.names.all (fun x => decide (x.length ≤ 20))
  | none => true) = true := by decide +kernel
theorem kind_of (d : UInt8) {i : Info} (h : info (d.toNat : Int) = some i) : Kind i ∧ ∀ x ∈ i.names, x.length ≤ 20 := by
  have := kinds_all d.toNat d.toNat_lt
  rw [h] at this
  simp only [Bool.and_eq_true, decide_eq_true_eq, List.all_eq_true] at this
  exact this
theorem fn_month {t : Int} (ht : -62135596800 ≤ t) : 1 ≤ fnC 63 t ∧ fnC 63 t ≤ 12 := by
  have := (dateC_ok ht).1.date
  exact ⟨this.m1, this.m12⟩
theorem fn_pm {t : Int} (ht : -62135596800 ≤ t) : 1 ≤ fnC 71 t ∧ fnC 71 t ≤ 2 := by
  have h := (dateC_ok ht).1
  have h1 := h.h0; have h2 := h.h1
  show 1 ≤ (dateC t).h / 12 + 1 ∧ (dateC t).h / 12 + 1 ≤ 2
  omega
theorem fn_week (t : Int) : 1 ≤ fnC 22 t ∧ fnC 22 t ≤ 7 := by
  have := th_in t
  exact ⟨this.2.2.2.2.1, this.2.2.2.2.2⟩
theorem padC_len (dig : Int) (l : Bs) (h : l.length ≤ 21) (h2 : dig ≤ 100) : (padC dig l).length ≤ 200 := by
  unfold padC
  rw [List.length_append, Lib.repeatL_length]
  simp; omega
theorem textC_len {i : Info} (hk : Kind i) (hn : ∀ x ∈ i.names, x.length ≤ 20) {t : Int} (ht : -62135596800 ≤ t) (ht2 : t ≤ 253402300799) : (textC i t).length ≤ 200 := by
  have hd : i.dig ≤ 100 := by rcases hk with h | h | h | h | h <;> omega
  unfold textC
  split
  · have hN := seven_small ht ht2 i.F
    exact padC_len _ _ (Lib.itoa_length_le _ hN.1 hN.2) hd
  · rw [List.getD_eq_getElem?_getD]
    cases hx : i.names[(fnC i.F t - 1).toNat]? with
    | none => simp
    | some x => have := hn x (List.mem_of_getElem? hx); simp; omega
/-- What a letter writes. -/
theorem letter_write (mb : Nat) (W : World) (d : UInt8) (v : Value) (hi : (info (d.toNat : Int)).isSome = true) (hv : LetterV mb W (d.toNat : Int) v) (t : Int) (ht : -62135596800 ≤ t) (ht2 : t ≤ 253402300799) (hP : PowIs W) :
    Calls Tryz.prog 35 #[v, .int .i64 t] W fun e w' => e = .returned (.string ⟨(textD d t).toArray⟩) ∧ Below W.heap.size W w' := by
  obtain ⟨i, f, n, h1, rfl, hf, hn⟩ := hv
  have hk := (kind_of d h1).1
  have ht1 : textD d t = textC i t := by unfold textD; rw [h1]
  rw [ht1]
  obtain ⟨direct, F, dig, names⟩ := i
  simp only [Kind] at hk hf hn
  rcases hk with ⟨rfl, hF, rfl, hd, hd2⟩ | ⟨rfl, rfl, hl, rfl⟩ | ⟨rfl, rfl, hl, rfl⟩ | ⟨rfl, hF, rfl, hd, hd2⟩ | ⟨rfl, rfl, hl, rfl⟩
  · obtain ⟨a, _, rfl, hca⟩ := hf
    rcases hn with ⟨_, rfl⟩ | ⟨b, cap, _, rfl, _, h0⟩
    · exact write_of t ht ht2 W F hF a hca dig hd hd2 hP
    · cases h0
  · obtain ⟨a, _, rfl, hca⟩ := hf
    rcases hn with ⟨h0, _⟩ | ⟨b, cap, _, rfl, hr, _⟩
    · rw [h0] at hl; cases hl
    · have hb := fn_pm ht
      unfold textC
      rw [if_neg (by intro h0; simp only at h0; rw [h0] at hl; cases hl)]
      exact write_ofN t ht ht2 W _ (by decide) a hca names (by omega) (by omega) b cap hr hb.1 (by omega)
  · obtain ⟨a, _, rfl, hca⟩ := hf
    rcases hn with ⟨h0, _⟩ | ⟨b, cap, _, rfl, hr, _⟩
    · rw [h0] at hl; cases hl
    · have hb := fn_month ht
      unfold textC
      rw [if_neg (by intro h0; simp only at h0; rw [h0] at hl; cases hl)]
      exact write_ofN t ht ht2 W _ (by decide) a hca names (by omega) (by omega) b cap hr hb.1 (by omega)
  · obtain rfl := hf
    have hn2 : n = .slice none 0 0 := by
      rcases hn with ⟨_, h⟩ | ⟨b, cap, _, h, _, h0⟩
      · exact h
      · cases h0
    subst hn2
    rcases hF with rfl | rfl | rfl | rfl | rfl
    · exact write_60 t ht ht2 W dig hd hd2 hP
    · exact write_52 t ht ht2 W dig hd hd2 hP
    · exact write_81 t ht ht2 W dig hd hd2 hP
    · exact write_82 t ht ht2 W dig hd hd2 hP
    · exact write_86 t ht ht2 W dig hd hd2 hP
  · obtain rfl := hf
    rcases hn with ⟨h0, _⟩ | ⟨b, cap, _, rfl, hr, _⟩
    · rw [h0] at hl; cases hl
    · have hb := fn_week t
      unfold textC
      rw [if_neg (by intro h0; simp only at h0; rw [h0] at hl; cases hl)]
      exact write_52N t ht ht2 W names (by omega) (by omega) b cap hr hb.1 (by omega)
end Go.Proofs.YtkahakhhdiffcaaGreatDoor
