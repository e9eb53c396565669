/- Contracts of what a letter writes: its number in digits, or its name. Contracts of what the other letters write. -/
import Derived.Test.YtkahakhhdiffcaaGreatDoorCLet4
import Derived.Lib.ItoaLen
import Derived.Lib.AppendIntMem
namespace Go.Proofs.YtkahakhhdiffcaaGreatDoor
set_option linter.unusedVariables false
set_option linter.unusedSimpArgs false
open Go.RowKit
theorem ba_append (a b : Bs) : (⟨a.toArray⟩ : ByteArray) ++ ⟨b.toArray⟩ = ⟨(a ++ b).toArray⟩ := by
  apply ByteArray.ext; simp
theorem gPow : (Tryz.prog.globalNamed "internal/strconv.uint64pow10").isSome = true := by kernel_rfl
theorem PowIs.below {w w' : World} (h : PowIs w) (hb : Below w.heap.size w w') : PowIs w' := by
  obtain ⟨g, hg⟩ := Option.isSome_iff_exists.1 gPow
  exact tab_keep hg h hb
theorem itoa_any (n : Int) (h0 : -9223372036854775808 ≤ n) (h1 : n ≤ 9223372036854775807) (w : World) (hP : PowIs w) :
    Calls Tryz.prog 80 #[.int .i64 n] w fun e w' => e = .returned (.string ⟨(Lib.itoa n).toArray⟩) ∧ Below w.heap.size w w' :=
  (Tryz.strconv_Itoa n h0 h1 w hP).mono fun e w' ⟨h, k, os, hw⟩ => ⟨h, hw ▸ Lib.below_grow _ w (Nat.le_refl _) k os⟩
/-- A numeral with zeros ahead of it. -/
def padC (d : Int) (l : Bs) : Bs := Lib.repeatL [48] (d - l.length).toNat ++ l
/-- The number that a letter's function tells. -/
noncomputable def fnC (F : Nat) (t : Int) : Int :=
  if F = 63 then (dateC t).m else if F = 64 then (dateC t).d else if F = 65 then (dateC t).y else if F = 66 then (dateC t).y % 100
  else if F = 67 then (dateC t).h else if F = 68 then (dateC t).mi else if F = 69 then (dateC t).s else if F = 70 then ((dateC t).h + 11) % 12 + 1
  else if F = 71 then (dateC t).h / 12 + 1 else if F = 72 then ydC t else if F = 22 then wdC t else if F = 73 then yearOf (thC t)
  else if F = 75 then weekN t else t
def isOf (F : Nat) : Prop := F = 63 ∨ F = 64 ∨ F = 65 ∨ F = 66 ∨ F = 67 ∨ F = 68 ∨ F = 69 ∨ F = 70 ∨ F = 71
theorem of_call (F : Nat) (hF : isOf F) (t : Int) (ht : -62135596800 ≤ t) (ht2 : t ≤ 300000000000) (a : Nat) (W : World) (hc : W.cell? ⟨a, 0, none⟩ = some (.func (.func F) #[] #[])) :
    Calls Tryz.prog 62 #[.int .i64 t, .pointer (some ⟨a, 0, none⟩)] W fun e w' => e = .returned (.int .i64 (fnC F t)) ∧ Below W.heap.size W w' := by
  rcases hF with rfl | rfl | rfl | rfl | rfl | rfl | rfl | rfl | rfl
  · exact of_2 t ht ht2 a W hc
  · exact of_3 t ht ht2 a W hc
  · exact of_4 t ht ht2 a W hc
  · exact of_5 t ht ht2 a W hc
  · exact of_6 t ht ht2 a W hc
  · exact of_7 t ht ht2 a W hc
  · exact of_8 t ht ht2 a W hc
  · exact of_9 t ht ht2 a W hc
  · exact of_10 t ht ht2 a W hc
set_option maxHeartbeats 1600000 in
theorem seven_small {t : Int} (ht : -62135596800 ≤ t) (ht2 : t ≤ 253402300799) (F : Nat) : -9223372036854775808 ≤ fnC F t ∧ fnC F t ≤ 9223372036854775807 := by
  have hok := (dateC_ok ht).1
  have hy := year_100000 ht (by omega)
  have h1 := hok.date.m1; have h2 := hok.date.m12; have h3 := hok.date.d1; have h4 := hok.date.dn; have h5 := dim_ge (dateC t).y (dateC t).m
  have h6 := hok.h0; have h7 := hok.h1; have h8 := hok.mi0; have h9 := hok.mi1; have h10 := hok.s0; have h11 := hok.s1
  have hth := th_in t
  have hle := th_le ht ht2
  have hyi := yearOf_in hle.1
  have hyl := year_le2 hle.2 hyi.2.1
  have hbf := bef_far hyi.1
  have hyt := year_in ht
  have hbt := bef_far hyt.1
  rw [bef_one] at hbf hbt
  have hd : 0 ≤ dayOf t ∧ dayOf t < 3652059 := by unfold dayOf; omega
  have b1 : -9223372036854775808 ≤ ydC t ∧ ydC t ≤ 9223372036854775807 := by unfold ydC; omega
  have b2 : -9223372036854775808 ≤ weekN t ∧ weekN t ≤ 9223372036854775807 := by unfold weekN; omega
  have b3 : -9223372036854775808 ≤ yearOf (thC t) ∧ yearOf (thC t) ≤ 9223372036854775807 := by omega
  have b4 : -9223372036854775808 ≤ wdC t ∧ wdC t ≤ 9223372036854775807 := by omega
  have b5 : 0 ≤ (dateC t).d ∧ (dateC t).d ≤ 31 := by omega
  have b6 : -9223372036854775808 ≤ t ∧ t ≤ 9223372036854775807 := by omega
  clear hok h3 h4 h5 hth hle hyi hyl hbf hyt hbt hd ht ht2
  unfold fnC
  repeat' split
  all_goals omega

theorem cells3_new (w : World) (a b c : Value) (t : Nat) :
    (w.alloc (.cells #[a, b, c] t)).cell? ⟨w.heap.size, 0, none⟩ = some a ∧ (w.alloc (.cells #[a, b, c] t)).cell? ⟨w.heap.size, 1, none⟩ = some b ∧ (w.alloc (.cells #[a, b, c] t)).cell? ⟨w.heap.size, 2, none⟩ = some c := by
  have hb := heap_alloc_new w (.cells #[a, b, c] t)
  refine ⟨?_, ?_, ?_⟩ <;> (simp only [World.cell?, hb]; rfl)
theorem cells3_below (w : World) (a b c : Value) (t : Nat) (w' : World) (h : Below (w.heap.size + 1) (w.alloc (.cells #[a, b, c] t)) w') :
    w'.cell? ⟨w.heap.size, 0, none⟩ = some a ∧ w'.cell? ⟨w.heap.size, 1, none⟩ = some b ∧ w'.cell? ⟨w.heap.size, 2, none⟩ = some c := by
  obtain ⟨c0, c1, c2⟩ := cells3_new w a b c t
  exact ⟨(h.cell (p := ⟨w.heap.size, 0, none⟩) (Nat.lt_succ_self _)).trans c0, (h.cell (p := ⟨w.heap.size, 1, none⟩) (Nat.lt_succ_self _)).trans c1, (h.cell (p := ⟨w.heap.size, 2, none⟩) (Nat.lt_succ_self _)).trans c2⟩
theorem cells3_kept {w w' : World} {n : Nat} {a b c : Value} (h : Below w.heap.size w w') (h0 : w.cell? ⟨n, 0, none⟩ = some a) (h1 : w.cell? ⟨n, 1, none⟩ = some b) (h2 : w.cell? ⟨n, 2, none⟩ = some c) :
    w'.cell? ⟨n, 0, none⟩ = some a ∧ w'.cell? ⟨n, 1, none⟩ = some b ∧ w'.cell? ⟨n, 2, none⟩ = some c :=
  ⟨(h.cell (cell_lt h0)).trans h0, (h.cell (cell_lt h1)).trans h1, (h.cell (cell_lt h2)).trans h2⟩
theorem l11_any (t : Int) (ht : -62135596800 ≤ t) (ht2 : t ≤ 253402300799) (w : World) :
    Calls Tryz.prog 73 #[.int .i64 t] w fun e w' => e = .returned (.int .i64 (yearOf (thC t))) ∧ Below w.heap.size w w' := by
  have HW := Lib.hid (fun W => week_any t ht (by omega) W)
  go_enter Tryz.func73, Tryz.ntmps73
  go_wp2_with (go_at_call 74; refine (HW.out _).mono ?_; rintro e w1 ⟨rfl, hb⟩)
  go_ret
  exact ⟨rfl, hb⟩
theorem l12_any (t : Int) (ht : -62135596800 ≤ t) (ht2 : t ≤ 253402300799) (w : World) :
    Calls Tryz.prog 75 #[.int .i64 t] w fun e w' => e = .returned (.int .i64 (weekN t)) ∧ Below w.heap.size w w' := by
  have HW := Lib.hid (fun W => week_any t ht (by omega) W)
  go_enter Tryz.func75, Tryz.ntmps75
  go_wp2_with (go_at_call 74; refine (HW.out _).mono ?_; rintro e w1 ⟨rfl, hb⟩)
  go_ret
  exact ⟨rfl, hb⟩
theorem l13_any (t : Int) (w : World) :
    Calls Tryz.prog 79 #[.int .i64 t] w fun e w' => e = .returned (.int .i64 t) ∧ Below w.heap.size w w' := by
  go_enter Tryz.func79, Tryz.ntmps79
  go_wp2_with fail
  go_ret
  exact ⟨rfl, Below.refl _ _⟩
attribute [local go_sem] ba_append

set_option maxRecDepth 100000 in
set_option maxHeartbeats 1600000 in
theorem write_of (t : Int) (ht : -62135596800 ≤ t) (ht2 : t ≤ 253402300799) (W : World) (F : Nat) (hF : isOf F) (a : Nat) (hca : W.cell? ⟨a, 0, none⟩ = some (.func (.func F) #[] #[])) (dig : Int) (hd : 0 ≤ dig) (hd2 : dig ≤ 100) (hP : PowIs W) :
    Calls Tryz.prog 35 #[.agg #[.func (.func 62) #[] #[.pointer (some ⟨a, 0, none⟩)], .int .i64 dig, .slice none 0 0], .int .i64 t] W fun e w' => e = .returned (.string ⟨(padC dig (Lib.itoa (fnC (F) t))).toArray⟩) ∧ Below W.heap.size W w' := by
  have hb0 := below_alloc1 W (.cells #[.func (.func 62) #[] #[.pointer (some ⟨a, 0, none⟩)], .int .i64 dig, .slice none 0 0] 83)
  obtain ⟨c0, c1, c2⟩ := cells3_new W (.func (.func 62) #[] #[.pointer (some ⟨a, 0, none⟩)]) (.int .i64 dig) (.slice none 0 0) 83
  have HC := Lib.hid (cells3_below W (.func (.func 62) #[] #[.pointer (some ⟨a, 0, none⟩)]) (.int .i64 dig) (.slice none 0 0) 83)
  have hca1 := (hb0.cell (p := ⟨a, 0, none⟩) (cell_lt hca)).trans hca
  have HF := Lib.hid (fun W' (h : W'.cell? ⟨a, 0, none⟩ = some (.func (.func F) #[] #[])) => of_call F hF t ht (by omega) a W' h)
  have hsz : (W.alloc (.cells #[.func (.func 62) #[] #[.pointer (some ⟨a, 0, none⟩)], .int .i64 dig, .slice none 0 0] 83)).heap.size = W.heap.size + 1 := by simp
  have HN := seven_small ht ht2 (F)
  generalize fnC (F) t = N at *
  have hil := Lib.itoa_length_le N HN.1 HN.2
  have HI := Lib.hid (fun W' (h : PowIs W') => itoa_any N HN.1 HN.2 W' h)
  have HPP := Lib.hid hP
  have HB := Lib.hid hb0
  generalize Lib.itoa N = q at *
  obtain ⟨k, hk⟩ : ∃ k : Nat, (dig - q.length).toNat = k := ⟨_, rfl⟩
  have hmax : max 0 (dig - (q.length : Int)) = (k : Int) := by omega
  have HRp := Lib.hid (fun W' => Tryz.strings_Repeat ⟨#[48]⟩ k W' (by omega) (by show 1 * k ≤ _; omega))
  have hres : padC dig q = Lib.repeatL [48] k ++ q := by unfold padC; rw [hk]
  rw [hres]
  have hrl : (Lib.repeatL [48] k).length ≤ 200 := by rw [Lib.repeatL_length]; simp; omega
  have e48 : (⟨#[48]⟩ : ByteArray).data.toList = [48] := rfl
  rw [e48] at HRp
  generalize Lib.repeatL [48] k = z at *
  clear hres hk hP hb0 e48
  go_enter Tryz.func35, Tryz.ntmps35
  go_wp2_with (first | (go_at_call 62; refine (HF.out _ hca1).mono ?_; rintro e w1 ⟨rfl, hb1⟩; obtain ⟨c0, c1, c2⟩ := HC.out _ (by rw [hsz] at hb1; exact hb1); replace HB := Lib.hid (HB.out.trans (hb1.mono (by omega))); clear hb1) | (go_at_call 80; refine (HI.out _ (HPP.out.below HB.out)).mono ?_; rintro e w2 ⟨rfl, hb2⟩; obtain ⟨c0, c1, c2⟩ := cells3_kept hb2 c0 c1 c2; replace HB := Lib.hid (HB.out.trans (hb2.mono HB.out.size)); clear hb2) | (go_at_call 81; refine (HRp.out _).mono ?_; rintro e w3 ⟨rfl, hb3⟩; replace HB := Lib.hid (HB.out.trans (hb3.mono HB.out.size)); clear hb3))
  go_ret
  exact ⟨rfl, HB.out⟩
end Go.Proofs.YtkahakhhdiffcaaGreatDoor
namespace Go.Proofs.YtkahakhhdiffcaaGreatDoor
set_option linter.unusedVariables false
set_option linter.unusedSimpArgs false
open Go.RowKit
attribute [local go_sem] ba_append

set_option maxRecDepth 100000 in
set_option maxHeartbeats 1600000 in
theorem write_ofN (t : Int) (ht : -62135596800 ≤ t) (ht2 : t ≤ 253402300799) (W : World) (F : Nat) (hF : isOf F) (a : Nat) (hca : W.cell? ⟨a, 0, none⟩ = some (.func (.func F) #[] #[])) (l : List Bs) (hl : 0 < l.length) (hl9 : l.length ≤ 1000) (b cap : Nat) (hr : SRow W b l) (hN1 : 1 ≤ fnC (F) t) (hN2 : fnC (F) t ≤ l.length) :
    Calls Tryz.prog 35 #[.agg #[.func (.func 62) #[] #[.pointer (some ⟨a, 0, none⟩)], .int .i64 0, .slice (some ⟨b, 0, none⟩) l.length cap], .int .i64 t] W fun e w' => e = .returned (.string ⟨(l.getD (fnC (F) t - 1).toNat []).toArray⟩) ∧ Below W.heap.size W w' := by
  have hb0 := below_alloc1 W (.cells #[.func (.func 62) #[] #[.pointer (some ⟨a, 0, none⟩)], .int .i64 0, .slice (some ⟨b, 0, none⟩) l.length cap] 83)
  obtain ⟨c0, c1, c2⟩ := cells3_new W (.func (.func 62) #[] #[.pointer (some ⟨a, 0, none⟩)]) (.int .i64 0) (.slice (some ⟨b, 0, none⟩) l.length cap) 83
  have HC := Lib.hid (cells3_below W (.func (.func 62) #[] #[.pointer (some ⟨a, 0, none⟩)]) (.int .i64 0) (.slice (some ⟨b, 0, none⟩) l.length cap) 83)
  have hca1 := (hb0.cell (p := ⟨a, 0, none⟩) (cell_lt hca)).trans hca
  have HF := Lib.hid (fun W' (h : W'.cell? ⟨a, 0, none⟩ = some (.func (.func F) #[] #[])) => of_call F hF t ht (by omega) a W' h)
  have hsz : (W.alloc (.cells #[.func (.func 62) #[] #[.pointer (some ⟨a, 0, none⟩)], .int .i64 0, .slice (some ⟨b, 0, none⟩) l.length cap] 83)).heap.size = W.heap.size + 1 := by simp
  have HR := Lib.hid hr
  generalize fnC (F) t = N at *
  obtain ⟨k, hk⟩ : ∃ k : Nat, N = k + 1 := ⟨(N - 1).toNat, by omega⟩
  subst hk
  have hkl : k < l.length := by omega
  have hx : l[k]? = some l[k] := List.getElem?_eq_getElem hkl
  have hck := hr k _ hx
  have hbk : b < W.heap.size := cell_lt hck
  have hres : l.getD (((k : Int) + 1) - 1).toNat [] = l[k] := by
    rw [show (((k : Int) + 1) - 1).toNat = k by omega, List.getD_eq_getElem?_getD, hx]; rfl
  rw [hres]
  generalize l[k] = x at *
  have HB := Lib.hid hb0
  clear hres hx hr hb0
  have hk9 : (k : Int) ≤ 1000 := by omega
  have hlen : (0 : Int) < (l.length : Int) := by omega
  have hkl2 : (k : Int) < (l.length : Int) := by omega
  go_enter Tryz.func35, Tryz.ntmps35
  go_wp2_with (go_at_call 62; refine (HF.out _ hca1).mono ?_; rintro e w1 ⟨rfl, hb1⟩; obtain ⟨c0, c1, c2⟩ := HC.out _ (by rw [hsz] at hb1; exact hb1); have hck1 := ((HB.out.trans (hb1.mono (by omega))).cell (p := ⟨b, k, none⟩) hbk).trans hck)
  go_ret
  exact ⟨rfl, HB.out.trans (hb1.mono (by omega))⟩

set_option maxRecDepth 100000 in
set_option maxHeartbeats 1600000 in
theorem write_60 (t : Int) (ht : -62135596800 ≤ t) (ht2 : t ≤ 253402300799) (W : World) (dig : Int) (hd : 0 ≤ dig) (hd2 : dig ≤ 100) (hP : PowIs W) :
    Calls Tryz.prog 35 #[.agg #[.func (.func 72) #[] #[], .int .i64 dig, .slice none 0 0], .int .i64 t] W fun e w' => e = .returned (.string ⟨(padC dig (Lib.itoa (fnC (72) t))).toArray⟩) ∧ Below W.heap.size W w' := by
  have hb0 := below_alloc1 W (.cells #[.func (.func 72) #[] #[], .int .i64 dig, .slice none 0 0] 83)
  obtain ⟨c0, c1, c2⟩ := cells3_new W (.func (.func 72) #[] #[]) (.int .i64 dig) (.slice none 0 0) 83
  have HC := Lib.hid (cells3_below W (.func (.func 72) #[] #[]) (.int .i64 dig) (.slice none 0 0) 83)
  have HF : Hid (∀ W', Calls Tryz.prog 72 #[.int .i64 t] W' fun e w' => e = .returned (.int .i64 (fnC (72) t)) ∧ Below W'.heap.size W' w') := fun W' => yearday_any t ht (by omega) W'
  have hsz : (W.alloc (.cells #[.func (.func 72) #[] #[], .int .i64 dig, .slice none 0 0] 83)).heap.size = W.heap.size + 1 := by simp
  have HN := seven_small ht ht2 (72)
  generalize fnC (72) t = N at *
  have hil := Lib.itoa_length_le N HN.1 HN.2
  have HI := Lib.hid (fun W' (h : PowIs W') => itoa_any N HN.1 HN.2 W' h)
  have HPP := Lib.hid hP
  have HB := Lib.hid hb0
  generalize Lib.itoa N = q at *
  obtain ⟨k, hk⟩ : ∃ k : Nat, (dig - q.length).toNat = k := ⟨_, rfl⟩
  have hmax : max 0 (dig - (q.length : Int)) = (k : Int) := by omega
  have HRp := Lib.hid (fun W' => Tryz.strings_Repeat ⟨#[48]⟩ k W' (by omega) (by show 1 * k ≤ _; omega))
  have hres : padC dig q = Lib.repeatL [48] k ++ q := by unfold padC; rw [hk]
  rw [hres]
  have hrl : (Lib.repeatL [48] k).length ≤ 200 := by rw [Lib.repeatL_length]; simp; omega
  have e48 : (⟨#[48]⟩ : ByteArray).data.toList = [48] := rfl
  rw [e48] at HRp
  generalize Lib.repeatL [48] k = z at *
  clear hres hk hP hb0 e48
  go_enter Tryz.func35, Tryz.ntmps35
  go_wp2_with (first | (go_at_call 72; refine (HF.out _).mono ?_; rintro e w1 ⟨rfl, hb1⟩; obtain ⟨c0, c1, c2⟩ := HC.out _ (by rw [hsz] at hb1; exact hb1); replace HB := Lib.hid (HB.out.trans (hb1.mono (by omega))); clear hb1) | (go_at_call 80; refine (HI.out _ (HPP.out.below HB.out)).mono ?_; rintro e w2 ⟨rfl, hb2⟩; obtain ⟨c0, c1, c2⟩ := cells3_kept hb2 c0 c1 c2; replace HB := Lib.hid (HB.out.trans (hb2.mono HB.out.size)); clear hb2) | (go_at_call 81; refine (HRp.out _).mono ?_; rintro e w3 ⟨rfl, hb3⟩; replace HB := Lib.hid (HB.out.trans (hb3.mono HB.out.size)); clear hb3))
  go_ret
  exact ⟨rfl, HB.out⟩

set_option maxRecDepth 100000 in
set_option maxHeartbeats 1600000 in
theorem write_52 (t : Int) (ht : -62135596800 ≤ t) (ht2 : t ≤ 253402300799) (W : World) (dig : Int) (hd : 0 ≤ dig) (hd2 : dig ≤ 100) (hP : PowIs W) :
    Calls Tryz.prog 35 #[.agg #[.func (.func 22) #[] #[], .int .i64 dig, .slice none 0 0], .int .i64 t] W fun e w' => e = .returned (.string ⟨(padC dig (Lib.itoa (fnC (22) t))).toArray⟩) ∧ Below W.heap.size W w' := by
  have hb0 := below_alloc1 W (.cells #[.func (.func 22) #[] #[], .int .i64 dig, .slice none 0 0] 83)
  obtain ⟨c0, c1, c2⟩ := cells3_new W (.func (.func 22) #[] #[]) (.int .i64 dig) (.slice none 0 0) 83
  have HC := Lib.hid (cells3_below W (.func (.func 22) #[] #[]) (.int .i64 dig) (.slice none 0 0) 83)
  have HF : Hid (∀ W', Calls Tryz.prog 22 #[.int .i64 t] W' fun e w' => e = .returned (.int .i64 (fnC (22) t)) ∧ Below W'.heap.size W' w') := fun W' => (weekday_any t ht (by omega) W').mono fun e w' ⟨h, m, hm⟩ => ⟨h, hm ▸ below_drewN (Below.refl _ _) _⟩
  have hsz : (W.alloc (.cells #[.func (.func 22) #[] #[], .int .i64 dig, .slice none 0 0] 83)).heap.size = W.heap.size + 1 := by simp
  have HN := seven_small ht ht2 (22)
  generalize fnC (22) t = N at *
  have hil := Lib.itoa_length_le N HN.1 HN.2
  have HI := Lib.hid (fun W' (h : PowIs W') => itoa_any N HN.1 HN.2 W' h)
  have HPP := Lib.hid hP
  have HB := Lib.hid hb0
  generalize Lib.itoa N = q at *
  obtain ⟨k, hk⟩ : ∃ k : Nat, (dig - q.length).toNat = k := ⟨_, rfl⟩
  have hmax : max 0 (dig - (q.length : Int)) = (k : Int) := by omega
  have HRp := Lib.hid (fun W' => Tryz.strings_Repeat ⟨#[48]⟩ k W' (by omega) (by show 1 * k ≤ _; omega))
  have hres : padC dig q = Lib.repeatL [48] k ++ q := by unfold padC; rw [hk]
  rw [hres]
  have hrl : (Lib.repeatL [48] k).length ≤ 200 := by rw [Lib.repeatL_length]; simp; omega
  have e48 : (⟨#[48]⟩ : ByteArray).data.toList = [48] := rfl
  rw [e48] at HRp
  generalize Lib.repeatL [48] k = z at *
  clear hres hk hP hb0 e48
  go_enter Tryz.func35, Tryz.ntmps35
  go_wp2_with (first | (go_at_call 22; refine (HF.out _).mono ?_; rintro e w1 ⟨rfl, hb1⟩; obtain ⟨c0, c1, c2⟩ := HC.out _ (by rw [hsz] at hb1; exact hb1); replace HB := Lib.hid (HB.out.trans (hb1.mono (by omega))); clear hb1) | (go_at_call 80; refine (HI.out _ (HPP.out.below HB.out)).mono ?_; rintro e w2 ⟨rfl, hb2⟩; obtain ⟨c0, c1, c2⟩ := cells3_kept hb2 c0 c1 c2; replace HB := Lib.hid (HB.out.trans (hb2.mono HB.out.size)); clear hb2) | (go_at_call 81; refine (HRp.out _).mono ?_; rintro e w3 ⟨rfl, hb3⟩; replace HB := Lib.hid (HB.out.trans (hb3.mono HB.out.size)); clear hb3))
  go_ret
  exact ⟨rfl, HB.out⟩

set_option maxRecDepth 100000 in
set_option maxHeartbeats 1600000 in
theorem write_81 (t : Int) (ht : -62135596800 ≤ t) (ht2 : t ≤ 253402300799) (W : World) (dig : Int) (hd : 0 ≤ dig) (hd2 : dig ≤ 100) (hP : PowIs W) :
    Calls Tryz.prog 35 #[.agg #[.func (.func 73) #[] #[], .int .i64 dig, .slice none 0 0], .int .i64 t] W fun e w' => e = .returned (.string ⟨(padC dig (Lib.itoa (fnC (73) t))).toArray⟩) ∧ Below W.heap.size W w' := by
  have hb0 := below_alloc1 W (.cells #[.func (.func 73) #[] #[], .int .i64 dig, .slice none 0 0] 83)
  obtain ⟨c0, c1, c2⟩ := cells3_new W (.func (.func 73) #[] #[]) (.int .i64 dig) (.slice none 0 0) 83
  have HC := Lib.hid (cells3_below W (.func (.func 73) #[] #[]) (.int .i64 dig) (.slice none 0 0) 83)
  have HF : Hid (∀ W', Calls Tryz.prog 73 #[.int .i64 t] W' fun e w' => e = .returned (.int .i64 (fnC (73) t)) ∧ Below W'.heap.size W' w') := fun W' => l11_any t ht ht2 W'
  have hsz : (W.alloc (.cells #[.func (.func 73) #[] #[], .int .i64 dig, .slice none 0 0] 83)).heap.size = W.heap.size + 1 := by simp
  have HN := seven_small ht ht2 (73)
  generalize fnC (73) t = N at *
  have hil := Lib.itoa_length_le N HN.1 HN.2
  have HI := Lib.hid (fun W' (h : PowIs W') => itoa_any N HN.1 HN.2 W' h)
  have HPP := Lib.hid hP
  have HB := Lib.hid hb0
  generalize Lib.itoa N = q at *
  obtain ⟨k, hk⟩ : ∃ k : Nat, (dig - q.length).toNat = k := ⟨_, rfl⟩
  have hmax : max 0 (dig - (q.length : Int)) = (k : Int) := by omega
  have HRp := Lib.hid (fun W' => Tryz.strings_Repeat ⟨#[48]⟩ k W' (by omega) (by show 1 * k ≤ _; omega))
  have hres : padC dig q = Lib.repeatL [48] k ++ q := by unfold padC; rw [hk]
  rw [hres]
  have hrl : (Lib.repeatL [48] k).length ≤ 200 := by rw [Lib.repeatL_length]; simp; omega
  have e48 : (⟨#[48]⟩ : ByteArray).data.toList = [48] := rfl
  rw [e48] at HRp
  generalize Lib.repeatL [48] k = z at *
  clear hres hk hP hb0 e48
  go_enter Tryz.func35, Tryz.ntmps35
  go_wp2_with (first | (go_at_call 73; refine (HF.out _).mono ?_; rintro e w1 ⟨rfl, hb1⟩; obtain ⟨c0, c1, c2⟩ := HC.out _ (by rw [hsz] at hb1; exact hb1); replace HB := Lib.hid (HB.out.trans (hb1.mono (by omega))); clear hb1) | (go_at_call 80; refine (HI.out _ (HPP.out.below HB.out)).mono ?_; rintro e w2 ⟨rfl, hb2⟩; obtain ⟨c0, c1, c2⟩ := cells3_kept hb2 c0 c1 c2; replace HB := Lib.hid (HB.out.trans (hb2.mono HB.out.size)); clear hb2) | (go_at_call 81; refine (HRp.out _).mono ?_; rintro e w3 ⟨rfl, hb3⟩; replace HB := Lib.hid (HB.out.trans (hb3.mono HB.out.size)); clear hb3))
  go_ret
  exact ⟨rfl, HB.out⟩

set_option maxRecDepth 100000 in
set_option maxHeartbeats 1600000 in
theorem write_82 (t : Int) (ht : -62135596800 ≤ t) (ht2 : t ≤ 253402300799) (W : World) (dig : Int) (hd : 0 ≤ dig) (hd2 : dig ≤ 100) (hP : PowIs W) :
    Calls Tryz.prog 35 #[.agg #[.func (.func 75) #[] #[], .int .i64 dig, .slice none 0 0], .int .i64 t] W fun e w' => e = .returned (.string ⟨(padC dig (Lib.itoa (fnC (75) t))).toArray⟩) ∧ Below W.heap.size W w' := by
  have hb0 := below_alloc1 W (.cells #[.func (.func 75) #[] #[], .int .i64 dig, .slice none 0 0] 83)
  obtain ⟨c0, c1, c2⟩ := cells3_new W (.func (.func 75) #[] #[]) (.int .i64 dig) (.slice none 0 0) 83
  have HC := Lib.hid (cells3_below W (.func (.func 75) #[] #[]) (.int .i64 dig) (.slice none 0 0) 83)
  have HF : Hid (∀ W', Calls Tryz.prog 75 #[.int .i64 t] W' fun e w' => e = .returned (.int .i64 (fnC (75) t)) ∧ Below W'.heap.size W' w') := fun W' => l12_any t ht ht2 W'
  have hsz : (W.alloc (.cells #[.func (.func 75) #[] #[], .int .i64 dig, .slice none 0 0] 83)).heap.size = W.heap.size + 1 := by simp
  have HN := seven_small ht ht2 (75)
  generalize fnC (75) t = N at *
  have hil := Lib.itoa_length_le N HN.1 HN.2
  have HI := Lib.hid (fun W' (h : PowIs W') => itoa_any N HN.1 HN.2 W' h)
  have HPP := Lib.hid hP
  have HB := Lib.hid hb0
  generalize Lib.itoa N = q at *
  obtain ⟨k, hk⟩ : ∃ k : Nat, (dig - q.length).toNat = k := ⟨_, rfl⟩
  have hmax : max 0 (dig - (q.length : Int)) = (k : Int) := by omega
  have HRp := Lib.hid (fun W' => Tryz.strings_Repeat ⟨#[48]⟩ k W' (by omega) (by show 1 * k ≤ _; omega))
  have hres : padC dig q = Lib.repeatL [48] k ++ q := by unfold padC; rw [hk]
  rw [hres]
  have hrl : (Lib.repeatL [48] k).length ≤ 200 := by rw [Lib.repeatL_length]; simp; omega
  have e48 : (⟨#[48]⟩ : ByteArray).data.toList = [48] := rfl
  rw [e48] at HRp
  generalize Lib.repeatL [48] k = z at *
  clear hres hk hP hb0 e48
  go_enter Tryz.func35, Tryz.ntmps35
  go_wp2_with (first | (go_at_call 75; refine (HF.out _).mono ?_; rintro e w1 ⟨rfl, hb1⟩; obtain ⟨c0, c1, c2⟩ := HC.out _ (by rw [hsz] at hb1; exact hb1); replace HB := Lib.hid (HB.out.trans (hb1.mono (by omega))); clear hb1) | (go_at_call 80; refine (HI.out _ (HPP.out.below HB.out)).mono ?_; rintro e w2 ⟨rfl, hb2⟩; obtain ⟨c0, c1, c2⟩ := cells3_kept hb2 c0 c1 c2; replace HB := Lib.hid (HB.out.trans (hb2.mono HB.out.size)); clear hb2) | (go_at_call 81; refine (HRp.out _).mono ?_; rintro e w3 ⟨rfl, hb3⟩; replace HB := Lib.hid (HB.out.trans (hb3.mono HB.out.size)); clear hb3))
  go_ret
  exact ⟨rfl, HB.out⟩

set_option maxRecDepth 100000 in
set_option maxHeartbeats 1600000 in
theorem write_86 (t : Int) (ht : -62135596800 ≤ t) (ht2 : t ≤ 253402300799) (W : World) (dig : Int) (hd : 0 ≤ dig) (hd2 : dig ≤ 100) (hP : PowIs W) :
    Calls Tryz.prog 35 #[.agg #[.func (.func 79) #[] #[], .int .i64 dig, .slice none 0 0], .int .i64 t] W fun e w' => e = .returned (.string ⟨(padC dig (Lib.itoa (fnC (79) t))).toArray⟩) ∧ Below W.heap.size W w' := by
  have hb0 := below_alloc1 W (.cells #[.func (.func 79) #[] #[], .int .i64 dig, .slice none 0 0] 83)
  obtain ⟨c0, c1, c2⟩ := cells3_new W (.func (.func 79) #[] #[]) (.int .i64 dig) (.slice none 0 0) 83
  have HC := Lib.hid (cells3_below W (.func (.func 79) #[] #[]) (.int .i64 dig) (.slice none 0 0) 83)
  have HF : Hid (∀ W', Calls Tryz.prog 79 #[.int .i64 t] W' fun e w' => e = .returned (.int .i64 (fnC (79) t)) ∧ Below W'.heap.size W' w') := fun W' => l13_any t W'
  have hsz : (W.alloc (.cells #[.func (.func 79) #[] #[], .int .i64 dig, .slice none 0 0] 83)).heap.size = W.heap.size + 1 := by simp
  have HN := seven_small ht ht2 (79)
  generalize fnC (79) t = N at *
  have hil := Lib.itoa_length_le N HN.1 HN.2
  have HI := Lib.hid (fun W' (h : PowIs W') => itoa_any N HN.1 HN.2 W' h)
  have HPP := Lib.hid hP
  have HB := Lib.hid hb0
  generalize Lib.itoa N = q at *
  obtain ⟨k, hk⟩ : ∃ k : Nat, (dig - q.length).toNat = k := ⟨_, rfl⟩
  have hmax : max 0 (dig - (q.length : Int)) = (k : Int) := by omega
  have HRp := Lib.hid (fun W' => Tryz.strings_Repeat ⟨#[48]⟩ k W' (by omega) (by show 1 * k ≤ _; omega))
  have hres : padC dig q = Lib.repeatL [48] k ++ q := by unfold padC; rw [hk]
  rw [hres]
  have hrl : (Lib.repeatL [48] k).length ≤ 200 := by rw [Lib.repeatL_length]; simp; omega
  have e48 : (⟨#[48]⟩ : ByteArray).data.toList = [48] := rfl
  rw [e48] at HRp
  generalize Lib.repeatL [48] k = z at *
  clear hres hk hP hb0 e48
  go_enter Tryz.func35, Tryz.ntmps35
  go_wp2_with (first | (go_at_call 79; refine (HF.out _).mono ?_; rintro e w1 ⟨rfl, hb1⟩; obtain ⟨c0, c1, c2⟩ := HC.out _ (by rw [hsz] at hb1; exact hb1); replace HB := Lib.hid (HB.out.trans (hb1.mono (by omega))); clear hb1) | (go_at_call 80; refine (HI.out _ (HPP.out.below HB.out)).mono ?_; rintro e w2 ⟨rfl, hb2⟩; obtain ⟨c0, c1, c2⟩ := cells3_kept hb2 c0 c1 c2; replace HB := Lib.hid (HB.out.trans (hb2.mono HB.out.size)); clear hb2) | (go_at_call 81; refine (HRp.out _).mono ?_; rintro e w3 ⟨rfl, hb3⟩; replace HB := Lib.hid (HB.out.trans (hb3.mono HB.out.size)); clear hb3))
  go_ret
  exact ⟨rfl, HB.out⟩

set_option maxRecDepth 100000 in
set_option maxHeartbeats 1600000 in
theorem write_52N (t : Int) (ht : -62135596800 ≤ t) (ht2 : t ≤ 253402300799) (W : World) (l : List Bs) (hl : 0 < l.length) (hl9 : l.length ≤ 1000) (b cap : Nat) (hr : SRow W b l) (hN1 : 1 ≤ fnC (22) t) (hN2 : fnC (22) t ≤ l.length) :
    Calls Tryz.prog 35 #[.agg #[.func (.func 22) #[] #[], .int .i64 0, .slice (some ⟨b, 0, none⟩) l.length cap], .int .i64 t] W fun e w' => e = .returned (.string ⟨(l.getD (fnC (22) t - 1).toNat []).toArray⟩) ∧ Below W.heap.size W w' := by
  have hb0 := below_alloc1 W (.cells #[.func (.func 22) #[] #[], .int .i64 0, .slice (some ⟨b, 0, none⟩) l.length cap] 83)
  obtain ⟨c0, c1, c2⟩ := cells3_new W (.func (.func 22) #[] #[]) (.int .i64 0) (.slice (some ⟨b, 0, none⟩) l.length cap) 83
  have HC := Lib.hid (cells3_below W (.func (.func 22) #[] #[]) (.int .i64 0) (.slice (some ⟨b, 0, none⟩) l.length cap) 83)
  have HF : Hid (∀ W', Calls Tryz.prog 22 #[.int .i64 t] W' fun e w' => e = .returned (.int .i64 (fnC (22) t)) ∧ Below W'.heap.size W' w') := fun W' => (weekday_any t ht (by omega) W').mono fun e w' ⟨h, m, hm⟩ => ⟨h, hm ▸ below_drewN (Below.refl _ _) _⟩
  have hsz : (W.alloc (.cells #[.func (.func 22) #[] #[], .int .i64 0, .slice (some ⟨b, 0, none⟩) l.length cap] 83)).heap.size = W.heap.size + 1 := by simp
  have HR := Lib.hid hr
  generalize fnC (22) t = N at *
  obtain ⟨k, hk⟩ : ∃ k : Nat, N = k + 1 := ⟨(N - 1).toNat, by omega⟩
  subst hk
  have hkl : k < l.length := by omega
  have hx : l[k]? = some l[k] := List.getElem?_eq_getElem hkl
  have hck := hr k _ hx
  have hbk : b < W.heap.size := cell_lt hck
  have hres : l.getD (((k : Int) + 1) - 1).toNat [] = l[k] := by
    rw [show (((k : Int) + 1) - 1).toNat = k by omega, List.getD_eq_getElem?_getD, hx]; rfl
  rw [hres]
  generalize l[k] = x at *
  have HB := Lib.hid hb0
  clear hres hx hr hb0
  have hk9 : (k : Int) ≤ 1000 := by omega
  have hlen : (0 : Int) < (l.length : Int) := by omega
  have hkl2 : (k : Int) < (l.length : Int) := by omega
  go_enter Tryz.func35, Tryz.ntmps35
  go_wp2_with (go_at_call 22; refine (HF.out _).mono ?_; rintro e w1 ⟨rfl, hb1⟩; obtain ⟨c0, c1, c2⟩ := HC.out _ (by rw [hsz] at hb1; exact hb1); have hck1 := ((HB.out.trans (hb1.mono (by omega))).cell (p := ⟨b, k, none⟩) hbk).trans hck)
  go_ret
  exact ⟨rfl, HB.out.trans (hb1.mono (by omega))⟩
end Go.Proofs.YtkahakhhdiffcaaGreatDoor
