/- Contracts of what the other letters write. -/
import Derived.Test.YtkahakhhdiffcaaGreatDoorCWrt1
namespace Go.Proofs.YtkahakhhdiffcaaGreatDoor
set_option linter.unusedVariables false
set_option linter.unusedSimpArgs false
open Go.RowKit
attribute [local go_sem] ba_append

set_option maxRecDepth 100000 in
set_option maxHeartbeats 1600000 in
theorem write_ofN (t : Int) (ht : -62135596800 ≤ t) (ht2 : t ≤ 253402300799) (W : World) (F : Nat) (hF : isOf F) (a : Nat) (hca : W.cell? ⟨a, 0, none⟩ = some (.func (.func F) #[] #[])) (l : List Bs) (hl : 0 < l.length) (hl9 : l.length ≤ 1000) (b cap : Nat) (hr : SRow W b l) (hN1 : 1 ≤ fnC (F) t) (hN2 : fnC (F) t ≤ l.length) :
    Calls Tryz.prog 35 #[.agg #[.func (.func 62) #[] #[.pointer (some ⟨a, 0, none⟩)], .int .i64 0, .slice (some ⟨b, 0, none⟩) l.length cap], .int .i64 t] W fun e w' => e = .returned (.string ⟨(l.getD (fnC (F) t - 1).toNat []).toArray⟩) ∧ Below W.heap.size W w' := by
  have hb0 := below_alloc1 W (.cells #[.func (.func 62) #[] #[.pointer (some ⟨a, 0, none⟩)], .int .i64 0, .slice (some ⟨b, 0, none⟩) l.length cap] 83)
  obtain ⟨c0, c1, c2⟩ := cells3_new W (.func (.func 62) #[] #[.pointer (some ⟨a, 0, none⟩)]) (.int .i64 0) (.slice (some ⟨b, 0, none⟩) l.length cap) 83
  have HC := Lib.hid (cells3_below W (.func (.func 62) #[] #[.pointer (some ⟨a, 0, none⟩)]) (.int .i64 0) (.slice (some ⟨b, 0, none⟩) l.length cap) 83)
  have hca1 := (hb0.cell (p := ⟨a, 0, none⟩) (cell_lt hca)).trans hca
  have HF := Lib.hid (fun W' (h : W'.cell? ⟨a, 0, none⟩ = some (.func (.func F) #[] #[])) => of_call F hF t ht (by omega) a W' h)
  have hsz : (W.alloc (.cells #[.func (.func 62) #[] #[.pointer (some ⟨a, 0, none⟩)], .int .i64 0, .slice (some ⟨b, 0, none⟩) l.length cap] 83)).heap.size = W.heap.size + 1 := by simp
  have HR := Lib.hid hr
  generalize fnC (F) t = N at *
  obtain ⟨k, hk⟩ : ∃ k : Nat, N = k + 1 := ⟨(N - 1).toNat, by omega⟩
  subst hk
  have hkl : k < l.length := by omega
  have hx : l[k]? = some l[k] := List.getElem?_eq_getElem hkl
  have hck := hr k _ hx
  have hbk : b < W.heap.size := cell_lt hck
  have hres : l.getD (((k : Int) + 1) - 1).toNat [] = l[k] := by
    rw [show (((k : Int) + 1) - 1).toNat = k by omega, List.getD_eq_getElem?_getD, hx]; rfl
  rw [hres]
  generalize l[k] = x at *
  have HB := Lib.hid hb0
  clear hres hx hr hb0
  have hk9 : (k : Int) ≤ 1000 := by omega
  have hlen : (0 : Int) < (l.length : Int) := by omega
  have hkl2 : (k : Int) < (l.length : Int) := by omega
  go_enter Tryz.func35, Tryz.ntmps35
  go_wp2_with (go_at_call 62; refine (HF.out _ hca1).mono ?_; rintro e w1 ⟨rfl, hb1⟩; obtain ⟨c0, c1, c2⟩ := HC.out _ (by rw [hsz] at hb1; exact hb1); have hck1 := ((HB.out.trans (hb1.mono (by omega))).cell (p := ⟨b, k, none⟩) hbk).trans hck)
  go_ret
  exact ⟨rfl, HB.out.trans (hb1.mono (by omega))⟩

set_option maxRecDepth 100000 in
set_option maxHeartbeats 1600000 in
theorem write_60 (t : Int) (ht : -62135596800 ≤ t) (ht2 : t ≤ 253402300799) (W : World) (dig : Int) (hd : 0 ≤ dig) (hd2 : dig ≤ 100) (hP : PowIs W) :
    Calls Tryz.prog 35 #[.agg #[.func (.func 72) #[] #[], .int .i64 dig, .slice none 0 0], .int .i64 t] W fun e w' => e = .returned (.string ⟨(padC dig (Lib.itoa (fnC (72) t))).toArray⟩) ∧ Below W.heap.size W w' := by
  have hb0 := below_alloc1 W (.cells #[.func (.func 72) #[] #[], .int .i64 dig, .slice none 0 0] 83)
  obtain ⟨c0, c1, c2⟩ := cells3_new W (.func (.func 72) #[] #[]) (.int .i64 dig) (.slice none 0 0) 83
  have HC := Lib.hid (cells3_below W (.func (.func 72) #[] #[]) (.int .i64 dig) (.slice none 0 0) 83)
  have HF : Hid (∀ W', Calls Tryz.prog 72 #[.int .i64 t] W' fun e w' => e = .returned (.int .i64 (fnC (72) t)) ∧ Below W'.heap.size W' w') := fun W' => yearday_any t ht (by omega) W'
  have hsz : (W.alloc (.cells #[.func (.func 72) #[] #[], .int .i64 dig, .slice none 0 0] 83)).heap.size = W.heap.size + 1 := by simp
  have HN := seven_small ht ht2 (72)
  generalize fnC (72) t = N at *
  have hil := Lib.itoa_length_le N HN.1 HN.2
  have HI := Lib.hid (fun W' (h : PowIs W') => itoa_any N HN.1 HN.2 W' h)
  have HPP := Lib.hid hP
  have HB := Lib.hid hb0
  generalize Lib.itoa N = q at *
  obtain ⟨k, hk⟩ : ∃ k : Nat, (dig - q.length).toNat = k := ⟨_, rfl⟩
  have hmax : max 0 (dig - (q.length : Int)) = (k : Int) := by omega
  have HRp := Lib.hid (fun W' => Tryz.strings_Repeat ⟨#[48]⟩ k W' (by omega) (by show 1 * k ≤ _; omega))
  have hres : padC dig q = Lib.repeatL [48] k ++ q := by unfold padC; rw [hk]
  rw [hres]
  have hrl : (Lib.repeatL [48] k).length ≤ 200 := by rw [Lib.repeatL_length]; simp; omega
  have e48 : (⟨#[48]⟩ : ByteArray).data.toList = [48] := rfl
  rw [e48] at HRp
  generalize Lib.repeatL [48] k = z at *
  clear hres hk hP hb0 e48
  go_enter Tryz.func35, Tryz.ntmps35
  go_wp2_with (first | (go_at_call 72; refine (HF.out _).mono ?_; rintro e w1 ⟨rfl, hb1⟩; obtain ⟨c0, c1, c2⟩ := HC.out _ (by rw [hsz] at hb1; exact hb1); replace HB := Lib.hid (HB.out.trans (hb1.mono (by omega))); clear hb1) | (go_at_call 80; refine (HI.out _ (HPP.out.below HB.out)).mono ?_; rintro e w2 ⟨rfl, hb2⟩; obtain ⟨c0, c1, c2⟩ := cells3_kept hb2 c0 c1 c2; replace HB := Lib.hid (HB.out.trans (hb2.mono HB.out.size)); clear hb2) | (go_at_call 81; refine (HRp.out _).mono ?_; rintro e w3 ⟨rfl, hb3⟩; replace HB := Lib.hid (HB.out.trans (hb3.mono HB.out.size)); clear hb3))
  go_ret
  exact ⟨rfl, HB.out⟩

set_option maxRecDepth 100000 in
set_option maxHeartbeats 1600000 in
theorem write_52 (t : Int) (ht : -62135596800 ≤ t) (ht2 : t ≤ 253402300799) (W : World) (dig : Int) (hd : 0 ≤ dig) (hd2 : dig ≤ 100) (hP : PowIs W) :
    Calls Tryz.prog 35 #[.agg #[.func (.func 22) #[] #[], .int .i64 dig, .slice none 0 0], .int .i64 t] W fun e w' => e = .returned (.string ⟨(padC dig (Lib.itoa (fnC (22) t))).toArray⟩) ∧ Below W.heap.size W w' := by
  have hb0 := below_alloc1 W (.cells #[.func (.func 22) #[] #[], .int .i64 dig, .slice none 0 0] 83)
  obtain ⟨c0, c1, c2⟩ := cells3_new W (.func (.func 22) #[] #[]) (.int .i64 dig) (.slice none 0 0) 83
  have HC := Lib.hid (cells3_below W (.func (.func 22) #[] #[]) (.int .i64 dig) (.slice none 0 0) 83)
  have HF : Hid (∀ W', Calls Tryz.prog 22 #[.int .i64 t] W' fun e w' => e = .returned (.int .i64 (fnC (22) t)) ∧ Below W'.heap.size W' w') := fun W' => (weekday_any t ht (by omega) W').mono fun e w' ⟨h, m, hm⟩ => ⟨h, hm ▸ below_drewN (Below.refl _ _) _⟩
  have hsz : (W.alloc (.cells #[.func (.func 22) #[] #[], .int .i64 dig, .slice none 0 0] 83)).heap.size = W.heap.size + 1 := by simp
  have HN := seven_small ht ht2 (22)
  generalize fnC (22) t = N at *
  have hil := Lib.itoa_length_le N HN.1 HN.2
  have HI := Lib.hid (fun W' (h : PowIs W') => itoa_any N HN.1 HN.2 W' h)
  have HPP := Lib.hid hP
  have HB := Lib.hid hb0
  generalize Lib.itoa N = q at *
  obtain ⟨k, hk⟩ : ∃ k : Nat, (dig - q.length).toNat = k := ⟨_, rfl⟩
  have hmax : max 0 (dig - (q.length : Int)) = (k : Int) := by omega
  have HRp := Lib.hid (fun W' => Tryz.strings_Repeat ⟨#[48]⟩ k W' (by omega) (by show 1 * k ≤ _; omega))
  have hres : padC dig q = Lib.repeatL [48] k ++ q := by unfold padC; rw [hk]
  rw [hres]
  have hrl : (Lib.repeatL [48] k).length ≤ 200 := by rw [Lib.repeatL_length]; simp; omega
  have e48 : (⟨#[48]⟩ : ByteArray).data.toList = [48] := rfl
  rw [e48] at HRp
  generalize Lib.repeatL [48] k = z at *
  clear hres hk hP hb0 e48
  go_enter Tryz.func35, Tryz.ntmps35
  go_wp2_with (first | (go_at_call 22; refine (HF.out _).mono ?_; rintro e w1 ⟨rfl, hb1⟩; obtain ⟨c0, c1, c2⟩ := HC.out _ (by rw [hsz] at hb1; exact hb1); replace HB := Lib.hid (HB.out.trans (hb1.mono (by omega))); clear hb1) | (go_at_call 80; refine (HI.out _ (HPP.out.below HB.out)).mono ?_; rintro e w2 ⟨rfl, hb2⟩; obtain ⟨c0, c1, c2⟩ := cells3_kept hb2 c0 c1 c2; replace HB := Lib.hid (HB.out.trans (hb2.mono HB.out.size)); clear hb2) | (go_at_call 81; refine (HRp.out _).mono ?_; rintro e w3 ⟨rfl, hb3⟩; replace HB := Lib.hid (HB.out.trans (hb3.mono HB.out.size)); clear hb3))
  go_ret
  exact ⟨rfl, HB.out⟩

set_option maxRecDepth 100000 in
set_option maxHeartbeats 1600000 in
theorem write_81 (t : Int) (ht : -62135596800 ≤ t) (ht2 : t ≤ 253402300799) (W : World) (dig : Int) (hd : 0 ≤ dig) (hd2 : dig ≤ 100) (hP : PowIs W) :
    Calls Tryz.prog 35 #[.agg #[.func (.func 73) #[] #[], .int .i64 dig, .slice none 0 0], .int .i64 t] W fun e w' => e = .returned (.string ⟨(padC dig (Lib.itoa (fnC (73) t))).toArray⟩) ∧ Below W.heap.size W w' := by
  have hb0 := below_alloc1 W (.cells #[.func (.func 73) #[] #[], .int .i64 dig, .slice none 0 0] 83)
  obtain ⟨c0, c1, c2⟩ := cells3_new W (.func (.func 73) #[] #[]) (.int .i64 dig) (.slice none 0 0) 83
  have HC := Lib.hid (cells3_below W (.func (.func 73) #[] #[]) (.int .i64 dig) (.slice none 0 0) 83)
  have HF : Hid (∀ W', Calls Tryz.prog 73 #[.int .i64 t] W' fun e w' => e = .returned (.int .i64 (fnC (73) t)) ∧ Below W'.heap.size W' w') := fun W' => l11_any t ht ht2 W'
  have hsz : (W.alloc (.cells #[.func (.func 73) #[] #[], .int .i64 dig, .slice none 0 0] 83)).heap.size = W.heap.size + 1 := by simp
  have HN := seven_small ht ht2 (73)
  generalize fnC (73) t = N at *
  have hil := Lib.itoa_length_le N HN.1 HN.2
  have HI := Lib.hid (fun W' (h : PowIs W') => itoa_any N HN.1 HN.2 W' h)
  have HPP := Lib.hid hP
  have HB := Lib.hid hb0
  generalize Lib.itoa N = q at *
  obtain ⟨k, hk⟩ : ∃ k : Nat, (dig - q.length).toNat = k := ⟨_, rfl⟩
  have hmax : max 0 (dig - (q.length : Int)) = (k : Int) := by omega
  have HRp := Lib.hid (fun W' => Tryz.strings_Repeat ⟨#[48]⟩ k W' (by omega) (by show 1 * k ≤ _; omega))
  have hres : padC dig q = Lib.repeatL [48] k ++ q := by unfold padC; rw [hk]
  rw [hres]
  have hrl : (Lib.repeatL [48] k).length ≤ 200 := by rw [Lib.repeatL_length]; simp; omega
  have e48 : (⟨#[48]⟩ : ByteArray).data.toList = [48] := rfl
  rw [e48] at HRp
  generalize Lib.repeatL [48] k = z at *
  clear hres hk hP hb0 e48
  go_enter Tryz.func35, Tryz.ntmps35
  go_wp2_with (first | (go_at_call 73; refine (HF.out _).mono ?_; rintro e w1 ⟨rfl, hb1⟩; obtain ⟨c0, c1, c2⟩ := HC.out _ (by rw [hsz] at hb1; exact hb1); replace HB := Lib.hid (HB.out.trans (hb1.mono (by omega))); clear hb1) | (go_at_call 80; refine (HI.out _ (HPP.out.below HB.out)).mono ?_; rintro e w2 ⟨rfl, hb2⟩; obtain ⟨c0, c1, c2⟩ := cells3_kept hb2 c0 c1 c2; replace HB := Lib.hid (HB.out.trans (hb2.mono HB.out.size)); clear hb2) | (go_at_call 81; refine (HRp.out _).mono ?_; rintro e w3 ⟨rfl, hb3⟩; replace HB := Lib.hid (HB.out.trans (hb3.mono HB.out.size)); clear hb3))
  go_ret
  exact ⟨rfl, HB.out⟩

set_option maxRecDepth 100000 in
set_option maxHeartbeats 1600000 in
theorem write_82 (t : Int) (ht : -62135596800 ≤ t) (ht2 : t ≤ 253402300799) (W : World) (dig : Int) (hd : 0 ≤ dig) (hd2 : dig ≤ 100) (hP : PowIs W) :
    Calls Tryz.prog 35 #[.agg #[.func (.func 75) #[] #[], .int .i64 dig, .slice none 0 0], .int .i64 t] W fun e w' => e = .returned (.string ⟨(padC dig (Lib.itoa (fnC (75) t))).toArray⟩) ∧ Below W.heap.size W w' := by
  have hb0 := below_alloc1 W (.cells #[.func (.func 75) #[] #[], .int .i64 dig, .slice none 0 0] 83)
  obtain ⟨c0, c1, c2⟩ := cells3_new W (.func (.func 75) #[] #[]) (.int .i64 dig) (.slice none 0 0) 83
  have HC := Lib.hid (cells3_below W (.func (.func 75) #[] #[]) (.int .i64 dig) (.slice none 0 0) 83)
  have HF : Hid (∀ W', Calls Tryz.prog 75 #[.int .i64 t] W' fun e w' => e = .returned (.int .i64 (fnC (75) t)) ∧ Below W'.heap.size W' w') := fun W' => l12_any t ht ht2 W'
  have hsz : (W.alloc (.cells #[.func (.func 75) #[] #[], .int .i64 dig, .slice none 0 0] 83)).heap.size = W.heap.size + 1 := by simp
  have HN := seven_small ht ht2 (75)
  generalize fnC (75) t = N at *
  have hil := Lib.itoa_length_le N HN.1 HN.2
  have HI := Lib.hid (fun W' (h : PowIs W') => itoa_any N HN.1 HN.2 W' h)
  have HPP := Lib.hid hP
  have HB := Lib.hid hb0
  generalize Lib.itoa N = q at *
  obtain ⟨k, hk⟩ : ∃ k : Nat, (dig - q.length).toNat = k := ⟨_, rfl⟩
  have hmax : max 0 (dig - (q.length : Int)) = (k : Int) := by omega
  have HRp := Lib.hid (fun W' => Tryz.strings_Repeat ⟨#[48]⟩ k W' (by omega) (by show 1 * k ≤ _; omega))
  have hres : padC dig q = Lib.repeatL [48] k ++ q := by unfold padC; rw [hk]
  rw [hres]
  have hrl : (Lib.repeatL [48] k).length ≤ 200 := by rw [Lib.repeatL_length]; simp; omega
  have e48 : (⟨#[48]⟩ : ByteArray).data.toList = [48] := rfl
  rw [e48] at HRp
  generalize Lib.repeatL [48] k = z at *
  clear hres hk hP hb0 e48
  go_enter Tryz.func35, Tryz.ntmps35
  go_wp2_with (first | (go_at_call 75; refine (HF.out _).mono ?_; rintro e w1 ⟨rfl, hb1⟩; obtain ⟨c0, c1, c2⟩ := HC.out _ (by rw [hsz] at hb1; exact hb1); replace HB := Lib.hid (HB.out.trans (hb1.mono (by omega))); clear hb1) | (go_at_call 80; refine (HI.out _ (HPP.out.below HB.out)).mono ?_; rintro e w2 ⟨rfl, hb2⟩; obtain ⟨c0, c1, c2⟩ := cells3_kept hb2 c0 c1 c2; replace HB := Lib.hid (HB.out.trans (hb2.mono HB.out.size)); clear hb2) | (go_at_call 81; refine (HRp.out _).mono ?_; rintro e w3 ⟨rfl, hb3⟩; replace HB := Lib.hid (HB.out.trans (hb3.mono HB.out.size)); clear hb3))
  go_ret
  exact ⟨rfl, HB.out⟩

set_option maxRecDepth 100000 in
set_option maxHeartbeats 1600000 in
theorem write_86 (t : Int) (ht : -62135596800 ≤ t) (ht2 : t ≤ 253402300799) (W : World) (dig : Int) (hd : 0 ≤ dig) (hd2 : dig ≤ 100) (hP : PowIs W) :
    Calls Tryz.prog 35 #[.agg #[.func (.func 79) #[] #[], .int .i64 dig, .slice none 0 0], .int .i64 t] W fun e w' => e = .returned (.string ⟨(padC dig (Lib.itoa (fnC (79) t))).toArray⟩) ∧ Below W.heap.size W w' := by
  have hb0 := below_alloc1 W (.cells #[.func (.func 79) #[] #[], .int .i64 dig, .slice none 0 0] 83)
  obtain ⟨c0, c1, c2⟩ := cells3_new W (.func (.func 79) #[] #[]) (.int .i64 dig) (.slice none 0 0) 83
  have HC := Lib.hid (cells3_below W (.func (.func 79) #[] #[]) (.int .i64 dig) (.slice none 0 0) 83)
  have HF : Hid (∀ W', Calls Tryz.prog 79 #[.int .i64 t] W' fun e w' => e = .returned (.int .i64 (fnC (79) t)) ∧ Below W'.heap.size W' w') := fun W' => l13_any t W'
  have hsz : (W.alloc (.cells #[.func (.func 79) #[] #[], .int .i64 dig, .slice none 0 0] 83)).heap.size = W.heap.size + 1 := by simp
  have HN := seven_small ht ht2 (79)
  generalize fnC (79) t = N at *
  have hil := Lib.itoa_length_le N HN.1 HN.2
  have HI := Lib.hid (fun W' (h : PowIs W') => itoa_any N HN.1 HN.2 W' h)
  have HPP := Lib.hid hP
  have HB := Lib.hid hb0
  generalize Lib.itoa N = q at *
  obtain ⟨k, hk⟩ : ∃ k : Nat, (dig - q.length).toNat = k := ⟨_, rfl⟩
  have hmax : max 0 (dig - (q.length : Int)) = (k : Int) := by omega
  have HRp := Lib.hid (fun W' => Tryz.strings_Repeat ⟨#[48]⟩ k W' (by omega) (by show 1 * k ≤ _; omega))
  have hres : padC dig q = Lib.repeatL [48] k ++ q := by unfold padC; rw [hk]
  rw [hres]
  have hrl : (Lib.repeatL [48] k).length ≤ 200 := by rw [Lib.repeatL_length]; simp; omega
  have e48 : (⟨#[48]⟩ : ByteArray).data.toList = [48] := rfl
  rw [e48] at HRp
  generalize Lib.repeatL [48] k = z at *
  clear hres hk hP hb0 e48
  go_enter Tryz.func35, Tryz.ntmps35
  go_wp2_with (first | (go_at_call 79; refine (HF.out _).mono ?_; rintro e w1 ⟨rfl, hb1⟩; obtain ⟨c0, c1, c2⟩ := HC.out _ (by rw [hsz] at hb1; exact hb1); replace HB := Lib.hid (HB.out.trans (hb1.mono (by omega))); clear hb1) | (go_at_call 80; refine (HI.out _ (HPP.out.below HB.out)).mono ?_; rintro e w2 ⟨rfl, hb2⟩; obtain ⟨c0, c1, c2⟩ := cells3_kept hb2 c0 c1 c2; replace HB := Lib.hid (HB.out.trans (hb2.mono HB.out.size)); clear hb2) | (go_at_call 81; refine (HRp.out _).mono ?_; rintro e w3 ⟨rfl, hb3⟩; replace HB := Lib.hid (HB.out.trans (hb3.mono HB.out.size)); clear hb3))
  go_ret
  exact ⟨rfl, HB.out⟩

set_option maxRecDepth 100000 in
set_option maxHeartbeats 1600000 in
theorem write_52N (t : Int) (ht : -62135596800 ≤ t) (ht2 : t ≤ 253402300799) (W : World) (l : List Bs) (hl : 0 < l.length) (hl9 : l.length ≤ 1000) (b cap : Nat) (hr : SRow W b l) (hN1 : 1 ≤ fnC (22) t) (hN2 : fnC (22) t ≤ l.length) :
    Calls Tryz.prog 35 #[.agg #[.func (.func 22) #[] #[], .int .i64 0, .slice (some ⟨b, 0, none⟩) l.length cap], .int .i64 t] W fun e w' => e = .returned (.string ⟨(l.getD (fnC (22) t - 1).toNat []).toArray⟩) ∧ Below W.heap.size W w' := by
  have hb0 := below_alloc1 W (.cells #[.func (.func 22) #[] #[], .int .i64 0, .slice (some ⟨b, 0, none⟩) l.length cap] 83)
  obtain ⟨c0, c1, c2⟩ := cells3_new W (.func (.func 22) #[] #[]) (.int .i64 0) (.slice (some ⟨b, 0, none⟩) l.length cap) 83
  have HC := Lib.hid (cells3_below W (.func (.func 22) #[] #[]) (.int .i64 0) (.slice (some ⟨b, 0, none⟩) l.length cap) 83)
  have HF : Hid (∀ W', Calls Tryz.prog 22 #[.int .i64 t] W' fun e w' => e = .returned (.int .i64 (fnC (22) t)) ∧ Below W'.heap.size W' w') := fun W' => (weekday_any t ht (by omega) W').mono fun e w' ⟨h, m, hm⟩ => ⟨h, hm ▸ below_drewN (Below.refl _ _) _⟩
  have hsz : (W.alloc (.cells #[.func (.func 22) #[] #[], .int .i64 0, .slice (some ⟨b, 0, none⟩) l.length cap] 83)).heap.size = W.heap.size + 1 := by simp
  have HR := Lib.hid hr
  generalize fnC (22) t = N at *
  obtain ⟨k, hk⟩ : ∃ k : Nat, N = k + 1 := ⟨(N - 1).toNat, by omega⟩
  subst hk
  have hkl : k < l.length := by omega
  have hx : l[k]? = some l[k] := List.getElem?_eq_getElem hkl
  have hck := hr k _ hx
  have hbk : b < W.heap.size := cell_lt hck
  have hres : l.getD (((k : Int) + 1) - 1).toNat [] = l[k] := by
    rw [show (((k : Int) + 1) - 1).toNat = k by omega, List.getD_eq_getElem?_getD, hx]; rfl
  rw [hres]
  generalize l[k] = x at *
  have HB := Lib.hid hb0
  clear hres hx hr hb0
  have hk9 : (k : Int) ≤ 1000 := by omega
  have hlen : (0 : Int) < (l.length : Int) := by omega
  have hkl2 : (k : Int) < (l.length : Int) := by omega
  go_enter Tryz.func35, Tryz.ntmps35
  go_wp2_with (go_at_call 22; refine (HF.out _).mono ?_; rintro e w1 ⟨rfl, hb1⟩; obtain ⟨c0, c1, c2⟩ := HC.out _ (by rw [hsz] at hb1; exact hb1); have hck1 := ((HB.out.trans (hb1.mono (by omega))).cell (p := ⟨b, k, none⟩) hbk).trans hck)
  go_ret
  exact ⟨rfl, HB.out.trans (hb1.mono (by omega))⟩
end Go.Proofs.YtkahakhhdiffcaaGreatDoor
