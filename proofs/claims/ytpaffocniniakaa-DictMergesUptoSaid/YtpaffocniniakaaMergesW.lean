/- DictMerges: the walk. -/
import Derived.Test.YtpaffocniniakaaMergeA
import Derived.Test.YtpaffocniniakaaAlikeP
import Derived.Deep.RegionHeld3
namespace Go.Proofs.Ytpaffocniniakaa
set_option linter.unusedVariables false
set_option linter.unusedSimpArgs false
open Go.RowKit
attribute [local go_sem] Oper.semAt_some wide_fn

theorem wt_longS (ss : List Bs) : wt ss ≤ 5 * longS ss := by
  induction ss with
  | nil => simp [wt]
  | cons s r ih => simp only [wt, longS]; omega
theorem sumL_longS (ss : List Bs) : sumL ss + ss.length = longS ss := by
  induction ss with
  | nil => simp [sumL, longS]
  | cons s r ih => simp only [sumL, List.map_cons, List.sum_cons, List.length_cons, longS] at ih ⊢; omega
/-- 'Alike' of a dictionary of a list is asked of all. -/
theorem merge_new2 (a b : Bs) (W : World) (hM : MaxIs W) (hl : a.length + b.length ≤ 19999) :
    Calls Try.prog 11 #[.slice (some ⟨W.heap.size, 0, none⟩) 2 2] (W.alloc (.cells #[.string ⟨a.toArray⟩, .string ⟨b.toArray⟩] 9)) fun e w' => e = .returned (.tuple #[.string ⟨(mergeE [a, b]).1.toArray⟩, .int .i64 (mergeE [a, b]).2]) ∧ Below W.heap.size W w' := by
  have hB1 : Below W.heap.size W (W.alloc (.cells #[.string ⟨a.toArray⟩, .string ⟨b.toArray⟩] 9)) := (Below.refl _ _).alloc (Nat.le_refl _) _
  exact (Merge_any _ [a, b] _ (hM.below hB1 hM.pos) (txt_new W [a, b] (by show 2 ≤ maxLen; decide)) (by simp [sumL]; omega)).mono fun e w2 ⟨h1, h2⟩ => ⟨h1, hB1.trans (h2.mono hB1.size)⟩
set_option maxRecDepth 100000 in
set_option maxHeartbeats 3200000 in
theorem dictMerges_walk (v : Value) (ss : List Bs) (w : World) (hM : MaxIs w) (ht : TxtRow w v ss) (hno : longS ss ≤ 9223372036854775807) :
    Calls Try.prog 4 #[v] w fun e w' => e = .returned (.bool true) ∧ Below w.heap.size w w' := by
  obtain ⟨o, c, rfl⟩ := ht.len
  have AW : Hid (∀ W, Below w.heap.size w W → Calls Try.prog 8 #[] W fun e w' => e = .returned (.bool true) ∧ Below w.heap.size w w') := fun W hB => (awake_any W (hM.below hB hM.pos)).mono fun e w' ⟨h1, h2⟩ => ⟨h1, hB.trans (h2.mono hB.size)⟩
  have LG := Long_any ss _ w hno ht
  by_cases hL : 1500 < longS ss
  · rw [decide_eq_true hL] at LG
    have LG2 := Lib.hid LG
    have H1 := Lib.hid (Below.refl w.heap.size w)
    generalize ss.length = n at *
    clear hL hno hM ht LG
    go_enter Try.func4, Try.ntmps4
    go_wp2_with (first | (go_at_call 7; refine LG2.out.mono ?_; rintro e w1 ⟨rfl, rfl⟩) | (go_at_call 8; refine (AW.out _ H1.out).mono ?_; rintro e w2 ⟨rfl, hB2⟩; have H2 := Lib.hid hB2; clear hB2))
    go_ret
    exact ⟨rfl, H2.out⟩
  · rw [decide_eq_false hL] at LG
    have hsl := sumL_longS ss
    have hwl := wt_longS ss
    have TR : Hid (∀ W, Below w.heap.size w W → TxtRow W (.slice o ss.length c) ss) := fun W h => ht.below h
    have MG : Hid (∀ W, Below w.heap.size w W → Calls Try.prog 11 #[.slice o ss.length c] W fun e w' => e = .returned (.tuple #[.string ⟨(mergeE ss).1.toArray⟩, .int .i64 (mergeE ss).2]) ∧ Below w.heap.size w w') := fun W hB => (Merge_any _ ss W (hM.below hB hM.pos) (ht.below hB) (by omega)).mono fun e w' ⟨h1, h2⟩ => ⟨h1, hB.trans (h2.mono hB.size)⟩
    have RM : Hid (∀ W, Below w.heap.size w W → Calls Try.prog 12 #[.slice o ss.length c] W fun e w' => e = .returned (.tuple #[.string ⟨(mergeE ss).1.toArray⟩, .int .i64 (mergeE ss).2]) ∧ Below w.heap.size w w') := fun W hB => (rMerge_any _ ss W (ht.below hB) (by omega)).mono fun e w' ⟨h1, h2⟩ => ⟨h1, hB.trans (h2.mono hB.size)⟩
    have CR : Hid (∀ W, Below w.heap.size w W → Calls Try.prog 13 #[.slice o ss.length c] W fun e w' => e = .returned (.tuple #[.string ⟨(createC ss).1.toArray⟩, .int .i64 (createC ss).2]) ∧ Below w.heap.size w w') := fun W hB => (Create_any _ ss W (hM.below hB hM.pos) (ht.below hB) (by omega) (by omega)).mono fun e w' ⟨h1, h2⟩ => ⟨h1, hB.trans (h2.mono hB.size)⟩
    have RC : Hid (∀ W, Below w.heap.size w W → Calls Try.prog 14 #[.slice o ss.length c] W fun e w' => e = .returned (.tuple #[.string ⟨(createC ss).1.toArray⟩, .int .i64 (createC ss).2]) ∧ Below w.heap.size w w') := fun W hB => (rCreate_any _ ss W (ht.below hB) (by omega) (by omega)).mono fun e w' ⟨h1, h2⟩ => ⟨h1, hB.trans (h2.mono hB.size)⟩
    have SH : Hid (∀ x ∈ ss, x.length ≤ 1500) := fun x hx => by have := sumL_mem hx; omega
    have AL : Hid (∀ a b W, a.length ≤ 1500 → b.length ≤ 1500 → Calls Try.prog 9 #[.string ⟨a.toArray⟩, .string ⟨b.toArray⟩] W fun e w' => e = .returned (.bool (alikeC a b)) ∧ Below W.heap.size W w') := fun a b W h1 h2 => Alike_any a b (by omega) (by omega) W
    have RA : Hid (∀ a b W, a.length ≤ 1500 → b.length ≤ 1500 → Calls Try.prog 15 #[.string ⟨a.toArray⟩, .string ⟨b.toArray⟩] W fun e w' => e = .returned (.bool (alikeC a b)) ∧ Below W.heap.size W w') := fun a b W h1 h2 => rAlike_any a b (by omega) (by omega) W
    have MS : Hid (∀ s W, s.length ≤ 1500 → Below w.heap.size w W → Calls Try.prog 11 #[.slice (some ⟨W.heap.size, 0, none⟩) 2 2] (W.alloc (.cells #[.string ⟨s.toArray⟩, .string ⟨s.toArray⟩] 9)) fun e w' => e = .returned (.tuple #[.string ⟨(canonC s).1.toArray⟩, .int .i64 (canonC s).2]) ∧ Below W.heap.size W w') := fun s W h1 hB => by
      have h := merge_new2 s s W (hM.below hB hM.pos) (by omega)
      rw [merge_same] at h
      exact h
    have CN : Hid (∀ s W, s.length ≤ 1500 → Calls Try.prog 16 #[.string ⟨s.toArray⟩] W fun e w' => e = .returned (.tuple #[.string ⟨(canonC s).1.toArray⟩, .int .i64 (canonC s).2]) ∧ Below W.heap.size W w') := fun s W h1 => rCanonical_any s (by omega) W
    have hlen : ss.length ≤ 1500 := by omega
    have LG2 := Lib.hid LG
    have H := Lib.hid (Below.refl w.heap.size w)
    obtain ⟨n, hn⟩ : ∃ n, ss.length = n := ⟨_, rfl⟩
    have HN := Lib.hid hn
    rw [hn] at TR MG RM CR RC LG2 hlen ⊢
    clear hL hno hM ht LG hsl hwl hn
    generalize mergeE ss = me at *
    generalize createC ss = ce at *
    go_enter Try.func4, Try.ntmps4
    go_wp2_with (first | (go_at_call 7; refine LG2.out.mono ?_; rintro e w1 ⟨rfl, rfl⟩) | (go_at_call 11; refine (MG.out _ H.out).mono ?_; rintro e w2 ⟨rfl, hB⟩; have H := Lib.hid hB; clear hB) | (go_at_call 12; refine (RM.out _ H.out).mono ?_; rintro e w3 ⟨rfl, hB⟩; have H := Lib.hid hB; clear hB) | (go_at_call 13; refine (CR.out _ H.out).mono ?_; rintro e w4 ⟨rfl, hB⟩; have H := Lib.hid hB; clear hB) | (go_at_call 14; refine (RC.out _ H.out).mono ?_; rintro e w5 ⟨rfl, hB⟩; have H := Lib.hid hB; clear hB))
    go_loopg [11, 12, 13, 14, 15, 59] n (fun g _ _ _ _ _ i wr => ∃ k : Nat, k + g = n ∧ i = .int .i64 (k : Int) ∧ Below w.heap.size w wr)
    case atStart => exact ⟨0, by omega, rfl, H.out⟩
    case round =>
      obtain ⟨k, hkg, rfl, hb⟩ := hrel
      have hbw := Lib.hid hb
      by_cases hlt : k < n
      · have hn := HN.out
        obtain ⟨z1, hc0, hcm0, h0⟩ := (TR.out _ hb).at_
        obtain ⟨g0, f0, rfl, hl0, hcz⟩ := h0 0 (by omega)
        obtain ⟨g0', f0', e, _, hck⟩ := h0 k (by omega)
        cases e
        have s0 := SH.out _ (List.getElem_mem (by omega : 0 < ss.length))
        have sk := SH.out _ (List.getElem_mem (by omega : k < ss.length))
        generalize ss[0]'(by omega) = a at *
        generalize ss[k]'(by omega) = s at *
        have hA : wr.cell? ⟨g0, f0, none⟩ = some (.string ⟨a.toArray⟩) := by simpa using hcz
        have hS : wr.cell? ⟨g0, f0 + k, none⟩ = some (.string ⟨s.toArray⟩) := hck
        have i1 : k < n := hlt
        have i0 : 0 < n := by omega
        have i2 : (0 : Int) < (n : Int) := by omega
        have t0 : decide ((k : Int) < (n : Int)) = true := by rw [decide_eq_true_eq]; omega
        have AL2 : Hid (∀ W, Calls Try.prog 9 #[.string ⟨a.toArray⟩, .string ⟨s.toArray⟩] W fun e w' => e = .returned (.bool (alikeC a s)) ∧ Below W.heap.size W w') := fun W => AL.out a s W s0 sk
        have RA2 : Hid (∀ W, Calls Try.prog 15 #[.string ⟨a.toArray⟩, .string ⟨s.toArray⟩] W fun e w' => e = .returned (.bool (alikeC a s)) ∧ Below W.heap.size W w') := fun W => RA.out a s W s0 sk
        have MS2 : Hid (∀ W, Below w.heap.size w W → Calls Try.prog 11 #[.slice (some ⟨W.heap.size, 0, none⟩) 2 2] (W.alloc (.cells #[.string ⟨s.toArray⟩, .string ⟨s.toArray⟩] 9)) fun e w' => e = .returned (.tuple #[.string ⟨(canonC s).1.toArray⟩, .int .i64 (canonC s).2]) ∧ Below W.heap.size W w') := fun W => MS.out s W sk
        have CN2 : Hid (∀ W, Calls Try.prog 16 #[.string ⟨s.toArray⟩] W fun e w' => e = .returned (.tuple #[.string ⟨(canonC s).1.toArray⟩, .int .i64 (canonC s).2]) ∧ Below W.heap.size W w') := fun W => CN.out s W sk
        generalize alikeC a s = al at *
        generalize canonC s = cn at *
        have xa : ∀ x : HeldW wr, x.val.cell? ⟨g0, f0, none⟩ = some (.string ⟨a.toArray⟩) := fun x => (x.below.cell (p := ⟨g0, f0, none⟩) hl0).trans hA
        have xs : ∀ x : HeldW wr, x.val.cell? ⟨g0, f0 + k, none⟩ = some (.string ⟨s.toArray⟩) := fun x => (x.below.cell (p := ⟨g0, f0 + k, none⟩) hl0).trans hS
        have HJ := Lib.hid hkg
        have XA := Lib.hid xa
        have XS := Lib.hid xs
        clear hkg hb hlt hn z1 hc0 hcm0 h0 hcz hck s0 sk AL RA MS CN TR MG RM CR RC
        go_wp2_with fail
        refine (wpIn_wide (n := 3)).1 ?_
        refine wpIn_region_held wr (Below.refl _ _) rfl (by kernel_rfl) (by kernel_rfl) ?_
        repeat (gi_big_quiet_step (first | (gi_at_call 9; go_loud (exact held_more (callsIn_wide.2 (AL2.out _)))) | (gi_at_call 15; exact held_more (callsIn_wide.2 (RA2.out _)))))
        refine wpQuietIn_nil ?_
        rintro _ ⟨x, rfl⟩
        have hA1 := XA.out x
        have hS1 := XS.out x
        have hB1 := Lib.hid (hbw.out.trans (x.below.mono hbw.out.size))
        obtain ⟨w2, hw2⟩ : ∃ w2, w2 = x.val := ⟨_, rfl⟩
        rw [← hw2] at hA1 hS1 hB1 ⊢
        have hl2 : g0 < w2.heap.size := by rw [hw2]; exact Nat.lt_of_lt_of_le hl0 x.below.size
        clear hw2 xa xs hA hS
        clear x
        go_wp2_with fail
        go_region_held3 (fun w' => w'.cell? ⟨g0, f0 + k, none⟩ = some (.string ⟨s.toArray⟩)) (first | go_keep | (exact (hbx.cell (p := ⟨g0, f0 + k, none⟩) hl2).trans hS1)) ((go_at_call 11; refine (MS2.out _ (by exact hB1.out.drew)).mono ?_; rintro e w4 ⟨rfl, hbx0⟩; have hbx := ((Below.refl w2.heap.size w2).drew).trans hbx0; clear hbx0))
        go_wp2_with (go_at_call 16; refine (CN2.out _).mono ?_; rintro e w6 ⟨rfl, hB6⟩; have H6 := Lib.hid hB6; clear hB6)
        go_roundg (gk - 1)
        case measure => have := HJ.out; omega
        case rel => exact ⟨k + 1, by have := HJ.out; omega, by go_num, (hB1.out.trans (hbx.mono hB1.out.size)).trans (H6.out.mono (Nat.le_trans hB1.out.size hbx.size))⟩
      · obtain rfl : k = n := by omega
        have t0 : decide ((k : Int) < (k : Int)) = false := by rw [decide_eq_false_iff_not]; omega
        clear hkg hlt hb
        go_wp2_with (go_at_call 8; refine (AW.out _ hbw.out).mono ?_; rintro e w2 ⟨rfl, hB2⟩; have H2 := Lib.hid hB2; clear hB2)
        go_ret
        exact ⟨rfl, H2.out⟩
end Go.Proofs.Ytpaffocniniakaa
