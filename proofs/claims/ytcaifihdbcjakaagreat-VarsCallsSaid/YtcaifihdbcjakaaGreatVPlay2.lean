/- 'play' of the statements on layer 15: Pop, Room, Set, Unset, Link. -/
import Derived.Test.YtcaifihdbcjakaaGreatVPlay
namespace Go.Proofs.YtcaifihdbcjakaaGreat
set_option linter.unusedVariables false
set_option linter.unusedSimpArgs false
open Go.RowKit
variable {N : Nat}

set_option maxRecDepth 100000 in
set_option maxHeartbeats 1600000 in
theorem play_pop {B : Nat} {w : World} {S : St} {x sm y row sc : Nat} {g : Int → Option Nat} (hN : N ≤ 100000) (hB : B ≤ w.heap.size) (hR : Rep B w S) (hp : Sp N S x sm g) (hns : Ns B w y row sc nilS []) (a b : Int) (s t : Bs) :
    Calls Tryz.prog 8 #[.pointer (some ⟨x, 0, none⟩), .pointer (some ⟨y, 0, none⟩), .agg #[.int .i64 1, .int .i64 a, .int .i64 b, .string ⟨s.toArray⟩, .string ⟨t.toArray⟩]] w fun e w' => PlayPost N B w x sm e w' := by
  have HX : Hid (∀ W, Kp [] w W → W.heap[w.heap.size]? = some (actB 1 a b s t) → Calls Tryz.prog 16 #[.pointer (some ⟨x, 0, none⟩)] W fun e w1 => (∃ i, e = .returned (.int .i64 i)) ∧ Hid (XMid N B w (actB 1 a b s t) x sm y row sc w1)) := fun W hk ho =>
    (Pop_any hN (hR.kp hk (by simp)) hp).mono fun e w1 ⟨hi, hA⟩ => ⟨hi, xmid hB hR hns hk ho hA.more1⟩
  have HY : Hid (∀ w1, XMid N B w (actB 1 a b s t) x sm y row sc w1 → Calls Tryz.prog 21 #[.pointer (some ⟨y, 0, none⟩)] w1 fun e w2 => (∃ i, e = .returned (.int .i64 i)) ∧ Hid (PlayRes N B w x sm w2) ∧ w2.heap[w.heap.size]? = some (actB 1 a b s t)) := fun w1 hM =>
    (rPop_any hM.ns.spc).mono fun e w2 ⟨hi, hk⟩ => ⟨hi, xend hM (D := []) (by subst hk; exact Kp.refl [] _) (by simp)⟩
  clear hR hp hns
  go_enter Tryz.func8, Tryz.ntmps8
  go_wp2_with (first | (go_at_call 16; refine (HX.out _ (by exact (Kp.refl [] w).alloc _) (by exact heap_alloc_new w _)).mono ?_; rintro e w1 ⟨⟨i, rfl⟩, HM⟩) | (go_at_call 21; refine (HY.out _ HM.out).mono ?_; rintro e w2 ⟨⟨j, rfl⟩, HP, _⟩))
  go_ret
  exact ⟨⟨_, rfl⟩, HP.out⟩
theorem box_2 {w1 : World} {n : Nat} {k a b : Int} {s t : Bs} (h : w1.heap[n]? = some (actB k a b s t)) : w1.cell? ⟨n, 3, none⟩ = some (.string ⟨s.toArray⟩) := by
  obtain ⟨⟨k0, k1, k2, k3, k4⟩, hl⟩ := cells5 h
  exact k3
theorem box_3 {w1 : World} {n : Nat} {k a b : Int} {s t : Bs} (h : w1.heap[n]? = some (actB k a b s t)) : w1.cell? ⟨n, 1, none⟩ = some (.int .i64 a) ∧ w1.cell? ⟨n, 3, none⟩ = some (.string ⟨s.toArray⟩) ∧ w1.cell? ⟨n, 4, none⟩ = some (.string ⟨t.toArray⟩) := by
  obtain ⟨⟨k0, k1, k2, k3, k4⟩, hl⟩ := cells5 h
  exact ⟨k1, k3, k4⟩
theorem box_4 {w1 : World} {n : Nat} {k a b : Int} {s t : Bs} (h : w1.heap[n]? = some (actB k a b s t)) : w1.cell? ⟨n, 1, none⟩ = some (.int .i64 a) ∧ w1.cell? ⟨n, 3, none⟩ = some (.string ⟨s.toArray⟩) := by
  obtain ⟨⟨k0, k1, k2, k3, k4⟩, hl⟩ := cells5 h
  exact ⟨k1, k3⟩
theorem box_5 {w1 : World} {n : Nat} {k a b : Int} {s t : Bs} (h : w1.heap[n]? = some (actB k a b s t)) : w1.cell? ⟨n, 1, none⟩ = some (.int .i64 a) ∧ w1.cell? ⟨n, 2, none⟩ = some (.int .i64 b) ∧ w1.cell? ⟨n, 3, none⟩ = some (.string ⟨s.toArray⟩) ∧ w1.cell? ⟨n, 4, none⟩ = some (.string ⟨t.toArray⟩) := by
  obtain ⟨⟨k0, k1, k2, k3, k4⟩, hl⟩ := cells5 h
  exact ⟨k1, k2, k3, k4⟩

set_option maxRecDepth 100000 in
set_option maxHeartbeats 3200000 in
theorem play_room {B : Nat} {w : World} {S : St} {x sm y row sc : Nat} {g : Int → Option Nat} (hN : N ≤ 100000) (hB : B ≤ w.heap.size) (hR : Rep B w S) (hp : Sp N S x sm g) (hns : Ns B w y row sc nilS []) {a b : Int} {s t : Bs} (ha : (Lit.int .i64 a).wf = true) (hb : (Lit.int .i64 b).wf = true) (hs : s.length ≤ 1000000) (ht : t.length ≤ 1000000) :
    Calls Tryz.prog 8 #[.pointer (some ⟨x, 0, none⟩), .pointer (some ⟨y, 0, none⟩), .agg #[.int .i64 2, .int .i64 a, .int .i64 b, .string ⟨s.toArray⟩, .string ⟨t.toArray⟩]] w fun e w' => PlayPost N B w x sm e w' := by
  have HX : Hid (∀ W, Kp [] w W → W.heap[w.heap.size]? = some (actB 2 a b s t) → Calls Tryz.prog 22 #[.pointer (some ⟨x, 0, none⟩), .string ⟨s.toArray⟩] W fun e w1 => (∃ i, e = .returned (.int .i64 i)) ∧ Hid (XMid N B w (actB 2 a b s t) x sm y row sc w1)) := fun W hk ho =>
    (Room_any (Nat.le_trans hB hk.size) (hR.kp hk (by simp)) hp (by simp [maxLen]; omega)).mono fun e w1 hA => ⟨hA.1, xmid hB hR hns hk ho hA.2.more1⟩
  have HY : Hid (∀ w1, XMid N B w (actB 2 a b s t) x sm y row sc w1 → Calls Tryz.prog 23 #[.pointer (some ⟨y, 0, none⟩), .string ⟨s.toArray⟩] w1 fun e w2 => (∃ i, e = .returned (.int .i64 i)) ∧ Hid (PlayRes N B w x sm w2) ∧ w2.heap[w.heap.size]? = some (actB 2 a b s t)) := fun w1 hM => by
    exact (rRoom_any hM.ns.spc s).mono fun e w2 ⟨hi, hk⟩ => ⟨hi, xend hM hk (by simp)⟩
  clear hR hp hns
  go_enter Tryz.func8, Tryz.ntmps8
  go_wp2_with fail
  go_region_held3 (fun w' => w'.cell? ⟨w.heap.size, 3, none⟩ = some (.string ⟨s.toArray⟩)) (first | go_keep | (first | exact CX | exact CY)) ((first | (go_at_call 22; refine (HX.out _ (by exact ((Kp.refl [] w).alloc _).drew) (by exact heap_alloc_new w _)).mono ?_; rintro e w1 ⟨⟨i, rfl⟩, HM⟩; obtain ⟨⟨k0, k1, k2, k3, k4⟩, hl⟩ := cells5 HM.out.box; have CX := box_2 HM.out.box; clear k0) | (go_at_call 23; refine (HY.out _ HM.out).mono ?_; rintro e w2 ⟨⟨j, rfl⟩, HP, hbx⟩; have CY := box_2 hbx; clear hbx)))
  go_wp2_with fail
  go_ret
  exact ⟨⟨_, rfl⟩, HP.out⟩

set_option maxRecDepth 100000 in
set_option maxHeartbeats 3200000 in
theorem play_set {B : Nat} {w : World} {S : St} {x sm y row sc : Nat} {g : Int → Option Nat} (hN : N ≤ 100000) (hB : B ≤ w.heap.size) (hR : Rep B w S) (hp : Sp N S x sm g) (hns : Ns B w y row sc nilS []) {a b : Int} {s t : Bs} (ha : (Lit.int .i64 a).wf = true) (hb : (Lit.int .i64 b).wf = true) (hs : s.length ≤ 1000000) (ht : t.length ≤ 1000000) :
    Calls Tryz.prog 8 #[.pointer (some ⟨x, 0, none⟩), .pointer (some ⟨y, 0, none⟩), .agg #[.int .i64 3, .int .i64 a, .int .i64 b, .string ⟨s.toArray⟩, .string ⟨t.toArray⟩]] w fun e w' => PlayPost N B w x sm e w' := by
  have HX : Hid (∀ W, Kp [] w W → W.heap[w.heap.size]? = some (actB 3 a b s t) → Calls Tryz.prog 15 #[.pointer (some ⟨x, 0, none⟩), .int .i64 a, .string ⟨s.toArray⟩, .string ⟨t.toArray⟩] W fun e w1 => (∃ i, e = .returned (.int .i64 i)) ∧ Hid (XMid N B w (actB 3 a b s t) x sm y row sc w1)) := fun W hk ho =>
    (Set_any (Nat.le_trans hB hk.size) (hR.kp hk (by simp)) hp ha (by simp [maxLen]; omega)).mono fun e w1 hA => ⟨hA.act.1, xmid hB hR hns hk ho hA.act.2⟩
  have HY : Hid (∀ w1, XMid N B w (actB 3 a b s t) x sm y row sc w1 → Calls Tryz.prog 24 #[.pointer (some ⟨y, 0, none⟩), .int .i64 a, .string ⟨s.toArray⟩, .string ⟨t.toArray⟩] w1 fun e w2 => (∃ i, e = .returned (.int .i64 i)) ∧ Hid (PlayRes N B w x sm w2) ∧ w2.heap[w.heap.size]? = some (actB 3 a b s t)) := fun w1 hM => by
    by_cases h0 : a = 0
    · subst h0; exact (rSet_yes hM.lo hM.ns hs).mono fun e w2 ⟨hi, hk⟩ => ⟨hi, xend hM hk (by simp)⟩
    · exact (rSet_no hM.ns.spc ha h0).mono fun e w2 ⟨hi, hk⟩ => ⟨hi, xend hM hk (by simp)⟩
  clear hR hp hns
  go_enter Tryz.func8, Tryz.ntmps8
  go_wp2_with fail
  go_region_held3 (fun w' => w'.cell? ⟨w.heap.size, 1, none⟩ = some (.int .i64 a) ∧ w'.cell? ⟨w.heap.size, 3, none⟩ = some (.string ⟨s.toArray⟩) ∧ w'.cell? ⟨w.heap.size, 4, none⟩ = some (.string ⟨t.toArray⟩)) (first | go_keep | (first | exact CX | exact CY)) ((first | (go_at_call 15; refine (HX.out _ (by exact ((Kp.refl [] w).alloc _).drew) (by exact heap_alloc_new w _)).mono ?_; rintro e w1 ⟨⟨i, rfl⟩, HM⟩; obtain ⟨⟨k0, k1, k2, k3, k4⟩, hl⟩ := cells5 HM.out.box; have CX := box_3 HM.out.box; clear k0) | (go_at_call 24; refine (HY.out _ HM.out).mono ?_; rintro e w2 ⟨⟨j, rfl⟩, HP, hbx⟩; have CY := box_3 hbx; clear hbx)))
  go_wp2_with fail
  go_ret
  exact ⟨⟨_, rfl⟩, HP.out⟩

set_option maxRecDepth 100000 in
set_option maxHeartbeats 3200000 in
theorem play_unset {B : Nat} {w : World} {S : St} {x sm y row sc : Nat} {g : Int → Option Nat} (hN : N ≤ 100000) (hB : B ≤ w.heap.size) (hR : Rep B w S) (hp : Sp N S x sm g) (hns : Ns B w y row sc nilS []) {a b : Int} {s t : Bs} (ha : (Lit.int .i64 a).wf = true) (hb : (Lit.int .i64 b).wf = true) (hs : s.length ≤ 1000000) (ht : t.length ≤ 1000000) :
    Calls Tryz.prog 8 #[.pointer (some ⟨x, 0, none⟩), .pointer (some ⟨y, 0, none⟩), .agg #[.int .i64 4, .int .i64 a, .int .i64 b, .string ⟨s.toArray⟩, .string ⟨t.toArray⟩]] w fun e w' => PlayPost N B w x sm e w' := by
  have HX : Hid (∀ W, Kp [] w W → W.heap[w.heap.size]? = some (actB 4 a b s t) → Calls Tryz.prog 25 #[.pointer (some ⟨x, 0, none⟩), .int .i64 a, .string ⟨s.toArray⟩] W fun e w1 => (∃ i, e = .returned (.int .i64 i)) ∧ Hid (XMid N B w (actB 4 a b s t) x sm y row sc w1)) := fun W hk ho =>
    (Unset_any (Nat.le_trans hB hk.size) (hR.kp hk (by simp)) hp ha (by simp [maxLen]; omega)).mono fun e w1 hA => ⟨hA.1, xmid hB hR hns hk ho hA.2.more1⟩
  have HY : Hid (∀ w1, XMid N B w (actB 4 a b s t) x sm y row sc w1 → Calls Tryz.prog 26 #[.pointer (some ⟨y, 0, none⟩), .int .i64 a, .string ⟨s.toArray⟩] w1 fun e w2 => (∃ i, e = .returned (.int .i64 i)) ∧ Hid (PlayRes N B w x sm w2) ∧ w2.heap[w.heap.size]? = some (actB 4 a b s t)) := fun w1 hM => by
    by_cases h0 : a = 0
    · subst h0; exact (rUnset_yes hM.lo hM.ns hs).mono fun e w2 ⟨hi, hk⟩ => ⟨hi, xend hM hk (by simp)⟩
    · exact (rUnset_no hM.ns.spc ha h0).mono fun e w2 ⟨hi, hk⟩ => ⟨hi, xend hM hk (by simp)⟩
  clear hR hp hns
  go_enter Tryz.func8, Tryz.ntmps8
  go_wp2_with fail
  go_region_held3 (fun w' => w'.cell? ⟨w.heap.size, 1, none⟩ = some (.int .i64 a) ∧ w'.cell? ⟨w.heap.size, 3, none⟩ = some (.string ⟨s.toArray⟩)) (first | go_keep | (first | exact CX | exact CY)) ((first | (go_at_call 25; refine (HX.out _ (by exact ((Kp.refl [] w).alloc _).drew) (by exact heap_alloc_new w _)).mono ?_; rintro e w1 ⟨⟨i, rfl⟩, HM⟩; obtain ⟨⟨k0, k1, k2, k3, k4⟩, hl⟩ := cells5 HM.out.box; have CX := box_4 HM.out.box; clear k0) | (go_at_call 26; refine (HY.out _ HM.out).mono ?_; rintro e w2 ⟨⟨j, rfl⟩, HP, hbx⟩; have CY := box_4 hbx; clear hbx)))
  go_wp2_with fail
  go_ret
  exact ⟨⟨_, rfl⟩, HP.out⟩

set_option maxRecDepth 100000 in
set_option maxHeartbeats 3200000 in
theorem play_link {B : Nat} {w : World} {S : St} {x sm y row sc : Nat} {g : Int → Option Nat} (hN : N ≤ 100000) (hB : B ≤ w.heap.size) (hR : Rep B w S) (hp : Sp N S x sm g) (hns : Ns B w y row sc nilS []) {a b : Int} {s t : Bs} (ha : (Lit.int .i64 a).wf = true) (hb : (Lit.int .i64 b).wf = true) (hs : s.length ≤ 1000000) (ht : t.length ≤ 1000000) :
    Calls Tryz.prog 8 #[.pointer (some ⟨x, 0, none⟩), .pointer (some ⟨y, 0, none⟩), .agg #[.int .i64 5, .int .i64 a, .int .i64 b, .string ⟨s.toArray⟩, .string ⟨t.toArray⟩]] w fun e w' => PlayPost N B w x sm e w' := by
  have HX : Hid (∀ W, Kp [] w W → W.heap[w.heap.size]? = some (actB 5 a b s t) → Calls Tryz.prog 19 #[.pointer (some ⟨x, 0, none⟩), .int .i64 a, .string ⟨s.toArray⟩, .int .i64 b, .string ⟨t.toArray⟩] W fun e w1 => (∃ i, e = .returned (.int .i64 i)) ∧ Hid (XMid N B w (actB 5 a b s t) x sm y row sc w1)) := fun W hk ho =>
    (Link_any (Nat.le_trans hB hk.size) (hR.kp hk (by simp)) hp ha hb (by simp [maxLen]; omega) (by simp [maxLen]; omega)).mono fun e w1 hA => ⟨(hA.act hp).1, xmid hB hR hns hk ho (hA.act hp).2⟩
  have HY : Hid (∀ w1, XMid N B w (actB 5 a b s t) x sm y row sc w1 → Calls Tryz.prog 27 #[.pointer (some ⟨y, 0, none⟩), .int .i64 a, .string ⟨s.toArray⟩, .int .i64 b, .string ⟨t.toArray⟩] w1 fun e w2 => (∃ i, e = .returned (.int .i64 i)) ∧ Hid (PlayRes N B w x sm w2) ∧ w2.heap[w.heap.size]? = some (actB 5 a b s t)) := fun w1 hM => by
    exact (rLink_any hM.lo hM.ns ha hb hs ht).mono fun e w2 ⟨hi, hk⟩ => ⟨hi, xend hM hk (by simp)⟩
  clear hR hp hns
  go_enter Tryz.func8, Tryz.ntmps8
  go_wp2_with fail
  go_region_held3 (fun w' => w'.cell? ⟨w.heap.size, 1, none⟩ = some (.int .i64 a) ∧ w'.cell? ⟨w.heap.size, 2, none⟩ = some (.int .i64 b) ∧ w'.cell? ⟨w.heap.size, 3, none⟩ = some (.string ⟨s.toArray⟩) ∧ w'.cell? ⟨w.heap.size, 4, none⟩ = some (.string ⟨t.toArray⟩)) (first | go_keep | (first | exact CX | exact CY)) ((first | (go_at_call 19; refine (HX.out _ (by exact ((Kp.refl [] w).alloc _).drew) (by exact heap_alloc_new w _)).mono ?_; rintro e w1 ⟨⟨i, rfl⟩, HM⟩; obtain ⟨⟨k0, k1, k2, k3, k4⟩, hl⟩ := cells5 HM.out.box; have CX := box_5 HM.out.box; clear k0) | (go_at_call 27; refine (HY.out _ HM.out).mono ?_; rintro e w2 ⟨⟨j, rfl⟩, HP, hbx⟩; have CY := box_5 hbx; clear hbx)))
  go_wp2_with fail
  go_ret
  exact ⟨⟨_, rfl⟩, HP.out⟩
end Go.Proofs.YtcaifihdbcjakaaGreat
