/- The reference's space, just made: Get, Kind, Linked, Set, Unset. -/
import Derived.Test.YtcaifihdbcjakaaGreatVR7
import Derived.Test.YtcaifihdbcjakaaGreatVR2
namespace Go.Proofs.YtcaifihdbcjakaaGreat
set_option linter.unusedVariables false
set_option linter.unusedSimpArgs false
open Go.RowKit

set_option maxHeartbeats 400000 in
theorem Take_any {w : World} {d : Nat} {el : Bool} {ar : Option Nat} {kv cv ofv : Value} (h : w.heap[d]? = some (clB kv cv ofv)) :
    Calls Tryz.prog 57 #[fndV d el ar] w fun e w' => e = .returned (.tuple #[.string ⟨#[]⟩, .int .i64 8]) ∧ Below w.heap.size w w' := by
  obtain ⟨c0, c1, _, _, _, _, _, hl⟩ := cell9 h
  go_enter Tryz.func57, Tryz.ntmps57
  go_wp2_with fail
  go_ret2
  exact ⟨rfl, (Below.refl _ w).alloc (Nat.le_refl _) _⟩

set_option maxHeartbeats 400000 in
theorem Drop_any {w : World} {d : Nat} {el : Bool} {ar : Option Nat} {kv cv ofv : Value} (h : w.heap[d]? = some (clB kv cv ofv)) :
    Calls Tryz.prog 55 #[fndV d el ar] w fun e w' => e = .returned (.int .i64 8) ∧ Below w.heap.size w w' := by
  obtain ⟨c0, c1, _, _, _, _, _, hl⟩ := cell9 h
  go_enter Tryz.func55, Tryz.ntmps55
  go_wp2_with fail
  go_ret
  exact ⟨rfl, (Below.refl _ w).alloc (Nat.le_refl _) _⟩

theorem neq_pc_nil (W : World) : (binOp .neq 88 (.pointer none) (.pointer none)).run Tryz.prog W = .ok (.bool false) W := by kernel_rfl
theorem neq_pc_some (a : Nat) (W : World) : (binOp .neq 88 (.pointer (some ⟨a, 0, none⟩)) (.pointer none)).run Tryz.prog W = .ok (.bool true) W := by kernel_rfl

set_option maxRecDepth 100000 in
set_option maxHeartbeats 1600000 in
theorem Put_any {w : World} {d : Nat} {el : Bool} {ar : Option Nat} {kv cv ofv : Value} (h : w.heap[d]? = some (clB kv cv ofv)) (har : ∀ a, ar = some a → a ≠ d ∧ ∃ k c o, w.heap[a]? = some (clB k c o)) (val : Bs) :
    Calls Tryz.prog 53 #[fndV d el ar, .string ⟨val.toArray⟩] w fun e w' => IntKp (d :: ar.toList) w e w' := by
  obtain ⟨c0, c1, c2, _, _, c8, cf, hl⟩ := cell9 h
  have f0 := cf 0
  have f2 := cf 2
  have f8 := cf 8
  clear cf h
  cases ar with
  | none =>
    have hc := neq_pc_nil
    go_enter Tryz.func53, Tryz.ntmps53
    go_wp2_with fail
    go_ret
    exact ⟨⟨_, rfl⟩, ((((Kp.refl _ w).setCell _ _ _ (by simp)).setCell _ _ _ (by simp)).setCell _ _ _ (by simp)).alloc _⟩
  | some a =>
    obtain ⟨hne, k, c, o, ha⟩ := har a rfl
    obtain ⟨_, a1, _, _, _, _, af, hal⟩ := cell9 ha
    have g1 := af 1
    have hc := fun W => neq_pc_some a W
    have hne2 : d ≠ a := Ne.symm hne
    clear af ha har
    go_enter Tryz.func53, Tryz.ntmps53
    go_wp2_with fail
    go_ret
    exact ⟨⟨_, rfl⟩, (((((Kp.refl _ w).setCell _ _ _ (by simp)).setCell _ _ _ (by simp)).setCell _ _ _ (by simp)).setCell _ _ _ (by simp)).alloc _⟩

theorem FSt.cells {B : Nat} {w : World} {y row sc : Nat} {word : Bs} {d : Nat} {ar : Option Nat} {nm own : Nat} {nv kv cv : Value} {K : List (Bs × Nat)} (h : FSt B w y row sc word d ar nm own nv kv cv K) :
    (∃ kv cv ofv, w.heap[d]? = some (clB kv cv ofv)) ∧ ∀ a, ar = some a → a ≠ d ∧ ∃ k c o, w.heap[a]? = some (clB k c o) := by
  rcases h.kind with ⟨_, rfl, rfl, rfl⟩ | ⟨_, rfl, rfl⟩
  · exact ⟨⟨_, _, _, h.cel.blk⟩, fun a ha => by cases ha⟩
  · exact ⟨⟨_, _, _, h.cel.el ((splitC word).2.1, d) (by simp)⟩, fun a ha => by cases ha; exact ⟨Ne.symm (h.cel.ne ((splitC word).2.1, d) (by simp)), _, _, _, h.cel.blk⟩⟩

/-- What 'Get' gives on a space just made. -/
def Get0 (B : Nat) (n : Int) (w : World) (y row sc : Nat) (word : Bs) (e : Ending) (w' : World) : Prop :=
  (∃ (v : Bs) (c : Int), (c = 7 ∨ c = 8) ∧ e = .returned (.tuple #[.string ⟨v.toArray⟩, .int .i64 c])) ∧ (n ≠ 0 ∧ Kp [] w w' ∨ n = 0 ∧ (∃ d ar nm own nv kv cv K, FSt B w' y row sc word d ar nm own nv kv cv K) ∧ Kp [sc] w w')

set_option maxRecDepth 100000 in
set_option maxHeartbeats 1600000 in
theorem rGet_no {B : Nat} {w : World} {y row sc : Nat} (h : Ns B w y row sc nilS []) {n : Int} (hn : (Lit.int .i64 n).wf = true) (h0 : n ≠ 0) {word : Bs} :
    Calls Tryz.prog 28 #[.pointer (some ⟨y, 0, none⟩), .int .i64 n, .string ⟨word.toArray⟩] w fun e w' => Get0 B n w y row sc word e w' := by
  have HF := Lib.hid (rFind_no h.spc hn h0 word)
  have H0 := Lib.hid h0
  clear h h0
  go_enter Tryz.func28, Tryz.ntmps28
  go_wp2_with (go_at_call 52; refine HF.out.mono ?_; rintro e w1 ⟨rfl, hb⟩; have HB := Lib.hid hb; clear hb)
  go_ret2
  exact ⟨⟨[], 7, .inl rfl, rfl⟩, .inl ⟨H0.out, (kp_of_below HB.out).alloc _⟩⟩

set_option maxRecDepth 100000 in
set_option maxHeartbeats 1600000 in
theorem rGet_yes {B : Nat} {w : World} {y row sc : Nat} (hB : B ≤ w.heap.size) (h : Ns B w y row sc nilS []) {word : Bs} (hw : word.length ≤ 1000000) :
    Calls Tryz.prog 28 #[.pointer (some ⟨y, 0, none⟩), .int .i64 0, .string ⟨word.toArray⟩] w fun e w' => Get0 B 0 w y row sc word e w' := by
  have HF := Lib.hid (rFind0 hB h hw)
  generalize (splitC word).2.2 = el at *
  clear h
  go_enter Tryz.func28, Tryz.ntmps28
  go_wp2_with (first | (go_at_call 52; refine HF.out.mono ?_; rintro e w1 ⟨d, ar, nm, own, nv, kv, cv, K, rfl, hst, hkp, _, _⟩; obtain ⟨⟨k1, c1, o1, hd⟩, _⟩ := hst.cells; have HD := Lib.hid hd; have HST := Lib.hid hst; have HK := Lib.hid hkp; clear hst hkp hd) | (go_at_call 57; refine (Take_any (keep_alloc HD.out)).mono ?_; rintro e w2 ⟨rfl, hb⟩; have HB := Lib.hid hb; clear hb))
  go_ret2
  exact ⟨⟨[], 8, .inr rfl, rfl⟩, .inr ⟨rfl, ⟨d, ar, nm, own, nv, kv, cv, K, (HST.out.keep ((Kp.refl [] w1).alloc _)).keep (kp_of_below HB.out)⟩, (HK.out.alloc _).trans (kp_of_below HB.out) (by simp)⟩⟩

set_option maxRecDepth 100000 in
set_option maxHeartbeats 1600000 in
theorem rKind_no {w : World} {y row sc : Nat} {nv : Value} (h : Sc w y row sc nv) {n : Int} (hn : (Lit.int .i64 n).wf = true) (h0 : n ≠ 0) {word : Bs} :
    Calls Tryz.prog 31 #[.pointer (some ⟨y, 0, none⟩), .int .i64 n, .string ⟨word.toArray⟩] w fun e w' => e = .returned (.int .i64 0) ∧ Kp [] w w' := by
  have HF := Lib.hid (rFind_no h hn h0 word)
  clear h h0
  go_enter Tryz.func31, Tryz.ntmps31
  go_wp2_with (go_at_call 52; refine HF.out.mono ?_; rintro e w1 ⟨rfl, hb⟩; have HB := Lib.hid hb; clear hb)
  go_ret
  exact ⟨rfl, (kp_of_below HB.out).alloc _⟩

set_option maxRecDepth 100000 in
set_option maxHeartbeats 1600000 in
theorem rKind_yes {B : Nat} {w : World} {y row sc : Nat} {word : Bs} {d : Nat} {ar : Option Nat} {nm own : Nat} {nv kv cv : Value} {K : List (Bs × Nat)} (hB : B ≤ w.heap.size) (h : FSt B w y row sc word d ar nm own nv kv cv K) (hw : word.length ≤ 1000000) :
    Calls Tryz.prog 31 #[.pointer (some ⟨y, 0, none⟩), .int .i64 0, .string ⟨word.toArray⟩] w fun e w' => e = .returned (.int .i64 0) ∧ Kp [] w w' := by
  have HF := Lib.hid (rFind1 hB h hw)
  obtain ⟨⟨k1, c1, o1, hd⟩, _⟩ := h.cells
  have HD : Hid (∀ w1, Kp [] w w1 → w1.heap[d]? = some (clB k1 c1 o1)) := fun w1 hk => (hk.block _ (Array.getElem?_eq_some_iff.1 hd).1 (by simp)).trans hd
  clear h hd
  go_enter Tryz.func31, Tryz.ntmps31
  go_wp2_with (go_at_call 52; refine HF.out.mono ?_; rintro e w1 ⟨rfl, hkp⟩; obtain ⟨q0, q1, _, _, _, _, _, ql⟩ := cell9 (HD.out w1 hkp); have HB := Lib.hid hkp; clear hkp)
  go_ret
  exact ⟨rfl, HB.out.alloc _⟩

theorem neq_sc_nil (W : World) : (binOp .neq 57 (.pointer none) (.pointer none)).run Tryz.prog W = .ok (.bool false) W := by kernel_rfl
theorem neq_sc_some (b : Nat) (W : World) : (binOp .neq 57 (.pointer (some ⟨b, 0, none⟩)) (.pointer none)).run Tryz.prog W = .ok (.bool true) W := by kernel_rfl
theorem neq_tg_nil (W : World) : (binOp .neq 101 (.pointer none) (.pointer none)).run Tryz.prog W = .ok (.bool false) W := by kernel_rfl

def BoolKp (D : List Nat) (w : World) (e : Ending) (w' : World) : Prop := (∃ b : Bool, e = .returned (.bool b)) ∧ Kp D w w'

theorem nm3 {w : World} {nm own : Nat} {name : Bs} (h : w.heap[nm]? = some (nmB name own)) : w.cell? ⟨nm, 0, none⟩ = some (.string ⟨name.toArray⟩) ∧ w.cell? ⟨nm, 1, none⟩ = some (.pointer (some ⟨own, 0, none⟩)) ∧ w.cell? ⟨nm, 2, none⟩ = some (.pointer none) ∧ w.frozen? ⟨nm, 2, none⟩ = false ∧ nm < w.heap.size := by
  refine ⟨?_, ?_, ?_, ?_, (Array.getElem?_eq_some_iff.1 h).1⟩
  all_goals first | (simp only [World.cell?, h]; rfl) | simp [World.frozen?, h]

theorem EntRes.name {B : Nat} {w w' : World} {y row sc : Nat} {nv : Value} {L : List (Bs × Nat × Nat)} {name : Bs} {e : Ending} (h : EntRes B w y row sc nv L name e w') :
    ∃ nm own nv' L', e = .returned (.pointer (some ⟨nm, 0, none⟩)) ∧ w'.heap[nm]? = some (nmB name own) ∧ Ns B w' y row sc nv' L' ∧ L'.length ≤ L.length + 1 ∧ Kp (sc :: nv.ownBlock.toList) w w' ∧ (name, nm, own) ∈ L' ∧ (((name, nm, own) ∈ L ∧ L' = L ∧ w' = w) ∨ ((∀ t ∈ L, t.1 ≠ name) ∧ L' = L ++ [(name, nm, own)] ∧ w'.heap[own]? = some (clB nilS nilS (.pointer none)) ∧ w.heap.size ≤ nm ∧ w.heap.size ≤ own ∧ ∀ b, nv'.ownBlock = some b → nv.ownBlock = some b ∨ w.heap.size ≤ b)) := by
  obtain ⟨nm, own, nv', L', he, hns, hkp, hc⟩ := h
  have hmem : (name, nm, own) ∈ L' := by rcases hc with ⟨h1, rfl, _⟩ | ⟨_, rfl, _⟩ <;> simp [*]
  refine ⟨nm, own, nv', L', he, hns.nm (name, nm, own) hmem, hns, ?_, hkp, hmem, hc⟩
  rcases hc with ⟨_, rfl, _⟩ | ⟨_, rfl, _⟩ <;> simp

set_option maxRecDepth 100000 in
set_option maxHeartbeats 1600000 in
theorem rLinked_no {w : World} {y row sc : Nat} {nv : Value} (h : Sc w y row sc nv) {n : Int} (hn : (Lit.int .i64 n).wf = true) (h0 : n ≠ 0) {word : Bs} :
    Calls Tryz.prog 33 #[.pointer (some ⟨y, 0, none⟩), .int .i64 n, .string ⟨word.toArray⟩] w fun e w' => BoolKp [] w e w' := by
  have HA := Lib.hid (rat_any h hn)
  rw [if_neg h0] at HA
  have hc := neq_sc_nil
  clear h h0
  go_enter Tryz.func33, Tryz.ntmps33
  go_wp2_with (go_at_call 58; refine HA.out.mono ?_; rintro e w1 ⟨rfl, rfl⟩)
  go_ret
  exact ⟨⟨_, rfl⟩, Kp.refl _ _⟩

set_option maxRecDepth 100000 in
set_option maxHeartbeats 1600000 in
theorem rLinked_yes {B : Nat} {w : World} {y row sc : Nat} {nv : Value} {L : List (Bs × Nat × Nat)} (hB : B ≤ w.heap.size) (h : Ns B w y row sc nv L) (hL : L.length ≤ 100) {word : Bs} :
    Calls Tryz.prog 33 #[.pointer (some ⟨y, 0, none⟩), .int .i64 0, .string ⟨word.toArray⟩] w fun e w' => BoolKp (sc :: nv.ownBlock.toList) w e w' := by
  have HA := Lib.hid (rat_any h.spc (n := 0) (by decide))
  rw [if_pos rfl] at HA
  have HE := Lib.hid (entry_any (name := word) hB h hL)
  have hc := fun W => neq_sc_some sc W
  have hc2 := neq_tg_nil
  clear h
  go_enter Tryz.func33, Tryz.ntmps33
  go_wp2_with (first | (go_at_call 58; refine HA.out.mono ?_; rintro e w1 ⟨rfl, rfl⟩) | (go_at_call 59; refine HE.out.mono ?_; intro e w1 hr; obtain ⟨nm, own, nv1, L1, rfl, hnm, _, _, hkp, _⟩ := hr.name; obtain ⟨_, _, q2, _, _⟩ := nm3 hnm; have HK := Lib.hid hkp; clear hr hkp hnm))
  go_ret
  exact ⟨⟨_, rfl⟩, HK.out⟩

set_option maxRecDepth 100000 in
set_option maxHeartbeats 1600000 in
theorem rSet_no {w : World} {y row sc : Nat} {nv : Value} (h : Sc w y row sc nv) {n : Int} (hn : (Lit.int .i64 n).wf = true) (h0 : n ≠ 0) {word val : Bs} :
    Calls Tryz.prog 24 #[.pointer (some ⟨y, 0, none⟩), .int .i64 n, .string ⟨word.toArray⟩, .string ⟨val.toArray⟩] w fun e w' => IntKp [] w e w' := by
  have HF := Lib.hid (rFind_no h hn h0 word)
  clear h h0
  go_enter Tryz.func24, Tryz.ntmps24
  go_wp2_with (go_at_call 52; refine HF.out.mono ?_; rintro e w1 ⟨rfl, hb⟩; have HB := Lib.hid hb; clear hb)
  go_ret
  exact ⟨⟨7, rfl⟩, (kp_of_below HB.out).alloc _⟩

set_option maxRecDepth 100000 in
set_option maxHeartbeats 1600000 in
theorem rUnset_no {w : World} {y row sc : Nat} {nv : Value} (h : Sc w y row sc nv) {n : Int} (hn : (Lit.int .i64 n).wf = true) (h0 : n ≠ 0) {word : Bs} :
    Calls Tryz.prog 26 #[.pointer (some ⟨y, 0, none⟩), .int .i64 n, .string ⟨word.toArray⟩] w fun e w' => IntKp [] w e w' := by
  have HF := Lib.hid (rFind_no h hn h0 word)
  clear h h0
  go_enter Tryz.func26, Tryz.ntmps26
  go_wp2_with (go_at_call 52; refine HF.out.mono ?_; rintro e w1 ⟨rfl, hb⟩; have HB := Lib.hid hb; clear hb)
  go_ret
  exact ⟨⟨7, rfl⟩, (kp_of_below HB.out).alloc _⟩


set_option maxRecDepth 100000 in
set_option maxHeartbeats 1600000 in
theorem rSet_yes {B : Nat} {w : World} {y row sc : Nat} (hB : B ≤ w.heap.size) (h : Ns B w y row sc nilS []) {word val : Bs} (hw : word.length ≤ 1000000) :
    Calls Tryz.prog 24 #[.pointer (some ⟨y, 0, none⟩), .int .i64 0, .string ⟨word.toArray⟩, .string ⟨val.toArray⟩] w fun e w' => IntKp [sc] w e w' := by
  have HF := Lib.hid (rFind0 hB h hw)
  clear h
  go_enter Tryz.func24, Tryz.ntmps24
  go_wp2_with (first | (go_at_call 52; refine HF.out.mono ?_; rintro e w1 ⟨d, ar, nm, own, nv, kv, cv, K, rfl, hst, hkp, hds, hars⟩; have HD := Lib.hid (hst.keep ((Kp.refl [] w1).alloc (.cells #[.pointer (some ⟨d, 0, none⟩), .bool (splitC word).2.2, .bool false, .pointer (ar.map fun b => ⟨b, 0, none⟩)] 90))).cells; have HK := Lib.hid hkp; have HDS := Lib.hid hds; have HAS := Lib.hid hars; clear hst hkp hds hars) | (go_at_call 53; obtain ⟨⟨k1, c1, o1, hd⟩, har⟩ := HD.out; refine (Put_any hd har val).mono ?_; rintro e w2 ⟨⟨i, rfl⟩, hb⟩; have HB := Lib.hid hb; clear hb hd har))
  go_ret
  exact ⟨⟨i, rfl⟩, (HK.out.alloc _).trans HB.out (by intro d' hd'; simp only [List.mem_cons, Option.mem_toList] at hd'; rcases hd' with rfl | hd'; exact .inr HDS.out; exact .inr (HAS.out _ hd'))⟩

set_option maxRecDepth 100000 in
set_option maxHeartbeats 1600000 in
theorem rUnset_yes {B : Nat} {w : World} {y row sc : Nat} (hB : B ≤ w.heap.size) (h : Ns B w y row sc nilS []) {word : Bs} (hw : word.length ≤ 1000000) :
    Calls Tryz.prog 26 #[.pointer (some ⟨y, 0, none⟩), .int .i64 0, .string ⟨word.toArray⟩] w fun e w' => IntKp [sc] w e w' := by
  have HF := Lib.hid (rFind0 hB h hw)
  clear h
  go_enter Tryz.func26, Tryz.ntmps26
  go_wp2_with (first | (go_at_call 52; refine HF.out.mono ?_; rintro e w1 ⟨d, ar, nm, own, nv, kv, cv, K, rfl, hst, hkp, hds, hars⟩; have HD := Lib.hid hst.cells; have HK := Lib.hid hkp; have HDS := Lib.hid hds; have HAS := Lib.hid hars; clear hst hkp hds hars) | (go_at_call 55; obtain ⟨⟨k1, c1, o1, hd⟩, har⟩ := HD.out; refine (Drop_any (keep_alloc hd)).mono ?_; rintro e w2 ⟨rfl, hb⟩; have HB := Lib.hid hb; clear hb hd har))
  go_ret
  exact ⟨⟨8, rfl⟩, (HK.out.alloc _).trans (kp_of_below HB.out) (by simp)⟩
end Go.Proofs.YtcaifihdbcjakaaGreat
