/- The values of a list: slices.Clone, made, NewStore, OfList. The values of a list: add, Make, got, List, Element. The values of a list: List, Element, text, Text. -/
import Derived.Test.YteojlmpipfajoaaGreatDoorTwNm
import Derived.Test.YteojlmpipfajoaaGreatDoorMergeR
namespace Go.Proofs.YteojlmpipfajoaaGreatDoor
set_option linter.unusedVariables false
set_option linter.unusedSimpArgs false
open Go.RowKit
theorem und101 : Tryz.prog.underlying 101 = some (.slice 9) := by kernel_rfl
theorem owns_empty (w : World) {B : Nat} (h : B ≤ w.heap.size) (e : TypeId) : (w.alloc (.cells #[] e)).ownsRow B e 1 (.slice (some ⟨w.heap.size, 0, none⟩) 0 0) 0 [] :=
  ⟨by simp, .inr ⟨w.heap.size, 0, #[], rfl, h, heap_alloc_new w _, by omega, by unfold maxLen; omega, by simp, by simp⟩⟩
theorem ownsRow_lo {W : World} {base base' : Nat} {e : TypeId} {size : Nat} {v : Value} {n : Nat} {xs : List Value} (h : W.ownsRow base e size v n xs) (hb : base' ≤ base) : W.ownsRow base' e size v n xs := by
  refine ⟨h.1, ?_⟩
  rcases h.2 with h | ⟨g, cap, cur, h1, h2, h3⟩
  · exact .inl h
  · exact .inr ⟨g, cap, cur, h1, Nat.le_trans hb h2, h3⟩
/-- A row that is a copy. -/
def CloR (w : World) (ss : List Bs) : Ending → World → Prop := fun e w' => ∃ g c, e = .returned (.slice (some ⟨g, 0, none⟩) ss.length c) ∧ w'.ownsRow w.heap.size 9 1 (.slice (some ⟨g, 0, none⟩) ss.length c) ss.length (ss.map sv) ∧ Below w.heap.size w w'
theorem cloR_mk {w w' : World} {ss : List Bs} {v : Value} (hp : 0 < ss.length) (h : w'.ownsRow w.heap.size 9 1 v (0 + ss.length) ([] ++ ss.map sv)) (hb : Below w.heap.size w w') : CloR w ss (.returned v) w' := by
  have h : w'.ownsRow w.heap.size 9 1 v ss.length (ss.map sv) := by simpa using h
  rcases h.2 with ⟨_, hn⟩ | ⟨g, cap, cur, rfl, _⟩
  · omega
  · exact ⟨g, cap, rfl, h, hb⟩
theorem eqs22 (a : Addr) (n c : Nat) (W : World) : (binOp .eql 22 (.slice (some a) n c) (.slice none 0 0)).run Tryz.prog W = .ok (.bool false) W := by kernel_rfl
theorem eqs101 (a : Addr) (n c : Nat) (W : World) : (binOp .eql 101 (.slice (some a) n c) (.slice none 0 0)).run Tryz.prog W = .ok (.bool false) W := by kernel_rfl
section
variable {ss : List Bs} {a : Addr} {c : Nat}
set_option maxRecDepth 100000 in
theorem clone22_any {w : World} (ht : TxtRow w (.slice (some a) ss.length c) ss) (hp : 0 < ss.length) (hl : ss.length ≤ 100000) : Calls Tryz.prog 54 #[.slice (some a) ss.length c] w (CloR w ss) := by
  have hA : Hid (Below w.heap.size w (w.alloc (.cells #[] 9))) := (Below.refl _ _).alloc (Nat.le_refl _) _
  have hO : Hid ((w.alloc (.cells #[] 9)).ownsRow w.heap.size 9 1 (.slice (some ⟨w.heap.size, 0, none⟩) 0 0) 0 []) := owns_empty w (Nat.le_refl _) _
  have HT := Lib.hid ht
  clear ht
  have hE := eqs22 a ss.length c
  go_enter Tryz.func54, Tryz.ntmps54
  go_wp2_with (at_builtin; go_loud (refine wpList_pushRow rfl (.tmp 5) (.tmp 6) 22 rfl w.heap.size 9 (.string ⟨#[]⟩) 16 Tryz.underlying22 infoStr rfl (.slice (some ⟨w.heap.size, 0, none⟩) 0 0) 0 [] rfl hO.out (some a) ss.length c ss rfl (HT.out.below hA.out) (by unfold maxLen; omega) (by omega) (by simp) ?_); intro v1 w1 hown1 hB1)
  go_ret
  exact cloR_mk hp hown1 (hA.out.trans (hB1.mono (by simp)))
set_option maxRecDepth 100000 in
theorem clone101_any {w : World} (ht : TxtRow w (.slice (some a) ss.length c) ss) (hp : 0 < ss.length) (hl : ss.length ≤ 100000) : Calls Tryz.prog 55 #[.slice (some a) ss.length c] w (CloR w ss) := by
  have hA : Hid (Below w.heap.size w (w.alloc (.cells #[] 9))) := (Below.refl _ _).alloc (Nat.le_refl _) _
  have hO : Hid ((w.alloc (.cells #[] 9)).ownsRow w.heap.size 9 1 (.slice (some ⟨w.heap.size, 0, none⟩) 0 0) 0 []) := owns_empty w (Nat.le_refl _) _
  have HT := Lib.hid ht
  clear ht
  have hE := eqs101 a ss.length c
  go_enter Tryz.func55, Tryz.ntmps55
  go_wp2_with (at_builtin; go_loud (refine wpList_pushRow rfl (.tmp 5) (.tmp 6) 101 rfl w.heap.size 9 (.string ⟨#[]⟩) 16 und101 infoStr rfl (.slice (some ⟨w.heap.size, 0, none⟩) 0 0) 0 [] rfl hO.out (some a) ss.length c ss rfl (HT.out.below hA.out) (by unfold maxLen; omega) (by omega) (by simp) ?_); intro v1 w1 hown1 hB1)
  go_ret
  exact cloR_mk hp hown1 (hA.out.trans (hB1.mono (by simp)))
end
/-- A face that is not written yet; a value of elements. -/
abbrev facO : Obj := .cells #[.string ⟨#[]⟩, .bool false, .int .i64 1] 112 (0, 0)
abbrev valO (f : Nat) (v : Value) : Obj := .cells #[.pointer (some ⟨f, 0, none⟩), .iface 101 v] 108 (0, 0)
set_option maxRecDepth 100000 in
theorem made_any (v : Value) (w : World) : Calls Tryz.prog 53 #[.iface 101 v] w fun e w' => e = .returned (.pointer (some ⟨w.heap.size + 1, 0, none⟩)) ∧ w' = (w.alloc facO).alloc (valO w.heap.size v) := by
  go_enter Tryz.func53, Tryz.ntmps53
  go_wp2_with fail
  go_ret
  exact ⟨by simp, rfl⟩
set_option maxRecDepth 100000 in
theorem newStore_any (w : World) : Calls Tryz.prog 12 #[] w fun e w' => e = .returned (.pointer (some ⟨w.heap.size, 0, none⟩)) ∧ w' = w.alloc (.cells #[.slice none 0 0] 75) := by
  go_enter Tryz.func12, Tryz.ntmps12
  go_wp2_with fail
  go_ret
  exact ⟨rfl, rfl⟩
/-- A value of a list, as it lies. -/
structure ValA (w : World) (B vb : Nat) (ss : List Bs) : Prop where
  ex : ∃ f v, B ≤ f ∧ f ≠ vb ∧ w.heap[vb]? = some (valO f v) ∧ w.heap[f]? = some facO ∧ w.ownsRow B 9 1 v ss.length (ss.map sv) ∧ v.ownBlock ≠ some f ∧ v.ownBlock ≠ some vb ∧ ∃ g c, v = .slice (some ⟨g, 0, none⟩) ss.length c
section
variable {ss : List Bs} {a : Addr} {c : Nat}
set_option maxRecDepth 100000 in
theorem ofList_any {w : World} (hM : MaxIs w) (ht : TxtRow w (.slice (some a) ss.length c) ss) (hp : 0 < ss.length) (hl : ss.length ≤ 10000) (hj : (joinL ss).length ≤ 65536) : Calls Tryz.prog 30 #[.slice (some a) ss.length c] w fun e w' => ∃ vb, e = .returned (.tuple #[.pointer (some ⟨vb, 0, none⟩), .int .i64 0]) ∧ w.heap.size ≤ vb ∧ ValA w' w.heap.size vb ss ∧ Below w.heap.size w w' := by
  have JO := Lib.hid (Join_any _ ss w hM ht)
  rw [joinE_ok hl hj] at JO
  have CL : Hid (∀ W, Below w.heap.size w W → Calls Tryz.prog 54 #[.slice (some a) ss.length c] W (CloR W ss)) := fun W hb => clone22_any (ht.below hb) hp (by omega)
  clear ht hp hl hj hM
  go_enter Tryz.func30, Tryz.ntmps30
  go_wp2_with (first | (go_at_call 6; refine JO.out.mono ?_; rintro e w1 ⟨rfl, hb1⟩) | (go_at_call 54; refine (CL.out _ hb1).mono ?_; rintro e w2 ⟨g, cg, rfl, ho, hb2⟩; have HO := Lib.hid ho; clear ho) | (go_at_call 53; refine (made_any _ _).mono ?_; rintro e w3 ⟨rfl, rfl⟩))
  go_ret2
  have hz1 : (w2.alloc facO).heap.size = w2.heap.size + 1 := by simp
  have hs1 := hb1.size
  have hs2 := hb2.size
  have hbA := (Below.refl w2.heap.size w2).alloc (Nat.le_refl _) facO
  have hbB := hbA.alloc (by simp) (valO w2.heap.size (.slice (some ⟨g, 0, none⟩) ss.length cg))
  have hn2 := heap_alloc_new (w2.alloc facO) (valO w2.heap.size (.slice (some ⟨g, 0, none⟩) ss.length cg))
  rw [hz1] at hn2
  have ho := HO.out
  have hg := ownsRow_baseS ho g rfl
  refine ⟨_, rfl, by omega, ⟨w2.heap.size, _, by omega, by omega, hn2, (Below.heap_alloc (w2.alloc facO) _ _ (by simp)).trans (heap_alloc_new w2 _), ownsRow_lo (ownsRow_kpS ho (kp_of_below hbB) (by simp)) hs1, ?_, ?_, g, cg, rfl⟩, (hb1.trans (hb2.mono hs1)).trans (hbB.mono (by omega))⟩
  · show ¬ (some g = some w2.heap.size)
    intro e; injection e; omega
  · show ¬ (some g = some (w2.heap.size + 1))
    intro e; injection e; omega
end
end Go.Proofs.YteojlmpipfajoaaGreatDoor
namespace Go.Proofs.YteojlmpipfajoaaGreatDoor
set_option linter.unusedVariables false
set_option linter.unusedSimpArgs false
open Go.RowKit
theorem infoPv : (Tryz.prog.info? 76).map (fun i => (i.zero, i.size, i.bytes)) = some (some (.pointer none), 1, 8) := by kernel_rfl
theorem und73 : Tryz.prog.underlying 73 = some (.slice 76) := by kernel_rfl
theorem ValA.kp {w w' : World} {B vb : Nat} {ss : List Bs} {D : List Nat} (h : ValA w B vb ss) (hk : Kp D w w') (hD : ∀ d ∈ D, d < B) (hv : B ≤ vb) : ValA w' B vb ss := by
  obtain ⟨f, v, h1, h2, h3, h4, h5, h6, h7, h8⟩ := h.ex
  refine ⟨f, v, h1, h2, (hk.block vb (Array.getElem?_eq_some_iff.1 h3).1 (fun hd => by have := hD _ hd; omega)).trans h3, (hk.block f (Array.getElem?_eq_some_iff.1 h4).1 (fun hd => by have := hD _ hd; omega)).trans h4, ownsRow_kpS h5 hk (fun b hb hd => by have := (ownsRow_baseS h5 b hb).1; have := hD _ hd; omega), h6, h7, h8⟩
/-- A store that holds one value. -/
structure StoA (w : World) (sb vb : Nat) : Prop where
  ex : ∃ g c, g ≠ sb ∧ w.heap[sb]? = some (.cells #[.slice (some ⟨g, 0, none⟩) 1 c] 75 (0, 0)) ∧ w.cell? ⟨g, 0, none⟩ = some (.pointer (some ⟨vb, 0, none⟩)) ∧ g < w.heap.size
theorem sto_cells {w : World} {sb : Nat} {v : Value} (h : w.heap[sb]? = some (.cells #[v] 75 (0, 0))) : w.cell? ⟨sb, 0, none⟩ = some v ∧ w.frozen? ⟨sb, 0, none⟩ = false := by
  refine ⟨?_, by simp [World.frozen?, h]⟩
  simp only [World.cell?, h]; rfl
theorem sto_new {w : World} {sb vb : Nat} (h : w.heap[sb]? = some (.cells #[.slice none 0 0] 75 (0, 0))) (zs : Array Value) (c : Nat) :
    StoA (((w.setCell ⟨sb, 0, none⟩ (.slice (some ⟨w.heap.size + 1, 0, none⟩) 1 c)).alloc (.cells #[.pointer (some ⟨vb, 0, none⟩)] 76)).alloc (.cells (#[.pointer (some ⟨vb, 0, none⟩)] ++ zs) 76)).drew sb vb ∧ Kp [sb] w (((w.setCell ⟨sb, 0, none⟩ (.slice (some ⟨w.heap.size + 1, 0, none⟩) 1 c)).alloc (.cells #[.pointer (some ⟨vb, 0, none⟩)] 76)).alloc (.cells (#[.pointer (some ⟨vb, 0, none⟩)] ++ zs) 76)).drew := by
  have hl := (Array.getElem?_eq_some_iff.1 h).1
  have hk : Kp [sb] w (w.setCell ⟨sb, 0, none⟩ (.slice (some ⟨w.heap.size + 1, 0, none⟩) 1 c)) := (Kp.refl _ w).setCell sb 0 _ (.inl (by simp))
  have hs : (w.setCell ⟨sb, 0, none⟩ (.slice (some ⟨w.heap.size + 1, 0, none⟩) 1 c)).heap.size = w.heap.size := by simp [World.setCell]
  have hq := heap_setCell_same w sb 0 _ _ (.slice (some ⟨w.heap.size + 1, 0, none⟩) 1 c) h
  generalize w.setCell ⟨sb, 0, none⟩ (.slice (some ⟨w.heap.size + 1, 0, none⟩) 1 c) = W at hk hs hq ⊢
  have hz : (W.alloc (.cells #[.pointer (some ⟨vb, 0, none⟩)] 76)).heap.size = w.heap.size + 1 := by simp [hs]
  have hb : Below W.heap.size W ((W.alloc (.cells #[.pointer (some ⟨vb, 0, none⟩)] 76)).alloc (.cells (#[.pointer (some ⟨vb, 0, none⟩)] ++ zs) 76)).drew := (((Below.refl _ _).alloc (Nat.le_refl _) _).alloc (by simp) _).drew
  have hn := heap_alloc_new (W.alloc (.cells #[.pointer (some ⟨vb, 0, none⟩)] 76)) (.cells (#[.pointer (some ⟨vb, 0, none⟩)] ++ zs) 76)
  rw [hz] at hn
  have hn2 : ((W.alloc (.cells #[.pointer (some ⟨vb, 0, none⟩)] 76)).alloc (.cells (#[.pointer (some ⟨vb, 0, none⟩)] ++ zs) 76)).drew.heap[w.heap.size + 1]? = some (.cells (#[.pointer (some ⟨vb, 0, none⟩)] ++ zs) 76 (0, 0)) := hn
  refine ⟨⟨w.heap.size + 1, c, by omega, (hb.block sb (by omega)).trans hq, ?_, (Array.getElem?_eq_some_iff.1 hn2).1⟩, hk.trans (kp_of_below hb) (by simp)⟩
  simp only [World.cell?, hn2]; simp [Array.getElem?_append]
set_option maxRecDepth 100000 in
theorem add_one {w : World} {sb vb : Nat} (h : w.heap[sb]? = some (.cells #[.slice none 0 0] 75 (0, 0))) : Calls Tryz.prog 31 #[.pointer (some ⟨sb, 0, none⟩), .pointer (some ⟨vb, 0, none⟩)] w fun e w' => e = .returned (.int .i64 0) ∧ StoA w' sb vb ∧ Kp [sb] w w' := by
  obtain ⟨c0, f0⟩ := sto_cells h
  have hl := (Array.getElem?_eq_some_iff.1 h).1
  obtain ⟨i0, e0, e1, e2, e3⟩ := info_parts infoPv
  have H := Lib.hid h
  clear h
  go_enter Tryz.func31, Tryz.ntmps31
  go_wp2_with fail
  go_ret
  exact ⟨rfl, sto_new H.out _ _⟩
set_option maxRecDepth 100000 in
theorem got_one {w : World} {sb vb : Nat} (h : StoA w sb vb) : Calls Tryz.prog 32 #[.pointer (some ⟨sb, 0, none⟩), .int .i64 0] w fun e w' => e = .returned (.tuple #[.pointer (some ⟨vb, 0, none⟩), .int .i64 0]) ∧ w' = w := by
  obtain ⟨g, c, -, h0, h1, -⟩ := h.ex
  obtain ⟨c0, f0⟩ := sto_cells h0
  have hE : ∀ W, (binOp .eql 42 (.pointer (some ⟨sb, 0, none⟩)) (.pointer none)).run Tryz.prog W = .ok (.bool false) W := fun W => by kernel_rfl
  clear h h0
  go_enter Tryz.func32, Tryz.ntmps32
  go_wp2_with fail
  go_ret2
  exact ⟨rfl, rfl⟩
section
variable {ss : List Bs} {a : Addr} {c : Nat}
set_option maxRecDepth 100000 in
theorem make_any {w : World} {sb : Nat} (h : w.heap[sb]? = some (.cells #[.slice none 0 0] 75 (0, 0))) (hM : MaxIs w) (ht : TxtRow w (.slice (some a) ss.length c) ss) (hp : 0 < ss.length) (hl : ss.length ≤ 10000) (hj : (joinL ss).length ≤ 65536) :
    Calls Tryz.prog 13 #[.pointer (some ⟨sb, 0, none⟩), .slice (some a) ss.length c] w fun e w' => ∃ vb, e = .returned (.tuple #[.int .i64 0, .int .i64 0]) ∧ StoA w' sb vb ∧ ValA w' w.heap.size vb ss ∧ w.heap.size ≤ vb ∧ Kp [sb] w w' := by
  have hsl := (Array.getElem?_eq_some_iff.1 h).1
  have OL := Lib.hid (ofList_any hM ht hp hl hj)
  have AD : Hid (∀ W vb, Below w.heap.size w W → Calls Tryz.prog 31 #[.pointer (some ⟨sb, 0, none⟩), .pointer (some ⟨vb, 0, none⟩)] W fun e w' => e = .returned (.int .i64 0) ∧ StoA w' sb vb ∧ Kp [sb] W w') := fun W vb hb => add_one ((hb.block _ hsl).trans h)
  have hE : ∀ W, (binOp .eql 42 (.pointer (some ⟨sb, 0, none⟩)) (.pointer none)).run Tryz.prog W = .ok (.bool false) W := fun W => by kernel_rfl
  clear h ht hp hl hj hM
  go_enter Tryz.func13, Tryz.ntmps13
  go_wp2_with (first | (go_at_call 30; refine OL.out.mono ?_; rintro e w1 ⟨vb, rfl, hvb, hV, hb⟩) | (go_at_call 31; refine (AD.out _ _ hb).mono ?_; rintro e w2 ⟨rfl, hS, hk⟩))
  go_ret2
  exact ⟨vb, rfl, hS, hV.kp hk (by simp; omega) hvb, hvb, (kp_of_below hb).mono (by simp) |>.trans hk (by simp)⟩
end
end Go.Proofs.YteojlmpipfajoaaGreatDoor
namespace Go.Proofs.YteojlmpipfajoaaGreatDoor
set_option linter.unusedVariables false
set_option linter.unusedSimpArgs false
open Go.RowKit
theorem val_cells {w : World} {vb f : Nat} {v : Value} (h : w.heap[vb]? = some (valO f v)) : w.cell? ⟨vb, 0, none⟩ = some (.pointer (some ⟨f, 0, none⟩)) ∧ w.cell? ⟨vb, 1, none⟩ = some (.iface 101 v) := by
  refine ⟨?_, ?_⟩ <;> (simp only [World.cell?, h]; rfl)
theorem fac_cells {w : World} {f : Nat} (h : w.heap[f]? = some facO) : w.cell? ⟨f, 0, none⟩ = some (.string ⟨#[]⟩) ∧ w.cell? ⟨f, 1, none⟩ = some (.bool false) ∧ w.frozen? ⟨f, 0, none⟩ = false ∧ w.frozen? ⟨f, 1, none⟩ = false := by
  refine ⟨?_, ?_, by simp [World.frozen?, h], by simp [World.frozen?, h]⟩ <;> (simp only [World.cell?, h]; rfl)
theorem ptr76_e (b : Nat) (W : World) : (binOp .eql 76 (.pointer (some ⟨b, 0, none⟩)) (.pointer none)).run Tryz.prog W = .ok (.bool false) W := by kernel_rfl
theorem ptr76_n (b : Nat) (W : World) : (binOp .neq 76 (.pointer (some ⟨b, 0, none⟩)) (.pointer none)).run Tryz.prog W = .ok (.bool true) W := by kernel_rfl
theorem ta101 (v : Value) (W : World) : (Instr.typeAssert (.iface 101 v) 106 101 true).run Tryz.prog W = .ok (.tuple #[v, .bool true]) W := by kernel_rfl
section
variable {ss : List Bs} {B vb sb : Nat}
set_option maxRecDepth 100000 in
theorem list_any {w : World} (h : ValA w B vb ss) (hp : 0 < ss.length) (hl : ss.length ≤ 100000) : Calls Tryz.prog 33 #[.pointer (some ⟨vb, 0, none⟩)] w fun e w' => ∃ g c, e = .returned (.tuple #[.slice (some ⟨g, 0, none⟩) ss.length c, .int .i64 0]) ∧ w'.ownsRow w.heap.size 9 1 (.slice (some ⟨g, 0, none⟩) ss.length c) ss.length (ss.map sv) ∧ Below w.heap.size w w' := by
  obtain ⟨f, v, -, -, h3, -, h5, -, -, g0, cg0, rfl⟩ := h.ex
  obtain ⟨c0, c1⟩ := val_cells h3
  have CL := Lib.hid (clone101_any (TxtRow.of_owns h5) hp hl)
  have hE := ptr76_n vb
  have hT := ta101 (.slice (some ⟨g0, 0, none⟩) ss.length cg0)
  clear h h3 h5 hp hl
  go_enter Tryz.func33, Tryz.ntmps33
  go_wp2_with (go_at_call 55; refine CL.out.mono ?_; rintro e w2 ⟨g, cg, rfl, ho, hb2⟩; have HO := Lib.hid ho; clear ho)
  go_ret2
  exact ⟨g, cg, rfl, HO.out, hb2⟩
set_option maxRecDepth 100000 in
theorem element_any {w : World} (hS : StoA w sb vb) (h : ValA w B vb ss) (hl : ss.length ≤ 100000) (i : Nat) (hi : i < ss.length) : Calls Tryz.prog 14 #[.pointer (some ⟨sb, 0, none⟩), .int .i64 0, .int .i64 (i : Int)] w fun e w' => e = .returned (.tuple #[sv ss[i], .int .i64 0]) ∧ Below w.heap.size w w' := by
  have GO := Lib.hid (got_one hS)
  have LI := Lib.hid (list_any h (by omega) hl)
  have t1 : decide ((i : Int) < 0) = false := by rw [decide_eq_false_iff_not]; omega
  have t2 : decide ((ss.length : Int) ≤ (i : Int)) = false := by rw [decide_eq_false_iff_not]; omega
  clear hS h
  go_enter Tryz.func14, Tryz.ntmps14
  go_wp2_with (first | (go_at_call 32; refine GO.out.mono ?_; rintro e w1 ⟨rfl, rfl⟩) | (go_at_call 33; refine LI.out.mono ?_; rintro e w2 ⟨g, cg, rfl, ho, hb2⟩; have hc : w2.cell? ⟨g, i, none⟩ = some (sv ss[i]) := (by rw [ho.cellAt i (by omega)]; simp [hi]); clear ho))
  go_ret2
  exact ⟨rfl, hb2⟩
set_option maxRecDepth 100000 in
theorem elText_any {w : World} (hM : MaxIs w) {v : Value} (ht : TxtRow w v ss) (hl : ss.length ≤ 10000) (hj : (joinL ss).length ≤ 65536) : Calls Tryz.prog 145 #[v] w fun e w' => e = .returned (.tuple #[.string ⟨(joinL ss).toArray⟩, .int .i64 0]) ∧ Below w.heap.size w w' := by
  have JO := Lib.hid (Join_any _ ss w hM ht)
  rw [joinE_ok hl hj] at JO
  clear hM ht hl hj
  go_enter Tryz.func145, Tryz.ntmps145
  go_wp2_with (go_at_call 6; refine JO.out.mono ?_; rintro e w1 ⟨rfl, hb⟩)
  go_ret2
  exact ⟨rfl, hb⟩
set_option maxRecDepth 100000 in
set_option maxHeartbeats 1600000 in
theorem vText_any {w : World} (hM : MaxIs w) (h : ValA w B vb ss) (hl : ss.length ≤ 10000) (hj : (joinL ss).length ≤ 65536) : Calls Tryz.prog 34 #[.pointer (some ⟨vb, 0, none⟩)] w fun e w' => e = .returned (.string ⟨(joinL ss).toArray⟩) ∧ ∃ f, B ≤ f ∧ Kp [f] w w' := by
  obtain ⟨f, v, hf, hne, h3, h4, h5, h6, -, g0, cg0, rfl⟩ := h.ex
  obtain ⟨c0, c1⟩ := val_cells h3
  obtain ⟨d0, d1, f0, f1⟩ := fac_cells h4
  have ET : Hid (∀ W, Below w.heap.size w W → Calls Tryz.prog 145 #[.slice (some ⟨g0, 0, none⟩) ss.length cg0] W fun e w' => e = .returned (.tuple #[.string ⟨(joinL ss).toArray⟩, .int .i64 0]) ∧ Below W.heap.size W w') := fun W hb => elText_any (hM.below hb hM.pos) ((TxtRow.of_owns h5).below hb) hl hj
  have hE := ptr76_e vb
  have hne2 : vb ≠ f := fun e => hne e.symm
  have HB : Hid (∀ W, Below w.heap.size w W → W.cell? ⟨vb, 0, none⟩ = some (.pointer (some ⟨f, 0, none⟩)) ∧ W.cell? ⟨f, 0, none⟩ = some (.string ⟨#[]⟩) ∧ W.cell? ⟨f, 1, none⟩ = some (.bool false) ∧ W.frozen? ⟨f, 0, none⟩ = false ∧ W.frozen? ⟨f, 1, none⟩ = false) := fun W hb => by
    have e3 := val_cells ((hb.block vb (Array.getElem?_eq_some_iff.1 h3).1).trans h3)
    have e4 := fac_cells ((hb.block f (Array.getElem?_eq_some_iff.1 h4).1).trans h4)
    exact ⟨e3.1, e4.1, e4.2.1, e4.2.2.1, e4.2.2.2⟩
  clear h h3 h4 h5 hl hj hM h6
  go_enter Tryz.func34, Tryz.ntmps34
  go_wp2_with fail
  go_region_with (go_at_call 145; refine (ET.out _ (Below.refl _ _).drew).mono ?_; rintro e w1 ⟨rfl, hb⟩; have hB : Below w.heap.size w w1 := (Below.refl _ _).drew.trans hb; clear hb; obtain ⟨k0, k1, k2, k3, k4⟩ := HB.out _ hB)
  all_goals (go_wp2_with fail; go_ret; exact ⟨rfl, f, hf, (((kp_of_below hB).mono (D' := [f]) (by simp)).setCell f 0 _ (.inl (by simp))).setCell f 1 _ (.inl (by simp))⟩)
set_option maxRecDepth 100000 in
theorem sText_any {w : World} (hS : StoA w sb vb) (hM : MaxIs w) (h : ValA w B vb ss) (hl : ss.length ≤ 10000) (hj : (joinL ss).length ≤ 65536) : Calls Tryz.prog 15 #[.pointer (some ⟨sb, 0, none⟩), .int .i64 0] w fun e w' => e = .returned (.tuple #[.string ⟨(joinL ss).toArray⟩, .int .i64 0]) ∧ ∃ f, B ≤ f ∧ Kp [f] w w' := by
  have GO := Lib.hid (got_one hS)
  have TX := Lib.hid (vText_any hM h hl hj)
  clear hS h hM hl hj
  go_enter Tryz.func15, Tryz.ntmps15
  go_wp2_with (first | (go_at_call 32; refine GO.out.mono ?_; rintro e w1 ⟨rfl, rfl⟩) | (go_at_call 34; refine TX.out.mono ?_; rintro e w2 ⟨rfl, hx⟩))
  go_ret2
  exact ⟨rfl, hx⟩
end
end Go.Proofs.YteojlmpipfajoaaGreatDoor
