/- The time that was read (the reference): Got.time. Printed by mkCRdG.py. -/
import Derived.Test.YtkahakhhdiffcaaGreatDoorCRdT
import Derived.Test.YtkahakhhdiffcaaGreatDoorCTime
import Derived.Test.YtkahakhhdiffcaaGreatDoorCDates
import Derived.Deep.CutRange
import Derived.Deep.RegionWith
namespace Go.Proofs.YtkahakhhdiffcaaGreatDoor
set_option linter.unusedVariables false
set_option linter.unusedSimpArgs false
open Go.RowKit Go.Shelf
theorem only_setCell (w : World) (b i : Nat) (v : Value) : Only b w (w.setCell ⟨b, i, none⟩ v) :=
  ⟨rfl, rfl, rfl, World.size_setCell _ _ _, fun k hk => Below.heap_setCell w ⟨b, i, none⟩ v k hk⟩
/-- The reference's box and its date, while the time is found. -/
structure GSt (W W' : World) (G : GotL) (ao : Option Addr) (cap b : Nat) (v0 v1 v2 v3 v4 v5 : Int) : Prop where
  below : Below W.heap.size W W'
  grow : GRow W' ao G
  box0 : W'.cell? ⟨W.heap.size, 0, none⟩ = some (.string ⟨(G.map (·.1)).toArray⟩)
  box1 : W'.cell? ⟨W.heap.size, 1, none⟩ = some (.slice ao G.length cap)
  date : W'.heap[b]? = some (.cells #[.int .i64 v0, .int .i64 v1, .int .i64 v2, .int .i64 v3, .int .i64 v4, .int .i64 v5] 39)
  gt : W.heap.size < b
  err : ErrIs W'
  lowErr : 5 < W.heap.size ∧ 6 < W.heap.size
  rowlt : ∀ (k : Nat) (p : UInt8 × Bs), G[k]? = some p → ∃ g0, ao = some ⟨g0, 0, none⟩ ∧ g0 < W.heap.size
section
variable {W W' W'' : World} {G : GotL} {ao : Option Addr} {cap b : Nat} {v0 v1 v2 v3 v4 v5 : Int}
theorem GSt.next (h : GSt W W' G ao cap b v0 v1 v2 v3 v4 v5) (hb : Below W'.heap.size W' W'') : GSt W W'' G ao cap b v0 v1 v2 v3 v4 v5 :=
  ⟨h.below.trans (hb.mono h.below.size), h.grow.below hb, (hb.cell (cell_lt h.box0)).trans h.box0, (hb.cell (cell_lt h.box1)).trans h.box1, (hb.block _ (Array.getElem?_eq_some_iff.1 h.date).1).trans h.date, h.gt, h.err.below hb, h.lowErr, h.rowlt⟩
theorem GSt.drew (h : GSt W W' G ao cap b v0 v1 v2 v3 v4 v5) : GSt W W'.drew G ao cap b v0 v1 v2 v3 v4 v5 := h.next (Below.refl _ _).drew
theorem GSt.facts (h : GSt W W' G ao cap b v0 v1 v2 v3 v4 v5) : W'.cell? ⟨b, 0, none⟩ = some (.int .i64 v0) ∧ W'.cell? ⟨b, 1, none⟩ = some (.int .i64 v1) ∧ W'.cell? ⟨b, 2, none⟩ = some (.int .i64 v2) ∧ W'.cell? ⟨b, 3, none⟩ = some (.int .i64 v3) ∧ W'.cell? ⟨b, 4, none⟩ = some (.int .i64 v4) ∧ W'.cell? ⟨b, 5, none⟩ = some (.int .i64 v5) ∧ (∀ i, W'.frozen? ⟨b, i, none⟩ = false) ∧ W'.cell? ⟨W.heap.size, 0, none⟩ = some (.string ⟨(G.map (·.1)).toArray⟩) ∧ W'.cell? ⟨W.heap.size, 1, none⟩ = some (.slice ao G.length cap) := by
  have hd := h.date
  refine ⟨?_, ?_, ?_, ?_, ?_, ?_, fun i => by simp [World.frozen?, hd], h.box0, h.box1⟩ <;> (simp only [World.cell?, hd]; rfl)
theorem GSt.upd (h : GSt W W' G ao cap b v0 v1 v2 v3 v4 v5) (j : Nat) (v : Int) {u0 u1 u2 u3 u4 u5 : Int} (he : (#[.int .i64 v0, .int .i64 v1, .int .i64 v2, .int .i64 v3, .int .i64 v4, .int .i64 v5] : Array Value).setIfInBounds j (.int .i64 v) = #[.int .i64 u0, .int .i64 u1, .int .i64 u2, .int .i64 u3, .int .i64 u4, .int .i64 u5]) :
    GSt W (W'.setCell ⟨b, j, none⟩ (.int .i64 v)) G ao cap b u0 u1 u2 u3 u4 u5 := by
  have hO := only_setCell W' b j (.int .i64 v)
  have hg := h.gt
  have hc : ∀ {p : Addr} {x : Value}, p.block ≠ b → W'.cell? p = some x → (W'.setCell ⟨b, j, none⟩ (.int .i64 v)).cell? p = some x := fun {p x} hp hx => (Only.cell hO hp).trans hx
  refine ⟨h.below.trans (hO.below (by omega)), ?_, hc (by show W.heap.size ≠ b; omega) h.box0, hc (by show W.heap.size ≠ b; omega) h.box1, ?_, hg, ?_, h.lowErr, h.rowlt⟩
  · intro k p hp
    obtain ⟨g0, h1, h2⟩ := h.rowlt k p hp
    obtain ⟨g1, h3, h4⟩ := h.grow k p hp
    rw [h1] at h3
    obtain rfl : g0 = g1 := by injection h3 with h3; injection h3
    exact ⟨g0, h1, hc (by show g0 ≠ b; omega) h4⟩
  · have := heap_setCell_same W' b j _ _ (.int .i64 v) h.date
    rw [this, he]
  · obtain ⟨⟨a, c, h1⟩, d, e, h2⟩ := h.err
    have h3 := cell_lt h1
    have h4 := cell_lt h2
    exact ⟨⟨a, c, hc (by intro hh; have h8 := h.lowErr.1; have h9 : 5 = b := hh; omega) h1⟩, d, e, hc (by intro hh; have h8 := h.lowErr.2; have h9 : 6 = b := hh; omega) h2⟩
end
theorem gst_new {W W0 w1 : World} {G : GotL} {ao : Option Addr} {cap : Nat} (hr : GRow W0 ao G) (hE : ErrIs W0) (q0 : W0.cell? ⟨W.heap.size, 0, none⟩ = some (.string ⟨(G.map (·.1)).toArray⟩)) (q1 : W0.cell? ⟨W.heap.size, 1, none⟩ = some (.slice ao G.length cap)) (hb : Below W0.heap.size W0 w1)
    (hrl : ∀ (k : Nat) (p : UInt8 × Bs), G[k]? = some p → ∃ g0, ao = some ⟨g0, 0, none⟩ ∧ g0 < W.heap.size) (hlow : 5 < W.heap.size ∧ 6 < W.heap.size) (hB : Below W.heap.size W W0) :
    GSt W (w1.alloc (.cells #[.int .i64 1970, .int .i64 1, .int .i64 1, .int .i64 0, .int .i64 0, .int .i64 0] 39)) G ao cap w1.heap.size 1970 1 1 0 0 0 := by
  have h1 := hb.trans ((below_alloc1 w1 (.cells #[.int .i64 1970, .int .i64 1, .int .i64 1, .int .i64 0, .int .i64 0, .int .i64 0] 39)).mono hb.size)
  have h2 : W.heap.size < W0.heap.size := cell_lt q0
  have h3 := hb.size
  exact ⟨hB.trans (h1.mono hB.size), hr.below h1, (h1.cell (cell_lt q0)).trans q0, (h1.cell (cell_lt q1)).trans q1, heap_alloc_new w1 _, by omega, hE.below h1, hlow, hrl⟩
theorem gotT_find {G : GotL} {c : UInt8} {x : Bs} (h : gotT G c = some x) : ∃ p, G.find? (fun p => p.1 == c) = some p ∧ p.2 = x := by
  unfold gotT at h
  cases hf : G.find? (fun p => p.1 == c) with
  | none => rw [hf] at h; cases h
  | some p => rw [hf] at h; injection h with h; exact ⟨p, rfl, h⟩
theorem got_len {G : GotL} (hx : ∀ p ∈ G, p.2.length ≤ 1000000) {c : UInt8} {x : Bs} (h : gotT G c = some x) : x.length ≤ 1000000 := by
  obtain ⟨p, h1, rfl⟩ := gotT_find h
  exact hx p (List.mem_of_find?_eq_some h1)
theorem ho_cases (G : GotL) : (hoR G = none ∧ ∃ x, gotT G 73 = some x ∧ gotT G 72 = none ∧ winI (numC G 73 0) 1 12 = false) ∨ ∃ H1, hoR G = some (numC G 72 H1) ∧ ((gotT G 73 = none ∧ H1 = 0) ∨ ∃ x, gotT G 73 = some x ∧ (gotT G 72 = none → winI (numC G 73 0) 1 12 = true) ∧ H1 = (numC G 73 0).tmod 12 + (if lowL ((gotT G 112).getD []) = pmL then 12 else 0)) := by
  unfold hoR
  cases h : gotT G 73 with
  | none => exact .inr ⟨0, rfl, .inl ⟨rfl, rfl⟩⟩
  | some x =>
    simp only
    by_cases hb : gotT G 72 = none ∧ winI (numC G 73 0) 1 12 = false
    · rw [if_pos hb]; exact .inl ⟨rfl, x, rfl, hb.1, hb.2⟩
    · rw [if_neg hb]
      refine .inr ⟨_, rfl, .inr ⟨x, rfl, fun h72 => ?_, rfl⟩⟩
      cases hw : winI (numC G 73 0) 1 12 with
      | true => rfl
      | false => exact absurd ⟨h72, hw⟩ hb
theorem tr_h {G : GotL} (h : gotT G 115 = none) (h1 : hoR G = none) : timeR G = (0, 7) := by unfold timeR; rw [h, h1]
theorem tr_nj {G : GotL} (h : gotT G 115 = none) {ho : Int} (h1 : hoR G = some ho) (h2 : gotT G 106 = none) : timeR G = tmE (timeC (yR G) (moR G) (daR G) ho (numC G 77 0) (numC G 83 0)) := by unfold timeR; rw [h, h1, h2]
theorem tr_jb {G : GotL} (h : gotT G 115 = none) {ho : Int} (h1 : hoR G = some ho) {x : Bs} (h2 : gotT G 106 = some x) (h3 : ¬ (winI (yR G) 1 9999 = true ∧ winI (numC G 106 0) 1 (365 + leap1 (yR G)) = true)) : timeR G = (0, 7) := by unfold timeR; rw [h, h1, h2]; simp only; rw [if_neg h3]
theorem tr_j {G : GotL} (h : gotT G 115 = none) {ho : Int} (h1 : hoR G = some ho) {x : Bs} (h2 : gotT G 106 = some x) (h3 : winI (yR G) 1 9999 = true ∧ winI (numC G 106 0) 1 (365 + leap1 (yR G)) = true) : timeR G = tmE (timeC (yR G) (dateC (dayJ (yR G) (numC G 106 0))).m (dateC (dayJ (yR G) (numC G 106 0))).d ho (numC G 77 0) (numC G 83 0)) := by unfold timeR; rw [h, h1, h2]; simp only; rw [if_pos h3]
def Nums (G : GotL) : Prop := (∀ c, c ∈ [(121 : UInt8), 89, 109, 101, 100, 73, 72, 77, 83, 106] → ∀ x, gotT G c = some x → 0 ≤ atoiV x ∧ atoiV x ≤ 100000) ∧ (∀ c, c ∈ [(66 : UInt8), 98] → ∀ x, gotT G c = some x → 3 ≤ x.length ∧ 0 ≤ monthC x ∧ monthC x ≤ 100)
theorem Nums.at {G : GotL} (h : Nums G) (c : UInt8) (hc : c ∈ [(121 : UInt8), 89, 109, 101, 100, 73, 72, 77, 83, 106]) (o : Int) (h0 : 0 ≤ o) (h1 : o ≤ 100000) : 0 ≤ numC G c o ∧ numC G c o ≤ 100000 := by
  unfold numC
  cases hx : gotT G c with
  | none => exact ⟨h0, h1⟩
  | some x => exact h.1 c hc x hx
set_option maxRecDepth 100000 in
set_option maxHeartbeats 6400000 in
theorem gtime_s (G : GotL) {x : Bs} (h115 : gotT G 115 = some x) (hG : G.length ≤ 1000) (hx : ∀ p ∈ G, p.2.length ≤ 1000000) (hN : Nums G) (ao : Option Addr) (cap : Nat) (W : World) (hr : GRow W ao G) (hE : ErrIs W) (hP : PowIs W) :
    Calls Tryz.prog 39 #[.agg #[.string ⟨(G.map (·.1)).toArray⟩, .slice ao G.length cap]] W fun e w' => e = .returned (.tuple #[.int .i64 (timeR G).1, .int .i64 (timeR G).2]) ∧ Below W.heap.size W w' := by
  have TX115 : Hid (∀ W', GRow W' ao G → Calls Tryz.prog 90 #[.agg #[.string ⟨(G.map (·.1)).toArray⟩, .slice ao G.length cap], .int .u8 115] W' fun e w' => e = .returned (.tuple #[.string ⟨((gotT G 115).getD []).toArray⟩, .bool (gotT G 115).isSome]) ∧ Below W'.heap.size W' w') := fun W' h => text_any G hG ao cap 115 W' h
  have TX121 : Hid (∀ W', GRow W' ao G → Calls Tryz.prog 90 #[.agg #[.string ⟨(G.map (·.1)).toArray⟩, .slice ao G.length cap], .int .u8 121] W' fun e w' => e = .returned (.tuple #[.string ⟨((gotT G 121).getD []).toArray⟩, .bool (gotT G 121).isSome]) ∧ Below W'.heap.size W' w') := fun W' h => text_any G hG ao cap 121 W' h
  have TX98 : Hid (∀ W', GRow W' ao G → Calls Tryz.prog 90 #[.agg #[.string ⟨(G.map (·.1)).toArray⟩, .slice ao G.length cap], .int .u8 98] W' fun e w' => e = .returned (.tuple #[.string ⟨((gotT G 98).getD []).toArray⟩, .bool (gotT G 98).isSome]) ∧ Below W'.heap.size W' w') := fun W' h => text_any G hG ao cap 98 W' h
  have TX66 : Hid (∀ W', GRow W' ao G → Calls Tryz.prog 90 #[.agg #[.string ⟨(G.map (·.1)).toArray⟩, .slice ao G.length cap], .int .u8 66] W' fun e w' => e = .returned (.tuple #[.string ⟨((gotT G 66).getD []).toArray⟩, .bool (gotT G 66).isSome]) ∧ Below W'.heap.size W' w') := fun W' h => text_any G hG ao cap 66 W' h
  have TX73 : Hid (∀ W', GRow W' ao G → Calls Tryz.prog 90 #[.agg #[.string ⟨(G.map (·.1)).toArray⟩, .slice ao G.length cap], .int .u8 73] W' fun e w' => e = .returned (.tuple #[.string ⟨((gotT G 73).getD []).toArray⟩, .bool (gotT G 73).isSome]) ∧ Below W'.heap.size W' w') := fun W' h => text_any G hG ao cap 73 W' h
  have TX72 : Hid (∀ W', GRow W' ao G → Calls Tryz.prog 90 #[.agg #[.string ⟨(G.map (·.1)).toArray⟩, .slice ao G.length cap], .int .u8 72] W' fun e w' => e = .returned (.tuple #[.string ⟨((gotT G 72).getD []).toArray⟩, .bool (gotT G 72).isSome]) ∧ Below W'.heap.size W' w') := fun W' h => text_any G hG ao cap 72 W' h
  have TX112 : Hid (∀ W', GRow W' ao G → Calls Tryz.prog 90 #[.agg #[.string ⟨(G.map (·.1)).toArray⟩, .slice ao G.length cap], .int .u8 112] W' fun e w' => e = .returned (.tuple #[.string ⟨((gotT G 112).getD []).toArray⟩, .bool (gotT G 112).isSome]) ∧ Below W'.heap.size W' w') := fun W' h => text_any G hG ao cap 112 W' h
  have TX106 : Hid (∀ W', GRow W' ao G → Calls Tryz.prog 90 #[.agg #[.string ⟨(G.map (·.1)).toArray⟩, .slice ao G.length cap], .int .u8 106] W' fun e w' => e = .returned (.tuple #[.string ⟨((gotT G 106).getD []).toArray⟩, .bool (gotT G 106).isSome]) ∧ Below W'.heap.size W' w') := fun W' h => text_any G hG ao cap 106 W' h
  have NU121 : Hid (∀ W' o, GRow W' ao G → ErrIs W' → Calls Tryz.prog 92 #[.agg #[.string ⟨(G.map (·.1)).toArray⟩, .slice ao G.length cap], .int .u8 121, .int .i64 o] W' fun e w' => e = .returned (.int .i64 (numC G 121 o)) ∧ Below W'.heap.size W' w') := fun W' o h hE => gnum_any G hG hx ao cap 121 o W' h hE
  have NU89 : Hid (∀ W' o, GRow W' ao G → ErrIs W' → Calls Tryz.prog 92 #[.agg #[.string ⟨(G.map (·.1)).toArray⟩, .slice ao G.length cap], .int .u8 89, .int .i64 o] W' fun e w' => e = .returned (.int .i64 (numC G 89 o)) ∧ Below W'.heap.size W' w') := fun W' o h hE => gnum_any G hG hx ao cap 89 o W' h hE
  have NU109 : Hid (∀ W' o, GRow W' ao G → ErrIs W' → Calls Tryz.prog 92 #[.agg #[.string ⟨(G.map (·.1)).toArray⟩, .slice ao G.length cap], .int .u8 109, .int .i64 o] W' fun e w' => e = .returned (.int .i64 (numC G 109 o)) ∧ Below W'.heap.size W' w') := fun W' o h hE => gnum_any G hG hx ao cap 109 o W' h hE
  have NU101 : Hid (∀ W' o, GRow W' ao G → ErrIs W' → Calls Tryz.prog 92 #[.agg #[.string ⟨(G.map (·.1)).toArray⟩, .slice ao G.length cap], .int .u8 101, .int .i64 o] W' fun e w' => e = .returned (.int .i64 (numC G 101 o)) ∧ Below W'.heap.size W' w') := fun W' o h hE => gnum_any G hG hx ao cap 101 o W' h hE
  have NU100 : Hid (∀ W' o, GRow W' ao G → ErrIs W' → Calls Tryz.prog 92 #[.agg #[.string ⟨(G.map (·.1)).toArray⟩, .slice ao G.length cap], .int .u8 100, .int .i64 o] W' fun e w' => e = .returned (.int .i64 (numC G 100 o)) ∧ Below W'.heap.size W' w') := fun W' o h hE => gnum_any G hG hx ao cap 100 o W' h hE
  have NU73 : Hid (∀ W' o, GRow W' ao G → ErrIs W' → Calls Tryz.prog 92 #[.agg #[.string ⟨(G.map (·.1)).toArray⟩, .slice ao G.length cap], .int .u8 73, .int .i64 o] W' fun e w' => e = .returned (.int .i64 (numC G 73 o)) ∧ Below W'.heap.size W' w') := fun W' o h hE => gnum_any G hG hx ao cap 73 o W' h hE
  have NU72 : Hid (∀ W' o, GRow W' ao G → ErrIs W' → Calls Tryz.prog 92 #[.agg #[.string ⟨(G.map (·.1)).toArray⟩, .slice ao G.length cap], .int .u8 72, .int .i64 o] W' fun e w' => e = .returned (.int .i64 (numC G 72 o)) ∧ Below W'.heap.size W' w') := fun W' o h hE => gnum_any G hG hx ao cap 72 o W' h hE
  have NU77 : Hid (∀ W' o, GRow W' ao G → ErrIs W' → Calls Tryz.prog 92 #[.agg #[.string ⟨(G.map (·.1)).toArray⟩, .slice ao G.length cap], .int .u8 77, .int .i64 o] W' fun e w' => e = .returned (.int .i64 (numC G 77 o)) ∧ Below W'.heap.size W' w') := fun W' o h hE => gnum_any G hG hx ao cap 77 o W' h hE
  have NU83 : Hid (∀ W' o, GRow W' ao G → ErrIs W' → Calls Tryz.prog 92 #[.agg #[.string ⟨(G.map (·.1)).toArray⟩, .slice ao G.length cap], .int .u8 83, .int .i64 o] W' fun e w' => e = .returned (.int .i64 (numC G 83 o)) ∧ Below W'.heap.size W' w') := fun W' o h hE => gnum_any G hG hx ao cap 83 o W' h hE
  have NU106 : Hid (∀ W' o, GRow W' ao G → ErrIs W' → Calls Tryz.prog 92 #[.agg #[.string ⟨(G.map (·.1)).toArray⟩, .slice ao G.length cap], .int .u8 106, .int .i64 o] W' fun e w' => e = .returned (.int .i64 (numC G 106 o)) ∧ Below W'.heap.size W' w') := fun W' o h hE => gnum_any G hG hx ao cap 106 o W' h hE
  have hb0 := below_alloc1 W (.cells #[.string ⟨(G.map (·.1)).toArray⟩, .slice ao G.length cap] 91)
  obtain ⟨q0, q1⟩ := cells2_new W (.string ⟨(G.map (·.1)).toArray⟩) (.slice ao G.length cap) 91
  have hrl : ∀ (k : Nat) (p : UInt8 × Bs), G[k]? = some p → ∃ g0, ao = some ⟨g0, 0, none⟩ ∧ g0 < W.heap.size := fun k p hp => by
    obtain ⟨g0, h1, h2⟩ := hr k p hp
    exact ⟨g0, h1, cell_lt h2⟩
  have hlow : 5 < W.heap.size ∧ 6 < W.heap.size := by
    obtain ⟨⟨a, c, h1⟩, d, e, h2⟩ := hE
    exact ⟨cell_lt h1, cell_lt h2⟩
  have HR0 := Lib.hid (hr.below hb0)
  have HE0 := Lib.hid (hE.below hb0)
  have HP0 := Lib.hid (hP.below hb0)
  have HB0 := Lib.hid hb0
  have hxl : x.length ≤ 1000000 := by
    unfold gotT at h115
    cases hf : G.find? (fun p => p.1 == 115) with
    | none => rw [hf] at h115; cases h115
    | some p => rw [hf] at h115; cases h115; exact hx p (List.mem_of_find?_eq_some hf)
  rw [h115] at TX115
  simp only [Option.getD_some, Option.isSome_some] at TX115
  have AT := Lib.hid (fun W' hE => atoi_full x (by omega) W' hE)
  obtain ⟨hv1, hv2⟩ := atoiV_in x
  have IT := Lib.hid (fun W' (h : PowIs W') => itoa_any (atoiV x) hv1 hv2 W' h)
  have RT := Lib.hid (fun W' => rright_any (atoiV x) W')
  obtain ⟨R, hR⟩ : ∃ R, timeR G = R := ⟨_, rfl⟩
  rw [hR]
  have hR2 : R = if (Lib.itoa (atoiV x) = x ∨ x = [45, 48]) ∧ validI (atoiV x) = true then (atoiV x, 0) else (0, 7) := by rw [← hR]; unfold timeR; rw [h115]
  have hq1 : (Lib.itoa (atoiV x) == x) = decide (Lib.itoa (atoiV x) = x) := by rw [Bool.eq_iff_iff]; simp
  have hq2 : (x == [45, 48]) = decide (x = [45, 48]) := by rw [Bool.eq_iff_iff]; simp
  clear h115 hr hE hP hb0 hrl hlow TX121 TX98 TX66 TX73 TX72 TX112 TX106 NU121 NU89 NU109 NU101 NU100 NU73 NU72 NU77 NU83 NU106 hR hN hx
  generalize Lib.itoa (atoiV x) = it at *
  generalize atoiV x = v at *
  have key : ∀ (b1 b2 b3 : Bool), decide (it = x) = b1 → decide (x = [45, 48]) = b2 → validI v = b3 → R = if ((b1 || b2) && b3) = true then (v, 0) else (0, 7) := by
    rintro b1 b2 b3 rfl rfl rfl
    rw [hR2]
    simp only [Bool.and_eq_true, Bool.or_eq_true, decide_eq_true_eq]
  obtain ⟨b1, hb1⟩ : ∃ b1, decide (it = x) = b1 := ⟨_, rfl⟩
  obtain ⟨b2, hb2⟩ : ∃ b2, decide (x = [45, 48]) = b2 := ⟨_, rfl⟩
  obtain ⟨b3, hb3⟩ : ∃ b3, validI v = b3 := ⟨_, rfl⟩
  have key2 := key b1 b2 b3 hb1 hb2 hb3
  rw [hb1] at hq1
  rw [hb2] at hq2
  rw [hb3] at RT
  clear key hR2 hb1 hb2 hb3
  subst key2
  rcases b1 with _ | _ <;> rcases b2 with _ | _ <;> rcases b3 with _ | _
  · have hn1 : (it != x) = true := by rw [bne, hq1]; rfl
    have hn2 : (x != [45, 48]) = true := by rw [bne, hq2]; rfl
    go_enter Tryz.func39, Tryz.ntmps39
    go_wp2_with (first | (go_at_call 90; refine (TX115.out _ HR0.out).mono ?_; rintro e w1 ⟨rfl, hb1⟩; have HE1 := Lib.hid (HE0.out.below hb1); have HB1 := Lib.hid (HB0.out.trans (hb1.mono HB0.out.size)); have HP1 := Lib.hid (HP0.out.below hb1); clear hb1) | (go_at_call 91; refine (AT.out _ HE1.out).mono ?_; rintro e w2 ⟨er, rfl, _, hb2⟩; have HP2 := Lib.hid (HP1.out.below hb2); have HB2 := Lib.hid (HB1.out.trans (hb2.mono HB1.out.size)); clear hb2) | (go_at_call 80; refine (IT.out _ HP2.out).mono ?_; rintro e w3 ⟨rfl, hb3⟩; have HB3 := Lib.hid (HB2.out.trans (hb3.mono HB2.out.size)); clear hb3) | (go_at_call 23; refine (RT.out _).mono ?_; rintro e w4 ⟨rfl, rfl⟩))
    go_ret2
    exact ⟨rfl, HB3.out⟩
  · have hn1 : (it != x) = true := by rw [bne, hq1]; rfl
    have hn2 : (x != [45, 48]) = true := by rw [bne, hq2]; rfl
    go_enter Tryz.func39, Tryz.ntmps39
    go_wp2_with (first | (go_at_call 90; refine (TX115.out _ HR0.out).mono ?_; rintro e w1 ⟨rfl, hb1⟩; have HE1 := Lib.hid (HE0.out.below hb1); have HB1 := Lib.hid (HB0.out.trans (hb1.mono HB0.out.size)); have HP1 := Lib.hid (HP0.out.below hb1); clear hb1) | (go_at_call 91; refine (AT.out _ HE1.out).mono ?_; rintro e w2 ⟨er, rfl, _, hb2⟩; have HP2 := Lib.hid (HP1.out.below hb2); have HB2 := Lib.hid (HB1.out.trans (hb2.mono HB1.out.size)); clear hb2) | (go_at_call 80; refine (IT.out _ HP2.out).mono ?_; rintro e w3 ⟨rfl, hb3⟩; have HB3 := Lib.hid (HB2.out.trans (hb3.mono HB2.out.size)); clear hb3) | (go_at_call 23; refine (RT.out _).mono ?_; rintro e w4 ⟨rfl, rfl⟩))
    go_ret2
    exact ⟨rfl, HB3.out⟩
  · have hn1 : (it != x) = true := by rw [bne, hq1]; rfl
    have hn2 : (x != [45, 48]) = false := by rw [bne, hq2]; rfl
    go_enter Tryz.func39, Tryz.ntmps39
    go_wp2_with (first | (go_at_call 90; refine (TX115.out _ HR0.out).mono ?_; rintro e w1 ⟨rfl, hb1⟩; have HE1 := Lib.hid (HE0.out.below hb1); have HB1 := Lib.hid (HB0.out.trans (hb1.mono HB0.out.size)); have HP1 := Lib.hid (HP0.out.below hb1); clear hb1) | (go_at_call 91; refine (AT.out _ HE1.out).mono ?_; rintro e w2 ⟨er, rfl, _, hb2⟩; have HP2 := Lib.hid (HP1.out.below hb2); have HB2 := Lib.hid (HB1.out.trans (hb2.mono HB1.out.size)); clear hb2) | (go_at_call 80; refine (IT.out _ HP2.out).mono ?_; rintro e w3 ⟨rfl, hb3⟩; have HB3 := Lib.hid (HB2.out.trans (hb3.mono HB2.out.size)); clear hb3) | (go_at_call 23; refine (RT.out _).mono ?_; rintro e w4 ⟨rfl, rfl⟩))
    go_ret2
    exact ⟨rfl, HB3.out⟩
  · have hn1 : (it != x) = true := by rw [bne, hq1]; rfl
    have hn2 : (x != [45, 48]) = false := by rw [bne, hq2]; rfl
    go_enter Tryz.func39, Tryz.ntmps39
    go_wp2_with (first | (go_at_call 90; refine (TX115.out _ HR0.out).mono ?_; rintro e w1 ⟨rfl, hb1⟩; have HE1 := Lib.hid (HE0.out.below hb1); have HB1 := Lib.hid (HB0.out.trans (hb1.mono HB0.out.size)); have HP1 := Lib.hid (HP0.out.below hb1); clear hb1) | (go_at_call 91; refine (AT.out _ HE1.out).mono ?_; rintro e w2 ⟨er, rfl, _, hb2⟩; have HP2 := Lib.hid (HP1.out.below hb2); have HB2 := Lib.hid (HB1.out.trans (hb2.mono HB1.out.size)); clear hb2) | (go_at_call 80; refine (IT.out _ HP2.out).mono ?_; rintro e w3 ⟨rfl, hb3⟩; have HB3 := Lib.hid (HB2.out.trans (hb3.mono HB2.out.size)); clear hb3) | (go_at_call 23; refine (RT.out _).mono ?_; rintro e w4 ⟨rfl, rfl⟩))
    go_ret2
    exact ⟨rfl, HB3.out⟩
  · have hn1 : (it != x) = false := by rw [bne, hq1]; rfl
    have hn2 : (x != [45, 48]) = true := by rw [bne, hq2]; rfl
    go_enter Tryz.func39, Tryz.ntmps39
    go_wp2_with (first | (go_at_call 90; refine (TX115.out _ HR0.out).mono ?_; rintro e w1 ⟨rfl, hb1⟩; have HE1 := Lib.hid (HE0.out.below hb1); have HB1 := Lib.hid (HB0.out.trans (hb1.mono HB0.out.size)); have HP1 := Lib.hid (HP0.out.below hb1); clear hb1) | (go_at_call 91; refine (AT.out _ HE1.out).mono ?_; rintro e w2 ⟨er, rfl, _, hb2⟩; have HP2 := Lib.hid (HP1.out.below hb2); have HB2 := Lib.hid (HB1.out.trans (hb2.mono HB1.out.size)); clear hb2) | (go_at_call 80; refine (IT.out _ HP2.out).mono ?_; rintro e w3 ⟨rfl, hb3⟩; have HB3 := Lib.hid (HB2.out.trans (hb3.mono HB2.out.size)); clear hb3) | (go_at_call 23; refine (RT.out _).mono ?_; rintro e w4 ⟨rfl, rfl⟩))
    go_ret2
    exact ⟨rfl, HB3.out⟩
  · have hn1 : (it != x) = false := by rw [bne, hq1]; rfl
    have hn2 : (x != [45, 48]) = true := by rw [bne, hq2]; rfl
    go_enter Tryz.func39, Tryz.ntmps39
    go_wp2_with (first | (go_at_call 90; refine (TX115.out _ HR0.out).mono ?_; rintro e w1 ⟨rfl, hb1⟩; have HE1 := Lib.hid (HE0.out.below hb1); have HB1 := Lib.hid (HB0.out.trans (hb1.mono HB0.out.size)); have HP1 := Lib.hid (HP0.out.below hb1); clear hb1) | (go_at_call 91; refine (AT.out _ HE1.out).mono ?_; rintro e w2 ⟨er, rfl, _, hb2⟩; have HP2 := Lib.hid (HP1.out.below hb2); have HB2 := Lib.hid (HB1.out.trans (hb2.mono HB1.out.size)); clear hb2) | (go_at_call 80; refine (IT.out _ HP2.out).mono ?_; rintro e w3 ⟨rfl, hb3⟩; have HB3 := Lib.hid (HB2.out.trans (hb3.mono HB2.out.size)); clear hb3) | (go_at_call 23; refine (RT.out _).mono ?_; rintro e w4 ⟨rfl, rfl⟩))
    go_ret2
    exact ⟨rfl, HB3.out⟩
  · have hn1 : (it != x) = false := by rw [bne, hq1]; rfl
    have hn2 : (x != [45, 48]) = false := by rw [bne, hq2]; rfl
    go_enter Tryz.func39, Tryz.ntmps39
    go_wp2_with (first | (go_at_call 90; refine (TX115.out _ HR0.out).mono ?_; rintro e w1 ⟨rfl, hb1⟩; have HE1 := Lib.hid (HE0.out.below hb1); have HB1 := Lib.hid (HB0.out.trans (hb1.mono HB0.out.size)); have HP1 := Lib.hid (HP0.out.below hb1); clear hb1) | (go_at_call 91; refine (AT.out _ HE1.out).mono ?_; rintro e w2 ⟨er, rfl, _, hb2⟩; have HP2 := Lib.hid (HP1.out.below hb2); have HB2 := Lib.hid (HB1.out.trans (hb2.mono HB1.out.size)); clear hb2) | (go_at_call 80; refine (IT.out _ HP2.out).mono ?_; rintro e w3 ⟨rfl, hb3⟩; have HB3 := Lib.hid (HB2.out.trans (hb3.mono HB2.out.size)); clear hb3) | (go_at_call 23; refine (RT.out _).mono ?_; rintro e w4 ⟨rfl, rfl⟩))
    go_ret2
    exact ⟨rfl, HB3.out⟩
  · have hn1 : (it != x) = false := by rw [bne, hq1]; rfl
    have hn2 : (x != [45, 48]) = false := by rw [bne, hq2]; rfl
    go_enter Tryz.func39, Tryz.ntmps39
    go_wp2_with (first | (go_at_call 90; refine (TX115.out _ HR0.out).mono ?_; rintro e w1 ⟨rfl, hb1⟩; have HE1 := Lib.hid (HE0.out.below hb1); have HB1 := Lib.hid (HB0.out.trans (hb1.mono HB0.out.size)); have HP1 := Lib.hid (HP0.out.below hb1); clear hb1) | (go_at_call 91; refine (AT.out _ HE1.out).mono ?_; rintro e w2 ⟨er, rfl, _, hb2⟩; have HP2 := Lib.hid (HP1.out.below hb2); have HB2 := Lib.hid (HB1.out.trans (hb2.mono HB1.out.size)); clear hb2) | (go_at_call 80; refine (IT.out _ HP2.out).mono ?_; rintro e w3 ⟨rfl, hb3⟩; have HB3 := Lib.hid (HB2.out.trans (hb3.mono HB2.out.size)); clear hb3) | (go_at_call 23; refine (RT.out _).mono ?_; rintro e w4 ⟨rfl, rfl⟩))
    go_ret2
    exact ⟨rfl, HB3.out⟩
end Go.Proofs.YtkahakhhdiffcaaGreatDoor
