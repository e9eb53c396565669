/- The reference's space, just made: Push and Room. -/
import Derived.Test.YtcaifihdbcjakaaGreatVR3
import Derived.Deep.RegionLaw
namespace Go.Proofs.YtcaifihdbcjakaaGreat
set_option linter.unusedVariables false
set_option linter.unusedSimpArgs false
open Go.RowKit

theorem infoPS : (Tryz.prog.info? 57).map (fun i => (i.zero, i.size, i.bytes)) = some (some (.pointer none), 1, 8) := by kernel_rfl

theorem row_owns {w : World} {y row sc : Nat} {nv : Value} (h : Sc w y row sc nv) : w.ownsRow 0 57 1 (.slice (some ⟨row, 0, none⟩) 1 1) 1 [.pointer (some ⟨sc, 0, none⟩)] :=
  ⟨rfl, .inr ⟨row, 1, _, rfl, Nat.zero_le _, h.ro, Nat.le_refl _, by decide, rfl, rfl⟩⟩

theorem scope_pushed {w w1 : World} {y row sc : Nat} {nv : Value} {o1 : Obj} (h : Sc w y row sc nv) (hg : Kp (Value.slice (some ⟨row, 0, none⟩) 1 1).ownBlock.toList (w.alloc o1) w1) : Kp [y, row] w w1 ∧ w1.cell? ⟨y, 0, none⟩ = some (.slice (some ⟨row, 0, none⟩) 1 1) ∧ w1.cell? ⟨y, 1, none⟩ = some nilS ∧ (∀ i, w1.frozen? ⟨y, i, none⟩ = false) ∧ y < w1.heap.size ∧ w1.heap[y]? = some (.cells #[.slice (some ⟨row, 0, none⟩) 1 1, .slice none 0 0] 63 (0, 0)) := by
  have hk : Kp [row] w w1 := ((Kp.refl _ w).alloc o1).trans hg (by simp [Value.ownBlock])
  have hy := hk.block y h.lt.1 (by simpa using h.ne.1)
  have hsp := hy.trans h.sp
  refine ⟨hk.mono (by simp), ?_, ?_, fun i => ?_, Nat.lt_of_lt_of_le h.lt.1 hk.size, hsp⟩
  · simp only [World.cell?, hsp]; rfl
  · simp only [World.cell?, hsp]; rfl
  · simp [World.frozen?, hsp]

def IntKp (D : List Nat) (w : World) (e : Ending) (w' : World) : Prop := (∃ i : Int, e = .returned (.int .i64 i)) ∧ Kp D w w'

set_option maxRecDepth 100000 in
set_option maxHeartbeats 1600000 in
theorem rPush_any {w : World} {y row sc : Nat} {nv : Value} (h : Sc w y row sc nv) :
    Calls Tryz.prog 20 #[.pointer (some ⟨y, 0, none⟩)] w fun e w' => IntKp [y, row] w e w' := by
  obtain ⟨j0, hj0, gz0, gz1, gz2⟩ := info_parts infoInt
  obtain ⟨y0, y1, _, _, _, _, _, yf, _⟩ := h.cells
  have hown := row_owns h
  have HS := Lib.hid h
  have hyl := h.lt.1
  have hyr := h.ne.1
  have yf0 := yf 0
  clear h
  go_enter Tryz.func20, Tryz.ntmps20
  go_wp2_with (at_builtin; refine wpList_push1 rfl _ _ 61 rfl 0 57 (.pointer none) 8 Tryz.underlying61 infoPS rfl (.slice (some ⟨row, 0, none⟩) 1 1) 1 [.pointer (some ⟨sc, 0, none⟩)] rfl (hown.alloc _) (.pointer (some ⟨w.heap.size, 0, none⟩)) (w.heap.size + 1) (by simp) rfl rfl (by decide) (by decide) (by simp) ?_; intro g cap w1 _ hown1 hk1 hlc; clear hlc; obtain ⟨hK, p0, p1, pf, hy1, pb⟩ := scope_pushed HS.out hk1; have pf0 := pf 0; have pf1 := pf 1; have HK := Lib.hid hK; clear hown1 hk1 hK pf)
  obtain ⟨w2, hw2⟩ : ∃ w2, w2 = w1.setCell ⟨y, 0, none⟩ (.slice (some ⟨g, 0, none⟩) 2 cap) := ⟨_, rfl⟩
  rw [← hw2]
  obtain ⟨HK2, q0, q1, qf, hy2⟩ : Hid (Kp [y, row] w w2) ∧ w2.cell? ⟨y, 0, none⟩ = some (.slice (some ⟨g, 0, none⟩) 2 cap) ∧ w2.cell? ⟨y, 1, none⟩ = some nilS ∧ w2.frozen? ⟨y, 1, none⟩ = false ∧ y < w2.heap.size := by
    subst hw2
    have hb := heap_setCell_same _ _ 0 _ _ (.slice (some ⟨g, 0, none⟩) 2 cap) pb
    refine ⟨HK.out.setCell _ _ _ (by simp), ?_, ?_, ?_, by simpa [World.setCell] using hy1⟩
    · simp only [World.cell?, hb]; rfl
    · simp only [World.cell?, hb]; rfl
    · simp [World.frozen?, hb]
  have hwr : IntKind.i64.wrap 1 = 1 := by decide
  clear hw2 p0 p1 pf0 pf1 pb HK
  go_region_law ((refine step_append_lies _ (by rfl) _ _ _ (by rfl) 0 3 j0 (.int .i64 0) 1 8 Tryz.underlying49 hj0 gz0 gz1 gz2 rfl (by omega) (.slice none 0 0) 0 [] (by rfl) (World.ownsRow_nil _ _ _ _) ⟨w2.heap.size, 0, none⟩ 1 1 [.int .i64 1] (by rfl) (by rfl) (fun j u hj => cell_one_new w2 _ _ j u hj) (by simp [Value.oneCell']) (by omega) (by decide) (by decide) (by simp) (w2.heap.size + 1) (by simp) ?_; intro gg cap1 w3 hown3 hgrow hat hlt; have hB3 : Below w2.heap.size w2 w3 := ((Below.refl w2.heap.size w2).alloc (Nat.le_refl _) (.cells #[.int .i64 1] 3)).drew.grown hgrow (by simp) (by simp [Value.ownBlock]); have qf3 : w3.frozen? ⟨y, 1, none⟩ = false := (hB3.frozen hy2).trans qf; have hs0 : w3.cell? ⟨y, 0, none⟩ = some (.slice (some ⟨g, 0, none⟩) 2 cap) := (hB3.cell hy2).trans q0; have hs1 : w3.cell? ⟨y, 1, none⟩ = some (.slice none 0 0) := (hB3.cell hy2).trans q1))
  all_goals
    go_wp2_with fail
    go_ret
    exact ⟨⟨_, rfl⟩, (HK2.out.trans (D' := []) (kp_of_below hB3) (by simp)).setCell _ _ _ (by simp)⟩

set_option maxRecDepth 100000 in
set_option maxHeartbeats 1600000 in
theorem rRoom_any {w : World} {y row sc : Nat} {nv : Value} (h : Sc w y row sc nv) (room : Bs) :
    Calls Tryz.prog 23 #[.pointer (some ⟨y, 0, none⟩), .string ⟨room.toArray⟩] w fun e w' => IntKp [y, row] w e w' := by
  obtain ⟨y0, y1, r0, _, _, _, _, yf, _⟩ := h.cells
  have hown := row_owns h
  have HS := Lib.hid h
  have hyl := h.lt.1
  have hyr := h.ne.1
  have yf0 := yf 0
  clear h
  by_cases hr : room = []
  · subst hr
    go_enter Tryz.func23, Tryz.ntmps23
    go_wp2_with fail
    go_ret
    exact ⟨⟨_, rfl⟩, Kp.refl _ _⟩
  · have t1 : decide (room = []) = false := by simpa using hr
    have t2 : room.isEmpty = false := by simpa using hr
    have HW : Hid (∀ g cap w1, Kp (Value.slice (some ⟨row, 0, none⟩) 1 1).ownBlock.toList (w.alloc (.cells #[.slice none 0 0, .bool false, .string ⟨room.toArray⟩, .bool false] 60)) w1 → IntKp [y, row] w (.returned (.int .i64 1)) (w1.setCell ⟨y, 0, none⟩ (.slice (some ⟨g, 0, none⟩) 2 cap))) := by
      intro g cap w1 hk
      obtain ⟨hK, _⟩ := scope_pushed HS.out hk
      exact ⟨⟨_, rfl⟩, hK.setCell _ _ _ (by simp)⟩
    go_enter Tryz.func23, Tryz.ntmps23
    go_wp2_with fail
    go_loop [18] (fun i => i = .int .i64 0 ∨ i = .int .i64 1) (fun i => 1 - (intOf i).toNat)
    case atStart => exact .inl rfl
    case round =>
      rcases hrel with rfl | rfl
      · go_wp2_with fail
        exact ⟨.inr rfl, by simp [intOf]⟩
      · go_wp2_with (at_builtin; refine wpList_push1 rfl _ _ 61 rfl 0 57 (.pointer none) 8 Tryz.underlying61 infoPS rfl (.slice (some ⟨row, 0, none⟩) 1 1) 1 [.pointer (some ⟨sc, 0, none⟩)] rfl (hown.alloc _) (.pointer (some ⟨w.heap.size, 0, none⟩)) (w.heap.size + 1) (by simp) rfl rfl (by decide) (by decide) (by simp) ?_; intro g cap w1 _ hown1 hk1 hlc; clear hlc; obtain ⟨hK, p0, p1, pf, hy1⟩ := scope_pushed HS.out hk1; have pf0 := pf 0; have pf1 := pf 1; have HK := Lib.hid hk1; clear hown1 hk1 hK pf)
        go_ret
        exact HW.out g cap w1 HK.out
end Go.Proofs.YtcaifihdbcjakaaGreat
