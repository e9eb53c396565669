/- The reader of scripts: within, Scripts, Count, Literal over one command of texts. The reader of scripts: Scripts and Count over one command of texts. -/
import Derived.Test.YteojlmpipfajoaaGreatDoorTwHm
namespace Go.Proofs.YteojlmpipfajoaaGreatDoor
set_option linter.unusedVariables false
set_option linter.unusedSimpArgs false
open Go.RowKit
theorem within_nil (w : World) : Calls Tryz.prog 52 #[.slice none 0 0] w fun e w' => e = .returned (.slice none 0 0) ∧ w' = w := by
  go_enter Tryz.func52, Tryz.ntmps52
  go_wp2_with fail
  go_loopg [3, 5, 8] 0 (fun g a _ i wr => a = .slice none 0 0 ∧ i = .int .i64 0 ∧ wr = w)
  case atStart => exact ⟨rfl, rfl, rfl⟩
  case round =>
    obtain ⟨rfl, rfl, rfl⟩ := hrel
    go_wp2_with fail
    go_ret
    exact ⟨rfl, rfl⟩
theorem within_one {v : Value} {x : Bs} {w : World} (h : TokAt w v x) : Calls Tryz.prog 52 #[v] w fun e w' => e = .returned (.slice none 0 0) ∧ Below w.heap.size w w' := by
  obtain ⟨g, c, rfl, -, h3, h4, h5, h6, h7⟩ := h.ex
  go_enter Tryz.func52, Tryz.ntmps52
  go_wp2_with fail
  go_loopg [3, 5, 8] 1 (fun g a _ i wr => a = .slice none 0 0 ∧ ((g = 1 ∧ i = .int .i64 0 ∧ wr = w) ∨ (g = 0 ∧ i = .int .i64 1 ∧ Below w.heap.size w wr)))
  case atStart => exact ⟨rfl, .inl ⟨rfl, rfl, rfl⟩⟩
  case round =>
    obtain ⟨rfl, ⟨rfl, rfl, rfl⟩ | ⟨rfl, rfl, hb⟩⟩ := hrel
    · go_wp2_with (go_at_call 52; refine (within_nil _).mono ?_; rintro e w2 ⟨rfl, rfl⟩)
      go_roundg 0
      case measure => omega
      case rel => exact ⟨rfl, .inr ⟨rfl, rfl, (Below.refl _ _).alloc (Nat.le_refl _) _⟩⟩
    · go_wp2_with fail
      go_ret
      exact ⟨rfl, hb⟩
theorem litW_any {v : Value} {x : Bs} {w : World} (h : TokAt w v x) : Calls Tryz.prog 11 #[.agg #[.bool false, v]] w fun e w' => e = .returned (.tuple #[.string ⟨x.toArray⟩, .bool true]) ∧ Below w.heap.size w w' := by
  have hA := (Below.refl w.heap.size w).alloc (Nat.le_refl _) (.cells #[.bool false, v] 41)
  obtain ⟨g, c, rfl, -, h3, h4, h5, h6, h7⟩ := (h.below hA).ex
  clear h3 h
  go_enter Tryz.func11, Tryz.ntmps11
  go_wp2_with fail
  go_ret2
  exact ⟨rfl, hA⟩
/-- One command as it lies. -/
structure CmC (w : World) (g c : Nat) (i0 : Int) (gv cv : Nat) (ts : List Value) (l : List Bs) : Prop where
  len : ts.length = l.length
  g0 : g < w.heap.size
  c0 : w.cell? ⟨g, 0, none⟩ = some (.int .i64 i0)
  c1 : w.cell? ⟨g, 1, none⟩ = some (.slice (some ⟨gv, 0, none⟩) l.length cv)
  v0 : gv < w.heap.size
  cell : ∀ j (h : j < ts.length), w.cell? ⟨gv, j * 2, none⟩ = some (.bool false) ∧ w.cell? ⟨gv, j * 2 + 1, none⟩ = some ts[j]
  tok : ∀ j (h : j < ts.length) (h2 : j < l.length), TokAt w ts[j] l[j]
theorem CmdsAt.at {w : World} {lo : Nat} {v : Value} {l : List Bs} (h : CmdsAt w lo v l) (hl : l ≠ []) : ∃ g c i0 gv cv ts, v = .slice (some ⟨g, 0, none⟩) 1 c ∧ CmC w g c i0 gv cv ts l := by
  obtain ⟨g, c, V, ts, B, i0, -, -, rfl, h3, h4, h5, h6⟩ := h.ex
  obtain ⟨hlen, hrow, htok⟩ := h6
  have hlp : 0 < l.length := List.length_pos_iff.2 hl
  obtain ⟨gv, cv, rfl, hgv⟩ : ∃ gv cv, V = .slice (some ⟨gv, 0, none⟩) l.length cv ∧ gv < w.heap.size := by
    rcases hrow.2 with ⟨_, hn⟩ | ⟨gv, cap, cur, hV, _, hh, _⟩
    · omega
    · exact ⟨gv, cap, hV, (Array.getElem?_eq_some_iff.1 hh).1⟩
  refine ⟨g, c, i0, gv, cv, ts, rfl, hlen, h3, h4, h5, hgv, fun j hj => ?_, fun j hj h2 => (htok j hj h2).1⟩
  have := flatW_get ts j hj
  rw [Nat.mul_comm] at this
  exact ⟨(hrow.cellAt (j * 2) (by omega)).trans this.1, (hrow.cellAt (j * 2 + 1) (by omega)).trans this.2⟩
theorem CmC.below {w w' : World} {g c gv cv : Nat} {i0 : Int} {ts : List Value} {l : List Bs} (h : CmC w g c i0 gv cv ts l) (hb : Below w.heap.size w w') : CmC w' g c i0 gv cv ts l :=
  ⟨h.len, Nat.lt_of_lt_of_le h.g0 hb.size, (hb.cell (p := ⟨g, 0, none⟩) h.g0).trans h.c0, (hb.cell (p := ⟨g, 1, none⟩) h.g0).trans h.c1, Nat.lt_of_lt_of_le h.v0 hb.size,
    fun j hj => ⟨(hb.cell (p := ⟨gv, j * 2, none⟩) h.v0).trans (h.cell j hj).1, (hb.cell (p := ⟨gv, j * 2 + 1, none⟩) h.v0).trans (h.cell j hj).2⟩, fun j hj h2 => (h.tok j hj h2).below hb⟩
end Go.Proofs.YteojlmpipfajoaaGreatDoor
namespace Go.Proofs.YteojlmpipfajoaaGreatDoor
set_option linter.unusedVariables false
set_option linter.unusedSimpArgs false
open Go.RowKit
section
variable {g c gv cv : Nat} {i0 : Int} {ts : List Value} {l : List Bs}
set_option maxRecDepth 100000 in
theorem scripts_any {w : World} (h : CmC w g c i0 gv cv ts l) (hl : l.length ≤ 100000) : Calls Tryz.prog 29 #[.slice (some ⟨g, 0, none⟩) 1 c] w fun e w' => e = .returned (.slice none 0 0) ∧ Below w.heap.size w w' := by
  have hg0 := h.g0
  have c0 := h.c0
  have c1 := h.c1
  have HC : Hid (∀ W, Below w.heap.size w W → CmC W g c i0 gv cv ts l) := fun W hb => h.below hb
  have hlen := h.len
  clear h
  go_enter Tryz.func29, Tryz.ntmps29
  go_wp2_with fail
  go_loopg [3, 5, 7, 10] 1 (fun q a _ _ i wr => a = .slice none 0 0 ∧ ((q = 1 ∧ i = .int .i64 0 ∧ wr = w) ∨ (q = 0 ∧ i = .int .i64 1 ∧ Below w.heap.size w wr)))
  case atStart => exact ⟨rfl, .inl ⟨rfl, rfl, rfl⟩⟩
  case round =>
    obtain ⟨rfl, ⟨rfl, rfl, rfl⟩ | ⟨rfl, rfl, hb⟩⟩ := hrel
    · go_wp2_with fail
      have hA := (Below.refl wr.heap.size wr).alloc (Nat.le_refl _) (.cells #[.int .i64 i0, .slice (some ⟨gv, 0, none⟩) l.length cv] 34)
      go_loopg [3, 7, 17] l.length (fun q a _ i wq => ∃ k : Nat, k + q = l.length ∧ a = .slice none 0 0 ∧ i = .int .i64 (k : Int) ∧ Below wr.heap.size wr wq)
      case atStart => exact ⟨0, by omega, rfl, rfl, hA⟩
      case round =>
        obtain ⟨k, hk, rfl, rfl, hb⟩ := hrel
        clear c0 c1 hA
        by_cases hlt : k < l.length
        · have tl : decide ((k : Int) < (l.length : Int)) = true := by simp; omega
          have C := HC.out _ hb
          obtain ⟨d0, d1⟩ := C.cell k (by omega)
          have hT := C.tok k (by omega) hlt
          clear C
          obtain ⟨gt, ct, ht, -⟩ := hT.ex
          rw [ht] at d1 hT
          clear ht
          go_wp2_with (first | (go_at_call 52; refine (within_one (hT.below ((Below.refl _ _).alloc (Nat.le_refl _) _))).mono ?_; rintro e w2 ⟨rfl, hb2⟩))
          go_roundg (l.length - (k + 1))
          case measure => omega
          case rel => exact ⟨k + 1, by omega, rfl, by push_cast; rfl, (hb.alloc hb.size _).trans (hb2.mono (Nat.le_trans hb.size (by simp)))⟩
        · have tl : decide ((k : Int) < (l.length : Int)) = false := by simp; omega
          go_wp2_with fail
          go_roundg 0
          case measure => omega
          case rel => exact ⟨rfl, .inr ⟨rfl, rfl, hb⟩⟩
    · go_wp2_with fail
      go_ret
      exact ⟨rfl, hb⟩
theorem count_any {w : World} (h : CmC w g c i0 gv cv ts l) (hl : l.length ≤ 100000) : Calls Tryz.prog 10 #[.slice (some ⟨g, 0, none⟩) 1 c] w fun e w' => e = .returned (.int .i64 1) ∧ Below w.heap.size w w' := by
  have SC := Lib.hid (scripts_any h hl)
  clear h hl
  go_enter Tryz.func10, Tryz.ntmps10
  go_wp2_with (go_at_call 29; refine SC.out.mono ?_; rintro e w1 ⟨rfl, hb⟩)
  go_loopg [3, 5, 6, 7, 8, 14] 0 (fun q a _ _ _ _ i wr => a = .int .i64 1 ∧ i = .int .i64 0 ∧ Below w.heap.size w wr)
  case atStart => exact ⟨rfl, rfl, hb⟩
  case round =>
    obtain ⟨rfl, rfl, hb⟩ := hrel
    go_wp2_with fail
    go_ret
    exact ⟨rfl, hb⟩
end
end Go.Proofs.YteojlmpipfajoaaGreatDoor
