/- Contract of the clock's beginnings of units: Start. -/
import Derived.Test.YtmidphmniikdpaaDoorCSta3
import Derived.Test.YtmidphmniikdpaaDoorCDatesW
namespace Go.Proofs.YtmidphmniikdpaaDoor
set_option linter.unusedVariables false
set_option linter.unusedSimpArgs false
open Go.RowKit

theorem stx0 (a0 a1 a2 a3 am a5 a6 : Nat) (W : World) : (Instr.index 87 (.agg #[.func (.func 98) #[] #[.pointer (some ⟨a0, 0, none⟩)], .func (.func 98) #[] #[.pointer (some ⟨a1, 0, none⟩)], .func (.func 98) #[] #[.pointer (some ⟨a2, 0, none⟩)], .func (.func 98) #[] #[.pointer (some ⟨a3, 0, none⟩)], .func (.func 99) #[] #[.pointer (some ⟨am, 0, none⟩)], .func (.func 98) #[] #[.pointer (some ⟨a5, 0, none⟩)], .func (.func 98) #[] #[.pointer (some ⟨a6, 0, none⟩)]]) (.int .i64 0)).run Tryd.prog W = .ok (.func (.func 98) #[] #[.pointer (some ⟨a0, 0, none⟩)]) W := by kernel_rfl
theorem stx1 (a0 a1 a2 a3 am a5 a6 : Nat) (W : World) : (Instr.index 87 (.agg #[.func (.func 98) #[] #[.pointer (some ⟨a0, 0, none⟩)], .func (.func 98) #[] #[.pointer (some ⟨a1, 0, none⟩)], .func (.func 98) #[] #[.pointer (some ⟨a2, 0, none⟩)], .func (.func 98) #[] #[.pointer (some ⟨a3, 0, none⟩)], .func (.func 99) #[] #[.pointer (some ⟨am, 0, none⟩)], .func (.func 98) #[] #[.pointer (some ⟨a5, 0, none⟩)], .func (.func 98) #[] #[.pointer (some ⟨a6, 0, none⟩)]]) (.int .i64 1)).run Tryd.prog W = .ok (.func (.func 98) #[] #[.pointer (some ⟨a1, 0, none⟩)]) W := by kernel_rfl
theorem stx2 (a0 a1 a2 a3 am a5 a6 : Nat) (W : World) : (Instr.index 87 (.agg #[.func (.func 98) #[] #[.pointer (some ⟨a0, 0, none⟩)], .func (.func 98) #[] #[.pointer (some ⟨a1, 0, none⟩)], .func (.func 98) #[] #[.pointer (some ⟨a2, 0, none⟩)], .func (.func 98) #[] #[.pointer (some ⟨a3, 0, none⟩)], .func (.func 99) #[] #[.pointer (some ⟨am, 0, none⟩)], .func (.func 98) #[] #[.pointer (some ⟨a5, 0, none⟩)], .func (.func 98) #[] #[.pointer (some ⟨a6, 0, none⟩)]]) (.int .i64 2)).run Tryd.prog W = .ok (.func (.func 98) #[] #[.pointer (some ⟨a2, 0, none⟩)]) W := by kernel_rfl
theorem stx3 (a0 a1 a2 a3 am a5 a6 : Nat) (W : World) : (Instr.index 87 (.agg #[.func (.func 98) #[] #[.pointer (some ⟨a0, 0, none⟩)], .func (.func 98) #[] #[.pointer (some ⟨a1, 0, none⟩)], .func (.func 98) #[] #[.pointer (some ⟨a2, 0, none⟩)], .func (.func 98) #[] #[.pointer (some ⟨a3, 0, none⟩)], .func (.func 99) #[] #[.pointer (some ⟨am, 0, none⟩)], .func (.func 98) #[] #[.pointer (some ⟨a5, 0, none⟩)], .func (.func 98) #[] #[.pointer (some ⟨a6, 0, none⟩)]]) (.int .i64 3)).run Tryd.prog W = .ok (.func (.func 98) #[] #[.pointer (some ⟨a3, 0, none⟩)]) W := by kernel_rfl
theorem stx4 (a0 a1 a2 a3 am a5 a6 : Nat) (W : World) : (Instr.index 87 (.agg #[.func (.func 98) #[] #[.pointer (some ⟨a0, 0, none⟩)], .func (.func 98) #[] #[.pointer (some ⟨a1, 0, none⟩)], .func (.func 98) #[] #[.pointer (some ⟨a2, 0, none⟩)], .func (.func 98) #[] #[.pointer (some ⟨a3, 0, none⟩)], .func (.func 99) #[] #[.pointer (some ⟨am, 0, none⟩)], .func (.func 98) #[] #[.pointer (some ⟨a5, 0, none⟩)], .func (.func 98) #[] #[.pointer (some ⟨a6, 0, none⟩)]]) (.int .i64 4)).run Tryd.prog W = .ok (.func (.func 99) #[] #[.pointer (some ⟨am, 0, none⟩)]) W := by kernel_rfl
theorem stx5 (a0 a1 a2 a3 am a5 a6 : Nat) (W : World) : (Instr.index 87 (.agg #[.func (.func 98) #[] #[.pointer (some ⟨a0, 0, none⟩)], .func (.func 98) #[] #[.pointer (some ⟨a1, 0, none⟩)], .func (.func 98) #[] #[.pointer (some ⟨a2, 0, none⟩)], .func (.func 98) #[] #[.pointer (some ⟨a3, 0, none⟩)], .func (.func 99) #[] #[.pointer (some ⟨am, 0, none⟩)], .func (.func 98) #[] #[.pointer (some ⟨a5, 0, none⟩)], .func (.func 98) #[] #[.pointer (some ⟨a6, 0, none⟩)]]) (.int .i64 5)).run Tryd.prog W = .ok (.func (.func 98) #[] #[.pointer (some ⟨a5, 0, none⟩)]) W := by kernel_rfl
theorem stx6 (a0 a1 a2 a3 am a5 a6 : Nat) (W : World) : (Instr.index 87 (.agg #[.func (.func 98) #[] #[.pointer (some ⟨a0, 0, none⟩)], .func (.func 98) #[] #[.pointer (some ⟨a1, 0, none⟩)], .func (.func 98) #[] #[.pointer (some ⟨a2, 0, none⟩)], .func (.func 98) #[] #[.pointer (some ⟨a3, 0, none⟩)], .func (.func 99) #[] #[.pointer (some ⟨am, 0, none⟩)], .func (.func 98) #[] #[.pointer (some ⟨a5, 0, none⟩)], .func (.func 98) #[] #[.pointer (some ⟨a6, 0, none⟩)]]) (.int .i64 6)).run Tryd.prog W = .ok (.func (.func 98) #[] #[.pointer (some ⟨a6, 0, none⟩)]) W := by kernel_rfl
theorem stx_pick {u : Nat} (hu : u = 0 ∨ u = 1 ∨ u = 2 ∨ u = 3 ∨ u = 5 ∨ u = 6) {a0 a1 a2 a3 am a5 a6 : Nat} {w' : World} (h0 : w'.cell? ⟨a0, 0, none⟩ = some (.int .i64 0)) (h1 : w'.cell? ⟨a1, 0, none⟩ = some (.int .i64 1)) (h2 : w'.cell? ⟨a2, 0, none⟩ = some (.int .i64 2)) (h3 : w'.cell? ⟨a3, 0, none⟩ = some (.int .i64 3)) (h5 : w'.cell? ⟨a5, 0, none⟩ = some (.int .i64 5)) (h6 : w'.cell? ⟨a6, 0, none⟩ = some (.int .i64 6)) :
    ∃ c : Nat, (∀ W, (Instr.index 87 (.agg #[.func (.func 98) #[] #[.pointer (some ⟨a0, 0, none⟩)], .func (.func 98) #[] #[.pointer (some ⟨a1, 0, none⟩)], .func (.func 98) #[] #[.pointer (some ⟨a2, 0, none⟩)], .func (.func 98) #[] #[.pointer (some ⟨a3, 0, none⟩)], .func (.func 99) #[] #[.pointer (some ⟨am, 0, none⟩)], .func (.func 98) #[] #[.pointer (some ⟨a5, 0, none⟩)], .func (.func 98) #[] #[.pointer (some ⟨a6, 0, none⟩)]]) (.int .i64 (u : Int))).run Tryd.prog W = .ok (.func (.func 98) #[] #[.pointer (some ⟨c, 0, none⟩)]) W) ∧ w'.cell? ⟨c, 0, none⟩ = some (.int .i64 (u : Int)) := by
  rcases hu with rfl | rfl | rfl | rfl | rfl | rfl
  · exact ⟨a0, stx0 a0 a1 a2 a3 am a5 a6, h0⟩
  · exact ⟨a1, stx1 a0 a1 a2 a3 am a5 a6, h1⟩
  · exact ⟨a2, stx2 a0 a1 a2 a3 am a5 a6, h2⟩
  · exact ⟨a3, stx3 a0 a1 a2 a3 am a5 a6, h3⟩
  · exact ⟨a5, stx5 a0 a1 a2 a3 am a5 a6, h5⟩
  · exact ⟨a6, stx6 a0 a1 a2 a3 am a5 a6, h6⟩
theorem beg_any {u : Nat} (hu : u = 0 ∨ u = 1 ∨ u = 2 ∨ u = 3 ∨ u = 5 ∨ u = 6) (y m d h mi s : Int) (c : Nat) (w : World) (hc : w.cell? ⟨c, 0, none⟩ = some (.int .i64 (u : Int))) :
    Calls Tryd.prog 98 #[.agg #[.int .i64 y, .int .i64 m, .int .i64 d, .int .i64 h, .int .i64 mi, .int .i64 s], .pointer (some ⟨c, 0, none⟩)] w fun e w' => e = .returned ((⟨y, m, d, h, mi, s⟩ : DT).beg u).v ∧ Below w.heap.size w w' := by
  rcases hu with rfl | rfl | rfl | rfl | rfl | rfl
  · exact beg0_any y m d h mi s c w hc
  · exact beg1_any y m d h mi s c w hc
  · exact beg2_any y m d h mi s c w hc
  · exact beg3_any y m d h mi s c w hc
  · exact beg5_any y m d h mi s c w hc
  · exact beg6_any y m d h mi s c w hc
theorem Start_err (t : Int) (s : Bs) (e : Int) (h : (validI t = false ∧ e = 7) ∨ (validI t = true ∧ unitC s = none ∧ e = 5)) (w : World) :
    Calls Tryd.prog 36 #[.int .i64 t, .string ⟨s.toArray⟩] w fun e' w' => e' = .returned (.tuple #[.int .i64 0, .int .i64 e]) ∧ Below w.heap.size w w' := by
  have HK := Lib.hid (fun b cap W hc => asked1 s t b cap W hc)
  rw [askedC_one] at HK
  have HB := Lib.hid (below_alloc1 w (.cells #[.int .i64 t] 3))
  have hc1 := cells1_new w (.int .i64 t) 3
  rcases h with ⟨hv, rfl⟩ | ⟨hv, hu, rfl⟩
  · rw [if_neg (by rw [hv]; exact Bool.false_ne_true)] at HK
    clear hv
    go_enter Tryd.func36, Tryd.ntmps36
    go_wp2_with (go_at_call 64; refine (HK.out _ _ _ ?_).mono ?_; exact hc1; rintro e w1 ⟨rfl, rfl⟩)
    go_ret2
    exact ⟨by first | done | rfl, HB.out⟩
  · rw [if_pos hv, hu] at HK
    clear hv hu
    go_enter Tryd.func36, Tryd.ntmps36
    go_wp2_with (go_at_call 64; refine (HK.out _ _ _ ?_).mono ?_; exact hc1; rintro e w1 ⟨rfl, rfl⟩)
    go_ret2
    exact ⟨by first | done | rfl, HB.out⟩
set_option maxRecDepth 100000 in
theorem dates_neq (y m d h mi s y' m' d' h' mi' s' : Int) (hne : ¬ (⟨y, m, d, h, mi, s⟩ : DT) = ⟨y', m', d', h', mi', s'⟩) (W : World) :
    (binOp .eql 30 (.agg #[.int .i64 y, .int .i64 m, .int .i64 d, .int .i64 h, .int .i64 mi, .int .i64 s]) (.agg #[.int .i64 y', .int .i64 m', .int .i64 d', .int .i64 h', .int .i64 mi', .int .i64 s'])).run Tryd.prog W = .ok (.bool false) W := by
  by_cases h0 : y = y'
  · by_cases h1 : m = m'
    · by_cases h2 : d = d'
      · by_cases h3 : h = h'
        · by_cases h4 : mi = mi'
          · by_cases h5 : s = s'
            · exact absurd (by rw [h0, h1, h2, h3, h4, h5]) hne
            · have b : (s == s') = false := beq_eq_false_iff_ne.2 h5
              subst h0 h1 h2 h3 h4
              go_simp
          · have b : (mi == mi') = false := beq_eq_false_iff_ne.2 h4
            subst h0 h1 h2 h3
            go_simp
        · have b : (h == h') = false := beq_eq_false_iff_ne.2 h3
          subst h0 h1 h2
          go_simp
      · have b : (d == d') = false := beq_eq_false_iff_ne.2 h2
        subst h0 h1
        go_simp
    · have b : (m == m') = false := beq_eq_false_iff_ne.2 h1
      subst h0
      go_simp
  · have b : (y == y') = false := beq_eq_false_iff_ne.2 h0
    go_simp
theorem blk_carry {W W' : World} {g : Nat} {o : Obj} (hb : Below W.heap.size W W') (h : W.heap[g]? = some o) : W'.heap[g]? = some o := by
  have hl : g < W.heap.size := by
    rcases Nat.lt_or_ge g W.heap.size with h1 | h1
    · exact h1
    · rw [Array.getElem?_eq_none h1] at h; cases h
  exact (hb.block g hl).trans h
theorem cell_rule {W W' : World} (h : Below W.heap.size W W') : ∀ a, (W.cell? a).isSome = true → W'.cell? a = W.cell? a := fun a ha => by
  obtain ⟨v, hv⟩ := Option.isSome_iff_exists.1 ha
  exact h.cell (cell_lt hv)
theorem frozen_rule {W W' : World} (h : Below W.heap.size W W') : ∀ a, (W.cell? a).isSome = true → W'.frozen? a = W.frozen? a := fun a ha => by
  obtain ⟨v, hv⟩ := Option.isSome_iff_exists.1 ha
  exact h.frozen (cell_lt hv)
end Go.Proofs.YtmidphmniikdpaaDoor
