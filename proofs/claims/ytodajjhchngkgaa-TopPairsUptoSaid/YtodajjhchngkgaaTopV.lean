/- TopPairs: values: 'New', 'Text', 'keep', 'own', 'put'. -/
import Derived.Test.YtodajjhchngkgaaBookA
import Derived.OwnWalk
import Derived.WideLaws
namespace Go.Proofs.Ytodajjhchngkgaa
set_option linter.unusedVariables false
set_option linter.unusedSimpArgs false
open Go.RowKit

/-- A value at block vb that alone has its text, at block sb. -/
structure ValAt (w : World) (vb sb : Nat) (t : Bs) (f : Value) : Prop where
  ne : vb ≠ sb
  v : w.heap[vb]? = some (.cells #[.pointer (some ⟨sb, 0, none⟩), f] 70 (0, 0))
  s : w.heap[sb]? = some (.cells #[.string ⟨t.toArray⟩, .bool true, .int .i64 1] 66 (0, 0))
theorem vcells2 {W : World} {b : Nat} {u v : Value} {t : TypeId} (h : W.heap[b]? = some (.cells #[u, v] t (0, 0))) : W.cell? ⟨b, 0, none⟩ = some u ∧ W.cell? ⟨b, 1, none⟩ = some v ∧ ∀ i, W.frozen? ⟨b, i, none⟩ = false := by
  refine ⟨?_, ?_, fun i => by simp [World.frozen?, h]⟩ <;> (simp only [World.cell?, h]; rfl)
theorem vcells3 {W : World} {b : Nat} {u v x : Value} {t : TypeId} (h : W.heap[b]? = some (.cells #[u, v, x] t (0, 0))) : W.cell? ⟨b, 0, none⟩ = some u ∧ W.cell? ⟨b, 1, none⟩ = some v ∧ W.cell? ⟨b, 2, none⟩ = some x ∧ ∀ i, W.frozen? ⟨b, i, none⟩ = false := by
  refine ⟨?_, ?_, ?_, fun i => by simp [World.frozen?, h]⟩ <;> (simp only [World.cell?, h]; rfl)
theorem ValAt.ltv {w : World} {vb sb : Nat} {t : Bs} {f : Value} (h : ValAt w vb sb t f) : vb < w.heap.size := (Array.getElem?_eq_some_iff.1 h.v).1
theorem ValAt.lts {w : World} {vb sb : Nat} {t : Bs} {f : Value} (h : ValAt w vb sb t f) : sb < w.heap.size := (Array.getElem?_eq_some_iff.1 h.s).1
theorem ValAt.kp {D : List Nat} {w w' : World} {vb sb : Nat} {t : Bs} {f : Value} (h : ValAt w vb sb t f) (k : Kp D w w') (h1 : vb ∉ D) (h2 : sb ∉ D) : ValAt w' vb sb t f :=
  ⟨h.ne, (k.block vb h.ltv h1).trans h.v, (k.block sb h.lts h2).trans h.s⟩
theorem ValAt.below {w w' : World} {vb sb : Nat} {t : Bs} {f : Value} (h : ValAt w vb sb t f) (k : Below w.heap.size w w') : ValAt w' vb sb t f := h.kp (kp_of_below k) (by simp) (by simp)
theorem vNew_any (t : Bs) (w : World) : Calls Try.prog 10 #[.string ⟨t.toArray⟩] w fun e w' => ∃ vb sb, e = .returned (.pointer (some ⟨vb, 0, none⟩)) ∧ ValAt w' vb sb t .nilIface ∧ Below w.heap.size w w' ∧ w.heap.size ≤ vb ∧ w.heap.size ≤ sb := by
  go_enter Try.func10, Try.ntmps10
  go_wp2
  go_ret
  have hb := heap_alloc_new (w.alloc (.cells #[.string ⟨t.toArray⟩, .bool true, .int .i64 1] 66)) (.cells #[.pointer (some ⟨w.heap.size, 0, none⟩), .nilIface] 70)
  have hb0 := heap_alloc_new w (.cells #[.string ⟨t.toArray⟩, .bool true, .int .i64 1] 66)
  simp only [World.size_alloc] at hb
  exact ⟨_, _, rfl, ⟨by omega, hb, (Below.heap_alloc _ _ _ (by simp)).trans hb0⟩, ((Below.refl _ w).alloc (Nat.le_refl _) _).alloc (by simp) _, by omega, Nat.le_refl _⟩
theorem vText_any {w : World} {vb sb : Nat} {t : Bs} {f : Value} (h : ValAt w vb sb t f) :
    Calls Try.prog 33 #[.pointer (some ⟨vb, 0, none⟩)] w fun e w' => e = .returned (.string ⟨t.toArray⟩) ∧ w' = w := by
  obtain ⟨c0, c1, _⟩ := vcells2 h.v
  obtain ⟨s0, s1, s2, _⟩ := vcells3 h.s
  clear h
  go_enter Try.func33, Try.ntmps33
  go_wp2
  go_ret
  exact ⟨rfl, rfl⟩
theorem vset_step {W : World} {n i : Nat} {cur : Array Value} {t : Nat} {fr : Nat × Nat} {v : Value} (h : W.heap[n]? = some (.cells cur t fr)) : (W.setCell ⟨n, i, none⟩ v).heap[n]? = some (.cells (cur.setIfInBounds i v) t fr) := by
  rw [setCell_eq_setRow W n i _ t fr v h]
  exact setRow_heap W n _ _ t fr h
theorem vset_face {w : World} {vb sb : Nat} {t : Bs} {f : Value} (h : ValAt w vb sb t f) (g : Value) : ValAt (w.setCell ⟨vb, 1, none⟩ g) vb sb t g :=
  ⟨h.ne, vset_step h.v, (Below.heap_setCell w ⟨vb, 1, none⟩ g sb h.ne.symm).trans h.s⟩
theorem vset_text {w : World} {vb sb : Nat} {t : Bs} {f : Value} (h : ValAt w vb sb t f) (u : Bs) : ValAt (w.setCell ⟨sb, 0, none⟩ (.string ⟨u.toArray⟩)) vb sb u f :=
  ⟨h.ne, (Below.heap_setCell w ⟨sb, 0, none⟩ _ vb h.ne).trans h.v, vset_step h.s⟩
theorem vkeep_any {w : World} {vb sb : Nat} {t : Bs} {f : Value} (h : ValAt w vb sb t f) (u : TypeId) (g : Value) :
    Calls Try.prog 34 #[.pointer (some ⟨vb, 0, none⟩), .iface u g] w fun e w' => e = .returned (.tuple #[]) ∧ w' = w.setCell ⟨vb, 1, none⟩ (.iface u g) := by
  have TX := Lib.hid (vText_any h)
  obtain ⟨c0, c1, fz⟩ := vcells2 h.v
  have fz1 := fz 1
  clear h fz
  go_enter Try.func34, Try.ntmps34
  go_wp2_with (go_at_call 33; refine TX.out.mono ?_; rintro e w1 ⟨rfl, rfl⟩)
  go_end0
  exact ⟨rfl, rfl⟩
theorem vown_any {w : World} {vb sb : Nat} {t : Bs} {f : Value} (h : ValAt w vb sb t f) :
    Calls Try.prog 63 #[.pointer (some ⟨vb, 0, none⟩)] w fun e w' => e = .returned (.tuple #[]) ∧ w' = w := by
  obtain ⟨c0, c1, _⟩ := vcells2 h.v
  obtain ⟨s0, s1, s2, _⟩ := vcells3 h.s
  clear h
  go_enter Try.func63, Try.ntmps63
  go_wp2
  go_end0
  exact ⟨rfl, rfl⟩
theorem vput_any {w : World} {vb sb : Nat} {t : Bs} {f : Value} (h : ValAt w vb sb t f) (x : Bs) (u : TypeId) (g : Value) :
    Calls Try.prog 55 #[.pointer (some ⟨vb, 0, none⟩), .string ⟨x.toArray⟩, .iface u g] w fun e w' => e = .returned (.tuple #[]) ∧ ValAt w' vb sb x (.iface u g) ∧ Kp [vb, sb] w w' := by
  have TX := Lib.hid (vText_any h)
  have OW := Lib.hid (vown_any h)
  have HF := Lib.hid (And.intro (vset_face (vset_text h x) (.iface u g)) ((((Kp.refl [vb, sb] w).setCell sb 0 (.string ⟨x.toArray⟩) (.inl (by simp))).setCell vb 1 (.iface u g) (.inl (by simp)))))
  obtain ⟨c0, c1, fz⟩ := vcells2 h.v
  obtain ⟨s0, s1, s2, gz⟩ := vcells3 h.s
  have fz1 := fz 1
  have gz0 := gz 0
  have hne := h.ne
  have hne2 := h.ne.symm
  have c1' : (w.setCell ⟨sb, 0, none⟩ (.string ⟨x.toArray⟩)).cell? ⟨vb, 1, none⟩ = some f := (vcells2 ((Below.heap_setCell w ⟨sb, 0, none⟩ (.string ⟨x.toArray⟩) vb hne).trans h.v)).2.1
  clear h fz gz
  go_enter Try.func55, Try.ntmps55
  go_wp2_with (first | (go_at_call 33; refine TX.out.mono ?_; rintro e w1 ⟨rfl, rfl⟩) | (go_at_call 63; refine OW.out.mono ?_; rintro e w1 ⟨rfl, rfl⟩))
  go_end0
  exact ⟨rfl, HF.out.1, HF.out.2⟩
end Go.Proofs.Ytodajjhchngkgaa
