/- 'begin', 'Push', 'Pop', 'Room', 'Scope' of a space of variables. -/
import Derived.Test.YtcaifihdbcjakaaGreatVSet
import Derived.Deep.RegionHeld3
namespace Go.Proofs.YtcaifihdbcjakaaGreat
set_option linter.unusedVariables false
set_option linter.unusedSimpArgs false
open Go.RowKit
variable {N : Nat}

theorem wf_wrap (n : Int) : (Lit.int .i64 (IntKind.i64.wrap n)).wf = true := by
  have h : -9223372036854775808 ≤ IntKind.i64.wrap n ∧ IntKind.i64.wrap n ≤ 9223372036854775807 := by
    have e : IntKind.i64.wrap n = if n % 18446744073709551616 ≥ 9223372036854775808 then n % 18446744073709551616 - 18446744073709551616 else n % 18446744073709551616 := by
      simp [IntKind.wrap, IntKind.bits, IntKind.signed]
    rw [e]
    by_cases h : n % 18446744073709551616 ≥ 9223372036854775808
    · rw [if_pos h]; omega
    · rw [if_neg h]; omega
  simp only [Lit.wf, Bool.and_eq_true, decide_eq_true_eq]
  exact h

set_option maxRecDepth 100000 in
set_option maxHeartbeats 1600000 in
theorem begin_any {B : Nat} {S : St} {w : World} (hB : B ≤ w.heap.size) (h : Rep B w S) {x sm : Nat} {g : Int → Option Nat} (hp : Sp N S x sm g) :
    Calls Tryz.prog 34 #[.pointer (some ⟨x, 0, none⟩)] w fun en w' => ∃ i S' m, en = .returned (.int .i64 i) ∧ (Lit.int .i64 i).wf = true ∧ Goes B S w S' w' ∧ Sp N S' x sm (fun j => if j = i then some m else g j) := by
  obtain ⟨cs, rm, r, hx, hrm, hcs⟩ := hp.space
  obtain ⟨x0, _, _, ⟨n, x3⟩, xf⟩ := h.space hx
  have hf3 := xf 3
  have hmk := fun W => run_makeMap (P := Tryz.prog) 46 W
  obtain ⟨n1, hn1⟩ : ∃ n1, IntKind.i64.wrap (n + 1) = n1 := ⟨_, rfl⟩
  have hwf := wf_wrap (n + 1)
  rw [hn1] at hwf
  have HWF := Lib.hid hwf
  have hsm := hp.smap
  have g1 : Goes B S w S (w.setCell ⟨x, 3, none⟩ (.int .i64 n1)) := by
    obtain ⟨_, n', hbx⟩ := h x _ hx
    have := h.goes.write (w'' := w.setCell ⟨x, 3, none⟩ (.int .i64 n1)) (k := .space sm cs rm) hx (only_setCell _ _ _ _) ⟨n1, heap_setCell_same _ _ _ _ _ _ hbx⟩
    rwa [St.set_same hx] at this
  obtain ⟨y0, _, _, _, _⟩ := g1.rep.space hx
  have y3 : (w.setCell ⟨x, 3, none⟩ (.int .i64 n1)).cell? ⟨x, 3, none⟩ = some (.int .i64 n1) := World.cell?_setCell_same _ _ _ x3
  have hfree : S (w.setCell ⟨x, 3, none⟩ (.int .i64 n1)).heap.size = none := g1.rep.free (Nat.le_refl _)
  have g3 := (g1.new hB (.map #[] 0) (.nmap fun _ => none) (mapAt_new _ _ _ _)).drew
  have hm3 : (S.set (w.setCell ⟨x, 3, none⟩ (.int .i64 n1)).heap.size (.nmap fun _ => none)) sm = some (.smap g) := by grind
  have hxs3 : (S.set (w.setCell ⟨x, 3, none⟩ (.int .i64 n1)).heap.size (.nmap fun _ => none)) x = some (.space sm cs rm) := by grind
  have hxsm : x ≠ sm := by rintro rfl; rw [hx] at hsm; cases hsm
  obtain ⟨w2, hrun, ho, hma⟩ := MapAt.store (g3.rep sm _ hm3).2 Ikeyed (t := 47) (et := 46) Tryz.underlying47 iv_inj (ikey hwf) (.map (some (w.setCell ⟨x, 3, none⟩ (.int .i64 n1)).heap.size))
  have g4 := g3.write (k := .smap fun j => if j = n1 then some (w.setCell ⟨x, 3, none⟩ (.int .i64 n1)).heap.size else g j) hm3 ho (by
    show MapAt _ _ _ _ _ _
    rw [show (fun i => (if i = n1 then some (w.setCell ⟨x, 3, none⟩ (.int .i64 n1)).heap.size else g i).map fun m => mv (some m)) = (fun k' => if k' = n1 then some (.map (some (w.setCell ⟨x, 3, none⟩ (.int .i64 n1)).heap.size)) else (g k').map fun m => mv (some m)) from by funext k; split <;> rfl]
    exact hma)
  have hg4x : ((S.set (w.setCell ⟨x, 3, none⟩ (.int .i64 n1)).heap.size (.nmap fun _ => none)).set sm (.smap fun j => if j = n1 then some (w.setCell ⟨x, 3, none⟩ (.int .i64 n1)).heap.size else g j)) x = some (.space sm cs rm) := by grind
  obtain ⟨z0, _, _, _, _⟩ := g4.rep.space hg4x
  have z3 : w2.cell? ⟨x, 3, none⟩ = some (.int .i64 n1) := by
    have e1 : w2.heap[x]? = (w.setCell ⟨x, 3, none⟩ (.int .i64 n1)).heap[x]? := by
      rw [ho.block x hxsm]
      exact (MapKept.heap_alloc _ _).2 x (g1.rep x _ hx).2.lt
    have y3' := y3
    simp only [World.cell?] at y3' ⊢
    rw [e1]; exact y3'
  have hwf1 := hp.wf.newNames hfree
  have hwf2 := hwf1.bind (m0 := (w.setCell ⟨x, 3, none⟩ (.int .i64 n1)).heap.size) (f0 := fun _ => none) n1 hm3 (by simp [St.set]) (fun i hi => by obtain ⟨f, hf⟩ := hp.wf.scope hsm hi; rw [hfree] at hf; cases hf)
  have hSP : Sp N ((S.set (w.setCell ⟨x, 3, none⟩ (.int .i64 n1)).heap.size (.nmap fun _ => none)).set sm (.smap fun j => if j = n1 then some (w.setCell ⟨x, 3, none⟩ (.int .i64 n1)).heap.size else g j)) x sm (fun j => if j = n1 then some (w.setCell ⟨x, 3, none⟩ (.int .i64 n1)).heap.size else g j) := by
    refine ⟨hwf2, by grind, cs, rm, r, by grind, by grind, fun b n c e1 => ?_⟩
    obtain ⟨h4, l, h5, h6⟩ := hcs b n c e1
    exact ⟨h4, l, by grind, h6⟩
  have HSP := Lib.hid hSP
  have HG4 := Lib.hid g4
  rw [show (Value.int IntKind.i64 n1) = iv n1 from rfl] at hrun
  have hrun' : (Instr.mapUpdate 47 (.map (some sm)) (.int .i64 n1) (.map (some (w.setCell ⟨x, 3, none⟩ (.int .i64 n1)).heap.size))).run Tryz.prog ((w.setCell ⟨x, 3, none⟩ (.int .i64 n1)).alloc (.map #[] 0)).drew = .ok () w2 := hrun
  clear hwf hwf1 hwf2 hSP g1 g3 g4 hg4x hxs3 hm3 hma ho hrun hcs
  go_enter Tryz.func34, Tryz.ntmps34
  go_wp2_with fail
  generalize hw1 : w.setCell ⟨x, 3, none⟩ (.int .i64 n1) = w1 at *
  go_region_held3 (fun w' => w'.cell? ⟨x, 0, none⟩ = some (.map (some sm)) ∧ w'.cell? ⟨x, 3, none⟩ = some (.int .i64 n1)) (first | go_keep) (fail)
  go_wp2_with fail
  go_ret
  exact ⟨n1, _, w1.heap.size, rfl, HWF.out, HG4.out, HSP.out⟩
end Go.Proofs.YtcaifihdbcjakaaGreat
