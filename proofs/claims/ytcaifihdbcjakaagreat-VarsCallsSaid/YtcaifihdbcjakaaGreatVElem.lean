/- 'element' of a variable: an element, made if it is not there. -/
import Derived.Test.YtcaifihdbcjakaaGreatVOwn
namespace Go.Proofs.YtcaifihdbcjakaaGreat
set_option linter.unusedVariables false
set_option linter.unusedSimpArgs false
open Go.RowKit
variable {N : Nat}

theorem eq_els_nil (W : World) : (binOp .eql 76 (.map none) (.map none)).run Tryz.prog W = .ok (.bool true) W := by kernel_rfl
theorem eq_els_some (m : Nat) (W : World) : (binOp .eql 76 (.map (some m)) (.map none)).run Tryz.prog W = .ok (.bool false) W := by kernel_rfl

def newElO (c : Nat) : Obj := .cells #[.int .i64 0, .string ⟨#[]⟩, .map none, .pointer (some ⟨c, 0, none⟩), .int .i64 0] 78
/-- The state with a map of elements, and with an element more. -/
def elsS (S : St) (c e : Nat) (k : Int) (v : Bs) : St := (S.set e (.emap fun _ => none)).set c (.cell k v (some e) none)
def elS (S : St) (c e b : Nat) (f : Bs → Option Nat) (i : Bs) : St := (S.set b (.cell 0 [] none (some c))).set e (.emap fun j => if j = i then some b else f j)

/-- What 'element' gives. -/
def ElPost (S : St) (c : Nat) (k : Int) (v : Bs) (e : Option Nat) (idx : Bs) (d : Nat) (S' : St) : Prop :=
  (elOf S c idx = some d ∧ S' = S) ∨ (elOf S c idx = none ∧ ∃ e0 f S1, (S1 = S ∧ e = some e0 ∨ e = none ∧ S e0 = none ∧ S1 = elsS S c e0 k v ∧ f = fun _ => none) ∧ S1 e0 = some (.emap f) ∧ f idx = none ∧ S d = none ∧ d ≠ e0 ∧ S' = elS S1 c e0 d f idx)

def ElRes (B : Nat) (S : St) (w : World) (c : Nat) (k : Int) (v : Bs) (e : Option Nat) (idx : Bs) (en : Ending) (w' : World) : Prop :=
  ∃ d S', en = .returned (.pointer (some ⟨d, 0, none⟩)) ∧ Goes B S w S' w' ∧ ElPost S c k v e idx d S'

theorem goes_el {B : Nat} {S S1 : St} {w W : World} (hB : B ≤ w.heap.size) (hG : Goes B S w S1 W) {c e : Nat} {f : Bs → Option Nat} (he : S1 e = some (.emap f)) (idx : Bs) {w' : World} (ho : Only e (W.alloc (newElO c)) w')
    (hma : MapAt Tryz.prog 9 sv w' e (fun k' => if k' = idx then some (.pointer (some ⟨W.heap.size, 0, none⟩)) else (f k').map fun c => pv (some c))) : Goes B S w (elS S1 c e W.heap.size f idx) w' := by
  have g2 := hG.new hB (newElO c) (.cell 0 [] none (some c)) ⟨0, heap_alloc_new _ _⟩
  have hfree : S1 W.heap.size = none := hG.rep.free (Nat.le_refl _)
  refine g2.write (b := e) (k0 := .emap f) ?_ ho ?_
  · simp only [St.set]; rw [if_neg (by rintro rfl; rw [hfree] at he; cases he)]; exact he
  · have e1 : (fun k => (if k = idx then some W.heap.size else f k).map fun c => pv (some c)) = (fun k' => if k' = idx then some (.pointer (some ⟨W.heap.size, 0, none⟩)) else (f k').map fun c => pv (some c)) := by
      funext k; split <;> rfl
    show MapAt _ _ _ _ _ _
    rw [e1]
    exact hma

set_option maxRecDepth 100000 in
set_option maxHeartbeats 1600000 in
theorem element_any {B : Nat} {S : St} {w : World} (hB : B ≤ w.heap.size) (h : Rep B w S) (hwf : WF S) {c : Nat} {k : Int} {v : Bs} {e : Option Nat} (hc : S c = some (.cell k v e none)) {idx : Bs} (hw : idx.length ≤ maxLen) :
    Calls Tryz.prog 68 #[.pointer (some ⟨c, 0, none⟩), .string ⟨idx.toArray⟩] w fun en w' => ElRes B S w c k v e idx en w' := by
  obtain ⟨_, _, c2, _, _, cf⟩ := h.cell hc
  have hcl : c < w.heap.size := (h c _ hc).2.lt
  cases e with
  | none =>
    have hcmp := eq_els_nil w
    have hmk := run_makeMap (P := Tryz.prog) 76 w
    have hf2 := cf 2
    have hfree : S w.heap.size = none := h.free (Nat.le_refl _)
    have hfree1 : S (w.heap.size + 1) = none := h.free (by omega)
    have g1 := h.goes.new hB (.map #[] 0) (.emap fun _ => none) (mapAt_new _ _ _ _)
    have hce : c ≠ w.heap.size := by omega
    obtain ⟨_, n, hbc⟩ := g1.rep c (.cell k v none none) (by simp only [St.set]; rw [if_neg hce]; exact hc)
    have g2 := g1.write (b := c) (k0 := .cell k v none none) (k := .cell k v (some w.heap.size) none) (by simp only [St.set]; rw [if_neg hce]; exact hc) (only_setCell _ c 2 (.map (some w.heap.size))) ⟨n, heap_setCell_same _ _ _ _ _ _ hbc⟩
    rw [World.setCell_alloc_past _ _ _ _ hcl] at g2
    have hS1 : elsS S c w.heap.size k v w.heap.size = some (.emap fun _ => none) := by simp only [elsS, St.set]; rw [if_neg (Ne.symm hce)]; simp
    have g2' : Goes B S w (elsS S c w.heap.size k v) ((w.setCell ⟨c, 2, none⟩ (.map (some w.heap.size))).alloc (.map #[] 0)) := g2
    have hk := g2'.rep.lookEl hS1 hw
    simp only [Option.map_none] at hk
    have hc1 : ((w.setCell ⟨c, 2, none⟩ (.map (some w.heap.size))).alloc (.map #[] 0)).cell? ⟨c, 2, none⟩ = some (.map (some w.heap.size)) := (g2'.rep.cell (c := c) (k := k) (v := v) (e := some w.heap.size) (p := none) (by simp [elsS, St.set])).2.2.1
    have g3 := g2'.new hB (newElO c) (.cell 0 [] none (some c)) ⟨0, heap_alloc_new _ _⟩
    have hsz : ((w.setCell ⟨c, 2, none⟩ (.map (some w.heap.size))).alloc (.map #[] 0)).heap.size = w.heap.size + 1 := by simp
    rw [hsz] at g3
    have hS2 : ((elsS S c w.heap.size k v).set (w.heap.size + 1) (.cell 0 [] none (some c))) w.heap.size = some (.emap fun _ => none) := by
      simp only [St.set]; rw [if_neg (by omega)]; exact hS1
    have hown := (g3.rep _ _ hS2).2
    have hc3 : (((w.setCell ⟨c, 2, none⟩ (.map (some w.heap.size))).alloc (.map #[] 0)).alloc (newElO c)).cell? ⟨c, 2, none⟩ = some (.map (some w.heap.size)) := (g3.rep.cell (c := c) (k := k) (v := v) (e := some w.heap.size) (p := none) (by simp only [elsS, St.set]; rw [if_neg (by omega)]; simp)).2.2.1
    have HG := Lib.hid g2'
    have HX : Hid (elOf S c idx = none ∧ hfree = hfree) := ⟨by simp [elOf, hc], rfl⟩
    have HS1 := Lib.hid hS1
    simp only [newElO] at hown hc3
    clear g1 g2 g2' g3 hbc hS1 hS2
    go_enter Tryz.func68, Tryz.ntmps68
    go_wp2_with (at_mapUpdate; refine wpList_store rfl _ _ _ rfl Skeyed Tryz.underlying76 sv_inj hown idx (skey hw) (.pointer (some ⟨w.heap.size + 1, 0, none⟩)) rfl rfl rfl ?_; intro w' ho hma)
    go_ret
    have hfin := goes_el hB HG.out HS1.out idx (by simpa [newElO] using ho) (by rw [hsz]; exact hma)
    rw [hsz] at hfin
    exact ⟨w.heap.size + 1, _, rfl, hfin, .inr ⟨HX.out.1, w.heap.size, _, _, .inr ⟨rfl, hfree, rfl, rfl⟩, HS1.out, rfl, hfree1, by omega, rfl⟩⟩
  | some e0 =>
    obtain ⟨f, he⟩ := hwf.els hc
    have hcmp := eq_els_some e0 w
    have hk := h.lookEl he hw
    have hel : elOf S c idx = f idx := by simp [elOf, hc, he]
    have HEL := Lib.hid hel
    clear hel
    cases hf : f idx with
    | some d =>
      rw [hf] at hk
      simp only [Option.map_some] at hk
      have HG := Lib.hid h.goes
      have HR : Hid (elOf S c idx = some d) := HEL.out.trans hf
      go_enter Tryz.func68, Tryz.ntmps68
      go_wp2_with fail
      go_ret
      exact ⟨d, S, rfl, HG.out, .inl ⟨HR.out, rfl⟩⟩
    | none =>
      rw [hf] at hk
      simp only [Option.map_none] at hk
      have hfree : S w.heap.size = none := h.free (Nat.le_refl _)
      have hne : w.heap.size ≠ e0 := by rintro e1; rw [← e1, hfree] at he; cases he
      have g3 := h.goes.new hB (newElO c) (.cell 0 [] none (some c)) ⟨0, heap_alloc_new _ _⟩
      have hS2 : (S.set w.heap.size (.cell 0 [] none (some c))) e0 = some (.emap f) := by
        simp only [St.set]; rw [if_neg (Ne.symm hne)]; exact he
      have hown := (g3.rep _ _ hS2).2
      have hc3 : (w.alloc (newElO c)).cell? ⟨c, 2, none⟩ = some (.map (some e0)) := (g3.rep.cell (c := c) (k := k) (v := v) (e := some e0) (p := none) (by simp only [St.set]; rw [if_neg (by omega)]; exact hc)).2.2.1
      have HG := Lib.hid h.goes
      have HR : Hid (elOf S c idx = none) := HEL.out.trans hf
      have HE := Lib.hid he
      have HFI := Lib.hid hf
      simp only [newElO] at hown hc3
      clear g3 hS2 hf he
      go_enter Tryz.func68, Tryz.ntmps68
      go_wp2_with (at_mapUpdate; refine wpList_store rfl _ _ _ rfl Skeyed Tryz.underlying76 sv_inj hown idx (skey hw) (.pointer (some ⟨w.heap.size, 0, none⟩)) rfl rfl rfl ?_; intro w' ho hma)
      go_ret
      exact ⟨w.heap.size, _, rfl, goes_el hB HG.out HE.out idx (by simpa [newElO] using ho) hma, .inr ⟨HR.out, e0, f, S, .inl ⟨rfl, rfl⟩, HE.out, HFI.out, hfree, hne, rfl⟩⟩
end Go.Proofs.YtcaifihdbcjakaaGreat
