/- The two entries and the two stores of 'add', in either order of the entries. -/
import Derived.Test.YtbbbenjakjejmaaTbEntry
namespace Go.Proofs.Ytbbbenjakjejmaa
set_option linter.unusedVariables false
set_option linter.unusedSimpArgs false
open Go.RowKit Go.MapKept Go.WideMaps
open Go.ChangeMaps (setBlock)
section
variable {w w' : World} {B tb mn mh mk : Nat} {who : Own} {cb : Nat → Nat} {S : TS}
theorem setBlock_twice (w : World) (a : Nat) (o p : Obj) : setBlock (setBlock w a o) a p = setBlock w a p := by
  unfold setBlock
  simp only
  congr 1
  simp
/-- The cells that the assignment reads. -/
def Rd (W : World) (tb mn mk nb n : Nat) : Prop := W.cell? ⟨tb, 0, none⟩ = some (.map (some mn)) ∧ W.cell? ⟨tb, 2, none⟩ = some (.map (some mk)) ∧ W.cell? ⟨nb, 0, none⟩ = some (.int .i64 (n : Int))
theorem entry_facts (h : Tb w B tb mn mh mk who cb S) {n : Nat} {c : Cm} {name : Bs} (hat : CmAt w B who cb n c) (hl : name.length ≤ 100000) (hn : n ≤ 1000000) (h1 : S.nm false name = none) (h2 : S.cm n = none) (hw : (Lit.int .i64 (n : Int)).wf = true) :
    ∃ (s1 s2 : Nat) (wA wB wC wE wF w6 : World),
      (Instr.mapEntry 54 (.map (some mn)) (.string ⟨name.toArray⟩)).run Try.prog w = .ok (.tuple #[.pointer none, .int .i64 (s1 : Int)]) wA ∧
      (Instr.mapEntry 55 (.map (some mk)) (.int .i64 (n : Int))).run Try.prog w = .ok (.tuple #[.pointer none, .int .i64 (s2 : Int)]) wB ∧
      (Instr.mapEntry 55 (.map (some mk)) (.int .i64 (n : Int))).run Try.prog wA = .ok (.tuple #[.pointer none, .int .i64 (s2 : Int)]) wE ∧
      (Instr.mapEntry 54 (.map (some mn)) (.string ⟨name.toArray⟩)).run Try.prog wB = .ok (.tuple #[.pointer none, .int .i64 (s1 : Int)]) wE ∧
      (Instr.entryStore 54 (.map (some mn)) (.int .i64 (s1 : Int)) (.pointer (some ⟨cb n, 0, none⟩))).run Try.prog wE = .ok () wF ∧
      (Instr.entryStore 55 (.map (some mk)) (.int .i64 (s2 : Int)) (.pointer (some ⟨cb n, 0, none⟩))).run Try.prog wF = .ok () w6 ∧
      (Instr.entryStore 54 (.map (some mn)) (.int .i64 (s1 : Int)) (.pointer (some ⟨cb n, 0, none⟩))).run Try.prog wA = .ok () wC ∧
      (Instr.mapEntry 55 (.map (some mk)) (.int .i64 (n : Int))).run Try.prog wC = .ok (.tuple #[.pointer none, .int .i64 (s2 : Int)]) wF ∧
      Rd w tb mn mk (cb n) n ∧ Rd wC tb mn mk (cb n) n ∧ Rd wA tb mn mk (cb n) n ∧ Rd wB tb mn mk (cb n) n ∧ Rd wE tb mn mk (cb n) n ∧ Rd wF tb mn mk (cb n) n ∧ Rd w6 tb mn mk (cb n) n ∧
      Tb w6 B tb mn mh mk who cb { S with nm := fun h k => if h = false ∧ k = name then some n else S.nm h k, cm := fun k => if k = n then some c else S.cm k } ∧ Stp who who w w6 := by
  have hmk : mn ≠ mk := h.ne h.wmn h.wmk (by simp)
  have htm : tb ≠ mn := h.ne h.wtb h.wmn (by simp)
  have htk : tb ≠ mk := h.ne h.wtb h.wmk (by simp)
  have hcm : cb n ≠ mn := h.ne hat.1 h.wmn (by simp)
  have hck : cb n ≠ mk := h.ne hat.1 h.wmk (by simp)
  have hnum : S.num (n : Int) = none := by simp [TS.num, h2]
  obtain ⟨es, k1, hb1, r1, t1, f1⟩ := h.names.entry_new Skeyed (t := 54) (et := 62) Try.underlying54 sv_inj (z := .pointer none) zero_cmd (k := name) (skey (by unfold maxLen; omega)) (by rw [h1]; rfl)
  obtain ⟨eks, k2, hb2, r2, t2, f2⟩ := h.numbers.entry_new Ikeyed (t := 55) (et := 62) Try.underlying55 iv_inj (z := .pointer none) zero_cmd (k := (n : Int)) (ikey hw) (by rw [hnum]; rfl)
  rw [show sv name = (Value.string ⟨name.toArray⟩) from rfl] at r1 t1 f1
  rw [show iv (n : Int) = (Value.int .i64 (n : Int)) from rfl] at r2 t2 f2
  have lt : ∀ {W : World} {b : Nat} {o : Obj}, W.heap[b]? = some o → b < W.heap.size := fun e => (Array.getElem?_eq_some_iff.1 e).1
  have at_ : ∀ (W : World) (b : Nat) (o o' : Obj), W.heap[b]? = some o' → (setBlock W b o).heap[b]? = some o := fun W b o o' e => at_setBlock e o
  obtain ⟨oa, hoa⟩ : ∃ oa, oa = Obj.map (es.push ⟨.string ⟨name.toArray⟩, .pointer none, k1⟩) (k1 + 1) := ⟨_, rfl⟩
  obtain ⟨ob, hob⟩ : ∃ ob, ob = Obj.map (eks.push ⟨.int .i64 (n : Int), .pointer none, k2⟩) (k2 + 1) := ⟨_, rfl⟩
  obtain ⟨oc, hoc⟩ : ∃ oc, oc = Obj.map (es.push ⟨.string ⟨name.toArray⟩, .pointer (some ⟨cb n, 0, none⟩), k1⟩) (k1 + 1) := ⟨_, rfl⟩
  obtain ⟨od, hod⟩ : ∃ od, od = Obj.map (eks.push ⟨.int .i64 (n : Int), .pointer (some ⟨cb n, 0, none⟩), k2⟩) (k2 + 1) := ⟨_, rfl⟩
  have hA2 : (setBlock w mn oa).heap[mk]? = some (.map eks k2) := (setBlock_other w oa (Ne.symm hmk)).trans hb2
  have hB1 : (setBlock w mk ob).heap[mn]? = some (.map es k1) := (setBlock_other w ob hmk).trans hb1
  have hE1 : (setBlock (setBlock w mn oa) mk ob).heap[mn]? = some oa := (setBlock_other _ ob hmk).trans (at_ w mn oa _ hb1)
  have hE2 : (setBlock (setBlock w mn oa) mk ob).heap[mk]? = some ob := at_ _ mk ob _ hA2
  have hC2 : (setBlock w mn oc).heap[mk]? = some (.map eks k2) := (setBlock_other w oc (Ne.symm hmk)).trans hb2
  have hF2 : (setBlock (setBlock w mn oc) mk ob).heap[mk]? = some ob := at_ _ mk ob _ hC2
  have hG1 : (setBlock (setBlock w mn oc) mk od).heap[mn]? = some oc := (setBlock_other _ od hmk).trans (at_ w mn oc _ hb1)
  have hG2 : (setBlock (setBlock w mn oc) mk od).heap[mk]? = some od := at_ _ mk od _ hC2
  obtain ⟨q0, _, q2, _⟩ := h.cells
  obtain ⟨p0, _⟩ := hat.cells
  have rd : ∀ W, (∀ j, j ≠ mn → j ≠ mk → W.heap[j]? = w.heap[j]?) → Rd W tb mn mk (cb n) n := fun W hW => by
    refine ⟨?_, ?_, ?_⟩
    · rw [World.cell?_of_block (a := ⟨tb, 0, none⟩) (hW tb htm htk)]; exact q0
    · rw [World.cell?_of_block (a := ⟨tb, 2, none⟩) (hW tb htm htk)]; exact q2
    · rw [World.cell?_of_block (a := ⟨cb n, 0, none⟩) (hW (cb n) hcm hck)]; exact p0
  have o1 : ∀ (W : World) o, (∀ j, j ≠ mn → j ≠ mk → W.heap[j]? = w.heap[j]?) → ∀ j, j ≠ mn → j ≠ mk → (setBlock W mn o).heap[j]? = w.heap[j]? := fun W o hW j a b => (setBlock_other W o a).trans (hW j a b)
  have o2 : ∀ (W : World) o, (∀ j, j ≠ mn → j ≠ mk → W.heap[j]? = w.heap[j]?) → ∀ j, j ≠ mn → j ≠ mk → (setBlock W mk o).heap[j]? = w.heap[j]? := fun W o hW j a b => (setBlock_other W o b).trans (hW j a b)
  have hw0 : ∀ j, j ≠ mn → j ≠ mk → w.heap[j]? = w.heap[j]? := fun _ _ _ => rfl
  have hsz : ∀ (W : World) (b : Nat) (o : Obj), (setBlock W b o).heap.size = W.heap.size := fun W b o => by simp [setBlock]
  have hput := h.put2 (w' := setBlock (setBlock w mn oc) mk od) (name := name) hat (by
      have := f1 _ (.pointer (some ⟨cb n, 0, none⟩)) (hG1.trans (by rw [hoc])); exact this) (by
      have := f2 _ (.pointer (some ⟨cb n, 0, none⟩)) (hG2.trans (by rw [hod])); exact this)
      (o2 _ _ (o1 _ _ hw0)) (by simp only [hsz]) rfl rfl rfl
  refine ⟨k1, k2, setBlock w mn oa, setBlock w mk ob, setBlock w mn oc, setBlock (setBlock w mn oa) mk ob, setBlock (setBlock w mn oc) mk ob, setBlock (setBlock w mn oc) mk od, ?_, ?_, ?_, ?_, ?_, ?_, ?_, ?_, rd _ hw0, rd _ (o1 _ _ hw0), rd _ (o1 _ _ hw0), rd _ (o2 _ _ hw0), rd _ (o2 _ _ (o1 _ _ hw0)), rd _ (o2 _ _ (o1 _ _ hw0)), rd _ (o2 _ _ (o1 _ _ hw0)), hput.1, hput.2⟩
  · rw [hoa]; exact r1 _ hb1
  · rw [hob]; exact r2 _ hb2
  · rw [hob]; exact r2 _ hA2
  · rw [setBlock_comm w hmk]
    rw [hoa]; exact r1 _ hB1
  · have := t1 (setBlock (setBlock w mn oa) mk ob) (.pointer (some ⟨cb n, 0, none⟩)) (by rw [hE1, hoa])
    rw [← hoc, setBlock_comm _ (Ne.symm hmk), setBlock_twice] at this
    exact this
  · have := t2 (setBlock (setBlock w mn oc) mk ob) (.pointer (some ⟨cb n, 0, none⟩)) (by rw [hF2, hob])
    rw [← hod, setBlock_twice] at this
    exact this
  · have := t1 (setBlock w mn oa) (.pointer (some ⟨cb n, 0, none⟩)) (by rw [at_ w mn oa _ hb1, hoa])
    rw [← hoc, setBlock_twice] at this
    exact this
  · rw [hob]; exact r2 _ hC2
end
end Go.Proofs.Ytbbbenjakjejmaa
