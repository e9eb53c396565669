/- 'm[k], n[l] = x, y' of keys that are not there yet: the entries first, then the stores. The two entries and the two stores of 'add', in either order of the entries. -/
import Derived.Test.YtbbbenjakjejmaaGreatTbFun
import Derived.WideKeyEntry
namespace Go.Proofs.YtbbbenjakjejmaaGreat
set_option linter.unusedVariables false
set_option linter.unusedSimpArgs false
open Go.RowKit Go.MapKept Go.WideMaps
open Go.ChangeMaps (setBlock)
open Go.Maps (Keyed)
section
variable {P : Program} {kt et t : TypeId} {ι : Type} {enc : ι → Value} {w w' : World} {b : Nat} {g : ι → Option Value}
theorem MapAt.entry_new [DecidableEq ι] (h : MapAt P kt enc w b g) (K : Keyed P kt) (ht : P.underlying t = some (.map kt et)) (inj : ∀ a b : ι, enc a = enc b → a = b) {z : Value} (hz : ∀ u : World, (zeroValue et).run P u = .ok z u) {k : ι} {l : Lit} (hk : keyOf P kt (enc k) = some l) (hg0 : g k = none) :
    ∃ es clock, w.heap[b]? = some (.map es clock) ∧
      (∀ W : World, W.heap[b]? = some (.map es clock) → (Instr.mapEntry t (.map (some b)) (enc k)).run P W = .ok (.tuple #[z, .int .i64 (clock : Int)]) (setBlock W b (.map (es.push ⟨enc k, z, clock⟩) (clock + 1)))) ∧
      (∀ (W : World) (v : Value), W.heap[b]? = some (.map (es.push ⟨enc k, z, clock⟩) (clock + 1)) → (Instr.entryStore t (.map (some b)) (.int .i64 (clock : Int)) v).run P W = .ok () (setBlock W b (.map (es.push ⟨enc k, v, clock⟩) (clock + 1)))) ∧
      ∀ (W : World) (v : Value), W.heap[b]? = some (.map (es.push ⟨enc k, v, clock⟩) (clock + 1)) → MapAt P kt enc W b (fun k' => if k' = k then some v else g k') := by
  obtain ⟨es, clock, hb, hs, hkeys, hg⟩ := h
  obtain ⟨s1, s2, _⟩ := (stamped_iff es clock).1 hs
  have h2 : ∀ e ∈ es.toList, e.key ≠ enc k := fun e he hke => by
    have := (hg k e.val).2 ⟨e, he, hke, rfl⟩
    rw [hg0] at this
    cases this
  refine ⟨es, clock, hb, fun W hW => ?_, fun W v hW => ?_, fun W v hW => ?_⟩
  · rcases K.find W hk es.toList (fun e he => by obtain ⟨k', l', _, h⟩ := hkeys e he; exact ⟨l', h⟩) with ⟨h1, _⟩ | ⟨j, e0, _, h4, h3⟩
    · simp [Instr.mapEntry, run_underlying ht, MapKept.run_getObj_map hW, K.check W false hk, h1, hz, MapKept.run_setObj_map _ hW, Result.andThen, setBlock, goInt]
    · exact absurd h3 (h2 e0 (List.mem_of_getElem? h4))
  · have hidx : (es.push ⟨enc k, z, clock⟩).findIdx? (fun e => ((e.born : Nat) : Int) == ((clock : Nat) : Int)) = some es.size := by
      rw [WideElems.findIdx_arr]
      have := WideElems.findIdx_born (l := (es.push ⟨enc k, z, clock⟩).toList) (j := es.size) (e0 := ⟨enc k, z, clock⟩) (by
        simp only [Array.toList_push, List.map_append, List.map_cons, List.map_nil]
        refine List.nodup_append.2 ⟨s2, by simp, fun a ha c hc e1 => ?_⟩
        simp only [List.mem_singleton] at hc
        obtain ⟨x, hx, rfl⟩ := List.mem_map.1 ha
        have := s1 x hx
        omega) (by simp)
      exact this
    have hmod : (es.push ⟨enc k, z, clock⟩).modify es.size (fun e => { e with val := v }) = es.push ⟨enc k, v, clock⟩ := by
      apply Array.ext'
      rw [Array.toList_modify, Array.toList_push, Array.toList_push, ← Array.length_toList, WideElems.modify_last]
    simp [Instr.entryStore, MapKept.run_getObj_map hW, asInt, asIntOf, goInt, hidx, hmod, MapKept.run_setObj_map _ hW, Result.andThen, setBlock]
  · refine ⟨_, _, hW, stamped_push hs h2, ?_, ?_⟩
    · intro e he
      simp only [Array.toList_push, List.mem_append, List.mem_singleton] at he
      rcases he with he | rfl
      · exact hkeys e he
      · exact ⟨k, l, rfl, hk⟩
    · intro k' v'
      simp only [Array.toList_push, List.mem_append, List.mem_singleton]
      by_cases hkk : k' = k
      · subst hkk
        rw [if_pos rfl]
        constructor
        · intro hv; cases hv; exact ⟨_, .inr rfl, rfl, rfl⟩
        · rintro ⟨e, he | rfl, hke, hve⟩
          · exact absurd hke (h2 e he)
          · rw [← hve]
      · rw [if_neg hkk, hg]
        constructor
        · rintro ⟨e, he, hke, hve⟩; exact ⟨e, .inl he, hke, hve⟩
        · rintro ⟨e, he | rfl, hke, hve⟩
          · exact ⟨e, he, hke, hve⟩
          · exact absurd (inj _ _ hke).symm hkk
end
theorem setBlock_comm (w : World) {a b : Nat} (h : a ≠ b) (o p : Obj) : setBlock (setBlock w a o) b p = setBlock (setBlock w b p) a o := by
  unfold setBlock
  simp only
  congr 1
  exact Array.setIfInBounds_comm o p h
theorem setBlock_other (w : World) {b j : Nat} (o : Obj) (h : j ≠ b) : (setBlock w b o).heap[j]? = w.heap[j]? := by
  simp [setBlock, Array.getElem?_setIfInBounds, Ne.symm h]
section
variable {w w' : World} {B tb mn mh mk : Nat} {who : Own} {cb : Nat → Nat} {S : TS}
/-- A command put under its name and its number. -/
theorem Tb.put2 (h : Tb w B tb mn mh mk who cb S) {n : Nat} {c : Cm} {name : Bs} (hat : CmAt w B who cb n c)
    (hmn : MapAt Tryz.prog 9 sv w' mn (fun k' => if k' = name then some (ptrC (cb n)) else (S.nm false k').map fun n => ptrC (cb n)))
    (hmk : MapAt Tryz.prog 3 iv w' mk (fun i => if i = (n : Int) then some (ptrC (cb n)) else (S.num i).map fun n => ptrC (cb n)))
    (hk : ∀ j, j ≠ mn → j ≠ mk → w'.heap[j]? = w.heap[j]?) (hsz : w'.heap.size = w.heap.size) (hos : w'.os = w.os) (hta : w'.tape = w.tape) (hou : w'.output = w.output) :
    Tb w' B tb mn mh mk who cb { S with nm := fun h k => if h = false ∧ k = name then some n else S.nm h k, cm := fun k => if k = n then some c else S.cm k } ∧ Stp who who w w' := by
  have hkp : ∀ j t, who j = some t → t ≠ (1, 0) → t ≠ (1, 2) → w'.heap[j]? = w.heap[j]? := fun j t hj h1 h2 => hk j (h.ne hj h.wmn h1) (h.ne hj h.wmk h2)
  refine ⟨⟨(hkp tb _ h.wtb (by simp) (by simp)).trans h.cel, h.wtb, h.wmn, h.wmh, h.wmk, ?_, ?_, ?_, fun k d hd => ?_, fun j hj => by rw [hsz]; exact h.lo j hj⟩, ⟨⟨hos, hta, hou, Nat.le_of_eq hsz.symm, fun j hj hn => hk j (by rintro rfl; rw [h.wmn] at hn; cases hn) (by rintro rfl; rw [h.wmk] at hn; cases hn)⟩, fun _ _ => rfl⟩⟩
  · have e : (fun k' : Bs => if k' = name then some (ptrC (cb n)) else (S.nm false k').map fun n => ptrC (cb n)) = fun k' => (if false = false ∧ k' = name then some n else S.nm false k').map fun n => ptrC (cb n) := by
      funext k'
      by_cases e : k' = name
      · simp [e]
      · simp [e]
    rw [e] at hmn
    exact hmn
  · have e : (fun k' : Bs => (if true = false ∧ k' = name then some n else S.nm true k').map fun n => ptrC (cb n)) = fun k' => (S.nm true k').map fun n => ptrC (cb n) := by
      funext k'
      simp
    show MapAt _ _ _ _ _ _
    rw [e]
    exact h.hidden.congr (hkp mh _ h.wmh (by simp) (by simp))
  · have e : (fun i : Int => if i = (n : Int) then some (ptrC (cb n)) else (S.num i).map fun n => ptrC (cb n)) = fun i => (({ S with nm := fun h k => if h = false ∧ k = name then some n else S.nm h k, cm := fun k => if k = n then some c else S.cm k } : TS).num i).map fun n => ptrC (cb n) := by
      funext i
      by_cases e : i = (n : Int)
      · rw [if_pos e]
        subst e
        simp [TS.num]
      · rw [if_neg e]
        unfold TS.num
        by_cases h0 : 0 ≤ i
        · have : i.toNat ≠ n := by omega
          simp [this]
        · simp [h0]
    rw [e] at hmk
    exact hmk
  · simp only at hd
    by_cases e : k = n
    · rw [if_pos e] at hd
      cases hd
      subst e
      exact hat.keep (hkp _ _ hat.1 (by simp) (by simp)) (fun j hj => hkp j _ hj (by simp) (by simp)) (fun _ _ h => h)
    · rw [if_neg e] at hd
      exact (h.cmd k d hd).keep (hkp _ _ (h.cmd k d hd).1 (by simp) (by simp)) (fun j hj => hkp j _ hj (by simp) (by simp)) (fun _ _ h => h)
end
end Go.Proofs.YtbbbenjakjejmaaGreat
namespace Go.Proofs.YtbbbenjakjejmaaGreat
set_option linter.unusedVariables false
set_option linter.unusedSimpArgs false
open Go.RowKit Go.MapKept Go.WideMaps
open Go.ChangeMaps (setBlock)
section
variable {w w' : World} {B tb mn mh mk : Nat} {who : Own} {cb : Nat → Nat} {S : TS}
theorem setBlock_twice (w : World) (a : Nat) (o p : Obj) : setBlock (setBlock w a o) a p = setBlock w a p := by
  unfold setBlock
  simp only
  congr 1
  simp
/-- The cells that the assignment reads. -/
def Rd (W : World) (tb mn mk nb n : Nat) : Prop := W.cell? ⟨tb, 0, none⟩ = some (.map (some mn)) ∧ W.cell? ⟨tb, 2, none⟩ = some (.map (some mk)) ∧ W.cell? ⟨nb, 0, none⟩ = some (.int .i64 (n : Int))
theorem entry_facts (h : Tb w B tb mn mh mk who cb S) {n : Nat} {c : Cm} {name : Bs} (hat : CmAt w B who cb n c) (hl : name.length ≤ 100000) (hn : n ≤ 1000000) (h1 : S.nm false name = none) (h2 : S.cm n = none) (hw : (Lit.int .i64 (n : Int)).wf = true) :
    ∃ (s1 s2 : Nat) (wA wB wC wE wF w6 : World),
      (Instr.mapEntry 43 (.map (some mn)) (.string ⟨name.toArray⟩)).run Tryz.prog w = .ok (.tuple #[.pointer none, .int .i64 (s1 : Int)]) wA ∧
      (Instr.mapEntry 44 (.map (some mk)) (.int .i64 (n : Int))).run Tryz.prog w = .ok (.tuple #[.pointer none, .int .i64 (s2 : Int)]) wB ∧
      (Instr.mapEntry 44 (.map (some mk)) (.int .i64 (n : Int))).run Tryz.prog wA = .ok (.tuple #[.pointer none, .int .i64 (s2 : Int)]) wE ∧
      (Instr.mapEntry 43 (.map (some mn)) (.string ⟨name.toArray⟩)).run Tryz.prog wB = .ok (.tuple #[.pointer none, .int .i64 (s1 : Int)]) wE ∧
      (Instr.entryStore 43 (.map (some mn)) (.int .i64 (s1 : Int)) (.pointer (some ⟨cb n, 0, none⟩))).run Tryz.prog wE = .ok () wF ∧
      (Instr.entryStore 44 (.map (some mk)) (.int .i64 (s2 : Int)) (.pointer (some ⟨cb n, 0, none⟩))).run Tryz.prog wF = .ok () w6 ∧
      (Instr.entryStore 43 (.map (some mn)) (.int .i64 (s1 : Int)) (.pointer (some ⟨cb n, 0, none⟩))).run Tryz.prog wA = .ok () wC ∧
      (Instr.mapEntry 44 (.map (some mk)) (.int .i64 (n : Int))).run Tryz.prog wC = .ok (.tuple #[.pointer none, .int .i64 (s2 : Int)]) wF ∧
      Rd w tb mn mk (cb n) n ∧ Rd wC tb mn mk (cb n) n ∧ Rd wA tb mn mk (cb n) n ∧ Rd wB tb mn mk (cb n) n ∧ Rd wE tb mn mk (cb n) n ∧ Rd wF tb mn mk (cb n) n ∧ Rd w6 tb mn mk (cb n) n ∧
      Tb w6 B tb mn mh mk who cb { S with nm := fun h k => if h = false ∧ k = name then some n else S.nm h k, cm := fun k => if k = n then some c else S.cm k } ∧ Stp who who w w6 := by
  have hmk : mn ≠ mk := h.ne h.wmn h.wmk (by simp)
  have htm : tb ≠ mn := h.ne h.wtb h.wmn (by simp)
  have htk : tb ≠ mk := h.ne h.wtb h.wmk (by simp)
  have hcm : cb n ≠ mn := h.ne hat.1 h.wmn (by simp)
  have hck : cb n ≠ mk := h.ne hat.1 h.wmk (by simp)
  have hnum : S.num (n : Int) = none := by simp [TS.num, h2]
  obtain ⟨es, k1, hb1, r1, t1, f1⟩ := h.names.entry_new Skeyed (t := 43) (et := 60) Tryz.underlying43 sv_inj (z := .pointer none) zero_cmd (k := name) (skey (by unfold maxLen; omega)) (by rw [h1]; rfl)
  obtain ⟨eks, k2, hb2, r2, t2, f2⟩ := h.numbers.entry_new Ikeyed (t := 44) (et := 60) Tryz.underlying44 iv_inj (z := .pointer none) zero_cmd (k := (n : Int)) (ikey hw) (by rw [hnum]; rfl)
  rw [show sv name = (Value.string ⟨name.toArray⟩) from rfl] at r1 t1 f1
  rw [show iv (n : Int) = (Value.int .i64 (n : Int)) from rfl] at r2 t2 f2
  have lt : ∀ {W : World} {b : Nat} {o : Obj}, W.heap[b]? = some o → b < W.heap.size := fun e => (Array.getElem?_eq_some_iff.1 e).1
  have at_ : ∀ (W : World) (b : Nat) (o o' : Obj), W.heap[b]? = some o' → (setBlock W b o).heap[b]? = some o := fun W b o o' e => at_setBlock e o
  obtain ⟨oa, hoa⟩ : ∃ oa, oa = Obj.map (es.push ⟨.string ⟨name.toArray⟩, .pointer none, k1⟩) (k1 + 1) := ⟨_, rfl⟩
  obtain ⟨ob, hob⟩ : ∃ ob, ob = Obj.map (eks.push ⟨.int .i64 (n : Int), .pointer none, k2⟩) (k2 + 1) := ⟨_, rfl⟩
  obtain ⟨oc, hoc⟩ : ∃ oc, oc = Obj.map (es.push ⟨.string ⟨name.toArray⟩, .pointer (some ⟨cb n, 0, none⟩), k1⟩) (k1 + 1) := ⟨_, rfl⟩
  obtain ⟨od, hod⟩ : ∃ od, od = Obj.map (eks.push ⟨.int .i64 (n : Int), .pointer (some ⟨cb n, 0, none⟩), k2⟩) (k2 + 1) := ⟨_, rfl⟩
  have hA2 : (setBlock w mn oa).heap[mk]? = some (.map eks k2) := (setBlock_other w oa (Ne.symm hmk)).trans hb2
  have hB1 : (setBlock w mk ob).heap[mn]? = some (.map es k1) := (setBlock_other w ob hmk).trans hb1
  have hE1 : (setBlock (setBlock w mn oa) mk ob).heap[mn]? = some oa := (setBlock_other _ ob hmk).trans (at_ w mn oa _ hb1)
  have hE2 : (setBlock (setBlock w mn oa) mk ob).heap[mk]? = some ob := at_ _ mk ob _ hA2
  have hC2 : (setBlock w mn oc).heap[mk]? = some (.map eks k2) := (setBlock_other w oc (Ne.symm hmk)).trans hb2
  have hF2 : (setBlock (setBlock w mn oc) mk ob).heap[mk]? = some ob := at_ _ mk ob _ hC2
  have hG1 : (setBlock (setBlock w mn oc) mk od).heap[mn]? = some oc := (setBlock_other _ od hmk).trans (at_ w mn oc _ hb1)
  have hG2 : (setBlock (setBlock w mn oc) mk od).heap[mk]? = some od := at_ _ mk od _ hC2
  obtain ⟨q0, _, q2, _⟩ := h.cells
  obtain ⟨p0, _⟩ := hat.cells
  have rd : ∀ W, (∀ j, j ≠ mn → j ≠ mk → W.heap[j]? = w.heap[j]?) → Rd W tb mn mk (cb n) n := fun W hW => by
    refine ⟨?_, ?_, ?_⟩
    · rw [World.cell?_of_block (a := ⟨tb, 0, none⟩) (hW tb htm htk)]; exact q0
    · rw [World.cell?_of_block (a := ⟨tb, 2, none⟩) (hW tb htm htk)]; exact q2
    · rw [World.cell?_of_block (a := ⟨cb n, 0, none⟩) (hW (cb n) hcm hck)]; exact p0
  have o1 : ∀ (W : World) o, (∀ j, j ≠ mn → j ≠ mk → W.heap[j]? = w.heap[j]?) → ∀ j, j ≠ mn → j ≠ mk → (setBlock W mn o).heap[j]? = w.heap[j]? := fun W o hW j a b => (setBlock_other W o a).trans (hW j a b)
  have o2 : ∀ (W : World) o, (∀ j, j ≠ mn → j ≠ mk → W.heap[j]? = w.heap[j]?) → ∀ j, j ≠ mn → j ≠ mk → (setBlock W mk o).heap[j]? = w.heap[j]? := fun W o hW j a b => (setBlock_other W o b).trans (hW j a b)
  have hw0 : ∀ j, j ≠ mn → j ≠ mk → w.heap[j]? = w.heap[j]? := fun _ _ _ => rfl
  have hsz : ∀ (W : World) (b : Nat) (o : Obj), (setBlock W b o).heap.size = W.heap.size := fun W b o => by simp [setBlock]
  have hput := h.put2 (w' := setBlock (setBlock w mn oc) mk od) (name := name) hat (by
      have := f1 _ (.pointer (some ⟨cb n, 0, none⟩)) (hG1.trans (by rw [hoc])); exact this) (by
      have := f2 _ (.pointer (some ⟨cb n, 0, none⟩)) (hG2.trans (by rw [hod])); exact this)
      (o2 _ _ (o1 _ _ hw0)) (by simp only [hsz]) rfl rfl rfl
  refine ⟨k1, k2, setBlock w mn oa, setBlock w mk ob, setBlock w mn oc, setBlock (setBlock w mn oa) mk ob, setBlock (setBlock w mn oc) mk ob, setBlock (setBlock w mn oc) mk od, ?_, ?_, ?_, ?_, ?_, ?_, ?_, ?_, rd _ hw0, rd _ (o1 _ _ hw0), rd _ (o1 _ _ hw0), rd _ (o2 _ _ hw0), rd _ (o2 _ _ (o1 _ _ hw0)), rd _ (o2 _ _ (o1 _ _ hw0)), rd _ (o2 _ _ (o1 _ _ hw0)), hput.1, hput.2⟩
  · rw [hoa]; exact r1 _ hb1
  · rw [hob]; exact r2 _ hb2
  · rw [hob]; exact r2 _ hA2
  · rw [setBlock_comm w hmk]
    rw [hoa]; exact r1 _ hB1
  · have := t1 (setBlock (setBlock w mn oa) mk ob) (.pointer (some ⟨cb n, 0, none⟩)) (by rw [hE1, hoa])
    rw [← hoc, setBlock_comm _ (Ne.symm hmk), setBlock_twice] at this
    exact this
  · have := t2 (setBlock (setBlock w mn oc) mk ob) (.pointer (some ⟨cb n, 0, none⟩)) (by rw [hF2, hob])
    rw [← hod, setBlock_twice] at this
    exact this
  · have := t1 (setBlock w mn oa) (.pointer (some ⟨cb n, 0, none⟩)) (by rw [at_ w mn oa _ hb1, hoa])
    rw [← hoc, setBlock_twice] at this
    exact this
  · rw [hob]; exact r2 _ hC2
end
end Go.Proofs.YtbbbenjakjejmaaGreat
