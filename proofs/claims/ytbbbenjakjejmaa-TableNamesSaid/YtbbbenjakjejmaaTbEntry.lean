/- 'm[k], n[l] = x, y' of keys that are not there yet: the entries first, then the stores. -/
import Derived.Test.YtbbbenjakjejmaaTbFun
import Derived.WideKeyEntry
namespace Go.Proofs.Ytbbbenjakjejmaa
set_option linter.unusedVariables false
set_option linter.unusedSimpArgs false
open Go.RowKit Go.MapKept Go.WideMaps
open Go.ChangeMaps (setBlock)
open Go.Maps (Keyed)
section
variable {P : Program} {kt et t : TypeId} {ι : Type} {enc : ι → Value} {w w' : World} {b : Nat} {g : ι → Option Value}
theorem MapAt.entry_new [DecidableEq ι] (h : MapAt P kt enc w b g) (K : Keyed P kt) (ht : P.underlying t = some (.map kt et)) (inj : ∀ a b : ι, enc a = enc b → a = b) {z : Value} (hz : ∀ u : World, (zeroValue et).run P u = .ok z u) {k : ι} {l : Lit} (hk : keyOf P kt (enc k) = some l) (hg0 : g k = none) :
    ∃ es clock, w.heap[b]? = some (.map es clock) ∧
      (∀ W : World, W.heap[b]? = some (.map es clock) → (Instr.mapEntry t (.map (some b)) (enc k)).run P W = .ok (.tuple #[z, .int .i64 (clock : Int)]) (setBlock W b (.map (es.push ⟨enc k, z, clock⟩) (clock + 1)))) ∧
      (∀ (W : World) (v : Value), W.heap[b]? = some (.map (es.push ⟨enc k, z, clock⟩) (clock + 1)) → (Instr.entryStore t (.map (some b)) (.int .i64 (clock : Int)) v).run P W = .ok () (setBlock W b (.map (es.push ⟨enc k, v, clock⟩) (clock + 1)))) ∧
      ∀ (W : World) (v : Value), W.heap[b]? = some (.map (es.push ⟨enc k, v, clock⟩) (clock + 1)) → MapAt P kt enc W b (fun k' => if k' = k then some v else g k') := by
  obtain ⟨es, clock, hb, hs, hkeys, hg⟩ := h
  obtain ⟨s1, s2, _⟩ := (stamped_iff es clock).1 hs
  have h2 : ∀ e ∈ es.toList, e.key ≠ enc k := fun e he hke => by
    have := (hg k e.val).2 ⟨e, he, hke, rfl⟩
    rw [hg0] at this
    cases this
  refine ⟨es, clock, hb, fun W hW => ?_, fun W v hW => ?_, fun W v hW => ?_⟩
  · rcases K.find W hk es.toList (fun e he => by obtain ⟨k', l', _, h⟩ := hkeys e he; exact ⟨l', h⟩) with ⟨h1, _⟩ | ⟨j, e0, _, h4, h3⟩
    · simp [Instr.mapEntry, run_underlying ht, MapKept.run_getObj_map hW, K.check W false hk, h1, hz, MapKept.run_setObj_map _ hW, Result.andThen, setBlock, goInt]
    · exact absurd h3 (h2 e0 (List.mem_of_getElem? h4))
  · have hidx : (es.push ⟨enc k, z, clock⟩).findIdx? (fun e => ((e.born : Nat) : Int) == ((clock : Nat) : Int)) = some es.size := by
      rw [WideElems.findIdx_arr]
      have := WideElems.findIdx_born (l := (es.push ⟨enc k, z, clock⟩).toList) (j := es.size) (e0 := ⟨enc k, z, clock⟩) (by
        simp only [Array.toList_push, List.map_append, List.map_cons, List.map_nil]
        refine List.nodup_append.2 ⟨s2, by simp, fun a ha c hc e1 => ?_⟩
        simp only [List.mem_singleton] at hc
        obtain ⟨x, hx, rfl⟩ := List.mem_map.1 ha
        have := s1 x hx
        omega) (by simp)
      exact this
    have hmod : (es.push ⟨enc k, z, clock⟩).modify es.size (fun e => { e with val := v }) = es.push ⟨enc k, v, clock⟩ := by
      apply Array.ext'
      rw [Array.toList_modify, Array.toList_push, Array.toList_push, ← Array.length_toList, WideElems.modify_last]
    simp [Instr.entryStore, MapKept.run_getObj_map hW, asInt, asIntOf, goInt, hidx, hmod, MapKept.run_setObj_map _ hW, Result.andThen, setBlock]
  · refine ⟨_, _, hW, stamped_push hs h2, ?_, ?_⟩
    · intro e he
      simp only [Array.toList_push, List.mem_append, List.mem_singleton] at he
      rcases he with he | rfl
      · exact hkeys e he
      · exact ⟨k, l, rfl, hk⟩
    · intro k' v'
      simp only [Array.toList_push, List.mem_append, List.mem_singleton]
      by_cases hkk : k' = k
      · subst hkk
        rw [if_pos rfl]
        constructor
        · intro hv; cases hv; exact ⟨_, .inr rfl, rfl, rfl⟩
        · rintro ⟨e, he | rfl, hke, hve⟩
          · exact absurd hke (h2 e he)
          · rw [← hve]
      · rw [if_neg hkk, hg]
        constructor
        · rintro ⟨e, he, hke, hve⟩; exact ⟨e, .inl he, hke, hve⟩
        · rintro ⟨e, he | rfl, hke, hve⟩
          · exact ⟨e, he, hke, hve⟩
          · exact absurd (inj _ _ hke).symm hkk
end
theorem setBlock_comm (w : World) {a b : Nat} (h : a ≠ b) (o p : Obj) : setBlock (setBlock w a o) b p = setBlock (setBlock w b p) a o := by
  unfold setBlock
  simp only
  congr 1
  exact Array.setIfInBounds_comm o p h
theorem setBlock_other (w : World) {b j : Nat} (o : Obj) (h : j ≠ b) : (setBlock w b o).heap[j]? = w.heap[j]? := by
  simp [setBlock, Array.getElem?_setIfInBounds, Ne.symm h]
section
variable {w w' : World} {B tb mn mh mk : Nat} {who : Own} {cb : Nat → Nat} {S : TS}
/-- A command put under its name and its number. -/
theorem Tb.put2 (h : Tb w B tb mn mh mk who cb S) {n : Nat} {c : Cm} {name : Bs} (hat : CmAt w B who cb n c)
    (hmn : MapAt Try.prog 9 sv w' mn (fun k' => if k' = name then some (ptrC (cb n)) else (S.nm false k').map fun n => ptrC (cb n)))
    (hmk : MapAt Try.prog 3 iv w' mk (fun i => if i = (n : Int) then some (ptrC (cb n)) else (S.num i).map fun n => ptrC (cb n)))
    (hk : ∀ j, j ≠ mn → j ≠ mk → w'.heap[j]? = w.heap[j]?) (hsz : w'.heap.size = w.heap.size) (hos : w'.os = w.os) (hta : w'.tape = w.tape) (hou : w'.output = w.output) :
    Tb w' B tb mn mh mk who cb { S with nm := fun h k => if h = false ∧ k = name then some n else S.nm h k, cm := fun k => if k = n then some c else S.cm k } ∧ Stp who who w w' := by
  have hkp : ∀ j t, who j = some t → t ≠ (1, 0) → t ≠ (1, 2) → w'.heap[j]? = w.heap[j]? := fun j t hj h1 h2 => hk j (h.ne hj h.wmn h1) (h.ne hj h.wmk h2)
  refine ⟨⟨(hkp tb _ h.wtb (by simp) (by simp)).trans h.cel, h.wtb, h.wmn, h.wmh, h.wmk, ?_, ?_, ?_, fun k d hd => ?_, fun j hj => by rw [hsz]; exact h.lo j hj⟩, ⟨⟨hos, hta, hou, Nat.le_of_eq hsz.symm, fun j hj hn => hk j (by rintro rfl; rw [h.wmn] at hn; cases hn) (by rintro rfl; rw [h.wmk] at hn; cases hn)⟩, fun _ _ => rfl⟩⟩
  · have e : (fun k' : Bs => if k' = name then some (ptrC (cb n)) else (S.nm false k').map fun n => ptrC (cb n)) = fun k' => (if false = false ∧ k' = name then some n else S.nm false k').map fun n => ptrC (cb n) := by
      funext k'
      by_cases e : k' = name
      · simp [e]
      · simp [e]
    rw [e] at hmn
    exact hmn
  · have e : (fun k' : Bs => (if true = false ∧ k' = name then some n else S.nm true k').map fun n => ptrC (cb n)) = fun k' => (S.nm true k').map fun n => ptrC (cb n) := by
      funext k'
      simp
    show MapAt _ _ _ _ _ _
    rw [e]
    exact h.hidden.congr (hkp mh _ h.wmh (by simp) (by simp))
  · have e : (fun i : Int => if i = (n : Int) then some (ptrC (cb n)) else (S.num i).map fun n => ptrC (cb n)) = fun i => (({ S with nm := fun h k => if h = false ∧ k = name then some n else S.nm h k, cm := fun k => if k = n then some c else S.cm k } : TS).num i).map fun n => ptrC (cb n) := by
      funext i
      by_cases e : i = (n : Int)
      · rw [if_pos e]
        subst e
        simp [TS.num]
      · rw [if_neg e]
        unfold TS.num
        by_cases h0 : 0 ≤ i
        · have : i.toNat ≠ n := by omega
          simp [this]
        · simp [h0]
    rw [e] at hmk
    exact hmk
  · simp only at hd
    by_cases e : k = n
    · rw [if_pos e] at hd
      cases hd
      subst e
      exact hat.keep (hkp _ _ hat.1 (by simp) (by simp)) (fun j hj => hkp j _ hj (by simp) (by simp)) (fun _ _ h => h)
    · rw [if_neg e] at hd
      exact (h.cmd k d hd).keep (hkp _ _ (h.cmd k d hd).1 (by simp) (by simp)) (fun j hj => hkp j _ hj (by simp) (by simp)) (fun _ _ h => h)
end
end Go.Proofs.Ytbbbenjakjejmaa
