/- Maps that lie in memory, as functions of their keys: read, written, deleted from; over whatever program. -/
import Derived.WalkKit
import Derived.Handy
import Derived.Lib.Hide
import Derived.Maps.Own
namespace Go.Proofs.YteojlmpipfajoaaGreatDoor
set_option linter.unusedVariables false
set_option linter.unusedSimpArgs false
open Go.RowKit
open Go.MapKept
open Go.ChangeMaps (setBlock)
open Go.Maps (Keyed)

/-- w' is w but for block b. -/
structure Only (b : Nat) (w w' : World) : Prop where
  os : w'.os = w.os
  tape : w'.tape = w.tape
  output : w'.output = w.output
  size : w'.heap.size = w.heap.size
  block : ∀ k, k ≠ b → w'.heap[k]? = w.heap[k]?

theorem Only.below {b B : Nat} {w w' : World} (h : Only b w w') (hB : B ≤ b) : Below B w w' :=
  ⟨h.os, h.tape, h.output, by rw [h.size]; exact Nat.le_refl _, fun k hk => h.block k (by omega)⟩
theorem Only.trans {b : Nat} {u v w : World} (h : Only b u v) (k : Only b v w) : Only b u w :=
  ⟨k.os.trans h.os, k.tape.trans h.tape, k.output.trans h.output, k.size.trans h.size, fun i hi => (k.block i hi).trans (h.block i hi)⟩
theorem only_setBlock (w : World) (b : Nat) (o : Obj) : Only b w (setBlock w b o) :=
  ⟨rfl, rfl, rfl, by simp [setBlock], fun k hk => by simp [setBlock, Array.getElem?_setIfInBounds, Ne.symm hk]⟩
theorem at_setBlock {w : World} {b : Nat} {o' : Obj} (h : w.heap[b]? = some o') (o : Obj) : (setBlock w b o).heap[b]? = some o := by
  obtain ⟨hl, _⟩ := Array.getElem?_eq_some_iff.1 h
  simp [setBlock, Array.getElem?_setIfInBounds, hl]

/-- Block b is a map that leads a key k, written 'enc k', to g k. -/
def MapAt (P : Program) (kt : TypeId) {ι : Type} (enc : ι → Value) (w : World) (b : Nat) (g : ι → Option Value) : Prop :=
  ∃ es clock, w.heap[b]? = some (.map es clock) ∧ Stamped es clock ∧ (∀ e ∈ es.toList, ∃ k l, e.key = enc k ∧ keyOf P kt e.key = some l) ∧ (∀ k v, g k = some v ↔ ∃ e ∈ es.toList, e.key = enc k ∧ e.val = v)

section
variable {P : Program} {kt et t : TypeId} {ι : Type} {enc : ι → Value} {w w' : World} {b : Nat} {g : ι → Option Value}

theorem MapAt.congr (h : MapAt P kt enc w b g) (hb : w'.heap[b]? = w.heap[b]?) : MapAt P kt enc w' b g := by
  obtain ⟨es, clock, h1, h2, h3, h4⟩ := h
  exact ⟨es, clock, hb.trans h1, h2, h3, h4⟩
theorem MapAt.lt (h : MapAt P kt enc w b g) : b < w.heap.size := by
  obtain ⟨es, clock, h1, _⟩ := h
  exact (Array.getElem?_eq_some_iff.1 h1).1
theorem mapAt_new (P : Program) (kt : TypeId) (enc : ι → Value) (w : World) : MapAt P kt enc (w.alloc (.map #[] 0)) w.heap.size (fun _ => none) :=
  ⟨#[], 0, (MapKept.heap_alloc w _).1, stamped_empty 0, by simp, by simp⟩

theorem entry_one {es : Array MapEntry} {clock : Nat} (hs : Stamped es clock) {e e' : MapEntry} (h : e ∈ es.toList) (h' : e' ∈ es.toList) (hk : e.key = e'.key) : e = e' := by
  have hp := ((stamped_iff es clock).1 hs).2.2
  obtain ⟨i, hi, rfl⟩ := List.getElem_of_mem h
  obtain ⟨j, hj, rfl⟩ := List.getElem_of_mem h'
  rcases Nat.lt_trichotomy i j with hlt | rfl | hlt
  · exact absurd hk (List.pairwise_iff_getElem.1 hp i j hi hj hlt)
  · rfl
  · exact absurd hk.symm (List.pairwise_iff_getElem.1 hp j i hj hi hlt)

/-- 'm[k]'. -/
theorem MapAt.look (h : MapAt P kt enc w b g) (K : Keyed P kt) (ht : P.underlying t = some (.map kt et)) {z : Value} (hz : (zeroValue et).run P w = .ok z w) {k : ι} {l : Lit} (hk : keyOf P kt (enc k) = some l) :
    (Instr.lookup t (.map (some b)) (enc k) false).run P w = .ok ((g k).getD z) w := by
  obtain ⟨es, clock, hb, hs, hkeys, hg⟩ := h
  rcases K.find w hk es.toList (fun e he => by obtain ⟨k', l', _, h⟩ := hkeys e he; exact ⟨l', h⟩) with ⟨h1, h2⟩ | ⟨j, e0, h1, h2, h3⟩
  · have : g k = none := by
      cases hgk : g k with
      | none => rfl
      | some v => obtain ⟨e, he, hke, _⟩ := (hg k v).1 hgk; exact absurd hke (h2 e he)
    rw [this]
    simp [Instr.lookup, run_underlying ht, MapKept.run_getObj_map hb, K.check w _ hk, h1, hz, Result.andThen]
  · have : g k = some e0.val := (hg k e0.val).2 ⟨e0, List.mem_of_getElem? h2, h3, rfl⟩
    rw [this]
    simp [Instr.lookup, run_underlying ht, MapKept.run_getObj_map hb, K.check w _ hk, h1, Result.andThen]

/-- 'm[k] = v'. -/
theorem MapAt.store [DecidableEq ι] (h : MapAt P kt enc w b g) (K : Keyed P kt) (ht : P.underlying t = some (.map kt et)) (inj : ∀ a b : ι, enc a = enc b → a = b) {k : ι} {l : Lit} (hk : keyOf P kt (enc k) = some l) (v : Value) :
    ∃ w', (Instr.mapUpdate t (.map (some b)) (enc k) v).run P w = .ok () w' ∧ Only b w w' ∧ MapAt P kt enc w' b (fun k' => if k' = k then some v else g k') := by
  obtain ⟨es, clock, hb, hs, hkeys, hg⟩ := h
  rcases K.find w hk es.toList (fun e he => by obtain ⟨k', l', _, h⟩ := hkeys e he; exact ⟨l', h⟩) with ⟨h1, h2⟩ | ⟨j, e0, h1, h2, h3⟩
  · refine ⟨setBlock w b (.map (es.push ⟨enc k, v, clock⟩) (clock + 1)), ?_, only_setBlock _ _ _, _, _, at_setBlock hb _, stamped_push hs h2, ?_, ?_⟩
    · simp [Instr.mapUpdate, run_underlying ht, MapKept.run_getObj_map hb, K.check w false hk, h1, MapKept.run_setObj_map _ hb, Result.andThen, setBlock]
    · intro e he
      simp only [Array.toList_push, List.mem_append, List.mem_singleton] at he
      rcases he with he | rfl
      · exact hkeys e he
      · exact ⟨k, l, rfl, hk⟩
    · intro k' v'
      simp only [Array.toList_push, List.mem_append, List.mem_singleton]
      by_cases hkk : k' = k
      · subst hkk
        rw [if_pos rfl]
        constructor
        · intro hv; cases hv; exact ⟨_, .inr rfl, rfl, rfl⟩
        · rintro ⟨e, he | rfl, hke, hve⟩
          · exact absurd hke (h2 e he)
          · rw [← hve]
      · rw [if_neg hkk, hg]
        constructor
        · rintro ⟨e, he, hke, hve⟩; exact ⟨e, .inl he, hke, hve⟩
        · rintro ⟨e, he | rfl, hke, hve⟩
          · exact ⟨e, he, hke, hve⟩
          · exact absurd (inj _ _ hke).symm hkk
  · have hj : es[j]? = some e0 := by simpa using h2
    have hjl : j < es.toList.length := (List.getElem?_eq_some_iff.1 h2).1
    have hm0 : e0 ∈ es.toList := List.mem_of_getElem? h2
    have hkeyf : ∀ e', es[j]? = some e' → ({ e' with key := enc k, val := v } : MapEntry).key = e'.key := fun e' he' => by rw [hj] at he'; cases he'; exact h3.symm
    have hlist : (es.modify j (fun e' => { e' with key := enc k, val := v })).toList = es.toList.set j { e0 with key := enc k, val := v } := by rw [Array.toList_modify, ChangeMaps.modify_eq_set _ _ _ _ h2]
    have who : ∀ e, e ∈ es.toList.set j { e0 with key := enc k, val := v } ↔ (e = { e0 with key := enc k, val := v } ∨ (e ∈ es.toList ∧ e.key ≠ enc k)) := by
      intro e
      constructor
      · intro he
        obtain ⟨i, hi, ex⟩ := List.getElem_of_mem he
        rw [List.getElem_set] at ex
        split at ex
        · exact .inl ex.symm
        · rename_i hne
          have hi' : i < es.toList.length := by simpa using hi
          refine .inr ⟨ex ▸ List.getElem_mem hi', fun hke => ?_⟩
          have hee := entry_one hs (ex ▸ List.getElem_mem hi' : e ∈ es.toList) hm0 (hke.trans h3.symm)
          have hp := ((stamped_iff es clock).1 hs).2.1
          have e1 : es.toList[i] = es.toList[j] := by rw [ex, hee, (List.getElem?_eq_some_iff.1 h2).2]
          have hnd := List.pairwise_iff_getElem.1 hp
          rcases Nat.lt_trichotomy i j with hlt | rfl | hlt
          · exact absurd (show (es.toList.map (·.born))[i]'(by simpa using hi') = (es.toList.map (·.born))[j]'(by simpa using hjl) from by rw [List.getElem_map, List.getElem_map, e1]) (hnd i j (by simpa using hi') (by simpa using hjl) hlt)
          · exact hne rfl
          · exact absurd (show (es.toList.map (·.born))[j]'(by simpa using hjl) = (es.toList.map (·.born))[i]'(by simpa using hi') from by rw [List.getElem_map, List.getElem_map, e1]) (hnd j i (by simpa using hjl) (by simpa using hi') hlt)
      · rintro (rfl | ⟨he, hke⟩)
        · exact List.mem_iff_getElem.2 ⟨j, by simpa using hjl, by simp⟩
        · obtain ⟨i, hi, rfl⟩ := List.getElem_of_mem he
          have hne : j ≠ i := by
            rintro rfl
            exact hke (by rw [← h3, (List.getElem?_eq_some_iff.1 h2).2])
          exact List.mem_iff_getElem.2 ⟨i, by simpa using hi, by rw [List.getElem_set_ne hne]⟩
    refine ⟨setBlock w b (.map (es.modify j (fun e' => { e' with key := enc k, val := v })) clock), ?_, only_setBlock _ _ _, _, _, at_setBlock hb _, stamped_modify hs _ _ (fun _ _ => rfl) (fun e' _ he' => hkeyf e' he'), ?_, ?_⟩
    · simp [Instr.mapUpdate, run_underlying ht, MapKept.run_getObj_map hb, K.check w false hk, h1, hj, h3, K.stays w hk, MapKept.run_setObj_map _ hb, Result.andThen, setBlock]
    · intro e he
      rw [hlist, who] at he
      rcases he with rfl | ⟨he, _⟩
      · exact ⟨k, l, rfl, hk⟩
      · exact hkeys e he
    · intro k' v'
      simp only [hlist, who]
      by_cases hkk : k' = k
      · subst hkk
        rw [if_pos rfl]
        constructor
        · intro hv; cases hv; exact ⟨_, .inl rfl, rfl, rfl⟩
        · rintro ⟨e, rfl | ⟨he, hne⟩, hke, hve⟩
          · rw [← hve]
          · exact absurd hke hne
      · rw [if_neg hkk, hg]
        constructor
        · rintro ⟨e, he, hke, hve⟩; exact ⟨e, .inr ⟨he, fun h => hkk (inj _ _ (hke.symm.trans h))⟩, hke, hve⟩
        · rintro ⟨e, rfl | ⟨he, hne⟩, hke, hve⟩
          · exact absurd (inj _ _ hke).symm hkk
          · exact ⟨e, he, hke, hve⟩

/-- 'delete(m, k)'. -/
theorem MapAt.delete [DecidableEq ι] {ty : TypeId} (h : MapAt P kt enc w b g) (K : Keyed P kt) (ht : P.underlying t = some (.map kt et)) (inj : ∀ a b : ι, enc a = enc b → a = b) {k : ι} {l : Lit} (hk : keyOf P kt (enc k) = some l) :
    ∃ w', (Builtin.delete_ #[t, kt] ty #[.map (some b), enc k]).run P w = .ok (.tuple #[]) w' ∧ Only b w w' ∧ MapAt P kt enc w' b (fun k' => if k' = k then none else g k') := by
  obtain ⟨es, clock, hb, hs, hkeys, hg⟩ := h
  rcases K.find w hk es.toList (fun e he => by obtain ⟨k', l', _, h⟩ := hkeys e he; exact ⟨l', h⟩) with ⟨h1, h2⟩ | ⟨j, e0, h1, h2, h3⟩
  · refine ⟨setBlock w b (.map es clock), ?_, only_setBlock _ _ _, _, _, at_setBlock hb _, hs, hkeys, ?_⟩
    · simp [Builtin.delete_, run_underlying ht, MapKept.run_getObj_map hb, K.check w _ hk, h1, MapKept.run_setObj_map _ hb, Result.andThen, setBlock]
    · intro k' v'
      simp only
      by_cases hkk : k' = k
      · subst hkk
        rw [if_pos rfl]
        exact ⟨(fun h => by cases h), fun ⟨e, he, hke, _⟩ => absurd hke (h2 e he)⟩
      · rw [if_neg hkk, hg]
  · have hjl : j < es.toList.length := (List.getElem?_eq_some_iff.1 h2).1
    have hjs : j < es.size := by simpa using hjl
    have hm0 : e0 ∈ es.toList := List.mem_of_getElem? h2
    have hsub : (es.eraseIdxIfInBounds j).toList = es.toList.eraseIdx j := by
      unfold Array.eraseIdxIfInBounds
      rw [dif_pos hjs]
      simp
    have who : ∀ e, e ∈ es.toList.eraseIdx j ↔ (e ∈ es.toList ∧ e.key ≠ enc k) := by
      intro e
      rw [List.mem_eraseIdx_iff_getElem?]
      constructor
      · rintro ⟨i, hne, hi⟩
        refine ⟨List.mem_of_getElem? hi, fun hke => hne ?_⟩
        have hee := entry_one hs (List.mem_of_getElem? hi) hm0 (hke.trans h3.symm)
        obtain ⟨hi', ei⟩ := List.getElem?_eq_some_iff.1 hi
        have e1 : es.toList[i] = es.toList[j] := by rw [ei, hee, (List.getElem?_eq_some_iff.1 h2).2]
        have hnd := List.pairwise_iff_getElem.1 ((stamped_iff es clock).1 hs).2.1
        rcases Nat.lt_trichotomy i j with hlt | rfl | hlt
        · exact absurd (show (es.toList.map (·.born))[i]'(by simpa using hi') = (es.toList.map (·.born))[j]'(by simpa using hjl) from by rw [List.getElem_map, List.getElem_map, e1]) (hnd i j (by simpa using hi') (by simpa using hjl) hlt)
        · rfl
        · exact absurd (show (es.toList.map (·.born))[j]'(by simpa using hjl) = (es.toList.map (·.born))[i]'(by simpa using hi') from by rw [List.getElem_map, List.getElem_map, e1]) (hnd j i (by simpa using hjl) (by simpa using hi') hlt)
      · rintro ⟨he, hke⟩
        obtain ⟨i, hi, rfl⟩ := List.getElem_of_mem he
        refine ⟨i, ?_, List.getElem?_eq_getElem hi⟩
        rintro rfl
        exact hke (by rw [← h3, (List.getElem?_eq_some_iff.1 h2).2])
    refine ⟨setBlock w b (.map (es.eraseIdxIfInBounds j) clock), ?_, only_setBlock _ _ _, _, _, at_setBlock hb _, stamped_erase hs j, ?_, ?_⟩
    · simp [Builtin.delete_, run_underlying ht, MapKept.run_getObj_map hb, K.check w _ hk, h1, MapKept.run_setObj_map _ hb, Result.andThen, setBlock]
    · intro e he
      rw [hsub, who] at he
      exact hkeys e he.1
    · intro k' v'
      simp only [hsub, who]
      by_cases hkk : k' = k
      · subst hkk
        rw [if_pos rfl]
        exact ⟨(fun h => by cases h), fun ⟨e, ⟨_, hne⟩, hke, _⟩ => absurd hke hne⟩
      · rw [if_neg hkk, hg]
        constructor
        · rintro ⟨e, he, hke, hve⟩; exact ⟨e, ⟨he, fun h => hkk (inj _ _ (hke.symm.trans h))⟩, hke, hve⟩
        · rintro ⟨e, ⟨he, _⟩, hke, hve⟩; exact ⟨e, he, hke, hve⟩
end
end Go.Proofs.YteojlmpipfajoaaGreatDoor
