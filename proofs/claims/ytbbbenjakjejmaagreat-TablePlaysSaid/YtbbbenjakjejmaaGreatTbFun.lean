/- Tables: 'New', 'kind', 'at'. -/
import Derived.Test.YtbbbenjakjejmaaGreatTbRep2
import Derived.Deep.RegionHeld3
import Derived.Deep.RegionWith
namespace Go.Proofs.YtbbbenjakjejmaaGreat
set_option linter.unusedVariables false
set_option linter.unusedSimpArgs false
open Go.RowKit Go.MapKept Go.WideMaps

theorem tNew_any (w : World) : Calls Tryz.prog 6 #[] w fun e w' => ∃ tb mn mh mk who cb, e = .returned (.pointer (some ⟨tb, 0, none⟩)) ∧ Tb w' w.heap.size tb mn mh mk who cb newT ∧ Below w.heap.size w w' := by
  have hmk := fun W : World => run_makeMap (P := Tryz.prog) (w := W) 43
  have hmk2 := fun W : World => run_makeMap (P := Tryz.prog) (w := W) 44
  go_enter Tryz.func6, Tryz.ntmps6
  go_wp2
  go_ret
  obtain ⟨W, hW⟩ : ∃ W, (((w.alloc (.map #[] 0)).alloc (.map #[] 0)).alloc (.map #[] 0)).alloc (.cells #[.map (some w.heap.size), .map (some (w.heap.size + 1)), .map (some (w.heap.size + 2)), .int .i64 0, .int .i64 0] 46) = W := ⟨_, rfl⟩
  have h0 : W.heap[w.heap.size]? = some (.map #[] 0) := by
    rw [← hW, Below.heap_alloc _ _ _ (by simp <;> omega), Below.heap_alloc _ _ _ (by simp <;> omega), Below.heap_alloc _ _ _ (by simp <;> omega)]; exact heap_alloc_new w _
  have h1 : W.heap[w.heap.size + 1]? = some (.map #[] 0) := by
    rw [← hW, Below.heap_alloc _ _ _ (by simp <;> omega), Below.heap_alloc _ _ _ (by simp <;> omega)]
    have := heap_alloc_new (w.alloc (.map #[] 0)) (.map #[] 0)
    simpa using this
  have h2 : W.heap[w.heap.size + 2]? = some (.map #[] 0) := by
    rw [← hW, Below.heap_alloc _ _ _ (by simp)]
    have := heap_alloc_new ((w.alloc (.map #[] 0)).alloc (.map #[] 0)) (.map #[] 0)
    simpa using this
  have h3 : W.heap[w.heap.size + 3]? = some (.cells #[.map (some w.heap.size), .map (some (w.heap.size + 1)), .map (some (w.heap.size + 2)), .int .i64 0, .int .i64 0] 46 (0, 0)) := by
    rw [← hW]
    have := heap_alloc_new (((w.alloc (.map #[] 0)).alloc (.map #[] 0)).alloc (.map #[] 0)) (.cells #[.map (some w.heap.size), .map (some (w.heap.size + 1)), .map (some (w.heap.size + 2)), .int .i64 0, .int .i64 0] 46)
    simpa using this
  have hsz : W.heap.size = w.heap.size + 4 := by rw [← hW]; simp
  have hB : Below w.heap.size w W := by
    rw [← hW]
    exact ((((Below.refl _ w).alloc (Nat.le_refl _) _).alloc (by simp) _).alloc (by simp <;> omega) _).alloc (by simp <;> omega) _
  have hmap : ∀ {ι : Type} (kt : TypeId) (enc : ι → Value) (b : Nat), W.heap[b]? = some (.map #[] 0) → MapAt Tryz.prog kt enc W b (fun _ => none) := fun kt enc b h => ⟨#[], 0, h, stamped_empty 0, by simp, by simp⟩
  refine ⟨w.heap.size + 3, w.heap.size, w.heap.size + 1, w.heap.size + 2, fun j => if j = w.heap.size + 3 then some (0, 0) else if j = w.heap.size then some (1, 0) else if j = w.heap.size + 1 then some (1, 1) else if j = w.heap.size + 2 then some (1, 2) else none, fun _ => 0, by simp, ?_, ?_⟩
  · have hT : Tb W w.heap.size (w.heap.size + 3) w.heap.size (w.heap.size + 1) (w.heap.size + 2) (fun j => if j = w.heap.size + 3 then some (0, 0) else if j = w.heap.size then some (1, 0) else if j = w.heap.size + 1 then some (1, 1) else if j = w.heap.size + 2 then some (1, 2) else none) (fun _ => 0) newT := by
      refine ⟨h3, by simp, by simp, by simp, by simp, hmap _ _ _ h0, hmap _ _ _ h1, ?_, (fun n c hc => nomatch hc), fun j hj => ?_⟩
      · have e : (fun i : Int => (newT.num i).map fun n => ptrC ((fun _ => 0) n)) = fun _ => none := by
          funext i
          simp [TS.num, newT]
        rw [e]
        exact hmap _ _ _ h2
      · rw [hsz]
        split at hj
        · omega
        · split at hj
          · omega
          · split at hj
            · omega
            · split at hj
              · omega
              · exact absurd rfl hj
    rw [← hW] at hT
    exact hT
  · rw [← hW] at hB
    exact hB
section
variable {w : World} {B tb mn mh mk : Nat} {who : Own} {cb : Nat → Nat} {S : TS}
theorem kind_any (h : Tb w B tb mn mh mk who cb S) (hid : Bool) : Calls Tryz.prog 55 #[.pointer (some ⟨tb, 0, none⟩), .bool hid] w fun e w' => e = .returned (.map (some (kindB mn mh hid))) ∧ w = w' := by
  obtain ⟨c0, c1, _⟩ := h.cells
  cases hid
  · go_enter Tryz.func55, Tryz.ntmps55
    go_wp2
    go_ret
    exact ⟨rfl, rfl⟩
  · go_enter Tryz.func55, Tryz.ntmps55
    go_wp2
    go_ret
    exact ⟨rfl, rfl⟩
theorem at_any (h : Tb w B tb mn mh mk who cb S) {i : Int} (hi : (Lit.int .i64 i).wf = true) : Calls Tryz.prog 44 #[.pointer (some ⟨tb, 0, none⟩), .int .i64 i] w fun e w' => e = .returned (ptrM cb (S.num i)) ∧ w = w' := by
  obtain ⟨c0, c1, c2, _⟩ := h.cells
  have hl := h.lookNum hi
  generalize ptrM cb (S.num i) = r at *
  go_enter Tryz.func44, Tryz.ntmps44
  go_wp2
  go_ret
  exact ⟨rfl, rfl⟩
end
end Go.Proofs.YtbbbenjakjejmaaGreat
