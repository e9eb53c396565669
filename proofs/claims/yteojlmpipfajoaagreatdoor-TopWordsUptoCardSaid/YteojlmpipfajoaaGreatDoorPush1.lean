/- Appends of one element with a frame; a map's 'm[k]' with ok, 'm[k] = v' (out of layer 15's texts). -/
import Derived.Test.YteojlmpipfajoaaGreatDoorVMap
import Derived.Test.YteojlmpipfajoaaGreatDoorPKp
import Derived.OwnWalk
import Derived.Laws.EntriesVeiled
namespace Go.Proofs.YteojlmpipfajoaaGreatDoor
set_option linter.unusedVariables false
set_option linter.unusedSimpArgs false
open Go.RowKit
open Go.MapKept
open Go.Maps (Keyed)

section
variable {P : Program} {ops : Array Oper} {rest : List Oper} {o : Oper} {a : Act} {w : World} {Q : Exit → Act → World → Prop}
theorem wpList_push1 (hgd : o.guard = none) (s xo : Operand) (t : TypeId) (ho : o.op = .call { callee := .builtin .append, args := #[s, xo], argTypes := #[t, t] })
    (base : Nat) (e : TypeId) (z : Value) (bytes : Nat) (ht : P.underlying t = some (.slice e)) (hi : (P.info? e).map (fun i => (i.zero, i.size, i.bytes)) = some (some z, 1, bytes)) (hz : z.cells.size = 1)
    (v : Value) (n : Nat) (xs : List Value) (hs : a.eval s = v) (hown : w.ownsRow base e 1 v n xs)
    (x : Value) (m : Nat) (hm : w.heap.size = m) (hx : a.eval xo = .slice (some ⟨m, 0, none⟩) 1 1) (hx1 : x.oneCell' = true)
    (hn : n + 1 ≤ maxLen) (hbytes : (n + 1) * bytes ≤ 140737488355328) (hbase : base ≤ w.heap.size)
    (h : ∀ g cap w', base ≤ g → w'.ownsRow base e 1 (.slice (some ⟨g, 0, none⟩) (n + 1) cap) (n + 1) (xs ++ [x]) → Kp v.ownBlock.toList w w' → (v.ownBlock = some g ∨ w.heap.size ≤ g) → wpList P ops Q rest (a.put o.dst (.slice (some ⟨g, 0, none⟩) (n + 1) cap)) w') :
    wpList P ops Q (o :: rest) a (w.alloc (.cells #[x] e)) := by
  subst hm
  obtain ⟨i0, hi0, hz0, hz1, hz2⟩ := info_parts hi
  have hown1 := hown.alloc (.cells #[x] e)
  refine wpList_append_own_at _ hgd s xo t ho base e i0 z 1 bytes ht hi0 hz0 hz1 hz2 hz (by decide) v n xs hs hown1 ⟨w.heap.size, 0, none⟩ 1 1 [x] hx rfl (cell_one_new _ _ _) (fun u hu => by simp at hu; subst hu; exact hx1) hn hbytes (by simp; omega) ?_
  intro v' w1 hown' hgrow hnil hloc
  have hk : Kp v.ownBlock.toList w w1 := ((Kp.refl _ w).alloc _).grown hgrow (fun b hb => by rw [hb]; simp)
  rcases hown'.2 with ⟨_, h0⟩ | ⟨g, cap, cur, rfl, hg, _⟩
  · omega
  · exact h g cap w1 hg hown' hk (by rcases hloc with e | e; exact .inl e.symm; exact .inr (by simp [Value.ownBlock] at e; omega))
end

/-- A row stays. -/
theorem ownsRow_kp {w w' : World} {B : Nat} {e : TypeId} {v : Value} {n : Nat} {xs : List Value} (h : w.ownsRow B e 1 v n xs) {D : List Nat} (hk : Kp D w w') (hd : ∀ b, v.ownBlock = some b → b ∉ D) : w'.ownsRow B e 1 v n xs := by
  refine ⟨h.1, ?_⟩
  rcases h.2 with h0 | ⟨g, cap, cur, rfl, hb, hg, rest⟩
  · exact .inl h0
  · exact .inr ⟨g, cap, cur, rfl, hb, (hk.block g (Array.getElem?_eq_some_iff.1 hg).1 (hd g rfl)).trans hg, rest⟩
theorem ownsRow_type {w : World} {B : Nat} {e : TypeId} {v : Value} {n : Nat} {xs : List Value} (h : w.ownsRow B e 1 v n xs) : ∀ b, v.ownBlock = some b → B ≤ b ∧ ∃ cur, w.heap[b]? = some (.cells cur e (0, 0)) := by
  intro b hb
  rcases h.2 with ⟨rfl, _⟩ | ⟨g, cap, cur, rfl, hB, hg, _⟩
  · simp [Value.ownBlock] at hb
  · simp [Value.ownBlock] at hb; subst hb; exact ⟨hB, cur, hg⟩
theorem ne_of_type {w : World} {a b : Nat} {x y : Array Value} {t u : TypeId} {f g : Nat × Nat} (h : w.heap[a]? = some (.cells x t f)) (k : w.heap[b]? = some (.cells y u g)) (hn : t ≠ u) : a ≠ b := by
  rintro rfl; rw [h] at k; simp at k; exact hn k.2.1

theorem look_ok {P : Program} {kt et t : TypeId} {ι : Type} {enc : ι → Value} {w : World} {b : Nat} {g : ι → Option Value} (h : MapAt P kt enc w b g) (K : Maps.Keyed P kt) (ht : P.underlying t = some (.map kt et)) {z : Value} (hz : (zeroValue et).run P w = .ok z w) {k : ι} {l : Lit} (hk : keyOf P kt (enc k) = some l) :
    (Instr.lookup t (.map (some b)) (enc k) true).run P w = .ok (.tuple #[(g k).getD z, .bool (g k).isSome]) w := by
  obtain ⟨es, clock, hb, hs, hkeys, hg⟩ := h
  rcases K.find w hk es.toList (fun e he => by obtain ⟨k', l', _, h⟩ := hkeys e he; exact ⟨l', h⟩) with ⟨h1, h2⟩ | ⟨j, e0, h1, h2, h3⟩
  · have : g k = none := by
      cases hgk : g k with
      | none => rfl
      | some v => obtain ⟨e, he, hke, _⟩ := (hg k v).1 hgk; exact absurd hke (h2 e he)
    rw [this]
    simp [Instr.lookup, run_underlying ht, MapKept.run_getObj_map hb, K.check w _ hk, h1, hz, Result.andThen]
  · have : g k = some e0.val := (hg k e0.val).2 ⟨e0, List.mem_of_getElem? h2, h3, rfl⟩
    rw [this]
    simp [Instr.lookup, run_underlying ht, MapKept.run_getObj_map hb, K.check w _ hk, h1, Result.andThen]

theorem wpList_store {P : Program} {ops : Array Oper} {rest : List Oper} {o : Oper} {a : Act} {w : World} {Q : Exit → Act → World → Prop} {kt et t : TypeId} {ι : Type} [DecidableEq ι] {enc : ι → Value} {b : Nat} {g : ι → Option Value}
    (hg : o.guard = none) (m x v : Operand) (hop : o.op = .mapUpdate t m x v) (K : Keyed P kt) (ht : P.underlying t = some (.map kt et)) (inj : ∀ a b : ι, enc a = enc b → a = b)
    (hown : MapAt P kt enc w b g) (k : ι) {l : Lit} (hk : keyOf P kt (enc k) = some l) (val : Value) (hm : a.eval m = .map (some b)) (hx : a.eval x = enc k) (hv : a.eval v = val)
    (hK : ∀ w', Only b w w' → MapAt P kt enc w' b (fun k' => if k' = k then some val else g k') → wpList P ops Q rest (a.put o.dst undef) w') : wpList P ops Q (o :: rest) a w := by
  refine wpList_plain hg fun K' hK' => ?_
  obtain ⟨w', hrun, r1, r2⟩ := hown.store K ht inj hk val
  unfold Oper.wp
  simp [execOp, hop, hm, hx, hv, hrun, Result.andThen]
  exact hK' _ _ (hK w' r1 r2)

end Go.Proofs.YteojlmpipfajoaaGreatDoor
