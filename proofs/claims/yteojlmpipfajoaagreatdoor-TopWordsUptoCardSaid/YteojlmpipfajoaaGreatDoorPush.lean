/- 'append(s, x)' of one element of k cells, s nil or the call's own. -/
import Derived.Test.YteojlmpipfajoaaGreatDoorHeap
namespace Go.Proofs.YteojlmpipfajoaaGreatDoor
set_option linter.unusedVariables false
set_option linter.unusedSimpArgs false
open Go.RowKit
section
variable {P : Program} {ops : Array Oper} {rest : List Oper} {o : Oper} {a : Act} {w : World} {Q : Exit → Act → World → Prop}

theorem row_new (w : World) (ys : List Value) (e : TypeId) : ∀ j u, ys[j]? = some u → (w.alloc (.cells ys.toArray e)).cell? ((⟨w.heap.size, 0, none⟩ : Addr).add j) = some u := by
  intro j u hj
  have hb := heap_alloc_new w (.cells ys.toArray e)
  rw [show ((⟨w.heap.size, 0, none⟩ : Addr).add j) = ⟨w.heap.size, j, none⟩ from by cases j <;> simp [Addr.add]]
  simp only [World.cell?, hb]
  simpa using hj

theorem wpList_pushK (hgd : o.guard = none) (s xo : Operand) (t : TypeId) (ho : o.op = .call { callee := .builtin .append, args := #[s, xo], argTypes := #[t, t] })
    (base : Nat) (e : TypeId) (z : Value) (k bytes : Nat) (ht : P.underlying t = some (.slice e)) (hi : (P.info? e).map (fun i => (i.zero, i.size, i.bytes)) = some (some z, k, bytes)) (hz : z.cells.size = k) (hk : 0 < k)
    (v : Value) (n : Nat) (xs : List Value) (hs : a.eval s = v) (hown : w.ownsRow base e k v n xs)
    (ys : List Value) (hyl : ys.length = k) (m : Nat) (hm : w.heap.size = m) (hx : a.eval xo = .slice (some ⟨m, 0, none⟩) 1 1) (hy1 : ys.all (fun u => u.oneCell') = true)
    (hn : n + 1 ≤ maxLen) (hbytes : (n + 1) * bytes ≤ 140737488355328) (hbase : base ≤ w.heap.size)
    (h : ∀ g cap w', base ≤ g → w'.ownsRow base e k (.slice (some ⟨g, 0, none⟩) (n + 1) cap) (n + 1) (xs ++ ys) → Below base w w' → Lib.OthersKept e none w w' → wpList P ops Q rest (a.put o.dst (.slice (some ⟨g, 0, none⟩) (n + 1) cap)) w') :
    wpList P ops Q (o :: rest) a (w.alloc (.cells ys.toArray e)) := by
  subst hm
  obtain ⟨i0, hi0, hz0, hz1, hz2⟩ := info_parts hi
  have hown1 := hown.alloc (.cells ys.toArray e)
  refine wpList_append_own_at _ hgd s xo t ho base e i0 z k bytes ht hi0 hz0 hz1 hz2 hz hk v n xs hs hown1 ⟨w.heap.size, 0, none⟩ 1 1 ys hx (by rw [hyl, Nat.one_mul]) (row_new w ys e) (fun u hu => by simpa using List.all_eq_true.1 hy1 u hu) hn hbytes (by simp; omega) ?_
  intro v' w1 hown' hgrow hnil hloc
  have hb : Below base w w1 := (((Below.refl base w).alloc hbase _).grown hgrow (by simp; omega) (fun k hk => (hown.lt k hk).1))
  have hok : Lib.OthersKept e none w w1 := ((Lib.OthersKept.refl e none w).alloc _).grown hgrow (fun g hg => by
    rcases hown1.2 with ⟨rfl, _⟩ | ⟨g', cap, cur, rfl, _, hh, _⟩
    · simp [Value.ownBlock] at hg
    · simp [Value.ownBlock] at hg; subst hg; exact ⟨_, _, hh⟩)
  rcases hown'.2 with ⟨_, h0⟩ | ⟨g, cap, cur, rfl, hg, _⟩
  · omega
  · exact h g cap w1 hg hown' hb hok
end
end Go.Proofs.YteojlmpipfajoaaGreatDoor
