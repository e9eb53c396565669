/- The reference's dictionaries: find. The reference's dictionaries: once. The reference's dictionaries: Pairs. -/
import Derived.Test.YteojlmpipfajoaaGreatDoorRListM
import Derived.Test.YteojlmpipfajoaaGreatDoorBook15
import Derived.Deep.RegionLaw
namespace Go.Proofs.YteojlmpipfajoaaGreatDoor
set_option linter.unusedVariables false
set_option linter.unusedSimpArgs false
open Go.RowKit

/-- Where a key stands among pairs. -/
def findP : Prs → Bs → Option Nat
  | [], _ => none
  | p :: r, k => if p.1 = k then some 0 else (findP r k).map (· + 1)
def findI (ps : Prs) (k : Bs) : Int := match findP ps k with | some j => (2 * j + 1 : Nat) | none => -1
theorem find_lt : ∀ {ps : Prs} {k : Bs} {j : Nat}, findP ps k = some j → ∃ h : j < ps.length, ps[j].1 = k
  | [], _, _, h => by cases h
  | p :: r, k, j, h => by
    unfold findP at h
    split at h
    · rename_i hk; cases h; exact ⟨by simp, hk⟩
    · cases hf : findP r k with
      | none => rw [hf] at h; cases h
      | some i => rw [hf] at h; cases h; obtain ⟨h1, h2⟩ := find_lt hf; exact ⟨by simp; omega, by simpa using h2⟩
theorem flat_get : ∀ (ps : Prs) (j : Nat) (h : j < ps.length), (flatP ps)[2 * j]? = some ps[j].1 ∧ (flatP ps)[2 * j + 1]? = some ps[j].2
  | p :: r, 0, _ => ⟨rfl, rfl⟩
  | p :: r, j + 1, h => by
    have h' : j < r.length := by simp at h; omega
    have := flat_get r j h'
    rw [show 2 * (j + 1) = 2 * j + 2 by omega]
    exact this
theorem find_drop_hit {ps : Prs} {k : Bs} {j : Nat} (h : j < ps.length) (hk : ps[j].1 = k) : findP (ps.drop j) k = some 0 := by
  rw [List.drop_eq_getElem_cons h, findP, if_pos hk]
theorem find_drop_miss {ps : Prs} {k : Bs} {j : Nat} (h : j < ps.length) (hk : ps[j].1 ≠ k) : findP (ps.drop j) k = (findP (ps.drop (j + 1)) k).map (· + 1) := by
  rw [List.drop_eq_getElem_cons h, findP, if_neg hk]
end Go.Proofs.YteojlmpipfajoaaGreatDoor
namespace Go.Proofs.YteojlmpipfajoaaGreatDoor
set_option linter.unusedVariables false
set_option linter.unusedSimpArgs false
open Go.RowKit

section
variable {P : Program} {ops : Array Oper} {rest : List Oper} {o : Oper} {a : Act} {w : World} {Q : Exit → Act → World → Prop}
theorem wpList_pushTwo (hgd : o.guard = none) (s xo : Operand) (t : TypeId) (ho : o.op = .call { callee := .builtin .append, args := #[s, xo], argTypes := #[t, t] })
    (base : Nat) (e : TypeId) (z : Value) (bytes : Nat) (ht : P.underlying t = some (.slice e)) (hi : (P.info? e).map (fun i => (i.zero, i.size, i.bytes)) = some (some z, 1, bytes)) (hz : z.cells.size = 1)
    (v : Value) (n : Nat) (xs : List Value) (hs : a.eval s = v) (hown : w.ownsRow base e 1 v n xs)
    (x y : Value) (m : Nat) (hm : w.heap.size = m) (hx : a.eval xo = .slice (some ⟨m, 0, none⟩) 2 2) (hx1 : x.oneCell' = true) (hy1 : y.oneCell' = true)
    (hn : n + 2 ≤ maxLen) (hbytes : (n + 2) * bytes ≤ 140737488355328) (hbase : base ≤ w.heap.size)
    (h : ∀ g cap w', base ≤ g → w'.ownsRow base e 1 (.slice (some ⟨g, 0, none⟩) (n + 2) cap) (n + 2) (xs ++ [x, y]) → Below base w w' → wpList P ops Q rest (a.put o.dst (.slice (some ⟨g, 0, none⟩) (n + 2) cap)) w') :
    wpList P ops Q (o :: rest) a (w.alloc (.cells #[x, y] e)) := by
  subst hm
  obtain ⟨i0, hi0, hz0, hz1, hz2⟩ := info_parts hi
  have hown1 := hown.alloc (.cells #[x, y] e)
  refine wpList_append_own_at _ hgd s xo t ho base e i0 z 1 bytes ht hi0 hz0 hz1 hz2 hz (by decide) v n xs hs hown1 ⟨w.heap.size, 0, none⟩ 2 2 [x, y] hx rfl (fun j u hj => row_new w [x, y] e j u hj) (fun u hu => by rcases List.mem_cons.1 hu with rfl | hu; exact hx1; rw [List.mem_singleton.1 hu]; exact hy1) hn hbytes (by simp; omega) ?_
  intro v' w1 hown' hgrow hnil hloc
  have hb : Below base w w1 := ((Below.refl base w).alloc hbase _).grown hgrow (by simp; omega) (fun b hb => (ownsRow_type hown b hb).1)
  rcases hown'.2 with ⟨_, h0⟩ | ⟨g, cap, cur, rfl, hg, _⟩
  · omega
  · exact h g cap w1 hg hown' hb
end
/-- 'append' of two elements of one cell each, as one step of a region that draws its order. -/
theorem step_append_two {P : Program} {ops : Array Oper} {o : Oper} {a : Act} {w : World} {K : Act → World → Prop} {Q : Exit → Act → World → Prop} {E : Prop}
    (hg : o.guard = none) (s xo : Operand) (t : TypeId) (hop : o.op = Op.call { callee := Callee.builtin Builtin.append, args := #[s, xo], argTypes := #[t, t] })
    (base : Nat) (e : TypeId) (z : Value) (bytes : Nat) (ht : P.underlying t = some (.slice e)) (hi : (P.info? e).map (fun i => (i.zero, i.size, i.bytes)) = some (some z, 1, bytes)) (hz : z.cells.size = 1)
    (v : Value) (n : Nat) (xs : List Value) (hs : a.eval s = v) (w0 : World) (hown : w0.ownsRow base e 1 v n xs)
    (x y : Value) (hw : w = w0.alloc (.cells #[x, y] e)) (hx : a.eval xo = .slice (some ⟨w0.heap.size, 0, none⟩) 2 2) (hx1 : x.oneCell' = true) (hy1 : y.oneCell' = true)
    (hn : n + 2 ≤ maxLen) (hbytes : (n + 2) * bytes ≤ 140737488355328) (hbase : base ≤ w0.heap.size)
    (hK : ∀ g cap w', base ≤ g → w'.ownsRow base e 1 (.slice (some ⟨g, 0, none⟩) (n + 2) cap) (n + 2) (xs ++ [x, y]) → Below base w0 w' → K (a.put o.dst (.slice (some ⟨g, 0, none⟩) (n + 2) cap)) w') :
    if Region.wanted o (yielded ops a.tmps) = true then Oper.wp P o a w K Q else E := by
  subst hw
  have hwn : Region.wanted o (yielded ops a.tmps) = true := by simp [Region.wanted, hg]
  rw [if_pos hwn]
  obtain ⟨i0, hi0, hz0, hz1, hz2⟩ := info_parts hi
  obtain ⟨v', w', hrun, r1, r2, _, _⟩ := run_append_own_at (P := P) (w := w0.alloc (.cells #[x, y] e)) base t o.type e i0 z 1 bytes ht hi0 hz0 hz1 hz2 hz (by decide) v n xs (hown.alloc (.cells #[x, y] e)) ⟨w0.heap.size, 0, none⟩ 2 2 [x, y] rfl (fun j u hj => row_new w0 [x, y] e j u hj) (fun u hu => by rcases List.mem_cons.1 hu with rfl | hu; exact hx1; rw [List.mem_singleton.1 hu]; exact hy1) hn hbytes (by simp; omega)
  unfold Oper.wp
  simp [execOp, hop, resolve, invoke, builtin, hs, hx, hrun, Result.andThen]
  have hb : Below base w0 w' := ((Below.refl base w0).alloc hbase _).grown r2 (by simp; omega) (fun b hb => (ownsRow_type hown b hb).1)
  rcases r1.2 with ⟨_, h0⟩ | ⟨g, cap, cur, rfl, hg', _⟩
  · omega
  · exact hK g cap w' hg' r1 hb
theorem row_set {w : World} {base : Nat} {e : TypeId} {g n cap i : Nat} {xs : List Value} (x : Value) (h : w.ownsRow base e 1 (.slice (some ⟨g, 0, none⟩) n cap) n xs) (hi : i < n) :
    w.frozen? ⟨g, i, none⟩ = false ∧ (∃ u, w.cell? ⟨g, i, none⟩ = some u) ∧ (w.setCell ⟨g, i, none⟩ x).ownsRow base e 1 (.slice (some ⟨g, 0, none⟩) n cap) n (xs.set i x) := by
  rcases h.2 with ⟨h0, _⟩ | ⟨g', cap', cur, he, hb, hg, h1, h2, h3, h4⟩
  · cases h0
  · cases he
    refine ⟨by simp [World.frozen?, hg], ⟨cur[i]'(by omega), by simp [World.cell?, hg]⟩, by simpa using h.1, .inr ⟨g, cap, cur.setIfInBounds i x, rfl, hb, ?_, h1, h2, by simpa using h3, ?_⟩⟩
    · rw [setCell_eq_setRow w g i _ e (0, 0) x hg]
      exact setRow_heap w g _ _ e (0, 0) hg
    · rw [← h4]
      rw [Array.toList_setIfInBounds, List.take_set]
theorem flat_set : ∀ (ps : Prs) (k x : Bs) (j : Nat), findP ps k = some j → flatP (setP ps k x) = (flatP ps).set (2 * j + 1) x
  | [], _, _, _, h => by cases h
  | p :: r, k, x, j, h => by
    unfold findP at h
    rw [setP]
    split at h
    · rename_i hk; cases h; rw [if_pos hk]; simp [flatP, hk]
    · rename_i hk
      rw [if_neg hk]
      cases hf : findP r k with
      | none => rw [hf] at h; cases h
      | some i =>
        rw [hf] at h; cases h
        rw [flatP, flatP, flat_set r k x i hf, show 2 * (i + 1) + 1 = (2 * i + 1) + 1 + 1 by omega]
        rfl
theorem flat_new : ∀ (ps : Prs) (k x : Bs), findP ps k = none → flatP (setP ps k x) = flatP ps ++ [k, x]
  | [], _, _, _ => rfl
  | p :: r, k, x, h => by
    unfold findP at h
    rw [setP]
    split at h
    · cases h
    · rename_i hk
      rw [if_neg hk]
      cases hf : findP r k with
      | none => rw [flatP, flatP, flat_new r k x hf]; rfl
      | some i => rw [hf] at h; cases h
end Go.Proofs.YteojlmpipfajoaaGreatDoor
namespace Go.Proofs.YteojlmpipfajoaaGreatDoor
set_option linter.unusedVariables false
set_option linter.unusedSimpArgs false
open Go.RowKit

/-- What 'Pairs' of the reference gives. -/
def RPrs (w : World) (s : Bs) (r : Value) (err : Int) (w' : World) : Prop := Below w.heap.size w w' ∧ ((readC s = none ∧ err = 11 ∧ r = .slice none 0 0) ∨ ∃ ps, readC s = some ps ∧ err = 0 ∧ w'.ownsRow w.heap.size 9 1 r (flatP ps).length ((flatP ps).map sv))
end Go.Proofs.YteojlmpipfajoaaGreatDoor
