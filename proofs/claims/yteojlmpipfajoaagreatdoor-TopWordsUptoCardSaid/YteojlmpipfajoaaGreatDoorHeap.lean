/- Rows of bytes in memory, over whatever program: what a conversion of a string lays, a store into it, a conversion back. -/
import Derived.WalkKit
import Derived.WalkSpells
import Derived.WalkLawsBesides
import Derived.Handy
import Derived.Lib.Hide
import Derived.Lib.ConvBytes
import Derived.Maps.AppendAt
import Derived.Lib.Builder
import Derived.Lib.OthersKept
import Derived.Test.YteojlmpipfajoaaGreatDoorPlain
namespace Go.Proofs.YteojlmpipfajoaaGreatDoor
set_option linter.unusedVariables false
set_option linter.unusedSimpArgs false
open Go.RowKit

/-- The cells of block g from its head on are these bytes, none frozen. -/
def BRow (w : World) (g : Nat) (l : Bs) : Prop := ∀ j (h : j < l.length), w.cell? ⟨g, j, none⟩ = some (.int .u8 (l[j].toNat)) ∧ w.frozen? ⟨g, j, none⟩ = false

theorem BRow.cell {w : World} {g : Nat} {l : Bs} (h : BRow w g l) {j : Nat} (hj : j < l.length) : w.cell? ⟨g, j, none⟩ = some (.int .u8 (l[j].toNat)) := (h j hj).1
theorem BRow.free {w : World} {g : Nat} {l : Bs} (h : BRow w g l) {j : Nat} (hj : j < l.length) : w.frozen? ⟨g, j, none⟩ = false := (h j hj).2

theorem BRow.below {w w' : World} {g : Nat} {l : Bs} {B : Nat} (h : BRow w g l) (hb : Below B w w') (hg : g < B) : BRow w' g l :=
  fun j hj => ⟨(hb.cell (p := ⟨g, j, none⟩) hg).trans (h j hj).1, (hb.frozen (p := ⟨g, j, none⟩) hg).trans (h j hj).2⟩

theorem BRow.set {w : World} {g : Nat} {l : Bs} (h : BRow w g l) {k : Nat} (hk : k < l.length) (b : UInt8) : BRow (w.setCell ⟨g, k, none⟩ (.int .u8 b.toNat)) g (l.set k b) := by
  intro j hj
  rw [List.length_set] at hj
  refine ⟨?_, by rw [World.frozen?_setCell]; exact (h j hj).2⟩
  by_cases e : k = j
  · subst e
    rw [World.cell?_setCell_same _ _ _ (h k hk).1]
    simp
  · rw [World.cell?_setCell_other _ _ _ _ (by intro hh; exact e (congrArg Addr.off hh)), (h j hj).1, List.getElem_set_ne e]

/-- Beside what is frozen: the first bytes of a row that a conversion laid. -/
theorem brow_bytesWorld (w : World) (e : TypeId) (s : ByteArray) : BRow (Lib.bytesWorld w e s) w.heap.size s.data.toList := by
  intro j hj
  have hj' : j < s.size := by rw [Lib.size_eq]; exact hj
  refine ⟨?_, ?_⟩
  · rw [Lib.bytesWorld_cell _ _ _ _ hj', List.getD_eq_getElem?_getD, List.getElem?_eq_getElem hj]; rfl
  · have hs : s.size ≤ (Lib.bytesCells w e s).size := by rw [Lib.bytesCells, Array.size_append, Array.size_map, ByteArray.size_data]; exact Nat.le_add_right _ _
    simp only [World.frozen?, Lib.bytesWorld_at_new]
    simp only [Bool.and_eq_false_iff, decide_eq_false_iff_not]
    left; omega

theorem below_bytesWorld (w : World) (e : TypeId) (s : ByteArray) : Below w.heap.size w (Lib.bytesWorld w e s) := by
  refine ⟨?_, ?_, ?_, ?_, fun k hk => Lib.bytesWorld_at_old w e s k hk⟩
  · simp [Lib.bytesWorld, World.freeze, World.alloc, World.drew, -World.alloc_eq, -World.drew_eq]
  · simp [Lib.bytesWorld, World.freeze, World.alloc, World.drew, -World.alloc_eq, -World.drew_eq]
  · simp [Lib.bytesWorld, World.freeze, World.alloc, World.drew, -World.alloc_eq, -World.drew_eq]
  · rw [Lib.bytesWorld_size]; omega

/-- A list of which the first k are changed already. -/
def upto (f : UInt8 → UInt8) (l : Bs) (k : Nat) : Bs := (l.take k).map f ++ l.drop k
theorem upto_zero (f : UInt8 → UInt8) (l : Bs) : upto f l 0 = l := by simp [upto]
theorem upto_all (f : UInt8 → UInt8) (l : Bs) : upto f l l.length = l.map f := by simp [upto]
theorem upto_len (f : UInt8 → UInt8) (l : Bs) (k : Nat) : (upto f l k).length = l.length := by simp [upto]; omega
theorem upto_get (f : UInt8 → UInt8) (l : Bs) (k : Nat) (h : k < l.length) (h' : k < (upto f l k).length) : (upto f l k)[k] = l[k] := by
  simp only [upto]
  rw [List.getElem_append_right (by simp; omega)]
  simp [Nat.min_eq_left (Nat.le_of_lt h)]
theorem upto_set (f : UInt8 → UInt8) (l : Bs) (k : Nat) (h : k < l.length) : (upto f l k).set k (f l[k]) = upto f l (k + 1) := by
  simp only [upto]
  apply List.ext_getElem?
  intro j
  simp only [List.getElem?_set, List.getElem?_append, List.length_map, List.length_take, List.getElem?_map, List.getElem?_take, List.getElem?_drop, List.length_append, List.length_drop]
  by_cases hj : k = j
  · subst hj
    rw [if_pos rfl, if_pos (by omega), if_pos (by omega), if_pos (by omega), List.getElem?_eq_getElem h]; rfl
  · rw [if_neg hj]
    by_cases hj2 : j < k
    · rw [if_pos (by omega), if_pos (by omega), if_pos (by omega), if_pos (by omega)]
    · rw [if_neg (by omega), if_neg (by omega)]; congr 1; omega

section
variable {P : Program} {ops : Array Oper} {rest : List Oper} {o : Oper} {a : Act} {w : World} {Q : Exit → Act → World → Prop}

/-- '[]byte(s)'. -/
theorem wpList_bytes (hg : o.guard = none) (src dst e : TypeId) (x : Operand) (hop : o.op = Op.convert src dst x) (hs : P.underlying src = some .string) (hd : P.underlying dst = some (.slice e)) (he : P.underlying e = some (.int .u8))
    (l : Bs) (hx : a.eval x = .string ⟨l.toArray⟩)
    (hK : ∀ w1 cap, Below w.heap.size w w1 → w1.heap.size = w.heap.size + 1 → BRow w1 w.heap.size l → wpList P ops Q rest (a.put o.dst (.slice (some ⟨w.heap.size, 0, none⟩) l.length cap)) w1) :
    wpList P ops Q (o :: rest) a w := by
  refine wpList_plain hg fun K' hK' => ?_
  have h1 := Lib.run_convert_string_bytes w src dst e (⟨l.toArray⟩ : ByteArray) hs hd he
  have h2 := brow_bytesWorld w e (⟨l.toArray⟩ : ByteArray)
  unfold Oper.wp
  simp only [execOp, hop, hx]
  simp only [Sem.run_bind, h1, Result.andThen, Sem.run_pure, Oper.upon]
  exact hK' _ _ (hK _ _ (below_bytesWorld _ _ _) (Lib.bytesWorld_size _ _ _) h2)

/-- 'string(b)' of a row. -/
theorem run_back (src dst e : TypeId) (hs : P.underlying src = some (.slice e)) (he : P.underlying e = some (.int .u8)) (hd : P.underlying dst = some .string)
    {g cap n : Nat} {l : Bs} (h : BRow w g l) (hn : n = l.length) : (convert src dst (.slice (some ⟨g, 0, none⟩) n cap)).run P w = .ok (.string ⟨l.toArray⟩) w := by
  subst hn
  exact run_convert_bytes_back w src dst e ⟨g, 0, none⟩ cap l hs he hd (fun j hj => by have := (h j hj).1; simp only [Addr.add]; rcases j with _ | j <;> simpa using this)

/-- 'append(s, x)' of one element of one cell, s nil or the call's own. -/
theorem wpList_push (hgd : o.guard = none) (s xo : Operand) (t : TypeId) (ho : o.op = .call { callee := .builtin .append, args := #[s, xo], argTypes := #[t, t] })
    (base : Nat) (e : TypeId) (z : Value) (bytes : Nat) (ht : P.underlying t = some (.slice e)) (hi : (P.info? e).map (fun i => (i.zero, i.size, i.bytes)) = some (some z, 1, bytes)) (hz : z.cells.size = 1)
    (v : Value) (n : Nat) (xs : List Value) (hs : a.eval s = v) (hown : w.ownsRow base e 1 v n xs)
    (x : Value) (t' : TypeId) (hx : a.eval xo = .slice (some ⟨w.heap.size, 0, none⟩) 1 1) (hx1 : x.oneCell' = true)
    (hn : n + 1 ≤ maxLen) (hbytes : (n + 1) * bytes ≤ 140737488355328) (hbase : base ≤ w.heap.size)
    (h : ∀ g cap w', base ≤ g → w'.ownsRow base e 1 (.slice (some ⟨g, 0, none⟩) (n + 1) cap) (n + 1) (xs ++ [x]) → Below base w w' → (v.ownBlock = some g ∨ w.heap.size ≤ g) → wpList P ops Q rest (a.put o.dst (.slice (some ⟨g, 0, none⟩) (n + 1) cap)) w') :
    wpList P ops Q (o :: rest) a (w.alloc (.cells #[x] t')) := by
  obtain ⟨i0, hi0, hz0, hz1, hz2⟩ := info_parts hi
  refine wpList_append_own_at _ hgd s xo t ho base e i0 z 1 bytes ht hi0 hz0 hz1 hz2 hz (by decide) v n xs hs (hown.alloc _) ⟨w.heap.size, 0, none⟩ 1 1 [x] hx rfl (cell_one_new _ _ _) (by simpa using hx1) hn hbytes (by simp; omega) ?_
  intro v' w1 hown' hgrow hnil hloc
  have hb : Below base w w1 := (((Below.refl base w).alloc hbase _).grown hgrow (by simp; omega) (fun k hk => (hown.lt k hk).1))
  rcases hown'.2 with ⟨_, h0⟩ | ⟨g, cap, cur, rfl, hg, _⟩
  · omega
  · refine h g cap w1 hg hown' hb ?_
    rcases hloc with hl | hl
    · left; rw [← hl]; rfl
    · right; simp [Value.ownBlock] at hl; omega

/-- 'append(s, x)' of one element of two cells, s nil or the call's own. -/
theorem wpList_push2 (hgd : o.guard = none) (s xo : Operand) (t : TypeId) (ho : o.op = .call { callee := .builtin .append, args := #[s, xo], argTypes := #[t, t] })
    (base : Nat) (e : TypeId) (z : Value) (bytes : Nat) (ht : P.underlying t = some (.slice e)) (hi : (P.info? e).map (fun i => (i.zero, i.size, i.bytes)) = some (some z, 2, bytes)) (hz : z.cells.size = 2)
    (v : Value) (n : Nat) (xs : List Value) (hs : a.eval s = v) (hown : w.ownsRow base e 2 v n xs)
    (x y : Value) (m : Nat) (hm : w.heap.size = m) (hx : a.eval xo = .slice (some ⟨m, 0, none⟩) 1 1) (hx1 : x.oneCell' = true) (hy1 : y.oneCell' = true)
    (hn : n + 1 ≤ maxLen) (hbytes : (n + 1) * bytes ≤ 140737488355328) (hbase : base ≤ w.heap.size)
    (h : ∀ g cap w', base ≤ g → w'.ownsRow base e 2 (.slice (some ⟨g, 0, none⟩) (n + 1) cap) (n + 1) (xs ++ [x, y]) → Below base w w' → Lib.OthersKept e none w w' → wpList P ops Q rest (a.put o.dst (.slice (some ⟨g, 0, none⟩) (n + 1) cap)) w') :
    wpList P ops Q (o :: rest) a (w.alloc (.cells #[x, y] e)) := by
  subst hm
  obtain ⟨i0, hi0, hz0, hz1, hz2⟩ := info_parts hi
  have hown1 := hown.alloc (.cells #[x, y] e)
  refine wpList_append_own_at _ hgd s xo t ho base e i0 z 2 bytes ht hi0 hz0 hz1 hz2 hz (by decide) v n xs hs hown1 ⟨w.heap.size, 0, none⟩ 1 1 [x, y] hx rfl (fun j u hj => ?_) (by simp [hx1, hy1]) hn hbytes (by simp; omega) ?_
  · have hb := heap_alloc_new w (.cells #[x, y] e)
    match j, hj with
    | 0, hj => simp at hj; subst hj; rw [show ((⟨w.heap.size, 0, none⟩ : Addr).add 0) = ⟨w.heap.size, 0, none⟩ from rfl]; simp only [World.cell?, hb]; rfl
    | 1, hj => simp at hj; subst hj; rw [show ((⟨w.heap.size, 0, none⟩ : Addr).add 1) = ⟨w.heap.size, 1, none⟩ from rfl]; simp only [World.cell?, hb]; rfl
    | j + 2, hj => simp at hj
  intro v' w1 hown' hgrow hnil hloc
  have hb : Below base w w1 := (((Below.refl base w).alloc hbase _).grown hgrow (by simp; omega) (fun k hk => (hown.lt k hk).1))
  have hok : Lib.OthersKept e none w w1 := ((Lib.OthersKept.refl e none w).alloc _).grown hgrow (fun g hg => by
    rcases hown1.2 with ⟨rfl, _⟩ | ⟨g', cap, cur, rfl, _, hh, _⟩
    · simp [Value.ownBlock] at hg
    · simp [Value.ownBlock] at hg; subst hg; exact ⟨_, _, hh⟩)
  rcases hown'.2 with ⟨_, h0⟩ | ⟨g, cap, cur, rfl, hg, _⟩
  · omega
  · exact h g cap w1 hg hown' hb hok

theorem byteCells_snoc (l : Bs) (b : UInt8) : Lib.byteCells l ++ [.int .u8 b.toNat] = Lib.byteCells (l ++ [b]) := by simp [Lib.byteCells]
theorem byteCells_len (l : Bs) : (Lib.byteCells l).length = l.length := by simp [Lib.byteCells]

/-- 'string(b)' of a slice of bytes that the call owns, nil too. -/
theorem run_back_own (src dst e : TypeId) (hs : P.underlying src = some (.slice e)) (he : P.underlying e = some (.int .u8)) (hd : P.underlying dst = some .string)
    {base : Nat} {v : Value} {l : Bs} (h : w.ownsRow base e 1 v l.length (Lib.byteCells l)) : (convert src dst v).run P w = .ok (.string ⟨l.toArray⟩) w := by
  rcases h.2 with ⟨rfl, h0⟩ | ⟨g, cap, cur, rfl, hg, _⟩
  · obtain rfl : l = [] := List.length_eq_zero_iff.1 h0
    rw [run_convert_bytes_string w src dst e none 0 0 hs he hd]
    rfl
  · refine run_convert_bytes_back w src dst e ⟨g, 0, none⟩ cap l hs he hd (fun j hj => ?_)
    exact h.cells (g := g) rfl j _ (by simp [Lib.byteCells, hj])
end
end Go.Proofs.YteojlmpipfajoaaGreatDoor
