/- Rows of texts, over any program: out of layer 04's texts (mkNBase.py). -/
import Derived.Test.YtjgdfgpnmmkjfaaGreatDoorLeaf
import Derived.Test.YtjgdfgpnmmkjfaaGreatDoorHeap
import Derived.Test.YtjgdfgpnmmkjfaaGreatDoorPush1
import Derived.RangeFuncRecord
import Derived.Deep.LoopGhost
import Derived.IntWalk
import Derived.BigQuiet
import Derived.Deep.QuietTactic
namespace Go.Proofs.YtjgdfgpnmmkjfaaGreatDoor
set_option linter.unusedVariables false
set_option linter.unusedSimpArgs false
open Go.RowKit Go.MapKept Go.WideMaps
open Go.Maps (Keyed string_keyed)

theorem ba_append (a b : Bs) : (⟨a.toArray⟩ : ByteArray) ++ ⟨b.toArray⟩ = ⟨(a ++ b).toArray⟩ := by
  apply ByteArray.ext
  simp
def sv (b : Bs) : Value := .string ⟨b.toArray⟩
def TxtRow (w : World) (v : Value) (ss : List Bs) : Prop := ∃ o c, v = .slice o ss.length c ∧ ss.length ≤ c ∧ c ≤ maxLen ∧ ∀ i (h : i < ss.length), ∃ b off, o = some ⟨b, off, none⟩ ∧ b < w.heap.size ∧ w.cell? ⟨b, off + i, none⟩ = some (sv ss[i])
theorem TxtRow.below {w w' : World} {v : Value} {ss : List Bs} (h : TxtRow w v ss) (hb : Below w.heap.size w w') : TxtRow w' v ss := by
  obtain ⟨o, c, h1, h2, h3, h4⟩ := h
  refine ⟨o, c, h1, h2, h3, fun i hi => ?_⟩
  obtain ⟨b, off, e, hl, hc⟩ := h4 i hi
  exact ⟨b, off, e, Nat.lt_of_lt_of_le hl hb.size, (hb.cell (p := ⟨b, off + i, none⟩) hl).trans hc⟩
theorem TxtRow.of_owns {w : World} {base : Nat} {v : Value} {ss : List Bs} (h : w.ownsRow base 9 1 v ss.length (ss.map sv)) : TxtRow w v ss := by
  rcases h.2 with ⟨h0, hl⟩ | ⟨g, cap, cur, rfl, hb, hg, h1, h2, h3, h4⟩
  · subst h0
    refine ⟨none, 0, ?_, by omega, by unfold maxLen; omega, fun i hi => by omega⟩
    rw [hl]
  · refine ⟨_, cap, rfl, h1, h2, fun i hi => ⟨g, 0, rfl, (Array.getElem?_eq_some_iff.1 hg).1, ?_⟩⟩
    have hj : (ss.map sv)[i]? = some (sv ss[i]) := by rw [List.getElem?_map, List.getElem?_eq_getElem hi]; rfl
    rw [← h4, List.getElem?_take, if_pos (by omega)] at hj
    simp only [World.cell?, hg, Nat.zero_add]
    simpa using hj
theorem TxtRow.nil (w : World) : TxtRow w (.slice none 0 0) [] := ⟨none, 0, rfl, Nat.le_refl _, by unfold maxLen; omega, fun i hi => by simp at hi⟩
theorem TxtRow.at_ {w : World} {o : Option Addr} {n c : Nat} {ss : List Bs} (h : TxtRow w (.slice o n c) ss) : n = ss.length ∧ ss.length ≤ c ∧ c ≤ maxLen ∧ ∀ i (h : i < ss.length), ∃ b off, o = some ⟨b, off, none⟩ ∧ b < w.heap.size ∧ w.cell? ⟨b, off + i, none⟩ = some (sv ss[i]) := by
  obtain ⟨o', c', h1, h2, h3, h4⟩ := h
  cases h1
  exact ⟨rfl, h2, h3, h4⟩
theorem row_slice {W : World} {base : Nat} {e : TypeId} {v : Value} {n : Nat} {xs : List Value} (h : W.ownsRow base e 1 v n xs) (hn : 0 < n) : ∃ g c, v = .slice (some ⟨g, 0, none⟩) n c ∧ n ≤ c ∧ c ≤ maxLen ∧ g < W.heap.size := by
  rcases h.2 with ⟨_, h0⟩ | ⟨g, cap, cur, rfl, _, hg, h1, h2, _⟩
  · omega
  · exact ⟨g, cap, rfl, h1, h2, (Array.getElem?_eq_some_iff.1 hg).1⟩
theorem sv_inj (a b : Bs) (h : sv a = sv b) : a = b := by
  injection h with h
  injection h with h
  simpa using congrArg Array.toList h
theorem Skeyed : Keyed Tryz.prog 9 := string_keyed Tryz.underlying9
theorem skey {s : Bs} (hs : s.length ≤ maxLen) : keyOf Tryz.prog 9 (sv s) = some (.string s) := WideMaps.keyOf_string_mk Tryz.underlying9 (by simpa [ByteArray.size] using hs)
theorem TxtRow.len {w : World} {v : Value} {ss : List Bs} (h : TxtRow w v ss) : ∃ o c, v = .slice o ss.length c := by
  obtain ⟨o, c, e, _⟩ := h
  exact ⟨o, c, e⟩
theorem row_shape {W : World} {base : Nat} {e : TypeId} {v : Value} {n : Nat} {xs : List Value} (h : W.ownsRow base e 1 v n xs) : ∃ o c, v = .slice o n c := by
  rcases h.2 with ⟨rfl, rfl⟩ | ⟨g, cap, cur, rfl, _⟩
  · exact ⟨_, _, rfl⟩
  · exact ⟨_, _, rfl⟩
theorem owns_slice {w : World} {base : Nat} {e : TypeId} {size n : Nat} {v : Value} {xs : List Value} (h : w.ownsRow base e size v n xs) : ∃ ao cap, v = .slice ao n cap := by
  rcases h.2 with ⟨rfl, rfl⟩ | ⟨g, cap, cur, rfl, _⟩
  · exact ⟨_, _, rfl⟩
  · exact ⟨_, _, rfl⟩
theorem infoStr : (Tryz.prog.info? 9).map (fun i => (i.zero, i.size, i.bytes)) = some (some (.string ⟨#[]⟩), 1, 16) := by kernel_rfl
def longS : List Bs → Nat
  | [] => 0
  | s :: r => s.length + 1 + longS r
theorem txt_new (w : World) (ss : List Bs) (hl : ss.length ≤ maxLen) : TxtRow (w.alloc (.cells (ss.map sv).toArray 9)) (.slice (some ⟨w.heap.size, 0, none⟩) ss.length ss.length) ss := by
  refine ⟨_, _, rfl, Nat.le_refl _, hl, fun i hi => ⟨_, _, rfl, by simp, ?_⟩⟩
  have h := World.alloc_heap_new w (.cells (ss.map sv).toArray 9)
  simp only [World.cell?, h]
  simp [hi]
theorem row_set {w : World} {base : Nat} {e : TypeId} {g n cap i : Nat} {xs : List Value} (x : Value) (h : w.ownsRow base e 1 (.slice (some ⟨g, 0, none⟩) n cap) n xs) (hi : i < n) :
    w.frozen? ⟨g, i, none⟩ = false ∧ (∃ u, w.cell? ⟨g, i, none⟩ = some u) ∧ (w.setCell ⟨g, i, none⟩ x).ownsRow base e 1 (.slice (some ⟨g, 0, none⟩) n cap) n (xs.set i x) := by
  rcases h.2 with ⟨h0, _⟩ | ⟨g', cap', cur, he, hb, hg, h1, h2, h3, h4⟩
  · cases h0
  · cases he
    refine ⟨by simp [World.frozen?, hg], ⟨cur[i]'(by omega), by simp [World.cell?, hg]⟩, by simpa using h.1, .inr ⟨g, cap, cur.setIfInBounds i x, rfl, hb, ?_, h1, h2, by simpa using h3, ?_⟩⟩
    · rw [setCell_eq_setRow w g i _ e (0, 0) x hg]
      exact setRow_heap w g _ _ e (0, 0) hg
    · rw [← h4]
      rw [Array.toList_setIfInBounds, List.take_set]
section
variable {P : Program} {ops : Array Oper} {rest : List Oper} {o : Oper} {a : Act} {w : World} {Q : Exit → Act → World → Prop}
theorem run_append_none (base : Nat) (t ty e : TypeId) (i : TypeInfo) (ht : P.underlying t = some (.slice e)) (hi : P.info? e = some i) {v : Value} {n : Nat} {xs : List Value} (h : w.ownsRow base e 1 v n xs) (c : Nat) :
    (Builtin.append_ #[t, t] ty #[v, .slice none 0 c]).run P w = .ok v w := by
  rcases h.2 with ⟨rfl, rfl⟩ | ⟨g, cap, cur, rfl, _, _, hnc, _⟩
  · simp [Builtin.append_, run_underlying ht, sizeOf, typeInfo, hi, Builtin.lenOf, Builtin.firstCells, storeCells]
  · simp [Builtin.append_, run_underlying ht, sizeOf, typeInfo, hi, Builtin.lenOf, Builtin.firstCells, storeCells, hnc]
theorem wpList_pushRow (hgd : o.guard = none) (s xo : Operand) (t : TypeId) (ho : o.op = .call { callee := .builtin .append, args := #[s, xo], argTypes := #[t, t] })
    (base : Nat) (e : TypeId) (z : Value) (bytes : Nat) (ht : P.underlying t = some (.slice e)) (hi : (P.info? e).map (fun i => (i.zero, i.size, i.bytes)) = some (some z, 1, bytes)) (hz : z.cells.size = 1)
    (v : Value) (n : Nat) (xs : List Value) (hs : a.eval s = v) (hown : w.ownsRow base e 1 v n xs)
    (A : Option Addr) (m c : Nat) (ss : List Bs) (hx : a.eval xo = .slice A m c) (htx : TxtRow w (.slice A m c) ss)
    (hn : n + m ≤ maxLen) (hbytes : (n + m) * bytes ≤ 140737488355328) (hbase : base ≤ w.heap.size)
    (h : ∀ v' w', w'.ownsRow base e 1 v' (n + m) (xs ++ ss.map sv) → Below base w w' → wpList P ops Q rest (a.put o.dst v') w') :
    wpList P ops Q (o :: rest) a w := by
  obtain ⟨i0, hi0, hz0, hz1, hz2⟩ := info_parts hi
  obtain ⟨o', c', e1, hlc, hcm, hcell⟩ := htx
  cases e1
  cases ss with
  | nil =>
    have hv : ∃ v' w', (Builtin.append_ #[t, t] o.type #[v, .slice A ([] : List Bs).length c]).run P w = .ok v' w' ∧ w'.ownsRow base e 1 v' (n + 0) (xs ++ ([] : List Bs).map sv) ∧ Below base w w' := by
      cases A with
      | none => exact ⟨v, w, run_append_none base t o.type e i0 ht hi0 hown c, by simpa using hown, Below.refl _ _⟩
      | some ad =>
        obtain ⟨v', w', hr, h2, h3, _⟩ := run_append_own_at (P := P) w base t o.type e i0 z 1 bytes ht hi0 hz0 hz1 hz2 hz (by decide) v n xs hown ad 0 c [] rfl (by simp) (by simp) (by simpa using hn) (by simpa using hbytes) hbase
        exact ⟨v', w', hr, by simpa using h2, (Below.refl base w).grown h3 hbase (fun k hk => (hown.lt k hk).1)⟩
    obtain ⟨v', w', hr, h2, h3⟩ := hv
    refine wpList_plain hgd fun K hK => ?_
    unfold Oper.wp execOp
    simp only [ho, resolve, invoke, builtin, Sem.run_bind, Sem.run_pure, Result.andThen_ok, List.map_toArray, List.map_cons, List.map_nil, hs, hx, hr]
    exact hK _ _ (h v' w' h2 h3)
  | cons x0 r =>
    obtain ⟨b, off, rfl, _, _⟩ := hcell 0 (by simp)
    refine wpList_append_own_at _ hgd s xo t ho base e i0 z 1 bytes ht hi0 hz0 hz1 hz2 hz (by decide) v n xs hs hown ⟨b, off, none⟩ _ c ((x0 :: r).map sv) hx (by simp) (fun j u hj => ?_) (fun u hu => ?_) hn hbytes hbase ?_
    · have hjl : j < (x0 :: r).length := by
        rcases Nat.lt_or_ge j (x0 :: r).length with h | h
        · exact h
        · rw [List.getElem?_eq_none (by simpa using h)] at hj; cases hj
      obtain ⟨b', off', e1, _, hc⟩ := hcell j hjl
      cases e1
      rw [List.getElem?_map, List.getElem?_eq_getElem hjl] at hj
      cases hj
      rw [show ((⟨b, off, none⟩ : Addr).add j) = ⟨b, off + j, none⟩ by unfold Addr.add; split <;> simp_all]; exact hc
    · obtain ⟨y, _, rfl⟩ := List.mem_map.1 hu; rfl
    · intro v' w' h2 h3 _ _
      exact h v' w' h2 ((Below.refl base w).grown h3 hbase (fun k hk => (hown.lt k hk).1))
end
theorem vcells2 {W : World} {b : Nat} {u v : Value} {t : TypeId} (h : W.heap[b]? = some (.cells #[u, v] t (0, 0))) : W.cell? ⟨b, 0, none⟩ = some u ∧ W.cell? ⟨b, 1, none⟩ = some v ∧ ∀ i, W.frozen? ⟨b, i, none⟩ = false := by
  refine ⟨?_, ?_, fun i => by simp [World.frozen?, h]⟩ <;> (simp only [World.cell?, h]; rfl)
theorem vcells3 {W : World} {b : Nat} {u v x : Value} {t : TypeId} (h : W.heap[b]? = some (.cells #[u, v, x] t (0, 0))) : W.cell? ⟨b, 0, none⟩ = some u ∧ W.cell? ⟨b, 1, none⟩ = some v ∧ W.cell? ⟨b, 2, none⟩ = some x ∧ ∀ i, W.frozen? ⟨b, i, none⟩ = false := by
  refine ⟨?_, ?_, ?_, fun i => by simp [World.frozen?, h]⟩ <;> (simp only [World.cell?, h]; rfl)
theorem vset_step {W : World} {n i : Nat} {cur : Array Value} {t : Nat} {fr : Nat × Nat} {v : Value} (h : W.heap[n]? = some (.cells cur t fr)) : (W.setCell ⟨n, i, none⟩ v).heap[n]? = some (.cells (cur.setIfInBounds i v) t fr) := by
  rw [setCell_eq_setRow W n i _ t fr v h]
  exact setRow_heap W n _ _ t fr h
theorem vcells1 {W : World} {b : Nat} {u : Value} {t : TypeId} (h : W.heap[b]? = some (.cells #[u] t (0, 0))) : W.cell? ⟨b, 0, none⟩ = some u ∧ ∀ i, W.frozen? ⟨b, i, none⟩ = false := by
  refine ⟨?_, fun i => by simp [World.frozen?, h]⟩; simp only [World.cell?, h]; rfl
theorem Kp.low {D : List Nat} {w w1 w2 : World} (h : Kp D w w1) (k : Below w.heap.size w1 w2) : Kp D w w2 :=
  ⟨k.os.trans h.os, k.tape.trans h.tape, k.output.trans h.output, Nat.le_trans h.size k.size, fun b hb hn => (k.block b hb).trans (h.block b hb hn)⟩
theorem ret_txt {a b : Bs} (h : a = b) : Ending.returned (.string ⟨a.toArray⟩) = .returned (.string ⟨b.toArray⟩) := by rw [h]
end Go.Proofs.YtjgdfgpnmmkjfaaGreatDoor
