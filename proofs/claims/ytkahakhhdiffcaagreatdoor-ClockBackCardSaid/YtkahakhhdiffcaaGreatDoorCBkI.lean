/- Rows of texts; what ClockBack calls of Go's library. -/
import Derived.Test.YtkahakhhdiffcaaGreatDoorCBkH
import Derived.Test.YtkahakhhdiffcaaGreatDoorCNx9
import Derived.Test.YtkahakhhdiffcaaGreatDoorCRdF
import Derived.Test.YtkahakhhdiffcaaGreatDoorCAwake
import Derived.Test.YtkahakhhdiffcaaGreatDoorPush1
import Derived.IntWalk
import Derived.Deep.LoopGhost
import Derived.Deep.DeepCutAuto
namespace Go.Proofs.YtkahakhhdiffcaaGreatDoor
set_option linter.unusedVariables false
set_option linter.unusedSimpArgs false
open Go.RowKit
def sv (b : Bs) : Value := .string ⟨b.toArray⟩
def TxtRow (w : World) (v : Value) (ss : List Bs) : Prop := ∃ o c, v = .slice o ss.length c ∧ ss.length ≤ c ∧ c ≤ maxLen ∧ ∀ i (h : i < ss.length), ∃ b off, o = some ⟨b, off, none⟩ ∧ b < w.heap.size ∧ w.cell? ⟨b, off + i, none⟩ = some (sv ss[i])
theorem TxtRow.of_owns {w : World} {base : Nat} {v : Value} {ss : List Bs} (h : w.ownsRow base 9 1 v ss.length (ss.map sv)) : TxtRow w v ss := by
  rcases h.2 with ⟨h0, hl⟩ | ⟨g, cap, cur, rfl, hb, hg, h1, h2, h3, h4⟩
  · subst h0
    refine ⟨none, 0, ?_, by omega, by unfold maxLen; omega, fun i hi => by omega⟩
    rw [hl]
  · refine ⟨_, cap, rfl, h1, h2, fun i hi => ⟨g, 0, rfl, (Array.getElem?_eq_some_iff.1 hg).1, ?_⟩⟩
    have hj : (ss.map sv)[i]? = some (sv ss[i]) := by rw [List.getElem?_map, List.getElem?_eq_getElem hi]; rfl
    rw [← h4, List.getElem?_take, if_pos (by omega)] at hj
    simp only [World.cell?, hg, Nat.zero_add]
    simpa using hj
theorem owns_slice {w : World} {base : Nat} {e : TypeId} {size n : Nat} {v : Value} {xs : List Value} (h : w.ownsRow base e size v n xs) : ∃ ao cap, v = .slice ao n cap := by
  rcases h.2 with ⟨rfl, rfl⟩ | ⟨g, cap, cur, rfl, _⟩
  · exact ⟨_, _, rfl⟩
  · exact ⟨_, _, rfl⟩
theorem infoStr : (Tryz.prog.info? 9).map (fun i => (i.zero, i.size, i.bytes)) = some (some (.string ⟨#[]⟩), 1, 16) := by kernel_rfl
section
variable {P : Program} {ops : Array Oper} {rest : List Oper} {o : Oper} {a : Act} {w : World} {Q : Exit → Act → World → Prop}
/-- An append of nothing to one's own row. -/
theorem run_append_none (base : Nat) (t ty e : TypeId) (i : TypeInfo) (ht : P.underlying t = some (.slice e)) (hi : P.info? e = some i) {v : Value} {n : Nat} {xs : List Value} (h : w.ownsRow base e 1 v n xs) (c : Nat) :
    (Builtin.append_ #[t, t] ty #[v, .slice none 0 c]).run P w = .ok v w := by
  rcases h.2 with ⟨rfl, rfl⟩ | ⟨g, cap, cur, rfl, _, _, hnc, _⟩
  · simp [Builtin.append_, run_underlying ht, sizeOf, typeInfo, hi, Builtin.lenOf, Builtin.firstCells, storeCells]
  · simp [Builtin.append_, run_underlying ht, sizeOf, typeInfo, hi, Builtin.lenOf, Builtin.firstCells, storeCells, hnc]
/-- 'append(s, x...)' of texts, s the call's own, x nil or not. -/
theorem wpList_pushRow (hgd : o.guard = none) (s xo : Operand) (t : TypeId) (ho : o.op = .call { callee := .builtin .append, args := #[s, xo], argTypes := #[t, t] })
    (base : Nat) (e : TypeId) (z : Value) (bytes : Nat) (ht : P.underlying t = some (.slice e)) (hi : (P.info? e).map (fun i => (i.zero, i.size, i.bytes)) = some (some z, 1, bytes)) (hz : z.cells.size = 1)
    (v : Value) (n : Nat) (xs : List Value) (hs : a.eval s = v) (hown : w.ownsRow base e 1 v n xs)
    (A : Option Addr) (m c : Nat) (ss : List Bs) (hx : a.eval xo = .slice A m c) (htx : TxtRow w (.slice A m c) ss)
    (hn : n + m ≤ maxLen) (hbytes : (n + m) * bytes ≤ 140737488355328) (hbase : base ≤ w.heap.size)
    (h : ∀ v' w', w'.ownsRow base e 1 v' (n + m) (xs ++ ss.map sv) → Below base w w' → wpList P ops Q rest (a.put o.dst v') w') :
    wpList P ops Q (o :: rest) a w := by
  obtain ⟨i0, hi0, hz0, hz1, hz2⟩ := info_parts hi
  obtain ⟨o', c', e1, hlc, hcm, hcell⟩ := htx
  cases e1
  cases ss with
  | nil =>
    have hv : ∃ v' w', (Builtin.append_ #[t, t] o.type #[v, .slice A ([] : List Bs).length c]).run P w = .ok v' w' ∧ w'.ownsRow base e 1 v' (n + 0) (xs ++ ([] : List Bs).map sv) ∧ Below base w w' := by
      cases A with
      | none => exact ⟨v, w, run_append_none base t o.type e i0 ht hi0 hown c, by simpa using hown, Below.refl _ _⟩
      | some ad =>
        obtain ⟨v', w', hr, h2, h3, _⟩ := run_append_own_at (P := P) w base t o.type e i0 z 1 bytes ht hi0 hz0 hz1 hz2 hz (by decide) v n xs hown ad 0 c [] rfl (by simp) (by simp) (by simpa using hn) (by simpa using hbytes) hbase
        exact ⟨v', w', hr, by simpa using h2, (Below.refl base w).grown h3 hbase (fun k hk => (hown.lt k hk).1)⟩
    obtain ⟨v', w', hr, h2, h3⟩ := hv
    refine wpList_plain hgd fun K hK => ?_
    unfold Oper.wp execOp
    simp only [ho, resolve, invoke, builtin, Sem.run_bind, Sem.run_pure, Result.andThen_ok, List.map_toArray, List.map_cons, List.map_nil, hs, hx, hr]
    exact hK _ _ (h v' w' h2 h3)
  | cons x0 r =>
    obtain ⟨b, off, rfl, _, _⟩ := hcell 0 (by simp)
    refine wpList_append_own_at _ hgd s xo t ho base e i0 z 1 bytes ht hi0 hz0 hz1 hz2 hz (by decide) v n xs hs hown ⟨b, off, none⟩ _ c ((x0 :: r).map sv) hx (by simp) (fun j u hj => ?_) (fun u hu => ?_) hn hbytes hbase ?_
    · have hjl : j < (x0 :: r).length := by
        rcases Nat.lt_or_ge j (x0 :: r).length with h | h
        · exact h
        · rw [List.getElem?_eq_none (by simpa using h)] at hj; cases hj
      obtain ⟨b', off', e1, _, hc⟩ := hcell j hjl
      cases e1
      rw [List.getElem?_map, List.getElem?_eq_getElem hjl] at hj
      cases hj
      rw [show ((⟨b, off, none⟩ : Addr).add j) = ⟨b, off + j, none⟩ by unfold Addr.add; split <;> simp_all]; exact hc
    · obtain ⟨y, _, rfl⟩ := List.mem_map.1 hu; rfl
    · intro v' w' h2 h3 _ _
      exact h v' w' h2 ((Below.refl base w).grown h3 hbase (fun k hk => (hown.lt k hk).1))
end
theorem joinW_any (l : List Bs) (sep : Bs) (v : Value) (w : World) (ht : TxtRow w v l) (hl : l.length ≤ 100000) (hw : (Lib.join l sep).length ≤ 140737488355328) : Calls Tryz.prog 9 #[v, .string ⟨sep.toArray⟩] w fun e w' => e = .returned (.string ⟨(Lib.join l sep).toArray⟩) ∧ Below w.heap.size w w' := by
  obtain ⟨o', cap, rfl, hcc, hcm, hcell⟩ := ht
  rcases Nat.eq_zero_or_pos l.length with h0 | h0
  · have hss : l = [] := List.eq_nil_of_length_eq_zero h0
    subst hss
    exact (Tryz.strings_Join_none o' cap ⟨sep.toArray⟩ w).mono fun e w' ⟨h1, h2⟩ => ⟨h1, h2 ▸ Below.refl _ _⟩
  · obtain ⟨b, off, rfl, hb, _⟩ := hcell 0 (by simpa using h0)
    have hq : ((l.map fun x => (⟨x.toArray⟩ : ByteArray)).map (·.data.toList)) = l := by rw [List.map_map]; exact (List.map_congr_left fun x _ => rfl).trans (List.map_id l)
    have h := Tryz.strings_Join b off cap (l.map fun x => ⟨x.toArray⟩) ⟨sep.toArray⟩ w (fun j x hj => by
      have hjl : j < l.length := by
        rcases Nat.lt_or_ge j l.length with h | h
        · exact h
        · rw [List.getElem?_eq_none (by simpa using h)] at hj; cases hj
      obtain ⟨b', off', e, _, hc⟩ := hcell j hjl
      cases e
      rw [hc]
      rw [List.getElem?_map, List.getElem?_eq_getElem hjl] at hj
      cases hj
      simp [sv]) hb (by simp; omega) (by simpa using hcc) (by rw [hq]; exact hw)
    rw [hq] at h
    rw [List.length_map] at h
    exact h
theorem replaceW_any (s old new : Bs) (ho : 0 < old.length) (hs : s.length ≤ 10000) (hn : new.length ≤ 100) (w : World) (hM : MaxIs w) :
    Calls Tryz.prog 10 #[.string ⟨s.toArray⟩, .string ⟨old.toArray⟩, .string ⟨new.toArray⟩] w fun e w' => e = .returned (.string ⟨(Lib.replaceAll s old new).toArray⟩) ∧ Below w.heap.size w w' := by
  obtain ⟨m, hm0⟩ := hM
  have hc := Lib.count_le s old
  have hcb : Lib.countB ⟨s.toArray⟩ ⟨old.toArray⟩ = Lib.count s old := rfl
  exact Tryz.strings_ReplaceAll ⟨s.toArray⟩ ⟨old.toArray⟩ ⟨new.toArray⟩ m w (by show s.length < _; omega) hm0 (by show 1 ≤ old.length; omega) (by
    rw [hcb]
    show s.length + Lib.count s old * new.length ≤ _
    have : Lib.count s old * new.length ≤ (s.length + 1) * 100 := Nat.mul_le_mul hc hn
    omega)
theorem containsW_any (s sub : Bs) (hs : s.length ≤ 10000) (w : World) (hM : MaxIs w) :
    Calls Tryz.prog 11 #[.string ⟨s.toArray⟩, .string ⟨sub.toArray⟩] w fun e w' => e = .returned (.bool (Lib.contains s sub)) ∧ w = w' := by
  obtain ⟨m, hm⟩ := hM
  exact (Tryz.strings_Contains ⟨s.toArray⟩ ⟨sub.toArray⟩ m w (by simp [ByteArray.size]; omega) hm).mono fun e w' ⟨h1, h2⟩ => ⟨h1, h2.symm⟩
/-- The texts of tokens. -/
def tokV (toks : Bs) : List Bs := toks.map fun c => [37, c]
theorem tokV_len (toks : Bs) : (tokV toks).length = toks.length := by simp [tokV]
theorem tokV_snoc (toks : Bs) (c : UInt8) : tokV (toks ++ [c]) = tokV toks ++ [[37, c]] := by simp [tokV]
theorem tokJ_len (toks : Bs) (b : UInt8) : (Lib.join (tokV toks) [b]).length ≤ 3 * toks.length ∧ (Lib.join (tokV toks) []).length = 2 * toks.length := by
  have h1 := join_form b toks
  have h2 := join_pairs toks
  have h3 := form_len b toks
  have h4 := pair_len toks
  unfold tokV
  rw [h1, h2]
  exact ⟨h3, h4⟩
theorem letter_at : ∀ q : Nat, q < 19 → ∃ c, c ∈ lettersB ∧ (lettersB.drop q).take 1 = [c] ∧ c ≠ 37 := by decide +kernel
theorem group_at : ∀ k : Nat, k < 5 → ∃ l, l ∈ groupsB ∧ groupsB[k]? = some l := by decide +kernel
end Go.Proofs.YtkahakhhdiffcaaGreatDoor
