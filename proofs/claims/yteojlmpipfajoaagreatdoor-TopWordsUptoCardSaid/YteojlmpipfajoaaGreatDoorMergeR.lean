/- The reference's Merge, Create, Alike; Create. -/
import Derived.Test.YteojlmpipfajoaaGreatDoorRJoin
import Derived.Test.YteojlmpipfajoaaGreatDoorBook9
import Derived.Deep.LoopGhost
import Derived.BigQuiet
import Derived.Deep.QuietTactic
import Derived.IntWalk
namespace Go.Proofs.YteojlmpipfajoaaGreatDoor
set_option linter.unusedVariables false
set_option linter.unusedSimpArgs false
open Go.RowKit

section
variable {P : Program} {ops : Array Oper} {rest : List Oper} {o : Oper} {a : Act} {w : World} {Q : Exit → Act → World → Prop}
/-- An append of nothing to one's own row. -/
theorem run_append_none (base : Nat) (t ty e : TypeId) (i : TypeInfo) (ht : P.underlying t = some (.slice e)) (hi : P.info? e = some i) {v : Value} {n : Nat} {xs : List Value} (h : w.ownsRow base e 1 v n xs) (c : Nat) :
    (Builtin.append_ #[t, t] ty #[v, .slice none 0 c]).run P w = .ok v w := by
  rcases h.2 with ⟨rfl, rfl⟩ | ⟨g, cap, cur, rfl, _, _, hnc, _⟩
  · simp [Builtin.append_, run_underlying ht, sizeOf, typeInfo, hi, Builtin.lenOf, Builtin.firstCells, storeCells]
  · simp [Builtin.append_, run_underlying ht, sizeOf, typeInfo, hi, Builtin.lenOf, Builtin.firstCells, storeCells, hnc]
/-- 'append(s, x...)' of texts, s the call's own, x nil or not. -/
theorem wpList_pushRow (hgd : o.guard = none) (s xo : Operand) (t : TypeId) (ho : o.op = .call { callee := .builtin .append, args := #[s, xo], argTypes := #[t, t] })
    (base : Nat) (e : TypeId) (z : Value) (bytes : Nat) (ht : P.underlying t = some (.slice e)) (hi : (P.info? e).map (fun i => (i.zero, i.size, i.bytes)) = some (some z, 1, bytes)) (hz : z.cells.size = 1)
    (v : Value) (n : Nat) (xs : List Value) (hs : a.eval s = v) (hown : w.ownsRow base e 1 v n xs)
    (A : Option Addr) (m c : Nat) (ss : List Bs) (hx : a.eval xo = .slice A m c) (htx : TxtRow w (.slice A m c) ss)
    (hn : n + m ≤ maxLen) (hbytes : (n + m) * bytes ≤ 140737488355328) (hbase : base ≤ w.heap.size)
    (h : ∀ v' w', w'.ownsRow base e 1 v' (n + m) (xs ++ ss.map sv) → Below base w w' → wpList P ops Q rest (a.put o.dst v') w') :
    wpList P ops Q (o :: rest) a w := by
  obtain ⟨i0, hi0, hz0, hz1, hz2⟩ := info_parts hi
  obtain ⟨o', c', e1, hlc, hcm, hcell⟩ := htx
  cases e1
  cases ss with
  | nil =>
    have hv : ∃ v' w', (Builtin.append_ #[t, t] o.type #[v, .slice A ([] : List Bs).length c]).run P w = .ok v' w' ∧ w'.ownsRow base e 1 v' (n + 0) (xs ++ ([] : List Bs).map sv) ∧ Below base w w' := by
      cases A with
      | none => exact ⟨v, w, run_append_none base t o.type e i0 ht hi0 hown c, by simpa using hown, Below.refl _ _⟩
      | some ad =>
        obtain ⟨v', w', hr, h2, h3, _⟩ := run_append_own_at (P := P) w base t o.type e i0 z 1 bytes ht hi0 hz0 hz1 hz2 hz (by decide) v n xs hown ad 0 c [] rfl (by simp) (by simp) (by simpa using hn) (by simpa using hbytes) hbase
        exact ⟨v', w', hr, by simpa using h2, (Below.refl base w).grown h3 hbase (fun k hk => (hown.lt k hk).1)⟩
    obtain ⟨v', w', hr, h2, h3⟩ := hv
    refine wpList_plain hgd fun K hK => ?_
    unfold Oper.wp execOp
    simp only [ho, resolve, invoke, builtin, Sem.run_bind, Sem.run_pure, Result.andThen_ok, List.map_toArray, List.map_cons, List.map_nil, hs, hx, hr]
    exact hK _ _ (h v' w' h2 h3)
  | cons x0 r =>
    obtain ⟨b, off, rfl, _, _⟩ := hcell 0 (by simp)
    refine wpList_append_own_at _ hgd s xo t ho base e i0 z 1 bytes ht hi0 hz0 hz1 hz2 hz (by decide) v n xs hs hown ⟨b, off, none⟩ _ c ((x0 :: r).map sv) hx (by simp) (fun j u hj => ?_) (fun u hu => ?_) hn hbytes hbase ?_
    · have hjl : j < (x0 :: r).length := by
        rcases Nat.lt_or_ge j (x0 :: r).length with h | h
        · exact h
        · rw [List.getElem?_eq_none (by simpa using h)] at hj; cases hj
      obtain ⟨b', off', e1, _, hc⟩ := hcell j hjl
      cases e1
      rw [List.getElem?_map, List.getElem?_eq_getElem hjl] at hj
      cases hj
      rw [show ((⟨b, off, none⟩ : Addr).add j) = ⟨b, off + j, none⟩ by unfold Addr.add; split <;> simp_all]; exact hc
    · obtain ⟨y, _, rfl⟩ := List.mem_map.1 hu; rfl
    · intro v' w' h2 h3 _ _
      exact h v' w' h2 ((Below.refl base w).grown h3 hbase (fun k hk => (hown.lt k hk).1))
end
theorem flat_at' {ps : Prs} {j : Nat} (h : j < ps.length) : (flatP ps)[2 * j]'(by rw [flatP_len]; omega) = ps[j].1 ∧ (flatP ps)[2 * j + 1]'(by rw [flatP_len]; omega) = ps[j].2 := by
  obtain ⟨h1, h2⟩ := flat_get ps j h
  rw [List.getElem?_eq_getElem (by rw [flatP_len]; omega)] at h1 h2
  exact ⟨Option.some.inj h1, Option.some.inj h2⟩
/-- All pairs of texts, one behind the other. -/
def allP : List Bs → Option Prs
  | [] => some []
  | s :: r => (readC s).bind fun q => (allP r).map (q ++ ·)
theorem add_append (a b c : Prs) : addP a (b ++ c) = addP (addP a b) c := by simp [addP]
theorem mergeL_all : ∀ (ss : List Bs) (a : Prs), mergeL ss a = (allP ss).map (addP a ·)
  | [], a => rfl
  | s :: r, a => by
    rw [mergeL, allP]
    cases readC s with
    | none => rfl
    | some q =>
      simp only [Option.bind_some]
      rw [mergeL_all r (addP a q), Option.map_map]
      congr 1
      funext x
      simp only [Function.comp, add_append]
theorem allP_take {ss : List Bs} {k : Nat} (h : k < ss.length) {acc q : Prs} (ha : allP (ss.take k) = some acc) (hq : readC ss[k] = some q) : allP (ss.take (k + 1)) = some (acc ++ q) := by
  induction ss generalizing k acc with
  | nil => simp at h
  | cons s r ih =>
    cases k with
    | zero =>
      simp only [List.take_zero, allP] at ha
      cases ha
      simp only [List.getElem_cons_zero] at hq
      simp [allP, hq]
    | succ k =>
      simp only [List.take_succ_cons, allP] at ha ⊢
      cases hs : readC s with
      | none => rw [hs] at ha; cases ha
      | some p =>
        rw [hs, Option.bind_some] at ha
        simp only [Option.bind_some]
        cases hk : allP (r.take k) with
        | none => rw [hk] at ha; cases ha
        | some b =>
          rw [hk] at ha
          cases ha
          rw [ih (k := k) (by simpa using h) hk (by simpa using hq)]
          simp
theorem allP_none {ss : List Bs} {k : Nat} (h : k < ss.length) (hq : readC ss[k] = none) : allP ss = none := by
  induction ss generalizing k with
  | nil => simp at h
  | cons s r ih =>
    cases k with
    | zero => simp only [List.getElem_cons_zero] at hq; simp [allP, hq]
    | succ k =>
      rw [allP]
      cases hs : readC s with
      | none => rfl
      | some p => rw [Option.bind_some, ih (k := k) (by simpa using h) (by simpa using hq)]; rfl
theorem mergeE_all (ss : List Bs) : mergeE ss = match allP ss with | none => ([], 11) | some a => joinE (flatP (addP [] a)) := by
  unfold mergeE
  rw [mergeL_all]
  cases allP ss <;> rfl
theorem add_idem : ∀ (b a : Prs), (∀ p ∈ b, getP a p.1 = some p.2) → addP a b = a
  | [], a, _ => rfl
  | p :: b, a, h => by
    have h0 : setP a p.1 p.2 = a := by
      have hg := h p (by simp)
      clear h
      induction a with
      | nil => cases hg
      | cons q a ih =>
        rw [getP] at hg
        rw [setP]
        split
        · rename_i e; rw [if_pos e] at hg; rw [← e, ← Option.some.inj hg]
        · rename_i e; rw [if_neg e] at hg; rw [ih hg]
    rw [add_cons, h0, add_idem b a (fun q hq => h q (List.mem_cons_of_mem _ hq))]
theorem merge_same (s : Bs) : mergeE [s, s] = canonC s := by
  unfold mergeE canonC
  simp only [mergeL]
  cases hr : readC s with
  | none => rfl
  | some A =>
    simp only [Option.bind_some]
    rw [add_self (read_uniq hr), add_idem A A (fun p hp => mem_get (read_uniq hr) hp)]
/-- 'Create'. -/
def createC (l : List Bs) : Bs × Int := if l.length % 2 = 0 then joinE (flatP (addP [] (pairsOf l))) else ([], 1)
theorem wt_app (a b : List Bs) : wt (a ++ b) = wt a + wt b := by
  induction a with
  | nil => simp [wt]
  | cons x a ih => simp only [List.cons_append, wt, ih]; omega
theorem sumL_mem {ss : List Bs} {x : Bs} (h : x ∈ ss) : x.length ≤ sumL ss := by
  obtain ⟨i, hi, rfl⟩ := List.getElem_of_mem h
  exact sumL_at hi
theorem TxtRow.len {w : World} {v : Value} {ss : List Bs} (h : TxtRow w v ss) : ∃ o c, v = .slice o ss.length c := by
  obtain ⟨o, c, e, _⟩ := h
  exact ⟨o, c, e⟩
end Go.Proofs.YteojlmpipfajoaaGreatDoor
