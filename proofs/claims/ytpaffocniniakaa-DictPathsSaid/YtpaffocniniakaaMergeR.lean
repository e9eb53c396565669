/- The reference's Merge, Create, Alike; Create. -/
import Derived.Test.YtpaffocniniakaaRJoin
import Derived.Test.YtpaffocniniakaaBook9
import Derived.Deep.LoopGhost
import Derived.BigQuiet
import Derived.Deep.QuietTactic
import Derived.IntWalk
namespace Go.Proofs.Ytpaffocniniakaa
set_option linter.unusedVariables false
set_option linter.unusedSimpArgs false
open Go.RowKit

section
variable {P : Program} {ops : Array Oper} {rest : List Oper} {o : Oper} {a : Act} {w : World} {Q : Exit → Act → World → Prop}
/-- An append of nothing to one's own row. -/
theorem run_append_none (base : Nat) (t ty e : TypeId) (i : TypeInfo) (ht : P.underlying t = some (.slice e)) (hi : P.info? e = some i) {v : Value} {n : Nat} {xs : List Value} (h : w.ownsRow base e 1 v n xs) (c : Nat) :
    (Builtin.append_ #[t, t] ty #[v, .slice none 0 c]).run P w = .ok v w := by
  rcases h.2 with ⟨rfl, rfl⟩ | ⟨g, cap, cur, rfl, _, _, hnc, _⟩
  · simp [Builtin.append_, run_underlying ht, sizeOf, typeInfo, hi, Builtin.lenOf, Builtin.firstCells, storeCells]
  · simp [Builtin.append_, run_underlying ht, sizeOf, typeInfo, hi, Builtin.lenOf, Builtin.firstCells, storeCells, hnc]
/-- 'append(s, x...)' of texts, s the call's own, x nil or not. -/
theorem wpList_pushRow (hgd : o.guard = none) (s xo : Operand) (t : TypeId) (ho : o.op = .call { callee := .builtin .append, args := #[s, xo], argTypes := #[t, t] })
    (base : Nat) (e : TypeId) (z : Value) (bytes : Nat) (ht : P.underlying t = some (.slice e)) (hi : (P.info? e).map (fun i => (i.zero, i.size, i.bytes)) = some (some z, 1, bytes)) (hz : z.cells.size = 1)
    (v : Value) (n : Nat) (xs : List Value) (hs : a.eval s = v) (hown : w.ownsRow base e 1 v n xs)
    (A : Option Addr) (m c : Nat) (ss : List Bs) (hx : a.eval xo = .slice A m c) (htx : TxtRow w (.slice A m c) ss)
    (hn : n + m ≤ maxLen) (hbytes : (n + m) * bytes ≤ 140737488355328) (hbase : base ≤ w.heap.size)
    (h : ∀ v' w', w'.ownsRow base e 1 v' (n + m) (xs ++ ss.map sv) → Below base w w' → wpList P ops Q rest (a.put o.dst v') w') :
    wpList P ops Q (o :: rest) a w := by
  obtain ⟨i0, hi0, hz0, hz1, hz2⟩ := info_parts hi
  obtain ⟨o', c', e1, hlc, hcm, hcell⟩ := htx
  cases e1
  cases ss with
  | nil =>
    have hv : ∃ v' w', (Builtin.append_ #[t, t] o.type #[v, .slice A ([] : List Bs).length c]).run P w = .ok v' w' ∧ w'.ownsRow base e 1 v' (n + 0) (xs ++ ([] : List Bs).map sv) ∧ Below base w w' := by
      cases A with
      | none => exact ⟨v, w, run_append_none base t o.type e i0 ht hi0 hown c, by simpa using hown, Below.refl _ _⟩
      | some ad =>
        obtain ⟨v', w', hr, h2, h3, _⟩ := run_append_own_at (P := P) w base t o.type e i0 z 1 bytes ht hi0 hz0 hz1 hz2 hz (by decide) v n xs hown ad 0 c [] rfl (by simp) (by simp) (by simpa using hn) (by simpa using hbytes) hbase
        exact ⟨v', w', hr, by simpa using h2, (Below.refl base w).grown h3 hbase (fun k hk => (hown.lt k hk).1)⟩
    obtain ⟨v', w', hr, h2, h3⟩ := hv
    refine wpList_plain hgd fun K hK => ?_
    unfold Oper.wp execOp
    simp only [ho, resolve, invoke, builtin, Sem.run_bind, Sem.run_pure, Result.andThen_ok, List.map_toArray, List.map_cons, List.map_nil, hs, hx, hr]
    exact hK _ _ (h v' w' h2 h3)
  | cons x0 r =>
    obtain ⟨b, off, rfl, _, _⟩ := hcell 0 (by simp)
    refine wpList_append_own_at _ hgd s xo t ho base e i0 z 1 bytes ht hi0 hz0 hz1 hz2 hz (by decide) v n xs hs hown ⟨b, off, none⟩ _ c ((x0 :: r).map sv) hx (by simp) (fun j u hj => ?_) (fun u hu => ?_) hn hbytes hbase ?_
    · have hjl : j < (x0 :: r).length := by
        rcases Nat.lt_or_ge j (x0 :: r).length with h | h
        · exact h
        · rw [List.getElem?_eq_none (by simpa using h)] at hj; cases hj
      obtain ⟨b', off', e1, _, hc⟩ := hcell j hjl
      cases e1
      rw [List.getElem?_map, List.getElem?_eq_getElem hjl] at hj
      cases hj
      rw [show ((⟨b, off, none⟩ : Addr).add j) = ⟨b, off + j, none⟩ by unfold Addr.add; split <;> simp_all]; exact hc
    · obtain ⟨y, _, rfl⟩ := List.mem_map.1 hu; rfl
    · intro v' w' h2 h3 _ _
      exact h v' w' h2 ((Below.refl base w).grown h3 hbase (fun k hk => (hown.lt k hk).1))
end
theorem flat_at' {ps : Prs} {j : Nat} (h : j < ps.length) : (flatP ps)[2 * j]'(by rw [flatP_len]; omega) = ps[j].1 ∧ (flatP ps)[2 * j + 1]'(by rw [flatP_len]; omega) = ps[j].2 := by
  obtain ⟨h1, h2⟩ := flat_get ps j h
  rw [List.getElem?_eq_getElem (by rw [flatP_len]; omega)] at h1 h2
  exact ⟨Option.some.inj h1, Option.some.inj h2⟩
/-- All pairs of texts, one behind the other. -/
def allP : List Bs → Option Prs
  | [] => some []
  | s :: r => (readC s).bind fun q => (allP r).map (q ++ ·)
theorem add_append (a b c : Prs) : addP a (b ++ c) = addP (addP a b) c := by simp [addP]
theorem mergeL_all : ∀ (ss : List Bs) (a : Prs), mergeL ss a = (allP ss).map (addP a ·)
  | [], a => rfl
  | s :: r, a => by
    rw [mergeL, allP]
    cases readC s with
    | none => rfl
    | some q =>
      simp only [Option.bind_some]
      rw [mergeL_all r (addP a q), Option.map_map]
      congr 1
      funext x
      simp only [Function.comp, add_append]
theorem allP_take {ss : List Bs} {k : Nat} (h : k < ss.length) {acc q : Prs} (ha : allP (ss.take k) = some acc) (hq : readC ss[k] = some q) : allP (ss.take (k + 1)) = some (acc ++ q) := by
  induction ss generalizing k acc with
  | nil => simp at h
  | cons s r ih =>
    cases k with
    | zero =>
      simp only [List.take_zero, allP] at ha
      cases ha
      simp only [List.getElem_cons_zero] at hq
      simp [allP, hq]
    | succ k =>
      simp only [List.take_succ_cons, allP] at ha ⊢
      cases hs : readC s with
      | none => rw [hs] at ha; cases ha
      | some p =>
        rw [hs, Option.bind_some] at ha
        simp only [Option.bind_some]
        cases hk : allP (r.take k) with
        | none => rw [hk] at ha; cases ha
        | some b =>
          rw [hk] at ha
          cases ha
          rw [ih (k := k) (by simpa using h) hk (by simpa using hq)]
          simp
theorem allP_none {ss : List Bs} {k : Nat} (h : k < ss.length) (hq : readC ss[k] = none) : allP ss = none := by
  induction ss generalizing k with
  | nil => simp at h
  | cons s r ih =>
    cases k with
    | zero => simp only [List.getElem_cons_zero] at hq; simp [allP, hq]
    | succ k =>
      rw [allP]
      cases hs : readC s with
      | none => rfl
      | some p => rw [Option.bind_some, ih (k := k) (by simpa using h) (by simpa using hq)]; rfl
theorem mergeE_all (ss : List Bs) : mergeE ss = match allP ss with | none => ([], 11) | some a => joinE (flatP (addP [] a)) := by
  unfold mergeE
  rw [mergeL_all]
  cases allP ss <;> rfl
theorem add_idem : ∀ (b a : Prs), (∀ p ∈ b, getP a p.1 = some p.2) → addP a b = a
  | [], a, _ => rfl
  | p :: b, a, h => by
    have h0 : setP a p.1 p.2 = a := by
      have hg := h p (by simp)
      clear h
      induction a with
      | nil => cases hg
      | cons q a ih =>
        rw [getP] at hg
        rw [setP]
        split
        · rename_i e; rw [if_pos e] at hg; rw [← e, ← Option.some.inj hg]
        · rename_i e; rw [if_neg e] at hg; rw [ih hg]
    rw [add_cons, h0, add_idem b a (fun q hq => h q (List.mem_cons_of_mem _ hq))]
theorem merge_same (s : Bs) : mergeE [s, s] = canonC s := by
  unfold mergeE canonC
  simp only [mergeL]
  cases hr : readC s with
  | none => rfl
  | some A =>
    simp only [Option.bind_some]
    rw [add_self (read_uniq hr), add_idem A A (fun p hp => mem_get (read_uniq hr) hp)]
/-- 'Create'. -/
def createC (l : List Bs) : Bs × Int := if l.length % 2 = 0 then joinE (flatP (addP [] (pairsOf l))) else ([], 1)
theorem wt_app (a b : List Bs) : wt (a ++ b) = wt a + wt b := by
  induction a with
  | nil => simp [wt]
  | cons x a ih => simp only [List.cons_append, wt, ih]; omega
theorem sumL_mem {ss : List Bs} {x : Bs} (h : x ∈ ss) : x.length ≤ sumL ss := by
  obtain ⟨i, hi, rfl⟩ := List.getElem_of_mem h
  exact sumL_at hi
theorem TxtRow.len {w : World} {v : Value} {ss : List Bs} (h : TxtRow w v ss) : ∃ o c, v = .slice o ss.length c := by
  obtain ⟨o, c, e, _⟩ := h
  exact ⟨o, c, e⟩
set_option maxRecDepth 100000 in
set_option maxHeartbeats 1600000 in
theorem rMerge_any (v : Value) (ss : List Bs) (w : World) (ht : TxtRow w v ss) (hsum : sumL ss ≤ 19999) :
    Calls Try.prog 12 #[v] w fun e w' => e = .returned (.tuple #[.string ⟨(mergeE ss).1.toArray⟩, .int .i64 (mergeE ss).2]) ∧ Below w.heap.size w w' := by
  obtain ⟨o, c, rfl, _⟩ := id ht
  obtain ⟨_, h1, h2, h3⟩ := ht.at_
  have HT := Lib.hid h3
  obtain ⟨n, hn⟩ : ∃ n, ss.length = n := ⟨_, rfl⟩
  have HN := Lib.hid hn
  have HS := Lib.hid hsum
  rw [hn] at h1 ⊢
  obtain ⟨me, hme⟩ : ∃ me, mergeE ss = me := ⟨_, rfl⟩
  rw [hme]
  have HME := Lib.hid hme
  unfold maxLen at h2
  clear ht h3 hn hsum hme
  go_enter Try.func12, Try.ntmps12
  go_wp2_with fail
  go_loopg [4, 6, 7, 8, 11] n (fun g out _ _ _ i wr => ∃ (k : Nat) (acc : Prs), k + g = n ∧ i = .int .i64 (k : Int) ∧ Hid (wr.ownsRow w.heap.size 9 1 out (flatP acc).length ((flatP acc).map sv)) ∧ Below w.heap.size w wr ∧ wt (flatP acc) ≤ 5 * sumL (ss.take k) ∧ Hid (allP (ss.take k) = some acc))
  case atStart => exact ⟨0, [], by omega, rfl, World.ownsRow_nil _ _ _ _, Below.refl _ _, by simp [flatP, wt], rfl⟩
  case round =>
    obtain ⟨k, acc, hkg, rfl, HO, hb, hw, HI⟩ := hrel
    have hn := HN.out
    have hss := HS.out
    have hal := wt_len (flatP acc)
    have hle := sumL_le ss k
    obtain ⟨ao, cap, rfl⟩ := owns_slice HO.out
    by_cases hlt : k < n
    · obtain ⟨b, off, rfl, hbl, hc⟩ := HT.out k (by omega)
      obtain ⟨s, hs⟩ : ∃ s, s = ss[k]'(by omega) := ⟨_, rfl⟩
      rw [← hs] at hc
      have hsl : s.length ≤ sumL ss := by rw [hs]; exact sumL_at (by omega)
      have hst : sumL (ss.take (k + 1)) = sumL (ss.take k) + s.length := by rw [hs]; exact sumL_take (by omega)
      have hcx : wr.cell? ⟨b, off + k, none⟩ = some (.string ⟨s.toArray⟩) := (hb.cell (p := ⟨b, off + k, none⟩) hbl).trans hc
      have t0 : decide ((k : Int) < (n : Int)) = true := by rw [decide_eq_true_eq]; omega
      have PR := rPairs_any s (by omega) wr
      cases hr : readC s with
      | none =>
        have PR2 : Hid (Calls Try.prog 17 #[.string ⟨s.toArray⟩] wr fun e w' => e = .returned (.tuple #[.slice none 0 0, .int .i64 11]) ∧ Below wr.heap.size wr w') := PR.mono fun e w' ⟨r, err, he, hb, h⟩ => by
          rcases h with ⟨_, rfl, rfl⟩ | ⟨ps, h', _⟩
          · exact ⟨he, hb⟩
          · rw [hr] at h'; cases h'
        have hje : me = ([], 11) := by
          rw [← HME.out, mergeE_all, allP_none (k := k) (by omega) (by rw [← hs]; exact hr)]
        clear PR hr hn hss hal hle hsl hst hc hs hw
        subst hje
        go_wp2_with (go_at_call 17; refine PR2.out.mono ?_; rintro e w2 ⟨rfl, hB2⟩; have H2 := Lib.hid hB2; clear hB2)
        go_ret2
        exact ⟨rfl, hb.trans (H2.out.mono hb.size)⟩
      | some q =>
        have hqw := read_wt hr
        have hql := read_len hr
        have PR2 : Hid (Calls Try.prog 17 #[.string ⟨s.toArray⟩] wr fun e w' => ∃ o1 c1, e = .returned (.tuple #[.slice o1 (flatP q).length c1, .int .i64 0]) ∧ Below wr.heap.size wr w' ∧ TxtRow w' (.slice o1 (flatP q).length c1) (flatP q)) := PR.mono fun e w' ⟨r, err, he, hb, h⟩ => by
          rcases h with ⟨h', _⟩ | ⟨ps', h', rfl, ho⟩
          · rw [hr] at h'; cases h'
          · rw [hr] at h'; cases h'
            obtain ⟨o1, c1, rfl⟩ := owns_slice ho
            exact ⟨o1, c1, he, hb, TxtRow.of_owns ho⟩
        have HQ : Hid (allP (ss.take (k + 1)) = some (acc ++ q)) := allP_take (by omega) HI.out (by rw [← hs]; exact hr)
        have hfq := flatP_len q
        have HW : Hid (wt (flatP (acc ++ q)) ≤ 5 * sumL (ss.take (k + 1))) := by
          show _ ≤ _
          rw [flatP_append, wt_app, hst]; omega
        obtain ⟨fa, hfa⟩ : ∃ fa, (flatP acc).length = fa := ⟨_, rfl⟩
        obtain ⟨fq, hfq2⟩ : ∃ fq, (flatP q).length = fq := ⟨_, rfl⟩
        have HF := Lib.hid (And.intro hfa hfq2)
        have z1 : fa + fq ≤ 1000000 := by omega
        rw [hfq2] at PR2
        rw [hfa] at HO ⊢
        have OW : Hid (∀ w2, Below wr.heap.size wr w2 → w2.ownsRow w.heap.size 9 1 (.slice ao fa cap) fa ((flatP acc).map sv)) := fun w2 h => ownsRow_kp HO.out (kp_of_below h) (by simp)
        have HB := Lib.hid hb
        clear PR hr hn hss hal hle hsl hst hc hs hw hfa hfq hfq2 hqw hql hb
        go_wp2_with (first | (go_at_call 17; refine PR2.out.mono ?_; rintro e w2 ⟨o1, c1, rfl, hB2, hT2⟩; have H2 := Lib.hid (And.intro hB2 hT2); clear hB2 hT2) | (at_builtin; go_loud (refine wpList_pushRow rfl (.tmp 23) (.tmp 24) 29 rfl w.heap.size 9 (.string ⟨#[]⟩) 16 Try.underlying29 infoStr rfl (.slice ao fa cap) fa _ rfl (OW.out _ H2.out.1) o1 fq c1 (flatP q) rfl H2.out.2 (by unfold maxLen; omega) (by omega) (Nat.le_trans HB.out.size H2.out.1.size) ?_); intro v3 w3 hown3 hB3; have H3 := Lib.hid (And.intro hown3 hB3); clear hown3 hB3))
        go_roundg (gk - 1)
        case measure => omega
        case rel =>
          refine ⟨k + 1, acc ++ q, by omega, by go_num, ?_, (HB.out.trans (H2.out.1.mono HB.out.size)).trans H3.out.2, HW.out, HQ⟩
          show World.ownsRow _ _ _ _ _ _ _
          rw [flatP_append, List.length_append, List.map_append, HF.out.1, HF.out.2]
          exact H3.out.1
    · obtain rfl : k = n := by omega
      have t0 : decide ((k : Int) < (k : Int)) = false := by rw [decide_eq_false_iff_not]; omega
      have hje : me = joinE (flatP (addP [] acc)) := by
        rw [← HME.out, mergeE_all]
        have := HI.out
        rw [← hn, List.take_length] at this
        rw [this]
      have hwa := add_wt [] acc
      have hfn : wt (flatP ([] : Prs)) = 0 := rfl
      have ON : Hid (∀ v W, TxtRow W v (flatP acc) → Calls Try.prog 38 #[v] W fun e w' => ∃ r, e = .returned r ∧ Below W.heap.size W w' ∧ TxtRow w' r (flatP (addP [] acc))) := fun v W ht => (ronce_any v (flatP acc) W ht (by omega)).mono fun e w' ⟨r, h1, h2, h3⟩ => ⟨r, h1, h2, by rw [pairs_flat] at h3; exact TxtRow.of_owns h3⟩
      have JO : Hid (∀ v W, TxtRow W v (flatP (addP [] acc)) → Calls Try.prog 37 #[v] W fun e w' => e = .returned (.tuple #[.string ⟨me.1.toArray⟩, .int .i64 me.2]) ∧ Below W.heap.size W w') := fun v W ht => by
        rw [hje]
        exact rJoin_any v _ W ht (fun x hx => by have := wt_mem hx; omega)
      have HTR := Lib.hid (TxtRow.of_owns HO.out)
      obtain ⟨fa, hfa⟩ : ∃ fa, (flatP acc).length = fa := ⟨_, rfl⟩
      rw [hfa] at HTR ⊢
      clear hn hss hal hle hw hwa hfn hje hfa
      go_wp2_with (first | (go_at_call 38; refine (ON.out _ _ HTR.out).mono ?_; rintro e w2 ⟨r, rfl, hB2, hT2⟩; have H2 := Lib.hid (And.intro hB2 hT2); clear hB2 hT2) | (go_at_call 37; refine (JO.out _ _ H2.out.2).mono ?_; rintro e w3 ⟨rfl, hB3⟩; have H3 := Lib.hid hB3; clear hB3))
      go_ret2
      exact ⟨rfl, hb.trans ((H2.out.1.trans (H3.out.mono H2.out.1.size)).mono hb.size)⟩
set_option maxRecDepth 100000 in
set_option maxHeartbeats 1600000 in
theorem rCreate_any (v : Value) (l : List Bs) (w : World) (ht : TxtRow w v l) (hl : l.length ≤ 100000) (hw : wt l ≤ 1000000) :
    Calls Try.prog 14 #[v] w fun e w' => e = .returned (.tuple #[.string ⟨(createC l).1.toArray⟩, .int .i64 (createC l).2]) ∧ Below w.heap.size w w' := by
  obtain ⟨o, c, rfl⟩ := ht.len
  have hwa := add_wt [] (pairsOf l)
  have hfn : wt (flatP ([] : Prs)) = 0 := rfl
  have hpw := pairs_wt l.length l (Nat.le_refl _)
  have ON : Hid (Calls Try.prog 38 #[.slice o l.length c] w fun e w' => ∃ r, e = .returned r ∧ Below w.heap.size w w' ∧ TxtRow w' r (flatP (addP [] (pairsOf l)))) := (ronce_any _ l w ht hl).mono fun e w' ⟨r, h1, h2, h3⟩ => ⟨r, h1, h2, TxtRow.of_owns h3⟩
  have JO : Hid (∀ v W, TxtRow W v (flatP (addP [] (pairsOf l))) → Calls Try.prog 37 #[v] W fun e w' => e = .returned (.tuple #[.string ⟨(joinE (flatP (addP [] (pairsOf l)))).1.toArray⟩, .int .i64 (joinE (flatP (addP [] (pairsOf l)))).2]) ∧ Below W.heap.size W w') := fun v W ht => rJoin_any v _ W ht (fun x hx => by have := wt_mem hx; omega)
  unfold createC
  generalize joinE (flatP (addP [] (pairsOf l))) = q at *
  have hnn : (0 : Int) ≤ (l.length : Int) := by omega
  by_cases hev : l.length % 2 = 0
  · rw [if_pos hev]
    have t2 : ((l.length : Int) % 2 == 0) = true := by rw [beq_iff_eq]; omega
    generalize l.length = n at *
    clear ht hwa hfn hpw hev hw
    go_enter Try.func14, Try.ntmps14
    go_wp2_with (first | (go_at_call 38; refine ON.out.mono ?_; rintro e w2 ⟨r, rfl, hB2, hT2⟩; have H2 := Lib.hid (And.intro hB2 hT2); clear hB2 hT2) | (go_at_call 37; refine (JO.out _ _ H2.out.2).mono ?_; rintro e w3 ⟨rfl, hB3⟩; have H3 := Lib.hid hB3; clear hB3))
    go_ret2
    exact ⟨rfl, H2.out.1.trans (H3.out.mono H2.out.1.size)⟩
  · rw [if_neg hev]
    have t2 : ((l.length : Int) % 2 == 0) = false := by rw [beq_eq_false_iff_ne]; omega
    generalize l.length = n at *
    clear ht hwa hfn hpw hev hw ON JO
    go_enter Try.func14, Try.ntmps14
    go_wp2_with fail
    go_ret2
    exact ⟨rfl, Below.refl _ _⟩
set_option maxRecDepth 100000 in
set_option maxHeartbeats 1600000 in
theorem Create_any (v : Value) (l : List Bs) (w : World) (hM : MaxIs w) (ht : TxtRow w v l) (hl : l.length ≤ 100000) (hw : wt l ≤ 1000000) :
    Calls Try.prog 13 #[v] w fun e w' => e = .returned (.tuple #[.string ⟨(createC l).1.toArray⟩, .int .i64 (createC l).2]) ∧ Below w.heap.size w w' := by
  obtain ⟨o, c, rfl⟩ := ht.len
  have hal := add_len [] (pairsOf l)
  have hpl := flatP_len (pairsOf l)
  have hwl := wt_len (flatP (pairsOf l))
  have hpw := pairs_wt l.length l (Nat.le_refl _)
  have OF : Hid (Calls Try.prog 39 #[.slice o l.length c] w fun e w' => ∃ b F, e = .returned (.pointer (some ⟨b, 0, none⟩)) ∧ Bk w' b F (addP [] (pairsOf l)) ∧ Below w.heap.size w w' ∧ ∀ d ∈ F, w.heap.size ≤ d) := of_any _ l w ht (by omega) (fun x hx => by have := wt_mem hx; omega)
  have TX : Hid (∀ W b F, Below w.heap.size w W → Bk W b F (addP [] (pairsOf l)) → Calls Try.prog 36 #[.pointer (some ⟨b, 0, none⟩)] W fun e w' => e = .returned (.tuple #[.string ⟨(joinE (flatP (addP [] (pairsOf l)))).1.toArray⟩, .int .i64 (joinE (flatP (addP [] (pairsOf l)))).2]) ∧ Below W.heap.size W w') := fun W b F h1 h2 => text_any h2 (by simp at hal; omega) (hM.below h1 hM.pos)
  unfold createC
  generalize joinE (flatP (addP [] (pairsOf l))) = q at *
  have hnn : (0 : Int) ≤ (l.length : Int) := by omega
  by_cases hev : l.length % 2 = 0
  · rw [if_pos hev]
    have t2 : ((l.length : Int) % 2 == 0) = true := by rw [beq_iff_eq]; omega
    generalize l.length = n at *
    clear ht hal hpl hwl hpw hev hw hM
    go_enter Try.func13, Try.ntmps13
    go_wp2_with (first | (go_at_call 39; refine OF.out.mono ?_; rintro e w2 ⟨b, F, rfl, hb, hB2, hF⟩; have H2 := Lib.hid (And.intro hb hB2); clear hb hB2 hF) | (go_at_call 36; refine (TX.out _ _ _ H2.out.2 H2.out.1).mono ?_; rintro e w3 ⟨rfl, hB3⟩; have H3 := Lib.hid hB3; clear hB3))
    go_ret2
    exact ⟨rfl, H2.out.2.trans (H3.out.mono H2.out.2.size)⟩
  · rw [if_neg hev]
    have t2 : ((l.length : Int) % 2 == 0) = false := by rw [beq_eq_false_iff_ne]; omega
    generalize l.length = n at *
    clear ht hal hpl hwl hpw hev hw hM OF TX
    go_enter Try.func13, Try.ntmps13
    go_wp2_with fail
    go_ret2
    exact ⟨rfl, Below.refl _ _⟩
end Go.Proofs.Ytpaffocniniakaa
