/- list.Split: the makers of what is ranged over. list.Split: readers, elements. list.Split: its contract. -/
import Derived.Test.YteojlmpipfajoaaGreatDoorLElems
import Derived.Laws.EntriesVeiled
import Derived.RangeFuncBox
import Derived.RangeFuncNested
import Derived.OwnWalkIn
namespace Go.Proofs.YteojlmpipfajoaaGreatDoor
set_option linter.unusedVariables false
set_option linter.unusedSimpArgs false
open Go.RowKit Go.Shelf
attribute [local go_sem] Oper.semAt_some wide_fn

abbrev tabV : Value := .agg #[.func (.func 80) #[] #[], .func (.func 81) #[] #[], .func (.func 82) #[] #[]]

theorem elements_stops (bx tx : Nat) (s : Bs) (hs : s.length ≤ 1000000) (w : World) (hbx : bx < w.heap.size) (htx : tx < w.heap.size) (hc : w.cell? ⟨bx, 0, none⟩ = some (.string ⟨s.toArray⟩))
    (ht0 : w.cell? ⟨tx, 0, none⟩ = some (.func (.func 80) #[] #[])) (ht1 : w.cell? ⟨tx, 1, none⟩ = some (.func (.func 81) #[] #[])) (ht2 : w.cell? ⟨tx, 2, none⟩ = some (.func (.func 82) #[] #[])) :
    SeqStopsK Fence.wide 2 Tryz.prog 68 #[.pointer (some ⟨bx, 0, none⟩), .pointer (some ⟨tx, 0, none⟩)] encE (K2 bx tx) (fun ys => ys = els s 0) (fun pre => pre <+: els s 0) s.length w := fun l J Jx W hW hJ _ hY h0 => by
  refine (elements1_in 2 (by omega) l bx tx s hs J Jx ?_ hY W ((hW.cell (p := ⟨bx, 0, none⟩) hbx).trans hc) ((hW.cell (p := ⟨tx, 0, none⟩) htx).trans ht0) ((hW.cell (p := ⟨tx, 1, none⟩) htx).trans ht1) ((hW.cell (p := ⟨tx, 2, none⟩) htx).trans ht2) h0)
  exact fun pre W W' hj hb => hJ pre W _ none hj ⟨hb.os, hb.tape, hb.output, hb.size, fun k hk _ => hb.block k hk⟩ (fun r e => by cases e)
end Go.Proofs.YteojlmpipfajoaaGreatDoor
namespace Go.Proofs.YteojlmpipfajoaaGreatDoor
set_option linter.unusedVariables false
set_option linter.unusedSimpArgs false
open Go.RowKit Go.Shelf
attribute [local go_sem] Oper.semAt_some wide_fn

abbrev tabC : Array Value := #[.func (.func 80) #[] #[], .func (.func 81) #[] #[], .func (.func 82) #[] #[]]
theorem tab_new (w : World) : (w.alloc (.cells tabC 132)).cell? ⟨w.heap.size, 0, none⟩ = some (.func (.func 80) #[] #[]) ∧ (w.alloc (.cells tabC 132)).cell? ⟨w.heap.size, 1, none⟩ = some (.func (.func 81) #[] #[]) ∧ (w.alloc (.cells tabC 132)).cell? ⟨w.heap.size, 2, none⟩ = some (.func (.func 82) #[] #[]) := by
  have h := heap_alloc_new w (.cells tabC 132)
  generalize w.alloc (.cells tabC 132) = W at *
  refine ⟨?_, ?_, ?_⟩ <;> (simp only [World.cell?, h]; rfl)
set_option maxHeartbeats 400000 in
theorem readers_any (w : World) :
    Calls Tryz.prog 67 #[] w fun e w' => e = .returned tabV ∧ w' = w.alloc (.cells tabC 132) := by
  obtain ⟨t0, t1, t2⟩ := tab_new w
  go_enter Tryz.func67, Tryz.ntmps67
  go_wp2
  refine bodyPost_ret (v := tabV) ?_ rfl ⟨rfl, rfl⟩
  simp [results, Tryz.f67, go_sem, t0, t1, t2, tabV]
theorem elements_any (s : Bs) (w : World) :
    Calls Tryz.prog 57 #[.string ⟨s.toArray⟩] w fun e w' => e = .returned (.func (.func 68) #[] #[.pointer (some ⟨w.heap.size, 0, none⟩), .pointer (some ⟨w.heap.size + 1 + 1, 0, none⟩)]) ∧ w' = ((w.alloc (.cells #[.string ⟨s.toArray⟩] 9)).alloc (.cells tabC 132)).alloc (.cells tabC 132) := by
  go_enter Tryz.func57, Tryz.ntmps57
  go_wp2_with (go_at_call 67; refine (readers_any _).mono ?_; rintro e w' ⟨rfl, rfl⟩)
  go_ret
  exact ⟨rfl, rfl⟩

/-- What elements yields, against Split's plain law. -/
theorem elemR_of {c : UInt8} {r : Bs} : (∃ q, elemC (c :: r) = some q ∧ elemR (c :: r) = (q.1, q.2, true)) ∨ (elemC (c :: r) = none ∧ (elemR (c :: r)).2.2 = false) := by
  by_cases h1 : c = 123
  · have e1 : elemC (c :: r) = (clo r 1).map fun k => (r.take k, k + 2) := by simp only [elemC, h1, if_true]
    have e2 : elemR (c :: r) = cloRes (c :: r) := by unfold elemR; rw [if_pos (by rw [h1]; rfl)]
    rw [e1, e2]
    unfold cloRes
    simp only [List.drop_succ_cons, List.drop_zero]
    cases hc : clo r 1 with
    | none => exact .inr ⟨rfl, rfl⟩
    | some k => exact .inl ⟨_, rfl, rfl⟩
  · have n1 : ¬ (c :: r).head? = some 123 := fun h => h1 (Option.some.inj h)
    by_cases h2 : c = 34
    · have e1 : elemC (c :: r) = (quo r).map fun q => (q.1, q.2 + 1) := by simp only [elemC, h1, h2, if_true, if_false]; rfl
      have e2 : elemR (c :: r) = quoRes (c :: r) := by unfold elemR; rw [if_neg n1, if_pos (by rw [h2]; rfl)]
      rw [e1, e2]
      unfold quoRes
      simp only [List.drop_succ_cons, List.drop_zero]
      cases hq : quo r with
      | none => exact .inr ⟨rfl, rfl⟩
      | some q => exact .inl ⟨_, rfl, rfl⟩
    · have n2 : ¬ (c :: r).head? = some 34 := fun h => h2 (Option.some.inj h)
      have e1 : elemC (c :: r) = some (bare (c :: r)) := by simp only [elemC, h1, h2, if_false]
      have e2 : elemR (c :: r) = ((bare (c :: r)).1, (bare (c :: r)).2, true) := by unfold elemR; rw [if_neg n1, if_neg n2]
      rw [e1, e2]
      exact .inl ⟨_, rfl, rfl⟩
theorem els_split : ∀ (n : Nat) (s : Bs) (i : Nat), s.length ≤ n → splitL s = if (els s i).all (·.2.2) = true then some ((els s i).map (·.2.1)) else none := by
  intro n
  induction n with
  | zero =>
    intro s i h
    obtain rfl : s = [] := List.length_eq_zero_iff.1 (by omega)
    rfl
  | succ n ih =>
    intro s i h
    cases s with
    | nil => rfl
    | cons c r =>
      simp only [List.length_cons] at h
      by_cases hw : isW c = true
      · rw [splitL_white hw, els_white hw, ih r (i + 1) (by omega)]
      · have hw' : isW c = false := by simpa using hw
        rw [splitL_elem hw']
        rcases elemR_of (c := c) (r := r) with ⟨q, h1, h2⟩ | ⟨h1, h2⟩
        · have hpos := elem_pos hw' (t := q.1) (k := q.2) h1
          rw [h1, Option.bind_some]
          by_cases ha : atEnd ((c :: r).drop q.2) = true
          · have ho : elemOk (c :: r) = true := by unfold elemOk; rw [h2]; simp [ha]
            rw [if_pos ha, els_right hw' ho, h2]
            simp only [List.all_cons, Bool.true_and, List.map_cons]
            have hd : splitL ((c :: r).drop q.2) = splitL ((c :: r).drop (q.2 + 1)) := by
              rw [← List.drop_drop]
              cases hdr : (c :: r).drop q.2 with
              | nil => rfl
              | cons d t =>
                rw [hdr] at ha
                rw [splitL_white ha]; rfl
            rw [hd, ih ((c :: r).drop (q.2 + 1)) (i + q.2 + 1) (by simp; omega)]
            split <;> rfl
          · have ho : elemOk (c :: r) = false := by unfold elemOk; rw [h2]; simpa using ha
            rw [if_neg ha, els_wrong hw' ho]
            rfl
        · have ho : elemOk (c :: r) = false := by unfold elemOk; rw [h2]; rfl
          rw [h1, els_wrong hw' ho]
          rfl
end Go.Proofs.YteojlmpipfajoaaGreatDoor
namespace Go.Proofs.YteojlmpipfajoaaGreatDoor
set_option linter.unusedVariables false
set_option linter.unusedSimpArgs false
open Go.RowKit Go.Shelf
attribute [local go_sem] Oper.semAt_some wide_fn

abbrev sv (s : Bs) : Value := .string ⟨s.toArray⟩
theorem infoS : (Tryz.prog.info? 9).map (fun i => (i.zero, i.size, i.bytes)) = some (some (sv []), 1, 16) := by kernel_rfl
/-- What Split gives. -/
def SplitRes (s : Bs) (w : World) (e : Ending) (w' : World) : Prop := Below w.heap.size w w' ∧
  ((splitL s = none ∧ ∃ i : Int, e = .returned (.tuple #[.slice none 0 0, .int .i64 i, .int .i64 2])) ∨
   (∃ l, splitL s = some l ∧ 10000 < l.length ∧ e = .returned (.tuple #[.slice none 0 0, .int .i64 0, .int .i64 4])) ∨
   (∃ l, splitL s = some l ∧ l.length ≤ 10000 ∧ ∃ v, e = .returned (.tuple #[v, .int .i64 0, .int .i64 0]) ∧ w'.ownsRow w.heap.size 9 1 v l.length (l.map sv)))
def spL (pre : List (Nat × Bs × Bool)) : List Bs := (pre.map (·.2.1)).take 10000
/-- What holds while elements come. -/
structure SpJ (w : World) (pre : List (Nat × Bs × Bool)) (W : World) : Prop where
  ok : pre.all (·.2.2) = true
  row : ∃ v, Boxed W w.heap.size 22 v ∧ W.ownsRow (w.heap.size + 7) 9 1 v (spL pre).length ((spL pre).map sv) ∧ True
  size : w.heap.size + 7 ≤ W.heap.size
  b1 : Boxed W (w.heap.size + 1) 3 (.int .i64 0)
  b2 : Boxed W (w.heap.size + 1 + 1) 25 (.int .i64 0)
  b3 : Boxed W (w.heap.size + 1 + 1 + 1) 4 (.bool (decide (10000 < pre.length)))
  below : Below w.heap.size w W
/-- .. and behind a wrong one. -/
structure SpX (w : World) (c : Code) (pre : List (Nat × Bs × Bool)) (W : World) : Prop where
  ret : c = .ret
  no : pre.all (·.2.2) = false
  r0 : Boxed W w.heap.size 22 (.slice none 0 0)
  r1 : ∃ i : Int, Boxed W (w.heap.size + 1) 3 (.int .i64 i)
  r2 : Boxed W (w.heap.size + 1 + 1) 25 (.int .i64 2)
  below : Below w.heap.size w W
theorem boxed_grown {W W' : World} {row : Option Nat} {B : Nat} {t : TypeId} {v : Value} (h : Boxed W B t v) (hg : W.grownBy W' row) (hr : ∀ r, row = some r → ∃ o : Obj, W.heap[r]? = some o ∧ o.isCells = false) : Boxed W' B t v :=
  h.kept hg (fun e => by
    obtain ⟨o, ho, hc⟩ := hr B e.symm
    rw [show W.heap[B]? = _ from h] at ho; cases ho; cases hc)
theorem spj_own {w : World} {C : Nat} (hC : w.heap.size ≤ C) : OwnFrom C (SpJ w) := fun pre W W' row h hg hr => by
  have hr' := fun r e => (hr r e).2
  exact ⟨h.ok, holdsRow_own (w.heap.size + 7) w.heap.size 22 9 1 (fun pre => (spL pre).length) (fun pre => (spL pre).map sv) (fun _ _ => True) pre W W' row h.row hg hr', Nat.le_trans h.size hg.size, boxed_grown h.b1 hg hr', boxed_grown h.b2 hg hr', boxed_grown h.b3 hg hr', h.below.grown hg h.below.size (fun r e => Nat.le_trans hC (hr r e).1)⟩
theorem spx_own {w : World} {C : Nat} (hC : w.heap.size ≤ C) (c : Code) : OwnFrom C (SpX w c) := fun pre W W' row h hg hr => by
  have hr' := fun r e => (hr r e).2
  obtain ⟨i, h1⟩ := h.r1
  exact ⟨h.ret, h.no, boxed_grown h.r0 hg hr', ⟨i, boxed_grown h1 hg hr'⟩, boxed_grown h.r2 hg hr', h.below.grown hg h.below.size (fun r e => Nat.le_trans hC (hr r e).1)⟩
theorem boxed_other {W : World} {B B' : Nat} {t : TypeId} {v : Value} (h : Boxed W B t v) (hn : B ≠ B') (u : Value) : Boxed (W.setCell ⟨B', 0, none⟩ u) B t v := (Below.heap_setCell W ⟨B', 0, none⟩ u B hn).trans h
theorem spL_len (pre : List (Nat × Bs × Bool)) : (spL pre).length = min 10000 pre.length := by simp [spL]
theorem spL_more {pre : List (Nat × Bs × Bool)} (h : pre.length < 10000) (x : Nat × Bs × Bool) : spL (pre ++ [x]) = spL pre ++ [x.2.1] := by
  unfold spL
  rw [List.take_of_length_le (by simp; omega), List.take_of_length_le (by simp; omega)]
  simp
theorem spL_full {pre : List (Nat × Bs × Bool)} (h : 10000 ≤ pre.length) (x : Nat × Bs × Bool) : spL (pre ++ [x]) = spL pre := by
  unfold spL
  rw [List.map_append, List.take_append_of_le_length (by simp; omega)]
theorem sp_start (s : Bs) (w : World) {w4 w7 : World} (h4 : w4 = (((w.alloc (.cells #[.slice none 0 0] 22)).alloc (.cells #[.int .i64 0] 3)).alloc (.cells #[.int .i64 0] 25)).alloc (.cells #[.bool false] 4))
    (h7 : w7 = ((w4.alloc (.cells #[.string ⟨s.toArray⟩] 9)).alloc (.cells tabC 132)).alloc (.cells tabC 132)) :
    w4.heap.size = w.heap.size + 4 ∧ w7.heap.size = w.heap.size + 7 ∧ SpJ w [] w7 ∧ w7.cell? ⟨w.heap.size + 4, 0, none⟩ = some (.string ⟨s.toArray⟩) ∧ w7.cell? ⟨w.heap.size + 6, 0, none⟩ = some (.func (.func 80) #[] #[]) ∧ w7.cell? ⟨w.heap.size + 6, 1, none⟩ = some (.func (.func 81) #[] #[]) ∧ w7.cell? ⟨w.heap.size + 6, 2, none⟩ = some (.func (.func 82) #[] #[]) := by
  have hs4 : w4.heap.size = w.heap.size + 4 := by subst h4; simp
  have hs7 : w7.heap.size = w.heap.size + 7 := by subst h7; simp [hs4]
  have c0 := Boxed.new w 22 (.slice none 0 0)
  have c1 := Boxed.new (w.alloc (.cells #[.slice none 0 0] 22)) 3 (.int .i64 0)
  have c2 := Boxed.new ((w.alloc (.cells #[.slice none 0 0] 22)).alloc (.cells #[.int .i64 0] 3)) 25 (.int .i64 0)
  have c3 := Boxed.new (((w.alloc (.cells #[.slice none 0 0] 22)).alloc (.cells #[.int .i64 0] 3)).alloc (.cells #[.int .i64 0] 25)) 4 (.bool false)
  simp only [World.size_alloc] at c1 c2 c3
  have k0 : Boxed w4 w.heap.size 22 (.slice none 0 0) := by subst h4; exact ((c0.alloc _).alloc _).alloc _
  have k1 : Boxed w4 (w.heap.size + 1) 3 (.int .i64 0) := by subst h4; exact (c1.alloc _).alloc _
  have k2 : Boxed w4 (w.heap.size + 1 + 1) 25 (.int .i64 0) := by subst h4; exact c2.alloc _
  have k3 : Boxed w4 (w.heap.size + 1 + 1 + 1) 4 (.bool false) := by subst h4; exact c3
  have hb4 : Below w.heap.size w w4 := by subst h4; exact ((((Below.refl _ w).alloc (Nat.le_refl _) _).alloc (by simp) _).alloc (by simp <;> omega) _).alloc (by simp <;> omega) _
  clear h4 c0 c1 c2 c3
  have hb7 : Below w.heap.size w w7 := by subst h7; exact ((hb4.alloc (by omega) _).alloc (by simp; omega) _).alloc (by simp; omega) _
  have t := tab_new ((w4.alloc (.cells #[.string ⟨s.toArray⟩] 9)).alloc (.cells tabC 132))
  rw [← h7] at t
  simp only [World.size_alloc, hs4] at t
  refine ⟨hs4, hs7, ⟨rfl, ⟨.slice none 0 0, by subst h7; exact ((k0.alloc _).alloc _).alloc _, World.ownsRow_nil _ _ _ _, trivial⟩, by omega, by subst h7; exact ((k1.alloc _).alloc _).alloc _, by subst h7; exact ((k2.alloc _).alloc _).alloc _, by subst h7; exact ((k3.alloc _).alloc _).alloc _, hb7⟩, ?_, t.1, t.2.1, t.2.2⟩
  have c4 := Boxed.new w4 9 (.string ⟨s.toArray⟩)
  rw [hs4] at c4
  have : Boxed w7 (w.heap.size + 4) 9 (.string ⟨s.toArray⟩) := by subst h7; exact (c4.alloc _).alloc _
  exact this.cell
theorem k2_set {b1 b2 : Nat} {W : World} {b : Nat} (h1 : b1 ≠ b) (h2 : b2 ≠ b) (u : Value) : K2 b1 b2 W (W.setCell ⟨b, 0, none⟩ u) := ⟨Below.heap_setCell W ⟨b, 0, none⟩ u b1 h1, Below.heap_setCell W ⟨b, 0, none⟩ u b2 h2⟩
theorem ownsRow_mono {W : World} {base base' : Nat} {e : TypeId} {size : Nat} {v : Value} {n : Nat} {xs : List Value} (h : W.ownsRow base e size v n xs) (hb : base' ≤ base) : W.ownsRow base' e size v n xs := by
  refine ⟨h.1, ?_⟩
  rcases h.2 with h0 | ⟨g, cap, cur, rfl, hg, r⟩
  · exact .inl h0
  · exact .inr ⟨g, cap, cur, rfl, by omega, r⟩
theorem row_shape {W : World} {base : Nat} {e : TypeId} {v : Value} {n : Nat} {xs : List Value} (h : W.ownsRow base e 1 v n xs) : ∃ o c, v = .slice o n c := by
  rcases h.2 with ⟨rfl, rfl⟩ | ⟨g, cap, cur, rfl, _⟩
  · exact ⟨_, _, rfl⟩
  · exact ⟨_, _, rfl⟩
theorem boxed_put {W : World} {B D : Nat} {t : TypeId} {v : Value} {o o' : Obj} (h : Boxed W B t v) (hD : W.heap[D]? = some o) (ho : o.isCells = false) : Boxed (W.putObj D o') B t v :=
  boxed_grown h (grownBy_putObj' W D o') (fun r e => by cases e; exact ⟨o, hD, ho⟩)
/-- Three stores into three boxes. -/
theorem box3 {W : World} {n : Nat} {t0 t1 t2 : TypeId} {a0 a1 a2 : Value} (h0 : Boxed W n t0 a0) (h1 : Boxed W (n + 1) t1 a1) (h2 : Boxed W (n + 1 + 1) t2 a2) (u0 u1 u2 : Value) :
    Boxed (((W.setCell ⟨n, 0, none⟩ u0).setCell ⟨n + 1, 0, none⟩ u1).setCell ⟨n + 1 + 1, 0, none⟩ u2) n t0 u0 ∧ Boxed (((W.setCell ⟨n, 0, none⟩ u0).setCell ⟨n + 1, 0, none⟩ u1).setCell ⟨n + 1 + 1, 0, none⟩ u2) (n + 1) t1 u1 ∧ Boxed (((W.setCell ⟨n, 0, none⟩ u0).setCell ⟨n + 1, 0, none⟩ u1).setCell ⟨n + 1 + 1, 0, none⟩ u2) (n + 1 + 1) t2 u2 ∧ KeepsFrom n W (((W.setCell ⟨n, 0, none⟩ u0).setCell ⟨n + 1, 0, none⟩ u1).setCell ⟨n + 1 + 1, 0, none⟩ u2) ∧ Below n W (((W.setCell ⟨n, 0, none⟩ u0).setCell ⟨n + 1, 0, none⟩ u1).setCell ⟨n + 1 + 1, 0, none⟩ u2) :=
  ⟨((h0.set u0).other (by omega) u1).other (by omega) u2, ((h1.other (by omega) u0).set u1).other (by omega) u2, ((h2.other (by omega) u0).other (by omega) u1).set u2,
    ((((KeepsOthers.setCell W _ _).trans (KeepsOthers.setCell _ _ _)).trans (KeepsOthers.setCell _ _ _))).from n,
    (((Below.refl n W).setCell (p := ⟨n, 0, none⟩) (Nat.le_refl _) u0).setCell (p := ⟨n + 1, 0, none⟩) (by simp) u1).setCell (p := ⟨n + 1 + 1, 0, none⟩) (by simp; omega) u2⟩
theorem all_snoc (pre : List (Nat × Bs × Bool)) (x : Nat × Bs × Bool) : (pre ++ [x]).all (·.2.2) = (pre.all (·.2.2) && x.2.2) := by simp
/-- What is laid for an element. -/
def SpA (w : World) (s : Bs) (x : Nat × Bs × Bool) (a : Act) (W : World) : Prop := ∃ bx, w.heap.size + 7 ≤ bx ∧ W.heap[bx]? = some (.cells #[.string ⟨x.2.1.toArray⟩, .bool x.2.2] 117 (0, 0)) ∧
  a = { tmps := #[.string ⟨s.toArray⟩, undef, .pointer (some ⟨w.heap.size, 0, none⟩), .pointer (some ⟨w.heap.size + 1, 0, none⟩), .pointer (some ⟨w.heap.size + 1 + 1, 0, none⟩), .pointer (some ⟨w.heap.size + 1 + 1 + 1, 0, none⟩), .int .i64 x.1, .pointer (some ⟨bx, 0, none⟩), .string ⟨s.toArray⟩, .func (.func 68) #[] #[.pointer (some ⟨w.heap.size + 1 + 1 + 1 + 1, 0, none⟩), .pointer (some ⟨w.heap.size + 1 + 1 + 1 + 1 + 1 + 1, 0, none⟩)], .int .i64 x.1, .agg #[.string ⟨x.2.1.toArray⟩, .bool x.2.2], undef, undef, undef, undef, undef, undef, undef, undef, undef, undef, undef, undef, undef, undef, undef, undef], defers := [] }
theorem spa_own {w : World} {s : Bs} {C : Nat} (x : Nat × Bs × Bool) (a : Act) : OwnFrom C (fun (_ : Unit) W => SpA w s x a W) := fun _ W W' row ⟨bx, h1, h2, h3⟩ hg hr => by
  refine ⟨bx, h1, (hg.block bx (Array.getElem?_eq_some_iff.1 h2).1 (fun e => ?_)).trans h2, h3⟩
  obtain ⟨_, o, ho, hc⟩ := hr bx e.symm
  rw [h2] at ho; cases ho; cases hc
theorem cells2 {W : World} {b : Nat} {u v : Value} {t : TypeId} (h : W.heap[b]? = some (.cells #[u, v] t (0, 0))) : W.cell? ⟨b, 0, none⟩ = some u ∧ W.cell? ⟨b, 1, none⟩ = some v := by
  refine ⟨?_, ?_⟩ <;> (simp only [World.cell?, h]; rfl)
theorem KeepsFrom.setCell' {B : Nat} {W : World} {b : Nat} {v u : Value} {t : TypeId} (h : Boxed W b t v) : KeepsFrom B W (W.setCell ⟨b, 0, none⟩ u) :=
  ⟨by simp [World.setCell], fun k o _ hk ho => by
    by_cases e : k = b
    · subst e; rw [show W.heap[k]? = _ from h] at hk; cases hk; cases ho
    · exact (Below.heap_setCell W ⟨b, 0, none⟩ u k e).trans hk⟩
set_option maxRecDepth 100000 in
set_option maxHeartbeats 1600000 in
theorem Split_any (s : Bs) (hs : s.length ≤ 1000000) (w : World) :
    Calls Tryz.prog 35 #[.string ⟨s.toArray⟩] w (SplitRes s w) := by
  obtain ⟨i0, hi, hz0, hz1, hz2⟩ := info_parts infoS
  refine callsIn_wide (n := 3) |>.1 ?_
  refine callsIn_of_wp_marks Tryz.func35 rfl trivial ?_ rfl
  simp only [Tryz.ntmps35, List.size_toArray, List.length_cons, List.length_nil, Nat.reduceAdd, Nat.reduceSub, Array.replicate_succ, Array.replicate_zero, List.push_toArray, List.append_toArray, List.nil_append, List.cons_append]
  gi_wp2_with (gi_at_call 57; refine (callsIn_wide.2 (elements_any _ _)).mono ?_; rintro e w' ⟨rfl, rfl⟩)
  obtain ⟨w4, h4⟩ : ∃ w4, w4 = (((w.alloc (.cells #[.slice none 0 0] 22)).alloc (.cells #[.int .i64 0] 3)).alloc (.cells #[.int .i64 0] 25)).alloc (.cells #[.bool false] 4) := ⟨_, rfl⟩
  rw [← h4]
  obtain ⟨w7, h7⟩ : ∃ w7, w7 = ((w4.alloc (.cells #[.string ⟨s.toArray⟩] 9)).alloc (.cells tabC 132)).alloc (.cells tabC 132) := ⟨_, rfl⟩
  rw [← h7]
  obtain ⟨hs4, hs7, hJ0, hcs, ht0, ht1, ht2⟩ := sp_start s w h4 h7
  clear h4 h7
  refine wpIn_rangeFunc_ownH rfl (by omega) (gf := 68) (lb := #[.pointer (some ⟨w.heap.size + 1 + 1 + 1 + 1, 0, none⟩), .pointer (some ⟨w.heap.size + 1 + 1 + 1 + 1 + 1 + 1, 0, none⟩)]) rfl trivial (enters_of Tryz.func68 (by kernel_rfl) rfl)
    (elements_stops (w.heap.size + 1 + 1 + 1 + 1) (w.heap.size + 1 + 1 + 1 + 1 + 1 + 1) s hs w7 (by omega) (by omega) hcs ht0 ht1 ht2)
    K2.trans (k2_put (by omega) (by omega)) (Below.refl _ _) (fun _ => rfl)
    (SpJ w) (SpX w) (spj_own (by omega)) (fun c => spx_own (by omega) c) hJ0 (SpA w s) (fun x a' => spa_own x a') ?assign ?body ?done ?stop
  case assign =>
    intro l pre x W K hJ hK
    have hbz := hJ.below.size
    have hsz7 := hJ.size
    obtain ⟨x1, x2, x3⟩ := x
    gi_wp2
    refine hK _ (W.alloc (.cells #[.string ⟨x2.toArray⟩, .bool x3] 117)) ((KeepsOthers.alloc W _).from _) ⟨Below.heap_alloc _ _ _ (by omega), Below.heap_alloc _ _ _ (by omega)⟩ ((spj_own (w := w) (C := w.heap.size) (Nat.le_refl _)).alloc _ hJ) ⟨W.heap.size, hsz7, heap_alloc_new W _, rfl⟩
  case body =>
    rintro l pre ⟨x1, x2, x3⟩ a' W hl hloop hJ ⟨bx, hbx, hb, rfl⟩ hpl
    obtain ⟨e0, e1⟩ := cells2 hb
    obtain ⟨v, hv, hrow, _⟩ := hJ.row
    have cv := hv.cell; have c1 := hJ.b1.cell; have c2 := hJ.b2.cell; have c3 := hJ.b3.cell
    have fv := hv.frozen; have f1 := hJ.b1.frozen; have f2 := hJ.b2.frozen; have f3 := hJ.b3.frozen
    have HJ := Lib.hid (And.intro hJ (And.intro hv hrow))
    have hsz := hJ.size
    obtain ⟨o, cp, hve⟩ := row_shape hrow
    have HLl := Lib.hid (spL_len pre)
    clear hJ hv hrow hb hcs ht0 ht1 ht2 hJ0 hloop
    subst hve
    cases x3
    · gi_wp2_with fail
      obtain ⟨g0, g1, g2, gk, gb⟩ := box3 HJ.out.2.1 HJ.out.1.b1 HJ.out.1.b2 (.slice none 0 0) (.int .i64 x1) (.int .i64 2)
      exact ⟨⟨gk.size, fun k o hk h1 h2 => gk.same k o (by omega) h1 h2⟩, rfl, by rw [all_snoc]; simp, g0, ⟨_, g1⟩, g2, HJ.out.1.below.trans gb⟩
    · by_cases hfull : 10000 ≤ pre.length
      · have t5 : (((spL pre).length : Int) == 10000) = true := by have := HLl.out; rw [beq_iff_eq]; omega
        gi_wp2_with fail
        have h3 := HJ.out.1.b3.set (.bool true)
        refine ⟨(KeepsOthers.setCell W _ _).from _, k2_set (by omega) (by omega) _, ?_⟩
        exact ⟨by rw [all_snoc, HJ.out.1.ok]; rfl, ⟨_, HJ.out.2.1.other (by omega) _, by rw [spL_full hfull]; exact HJ.out.2.2.kept (grownBy_setCell' W _ _) (.inr (fun e => by have := (HJ.out.2.2.lt _ e).1; omega)), trivial⟩, by simpa [World.setCell] using hsz, HJ.out.1.b1.other (by omega) _, HJ.out.1.b2.other (by omega) _, by rw [show decide (10000 < (pre ++ [(x1, x2, true)]).length) = true by simp; omega]; exact h3, HJ.out.1.below.setCell (p := ⟨_, 0, none⟩) (by simp; omega) _⟩
      · have hLb : (spL pre).length < 10000 := by have := HLl.out; omega
        have t5 : (((spL pre).length : Int) == 10000) = false := by rw [beq_eq_false_iff_ne]; omega
        gi_wp2_with (gi_at_builtin; go_loud (refine wpListIn_append_own _ rfl _ _ 22 rfl (w.heap.size + 7) 9 i0 (sv []) 1 16 Tryz.underlying22 hi hz0 hz1 hz2 rfl (by decide) (.slice o (spL pre).length cp) (spL pre).length ((spL pre).map sv) rfl (HJ.out.2.2.alloc _) ⟨W.heap.size, 0, none⟩ 1 1 [sv x2] rfl rfl (cell_one_new _ _ _) (by simp [Value.oneCell', sv]) (by unfold maxLen; omega) (by omega) (Nat.le_trans hsz (by simp)) ?_); intro v' w1 hown' hgrow _; obtain ⟨g', cap', rfl⟩ := ownsRow_succ hown'; have HG := Lib.hid (And.intro hown' hgrow); obtain ⟨hv1, hv2, _, hk2, hb2⟩ := HJ.out.2.1.appended (by decide) (ownsRow_mono HJ.out.2.2 (by omega : w.heap.size ≤ w.heap.size + 7)) (by omega) (Nat.le_refl _) (ownsRow_mono hown' (by omega : w.heap.size ≤ w.heap.size + 7)) hgrow; have hc1 := hv1.cell; have hf1 := hv1.frozen; have HV := Lib.hid (And.intro hv1 (And.intro hv2 (And.intro hk2 hb2))); clear hown' hgrow hv1 hv2 hk2 hb2)
        have keepB : ∀ {B : Nat} {t : TypeId} {u : Value}, B < w.heap.size + 7 → Boxed W B t u → Boxed w1 B t u := fun hB h => (h.alloc _).kept HG.out.2 (fun e => by have := (HJ.out.2.2.lt _ e.symm).1; omega)
        have keepK : ∀ k, k < w.heap.size + 7 → k ≠ w.heap.size → (w1.setCell ⟨w.heap.size, 0, none⟩ (.slice (some ⟨g', 0, none⟩) ((spL pre).length + 1) cap')).heap[k]? = W.heap[k]? := fun k hk hne =>
          (Below.heap_setCell _ ⟨w.heap.size, 0, none⟩ _ k hne).trans ((HG.out.2.block k (by simp; omega) (fun e => by have := (HJ.out.2.2.lt _ e.symm).1; omega)).trans (Below.heap_alloc _ _ _ (by omega)))
        refine ⟨HV.out.2.2.1.from _, ⟨keepK _ (by omega) (by omega), keepK _ (by omega) (by omega)⟩, ?_⟩
        refine ⟨by rw [all_snoc, HJ.out.1.ok]; rfl, ⟨_, HV.out.2.1, ?_, trivial⟩, ?_, (keepB (by omega) HJ.out.1.b1).other (by omega) _, (keepB (by omega) HJ.out.1.b2).other (by omega) _, ?_, HJ.out.1.below.trans HV.out.2.2.2⟩
        · rw [spL_more (by omega), List.length_append, List.map_append]
          exact HG.out.1.kept (grownBy_setCell' w1 _ _) (.inr (HV.out.1.not_row (by decide) HG.out.1).symm)
        · have := HV.out.2.2.2.size; omega
        · have h3 := (keepB (by omega) HJ.out.1.b3).other (by omega : w.heap.size + 1 + 1 + 1 ≠ w.heap.size) (.slice (some ⟨g', 0, none⟩) ((spL pre).length + 1) cap')
          rw [show decide (10000 < (pre ++ [(x1, x2, true)]).length) = decide (10000 < pre.length) by simp; omega]
          exact h3
  case done =>
    rintro D ys W hD rfl hJ hK
    have hsp := els_split s.length s 0 (Nat.le_refl _)
    rw [hJ.ok, if_pos rfl] at hsp
    obtain ⟨v, hv, hrow, _⟩ := hJ.row
    have cv := hv.cell; have c1 := hJ.b1.cell; have c2 := hJ.b2.cell; have c3 := hJ.b3.cell
    have fv := hv.frozen; have f1 := hJ.b1.frozen; have f2 := hJ.b2.frozen
    have HJ := Lib.hid (And.intro hJ (And.intro hv hrow))
    obtain ⟨o, cp, hve⟩ := row_shape hrow
    have HSP := Lib.hid hsp
    clear hJ hv hrow hcs ht0 ht1 ht2 hJ0 hsp
    subst hve
    by_cases hm : 10000 < (els s 0).length
    · have t5 : decide (10000 < (els s 0).length) = true := by simpa using hm
      rw [t5] at c3
      gi_wp2_with fail
      obtain ⟨g0, g1, g2, gk, gb⟩ := box3 HJ.out.2.1 HJ.out.1.b1 HJ.out.1.b2 (.slice none 0 0) (.int .i64 0) (.int .i64 4)
      have hK' := gk.same D _ (by omega) hK rfl
      refine ⟨by simp, .inl ⟨_, _, rfl, run_takeDeferred hK', ?_⟩⟩
      have r0 := (boxed_put (o' := .deferred none) g0 hK' rfl).cell
      have r1 := (boxed_put (o' := .deferred none) g1 hK' rfl).cell
      have r2 := (boxed_put (o' := .deferred none) g2 hK' rfl).cell
      refine ⟨.tuple #[.slice none 0 0, .int .i64 0, .int .i64 4], ?_, (HJ.out.1.below.trans gb).trans (belowK_b (w := w) (Nat.le_refl _) _ D _ _ (by omega) hK' rfl rfl), .inr (.inl ⟨_, HSP.out, by simpa using hm, rfl⟩)⟩
      simp [results, Tryz.f35, go_sem, r0, r1, r2]
    · have t5 : decide (10000 < (els s 0).length) = false := by simpa using hm
      rw [t5] at c3
      gi_wp2_with fail
      obtain ⟨g0, g1, g2, gk, gb⟩ := box3 HJ.out.2.1 HJ.out.1.b1 HJ.out.1.b2 (.slice o (spL (els s 0)).length cp) (.int .i64 0) (.int .i64 0)
      have hK' := gk.same D _ (by omega) hK rfl
      refine ⟨by simp, .inl ⟨_, _, rfl, run_takeDeferred hK', ?_⟩⟩
      have r0 := (boxed_put (o' := .deferred none) g0 hK' rfl).cell
      have r1 := (boxed_put (o' := .deferred none) g1 hK' rfl).cell
      have r2 := (boxed_put (o' := .deferred none) g2 hK' rfl).cell
      have hL : spL (els s 0) = (els s 0).map (·.2.1) := by unfold spL; rw [List.take_of_length_le (by simp; omega)]
      refine ⟨.tuple #[.slice o (spL (els s 0)).length cp, .int .i64 0, .int .i64 0], ?_, (HJ.out.1.below.trans gb).trans (belowK_b (w := w) (Nat.le_refl _) _ D _ _ (by omega) hK' rfl rfl), .inr (.inr ⟨_, HSP.out, by simp; omega, _, rfl, ?_⟩)⟩
      · simp [results, Tryz.f35, go_sem, r0, r1, r2]
      · rw [← hL]
        refine ownsRow_putObj (ownsRow_mono ?_ (by omega : w.heap.size ≤ w.heap.size + 7)) _ hK' rfl
        have ne : ∀ k, k < w.heap.size + 7 → (Value.slice o (spL (els s 0)).length cp).ownBlock ≠ some k := fun k hk e => by have := (HJ.out.2.2.lt k e).1; omega
        exact ((HJ.out.2.2.kept (grownBy_setCell' W _ _) (.inr (ne _ (by omega)))).kept (grownBy_setCell' _ _ _) (.inr (ne _ (by omega)))).kept (grownBy_setCell' _ _ _) (.inr (ne _ (by omega)))
  case stop =>
    rintro D c' pre W hD hpre hX hK
    obtain ⟨hret, hno, g0, ⟨i, g1⟩, g2, hbel⟩ := hX
    subst hret
    have hsp := els_split s.length s 0 (Nat.le_refl _)
    have hno2 : (els s 0).all (·.2.2) = false := by
      obtain ⟨t, ht⟩ := hpre
      rw [← ht, List.all_append, hno]; rfl
    rw [hno2, if_neg Bool.false_ne_true] at hsp
    clear hcs ht0 ht1 ht2 hJ0
    gi_wp2_with fail
    refine ⟨by simp, .inl ⟨_, _, rfl, run_takeDeferred hK, ?_⟩⟩
    have r0 := (boxed_put (o' := .deferred none) g0 hK rfl).cell
    have r1 := (boxed_put (o' := .deferred none) g1 hK rfl).cell
    have r2 := (boxed_put (o' := .deferred none) g2 hK rfl).cell
    refine ⟨.tuple #[.slice none 0 0, .int .i64 i, .int .i64 2], ?_, hbel.trans (belowK_b (w := w) (Nat.le_refl _) _ D _ _ (by omega) hK rfl rfl), .inl ⟨hsp, i, rfl⟩⟩
    simp [results, Tryz.f35, go_sem, r0, r1, r2]
end Go.Proofs.YteojlmpipfajoaaGreatDoor
