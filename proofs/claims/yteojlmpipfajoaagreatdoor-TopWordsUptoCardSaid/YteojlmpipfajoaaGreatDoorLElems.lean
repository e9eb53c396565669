/- The elements of a list, one after another (package list: elements, Split). -/
import Derived.RangeFuncNested
import Derived.RangeFuncBound
import Derived.RangeFuncCalls
import Derived.RangeFuncLeaves
import Derived.RangeFuncBox
import Derived.Shelf.Abstract
import Derived.Shelf.RegionOpen
import Derived.OwnWalkIn
import Derived.TacticsInMore
import Derived.LoopNIn
import Derived.LoopIn
import Derived.BigRegionIn
import Derived.Sort.QuietIn
import Derived.Test.YteojlmpipfajoaaGreatDoorLRead
namespace Go.Proofs.YteojlmpipfajoaaGreatDoor
set_option linter.unusedVariables false
set_option linter.unusedSimpArgs false
open Go.RowKit Go.Shelf
attribute [local go_sem] Oper.semAt_some
theorem wide_fn (f : FuncId) : Fence.wide.fn f = True := rfl
attribute [local go_sem] wide_fn

/-- What is read at the beginning of a text that begins with no white byte: the element, its bytes, whether it closes. -/
def elemR (s : Bs) : Bs × Nat × Bool := if s.head? = some 123 then cloRes s else if s.head? = some 34 then quoRes s else ((bare s).1, (bare s).2, true)
def elemOk (s : Bs) : Bool := (elemR s).2.2 && atEnd (s.drop (elemR s).2.1)
/-- What 'elements' yields of what is left, its first byte standing at i. -/
def elsF : Nat → Bs → Nat → List (Nat × Bs × Bool)
  | 0, _, _ => []
  | _ + 1, [], _ => []
  | n + 1, c :: r, i => if isW c = true then elsF n r (i + 1) else (i, (elemR (c :: r)).1, elemOk (c :: r)) :: (if elemOk (c :: r) = true then elsF n ((c :: r).drop ((elemR (c :: r)).2.1 + 1)) (i + (elemR (c :: r)).2.1 + 1) else [])
def els (s : Bs) (i : Nat) : List (Nat × Bs × Bool) := elsF s.length s i
theorem elsF_fuel : ∀ (n m : Nat) (s : Bs) (i : Nat), s.length ≤ n → s.length ≤ m → elsF n s i = elsF m s i := by
  intro n
  induction n with
  | zero =>
    intro m s i h1 h2
    have : s = [] := List.length_eq_zero_iff.1 (by omega)
    subst this
    cases m <;> rfl
  | succ n ih =>
    intro m s i h1 h2
    match s, m with
    | [], 0 => rfl
    | [], m + 1 => rfl
    | c :: r, 0 => simp at h2
    | c :: r, m + 1 =>
      simp only [List.length_cons] at h1 h2
      simp only [elsF]
      rw [ih m r _ (by omega) (by omega), ih m _ _ (by simp; omega) (by simp; omega)]
theorem els_nil (i : Nat) : els [] i = [] := rfl
theorem els_white {c : UInt8} {r : Bs} {i : Nat} (h : isW c = true) : els (c :: r) i = els r (i + 1) := by
  unfold els; simp only [List.length_cons, elsF, h, if_true]
theorem els_elem {c : UInt8} {r : Bs} {i : Nat} (h : isW c = false) : els (c :: r) i = (i, (elemR (c :: r)).1, elemOk (c :: r)) :: (if elemOk (c :: r) = true then els ((c :: r).drop ((elemR (c :: r)).2.1 + 1)) (i + (elemR (c :: r)).2.1 + 1) else []) := by
  unfold els
  simp only [List.length_cons, elsF, h, Bool.false_eq_true, if_false]
  rw [elsF_fuel r.length (List.length ((c :: r).drop ((elemR (c :: r)).2.1 + 1))) _ _ (by simp) (Nat.le_refl _)]
theorem els_wrong {c : UInt8} {r : Bs} {i : Nat} (h : isW c = false) (ho : elemOk (c :: r) = false) : els (c :: r) i = [(i, (elemR (c :: r)).1, false)] := by
  rw [els_elem h, ho]; rfl
theorem els_right {c : UInt8} {r : Bs} {i : Nat} (h : isW c = false) (ho : elemOk (c :: r) = true) : els (c :: r) i = (i, (elemR (c :: r)).1, true) :: els ((c :: r).drop ((elemR (c :: r)).2.1 + 1)) (i + (elemR (c :: r)).2.1 + 1) := by
  rw [els_elem h, ho]; rfl

/-- Reading takes no more than there is. -/
theorem elemR_le (s : Bs) : (elemR s).2.1 ≤ s.length ∧ (elemR s).1.length ≤ (elemR s).2.1 := by
  unfold elemR
  split
  · unfold cloRes
    cases hc : clo (s.drop 1) 1 with
    | none => simp
    | some k =>
      have := clo_le _ _ (Nat.le_refl _) _ _ hc
      simp at this ⊢; omega
  · split
    · unfold quoRes
      cases hq : quo (s.drop 1) with
      | none => simp
      | some q =>
        obtain ⟨h1, h2⟩ := quoF_le _ _ _ _ hq
        simp at h1 h2 ⊢; omega
    · exact bareF_le _ _

theorem els_at_wrong {s : Bs} {i : Nat} (hlt : i < s.length) (hw : isW s[i] = false) (h : ((elemR (s.drop i)).2.2 && atEnd (s.drop (i + (elemR (s.drop i)).2.1))) = false) : els (s.drop i) i = [(i, (elemR (s.drop i)).1, false)] := by
  have hcons : s.drop i = s[i] :: s.drop (i + 1) := List.drop_eq_getElem_cons hlt
  have ho : elemOk (s.drop i) = false := by unfold elemOk; rw [List.drop_drop]; exact h
  rw [hcons] at ho ⊢
  exact els_wrong hw ho
theorem els_at_right {s : Bs} {i : Nat} (hlt : i < s.length) (hw : isW s[i] = false) (h : ((elemR (s.drop i)).2.2 && atEnd (s.drop (i + (elemR (s.drop i)).2.1))) = true) : els (s.drop i) i = (i, (elemR (s.drop i)).1, true) :: els (s.drop (i + (elemR (s.drop i)).2.1 + 1)) (i + (elemR (s.drop i)).2.1 + 1) := by
  have hcons : s.drop i = s[i] :: s.drop (i + 1) := List.drop_eq_getElem_cons hlt
  have ho : elemOk (s.drop i) = true := by unfold elemOk; rw [List.drop_drop]; exact h
  have h2 : s.drop (i + (elemR (s.drop i)).2.1 + 1) = (s.drop i).drop ((elemR (s.drop i)).2.1 + 1) := by rw [List.drop_drop]; rfl
  rw [h2]
  rw [hcons] at ho ⊢
  exact els_right hw ho

/-- The worlds that have grown from w. -/
structure HeldW (w : World) where
  val : World
  below : Below w.heap.size w val
instance (w : World) : Nonempty (HeldW w) := ⟨⟨w, Below.refl _ _⟩⟩
theorem wpIn_region_held {F : Fence} {n : Nat} {P : Program} {id : Nat} {Q : Exit → Act → World → Prop} {a : Act} {w : World} {ls : List Oper} (w0 : World) (hw0 : Below w0.heap.size w0 w) (hro : F.round = none) (hm : P.follows .mixedOrders = true) (hB : Region.lexB .any ls.toArray = true)
    (h : wpQuietIn F n P ls.toArray (fun w' => ∃ x : HeldW w0, w' = x.val) (fun a' => ∀ w', (∃ x : HeldW w0, w' = x.val) → Q .normal a' w') ls a) : (Code.region id ls.toArray true).wpIn F n P Q a w := by
  simp only [Region.lexB, Bool.and_eq_true] at hB
  refine wpIn_region_any hm (wpAnyIn_of_quiet (C := fun w' => ∃ x : HeldW w0, w' = x.val) (Q := fun a' => ∀ w', (∃ x : HeldW w0, w' = x.val) → Q .normal a' w') hro (fun _ w' hw' h => h w' hw') _ _ _ _ ⟨⟨w.drew, hw0.drew⟩, rfl⟩ ?_)
  have := wpAnyQIn_lex (F := F) (n := n) (C := fun w' => ∃ x : HeldW w0, w' = x.val) (md := .any) hB.1 ls 0 (Array.replicate ls.toArray.size false) a (by simp) (by simpa using hB.2) h
  simpa using this
theorem held_same {F : Fence} {r : Nat} {P : Program} {f : FuncId} {args : Array Value} {w0 : World} {x : HeldW w0} {v : Value} (h : CallsIn F r P f args x.val fun e w' => e = .returned v ∧ x.val = w') : CallsIn F r P f args x.val fun e w'' => e = .returned v ∧ ∃ y : HeldW w0, w'' = y.val :=
  h.mono fun _ _ ⟨he, hm⟩ => ⟨he, x, hm.symm⟩
theorem held_more {F : Fence} {r : Nat} {P : Program} {f : FuncId} {args : Array Value} {w0 : World} {x : HeldW w0} {v : Value} (h : CallsIn F r P f args x.val fun e w' => e = .returned v ∧ Below x.val.heap.size x.val w') : CallsIn F r P f args x.val fun e w'' => e = .returned v ∧ ∃ y : HeldW w0, w'' = y.val :=
  h.mono fun _ w' ⟨he, hm⟩ => ⟨he, ⟨w', x.below.trans (hm.mono x.below.size)⟩, rfl⟩

abbrev encE (x : Nat × Bs × Bool) : Array Value := #[.int .i64 x.1, .agg #[.string ⟨x.2.1.toArray⟩, .bool x.2.2]]

/-- The two blocks that elements reads stay. -/
structure K2 (b1 b2 : Nat) (w w' : World) : Prop where
  k1 : w'.heap[b1]? = w.heap[b1]?
  k2 : w'.heap[b2]? = w.heap[b2]?
section
variable {b1 b2 : Nat} {w w1 w2 : World}
theorem K2.refl (w : World) : K2 b1 b2 w w := ⟨rfl, rfl⟩
theorem K2.trans (h : K2 b1 b2 w w1) (k : K2 b1 b2 w1 w2) : K2 b1 b2 w w2 := ⟨k.k1.trans h.k1, k.k2.trans h.k2⟩
theorem K2.cell1 (h : K2 b1 b2 w w1) (o : Nat) : w1.cell? ⟨b1, o, none⟩ = w.cell? ⟨b1, o, none⟩ := by simp only [World.cell?, h.k1]
theorem K2.cell2 (h : K2 b1 b2 w w1) (o : Nat) : w1.cell? ⟨b2, o, none⟩ = w.cell? ⟨b2, o, none⟩ := by simp only [World.cell?, h.k2]
theorem K2.below {B : Nat} (h : Below B w w1) (h1 : b1 < B) (h2 : b2 < B) : K2 b1 b2 w w1 := ⟨h.block b1 h1, h.block b2 h2⟩
theorem k2_put {w : World} (l1 : b1 < w.heap.size) (l2 : b2 < w.heap.size) (W : World) (l : Nat) (o o' : Obj) (hl : w.heap.size ≤ l) (h : W.heap[l]? = some o) (_ : o.isCells = false) (_ : o.isWalk = false) : K2 b1 b2 W (W.putObj l o') :=
  ⟨World.putObj_heap_other (by omega), World.putObj_heap_other (by omega)⟩
theorem cell_lt {W : World} {b o : Nat} {v : Value} (h : W.cell? ⟨b, o, none⟩ = some v) : b < W.heap.size := by
  simp only [World.cell?] at h
  cases hk : W.heap[b]? with
  | none => rw [hk] at h; simp at h
  | some x => exact (Array.getElem?_eq_some_iff.1 hk).1
end


set_option maxRecDepth 100000 in
set_option maxHeartbeats 1600000 in
theorem elements1_in (n : Nat) (hn : 1 ≤ n) (l bx tx : Nat) (s : Bs) (hs : s.length ≤ 1000000) (J Jx : List (Nat × Bs × Bool) → World → Prop) (hJd : ∀ pre W W', J pre W → Below W.heap.size W W' → J pre W')
    (hY : ∀ pre x W, J pre W → pre.length < s.length → YieldAt Fence.wide (n - 1) Tryz.prog l (encE x) W fun e W' =>
      (e = .returned (.bool true) ∧ J (pre ++ [x]) W' ∧ K2 bx tx W W') ∨ (e = .returned (.bool false) ∧ Jx (pre ++ [x]) W'))
    (W : World) (hbx : W.cell? ⟨bx, 0, none⟩ = some (.string ⟨s.toArray⟩))
    (ht0 : W.cell? ⟨tx, 0, none⟩ = some (.func (.func 80) #[] #[])) (ht1 : W.cell? ⟨tx, 1, none⟩ = some (.func (.func 81) #[] #[])) (ht2 : W.cell? ⟨tx, 2, none⟩ = some (.func (.func 82) #[] #[])) (h0 : J [] W) :
    CallsIn Fence.wide n Tryz.prog 68 #[.func (.yield l) #[] #[], .pointer (some ⟨bx, 0, none⟩), .pointer (some ⟨tx, 0, none⟩)] W fun e W' => (∃ v, e = .returned v) ∧
      ((∃ ys, ys = els s 0 ∧ J ys W') ∨ (∃ pre, pre <+: els s 0 ∧ Jx pre W')) := by
  refine callsIn_of_wp Tryz.func68 rfl trivial ?_ rfl
  simp only [Tryz.ntmps68, List.size_toArray, List.length_cons, List.length_nil, Nat.reduceAdd, Nat.reduceSub, Array.replicate_succ, Array.replicate_zero, List.push_toArray, List.append_toArray, List.nil_append, List.cons_append]
  gi_wp2
  gi_loopw [4] (fun v wr => ∃ (i : Nat) (pre : List (Nat × Bs × Bool)), i ≤ s.length + 1 ∧ v = .int .i64 i ∧ Hid (pre ++ els (s.drop i) i = els s 0) ∧ J pre wr ∧ K2 bx tx W wr ∧ pre.length ≤ i)
    (fun i _ => s.length + 1 - (intOf i).toNat)
  case atStart => exact ⟨0, [], by omega, rfl, rfl, h0, K2.refl _, by simp⟩
  case round =>
    obtain ⟨i, pre, hi, rfl, HP, hJs, hnx, hpl⟩ := hrel
    have hbc := (hnx.cell1 0).trans hbx
    have hc0 := (hnx.cell2 0).trans ht0
    have hc1 := (hnx.cell2 1).trans ht1
    have hc2 := (hnx.cell2 2).trans ht2
    by_cases hlt : i < s.length
    · have t0 : decide ((i : Int) < (s.length : Int)) = true := by rw [decide_eq_true_eq]; omega
      have hcons : s.drop i = s[i] :: s.drop (i + 1) := List.drop_eq_getElem_cons hlt
      have h255 := byte_lt s[i]
      have h000 : (0 : Int) ≤ (s[i].toNat : Int) := by omega
      have V1 : Hid (∀ W, Calls Tryz.prog 61 #[.int .u8 (s[i].toNat : Int)] W fun e w' => e = .returned (.bool (isW s[i])) ∧ W = w') := fun W => white_any _ h000 h255 W
      by_cases hw : isW s[i] = true
      · have HX : Hid (pre ++ els (s.drop (i + 1)) (i + 1) = els s 0) := by
          show _ = _
          rw [← HP.out, hcons, els_white hw]
        rw [hw] at V1
        clear HP hcons hw
        gi_wp2_with (gi_at_call 61; refine (callsIn_wide.2 (V1.out _)).mono ?_; rintro e w' ⟨rfl, rfl⟩)
        go_roundw
        case rel => exact ⟨i + 1, pre, by omega, by go_num, HX, hJs, hnx, by omega⟩
        case measure => simp [intOf]; omega
      · have hw1 : isW s[i] = false := by simpa using hw
        rw [hw1] at V1
        have HK : Hid (∀ W, Calls Tryz.prog 69 #[.int .u8 (s[i].toNat : Int)] W fun e w' => e = .returned (.int .i64 (if s[i] = 123 then 1 else if s[i] = 34 then 2 else 0)) ∧ W = w') := fun W => kind_any _ W
        have HXw : Hid (((elemR (s.drop i)).2.2 && atEnd (s.drop (i + (elemR (s.drop i)).2.1))) = false → pre ++ [(i, (elemR (s.drop i)).1, false)] = els s 0) := fun h => by rw [← HP.out, els_at_wrong hlt hw1 h]
        have HXr : Hid (((elemR (s.drop i)).2.2 && atEnd (s.drop (i + (elemR (s.drop i)).2.1))) = true → pre ++ ([(i, (elemR (s.drop i)).1, true)] ++ els (s.drop (i + (elemR (s.drop i)).2.1 + 1)) (i + (elemR (s.drop i)).2.1 + 1)) = els s 0) := fun h => by rw [← HP.out, els_at_right hlt hw1 h]; rfl
        have hle := elemR_le (s.drop i)
        have hbW : bx < wr.heap.size := cell_lt hbc
        have htW : tx < wr.heap.size := cell_lt hc0
        have x0 : ∀ x : HeldW wr, x.val.cell? ⟨bx, 0, none⟩ = some (.string ⟨s.toArray⟩) := fun x => (x.below.cell (p := ⟨bx, 0, none⟩) hbW).trans hbc
        by_cases h1 : s[i] = 123
        · skip
          have HR : Hid (∀ W, Calls Tryz.prog 81 #[.string ⟨(s.drop i).toArray⟩] W fun e w' => e = .returned (.tuple #[.string ⟨(elemR (s.drop i)).1.toArray⟩, .int .i64 ((elemR (s.drop i)).2.1 : Int), .bool (elemR (s.drop i)).2.2]) ∧ Below W.heap.size W w') := by
            intro W
            have : elemR (s.drop i) = cloRes (s.drop i) := by rw [hcons]; unfold elemR; rw [if_pos (by rw [h1]; rfl)]
            rw [this]
            exact (readBraced_any _ (by simp; omega) (s.drop (i + 1)) (by rw [hcons, h1]) W).mono fun e w' h => ⟨h.1, by rw [← h.2]; exact Below.refl _ _⟩
          rw [if_pos h1] at HK
          have x1 : ∀ x : HeldW wr, x.val.cell? ⟨tx, 1, none⟩ = some (.func (.func 81) #[] #[]) := fun x => (x.below.cell (p := ⟨tx, 1, none⟩) htW).trans hc1
          generalize elemR (s.drop i) = q at *
          obtain ⟨qt, qn, qo⟩ := q
          simp only [List.length_drop] at hle HR HXw HXr
          clear h1 hw hw1 HP hcons
          gi_wp2_with (gi_at_call 61; refine (callsIn_wide.2 (V1.out _)).mono ?_; rintro e w' ⟨rfl, rfl⟩)
          refine wpIn_region_held wr (Below.refl _ _) rfl (by kernel_rfl) (by kernel_rfl) ?_
          repeat (gi_big_quiet_step (first | (gi_at_call 69; exact held_same (callsIn_wide.2 (HK.out _))) | (gi_at_call 81; exact held_more (callsIn_wide.2 (HR.out _)))))
          refine wpQuietIn_nil ?_
          rintro _ ⟨x, rfl⟩
          have hcx := x0 x
          have hJx := hJd _ _ _ hJs x.below
          have hnx2 : K2 bx tx W x.val := hnx.trans (K2.below x.below hbW htW)
          clear x0 x1 HK HR hc0 hc1 hc2 hbc
          cases qo
          · have HX := Lib.hid (HXw.out rfl)
            clear HXw HXr
            gi_wp2_with fail
            all_goals (try (exfalso; have hu := ‹some undef = some (Value.bool _)›; simp [undef] at hu; done))
            obtain ⟨fn, tmps, assign, body, hy, hR⟩ := hY pre (i, qt, false) x.val hJx (by omega)
            dsimp only [encE] at hy
            gi_wp2_with fail
            first | refine hR.mono ?_ | (rw [hy]; gi_wp2_with fail; refine hR.mono ?_)
            rintro e W3 (⟨rfl, hJ3, hk3⟩ | ⟨rfl, hJx3⟩)
            · gi_wp2_with fail
              refine bodyPost_ret (results_none rfl _ _ _) rfl ?_
              exact ⟨⟨_, rfl⟩, .inl ⟨_, HX.out, hJ3⟩⟩
            · gi_wp2_with fail
              refine bodyPost_ret (results_none rfl _ _ _) rfl ?_
              exact ⟨⟨_, rfl⟩, .inr ⟨_, ⟨[], by rw [List.append_nil]; exact HX.out⟩, hJx3⟩⟩
          · by_cases hend : i + qn = s.length
            · have t5 : ((i : Int) + (qn : Int) == (s.length : Int)) = true := by rw [beq_iff_eq]; omega
              have HX := Lib.hid (HXr.out (by rw [hend, List.drop_length]; rfl))
              clear HXw HXr
              gi_wp2_with fail
              obtain ⟨fn, tmps, assign, body, hy, hR⟩ := hY pre (i, qt, true) x.val hJx (by omega)
              dsimp only [encE] at hy
              gi_wp2_with fail
              first | refine hR.mono ?_ | (rw [hy]; gi_wp2_with fail; refine hR.mono ?_)
              rintro e W3 (⟨rfl, hJ3, hk3⟩ | ⟨rfl, hJx3⟩)
              · gi_wp2_with fail
                go_roundw
                case rel => exact ⟨i + qn + 1, pre ++ [(i, qt, true)], by omega, by go_num, by rw [List.append_assoc]; exact HX.out, hJ3, hnx2.trans hk3, by simp; omega⟩
                case measure => simp [intOf]; omega
              · gi_wp2_with fail
                refine bodyPost_ret (results_none rfl _ _ _) rfl ?_
                exact ⟨⟨_, rfl⟩, .inr ⟨_, ⟨_, by rw [List.append_assoc]; exact HX.out⟩, hJx3⟩⟩
            · have t5 : ((i : Int) + (qn : Int) == (s.length : Int)) = false := by rw [beq_eq_false_iff_ne]; omega
              have hlt2 : i + qn < s.length := by omega
              have hae : atEnd (s.drop (i + qn)) = isW s[i + qn] := by rw [List.drop_eq_getElem_cons hlt2]; rfl
              have g255 := byte_lt s[i + qn]
              have g000 : (0 : Int) ≤ (s[i + qn].toNat : Int) := by omega
              have V2 : Hid (∀ W, Calls Tryz.prog 61 #[.int .u8 (s[i + qn].toNat : Int)] W fun e w' => e = .returned (.bool (isW s[i + qn])) ∧ W = w') := fun W => white_any _ g000 g255 W
              rw [hae] at HXw HXr
              have a1 : (i : Int) + qn < (s.length : Int) := by omega
              have a2 : (0 : Int) ≤ (i : Int) + qn := by omega
              have a3 : ((i : Int) + qn).toNat = i + qn := by omega
              clear hae
              generalize isW s[i + qn] = ok at *
              cases ok
              · have HX := Lib.hid (HXw.out rfl)
                clear HXw HXr
                gi_wp2_with (gi_at_call 61; refine (callsIn_wide.2 (V2.out _)).mono ?_; rintro e w' ⟨rfl, rfl⟩)
                obtain ⟨fn, tmps, assign, body, hy, hR⟩ := hY pre (i, qt, false) x.val hJx (by omega)
                dsimp only [encE] at hy
                gi_wp2_with fail
                first | refine hR.mono ?_ | (rw [hy]; gi_wp2_with fail; refine hR.mono ?_)
                rintro e W3 (⟨rfl, hJ3, hk3⟩ | ⟨rfl, hJx3⟩)
                · gi_wp2_with fail
                  refine bodyPost_ret (results_none rfl _ _ _) rfl ?_
                  exact ⟨⟨_, rfl⟩, .inl ⟨_, HX.out, hJ3⟩⟩
                · gi_wp2_with fail
                  refine bodyPost_ret (results_none rfl _ _ _) rfl ?_
                  exact ⟨⟨_, rfl⟩, .inr ⟨_, ⟨[], by rw [List.append_nil]; exact HX.out⟩, hJx3⟩⟩
              · have HX := Lib.hid (HXr.out rfl)
                clear HXw HXr
                gi_wp2_with (gi_at_call 61; refine (callsIn_wide.2 (V2.out _)).mono ?_; rintro e w' ⟨rfl, rfl⟩)
                obtain ⟨fn, tmps, assign, body, hy, hR⟩ := hY pre (i, qt, true) x.val hJx (by omega)
                dsimp only [encE] at hy
                gi_wp2_with fail
                first | refine hR.mono ?_ | (rw [hy]; gi_wp2_with fail; refine hR.mono ?_)
                rintro e W3 (⟨rfl, hJ3, hk3⟩ | ⟨rfl, hJx3⟩)
                · gi_wp2_with fail
                  go_roundw
                  case rel => exact ⟨i + qn + 1, pre ++ [(i, qt, true)], by omega, by go_num, by rw [List.append_assoc]; exact HX.out, hJ3, hnx2.trans hk3, by simp; omega⟩
                  case measure => simp [intOf]; omega
                · gi_wp2_with fail
                  refine bodyPost_ret (results_none rfl _ _ _) rfl ?_
                  exact ⟨⟨_, rfl⟩, .inr ⟨_, ⟨_, by rw [List.append_assoc]; exact HX.out⟩, hJx3⟩⟩
        · by_cases h2 : s[i] = 34
          · skip
            have HR : Hid (∀ W, Calls Tryz.prog 82 #[.string ⟨(s.drop i).toArray⟩] W fun e w' => e = .returned (.tuple #[.string ⟨(elemR (s.drop i)).1.toArray⟩, .int .i64 ((elemR (s.drop i)).2.1 : Int), .bool (elemR (s.drop i)).2.2]) ∧ Below W.heap.size W w') := by
              intro W
              have : elemR (s.drop i) = quoRes (s.drop i) := by rw [hcons]; unfold elemR; rw [if_neg (by intro h; exact h1 (Option.some.inj h)), if_pos (by rw [h2]; rfl)]
              rw [this]
              exact readQuoted_any _ (by simp; omega) (by simp; omega) W
            rw [if_neg h1, if_pos h2] at HK
            have x1 : ∀ x : HeldW wr, x.val.cell? ⟨tx, 2, none⟩ = some (.func (.func 82) #[] #[]) := fun x => (x.below.cell (p := ⟨tx, 2, none⟩) htW).trans hc2
            generalize elemR (s.drop i) = q at *
            obtain ⟨qt, qn, qo⟩ := q
            simp only [List.length_drop] at hle HR HXw HXr
            clear h1 h2 hw hw1 HP hcons
            gi_wp2_with (gi_at_call 61; refine (callsIn_wide.2 (V1.out _)).mono ?_; rintro e w' ⟨rfl, rfl⟩)
            refine wpIn_region_held wr (Below.refl _ _) rfl (by kernel_rfl) (by kernel_rfl) ?_
            repeat (gi_big_quiet_step (first | (gi_at_call 69; exact held_same (callsIn_wide.2 (HK.out _))) | (gi_at_call 82; exact held_more (callsIn_wide.2 (HR.out _)))))
            refine wpQuietIn_nil ?_
            rintro _ ⟨x, rfl⟩
            have hcx := x0 x
            have hJx := hJd _ _ _ hJs x.below
            have hnx2 : K2 bx tx W x.val := hnx.trans (K2.below x.below hbW htW)
            clear x0 x1 HK HR hc0 hc1 hc2 hbc
            cases qo
            · have HX := Lib.hid (HXw.out rfl)
              clear HXw HXr
              gi_wp2_with fail
              all_goals (try (exfalso; have hu := ‹some undef = some (Value.bool _)›; simp [undef] at hu; done))
              obtain ⟨fn, tmps, assign, body, hy, hR⟩ := hY pre (i, qt, false) x.val hJx (by omega)
              dsimp only [encE] at hy
              gi_wp2_with fail
              first | refine hR.mono ?_ | (rw [hy]; gi_wp2_with fail; refine hR.mono ?_)
              rintro e W3 (⟨rfl, hJ3, hk3⟩ | ⟨rfl, hJx3⟩)
              · gi_wp2_with fail
                refine bodyPost_ret (results_none rfl _ _ _) rfl ?_
                exact ⟨⟨_, rfl⟩, .inl ⟨_, HX.out, hJ3⟩⟩
              · gi_wp2_with fail
                refine bodyPost_ret (results_none rfl _ _ _) rfl ?_
                exact ⟨⟨_, rfl⟩, .inr ⟨_, ⟨[], by rw [List.append_nil]; exact HX.out⟩, hJx3⟩⟩
            · by_cases hend : i + qn = s.length
              · have t5 : ((i : Int) + (qn : Int) == (s.length : Int)) = true := by rw [beq_iff_eq]; omega
                have HX := Lib.hid (HXr.out (by rw [hend, List.drop_length]; rfl))
                clear HXw HXr
                gi_wp2_with fail
                obtain ⟨fn, tmps, assign, body, hy, hR⟩ := hY pre (i, qt, true) x.val hJx (by omega)
                dsimp only [encE] at hy
                gi_wp2_with fail
                first | refine hR.mono ?_ | (rw [hy]; gi_wp2_with fail; refine hR.mono ?_)
                rintro e W3 (⟨rfl, hJ3, hk3⟩ | ⟨rfl, hJx3⟩)
                · gi_wp2_with fail
                  go_roundw
                  case rel => exact ⟨i + qn + 1, pre ++ [(i, qt, true)], by omega, by go_num, by rw [List.append_assoc]; exact HX.out, hJ3, hnx2.trans hk3, by simp; omega⟩
                  case measure => simp [intOf]; omega
                · gi_wp2_with fail
                  refine bodyPost_ret (results_none rfl _ _ _) rfl ?_
                  exact ⟨⟨_, rfl⟩, .inr ⟨_, ⟨_, by rw [List.append_assoc]; exact HX.out⟩, hJx3⟩⟩
              · have t5 : ((i : Int) + (qn : Int) == (s.length : Int)) = false := by rw [beq_eq_false_iff_ne]; omega
                have hlt2 : i + qn < s.length := by omega
                have hae : atEnd (s.drop (i + qn)) = isW s[i + qn] := by rw [List.drop_eq_getElem_cons hlt2]; rfl
                have g255 := byte_lt s[i + qn]
                have g000 : (0 : Int) ≤ (s[i + qn].toNat : Int) := by omega
                have V2 : Hid (∀ W, Calls Tryz.prog 61 #[.int .u8 (s[i + qn].toNat : Int)] W fun e w' => e = .returned (.bool (isW s[i + qn])) ∧ W = w') := fun W => white_any _ g000 g255 W
                rw [hae] at HXw HXr
                have a1 : (i : Int) + qn < (s.length : Int) := by omega
                have a2 : (0 : Int) ≤ (i : Int) + qn := by omega
                have a3 : ((i : Int) + qn).toNat = i + qn := by omega
                clear hae
                generalize isW s[i + qn] = ok at *
                cases ok
                · have HX := Lib.hid (HXw.out rfl)
                  clear HXw HXr
                  gi_wp2_with (gi_at_call 61; refine (callsIn_wide.2 (V2.out _)).mono ?_; rintro e w' ⟨rfl, rfl⟩)
                  obtain ⟨fn, tmps, assign, body, hy, hR⟩ := hY pre (i, qt, false) x.val hJx (by omega)
                  dsimp only [encE] at hy
                  gi_wp2_with fail
                  first | refine hR.mono ?_ | (rw [hy]; gi_wp2_with fail; refine hR.mono ?_)
                  rintro e W3 (⟨rfl, hJ3, hk3⟩ | ⟨rfl, hJx3⟩)
                  · gi_wp2_with fail
                    refine bodyPost_ret (results_none rfl _ _ _) rfl ?_
                    exact ⟨⟨_, rfl⟩, .inl ⟨_, HX.out, hJ3⟩⟩
                  · gi_wp2_with fail
                    refine bodyPost_ret (results_none rfl _ _ _) rfl ?_
                    exact ⟨⟨_, rfl⟩, .inr ⟨_, ⟨[], by rw [List.append_nil]; exact HX.out⟩, hJx3⟩⟩
                · have HX := Lib.hid (HXr.out rfl)
                  clear HXw HXr
                  gi_wp2_with (gi_at_call 61; refine (callsIn_wide.2 (V2.out _)).mono ?_; rintro e w' ⟨rfl, rfl⟩)
                  obtain ⟨fn, tmps, assign, body, hy, hR⟩ := hY pre (i, qt, true) x.val hJx (by omega)
                  dsimp only [encE] at hy
                  gi_wp2_with fail
                  first | refine hR.mono ?_ | (rw [hy]; gi_wp2_with fail; refine hR.mono ?_)
                  rintro e W3 (⟨rfl, hJ3, hk3⟩ | ⟨rfl, hJx3⟩)
                  · gi_wp2_with fail
                    go_roundw
                    case rel => exact ⟨i + qn + 1, pre ++ [(i, qt, true)], by omega, by go_num, by rw [List.append_assoc]; exact HX.out, hJ3, hnx2.trans hk3, by simp; omega⟩
                    case measure => simp [intOf]; omega
                  · gi_wp2_with fail
                    refine bodyPost_ret (results_none rfl _ _ _) rfl ?_
                    exact ⟨⟨_, rfl⟩, .inr ⟨_, ⟨_, by rw [List.append_assoc]; exact HX.out⟩, hJx3⟩⟩
          · skip
            have HR : Hid (∀ W, Calls Tryz.prog 80 #[.string ⟨(s.drop i).toArray⟩] W fun e w' => e = .returned (.tuple #[.string ⟨(elemR (s.drop i)).1.toArray⟩, .int .i64 ((elemR (s.drop i)).2.1 : Int), .bool (elemR (s.drop i)).2.2]) ∧ Below W.heap.size W w') := by
              intro W
              have : elemR (s.drop i) = ((bare (s.drop i)).1, (bare (s.drop i)).2, true) := by rw [hcons]; unfold elemR; rw [if_neg (by intro h; exact h1 (Option.some.inj h)), if_neg (by intro h; exact h2 (Option.some.inj h))]
              rw [this]
              exact readBare_any _ (by simp; omega) W
            rw [if_neg h1, if_neg h2] at HK
            have x1 : ∀ x : HeldW wr, x.val.cell? ⟨tx, 0, none⟩ = some (.func (.func 80) #[] #[]) := fun x => (x.below.cell (p := ⟨tx, 0, none⟩) htW).trans hc0
            generalize elemR (s.drop i) = q at *
            obtain ⟨qt, qn, qo⟩ := q
            simp only [List.length_drop] at hle HR HXw HXr
            clear h1 h2 hw hw1 HP hcons
            gi_wp2_with (gi_at_call 61; refine (callsIn_wide.2 (V1.out _)).mono ?_; rintro e w' ⟨rfl, rfl⟩)
            refine wpIn_region_held wr (Below.refl _ _) rfl (by kernel_rfl) (by kernel_rfl) ?_
            repeat (gi_big_quiet_step (first | (gi_at_call 69; exact held_same (callsIn_wide.2 (HK.out _))) | (gi_at_call 80; exact held_more (callsIn_wide.2 (HR.out _)))))
            refine wpQuietIn_nil ?_
            rintro _ ⟨x, rfl⟩
            have hcx := x0 x
            have hJx := hJd _ _ _ hJs x.below
            have hnx2 : K2 bx tx W x.val := hnx.trans (K2.below x.below hbW htW)
            clear x0 x1 HK HR hc0 hc1 hc2 hbc
            cases qo
            · have HX := Lib.hid (HXw.out rfl)
              clear HXw HXr
              gi_wp2_with fail
              all_goals (try (exfalso; have hu := ‹some undef = some (Value.bool _)›; simp [undef] at hu; done))
              obtain ⟨fn, tmps, assign, body, hy, hR⟩ := hY pre (i, qt, false) x.val hJx (by omega)
              dsimp only [encE] at hy
              gi_wp2_with fail
              first | refine hR.mono ?_ | (rw [hy]; gi_wp2_with fail; refine hR.mono ?_)
              rintro e W3 (⟨rfl, hJ3, hk3⟩ | ⟨rfl, hJx3⟩)
              · gi_wp2_with fail
                refine bodyPost_ret (results_none rfl _ _ _) rfl ?_
                exact ⟨⟨_, rfl⟩, .inl ⟨_, HX.out, hJ3⟩⟩
              · gi_wp2_with fail
                refine bodyPost_ret (results_none rfl _ _ _) rfl ?_
                exact ⟨⟨_, rfl⟩, .inr ⟨_, ⟨[], by rw [List.append_nil]; exact HX.out⟩, hJx3⟩⟩
            · by_cases hend : i + qn = s.length
              · have t5 : ((i : Int) + (qn : Int) == (s.length : Int)) = true := by rw [beq_iff_eq]; omega
                have HX := Lib.hid (HXr.out (by rw [hend, List.drop_length]; rfl))
                clear HXw HXr
                gi_wp2_with fail
                obtain ⟨fn, tmps, assign, body, hy, hR⟩ := hY pre (i, qt, true) x.val hJx (by omega)
                dsimp only [encE] at hy
                gi_wp2_with fail
                first | refine hR.mono ?_ | (rw [hy]; gi_wp2_with fail; refine hR.mono ?_)
                rintro e W3 (⟨rfl, hJ3, hk3⟩ | ⟨rfl, hJx3⟩)
                · gi_wp2_with fail
                  go_roundw
                  case rel => exact ⟨i + qn + 1, pre ++ [(i, qt, true)], by omega, by go_num, by rw [List.append_assoc]; exact HX.out, hJ3, hnx2.trans hk3, by simp; omega⟩
                  case measure => simp [intOf]; omega
                · gi_wp2_with fail
                  refine bodyPost_ret (results_none rfl _ _ _) rfl ?_
                  exact ⟨⟨_, rfl⟩, .inr ⟨_, ⟨_, by rw [List.append_assoc]; exact HX.out⟩, hJx3⟩⟩
              · have t5 : ((i : Int) + (qn : Int) == (s.length : Int)) = false := by rw [beq_eq_false_iff_ne]; omega
                have hlt2 : i + qn < s.length := by omega
                have hae : atEnd (s.drop (i + qn)) = isW s[i + qn] := by rw [List.drop_eq_getElem_cons hlt2]; rfl
                have g255 := byte_lt s[i + qn]
                have g000 : (0 : Int) ≤ (s[i + qn].toNat : Int) := by omega
                have V2 : Hid (∀ W, Calls Tryz.prog 61 #[.int .u8 (s[i + qn].toNat : Int)] W fun e w' => e = .returned (.bool (isW s[i + qn])) ∧ W = w') := fun W => white_any _ g000 g255 W
                rw [hae] at HXw HXr
                have a1 : (i : Int) + qn < (s.length : Int) := by omega
                have a2 : (0 : Int) ≤ (i : Int) + qn := by omega
                have a3 : ((i : Int) + qn).toNat = i + qn := by omega
                clear hae
                generalize isW s[i + qn] = ok at *
                cases ok
                · have HX := Lib.hid (HXw.out rfl)
                  clear HXw HXr
                  gi_wp2_with (gi_at_call 61; refine (callsIn_wide.2 (V2.out _)).mono ?_; rintro e w' ⟨rfl, rfl⟩)
                  obtain ⟨fn, tmps, assign, body, hy, hR⟩ := hY pre (i, qt, false) x.val hJx (by omega)
                  dsimp only [encE] at hy
                  gi_wp2_with fail
                  first | refine hR.mono ?_ | (rw [hy]; gi_wp2_with fail; refine hR.mono ?_)
                  rintro e W3 (⟨rfl, hJ3, hk3⟩ | ⟨rfl, hJx3⟩)
                  · gi_wp2_with fail
                    refine bodyPost_ret (results_none rfl _ _ _) rfl ?_
                    exact ⟨⟨_, rfl⟩, .inl ⟨_, HX.out, hJ3⟩⟩
                  · gi_wp2_with fail
                    refine bodyPost_ret (results_none rfl _ _ _) rfl ?_
                    exact ⟨⟨_, rfl⟩, .inr ⟨_, ⟨[], by rw [List.append_nil]; exact HX.out⟩, hJx3⟩⟩
                · have HX := Lib.hid (HXr.out rfl)
                  clear HXw HXr
                  gi_wp2_with (gi_at_call 61; refine (callsIn_wide.2 (V2.out _)).mono ?_; rintro e w' ⟨rfl, rfl⟩)
                  obtain ⟨fn, tmps, assign, body, hy, hR⟩ := hY pre (i, qt, true) x.val hJx (by omega)
                  dsimp only [encE] at hy
                  gi_wp2_with fail
                  first | refine hR.mono ?_ | (rw [hy]; gi_wp2_with fail; refine hR.mono ?_)
                  rintro e W3 (⟨rfl, hJ3, hk3⟩ | ⟨rfl, hJx3⟩)
                  · gi_wp2_with fail
                    go_roundw
                    case rel => exact ⟨i + qn + 1, pre ++ [(i, qt, true)], by omega, by go_num, by rw [List.append_assoc]; exact HX.out, hJ3, hnx2.trans hk3, by simp; omega⟩
                    case measure => simp [intOf]; omega
                  · gi_wp2_with fail
                    refine bodyPost_ret (results_none rfl _ _ _) rfl ?_
                    exact ⟨⟨_, rfl⟩, .inr ⟨_, ⟨_, by rw [List.append_assoc]; exact HX.out⟩, hJx3⟩⟩
    · have t0 : decide ((i : Int) < (s.length : Int)) = false := by rw [decide_eq_false_iff_not]; omega
      have hx : pre = els s 0 := by
        have h := HP.out
        rw [List.drop_eq_nil_of_le (by omega)] at h
        simpa [els_nil] using h
      have HX := Lib.hid hx
      clear hx
      clear HP
      gi_wp2_with fail
      go_end0
      exact ⟨⟨_, rfl⟩, .inl ⟨_, HX.out, hJs⟩⟩
end Go.Proofs.YteojlmpipfajoaaGreatDoor
