/- Names and Dump of a scope that has nothing. -/
import Derived.RangeFuncNested
import Derived.RangeFuncBound
import Derived.RangeFuncCalls
import Derived.RangeFuncLeaves
import Derived.RangeFuncBox
import Derived.Shelf.Abstract
import Derived.Shelf.RegionOpen
import Derived.OwnWalkIn
import Derived.TacticsInMore
import Derived.LoopNIn
import Derived.LoopIn
import Derived.BigRegionIn
import Derived.Sort.QuietIn
import Derived.Maps.RangeWalk
import Derived.Test.YtcaifihdbcjakaaGreatVCalls1
import Derived.Test.YtcaifihdbcjakaaGreatVRead2
import Derived.Test.YtcaifihdbcjakaaGreatShelf
namespace Go.Proofs.YtcaifihdbcjakaaGreat
set_option linter.unusedVariables false
set_option linter.unusedSimpArgs false
open Go.RowKit Go.Shelf
attribute [local go_sem] Oper.semAt_some
theorem wide_fn (f : FuncId) : Fence.wide.fn f = True := rfl
attribute [local go_sem] wide_fn
variable {N : Nat}

theorem goes_below {B : Nat} {S : St} {w w' : World} (h : Rep B w S) (hB : B ≤ w.heap.size) (hb : Below w.heap.size w w') : Goes B S w S w' :=
  ⟨hb.mono hB, fun b k hk => ⟨(h b k hk).1, (h b k hk).2.congr (hb.block b (h b k hk).2.lt)⟩, fun b hl _ => hb.block b hl, fun _ _ h => h⟩

/-- A map that leads nowhere has no entries. -/
theorem no_entries {w : World} {b : Nat} (h : SMap w b fun _ => none) : ∃ clock, w.heap[b]? = some (.map #[] clock) := by
  obtain ⟨es, clock, h1, h2, h3, h4⟩ := h
  have : es = #[] := by
    cases es with
    | mk l => cases l with
      | nil => rfl
      | cons e l =>
        exfalso
        obtain ⟨k, l', hk, _⟩ := h3 e (by simp)
        have := (h4 k e.val).2 ⟨e, by simp, hk, rfl⟩
        simp at this
  subst this
  exact ⟨clock, h1⟩

set_option maxRecDepth 100000 in
set_option maxHeartbeats 1600000 in
theorem Names_none {B : Nat} {S : St} {w : World} (h : Rep B w S) {x sm m : Nat} {g : Int → Option Nat} (hp : Sp N S x sm g) {i : Int} (hi : (Lit.int .i64 i).wf = true) (hgi : g i = some m) (hno : ∀ v, nmOf S m v = none) (pat : Bs) :
    Calls Tryz.prog 12 #[.pointer (some ⟨x, 0, none⟩), .int .i64 i, .string ⟨pat.toArray⟩] w fun en w' => en = .returned (.slice none 0 0) ∧ Below w.heap.size w w' := by
  obtain ⟨cs, rm, r, hx, _⟩ := hp.space
  obtain ⟨x0, _⟩ := h.space hx
  have HT := Lib.hid (there_any h hp hi)
  rw [hgi] at HT
  have hl := h.lookScope hp.smap hi
  rw [hgi] at hl
  obtain ⟨f, hm⟩ := hp.wf.scope hp.smap hgi
  have hf : f = fun _ => none := by funext v; have := hno v; simpa [nmOf, hm] using this
  subst hf
  obtain ⟨clock, hes⟩ := no_entries (h m _ hm).2
  have hrg := run_range_map (P := Tryz.prog) w 46 9 65 m #[] clock Tryz.underlying46 hes
  have hml := (h m _ hm).2.lt
  have HI : Hid ((w.alloc (.mapIter (some m) clock #[] clock)).heap[w.heap.size]? = some (.mapIter (some m) clock #[] clock)) := (MapKept.heap_alloc w _).1
  have HE : Hid ((w.alloc (.mapIter (some m) clock #[] clock)).heap[m]? = some (.map #[] clock)) := ((MapKept.heap_alloc w _).2 m hml).trans hes
  have HS := Lib.hid (fun W => Tryz.slices_Sort_string_none none 0 W)
  clear hno hm hp h hes
  go_enter Tryz.func12, Tryz.ntmps12
  go_wp2_with (go_at_call 35; refine HT.out.mono ?_; rintro e w' ⟨rfl, rfl⟩)
  go_loopw [7] (fun v wr => v = .slice none 0 0 ∧ wr = w.alloc (.mapIter (some m) clock #[] clock)) (fun _ _ => 0)
  case atStart => exact ⟨rfl, rfl⟩
  case round =>
    obtain ⟨rfl, rfl⟩ := hrel
    rcases run_next_at (P := Tryz.prog) (w.alloc (.mapIter (some m) clock #[] clock)) 0 w.heap.size m clock clock #[] #[] clock HI.out HE.out (fun x hx => by simp at hx) (Nat.le_refl _) with ⟨h0, hrun⟩ | ⟨en, hen, w1, hw1, hrun⟩
    · go_wp2_with (go_at_call 38; refine (HS.out _).mono ?_; rintro e w2 ⟨rfl, rfl⟩)
      go_ret
      exact ⟨rfl, (Below.refl _ w).alloc (Nat.le_refl _) _⟩
    · obtain ⟨hem, _⟩ := mem_left hen
      simp at hem

set_option maxRecDepth 100000 in
set_option maxHeartbeats 400000 in
theorem Joined_none (w : World) : Calls Tryz.prog 41 #[.slice none 0 0] w fun en w' => en = .returned (.string ⟨#[]⟩) ∧ w = w' := by
  have HJ : Hid (∀ W, Calls Tryz.prog 66 #[.slice none 0 0, .string ⟨#[32]⟩] W fun e w' => e = .returned (.string ⟨#[]⟩) ∧ w' = W) := fun W => Tryz.strings_Join_none none 0 _ W
  go_enter Tryz.func41, Tryz.ntmps41
  go_wp2_with fail
  go_loop [3, 8] (fun o i => o = .slice none 0 0 ∧ i = .int .i64 0) (fun _ _ => 0)
  case atStart => exact ⟨rfl, rfl⟩
  case round =>
    obtain ⟨rfl, rfl⟩ := hrel
    go_wp2_with (go_at_call 66; refine (HJ.out _).mono ?_; rintro e w2 ⟨rfl, rfl⟩)
    go_ret
    exact ⟨rfl, rfl⟩

set_option maxHeartbeats 400000 in
theorem set_any (x : Addr) (i : Int) (w : World) : Calls Tryz.prog 40 #[.pointer (some x), .int .i64 i] w fun en w' => en = .returned (.func (.func 64) #[] #[.pointer (some ⟨w.heap.size, 0, none⟩), .pointer (some ⟨w.heap.size + 1, 0, none⟩)]) ∧ w' = (w.alloc (.cells #[.pointer (some x)] 27)).alloc (.cells #[.int .i64 i] 3) := by
  go_enter Tryz.func40, Tryz.ntmps40
  go_wp2_with fail
  go_ret
  exact ⟨rfl, rfl⟩

set_option maxRecDepth 100000 in
set_option maxHeartbeats 1600000 in
theorem set1_in (l bx by_ : Nat) {x : Nat} {i : Int} (J : World → Prop) (W : World) (hJ : ∀ W', Below W.heap.size W W' → J W')
    (hN : Calls Tryz.prog 12 #[.pointer (some ⟨x, 0, none⟩), .int .i64 i, .string ⟨#[42]⟩] W fun en w' => en = .returned (.slice none 0 0) ∧ Below W.heap.size W w')
    (hbx : W.cell? ⟨bx, 0, none⟩ = some (.pointer (some ⟨x, 0, none⟩))) (hby : W.cell? ⟨by_, 0, none⟩ = some (.int .i64 i)) :
    CallsIn Fence.wide 2 Tryz.prog 64 #[.func (.yield l) #[] #[], .pointer (some ⟨bx, 0, none⟩), .pointer (some ⟨by_, 0, none⟩)] W fun e W' => (∃ v, e = .returned v) ∧ J W' := by
  have HN := Lib.hid hN
  clear hN
  refine callsIn_of_wp Tryz.func64 rfl trivial ?_ rfl
  simp only [Tryz.ntmps64, List.size_toArray, List.length_cons, List.length_nil, Nat.reduceAdd, Nat.reduceSub, Array.replicate_succ, Array.replicate_zero, List.push_toArray, List.append_toArray, List.nil_append, List.cons_append]
  gi_wp2_with (gi_at_call 12; refine (callsIn_wide.2 HN.out).mono ?_; rintro e w' ⟨rfl, hb⟩; have HB := Lib.hid (hJ _ hb); clear hb)
  gi_loopw [10] (fun v wr => v = .int .i64 0 ∧ wr = w') (fun _ _ => 0)
  case atStart => exact ⟨rfl, rfl⟩
  case round =>
    obtain ⟨rfl, rfl⟩ := hrel
    gi_wp2
    go_end0
    exact ⟨⟨_, rfl⟩, HB.out⟩

theorem keep_below0 {w w' : World} {b : Nat} {o : Obj} (h : w.heap[b]? = some o) (hb : Below w.heap.size w w') : w'.heap[b]? = some o := (hb.block b (Array.getElem?_eq_some_iff.1 h).1).trans h
theorem grown_of_below {w w' : World} (h : Below w.heap.size w w') : w.grownBy w' none := ⟨h.os, h.tape, h.output, h.size, fun k hk _ => h.block k hk⟩

set_option maxRecDepth 100000 in
set_option maxHeartbeats 3200000 in
theorem Dump_none {B : Nat} {S : St} {w : World} (hB : B ≤ w.heap.size) (h : Rep B w S) {x sm m : Nat} {g : Int → Option Nat} (hp : Sp N S x sm g) {i : Int} (hi : (Lit.int .i64 i).wf = true) (hgi : g i = some m) (hno : ∀ v, nmOf S m v = none) :
    Calls Tryz.prog 14 #[.pointer (some ⟨x, 0, none⟩), .int .i64 i] w fun en w' => en = .returned (.string ⟨#[]⟩) ∧ Below w.heap.size w w' := by
  have HT := Lib.hid (there_any h hp hi)
  rw [hgi] at HT
  have HN : Hid (∀ W, Below w.heap.size w W → Calls Tryz.prog 12 #[.pointer (some ⟨x, 0, none⟩), .int .i64 i, .string ⟨#[42]⟩] W fun en w' => en = .returned (.slice none 0 0) ∧ Below W.heap.size W w') := fun W hb =>
    Names_none (goes_below h hB hb).rep hp hi hgi hno [42]
  clear h hp hgi hno
  refine callsIn_wide (n := 3) |>.1 ?_
  refine callsIn_of_wp_marks Tryz.func14 rfl trivial ?_ rfl
  simp only [Tryz.ntmps14, List.size_toArray, List.length_cons, List.length_nil, Nat.reduceAdd, Nat.reduceSub, Array.replicate_succ, Array.replicate_zero, List.push_toArray, List.append_toArray, List.nil_append, List.cons_append]
  gi_wp2_with (first | (gi_at_call 35; refine (callsIn_wide.2 HT.out).mono ?_; rintro e w' ⟨rfl, rfl⟩) | (gi_at_call 40; refine (callsIn_wide.2 (set_any _ _ _)).mono ?_; rintro e w' ⟨rfl, rfl⟩))
  have HW : Hid (Below w.heap.size w (((w.alloc (.cells #[.slice none 0 0] 33)).alloc (.cells #[.pointer (some ⟨x, 0, none⟩)] 27)).alloc (.cells #[.int .i64 i] 3))) := (((Below.refl _ w).alloc (Nat.le_refl _) _).alloc (by simp) _).alloc (by simp; omega) _
  have c0 : (((w.alloc (.cells #[.slice none 0 0] 33)).alloc (.cells #[.pointer (some ⟨x, 0, none⟩)] 27)).alloc (.cells #[.int .i64 i] 3)).heap[w.heap.size]? = some (.cells #[.slice none 0 0] 33 (0, 0)) := by
    rw [Below.heap_alloc _ _ _ (by simp; omega), Below.heap_alloc _ _ _ (by simp)]; exact heap_alloc_new w _
  have c1 : (((w.alloc (.cells #[.slice none 0 0] 33)).alloc (.cells #[.pointer (some ⟨x, 0, none⟩)] 27)).alloc (.cells #[.int .i64 i] 3)).heap[w.heap.size + 1]? = some (.cells #[.pointer (some ⟨x, 0, none⟩)] 27 (0, 0)) := by
    rw [Below.heap_alloc _ _ _ (by simp)]
    have := heap_alloc_new (w.alloc (.cells #[.slice none 0 0] 33)) (.cells #[.pointer (some ⟨x, 0, none⟩)] 27)
    rwa [show (w.alloc (.cells #[.slice none 0 0] 33)).heap.size = w.heap.size + 1 from by simp] at this
  have c2 : (((w.alloc (.cells #[.slice none 0 0] 33)).alloc (.cells #[.pointer (some ⟨x, 0, none⟩)] 27)).alloc (.cells #[.int .i64 i] 3)).heap[w.heap.size + 1 + 1]? = some (.cells #[.int .i64 i] 3 (0, 0)) := by
    have := heap_alloc_new ((w.alloc (.cells #[.slice none 0 0] 33)).alloc (.cells #[.pointer (some ⟨x, 0, none⟩)] 27)) (.cells #[.int .i64 i] 3)
    rwa [show ((w.alloc (.cells #[.slice none 0 0] 33)).alloc (.cells #[.pointer (some ⟨x, 0, none⟩)] 27)).heap.size = w.heap.size + 1 + 1 from by simp] at this
  have hzz : (((w.alloc (.cells #[.slice none 0 0] 33)).alloc (.cells #[.pointer (some ⟨x, 0, none⟩)] 27)).alloc (.cells #[.int .i64 i] 3)).heap.size = w.heap.size + 1 + 1 + 1 := by simp
  generalize hWW : ((w.alloc (.cells #[.slice none 0 0] 33)).alloc (.cells #[.pointer (some ⟨x, 0, none⟩)] 27)).alloc (.cells #[.int .i64 i] 3) = W0 at *
  refine wpIn_rangeFunc_ownF (α := Empty) (encs := fun e => nomatch e) (Kp := fun _ _ => True) (S := fun ys => ys = []) (Sp := fun _ => False) (N := 0) (w0 := W0) rfl (by omega) (gf := 64) (lb := #[.pointer (some ⟨w.heap.size + 1, 0, none⟩), .pointer (some ⟨w.heap.size + 1 + 1, 0, none⟩)]) rfl trivial (enters_of Tryz.func64 (by kernel_rfl) rfl)
    ?_ (fun _ _ => trivial) (fun _ _ _ _ _ _ _ _ => trivial) (Below.refl _ _) (fun e => nomatch e)
    (fun _ W => Below W0.heap.size W0 W) (fun _ _ _ => False)
    (ownFrom_below (Nat.le_refl _) (Nat.le_refl _)) (fun _ => fun _ _ _ _ hs _ _ => hs.elim)
    (Below.refl _ _) (fun e => nomatch e) (fun _ e => nomatch e) (fun _ _ e => nomatch e) ?done (fun _ _ _ _ _ hf => hf.elim)
  · intro l J Jx W hW hJ _ _ h0
    refine (set1_in l (w.heap.size + 1) (w.heap.size + 1 + 1) (x := x) (i := i) (J []) W (fun W' hb => hJ [] W _ none h0 (grown_of_below hb) (fun r e => by cases e)) (HN.out W (HW.out.trans (hW.mono (by rw [hzz]; omega)))) ?_ ?_).mono fun e W' ⟨h1, h2⟩ => ⟨h1, .inl ⟨[], rfl, h2⟩⟩
    · have := keep_below0 c1 hW; simp only [World.cell?, this]; rfl
    · have := keep_below0 c2 hW; simp only [World.cell?, this]; rfl
  case done =>
    rintro D ys W hD rfl hb hK
    have hc5 : W.cell? ⟨w.heap.size, 0, none⟩ = some (.slice none 0 0) := by have := keep_below0 c0 hb; simp only [World.cell?, this]; rfl
    gi_wp2_with (gi_at_call 41; refine (callsIn_wide.2 (Joined_none _)).mono ?_; rintro e w' ⟨rfl, rfl⟩)
    refine ⟨by simp, .inl ⟨_, _, rfl, run_takeDeferred hK, ?_⟩⟩
    refine ⟨.string ⟨#[]⟩, by simp [results, Tryz.f14, go_sem], rfl, (HW.out.trans (hb.mono (by rw [hzz]; omega))).trans (belowK_b (w := w) (Nat.le_refl _) W D _ _ (by rw [hzz] at hD; omega) hK rfl rfl)⟩
end Go.Proofs.YtcaifihdbcjakaaGreat
