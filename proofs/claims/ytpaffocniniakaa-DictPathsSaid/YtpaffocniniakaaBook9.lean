/- Alike. -/
import Derived.Test.YtpaffocniniakaaBook8
import Derived.BigQuiet
import Derived.Deep.QuietTactic
namespace Go.Proofs.Ytpaffocniniakaa
set_option linter.unusedVariables false
set_option linter.unusedSimpArgs false
open Go.RowKit Go.MapKept Go.WideMaps
attribute [local go_sem] Oper.semAt_some wide_fn

def alikeC (a b : Bs) : Bool := match readC a, readC b with | some x, some y => alikeP x y | _, _ => false
/-- Whether pairs are told by a dictionary. -/
def toldP (y : Prs) (x : Prs) : Bool := x.all fun p => getP y p.1 == some p.2
theorem toldP_snoc (y x : Prs) (p : Bs × Bs) : toldP y (x ++ [p]) = (toldP y x && (getP y p.1 == some p.2)) := by simp [toldP]
/-- What holds while pairs are compared. -/
structure AlJ (w : World) (b yb : Nat) (F : List Nat) (y pre : Prs) (W : World) : Prop where
  told : toldP y (pre.map clipP) = true
  bk : Bk W b F y
  box : Boxed W yb 38 (.pointer (some ⟨b, 0, none⟩))
  res : Boxed W w.heap.size 4 (.bool false)
  below : Below w.heap.size w W
structure AlX (w : World) (y : Prs) (c : Code) (pre : Prs) (W : World) : Prop where
  ret : c = .ret
  no : toldP y (pre.map clipP) = false
  res : Boxed W w.heap.size 4 (.bool false)
  below : Below w.heap.size w W
/-- A row of a block that is no cells leaves a book as it is, if the map is elsewhere. -/
theorem Bk.grown {W W' : World} {b m B : Nat} {F : List Nat} {ps : Prs} {row : Option Nat} (h : Bk W b F ps) (hm : W.cell? ⟨b, 1, none⟩ = some (.map (some m))) (hmB : m < B) (hg : W.grownBy W' row) (hr : ∀ r, row = some r → B ≤ r ∧ ∃ o : Obj, W.heap[r]? = some o ∧ o.isCells = false) : Bk W' b F ps := by
  have hco := (h.cells_or hm).2
  have key : ∀ d ∈ F, W'.heap[d]? = W.heap[d]? := fun d hd => by
    refine hg.block d (h.lt d hd) (fun e => ?_)
    obtain ⟨hr1, o, ho, hc⟩ := hr d e.symm
    by_cases hdm : d = m
    · omega
    · obtain ⟨c, t, hct⟩ := hco d hd hdm
      rw [hct] at ho; cases ho; cases hc
  exact h.kb (x := b) ⟨key b h.mem, key⟩
theorem Bk.map_at {W : World} {b : Nat} {F : List Nat} {ps : Prs} (h : Bk W b F ps) : ∃ m, W.cell? ⟨b, 1, none⟩ = some (.map (some m)) ∧ m ∈ F := by
  obtain ⟨kv, vv, m, hb, _⟩ := h.ex
  have := (cells3 hb).2.1
  exact ⟨m, this, (h.cells_or this).1⟩
theorem alj_own {w : World} {b yb : Nat} {F : List Nat} {y : Prs} {B : Nat} (hF : ∀ d ∈ F, d < B) (hB : w.heap.size ≤ B) : OwnFrom B (AlJ w b yb F y) := fun pre W W' row h hg hr => by
  have hr' := fun r e => (hr r e).2
  obtain ⟨m, hm, hmF⟩ := h.bk.map_at
  exact ⟨h.told, h.bk.grown hm (hF m hmF) hg hr, boxed_grown h.box hg hr', boxed_grown h.res hg hr', h.below.grown hg h.below.size (fun r e => Nat.le_trans hB (hr r e).1)⟩
theorem alx_own {w : World} {y : Prs} {B : Nat} (hB : w.heap.size ≤ B) (c : Code) : OwnFrom B (AlX w y c) := fun pre W W' row h hg hr => by
  have hr' := fun r e => (hr r e).2
  exact ⟨h.ret, h.no, boxed_grown h.res hg hr', h.below.grown hg h.below.size (fun r e => Nat.le_trans hB (hr r e).1)⟩
theorem boxed_below {W W' : World} {B : Nat} {t : TypeId} {v : Value} (h : Boxed W B t v) (hb : Below W.heap.size W W') : Boxed W' B t v := (hb.block B h.lt).trans h
theorem boxed_drewN {W : World} {B : Nat} {t : TypeId} {v : Value} (h : Boxed W B t v) (n : Nat) : Boxed (W.drewN n) B t v := h
theorem below_box {w w1 w2 : World} {v : Value} {t : TypeId} (h1 : Below (w.alloc (.cells #[v] t)).heap.size (w.alloc (.cells #[v] t)) w1) (h2 : Below w1.heap.size w1 w2) : Below w.heap.size w w2 ∧ Boxed w2 w.heap.size t v := by
  have hB0 : Below w.heap.size w (w.alloc (.cells #[v] t)) := (Below.refl _ w).alloc (Nat.le_refl _) _
  have hb := Boxed.new w t v
  exact ⟨(hB0.trans (h1.mono hB0.size)).trans (h2.mono (Nat.le_trans hB0.size h1.size)), boxed_below (boxed_below hb h1) h2⟩
set_option maxRecDepth 100000 in
set_option maxHeartbeats 3200000 in
theorem Alike_no1 (a b : Bs) (ha : a.length ≤ 19999) (hb : b.length ≤ 19999) (h : readC a = none) (w : World) :
    Calls Try.prog 9 #[.string ⟨a.toArray⟩, .string ⟨b.toArray⟩] w fun e w' => e = .returned (.bool false) ∧ Below w.heap.size w w' := by
  have RA : Hid (∀ W, Calls Try.prog 29 #[.string ⟨a.toArray⟩] W fun e w' => Below W.heap.size W w' ∧ e = .returned (.tuple #[.pointer none, .int .i64 11])) := fun W => (read_any a ha W).mono fun e w' ⟨h1, h2⟩ => ⟨h1, by
    rcases h2 with ⟨_, h'⟩ | ⟨_, _, _, h', _⟩
    · exact h'
    · rw [h] at h'; cases h'⟩
  have RB : Hid (∀ W, Calls Try.prog 29 #[.string ⟨b.toArray⟩] W fun e w' => Below W.heap.size W w' ∧ ∃ v e', e = .returned (.tuple #[.pointer v, .int .i64 e'])) := fun W => (read_any b hb W).mono fun e w' ⟨h1, h2⟩ => ⟨h1, by
    rcases h2 with ⟨_, h'⟩ | ⟨_, _, _, _, h', _⟩
    · exact ⟨_, _, h'⟩
    · exact ⟨_, _, h'⟩⟩
  clear h
  refine callsIn_wide (n := 3) |>.1 ?_
  refine callsIn_of_wp_marks Try.func9 rfl trivial ?_ rfl
  simp only [Try.ntmps9, List.size_toArray, List.length_cons, List.length_nil, Nat.reduceAdd, Nat.reduceSub, Array.replicate_succ, Array.replicate_zero, List.push_toArray, List.append_toArray, List.nil_append, List.cons_append]
  gi_wp2_with (first | (gi_at_call 29; refine (callsIn_wide.2 (RA.out _)).mono ?_; rintro e w1 ⟨hB1, rfl⟩; have H1 := Lib.hid hB1; clear hB1 RA) | (gi_at_call 29; refine (callsIn_wide.2 (RB.out _)).mono ?_; rintro e w2 ⟨hB2, v, e', rfl⟩; have H2 := Lib.hid hB2; clear hB2 RB))
  obtain ⟨hb2, hx2⟩ := below_box H1.out H2.out
  have hb3 := hb2.alloc hb2.size (.cells #[.pointer v] 38)
  have hx3 := hx2.alloc (.cells #[.pointer v] 38)
  have c3 := hx3.cell; have f3 := hx3.frozen
  have HX := Lib.hid (And.intro hb3 hx3)
  clear hb2 hx2 hb3 hx3 H1 H2
  refine wpIn_wide.2 ?_
  go_quiet (fail)
  gi_wp2
  have g4 := (boxed_drewN HX.out.2 nq).set (.bool false)
  have r4 := g4.cell
  refine ⟨.bool false, ?_, rfl, (below_drewN HX.out.1 nq).setCell (p := ⟨w.heap.size, 0, none⟩) (Nat.le_refl _) _⟩
  simp [results, Try.f9, go_sem, r4]
set_option maxRecDepth 100000 in
set_option maxHeartbeats 3200000 in
theorem Alike_no2 (a b : Bs) (ha : a.length ≤ 19999) (hb : b.length ≤ 19999) {x : Prs} (hx : readC a = some x) (h : readC b = none) (w : World) :
    Calls Try.prog 9 #[.string ⟨a.toArray⟩, .string ⟨b.toArray⟩] w fun e w' => e = .returned (.bool false) ∧ Below w.heap.size w w' := by
  have RA : Hid (∀ W, Calls Try.prog 29 #[.string ⟨a.toArray⟩] W fun e w' => Below W.heap.size W w' ∧ ∃ b F, e = .returned (.tuple #[.pointer (some ⟨b, 0, none⟩), .int .i64 0]) ∧ Bk w' b F x ∧ ∀ d ∈ F, W.heap.size ≤ d) := fun W => (read_any a ha W).mono fun e w' ⟨h1, h2⟩ => ⟨h1, by
    rcases h2 with ⟨h', _⟩ | ⟨b2, F2, ps, h', he, hbk, hF⟩
    · rw [hx] at h'; cases h'
    · rw [hx] at h'; cases h'; exact ⟨b2, F2, he, hbk, hF⟩⟩
  have RB : Hid (∀ W, Calls Try.prog 29 #[.string ⟨b.toArray⟩] W fun e w' => Below W.heap.size W w' ∧ e = .returned (.tuple #[.pointer none, .int .i64 11])) := fun W => (read_any b hb W).mono fun e w' ⟨h1, h2⟩ => ⟨h1, by
    rcases h2 with ⟨_, h'⟩ | ⟨_, _, _, h', _⟩
    · exact h'
    · rw [h] at h'; cases h'⟩
  clear h hx
  refine callsIn_wide (n := 3) |>.1 ?_
  refine callsIn_of_wp_marks Try.func9 rfl trivial ?_ rfl
  simp only [Try.ntmps9, List.size_toArray, List.length_cons, List.length_nil, Nat.reduceAdd, Nat.reduceSub, Array.replicate_succ, Array.replicate_zero, List.push_toArray, List.append_toArray, List.nil_append, List.cons_append]
  gi_wp2_with (first | (gi_at_call 29; refine (callsIn_wide.2 (RA.out _)).mono ?_; rintro e w1 ⟨hB1, bx, Fx, rfl, _, _⟩; have H1 := Lib.hid hB1; clear hB1 RA) | (gi_at_call 29; refine (callsIn_wide.2 (RB.out _)).mono ?_; rintro e w2 ⟨hB2, rfl⟩; have H2 := Lib.hid hB2; clear hB2 RB; obtain ⟨v, hv⟩ : ∃ v : Option Addr, v = none := ⟨none, rfl⟩))
  obtain ⟨hb2, hx2⟩ := below_box H1.out H2.out
  have hb3 := hb2.alloc hb2.size (.cells #[.pointer none] 38)
  have hx3 := hx2.alloc (.cells #[.pointer none] 38)
  have c3 := hx3.cell; have f3 := hx3.frozen
  have HX := Lib.hid (And.intro hb3 hx3)
  clear hv
  clear hb2 hx2 hb3 hx3 H1 H2
  refine wpIn_wide.2 ?_
  go_quiet (fail)
  gi_wp2
  have g4 := (boxed_drewN HX.out.2 nq).set (.bool false)
  have r4 := g4.cell
  refine ⟨.bool false, ?_, rfl, (below_drewN HX.out.1 nq).setCell (p := ⟨w.heap.size, 0, none⟩) (Nat.le_refl _) _⟩
  simp [results, Try.f9, go_sem, r4]
set_option maxRecDepth 100000 in
set_option maxHeartbeats 3200000 in
theorem Alike_no3 (a b : Bs) (ha : a.length ≤ 19999) (hb : b.length ≤ 19999) {x y : Prs} (hx : readC a = some x) (hy : readC b = some y) (hl : ¬ x.length = y.length) (w : World) :
    Calls Try.prog 9 #[.string ⟨a.toArray⟩, .string ⟨b.toArray⟩] w fun e w' => e = .returned (.bool false) ∧ Below w.heap.size w w' := by
  have RA : Hid (∀ W, Calls Try.prog 29 #[.string ⟨a.toArray⟩] W fun e w' => Below W.heap.size W w' ∧ ∃ b F, e = .returned (.tuple #[.pointer (some ⟨b, 0, none⟩), .int .i64 0]) ∧ Bk w' b F x ∧ ∀ d ∈ F, W.heap.size ≤ d) := fun W => (read_any a ha W).mono fun e w' ⟨h1, h2⟩ => ⟨h1, by
    rcases h2 with ⟨h', _⟩ | ⟨b2, F2, ps, h', he, hbk, hF⟩
    · rw [hx] at h'; cases h'
    · rw [hx] at h'; cases h'; exact ⟨b2, F2, he, hbk, hF⟩⟩
  have RB : Hid (∀ W, Calls Try.prog 29 #[.string ⟨b.toArray⟩] W fun e w' => Below W.heap.size W w' ∧ ∃ b F, e = .returned (.tuple #[.pointer (some ⟨b, 0, none⟩), .int .i64 0]) ∧ Bk w' b F y ∧ ∀ d ∈ F, W.heap.size ≤ d) := fun W => (read_any b hb W).mono fun e w' ⟨h1, h2⟩ => ⟨h1, by
    rcases h2 with ⟨h', _⟩ | ⟨b2, F2, ps, h', he, hbk, hF⟩
    · rw [hy] at h'; cases h'
    · rw [hy] at h'; cases h'; exact ⟨b2, F2, he, hbk, hF⟩⟩
  clear hx hy
  have t1 : ((x.length : Int) == (y.length : Int)) = false := by rw [beq_eq_false_iff_ne]; omega
  refine callsIn_wide (n := 3) |>.1 ?_
  refine callsIn_of_wp_marks Try.func9 rfl trivial ?_ rfl
  simp only [Try.ntmps9, List.size_toArray, List.length_cons, List.length_nil, Nat.reduceAdd, Nat.reduceSub, Array.replicate_succ, Array.replicate_zero, List.push_toArray, List.append_toArray, List.nil_append, List.cons_append]
  gi_wp2_with (first | (gi_at_call 29; refine (callsIn_wide.2 (RA.out _)).mono ?_; rintro e w1 ⟨hB1, bx, Fx, rfl, hk1, hf1⟩; have H1 := Lib.hid (And.intro hB1 (And.intro hk1 hf1)); clear hB1 hk1 hf1 RA) | (gi_at_call 29; refine (callsIn_wide.2 (RB.out _)).mono ?_; rintro e w2 ⟨hB2, by_, Fy, rfl, hk2, hf2⟩; have H2 := Lib.hid (And.intro hB2 (And.intro hk2 hf2)); clear hB2 hk2 hf2 RB))
  obtain ⟨hb2, hx2⟩ := below_box H1.out.1 H2.out.1
  have hb3 := hb2.alloc hb2.size (.cells #[.pointer (some ⟨by_, 0, none⟩)] 38)
  have hx3 := hx2.alloc (.cells #[.pointer (some ⟨by_, 0, none⟩)] 38)
  have hyb := Boxed.new w2 38 (.pointer (some ⟨by_, 0, none⟩))
  have hal : Below w2.heap.size w2 (w2.alloc (.cells #[.pointer (some ⟨by_, 0, none⟩)] 38)) := (Below.refl _ _).alloc (Nat.le_refl _) _
  have hbx := (H1.out.2.1.below H2.out.1).below hal
  have hby := H2.out.2.1.below hal
  have hFlt := H1.out.2.1.lt
  have hFlt2 := H2.out.2.1.lt
  have s12 := H2.out.1.size
  obtain ⟨kx, vx, mx, hbx0, ⟨ox, cx, rfl⟩, _⟩ := hbx.key
  obtain ⟨ky, vy, my, hby0, ⟨oy, cy, rfl⟩, _⟩ := hby.key
  obtain ⟨x0, _, _, _⟩ := cells3 hbx0
  obtain ⟨y0, _, _, _⟩ := cells3 hby0
  have c3 := hx3.cell; have f3 := hx3.frozen
  have cy3 := hyb.cell
  have hsz4 : (w2.alloc (.cells #[.pointer (some ⟨by_, 0, none⟩)] 38)).heap.size = w2.heap.size + 1 := by simp
  have HY := Lib.hid (And.intro hyb (And.intro hbx (And.intro hby (And.intro hFlt (And.intro hFlt2 (And.intro s12 (And.intro hsz4 (And.intro H2.out.2.2 H1.out.2.2))))))))
  have HX := Lib.hid (And.intro hb3 hx3)
  clear hb2 hx2 hb3 hx3 H1 H2 hyb hbx hby hbx0 hby0 hal hFlt hFlt2 s12 hsz4
  refine wpIn_wide.2 ?_
  go_quiet (fail)
  gi_wp2
  have g4 := (boxed_drewN HX.out.2 nq).set (.bool false)
  have r4 := g4.cell
  refine ⟨.bool false, ?_, rfl, (below_drewN HX.out.1 nq).setCell (p := ⟨w.heap.size, 0, none⟩) (Nat.le_refl _) _⟩
  simp [results, Try.f9, go_sem, r4]
set_option maxRecDepth 100000 in
set_option maxHeartbeats 3200000 in
theorem Alike_yes (a b : Bs) (ha : a.length ≤ 19999) (hb : b.length ≤ 19999) {x y : Prs} (hx : readC a = some x) (hy : readC b = some y) (hl : x.length = y.length) (w : World) :
    Calls Try.prog 9 #[.string ⟨a.toArray⟩, .string ⟨b.toArray⟩] w fun e w' => e = .returned (.bool (toldP y x)) ∧ Below w.heap.size w w' := by
  have hxl := read_len hx
  have hyl := read_len hy
  have hxw := read_wt hx
  have hcl := clip_all (a := x) (by omega)
  have hmc := map_clip hcl
  have RA : Hid (∀ W, Calls Try.prog 29 #[.string ⟨a.toArray⟩] W fun e w' => Below W.heap.size W w' ∧ ∃ b F, e = .returned (.tuple #[.pointer (some ⟨b, 0, none⟩), .int .i64 0]) ∧ Bk w' b F x ∧ ∀ d ∈ F, W.heap.size ≤ d) := fun W => (read_any a ha W).mono fun e w' ⟨h1, h2⟩ => ⟨h1, by
    rcases h2 with ⟨h', _⟩ | ⟨b2, F2, ps, h', he, hbk, hF⟩
    · rw [hx] at h'; cases h'
    · rw [hx] at h'; cases h'; exact ⟨b2, F2, he, hbk, hF⟩⟩
  have RB : Hid (∀ W, Calls Try.prog 29 #[.string ⟨b.toArray⟩] W fun e w' => Below W.heap.size W w' ∧ ∃ b F, e = .returned (.tuple #[.pointer (some ⟨b, 0, none⟩), .int .i64 0]) ∧ Bk w' b F y ∧ ∀ d ∈ F, W.heap.size ≤ d) := fun W => (read_any b hb W).mono fun e w' ⟨h1, h2⟩ => ⟨h1, by
    rcases h2 with ⟨h', _⟩ | ⟨b2, F2, ps, h', he, hbk, hF⟩
    · rw [hy] at h'; cases h'
    · rw [hy] at h'; cases h'; exact ⟨b2, F2, he, hbk, hF⟩⟩
  have t1 : ((x.length : Int) == (y.length : Int)) = true := by rw [beq_iff_eq]; omega
  clear hx hy
  refine callsIn_wide (n := 3) |>.1 ?_
  refine callsIn_of_wp_marks Try.func9 rfl trivial ?_ rfl
  simp only [Try.ntmps9, List.size_toArray, List.length_cons, List.length_nil, Nat.reduceAdd, Nat.reduceSub, Array.replicate_succ, Array.replicate_zero, List.push_toArray, List.append_toArray, List.nil_append, List.cons_append]
  gi_wp2_with (first | (gi_at_call 29; refine (callsIn_wide.2 (RA.out _)).mono ?_; rintro e w1 ⟨hB1, bx, Fx, rfl, hk1, hf1⟩; have H1 := Lib.hid (And.intro hB1 (And.intro hk1 hf1)); clear hB1 hk1 hf1 RA) | (gi_at_call 29; refine (callsIn_wide.2 (RB.out _)).mono ?_; rintro e w2 ⟨hB2, by_, Fy, rfl, hk2, hf2⟩; have H2 := Lib.hid (And.intro hB2 (And.intro hk2 hf2)); clear hB2 hk2 hf2 RB))
  obtain ⟨hb2, hx2⟩ := below_box H1.out.1 H2.out.1
  have hb3 := hb2.alloc hb2.size (.cells #[.pointer (some ⟨by_, 0, none⟩)] 38)
  have hx3 := hx2.alloc (.cells #[.pointer (some ⟨by_, 0, none⟩)] 38)
  have hyb := Boxed.new w2 38 (.pointer (some ⟨by_, 0, none⟩))
  have hal : Below w2.heap.size w2 (w2.alloc (.cells #[.pointer (some ⟨by_, 0, none⟩)] 38)) := (Below.refl _ _).alloc (Nat.le_refl _) _
  have hbx := (H1.out.2.1.below H2.out.1).below hal
  have hby := H2.out.2.1.below hal
  have hFlt := H1.out.2.1.lt
  have hFlt2 := H2.out.2.1.lt
  have s12 := H2.out.1.size
  obtain ⟨kx, vx, mx, hbx0, ⟨ox, cx, rfl⟩, _⟩ := hbx.key
  obtain ⟨ky, vy, my, hby0, ⟨oy, cy, rfl⟩, _⟩ := hby.key
  obtain ⟨x0, _, _, _⟩ := cells3 hbx0
  obtain ⟨y0, _, _, _⟩ := cells3 hby0
  have c3 := hx3.cell; have f3 := hx3.frozen
  have cy3 := hyb.cell
  have hsz4 : (w2.alloc (.cells #[.pointer (some ⟨by_, 0, none⟩)] 38)).heap.size = w2.heap.size + 1 := by simp
  have HY := Lib.hid (And.intro hyb (And.intro hbx (And.intro hby (And.intro hFlt (And.intro hFlt2 (And.intro s12 (And.intro hsz4 (And.intro H2.out.2.2 H1.out.2.2))))))))
  have HX := Lib.hid (And.intro hb3 hx3)
  clear hb2 hx2 hb3 hx3 H1 H2 hyb hbx hby hbx0 hby0 hal hFlt hFlt2 s12 hsz4
  refine wpIn_wide.2 ?_
  go_quiet (fail)
  gi_wp2_with (gi_at_call 30; refine (callsIn_wide.2 (all_any _ _)).mono ?_; rintro e w4 ⟨rfl, rfl⟩)
  have hsz3 : ((w2.alloc (.cells #[.pointer (some ⟨by_, 0, none⟩)] 38)).drewN nq).heap.size = w2.heap.size + 1 := by simp
  obtain ⟨q1, q2, q3, q4, q5, q6, q7, q8, q9⟩ := HY.out
  have hbd : Below w2.heap.size w2 ((w2.alloc (.cells #[.pointer (some ⟨by_, 0, none⟩)] 38)).drewN nq) := below_drewN ((Below.refl _ _).alloc (Nat.le_refl _) _) nq
  have hyb := boxed_drewN q1 nq
  have hrs := boxed_drewN HX.out.2 nq
  have hbk1 := q2.below (below_drewN (Below.refl _ _) nq)
  have hbk2 := q3.below (below_drewN (Below.refl _ _) nq)
  have hbw := below_drewN HX.out.1 nq
  clear x0 y0 c3 f3 cy3
  generalize ((w2.alloc (.cells #[.pointer (some ⟨by_, 0, none⟩)] 38)).drewN nq) = w3 at *
  have bN := (Boxed.new w3 38 (.pointer (some ⟨bx, 0, none⟩))).cell
  rw [hsz3] at bN
  have ha4 : Below w3.heap.size w3 (w3.alloc (.cells #[.pointer (some ⟨bx, 0, none⟩)] 38)) := (Below.refl _ w3).alloc (Nat.le_refl _) _
  have hs4 : (w3.alloc (.cells #[.pointer (some ⟨bx, 0, none⟩)] 38)).heap.size = w3.heap.size + 1 := by simp
  have hbk1' := hbk1.below ha4
  have hJ0 : AlJ w by_ w2.heap.size Fy y [] (w3.alloc (.cells #[.pointer (some ⟨bx, 0, none⟩)] 38)) := ⟨rfl, hbk2.below ha4, boxed_below hyb ha4, boxed_below hrs ha4, hbw.alloc hbw.size _⟩
  have hF1 : ∀ d ∈ Fx, w.heap.size + 1 ≤ d ∧ d < w3.heap.size := fun d hd => by
    have h1 := q9 d hd
    have h2 := q4 d hd
    simp at h1
    omega
  have hF2 : ∀ d ∈ Fy, d < w3.heap.size := fun d hd => by have := q5 d hd; omega
  have hwlt := hrs.lt
  clear hbk1 hbk2 hyb hrs ha4 q1 q2 q3
  generalize (w3.alloc (.cells #[.pointer (some ⟨bx, 0, none⟩)] 38)) = w4 at *
  refine wpIn_rangeFunc_ownG rfl (by omega) (gf := 57) (lb := #[.pointer (some ⟨w2.heap.size + 1, 0, none⟩)]) (by rw [← hsz3]; rfl) trivial (enters_of Try.func57 (by kernel_rfl) rfl)
    (all_stops (w2.heap.size + 1) bx Fx x (by omega) clipP hcl w4 (by omega) bN hbk1') KB.trans (kb_put (by omega) (fun d hd => by have := (hF1 d hd).2; omega)) (Below.refl _ _) (fun _ => rfl)
    (AlJ w by_ w2.heap.size Fy y) (AlX w y) (alj_own (fun d hd => by have := hF2 d hd; omega) (by omega)) (fun c => alx_own (by omega) c) hJ0
    (fun p => { tmps := #[Value.string { data := List.toArray a }, Value.string { data := List.toArray b }, undef, undef, Value.pointer (some { block := w.heap.size, off := 0 }), Value.pointer (some { block := bx, off := 0 }), Value.int IntKind.i64 0, Value.pointer (some { block := w2.heap.size, off := 0 }), Value.int IntKind.i64 0, .string ⟨(clipP p).1.toArray⟩, .string ⟨(clipP p).2.toArray⟩, undef, undef, Value.tuple #[Value.pointer (some { block := bx, off := 0 }), Value.int IntKind.i64 0], Value.string { data := List.toArray a }, Value.tuple #[Value.pointer (some { block := bx, off := 0 }), Value.int IntKind.i64 0], Value.pointer (some { block := bx, off := 0 }), Value.int IntKind.i64 0, Value.tuple #[Value.pointer (some { block := by_, off := 0 }), Value.int IntKind.i64 0], Value.string { data := List.toArray b }, Value.tuple #[Value.pointer (some { block := by_, off := 0 }), Value.int IntKind.i64 0], Value.pointer (some { block := by_, off := 0 }), Value.int IntKind.i64 0, Value.int IntKind.i64 0, Value.bool false, Value.bool false, Value.int IntKind.i64 0, Value.bool false, Value.bool false, Value.bool false, Value.pointer (some { block := bx, off := 0 }), Value.pointer (some { block := bx, off := 0 }), Value.pointer (some { block := bx, off := 0 }), Value.pointer (some { block := bx, off := 0 }), Value.slice ox (List.length y) cx, Value.int IntKind.i64 ↑(List.length y), Value.pointer (some { block := by_, off := 0 }), Value.pointer (some { block := by_, off := 0 }), Value.pointer (some { block := by_, off := 0 }), Value.pointer (some { block := by_, off := 0 }), Value.slice oy (List.length y) cy, Value.int IntKind.i64 ↑(List.length y), Value.bool false, Value.bool false, Value.pointer (some { block := bx, off := 0 }), .func (.func 57) #[] #[.pointer (some ⟨w2.heap.size + 1, 0, none⟩)], .string ⟨(clipP p).1.toArray⟩, .string ⟨(clipP p).2.toArray⟩, undef, undef, undef, undef, undef, undef, undef, undef, undef, undef, undef, undef, undef], defers := [] }) ?assign ?body ?done ?stop
  case assign =>
    intro l x W K hK
    gi_wp2
    exact hK
  case body =>
    rintro l pre p W hJ hpl
    have hcb := hJ.box.cell
    have hcr := hJ.res.cell
    have hfr := hJ.res.frozen
    have HJ := Lib.hid hJ
    have GET : Hid (Calls Try.prog 31 #[.pointer (some ⟨by_, 0, none⟩), .string ⟨(clipP p).1.toArray⟩] W fun e w' => e = .returned (.tuple #[.string ⟨((getP y (clipP p).1).getD []).toArray⟩, .bool (getP y (clipP p).1).isSome]) ∧ w' = W) := get_any hJ.bk _ (clipP_len p)
    have HT : Hid (toldP y ((pre ++ [p]).map clipP) = (getP y (clipP p).1 == some (clipP p).2)) := by
      show _ = _
      rw [List.map_append, List.map_cons, List.map_nil, toldP_snoc, hJ.told, Bool.true_and]
    clear hJ hJ0 bN hbk1'
    generalize clipP p = pp at *
    obtain ⟨g, hg⟩ : ∃ g, getP y pp.1 = g := ⟨_, rfl⟩
    rw [hg] at GET HT
    clear hg
    cases g with
    | none =>
      gi_wp2_with (gi_at_call 31; refine (callsIn_wide.2 GET.out).mono ?_; rintro e W2 ⟨rfl, rfl⟩; skip)
      exact ⟨(KeepsOthers.setCell _ _ _).from _, rfl, by rw [HT.out]; rfl, HJ.out.res.set _, HJ.out.below.setCell (p := ⟨w.heap.size, 0, none⟩) (Nat.le_refl _) _⟩
    | some v =>
      by_cases hv : v = pp.2
      · have t5 : (v == pp.2) = true := by rw [hv]; simp
        have HT2 : Hid (toldP y ((pre ++ [p]).map clipP) = true) := by show _ = _; rw [HT.out, hv]; simp
        clear HT
        gi_wp2_with (gi_at_call 31; refine (callsIn_wide.2 GET.out).mono ?_; rintro e W2 ⟨rfl, rfl⟩; skip)
        exact ⟨KeepsFrom.refl _ _, KB.refl _ _ _, ⟨HT2.out, HJ.out.bk, HJ.out.box, HJ.out.res, HJ.out.below⟩⟩
      · have t5 : (v == pp.2) = false := beq_eq_false_iff_ne.2 hv
        have HT2 : Hid (toldP y ((pre ++ [p]).map clipP) = false) := by show _ = _; rw [HT.out]; simpa using hv
        clear HT
        gi_wp2_with (gi_at_call 31; refine (callsIn_wide.2 GET.out).mono ?_; rintro e W2 ⟨rfl, rfl⟩; skip)
        exact ⟨(KeepsOthers.setCell _ _ _).from _, rfl, HT2.out, HJ.out.res.set _, HJ.out.below.setCell (p := ⟨w.heap.size, 0, none⟩) (Nat.le_refl _) _⟩
  case done =>
    rintro D ys W hD hys hJ hK
    have htold := hJ.told
    rw [hys, hmc] at htold
    have HTT := Lib.hid htold
    have hcr := hJ.res.cell
    have hfr := hJ.res.frozen
    have HJ := Lib.hid hJ
    clear hJ hJ0 bN hbk1' hys htold
    gi_wp2
    have hK' := (KeepsOthers.setCell W ⟨w.heap.size, 0, none⟩ (.bool true)).same D _ hK rfl
    refine ⟨by simp, .inl ⟨_, _, rfl, run_takeDeferred hK', ?_⟩⟩
    have r0 := (boxed_put (o' := .deferred none) (HJ.out.res.set (.bool true)) hK' rfl).cell
    refine ⟨.bool true, ?_, by rw [HTT.out], (HJ.out.below.setCell (p := ⟨w.heap.size, 0, none⟩) (Nat.le_refl _) _).trans (belowK_b (w := w) (Nat.le_refl _) _ D _ _ (by omega) hK' rfl rfl)⟩
    simp [results, Try.f9, go_sem, r0]
  case stop =>
    rintro D c' pre W hD hpre hX hK
    obtain ⟨hret, hno, hres, hbel⟩ := hX
    subst hret
    have htold : toldP y x = false := by
      obtain ⟨t, ht⟩ := hpre
      have : x.map clipP = pre.map clipP ++ t.map clipP := by rw [← List.map_append, ht]
      rw [← hmc, this]
      unfold toldP at hno ⊢
      rw [List.all_append, hno]; rfl
    have HTT := Lib.hid htold
    clear hJ0 bN hbk1' hno hpre htold
    gi_wp2
    refine ⟨by simp, .inl ⟨_, _, rfl, run_takeDeferred hK, ?_⟩⟩
    have r0 := (boxed_put (o' := .deferred none) hres hK rfl).cell
    refine ⟨.bool false, ?_, by rw [HTT.out], hbel.trans (belowK_b (w := w) (Nat.le_refl _) _ D _ _ (by omega) hK rfl rfl)⟩
    simp [results, Try.f9, go_sem, r0]
theorem Alike_any (a b : Bs) (ha : a.length ≤ 19999) (hb : b.length ≤ 19999) (w : World) :
    Calls Try.prog 9 #[.string ⟨a.toArray⟩, .string ⟨b.toArray⟩] w fun e w' => e = .returned (.bool (alikeC a b)) ∧ Below w.heap.size w w' := by
  unfold alikeC
  cases hx : readC a with
  | none => exact Alike_no1 a b ha hb hx w
  | some x =>
    cases hy : readC b with
    | none => exact Alike_no2 a b ha hb hx hy w
    | some y =>
      simp only
      unfold alikeP
      by_cases hl : x.length = y.length
      · rw [show (x.length == y.length) = true by rw [hl]; simp, Bool.true_and]
        exact Alike_yes a b ha hb hx hy hl w
      · rw [show (x.length == y.length) = false from beq_eq_false_iff_ne.2 hl, Bool.false_and]
        exact Alike_no3 a b ha hb hx hy hl w
end Go.Proofs.Ytpaffocniniakaa
