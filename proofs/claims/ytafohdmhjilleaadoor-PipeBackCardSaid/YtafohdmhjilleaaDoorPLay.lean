/- filterOf, Lay. -/
import Derived.Test.YtafohdmhjilleaaDoorPUnhex
import Derived.Laws.EntriesVeiled
import Derived.ArgAppend
import Derived.OwnWalk
namespace Go.Proofs.YtafohdmhjilleaaDoor
set_option linter.unusedVariables false
set_option linter.unusedSimpArgs false
open Go.RowKit Go.Shelf

def rotM : Bs := [114, 111, 116]
def hexM : Bs := [104, 101, 120]
abbrev fltC (k : Bool) : Array Value := if k then hexF [] else rotF
theorem idx_words (x y : Value) (W : World) : (Instr.index 93 (.agg #[x, y]) (.int .i64 0)).run Tryd.prog W = .ok x W ∧ (Instr.index 93 (.agg #[x, y]) (.int .i64 1)).run Tryd.prog W = .ok y W := by
  refine ⟨?_, ?_⟩ <;> kernel_rfl
theorem lay_new (w : World) (a b : Obj) : ((w.alloc a).alloc b).heap[w.heap.size + 1]? = some b := by
  have := heap_alloc_new (w.alloc a) b
  rwa [World.size_alloc] at this
set_option maxRecDepth 100000 in
set_option maxHeartbeats 1600000 in
theorem filterOf_rot (w : World) : Calls Tryd.prog 47 #[.string ⟨#[114, 111, 116]⟩] w fun e w' => ∃ fb, e = .returned (.tuple #[.pointer (some ⟨fb, 0, none⟩), .bool true]) ∧ w.heap.size ≤ fb ∧ w'.heap[fb]? = some (.cells rotF 62 (0, 0)) ∧ Below w.heap.size w w' := by
  have hi2 := idx_words (.string ⟨#[114, 111, 116]⟩) (.string ⟨#[104, 101, 120]⟩)
  go_enter Tryd.func47, Tryd.ntmps47
  go_wp2
  go_loop [12] (fun v12 => ∃ j : Nat, j ≤ 0 ∧ v12 = .int .i64 (j : Int)) (fun v12 => 2 - (intOf v12).toNat)
  case atStart => exact ⟨0, by omega, rfl⟩
  case round =>
    obtain ⟨j, hj, rfl⟩ := hrel
    obtain rfl : j = 0 := by omega
    go_wp2
    go_ret2
    refine ⟨w.heap.size + 1, rfl, by omega, ?_, ((Below.refl _ w).alloc (Nat.le_refl _) _).alloc (by simp) _⟩
    exact lay_new _ _ _
set_option maxRecDepth 100000 in
set_option maxHeartbeats 1600000 in
theorem filterOf_hex (w : World) : Calls Tryd.prog 47 #[.string ⟨#[104, 101, 120]⟩] w fun e w' => ∃ fb, e = .returned (.tuple #[.pointer (some ⟨fb, 0, none⟩), .bool true]) ∧ w.heap.size ≤ fb ∧ w'.heap[fb]? = some (.cells (hexF []) 62 (0, 0)) ∧ Below w.heap.size w w' := by
  have hi2 := idx_words (.string ⟨#[114, 111, 116]⟩) (.string ⟨#[104, 101, 120]⟩)
  go_enter Tryd.func47, Tryd.ntmps47
  go_wp2
  go_loop [12] (fun v12 => ∃ j : Nat, j ≤ 1 ∧ v12 = .int .i64 (j : Int)) (fun v12 => 2 - (intOf v12).toNat)
  case atStart => exact ⟨0, by omega, rfl⟩
  case round =>
    obtain ⟨j, hj, rfl⟩ := hrel
    rcases (by omega : j = 0 ∨ j = 1) with rfl | rfl
    · go_wp2
      go_round
      case rel => exact ⟨1, by omega, rfl⟩
      case measure => simp [intOf]
    · go_wp2
      go_ret2
      refine ⟨w.heap.size + 1, rfl, by omega, ?_, ((Below.refl _ w).alloc (Nat.le_refl _) _).alloc (by simp) _⟩
      exact lay_new _ _ _

abbrev ptrV (x : Nat × Bool) : Value := .pointer (some ⟨x.1, 0, none⟩)
/-- The filters of a pipe, in memory. -/
structure Fls (B : Nat) (W : World) (fv : Value) (fs : List (Nat × Bool)) : Prop where
  row : W.ownsRow B 57 1 fv fs.length (fs.map ptrV)
  flt : ∀ x ∈ fs, B ≤ x.1 ∧ W.heap[x.1]? = some (.cells (fltC x.2) 62 (0, 0))
theorem fls_nil (B : Nat) (W : World) : Fls B W (.slice none 0 0) [] := ⟨World.ownsRow_nil W B _ 1, by simp⟩
theorem infoPF : (Tryd.prog.info? 57).map (fun i => (i.zero, i.size, i.bytes)) = some (some (.pointer none), 1, 8) := by kernel_rfl
/-- What stays, but for pipes. -/
theorem Fls.keep {B : Nat} {W W' : World} {fv : Value} {fs : List (Nat × Bool)} (h : Fls B W fv fs) {D : List Nat} (k : Kp D W W') (hD : ∀ d ∈ D, ∃ p, PAt W d p) : Fls B W' fv fs := by
  have ne : ∀ {j : Nat} {c : Array Value} {t : TypeId}, W.heap[j]? = some (.cells c t (0, 0)) → t ≠ 52 → j ∉ D := fun {j c t} hj ht hd => by
    obtain ⟨p, hp⟩ := hD j hd
    unfold PAt at hp
    rw [hj] at hp
    cases hp
    exact ht rfl
  refine ⟨⟨h.row.1, ?_⟩, fun x hx => ⟨(h.flt x hx).1, ?_⟩⟩
  · rcases h.row.2 with h0 | ⟨g, cap, cur, rfl, hb, hg, rest⟩
    · exact .inl h0
    · exact .inr ⟨g, cap, cur, rfl, hb, (k.block g (Array.getElem?_eq_some_iff.1 hg).1 (ne hg (by decide))).trans hg, rest⟩
  · have := (h.flt x hx).2
    exact (k.block x.1 (Array.getElem?_eq_some_iff.1 this).1 (ne this (by decide))).trans this
theorem Fls.below {B : Nat} {W W' : World} {fv : Value} {fs : List (Nat × Bool)} (h : Fls B W fv fs) (k : Below W.heap.size W W') : Fls B W' fv fs := h.keep (kp_of_below k) (by simp)
theorem Fls.more {B : Nat} {W W' : World} {fs : List (Nat × Bool)} {fb : Nat} {k : Bool} {fv' : Value} (hflt : ∀ x ∈ fs, B ≤ x.1 ∧ W.heap[x.1]? = some (.cells (fltC x.2) 62 (0, 0))) (hfb : B ≤ fb) (hf : W.heap[fb]? = some (.cells (fltC k) 62 (0, 0))) (hB : B ≤ W.heap.size)
    (hrow : W'.ownsRow W.heap.size 57 1 fv' (fs.length + 1) (fs.map ptrV ++ [.pointer (some ⟨fb, 0, none⟩)])) (hg : W.grownBy W' none) : Fls B W' fv' (fs ++ [(fb, k)]) := by
  have key : ∀ j o, W.heap[j]? = some o → W'.heap[j]? = some o := fun j o hj => (hg.block j (Array.getElem?_eq_some_iff.1 hj).1 (by simp)).trans hj
  refine ⟨⟨by simp, ?_⟩, fun x hx => ?_⟩
  · rcases hrow.2 with ⟨_, h0⟩ | ⟨g, cap, cur, rfl, hb, rest⟩
    · omega
    · refine .inr ⟨g, cap, cur, ?_, by omega, ?_⟩
      · simp
      · simpa using rest
  · rcases List.mem_append.1 hx with h | h
    · exact ⟨(hflt x h).1, key _ _ (hflt x h).2⟩
    · simp at h; subst h; exact ⟨hfb, key _ _ hf⟩
theorem row_cells {B : Nat} {W : World} {g n cap : Nat} {xs : List Value} (h : W.ownsRow B 57 1 (.slice (some ⟨g, 0, none⟩) n cap) n xs) : n ≤ cap ∧ cap ≤ maxLen ∧ (∀ j u, xs[j]? = some u → W.cell? ((⟨g, 0, none⟩ : Addr).add j) = some u) := by
  rcases h.2 with ⟨h0, _⟩ | ⟨g', cap', cur, hv, hb, hg, h1, h2, h3, h4⟩
  · cases h0
  · cases hv
    refine ⟨h1, h2, fun j u hj => ?_⟩
    have hjl : j < n := by
      have := (List.getElem?_eq_some_iff.1 hj).1
      rw [h.1] at this; omega
    rw [← h4, List.getElem?_take, if_pos (by omega)] at hj
    have hj' : cur[j]? = some u := by simpa using hj
    cases j with
    | zero => simp only [Addr.add, World.cell?]; simp [hg, hj']
    | succ j => simp only [Addr.add, World.cell?]; simp [hg, hj']
theorem cell_alloc_l {W : World} {a : Addr} {v : Value} (o : Obj) (h : W.cell? a = some v) : (W.alloc o).cell? a = some v := cell_kept h (World.grownBy_alloc W o none) (fun r e => by cases e)
theorem row_slice {B : Nat} {W : World} {e : TypeId} {v : Value} {n : Nat} {xs : List Value} (h : W.ownsRow B e 1 v (n + 1) xs) : ∃ g cap, v = .slice (some ⟨g, 0, none⟩) (n + 1) cap := by
  rcases h.2 with ⟨_, h0⟩ | ⟨g, cap, cur, rfl, _⟩
  · omega
  · exact ⟨g, cap, rfl⟩
theorem add_block (a : Addr) (j : Nat) : (a.add j).block = a.block := by cases j <;> rfl
theorem lay_end {B : Nat} {W w1 w2 : World} {b fb : Nat} {p : PP} {fv : Value} {fs : List (Nat × Bool)} {k : Bool} {v2 : Value} {o : Obj} (hF : Fls B W fv fs) (h : PAt W b p) (hB : B ≤ W.heap.size) (hfb : W.heap.size ≤ fb) (hf : w1.heap[fb]? = some (.cells (fltC k) 62 (0, 0))) (hb1 : Below W.heap.size W w1)
    (hrow : w2.ownsRow (w1.alloc o).heap.size 57 1 v2 (fs.length + 1) (fs.map ptrV ++ [.pointer (some ⟨fb, 0, none⟩)])) (hg : (w1.alloc o).grownBy w2 none) (hb2 : Below w1.heap.size w1 w2) :
    ∃ fv' fb, PAt (w2.setCell ⟨b, 4, none⟩ v2) b { p with fv := fv' } ∧ Fls B (w2.setCell ⟨b, 4, none⟩ v2) fv' (fs ++ [(fb, k)]) ∧ Kp [b] W (w2.setCell ⟨b, 4, none⟩ v2) := by
  have h1 := h.below hb1 h.lt
  have h2 := h1.below hb2 h1.lt
  have hF1 := hF.below hb1
  have ha := (Below.refl w1.heap.size w1).alloc (Nat.le_refl _) o
  have hF2 := hF1.below ha
  have hs := hb1.size
  refine ⟨v2, fb, h2.set 4 v2 _ rfl, ?_, ?_⟩
  · have := Fls.more (W := w1.alloc o) (W' := w2) hF2.flt (by omega : B ≤ fb) (k := k) ((Below.heap_alloc _ _ _ (Array.getElem?_eq_some_iff.1 hf).1).trans hf) (by simp; omega) hrow hg
    exact this.keep ((Kp.refl [b] w2).setCell b 4 v2 (.inl (by simp))) (fun d hd => by simp at hd; subst hd; exact ⟨p, h2⟩)
  · exact (kp_below (b := b) (hb1.trans (hb2.mono hs))).setCell b 4 v2 (.inl (by simp))

set_option maxRecDepth 100000 in
set_option maxHeartbeats 1600000 in
theorem Lay_rot_nil {B : Nat} {W : World} {b : Nat} {p : PP} (h : PAt W b p) (hB : B ≤ W.heap.size) (hfv : p.fv = .slice none 0 0) :
    Calls Tryd.prog 28 #[.pointer (some ⟨b, 0, none⟩), .string ⟨#[114, 111, 116]⟩] W fun e w' => e = .returned (.int .i64 0) ∧ ∃ fv' fb, PAt w' b { p with fv := fv' } ∧ Fls B w' fv' ([] ++ [(fb, false)]) ∧ Kp [b] W w' := by
  obtain ⟨i0, hi, hz0, hz1, hz2⟩ := info_parts infoPF
  have c4 := h.c4
  rw [hfv] at c4
  have hN := fun W b => ptr_nil W b
  have H := Lib.hid (And.intro h hB)
  have HFV := Lib.hid hfv
  clear h hB hfv
  go_enter Tryd.func28, Tryd.ntmps28
  go_wp2_with (first | (go_at_call 47; refine (filterOf_rot _).mono ?_; rintro e w1 ⟨fb, rfl, hfb, hf, hb1⟩; have c4' := (hb1.cell (p := ⟨b, 4, none⟩) H.out.1.lt).trans c4; have f4' := (hb1.frozen (p := ⟨b, 4, none⟩) H.out.1.lt).trans (H.out.1.fz 4); have H1 := Lib.hid (And.intro hfb (And.intro hf hb1)); clear c4 hfb hf hb1) | (at_builtin; refine wpList_append_grows _ rfl _ _ 50 rfl 57 i0 (.pointer none) 1 8 Tryd.underlying50 hi hz0 hz1 hz2 rfl (by decide) none 0 0 [] rfl (fun _ => ⟨rfl, rfl⟩) rfl (fun b hb => by cases hb) ⟨w1.heap.size, 0, none⟩ 1 1 [.pointer (some ⟨fb, 0, none⟩)] rfl rfl (cell_one_new _ _ _) (fun u hu => by simp at hu; subst hu; rfl) (by omega) (by unfold maxLen; omega) (by omega) ?_; intro v2 w2 hrow2 hg2; obtain ⟨g2, cap2, hv2⟩ := row_slice hrow2; subst hv2; have hB2 := ((Below.refl w1.heap.size w1).alloc (Nat.le_refl _) (.cells #[.pointer (some ⟨fb, 0, none⟩)] 57)).grown hg2 (by simp) (fun k hk => by cases hk); have hb1lt := Nat.lt_of_lt_of_le H.out.1.lt H1.out.2.2.size; have c4'' := (hB2.cell (p := ⟨b, 4, none⟩) hb1lt).trans c4'; have f4'' := (hB2.frozen (p := ⟨b, 4, none⟩) hb1lt).trans f4'; have H2 := Lib.hid (And.intro hrow2 (And.intro hg2 hB2)); clear hrow2 hg2 hB2 c4' f4' hb1lt))
  go_ret
  exact ⟨rfl, lay_end (fls_nil _ _) H.out.1 H.out.2 H1.out.1 H1.out.2.1 H1.out.2.2 H2.out.1 H2.out.2.1 H2.out.2.2⟩

set_option maxRecDepth 100000 in
set_option maxHeartbeats 1600000 in
theorem Lay_rot_cel {B : Nat} {W : World} {b : Nat} {p : PP} (h : PAt W b p) (hB : B ≤ W.heap.size) {fs : List (Nat × Bool)} {g n cap : Nat} (hfv : p.fv = .slice (some ⟨g, 0, none⟩) n cap) (hF : Fls B W p.fv fs) (hn : n = fs.length) (hn3 : n ≤ 3) :
    Calls Tryd.prog 28 #[.pointer (some ⟨b, 0, none⟩), .string ⟨#[114, 111, 116]⟩] W fun e w' => e = .returned (.int .i64 0) ∧ ∃ fv' fb, PAt w' b { p with fv := fv' } ∧ Fls B w' fv' (fs ++ [(fb, false)]) ∧ Kp [b] W w' := by
  obtain ⟨i0, hi, hz0, hz1, hz2⟩ := info_parts infoPF
  have c4 := h.c4
  rw [hfv] at c4
  have hN := fun W b => ptr_nil W b
  rw [hfv] at hF
  have hrow := hF.row
  rw [← hn] at hrow
  obtain ⟨hnc, hcm, hcells⟩ := row_cells hrow
  unfold maxLen at hcm
  have hglt : g < W.heap.size := by
    rcases hrow.2 with ⟨h0, _⟩ | ⟨g', cap', cur, hv, hb, hg, _⟩
    · cases h0
    · cases hv; exact (Array.getElem?_eq_some_iff.1 hg).1
  have HCE2 : Hid (∀ w1, Below W.heap.size W w1 → ∀ (o : Obj) b, some (⟨g, 0, none⟩ : Addr) = some b → ∀ j u, (fs.map ptrV)[j]? = some u → (w1.alloc o).cell? (b.add j) = some u) := fun w1 hb1 o b hb j u hj => by
    cases hb
    have h1 := hcells j u hj
    refine cell_alloc_l _ ?_
    exact (hb1.cell (p := (⟨g, 0, none⟩ : Addr).add j) (by rw [add_block]; exact hglt)).trans h1
  have HF := Lib.hid hF
  have HN := Lib.hid hn
  have q1 : ((n : Int) == 5) = false := by rw [beq_eq_false_iff_ne]; omega
  have q2 : (n : Int) ≤ (cap : Int) := by omega
  have q3 : (0 : Int) ≤ (n : Int) := by omega
  clear hF hcells hn hrow
  have H := Lib.hid (And.intro h hB)
  have HFV := Lib.hid hfv
  clear h hB hfv
  go_enter Tryd.func28, Tryd.ntmps28
  go_wp2_with (first | (go_at_call 47; refine (filterOf_rot _).mono ?_; rintro e w1 ⟨fb, rfl, hfb, hf, hb1⟩; have c4' := (hb1.cell (p := ⟨b, 4, none⟩) H.out.1.lt).trans c4; have f4' := (hb1.frozen (p := ⟨b, 4, none⟩) H.out.1.lt).trans (H.out.1.fz 4); have H1 := Lib.hid (And.intro hfb (And.intro hf hb1)); clear c4 hfb hf hb1) | (at_builtin; refine wpList_append_grows _ rfl _ _ 50 rfl 57 i0 (.pointer none) 1 8 Tryd.underlying50 hi hz0 hz1 hz2 rfl (by decide) (some ⟨g, 0, none⟩) n n (fs.map ptrV) rfl (fun h => by cases h) (by rw [List.length_map, Nat.mul_one]; exact HN.out.symm) (HCE2.out w1 H1.out.2.2 _) ⟨w1.heap.size, 0, none⟩ 1 1 [.pointer (some ⟨fb, 0, none⟩)] rfl rfl (cell_one_new _ _ _) (fun u hu => by simp at hu; subst hu; rfl) (by omega) (by unfold maxLen; omega) (by omega) ?_; intro v2 w2 hrow2 hg2; obtain ⟨g2, cap2, hv2⟩ := row_slice hrow2; subst hv2; have hB2 := ((Below.refl w1.heap.size w1).alloc (Nat.le_refl _) (.cells #[.pointer (some ⟨fb, 0, none⟩)] 57)).grown hg2 (by simp) (fun k hk => by cases hk); have hb1lt := Nat.lt_of_lt_of_le H.out.1.lt H1.out.2.2.size; have c4'' := (hB2.cell (p := ⟨b, 4, none⟩) hb1lt).trans c4'; have f4'' := (hB2.frozen (p := ⟨b, 4, none⟩) hb1lt).trans f4'; have H2 := Lib.hid (And.intro hrow2 (And.intro hg2 hB2)); clear hrow2 hg2 hB2 c4' f4' hb1lt))
  go_ret
  exact ⟨rfl, lay_end HF.out H.out.1 H.out.2 H1.out.1 H1.out.2.1 H1.out.2.2 (by rw [← HN.out]; exact H2.out.1) H2.out.2.1 H2.out.2.2⟩

set_option maxRecDepth 100000 in
set_option maxHeartbeats 1600000 in
theorem Lay_hex_nil {B : Nat} {W : World} {b : Nat} {p : PP} (h : PAt W b p) (hB : B ≤ W.heap.size) (hfv : p.fv = .slice none 0 0) :
    Calls Tryd.prog 28 #[.pointer (some ⟨b, 0, none⟩), .string ⟨#[104, 101, 120]⟩] W fun e w' => e = .returned (.int .i64 0) ∧ ∃ fv' fb, PAt w' b { p with fv := fv' } ∧ Fls B w' fv' ([] ++ [(fb, true)]) ∧ Kp [b] W w' := by
  obtain ⟨i0, hi, hz0, hz1, hz2⟩ := info_parts infoPF
  have c4 := h.c4
  rw [hfv] at c4
  have hN := fun W b => ptr_nil W b
  have H := Lib.hid (And.intro h hB)
  have HFV := Lib.hid hfv
  clear h hB hfv
  go_enter Tryd.func28, Tryd.ntmps28
  go_wp2_with (first | (go_at_call 47; refine (filterOf_hex _).mono ?_; rintro e w1 ⟨fb, rfl, hfb, hf, hb1⟩; have c4' := (hb1.cell (p := ⟨b, 4, none⟩) H.out.1.lt).trans c4; have f4' := (hb1.frozen (p := ⟨b, 4, none⟩) H.out.1.lt).trans (H.out.1.fz 4); have H1 := Lib.hid (And.intro hfb (And.intro hf hb1)); clear c4 hfb hf hb1) | (at_builtin; refine wpList_append_grows _ rfl _ _ 50 rfl 57 i0 (.pointer none) 1 8 Tryd.underlying50 hi hz0 hz1 hz2 rfl (by decide) none 0 0 [] rfl (fun _ => ⟨rfl, rfl⟩) rfl (fun b hb => by cases hb) ⟨w1.heap.size, 0, none⟩ 1 1 [.pointer (some ⟨fb, 0, none⟩)] rfl rfl (cell_one_new _ _ _) (fun u hu => by simp at hu; subst hu; rfl) (by omega) (by unfold maxLen; omega) (by omega) ?_; intro v2 w2 hrow2 hg2; obtain ⟨g2, cap2, hv2⟩ := row_slice hrow2; subst hv2; have hB2 := ((Below.refl w1.heap.size w1).alloc (Nat.le_refl _) (.cells #[.pointer (some ⟨fb, 0, none⟩)] 57)).grown hg2 (by simp) (fun k hk => by cases hk); have hb1lt := Nat.lt_of_lt_of_le H.out.1.lt H1.out.2.2.size; have c4'' := (hB2.cell (p := ⟨b, 4, none⟩) hb1lt).trans c4'; have f4'' := (hB2.frozen (p := ⟨b, 4, none⟩) hb1lt).trans f4'; have H2 := Lib.hid (And.intro hrow2 (And.intro hg2 hB2)); clear hrow2 hg2 hB2 c4' f4' hb1lt))
  go_ret
  exact ⟨rfl, lay_end (fls_nil _ _) H.out.1 H.out.2 H1.out.1 H1.out.2.1 H1.out.2.2 H2.out.1 H2.out.2.1 H2.out.2.2⟩

set_option maxRecDepth 100000 in
set_option maxHeartbeats 1600000 in
theorem Lay_hex_cel {B : Nat} {W : World} {b : Nat} {p : PP} (h : PAt W b p) (hB : B ≤ W.heap.size) {fs : List (Nat × Bool)} {g n cap : Nat} (hfv : p.fv = .slice (some ⟨g, 0, none⟩) n cap) (hF : Fls B W p.fv fs) (hn : n = fs.length) (hn3 : n ≤ 3) :
    Calls Tryd.prog 28 #[.pointer (some ⟨b, 0, none⟩), .string ⟨#[104, 101, 120]⟩] W fun e w' => e = .returned (.int .i64 0) ∧ ∃ fv' fb, PAt w' b { p with fv := fv' } ∧ Fls B w' fv' (fs ++ [(fb, true)]) ∧ Kp [b] W w' := by
  obtain ⟨i0, hi, hz0, hz1, hz2⟩ := info_parts infoPF
  have c4 := h.c4
  rw [hfv] at c4
  have hN := fun W b => ptr_nil W b
  rw [hfv] at hF
  have hrow := hF.row
  rw [← hn] at hrow
  obtain ⟨hnc, hcm, hcells⟩ := row_cells hrow
  unfold maxLen at hcm
  have hglt : g < W.heap.size := by
    rcases hrow.2 with ⟨h0, _⟩ | ⟨g', cap', cur, hv, hb, hg, _⟩
    · cases h0
    · cases hv; exact (Array.getElem?_eq_some_iff.1 hg).1
  have HCE2 : Hid (∀ w1, Below W.heap.size W w1 → ∀ (o : Obj) b, some (⟨g, 0, none⟩ : Addr) = some b → ∀ j u, (fs.map ptrV)[j]? = some u → (w1.alloc o).cell? (b.add j) = some u) := fun w1 hb1 o b hb j u hj => by
    cases hb
    have h1 := hcells j u hj
    refine cell_alloc_l _ ?_
    exact (hb1.cell (p := (⟨g, 0, none⟩ : Addr).add j) (by rw [add_block]; exact hglt)).trans h1
  have HF := Lib.hid hF
  have HN := Lib.hid hn
  have q1 : ((n : Int) == 5) = false := by rw [beq_eq_false_iff_ne]; omega
  have q2 : (n : Int) ≤ (cap : Int) := by omega
  have q3 : (0 : Int) ≤ (n : Int) := by omega
  clear hF hcells hn hrow
  have H := Lib.hid (And.intro h hB)
  have HFV := Lib.hid hfv
  clear h hB hfv
  go_enter Tryd.func28, Tryd.ntmps28
  go_wp2_with (first | (go_at_call 47; refine (filterOf_hex _).mono ?_; rintro e w1 ⟨fb, rfl, hfb, hf, hb1⟩; have c4' := (hb1.cell (p := ⟨b, 4, none⟩) H.out.1.lt).trans c4; have f4' := (hb1.frozen (p := ⟨b, 4, none⟩) H.out.1.lt).trans (H.out.1.fz 4); have H1 := Lib.hid (And.intro hfb (And.intro hf hb1)); clear c4 hfb hf hb1) | (at_builtin; refine wpList_append_grows _ rfl _ _ 50 rfl 57 i0 (.pointer none) 1 8 Tryd.underlying50 hi hz0 hz1 hz2 rfl (by decide) (some ⟨g, 0, none⟩) n n (fs.map ptrV) rfl (fun h => by cases h) (by rw [List.length_map, Nat.mul_one]; exact HN.out.symm) (HCE2.out w1 H1.out.2.2 _) ⟨w1.heap.size, 0, none⟩ 1 1 [.pointer (some ⟨fb, 0, none⟩)] rfl rfl (cell_one_new _ _ _) (fun u hu => by simp at hu; subst hu; rfl) (by omega) (by unfold maxLen; omega) (by omega) ?_; intro v2 w2 hrow2 hg2; obtain ⟨g2, cap2, hv2⟩ := row_slice hrow2; subst hv2; have hB2 := ((Below.refl w1.heap.size w1).alloc (Nat.le_refl _) (.cells #[.pointer (some ⟨fb, 0, none⟩)] 57)).grown hg2 (by simp) (fun k hk => by cases hk); have hb1lt := Nat.lt_of_lt_of_le H.out.1.lt H1.out.2.2.size; have c4'' := (hB2.cell (p := ⟨b, 4, none⟩) hb1lt).trans c4'; have f4'' := (hB2.frozen (p := ⟨b, 4, none⟩) hb1lt).trans f4'; have H2 := Lib.hid (And.intro hrow2 (And.intro hg2 hB2)); clear hrow2 hg2 hB2 c4' f4' hb1lt))
  go_ret
  exact ⟨rfl, lay_end HF.out H.out.1 H.out.2 H1.out.1 H1.out.2.1 H1.out.2.2 (by rw [← HN.out]; exact H2.out.1) H2.out.2.1 H2.out.2.2⟩
end Go.Proofs.YtafohdmhjilleaaDoor
