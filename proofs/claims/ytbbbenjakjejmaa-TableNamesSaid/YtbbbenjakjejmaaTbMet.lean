/- 'Name' of what is there; a row of marks; how many names there are. -/
import Derived.Test.YtbbbenjakjejmaaTbRenP
import Derived.Deep.OwnRows
import Derived.Laws.OwnMore
namespace Go.Proofs.Ytbbbenjakjejmaa
set_option linter.unusedVariables false
set_option linter.unusedSimpArgs false
open Go.RowKit Go.MapKept Go.WideMaps
theorem eql_nil (c : Nat) (W : World) : (binOp .eql 62 (.pointer (some ⟨c, 0, none⟩)) (.pointer none)).run Try.prog W = .ok (.bool false) W := by kernel_rfl
section
variable {w : World} {B tb mn mh mk : Nat} {who : Own} {cb : Nat → Nat} {S : TS}
theorem Name_some (h : Tb w B tb mn mh mk who cb S) {i : Int} (hi : (Lit.int .i64 i).wf = true) {n : Nat} {c : Cm} (hn : S.num i = some n) (hc : S.cm n = some c) : Calls Try.prog 13 #[.pointer (some ⟨tb, 0, none⟩), .int .i64 i] w fun e w' => e = .returned (.tuple #[.string ⟨c.name.toArray⟩, .bool c.hid, .bool true]) ∧ Below w.heap.size w w' := by
  have AT := Lib.hid (at_any h hi)
  rw [hn] at AT
  simp only [ptrM, Option.map_some] at AT
  have q := (h.cmd n c hc).cells
  have q1 := q.2.1
  have q2 := q.2.2.1
  generalize cb n = cn at *
  have hE : ∀ W, (binOp .eql 62 (.pointer (some ⟨cn, 0, none⟩)) (.pointer none)).run Try.prog W = .ok (.bool false) W := fun W => eql_nil _ W
  clear h q
  go_enter Try.func13, Try.ntmps13
  go_wp2_with (go_at_call 35; refine AT.out.mono ?_; rintro e w2 ⟨rfl, rfl⟩)
  go_quiet (fail)
  go_wp2_with fail
  go_ret3
  exact ⟨rfl, below_drewN (Below.refl _ w) _⟩
end
/-- 200 marks. -/
def mrow (f : Nat → Bool) : Array Value := ((List.range 200).map fun i => Value.bool (f i)).toArray
def Mt (w : World) (g : Nat) (f : Nat → Bool) : Prop := w.heap[g]? = some (.cells (mrow f) 4 (0, 0))
theorem mrow_made : mrow (fun _ => false) = madeCells #[.bool false] 200 := by
  apply Array.toList_inj.1
  rw [toList_madeCells_one]
  show (List.range 200).map (fun _ => Value.bool false) = _
  rw [List.map_const', List.length_range]
theorem Mt.cell {w : World} {g : Nat} {f : Nat → Bool} (h : Mt w g f) {i : Nat} (hi : i < 200) : w.cell? ⟨g, i, none⟩ = some (.bool (f i)) := by
  unfold Mt at h
  simp [World.cell?, h, mrow, hi]
theorem Mt.frozen {w : World} {g : Nat} {f : Nat → Bool} (h : Mt w g f) (i : Nat) : w.frozen? ⟨g, i, none⟩ = false := by
  unfold Mt at h
  simp [World.frozen?, h]
theorem Mt.set {w : World} {g : Nat} {f : Nat → Bool} (h : Mt w g f) {i : Nat} (hi : i < 200) : Mt (w.setCell ⟨g, i, none⟩ (.bool true)) g (fun j => if j = i then true else f j) := by
  have := set_heap (i := i) (.bool true) h
  unfold Mt
  rw [this]
  congr 2
  apply Array.toList_inj.1
  apply List.ext_getElem
  · simp [mrow]
  · intro j h1 h2
    simp [mrow] at h1 h2 ⊢
    by_cases e : i = j
    · subst e; simp
    · rw [List.getElem_set_ne e]
      simp [Ne.symm e]
def wg (g : Nat) : Own := fun j => if j = g then some (9, 9) else none
theorem wg_no {g j : Nat} (h : j ≠ g) : wg g j = none := if_neg h
/-- What stays since w1 but for the marks, of which those that are set have P. -/
structure MR (w1 w : World) (g : Nat) (P : Nat → Prop) : Prop where
  stp : Stp (wg g) (wg g) w1 w
  lt : g < w1.heap.size
  ex : ∃ f, Mt w g f ∧ ∀ n, f n = true → P n
section
variable {w1 w : World} {g : Nat} {P : Nat → Prop}
theorem MR.low {w' : World} (h : MR w1 w g P) (hb : Below w.heap.size w w') : MR w1 w' g P := by
  obtain ⟨f, hf, hp⟩ := h.ex
  exact ⟨h.stp.low hb, h.lt, f, (hb.block g (Nat.lt_of_lt_of_le h.lt h.stp.fr.size)).trans hf, hp⟩
theorem MR.cell (h : MR w1 w g P) {n : Nat} (hn : n < 200) (hp : ¬ P n) : w.cell? ⟨g, n, none⟩ = some (.bool false) := by
  obtain ⟨f, hf, hq⟩ := h.ex
  rw [hf.cell hn]
  cases hc : f n with
  | false => rfl
  | true => exact absurd (hq n hc) hp
theorem MR.frozen (h : MR w1 w g P) (i : Nat) : w.frozen? ⟨g, i, none⟩ = false := by
  obtain ⟨f, hf, hq⟩ := h.ex
  exact hf.frozen i
theorem MR.set (h : MR w1 w g P) {n : Nat} (hn : n < 200) {Q : Nat → Prop} (hQ : ∀ m, m = n ∨ P m → Q m) : MR w1 (w.setCell ⟨g, n, none⟩ (.bool true)) g Q := by
  obtain ⟨f, hf, hq⟩ := h.ex
  refine ⟨h.stp.trans (Stp.set (by simp [wg])), h.lt, _, hf.set hn, fun m hm => hQ m ?_⟩
  by_cases e : m = n
  · exact .inl e
  · rw [if_neg e] at hm; exact .inr (hq m hm)
theorem MR.weak (h : MR w1 w g P) {Q : Nat → Prop} (hQ : ∀ m, P m → Q m) : MR w1 w g Q := by
  obtain ⟨f, hf, hq⟩ := h.ex
  exact ⟨h.stp, h.lt, f, hf, fun m hm => hQ m (hq m hm)⟩
theorem MR.tb {B tb mn mh mk : Nat} {who : Own} {cb : Nat → Nat} {S : TS} (h : MR w1 w g P) (hT : Tb w1 B tb mn mh mk who cb S) (hg : who g = none) : Tb w B tb mn mh mk who cb S :=
  hT.keep h.stp.fr.size (fun j hj => h.stp.fr.block j (hT.lo j hj).2 (wg_no (by rintro rfl; exact hj hg)))
theorem MR.below {B : Nat} (h : MR w1 w g P) (hB : B ≤ g) : Below B w1 w := h.stp.below (by have := h.lt; omega) (fun j hj => by
  by_cases e : j = g
  · omega
  · exact absurd (wg_no e) hj)
/-- The world from which the marks are counted may be taken later. -/
theorem MR.start (w : World) {w' : World} (hb : Below (w.alloc (.cells (madeCells #[.bool false] 200) 4)).heap.size (w.alloc (.cells (madeCells #[.bool false] 200) 4)) w') : MR w' w' w.heap.size (fun _ => False) := by
  have hl : w.heap.size < w'.heap.size := by have := hb.size; simp at this; omega
  refine ⟨Stp.refl _ _, hl, fun _ => false, ?_, fun n h => by cases h⟩
  unfold Mt
  rw [mrow_made]
  exact (hb.block _ (by simp)).trans (heap_alloc_new w _)
theorem MR.again (h : MR w1 w g P) : MR w w g P := ⟨Stp.refl _ _, Nat.lt_of_lt_of_le h.lt h.stp.fr.size, h.ex⟩
end
/-- The names and the hidden names are all commands. -/
theorem names_cnt {S : TS} (hW : WF S) {ks hs : List Bs} (hk : Nms S false ks) (hh : Nms S true hs) : ks.length + hs.length = S.cnt := by
  have h1 : ((ks.map fun k => (S.nm false k).getD 0) ++ (hs.map fun k => (S.nm true k).getD 0)).Perm S.keys := by
    have inj : ∀ h a b, (S.nm h a).isSome = true → (S.nm h b).isSome = true → (S.nm h a).getD 0 = (S.nm h b).getD 0 → a = b := fun h a b ha hb e => by
      obtain ⟨n, hn⟩ := Option.isSome_iff_exists.1 ha
      obtain ⟨m, hm⟩ := Option.isSome_iff_exists.1 hb
      rw [hn, hm] at e
      simp at e
      subst e
      obtain ⟨c, hc, h1, _⟩ := (hW.names _ _ _).1 hn
      obtain ⟨d, hd, h2, _⟩ := (hW.names _ _ _).1 hm
      rw [hc] at hd; cases hd
      exact h1.symm.trans h2
    refine (List.perm_ext_iff_of_nodup ?_ S.keys_nodup).2 fun n => ?_
    · rw [List.nodup_append]
      refine ⟨List.pairwise_map.2 (hk.nodup.imp_of_mem fun {a b} ha hb hne e => hne (inj false a b ((hk.mem a).1 ha) ((hk.mem b).1 hb) e)), List.pairwise_map.2 (hh.nodup.imp_of_mem fun {a b} ha hb hne e => hne (inj true a b ((hh.mem a).1 ha) ((hh.mem b).1 hb) e)), ?_⟩
      intro x hx y hy e
      subst e
      obtain ⟨a, ha, rfl⟩ := List.mem_map.1 hx
      obtain ⟨b, hb, e⟩ := List.mem_map.1 hy
      obtain ⟨n, hn⟩ := Option.isSome_iff_exists.1 ((hk.mem a).1 ha)
      obtain ⟨m, hm⟩ := Option.isSome_iff_exists.1 ((hh.mem b).1 hb)
      rw [hn, hm] at e
      simp at e
      subst e
      obtain ⟨c, hc, _, h1⟩ := (hW.names _ _ _).1 hn
      obtain ⟨d, hd, _, h2⟩ := (hW.names _ _ _).1 hm
      rw [hc] at hd; cases hd
      rw [h1] at h2; cases h2
    · rw [hW.mem_keys, List.mem_append, List.mem_map, List.mem_map]
      constructor
      · rintro (⟨a, ha, rfl⟩ | ⟨a, ha, rfl⟩)
        · obtain ⟨n, hn⟩ := Option.isSome_iff_exists.1 ((hk.mem a).1 ha)
          obtain ⟨c, hc, _⟩ := (hW.names _ _ _).1 hn
          rw [hn]; simp [hc]
        · obtain ⟨n, hn⟩ := Option.isSome_iff_exists.1 ((hh.mem a).1 ha)
          obtain ⟨c, hc, _⟩ := (hW.names _ _ _).1 hn
          rw [hn]; simp [hc]
      · intro hn
        obtain ⟨c, hc⟩ := Option.isSome_iff_exists.1 hn
        have hm : S.nm c.hid c.name = some n := (hW.names _ _ _).2 ⟨c, hc, rfl, rfl⟩
        cases hb : c.hid with
        | false => rw [hb] at hm; exact .inl ⟨c.name, (hk.mem _).2 (by rw [hm]; rfl), by rw [hm]; rfl⟩
        | true => rw [hb] at hm; exact .inr ⟨c.name, (hh.mem _).2 (by rw [hm]; rfl), by rw [hm]; rfl⟩
  have := h1.length_eq
  simpa [TS.cnt] using this
end Go.Proofs.Ytbbbenjakjejmaa
