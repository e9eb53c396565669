/- Merge. -/
import Derived.Test.YteojlmpipfajoaaGreatDoorBookB
namespace Go.Proofs.YteojlmpipfajoaaGreatDoor
set_option linter.unusedVariables false
set_option linter.unusedSimpArgs false
open Go.RowKit Go.MapKept Go.WideMaps
attribute [local go_sem] Oper.semAt_some wide_fn

def mergeL : List Bs → Prs → Option Prs
  | [], a => some a
  | s :: r, a => (readC s).bind fun q => mergeL r (addP a q)
def mergeE (ss : List Bs) : Bs × Int := match mergeL ss [] with | none => ([], 11) | some a => joinE (flatP a)
/-- A pair as 'set' can bear it. -/
def clipP (x : Bs × Bs) : Bs × Bs := (x.1.take 1000000, x.2)
theorem clipP_id {x : Bs × Bs} (h : x.1.length ≤ 1000000) : clipP x = x := by
  unfold clipP
  rw [List.take_of_length_le h]
theorem clipP_len (x : Bs × Bs) : (clipP x).1.length ≤ maxLen := by unfold clipP maxLen; simp; omega
theorem wt_key {a : Prs} {p : Bs × Bs} (h : p ∈ a) : p.1.length ≤ wt (flatP a) := by
  induction a with
  | nil => cases h
  | cons q a ih =>
    simp only [flatP, wt]
    rcases List.mem_cons.1 h with rfl | h
    · omega
    · have := ih h; omega
theorem clip_all {a : Prs} (h : wt (flatP a) ≤ 1000000) : ∀ p ∈ a, clipP p = p := fun p hp => clipP_id (by have := wt_key hp; omega)
theorem map_clip {a : Prs} (h : ∀ p ∈ a, clipP p = p) : a.map clipP = a := by
  conv => rhs; rw [← List.map_id a]
  exact List.map_congr_left h
def sumL (ss : List Bs) : Nat := (ss.map List.length).sum
theorem sumL_take {ss : List Bs} {k : Nat} (h : k < ss.length) : sumL (ss.take (k + 1)) = sumL (ss.take k) + ss[k].length := by
  unfold sumL
  rw [List.take_succ_eq_append_getElem h, List.map_append, List.sum_append]
  simp
theorem sumL_le (ss : List Bs) (k : Nat) : sumL (ss.take k) ≤ sumL ss := by
  unfold sumL
  conv => rhs; rw [← List.take_append_drop k ss]
  rw [List.map_append, List.sum_append]
  omega
theorem sumL_at {ss : List Bs} {k : Nat} (h : k < ss.length) : ss[k].length ≤ sumL ss := by
  have h1 := sumL_take h
  have h2 := sumL_le ss (k + 1)
  omega
/-- What holds at Merge's loop's head. -/
structure MgI (w : World) (ss : List Bs) (b m bo : Nat) (k : Nat) (acc : Prs) (Ds : List Nat) (W : World) : Prop where
  eq : mergeL (ss.drop k) acc = mergeL ss []
  bk : ∃ F, Bk W b F acc ∧ ∀ d ∈ F, w.heap.size ≤ d ∧ d ≠ bo
  m1 : W.cell? ⟨b, 1, none⟩ = some (.map (some m))
  box : Boxed W bo 87 (.pointer (some ⟨b, 0, none⟩))
  ds : ∀ D ∈ Ds, w.heap.size ≤ D ∧ W.heap[D]? = some (.deferred (some []))
  nd : Ds.Nodup
  below : Below w.heap.size w W
  bol : w.heap.size ≤ bo
  wtb : wt (flatP acc) ≤ 5 * sumL (ss.take k)
/-- What holds while a dictionary's pairs are set. -/
structure MgJ (w : World) (b m bo : Nat) (acc : Prs) (Ds F2 : List Nat) (bx B2 : Nat) (pre : Prs) (W : World) : Prop where
  bk : ∃ F, Bk W b F (addP acc (pre.map clipP)) ∧ ∀ d ∈ F, w.heap.size ≤ d ∧ d ∉ F2 ∧ d ≠ bx ∧ d ≠ bo
  m1 : W.cell? ⟨b, 1, none⟩ = some (.map (some m))
  box : Boxed W bo 87 (.pointer (some ⟨b, 0, none⟩))
  ds : ∀ D ∈ Ds, W.heap[D]? = some (.deferred (some []))
  below : Below w.heap.size w W
  size : B2 ≤ W.heap.size
theorem mgj_own {w : World} {b m bo : Nat} {acc : Prs} {Ds F2 : List Nat} {bx B2 : Nat} (hm : m < B2) (hD : ∀ D ∈ Ds, D < B2) (hB : w.heap.size ≤ B2) : OwnFrom B2 (MgJ w b m bo acc Ds F2 bx B2) := fun pre W W' row h hg hr => by
  have hr' := fun r e => (hr r e).2
  obtain ⟨F, hb, hF⟩ := h.bk
  have hco := (hb.cells_or h.m1).2
  have key : ∀ d ∈ F, W'.heap[d]? = W.heap[d]? := fun d hd => by
    refine hg.block d (hb.lt d hd) (fun e => ?_)
    obtain ⟨hr1, o, ho, hc⟩ := hr d e.symm
    by_cases hdm : d = m
    · omega
    · obtain ⟨c, t, hct⟩ := hco d hd hdm
      rw [hct] at ho; cases ho; cases hc
  refine ⟨⟨F, hb.kb (x := b) ⟨key b hb.mem, key⟩, hF⟩, ?_, boxed_grown h.box hg hr', fun D hD' => ?_, h.below.grown hg h.below.size (fun r e => Nat.le_trans hB (hr r e).1), Nat.le_trans h.size hg.size⟩
  · have := h.m1
    simp only [World.cell?, key b hb.mem] at this ⊢
    exact this
  · have hDh := h.ds D hD'
    exact (hg.block D (Array.getElem?_eq_some_iff.1 hDh).1 (fun e => by have := (hr D e.symm).1; have := hD D hD'; omega)).trans hDh
theorem mg_set {w W W' : World} {b m bo bx B2 : Nat} {acc pre : Prs} {x : Bs × Bs} {Ds F2 : List Nat} (h : MgJ w b m bo acc Ds F2 bx B2 pre W) (hm : m < B2) (hD : ∀ D ∈ Ds, D < B2) (hF2 : ∀ d ∈ F2, d < B2) (hbx : bx < B2) (hbo : bo < B2) {F : List Nat} (hF : ∀ d ∈ F, w.heap.size ≤ d ∧ d ∉ F2 ∧ d ≠ bx ∧ d ≠ bo) (hb : Bk W b F (addP acc (pre.map clipP))) (hr : SetRes W b F (setP (addP acc (pre.map clipP)) (clipP x).1 (clipP x).2) W') :
    KeepsFrom B2 W W' ∧ KB F2 bx W W' ∧ MgJ w b m bo acc Ds F2 bx B2 (pre ++ [x]) W' := by
  obtain ⟨F', hb', hk, hF', hc⟩ := hr
  have hco := (hb.cells_or h.m1).2
  have hs := h.size
  have hs2 := h.below.size
  have nD : ∀ D, B2 ≤ D ∨ True → (∃ o : Obj, W.heap[D]? = some o ∧ o.isCells = false) → D ≠ m → D ∉ F := fun D _ ⟨o, ho, hcc⟩ hne hDF => by
    obtain ⟨c, t, hct⟩ := hco D hDF hne
    rw [hct] at ho; cases ho; cases hcc
  refine ⟨⟨hk.size, fun k o hkB ho hcc => (hk.block k (Array.getElem?_eq_some_iff.1 ho).1 (nD k (.inr trivial) ⟨o, ho, hcc⟩ (by omega))).trans ho⟩, ⟨hk.block bx (by omega) (fun hd => (hF bx hd).2.2.1 rfl), fun d hd => hk.block d (by have := hF2 d hd; omega) (fun hdF => (hF d hdF).2.1 hd)⟩, ⟨F', by rw [List.map_append, List.map_cons, List.map_nil, add_snoc]; exact hb', fun d hd => ?_⟩, hc.trans h.m1, (hk.block bo (by omega) (fun hd => (hF bo hd).2.2.2 rfl)).trans h.box, fun D hD' => ?_, h.below.trans (hk.below hs2 (fun d hd => (hF d hd).1)), Nat.le_trans hs hk.size⟩
  · rcases hF' d hd with h1 | h1
    · exact hF d h1
    · exact ⟨by omega, fun hd2 => by have := hF2 d hd2; omega, by omega, by omega⟩
  · have hDh := h.ds D hD'
    refine (hk.block D (Array.getElem?_eq_some_iff.1 hDh).1 ?_).trans hDh
    refine nD D (.inr trivial) ⟨_, hDh, rfl⟩ ?_
    rintro rfl
    obtain ⟨kv, vv, m', hbb, _, _, hmm, _⟩ := hb.ex
    have e := (cells3 hbb).2.1.symm.trans h.m1
    cases e
    obtain ⟨es, clock, h1, _⟩ := hmm
    rw [hDh] at h1; cases h1
end Go.Proofs.YteojlmpipfajoaaGreatDoor
