/- What Unset keeps. What holds while (*book).kept ranges over pairs. -/
import Derived.Test.YtpaffocniniakaaGreatBookD
import Derived.Test.YtpaffocniniakaaGreatBook9
namespace Go.Proofs.YtpaffocniniakaaGreat
set_option linter.unusedVariables false
set_option linter.unusedSimpArgs false
open Go.RowKit

end Go.Proofs.YtpaffocniniakaaGreat
namespace Go.Proofs.YtpaffocniniakaaGreat
set_option linter.unusedVariables false
set_option linter.unusedSimpArgs false
open Go.RowKit Go.MapKept Go.WideMaps

/-- A pair of which both texts are clipped. -/
def clip2 (x : Bs × Bs) : Bs × Bs := (x.1.take 1000000, x.2.take 1000000)
theorem clip2_id {x : Bs × Bs} (h1 : x.1.length ≤ 1000000) (h2 : x.2.length ≤ 1000000) : clip2 x = x := by
  unfold clip2
  rw [List.take_of_length_le h1, List.take_of_length_le h2]
theorem clip2_len (x : Bs × Bs) : (clip2 x).1.length ≤ 1000000 ∧ (clip2 x).2.length ≤ 1000000 := by unfold clip2; simp; omega
theorem clipP_clip2 (x : Bs × Bs) : clipP (clip2 x) = clip2 x := clipP_id (clip2_len x).1
theorem map_clip2 {a : Prs} (h : ∀ p ∈ a, clip2 p = p) : a.map clip2 = a := by
  conv => rhs; rw [← List.map_id a]
  exact List.map_congr_left h
theorem clip_filter {a : Prs} (h : ∀ p ∈ a, clip2 p = p) (f : Bs × Bs → Bool) : (a.filter f).map clipP = a.filter f := by
  conv => rhs; rw [← List.map_id (a.filter f)]
  exact List.map_congr_left fun p hp => by
    rw [← h p (List.mem_filter.1 hp).1, clipP_clip2]; rfl
theorem filter_uniq {a : Prs} (h : Uniq a) (f : Bs × Bs → Bool) : Uniq (a.filter f) := by
  unfold Uniq keysP at *
  exact List.Nodup.sublist (List.Sublist.map _ List.filter_sublist) h
theorem MgJ.down {w : World} {b m bo : Nat} {acc : Prs} {Ds F2 : List Nat} {bx B2 : Nat} {pre : Prs} {W W' : World} (h : MgJ w b m bo acc Ds F2 bx B2 pre W) (hb : Below W.heap.size W W') : MgJ w b m bo acc Ds F2 bx B2 pre W' := by
  obtain ⟨F, hbk, hF⟩ := h.bk
  refine ⟨⟨F, hbk.below hb, hF⟩, (hb.cell (p := ⟨b, 1, none⟩) (hbk.lt b hbk.mem)).trans h.m1, boxed_below h.box hb, fun D hD => ?_, h.below.trans (hb.mono h.below.size), Nat.le_trans h.size hb.size⟩
  have := h.ds D hD
  exact (hb.block D (Array.getElem?_eq_some_iff.1 this).1).trans this
theorem keeps_below {B : Nat} {W W' : World} (hb : Below W.heap.size W W') : KeepsFrom B W W' := ⟨hb.size, fun k o hkB ho hcc => (hb.block k (Array.getElem?_eq_some_iff.1 ho).1).trans ho⟩
theorem kb_below {F : List Nat} {x : Nat} {W W' : World} (hb : Below W.heap.size W W') (hx : x < W.heap.size) (hF : ∀ d ∈ F, d < W.heap.size) : KB F x W W' := ⟨hb.block x hx, fun d hd => hb.block d (hF d hd)⟩
/-- What holds while pairs are kept. -/
def KeJ (w : World) (b m bo : Nat) (keep : Bs → Bs → Bool) (F2 : List Nat) (bx B2 : Nat) (pre : Prs) (W : World) : Prop := MgJ w b m bo [] [] F2 bx B2 ((pre.map clip2).filter fun p => keep p.1 p.2) W
theorem kej_own {w : World} {b m bo : Nat} {keep : Bs → Bs → Bool} {F2 : List Nat} {bx B2 : Nat} (hm : m < B2) (hB : w.heap.size ≤ B2) : OwnFrom B2 (KeJ w b m bo keep F2 bx B2) := fun pre W W' row h hg hr =>
  mgj_own hm (by simp) hB ((pre.map clip2).filter fun p => keep p.1 p.2) W W' row h hg hr
theorem KeJ.down {w : World} {b m bo : Nat} {keep : Bs → Bs → Bool} {F2 : List Nat} {bx B2 : Nat} {pre : Prs} {W W' : World} (h : KeJ w b m bo keep F2 bx B2 pre W) (hb : Below W.heap.size W W') : KeJ w b m bo keep F2 bx B2 pre W' := MgJ.down h hb
/-- The keeper says no. -/
theorem kej_no {w : World} {b m bo : Nat} {keep : Bs → Bs → Bool} {F2 : List Nat} {bx B2 : Nat} {pre : Prs} {W W' : World} {x : Bs × Bs} (h : KeJ w b m bo keep F2 bx B2 pre W) (hb : Below W.heap.size W W') (hbx : bx < B2) (hF2 : ∀ d ∈ F2, d < B2) (hk : keep (clip2 x).1 (clip2 x).2 = false) :
    KeepsFrom B2 W W' ∧ KB F2 bx W W' ∧ KeJ w b m bo keep F2 bx B2 (pre ++ [x]) W' := by
  have hs := MgJ.size h
  refine ⟨keeps_below hb, kb_below hb (by omega) (fun d hd => by have := hF2 d hd; omega), ?_⟩
  have e : ((pre ++ [x]).map clip2).filter (fun p => keep p.1 p.2) = (pre.map clip2).filter fun p => keep p.1 p.2 := by
    rw [List.map_append, List.filter_append]; simp [hk]
  unfold KeJ
  rw [e]
  exact h.down hb
/-- The keeper says yes, and the pair is set. -/
theorem kej_yes {w : World} {b m bo : Nat} {keep : Bs → Bs → Bool} {F2 : List Nat} {bx B2 : Nat} {pre : Prs} {W W1 W' : World} {x : Bs × Bs} (h : KeJ w b m bo keep F2 bx B2 pre W) (hb1 : Below W.heap.size W W1) (hm : m < B2) (hbx : bx < B2) (hbo : bo < B2) (hF2 : ∀ d ∈ F2, d < B2) (hk : keep (clip2 x).1 (clip2 x).2 = true)
    {F : List Nat} (hF : ∀ d ∈ F, w.heap.size ≤ d ∧ d ∉ F2 ∧ d ≠ bx ∧ d ≠ bo) (hb : Bk W1 b F (addP [] (((pre.map clip2).filter fun p => keep p.1 p.2).map clipP))) (hr : SetRes W1 b F (setP (addP [] (((pre.map clip2).filter fun p => keep p.1 p.2).map clipP)) (clip2 x).1 (clip2 x).2) W') :
    KeepsFrom B2 W W' ∧ KB F2 bx W W' ∧ KeJ w b m bo keep F2 bx B2 (pre ++ [x]) W' := by
  have hs := MgJ.size h
  have hr' : SetRes W1 b F (setP (addP [] (((pre.map clip2).filter fun p => keep p.1 p.2).map clipP)) (clipP (clip2 x)).1 (clipP (clip2 x)).2) W' := by rw [clipP_clip2]; exact hr
  obtain ⟨g1, g2, g3⟩ := mg_set (h.down hb1) hm (by simp) hF2 hbx hbo hF hb hr'
  refine ⟨⟨Nat.le_trans hb1.size g1.1, fun k o hkB ho hcc => g1.2 k o hkB ((hb1.block k (Array.getElem?_eq_some_iff.1 ho).1).trans ho) hcc⟩, (kb_below hb1 (by omega) (fun d hd => by have := hF2 d hd; omega)).trans g2, ?_⟩
  have e : ((pre ++ [x]).map clip2).filter (fun p => keep p.1 p.2) = ((pre.map clip2).filter fun p => keep p.1 p.2) ++ [clip2 x] := by
    rw [List.map_append, List.filter_append]; simp [hk]
  unfold KeJ
  rw [e]
  exact g3
end Go.Proofs.YtpaffocniniakaaGreat
