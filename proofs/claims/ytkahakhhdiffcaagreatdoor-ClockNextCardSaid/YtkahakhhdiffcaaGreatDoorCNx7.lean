/- The program's 'Next': its loop over fields, its days. -/
import Derived.Test.YtkahakhhdiffcaaGreatDoorCNx6
import Derived.Test.YtkahakhhdiffcaaGreatDoorPush1
import Derived.Deep.RegionWith
namespace Go.Proofs.YtkahakhhdiffcaaGreatDoor
set_option linter.unusedVariables false
set_option linter.unusedSimpArgs false
open Go.RowKit Go.Shelf
attribute [local go_sem] Oper.semAt_some wide_fnD
/-- What holds while fields are read. -/
structure NxR (w : World) (l : List Bs) (t : Int) (b7 k : Nat) (ms : List Nat) (Fs : List (Nat → Bool)) (vr : Value) (W : World) : Prop where
  fs : FsAt W (b7 + 1) ms Fs
  len : ms.length = k
  tell : fieldsL l 0 = (fieldsL (l.drop k) k).map (Fs ++ ·)
  row : W.ownsRow (b7 + 1) 48 1 vr k (ms.map mpv)
  c7 : Boxed W b7 44 vr
  sp : SpR W (w.heap.size + 3) l
  ct : Boxed W w.heap.size 3 (.int .i64 t)
  c4 : Boxed W (w.heap.size + 1) 3 (.int .i64 0)
  c5 : Boxed W (w.heap.size + 1 + 1) 23 (.int .i64 0)
  below : Below w.heap.size w W
  size : b7 < W.heap.size
theorem SpR.low {w w' : World} {b : Nat} {l : List Bs} (h : SpR w b l) (hb : Below w.heap.size w w') : SpR w' b l :=
  ⟨Nat.lt_of_lt_of_le h.lt hb.size, fun i hi => (hb.cell (p := ⟨b, i, none⟩) h.lt).trans (h.at_ i hi)⟩
theorem boxLowN {W W' : World} {b : Nat} {t : TypeId} {v : Value} (h : Boxed W b t v) (hb : Below W.heap.size W W') : Boxed W' b t v := (hb.block b h.lt).trans h
theorem row_keepN {w w' : World} {B n : Nat} {e : TypeId} {v : Value} {xs : List Value} (h : w.ownsRow B e 1 v n xs) (hk : ∀ g, v.ownBlock = some g → g < w.heap.size → w'.heap[g]? = w.heap[g]?) : w'.ownsRow B e 1 v n xs := by
  refine ⟨h.1, ?_⟩
  rcases h.2 with h0 | ⟨g, cap, cur, rfl, hb, hg, rest⟩
  · exact .inl h0
  · exact .inr ⟨g, cap, cur, rfl, hb, (hk g rfl (Array.getElem?_eq_some_iff.1 hg).1).trans hg, rest⟩
theorem NxR.low {w : World} {l : List Bs} {t : Int} {b7 k : Nat} {ms : List Nat} {Fs : List (Nat → Bool)} {vr : Value} {W W' : World} (h : NxR w l t b7 k ms Fs vr W) (hb : Below W.heap.size W W') : NxR w l t b7 k ms Fs vr W' :=
  ⟨h.fs.kept fun m _ hm _ => hb.block m hm, h.len, h.tell, row_keepN h.row (fun g _ hg => hb.block g hg), boxLowN h.c7 hb, h.sp.low hb, boxLowN h.ct hb, boxLowN h.c4 hb, boxLowN h.c5 hb, h.below.trans (hb.mono h.below.size), Nat.lt_of_lt_of_le h.size hb.size⟩
/-- A map is added. -/
theorem NxR.push {w : World} {l : List Bs} {t : Int} {b7 k mb g cap : Nat} {ms : List Nat} {Fs : List (Nat → Bool)} {F : Nat → Bool} {vr : Value} {W W2 : World} (h : NxR w l t b7 k ms Fs vr W) (hb : w.heap.size + 3 < b7) (hmb : b7 + 1 ≤ mb) (hF : FAt W mb F)
    (ht : fieldsL (l.drop k) k = (fieldsL (l.drop (k + 1)) (k + 1)).map (F :: ·))
    (hrow : W2.ownsRow (b7 + 1) 48 1 (.slice (some ⟨g, 0, none⟩) (k + 1) cap) (k + 1) (ms.map mpv ++ [mpv mb])) (hg : b7 + 1 ≤ g) (hk : Kp vr.ownBlock.toList W W2) :
    NxR w l t b7 (k + 1) (ms ++ [mb]) (Fs ++ [F]) (.slice (some ⟨g, 0, none⟩) (k + 1) cap) (W2.setCell ⟨b7, 0, none⟩ (.slice (some ⟨g, 0, none⟩) (k + 1) cap)) := by
  have low : ∀ j, j < W.heap.size → j < b7 → (W2.setCell ⟨b7, 0, none⟩ (.slice (some ⟨g, 0, none⟩) (k + 1) cap)).heap[j]? = W.heap[j]? := fun j hj hj2 =>
    (Below.heap_setCell W2 ⟨b7, 0, none⟩ _ j (by show j ≠ b7; omega)).trans (hk.block j hj (fun hm => by have := (ownsRow_type h.row j (by simpa using hm)).1; omega))
  have hsz := hk.size
  have hs7 := h.size
  have hs0 := h.below.size
  refine ⟨?_, by simp [h.len], ?_, ?_, ?_, ⟨?_, fun i hi => ?_⟩, (low _ h.ct.lt (by omega)).trans h.ct, (low _ h.c4.lt (by omega)).trans h.c4, (low _ h.c5.lt (by omega)).trans h.c5, ?_, ?_⟩
  · refine FsAt.kept (FsAt.snoc hmb hF h.fs) (fun m h1 h2 ⟨a, c, h3⟩ => ?_)
    refine (Below.heap_setCell W2 ⟨b7, 0, none⟩ _ m (by show m ≠ b7; omega)).trans (hk.block m h2 (fun hm => ?_))
    obtain ⟨_, cur, hc⟩ := ownsRow_type h.row m (by simpa using hm)
    rw [h3] at hc
    cases hc
  · rw [h.tell, ht, Option.map_map]
    congr 1
    funext x
    simp
  · refine row_keepN (by rw [List.map_append]; exact hrow) (fun j hj _ => ?_)
    simp [Value.ownBlock] at hj
    subst hj
    exact Below.heap_setCell W2 ⟨b7, 0, none⟩ _ _ (by show g ≠ b7; omega)
  · have hc : Boxed W2 b7 44 vr := (hk.block b7 hs7 (fun hm => by have := (ownsRow_type h.row b7 (by simpa using hm)).1; omega)).trans h.c7
    exact hc.set _
  · have := h.sp.lt; simp [World.setCell]; omega
  · have e := low (w.heap.size + 3) h.sp.lt (by omega)
    have := h.sp.at_ i hi
    unfold World.cell? at this ⊢
    simp only [e]
    exact this
  · refine ⟨hk.os.trans h.below.os, hk.tape.trans h.below.tape, hk.output.trans h.below.output, by simp [World.setCell]; omega, fun j hj => (low j (by omega) (by omega)).trans (h.below.block j hj)⟩
  · simp [World.setCell]; omega
end Go.Proofs.YtkahakhhdiffcaaGreatDoor
