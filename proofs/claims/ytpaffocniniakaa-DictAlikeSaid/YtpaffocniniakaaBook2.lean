/- A dictionary while it is changed: set. -/
import Derived.Test.YtpaffocniniakaaBook
namespace Go.Proofs.Ytpaffocniniakaa
set_option linter.unusedVariables false
set_option linter.unusedSimpArgs false
open Go.RowKit Go.MapKept Go.WideMaps

theorem Kp.from {D : List Nat} {w w1 w2 : World} (h : Kp D w w1) (k : Kp D w1 w2) : Kp D w w2 := h.trans k (fun d hd => .inl hd)
theorem gI_new {ps : Prs} {k : Bs} (hi : idxK (keysP ps) k = none) (v : Bs) : gI (setP ps k v) = fun k' => if k' = k then some (.int .i64 (ps.length : Int)) else gI ps k' := by
  have hk := idxK_none.1 hi
  have e : keysP (setP ps k v) = keysP ps ++ [k] := by rw [set_new hk]; simp [keysP]
  funext k'
  unfold gI
  rw [e, idxK_snoc hk]
  split
  · simp [keysP]
  · rfl
theorem set_new_end {w w1 w2 w3 : World} {b m : Nat} {F : List Nat} {ps : Prs} {k v : Bs} {kv vv : Value} {g1 c1 g2 c2 : Nat} (hu : Uniq ps)
    (hkr1 : w1.ownsRow 0 9 1 kv ps.length ((keysP ps).map sv)) (hvr1 : w1.ownsRow 0 9 1 vv ps.length ((valsP ps).map sv))
    (hkm : ∀ g, kv.ownBlock = some g → g ≠ m ∧ g ≠ b) (hvm : ∀ g, vv.ownBlock = some g → g ≠ m ∧ g ≠ b) (hne : ∀ g, kv.ownBlock = some g → vv.ownBlock ≠ some g) (hF : F = b :: m :: (kv.ownBlock.toList ++ vv.ownBlock.toList)) (hbm : b ≠ m)
    (hma : MapAt Try.prog 9 sv w1 m (fun k' => if k' = k then some (.int .i64 (ps.length : Int)) else gI ps k')) (hko : Kp [m] w w1) (hblt : b < w.heap.size) (hmlt : m < w.heap.size) (hi : idxK (keysP ps) k = none) (hcell1 : w.cell? ⟨b, 1, none⟩ = some (.map (some m)))
    (hb2 : w2.heap[b]? = some (.cells #[kv, .map (some m), vv] 45 (0, 0))) (hown1 : w2.ownsRow 0 9 1 (.slice (some ⟨g1, 0, none⟩) (ps.length + 1) c1) (ps.length + 1) ((keysP ps).map sv ++ [sv k])) (hk1 : Kp kv.ownBlock.toList w1 w2) (hlc1 : kv.ownBlock = some g1 ∨ w1.heap.size ≤ g1)
    (hown2 : w3.ownsRow 0 9 1 (.slice (some ⟨g2, 0, none⟩) (ps.length + 1) c2) (ps.length + 1) ((valsP ps).map sv ++ [sv v])) (hk2 : Kp vv.ownBlock.toList (w2.setCell ⟨b, 0, none⟩ (.slice (some ⟨g1, 0, none⟩) (ps.length + 1) c1)) w3) (hlc2 : vv.ownBlock = some g2 ∨ (w2.setCell ⟨b, 0, none⟩ (.slice (some ⟨g1, 0, none⟩) (ps.length + 1) c1)).heap.size ≤ g2) :
    SetRes w b F (setP ps k v) (w3.setCell ⟨b, 2, none⟩ (.slice (some ⟨g2, 0, none⟩) (ps.length + 1) c2)) := by
  have hs : (w2.setCell ⟨b, 0, none⟩ (.slice (some ⟨g1, 0, none⟩) (ps.length + 1) c1)).heap.size = w2.heap.size := by simp [World.setCell]
  have z1 := hko.size
  have z2 := hk1.size
  have z3 := hk2.size
  rw [hs] at hlc2 z3
  have hg1lt := (hown1.lt g1 rfl).2
  have hnk := idxK_none.1 hi
  have hset := set_new hnk v
  have ne1b : g1 ≠ b := by
    rcases hlc1 with h | h
    · exact (hkm g1 h).2
    · omega
  have ne2b : g2 ≠ b := by
    rcases hlc2 with h | h
    · exact (hvm g2 h).2
    · omega
  have n1v : ∀ g, vv.ownBlock = some g → g ≠ g1 := fun g hg e => by
    subst e
    rcases hlc1 with h | h
    · exact hne g h hg
    · have := (hvr1.lt g hg).2; omega
  have hmA : m ≠ b := fun e => hbm e.symm
  have hbA : (w2.setCell ⟨b, 0, none⟩ (.slice (some ⟨g1, 0, none⟩) (ps.length + 1) c1)).heap[b]? = some (.cells #[.slice (some ⟨g1, 0, none⟩) (ps.length + 1) c1, .map (some m), vv] 45 (0, 0)) := by
    simp only [World.setCell, Array.getElem?_modify, hb2]; simp
  have hb3 := (hk2.block b (by rw [hs]; omega) (fun hm => (hvm b (by simpa using hm)).2 rfl)).trans hbA
  have hbB : (w3.setCell ⟨b, 2, none⟩ (.slice (some ⟨g2, 0, none⟩) (ps.length + 1) c2)).heap[b]? = some (.cells #[.slice (some ⟨g1, 0, none⟩) (ps.length + 1) c1, .map (some m), .slice (some ⟨g2, 0, none⟩) (ps.length + 1) c2] 45 (0, 0)) := by
    simp only [World.setCell, Array.getElem?_modify, hb3]; simp
  have hKF : Kp F w (w3.setCell ⟨b, 2, none⟩ (.slice (some ⟨g2, 0, none⟩) (ps.length + 1) c2)) := by
    have k0 : Kp F w w1 := hko.mono (fun d hd => by rw [hF]; simp at hd; simp [hd])
    have k1 : Kp F w1 w2 := hk1.mono (fun d hd => by rw [hF]; simp at hd; simp [hd])
    have k2 := ((k0.from k1).setCell b 0 (.slice (some ⟨g1, 0, none⟩) (ps.length + 1) c1) (.inl (by rw [hF]; simp)))
    have k3 := k2.from (hk2.mono (D' := F) (fun d hd => by rw [hF]; simp at hd; simp [hd]))
    exact k3.setCell b 2 _ (.inl (by rw [hF]; simp))
  refine ⟨b :: m :: ([g1] ++ [g2]), ⟨set_uniq hu k v, _, _, m, hbB, ?_, ?_, ?_, rfl, ?_⟩, hKF, ?_, ?_⟩
  · have r1 := ownsRow_setCell_other hown1 (a := ⟨b, 0, none⟩) (by simp only [Value.ownBlock]; intro e; exact ne1b (Option.some.inj e)) (.slice (some ⟨g1, 0, none⟩) (ps.length + 1) c1)
    have r2 := ownsRow_kp r1 hk2 (fun g hg hm => by
      have e : g1 = g := by simpa [Value.ownBlock] using hg
      exact n1v g (by simpa using hm) e.symm)
    have r3 := ownsRow_setCell_other r2 (a := ⟨b, 2, none⟩) (by simp only [Value.ownBlock]; intro e; exact ne1b (Option.some.inj e)) (.slice (some ⟨g2, 0, none⟩) (ps.length + 1) c2)
    rw [hset]
    simpa [keysP] using r3
  · have r3 := ownsRow_setCell_other hown2 (a := ⟨b, 2, none⟩) (by simp only [Value.ownBlock]; intro e; exact ne2b (Option.some.inj e)) (.slice (some ⟨g2, 0, none⟩) (ps.length + 1) c2)
    rw [hset]
    simpa [valsP] using r3
  · rw [gI_new hi]
    refine hma.congr ?_
    refine (Below.heap_setCell _ ⟨b, 2, none⟩ _ m hmA).trans ?_
    refine (hk2.block m (by rw [hs]; omega) (fun hm => (hvm m (by simpa using hm)).1 rfl)).trans ?_
    refine (Below.heap_setCell _ ⟨b, 0, none⟩ _ m hmA).trans ?_
    exact hk1.block m (by omega) (fun hm => (hkm m (by simpa using hm)).1 rfl)
  · intro g hg e
    have e1 : g1 = g := by simpa [Value.ownBlock] using hg
    have e2 : g2 = g := by simpa [Value.ownBlock] using e
    subst e1
    rcases hlc2 with h | h
    · exact n1v g2 h e2
    · omega
  · intro d hd
    simp at hd
    rcases hd with rfl | rfl | rfl | rfl
    · left; rw [hF]; simp
    · left; rw [hF]; simp
    · rcases hlc1 with h | h
      · left; rw [hF]; simp [h]
      · right; omega
    · rcases hlc2 with h | h
      · left; rw [hF]; simp [h]
      · right; omega
  · rw [(cells3 hbB).2.1, hcell1]
theorem mid_b {w2 w3 : World} {b m : Nat} {kv vv s1 : Value} (hb2 : w2.heap[b]? = some (.cells #[kv, .map (some m), vv] 45 (0, 0))) (hk2 : Kp vv.ownBlock.toList (w2.setCell ⟨b, 0, none⟩ s1) w3) (hvm : ∀ g, vv.ownBlock = some g → g ≠ b) : w3.heap[b]? = some (.cells #[s1, .map (some m), vv] 45 (0, 0)) := by
  have hbA : (w2.setCell ⟨b, 0, none⟩ s1).heap[b]? = some (.cells #[s1, .map (some m), vv] 45 (0, 0)) := by
    simp only [World.setCell, Array.getElem?_modify, hb2]; simp
  exact (hk2.block b (Array.getElem?_eq_some_iff.1 hbA).1 (fun hm => hvm b (by simpa using hm) rfl)).trans hbA
set_option maxRecDepth 100000 in
set_option maxHeartbeats 800000 in
theorem set_any {w : World} {b : Nat} {F : List Nat} {ps : Prs} (h : Bk w b F ps) (k v : Bs) (hk : k.length ≤ maxLen) (hn : ps.length ≤ 1000000) :
    Calls Try.prog 35 #[.pointer (some ⟨b, 0, none⟩), .string ⟨k.toArray⟩, .string ⟨v.toArray⟩] w fun e w' => e = .returned (.tuple #[]) ∧ SetRes w b F (setP ps k v) w' := by
  have HB := Lib.hid h
  obtain ⟨kv, vv, m, hb, hkr, hvr, hm, _, _⟩ := h.ex
  obtain ⟨c0, c1, c2, cf⟩ := cells3 hb
  have hl := look_ok hm Skeyed (t := 41) (et := 3) Try.underlying41 (z := .int .i64 0) (zero_int w) (skey hk)
  rw [show sv k = (Value.string ⟨k.toArray⟩) from rfl] at hl
  unfold gI at hl
  cases hi : idxK (keysP ps) k with
  | none =>
    rw [hi] at hl
    obtain ⟨w1, hup, ho, hma⟩ := (hm.congr (w' := w.drew) rfl).store Skeyed Try.underlying41 sv_inj (skey hk) (.int .i64 (ps.length : Int))
    rw [show sv k = (Value.string ⟨k.toArray⟩) from rfl] at hup
    obtain ⟨ko, kc, hke⟩ := row_shape hkr
    obtain ⟨vo, vc, hve⟩ := row_shape hvr
    have hf0 := cf 0; have hf2 := cf 2
    subst hke
    subst hve
    have hbm : b ≠ m := by
      rintro rfl
      obtain ⟨es, clock, h1, _⟩ := hm
      rw [h1] at hb; cases hb
    have hkm : ∀ g, (Value.slice ko ps.length kc).ownBlock = some g → g ≠ m ∧ g ≠ b := fun g hg => by
      obtain ⟨_, cur, hc⟩ := ownsRow_type hkr g hg
      refine ⟨?_, ?_⟩
      · rintro rfl; obtain ⟨es, clock, h1, _⟩ := hm; rw [h1] at hc; cases hc
      · rintro rfl; rw [hb] at hc; cases hc
    have hvm : ∀ g, (Value.slice vo ps.length vc).ownBlock = some g → g ≠ m ∧ g ≠ b := fun g hg => by
      obtain ⟨_, cur, hc⟩ := ownsRow_type hvr g hg
      refine ⟨?_, ?_⟩
      · rintro rfl; obtain ⟨es, clock, h1, _⟩ := hm; rw [h1] at hc; cases hc
      · rintro rfl; rw [hb] at hc; cases hc
    have hne := (by assumption : ∀ g, (Value.slice ko ps.length kc).ownBlock = some g → (Value.slice vo ps.length vc).ownBlock ≠ some g)
    have hF := (by assumption : F = b :: m :: ((Value.slice ko ps.length kc).ownBlock.toList ++ (Value.slice vo ps.length vc).ownBlock.toList))
    have hko : Kp [m] w w1 := ((Kp.refl [m] w).drew).from ⟨ho.os, ho.tape, ho.output, Nat.le_of_eq ho.size.symm, fun j hj hn => ho.block j (by simpa using hn)⟩
    have hkr1 := ownsRow_kp hkr hko (fun g hg hm => (hkm g hg).1 (by simpa using hm))
    have hvr1 := ownsRow_kp hvr hko (fun g hg hm => (hvm g hg).1 (by simpa using hm))
    have hb1 := (hko.block b (Array.getElem?_eq_some_iff.1 hb).1 (by simpa using hbm)).trans hb
    have hblt := (Array.getElem?_eq_some_iff.1 hb).1
    have hmlt := hm.lt
    obtain ⟨d0, d1, d2, df⟩ := cells3 hb1
    have df0 := df 0
    have H0 := Lib.hid (And.intro hkr1 (And.intro hvr1 (And.intro hb1 (And.intro hkm (And.intro hvm (And.intro hne (And.intro hF (And.intro hma (And.intro hko (And.intro hblt (And.intro hmlt (And.intro hi (And.intro hbm h.uniq)))))))))))))
    clear h hm hma hkr hvr hb cf df hbm hkm hvm hne hF ho hko hkr1 hvr1 hb1 hblt hmlt hi
    go_enter Try.func35, Try.ntmps35
    go_wp2
    go_region
    go_wp2_with (first | (at_builtin; go_loud (refine wpList_push1 rfl _ _ 29 rfl 0 9 (sv []) 16 Try.underlying29 infoS rfl (.slice ko ps.length kc) ps.length ((keysP ps).map sv) rfl H0.out.1 (sv k) w1.heap.size rfl rfl rfl (by unfold maxLen; omega) (by omega) (by omega) ?_); intro g1 cc1 w2 _ hown1 hk1 hlc1; have hb2 := (hk1.block b (Nat.lt_of_lt_of_le H0.out.2.2.2.2.2.2.2.2.2.1 H0.out.2.2.2.2.2.2.2.2.1.size) (fun hm => (H0.out.2.2.2.1 b (by simpa using hm)).2 rfl)).trans H0.out.2.2.1; obtain ⟨e0, e1, e2, ef⟩ := cells3 hb2; have ef0 := ef 0; have ef2 := ef 2; have H1 := Lib.hid (And.intro hown1 (And.intro hk1 (And.intro hlc1 (And.intro hb2 H0.out)))); clear H0 hown1 hk1 hlc1 hb2 ef d0 d1 d2) | (at_builtin; go_loud (refine wpList_push1 rfl _ _ 29 rfl 0 9 (sv []) 16 Try.underlying29 infoS rfl (.slice vo ps.length vc) ps.length ((valsP ps).map sv) rfl (H1.out.2.2.2.2.2 |> fun hvr => ownsRow_setCell_other (ownsRow_kp hvr.1 H1.out.2.1 (fun g hg hm => hvr.2.2.2.2.1 g (by simpa using hm) hg)) (a := ⟨b, 0, none⟩) (fun e => (hvr.2.2.2.1 b e).2 rfl) _) (sv v) w2.heap.size (by simp [World.setCell]) rfl rfl (by unfold maxLen; omega) (by omega) (by omega) ?_); intro g2 cc2 w3 _ hown2 hk2 hlc2; have hb3 := mid_b H1.out.2.2.2.1 hk2 (fun g hg => (H1.out.2.2.2.2.2.2.2.2.1 g hg).2); obtain ⟨f0, f1, f2, ff⟩ := cells3 hb3; have ff2 := ff 2; have H2 := Lib.hid (And.intro hown2 (And.intro hk2 hlc2)); clear hown2 hk2 hlc2 hb3 ff))
    go_end0
    obtain ⟨q1, q2, q3, q4, q5, q6, q7, q8, q9, q10, q11, q12, q13, q14, q15, q16, q17, q18⟩ := H1.out
    exact ⟨rfl, set_new_end q18 q5 q6 q8 q9 q10 q11 q17 q12 q13 q14 q15 q16 c1 q4 q1 q2 q3 H2.out.1 H2.out.2.1 H2.out.2.2⟩
  | some i =>
    obtain ⟨hlt, _, _⟩ := gI_some hi
    rw [hi] at hl
    obtain ⟨g, cp, rfl, hnc, hcm, _⟩ := row_slice hvr (by omega)
    unfold maxLen at hcm
    have hcell := hvr.cellAt i (by omega)
    have hv' : i < (valsP ps).length := by simpa [valsP] using hlt
    rw [List.getElem?_map, List.getElem?_eq_getElem hv'] at hcell
    have hcell : w.cell? ⟨g, i, none⟩ = some (.string ⟨((valsP ps)[i]).toArray⟩) := hcell
    have hfz := hvr.frozenAt i
    have i1 : (i : Int) < (cp : Int) := by omega
    have i2 : (i : Int) < (ps.length : Int) := by omega
    have HE := Lib.hid (fun (v : Bs) => set_same (v := v) h hi hb)
    clear hm hkr hvr hb h hi
    go_enter Try.func35, Try.ntmps35
    go_wp2
    refine bodyPost_ret (results_none rfl _ _ _) rfl ?_
    exact ⟨rfl, HE.out v⟩
end Go.Proofs.Ytpaffocniniakaa
