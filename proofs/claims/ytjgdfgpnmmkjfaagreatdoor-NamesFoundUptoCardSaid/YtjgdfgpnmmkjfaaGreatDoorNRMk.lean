/- 'Make' of the reference's tree. -/
import Derived.Test.YtjgdfgpnmmkjfaaGreatDoorNRT
import Derived.Deep.RegionLaw
namespace Go.Proofs.YtjgdfgpnmmkjfaaGreatDoor
set_option linter.unusedVariables false
set_option linter.unusedSimpArgs false
open Go.RowKit Go.MapKept

theorem step_append_one {P : Program} {ops : Array Oper} {o : Oper} {a : Act} {w : World} {K : Act → World → Prop} {Q : Exit → Act → World → Prop} {E : Prop}
    (hg : o.guard = none) (s xo : Operand) (t : TypeId) (hop : o.op = Op.call { callee := Callee.builtin Builtin.append, args := #[s, xo], argTypes := #[t, t] })
    (base : Nat) (e : TypeId) (z : Value) (bytes : Nat) (ht : P.underlying t = some (.slice e)) (hi : (P.info? e).map (fun i => (i.zero, i.size, i.bytes)) = some (some z, 1, bytes)) (hz : z.cells.size = 1)
    (v : Value) (n : Nat) (xs : List Value) (hs : a.eval s = v) (w0 : World) (hown : w0.ownsRow base e 1 v n xs)
    (x : Value) (hw : w = w0.alloc (.cells #[x] e)) (hx : a.eval xo = .slice (some ⟨w0.heap.size, 0, none⟩) 1 1) (hx1 : x.oneCell' = true)
    (hn : n + 1 ≤ maxLen) (hbytes : (n + 1) * bytes ≤ 140737488355328) (hbase : base ≤ w0.heap.size)
    (hK : ∀ g cap w', base ≤ g → w'.ownsRow base e 1 (.slice (some ⟨g, 0, none⟩) (n + 1) cap) (n + 1) (xs ++ [x]) → Kp v.ownBlock.toList w0 w' → (v.ownBlock = some g ∨ w0.heap.size ≤ g) → K (a.put o.dst (.slice (some ⟨g, 0, none⟩) (n + 1) cap)) w') :
    if Region.wanted o (yielded ops a.tmps) = true then Oper.wp P o a w K Q else E := by
  subst hw
  have hwn : Region.wanted o (yielded ops a.tmps) = true := by simp [Region.wanted, hg]
  rw [if_pos hwn]
  obtain ⟨i0, hi0, hz0, hz1, hz2⟩ := info_parts hi
  obtain ⟨v', w', hrun, r1, r2, _, hloc⟩ := run_append_own_at (P := P) (w := w0.alloc (.cells #[x] e)) base t o.type e i0 z 1 bytes ht hi0 hz0 hz1 hz2 hz (by decide) v n xs (hown.alloc (.cells #[x] e)) ⟨w0.heap.size, 0, none⟩ 1 1 [x] rfl (fun j u hj => row_new w0 [x] e j u hj) (fun u hu => by rw [List.mem_singleton.1 hu]; exact hx1) hn hbytes (by simp; omega)
  unfold Oper.wp
  simp [execOp, hop, resolve, invoke, builtin, hs, hx, hrun, Result.andThen]
  have hk : Kp v.ownBlock.toList w0 w' := ((Kp.refl _ w0).alloc _).grown r2 (fun b hb => by rw [hb]; simp)
  rcases r1.2 with ⟨_, h0⟩ | ⟨g, cap, cur, rfl, hg', _⟩
  · omega
  · exact hK g cap w' hg' r1 hk (by rcases hloc with e | e; exact .inl e.symm; exact .inr (by simp [Value.ownBlock] at e; omega))
theorem infoSp : (Tryz.prog.info? 55).map (fun i => (i.zero, i.size, i.bytes)) = some (some (.pointer none), 1, 8) := by kernel_rfl
def rnode (k : Bs) : Obj := .cells #[.string ⟨k.toArray⟩, .slice none 0 0, .slice none 0 0, .string ⟨#[]⟩] 57
/-- A node put behind the others. -/
theorem RTr.push {w w4 : World} {B yb : Nat} {who : Own} {nd : Bs → Option Nat} {S : Bs → Option ND} {l : List Bs} (h : RTr w B yb who nd S l) {k : Bs} (hk : S k = none) {lv : Value} (hcl : w.heap[yb]? = some (.cells #[lv] 60 (0, 0)))
    {g c : Nat} (hkp : Kp lv.ownBlock.toList (w.alloc (rnode k)) w4) (hrow : w4.ownsRow B 55 1 (.slice (some ⟨g, 0, none⟩) (l.length + 1) c) (l.length + 1) ((l.map fun p => ptrN (nd p)) ++ [.pointer (some ⟨w.heap.size, 0, none⟩)]))
    (hg : lv.ownBlock = some g ∨ (w.alloc (rnode k)).heap.size ≤ g) :
    ∃ who', RTr (w4.setCell ⟨yb, 0, none⟩ (.slice (some ⟨g, 0, none⟩) (l.length + 1) c)) B yb who' (setN nd k w.heap.size) (setS S k .new) (l ++ [k]) ∧ Stp who who' w (w4.setCell ⟨yb, 0, none⟩ (.slice (some ⟨g, 0, none⟩) (l.length + 1) c)) := by
  obtain ⟨lv', hcl', hr0, htag⟩ := h.cel
  have elv : lv = lv' := by
    rw [hcl] at hcl'
    simp only [Option.some.injEq, Obj.cells.injEq, and_true] at hcl'
    have := congrArg (fun a => a[0]?) hcl'
    simpa using this
  subst elv
  have hkl : k ∉ l := fun hm => by have := (h.mem k).1 hm; rw [hk] at this; cases this
  have hnk : nd k = none := by
    have := h.same k
    rw [hk] at this
    cases hx : nd k with
    | none => rfl
    | some x => rw [hx] at this; simp at this
  have hyl := h.lt
  have hgl := (row_ids hrow g rfl).2
  have hsz : (w4.setCell ⟨yb, 0, none⟩ (.slice (some ⟨g, 0, none⟩) (l.length + 1) c)).heap.size = w4.heap.size := by simp [World.setCell]
  have hsa : (w.alloc (rnode k)).heap.size = w.heap.size + 1 := by simp
  have hs4 := hkp.size
  rw [hsa] at hs4 hg
  have hset : ∀ j, j ≠ yb → (w4.setCell ⟨yb, 0, none⟩ (.slice (some ⟨g, 0, none⟩) (l.length + 1) c)).heap[j]? = w4.heap[j]? := fun j hj => Below.heap_setCell w4 ⟨yb, 0, none⟩ _ j hj
  have hkeep : ∀ j, j < w.heap.size → j ≠ yb → who j ≠ some (1, []) → (w4.setCell ⟨yb, 0, none⟩ (.slice (some ⟨g, 0, none⟩) (l.length + 1) c)).heap[j]? = w.heap[j]? := fun j hj hne h4 => by
    rw [hset j hne, hkp.block j (by rw [hsa]; omega) (fun hm => h4 (htag j (by simpa using hm)))]
    exact Below.heap_alloc _ _ _ hj
  have hnew : (w4.setCell ⟨yb, 0, none⟩ (.slice (some ⟨g, 0, none⟩) (l.length + 1) c)).heap[w.heap.size]? = some (rnode k) := by
    rw [hset _ (by omega), hkp.block _ (by rw [hsa]; omega) (fun hm => by have := htag w.heap.size (by simpa using hm); have := (h.lo w.heap.size (by rw [this]; simp)).2; omega)]
    exact heap_alloc_new _ _
  have hgy : g ≠ yb := by
    rcases hg with hg | hg
    · rintro rfl; have := htag _ hg; rw [h.wyb] at this; simp at this
    · omega
  have hgb : g ≠ w.heap.size := by
    rcases hg with hg | hg
    · rintro rfl; have := htag _ hg; have := (h.lo w.heap.size (by rw [this]; simp)).2; omega
    · omega
  have hmono : ∀ j t, who j = some t → ((who.set w.heap.size (2, k)).set g (1, [])) j = some t := fun j t hj => by
    have hjl := (h.lo j (by rw [hj]; simp)).2
    by_cases hjg : j = g
    · subst hjg
      rw [Own.set_same]
      rcases hg with hg | hg
      · rw [htag _ hg] at hj; exact hj
      · omega
    · rw [Own.set_other hjg, Own.set_other (by omega)]; exact hj
  have hy4 : w4.heap[yb]? = some (.cells #[lv] 60 (0, 0)) := by
    rw [hkp.block yb (by rw [hsa]; omega) (fun hm => by have := htag yb (by simpa using hm); rw [h.wyb] at this; simp at this), Below.heap_alloc _ _ _ hyl]; exact hcl
  refine ⟨(who.set w.heap.size (2, k)).set g (1, []), ⟨⟨_, heap_setCell_same w4 yb 0 _ _ _ hy4, ?_, fun j hj => ?_⟩, fun q => ?_, ?_, hmono _ _ h.wyb, fun q => ?_, fun q b n hq hS => ?_, fun j hj => ?_⟩, ⟨⟨hkp.os, hkp.tape, hkp.output, by rw [hsz]; omega, fun j hj hn => hkeep j hj (by rintro rfl; rw [h.wyb] at hn; cases hn) (by rw [hn]; simp)⟩, fun j hj => ?_⟩⟩
  · have e : (l ++ [k]).length = l.length + 1 := by simp
    rw [e, List.map_append]
    have e2 : (l.map fun p => ptrN (setN nd k w.heap.size p)) = l.map fun p => ptrN (nd p) := List.map_congr_left fun p hp => by unfold setN; rw [if_neg (by rintro rfl; exact hkl hp)]
    rw [e2]
    have e3 : [k].map (fun p => ptrN (setN nd k w.heap.size p)) = [.pointer (some ⟨w.heap.size, 0, none⟩)] := by simp [setN, ptrN]
    rw [e3]
    refine row_keep hrow (fun j hj => hset j ?_)
    have : g = j := by simpa [Value.ownBlock] using hj
    subst this; exact hgy
  · have : g = j := by simpa [Value.ownBlock] using hj
    subst this; exact Own.set_same _ _ _
  · unfold setS
    by_cases hqk : q = k
    · simp [hqk]
    · rw [if_neg hqk, ← h.mem q]; simp [hqk]
  · exact List.nodup_append.2 ⟨h.nodup, by simp, fun a ha b hb => by simp at hb; subst hb; rintro rfl; exact hkl ha⟩
  · unfold setS setN
    by_cases hqk : q = k
    · rw [if_pos hqk, if_pos hqk]; rfl
    · rw [if_neg hqk, if_neg hqk]; exact h.same q
  · unfold setS at hS
    unfold setN at hq
    by_cases hqk : q = k
    · subst hqk
      rw [if_pos rfl] at hq hS
      cases hq; cases hS
      refine ⟨by rw [Own.set_other (Ne.symm hgb)]; exact Own.set_same _ _ _, _, _, hnew, ⟨?_, .inl ⟨rfl, rfl⟩⟩, fun g hg => by simp [Value.ownBlock] at hg, ⟨?_, .inl ⟨rfl, rfl⟩⟩, fun g hg => by simp [Value.ownBlock] at hg⟩ <;> rfl
    · rw [if_neg hqk] at hq hS
      have hN := h.node q b n hq hS
      have hne : ∀ j t, who j = some t → 2 ≤ t.1 → (w4.setCell ⟨yb, 0, none⟩ (.slice (some ⟨g, 0, none⟩) (l.length + 1) c)).heap[j]? = w.heap[j]? := fun j t hj h2 => hkeep j (h.lo j (by rw [hj]; simp)).2 (by rintro rfl; rw [h.wyb] at hj; cases hj; simp at h2) (fun e => by rw [e] at hj; cases hj; simp at h2)
      exact hN.keep (hne b _ hN.1 (by simp)) (fun j hj => hne j _ hj (by simp)) (fun j hj => hne j _ hj (by simp)) hmono
  · rw [hsz]
    by_cases hjg : j = g
    · subst hjg
      exact ⟨(row_ids hrow j rfl).1, hgl⟩
    · rw [Own.set_other hjg] at hj
      by_cases hjb : j = w.heap.size
      · subst hjb; exact ⟨h.base, by omega⟩
      · rw [Own.set_other hjb] at hj
        have := h.lo j hj
        omega
  · by_cases hjg : j = g
    · subst hjg
      rcases hg with hg | hg
      · rw [Own.set_same, htag _ hg]
      · omega
    · rw [Own.set_other hjg, Own.set_other (by omega)]
end Go.Proofs.YtjgdfgpnmmkjfaaGreatDoor
