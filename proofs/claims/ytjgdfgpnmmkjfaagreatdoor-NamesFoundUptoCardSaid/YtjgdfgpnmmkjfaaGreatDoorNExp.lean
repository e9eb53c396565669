/- 'Exists', 'SetUnknown', 'Export' of a tree of namespaces. -/
import Derived.Test.YtjgdfgpnmmkjfaaGreatDoorNCat
namespace Go.Proofs.YtjgdfgpnmmkjfaaGreatDoor
set_option linter.unusedVariables false
set_option linter.unusedSimpArgs false
open Go.RowKit Go.MapKept

theorem Exists_any {w : World} {B tb m : Nat} {who : Own} {nd : Bs → Option Nat} {S : Bs → Option ND} (h : Tr w B tb m who nd S) (path : Bs) (hp : path.length ≤ 100000) :
    Calls Tryz.prog 12 #[.pointer (some ⟨tb, 0, none⟩), .string ⟨path.toArray⟩] w fun e w' => e = .returned (.bool (S (canonN rootN path)).isSome) ∧ Below w.heap.size w w' := by
  have A0 := at_any h.tree path hp
  rw [← h.same]
  cases hnd : nd (canonN rootN path) with
  | none =>
    rw [hnd] at A0
    have A1 : Hid (Calls Tryz.prog 32 #[.pointer (some ⟨tb, 0, none⟩), .string ⟨path.toArray⟩] w fun e w' => e = .returned (.pointer none) ∧ Below w.heap.size w w') := A0
    clear h A0 hnd hp
    go_enter Tryz.func12, Tryz.ntmps12
    go_wp2_with (go_at_call 32; refine A1.out.mono ?_; rintro e w2 ⟨rfl, hB⟩; have HB := Lib.hid hB; clear hB)
    go_ret
    exact ⟨rfl, HB.out⟩
  | some b =>
    rw [hnd] at A0
    have A1 : Hid (Calls Tryz.prog 32 #[.pointer (some ⟨tb, 0, none⟩), .string ⟨path.toArray⟩] w fun e w' => e = .returned (.pointer (some ⟨b, 0, none⟩)) ∧ Below w.heap.size w w') := A0
    clear h A0 hnd hp
    go_enter Tryz.func12, Tryz.ntmps12
    go_wp2_with (go_at_call 32; refine A1.out.mono ?_; rintro e w2 ⟨rfl, hB⟩; have HB := Lib.hid hB; clear hB)
    go_ret
    exact ⟨rfl, HB.out⟩
def unkS (S : Bs → Option ND) (path t : Bs) : Int × (Bs → Option ND) :=
  match S (canonN rootN path) with
  | none => (8, S)
  | some n => (0, setS S (canonN rootN path) { n with unknown := t })
section
variable {w w' : World} {B tb m b : Nat} {who who' : Own} {nd : Bs → Option Nat} {S : Bs → Option ND} {k : Bs} {n n' : ND}
theorem Tr.node3 (h : Tr w B tb m who nd S) (hb : nd k = some b) (hS : S k = some n) : ∃ vs ve, w.heap[b]? = some (.cells #[vs, ve, .string ⟨n.unknown.toArray⟩] 49 (0, 0)) ∧ who b = some (2, k) ∧ b < w.heap.size ∧
    w.ownsRow B 9 1 vs n.search.length (n.search.map sv) ∧ (∀ g, vs.ownBlock = some g → who g = some (3, k)) ∧
    w.ownsRow B 9 1 ve n.exports.length (n.exports.map sv) ∧ (∀ g, ve.ownBlock = some g → who g = some (4, k)) := by
  obtain ⟨h1, vs, ve, h2, h3, h4, h5, h6⟩ := h.node k b n hb hS
  exact ⟨vs, ve, h2, h1, (Array.getElem?_eq_some_iff.1 h2).1, h3, h4, h5, h6⟩
theorem Tr.unknown (h : Tr w B tb m who nd S) (hb : nd k = some b) (hS : S k = some n) (t : Bs) :
    Tr (w.setCell ⟨b, 2, none⟩ (.string ⟨t.toArray⟩)) B tb m who nd (setS S k { n with unknown := t }) ∧ Stp who who w (w.setCell ⟨b, 2, none⟩ (.string ⟨t.toArray⟩)) := by
  obtain ⟨vs, ve, hc, hwb, hbl, r1, r2, r3, r4⟩ := h.node3 hb hS
  have hset : ∀ j, j ≠ b → (w.setCell ⟨b, 2, none⟩ (.string ⟨t.toArray⟩)).heap[j]? = w.heap[j]? := fun j hj => Below.heap_setCell w ⟨b, 2, none⟩ _ j hj
  have hsz : (w.setCell ⟨b, 2, none⟩ (.string ⟨t.toArray⟩)).heap.size = w.heap.size := by simp [World.setCell]
  refine ⟨h.setNode hb (Nat.le_of_eq hsz.symm) (fun j u hj ht => hset j ?_) (fun _ _ h => h) ⟨hwb, vs, ve, heap_setCell_same w b 2 _ _ _ hc, row_keep r1 (fun g hg => hset g (by rintro rfl; have := r2 _ hg; rw [hwb] at this; cases this)), r2, row_keep r3 (fun g hg => hset g (by rintro rfl; have := r4 _ hg; rw [hwb] at this; cases this)), r4⟩ (fun j hj => by rw [hsz]; exact h.lo j hj), ⟨⟨rfl, rfl, rfl, Nat.le_of_eq hsz.symm, fun j hj hn => hset j (by rintro rfl; rw [hwb] at hn; cases hn)⟩, fun _ _ => rfl⟩⟩
  rintro rfl
  rw [hwb] at hj
  cases hj
  rcases ht with ht | ht
  · omega
  · exact ht rfl
theorem Tr.cleared (h : Tr w B tb m who nd S) (hb : nd k = some b) (hS : S k = some n) :
    Tr (w.setCell ⟨b, 1, none⟩ (.slice none 0 0)) B tb m who nd (setS S k { n with exports := [] }) ∧ Stp who who w (w.setCell ⟨b, 1, none⟩ (.slice none 0 0)) := by
  obtain ⟨vs, ve, hc, hwb, hbl, r1, r2, r3, r4⟩ := h.node3 hb hS
  have hset : ∀ j, j ≠ b → (w.setCell ⟨b, 1, none⟩ (.slice none 0 0)).heap[j]? = w.heap[j]? := fun j hj => Below.heap_setCell w ⟨b, 1, none⟩ _ j hj
  have hsz : (w.setCell ⟨b, 1, none⟩ (.slice none 0 0)).heap.size = w.heap.size := by simp [World.setCell]
  refine ⟨h.setNode hb (Nat.le_of_eq hsz.symm) (fun j u hj ht => hset j ?_) (fun _ _ h => h) ⟨hwb, vs, .slice none 0 0, heap_setCell_same w b 1 _ _ _ hc, row_keep r1 (fun g hg => hset g (by rintro rfl; have := r2 _ hg; rw [hwb] at this; cases this)), r2, ⟨rfl, .inl ⟨rfl, rfl⟩⟩, fun g hg => by simp [Value.ownBlock] at hg⟩ (fun j hj => by rw [hsz]; exact h.lo j hj), ⟨⟨rfl, rfl, rfl, Nat.le_of_eq hsz.symm, fun j hj hn => hset j (by rintro rfl; rw [hwb] at hn; cases hn)⟩, fun _ _ => rfl⟩⟩
  rintro rfl
  rw [hwb] at hj
  cases hj
  rcases ht with ht | ht
  · omega
  · exact ht rfl
/-- A pattern appended to a node's own row. -/
theorem Tr.pushed {ve : Value} {vs : Value} (h : Tr w B tb m who nd S) (hb : nd k = some b) (hS : S k = some n) (hc : w.heap[b]? = some (.cells #[vs, ve, .string ⟨n.unknown.toArray⟩] 49 (0, 0))) {g c : Nat} {p : Bs}
    (hkp : Kp ve.ownBlock.toList w w') (hrow : w'.ownsRow B 9 1 (.slice (some ⟨g, 0, none⟩) (n.exports.length + 1) c) (n.exports.length + 1) (n.exports.map sv ++ [sv p])) (hg : ve.ownBlock = some g ∨ w.heap.size ≤ g) :
    ∃ who', Tr (w'.setCell ⟨b, 1, none⟩ (.slice (some ⟨g, 0, none⟩) (n.exports.length + 1) c)) B tb m who' nd (setS S k { n with exports := n.exports ++ [p] }) ∧ Stp who who' w (w'.setCell ⟨b, 1, none⟩ (.slice (some ⟨g, 0, none⟩) (n.exports.length + 1) c)) := by
  obtain ⟨vs', ve', hc', hwb, hbl, r1, r2, r3, r4⟩ := h.node3 hb hS
  rw [hc] at hc'
  simp only [Option.some.injEq, Obj.cells.injEq, and_true] at hc'
  have e1 : vs = vs' := by have := congrArg (fun a => a[0]?) hc'; simpa using this
  have e2 : ve = ve' := by have := congrArg (fun a => a[1]?) hc'; simpa using this
  subst e1 e2
  have hgl := (row_ids hrow g rfl).2
  have hgb : g ≠ b := by
    rcases hg with hg | hg
    · rintro rfl; have := r4 _ hg; rw [hwb] at this; cases this
    · omega
  have hset : ∀ j, j ≠ b → (w'.setCell ⟨b, 1, none⟩ (.slice (some ⟨g, 0, none⟩) (n.exports.length + 1) c)).heap[j]? = w'.heap[j]? := fun j hj => Below.heap_setCell w' ⟨b, 1, none⟩ _ j hj
  have hsz : (w'.setCell ⟨b, 1, none⟩ (.slice (some ⟨g, 0, none⟩) (n.exports.length + 1) c)).heap.size = w'.heap.size := by simp [World.setCell]
  have hkeep : ∀ j, j < w.heap.size → j ≠ b → who j ≠ some (4, k) → (w'.setCell ⟨b, 1, none⟩ (.slice (some ⟨g, 0, none⟩) (n.exports.length + 1) c)).heap[j]? = w.heap[j]? := fun j hj hne h4 => by
    rw [hset j hne]
    refine hkp.block j hj (fun hm => h4 ?_)
    exact r4 j (by simpa using hm)
  have hmono : ∀ j t, who j = some t → who.set g (4, k) j = some t := fun j t hj => by
    by_cases hjg : j = g
    · subst hjg
      rw [Own.set_same]
      rcases hg with hg | hg
      · rw [r4 _ hg] at hj; exact hj
      · have := (h.lo j (by rw [hj]; simp)).2; omega
    · rw [Own.set_other hjg]; exact hj
  have hbw : w'.heap[b]? = some (.cells #[vs, ve, .string ⟨n.unknown.toArray⟩] 49 (0, 0)) := by
    rw [hkp.block b hbl (fun hm => by have := r4 b (by simpa using hm); rw [hwb] at this; cases this)]; exact hc
  refine ⟨who.set g (4, k), h.setNode hb (by rw [hsz]; exact hkp.size) (fun j t hj ht => hkeep j (h.lo j (by rw [hj]; simp)).2 ?_ ?_) hmono ⟨hmono _ _ hwb, vs, _, heap_setCell_same w' b 1 _ _ _ hbw, row_keep r1 (fun j hj => hkeep j ?_ ?_ ?_), fun j hj => hmono _ _ (r2 j hj), ?_, fun j hj => ?_⟩ (fun j hj => ?_), ⟨⟨hkp.os, hkp.tape, hkp.output, by rw [hsz]; exact hkp.size, fun j hj hn => hkeep j hj (by rintro rfl; rw [hwb] at hn; cases hn) (by rw [hn]; simp)⟩, fun j hj => ?_⟩⟩
  · rintro rfl
    rw [hwb] at hj; cases hj
    rcases ht with ht | ht
    · omega
    · exact ht rfl
  · intro h4
    rw [h4] at hj; cases hj
    rcases ht with ht | ht
    · omega
    · exact ht rfl
  · exact (h.lo j (by rw [r2 j hj]; simp)).2
  · rintro rfl; have := r2 _ hj; rw [hwb] at this; cases this
  · rw [r2 j hj]; simp
  · have e : (n.exports ++ [p]).length = n.exports.length + 1 := by simp
    show World.ownsRow _ _ _ _ _ _ _
    rw [e, List.map_append]
    refine row_keep hrow (fun j hj => hset j ?_)
    have : g = j := by simpa [Value.ownBlock] using hj
    subst this; exact hgb
  · have : g = j := by simpa [Value.ownBlock] using hj
    subst this; exact Own.set_same _ _ _
  · by_cases hjg : j = g
    · subst hjg
      rw [hsz]
      exact ⟨(row_ids hrow j rfl).1, hgl⟩
    · rw [Own.set_other hjg] at hj
      have := h.lo j hj
      rw [hsz]
      exact ⟨this.1, Nat.lt_of_lt_of_le this.2 hkp.size⟩
  · by_cases hjg : j = g
    · subst hjg
      rcases hg with hg | hg
      · rw [Own.set_same, r4 _ hg]
      · omega
    · exact Own.set_other hjg
end
set_option maxHeartbeats 800000 in
theorem SetUnknown_any {w : World} {B tb m : Nat} {who : Own} {nd : Bs → Option Nat} {S : Bs → Option ND} (h : Tr w B tb m who nd S) (path t : Bs) (hp : path.length ≤ 100000) :
    Calls Tryz.prog 29 #[.pointer (some ⟨tb, 0, none⟩), .string ⟨path.toArray⟩, .string ⟨t.toArray⟩] w fun e w' => e = .returned (.int .i64 (unkS S path t).1) ∧ ∃ who' nd', Tr w' B tb m who' nd' (unkS S path t).2 ∧ Stp who who' w w' := by
  have A0 := at_any h.tree path hp
  unfold unkS
  cases hnd : nd (canonN rootN path) with
  | none =>
    rw [h.none_of hnd]
    rw [hnd] at A0
    have A1 : Hid (Calls Tryz.prog 32 #[.pointer (some ⟨tb, 0, none⟩), .string ⟨path.toArray⟩] w fun e w' => e = .returned (.pointer none) ∧ Below w.heap.size w w') := A0
    have H := Lib.hid h
    clear h A0 hnd hp
    go_enter Tryz.func29, Tryz.ntmps29
    go_wp2_with (go_at_call 32; refine A1.out.mono ?_; rintro e w2 ⟨rfl, hB⟩; have HB := Lib.hid hB; clear hB)
    go_ret
    exact ⟨rfl, who, nd, H.out.low HB.out, Stp.of_below HB.out⟩
  | some b =>
    obtain ⟨n, hS, _⟩ := h.has hnd
    rw [hS]
    rw [hnd] at A0
    have A1 : Hid (Calls Tryz.prog 32 #[.pointer (some ⟨tb, 0, none⟩), .string ⟨path.toArray⟩] w fun e w' => e = .returned (.pointer (some ⟨b, 0, none⟩)) ∧ Below w.heap.size w w') := A0
    have H := Lib.hid (And.intro h (And.intro hnd hS))
    clear h A0 hnd hS hp
    go_enter Tryz.func29, Tryz.ntmps29
    go_wp2_with (go_at_call 32; refine A1.out.mono ?_; rintro e w2 ⟨rfl, hB⟩; obtain ⟨vs, ve, hcn, _⟩ := (H.out.1.low hB).node3 H.out.2.1 H.out.2.2; obtain ⟨_, _, c2, hf⟩ := vcells3 hcn; have hf2 := hf 2; have HU := Lib.hid ((H.out.1.low hB).unknown H.out.2.1 H.out.2.2 t); have HB := Lib.hid hB; clear hB hf hcn)
    go_ret
    exact ⟨rfl, who, nd, HU.out.1, (Stp.of_below HB.out).trans HU.out.2⟩
end Go.Proofs.YtjgdfgpnmmkjfaaGreatDoor
