/- Trees of namespaces in memory: what each path's node says; who owns which block; what stays. -/
import Derived.Test.YtjgdfgpnmmkjfaaGreatDoorNTree
namespace Go.Proofs.YtjgdfgpnmmkjfaaGreatDoor
set_option linter.unusedVariables false
set_option linter.unusedSimpArgs false
open Go.RowKit Go.MapKept

/-- What a node says. -/
structure ND where
  search : List Bs
  exports : List Bs
  unknown : Bs
def ND.new : ND := ⟨[], [], []⟩
/-- Whose a block is: 0 the tree's, 1 the map's, 2 a node's, 3 a search's, 4 an exports'. -/
abbrev Own := Nat → Option (Nat × Bs)
/-- But for the blocks with an owner all stays. -/
structure Fr (who : Own) (w w' : World) : Prop where
  os : w'.os = w.os
  tape : w'.tape = w.tape
  output : w'.output = w.output
  size : w.heap.size ≤ w'.heap.size
  block : ∀ j, j < w.heap.size → who j = none → w'.heap[j]? = w.heap[j]?
/-- A step of a tree: new blocks have new owners, old ones keep theirs. -/
structure Stp (who who' : Own) (w w' : World) : Prop where
  fr : Fr who w w'
  ext : ∀ j, j < w.heap.size → who' j = who j
theorem Fr.refl (who : Own) (w : World) : Fr who w w := ⟨rfl, rfl, rfl, Nat.le_refl _, fun _ _ _ => rfl⟩
theorem Stp.refl (who : Own) (w : World) : Stp who who w w := ⟨Fr.refl _ _, fun _ _ => rfl⟩
theorem Stp.trans {a b c : Own} {w w1 w2 : World} (h : Stp a b w w1) (k : Stp b c w1 w2) : Stp a c w w2 :=
  ⟨⟨k.fr.os.trans h.fr.os, k.fr.tape.trans h.fr.tape, k.fr.output.trans h.fr.output, Nat.le_trans h.fr.size k.fr.size, fun j hj hn => (k.fr.block j (Nat.lt_of_lt_of_le hj h.fr.size) (by rw [h.ext j hj]; exact hn)).trans (h.fr.block j hj hn)⟩,
   fun j hj => (k.ext j (Nat.lt_of_lt_of_le hj h.fr.size)).trans (h.ext j hj)⟩
theorem Stp.of_below {who : Own} {w w' : World} (h : Below w.heap.size w w') : Stp who who w w' :=
  ⟨⟨h.os, h.tape, h.output, h.size, fun j hj _ => h.block j hj⟩, fun _ _ => rfl⟩
theorem Stp.low {a b : Own} {w w1 w2 : World} (h : Stp a b w w1) (k : Below w1.heap.size w1 w2) : Stp a b w w2 := h.trans (Stp.of_below k)
theorem Stp.below {a b : Own} {w w' : World} {B : Nat} (h : Stp a b w w') (hB : B ≤ w.heap.size) (hlo : ∀ j, a j ≠ none → B ≤ j) : Below B w w' :=
  ⟨h.fr.os, h.fr.tape, h.fr.output, h.fr.size, fun j hj => h.fr.block j (by omega) (by
    cases hc : a j with
    | none => rfl
    | some p => have := hlo j (by rw [hc]; simp); omega)⟩

/-- Block b is the node of path k. -/
def NodeAt (w : World) (B : Nat) (who : Own) (k : Bs) (b : Nat) (n : ND) : Prop :=
  who b = some (2, k) ∧ ∃ vs ve, w.heap[b]? = some (.cells #[vs, ve, .string ⟨n.unknown.toArray⟩] 49 (0, 0)) ∧
    w.ownsRow B 9 1 vs n.search.length (n.search.map sv) ∧ (∀ g, vs.ownBlock = some g → who g = some (3, k)) ∧
    w.ownsRow B 9 1 ve n.exports.length (n.exports.map sv) ∧ (∀ g, ve.ownBlock = some g → who g = some (4, k))
/-- A tree at block tb: its map at m, its nodes' blocks nd. -/
structure Tr (w : World) (B tb m : Nat) (who : Own) (nd : Bs → Option Nat) (S : Bs → Option ND) : Prop where
  tree : TreeAt w tb m nd
  wm : who m = some (1, [])
  wtb : who tb = some (0, [])
  same : ∀ k, (nd k).isSome = (S k).isSome
  node : ∀ k b n, nd k = some b → S k = some n → NodeAt w B who k b n
  lo : ∀ j, who j ≠ none → B ≤ j ∧ j < w.heap.size

theorem row_keep {w w' : World} {B n : Nat} {e : TypeId} {v : Value} {xs : List Value} (h : w.ownsRow B e 1 v n xs) (hk : ∀ g, v.ownBlock = some g → w'.heap[g]? = w.heap[g]?) : w'.ownsRow B e 1 v n xs := by
  refine ⟨h.1, ?_⟩
  rcases h.2 with h0 | ⟨g, cap, cur, rfl, hb, hg, rest⟩
  · exact .inl h0
  · exact .inr ⟨g, cap, cur, rfl, hb, (hk g rfl).trans hg, rest⟩
theorem NodeAt.keep {w w' : World} {B : Nat} {who who' : Own} {k : Bs} {b : Nat} {n : ND} (h : NodeAt w B who k b n) (hb : w'.heap[b]? = w.heap[b]?)
    (hs : ∀ j, who j = some (3, k) → w'.heap[j]? = w.heap[j]?) (he : ∀ j, who j = some (4, k) → w'.heap[j]? = w.heap[j]?) (hw : ∀ j t, who j = some t → who' j = some t) : NodeAt w' B who' k b n := by
  obtain ⟨h1, vs, ve, h2, h3, h4, h5, h6⟩ := h
  exact ⟨hw _ _ h1, vs, ve, hb.trans h2, row_keep h3 (fun g hg => hs g (h4 g hg)), fun g hg => hw _ _ (h4 g hg), row_keep h5 (fun g hg => he g (h6 g hg)), fun g hg => hw _ _ (h6 g hg)⟩
section
variable {w w' : World} {B tb m : Nat} {who who2 who2' : Own} {nd : Bs → Option Nat} {S : Bs → Option ND}
theorem Tr.has (h : Tr w B tb m who nd S) {k : Bs} {b : Nat} (hb : nd k = some b) : ∃ n, S k = some n ∧ NodeAt w B who k b n := by
  have h1 := h.same k
  rw [hb] at h1
  cases hS : S k with
  | none => rw [hS] at h1; simp at h1
  | some n => exact ⟨n, rfl, h.node k b n hb hS⟩
theorem Tr.none_of (h : Tr w B tb m who nd S) {k : Bs} (hb : nd k = none) : S k = none := by
  have h1 := h.same k
  rw [hb] at h1
  cases hS : S k with
  | none => rfl
  | some n => rw [hS] at h1; simp at h1
theorem Tr.of_some (h : Tr w B tb m who nd S) {k : Bs} {n : ND} (hS : S k = some n) : ∃ b, nd k = some b ∧ NodeAt w B who k b n := by
  have h1 := h.same k
  rw [hS] at h1
  cases hb : nd k with
  | none => rw [hb] at h1; simp at h1
  | some b => exact ⟨b, rfl, h.node k b n hb hS⟩
theorem Tr.of_none (h : Tr w B tb m who nd S) {k : Bs} (hS : S k = none) : nd k = none := by
  have h1 := h.same k
  rw [hS] at h1
  cases hb : nd k with
  | none => rfl
  | some b => rw [hb] at h1; simp at h1
/-- What does not touch the tree's blocks keeps it. -/
theorem Tr.keep (h : Tr w B tb m who nd S) (hs : w.heap.size ≤ w'.heap.size) (hk : ∀ j, who j ≠ none → w'.heap[j]? = w.heap[j]?) : Tr w' B tb m who nd S := by
  refine ⟨⟨(hk tb (by rw [h.wtb]; simp)).trans h.tree.cel, h.tree.map.congr (hk m (by rw [h.wm]; simp)), fun k b hb => ?_⟩, h.wm, h.wtb, h.same, fun k b n hb hS => ?_, fun j hj => ⟨(h.lo j hj).1, Nat.lt_of_lt_of_le (h.lo j hj).2 hs⟩⟩
  · obtain ⟨n, _, hN⟩ := h.has hb
    obtain ⟨a, c, d, hc⟩ := h.tree.node k b hb
    exact ⟨a, c, d, (hk b (by rw [hN.1]; simp)).trans hc⟩
  · have hN := h.node k b n hb hS
    exact hN.keep (hk b (by rw [hN.1]; simp)) (fun j hj => hk j (by rw [hj]; simp)) (fun j hj => hk j (by rw [hj]; simp)) (fun _ _ h => h)
theorem Tr.low (h : Tr w B tb m who nd S) (hb : Below w.heap.size w w') : Tr w' B tb m who nd S :=
  h.keep hb.size (fun j hj => hb.block j (h.lo j hj).2)
/-- Another owner's step keeps a tree. -/
theorem Tr.other (h : Tr w B tb m who nd S) (hb : Stp who2 who2' w w') (hd : ∀ j, who j ≠ none → who2 j = none) : Tr w' B tb m who nd S :=
  h.keep hb.fr.size (fun j hj => hb.fr.block j (h.lo j hj).2 (hd j hj))
theorem Tr.lt (h : Tr w B tb m who nd S) : tb < w.heap.size := (h.lo tb (by rw [h.wtb]; simp)).2
theorem Tr.base (h : Tr w B tb m who nd S) : B ≤ w.heap.size := by have := h.lo tb (by rw [h.wtb]; simp); omega
theorem Tr.none_at (h : Tr w B tb m who nd S) {j : Nat} (hj : w.heap.size ≤ j) : who j = none := by
  cases hc : who j with
  | none => rfl
  | some p => have := (h.lo j (by rw [hc]; simp)).2; omega
end
/-- A new block gets an owner. -/
def Own.set (who : Own) (b : Nat) (t : Nat × Bs) : Own := fun j => if j = b then some t else who j
theorem Own.set_same (who : Own) (b : Nat) (t : Nat × Bs) : who.set b t b = some t := if_pos rfl
theorem Own.set_other {who : Own} {b j : Nat} {t : Nat × Bs} (h : j ≠ b) : who.set b t j = who j := if_neg h
theorem own_set_mono {who : Own} {b : Nat} {t : Nat × Bs} (hb : who b = none) : ∀ j u, who j = some u → who.set b t j = some u := by
  intro j u hj
  rw [Own.set_other]
  · exact hj
  · rintro rfl; rw [hb] at hj; cases hj
def setS (S : Bs → Option ND) (k : Bs) (n : ND) : Bs → Option ND := fun k' => if k' = k then some n else S k'
theorem Only.keep {b : Nat} {w w' : World} (h : Only b w w') : Kp [b] w w' := ⟨h.os, h.tape, h.output, Nat.le_of_eq h.size.symm, fun j hj hn => h.block j (by simpa using hn)⟩
def setN (nd : Bs → Option Nat) (k : Bs) (b : Nat) : Bs → Option Nat := fun k' => if k' = k then some b else nd k'
/-- A node put to a tree at a path. -/
theorem Tr.put {w : World} {B tb m : Nat} {who : Own} {nd : Bs → Option Nat} {S : Bs → Option ND} (h : Tr w B tb m who nd S) (k : Bs) (hk : k.length ≤ maxLen) :
    ∃ w', (Instr.mapUpdate 50 (.map (some m)) (.string ⟨k.toArray⟩) (.pointer (some ⟨w.heap.size, 0, none⟩))).run Tryz.prog (w.alloc (.cells #[.slice none 0 0, .slice none 0 0, .string ⟨#[]⟩] 49)) = .ok () w' ∧
      Tr w' B tb m (who.set w.heap.size (2, k)) (setN nd k w.heap.size) (setS S k .new) ∧ Stp who (who.set w.heap.size (2, k)) w w' := by
  have ht := h.tree
  have hm := h.wm
  have hnone : who w.heap.size = none := h.none_at (Nat.le_refl _)
  have hmono := own_set_mono (t := (2, k)) hnone
  have hB : Below w.heap.size w (w.alloc (.cells #[.slice none 0 0, .slice none 0 0, .string ⟨#[]⟩] 49)) := (Below.refl _ w).alloc (Nat.le_refl _) _
  have hml := ht.map.lt
  have htm : tb ≠ m := by
    rintro rfl
    have := h.wtb
    rw [hm] at this; simp at this
  obtain ⟨w3, hup, ho, hma⟩ := (ht.below hB).map.store Skeyed Tryz.underlying50 sv_inj (k := k) (skey hk) (.pointer (some ⟨w.heap.size, 0, none⟩))
  have hn3 := (ho.block w.heap.size (by omega)).trans (heap_alloc_new w (.cells #[.slice none 0 0, .slice none 0 0, .string ⟨#[]⟩] 49))
  have hsz : w3.heap.size = w.heap.size + 1 := by rw [ho.size]; simp
  have hkeep : ∀ j, j ≠ m → j < w.heap.size → w3.heap[j]? = w.heap[j]? := fun j hj hl => (ho.block j hj).trans (hB.block j hl)
  refine ⟨w3, hup, ⟨⟨(hkeep tb htm h.lt).trans ht.cel, ?_, fun q b hq => ?_⟩, hmono _ _ hm, hmono _ _ h.wtb, fun q => ?_, fun q b n hq hS => ?_, fun j hj => ?_⟩, ⟨⟨ho.os, ho.tape, ho.output, by omega, fun j hj hn => ?_⟩, fun j hj => Own.set_other (by omega)⟩⟩
  · have e : (fun k' : Bs => (setN nd k w.heap.size k').map fun b => Value.pointer (some ⟨b, 0, none⟩)) = fun k' => if k' = k then some (Value.pointer (some ⟨w.heap.size, 0, none⟩)) else (nd k').map fun b => Value.pointer (some ⟨b, 0, none⟩) := by
      funext k'
      unfold setN
      by_cases h : k' = k
      · rw [if_pos h, if_pos h]; rfl
      · rw [if_neg h, if_neg h]
    rw [e]
    exact hma
  · unfold setN at hq
    by_cases hqk : q = k
    · rw [if_pos hqk] at hq
      cases hq
      exact ⟨_, _, _, hn3⟩
    · rw [if_neg hqk] at hq
      obtain ⟨a, c, d, hb⟩ := ht.node q b hq
      have hbm : b ≠ m := by
        rintro rfl
        obtain ⟨es, clock, h2, _⟩ := ht.map
        rw [h2] at hb; cases hb
      exact ⟨a, c, d, (hkeep b hbm (Array.getElem?_eq_some_iff.1 hb).1).trans hb⟩
  · unfold setS setN
    by_cases hqk : q = k
    · rw [if_pos hqk, if_pos hqk]; rfl
    · rw [if_neg hqk, if_neg hqk]; exact h.same q
  · unfold setS at hS
    unfold setN at hq
    by_cases hqk : q = k
    · subst hqk
      rw [if_pos rfl] at hq hS
      cases hq; cases hS
      refine ⟨Own.set_same _ _ _, _, _, hn3, ⟨?_, .inl ⟨rfl, rfl⟩⟩, fun g hg => by simp [Value.ownBlock] at hg, ⟨?_, .inl ⟨rfl, rfl⟩⟩, fun g hg => by simp [Value.ownBlock] at hg⟩ <;> rfl
    · rw [if_neg hqk] at hq hS
      have hN := h.node q b n hq hS
      have hne : ∀ j t, who j = some t → t.1 ≠ 1 → j ≠ m ∧ j < w.heap.size := fun j t hj h1 => ⟨by rintro rfl; rw [hm] at hj; cases hj; exact h1 rfl, (h.lo j (by rw [hj]; simp)).2⟩
      exact hN.keep (hkeep b (hne b _ hN.1 (by simp)).1 (hne b _ hN.1 (by simp)).2) (fun j hj => hkeep j (hne j _ hj (by simp)).1 (hne j _ hj (by simp)).2) (fun j hj => hkeep j (hne j _ hj (by simp)).1 (hne j _ hj (by simp)).2) hmono
  · by_cases hjb : j = w.heap.size
    · subst hjb; exact ⟨h.base, by omega⟩
    · rw [Own.set_other hjb] at hj
      have := h.lo j hj
      exact ⟨this.1, by omega⟩
  · exact hkeep j (by rintro rfl; rw [hm] at hn; cases hn) hj
def newS : Bs → Option ND := fun k => if k = rootN then some .new else none
/-- A tree just made. -/
theorem nNew_tr (w : World) : Calls Tryz.prog 8 #[] w fun e w' => ∃ tb m who nd, e = .returned (.pointer (some ⟨tb, 0, none⟩)) ∧ Tr w' w.heap.size tb m who nd newS ∧ Below w.heap.size w w' := by
  refine (nNew_any w).mono ?_
  rintro e w' ⟨tb, m, nb, he, ht, hb, h1, h2, h3, h4⟩
  have htl := (Array.getElem?_eq_some_iff.1 ht.cel).1
  have hnl := (Array.getElem?_eq_some_iff.1 h4).1
  have hml := ht.map.lt
  have n1 : tb ≠ m := by
    rintro rfl
    obtain ⟨es, clock, h2, _⟩ := ht.map
    have hc := ht.cel
    rw [h2] at hc; cases hc
  have n2 : tb ≠ nb := ne_of_type ht.cel h4 (by decide)
  have n3 : m ≠ nb := by
    rintro rfl
    obtain ⟨es, clock, h2, _⟩ := ht.map
    rw [h2] at h4; cases h4
  refine ⟨tb, m, fun j => if j = tb then some (0, []) else if j = m then some (1, []) else if j = nb then some (2, rootN) else none, _, he, ⟨ht, ?_, ?_, fun k => ?_, fun k b n hk hS => ?_, fun j hj => ?_⟩, hb⟩
  · simp only [if_neg (Ne.symm n1), if_pos]
  · simp only [if_pos]
  · unfold newS
    by_cases hk : k = rootN
    · simp only [if_pos hk]; rfl
    · simp only [if_neg hk]; rfl
  · unfold newS at hS
    by_cases hkr : k = rootN
    · subst hkr
      simp only [if_pos] at hk hS
      cases hk; cases hS
      refine ⟨by simp only [if_neg (Ne.symm n2), if_neg (Ne.symm n3), if_pos], _, _, h4, ⟨?_, .inl ⟨rfl, rfl⟩⟩, fun g hg => by simp [Value.ownBlock] at hg, ⟨?_, .inl ⟨rfl, rfl⟩⟩, fun g hg => by simp [Value.ownBlock] at hg⟩ <;> rfl
    · rw [if_neg hkr] at hS
      cases hS
  · by_cases e1 : j = tb
    · omega
    · by_cases e2 : j = m
      · omega
      · by_cases e3 : j = nb
        · omega
        · rw [if_neg e1, if_neg e2, if_neg e3] at hj
          exact absurd rfl hj
theorem TxtRow.fr {w w' : World} {who : Own} {o : Option Addr} {n c : Nat} {ss : List Bs} (h : TxtRow w (.slice o n c) ss) (hn : ∀ a, o = some a → who a.block = none) (hf : Fr who w w') : TxtRow w' (.slice o n c) ss := by
  obtain ⟨o', c', h1, h2, h3, h4⟩ := h
  cases h1
  refine ⟨_, _, rfl, h2, h3, fun i hi => ?_⟩
  obtain ⟨b, off, e, hl, hc⟩ := h4 i hi
  refine ⟨b, off, e, Nat.lt_of_lt_of_le hl hf.size, ?_⟩
  have hb := hf.block b hl (hn _ e)
  simp only [World.cell?, hb] at hc ⊢
  exact hc
theorem TxtRow.take {w : World} {o : Option Addr} {n c : Nat} {ss : List Bs} (h : TxtRow w (.slice o n c) ss) {k : Nat} (hk : k ≤ n) : TxtRow w (.slice o k c) (ss.take k) := by
  obtain ⟨o', c', h1, h2, h3, h4⟩ := h
  cases h1
  have hl : (ss.take k).length = k := by simp; omega
  refine ⟨o, c, by rw [hl], by omega, h3, fun i hi => ?_⟩
  obtain ⟨b, off, e, hl', hc⟩ := h4 i (by omega)
  exact ⟨b, off, e, hl', by rw [hc, List.getElem_take]⟩
theorem TxtRow.nilOr {w : World} {n c : Nat} {o : Option Addr} {B : Nat} {xs : List Value} (h : w.ownsRow B 9 1 (.slice o n c) n xs) : ∀ a, o = some a → B ≤ a.block := by
  intro a ha
  rcases h.2 with ⟨e, _⟩ | ⟨g, cap, cur, e, hb, _⟩
  · cases e; cases ha
  · cases e; cases ha; exact hb
end Go.Proofs.YtjgdfgpnmmkjfaaGreatDoor
