/- NamesPaths: trees: 'New'. Trees of namespaces in memory: what each path's node says; who owns which block; what stays. 'Make' of a tree of namespaces. 'SetSearch' of a tree of namespaces. -/
import Derived.Test.YtjgdfgpnmmkjfaaGreatDoorNRef2
import Derived.Deep.RegionHeld3
import Derived.Deep.RegionWith
namespace Go.Proofs.YtjgdfgpnmmkjfaaGreatDoor
set_option linter.unusedVariables false
set_option linter.unusedSimpArgs false
open Go.RowKit Go.MapKept

/-- A tree at block tb, its map at m: what node each path has. -/
structure TreeAt (w : World) (tb m : Nat) (nd : Bs → Option Nat) : Prop where
  cel : w.heap[tb]? = some (.cells #[.map (some m)] 52 (0, 0))
  map : MapAt Tryz.prog 9 sv w m (fun k => (nd k).map fun b => .pointer (some ⟨b, 0, none⟩))
  node : ∀ k b, nd k = some b → ∃ a c d, w.heap[b]? = some (.cells #[a, c, d] 49 (0, 0))
theorem nNew_any (w : World) : Calls Tryz.prog 8 #[] w fun e w' => ∃ tb m nb, e = .returned (.pointer (some ⟨tb, 0, none⟩)) ∧ TreeAt w' tb m (fun k => if k = rootN then some nb else none) ∧ Below w.heap.size w w' ∧ w.heap.size ≤ tb ∧ w.heap.size ≤ m ∧ w.heap.size ≤ nb ∧ w'.heap[nb]? = some (.cells #[.slice none 0 0, .slice none 0 0, .string ⟨#[]⟩] 49 (0, 0)) := by
  have hmk := fun W : World => run_makeMap (P := Tryz.prog) (w := W) 50
  have hm0 := (mapAt_new Tryz.prog 9 sv w).congr (w' := (w.alloc (.map #[] 0)).alloc (.cells #[.slice none 0 0, .slice none 0 0, .string ⟨#[]⟩] 49)) (Below.heap_alloc _ _ _ (by simp))
  have hn0 := heap_alloc_new (w.alloc (.map #[] 0)) (.cells #[.slice none 0 0, .slice none 0 0, .string ⟨#[]⟩] 49)
  simp only [World.size_alloc] at hn0
  obtain ⟨w3, hup, ho, hma⟩ := hm0.store Skeyed Tryz.underlying50 sv_inj (k := [58, 58]) (skey (by decide)) (.pointer (some ⟨w.heap.size + 1, 0, none⟩))
  rw [show sv [58, 58] = (Value.string ⟨#[58, 58]⟩) from rfl] at hup
  have HO := Lib.hid (And.intro ho (And.intro hma hn0))
  clear hm0 ho hma hn0
  go_enter Tryz.func8, Tryz.ntmps8
  go_wp2
  go_ret
  obtain ⟨ho, hma, hn0⟩ := HO.out
  have hs3 : w3.heap.size = w.heap.size + 1 + 1 := by rw [ho.size]; simp
  have hn3 := (ho.block (w.heap.size + 1) (by omega)).trans hn0
  have hb3 : Below w.heap.size w w3 := (((Below.refl _ w).alloc (Nat.le_refl _) _).alloc (by simp) _).trans ⟨ho.os, ho.tape, ho.output, Nat.le_of_eq ho.size.symm, fun j hj => ho.block j (by omega)⟩
  refine ⟨_, w.heap.size, w.heap.size + 1, rfl, ⟨heap_alloc_new w3 _, ?_, fun k b hk => ?_⟩, hb3.alloc hb3.size _, by omega, Nat.le_refl _, by omega, (Below.heap_alloc _ _ _ (by omega)).trans hn3⟩
  · have h := hma.congr (w' := w3.alloc (.cells #[.map (some w.heap.size)] 52)) (Below.heap_alloc _ _ _ (by omega))
    have e : (fun k : Bs => ((if k = rootN then some (w.heap.size + 1) else none : Option Nat)).map fun b => Value.pointer (some ⟨b, 0, none⟩)) = fun k' => if k' = [58, 58] then some (Value.pointer (some ⟨w.heap.size + 1, 0, none⟩)) else none := by
      funext k
      by_cases h : k = [58, 58]
      · rw [if_pos h, if_pos (show k = rootN from h)]; rfl
      · rw [if_neg h, if_neg (show ¬ k = rootN from h)]; rfl
    rw [e]
    exact h
  · by_cases h : k = rootN
    · simp only [if_pos h] at hk
      cases hk
      exact ⟨_, _, _, (Below.heap_alloc _ _ _ (by omega)).trans hn3⟩
    · simp only [if_neg h] at hk
      cases hk
theorem TreeAt.below {w w' : World} {tb m : Nat} {nd : Bs → Option Nat} (h : TreeAt w tb m nd) (k : Below w.heap.size w w') : TreeAt w' tb m nd :=
  ⟨(k.block tb (Array.getElem?_eq_some_iff.1 h.cel).1).trans h.cel, h.map.congr (k.block m h.map.lt), fun q b hq => by
    obtain ⟨a, c, d, hb⟩ := h.node q b hq
    exact ⟨a, c, d, (k.block b (Array.getElem?_eq_some_iff.1 hb).1).trans hb⟩⟩
def ptrN (o : Option Nat) : Value := .pointer (o.map fun b => ⟨b, 0, none⟩)
theorem zero_node (w : World) : (zeroValue 47).run Tryz.prog w = .ok (.pointer none) w := by kernel_rfl
theorem TreeAt.look {w : World} {tb m : Nat} {nd : Bs → Option Nat} (h : TreeAt w tb m nd) {k : Bs} (hk : k.length ≤ maxLen) :
    (Instr.lookup 50 (.map (some m)) (.string ⟨k.toArray⟩) false).run Tryz.prog w = .ok (ptrN (nd k)) w := by
  have hl := h.map.look Skeyed (t := 50) (et := 47) Tryz.underlying50 (z := .pointer none) (zero_node w) (skey hk)
  rw [show sv k = (Value.string ⟨k.toArray⟩) from rfl] at hl
  rw [hl]
  cases nd k <;> rfl
theorem canon_len (path : Bs) (hp : path.length ≤ 100000) : (canonN rootN path).length ≤ 1000000 := by
  rw [canon_root]
  have h1 := join_w (partsN path)
  have h2 := parts_w path
  unfold canN
  simp only [List.length_cons]
  omega
set_option maxHeartbeats 800000 in
theorem at_any {w : World} {tb m : Nat} {nd : Bs → Option Nat} (h : TreeAt w tb m nd) (path : Bs) (hp : path.length ≤ 100000) :
    Calls Tryz.prog 32 #[.pointer (some ⟨tb, 0, none⟩), .string ⟨path.toArray⟩] w fun e w' => e = .returned (ptrN (nd (canonN rootN path))) ∧ Below w.heap.size w w' := by
  have hql := canon_len path hp
  have htb : tb < w.heap.size := (Array.getElem?_eq_some_iff.1 h.cel).1
  have CA : Hid (∀ W, Calls Tryz.prog 19 #[.string ⟨#[58, 58]⟩, .string ⟨path.toArray⟩] W fun e w' => e = .returned (.string ⟨(canonN rootN path).toArray⟩) ∧ Below W.heap.size W w') := fun W => Canonical_any rootN path (by decide) hp W
  obtain ⟨q, hq⟩ : ∃ q, q = canonN rootN path := ⟨_, rfl⟩
  rw [← hq] at CA hql ⊢
  have HL : Hid (∀ W, Below w.heap.size w W → W.cell? ⟨tb, 0, none⟩ = some (.map (some m)) ∧ (Instr.lookup 50 (.map (some m)) (.string ⟨q.toArray⟩) false).run Tryz.prog W = .ok (ptrN (nd q)) W) := fun W hB => ⟨(vcells1 (h.below hB).cel).1, (h.below hB).look (by unfold maxLen; omega)⟩
  obtain ⟨c0, _⟩ := vcells1 h.cel
  generalize ptrN (nd q) = r at *
  clear h hq hp hql
  go_enter Tryz.func32, Tryz.ntmps32
  go_wp2_with fail
  go_region_held3 (fun w' => w'.cell? ⟨tb, 0, none⟩ = some (.map (some m))) (first | go_keep | (exact (HL.out _ hbx).1)) ((go_at_call 19; refine (CA.out _).mono ?_; rintro e w4 ⟨rfl, hbx0⟩; have hbx := ((Below.refl w.heap.size w).drew).trans hbx0; have hl1 := (HL.out _ hbx).2; clear hbx0))
  go_wp2_with fail
  go_ret
  exact ⟨rfl, hbx⟩
end Go.Proofs.YtjgdfgpnmmkjfaaGreatDoor
namespace Go.Proofs.YtjgdfgpnmmkjfaaGreatDoor
set_option linter.unusedVariables false
set_option linter.unusedSimpArgs false
open Go.RowKit Go.MapKept

/-- What a node says. -/
structure ND where
  search : List Bs
  exports : List Bs
  unknown : Bs
def ND.new : ND := ⟨[], [], []⟩
/-- Whose a block is: 0 the tree's, 1 the map's, 2 a node's, 3 a search's, 4 an exports'. -/
abbrev Own := Nat → Option (Nat × Bs)
/-- But for the blocks with an owner all stays. -/
structure Fr (who : Own) (w w' : World) : Prop where
  os : w'.os = w.os
  tape : w'.tape = w.tape
  output : w'.output = w.output
  size : w.heap.size ≤ w'.heap.size
  block : ∀ j, j < w.heap.size → who j = none → w'.heap[j]? = w.heap[j]?
/-- A step of a tree: new blocks have new owners, old ones keep theirs. -/
structure Stp (who who' : Own) (w w' : World) : Prop where
  fr : Fr who w w'
  ext : ∀ j, j < w.heap.size → who' j = who j
theorem Fr.refl (who : Own) (w : World) : Fr who w w := ⟨rfl, rfl, rfl, Nat.le_refl _, fun _ _ _ => rfl⟩
theorem Stp.refl (who : Own) (w : World) : Stp who who w w := ⟨Fr.refl _ _, fun _ _ => rfl⟩
theorem Stp.trans {a b c : Own} {w w1 w2 : World} (h : Stp a b w w1) (k : Stp b c w1 w2) : Stp a c w w2 :=
  ⟨⟨k.fr.os.trans h.fr.os, k.fr.tape.trans h.fr.tape, k.fr.output.trans h.fr.output, Nat.le_trans h.fr.size k.fr.size, fun j hj hn => (k.fr.block j (Nat.lt_of_lt_of_le hj h.fr.size) (by rw [h.ext j hj]; exact hn)).trans (h.fr.block j hj hn)⟩,
   fun j hj => (k.ext j (Nat.lt_of_lt_of_le hj h.fr.size)).trans (h.ext j hj)⟩
theorem Stp.of_below {who : Own} {w w' : World} (h : Below w.heap.size w w') : Stp who who w w' :=
  ⟨⟨h.os, h.tape, h.output, h.size, fun j hj _ => h.block j hj⟩, fun _ _ => rfl⟩
theorem Stp.low {a b : Own} {w w1 w2 : World} (h : Stp a b w w1) (k : Below w1.heap.size w1 w2) : Stp a b w w2 := h.trans (Stp.of_below k)
theorem Stp.below {a b : Own} {w w' : World} {B : Nat} (h : Stp a b w w') (hB : B ≤ w.heap.size) (hlo : ∀ j, a j ≠ none → B ≤ j) : Below B w w' :=
  ⟨h.fr.os, h.fr.tape, h.fr.output, h.fr.size, fun j hj => h.fr.block j (by omega) (by
    cases hc : a j with
    | none => rfl
    | some p => have := hlo j (by rw [hc]; simp); omega)⟩

/-- Block b is the node of path k. -/
def NodeAt (w : World) (B : Nat) (who : Own) (k : Bs) (b : Nat) (n : ND) : Prop :=
  who b = some (2, k) ∧ ∃ vs ve, w.heap[b]? = some (.cells #[vs, ve, .string ⟨n.unknown.toArray⟩] 49 (0, 0)) ∧
    w.ownsRow B 9 1 vs n.search.length (n.search.map sv) ∧ (∀ g, vs.ownBlock = some g → who g = some (3, k)) ∧
    w.ownsRow B 9 1 ve n.exports.length (n.exports.map sv) ∧ (∀ g, ve.ownBlock = some g → who g = some (4, k))
/-- A tree at block tb: its map at m, its nodes' blocks nd. -/
structure Tr (w : World) (B tb m : Nat) (who : Own) (nd : Bs → Option Nat) (S : Bs → Option ND) : Prop where
  tree : TreeAt w tb m nd
  wm : who m = some (1, [])
  wtb : who tb = some (0, [])
  same : ∀ k, (nd k).isSome = (S k).isSome
  node : ∀ k b n, nd k = some b → S k = some n → NodeAt w B who k b n
  lo : ∀ j, who j ≠ none → B ≤ j ∧ j < w.heap.size

theorem row_keep {w w' : World} {B n : Nat} {e : TypeId} {v : Value} {xs : List Value} (h : w.ownsRow B e 1 v n xs) (hk : ∀ g, v.ownBlock = some g → w'.heap[g]? = w.heap[g]?) : w'.ownsRow B e 1 v n xs := by
  refine ⟨h.1, ?_⟩
  rcases h.2 with h0 | ⟨g, cap, cur, rfl, hb, hg, rest⟩
  · exact .inl h0
  · exact .inr ⟨g, cap, cur, rfl, hb, (hk g rfl).trans hg, rest⟩
theorem NodeAt.keep {w w' : World} {B : Nat} {who who' : Own} {k : Bs} {b : Nat} {n : ND} (h : NodeAt w B who k b n) (hb : w'.heap[b]? = w.heap[b]?)
    (hs : ∀ j, who j = some (3, k) → w'.heap[j]? = w.heap[j]?) (he : ∀ j, who j = some (4, k) → w'.heap[j]? = w.heap[j]?) (hw : ∀ j t, who j = some t → who' j = some t) : NodeAt w' B who' k b n := by
  obtain ⟨h1, vs, ve, h2, h3, h4, h5, h6⟩ := h
  exact ⟨hw _ _ h1, vs, ve, hb.trans h2, row_keep h3 (fun g hg => hs g (h4 g hg)), fun g hg => hw _ _ (h4 g hg), row_keep h5 (fun g hg => he g (h6 g hg)), fun g hg => hw _ _ (h6 g hg)⟩
section
variable {w w' : World} {B tb m : Nat} {who who2 who2' : Own} {nd : Bs → Option Nat} {S : Bs → Option ND}
theorem Tr.has (h : Tr w B tb m who nd S) {k : Bs} {b : Nat} (hb : nd k = some b) : ∃ n, S k = some n ∧ NodeAt w B who k b n := by
  have h1 := h.same k
  rw [hb] at h1
  cases hS : S k with
  | none => rw [hS] at h1; simp at h1
  | some n => exact ⟨n, rfl, h.node k b n hb hS⟩
theorem Tr.none_of (h : Tr w B tb m who nd S) {k : Bs} (hb : nd k = none) : S k = none := by
  have h1 := h.same k
  rw [hb] at h1
  cases hS : S k with
  | none => rfl
  | some n => rw [hS] at h1; simp at h1
theorem Tr.of_some (h : Tr w B tb m who nd S) {k : Bs} {n : ND} (hS : S k = some n) : ∃ b, nd k = some b ∧ NodeAt w B who k b n := by
  have h1 := h.same k
  rw [hS] at h1
  cases hb : nd k with
  | none => rw [hb] at h1; simp at h1
  | some b => exact ⟨b, rfl, h.node k b n hb hS⟩
theorem Tr.of_none (h : Tr w B tb m who nd S) {k : Bs} (hS : S k = none) : nd k = none := by
  have h1 := h.same k
  rw [hS] at h1
  cases hb : nd k with
  | none => rfl
  | some b => rw [hb] at h1; simp at h1
/-- What does not touch the tree's blocks keeps it. -/
theorem Tr.keep (h : Tr w B tb m who nd S) (hs : w.heap.size ≤ w'.heap.size) (hk : ∀ j, who j ≠ none → w'.heap[j]? = w.heap[j]?) : Tr w' B tb m who nd S := by
  refine ⟨⟨(hk tb (by rw [h.wtb]; simp)).trans h.tree.cel, h.tree.map.congr (hk m (by rw [h.wm]; simp)), fun k b hb => ?_⟩, h.wm, h.wtb, h.same, fun k b n hb hS => ?_, fun j hj => ⟨(h.lo j hj).1, Nat.lt_of_lt_of_le (h.lo j hj).2 hs⟩⟩
  · obtain ⟨n, _, hN⟩ := h.has hb
    obtain ⟨a, c, d, hc⟩ := h.tree.node k b hb
    exact ⟨a, c, d, (hk b (by rw [hN.1]; simp)).trans hc⟩
  · have hN := h.node k b n hb hS
    exact hN.keep (hk b (by rw [hN.1]; simp)) (fun j hj => hk j (by rw [hj]; simp)) (fun j hj => hk j (by rw [hj]; simp)) (fun _ _ h => h)
theorem Tr.low (h : Tr w B tb m who nd S) (hb : Below w.heap.size w w') : Tr w' B tb m who nd S :=
  h.keep hb.size (fun j hj => hb.block j (h.lo j hj).2)
/-- Another owner's step keeps a tree. -/
theorem Tr.other (h : Tr w B tb m who nd S) (hb : Stp who2 who2' w w') (hd : ∀ j, who j ≠ none → who2 j = none) : Tr w' B tb m who nd S :=
  h.keep hb.fr.size (fun j hj => hb.fr.block j (h.lo j hj).2 (hd j hj))
theorem Tr.lt (h : Tr w B tb m who nd S) : tb < w.heap.size := (h.lo tb (by rw [h.wtb]; simp)).2
theorem Tr.base (h : Tr w B tb m who nd S) : B ≤ w.heap.size := by have := h.lo tb (by rw [h.wtb]; simp); omega
theorem Tr.none_at (h : Tr w B tb m who nd S) {j : Nat} (hj : w.heap.size ≤ j) : who j = none := by
  cases hc : who j with
  | none => rfl
  | some p => have := (h.lo j (by rw [hc]; simp)).2; omega
end
/-- A new block gets an owner. -/
def Own.set (who : Own) (b : Nat) (t : Nat × Bs) : Own := fun j => if j = b then some t else who j
theorem Own.set_same (who : Own) (b : Nat) (t : Nat × Bs) : who.set b t b = some t := if_pos rfl
theorem Own.set_other {who : Own} {b j : Nat} {t : Nat × Bs} (h : j ≠ b) : who.set b t j = who j := if_neg h
theorem own_set_mono {who : Own} {b : Nat} {t : Nat × Bs} (hb : who b = none) : ∀ j u, who j = some u → who.set b t j = some u := by
  intro j u hj
  rw [Own.set_other]
  · exact hj
  · rintro rfl; rw [hb] at hj; cases hj
def setS (S : Bs → Option ND) (k : Bs) (n : ND) : Bs → Option ND := fun k' => if k' = k then some n else S k'
theorem Only.keep {b : Nat} {w w' : World} (h : Only b w w') : Kp [b] w w' := ⟨h.os, h.tape, h.output, Nat.le_of_eq h.size.symm, fun j hj hn => h.block j (by simpa using hn)⟩
def setN (nd : Bs → Option Nat) (k : Bs) (b : Nat) : Bs → Option Nat := fun k' => if k' = k then some b else nd k'
/-- A node put to a tree at a path. -/
theorem Tr.put {w : World} {B tb m : Nat} {who : Own} {nd : Bs → Option Nat} {S : Bs → Option ND} (h : Tr w B tb m who nd S) (k : Bs) (hk : k.length ≤ maxLen) :
    ∃ w', (Instr.mapUpdate 50 (.map (some m)) (.string ⟨k.toArray⟩) (.pointer (some ⟨w.heap.size, 0, none⟩))).run Tryz.prog (w.alloc (.cells #[.slice none 0 0, .slice none 0 0, .string ⟨#[]⟩] 49)) = .ok () w' ∧
      Tr w' B tb m (who.set w.heap.size (2, k)) (setN nd k w.heap.size) (setS S k .new) ∧ Stp who (who.set w.heap.size (2, k)) w w' := by
  have ht := h.tree
  have hm := h.wm
  have hnone : who w.heap.size = none := h.none_at (Nat.le_refl _)
  have hmono := own_set_mono (t := (2, k)) hnone
  have hB : Below w.heap.size w (w.alloc (.cells #[.slice none 0 0, .slice none 0 0, .string ⟨#[]⟩] 49)) := (Below.refl _ w).alloc (Nat.le_refl _) _
  have hml := ht.map.lt
  have htm : tb ≠ m := by
    rintro rfl
    have := h.wtb
    rw [hm] at this; simp at this
  obtain ⟨w3, hup, ho, hma⟩ := (ht.below hB).map.store Skeyed Tryz.underlying50 sv_inj (k := k) (skey hk) (.pointer (some ⟨w.heap.size, 0, none⟩))
  have hn3 := (ho.block w.heap.size (by omega)).trans (heap_alloc_new w (.cells #[.slice none 0 0, .slice none 0 0, .string ⟨#[]⟩] 49))
  have hsz : w3.heap.size = w.heap.size + 1 := by rw [ho.size]; simp
  have hkeep : ∀ j, j ≠ m → j < w.heap.size → w3.heap[j]? = w.heap[j]? := fun j hj hl => (ho.block j hj).trans (hB.block j hl)
  refine ⟨w3, hup, ⟨⟨(hkeep tb htm h.lt).trans ht.cel, ?_, fun q b hq => ?_⟩, hmono _ _ hm, hmono _ _ h.wtb, fun q => ?_, fun q b n hq hS => ?_, fun j hj => ?_⟩, ⟨⟨ho.os, ho.tape, ho.output, by omega, fun j hj hn => ?_⟩, fun j hj => Own.set_other (by omega)⟩⟩
  · have e : (fun k' : Bs => (setN nd k w.heap.size k').map fun b => Value.pointer (some ⟨b, 0, none⟩)) = fun k' => if k' = k then some (Value.pointer (some ⟨w.heap.size, 0, none⟩)) else (nd k').map fun b => Value.pointer (some ⟨b, 0, none⟩) := by
      funext k'
      unfold setN
      by_cases h : k' = k
      · rw [if_pos h, if_pos h]; rfl
      · rw [if_neg h, if_neg h]
    rw [e]
    exact hma
  · unfold setN at hq
    by_cases hqk : q = k
    · rw [if_pos hqk] at hq
      cases hq
      exact ⟨_, _, _, hn3⟩
    · rw [if_neg hqk] at hq
      obtain ⟨a, c, d, hb⟩ := ht.node q b hq
      have hbm : b ≠ m := by
        rintro rfl
        obtain ⟨es, clock, h2, _⟩ := ht.map
        rw [h2] at hb; cases hb
      exact ⟨a, c, d, (hkeep b hbm (Array.getElem?_eq_some_iff.1 hb).1).trans hb⟩
  · unfold setS setN
    by_cases hqk : q = k
    · rw [if_pos hqk, if_pos hqk]; rfl
    · rw [if_neg hqk, if_neg hqk]; exact h.same q
  · unfold setS at hS
    unfold setN at hq
    by_cases hqk : q = k
    · subst hqk
      rw [if_pos rfl] at hq hS
      cases hq; cases hS
      refine ⟨Own.set_same _ _ _, _, _, hn3, ⟨?_, .inl ⟨rfl, rfl⟩⟩, fun g hg => by simp [Value.ownBlock] at hg, ⟨?_, .inl ⟨rfl, rfl⟩⟩, fun g hg => by simp [Value.ownBlock] at hg⟩ <;> rfl
    · rw [if_neg hqk] at hq hS
      have hN := h.node q b n hq hS
      have hne : ∀ j t, who j = some t → t.1 ≠ 1 → j ≠ m ∧ j < w.heap.size := fun j t hj h1 => ⟨by rintro rfl; rw [hm] at hj; cases hj; exact h1 rfl, (h.lo j (by rw [hj]; simp)).2⟩
      exact hN.keep (hkeep b (hne b _ hN.1 (by simp)).1 (hne b _ hN.1 (by simp)).2) (fun j hj => hkeep j (hne j _ hj (by simp)).1 (hne j _ hj (by simp)).2) (fun j hj => hkeep j (hne j _ hj (by simp)).1 (hne j _ hj (by simp)).2) hmono
  · by_cases hjb : j = w.heap.size
    · subst hjb; exact ⟨h.base, by omega⟩
    · rw [Own.set_other hjb] at hj
      have := h.lo j hj
      exact ⟨this.1, by omega⟩
  · exact hkeep j (by rintro rfl; rw [hm] at hn; cases hn) hj
def newS : Bs → Option ND := fun k => if k = rootN then some .new else none
/-- A tree just made. -/
theorem nNew_tr (w : World) : Calls Tryz.prog 8 #[] w fun e w' => ∃ tb m who nd, e = .returned (.pointer (some ⟨tb, 0, none⟩)) ∧ Tr w' w.heap.size tb m who nd newS ∧ Below w.heap.size w w' := by
  refine (nNew_any w).mono ?_
  rintro e w' ⟨tb, m, nb, he, ht, hb, h1, h2, h3, h4⟩
  have htl := (Array.getElem?_eq_some_iff.1 ht.cel).1
  have hnl := (Array.getElem?_eq_some_iff.1 h4).1
  have hml := ht.map.lt
  have n1 : tb ≠ m := by
    rintro rfl
    obtain ⟨es, clock, h2, _⟩ := ht.map
    have hc := ht.cel
    rw [h2] at hc; cases hc
  have n2 : tb ≠ nb := ne_of_type ht.cel h4 (by decide)
  have n3 : m ≠ nb := by
    rintro rfl
    obtain ⟨es, clock, h2, _⟩ := ht.map
    rw [h2] at h4; cases h4
  refine ⟨tb, m, fun j => if j = tb then some (0, []) else if j = m then some (1, []) else if j = nb then some (2, rootN) else none, _, he, ⟨ht, ?_, ?_, fun k => ?_, fun k b n hk hS => ?_, fun j hj => ?_⟩, hb⟩
  · simp only [if_neg (Ne.symm n1), if_pos]
  · simp only [if_pos]
  · unfold newS
    by_cases hk : k = rootN
    · simp only [if_pos hk]; rfl
    · simp only [if_neg hk]; rfl
  · unfold newS at hS
    by_cases hkr : k = rootN
    · subst hkr
      simp only [if_pos] at hk hS
      cases hk; cases hS
      refine ⟨by simp only [if_neg (Ne.symm n2), if_neg (Ne.symm n3), if_pos], _, _, h4, ⟨?_, .inl ⟨rfl, rfl⟩⟩, fun g hg => by simp [Value.ownBlock] at hg, ⟨?_, .inl ⟨rfl, rfl⟩⟩, fun g hg => by simp [Value.ownBlock] at hg⟩ <;> rfl
    · rw [if_neg hkr] at hS
      cases hS
  · by_cases e1 : j = tb
    · omega
    · by_cases e2 : j = m
      · omega
      · by_cases e3 : j = nb
        · omega
        · rw [if_neg e1, if_neg e2, if_neg e3] at hj
          exact absurd rfl hj
theorem TxtRow.fr {w w' : World} {who : Own} {o : Option Addr} {n c : Nat} {ss : List Bs} (h : TxtRow w (.slice o n c) ss) (hn : ∀ a, o = some a → who a.block = none) (hf : Fr who w w') : TxtRow w' (.slice o n c) ss := by
  obtain ⟨o', c', h1, h2, h3, h4⟩ := h
  cases h1
  refine ⟨_, _, rfl, h2, h3, fun i hi => ?_⟩
  obtain ⟨b, off, e, hl, hc⟩ := h4 i hi
  refine ⟨b, off, e, Nat.lt_of_lt_of_le hl hf.size, ?_⟩
  have hb := hf.block b hl (hn _ e)
  simp only [World.cell?, hb] at hc ⊢
  exact hc
theorem TxtRow.take {w : World} {o : Option Addr} {n c : Nat} {ss : List Bs} (h : TxtRow w (.slice o n c) ss) {k : Nat} (hk : k ≤ n) : TxtRow w (.slice o k c) (ss.take k) := by
  obtain ⟨o', c', h1, h2, h3, h4⟩ := h
  cases h1
  have hl : (ss.take k).length = k := by simp; omega
  refine ⟨o, c, by rw [hl], by omega, h3, fun i hi => ?_⟩
  obtain ⟨b, off, e, hl', hc⟩ := h4 i (by omega)
  exact ⟨b, off, e, hl', by rw [hc, List.getElem_take]⟩
theorem TxtRow.nilOr {w : World} {n c : Nat} {o : Option Addr} {B : Nat} {xs : List Value} (h : w.ownsRow B 9 1 (.slice o n c) n xs) : ∀ a, o = some a → B ≤ a.block := by
  intro a ha
  rcases h.2 with ⟨e, _⟩ | ⟨g, cap, cur, e, hb, _⟩
  · cases e; cases ha
  · cases e; cases ha; exact hb
end Go.Proofs.YtjgdfgpnmmkjfaaGreatDoor
namespace Go.Proofs.YtjgdfgpnmmkjfaaGreatDoor
set_option linter.unusedVariables false
set_option linter.unusedSimpArgs false
open Go.RowKit Go.MapKept

def put1 (S : Bs → Option ND) (k : Bs) : Bs → Option ND := if (S k).isNone then setS S k .new else S
/-- The paths that 'Make' makes: the heads of a path and itself. -/
def headsN (ps : List Bs) (j : Nat) : List Bs := (List.range j).map fun i => canN (ps.take i)
def mkS (S : Bs → Option ND) (ps : List Bs) (j : Nat) : Bs → Option ND := (headsN ps j).foldl put1 S
theorem mkS_zero (S : Bs → Option ND) (ps : List Bs) : mkS S ps 0 = S := rfl
theorem mkS_succ (S : Bs → Option ND) (ps : List Bs) (j : Nat) : mkS S ps (j + 1) = put1 (mkS S ps j) (canN (ps.take j)) := by
  unfold mkS headsN
  rw [List.range_succ, List.map_append, List.foldl_append]; rfl
def makeS (S : Bs → Option ND) (path : Bs) : Bs → Option ND := mkS S (partsN path) ((partsN path).length + 1)
theorem can_len (l : List Bs) : (canN l).length ≤ wN l + 2 := by
  have := join_w l
  unfold canN
  simp only [List.length_cons]
  omega
theorem wN_take_le (l : List Bs) (k : Nat) : wN (l.take k) ≤ wN l := wN_take l k
set_option maxHeartbeats 800000 in
theorem Make_any {w : World} {B tb m : Nat} {who : Own} {nd : Bs → Option Nat} {S : Bs → Option ND} (h : Tr w B tb m who nd S) (path : Bs) (hp : path.length ≤ 100000) :
    Calls Tryz.prog 14 #[.pointer (some ⟨tb, 0, none⟩), .string ⟨path.toArray⟩] w fun e w' => e = .returned (.int .i64 0) ∧ ∃ who' nd', Tr w' B tb m who' nd' (makeS S path) ∧ Stp who who' w w' := by
  have hw := parts_w path
  have hl := len_w (partsN path)
  have PA : Hid (Calls Tryz.prog 34 #[.string ⟨path.toArray⟩] w fun e w' => ∃ o c, e = .returned (.slice o (partsN path).length c) ∧ w'.ownsRow w.heap.size 9 1 (.slice o (partsN path).length c) (partsN path).length ((partsN path).map sv) ∧ Below w.heap.size w w') := (Parts_any path (by omega) w).mono fun e w' ⟨r, he, ho, hB⟩ => by
    obtain ⟨o, c, rfl⟩ := owns_slice ho
    exact ⟨o, c, he, ho, hB⟩
  have JO : Hid (∀ W v l, wN l ≤ 1000000000 → TxtRow W v l → Calls Tryz.prog 35 #[v] W fun e w' => e = .returned (.string ⟨(canN l).toArray⟩) ∧ Below W.heap.size W w') := fun W v l q ht => joined_any l v W ht q
  unfold makeS
  generalize partsN path = ps at *
  obtain ⟨n, hn⟩ : ∃ n, ps.length = n := ⟨_, rfl⟩
  have HN := Lib.hid (And.intro hn (And.intro (show wN ps ≤ 400000 by omega) hl))
  rw [hn] at hl PA ⊢
  have hnb : n ≤ 1000000 := by omega
  have H := Lib.hid h
  have hp1 : IntKind.i64.wrap ((n : Int) + 1) = (n : Int) + 1 := IntWalk.i64_in _ (by omega)
  clear h hw hl hn hp
  go_enter Tryz.func14, Tryz.ntmps14
  go_wp2_with (go_at_call 34; refine PA.out.mono ?_; rintro e w1 ⟨ao, ac, rfl, ho, hB⟩; have HP := Lib.hid (And.intro ho hB); clear ho hB)
  go_loopw [15] (fun q wr => ∃ k : Nat, k ≤ n + 1 ∧ q = .int .i64 (k : Int) ∧ ∃ who' nd', Tr wr B tb m who' nd' (mkS S ps k) ∧ Stp who who' w1 wr) (fun q _ => n + 1 - (intOf q).toNat)
  case atStart => exact ⟨0, Nat.zero_le _, rfl, who, nd, H.out.low HP.out.2, Stp.refl _ _⟩
  case round =>
    obtain ⟨k, hk, rfl, who1, nd1, hT, hS⟩ := hrel
    have HR := Lib.hid (And.intro hT hS)
    by_cases hlt : k < n + 1
    · have htx : TxtRow w1 (.slice ao n ac) ps := by
        have := HP.out.1
        have e := HN.out.1
        rw [← e] at this ⊢
        exact TxtRow.of_owns this
      have hun : ∀ a, ao = some a → who a.block = none := fun a ha => H.out.none_at (TxtRow.nilOr HP.out.1 a ha)
      have hrow : TxtRow wr (.slice ao k ac) (ps.take k) := (htx.fr hun hS.fr).take (by omega)
      have hcap : n ≤ ac := by obtain ⟨_, h2, _⟩ := htx.at_; rw [HN.out.1] at h2; exact h2
      have hcm : ac ≤ maxLen := by obtain ⟨_, _, h2, _⟩ := htx.at_; exact h2
      have hql : (canN (ps.take k)).length ≤ 1000000 := by
        have h1 := can_len (ps.take k)
        have h2 := wN_take_le ps k
        have h3 := HN.out.2.1
        omega
      have hJ := JO.out wr _ _ (by have h2 := wN_take_le ps k; have h3 := HN.out.2.1; omega) hrow
      have hs := mkS_succ S ps k
      obtain ⟨q, hq⟩ : ∃ q, canN (ps.take k) = q := ⟨_, rfl⟩
      rw [hq] at hJ hql hs
      have HJ := Lib.hid hJ
      have HS := Lib.hid hs
      have hst := fun W (hb : Below wr.heap.size wr W) => (hT.low hb).put q (by unfold maxLen; omega)
      have hlk := fun W (hb : Below wr.heap.size wr W) => (hT.low hb).tree.look (k := q) (by unfold maxLen; omega)
      have hce := fun W (hb : Below wr.heap.size wr W) => (vcells1 (hT.low hb).tree.cel).1
      have t0 : decide ((k : Int) < (n : Int) + 1) = true := by rw [decide_eq_true_eq]; omega
      have t1 : ¬ ((k : Int) < 0) := by omega
      have hka : k ≤ ac := by omega
      have hw2 : IntKind.i64.wrap ((k : Int) + 1) = (k : Int) + 1 := IntWalk.i64_in _ (by omega)
      have HK := Lib.hid (And.intro hk hlt)
      cases hnd : nd1 q with
      | some b =>
        simp only [hnd, ptrN, Option.map_some, Option.map_none] at hlk
        have HC := Lib.hid (And.intro hce hlk)
        have HSame : Hid (mkS S ps (k + 1) = mkS S ps k) := by
          show _ = _
          rw [hs]
          unfold put1
          obtain ⟨nn, hn1, _⟩ := hT.has hnd
          rw [hn1]; rfl
        clear hT hS htx hun hrow hJ hs hce hlk hst hnd hk hlt hq
        go_wp2_with (go_at_call 35; refine HJ.out.mono ?_; rintro e w2 ⟨rfl, hB⟩; have hc0 := HC.out.1 _ hB; have hl0 := HC.out.2 _ hB; have HB := Lib.hid hB; clear hB)
        exact ⟨⟨k + 1, by have := HK.out; omega, by go_num, who1, nd1, by rw [HSame.out]; exact HR.out.1.low HB.out, HR.out.2.low HB.out⟩, by have := HK.out; simp [intOf]; omega⟩
      | none =>
        simp only [hnd, ptrN, Option.map_some, Option.map_none] at hlk
        have HC := Lib.hid (And.intro hce (And.intro hlk hst))
        have HSame : Hid (mkS S ps (k + 1) = setS (mkS S ps k) q .new) := by
          show _ = _
          rw [hs]
          unfold put1
          rw [hT.none_of hnd]; rfl
        clear hT hS htx hun hrow hJ hs hce hlk hst hnd hk hlt hq
        go_wp2_with (go_at_call 35; refine HJ.out.mono ?_; rintro e w2 ⟨rfl, hB⟩; have hc0 := HC.out.1 _ hB; have hl0 := HC.out.2.1 _ hB; obtain ⟨w3, hup, hT3, hS3⟩ := HC.out.2.2 _ hB; have HB := Lib.hid (And.intro hB (And.intro hT3 hS3)); clear hB hT3 hS3)
        exact ⟨⟨k + 1, by have := HK.out; omega, by go_num, _, _, by rw [HSame.out]; exact HB.out.2.1, (HR.out.2.low HB.out.1).trans HB.out.2.2⟩, by have := HK.out; simp [intOf]; omega⟩
    · have hke : k = n + 1 := by omega
      subst hke
      have t0 : decide (((n + 1 : Nat) : Int) < (n : Int) + 1) = false := by rw [decide_eq_false_iff_not]; omega
      clear hT hS hk hlt
      go_wp2_with fail
      go_ret
      exact ⟨rfl, who1, nd1, HR.out.1, (Stp.of_below HP.out.2).trans HR.out.2⟩
end Go.Proofs.YtjgdfgpnmmkjfaaGreatDoor
namespace Go.Proofs.YtjgdfgpnmmkjfaaGreatDoor
set_option linter.unusedVariables false
set_option linter.unusedSimpArgs false
open Go.RowKit Go.MapKept

/-- A node told anew. -/
theorem Tr.setNode {w w' : World} {B tb m : Nat} {who who' : Own} {nd : Bs → Option Nat} {S : Bs → Option ND} (h : Tr w B tb m who nd S) {k : Bs} {b : Nat} {n' : ND} (hb : nd k = some b) (hs : w.heap.size ≤ w'.heap.size)
    (hk : ∀ j t, who j = some t → (t.1 < 2 ∨ t.2 ≠ k) → w'.heap[j]? = w.heap[j]?) (hw : ∀ j t, who j = some t → who' j = some t) (hN : NodeAt w' B who' k b n') (hlo : ∀ j, who' j ≠ none → B ≤ j ∧ j < w'.heap.size) : Tr w' B tb m who' nd (setS S k n') := by
  refine ⟨⟨(hk tb _ h.wtb (.inl (by decide))).trans h.tree.cel, h.tree.map.congr (hk m _ h.wm (.inl (by decide))), fun q b' hq => ?_⟩, hw _ _ h.wm, hw _ _ h.wtb, fun q => ?_, fun q b' n hq hS => ?_, hlo⟩
  · by_cases hqk : q = k
    · subst hqk
      rw [hb] at hq; cases hq
      obtain ⟨_, vs, ve, h2, _⟩ := hN
      exact ⟨_, _, _, h2⟩
    · obtain ⟨n, _, hN'⟩ := h.has hq
      obtain ⟨a, c, d, hc⟩ := h.tree.node q b' hq
      exact ⟨a, c, d, (hk b' _ hN'.1 (.inr hqk)).trans hc⟩
  · unfold setS
    by_cases hqk : q = k
    · rw [if_pos hqk, hqk, hb]; rfl
    · rw [if_neg hqk]; exact h.same q
  · unfold setS at hS
    by_cases hqk : q = k
    · subst hqk
      rw [if_pos rfl] at hS; cases hS
      rw [hb] at hq; cases hq
      exact hN
    · rw [if_neg hqk] at hS
      have hN' := h.node q b' n hq hS
      exact hN'.keep (hk b' _ hN'.1 (.inr hqk)) (fun j hj => hk j _ hj (.inr hqk)) (fun j hj => hk j _ hj (.inr hqk)) hw
def ownV (who : Own) (v : Value) (t : Nat × Bs) : Own := fun j => if v.ownBlock = some j then some t else who j
theorem row_ids {w : World} {B n : Nat} {e : TypeId} {v : Value} {xs : List Value} (h : w.ownsRow B e 1 v n xs) : ∀ g, v.ownBlock = some g → B ≤ g ∧ g < w.heap.size := by
  intro g hg
  rcases h.2 with ⟨rfl, _⟩ | ⟨g', cap, cur, rfl, hb, hh, _⟩
  · simp [Value.ownBlock] at hg
  · simp [Value.ownBlock] at hg; subst hg; exact ⟨hb, (Array.getElem?_eq_some_iff.1 hh).1⟩
theorem row_base {w : World} {B B' n : Nat} {e : TypeId} {v : Value} {xs : List Value} (h : w.ownsRow B e 1 v n xs) (hB : B' ≤ B) : w.ownsRow B' e 1 v n xs := by
  refine ⟨h.1, ?_⟩
  rcases h.2 with h0 | ⟨g, cap, cur, rfl, hb, rest⟩
  · exact .inl h0
  · exact .inr ⟨g, cap, cur, rfl, by omega, rest⟩
/-- A node's search set to a new row. -/
theorem Tr.search {w w1 : World} {B tb m : Nat} {who : Own} {nd : Bs → Option Nat} {S : Bs → Option ND} (h : Tr w B tb m who nd S) {k : Bs} {b : Nat} {n : ND} (hb : nd k = some b) (hS : S k = some n) (hB : Below w.heap.size w w1)
    {v : Value} {L : List Bs} (hv : w1.ownsRow w.heap.size 9 1 v L.length (L.map sv)) :
    Tr (w1.setCell ⟨b, 0, none⟩ v) B tb m (ownV who v (3, k)) nd (setS S k { n with search := L }) ∧ Stp who (ownV who v (3, k)) w (w1.setCell ⟨b, 0, none⟩ v) := by
  have hids := row_ids hv
  have hmono : ∀ j t, who j = some t → ownV who v (3, k) j = some t := fun j t hj => by
    unfold ownV
    rw [if_neg]
    · exact hj
    · intro hg
      have := (hids j hg).1
      have := (h.lo j (by rw [hj]; simp)).2
      omega
  have h1 := h.low hB
  have hN := h1.node k b n hb hS
  obtain ⟨hwb, vs, ve, hc, r1, r2, r3, r4⟩ := hN
  have hbl := (h.lo b (by rw [hwb]; simp)).2
  have hset : ∀ j, j ≠ b → (w1.setCell ⟨b, 0, none⟩ v).heap[j]? = w1.heap[j]? := fun j hj => Below.heap_setCell w1 ⟨b, 0, none⟩ v j hj
  have hsz : (w1.setCell ⟨b, 0, none⟩ v).heap.size = w1.heap.size := by simp [World.setCell]
  refine ⟨h1.setNode hb (Nat.le_of_eq hsz.symm) (fun j t hj ht => hset j ?_) hmono ⟨hmono _ _ hwb, v, ve, heap_setCell_same w1 b 0 _ _ v hc, row_base (row_keep hv (fun g hg => hset g (by have := (hids g hg).1; omega))) h.base, fun g hg => if_pos hg, row_keep r3 (fun g hg => hset g (by rintro rfl; have := r4 _ hg; rw [hwb] at this; cases this)), fun g hg => hmono _ _ (r4 g hg)⟩ (fun j hj => ?_), ⟨⟨hB.os, hB.tape, hB.output, by rw [hsz]; exact hB.size, fun j hj hn => ?_⟩, fun j hj => ?_⟩⟩
  · rintro rfl
    rw [hwb] at hj
    cases hj
    rcases ht with ht | ht
    · omega
    · exact ht rfl
  · unfold ownV at hj
    by_cases hg : v.ownBlock = some j
    · have := hids j hg
      have := h.base
      rw [hsz]; omega
    · rw [if_neg hg] at hj
      have := h1.lo j hj
      rw [hsz]; exact this
  · rw [hset j (by rintro rfl; rw [hwb] at hn; cases hn)]
    exact hB.block j hj
  · unfold ownV
    rw [if_neg (fun hg => by have := (hids j hg).1; omega)]
def allIn (S : Bs → Option ND) (L : List Bs) : Bool := L.all fun p => (S (canonN rootN p)).isSome
def srchS (S : Bs → Option ND) (path : Bs) (L : List Bs) : Int × (Bs → Option ND) :=
  match S (canonN rootN path) with
  | none => (8, S)
  | some n => if allIn S L = true then (0, setS S (canonN rootN path) { n with search := L.map (canonN rootN) }) else (8, S)
set_option maxRecDepth 100000 in
set_option maxHeartbeats 1600000 in
theorem SetSearch_any {w : World} {B tb m : Nat} {who : Own} {nd : Bs → Option Nat} {S : Bs → Option ND} (h : Tr w B tb m who nd S) (path : Bs) (hp : path.length ≤ 100000) (L : List Bs) (hL : ∀ p ∈ L, p.length ≤ 100000) (hn : L.length ≤ 100000) {v : Value} (hv : TxtRow w v L) :
    Calls Tryz.prog 23 #[.pointer (some ⟨tb, 0, none⟩), .string ⟨path.toArray⟩, v] w fun e w' => e = .returned (.int .i64 (srchS S path L).1) ∧ ∃ who' nd', Tr w' B tb m who' nd' (srchS S path L).2 ∧ Stp who who' w w' := by
  obtain ⟨ao, ac, rfl⟩ := hv.len
  have AT : Hid (∀ W, Below w.heap.size w W → ∀ p : Bs, p.length ≤ 100000 → Calls Tryz.prog 32 #[.pointer (some ⟨tb, 0, none⟩), .string ⟨p.toArray⟩] W fun e w' => e = .returned (ptrN (nd (canonN rootN p))) ∧ Below W.heap.size W w') := fun W hb p hp => at_any (h.low hb).tree p hp
  have A0 := AT.out w (Below.refl _ _) path hp
  unfold srchS
  cases hnd : nd (canonN rootN path) with
  | none =>
    rw [h.none_of hnd]
    rw [hnd] at A0
    have A1 : Hid (Calls Tryz.prog 32 #[.pointer (some ⟨tb, 0, none⟩), .string ⟨path.toArray⟩] w fun e w' => e = .returned (.pointer none) ∧ Below w.heap.size w w') := A0
    have H := Lib.hid h
    clear h hv AT A0 hnd hL hp
    go_enter Tryz.func23, Tryz.ntmps23
    go_wp2_with (go_at_call 32; refine A1.out.mono ?_; rintro e w2 ⟨rfl, hB⟩; have HB := Lib.hid hB; clear hB)
    go_ret
    exact ⟨rfl, who, nd, H.out.low HB.out, Stp.of_below HB.out⟩
  | some b =>
    obtain ⟨nn, hS, hN⟩ := h.has hnd
    rw [hS, show (some nn : Option ND) = some nn from rfl]
    rw [hnd] at A0
    have A1 : Hid (Calls Tryz.prog 32 #[.pointer (some ⟨tb, 0, none⟩), .string ⟨path.toArray⟩] w fun e w' => e = .returned (.pointer (some ⟨b, 0, none⟩)) ∧ Below w.heap.size w w') := A0
    obtain ⟨key, hkey⟩ : ∃ key, canonN rootN path = key := ⟨_, rfl⟩
    rw [hkey] at hnd hS hN ⊢
    have CA : Hid (∀ W, ∀ p : Bs, p.length ≤ 100000 → Calls Tryz.prog 19 #[.string ⟨#[58, 58]⟩, .string ⟨p.toArray⟩] W fun e w' => e = .returned (.string ⟨(canonN rootN p).toArray⟩) ∧ Below W.heap.size W w') := fun W p hp => Canonical_any rootN p (by decide) hp W
    have HALL : Hid ((if allIn S L = true then ((0 : Int), setS S key { nn with search := L.map (canonN rootN) }) else (8, S)) = if allIn S L = true then ((0 : Int), setS S key { nn with search := L.map (canonN rootN) }) else (8, S)) := rfl
    obtain ⟨res, hres⟩ : ∃ res, res = (if allIn S L = true then ((0 : Int), setS S key { nn with search := L.map (canonN rootN) }) else (8, S)) := ⟨_, rfl⟩
    have HRES := Lib.hid hres
    show Calls _ _ _ _ fun e w' => e = .returned (.int .i64 (if allIn S L = true then ((0 : Int), setS S key { nn with search := L.map (canonN rootN) }) else (8, S)).1) ∧ ∃ who' nd', Tr w' B tb m who' nd' (if allIn S L = true then ((0 : Int), setS S key { nn with search := L.map (canonN rootN) }) else (8, S)).2 ∧ Stp who who' w w'
    rw [← hres]
    obtain ⟨n, hnl⟩ : ∃ n, L.length = n := ⟨_, rfl⟩
    have HN := Lib.hid (And.intro hnl (And.intro hnd hS))
    obtain ⟨_, hlc, hcm, hcell⟩ := hv.at_
    rw [hnl] at hlc hn ⊢
    unfold maxLen at hcm
    have HC := Lib.hid hcell
    have H := Lib.hid h
    have HL := Lib.hid hL
    clear HALL hres h hv hcell hL hnl hnd hS hN hkey A0 hp
    go_enter Tryz.func23, Tryz.ntmps23
    go_wp2_with (go_at_call 32; refine A1.out.mono ?_; rintro e w1 ⟨rfl, hB⟩; have HB1 := Lib.hid hB; clear hB)
    go_loopw [18, 8] (fun q o wr => ∃ k : Nat, k ≤ n ∧ q = .int .i64 (k : Int) ∧ wr.ownsRow w.heap.size 9 1 o k ((L.take k).map fun p => sv (canonN rootN p)) ∧ Below w.heap.size w wr ∧ allIn S (L.take k) = true) (fun q _ _ => n - (intOf q).toNat)
    case atStart => exact ⟨0, Nat.zero_le _, rfl, ⟨rfl, .inl ⟨rfl, rfl⟩⟩, HB1.out, rfl⟩
    case round =>
      obtain ⟨k, hk, rfl, hown, hB, hall⟩ := hrel
      have HB := Lib.hid hB
      have HALL := Lib.hid hall
      by_cases hlt : k < n
      · have hkl : k < L.length := by have := HN.out.1; omega
        obtain ⟨gb, off, rfl, hgl, hc0⟩ := HC.out k hkl
        have hc1 : wr.cell? ⟨gb, off + k, none⟩ = some (sv L[k]) := (hB.cell (p := ⟨gb, off + k, none⟩) hgl).trans hc0
        have hpl := HL.out L[k] (List.getElem_mem _)
        have hA := AT.out wr hB L[k] hpl
        have hCA := fun W => CA.out W L[k] hpl
        have htk : L.take (k + 1) = L.take k ++ [L[k]] := List.take_succ_eq_append_getElem hkl
        have HTK : Hid ((L.take (k + 1)).map (fun p => sv (canonN rootN p)) = (L.take k).map (fun p => sv (canonN rootN p)) ++ [sv (canonN rootN L[k])] ∧ allIn S (L.take (k + 1)) = (allIn S (L.take k) && (S (canonN rootN L[k])).isSome) ∧ (allIn S L = true → (S (canonN rootN L[k])).isSome = true)) := by
          refine ⟨?_, ?_, ?_⟩
          · rw [htk, List.map_append]; rfl
          · rw [htk]; unfold allIn; rw [List.all_append]; simp
          · intro ha; exact List.all_eq_true.1 ha _ (List.getElem_mem _)
        have HSO := Lib.hid (H.out.same (canonN rootN L[k]))
        generalize L[k] = p at *
        have hcx : wr.cell? ⟨gb, off + k, none⟩ = some (.string ⟨p.toArray⟩) := hc1
        have i1 : k < n := hlt
        have t0 : decide ((k : Int) < (n : Int)) = true := by rw [decide_eq_true_eq]; omega
        obtain ⟨oo, oc, rfl⟩ := owns_slice hown
        have HO := Lib.hid hown
        have HK := Lib.hid hlt
        cases hx : nd (canonN rootN p) with
        | none =>
          rw [hx] at hA
          have HA : Hid (Calls Tryz.prog 32 #[.pointer (some ⟨tb, 0, none⟩), .string ⟨p.toArray⟩] wr fun e w' => e = .returned (.pointer none) ∧ Below wr.heap.size wr w') := hA
          have HX := Lib.hid hx
          clear hA hCA hown hB hall hc0 hc1 htk hx hlt hk hkl
          go_wp2_with (go_at_call 32; refine HA.out.mono ?_; rintro e w2 ⟨rfl, hB2⟩; have HB2 := Lib.hid hB2; clear hB2)
          go_ret
          have hno : allIn S L ≠ true := fun ha => by
            have h1 := HTK.out.2.2 ha
            have h2 := HSO.out
            rw [HX.out, h1] at h2; simp at h2
          rw [HRES.out, if_neg hno]
          have hb := HB.out.trans (HB2.out.mono HB.out.size)
          exact ⟨rfl, who, nd, H.out.low hb, Stp.of_below hb⟩
        | some bb =>
          rw [hx] at hA
          have HA : Hid (Calls Tryz.prog 32 #[.pointer (some ⟨tb, 0, none⟩), .string ⟨p.toArray⟩] wr fun e w' => e = .returned (.pointer (some ⟨bb, 0, none⟩)) ∧ Below wr.heap.size wr w') := hA
          have HX := Lib.hid hx
          obtain ⟨q, hq⟩ : ∃ q, canonN rootN p = q := ⟨_, rfl⟩
          rw [hq] at hCA
          have HQ := Lib.hid hq
          have HCA := Lib.hid hCA
          clear hA hCA hown hB hall hc0 hc1 htk hx hlt hk hkl hq
          have tok : True := trivial
          go_wp2_with (first | (go_at_call 32; have _t := tok; refine HA.out.mono ?_; rintro e w2 ⟨rfl, hB2⟩; have HB2 : Hid (w2.ownsRow w.heap.size 9 1 (.slice oo k oc) k ((L.take k).map fun p => sv (canonN rootN p)) ∧ Below w.heap.size w w2) := ⟨ownsRow_kp HO.out (kp_of_below hB2) (by simp), HB.out.trans (hB2.mono HB.out.size)⟩; clear hB2 tok _t) | (go_at_call 19; refine (HCA.out _).mono ?_; rintro e w3 ⟨rfl, hB3⟩; have HB3 : Hid (w3.ownsRow w.heap.size 9 1 (.slice oo k oc) k ((L.take k).map fun p => sv (canonN rootN p)) ∧ Below w.heap.size w w3) := ⟨ownsRow_kp HB2.out.1 (kp_of_below hB3) (by simp), HB2.out.2.trans (hB3.mono HB2.out.2.size)⟩; clear hB3) | (at_builtin; go_loud (refine wpList_push rfl (.tmp 26) (.tmp 29) 27 rfl w.heap.size 9 (.string ⟨#[]⟩) 16 Tryz.underlying27 infoStr rfl (.slice oo k oc) k _ rfl HB3.out.1 (.string ⟨q.toArray⟩) _ rfl rfl (by unfold maxLen; omega) (by omega) HB3.out.2.size ?_); intro g1 c1 w4 hg1 hown4 hb4 _; have H4 := Lib.hid (And.intro hown4 (HB3.out.2.trans hb4)); clear hg1 hown4 hb4))
          exact ⟨⟨k + 1, by have := HK.out; omega, by go_num, by rw [HTK.out.1, HQ.out]; exact H4.out.1, H4.out.2, by rw [HTK.out.2.1, HALL.out]; have h2 := HSO.out; rw [HX.out] at h2; rw [← h2]; rfl⟩, by have := HK.out; simp [intOf]; omega⟩
      · have hkn : k = n := by omega
        subst hkn
        have t0 : decide ((k : Int) < (k : Int)) = false := by rw [decide_eq_false_iff_not]; omega
        have hkl := HN.out.1
        obtain ⟨oo, oc, rfl⟩ := owns_slice hown
        rw [List.take_of_length_le (by omega)] at hown
        have hall2 : allIn S L = true := by
          have := HALL.out
          rw [List.take_of_length_le (by omega)] at this; exact this
        have hrow : wr.ownsRow w.heap.size 9 1 (.slice oo k oc) ((L.map (canonN rootN)).length) ((L.map (canonN rootN)).map sv) := by
          rw [List.length_map, List.map_map, hkl]; exact hown
        obtain ⟨hT, hSt⟩ := H.out.search HN.out.2.1 HN.out.2.2 hB hrow
        obtain ⟨_, vs, ve, hcn, _⟩ := (H.out.low hB).node key b nn HN.out.2.1 HN.out.2.2
        obtain ⟨c0, _, _, hf⟩ := vcells3 hcn
        have hf0 := hf 0
        have HT := Lib.hid (And.intro hT (And.intro hSt hall2))
        clear hT hSt hall2 hall hrow hcn hf hown hkl hB hk hlt
        go_wp2_with fail
        go_ret
        rw [HRES.out, if_pos HT.out.2.2]
        exact ⟨rfl, _, _, HT.out.1, HT.out.2.1⟩
end Go.Proofs.YtjgdfgpnmmkjfaaGreatDoor
