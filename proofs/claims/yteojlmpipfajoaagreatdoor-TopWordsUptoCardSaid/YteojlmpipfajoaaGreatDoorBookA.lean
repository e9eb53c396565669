/- A dictionary while it is changed (package dict): what lies in memory; none, set, get. A dictionary while it is changed: set. of, read. -/
import Derived.Test.YteojlmpipfajoaaGreatDoorPush1
import Derived.Test.YteojlmpipfajoaaGreatDoorLJoin
import Derived.Test.YteojlmpipfajoaaGreatDoorLDict
import Derived.BigRegion
import Derived.RegionTactic
import Derived.Deep.RegionWith
namespace Go.Proofs.YteojlmpipfajoaaGreatDoor
set_option linter.unusedVariables false
set_option linter.unusedSimpArgs false
open Go.RowKit Go.MapKept Go.WideMaps
open Go.Maps (Keyed string_keyed)

def valsP (a : Prs) : List Bs := a.map (·.2)
def idxK : List Bs → Bs → Option Nat
  | [], _ => none
  | a :: r, k => if a = k then some 0 else (idxK r k).map (· + 1)
theorem idxK_none {ks : List Bs} {k : Bs} : idxK ks k = none ↔ k ∉ ks := by
  induction ks with
  | nil => simp [idxK]
  | cons a r ih =>
    unfold idxK
    by_cases e : a = k
    · simp [e]
    · rw [if_neg e]
      simp only [Option.map_eq_none_iff, ih, List.mem_cons, not_or]
      exact ⟨fun h => ⟨fun e' => e e'.symm, h⟩, fun h => h.2⟩
theorem idxK_some {ks : List Bs} {k : Bs} {i : Nat} (h : idxK ks k = some i) : ∃ hi : i < ks.length, ks[i] = k := by
  induction ks generalizing i with
  | nil => cases h
  | cons a r ih =>
    unfold idxK at h
    by_cases e : a = k
    · rw [if_pos e] at h; cases h; exact ⟨by simp, e⟩
    · rw [if_neg e] at h
      cases hr : idxK r k with
      | none => rw [hr] at h; cases h
      | some j =>
        rw [hr] at h; cases h
        obtain ⟨hj, hk⟩ := ih hr
        exact ⟨by simpa using hj, by simpa using hk⟩
theorem idxK_snoc {ks : List Bs} {k' : Bs} (h : k' ∉ ks) (k : Bs) : idxK (ks ++ [k']) k = if k = k' then some ks.length else idxK ks k := by
  induction ks with
  | nil =>
    simp only [List.nil_append, idxK]
    by_cases e : k' = k
    · rw [if_pos e, if_pos e.symm]; rfl
    · rw [if_neg e, if_neg (fun h => e h.symm)]; rfl
  | cons a r ih =>
    simp only [List.mem_cons, not_or] at h
    rw [List.cons_append, idxK, ih h.2, idxK]
    by_cases e : a = k
    · have : k ≠ k' := fun e' => h.1 (e'.symm.trans e.symm)
      rw [if_pos e, if_neg this, if_pos e]
    · rw [if_neg e, if_neg e]
      split <;> simp
theorem set_old {a : Prs} {k v : Bs} {i : Nat} (h : idxK (keysP a) k = some i) : keysP (setP a k v) = keysP a ∧ valsP (setP a k v) = (valsP a).set i v ∧ (setP a k v).length = a.length := by
  induction a generalizing i with
  | nil => cases h
  | cons p a ih =>
    rw [show keysP (p :: a) = p.1 :: keysP a from rfl, idxK] at h
    rw [setP]
    by_cases e : p.1 = k
    · rw [if_pos e] at h ⊢
      cases h
      exact ⟨by simp [keysP, e], by simp [valsP], by simp⟩
    · rw [if_neg e] at h ⊢
      cases hr : idxK (keysP a) k with
      | none => rw [hr] at h; cases h
      | some j =>
        rw [hr] at h; cases h
        obtain ⟨h1, h2, h3⟩ := ih hr
        exact ⟨by simp only [keysP, List.map_cons] at h1 ⊢; rw [h1], by simp only [valsP, List.map_cons] at h2 ⊢; rw [h2]; rfl, by simp [h3]⟩
theorem get_idx {a : Prs} {k : Bs} : getP a k = (idxK (keysP a) k).bind fun i => (valsP a)[i]? := by
  induction a with
  | nil => rfl
  | cons p a ih =>
    rw [getP, show keysP (p :: a) = p.1 :: keysP a from rfl, idxK]
    by_cases e : p.1 = k
    · rw [if_pos e, if_pos e]; rfl
    · rw [if_neg e, if_neg e, ih]
      cases idxK (keysP a) k with
      | none => rfl
      | some j => rfl

theorem sv_inj (a b : Bs) (h : sv a = sv b) : a = b := by
  injection h with h
  injection h with h
  simpa using congrArg Array.toList h
theorem Skeyed : Keyed Tryz.prog 9 := string_keyed Tryz.underlying9
theorem skey {s : Bs} (hs : s.length ≤ maxLen) : keyOf Tryz.prog 9 (sv s) = some (.string s) := WideMaps.keyOf_string_mk Tryz.underlying9 (by simpa [ByteArray.size] using hs)
theorem zero_int (w : World) : (zeroValue 3).run Tryz.prog w = .ok (.int .i64 0) w := by kernel_rfl
def gI (a : Prs) (k : Bs) : Option Value := (idxK (keysP a) k).map fun i => .int .i64 (i : Int)

/-- A book at block b, with the blocks that it has. -/
structure Bk (w : World) (b : Nat) (F : List Nat) (ps : Prs) : Prop where
  uniq : Uniq ps
  ex : ∃ (kv vv : Value) (m : Nat), w.heap[b]? = some (.cells #[kv, .map (some m), vv] 125 (0, 0)) ∧ w.ownsRow 0 9 1 kv ps.length ((keysP ps).map sv) ∧ w.ownsRow 0 9 1 vv ps.length ((valsP ps).map sv) ∧ MapAt Tryz.prog 9 sv w m (gI ps) ∧ F = b :: m :: (kv.ownBlock.toList ++ vv.ownBlock.toList) ∧ ∀ g, kv.ownBlock = some g → vv.ownBlock ≠ some g
theorem Bk.lt {w : World} {b : Nat} {F : List Nat} {ps : Prs} (h : Bk w b F ps) : ∀ d ∈ F, d < w.heap.size := by
  obtain ⟨kv, vv, m, hb, hk, hv, hm, rfl, _⟩ := h.ex
  intro d hd
  simp only [List.mem_cons, List.mem_append, Option.mem_toList] at hd
  rcases hd with rfl | rfl | hd | hd
  · exact (Array.getElem?_eq_some_iff.1 hb).1
  · exact hm.lt
  · exact (hk.lt d hd).2
  · exact (hv.lt d hd).2
theorem Bk.mem {w : World} {b : Nat} {F : List Nat} {ps : Prs} (h : Bk w b F ps) : b ∈ F := by
  obtain ⟨kv, vv, m, _, _, _, _, rfl, _⟩ := h.ex
  simp
theorem Bk.keep {w w' : World} {b : Nat} {F D : List Nat} {ps : Prs} (h : Bk w b F ps) (k : Kp D w w') (hd : ∀ d ∈ F, d ∉ D) : Bk w' b F ps := by
  have hlt := h.lt
  obtain ⟨kv, vv, m, hb, hk, hv, hm, hF, hne⟩ := h.ex
  have key : ∀ d ∈ F, w'.heap[d]? = w.heap[d]? := fun d hdF => k.block d (hlt d hdF) (hd d hdF)
  refine ⟨h.uniq, kv, vv, m, (key b (by rw [hF]; simp)).trans hb, ownsRow_kp hk k (fun g hg => hd g (by rw [hF]; simp [hg])), ownsRow_kp hv k (fun g hg => hd g (by rw [hF]; simp [hg])), hm.congr (key m (by rw [hF]; simp)), hF, hne⟩
theorem Bk.below {w w' : World} {b : Nat} {F : List Nat} {ps : Prs} (h : Bk w b F ps) (k : Below w.heap.size w w') : Bk w' b F ps := h.keep (kp_of_below k) (by simp)

theorem cells3 {W : World} {b : Nat} {u v x : Value} {t : TypeId} (h : W.heap[b]? = some (.cells #[u, v, x] t (0, 0))) : W.cell? ⟨b, 0, none⟩ = some u ∧ W.cell? ⟨b, 1, none⟩ = some v ∧ W.cell? ⟨b, 2, none⟩ = some x ∧ ∀ i, W.frozen? ⟨b, i, none⟩ = false := by
  refine ⟨?_, ?_, ?_, fun i => by simp [World.frozen?, h]⟩ <;> (simp only [World.cell?, h]; rfl)
set_option maxHeartbeats 400000 in
theorem none_any (w : World) : Calls Tryz.prog 83 #[] w fun e w' => ∃ b F, e = .returned (.pointer (some ⟨b, 0, none⟩)) ∧ Bk w' b F [] ∧ Below w.heap.size w w' ∧ ∀ d ∈ F, w.heap.size ≤ d := by
  have hmk := fun W : World => run_makeMap (P := Tryz.prog) (w := W) 121
  have hm0 := mapAt_new Tryz.prog 9 sv w
  have HM := Lib.hid hm0
  clear hm0
  go_enter Tryz.func83, Tryz.ntmps83
  go_wp2
  go_ret
  have hb := heap_alloc_new (w.alloc (.map #[] 0)) (.cells #[.slice none 0 0, .map (some w.heap.size), .slice none 0 0] 125)
  simp only [World.size_alloc] at hb
  refine ⟨_, _, rfl, ⟨uniq_nil, .slice none 0 0, .slice none 0 0, w.heap.size, hb, World.ownsRow_nil _ _ _ _, World.ownsRow_nil _ _ _ _, HM.out.congr (Below.heap_alloc _ _ _ (by simp)), rfl, by simp [Value.ownBlock]⟩, ((Below.refl _ w).alloc (Nat.le_refl _) _).alloc (by simp) _, ?_⟩
  simp [Value.ownBlock]

theorem gI_some {a : Prs} {k : Bs} {i : Nat} (h : idxK (keysP a) k = some i) : i < a.length ∧ (valsP a)[i]? = getP a k ∧ ∃ v, getP a k = some v := by
  obtain ⟨hi, _⟩ := idxK_some h
  have hi' : i < a.length := by simpa [keysP] using hi
  have hv : i < (valsP a).length := by simpa [valsP] using hi'
  refine ⟨hi', ?_, ?_⟩
  · rw [get_idx, h]; rfl
  · rw [get_idx, h]; exact ⟨_, List.getElem?_eq_getElem hv⟩
theorem row_slice {W : World} {base : Nat} {e : TypeId} {v : Value} {n : Nat} {xs : List Value} (h : W.ownsRow base e 1 v n xs) (hn : 0 < n) : ∃ g c, v = .slice (some ⟨g, 0, none⟩) n c ∧ n ≤ c ∧ c ≤ maxLen ∧ g < W.heap.size := by
  rcases h.2 with ⟨_, h0⟩ | ⟨g, cap, cur, rfl, _, hg, h1, h2, _⟩
  · omega
  · exact ⟨g, cap, rfl, h1, h2, (Array.getElem?_eq_some_iff.1 hg).1⟩
set_option maxRecDepth 100000 in
set_option maxHeartbeats 800000 in
theorem get_any {w : World} {b : Nat} {F : List Nat} {ps : Prs} (h : Bk w b F ps) (k : Bs) (hk : k.length ≤ maxLen) :
    Calls Tryz.prog 39 #[.pointer (some ⟨b, 0, none⟩), .string ⟨k.toArray⟩] w fun e w' => e = .returned (.tuple #[.string ⟨((getP ps k).getD []).toArray⟩, .bool (getP ps k).isSome]) ∧ w' = w := by
  obtain ⟨kv, vv, m, hb, hkr, hvr, hm, _, _⟩ := h.ex
  obtain ⟨c0, c1, c2, _⟩ := cells3 hb
  have hl := look_ok hm Skeyed (t := 121) (et := 3) Tryz.underlying121 (z := .int .i64 0) (zero_int w) (skey hk)
  rw [show sv k = (Value.string ⟨k.toArray⟩) from rfl] at hl
  unfold gI at hl
  cases hi : idxK (keysP ps) k with
  | none =>
    have hg : getP ps k = none := by rw [get_idx, hi]; rfl
    rw [hi] at hl
    rw [hg]
    clear hm hkr hvr hb h
    go_enter Tryz.func39, Tryz.ntmps39
    go_wp2
    go_ret2
    exact ⟨rfl, rfl⟩
  | some i =>
    obtain ⟨hlt, hv1, v, hv2⟩ := gI_some hi
    rw [hi] at hl
    rw [hv2] at hv1 ⊢
    obtain ⟨g, cp, rfl, hnc, hcm, _⟩ := row_slice hvr (by omega)
    unfold maxLen at hcm
    have hcell := hvr.cellAt i (by omega)
    rw [List.getElem?_map, hv1] at hcell
    have hcell : w.cell? ⟨g, i, none⟩ = some (.string ⟨v.toArray⟩) := hcell
    have i1 : (i : Int) < (cp : Int) := by omega
    have i2 : (i : Int) < (ps.length : Int) := by omega
    clear hm hkr hvr hb h hv1 hv2 hi
    go_enter Tryz.func39, Tryz.ntmps39
    go_wp2
    go_ret2
    exact ⟨rfl, rfl⟩

/-- A book behind 'set', with what it may have written. -/
def SetRes (w : World) (b : Nat) (F : List Nat) (ps : Prs) (w' : World) : Prop := ∃ F', Bk w' b F' ps ∧ Kp F w w' ∧ (∀ d ∈ F', d ∈ F ∨ w.heap.size ≤ d) ∧ w'.cell? ⟨b, 1, none⟩ = w.cell? ⟨b, 1, none⟩
theorem set_same {w : World} {b : Nat} {F : List Nat} {ps : Prs} (h : Bk w b F ps) {k v : Bs} {i : Nat} (hi : idxK (keysP ps) k = some i) {kv : Value} {m g cp : Nat} (hb : w.heap[b]? = some (.cells #[kv, .map (some m), .slice (some ⟨g, 0, none⟩) ps.length cp] 125 (0, 0))) :
    SetRes w b F (setP ps k v) (w.setCell ⟨g, i, none⟩ (.string ⟨v.toArray⟩)) := by
  obtain ⟨kv', vv, m', hb', hkr, hvr, hm, hF, hne⟩ := h.ex
  rw [hb] at hb'
  cases hb'
  obtain ⟨s1, s2, s3⟩ := set_old (v := v) hi
  have hst := (hvr.stored i (sv v)).1
  have hgF : g ∈ F := by rw [hF]; simp [Value.ownBlock]
  have hgb : b ≠ g := by
    rintro rfl
    rcases hvr.2 with ⟨h0, _⟩ | ⟨g', cap, cur, h1, _, hg, _⟩
    · cases h0
    · cases h1; rw [hb] at hg; cases hg
  have hgm : m ≠ g := by
    rintro rfl
    obtain ⟨es, clock, h1, _⟩ := hm
    rcases hvr.2 with ⟨h0, _⟩ | ⟨g', cap, cur, h2, _, hg, _⟩
    · cases h0
    · cases h2; rw [h1] at hg; cases hg
  have hK : Kp F w (w.setCell ⟨g, i, none⟩ (.string ⟨v.toArray⟩)) := (Kp.refl F w).setCell g i _ (.inl hgF)
  refine ⟨F, ⟨set_uniq h.uniq k v, kv, .slice (some ⟨g, 0, none⟩) ps.length cp, m, (Below.heap_setCell w ⟨g, i, none⟩ _ b hgb).trans hb, ?_, ?_, ?_, hF, hne⟩, hK, fun d hd => .inl hd, by simp only [World.cell?, Below.heap_setCell w ⟨g, i, none⟩ _ b hgb]⟩
  · rw [s1, s3]
    refine ownsRow_kp hkr ((Kp.refl [g] w).setCell g i _ (.inl (by simp))) (fun g' hg' hm => ?_)
    simp at hm; subst hm
    exact hne _ hg' rfl
  · rw [s2, s3, List.map_set]; exact hst
  · have : gI (setP ps k v) = gI ps := by funext k'; unfold gI; rw [s1]
    rw [this]
    exact hm.congr (Below.heap_setCell w ⟨g, i, none⟩ _ m hgm)
/-- A book's blocks are cells, but for its map. -/
theorem Bk.cells_or {w : World} {b m : Nat} {F : List Nat} {ps : Prs} (h : Bk w b F ps) (hm : w.cell? ⟨b, 1, none⟩ = some (.map (some m))) : m ∈ F ∧ ∀ d ∈ F, d ≠ m → ∃ c t, w.heap[d]? = some (.cells c t (0, 0)) := by
  obtain ⟨kv, vv, m', hb, hk, hv, hmm, rfl, _⟩ := h.ex
  have e := (cells3 hb).2.1.symm.trans hm
  cases e
  refine ⟨by simp, fun d hd hne => ?_⟩
  simp only [List.mem_cons, List.mem_append, Option.mem_toList] at hd
  rcases hd with rfl | rfl | hd | hd
  · exact ⟨_, _, hb⟩
  · exact absurd rfl hne
  · obtain ⟨_, cur, hc⟩ := ownsRow_type hk d hd; exact ⟨_, _, hc⟩
  · obtain ⟨_, cur, hc⟩ := ownsRow_type hv d hd; exact ⟨_, _, hc⟩
end Go.Proofs.YteojlmpipfajoaaGreatDoor
namespace Go.Proofs.YteojlmpipfajoaaGreatDoor
set_option linter.unusedVariables false
set_option linter.unusedSimpArgs false
open Go.RowKit Go.MapKept Go.WideMaps

theorem Kp.from {D : List Nat} {w w1 w2 : World} (h : Kp D w w1) (k : Kp D w1 w2) : Kp D w w2 := h.trans k (fun d hd => .inl hd)
theorem gI_new {ps : Prs} {k : Bs} (hi : idxK (keysP ps) k = none) (v : Bs) : gI (setP ps k v) = fun k' => if k' = k then some (.int .i64 (ps.length : Int)) else gI ps k' := by
  have hk := idxK_none.1 hi
  have e : keysP (setP ps k v) = keysP ps ++ [k] := by rw [set_new hk]; simp [keysP]
  funext k'
  unfold gI
  rw [e, idxK_snoc hk]
  split
  · simp [keysP]
  · rfl
theorem set_new_end {w w1 w2 w3 : World} {b m : Nat} {F : List Nat} {ps : Prs} {k v : Bs} {kv vv : Value} {g1 c1 g2 c2 : Nat} (hu : Uniq ps)
    (hkr1 : w1.ownsRow 0 9 1 kv ps.length ((keysP ps).map sv)) (hvr1 : w1.ownsRow 0 9 1 vv ps.length ((valsP ps).map sv))
    (hkm : ∀ g, kv.ownBlock = some g → g ≠ m ∧ g ≠ b) (hvm : ∀ g, vv.ownBlock = some g → g ≠ m ∧ g ≠ b) (hne : ∀ g, kv.ownBlock = some g → vv.ownBlock ≠ some g) (hF : F = b :: m :: (kv.ownBlock.toList ++ vv.ownBlock.toList)) (hbm : b ≠ m)
    (hma : MapAt Tryz.prog 9 sv w1 m (fun k' => if k' = k then some (.int .i64 (ps.length : Int)) else gI ps k')) (hko : Kp [m] w w1) (hblt : b < w.heap.size) (hmlt : m < w.heap.size) (hi : idxK (keysP ps) k = none) (hcell1 : w.cell? ⟨b, 1, none⟩ = some (.map (some m)))
    (hb2 : w2.heap[b]? = some (.cells #[kv, .map (some m), vv] 125 (0, 0))) (hown1 : w2.ownsRow 0 9 1 (.slice (some ⟨g1, 0, none⟩) (ps.length + 1) c1) (ps.length + 1) ((keysP ps).map sv ++ [sv k])) (hk1 : Kp kv.ownBlock.toList w1 w2) (hlc1 : kv.ownBlock = some g1 ∨ w1.heap.size ≤ g1)
    (hown2 : w3.ownsRow 0 9 1 (.slice (some ⟨g2, 0, none⟩) (ps.length + 1) c2) (ps.length + 1) ((valsP ps).map sv ++ [sv v])) (hk2 : Kp vv.ownBlock.toList (w2.setCell ⟨b, 0, none⟩ (.slice (some ⟨g1, 0, none⟩) (ps.length + 1) c1)) w3) (hlc2 : vv.ownBlock = some g2 ∨ (w2.setCell ⟨b, 0, none⟩ (.slice (some ⟨g1, 0, none⟩) (ps.length + 1) c1)).heap.size ≤ g2) :
    SetRes w b F (setP ps k v) (w3.setCell ⟨b, 2, none⟩ (.slice (some ⟨g2, 0, none⟩) (ps.length + 1) c2)) := by
  have hs : (w2.setCell ⟨b, 0, none⟩ (.slice (some ⟨g1, 0, none⟩) (ps.length + 1) c1)).heap.size = w2.heap.size := by simp [World.setCell]
  have z1 := hko.size
  have z2 := hk1.size
  have z3 := hk2.size
  rw [hs] at hlc2 z3
  have hg1lt := (hown1.lt g1 rfl).2
  have hnk := idxK_none.1 hi
  have hset := set_new hnk v
  have ne1b : g1 ≠ b := by
    rcases hlc1 with h | h
    · exact (hkm g1 h).2
    · omega
  have ne2b : g2 ≠ b := by
    rcases hlc2 with h | h
    · exact (hvm g2 h).2
    · omega
  have n1v : ∀ g, vv.ownBlock = some g → g ≠ g1 := fun g hg e => by
    subst e
    rcases hlc1 with h | h
    · exact hne g h hg
    · have := (hvr1.lt g hg).2; omega
  have hmA : m ≠ b := fun e => hbm e.symm
  have hbA : (w2.setCell ⟨b, 0, none⟩ (.slice (some ⟨g1, 0, none⟩) (ps.length + 1) c1)).heap[b]? = some (.cells #[.slice (some ⟨g1, 0, none⟩) (ps.length + 1) c1, .map (some m), vv] 125 (0, 0)) := by
    simp only [World.setCell, Array.getElem?_modify, hb2]; simp
  have hb3 := (hk2.block b (by rw [hs]; omega) (fun hm => (hvm b (by simpa using hm)).2 rfl)).trans hbA
  have hbB : (w3.setCell ⟨b, 2, none⟩ (.slice (some ⟨g2, 0, none⟩) (ps.length + 1) c2)).heap[b]? = some (.cells #[.slice (some ⟨g1, 0, none⟩) (ps.length + 1) c1, .map (some m), .slice (some ⟨g2, 0, none⟩) (ps.length + 1) c2] 125 (0, 0)) := by
    simp only [World.setCell, Array.getElem?_modify, hb3]; simp
  have hKF : Kp F w (w3.setCell ⟨b, 2, none⟩ (.slice (some ⟨g2, 0, none⟩) (ps.length + 1) c2)) := by
    have k0 : Kp F w w1 := hko.mono (fun d hd => by rw [hF]; simp at hd; simp [hd])
    have k1 : Kp F w1 w2 := hk1.mono (fun d hd => by rw [hF]; simp at hd; simp [hd])
    have k2 := ((k0.from k1).setCell b 0 (.slice (some ⟨g1, 0, none⟩) (ps.length + 1) c1) (.inl (by rw [hF]; simp)))
    have k3 := k2.from (hk2.mono (D' := F) (fun d hd => by rw [hF]; simp at hd; simp [hd]))
    exact k3.setCell b 2 _ (.inl (by rw [hF]; simp))
  refine ⟨b :: m :: ([g1] ++ [g2]), ⟨set_uniq hu k v, _, _, m, hbB, ?_, ?_, ?_, rfl, ?_⟩, hKF, ?_, ?_⟩
  · have r1 := ownsRow_setCell_other hown1 (a := ⟨b, 0, none⟩) (by simp only [Value.ownBlock]; intro e; exact ne1b (Option.some.inj e)) (.slice (some ⟨g1, 0, none⟩) (ps.length + 1) c1)
    have r2 := ownsRow_kp r1 hk2 (fun g hg hm => by
      have e : g1 = g := by simpa [Value.ownBlock] using hg
      exact n1v g (by simpa using hm) e.symm)
    have r3 := ownsRow_setCell_other r2 (a := ⟨b, 2, none⟩) (by simp only [Value.ownBlock]; intro e; exact ne1b (Option.some.inj e)) (.slice (some ⟨g2, 0, none⟩) (ps.length + 1) c2)
    rw [hset]
    simpa [keysP] using r3
  · have r3 := ownsRow_setCell_other hown2 (a := ⟨b, 2, none⟩) (by simp only [Value.ownBlock]; intro e; exact ne2b (Option.some.inj e)) (.slice (some ⟨g2, 0, none⟩) (ps.length + 1) c2)
    rw [hset]
    simpa [valsP] using r3
  · rw [gI_new hi]
    refine hma.congr ?_
    refine (Below.heap_setCell _ ⟨b, 2, none⟩ _ m hmA).trans ?_
    refine (hk2.block m (by rw [hs]; omega) (fun hm => (hvm m (by simpa using hm)).1 rfl)).trans ?_
    refine (Below.heap_setCell _ ⟨b, 0, none⟩ _ m hmA).trans ?_
    exact hk1.block m (by omega) (fun hm => (hkm m (by simpa using hm)).1 rfl)
  · intro g hg e
    have e1 : g1 = g := by simpa [Value.ownBlock] using hg
    have e2 : g2 = g := by simpa [Value.ownBlock] using e
    subst e1
    rcases hlc2 with h | h
    · exact n1v g2 h e2
    · omega
  · intro d hd
    simp at hd
    rcases hd with rfl | rfl | rfl | rfl
    · left; rw [hF]; simp
    · left; rw [hF]; simp
    · rcases hlc1 with h | h
      · left; rw [hF]; simp [h]
      · right; omega
    · rcases hlc2 with h | h
      · left; rw [hF]; simp [h]
      · right; omega
  · rw [(cells3 hbB).2.1, hcell1]
theorem mid_b {w2 w3 : World} {b m : Nat} {kv vv s1 : Value} (hb2 : w2.heap[b]? = some (.cells #[kv, .map (some m), vv] 125 (0, 0))) (hk2 : Kp vv.ownBlock.toList (w2.setCell ⟨b, 0, none⟩ s1) w3) (hvm : ∀ g, vv.ownBlock = some g → g ≠ b) : w3.heap[b]? = some (.cells #[s1, .map (some m), vv] 125 (0, 0)) := by
  have hbA : (w2.setCell ⟨b, 0, none⟩ s1).heap[b]? = some (.cells #[s1, .map (some m), vv] 125 (0, 0)) := by
    simp only [World.setCell, Array.getElem?_modify, hb2]; simp
  exact (hk2.block b (Array.getElem?_eq_some_iff.1 hbA).1 (fun hm => hvm b (by simpa using hm) rfl)).trans hbA
set_option maxRecDepth 100000 in
set_option maxHeartbeats 800000 in
theorem set_any {w : World} {b : Nat} {F : List Nat} {ps : Prs} (h : Bk w b F ps) (k v : Bs) (hk : k.length ≤ maxLen) (hn : ps.length ≤ 1000000) :
    Calls Tryz.prog 40 #[.pointer (some ⟨b, 0, none⟩), .string ⟨k.toArray⟩, .string ⟨v.toArray⟩] w fun e w' => e = .returned (.tuple #[]) ∧ SetRes w b F (setP ps k v) w' := by
  have HB := Lib.hid h
  obtain ⟨kv, vv, m, hb, hkr, hvr, hm, _, _⟩ := h.ex
  obtain ⟨c0, c1, c2, cf⟩ := cells3 hb
  have hl := look_ok hm Skeyed (t := 121) (et := 3) Tryz.underlying121 (z := .int .i64 0) (zero_int w) (skey hk)
  rw [show sv k = (Value.string ⟨k.toArray⟩) from rfl] at hl
  unfold gI at hl
  cases hi : idxK (keysP ps) k with
  | none =>
    rw [hi] at hl
    obtain ⟨w1, hup, ho, hma⟩ := (hm.congr (w' := w.drew) rfl).store Skeyed Tryz.underlying121 sv_inj (skey hk) (.int .i64 (ps.length : Int))
    rw [show sv k = (Value.string ⟨k.toArray⟩) from rfl] at hup
    obtain ⟨ko, kc, hke⟩ := row_shape hkr
    obtain ⟨vo, vc, hve⟩ := row_shape hvr
    have hf0 := cf 0; have hf2 := cf 2
    subst hke
    subst hve
    have hbm : b ≠ m := by
      rintro rfl
      obtain ⟨es, clock, h1, _⟩ := hm
      rw [h1] at hb; cases hb
    have hkm : ∀ g, (Value.slice ko ps.length kc).ownBlock = some g → g ≠ m ∧ g ≠ b := fun g hg => by
      obtain ⟨_, cur, hc⟩ := ownsRow_type hkr g hg
      refine ⟨?_, ?_⟩
      · rintro rfl; obtain ⟨es, clock, h1, _⟩ := hm; rw [h1] at hc; cases hc
      · rintro rfl; rw [hb] at hc; cases hc
    have hvm : ∀ g, (Value.slice vo ps.length vc).ownBlock = some g → g ≠ m ∧ g ≠ b := fun g hg => by
      obtain ⟨_, cur, hc⟩ := ownsRow_type hvr g hg
      refine ⟨?_, ?_⟩
      · rintro rfl; obtain ⟨es, clock, h1, _⟩ := hm; rw [h1] at hc; cases hc
      · rintro rfl; rw [hb] at hc; cases hc
    have hne := (by assumption : ∀ g, (Value.slice ko ps.length kc).ownBlock = some g → (Value.slice vo ps.length vc).ownBlock ≠ some g)
    have hF := (by assumption : F = b :: m :: ((Value.slice ko ps.length kc).ownBlock.toList ++ (Value.slice vo ps.length vc).ownBlock.toList))
    have hko : Kp [m] w w1 := ((Kp.refl [m] w).drew).from ⟨ho.os, ho.tape, ho.output, Nat.le_of_eq ho.size.symm, fun j hj hn => ho.block j (by simpa using hn)⟩
    have hkr1 := ownsRow_kp hkr hko (fun g hg hm => (hkm g hg).1 (by simpa using hm))
    have hvr1 := ownsRow_kp hvr hko (fun g hg hm => (hvm g hg).1 (by simpa using hm))
    have hb1 := (hko.block b (Array.getElem?_eq_some_iff.1 hb).1 (by simpa using hbm)).trans hb
    have hblt := (Array.getElem?_eq_some_iff.1 hb).1
    have hmlt := hm.lt
    obtain ⟨d0, d1, d2, df⟩ := cells3 hb1
    have df0 := df 0
    have H0 := Lib.hid (And.intro hkr1 (And.intro hvr1 (And.intro hb1 (And.intro hkm (And.intro hvm (And.intro hne (And.intro hF (And.intro hma (And.intro hko (And.intro hblt (And.intro hmlt (And.intro hi (And.intro hbm h.uniq)))))))))))))
    clear h hm hma hkr hvr hb cf df hbm hkm hvm hne hF ho hko hkr1 hvr1 hb1 hblt hmlt hi
    go_enter Tryz.func40, Tryz.ntmps40
    go_wp2
    go_region
    go_wp2_with (first | (at_builtin; go_loud (refine wpList_push1 rfl _ _ 22 rfl 0 9 (sv []) 16 Tryz.underlying22 infoS rfl (.slice ko ps.length kc) ps.length ((keysP ps).map sv) rfl H0.out.1 (sv k) w1.heap.size rfl rfl rfl (by unfold maxLen; omega) (by omega) (by omega) ?_); intro g1 cc1 w2 _ hown1 hk1 hlc1; have hb2 := (hk1.block b (Nat.lt_of_lt_of_le H0.out.2.2.2.2.2.2.2.2.2.1 H0.out.2.2.2.2.2.2.2.2.1.size) (fun hm => (H0.out.2.2.2.1 b (by simpa using hm)).2 rfl)).trans H0.out.2.2.1; obtain ⟨e0, e1, e2, ef⟩ := cells3 hb2; have ef0 := ef 0; have ef2 := ef 2; have H1 := Lib.hid (And.intro hown1 (And.intro hk1 (And.intro hlc1 (And.intro hb2 H0.out)))); clear H0 hown1 hk1 hlc1 hb2 ef d0 d1 d2) | (at_builtin; go_loud (refine wpList_push1 rfl _ _ 22 rfl 0 9 (sv []) 16 Tryz.underlying22 infoS rfl (.slice vo ps.length vc) ps.length ((valsP ps).map sv) rfl (H1.out.2.2.2.2.2 |> fun hvr => ownsRow_setCell_other (ownsRow_kp hvr.1 H1.out.2.1 (fun g hg hm => hvr.2.2.2.2.1 g (by simpa using hm) hg)) (a := ⟨b, 0, none⟩) (fun e => (hvr.2.2.2.1 b e).2 rfl) _) (sv v) w2.heap.size (by simp [World.setCell]) rfl rfl (by unfold maxLen; omega) (by omega) (by omega) ?_); intro g2 cc2 w3 _ hown2 hk2 hlc2; have hb3 := mid_b H1.out.2.2.2.1 hk2 (fun g hg => (H1.out.2.2.2.2.2.2.2.2.1 g hg).2); obtain ⟨f0, f1, f2, ff⟩ := cells3 hb3; have ff2 := ff 2; have H2 := Lib.hid (And.intro hown2 (And.intro hk2 hlc2)); clear hown2 hk2 hlc2 hb3 ff))
    go_end0
    obtain ⟨q1, q2, q3, q4, q5, q6, q7, q8, q9, q10, q11, q12, q13, q14, q15, q16, q17, q18⟩ := H1.out
    exact ⟨rfl, set_new_end q18 q5 q6 q8 q9 q10 q11 q17 q12 q13 q14 q15 q16 c1 q4 q1 q2 q3 H2.out.1 H2.out.2.1 H2.out.2.2⟩
  | some i =>
    obtain ⟨hlt, _, _⟩ := gI_some hi
    rw [hi] at hl
    obtain ⟨g, cp, rfl, hnc, hcm, _⟩ := row_slice hvr (by omega)
    unfold maxLen at hcm
    have hcell := hvr.cellAt i (by omega)
    have hv' : i < (valsP ps).length := by simpa [valsP] using hlt
    rw [List.getElem?_map, List.getElem?_eq_getElem hv'] at hcell
    have hcell : w.cell? ⟨g, i, none⟩ = some (.string ⟨((valsP ps)[i]).toArray⟩) := hcell
    have hfz := hvr.frozenAt i
    have i1 : (i : Int) < (cp : Int) := by omega
    have i2 : (i : Int) < (ps.length : Int) := by omega
    have HE := Lib.hid (fun (v : Bs) => set_same (v := v) h hi hb)
    clear hm hkr hvr hb h hi
    go_enter Tryz.func40, Tryz.ntmps40
    go_wp2
    refine bodyPost_ret (results_none rfl _ _ _) rfl ?_
    exact ⟨rfl, HE.out v⟩
end Go.Proofs.YteojlmpipfajoaaGreatDoor
namespace Go.Proofs.YteojlmpipfajoaaGreatDoor
set_option linter.unusedVariables false
set_option linter.unusedSimpArgs false
open Go.RowKit Go.MapKept Go.WideMaps

theorem pairs_take : ∀ (j : Nat) (ss : List Bs) (h : 2 * j + 1 < ss.length), pairsOf (ss.take (2 * (j + 1))) = pairsOf (ss.take (2 * j)) ++ [(ss[2 * j], ss[2 * j + 1])] := by
  intro j
  induction j with
  | zero =>
    intro ss h
    match ss, h with
    | a :: b :: r, _ => simp [pairsOf]
  | succ j ih =>
    intro ss h
    match ss, h with
    | a :: b :: r, h =>
      have hr : 2 * j + 1 < r.length := by simp at h; omega
      have := ih r hr
      have e1 : 2 * (j + 1 + 1) = 2 * (j + 1) + 1 + 1 := by omega
      have e2 : 2 * (j + 1) = 2 * j + 1 + 1 := by omega
      simp only [e1, List.take_succ_cons, pairsOf, this]
      simp only [e2, List.take_succ_cons, pairsOf, List.cons_append, List.getElem_cons_succ]
theorem pairs_end : ∀ (j : Nat) (ss : List Bs), ss.length ≤ 2 * j + 1 → pairsOf (ss.take (2 * j)) = pairsOf ss := by
  intro j
  induction j with
  | zero =>
    intro ss h
    match ss, h with
    | [], _ => rfl
    | [a], _ => rfl
  | succ j ih =>
    intro ss h
    match ss, h with
    | [], _ => rfl
    | [a], _ => rw [List.take_of_length_le (by simp <;> omega)]
    | a :: b :: r, h =>
      have e2 : 2 * (j + 1) = 2 * j + 1 + 1 := by omega
      simp only [e2, List.take_succ_cons, pairsOf]
      rw [ih r (by simp at h; omega)]
theorem pairs_len : ∀ (n : Nat) (ss : List Bs), ss.length ≤ n → (pairsOf ss).length ≤ ss.length := by
  intro n
  induction n with
  | zero =>
    intro ss h
    obtain rfl : ss = [] := List.length_eq_zero_iff.1 (by omega)
    simp [pairsOf]
  | succ n ih =>
    intro ss h
    match ss, h with
    | [], _ => simp [pairsOf]
    | [a], _ => simp [pairsOf]
    | a :: b :: r, h =>
      have := ih r (by simp at h; omega)
      simp only [pairsOf, List.length_cons]; omega
theorem add_len (a b : Prs) : (addP a b).length ≤ a.length + b.length := by
  induction b generalizing a with
  | nil => simp [add_nil]
  | cons p b ih =>
    have h1 := ih (setP a p.1 p.2)
    have h2 := (set_len a p.1 p.2).2
    rw [add_cons, List.length_cons]; omega
theorem TxtRow.at_ {w : World} {o : Option Addr} {n c : Nat} {ss : List Bs} (h : TxtRow w (.slice o n c) ss) : n = ss.length ∧ ss.length ≤ c ∧ c ≤ maxLen ∧ ∀ i (h : i < ss.length), ∃ b off, o = some ⟨b, off, none⟩ ∧ b < w.heap.size ∧ w.cell? ⟨b, off + i, none⟩ = some (sv ss[i]) := by
  obtain ⟨o', c', h1, h2, h3, h4⟩ := h
  cases h1
  exact ⟨rfl, h2, h3, h4⟩
/-- What holds at the loop's head of 'of'. -/
def OfR (w : World) (b : Nat) (ss : List Bs) (v4 : Value) (wr : World) : Prop := ∃ (j : Nat) (F : List Nat), 2 * j ≤ ss.length + 1 ∧ v4 = .int .i64 ((2 * j : Nat) : Int) ∧ Bk wr b F (addP [] (pairsOf (ss.take (2 * j)))) ∧ Below w.heap.size w wr ∧ ∀ d ∈ F, w.heap.size ≤ d
theorem of_step {w wr w2 : World} {b j n2 : Nat} {ss : List Bs} {F' F2 : List Nat} {k v : Bs} (hb : Bk wr b F' (addP [] (pairsOf (ss.take (2 * j))))) (hB : Below w.heap.size w wr) (hF : ∀ d ∈ F', w.heap.size ≤ d)
    (hp : pairsOf (ss.take (2 * (j + 1))) = pairsOf (ss.take (2 * j)) ++ [(k, v)]) (hn2 : n2 = 2 * j) (hlt : 2 * j + 1 < ss.length) (hk : Kp F' wr w2) (hb2 : Bk w2 b F2 (setP (addP [] (pairsOf (ss.take (2 * j)))) k v)) (hf2 : ∀ d ∈ F2, d ∈ F' ∨ wr.heap.size ≤ d) :
    OfR w b ss (.int .i64 ((n2 : Int) + 2)) w2 := by
  have hs := hB.size
  refine ⟨j + 1, F2, by omega, by rw [hn2]; congr 1, ?_, hB.trans (hk.below hs hF), fun d hd => ?_⟩
  · rw [hp, add_snoc]; exact hb2
  · rcases hf2 d hd with h | h
    · exact hF d h
    · omega
set_option maxRecDepth 100000 in
set_option maxHeartbeats 1600000 in
theorem of_any (v : Value) (ss : List Bs) (w : World) (hr : TxtRow w v ss) (hn : ss.length ≤ 1000000) (hl : ∀ x ∈ ss, x.length ≤ 1000000) :
    Calls Tryz.prog 70 #[v] w fun e w' => ∃ b F, e = .returned (.pointer (some ⟨b, 0, none⟩)) ∧ Bk w' b F (addP [] (pairsOf ss)) ∧ Below w.heap.size w w' ∧ ∀ d ∈ F, w.heap.size ≤ d := by
  obtain ⟨o, c, rfl, hlc, hcm, hcells⟩ := hr
  unfold maxLen at hcm
  have HC := Lib.hid hcells
  have HL := Lib.hid hl
  clear hcells hl
  go_enter Tryz.func70, Tryz.ntmps70
  go_wp2_with (go_at_call 83; refine (none_any _).mono ?_; rintro e w1 ⟨b, F, rfl, hb, hB, hF⟩; have H := Lib.hid (And.intro hb (And.intro hB hF)); clear hb hB hF)
  go_loopw [4] (fun v4 wr => OfR w b ss v4 wr) (fun v4 _ => ss.length + 2 - (intOf v4).toNat)
  case atStart => exact ⟨0, F, by omega, rfl, H.out.1, H.out.2.1, H.out.2.2⟩
  case round =>
    obtain ⟨j, F', hj, rfl, hb, hB, hF⟩ := hrel
    clear H
    by_cases hlt : 2 * j + 1 < ss.length
    · obtain ⟨cb, off, rfl, hbl, hc1⟩ := HC.out (2 * j) (by omega)
      obtain ⟨cb', off', he, _, hc2⟩ := HC.out (2 * j + 1) hlt
      cases he
      have hd1 := (hB.cell (p := ⟨cb, off + 2 * j, none⟩) hbl).trans hc1
      have hd2 := (hB.cell (p := ⟨cb, off + (2 * j + 1), none⟩) hbl).trans hc2
      have hp := pairs_take j ss hlt
      have hlk := HL.out _ (List.getElem_mem (show 2 * j < ss.length by omega))
      have hln := pairs_len _ (ss.take (2 * j)) (Nat.le_refl _)
      have hln2 := add_len [] (pairsOf (ss.take (2 * j)))
      have htl : (ss.take (2 * j)).length ≤ ss.length := by simp; omega
      generalize hk : ss[2 * j] = k at *
      generalize hv : ss[2 * j + 1] = v at *
      have HP := Lib.hid hp
      obtain ⟨n2, hn2⟩ : ∃ n : Nat, n = 2 * j := ⟨_, rfl⟩
      have HN2 := Lib.hid hn2
      have SET : Hid (∀ W, Bk W b F' (addP [] (pairsOf (ss.take (2 * j)))) → Calls Tryz.prog 40 #[.pointer (some ⟨b, 0, none⟩), .string ⟨k.toArray⟩, .string ⟨v.toArray⟩] W fun e w' => e = .returned (.tuple #[]) ∧ SetRes W b F' (setP (addP [] (pairsOf (ss.take (2 * j)))) k v) w') := fun W h => set_any h k v (by unfold maxLen; omega) (by simp at hln2; omega)
      have H := Lib.hid (And.intro hb (And.intro hB hF))
      rw [← hn2] at hd1 hd2 ⊢
      have i0 : (n2 : Int) + 1 < (ss.length : Int) := by omega
      have i1 : (n2 : Int) < (c : Int) := by omega
      have i2 : (n2 : Int) + 1 < (c : Int) := by omega
      have i4 : ((n2 : Int) + 1).toNat = n2 + 1 := by omega
      have i5 : (n2 : Int) < (ss.length : Int) := by omega
      have i6 : (0 : Int) ≤ (n2 : Int) + 1 := by omega
      have i7 : n2 < ss.length := by omega
      have i8 : n2 + 1 < ss.length := by omega
      have i9 : IntKind.i64.wrap ((n2 : Int) + 1) = (n2 : Int) + 1 := IntWalk.i64_in _ (by omega)
      clear hp hb hB hF hc1 hc2 hk hv hln hln2 htl hn2
      go_wp2
      go_region_with (go_at_call 40; refine (SET.out _ (H.out.1.keep ((Kp.refl [] _).drew) (by simp))).mono ?_; rintro e w2 ⟨rfl, F2, hb2, hk2, hf2, _⟩; have H2 := Lib.hid (And.intro hb2 (And.intro hk2 hf2)); clear hb2 hk2 hf2)
      all_goals
        go_wp2
        go_roundw
        case rel => exact of_step H.out.1 H.out.2.1 H.out.2.2 HP.out HN2.out hlt (((Kp.refl F' _).drew).from H2.out.2.1) H2.out.1 H2.out.2.2
        case measure => simp [intOf]; omega
    · have H := Lib.hid (And.intro hb (And.intro hB hF))
      have hp := pairs_end j ss (by omega)
      rw [hp] at H
      obtain ⟨n2, hn2⟩ : ∃ n : Nat, n = 2 * j := ⟨_, rfl⟩
      rw [← hn2]
      have i0 : ¬ (n2 : Int) + 1 < (ss.length : Int) := by omega
      have i3 : (n2 : Int) + 1 ≤ 9223372036854775807 := by omega
      clear hb hB hF hp hn2
      go_wp2
      go_ret
      exact ⟨b, rfl, F', H.out.1, H.out.2.1, H.out.2.2⟩
end Go.Proofs.YteojlmpipfajoaaGreatDoor
