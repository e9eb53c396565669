/- A dictionary while it is changed (package dict): what lies in memory; none, set, get. -/
import Derived.Test.YtpaffocniniakaaPush1
import Derived.Test.YtpaffocniniakaaLJoin
import Derived.Test.YtpaffocniniakaaLDict
import Derived.BigRegion
import Derived.RegionTactic
namespace Go.Proofs.Ytpaffocniniakaa
set_option linter.unusedVariables false
set_option linter.unusedSimpArgs false
open Go.RowKit Go.MapKept Go.WideMaps
open Go.Maps (Keyed string_keyed)

def valsP (a : Prs) : List Bs := a.map (·.2)
def idxK : List Bs → Bs → Option Nat
  | [], _ => none
  | a :: r, k => if a = k then some 0 else (idxK r k).map (· + 1)
theorem idxK_none {ks : List Bs} {k : Bs} : idxK ks k = none ↔ k ∉ ks := by
  induction ks with
  | nil => simp [idxK]
  | cons a r ih =>
    unfold idxK
    by_cases e : a = k
    · simp [e]
    · rw [if_neg e]
      simp only [Option.map_eq_none_iff, ih, List.mem_cons, not_or]
      exact ⟨fun h => ⟨fun e' => e e'.symm, h⟩, fun h => h.2⟩
theorem idxK_some {ks : List Bs} {k : Bs} {i : Nat} (h : idxK ks k = some i) : ∃ hi : i < ks.length, ks[i] = k := by
  induction ks generalizing i with
  | nil => cases h
  | cons a r ih =>
    unfold idxK at h
    by_cases e : a = k
    · rw [if_pos e] at h; cases h; exact ⟨by simp, e⟩
    · rw [if_neg e] at h
      cases hr : idxK r k with
      | none => rw [hr] at h; cases h
      | some j =>
        rw [hr] at h; cases h
        obtain ⟨hj, hk⟩ := ih hr
        exact ⟨by simpa using hj, by simpa using hk⟩
theorem idxK_snoc {ks : List Bs} {k' : Bs} (h : k' ∉ ks) (k : Bs) : idxK (ks ++ [k']) k = if k = k' then some ks.length else idxK ks k := by
  induction ks with
  | nil =>
    simp only [List.nil_append, idxK]
    by_cases e : k' = k
    · rw [if_pos e, if_pos e.symm]; rfl
    · rw [if_neg e, if_neg (fun h => e h.symm)]; rfl
  | cons a r ih =>
    simp only [List.mem_cons, not_or] at h
    rw [List.cons_append, idxK, ih h.2, idxK]
    by_cases e : a = k
    · have : k ≠ k' := fun e' => h.1 (e'.symm.trans e.symm)
      rw [if_pos e, if_neg this, if_pos e]
    · rw [if_neg e, if_neg e]
      split <;> simp
theorem set_old {a : Prs} {k v : Bs} {i : Nat} (h : idxK (keysP a) k = some i) : keysP (setP a k v) = keysP a ∧ valsP (setP a k v) = (valsP a).set i v ∧ (setP a k v).length = a.length := by
  induction a generalizing i with
  | nil => cases h
  | cons p a ih =>
    rw [show keysP (p :: a) = p.1 :: keysP a from rfl, idxK] at h
    rw [setP]
    by_cases e : p.1 = k
    · rw [if_pos e] at h ⊢
      cases h
      exact ⟨by simp [keysP, e], by simp [valsP], by simp⟩
    · rw [if_neg e] at h ⊢
      cases hr : idxK (keysP a) k with
      | none => rw [hr] at h; cases h
      | some j =>
        rw [hr] at h; cases h
        obtain ⟨h1, h2, h3⟩ := ih hr
        exact ⟨by simp only [keysP, List.map_cons] at h1 ⊢; rw [h1], by simp only [valsP, List.map_cons] at h2 ⊢; rw [h2]; rfl, by simp [h3]⟩
theorem get_idx {a : Prs} {k : Bs} : getP a k = (idxK (keysP a) k).bind fun i => (valsP a)[i]? := by
  induction a with
  | nil => rfl
  | cons p a ih =>
    rw [getP, show keysP (p :: a) = p.1 :: keysP a from rfl, idxK]
    by_cases e : p.1 = k
    · rw [if_pos e, if_pos e]; rfl
    · rw [if_neg e, if_neg e, ih]
      cases idxK (keysP a) k with
      | none => rfl
      | some j => rfl

theorem sv_inj (a b : Bs) (h : sv a = sv b) : a = b := by
  injection h with h
  injection h with h
  simpa using congrArg Array.toList h
theorem Skeyed : Keyed Try.prog 9 := string_keyed Try.underlying9
theorem skey {s : Bs} (hs : s.length ≤ maxLen) : keyOf Try.prog 9 (sv s) = some (.string s) := WideMaps.keyOf_string_mk Try.underlying9 (by simpa [ByteArray.size] using hs)
theorem zero_int (w : World) : (zeroValue 3).run Try.prog w = .ok (.int .i64 0) w := by kernel_rfl
def gI (a : Prs) (k : Bs) : Option Value := (idxK (keysP a) k).map fun i => .int .i64 (i : Int)

/-- A book at block b, with the blocks that it has. -/
structure Bk (w : World) (b : Nat) (F : List Nat) (ps : Prs) : Prop where
  uniq : Uniq ps
  ex : ∃ (kv vv : Value) (m : Nat), w.heap[b]? = some (.cells #[kv, .map (some m), vv] 45 (0, 0)) ∧ w.ownsRow 0 9 1 kv ps.length ((keysP ps).map sv) ∧ w.ownsRow 0 9 1 vv ps.length ((valsP ps).map sv) ∧ MapAt Try.prog 9 sv w m (gI ps) ∧ F = b :: m :: (kv.ownBlock.toList ++ vv.ownBlock.toList) ∧ ∀ g, kv.ownBlock = some g → vv.ownBlock ≠ some g
theorem Bk.lt {w : World} {b : Nat} {F : List Nat} {ps : Prs} (h : Bk w b F ps) : ∀ d ∈ F, d < w.heap.size := by
  obtain ⟨kv, vv, m, hb, hk, hv, hm, rfl, _⟩ := h.ex
  intro d hd
  simp only [List.mem_cons, List.mem_append, Option.mem_toList] at hd
  rcases hd with rfl | rfl | hd | hd
  · exact (Array.getElem?_eq_some_iff.1 hb).1
  · exact hm.lt
  · exact (hk.lt d hd).2
  · exact (hv.lt d hd).2
theorem Bk.mem {w : World} {b : Nat} {F : List Nat} {ps : Prs} (h : Bk w b F ps) : b ∈ F := by
  obtain ⟨kv, vv, m, _, _, _, _, rfl, _⟩ := h.ex
  simp
theorem Bk.keep {w w' : World} {b : Nat} {F D : List Nat} {ps : Prs} (h : Bk w b F ps) (k : Kp D w w') (hd : ∀ d ∈ F, d ∉ D) : Bk w' b F ps := by
  have hlt := h.lt
  obtain ⟨kv, vv, m, hb, hk, hv, hm, hF, hne⟩ := h.ex
  have key : ∀ d ∈ F, w'.heap[d]? = w.heap[d]? := fun d hdF => k.block d (hlt d hdF) (hd d hdF)
  refine ⟨h.uniq, kv, vv, m, (key b (by rw [hF]; simp)).trans hb, ownsRow_kp hk k (fun g hg => hd g (by rw [hF]; simp [hg])), ownsRow_kp hv k (fun g hg => hd g (by rw [hF]; simp [hg])), hm.congr (key m (by rw [hF]; simp)), hF, hne⟩
theorem Bk.below {w w' : World} {b : Nat} {F : List Nat} {ps : Prs} (h : Bk w b F ps) (k : Below w.heap.size w w') : Bk w' b F ps := h.keep (kp_of_below k) (by simp)

theorem cells3 {W : World} {b : Nat} {u v x : Value} {t : TypeId} (h : W.heap[b]? = some (.cells #[u, v, x] t (0, 0))) : W.cell? ⟨b, 0, none⟩ = some u ∧ W.cell? ⟨b, 1, none⟩ = some v ∧ W.cell? ⟨b, 2, none⟩ = some x ∧ ∀ i, W.frozen? ⟨b, i, none⟩ = false := by
  refine ⟨?_, ?_, ?_, fun i => by simp [World.frozen?, h]⟩ <;> (simp only [World.cell?, h]; rfl)
set_option maxHeartbeats 400000 in
theorem none_any (w : World) : Calls Try.prog 34 #[] w fun e w' => ∃ b F, e = .returned (.pointer (some ⟨b, 0, none⟩)) ∧ Bk w' b F [] ∧ Below w.heap.size w w' ∧ ∀ d ∈ F, w.heap.size ≤ d := by
  have hmk := fun W : World => run_makeMap (P := Try.prog) (w := W) 41
  have hm0 := mapAt_new Try.prog 9 sv w
  have HM := Lib.hid hm0
  clear hm0
  go_enter Try.func34, Try.ntmps34
  go_wp2
  go_ret
  have hb := heap_alloc_new (w.alloc (.map #[] 0)) (.cells #[.slice none 0 0, .map (some w.heap.size), .slice none 0 0] 45)
  simp only [World.size_alloc] at hb
  refine ⟨_, _, rfl, ⟨uniq_nil, .slice none 0 0, .slice none 0 0, w.heap.size, hb, World.ownsRow_nil _ _ _ _, World.ownsRow_nil _ _ _ _, HM.out.congr (Below.heap_alloc _ _ _ (by simp)), rfl, by simp [Value.ownBlock]⟩, ((Below.refl _ w).alloc (Nat.le_refl _) _).alloc (by simp) _, ?_⟩
  simp [Value.ownBlock]

theorem gI_some {a : Prs} {k : Bs} {i : Nat} (h : idxK (keysP a) k = some i) : i < a.length ∧ (valsP a)[i]? = getP a k ∧ ∃ v, getP a k = some v := by
  obtain ⟨hi, _⟩ := idxK_some h
  have hi' : i < a.length := by simpa [keysP] using hi
  have hv : i < (valsP a).length := by simpa [valsP] using hi'
  refine ⟨hi', ?_, ?_⟩
  · rw [get_idx, h]; rfl
  · rw [get_idx, h]; exact ⟨_, List.getElem?_eq_getElem hv⟩
theorem row_slice {W : World} {base : Nat} {e : TypeId} {v : Value} {n : Nat} {xs : List Value} (h : W.ownsRow base e 1 v n xs) (hn : 0 < n) : ∃ g c, v = .slice (some ⟨g, 0, none⟩) n c ∧ n ≤ c ∧ c ≤ maxLen ∧ g < W.heap.size := by
  rcases h.2 with ⟨_, h0⟩ | ⟨g, cap, cur, rfl, _, hg, h1, h2, _⟩
  · omega
  · exact ⟨g, cap, rfl, h1, h2, (Array.getElem?_eq_some_iff.1 hg).1⟩
set_option maxRecDepth 100000 in
set_option maxHeartbeats 800000 in
theorem get_any {w : World} {b : Nat} {F : List Nat} {ps : Prs} (h : Bk w b F ps) (k : Bs) (hk : k.length ≤ maxLen) :
    Calls Try.prog 31 #[.pointer (some ⟨b, 0, none⟩), .string ⟨k.toArray⟩] w fun e w' => e = .returned (.tuple #[.string ⟨((getP ps k).getD []).toArray⟩, .bool (getP ps k).isSome]) ∧ w' = w := by
  obtain ⟨kv, vv, m, hb, hkr, hvr, hm, _, _⟩ := h.ex
  obtain ⟨c0, c1, c2, _⟩ := cells3 hb
  have hl := look_ok hm Skeyed (t := 41) (et := 3) Try.underlying41 (z := .int .i64 0) (zero_int w) (skey hk)
  rw [show sv k = (Value.string ⟨k.toArray⟩) from rfl] at hl
  unfold gI at hl
  cases hi : idxK (keysP ps) k with
  | none =>
    have hg : getP ps k = none := by rw [get_idx, hi]; rfl
    rw [hi] at hl
    rw [hg]
    clear hm hkr hvr hb h
    go_enter Try.func31, Try.ntmps31
    go_wp2
    go_ret2
    exact ⟨rfl, rfl⟩
  | some i =>
    obtain ⟨hlt, hv1, v, hv2⟩ := gI_some hi
    rw [hi] at hl
    rw [hv2] at hv1 ⊢
    obtain ⟨g, cp, rfl, hnc, hcm, _⟩ := row_slice hvr (by omega)
    unfold maxLen at hcm
    have hcell := hvr.cellAt i (by omega)
    rw [List.getElem?_map, hv1] at hcell
    have hcell : w.cell? ⟨g, i, none⟩ = some (.string ⟨v.toArray⟩) := hcell
    have i1 : (i : Int) < (cp : Int) := by omega
    have i2 : (i : Int) < (ps.length : Int) := by omega
    clear hm hkr hvr hb h hv1 hv2 hi
    go_enter Try.func31, Try.ntmps31
    go_wp2
    go_ret2
    exact ⟨rfl, rfl⟩

/-- A book behind 'set', with what it may have written. -/
def SetRes (w : World) (b : Nat) (F : List Nat) (ps : Prs) (w' : World) : Prop := ∃ F', Bk w' b F' ps ∧ Kp F w w' ∧ (∀ d ∈ F', d ∈ F ∨ w.heap.size ≤ d) ∧ w'.cell? ⟨b, 1, none⟩ = w.cell? ⟨b, 1, none⟩
theorem set_same {w : World} {b : Nat} {F : List Nat} {ps : Prs} (h : Bk w b F ps) {k v : Bs} {i : Nat} (hi : idxK (keysP ps) k = some i) {kv : Value} {m g cp : Nat} (hb : w.heap[b]? = some (.cells #[kv, .map (some m), .slice (some ⟨g, 0, none⟩) ps.length cp] 45 (0, 0))) :
    SetRes w b F (setP ps k v) (w.setCell ⟨g, i, none⟩ (.string ⟨v.toArray⟩)) := by
  obtain ⟨kv', vv, m', hb', hkr, hvr, hm, hF, hne⟩ := h.ex
  rw [hb] at hb'
  cases hb'
  obtain ⟨s1, s2, s3⟩ := set_old (v := v) hi
  have hst := (hvr.stored i (sv v)).1
  have hgF : g ∈ F := by rw [hF]; simp [Value.ownBlock]
  have hgb : b ≠ g := by
    rintro rfl
    rcases hvr.2 with ⟨h0, _⟩ | ⟨g', cap, cur, h1, _, hg, _⟩
    · cases h0
    · cases h1; rw [hb] at hg; cases hg
  have hgm : m ≠ g := by
    rintro rfl
    obtain ⟨es, clock, h1, _⟩ := hm
    rcases hvr.2 with ⟨h0, _⟩ | ⟨g', cap, cur, h2, _, hg, _⟩
    · cases h0
    · cases h2; rw [h1] at hg; cases hg
  have hK : Kp F w (w.setCell ⟨g, i, none⟩ (.string ⟨v.toArray⟩)) := (Kp.refl F w).setCell g i _ (.inl hgF)
  refine ⟨F, ⟨set_uniq h.uniq k v, kv, .slice (some ⟨g, 0, none⟩) ps.length cp, m, (Below.heap_setCell w ⟨g, i, none⟩ _ b hgb).trans hb, ?_, ?_, ?_, hF, hne⟩, hK, fun d hd => .inl hd, by simp only [World.cell?, Below.heap_setCell w ⟨g, i, none⟩ _ b hgb]⟩
  · rw [s1, s3]
    refine ownsRow_kp hkr ((Kp.refl [g] w).setCell g i _ (.inl (by simp))) (fun g' hg' hm => ?_)
    simp at hm; subst hm
    exact hne _ hg' rfl
  · rw [s2, s3, List.map_set]; exact hst
  · have : gI (setP ps k v) = gI ps := by funext k'; unfold gI; rw [s1]
    rw [this]
    exact hm.congr (Below.heap_setCell w ⟨g, i, none⟩ _ m hgm)
/-- A book's blocks are cells, but for its map. -/
theorem Bk.cells_or {w : World} {b m : Nat} {F : List Nat} {ps : Prs} (h : Bk w b F ps) (hm : w.cell? ⟨b, 1, none⟩ = some (.map (some m))) : m ∈ F ∧ ∀ d ∈ F, d ≠ m → ∃ c t, w.heap[d]? = some (.cells c t (0, 0)) := by
  obtain ⟨kv, vv, m', hb, hk, hv, hmm, rfl, _⟩ := h.ex
  have e := (cells3 hb).2.1.symm.trans hm
  cases e
  refine ⟨by simp, fun d hd hne => ?_⟩
  simp only [List.mem_cons, List.mem_append, Option.mem_toList] at hd
  rcases hd with rfl | rfl | hd | hd
  · exact ⟨_, _, hb⟩
  · exact absurd rfl hne
  · obtain ⟨_, cur, hc⟩ := ownsRow_type hk d hd; exact ⟨_, _, hc⟩
  · obtain ⟨_, cur, hc⟩ := ownsRow_type hv d hd; exact ⟨_, _, hc⟩
end Go.Proofs.Ytpaffocniniakaa
