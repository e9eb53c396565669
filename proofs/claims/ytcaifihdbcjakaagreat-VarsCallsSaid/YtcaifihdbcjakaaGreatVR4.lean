/- The reference's names and cells: place, found, At, inner. -/
import Derived.Test.YtcaifihdbcjakaaGreatVR3
namespace Go.Proofs.YtcaifihdbcjakaaGreat
set_option linter.unusedVariables false
set_option linter.unusedSimpArgs false
open Go.RowKit

set_option maxHeartbeats 400000 in
theorem place_any {w : World} {nm own : Nat} {name : Bs} (h : w.heap[nm]? = some (nmB name own)) :
    Calls Tryz.prog 79 #[.pointer (some ⟨nm, 0, none⟩)] w fun e w' => e = .returned (.agg #[.pointer (some ⟨own, 0, none⟩), .bool false, .string ⟨#[]⟩]) ∧ Below w.heap.size w w' := by
  have hl : nm < w.heap.size := (Array.getElem?_eq_some_iff.1 h).1
  have c1 : w.cell? ⟨nm, 1, none⟩ = some (.pointer (some ⟨own, 0, none⟩)) := by simp only [World.cell?, h]; rfl
  have c2 : w.cell? ⟨nm, 2, none⟩ = some (.pointer none) := by simp only [World.cell?, h]; rfl
  have HB : Hid (∀ o, Below w.heap.size w (w.alloc o)) := fun o => (Below.refl _ w).alloc (Nat.le_refl _) o
  go_enter Tryz.func79, Tryz.ntmps79
  go_wp2_with fail
  exact bodyPost_ret (v := .agg #[.pointer (some ⟨own, 0, none⟩), .bool false, .string ⟨#[]⟩]) (by simp [results, Tryz.results79, go_sem]) rfl ⟨rfl, HB.out _⟩

theorem cells4 {w : World} {b : Nat} {x0 x1 x2 x3 : Value} {t : TypeId} (h : w.heap[b]? = some (.cells #[x0, x1, x2, x3] t (0, 0))) :
    (w.cell? ⟨b, 0, none⟩ = some x0 ∧ w.cell? ⟨b, 1, none⟩ = some x1 ∧ w.cell? ⟨b, 2, none⟩ = some x2 ∧ w.cell? ⟨b, 3, none⟩ = some x3) ∧ (w.frozen? ⟨b, 0, none⟩ = false ∧ w.frozen? ⟨b, 1, none⟩ = false ∧ w.frozen? ⟨b, 2, none⟩ = false ∧ w.frozen? ⟨b, 3, none⟩ = false) ∧ b < w.heap.size := by
  refine ⟨⟨?_, ?_, ?_, ?_⟩, ⟨?_, ?_, ?_, ?_⟩, (Array.getElem?_eq_some_iff.1 h).1⟩
  all_goals first | (simp only [World.cell?, h]; rfl) | simp [World.frozen?, h]
theorem was_new {w w1 : World} {o : Obj} (h : Below (w.alloc o).heap.size (w.alloc o) w1) : w1.heap[w.heap.size]? = some o :=
  (h.block _ (by simp)).trans (heap_alloc_new w o)
theorem below_new {w w1 : World} {o : Obj} (h : Below (w.alloc o).heap.size (w.alloc o) w1) : Below w.heap.size w w1 :=
  ((Below.refl _ w).alloc (Nat.le_refl _) o).trans (h.mono (by simp))

abbrev fndV (d : Nat) (el : Bool) (ar : Option Nat) : Value := .agg #[.pointer (some ⟨d, 0, none⟩), .bool el, .bool false, .pointer (ar.map fun b => ⟨b, 0, none⟩)]

set_option maxHeartbeats 400000 in
theorem found_any {w : World} {nm own : Nat} {name : Bs} (h : w.heap[nm]? = some (nmB name own)) :
    Calls Tryz.prog 70 #[.pointer (some ⟨nm, 0, none⟩)] w fun e w' => e = .returned (fndV own false none) ∧ Below w.heap.size w w' := by
  have hl : nm < w.heap.size := (Array.getElem?_eq_some_iff.1 h).1
  have HP : Hid (∀ o, Calls Tryz.prog 79 #[.pointer (some ⟨nm, 0, none⟩)] (w.alloc o) fun e w' => e = .returned (.agg #[.pointer (some ⟨own, 0, none⟩), .bool false, .string ⟨#[]⟩]) ∧ Below (w.alloc o).heap.size (w.alloc o) w') := fun o => place_any (by rw [Below.heap_alloc _ _ _ hl]; exact h)
  go_enter Tryz.func70, Tryz.ntmps70
  go_wp2_with (go_at_call 79; refine (HP.out _).mono ?_; rintro e w1 ⟨rfl, hb1⟩; obtain ⟨⟨c0, c1, c2, c3⟩, ⟨f0, f1, f2, f3⟩, hz⟩ := cells4 (was_new hb1); have HB := Lib.hid (below_new hb1); clear hb1)
  exact bodyPost_ret (v := fndV own false none) (by simp [results, Tryz.results70, go_sem, c0, c1, c2, c3, hz]) rfl ⟨rfl, (((((HB.out.setCell (Nat.le_refl _) _).setCell (Nat.le_refl _) _).setCell (Nat.le_refl _) _).setCell (Nat.le_refl _) _).alloc (by simp [World.setCell]; omega) _).alloc (by simp [World.setCell]; omega) _⟩

/-- A cell that is not set, with its elements (not set). -/
structure Cel (B : Nat) (w : World) (c : Nat) (kv cv ofv : Value) (K : List (Bs × Nat)) : Prop where
  blk : w.heap[c]? = some (clB kv cv ofv)
  lo : B ≤ c
  ko : w.ownsRow B 9 1 kv K.length (K.map fun t => sv t.1)
  co : w.ownsRow B 88 1 cv K.length (K.map fun t => pv (some t.2))
  el : ∀ t ∈ K, w.heap[t.2]? = some (clB nilS nilS (pv (some c)))
  ne : ∀ t ∈ K, t.2 ≠ c

theorem Cel.keep {B : Nat} {w w' : World} {c : Nat} {kv cv ofv : Value} {K : List (Bs × Nat)} (h : Cel B w c kv cv ofv K) {D : List Nat} (hk : Kp D w w') (h1 : c ∉ D) (h2 : ∀ b, kv.ownBlock = some b → b ∉ D) (h3 : ∀ b, cv.ownBlock = some b → b ∉ D) (h4 : ∀ t ∈ K, t.2 ∉ D) : Cel B w' c kv cv ofv K :=
  ⟨(hk.block _ (Array.getElem?_eq_some_iff.1 h.blk).1 h1).trans h.blk, h.lo, ownsRow_kp h.ko hk h2, ownsRow_kp h.co hk h3, fun t ht => (hk.block _ (Array.getElem?_eq_some_iff.1 (h.el t ht)).1 (h4 t ht)).trans (h.el t ht), h.ne⟩

theorem Cel.fresh {B : Nat} {w : World} {c : Nat} {ofv : Value} (h : w.heap[c]? = some (clB nilS nilS ofv)) (hB : B ≤ c) : Cel B w c nilS nilS ofv [] :=
  ⟨h, hB, World.ownsRow_nil _ _ _ _, World.ownsRow_nil _ _ _ _, by simp, by simp⟩

theorem cell9 {w : World} {c : Nat} {kv cv ofv : Value} (h : w.heap[c]? = some (clB kv cv ofv)) :
    w.cell? ⟨c, 0, none⟩ = some (.bool false) ∧ w.cell? ⟨c, 1, none⟩ = some (.bool false) ∧ w.cell? ⟨c, 2, none⟩ = some (.string ⟨#[]⟩) ∧ w.cell? ⟨c, 3, none⟩ = some kv ∧ w.cell? ⟨c, 4, none⟩ = some cv ∧ w.cell? ⟨c, 8, none⟩ = some (.int .i64 0) ∧ (∀ i, w.frozen? ⟨c, i, none⟩ = false) ∧ c < w.heap.size := by
  refine ⟨?_, ?_, ?_, ?_, ?_, ?_, fun i => ?_, (Array.getElem?_eq_some_iff.1 h).1⟩
  all_goals first | (simp only [World.cell?, h]; rfl) | simp [World.frozen?, h]

def AtRes (B : Nat) (w : World) (c : Nat) (kv cv ofv : Value) (K : List (Bs × Nat)) (idx : Bs) (e : Ending) (w' : World) : Prop :=
  ∃ d kv' cv' K', e = .returned (.pointer (some ⟨d, 0, none⟩)) ∧ Cel B w' c kv' cv' ofv K' ∧ Kp (c :: kv.ownBlock.toList ++ cv.ownBlock.toList) w w' ∧ (idx, d) ∈ K' ∧ ((idx, d) ∈ K ∧ K' = K ∧ w' = w ∨ K' = K ++ [(idx, d)] ∧ (∀ t ∈ K, t.1 ≠ idx) ∧ w.heap.size ≤ d)

/-- Between the two appends. -/
structure Mid (B : Nat) (w W : World) (c : Nat) (kv cv ofv : Value) (K : List (Bs × Nat)) (idx : Bs) (v : Value) : Prop where
  blk : W.heap[c]? = some (clB v cv ofv)
  ko : W.ownsRow B 9 1 v (K.length + 1) (K.map (fun t => sv t.1) ++ [sv idx])
  co : W.ownsRow B 88 1 cv K.length (K.map fun t => pv (some t.2))
  el : ∀ t ∈ K ++ [(idx, w.heap.size)], W.heap[t.2]? = some (clB nilS nilS (pv (some c)))
  kp : Kp (c :: kv.ownBlock.toList) w W
  ne : ∀ t ∈ K ++ [(idx, w.heap.size)], t.2 ≠ c

theorem at_mid {B : Nat} {w w1 : World} {c : Nat} {kv cv ofv : Value} {K : List (Bs × Nat)} {idx : Bs} {g cap : Nat} (h : Cel B w c kv cv ofv K)
    (hown : w1.ownsRow B 9 1 (.slice (some ⟨g, 0, none⟩) (K.length + 1) cap) (K.length + 1) (K.map (fun t => sv t.1) ++ [sv idx])) (hk : Kp kv.ownBlock.toList (w.alloc (clB nilS nilS (pv (some c)))) w1) :
    Mid B w (w1.setCell ⟨c, 3, none⟩ (.slice (some ⟨g, 0, none⟩) (K.length + 1) cap)) c kv cv ofv K idx (.slice (some ⟨g, 0, none⟩) (K.length + 1) cap) := by
  have hty : ∀ b, kv.ownBlock = some b → b < w.heap.size ∧ ∃ cur, w.heap[b]? = some (.cells cur 9 (0, 0)) := fun b hb => by
    obtain ⟨_, cur, hc⟩ := ownsRow_type h.ko b hb; exact ⟨(Array.getElem?_eq_some_iff.1 hc).1, cur, hc⟩
  have hk0 : Kp kv.ownBlock.toList w w1 := ((Kp.refl [] w).alloc _).mono (D' := kv.ownBlock.toList) (by simp) |>.trans hk (fun d hd => .inl hd)
  have old : ∀ (b : Nat) (x : Array Value) (t : TypeId), w.heap[b]? = some (Obj.cells x t (0, 0)) → t ≠ 9 → w1.heap[b]? = some (Obj.cells x t (0, 0)) := fun b x t hb ht => by
    refine (hk0.block b (Array.getElem?_eq_some_iff.1 hb).1 (fun hm => ?_)).trans hb
    rw [Option.mem_toList] at hm
    obtain ⟨_, cur, hc⟩ := hty b hm
    exact ne_of_type hb hc ht rfl
  have hcb := old c _ _ h.blk (by decide)
  have hcl : c < w.heap.size := (Array.getElem?_eq_some_iff.1 h.blk).1
  have hgc : g ≠ c := by
    obtain ⟨_, cur, hc⟩ := ownsRow_type hown g rfl
    exact ne_of_type hc hcb (by decide)
  have hkk : Kp [c] w1 (w1.setCell ⟨c, 3, none⟩ (.slice (some ⟨g, 0, none⟩) (K.length + 1) cap)) := (Kp.refl _ w1).setCell _ _ _ (by simp)
  refine ⟨heap_setCell_same _ _ _ _ _ _ hcb, ownsRow_kp hown hkk (fun b hb => by simp [Value.ownBlock] at hb; subst hb; simpa using hgc), ?_, ?_, ?_, ?_⟩
  · refine ownsRow_kp (ownsRow_kp h.co hk0 (fun b hb hm => ?_)) hkk (fun b hb => ?_)
    · rw [Option.mem_toList] at hm
      obtain ⟨_, cur, hc⟩ := ownsRow_type h.co b hb
      obtain ⟨_, cur', hc'⟩ := hty b hm
      exact ne_of_type hc hc' (by decide) rfl
    · obtain ⟨_, cur, hc⟩ := ownsRow_type h.co b hb
      simpa using ne_of_type hc h.blk (by decide)
  · intro t ht
    rw [List.mem_append, List.mem_singleton] at ht
    rcases ht with ht | rfl
    · have hn := h.el t ht
      have hne : t.2 ≠ c := h.ne t ht
      rw [Below.heap_setCell w1 ⟨c, 3, none⟩ _ _ hne]
      exact old _ _ _ hn (by decide)
    · rw [Below.heap_setCell w1 ⟨c, 3, none⟩ _ _ (by simp only; omega)]
      refine (hk.block _ (by simp) (fun hm => ?_)).trans (heap_alloc_new w _)
      rw [Option.mem_toList] at hm
      have := (hty _ hm).1; omega
  · exact (hk0.mono (D' := c :: kv.ownBlock.toList) (by simp; intro d hd; exact .inr hd)).setCell _ _ _ (by simp)
  · intro t ht
    rw [List.mem_append, List.mem_singleton] at ht
    rcases ht with ht | rfl
    · exact h.ne t ht
    · simp only; omega

theorem at_end {B : Nat} {w W w2 : World} {c : Nat} {kv cv ofv v : Value} {K : List (Bs × Nat)} {idx : Bs} {g cap : Nat} (h : Cel B w c kv cv ofv K) (hm : Mid B w W c kv cv ofv K idx v) (hno : ∀ t ∈ K, t.1 ≠ idx)
    (hown : w2.ownsRow B 88 1 (.slice (some ⟨g, 0, none⟩) (K.length + 1) cap) (K.length + 1) (K.map (fun t => pv (some t.2)) ++ [pv (some w.heap.size)])) (hk : Kp cv.ownBlock.toList W w2) :
    AtRes B w c kv cv ofv K idx (.returned (pv (some w.heap.size))) (w2.setCell ⟨c, 4, none⟩ (.slice (some ⟨g, 0, none⟩) (K.length + 1) cap)) := by
  have hty : ∀ b, cv.ownBlock = some b → ∃ cur, W.heap[b]? = some (.cells cur 88 (0, 0)) := fun b hb => by
    obtain ⟨_, cur, hc⟩ := ownsRow_type hm.co b hb; exact ⟨cur, hc⟩
  have old : ∀ (b : Nat) (x : Array Value) (t : TypeId), W.heap[b]? = some (Obj.cells x t (0, 0)) → t ≠ 88 → w2.heap[b]? = some (Obj.cells x t (0, 0)) := fun b x t hb ht => by
    refine (hk.block b (Array.getElem?_eq_some_iff.1 hb).1 (fun hm => ?_)).trans hb
    rw [Option.mem_toList] at hm
    obtain ⟨cur, hc⟩ := hty b hm
    exact ne_of_type hb hc ht rfl
  have hcb := old c _ _ hm.blk (by decide)
  have hgc : g ≠ c := by
    obtain ⟨_, cur, hc⟩ := ownsRow_type hown g rfl
    exact ne_of_type hc hcb (by decide)
  have hkk : Kp [c] w2 (w2.setCell ⟨c, 4, none⟩ (.slice (some ⟨g, 0, none⟩) (K.length + 1) cap)) := (Kp.refl _ w2).setCell _ _ _ (by simp)
  refine ⟨w.heap.size, v, .slice (some ⟨g, 0, none⟩) (K.length + 1) cap, K ++ [(idx, w.heap.size)], rfl, ⟨heap_setCell_same _ _ _ _ _ _ hcb, h.lo, ?_, ?_, ?_, hm.ne⟩, ?_, by simp, .inr ⟨rfl, hno, Nat.le_refl _⟩⟩
  · have := ownsRow_kp (ownsRow_kp hm.ko hk (fun b hb hd => ?_)) hkk (fun b hb => ?_)
    · simpa using this
    · rw [Option.mem_toList] at hd
      obtain ⟨_, cur, hc⟩ := ownsRow_type hm.ko b hb
      obtain ⟨cur', hc'⟩ := hty b hd
      exact ne_of_type hc hc' (by decide) rfl
    · obtain ⟨_, cur, hc⟩ := ownsRow_type hm.ko b hb
      simpa using ne_of_type hc hm.blk (by decide)
  · have := ownsRow_kp hown hkk (fun b hb => by simp [Value.ownBlock] at hb; subst hb; simpa using hgc)
    simpa using this
  · intro t ht
    rw [Below.heap_setCell w2 ⟨c, 4, none⟩ _ _ (hm.ne t ht)]
    exact old _ _ _ (hm.el t ht) (by decide)
  · refine ((hm.kp.mono (D' := c :: kv.ownBlock.toList ++ cv.ownBlock.toList) (by simp; grind)).trans hk (fun d hd => .inl (by simp at hd ⊢; exact .inr (.inr hd)))).setCell _ _ _ (by simp)

theorem at_old {B : Nat} {w w1 : World} {c : Nat} {kv cv ofv : Value} {K : List (Bs × Nat)} {o : Obj} (h : Cel B w c kv cv ofv K) (hk : Kp kv.ownBlock.toList (w.alloc o) w1) : w1.heap[c]? = some (clB kv cv ofv) := by
  have hcl : c < w.heap.size := (Array.getElem?_eq_some_iff.1 h.blk).1
  refine (hk.block c (by simp; omega) (fun hm => ?_)).trans ((Below.heap_alloc _ _ _ hcl).trans h.blk)
  rw [Option.mem_toList] at hm
  obtain ⟨_, cur, hc⟩ := ownsRow_type h.ko c hm
  exact ne_of_type hc h.blk (by decide) rfl
theorem mid_cell {B : Nat} {w W w2 : World} {c : Nat} {kv cv ofv v : Value} {K : List (Bs × Nat)} {idx : Bs} (hm : Mid B w W c kv cv ofv K idx v) (hk : Kp cv.ownBlock.toList W w2) : w2.heap[c]? = some (clB v cv ofv) := by
  refine (hk.block c (Array.getElem?_eq_some_iff.1 hm.blk).1 (fun h => ?_)).trans hm.blk
  rw [Option.mem_toList] at h
  obtain ⟨_, cur, hc⟩ := ownsRow_type hm.co c h
  exact ne_of_type hc hm.blk (by decide) rfl

theorem cel_rows {B : Nat} {w : World} {c : Nat} {kv cv ofv : Value} {K : List (Bs × Nat)} (h : Cel B w c kv cv ofv K) : ∃ (ko co : Option Addr) (k1 k2 : Nat), kv = .slice ko K.length k1 ∧ cv = .slice co K.length k2 ∧
    ∀ (i : Nat) (hi : i < K.length), ∃ b d, ko = some ⟨b, 0, none⟩ ∧ co = some ⟨d, 0, none⟩ ∧ w.cell? ⟨b, i, none⟩ = some (sv K[i].1) ∧ w.cell? ⟨d, i, none⟩ = some (pv (some K[i].2)) := by
  have aux : ∀ {e : TypeId} {v : Value} {f : Bs × Nat → Value}, w.ownsRow B e 1 v K.length (K.map f) → ∃ (ao : Option Addr) (cap : Nat), v = .slice ao K.length cap ∧ ∀ (i : Nat) (hi : i < K.length), ∃ b, ao = some ⟨b, 0, none⟩ ∧ w.cell? ⟨b, i, none⟩ = some (f K[i]) := by
    intro e v f hv
    rcases hv.2 with ⟨rfl, h0⟩ | ⟨g, cap, cur, rfl, hb, hg, h1, h2, h3, h4⟩
    · exact ⟨none, 0, by rw [h0], fun i hi => by omega⟩
    · refine ⟨some ⟨g, 0, none⟩, cap, rfl, fun i hi => ⟨g, rfl, ?_⟩⟩
      have := hv.cells (g := g) rfl i (f K[i]) (by simp [hi])
      rwa [show ((⟨g, 0, none⟩ : Addr).add i) = ⟨g, i, none⟩ from by cases i <;> simp [Addr.add]] at this
  obtain ⟨ko, k1, e1, q1⟩ := aux h.ko
  obtain ⟨co, k2, e2, q2⟩ := aux h.co
  refine ⟨ko, co, k1, k2, e1, e2, fun i hi => ?_⟩
  obtain ⟨b, hb, hb'⟩ := q1 i hi
  obtain ⟨d, hd, hd'⟩ := q2 i hi
  exact ⟨b, d, hb, hd, hb', hd'⟩

theorem infoStr : (Tryz.prog.info? 9).map (fun i => (i.zero, i.size, i.bytes)) = some (some (.string ⟨#[]⟩), 1, 16) := by kernel_rfl
theorem infoPC : (Tryz.prog.info? 88).map (fun i => (i.zero, i.size, i.bytes)) = some (some (.pointer none), 1, 8) := by kernel_rfl

set_option maxRecDepth 100000 in
set_option maxHeartbeats 1600000 in
theorem At_any {B : Nat} {w : World} {c : Nat} {kv cv ofv : Value} {K : List (Bs × Nat)} (hB : B ≤ w.heap.size) (h : Cel B w c kv cv ofv K) (hK : K.length ≤ 100) {idx : Bs} :
    Calls Tryz.prog 104 #[.pointer (some ⟨c, 0, none⟩), .string ⟨idx.toArray⟩, .bool true] w fun e w' => AtRes B w c kv cv ofv K idx e w' := by
  obtain ⟨ko, co, k1, k2, rfl, rfl, hcell⟩ := cel_rows h
  obtain ⟨_, _, _, c3, c4, _, cf, hcl⟩ := cell9 h.blk
  have cf3 := cf 3
  have cf4 := cf 4
  have HM := Lib.hid (fun g cap w1 => at_mid (idx := idx) (w1 := w1) (g := g) (cap := cap) h)
  have HE := Lib.hid (fun W v w2 g cap hm hno => at_end (idx := idx) (w2 := w2) (W := W) (v := v) (g := g) (cap := cap) h hm hno)
  have HH := Lib.hid h
  have hko := h.ko
  have HC := Lib.hid hcell
  clear h hcell cf
  go_enter Tryz.func104, Tryz.ntmps104
  go_wp2_with fail
  go_loop [15] (fun i => ∃ k : Nat, k ≤ K.length ∧ i = .int .i64 k ∧ Hid (∀ t ∈ K.take k, t.1 ≠ idx)) (fun i => K.length - (intOf i).toNat)
  case atStart => exact ⟨0, Nat.zero_le _, rfl, by show ∀ t ∈ _, _; simp⟩
  case round =>
    obtain ⟨k, hk, rfl, hno⟩ := hrel
    by_cases hlt : k < K.length
    · obtain ⟨b, d, rfl, rfl, q1, q2⟩ := HC.out k hlt
      by_cases hn : K[k].1 = idx
      · have HR : Hid (K[k] ∈ K ∧ K[k].1 = idx) := ⟨List.getElem_mem _, hn⟩
        have hik : (0 : Int) ≤ (k : Int) := by omega
        generalize K[k] = t at *
        obtain ⟨tn, t1⟩ := t
        simp only [sv, pv, Option.map_some] at q1 q2 hn HR
        subst hn
        go_wp2_with fail
        go_ret
        exact ⟨t1, _, _, K, rfl, HH.out, Kp.refl _ _, HR.out.1, .inl ⟨HR.out.1, rfl, rfl⟩⟩
      · have HR : Hid (∀ t ∈ K.take (k + 1), t.1 ≠ idx) := by
          show ∀ t ∈ _, _
          rw [List.take_succ_eq_append_getElem hlt]
          intro t ht
          rw [List.mem_append, List.mem_singleton] at ht
          rcases ht with ht | rfl
          · exact hno.out t ht
          · exact hn
        generalize K[k] = t at *
        obtain ⟨tn, t1⟩ := t
        simp only [sv, pv, Option.map_some] at q1 q2 hn
        have hn2 : (tn == idx) = false := by simpa using hn
        go_wp2_with fail
        exact ⟨⟨k + 1, by omega, by go_num, HR⟩, by simp [intOf]; omega⟩
    · have HR : Hid (∀ t ∈ K, t.1 ≠ idx) := by
        show ∀ t ∈ _, _
        have := hno.out
        rwa [List.take_of_length_le (by omega)] at this
      go_wp2_with (first | (at_builtin; refine wpList_push1 rfl _ _ 33 rfl B 9 (.string ⟨#[]⟩) 16 Tryz.underlying33 infoStr rfl (.slice ko K.length k1) K.length (K.map fun t => sv t.1) rfl (hko.alloc _) (.string ⟨idx.toArray⟩) (w.heap.size + 1) (by simp) rfl rfl (by unfold maxLen; omega) (by omega) (by simp; omega) ?_; intro g cap w1 hg hown1 hk1 hlc; clear hlc; obtain ⟨_, _, _, r3, r4, _, rf, rcl⟩ := cell9 (at_old HH.out hk1); have rf3 := rf 3; have rf4 := rf 4; have hM := HM.out g cap w1 hown1 hk1; have HMM := Lib.hid hM; have hmco := hM.co; clear hM hown1 hk1 rf hko) | (at_builtin; go_loud (refine wpList_push1 rfl _ _ 96 rfl B 88 (.pointer none) 8 Tryz.underlying96 infoPC rfl (.slice co K.length k2) K.length (K.map fun t => pv (some t.2)) rfl hmco (.pointer (some ⟨w.heap.size, 0, none⟩)) w1.heap.size (by simp [World.size_setCell]) rfl rfl (by unfold maxLen; omega) (by omega) (by have := HMM.out.kp.size; omega) ?_; intro g2 cap2 w2 hg2 hown2 hk2 hlc; clear hlc; obtain ⟨_, _, _, _, n4, _, nf, ncl⟩ := cell9 (mid_cell HMM.out hk2); have nf4 := nf 4; have HOW2 := Lib.hid hown2; have HK2 := Lib.hid hk2; clear nf hown2 hk2)))
      go_ret
      exact HE.out _ _ _ _ _ HMM.out HR.out HOW2.out HK2.out
end Go.Proofs.YtcaifihdbcjakaaGreat
