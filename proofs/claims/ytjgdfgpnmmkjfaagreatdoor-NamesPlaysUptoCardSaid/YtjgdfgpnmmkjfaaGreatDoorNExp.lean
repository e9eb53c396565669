/- 'Exists', 'SetUnknown', 'Export' of a tree of namespaces. 'Export' of a tree of namespaces. -/
import Derived.Test.YtjgdfgpnmmkjfaaGreatDoorNCat
namespace Go.Proofs.YtjgdfgpnmmkjfaaGreatDoor
set_option linter.unusedVariables false
set_option linter.unusedSimpArgs false
open Go.RowKit Go.MapKept

theorem Exists_any {w : World} {B tb m : Nat} {who : Own} {nd : Bs → Option Nat} {S : Bs → Option ND} (h : Tr w B tb m who nd S) (path : Bs) (hp : path.length ≤ 100000) :
    Calls Tryz.prog 12 #[.pointer (some ⟨tb, 0, none⟩), .string ⟨path.toArray⟩] w fun e w' => e = .returned (.bool (S (canonN rootN path)).isSome) ∧ Below w.heap.size w w' := by
  have A0 := at_any h.tree path hp
  rw [← h.same]
  cases hnd : nd (canonN rootN path) with
  | none =>
    rw [hnd] at A0
    have A1 : Hid (Calls Tryz.prog 32 #[.pointer (some ⟨tb, 0, none⟩), .string ⟨path.toArray⟩] w fun e w' => e = .returned (.pointer none) ∧ Below w.heap.size w w') := A0
    clear h A0 hnd hp
    go_enter Tryz.func12, Tryz.ntmps12
    go_wp2_with (go_at_call 32; refine A1.out.mono ?_; rintro e w2 ⟨rfl, hB⟩; have HB := Lib.hid hB; clear hB)
    go_ret
    exact ⟨rfl, HB.out⟩
  | some b =>
    rw [hnd] at A0
    have A1 : Hid (Calls Tryz.prog 32 #[.pointer (some ⟨tb, 0, none⟩), .string ⟨path.toArray⟩] w fun e w' => e = .returned (.pointer (some ⟨b, 0, none⟩)) ∧ Below w.heap.size w w') := A0
    clear h A0 hnd hp
    go_enter Tryz.func12, Tryz.ntmps12
    go_wp2_with (go_at_call 32; refine A1.out.mono ?_; rintro e w2 ⟨rfl, hB⟩; have HB := Lib.hid hB; clear hB)
    go_ret
    exact ⟨rfl, HB.out⟩
def unkS (S : Bs → Option ND) (path t : Bs) : Int × (Bs → Option ND) :=
  match S (canonN rootN path) with
  | none => (8, S)
  | some n => (0, setS S (canonN rootN path) { n with unknown := t })
section
variable {w w' : World} {B tb m b : Nat} {who who' : Own} {nd : Bs → Option Nat} {S : Bs → Option ND} {k : Bs} {n n' : ND}
theorem Tr.node3 (h : Tr w B tb m who nd S) (hb : nd k = some b) (hS : S k = some n) : ∃ vs ve, w.heap[b]? = some (.cells #[vs, ve, .string ⟨n.unknown.toArray⟩] 49 (0, 0)) ∧ who b = some (2, k) ∧ b < w.heap.size ∧
    w.ownsRow B 9 1 vs n.search.length (n.search.map sv) ∧ (∀ g, vs.ownBlock = some g → who g = some (3, k)) ∧
    w.ownsRow B 9 1 ve n.exports.length (n.exports.map sv) ∧ (∀ g, ve.ownBlock = some g → who g = some (4, k)) := by
  obtain ⟨h1, vs, ve, h2, h3, h4, h5, h6⟩ := h.node k b n hb hS
  exact ⟨vs, ve, h2, h1, (Array.getElem?_eq_some_iff.1 h2).1, h3, h4, h5, h6⟩
theorem Tr.unknown (h : Tr w B tb m who nd S) (hb : nd k = some b) (hS : S k = some n) (t : Bs) :
    Tr (w.setCell ⟨b, 2, none⟩ (.string ⟨t.toArray⟩)) B tb m who nd (setS S k { n with unknown := t }) ∧ Stp who who w (w.setCell ⟨b, 2, none⟩ (.string ⟨t.toArray⟩)) := by
  obtain ⟨vs, ve, hc, hwb, hbl, r1, r2, r3, r4⟩ := h.node3 hb hS
  have hset : ∀ j, j ≠ b → (w.setCell ⟨b, 2, none⟩ (.string ⟨t.toArray⟩)).heap[j]? = w.heap[j]? := fun j hj => Below.heap_setCell w ⟨b, 2, none⟩ _ j hj
  have hsz : (w.setCell ⟨b, 2, none⟩ (.string ⟨t.toArray⟩)).heap.size = w.heap.size := by simp [World.setCell]
  refine ⟨h.setNode hb (Nat.le_of_eq hsz.symm) (fun j u hj ht => hset j ?_) (fun _ _ h => h) ⟨hwb, vs, ve, heap_setCell_same w b 2 _ _ _ hc, row_keep r1 (fun g hg => hset g (by rintro rfl; have := r2 _ hg; rw [hwb] at this; cases this)), r2, row_keep r3 (fun g hg => hset g (by rintro rfl; have := r4 _ hg; rw [hwb] at this; cases this)), r4⟩ (fun j hj => by rw [hsz]; exact h.lo j hj), ⟨⟨rfl, rfl, rfl, Nat.le_of_eq hsz.symm, fun j hj hn => hset j (by rintro rfl; rw [hwb] at hn; cases hn)⟩, fun _ _ => rfl⟩⟩
  rintro rfl
  rw [hwb] at hj
  cases hj
  rcases ht with ht | ht
  · omega
  · exact ht rfl
theorem Tr.cleared (h : Tr w B tb m who nd S) (hb : nd k = some b) (hS : S k = some n) :
    Tr (w.setCell ⟨b, 1, none⟩ (.slice none 0 0)) B tb m who nd (setS S k { n with exports := [] }) ∧ Stp who who w (w.setCell ⟨b, 1, none⟩ (.slice none 0 0)) := by
  obtain ⟨vs, ve, hc, hwb, hbl, r1, r2, r3, r4⟩ := h.node3 hb hS
  have hset : ∀ j, j ≠ b → (w.setCell ⟨b, 1, none⟩ (.slice none 0 0)).heap[j]? = w.heap[j]? := fun j hj => Below.heap_setCell w ⟨b, 1, none⟩ _ j hj
  have hsz : (w.setCell ⟨b, 1, none⟩ (.slice none 0 0)).heap.size = w.heap.size := by simp [World.setCell]
  refine ⟨h.setNode hb (Nat.le_of_eq hsz.symm) (fun j u hj ht => hset j ?_) (fun _ _ h => h) ⟨hwb, vs, .slice none 0 0, heap_setCell_same w b 1 _ _ _ hc, row_keep r1 (fun g hg => hset g (by rintro rfl; have := r2 _ hg; rw [hwb] at this; cases this)), r2, ⟨rfl, .inl ⟨rfl, rfl⟩⟩, fun g hg => by simp [Value.ownBlock] at hg⟩ (fun j hj => by rw [hsz]; exact h.lo j hj), ⟨⟨rfl, rfl, rfl, Nat.le_of_eq hsz.symm, fun j hj hn => hset j (by rintro rfl; rw [hwb] at hn; cases hn)⟩, fun _ _ => rfl⟩⟩
  rintro rfl
  rw [hwb] at hj
  cases hj
  rcases ht with ht | ht
  · omega
  · exact ht rfl
/-- A pattern appended to a node's own row. -/
theorem Tr.pushed {ve : Value} {vs : Value} (h : Tr w B tb m who nd S) (hb : nd k = some b) (hS : S k = some n) (hc : w.heap[b]? = some (.cells #[vs, ve, .string ⟨n.unknown.toArray⟩] 49 (0, 0))) {g c : Nat} {p : Bs}
    (hkp : Kp ve.ownBlock.toList w w') (hrow : w'.ownsRow B 9 1 (.slice (some ⟨g, 0, none⟩) (n.exports.length + 1) c) (n.exports.length + 1) (n.exports.map sv ++ [sv p])) (hg : ve.ownBlock = some g ∨ w.heap.size ≤ g) :
    ∃ who', Tr (w'.setCell ⟨b, 1, none⟩ (.slice (some ⟨g, 0, none⟩) (n.exports.length + 1) c)) B tb m who' nd (setS S k { n with exports := n.exports ++ [p] }) ∧ Stp who who' w (w'.setCell ⟨b, 1, none⟩ (.slice (some ⟨g, 0, none⟩) (n.exports.length + 1) c)) := by
  obtain ⟨vs', ve', hc', hwb, hbl, r1, r2, r3, r4⟩ := h.node3 hb hS
  rw [hc] at hc'
  simp only [Option.some.injEq, Obj.cells.injEq, and_true] at hc'
  have e1 : vs = vs' := by have := congrArg (fun a => a[0]?) hc'; simpa using this
  have e2 : ve = ve' := by have := congrArg (fun a => a[1]?) hc'; simpa using this
  subst e1 e2
  have hgl := (row_ids hrow g rfl).2
  have hgb : g ≠ b := by
    rcases hg with hg | hg
    · rintro rfl; have := r4 _ hg; rw [hwb] at this; cases this
    · omega
  have hset : ∀ j, j ≠ b → (w'.setCell ⟨b, 1, none⟩ (.slice (some ⟨g, 0, none⟩) (n.exports.length + 1) c)).heap[j]? = w'.heap[j]? := fun j hj => Below.heap_setCell w' ⟨b, 1, none⟩ _ j hj
  have hsz : (w'.setCell ⟨b, 1, none⟩ (.slice (some ⟨g, 0, none⟩) (n.exports.length + 1) c)).heap.size = w'.heap.size := by simp [World.setCell]
  have hkeep : ∀ j, j < w.heap.size → j ≠ b → who j ≠ some (4, k) → (w'.setCell ⟨b, 1, none⟩ (.slice (some ⟨g, 0, none⟩) (n.exports.length + 1) c)).heap[j]? = w.heap[j]? := fun j hj hne h4 => by
    rw [hset j hne]
    refine hkp.block j hj (fun hm => h4 ?_)
    exact r4 j (by simpa using hm)
  have hmono : ∀ j t, who j = some t → who.set g (4, k) j = some t := fun j t hj => by
    by_cases hjg : j = g
    · subst hjg
      rw [Own.set_same]
      rcases hg with hg | hg
      · rw [r4 _ hg] at hj; exact hj
      · have := (h.lo j (by rw [hj]; simp)).2; omega
    · rw [Own.set_other hjg]; exact hj
  have hbw : w'.heap[b]? = some (.cells #[vs, ve, .string ⟨n.unknown.toArray⟩] 49 (0, 0)) := by
    rw [hkp.block b hbl (fun hm => by have := r4 b (by simpa using hm); rw [hwb] at this; cases this)]; exact hc
  refine ⟨who.set g (4, k), h.setNode hb (by rw [hsz]; exact hkp.size) (fun j t hj ht => hkeep j (h.lo j (by rw [hj]; simp)).2 ?_ ?_) hmono ⟨hmono _ _ hwb, vs, _, heap_setCell_same w' b 1 _ _ _ hbw, row_keep r1 (fun j hj => hkeep j ?_ ?_ ?_), fun j hj => hmono _ _ (r2 j hj), ?_, fun j hj => ?_⟩ (fun j hj => ?_), ⟨⟨hkp.os, hkp.tape, hkp.output, by rw [hsz]; exact hkp.size, fun j hj hn => hkeep j hj (by rintro rfl; rw [hwb] at hn; cases hn) (by rw [hn]; simp)⟩, fun j hj => ?_⟩⟩
  · rintro rfl
    rw [hwb] at hj; cases hj
    rcases ht with ht | ht
    · omega
    · exact ht rfl
  · intro h4
    rw [h4] at hj; cases hj
    rcases ht with ht | ht
    · omega
    · exact ht rfl
  · exact (h.lo j (by rw [r2 j hj]; simp)).2
  · rintro rfl; have := r2 _ hj; rw [hwb] at this; cases this
  · rw [r2 j hj]; simp
  · have e : (n.exports ++ [p]).length = n.exports.length + 1 := by simp
    show World.ownsRow _ _ _ _ _ _ _
    rw [e, List.map_append]
    refine row_keep hrow (fun j hj => hset j ?_)
    have : g = j := by simpa [Value.ownBlock] using hj
    subst this; exact hgb
  · have : g = j := by simpa [Value.ownBlock] using hj
    subst this; exact Own.set_same _ _ _
  · by_cases hjg : j = g
    · subst hjg
      rw [hsz]
      exact ⟨(row_ids hrow j rfl).1, hgl⟩
    · rw [Own.set_other hjg] at hj
      have := h.lo j hj
      rw [hsz]
      exact ⟨this.1, Nat.lt_of_lt_of_le this.2 hkp.size⟩
  · by_cases hjg : j = g
    · subst hjg
      rcases hg with hg | hg
      · rw [Own.set_same, r4 _ hg]
      · omega
    · exact Own.set_other hjg
end
set_option maxHeartbeats 800000 in
theorem SetUnknown_any {w : World} {B tb m : Nat} {who : Own} {nd : Bs → Option Nat} {S : Bs → Option ND} (h : Tr w B tb m who nd S) (path t : Bs) (hp : path.length ≤ 100000) :
    Calls Tryz.prog 29 #[.pointer (some ⟨tb, 0, none⟩), .string ⟨path.toArray⟩, .string ⟨t.toArray⟩] w fun e w' => e = .returned (.int .i64 (unkS S path t).1) ∧ ∃ who' nd', Tr w' B tb m who' nd' (unkS S path t).2 ∧ Stp who who' w w' := by
  have A0 := at_any h.tree path hp
  unfold unkS
  cases hnd : nd (canonN rootN path) with
  | none =>
    rw [h.none_of hnd]
    rw [hnd] at A0
    have A1 : Hid (Calls Tryz.prog 32 #[.pointer (some ⟨tb, 0, none⟩), .string ⟨path.toArray⟩] w fun e w' => e = .returned (.pointer none) ∧ Below w.heap.size w w') := A0
    have H := Lib.hid h
    clear h A0 hnd hp
    go_enter Tryz.func29, Tryz.ntmps29
    go_wp2_with (go_at_call 32; refine A1.out.mono ?_; rintro e w2 ⟨rfl, hB⟩; have HB := Lib.hid hB; clear hB)
    go_ret
    exact ⟨rfl, who, nd, H.out.low HB.out, Stp.of_below HB.out⟩
  | some b =>
    obtain ⟨n, hS, _⟩ := h.has hnd
    rw [hS]
    rw [hnd] at A0
    have A1 : Hid (Calls Tryz.prog 32 #[.pointer (some ⟨tb, 0, none⟩), .string ⟨path.toArray⟩] w fun e w' => e = .returned (.pointer (some ⟨b, 0, none⟩)) ∧ Below w.heap.size w w') := A0
    have H := Lib.hid (And.intro h (And.intro hnd hS))
    clear h A0 hnd hS hp
    go_enter Tryz.func29, Tryz.ntmps29
    go_wp2_with (go_at_call 32; refine A1.out.mono ?_; rintro e w2 ⟨rfl, hB⟩; obtain ⟨vs, ve, hcn, _⟩ := (H.out.1.low hB).node3 H.out.2.1 H.out.2.2; obtain ⟨_, _, c2, hf⟩ := vcells3 hcn; have hf2 := hf 2; have HU := Lib.hid ((H.out.1.low hB).unknown H.out.2.1 H.out.2.2 t); have HB := Lib.hid hB; clear hB hf hcn)
    go_ret
    exact ⟨rfl, who, nd, HU.out.1, (Stp.of_below HB.out).trans HU.out.2⟩
end Go.Proofs.YtjgdfgpnmmkjfaaGreatDoor
namespace Go.Proofs.YtjgdfgpnmmkjfaaGreatDoor
set_option linter.unusedVariables false
set_option linter.unusedSimpArgs false
open Go.RowKit Go.MapKept

def expStep (o : List Bs) (p : Bs) : List Bs := if hasB o p then o else o ++ [p]
def expL (o : List Bs) (L : List Bs) : List Bs := L.foldl expStep o
theorem expL_snoc (o : List Bs) (L : List Bs) (k : Nat) (hk : k < L.length) : expL o (L.take (k + 1)) = expStep (expL o (L.take k)) L[k] := by
  unfold expL
  rw [List.take_succ_eq_append_getElem hk, List.foldl_append]; rfl
theorem exp_len : ∀ (L o : List Bs), (expL o L).length ≤ o.length + L.length
  | [], o => by simp [expL]
  | p :: r, o => by
    have h := exp_len r (expStep o p)
    have h2 : (expStep o p).length ≤ o.length + 1 := by unfold expStep; split <;> simp
    show (expL (expStep o p) r).length ≤ _
    rw [List.length_cons]; omega
def ex0 (n : ND) (clear : Bool) : List Bs := if clear = true then [] else n.exports
def expS (S : Bs → Option ND) (path : Bs) (L : List Bs) (clear : Bool) : Int × (Bs → Option ND) :=
  match S (canonN rootN path) with
  | none => (8, S)
  | some n => (0, setS S (canonN rootN path) { n with exports := expL (ex0 n clear) L })
theorem setS_setS (S : Bs → Option ND) (k : Bs) (a b : ND) : setS (setS S k a) k b = setS S k b := by
  funext q; unfold setS; by_cases h : q = k
  · rw [if_pos h, if_pos h]
  · rw [if_neg h, if_neg h, if_neg h]
theorem setS_self {S : Bs → Option ND} {k : Bs} {n : ND} (h : S k = some n) : setS S k n = S := by
  funext q; unfold setS; by_cases e : q = k
  · rw [if_pos e, e, h]
  · rw [if_neg e]
theorem setS_at (S : Bs → Option ND) (k : Bs) (n : ND) : setS S k n k = some n := if_pos rfl
set_option maxRecDepth 100000 in
set_option maxHeartbeats 1600000 in
theorem Export_any {w : World} {B tb m : Nat} {who : Own} {nd : Bs → Option Nat} {S : Bs → Option ND} (h : Tr w B tb m who nd S) (path : Bs) (hp : path.length ≤ 100000) (L : List Bs) (clear : Bool) (hn : L.length ≤ 100000) (hE : ∀ n, S (canonN rootN path) = some n → n.exports.length ≤ 100000) {v : Value} (hv : TxtRow w v L) (hvn : ∀ o n c, v = .slice (some o) n c → 0 < n → who o.block = none) :
    Calls Tryz.prog 27 #[.pointer (some ⟨tb, 0, none⟩), .string ⟨path.toArray⟩, v, .bool clear] w fun e w' => e = .returned (.int .i64 (expS S path L clear).1) ∧ ∃ who' nd', Tr w' B tb m who' nd' (expS S path L clear).2 ∧ Stp who who' w w' := by
  obtain ⟨ao, ac, rfl⟩ := hv.len
  have A0 := at_any h.tree path hp
  unfold expS
  cases hnd : nd (canonN rootN path) with
  | none =>
    rw [h.none_of hnd]
    rw [hnd] at A0
    have A1 : Hid (Calls Tryz.prog 32 #[.pointer (some ⟨tb, 0, none⟩), .string ⟨path.toArray⟩] w fun e w' => e = .returned (.pointer none) ∧ Below w.heap.size w w') := A0
    have H := Lib.hid h
    clear h A0 hnd hp hv hE hvn
    go_enter Tryz.func27, Tryz.ntmps27
    go_wp2_with (go_at_call 32; refine A1.out.mono ?_; rintro e w2 ⟨rfl, hB⟩; have HB := Lib.hid hB; clear hB)
    go_ret
    exact ⟨rfl, who, nd, H.out.low HB.out, Stp.of_below HB.out⟩
  | some b =>
    obtain ⟨nn, hS, _⟩ := h.has hnd
    have hE2 := hE nn hS
    rw [hS]
    rw [hnd] at A0
    have A1 : Hid (Calls Tryz.prog 32 #[.pointer (some ⟨tb, 0, none⟩), .string ⟨path.toArray⟩] w fun e w' => e = .returned (.pointer (some ⟨b, 0, none⟩)) ∧ Below w.heap.size w w') := A0
    obtain ⟨key, hkey⟩ : ∃ key, canonN rootN path = key := ⟨_, rfl⟩
    rw [hkey] at hnd hS ⊢
    show Calls _ _ _ _ fun e w' => e = .returned (.int .i64 0) ∧ ∃ who' nd', Tr w' B tb m who' nd' (setS S key { nn with exports := expL (ex0 nn clear) L }) ∧ Stp who who' w w'
    obtain ⟨_, hlc, hcm, hcell⟩ := hv.at_
    unfold maxLen at hcm
    have hx0 : (ex0 nn clear).length ≤ 100000 := by unfold ex0; split; simp; exact hE2
    obtain ⟨n, hnl⟩ : ∃ n, L.length = n := ⟨_, rfl⟩
    rw [hnl] at hlc hn hvn ⊢
    have HV := Lib.hid hv
    have HN := Lib.hid (And.intro hnl (And.intro hnd (And.intro hS hx0)))
    have HU : Hid (0 < n → ∀ a, ao = some a → who a.block = none) := fun hp a ha => hvn a n ac (by rw [ha]) hp
    have H := Lib.hid h
    -- the start of the loop
    have HST : Hid (∀ W, Below w.heap.size w W → clear = false → Tr W B tb m who nd (setS S key { nn with exports := expL (ex0 nn clear) [] }) ∧ Stp who who w W) := fun W hb hcl => by
      subst hcl
      rw [show ({ nn with exports := expL (ex0 nn false) [] } : ND) = nn from rfl, setS_self hS]
      exact ⟨h.low hb, Stp.of_below hb⟩
    have HSC : Hid (∀ W, Below w.heap.size w W → clear = true → Tr (W.setCell ⟨b, 1, none⟩ (.slice none 0 0)) B tb m who nd (setS S key { nn with exports := expL (ex0 nn clear) [] }) ∧ Stp who who w (W.setCell ⟨b, 1, none⟩ (.slice none 0 0))) := fun W hb hcl => by
      subst hcl
      have h2 := (h.low hb).cleared hnd hS
      exact ⟨h2.1, (Stp.of_below hb).trans h2.2⟩
    have HCE : Hid (∀ W, Below w.heap.size w W → ∃ ve, W.cell? ⟨b, 1, none⟩ = some ve ∧ ∀ i, W.frozen? ⟨b, i, none⟩ = false) := fun W hb => by
      obtain ⟨vs, ve, hcn, _⟩ := (h.low hb).node3 hnd hS
      obtain ⟨_, c1, _, hf⟩ := vcells3 hcn
      exact ⟨ve, c1, hf⟩
    clear h hv hcell hE hnl hnd hS A0 hp hkey hvn hx0 hE2
    go_enter Tryz.func27, Tryz.ntmps27
    cases hcl : clear
    all_goals
      go_wp2_with (go_at_call 32; refine A1.out.mono ?_; rintro e w1 ⟨rfl, hB⟩; obtain ⟨ve, c1, hf⟩ := HCE.out _ hB; have hf1 := hf 1; have HB1 := Lib.hid hB; clear hB hf)
      go_loopw [23] (fun q wr => ∃ k : Nat, k ≤ n ∧ q = .int .i64 (k : Int) ∧ ∃ who', Tr wr B tb m who' nd (setS S key { nn with exports := expL (ex0 nn clear) (L.take k) }) ∧ Stp who who' w wr) (fun q _ => n - (intOf q).toNat)
      case atStart => first | exact ⟨0, Nat.zero_le _, rfl, who, HST.out _ HB1.out hcl⟩ | exact ⟨0, Nat.zero_le _, rfl, who, HSC.out _ HB1.out hcl⟩
      case round =>
        obtain ⟨k, hk, rfl, who1, hT, hSt⟩ := hrel
        clear c1 hf1
        by_cases hlt : k < n
        · have hkl : k < L.length := by have := HN.out.1; omega
          have hrow := HV.out.fr (HU.out (by omega)) hSt.fr
          obtain ⟨hh, _, _, hcell⟩ := hrow.at_
          obtain ⟨gb, off, rfl, hgl, hc0⟩ := hcell k hkl
          have hstep := expL_snoc (ex0 nn clear) L k hkl
          have hlen := exp_len (L.take k) (ex0 nn clear)
          have hlb : (expL (ex0 nn clear) (L.take k)).length ≤ 300000 := by
            have : (L.take k).length ≤ k := by simp; omega
            have := HN.out.2.2.2
            omega
          obtain ⟨vs, v1, hcn, hwb, hbl, r1, r2, r3, r4⟩ := hT.node3 HN.out.2.1 (setS_at _ _ _)
          obtain ⟨_, d1, _, hf⟩ := vcells3 hcn
          have hf1 := hf 1
          simp only at r3
          have HPU := Lib.hid (fun w' g c p => hT.pushed (w' := w') (g := g) (c := c) (p := p) HN.out.2.1 (setS_at _ _ _) hcn)
          have HCB := Lib.hid (fun (w' : World) (hk' : Kp v1.ownBlock.toList wr w') => by
            have hb' := (hk'.block b hbl (fun hm => by have := r4 b (by simpa using hm); rw [hwb] at this; cases this)).trans hcn
            obtain ⟨_, d1', _, hf'⟩ := vcells3 hb'
            exact And.intro d1' (hf' 1))
          obtain ⟨eo, ec, rfl⟩ := owns_slice r3
          have hco := fun x => contains_any (TxtRow.of_owns r3) x
          generalize L[k] = p at *
          have hcx : wr.cell? ⟨gb, off + k, none⟩ = some (.string ⟨p.toArray⟩) := hc0
          have t0 : decide ((k : Int) < (n : Int)) = true := by rw [decide_eq_true_eq]; omega
          have i1 : k < n := hlt
          have hw1 : IntKind.i64.wrap ((k : Int) + 1) = (k : Int) + 1 := IntWalk.i64_in _ (by omega)
          obtain ⟨ex, hex⟩ : ∃ ex, expL (ex0 nn clear) (L.take k) = ex := ⟨_, rfl⟩
          simp only [hex] at r3 hco hstep hlb HPU HCB d1 hT
          have HT := Lib.hid (And.intro hT hSt)
          obtain ⟨en, hen⟩ : ∃ en, ex.length = en := ⟨_, rfl⟩
          simp only [hen] at r3 hco hlb d1 HPU HCB
          have HR := Lib.hid r3
          have HK := Lib.hid (And.intro hlt (And.intro hen hex))
          have HSTEP := Lib.hid hstep
          have HCO := hco p
          have hbase := hT.base
          clear hT hSt hrow hcell hc0 hlen hcn hwb hbl r1 r2 r3 r4 hf hco hex hen hstep hlt hk hkl hh
          cases hhs : hasB ex p with
          | true =>
            rw [hhs] at HCO
            have HC := Lib.hid HCO
            have HEQ : Hid (expL (ex0 nn clear) (L.take (k + 1)) = ex) := by show _ = _; rw [HSTEP.out]; unfold expStep; rw [hhs]; rfl
            clear HCO hhs
            go_wp2_with (go_at_call 39; refine HC.out.mono ?_; rintro e w2 ⟨rfl, rfl⟩)
            exact ⟨⟨k + 1, by have := HK.out; omega, by go_num, who1, by rw [HEQ.out]; exact HT.out.1, HT.out.2⟩, by have := HK.out; simp [intOf]; omega⟩
          | false =>
            rw [hhs] at HCO
            have HC := Lib.hid HCO
            have HEQ : Hid (expL (ex0 nn clear) (L.take (k + 1)) = ex ++ [p]) := by show _ = _; rw [HSTEP.out]; unfold expStep; rw [hhs]; rfl
            clear HCO hhs
            go_wp2_with (first | (go_at_call 39; refine HC.out.mono ?_; rintro e w2 ⟨rfl, rfl⟩) | (at_builtin; go_loud (refine wpList_push1 rfl (.tmp 38) (.tmp 40) 27 rfl B 9 (.string ⟨#[]⟩) 16 Tryz.underlying27 infoStr rfl (.slice eo en ec) en _ rfl HR.out (.string ⟨p.toArray⟩) _ rfl rfl rfl (by unfold maxLen; omega) (by omega) hbase ?_); intro g1 c1 w3 hg1 hown3 hk3 hloc; have HPX := Lib.hid (HPU.out w3 g1 c1 p hk3 hown3 hloc); obtain ⟨x1, xf⟩ := HCB.out w3 hk3; clear hg1 hown3 hk3 hloc))
            obtain ⟨who2, hT2, hS2⟩ := HPX.out
            rw [setS_setS] at hT2
            exact ⟨⟨k + 1, by have := HK.out; omega, by go_num, who2, by rw [HEQ.out]; exact hT2, HT.out.2.trans hS2⟩, by have := HK.out; simp [intOf]; omega⟩
        · have hkn : k = n := by omega
          subst hkn
          have t0 : decide ((k : Int) < (k : Int)) = false := by rw [decide_eq_false_iff_not]; omega
          have hnn := HN.out.1
          rw [List.take_of_length_le (by omega)] at hT
          have HT := Lib.hid (And.intro hT hSt)
          clear hT hSt hk hlt hnn
          go_wp2_with fail
          go_ret
          exact ⟨rfl, who1, nd, by have := HT.out.1; rw [hcl] at this; exact this, HT.out.2⟩
end Go.Proofs.YtjgdfgpnmmkjfaaGreatDoor
