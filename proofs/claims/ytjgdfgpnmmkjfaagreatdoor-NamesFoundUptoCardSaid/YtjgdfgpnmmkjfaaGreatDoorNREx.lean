/- 'SetUnknown', 'has', 'Export' of the reference's tree (printed by mkNR.py). -/
import Derived.Test.YtjgdfgpnmmkjfaaGreatDoorNRSr
namespace Go.Proofs.YtjgdfgpnmmkjfaaGreatDoor
set_option linter.unusedVariables false
set_option linter.unusedSimpArgs false
open Go.RowKit Go.MapKept

section
variable {w w' : World} {B yb b : Nat} {who who' : Own} {nd : Bs → Option Nat} {S : Bs → Option ND} {l : List Bs} {k : Bs} {n n' : ND}
theorem RTr.node4 (h : RTr w B yb who nd S l) (hb : nd k = some b) (hS : S k = some n) : ∃ vs ve, w.heap[b]? = some (.cells #[.string ⟨k.toArray⟩, vs, ve, .string ⟨n.unknown.toArray⟩] 57 (0, 0)) ∧ who b = some (2, k) ∧ b < w.heap.size ∧
    w.ownsRow B 9 1 vs n.search.length (n.search.map sv) ∧ (∀ g, vs.ownBlock = some g → who g = some (3, k)) ∧
    w.ownsRow B 9 1 ve n.exports.length (n.exports.map sv) ∧ (∀ g, ve.ownBlock = some g → who g = some (4, k)) := by
  obtain ⟨h1, vs, ve, h2, h3, h4, h5, h6⟩ := h.node k b n hb hS
  exact ⟨vs, ve, h2, h1, (Array.getElem?_eq_some_iff.1 h2).1, h3, h4, h5, h6⟩
theorem RTr.unknown (h : RTr w B yb who nd S l) (hb : nd k = some b) (hS : S k = some n) (t : Bs) :
    RTr (w.setCell ⟨b, 3, none⟩ (.string ⟨t.toArray⟩)) B yb who nd (setS S k { n with unknown := t }) l ∧ Stp who who w (w.setCell ⟨b, 3, none⟩ (.string ⟨t.toArray⟩)) := by
  obtain ⟨vs, ve, hc, hwb, hbl, r1, r2, r3, r4⟩ := h.node4 hb hS
  have hset : ∀ j, j ≠ b → (w.setCell ⟨b, 3, none⟩ (.string ⟨t.toArray⟩)).heap[j]? = w.heap[j]? := fun j hj => Below.heap_setCell w ⟨b, 3, none⟩ _ j hj
  have hsz : (w.setCell ⟨b, 3, none⟩ (.string ⟨t.toArray⟩)).heap.size = w.heap.size := by simp [World.setCell]
  refine ⟨h.setNode hb (Nat.le_of_eq hsz.symm) (fun j u hj ht => hset j ?_) (fun _ _ h => h) ⟨hwb, vs, ve, heap_setCell_same w b 3 _ _ _ hc, row_keep r1 (fun g hg => hset g (by rintro rfl; have := r2 _ hg; rw [hwb] at this; cases this)), r2, row_keep r3 (fun g hg => hset g (by rintro rfl; have := r4 _ hg; rw [hwb] at this; cases this)), r4⟩ (fun j hj => by rw [hsz]; exact h.lo j hj), ⟨⟨rfl, rfl, rfl, Nat.le_of_eq hsz.symm, fun j hj hn => hset j (by rintro rfl; rw [hwb] at hn; cases hn)⟩, fun _ _ => rfl⟩⟩
  rintro rfl
  rw [hwb] at hj
  cases hj
  rcases ht with ht | ht
  · omega
  · exact ht rfl
theorem RTr.cleared (h : RTr w B yb who nd S l) (hb : nd k = some b) (hS : S k = some n) :
    RTr (w.setCell ⟨b, 2, none⟩ (.slice none 0 0)) B yb who nd (setS S k { n with exports := [] }) l ∧ Stp who who w (w.setCell ⟨b, 2, none⟩ (.slice none 0 0)) := by
  obtain ⟨vs, ve, hc, hwb, hbl, r1, r2, r3, r4⟩ := h.node4 hb hS
  have hset : ∀ j, j ≠ b → (w.setCell ⟨b, 2, none⟩ (.slice none 0 0)).heap[j]? = w.heap[j]? := fun j hj => Below.heap_setCell w ⟨b, 2, none⟩ _ j hj
  have hsz : (w.setCell ⟨b, 2, none⟩ (.slice none 0 0)).heap.size = w.heap.size := by simp [World.setCell]
  refine ⟨h.setNode hb (Nat.le_of_eq hsz.symm) (fun j u hj ht => hset j ?_) (fun _ _ h => h) ⟨hwb, vs, .slice none 0 0, heap_setCell_same w b 2 _ _ _ hc, row_keep r1 (fun g hg => hset g (by rintro rfl; have := r2 _ hg; rw [hwb] at this; cases this)), r2, ⟨rfl, .inl ⟨rfl, rfl⟩⟩, fun g hg => by simp [Value.ownBlock] at hg⟩ (fun j hj => by rw [hsz]; exact h.lo j hj), ⟨⟨rfl, rfl, rfl, Nat.le_of_eq hsz.symm, fun j hj hn => hset j (by rintro rfl; rw [hwb] at hn; cases hn)⟩, fun _ _ => rfl⟩⟩
  rintro rfl
  rw [hwb] at hj
  cases hj
  rcases ht with ht | ht
  · omega
  · exact ht rfl
/-- A pattern appended to a node's own row. -/
theorem RTr.pushed {ve : Value} {vs : Value} (h : RTr w B yb who nd S l) (hb : nd k = some b) (hS : S k = some n) (hc : w.heap[b]? = some (.cells #[.string ⟨k.toArray⟩, vs, ve, .string ⟨n.unknown.toArray⟩] 57 (0, 0))) {g c : Nat} {p : Bs}
    (hkp : Kp ve.ownBlock.toList w w') (hrow : w'.ownsRow B 9 1 (.slice (some ⟨g, 0, none⟩) (n.exports.length + 1) c) (n.exports.length + 1) (n.exports.map sv ++ [sv p])) (hg : ve.ownBlock = some g ∨ w.heap.size ≤ g) :
    ∃ who', RTr (w'.setCell ⟨b, 2, none⟩ (.slice (some ⟨g, 0, none⟩) (n.exports.length + 1) c)) B yb who' nd (setS S k { n with exports := n.exports ++ [p] }) l ∧ Stp who who' w (w'.setCell ⟨b, 2, none⟩ (.slice (some ⟨g, 0, none⟩) (n.exports.length + 1) c)) := by
  obtain ⟨vs', ve', hc', hwb, hbl, r1, r2, r3, r4⟩ := h.node4 hb hS
  rw [hc] at hc'
  simp only [Option.some.injEq, Obj.cells.injEq, and_true] at hc'
  have e1 : vs = vs' := by have := congrArg (fun a => a[1]?) hc'; simpa using this
  have e2 : ve = ve' := by have := congrArg (fun a => a[2]?) hc'; simpa using this
  subst e1 e2
  have hgl := (row_ids hrow g rfl).2
  have hgb : g ≠ b := by
    rcases hg with hg | hg
    · rintro rfl; have := r4 _ hg; rw [hwb] at this; cases this
    · omega
  have hset : ∀ j, j ≠ b → (w'.setCell ⟨b, 2, none⟩ (.slice (some ⟨g, 0, none⟩) (n.exports.length + 1) c)).heap[j]? = w'.heap[j]? := fun j hj => Below.heap_setCell w' ⟨b, 2, none⟩ _ j hj
  have hsz : (w'.setCell ⟨b, 2, none⟩ (.slice (some ⟨g, 0, none⟩) (n.exports.length + 1) c)).heap.size = w'.heap.size := by simp [World.setCell]
  have hkeep : ∀ j, j < w.heap.size → j ≠ b → who j ≠ some (4, k) → (w'.setCell ⟨b, 2, none⟩ (.slice (some ⟨g, 0, none⟩) (n.exports.length + 1) c)).heap[j]? = w.heap[j]? := fun j hj hne h4 => by
    rw [hset j hne]
    refine hkp.block j hj (fun hm => h4 ?_)
    exact r4 j (by simpa using hm)
  have hmono : ∀ j t, who j = some t → who.set g (4, k) j = some t := fun j t hj => by
    by_cases hjg : j = g
    · subst hjg
      rw [Own.set_same]
      rcases hg with hg | hg
      · rw [r4 _ hg] at hj; exact hj
      · have := (h.lo j (by rw [hj]; simp)).2; omega
    · rw [Own.set_other hjg]; exact hj
  have hbw : w'.heap[b]? = some (.cells #[.string ⟨k.toArray⟩, vs, ve, .string ⟨n.unknown.toArray⟩] 57 (0, 0)) := by
    rw [hkp.block b hbl (fun hm => by have := r4 b (by simpa using hm); rw [hwb] at this; cases this)]; exact hc
  refine ⟨who.set g (4, k), h.setNode hb (by rw [hsz]; exact hkp.size) (fun j t hj ht => hkeep j (h.lo j (by rw [hj]; simp)).2 ?_ ?_) hmono ⟨hmono _ _ hwb, vs, _, heap_setCell_same w' b 2 _ _ _ hbw, row_keep r1 (fun j hj => hkeep j ?_ ?_ ?_), fun j hj => hmono _ _ (r2 j hj), ?_, fun j hj => ?_⟩ (fun j hj => ?_), ⟨⟨hkp.os, hkp.tape, hkp.output, by rw [hsz]; exact hkp.size, fun j hj hn => hkeep j hj (by rintro rfl; rw [hwb] at hn; cases hn) (by rw [hn]; simp)⟩, fun j hj => ?_⟩⟩
  · rintro rfl
    rw [hwb] at hj; cases hj
    rcases ht with ht | ht
    · omega
    · exact ht rfl
  · intro h4
    rw [h4] at hj; cases hj
    rcases ht with ht | ht
    · omega
    · exact ht rfl
  · exact (h.lo j (by rw [r2 j hj]; simp)).2
  · rintro rfl; have := r2 _ hj; rw [hwb] at this; cases this
  · rw [r2 j hj]; simp
  · have e : (n.exports ++ [p]).length = n.exports.length + 1 := by simp
    show World.ownsRow _ _ _ _ _ _ _
    rw [e, List.map_append]
    refine row_keep hrow (fun j hj => hset j ?_)
    have : g = j := by simpa [Value.ownBlock] using hj
    subst this; exact hgb
  · have : g = j := by simpa [Value.ownBlock] using hj
    subst this; exact Own.set_same _ _ _
  · by_cases hjg : j = g
    · subst hjg
      rw [hsz]
      exact ⟨(row_ids hrow j rfl).1, hgl⟩
    · rw [Own.set_other hjg] at hj
      have := h.lo j hj
      rw [hsz]
      exact ⟨this.1, Nat.lt_of_lt_of_le this.2 hkp.size⟩
  · by_cases hjg : j = g
    · subst hjg
      rcases hg with hg | hg
      · rw [Own.set_same, r4 _ hg]
      · omega
    · exact Own.set_other hjg
end
set_option maxHeartbeats 800000 in
theorem rSetUnknown_any {w : World} {B yb : Nat} {who : Own} {nd : Bs → Option Nat} {S : Bs → Option ND} {l : List Bs} (h : RTr w B yb who nd S l) (hll : l.length ≤ 1000000) (path t : Bs) (hp : path.length ≤ 100000) :
    Calls Tryz.prog 30 #[.pointer (some ⟨yb, 0, none⟩), .string ⟨path.toArray⟩, .string ⟨t.toArray⟩] w fun e w' => e = .returned (.int .i64 (unkS S path t).1) ∧ ∃ who' nd' l', RTr w' B yb who' nd' (unkS S path t).2 l' ∧ Stp who who' w w' := by
  have A0 := rat_any h hll path hp
  unfold unkS
  cases hnd : nd (canonN rootN path) with
  | none =>
    rw [h.none_of hnd]
    rw [hnd] at A0
    have A1 : Hid (Calls Tryz.prog 56 #[.pointer (some ⟨yb, 0, none⟩), .string ⟨path.toArray⟩] w fun e w' => e = .returned (.pointer none) ∧ Below w.heap.size w w') := A0
    have H := Lib.hid h
    clear h A0 hnd hp
    go_enter Tryz.func30, Tryz.ntmps30
    go_wp2_with (go_at_call 56; refine A1.out.mono ?_; rintro e w2 ⟨rfl, hB⟩; have HB := Lib.hid hB; clear hB)
    go_ret
    exact ⟨rfl, who, nd, l, H.out.low HB.out, Stp.of_below HB.out⟩
  | some b =>
    obtain ⟨n, hS, _⟩ := h.has hnd
    rw [hS]
    rw [hnd] at A0
    have A1 : Hid (Calls Tryz.prog 56 #[.pointer (some ⟨yb, 0, none⟩), .string ⟨path.toArray⟩] w fun e w' => e = .returned (.pointer (some ⟨b, 0, none⟩)) ∧ Below w.heap.size w w') := A0
    have H := Lib.hid (And.intro h (And.intro hnd hS))
    clear h A0 hnd hS hp
    go_enter Tryz.func30, Tryz.ntmps30
    go_wp2_with (go_at_call 56; refine A1.out.mono ?_; rintro e w2 ⟨rfl, hB⟩; obtain ⟨vs, ve, hcn, _⟩ := (H.out.1.low hB).node4 H.out.2.1 H.out.2.2; obtain ⟨_, _, _, c2, hf⟩ := vcells4 hcn; have hf2 := hf 3; have HU := Lib.hid ((H.out.1.low hB).unknown H.out.2.1 H.out.2.2 t); have HB := Lib.hid hB; clear hB hf hcn)
    go_ret
    exact ⟨rfl, who, nd, l, HU.out.1, (Stp.of_below HB.out).trans HU.out.2⟩
theorem has_take {L : List Bs} {k : Nat} (hk : k < L.length) (x : Bs) : hasB (L.take (k + 1)) x = (hasB (L.take k) x || (L[k] == x)) := by
  unfold hasB
  rw [List.take_succ_eq_append_getElem hk, List.any_append]; simp
set_option maxHeartbeats 800000 in
theorem rhas_any {w : World} {v : Value} {L : List Bs} (h : TxtRow w v L) (hn : L.length ≤ 1000000) (x : Bs) : Calls Tryz.prog 61 #[v, .string ⟨x.toArray⟩] w fun e w' => e = .returned (.bool (hasB L x)) ∧ w = w' := by
  obtain ⟨o, c, rfl⟩ := h.len
  obtain ⟨hh, h1, h2, h3⟩ := h.at_
  unfold maxLen at h2
  have HC := Lib.hid h3
  obtain ⟨n, hnn⟩ : ∃ n, L.length = n := ⟨_, rfl⟩
  have HN := Lib.hid hnn
  rw [hnn] at hn h1 ⊢
  clear h h3 hnn hh
  go_enter Tryz.func61, Tryz.ntmps61
  go_wp2_with fail
  go_loopw [9] (fun q wr => ∃ k : Nat, k ≤ n ∧ q = .int .i64 (k : Int) ∧ hasB (L.take k) x = false ∧ w = wr) (fun q _ => n - (intOf q).toNat)
  case atStart => exact ⟨0, Nat.zero_le _, rfl, rfl, rfl⟩
  case round =>
    obtain ⟨k, hk, rfl, hno, rfl⟩ := hrel
    have hnl := HN.out
    by_cases hlt : k < n
    · obtain ⟨gb, off, rfl, hgl, hc0⟩ := HC.out k (by omega)
      have hst := has_take (L := L) (k := k) (by omega) x
      have hin : L[k]'(by omega) = x → hasB L x = true := fun e => List.any_eq_true.2 ⟨L[k]'(by omega), List.getElem_mem _, by rw [e]; simp⟩
      generalize L[k]'(by omega) = p at *
      have hcx : w.cell? ⟨gb, off + k, none⟩ = some (.string ⟨p.toArray⟩) := hc0
      have t0 : decide ((k : Int) < (n : Int)) = true := by rw [decide_eq_true_eq]; omega
      have i1 : k < n := hlt
      have hw1 : IntKind.i64.wrap ((k : Int) + 1) = (k : Int) + 1 := IntWalk.i64_in _ (by omega)
      by_cases hpx : p = x
      · subst hpx
        have HI := Lib.hid (hin rfl)
        clear hst hin hno hc0 hlt hk hnl
        go_wp2_with fail
        go_ret
        exact ⟨by rw [HI.out]; rfl, rfl⟩
      · have e1 : (p == x) = false := beq_eq_false_iff_ne.2 hpx
        have e2 : (⟨p.toArray⟩ : ByteArray) ≠ ⟨x.toArray⟩ := fun e => hpx (by simpa using e)
        have HI : Hid (k < n ∧ hasB (L.take (k + 1)) x = false) := ⟨hlt, by rw [hst, hno, e1]; rfl⟩
        clear hst hin hno hc0 hlt hk hnl hpx
        go_wp2_with fail
        exact ⟨⟨k + 1, by have := HI.out; omega, by go_num, HI.out.2, trivial⟩, by have := HI.out; simp [intOf]; omega⟩
    · have hkn : k = n := by omega
      subst hkn
      rw [List.take_of_length_le (by omega)] at hno
      have t0 : decide ((k : Int) < (k : Int)) = false := by rw [decide_eq_false_iff_not]; omega
      have HI := Lib.hid hno
      clear hno hk hlt hnl
      go_wp2_with fail
      go_ret
      exact ⟨by rw [HI.out]; rfl, rfl⟩
set_option maxRecDepth 100000 in
set_option maxHeartbeats 1600000 in
theorem rExport_any {w : World} {B yb : Nat} {who : Own} {nd : Bs → Option Nat} {S : Bs → Option ND} {l : List Bs} (h : RTr w B yb who nd S l) (hll : l.length ≤ 1000000) (path : Bs) (hp : path.length ≤ 100000) (L : List Bs) (clear : Bool) (hn : L.length ≤ 100000) (hE : ∀ n, S (canonN rootN path) = some n → n.exports.length ≤ 100000) {v : Value} (hv : TxtRow w v L) (hvn : ∀ o n c, v = .slice (some o) n c → 0 < n → who o.block = none) :
    Calls Tryz.prog 28 #[.pointer (some ⟨yb, 0, none⟩), .string ⟨path.toArray⟩, v, .bool clear] w fun e w' => e = .returned (.int .i64 (expS S path L clear).1) ∧ ∃ who' nd' l', RTr w' B yb who' nd' (expS S path L clear).2 l' ∧ Stp who who' w w' := by
  obtain ⟨ao, ac, rfl⟩ := hv.len
  have A0 := rat_any h hll path hp
  unfold expS
  cases hnd : nd (canonN rootN path) with
  | none =>
    rw [h.none_of hnd]
    rw [hnd] at A0
    have A1 : Hid (Calls Tryz.prog 56 #[.pointer (some ⟨yb, 0, none⟩), .string ⟨path.toArray⟩] w fun e w' => e = .returned (.pointer none) ∧ Below w.heap.size w w') := A0
    have H := Lib.hid h
    clear h A0 hnd hp hv hE hvn
    go_enter Tryz.func28, Tryz.ntmps28
    go_wp2_with (go_at_call 56; refine A1.out.mono ?_; rintro e w2 ⟨rfl, hB⟩; have HB := Lib.hid hB; clear hB)
    go_ret
    exact ⟨rfl, who, nd, l, H.out.low HB.out, Stp.of_below HB.out⟩
  | some b =>
    obtain ⟨nn, hS, _⟩ := h.has hnd
    have hE2 := hE nn hS
    rw [hS]
    rw [hnd] at A0
    have A1 : Hid (Calls Tryz.prog 56 #[.pointer (some ⟨yb, 0, none⟩), .string ⟨path.toArray⟩] w fun e w' => e = .returned (.pointer (some ⟨b, 0, none⟩)) ∧ Below w.heap.size w w') := A0
    obtain ⟨key, hkey⟩ : ∃ key, canonN rootN path = key := ⟨_, rfl⟩
    rw [hkey] at hnd hS ⊢
    show Calls _ _ _ _ fun e w' => e = .returned (.int .i64 0) ∧ ∃ who' nd' l', RTr w' B yb who' nd' (setS S key { nn with exports := expL (ex0 nn clear) L }) l' ∧ Stp who who' w w'
    obtain ⟨_, hlc, hcm, hcell⟩ := hv.at_
    unfold maxLen at hcm
    have hx0 : (ex0 nn clear).length ≤ 100000 := by unfold ex0; split; simp; exact hE2
    obtain ⟨n, hnl⟩ : ∃ n, L.length = n := ⟨_, rfl⟩
    rw [hnl] at hlc hn hvn ⊢
    have HV := Lib.hid hv
    have HN := Lib.hid (And.intro hnl (And.intro hnd (And.intro hS hx0)))
    have HU : Hid (0 < n → ∀ a, ao = some a → who a.block = none) := fun hp a ha => hvn a n ac (by rw [ha]) hp
    have H := Lib.hid h
    -- the start of the loop
    have HST : Hid (∀ W, Below w.heap.size w W → clear = false → RTr W B yb who nd (setS S key { nn with exports := expL (ex0 nn clear) [] }) l ∧ Stp who who w W) := fun W hb hcl => by
      subst hcl
      rw [show ({ nn with exports := expL (ex0 nn false) [] } : ND) = nn from rfl, setS_self hS]
      exact ⟨h.low hb, Stp.of_below hb⟩
    have HSC : Hid (∀ W, Below w.heap.size w W → clear = true → RTr (W.setCell ⟨b, 2, none⟩ (.slice none 0 0)) B yb who nd (setS S key { nn with exports := expL (ex0 nn clear) [] }) l ∧ Stp who who w (W.setCell ⟨b, 2, none⟩ (.slice none 0 0))) := fun W hb hcl => by
      subst hcl
      have h2 := (h.low hb).cleared hnd hS
      exact ⟨h2.1, (Stp.of_below hb).trans h2.2⟩
    have HCE : Hid (∀ W, Below w.heap.size w W → ∃ ve, W.cell? ⟨b, 2, none⟩ = some ve ∧ ∀ i, W.frozen? ⟨b, i, none⟩ = false) := fun W hb => by
      obtain ⟨vs, ve, hcn, _⟩ := (h.low hb).node4 hnd hS
      obtain ⟨_, _, c1, _, hf⟩ := vcells4 hcn
      exact ⟨ve, c1, hf⟩
    clear h hv hcell hE hnl hnd hS A0 hp hkey hvn hx0 hE2
    go_enter Tryz.func28, Tryz.ntmps28
    cases hcl : clear
    all_goals
      go_wp2_with (go_at_call 56; refine A1.out.mono ?_; rintro e w1 ⟨rfl, hB⟩; obtain ⟨ve, c1, hf⟩ := HCE.out _ hB; have hf1 := hf 2; have HB1 := Lib.hid hB; clear hB hf)
      go_loopw [23] (fun q wr => ∃ k : Nat, k ≤ n ∧ q = .int .i64 (k : Int) ∧ ∃ who', RTr wr B yb who' nd (setS S key { nn with exports := expL (ex0 nn clear) (L.take k) }) l ∧ Stp who who' w wr) (fun q _ => n - (intOf q).toNat)
      case atStart => first | exact ⟨0, Nat.zero_le _, rfl, who, HST.out _ HB1.out hcl⟩ | exact ⟨0, Nat.zero_le _, rfl, who, HSC.out _ HB1.out hcl⟩
      case round =>
        obtain ⟨k, hk, rfl, who1, hT, hSt⟩ := hrel
        clear c1 hf1
        by_cases hlt : k < n
        · have hkl : k < L.length := by have := HN.out.1; omega
          have hrow := HV.out.fr (HU.out (by omega)) hSt.fr
          obtain ⟨hh, _, _, hcell⟩ := hrow.at_
          obtain ⟨gb, off, rfl, hgl, hc0⟩ := hcell k hkl
          have hstep := expL_snoc (ex0 nn clear) L k hkl
          have hlen := exp_len (L.take k) (ex0 nn clear)
          have hlb : (expL (ex0 nn clear) (L.take k)).length ≤ 300000 := by
            have : (L.take k).length ≤ k := by simp; omega
            have := HN.out.2.2.2
            omega
          obtain ⟨vs, v1, hcn, hwb, hbl, r1, r2, r3, r4⟩ := hT.node4 HN.out.2.1 (setS_at _ _ _)
          obtain ⟨_, _, d1, _, hf⟩ := vcells4 hcn
          have hf1 := hf 2
          simp only at r3
          have HPU := Lib.hid (fun w' g c p => hT.pushed (w' := w') (g := g) (c := c) (p := p) HN.out.2.1 (setS_at _ _ _) hcn)
          have HCB := Lib.hid (fun (w' : World) (hk' : Kp v1.ownBlock.toList wr w') => by
            have hb' := (hk'.block b hbl (fun hm => by have := r4 b (by simpa using hm); rw [hwb] at this; cases this)).trans hcn
            obtain ⟨_, _, d1', _, hf'⟩ := vcells4 hb'
            exact And.intro d1' (hf' 2))
          obtain ⟨eo, ec, rfl⟩ := owns_slice r3
          have hco := fun x => rhas_any (TxtRow.of_owns r3) (by omega) x
          generalize L[k] = p at *
          have hcx : wr.cell? ⟨gb, off + k, none⟩ = some (.string ⟨p.toArray⟩) := hc0
          have t0 : decide ((k : Int) < (n : Int)) = true := by rw [decide_eq_true_eq]; omega
          have i1 : k < n := hlt
          have hw1 : IntKind.i64.wrap ((k : Int) + 1) = (k : Int) + 1 := IntWalk.i64_in _ (by omega)
          obtain ⟨ex, hex⟩ : ∃ ex, expL (ex0 nn clear) (L.take k) = ex := ⟨_, rfl⟩
          simp only [hex] at r3 hco hstep hlb HPU HCB d1 hT
          have HT := Lib.hid (And.intro hT hSt)
          obtain ⟨en, hen⟩ : ∃ en, ex.length = en := ⟨_, rfl⟩
          simp only [hen] at r3 hco hlb d1 HPU HCB
          have HR := Lib.hid r3
          have HK := Lib.hid (And.intro hlt (And.intro hen hex))
          have HSTEP := Lib.hid hstep
          have HCO := hco p
          have hbase := hT.base
          clear hT hSt hrow hcell hc0 hlen hcn hwb hbl r1 r2 r3 r4 hf hco hex hen hstep hlt hk hkl hh
          cases hhs : hasB ex p with
          | true =>
            rw [hhs] at HCO
            have HC := Lib.hid HCO
            have HEQ : Hid (expL (ex0 nn clear) (L.take (k + 1)) = ex) := by show _ = _; rw [HSTEP.out]; unfold expStep; rw [hhs]; rfl
            clear HCO hhs
            go_wp2_with (go_at_call 61; refine HC.out.mono ?_; rintro e w2 ⟨rfl, rfl⟩)
            exact ⟨⟨k + 1, by have := HK.out; omega, by go_num, who1, by rw [HEQ.out]; exact HT.out.1, HT.out.2⟩, by have := HK.out; simp [intOf]; omega⟩
          | false =>
            rw [hhs] at HCO
            have HC := Lib.hid HCO
            have HEQ : Hid (expL (ex0 nn clear) (L.take (k + 1)) = ex ++ [p]) := by show _ = _; rw [HSTEP.out]; unfold expStep; rw [hhs]; rfl
            clear HCO hhs
            go_wp2_with (first | (go_at_call 61; refine HC.out.mono ?_; rintro e w2 ⟨rfl, rfl⟩) | (at_builtin; go_loud (refine wpList_push1 rfl (.tmp 38) (.tmp 40) 27 rfl B 9 (.string ⟨#[]⟩) 16 Tryz.underlying27 infoStr rfl (.slice eo en ec) en _ rfl HR.out (.string ⟨p.toArray⟩) _ rfl rfl rfl (by unfold maxLen; omega) (by omega) hbase ?_); intro g1 c1 w3 hg1 hown3 hk3 hloc; have HPX := Lib.hid (HPU.out w3 g1 c1 p hk3 hown3 hloc); obtain ⟨x1, xf⟩ := HCB.out w3 hk3; clear hg1 hown3 hk3 hloc))
            obtain ⟨who2, hT2, hS2⟩ := HPX.out
            rw [setS_setS] at hT2
            exact ⟨⟨k + 1, by have := HK.out; omega, by go_num, who2, by rw [HEQ.out]; exact hT2, HT.out.2.trans hS2⟩, by have := HK.out; simp [intOf]; omega⟩
        · have hkn : k = n := by omega
          subst hkn
          have t0 : decide ((k : Int) < (k : Int)) = false := by rw [decide_eq_false_iff_not]; omega
          have hnn := HN.out.1
          rw [List.take_of_length_le (by omega)] at hT
          have HT := Lib.hid (And.intro hT hSt)
          clear hT hSt hk hlt hnn
          go_wp2_with fail
          go_ret
          exact ⟨rfl, who1, nd, l, by have := HT.out.1; rw [hcl] at this; exact this, HT.out.2⟩
end Go.Proofs.YtjgdfgpnmmkjfaaGreatDoor
