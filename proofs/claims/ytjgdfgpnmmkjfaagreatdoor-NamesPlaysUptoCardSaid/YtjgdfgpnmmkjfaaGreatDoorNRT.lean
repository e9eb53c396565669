/- The reference's trees in memory; 'New' and 'at'. -/
import Derived.Test.YtjgdfgpnmmkjfaaGreatDoorNExp
import Derived.Test.YtjgdfgpnmmkjfaaGreatDoorNRef2
import Derived.Test.YtjgdfgpnmmkjfaaGreatDoorNCand
namespace Go.Proofs.YtjgdfgpnmmkjfaaGreatDoor
set_option linter.unusedVariables false
set_option linter.unusedSimpArgs false
open Go.RowKit Go.MapKept

def RNodeAt (w : World) (B : Nat) (who : Own) (k : Bs) (b : Nat) (n : ND) : Prop :=
  who b = some (2, k) ∧ ∃ vs ve, w.heap[b]? = some (.cells #[.string ⟨k.toArray⟩, vs, ve, .string ⟨n.unknown.toArray⟩] 57 (0, 0)) ∧
    w.ownsRow B 9 1 vs n.search.length (n.search.map sv) ∧ (∀ g, vs.ownBlock = some g → who g = some (3, k)) ∧
    w.ownsRow B 9 1 ve n.exports.length (n.exports.map sv) ∧ (∀ g, ve.ownBlock = some g → who g = some (4, k))
/-- A tree of the reference at block yb: its paths l, in order. -/
structure RTr (w : World) (B yb : Nat) (who : Own) (nd : Bs → Option Nat) (S : Bs → Option ND) (l : List Bs) : Prop where
  cel : ∃ lv, w.heap[yb]? = some (.cells #[lv] 60 (0, 0)) ∧ w.ownsRow B 55 1 lv l.length (l.map fun p => ptrN (nd p)) ∧ ∀ g, lv.ownBlock = some g → who g = some (1, [])
  mem : ∀ k, k ∈ l ↔ (S k).isSome = true
  nodup : l.Nodup
  wyb : who yb = some (0, [])
  same : ∀ k, (nd k).isSome = (S k).isSome
  node : ∀ k b n, nd k = some b → S k = some n → RNodeAt w B who k b n
  lo : ∀ j, who j ≠ none → B ≤ j ∧ j < w.heap.size
theorem RNodeAt.keep {w w' : World} {B : Nat} {who who' : Own} {k : Bs} {b : Nat} {n : ND} (h : RNodeAt w B who k b n) (hb : w'.heap[b]? = w.heap[b]?)
    (hs : ∀ j, who j = some (3, k) → w'.heap[j]? = w.heap[j]?) (he : ∀ j, who j = some (4, k) → w'.heap[j]? = w.heap[j]?) (hw : ∀ j t, who j = some t → who' j = some t) : RNodeAt w' B who' k b n := by
  obtain ⟨h1, vs, ve, h2, h3, h4, h5, h6⟩ := h
  exact ⟨hw _ _ h1, vs, ve, hb.trans h2, row_keep h3 (fun g hg => hs g (h4 g hg)), fun g hg => hw _ _ (h4 g hg), row_keep h5 (fun g hg => he g (h6 g hg)), fun g hg => hw _ _ (h6 g hg)⟩
section
variable {w w' : World} {B yb : Nat} {who who2 who2' : Own} {nd : Bs → Option Nat} {S : Bs → Option ND} {l : List Bs}
theorem RTr.has (h : RTr w B yb who nd S l) {k : Bs} {b : Nat} (hb : nd k = some b) : ∃ n, S k = some n ∧ RNodeAt w B who k b n := by
  have h1 := h.same k
  rw [hb] at h1
  cases hS : S k with
  | none => rw [hS] at h1; simp at h1
  | some n => exact ⟨n, rfl, h.node k b n hb hS⟩
theorem RTr.none_of (h : RTr w B yb who nd S l) {k : Bs} (hb : nd k = none) : S k = none := by
  have h1 := h.same k
  rw [hb] at h1
  cases hS : S k with
  | none => rfl
  | some n => rw [hS] at h1; simp at h1
theorem RTr.of_mem (h : RTr w B yb who nd S l) {k : Bs} (hk : k ∈ l) : ∃ b n, nd k = some b ∧ S k = some n ∧ RNodeAt w B who k b n := by
  have h1 := h.same k
  have h2 := (h.mem k).1 hk
  rw [h2] at h1
  cases hb : nd k with
  | none => rw [hb] at h1; simp at h1
  | some b => obtain ⟨n, hn, hN⟩ := h.has hb; exact ⟨b, n, rfl, hn, hN⟩
theorem RTr.keep (h : RTr w B yb who nd S l) (hs : w.heap.size ≤ w'.heap.size) (hk : ∀ j, who j ≠ none → w'.heap[j]? = w.heap[j]?) : RTr w' B yb who nd S l := by
  obtain ⟨lv, h1, h2, h3⟩ := h.cel
  refine ⟨⟨lv, (hk yb (by rw [h.wyb]; simp)).trans h1, row_keep h2 (fun g hg => hk g (by rw [h3 g hg]; simp)), h3⟩, h.mem, h.nodup, h.wyb, h.same, fun k b n hb hS => ?_, fun j hj => ⟨(h.lo j hj).1, Nat.lt_of_lt_of_le (h.lo j hj).2 hs⟩⟩
  have hN := h.node k b n hb hS
  exact hN.keep (hk b (by rw [hN.1]; simp)) (fun j hj => hk j (by rw [hj]; simp)) (fun j hj => hk j (by rw [hj]; simp)) (fun _ _ h => h)
theorem RTr.low (h : RTr w B yb who nd S l) (hb : Below w.heap.size w w') : RTr w' B yb who nd S l :=
  h.keep hb.size (fun j hj => hb.block j (h.lo j hj).2)
theorem RTr.other (h : RTr w B yb who nd S l) (hb : Stp who2 who2' w w') (hd : ∀ j, who j ≠ none → who2 j = none) : RTr w' B yb who nd S l :=
  h.keep hb.fr.size (fun j hj => hb.fr.block j (h.lo j hj).2 (hd j hj))
theorem RTr.lt (h : RTr w B yb who nd S l) : yb < w.heap.size := (h.lo yb (by rw [h.wyb]; simp)).2
theorem RTr.base (h : RTr w B yb who nd S l) : B ≤ w.heap.size := by have := h.lo yb (by rw [h.wyb]; simp); omega
theorem RTr.none_at (h : RTr w B yb who nd S l) {j : Nat} (hj : w.heap.size ≤ j) : who j = none := by
  cases hc : who j with
  | none => rfl
  | some p => have := (h.lo j (by rw [hc]; simp)).2; omega
end
theorem vcells4 {W : World} {b : Nat} {u v x y : Value} {t : TypeId} (h : W.heap[b]? = some (.cells #[u, v, x, y] t (0, 0))) : W.cell? ⟨b, 0, none⟩ = some u ∧ W.cell? ⟨b, 1, none⟩ = some v ∧ W.cell? ⟨b, 2, none⟩ = some x ∧ W.cell? ⟨b, 3, none⟩ = some y ∧ ∀ i, W.frozen? ⟨b, i, none⟩ = false := by
  refine ⟨?_, ?_, ?_, ?_, fun i => by simp [World.frozen?, h]⟩ <;> (simp only [World.cell?, h]; rfl)
/-- A tree of the reference just made. -/
theorem rNew_tr (w : World) : Calls Tryz.prog 10 #[] w fun e w' => ∃ yb who nd, e = .returned (.pointer (some ⟨yb, 0, none⟩)) ∧ RTr w' w.heap.size yb who nd newS [rootN] ∧ Below w.heap.size w w' := by
  go_enter Tryz.func10, Tryz.ntmps10
  go_wp2
  go_ret
  refine ⟨_, fun j => if j = w.heap.size + 1 + 1 then some (0, []) else if j = w.heap.size + 1 then some (1, []) else if j = w.heap.size then some (2, rootN) else none, fun k => if k = rootN then some w.heap.size else none, rfl, ?_, (((Below.refl _ w).alloc (Nat.le_refl _) _).alloc (by simp) _).alloc (by simp; omega) _⟩
  have e0 := at_old (.cells #[.slice (some ⟨w.heap.size + 1, 0, none⟩) 1 1] 60) (at_old (.cells #[.pointer (some ⟨w.heap.size, 0, none⟩)] 55) (at_new w (.cells #[.string ⟨#[58, 58]⟩, .slice none 0 0, .slice none 0 0, .string ⟨#[]⟩] 57) _ rfl))
  have e1 := at_old (.cells #[.slice (some ⟨w.heap.size + 1, 0, none⟩) 1 1] 60) (at_new (w.alloc (.cells #[.string ⟨#[58, 58]⟩, .slice none 0 0, .slice none 0 0, .string ⟨#[]⟩] 57)) (.cells #[.pointer (some ⟨w.heap.size, 0, none⟩)] 55) (w.heap.size + 1) (by simp))
  have e2 := at_new ((w.alloc (.cells #[.string ⟨#[58, 58]⟩, .slice none 0 0, .slice none 0 0, .string ⟨#[]⟩] 57)).alloc (.cells #[.pointer (some ⟨w.heap.size, 0, none⟩)] 55)) (.cells #[.slice (some ⟨w.heap.size + 1, 0, none⟩) 1 1] 60) (w.heap.size + 1 + 1) (by simp)
  refine ⟨⟨_, e2, ⟨rfl, .inr ⟨w.heap.size + 1, 1, _, rfl, by omega, e1, Nat.le_refl _, by unfold maxLen; decide, rfl, ?_⟩⟩, fun g hg => ?_⟩, fun k => ?_, by simp, if_pos rfl, fun k => ?_, fun k b n hb hS => ?_, fun j hj => ?_⟩
  · simp [ptrN]
  · have : w.heap.size + 1 = g := by simpa [Value.ownBlock] using hg
    subst this
    simp
  · unfold newS
    by_cases hk : k = rootN
    · simp [hk]
    · simp [hk]
  · unfold newS
    by_cases hk : k = rootN
    · simp only [if_pos hk]; rfl
    · simp only [if_neg hk]; rfl
  · unfold newS at hS
    by_cases hk : k = rootN
    · subst hk
      simp only [if_pos] at hb hS
      cases hb; cases hS
      refine ⟨by show (if _ then _ else if _ then _ else if _ then _ else _) = _; rw [if_neg (by omega), if_neg (by omega), if_pos rfl], _, _, e0, ⟨?_, .inl ⟨rfl, rfl⟩⟩, fun g hg => by simp [Value.ownBlock] at hg, ⟨?_, .inl ⟨rfl, rfl⟩⟩, fun g hg => by simp [Value.ownBlock] at hg⟩ <;> rfl
    · rw [if_neg hk] at hS; cases hS
  · simp only [World.size_alloc]
    by_cases h1 : j = w.heap.size + 1 + 1
    · omega
    · by_cases h2 : j = w.heap.size + 1
      · omega
      · by_cases h3 : j = w.heap.size
        · omega
        · rw [if_neg h1, if_neg h2, if_neg h3] at hj
          exact absurd rfl hj
set_option maxRecDepth 100000 in
set_option maxHeartbeats 1600000 in
theorem rat_any {w : World} {B yb : Nat} {who : Own} {nd : Bs → Option Nat} {S : Bs → Option ND} {l : List Bs} (h : RTr w B yb who nd S l) (hl : l.length ≤ 1000000) (path : Bs) (hp : path.length ≤ 100000) :
    Calls Tryz.prog 56 #[.pointer (some ⟨yb, 0, none⟩), .string ⟨path.toArray⟩] w fun e w' => e = .returned (ptrN (nd (canonN rootN path))) ∧ Below w.heap.size w w' := by
  have CA : Hid (∀ W, Calls Tryz.prog 58 #[.string ⟨#[58, 58]⟩, .string ⟨path.toArray⟩] W fun e w' => e = .returned (.string ⟨(canonN rootN path).toArray⟩) ∧ Below W.heap.size W w') := fun W => rCanonical_any rootN path (by decide) hp W
  generalize canonN rootN path = key at *
  obtain ⟨lv, hcl, hrow, _⟩ := h.cel
  obtain ⟨lo, lc, rfl⟩ := owns_slice hrow
  obtain ⟨c0, _⟩ := vcells1 hcl
  obtain ⟨n, hn⟩ : ∃ n, l.length = n := ⟨_, rfl⟩
  have HN := Lib.hid hn
  have H := Lib.hid h
  rw [hn] at c0 hrow hl
  have HR := Lib.hid hrow
  have hcap : n ≤ lc ∨ n = 0 := by
    rcases hrow.2 with ⟨_, h0⟩ | ⟨g, cap, cur, e, _, _, h1, _⟩
    · exact .inr h0
    · cases e; exact .inl h1
  clear h hcl hrow hn hp
  go_enter Tryz.func56, Tryz.ntmps56
  go_wp2_with fail
  go_loopw [14] (fun q wr => ∃ i : Nat, i ≤ n ∧ q = .int .i64 (i : Int) ∧ Below w.heap.size w wr ∧ key ∉ l.take i) (fun q _ => n - (intOf q).toNat)
  case atStart => exact ⟨0, Nat.zero_le _, rfl, Below.refl _ _, by simp⟩
  case round =>
    obtain ⟨i, hi, rfl, hB, hno⟩ := hrel
    have HB := Lib.hid hB
    have hnl := HN.out
    by_cases hlt : i < n
    · have hil : i < l.length := by omega
      obtain ⟨b, nn, hnd, hS, hNA⟩ := H.out.of_mem (List.getElem_mem hil)
      obtain ⟨_, vs, ve, hcn, _⟩ := hNA
      rcases HR.out.2 with ⟨_, h0⟩ | ⟨g, cap, cur, e1, hg1, hg2, hg3, hg4, hg5, hg6⟩
      · omega
      cases e1
      have hcell : w.cell? ⟨g, i, none⟩ = some (.pointer (some ⟨b, 0, none⟩)) := by
        have hj : (l.map fun p => ptrN (nd p))[i]? = some (.pointer (some ⟨b, 0, none⟩)) := by rw [List.getElem?_map, List.getElem?_eq_getElem hil, Option.map_some, hnd]; rfl
        rw [← hg6, List.getElem?_take, if_pos (by omega)] at hj
        simp only [World.cell?, hg2]
        simpa using hj
      have hcx : wr.cell? ⟨g, i, none⟩ = some (.pointer (some ⟨b, 0, none⟩)) := (hB.cell (p := ⟨g, i, none⟩) (Array.getElem?_eq_some_iff.1 hg2).1).trans hcell
      have hbl : b < w.heap.size := (Array.getElem?_eq_some_iff.1 hcn).1
      have HC : Hid (∀ W, Below w.heap.size w W → W.cell? ⟨b, 0, none⟩ = some (.string ⟨l[i].toArray⟩)) := fun W hb => (vcells4 ((hb.block b hbl).trans hcn)).1
      have htk : l.take (i + 1) = l.take i ++ [l[i]] := List.take_succ_eq_append_getElem hil
      have hres : key = l[i] → ptrN (nd key) = .pointer (some ⟨b, 0, none⟩) := fun e => by rw [e, hnd]; rfl
      generalize l[i] = p at *
      have hc2 := HC.out wr hB
      have hcap2 : n ≤ lc := by omega
      have t0 : decide ((i : Int) < (n : Int)) = true := by rw [decide_eq_true_eq]; omega
      have i1 : i < n := hlt
      have hw1 : IntKind.i64.wrap ((i : Int) + 1) = (i : Int) + 1 := IntWalk.i64_in _ (by omega)
      have HI := Lib.hid (And.intro hlt (And.intro hno (And.intro htk hres)))
      clear hcell hg1 hg2 hg3 hg4 hg5 hg6 hcn hno htk hres hlt hi hil hnd hS hB hnl
      by_cases hpk : p = key
      · subst hpk
        go_wp2_with fail
        go_region_held3 (fun w' => w'.cell? ⟨b, 0, none⟩ = some (.string ⟨p.toArray⟩)) (first | go_keep | (exact HC.out _ hbx)) ((go_at_call 58; refine (CA.out _).mono ?_; rintro e w4 ⟨rfl, hbx0⟩; have hbx : Below w.heap.size w w4 := (HB.out.drew).trans (hbx0.mono HB.out.size); clear hbx0))
        go_wp2_with fail
        go_ret
        exact ⟨by rw [HI.out.2.2.2 (by trivial)]; rfl, hbx⟩
      · have e1 : (p == key) = false := beq_eq_false_iff_ne.2 hpk
        have e2 : (⟨p.toArray⟩ : ByteArray) ≠ ⟨key.toArray⟩ := fun e => hpk (by simpa using e)
        have HPK := Lib.hid hpk
        clear hpk
        go_wp2_with fail
        go_region_held3 (fun w' => w'.cell? ⟨b, 0, none⟩ = some (.string ⟨p.toArray⟩)) (first | go_keep | (exact HC.out _ hbx)) ((go_at_call 58; refine (CA.out _).mono ?_; rintro e w4 ⟨rfl, hbx0⟩; have hbx : Below w.heap.size w w4 := (HB.out.drew).trans (hbx0.mono HB.out.size); clear hbx0))
        go_wp2_with fail
        exact ⟨⟨i + 1, by have := HI.out; omega, by go_num, hbx, by rw [HI.out.2.2.1]; simp only [List.mem_append, List.mem_singleton, not_or]; exact ⟨HI.out.2.1, fun e => HPK.out e.symm⟩⟩, by have := HI.out; simp [intOf]; omega⟩
    · have hin : i = n := by omega
      subst hin
      rw [List.take_of_length_le (by omega)] at hno
      have hS : S key = none := by
        have := H.out.mem key
        cases hS : S key with
        | none => rfl
        | some x => rw [hS] at this; exact absurd (this.2 rfl) hno
      have hnd : nd key = none := by
        have := H.out.same key
        rw [hS] at this
        cases hx : nd key with
        | none => rfl
        | some x => rw [hx] at this; simp at this
      have t0 : decide ((i : Int) < (i : Int)) = false := by rw [decide_eq_false_iff_not]; omega
      have HND := Lib.hid hnd
      clear hnd hS hno hB hnl hlt hi
      go_wp2_with fail
      go_ret
      exact ⟨by rw [HND.out]; rfl, HB.out⟩
end Go.Proofs.YtjgdfgpnmmkjfaaGreatDoor
