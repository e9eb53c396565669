/- Remove; the reference's Set, Remove, Unset. -/
import Derived.Test.YtpaffocniniakaaPathR4
import Derived.Test.YtpaffocniniakaaUns
import Derived.Test.YtpaffocniniakaaKeptR
import Derived.Lib.SlicesS
namespace Go.Proofs.Ytpaffocniniakaa
set_option linter.unusedVariables false
set_option linter.unusedSimpArgs false
open Go.RowKit

/-! Set -/
theorem val_empty (k : Bs) : valC [] k = [] := rfl
theorem walk_empty : ∀ (r : List Bs) (q : Bs), walkC [] (q :: r) = 0
  | [], q => rfl
  | a :: r, q => by
    have h : walkC [] (q :: a :: r) = walkC (valC [] q) (a :: r) := rfl
    rw [h, val_empty]
    exact walk_empty r a
theorem walk_along : ∀ (path : List Bs) (s : Bs), path ≠ [] → (walkC s path = 0 ∧ alongC s path ≠ 11) ∨ (walkC s path = 11 ∧ alongC s path = 11)
  | [], s, h => absurd rfl h
  | [k], s, _ => by
    rw [walkC, alongC]
    cases readC s with
    | none => exact .inr ⟨rfl, rfl⟩
    | some ps => exact .inl ⟨rfl, by simp⟩
  | k :: q :: r, s, _ => by
    rw [walkC, alongC]
    cases readC s with
    | none => exact .inr ⟨rfl, rfl⟩
    | some ps =>
      simp only
      rw [if_neg (by simp)]
      cases hg : getP ps k with
      | none =>
        have : valC ps k = [] := by unfold valC; rw [hg]; rfl
        rw [this]
        exact .inl ⟨walk_empty r q, by simp⟩
      | some v =>
        rw [valC_some hg]
        exact walk_along (q :: r) v (by simp)
theorem set_law (s : Bs) (path : List Bs) (value : Bs) : setC s path value = if readC s = none then ([], 11) else if alongC s path = 11 then ([], 11) else if path = [] then ([], 7) else putC path s value := by
  unfold setC
  by_cases hp : path = []
  · subst hp
    rw [walkC, alongC]
    cases readC s <;> simp
  · by_cases hr : readC s = none
    · have h11 : walkC s path = 11 := by
        match path, hp with
        | [k], _ => rw [walkC, hr]
        | k :: q :: r, _ => rw [walkC, hr]
      rw [if_pos hr, h11, if_neg (by decide)]
    · rw [if_neg hr, if_neg hp]
      rcases walk_along path s hp with ⟨h1, h2⟩ | ⟨h1, h2⟩
      · rw [if_pos h1, if_neg h2]
      · rw [h1, if_neg (by decide), if_pos h2]
set_option maxHeartbeats 400000 in
theorem rSet_any (s : Bs) (path : List Bs) (value : Bs) (v : Value) (w : World) (hs : s.length ≤ 19999) (hv : value.length ≤ 900000) (hkl : ∀ k ∈ path, k.length ≤ 1000000) (ht : TxtRow w v path) :
    Calls Try.prog 25 #[.string ⟨s.toArray⟩, v, .string ⟨value.toArray⟩] w fun e w' => e = .returned (.tuple #[.string ⟨(setC s path value).1.toArray⟩, .int .i64 (setC s path value).2]) ∧ Below w.heap.size w w' := by
  have VA := Lib.hid (rValid_any s hs w)
  have AL : Hid (∀ W, Below w.heap.size w W → Calls Try.prog 51 #[.string ⟨s.toArray⟩, v] W fun e w' => e = .returned (.int .i64 (alongC s path)) ∧ Below w.heap.size w w') := fun W h => (along_any s path v W hs (ht.below h)).mono fun e w' ⟨h1, h2⟩ => ⟨h1, h.trans (h2.mono h.size)⟩
  have PU : Hid (∀ W, Below w.heap.size w W → Calls Try.prog 52 #[.string ⟨s.toArray⟩, v, .string ⟨value.toArray⟩] W fun e w' => e = .returned (.tuple #[.string ⟨(putC path s value).1.toArray⟩, .int .i64 (putC path s value).2]) ∧ Below w.heap.size w w') := fun W h => (rput_any hv path s v W hs hkl (ht.below h)).mono fun e w' ⟨h1, h2⟩ => ⟨h1, h.trans (h2.mono h.size)⟩
  rw [set_law]
  obtain ⟨o, c, rfl⟩ := ht.len
  by_cases hr : readC s = none
  · rw [if_pos hr]
    rw [hr] at VA
    simp only [Option.isSome_none] at VA
    clear hr AL PU ht
    go_enter Try.func25, Try.ntmps25
    go_wp2_with (go_at_call 50; refine VA.out.mono ?_; rintro e w1 ⟨rfl, hB1⟩; have H1 := Lib.hid hB1; clear hB1)
    go_ret2
    exact ⟨rfl, H1.out⟩
  · rw [if_neg hr]
    have hi : (readC s).isSome = true := by cases h : readC s with | none => exact absurd h hr | some x => rfl
    rw [hi] at VA
    clear hr hi
    obtain ⟨al, hal⟩ : ∃ al, alongC s path = al := ⟨_, rfl⟩
    rw [hal] at AL ⊢
    clear hal
    by_cases h11 : al = 11
    · subst h11
      rw [if_pos rfl]
      clear PU ht
      go_enter Try.func25, Try.ntmps25
      go_wp2_with (first | (go_at_call 50; refine VA.out.mono ?_; rintro e w1 ⟨rfl, hB1⟩; have H1 := Lib.hid hB1; clear hB1) | (go_at_call 51; refine (AL.out _ H1.out).mono ?_; rintro e w2 ⟨rfl, hB2⟩; have H2 := Lib.hid hB2; clear hB2))
      go_ret2
      exact ⟨rfl, H2.out⟩
    · rw [if_neg h11]
      have t1 : (al == 11) = false := beq_eq_false_iff_ne.2 h11
      by_cases hp : path = []
      · rw [if_pos hp]
        have hl : path.length = 0 := by rw [hp]; rfl
        rw [hl] at AL ⊢
        clear h11 PU ht hp hl hkl
        go_enter Try.func25, Try.ntmps25
        go_wp2_with (first | (go_at_call 50; refine VA.out.mono ?_; rintro e w1 ⟨rfl, hB1⟩; have H1 := Lib.hid hB1; clear hB1) | (go_at_call 51; refine (AL.out _ H1.out).mono ?_; rintro e w2 ⟨rfl, hB2⟩; have H2 := Lib.hid hB2; clear hB2))
        go_ret2
        exact ⟨rfl, H2.out⟩
      · rw [if_neg hp]
        have hl0 : 0 < path.length := List.length_pos_iff.2 hp
        have t9 : ((path.length : Int) == 0) = false := by rw [beq_eq_false_iff_ne]; omega
        generalize path.length = n at *
        generalize putC path s value = q at *
        clear h11 ht hp hkl
        go_enter Try.func25, Try.ntmps25
        go_wp2_with (first | (go_at_call 50; refine VA.out.mono ?_; rintro e w1 ⟨rfl, hB1⟩; have H1 := Lib.hid hB1; clear hB1) | (go_at_call 51; refine (AL.out _ H1.out).mono ?_; rintro e w2 ⟨rfl, hB2⟩; have H2 := Lib.hid hB2; clear hB2) | (go_at_call 52; refine (PU.out _ H2.out).mono ?_; rintro e w3 ⟨rfl, hB3⟩; have H3 := Lib.hid hB3; clear hB3))
        go_ret2
        exact ⟨rfl, H3.out⟩
/-! Remove -/
def remC (s : Bs) (keys : List Bs) : Bs × Int := chgE s (fun _ => 0) (fun ps => ps.filter fun p => !keys.contains p.1)
theorem contains_any {W : World} {v : Value} {keys : List Bs} (k : Bs) (ht : TxtRow W v keys) : Calls Try.prog 55 #[v, .string ⟨k.toArray⟩] W fun e w' => e = .returned (.bool (keys.contains k)) ∧ w' = W := by
  obtain ⟨o, c, rfl⟩ := ht.len
  obtain ⟨_, h1, h2, h3⟩ := ht.at_
  unfold maxLen at h2
  cases keys with
  | nil => exact Try.slices_Contains_string_empty o c _ W
  | cons a r =>
    obtain ⟨b, off, rfl, hl, _⟩ := h3 0 (by simp)
    have h := Try.slices_Contains_string b off (a :: r).length c ((a :: r).map fun l => ⟨l.toArray⟩) ⟨k.toArray⟩ W (by simp) (by omega) (fun j hj => by
      rw [List.length_map] at hj
      obtain ⟨b', off', e, _, hc⟩ := h3 j hj
      cases e
      rw [hc, List.getD_eq_getElem?_getD, List.getElem?_map, List.getElem?_eq_getElem hj]; rfl)
    have e : Lib.containsS (((a :: r).map fun l => (⟨l.toArray⟩ : ByteArray)).take (a :: r).length) ⟨k.toArray⟩ = (a :: r).contains k := by
      rw [Bool.eq_iff_iff, Lib.containsS_iff, List.take_of_length_le (by simp), List.contains_iff_mem, List.mem_map]
      constructor
      · rintro ⟨x, hx, e⟩
        have : x = k := by simpa using e
        exact this ▸ hx
      · intro hx; exact ⟨k, hx, rfl⟩
    rw [e] at h
    exact h
set_option maxRecDepth 100000 in
set_option maxHeartbeats 400000 in
theorem rem_keep {xb : Nat} {v : Value} {keys : List Bs} (k x : Bs) (W : World) (hx : W.cell? ⟨xb, 0, none⟩ = some v) (ht : TxtRow W v keys) :
    Calls Try.prog 54 #[.string ⟨k.toArray⟩, .string ⟨x.toArray⟩, .pointer (some ⟨xb, 0, none⟩)] W fun e w' => e = .returned (.bool (!keys.contains k)) ∧ w' = W := by
  have CO := Lib.hid (contains_any k ht)
  clear ht
  generalize keys.contains k = q at *
  go_enter Try.func54, Try.ntmps54
  go_wp2_with (go_at_call 55; refine CO.out.mono ?_; rintro e w1 ⟨rfl, rfl⟩; skip)
  go_ret
  exact ⟨by first | rfl | simp, rfl⟩
set_option maxRecDepth 100000 in
set_option maxHeartbeats 400000 in
theorem rem_in {xb : Nat} {v : Value} {keys : List Bs} {w W : World} {ps : Prs} {b : Nat} {F : List Nat} (hps : ps.length ≤ 100000) (hcl : ∀ p ∈ ps, clip2 p = p)
    (hx : w.cell? ⟨xb, 0, none⟩ = some v) (hxl : xb < w.heap.size) (ht : TxtRow w v keys) (hW : Below w.heap.size w W) (hb : Bk W b F ps) :
    Calls Try.prog 53 #[.pointer (some ⟨b, 0, none⟩), .pointer (some ⟨xb, 0, none⟩)] W (ChF w 0 (ps.filter fun p => !keys.contains p.1)) := by
  have hlo := hW.size
  have KEPT : Hid (Calls Try.prog 47 #[.pointer (some ⟨b, 0, none⟩), .func (.func 54) #[] #[.pointer (some ⟨xb, 0, none⟩)]] W fun e w' => Below W.heap.size W w' ∧ ∃ b F, e = .returned (.pointer (some ⟨b, 0, none⟩)) ∧ Bk w' b F (ps.filter fun p => !keys.contains p.1) ∧ ∀ d ∈ F, W.heap.size ≤ d) :=
    kept_rem hb hps hcl (fun k' _ => !keys.contains k') (fun W' k' x' h1 _ _ => by
      have h2 : Below w.heap.size w W' := hW.trans (h1.mono hlo)
      exact (rem_keep k' x' W' ((h2.cell (p := ⟨xb, 0, none⟩) hxl).trans hx) (ht.below h2)).mono fun e w' ⟨h3, h4⟩ => ⟨h3, h4 ▸ Below.refl _ _⟩)
  have HWW := Lib.hid hW
  clear hb hW ht hx
  generalize (ps.filter fun p => !keys.contains p.1) = rs at *
  go_enter Try.func53, Try.ntmps53
  go_wp2_with (go_at_call 47; refine KEPT.out.mono ?_; rintro e w3 ⟨hB3, b3, F3, rfl, hb3, hF3⟩; have H3 := Lib.hid (And.intro hB3 (And.intro hb3 hF3)); clear hB3 hb3 hF3)
  go_ret2
  exact ⟨HWW.out.trans (H3.out.1.mono hlo), .inr ⟨rfl, b3, F3, rfl, H3.out.2.1⟩⟩
set_option maxRecDepth 100000 in
set_option maxHeartbeats 400000 in
theorem Remove_any (s : Bs) (keys : List Bs) (v : Value) (w : World) (hM : MaxIs w) (hs : s.length ≤ 19999) (ht : TxtRow w v keys) :
    Calls Try.prog 27 #[.string ⟨s.toArray⟩, v] w fun e w' => e = .returned (.tuple #[.string ⟨(remC s keys).1.toArray⟩, .int .i64 (remC s keys).2]) ∧ Below w.heap.size w w' := by
  have hB1 : Below w.heap.size w (w.alloc (.cells #[v] 29)) := (Below.refl _ w).alloc (Nat.le_refl _) _
  have hx1 := (Boxed.new w 29 v).cell
  have hsz : (w.alloc (.cells #[v] 29)).heap.size = w.heap.size + 1 := by simp
  have CH : Hid (Calls Try.prog 32 #[.string ⟨s.toArray⟩, .func (.func 53) #[] #[.pointer (some ⟨w.heap.size, 0, none⟩)]] (w.alloc (.cells #[v] 29)) fun e w' => e = .returned (.tuple #[.string ⟨(remC s keys).1.toArray⟩, .int .i64 (remC s keys).2]) ∧ Below w.heap.size w w') := by
    have ht1 := ht.below hB1
    generalize w.alloc (.cells #[v] 29) = w1 at *
    have hM1 := hM.below hB1 hM.pos
    refine (changed_rem s hs w1 hM1 (fun _ => 0) (fun ps => ps.filter fun p => !keys.contains p.1) (fun ps hr W b F hW hb hF => ?_) (fun ps hr => ?_)).mono fun e w' ⟨h1, h2⟩ => ⟨h1, hB1.trans (h2.mono (by omega))⟩
    · have hps := read_len hr
      exact rem_in (by omega) (read_clip2 hr hs) hx1 (by omega) ht1 hW hb
    · have h1 := List.length_filter_le (fun p => !keys.contains p.1) ps
      have h2 := read_len hr
      omega
  obtain ⟨o, c, rfl⟩ := ht.len
  clear hx1 hsz hM ht
  generalize remC s keys = q at *
  generalize keys.length = n at *
  have HB1 := Lib.hid hB1
  clear hB1
  go_enter Try.func27, Try.ntmps27
  go_wp2_with (go_at_call 32; refine CH.out.mono ?_; rintro e w3 ⟨rfl, hB3⟩; have H3 := Lib.hid hB3; clear hB3)
  go_ret2
  exact ⟨rfl, H3.out⟩
end Go.Proofs.Ytpaffocniniakaa
