/- The reference's questions: 'Exists', 'Search', 'Patterns', 'Unknown', 'Exports', 'Children'. The reference's 'Children'. -/
import Derived.Test.YtjgdfgpnmmkjfaaGreatDoorNRDl
import Derived.Test.YtjgdfgpnmmkjfaaGreatDoorGlobLaw
namespace Go.Proofs.YtjgdfgpnmmkjfaaGreatDoor
set_option linter.unusedVariables false
set_option linter.unusedSimpArgs false
open Go.RowKit Go.MapKept
theorem own_zero (w : World) (B : Nat) (hB : B ≤ w.heap.size) (e : TypeId) : (w.alloc (.cells #[] e)).ownsRow B e 1 (.slice (some ⟨w.heap.size, 0, none⟩) 0 0) 0 [] :=
  ⟨rfl, .inr ⟨w.heap.size, 0, #[], rfl, hB, heap_alloc_new w _, Nat.le_refl _, by unfold maxLen; omega, rfl, rfl⟩⟩
def qB (pat x : Bs) : Bool := globC pat x false
theorem rqGlob (pat x : Bs) (hp : pat.length ≤ 1000000) (hx : x.length ≤ 1000000) (W : World) : Calls Tryz.prog 75 #[.string ⟨pat.toArray⟩, .string ⟨x.toArray⟩, .bool false] W fun e w' => e = .returned (.bool (qB pat x)) ∧ Below W.heap.size W w' := by
  have := rGlob_any pat x false hp hx W
  have e : gl false (partsA pat) x (fun k => decide (k = 0)) = qB pat x := (gl_match false pat x).trans (globC_match pat x false).symm
  rw [e] at this
  exact this
section
variable {w : World} {B yb : Nat} {who : Own} {nd : Bs → Option Nat} {S : Bs → Option ND} {l : List Bs}
theorem RTr.nd_none (h : RTr w B yb who nd S l) {k : Bs} (hk : S k = none) : nd k = none := by
  have h1 := h.same k
  rw [hk] at h1
  cases hx : nd k with
  | none => rfl
  | some x => rw [hx] at h1; simp at h1
theorem RTr.nd_some (h : RTr w B yb who nd S l) {k : Bs} {n : ND} (hk : S k = some n) : ∃ b, nd k = some b := by
  have h1 := h.same k
  rw [hk] at h1
  cases hx : nd k with
  | none => rw [hx] at h1; simp at h1
  | some x => exact ⟨x, rfl⟩
theorem eqSp (c : Nat) (W : World) : (binOp .eql 55 (.pointer (some ⟨c, 0, none⟩)) (.pointer none)).run Tryz.prog W = .ok (.bool false) W := by kernel_rfl
theorem rExists_any (h : RTr w B yb who nd S l) (hl : l.length ≤ 1000000) (s : Bs) (hs : s.length ≤ 100000) {q : Bool} (hq : (S (canonN rootN s)).isSome = q) : Calls Tryz.prog 45 #[.pointer (some ⟨yb, 0, none⟩), .string ⟨s.toArray⟩] w fun e w' => e = .returned (.bool q) ∧ Below w.heap.size w w' := by
  cases hk : S (canonN rootN s) with
  | none =>
    rw [hk] at hq
    subst hq
    have A0 := rat_any h hl s hs
    rw [h.nd_none hk] at A0
    have A1 : Hid (Calls Tryz.prog 56 #[.pointer (some ⟨yb, 0, none⟩), .string ⟨s.toArray⟩] w fun e w' => e = .returned (.pointer none) ∧ Below w.heap.size w w') := A0
    clear h A0 hk hs
    go_enter Tryz.func45, Tryz.ntmps45
    go_wp2_with (go_at_call 56; refine A1.out.mono ?_; rintro e w1 ⟨rfl, hB⟩; have HB1 := Lib.hid hB; clear hB)
    go_ret
    exact ⟨rfl, HB1.out⟩
  | some n =>
    rw [hk] at hq
    subst hq
    obtain ⟨b, hb⟩ := h.nd_some hk
    have A0 := rat_any h hl s hs
    rw [hb] at A0
    have A1 : Hid (Calls Tryz.prog 56 #[.pointer (some ⟨yb, 0, none⟩), .string ⟨s.toArray⟩] w fun e w' => e = .returned (.pointer (some ⟨b, 0, none⟩)) ∧ Below w.heap.size w w') := A0
    clear h A0 hk hs hb
    go_enter Tryz.func45, Tryz.ntmps45
    go_wp2_with (go_at_call 56; refine A1.out.mono ?_; rintro e w1 ⟨rfl, hB⟩; have HB1 := Lib.hid hB; clear hB)
    go_ret
    exact ⟨rfl, HB1.out⟩
theorem rSearch_none (h : RTr w B yb who nd S l) (hl : l.length ≤ 1000000) (s : Bs) (hs : s.length ≤ 100000) (hk : S (canonN rootN s) = none) : Calls Tryz.prog 49 #[.pointer (some ⟨yb, 0, none⟩), .string ⟨s.toArray⟩] w fun e w' => e = .returned (.tuple #[.slice none 0 0, .int .i64 8]) ∧ Below w.heap.size w w' := by
  have A0 := rat_any h hl s hs
  rw [h.nd_none hk] at A0
  have A1 : Hid (Calls Tryz.prog 56 #[.pointer (some ⟨yb, 0, none⟩), .string ⟨s.toArray⟩] w fun e w' => e = .returned (.pointer none) ∧ Below w.heap.size w w') := A0
  clear h A0 hk hs
  go_enter Tryz.func49, Tryz.ntmps49
  go_wp2_with (go_at_call 56; refine A1.out.mono ?_; rintro e w1 ⟨rfl, hB⟩; have HB1 := Lib.hid hB; clear hB)
  go_ret2
  exact ⟨rfl, HB1.out⟩
set_option maxHeartbeats 800000 in
theorem rSearch_any (h : RTr w B yb who nd S l) (hl : l.length ≤ 1000000) (s : Bs) (hs : s.length ≤ 100000) {n : ND} (hk : S (canonN rootN s) = some n) (hn : n.search.length ≤ 1000000) : Calls Tryz.prog 49 #[.pointer (some ⟨yb, 0, none⟩), .string ⟨s.toArray⟩] w fun e w' => ∃ vo, e = .returned (.tuple #[vo, .int .i64 0]) ∧ TxtRow w' vo n.search ∧ Below w.heap.size w w' := by
  obtain ⟨b, hb⟩ := h.nd_some hk
  have A0 := rat_any h hl s hs
  rw [hb] at A0
  have A1 : Hid (Calls Tryz.prog 56 #[.pointer (some ⟨yb, 0, none⟩), .string ⟨s.toArray⟩] w fun e w' => e = .returned (.pointer (some ⟨b, 0, none⟩)) ∧ Below w.heap.size w w') := A0
  obtain ⟨_, vs, ve, hc, hrs, _, hre, _⟩ := h.node _ _ _ hb hk
  have hbl := (Array.getElem?_eq_some_iff.1 hc).1
  have hTx : TxtRow w vs n.search := TxtRow.of_owns hrs
  obtain ⟨fo, fc, rfl⟩ := hTx.len
  have HX : Hid (∀ W, Below w.heap.size w W → W.cell? ⟨b, 1, none⟩ = some (.slice fo n.search.length fc) ∧ TxtRow W (.slice fo n.search.length fc) n.search) := fun W hb => ⟨(vcells4 ((hb.block b hbl).trans hc)).2.1, hTx.below hb⟩
  generalize n.search = L at *
  obtain ⟨ln, hln⟩ : ∃ ln, L.length = ln := ⟨_, rfl⟩
  have HLN := Lib.hid hln
  rw [hln] at HX hn
  clear h A0 hk hs hb hc hrs hre hTx hbl hln
  go_enter Tryz.func49, Tryz.ntmps49
  go_wp2_with (first
    | (go_at_call 56; refine A1.out.mono ?_; rintro e w1 ⟨rfl, hB⟩; obtain ⟨d0, d1⟩ := HX.out w1 hB; have d2 := (HX.out (w1.alloc (.cells #[] 9)) (hB.alloc hB.size _)).1; have HB1 := Lib.hid (And.intro hB d1); clear hB d1)
    | (at_builtin; go_loud (refine wpList_pushRow rfl (.tmp 12) (.tmp 16) 27 rfl w.heap.size 9 (.string ⟨#[]⟩) 16 Tryz.underlying27 infoStr rfl (.slice (some ⟨w1.heap.size, 0, none⟩) 0 0) 0 [] rfl (by exact own_zero w1 _ HB1.out.1.size _) fo ln fc L rfl (by exact HB1.out.2.below ((Below.refl _ w1).alloc (Nat.le_refl _) _)) (by unfold maxLen; omega) (by omega) (by have := HB1.out.1.size; simp; omega) ?_); intro v3 w3 hown3 hB3; have H3 := Lib.hid (And.intro hown3 (HB1.out.1.trans (((Below.refl w.heap.size w1).alloc HB1.out.1.size (.cells #[] 9)).trans hB3))); clear hown3 hB3))
  go_ret2
  refine ⟨v3, rfl, TxtRow.of_owns (base := w.heap.size) ?_, H3.out.2⟩
  rw [HLN.out]
  simpa using H3.out.1
theorem rPatterns_none (h : RTr w B yb who nd S l) (hl : l.length ≤ 1000000) (s : Bs) (hs : s.length ≤ 100000) (hk : S (canonN rootN s) = none) : Calls Tryz.prog 51 #[.pointer (some ⟨yb, 0, none⟩), .string ⟨s.toArray⟩] w fun e w' => e = .returned (.tuple #[.slice none 0 0, .int .i64 8]) ∧ Below w.heap.size w w' := by
  have A0 := rat_any h hl s hs
  rw [h.nd_none hk] at A0
  have A1 : Hid (Calls Tryz.prog 56 #[.pointer (some ⟨yb, 0, none⟩), .string ⟨s.toArray⟩] w fun e w' => e = .returned (.pointer none) ∧ Below w.heap.size w w') := A0
  clear h A0 hk hs
  go_enter Tryz.func51, Tryz.ntmps51
  go_wp2_with (go_at_call 56; refine A1.out.mono ?_; rintro e w1 ⟨rfl, hB⟩; have HB1 := Lib.hid hB; clear hB)
  go_ret2
  exact ⟨rfl, HB1.out⟩
set_option maxHeartbeats 800000 in
theorem rPatterns_any (h : RTr w B yb who nd S l) (hl : l.length ≤ 1000000) (s : Bs) (hs : s.length ≤ 100000) {n : ND} (hk : S (canonN rootN s) = some n) (hn : n.exports.length ≤ 1000000) : Calls Tryz.prog 51 #[.pointer (some ⟨yb, 0, none⟩), .string ⟨s.toArray⟩] w fun e w' => ∃ vo, e = .returned (.tuple #[vo, .int .i64 0]) ∧ TxtRow w' vo n.exports ∧ Below w.heap.size w w' := by
  obtain ⟨b, hb⟩ := h.nd_some hk
  have A0 := rat_any h hl s hs
  rw [hb] at A0
  have A1 : Hid (Calls Tryz.prog 56 #[.pointer (some ⟨yb, 0, none⟩), .string ⟨s.toArray⟩] w fun e w' => e = .returned (.pointer (some ⟨b, 0, none⟩)) ∧ Below w.heap.size w w') := A0
  obtain ⟨_, vs, ve, hc, hrs, _, hre, _⟩ := h.node _ _ _ hb hk
  have hbl := (Array.getElem?_eq_some_iff.1 hc).1
  have hTx : TxtRow w ve n.exports := TxtRow.of_owns hre
  obtain ⟨fo, fc, rfl⟩ := hTx.len
  have HX : Hid (∀ W, Below w.heap.size w W → W.cell? ⟨b, 2, none⟩ = some (.slice fo n.exports.length fc) ∧ TxtRow W (.slice fo n.exports.length fc) n.exports) := fun W hb => ⟨(vcells4 ((hb.block b hbl).trans hc)).2.2.1, hTx.below hb⟩
  generalize n.exports = L at *
  obtain ⟨ln, hln⟩ : ∃ ln, L.length = ln := ⟨_, rfl⟩
  have HLN := Lib.hid hln
  rw [hln] at HX hn
  clear h A0 hk hs hb hc hrs hre hTx hbl hln
  go_enter Tryz.func51, Tryz.ntmps51
  go_wp2_with (first
    | (go_at_call 56; refine A1.out.mono ?_; rintro e w1 ⟨rfl, hB⟩; obtain ⟨d0, d1⟩ := HX.out w1 hB; have d2 := (HX.out (w1.alloc (.cells #[] 9)) (hB.alloc hB.size _)).1; have HB1 := Lib.hid (And.intro hB d1); clear hB d1)
    | (at_builtin; go_loud (refine wpList_pushRow rfl (.tmp 12) (.tmp 16) 27 rfl w.heap.size 9 (.string ⟨#[]⟩) 16 Tryz.underlying27 infoStr rfl (.slice (some ⟨w1.heap.size, 0, none⟩) 0 0) 0 [] rfl (by exact own_zero w1 _ HB1.out.1.size _) fo ln fc L rfl (by exact HB1.out.2.below ((Below.refl _ w1).alloc (Nat.le_refl _) _)) (by unfold maxLen; omega) (by omega) (by have := HB1.out.1.size; simp; omega) ?_); intro v3 w3 hown3 hB3; have H3 := Lib.hid (And.intro hown3 (HB1.out.1.trans (((Below.refl w.heap.size w1).alloc HB1.out.1.size (.cells #[] 9)).trans hB3))); clear hown3 hB3))
  go_ret2
  refine ⟨v3, rfl, TxtRow.of_owns (base := w.heap.size) ?_, H3.out.2⟩
  rw [HLN.out]
  simpa using H3.out.1
theorem rUnknown_any (h : RTr w B yb who nd S l) (hl : l.length ≤ 1000000) (s : Bs) (hs : s.length ≤ 100000) {q : Int × Bs} (hq : (match S (canonN rootN s) with | none => ((8 : Int), ([] : Bs)) | some n => (0, n.unknown)) = q) : Calls Tryz.prog 54 #[.pointer (some ⟨yb, 0, none⟩), .string ⟨s.toArray⟩] w fun e w' => e = .returned (.tuple #[.string ⟨q.2.toArray⟩, .int .i64 q.1]) ∧ Below w.heap.size w w' := by
  cases hk : S (canonN rootN s) with
  | none =>
    rw [hk] at hq
    subst hq
    have A0 := rat_any h hl s hs
    rw [h.nd_none hk] at A0
    have A1 : Hid (Calls Tryz.prog 56 #[.pointer (some ⟨yb, 0, none⟩), .string ⟨s.toArray⟩] w fun e w' => e = .returned (.pointer none) ∧ Below w.heap.size w w') := A0
    clear h A0 hk hs
    go_enter Tryz.func54, Tryz.ntmps54
    go_wp2_with (go_at_call 56; refine A1.out.mono ?_; rintro e w1 ⟨rfl, hB⟩; have HB1 := Lib.hid hB; clear hB)
    go_ret2
    exact ⟨rfl, HB1.out⟩
  | some n =>
    rw [hk] at hq
    subst hq
    obtain ⟨b, hb⟩ := h.nd_some hk
    have A0 := rat_any h hl s hs
    rw [hb] at A0
    have A1 : Hid (Calls Tryz.prog 56 #[.pointer (some ⟨yb, 0, none⟩), .string ⟨s.toArray⟩] w fun e w' => e = .returned (.pointer (some ⟨b, 0, none⟩)) ∧ Below w.heap.size w w') := A0
    obtain ⟨_, vs, ve, hc, _⟩ := h.node _ _ _ hb hk
    have hbl := (Array.getElem?_eq_some_iff.1 hc).1
    have HX : Hid (∀ W, Below w.heap.size w W → W.cell? ⟨b, 3, none⟩ = some (.string ⟨n.unknown.toArray⟩)) := fun W hb => (vcells4 ((hb.block b hbl).trans hc)).2.2.2.1
    clear h A0 hk hs hb hc hbl
    go_enter Tryz.func54, Tryz.ntmps54
    go_wp2_with (go_at_call 56; refine A1.out.mono ?_; rintro e w1 ⟨rfl, hB⟩; have d0 := HX.out w1 hB; have HB1 := Lib.hid hB; clear hB)
    go_ret2
    exact ⟨rfl, HB1.out⟩
/-- Whether a pattern of a list matches. -/
def expQ (L : List Bs) (x : Bs) : Bool := L.any fun p => qB p x
theorem exp_take {L : List Bs} {i : Nat} (hi : i < L.length) (x : Bs) : expQ (L.take (i + 1)) x = (expQ (L.take i) x || qB L[i] x) := by
  unfold expQ
  rw [List.take_succ_eq_append_getElem hi, List.any_append]
  simp
set_option maxRecDepth 100000 in
set_option maxHeartbeats 800000 in
theorem rExports_any (h : RTr w B yb who nd S l) (hl : l.length ≤ 1000000) (s : Bs) (hs : s.length ≤ 100000) (x : Bs) (hx : x.length ≤ 1000000) {L : List Bs} (hL : (match S (canonN rootN s) with | none => ([] : List Bs) | some n => n.exports) = L) (hn : L.length ≤ 1000000) (hp : ∀ p ∈ L, p.length ≤ 1000000) : Calls Tryz.prog 48 #[.pointer (some ⟨yb, 0, none⟩), .string ⟨s.toArray⟩, .string ⟨x.toArray⟩] w fun e w' => e = .returned (.bool (expQ L x)) ∧ Below w.heap.size w w' := by
  have PT : Hid (Calls Tryz.prog 51 #[.pointer (some ⟨yb, 0, none⟩), .string ⟨s.toArray⟩] w fun e w' => ∃ o c r, e = .returned (.tuple #[.slice o L.length c, .int .i64 r]) ∧ TxtRow w' (.slice o L.length c) L ∧ Below w.heap.size w w') := by
    cases hk : S (canonN rootN s) with
    | none =>
      rw [hk] at hL
      subst hL
      exact (rPatterns_none h hl s hs hk).mono fun e w' ⟨he, hb⟩ => ⟨none, 0, 8, he, TxtRow.nil _, hb⟩
    | some n =>
      rw [hk] at hL
      subst hL
      refine (rPatterns_any h hl s hs hk hn).mono fun e w' hh => ?_
      obtain ⟨vo, he, ht, hb⟩ := hh
      obtain ⟨o, c, rfl⟩ := ht.len
      exact ⟨o, c, 0, he, ht, hb⟩
  have HGL : Hid (∀ W p, p ∈ L → Calls Tryz.prog 75 #[.string ⟨p.toArray⟩, .string ⟨x.toArray⟩, .bool false] W fun e w' => e = .returned (.bool (qB p x)) ∧ Below W.heap.size W w') := fun W p hm => rqGlob p x (hp p hm) hx W
  obtain ⟨n, hn2⟩ : ∃ n, L.length = n := ⟨_, rfl⟩
  have HN := Lib.hid hn2
  rw [hn2] at PT hn
  clear h hl hs hL hp hn2
  go_enter Tryz.func48, Tryz.ntmps48
  go_wp2_with (go_at_call 51; refine PT.out.mono ?_; rintro e w1 ⟨o, c, r, rfl, ht, hB⟩; have H1 := Lib.hid (And.intro ht hB); clear ht hB)
  go_loopw [19] (fun qv wr => ∃ i : Nat, i ≤ n ∧ qv = .int .i64 (i : Int) ∧ expQ (L.take i) x = false ∧ Below w1.heap.size w1 wr) (fun q _ => n - (intOf q).toNat)
  case atStart => exact ⟨0, Nat.zero_le _, rfl, by simp [expQ], Below.refl _ _⟩
  case round =>
    obtain ⟨i, hi, rfl, hex, hB⟩ := hrel
    by_cases hlt : i < n
    · have hil : i < L.length := by have := HN.out; omega
      obtain ⟨g, off, rfl, hgl, hc⟩ := H1.out.1.at_.2.2.2 i hil
      have d0 := (hB.cell (p := ⟨g, off + i, none⟩) hgl).trans hc
      unfold sv at d0
      have GK := Lib.hid (fun W => HGL.out W L[i] (List.getElem_mem hil))
      have hx2 := exp_take hil x
      generalize L[i] = p at *
      have i1 : i < n := hlt
      have i2 : decide ((i : Int) < (n : Int)) = true := by rw [decide_eq_true_eq]; omega
      have hw1 : IntKind.i64.wrap ((i : Int) + 1) = (i : Int) + 1 := IntWalk.i64_in _ (by omega)
      have HI := Lib.hid (And.intro hlt (And.intro hex (And.intro hx2 (And.intro hB hil))))
      clear hi hlt hex hx2 hil hgl hc
      cases hq : qB p x with
      | true =>
        rw [hq] at GK HI
        clear hq
        go_wp2_with (go_at_call 75; refine (GK.out _).mono ?_; rintro e w3 ⟨rfl, hB3⟩; have H3 := Lib.hid (hB.trans (hB3.mono hB.size)); clear hB3)
        go_ret
        refine ⟨ret_bool ?_, H1.out.2.trans (H3.out.mono H1.out.2.size)⟩
        have : expQ (L.take (i + 1)) x = true := by rw [HI.out.2.2.1]; simp
        symm
        unfold expQ at this ⊢
        rw [List.any_eq_true] at this ⊢
        obtain ⟨y, hy, hyq⟩ := this
        exact ⟨y, List.mem_of_mem_take hy, hyq⟩
      | false =>
        rw [hq] at GK HI
        clear hq
        go_wp2_with (go_at_call 75; refine (GK.out _).mono ?_; rintro e w3 ⟨rfl, hB3⟩; have H3 := Lib.hid (hB.trans (hB3.mono hB.size)); clear hB3)
        exact ⟨⟨i + 1, by have := HI.out.1; omega, by go_num, by rw [HI.out.2.2.1, HI.out.2.1]; rfl, H3.out⟩, by have := HI.out.1; simp [intOf]; omega⟩
    · obtain rfl : i = n := by omega
      have i2 : decide ((i : Int) < (i : Int)) = false := by rw [decide_eq_false_iff_not]; omega
      rw [show L.take i = L from by rw [← HN.out, List.take_length]] at hex
      have HI := Lib.hid (And.intro hex hB)
      clear hi hlt hex hB
      go_wp2_with fail
      go_ret
      exact ⟨ret_bool HI.out.1.symm, H1.out.2.trans (HI.out.2.mono H1.out.2.size)⟩
end
end Go.Proofs.YtjgdfgpnmmkjfaaGreatDoor
namespace Go.Proofs.YtjgdfgpnmmkjfaaGreatDoor
set_option linter.unusedVariables false
set_option linter.unusedSimpArgs false
open Go.RowKit Go.MapKept
/-- The paths directly below one, of which a pattern matches the last part. -/
def cL (pat key : Bs) (ks : List Bs) : List Bs := ks.filter fun p => chR (qB pat) key (partsN p)
theorem cL_snoc (pat key : Bs) {ks : List Bs} {i : Nat} (hi : i < ks.length) : cL pat key (ks.take (i + 1)) = cL pat key (ks.take i) ++ (if chR (qB pat) key (partsN ks[i]) = true then [ks[i]] else []) := filt_snocB _ hi
theorem cL_len (pat key : Bs) (ks : List Bs) (i : Nat) : (cL pat key (ks.take i)).length ≤ i := filt_lenB ks _ i
theorem cL_eq {S : Bs → Option ND} {n : Nat} (hG : Gd S n) (pat : Bs) {key : Bs} {q : List Bs} (hq : Cp key q) {ks : List Bs} (hks : KeysOf S ks) : ks.filter (chP (qB pat) key) = cL pat key ks := by
  unfold cL
  refine List.filter_congr fun p hp => ?_
  obtain ⟨l, hl, _⟩ := hG.key p ((hks.mem p).1 hp)
  have : partsN p = l := by rw [hl.1]; exact parts_can l hl.2
  rw [this]
  exact child_eq _ hl hq
section
variable {w : World} {B yb : Nat} {who : Own} {nd : Bs → Option Nat} {S : Bs → Option ND} {l : List Bs}
theorem rChildren_none (h : RTr w B yb who nd S l) (hl : l.length ≤ 1000000) (s : Bs) (hs : s.length ≤ 100000) (pat : Bs) (hk : S (canonN rootN s) = none) : Calls Tryz.prog 44 #[.pointer (some ⟨yb, 0, none⟩), .string ⟨s.toArray⟩, .string ⟨pat.toArray⟩] w fun e w' => e = .returned (.tuple #[.slice none 0 0, .int .i64 8]) ∧ Below w.heap.size w w' := by
  have A0 := rat_any h hl s hs
  rw [h.nd_none hk] at A0
  have A1 : Hid (Calls Tryz.prog 56 #[.pointer (some ⟨yb, 0, none⟩), .string ⟨s.toArray⟩] w fun e w' => e = .returned (.pointer none) ∧ Below w.heap.size w w') := A0
  clear h A0 hk hs
  go_enter Tryz.func44, Tryz.ntmps44
  go_wp2_with (go_at_call 56; refine A1.out.mono ?_; rintro e w1 ⟨rfl, hB⟩; have HB1 := Lib.hid hB; clear hB)
  go_ret2
  exact ⟨rfl, HB1.out⟩
set_option maxRecDepth 100000 in
set_option maxHeartbeats 3200000 in
theorem rChildren_any (h : RTr w B yb who nd S l) {n0 : Nat} (hG : Gd S n0) (hn0 : n0 ≤ 50000) (s : Bs) (hs : s.length ≤ 20000) (pat : Bs) (hp : pat.length ≤ 1000000) {ks : List Bs} (hks : KeysOf S ks) (hk : (S (canonN rootN s)).isSome = true) : Calls Tryz.prog 44 #[.pointer (some ⟨yb, 0, none⟩), .string ⟨s.toArray⟩, .string ⟨pat.toArray⟩] w fun e w' => ∃ vo, e = .returned (.tuple #[vo, .int .i64 0]) ∧ TxtRow w' vo (cL pat (canonN rootN s) ks) ∧ Below w.heap.size w w' := by
  have hll : l.length ≤ 50000 := Nat.le_trans (hG.cnt l h.nodup (fun k hk => (h.mem k).1 hk)) hn0
  have hkl : ks.length ≤ 50000 := Nat.le_trans (hG.cnt ks hks.nodup (fun k hk => (hks.mem k).1 hk)) hn0
  have A0 := rat_any h (by omega) s (by omega)
  obtain ⟨x0, hx0⟩ := Option.isSome_iff_exists.1 hk
  obtain ⟨b, hb⟩ := h.nd_some hx0
  rw [hb] at A0
  have A1 : Hid (Calls Tryz.prog 56 #[.pointer (some ⟨yb, 0, none⟩), .string ⟨s.toArray⟩] w fun e w' => e = .returned (.pointer (some ⟨b, 0, none⟩)) ∧ Below w.heap.size w w') := A0
  have AL : Hid (∀ W, Below w.heap.size w W → Calls Tryz.prog 46 #[.pointer (some ⟨yb, 0, none⟩)] W fun e w' => ∃ o c, e = .returned (.slice o ks.length c) ∧ TxtRow w' (.slice o ks.length c) ks ∧ Below W.heap.size W w') := fun W hb => (rAll_any (h.low hb) hll (fun k hk => by obtain ⟨_, _, h2, _⟩ := hG.key k ((h.mem k).1 hk); omega) hks).mono fun e w' ⟨vo, he, ht, hB⟩ => by
    obtain ⟨o, c, rfl⟩ := ht.len
    exact ⟨o, c, he, ht, hB⟩
  have hKp : Hid (∀ p ∈ ks, ∃ l, Cp p l ∧ p.length ≤ 10000) := fun p hp => by
    obtain ⟨l, h1, h2, _⟩ := hG.key p ((hks.mem p).1 hp)
    exact ⟨l, h1, h2⟩
  have CN : Hid (∀ W, Calls Tryz.prog 58 #[.string ⟨#[58, 58]⟩, .string ⟨s.toArray⟩] W fun e w' => e = .returned (.string ⟨(canonN rootN s).toArray⟩) ∧ Below W.heap.size W w') := fun W => rCanonical_any rootN s (by decide) (by omega) W
  generalize canonN rootN s = key at *
  obtain ⟨n, hn⟩ : ∃ n, ks.length = n := ⟨_, rfl⟩
  have HN := Lib.hid hn
  rw [hn] at AL hkl
  clear h hG hks hk hx0 hb A0 hll hn hs
  go_enter Tryz.func44, Tryz.ntmps44
  go_wp2_with (first | (go_at_call 56; refine A1.out.mono ?_; rintro e w1 ⟨rfl, hB⟩; have HB1 := Lib.hid hB; clear hB) | (go_at_call 46; refine (AL.out _ HB1.out).mono ?_; rintro e w2 ⟨ao, ac, rfl, ht, hB⟩; have H2 := Lib.hid (And.intro ht (HB1.out.trans (hB.mono HB1.out.size))); clear ht hB))
  go_loopw [19, 8] (fun qv ov wr => ∃ (i on : Nat) (oo : Option Addr) (oc : Nat), i ≤ n ∧ qv = .int .i64 (i : Int) ∧ ov = .slice oo on oc ∧ (cL pat key (ks.take i)).length = on ∧ wr.ownsRow w2.heap.size 9 1 (.slice oo on oc) on ((cL pat key (ks.take i)).map sv) ∧ Below w2.heap.size w2 wr) (fun q _ _ => n - (intOf q).toNat)
  case atStart => exact ⟨0, 0, none, 0, Nat.zero_le _, rfl, rfl, by simp [cL], ⟨rfl, .inl ⟨rfl, by simp [cL]⟩⟩, Below.refl _ _⟩
  case round =>
    obtain ⟨i, on, oo, oc, hi, rfl, rfl, hol, hrow, hB⟩ := hrel
    have hBw : Below w.heap.size w wr := H2.out.2.trans (hB.mono H2.out.2.size)
    by_cases hlt : i < n
    · have hil : i < ks.length := by have := HN.out; omega
      obtain ⟨g, off, rfl, hgl, hc⟩ := H2.out.1.at_.2.2.2 i hil
      have d0 := (hB.cell (p := ⟨g, off + i, none⟩) hgl).trans hc
      unfold sv at d0
      have hsn := cL_snoc pat key hil
      have hol2 := cL_len pat key ks i
      rw [hol] at hol2
      obtain ⟨lp, hlp, hpl⟩ := hKp.out ks[i] (List.getElem_mem hil)
      have hpe : partsN ks[i] = lp := by rw [hlp.1]; exact parts_can lp hlp.2
      rw [hpe] at hsn
      generalize ks[i] = p at *
      have i1 : i < n := hlt
      have i2 : decide ((i : Int) < (n : Int)) = true := by rw [decide_eq_true_eq]; omega
      have hw1 : IntKind.i64.wrap ((i : Int) + 1) = (i : Int) + 1 := IntWalk.i64_in _ (by omega)
      have HLOW : Hid (∀ W, Below wr.heap.size wr W → W.ownsRow w2.heap.size 9 1 (.slice oo on oc) on ((cL pat key (ks.take i)).map sv) ∧ Below w.heap.size w W ∧ Below w2.heap.size w2 W) := fun W hb => ⟨row_keep hrow (fun j hj => hb.block j (hrow.lt j hj).2), hBw.trans (hb.mono hBw.size), hB.trans (hb.mono hB.size)⟩
      have HI := Lib.hid (And.intro hlt (And.intro hsn hol))
      have hwp := parts_w p
      rw [hpe] at hwp
      have PA0 : ∀ W, Calls Tryz.prog 55 #[.string ⟨p.toArray⟩] W fun e w' => ∃ o c, e = .returned (.slice o lp.length c) ∧ TxtRow w' (.slice o lp.length c) lp ∧ Below W.heap.size W w' := fun W => (rParts_any p (by omega) W).mono fun e w' ⟨r, he, ho, hB⟩ => by
        rw [hpe] at ho
        obtain ⟨o, c, rfl⟩ := owns_slice ho
        exact ⟨o, c, he, TxtRow.of_owns ho, hB⟩
      rcases List.eq_nil_or_concat lp with rfl | ⟨r, x, hrx⟩
      · have P0 : Hid (∀ W, Calls Tryz.prog 55 #[.string ⟨p.toArray⟩] W fun e w' => ∃ o c, e = .returned (.slice o 0 c) ∧ Below W.heap.size W w') := fun W => (PA0 W).mono fun e w' ⟨o, c, he, _, hB⟩ => ⟨o, c, he, hB⟩
        clear hi hlt hsn hol hrow hB hBw hil hgl hc hlp hpe hwp PA0
        go_wp2_with (go_at_call 55; refine (P0.out _).mono ?_; rintro e w3 ⟨po, pc, rfl, hB3⟩; have H3 := Lib.hid (HLOW.out w3 hB3); clear hB3)
        exact ⟨⟨i + 1, on, _, _, by have := HI.out.1; omega, by go_num, rfl, by rw [HI.out.2.1]; simpa [chR] using HI.out.2.2, by rw [HI.out.2.1]; simpa [chR] using H3.out.1, H3.out.2.2⟩, by have := HI.out.1; simp [intOf]; omega⟩
      · rw [List.concat_eq_append] at hrx
        subst hrx
        obtain ⟨rn, hrn⟩ : ∃ rn, r.length = rn := ⟨_, rfl⟩
        obtain ⟨ln, hln⟩ : ∃ ln, (r ++ [x]).length = ln := ⟨_, rfl⟩
        have hlr : ln = rn + 1 := by rw [← hln, ← hrn]; simp
        have hlnb : ln ≤ 100000 := by have := len_w (r ++ [x]); rw [hln] at this; omega
        have hrw : wN r ≤ 1000000000 := by have := wN_take (r ++ [x]) rn; rw [← hrn, List.take_left] at this; omega
        have hxw : x.length ≤ 1000000 := by have := wN_mem (l := r ++ [x]) (x := x) (by simp); omega
        have P1 : Hid (∀ W, Calls Tryz.prog 55 #[.string ⟨p.toArray⟩] W fun e w' => ∃ pb pf pc, e = .returned (.slice (some ⟨pb, pf, none⟩) ln pc) ∧ rn ≤ pc ∧ TxtRow w' (.slice (some ⟨pb, pf, none⟩) rn pc) r ∧ Below W.heap.size W w' ∧ ∀ W2, Below w'.heap.size w' W2 → W2.cell? ⟨pb, pf + rn, none⟩ = some (.string ⟨x.toArray⟩)) := fun W => (PA0 W).mono fun e w' ⟨o, c, he, ht, hB⟩ => by
          rw [hln] at he ht
          have hat := ht.at_
          obtain ⟨pb, pf, rfl, hbl, hcx⟩ := hat.2.2.2 rn (by rw [hln]; omega)
          refine ⟨pb, pf, c, he, by omega, ?_, hB, fun W2 hb2 => ?_⟩
          · have := ht.take (k := rn) (by omega)
            rw [← hrn, List.take_left] at this
            rw [← hrn]; exact this
          · have := (hb2.cell (p := ⟨pb, pf + rn, none⟩) hbl).trans hcx
            rw [this]
            simp [sv, ← hrn]
        obtain ⟨ck, hck⟩ : ∃ ck, canN r = ck := ⟨_, rfl⟩
        have O1 : Hid (∀ W v, TxtRow W v r → Calls Tryz.prog 57 #[v] W fun e w' => e = .returned (.string ⟨ck.toArray⟩) ∧ Below W.heap.size W w') := fun W v hv => by rw [← hck]; exact of_any r v W hv hrw
        have hch : chR (qB pat) key (r ++ [x]) = ((ck == key) && qB pat x) := by unfold chR; rw [List.getLast?_concat, List.dropLast_concat, hck]
        rw [hch] at HI
        have GX : Hid (∀ W, Calls Tryz.prog 75 #[.string ⟨pat.toArray⟩, .string ⟨x.toArray⟩, .bool false] W fun e w' => e = .returned (.bool (qB pat x)) ∧ Below W.heap.size W w') := fun W => rqGlob pat x hp hxw W
        have hwl : IntKind.i64.wrap ((ln : Int) - 1) = (rn : Int) := by rw [IntWalk.i64_in _ (by omega)]; omega
        have t0 : decide (0 < (ln : Int)) = true := by rw [decide_eq_true_eq]; omega
        have t1 : 0 < ln := by omega
        have t2 : rn < ln := by omega
        clear hi hlt hsn hol hrow hB hBw hil hgl hc hlp hpe hwp PA0 hrn hln hlr hrw hxw hck hch
        by_cases hck : ck = key
        · subst hck
          have b1 : (ck == ck) = true := beq_self_eq_true ck
          rw [b1, Bool.true_and] at HI
          cases hq : qB pat x with
          | true =>
            rw [hq] at GX HI
            clear hq
            go_wp2_with (first
              | (go_at_call 55; refine (P1.out _).mono ?_; rintro e w3 ⟨pb, pf, pc, rfl, hpc, ht, hB3, hcx⟩; have HX3 := Lib.hid hcx; have HT3 := Lib.hid ht; have HB3 := Lib.hid hB3; clear hcx ht hB3)
              | (go_at_call 57; refine (O1.out _ _ HT3.out).mono ?_; rintro e w4 ⟨rfl, hB⟩; have HB4 := Lib.hid (HB3.out.trans (hB.mono HB3.out.size)); have HC4 := Lib.hid hB; clear hB)
              | (go_at_call 58; refine (CN.out _).mono ?_; rintro e w5 ⟨rfl, hB⟩; have HB5 := Lib.hid (HB4.out.trans (hB.mono HB4.out.size)); have d5 := HX3.out w5 (HC4.out.trans (hB.mono HC4.out.size)); clear hB)
              | (go_at_call 75; refine (GX.out _).mono ?_; rintro e w6 ⟨rfl, hB⟩; have H6 := Lib.hid (HLOW.out w6 (HB5.out.trans (hB.mono HB5.out.size))); clear hB)
              | (at_builtin; go_loud (refine wpList_push1 rfl (.tmp 49) (.tmp 51) 27 rfl w2.heap.size 9 (.string ⟨#[]⟩) 16 Tryz.underlying27 infoStr rfl (.slice oo on oc) on _ rfl H6.out.1 (.string ⟨p.toArray⟩) _ rfl rfl rfl (by unfold maxLen; omega) (by omega) (by exact H6.out.2.2.size) ?_); intro g4 c4 w7 hg4 hown4 hk4 hloc; have H7 := Lib.hid (And.intro hown4 hk4); clear hg4 hown4 hk4 hloc))
            refine ⟨⟨i + 1, on + 1, _, c4, by have := HI.out.1; omega, by go_num, rfl, by rw [HI.out.2.1]; simp [HI.out.2.2], ?_, H6.out.2.2.trans (H7.out.2.below H6.out.2.2.size (fun d hd => ?_))⟩, by have := HI.out.1; simp [intOf]; omega⟩
            · rw [HI.out.2.1]
              simpa [sv] using H7.out.1
            · exact (row_ids H6.out.1 d (by simpa using hd)).1
          | false =>
            rw [hq] at GX HI
            clear hq
            go_wp2_with (first
              | (go_at_call 55; refine (P1.out _).mono ?_; rintro e w3 ⟨pb, pf, pc, rfl, hpc, ht, hB3, hcx⟩; have HX3 := Lib.hid hcx; have HT3 := Lib.hid ht; have HB3 := Lib.hid hB3; clear hcx ht hB3)
              | (go_at_call 57; refine (O1.out _ _ HT3.out).mono ?_; rintro e w4 ⟨rfl, hB⟩; have HB4 := Lib.hid (HB3.out.trans (hB.mono HB3.out.size)); have HC4 := Lib.hid hB; clear hB)
              | (go_at_call 58; refine (CN.out _).mono ?_; rintro e w5 ⟨rfl, hB⟩; have HB5 := Lib.hid (HB4.out.trans (hB.mono HB4.out.size)); have d5 := HX3.out w5 (HC4.out.trans (hB.mono HC4.out.size)); clear hB)
              | (go_at_call 75; refine (GX.out _).mono ?_; rintro e w6 ⟨rfl, hB⟩; have H6 := Lib.hid (HLOW.out w6 (HB5.out.trans (hB.mono HB5.out.size))); clear hB))
            exact ⟨⟨i + 1, on, _, _, by have := HI.out.1; omega, by go_num, rfl, by rw [HI.out.2.1]; simpa using HI.out.2.2, by rw [HI.out.2.1]; simpa using H6.out.1, H6.out.2.2⟩, by have := HI.out.1; simp [intOf]; omega⟩
        · have b1 : (ck == key) = false := beq_eq_false_iff_ne.2 hck
          have b2 : ¬ ck = key := hck
          rw [b1, Bool.false_and] at HI
          go_wp2_with (first
            | (go_at_call 55; refine (P1.out _).mono ?_; rintro e w3 ⟨pb, pf, pc, rfl, hpc, ht, hB3, hcx⟩; have HX3 := Lib.hid hcx; have HT3 := Lib.hid ht; have HB3 := Lib.hid hB3; clear hcx ht hB3)
            | (go_at_call 57; refine (O1.out _ _ HT3.out).mono ?_; rintro e w4 ⟨rfl, hB⟩; have HB4 := Lib.hid (HB3.out.trans (hB.mono HB3.out.size)); have HC4 := Lib.hid hB; clear hB)
            | (go_at_call 58; refine (CN.out _).mono ?_; rintro e w5 ⟨rfl, hB⟩; have HB5 := Lib.hid (HB4.out.trans (hB.mono HB4.out.size)); have d5 := HX3.out w5 (HC4.out.trans (hB.mono HC4.out.size)); clear hB))
          have H5 := Lib.hid (HLOW.out w5 HB5.out)
          exact ⟨⟨i + 1, on, _, _, by have := HI.out.1; omega, by go_num, rfl, by rw [HI.out.2.1]; simpa using HI.out.2.2, by rw [HI.out.2.1]; simpa using H5.out.1, H5.out.2.2⟩, by have := HI.out.1; simp [intOf]; omega⟩
    · obtain rfl : i = n := by omega
      have i2 : decide ((i : Int) < (i : Int)) = false := by rw [decide_eq_false_iff_not]; omega
      rw [show ks.take i = ks from by rw [← HN.out, List.take_length]] at hol hrow
      have HI := Lib.hid (And.intro hol (And.intro hrow hBw))
      clear hi hlt hol hrow hB hBw
      go_wp2_with fail
      go_ret2
      exact ⟨_, rfl, TxtRow.of_owns (base := w2.heap.size) (by rw [HI.out.1]; exact HI.out.2.1), HI.out.2.2⟩
end
end Go.Proofs.YtjgdfgpnmmkjfaaGreatDoor
