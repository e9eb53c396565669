/- Exists; the reference's Exists, along, set. -/
import Derived.Test.YtpaffocniniakaaPathR1
namespace Go.Proofs.Ytpaffocniniakaa
set_option linter.unusedVariables false
set_option linter.unusedSimpArgs false
open Go.RowKit

def existsC (s : Bs) (path : List Bs) : Bool := if path = [] then (readC s).isSome else (getC s path).2 == 0
theorem canon_some {s : Bs} (h : (canonC s).2 = 0) : (readC s).isSome = true := by
  unfold canonC at h
  cases hr : readC s with
  | none => rw [hr] at h; cases h
  | some ps => rfl
set_option maxHeartbeats 400000 in
theorem Exists_any (s : Bs) (path : List Bs) (v : Value) (w : World) (hM : MaxIs w) (hs : s.length ≤ 19999) (hkl : ∀ k ∈ path, k.length ≤ 1000000) (ht : TxtRow w v path) :
    Calls Try.prog 23 #[.string ⟨s.toArray⟩, v] w fun e w' => e = .returned (.bool (existsC s path)) ∧ Below w.heap.size w w' := by
  have GE := Lib.hid (Get_any s path v w hM hs hkl ht)
  have VA := Lib.hid (Valid_any s hs w)
  obtain ⟨o, c, rfl⟩ := ht.len
  unfold existsC
  by_cases h0 : path = []
  · subst h0
    rw [if_pos rfl]
    clear GE ht hM hkl
    generalize (readC s).isSome = q at *
    go_enter Try.func23, Try.ntmps23
    go_wp2_with (go_at_call 49; refine VA.out.mono ?_; rintro e w1 ⟨rfl, hB1⟩; have H1 := Lib.hid hB1; clear hB1)
    go_ret
    exact ⟨rfl, H1.out⟩
  · rw [if_neg h0]
    have hl0 : 0 < path.length := List.length_pos_iff.2 h0
    have t9 : ((path.length : Int) == 0) = false := by rw [beq_eq_false_iff_ne]; omega
    clear VA ht hM hkl
    generalize path.length = n at *
    generalize getC s path = q at *
    go_enter Try.func23, Try.ntmps23
    go_wp2_with (go_at_call 19; refine GE.out.mono ?_; rintro e w1 ⟨rfl, hB1⟩; have H1 := Lib.hid hB1; clear hB1)
    go_ret
    exact ⟨rfl, H1.out⟩
set_option maxHeartbeats 400000 in
theorem rExists_any (s : Bs) (path : List Bs) (v : Value) (w : World) (hs : s.length ≤ 19999) (ht : TxtRow w v path) :
    Calls Try.prog 24 #[.string ⟨s.toArray⟩, v] w fun e w' => e = .returned (.bool (existsC s path)) ∧ Below w.heap.size w w' := by
  have GE := Lib.hid (rGet_any s path v w hs ht)
  have VA : Hid (∀ W, Calls Try.prog 50 #[.string ⟨s.toArray⟩] W fun e w' => e = .returned (.bool (readC s).isSome) ∧ Below W.heap.size W w') := fun W => rValid_any s hs W
  obtain ⟨o, c, rfl⟩ := ht.len
  have hE : existsC s path = if path = [] then (readC s).isSome else (getC s path).2 == 0 := rfl
  obtain ⟨er, hq⟩ : ∃ er, (getC s path).2 = er := ⟨_, rfl⟩
  rw [hq] at GE hE
  by_cases h0 : path = []
  · have hl : path.length = 0 := by rw [h0]; rfl
    rw [if_pos h0] at hE
    rw [hE]
    have hc : er = 0 → (readC s).isSome = true := fun h => canon_some (by rw [← hq, h0] at h; unfold getC at h; rw [if_pos rfl] at h; exact h)
    rw [hl] at GE ⊢
    clear hq h0 ht hE hl
    generalize getC s path = q at *
    generalize (readC s).isSome = vs at *
    by_cases he : er = 0
    · obtain rfl := hc he
      subst he
      clear hc VA
      go_enter Try.func24, Try.ntmps24
      go_wp2_with (go_at_call 22; refine GE.out.mono ?_; rintro e w1 ⟨rfl, hB1⟩; have H1 := Lib.hid hB1; clear hB1)
      go_ret
      exact ⟨rfl, H1.out⟩
    · have t1 : (er == 0) = false := beq_eq_false_iff_ne.2 he
      clear hc he
      go_enter Try.func24, Try.ntmps24
      go_wp2_with (first | (go_at_call 22; refine GE.out.mono ?_; rintro e w1 ⟨rfl, hB1⟩; have H1 := Lib.hid hB1; clear hB1) | (go_at_call 50; refine (VA.out _).mono ?_; rintro e w2 ⟨rfl, hB2⟩; have H2 := Lib.hid hB2; clear hB2))
      go_ret
      exact ⟨rfl, H1.out.trans (H2.out.mono H1.out.size)⟩
  · rw [if_neg h0] at hE
    rw [hE]
    have hl0 : 0 < path.length := List.length_pos_iff.2 h0
    have t9 : ((path.length : Int) == 0) = false := by rw [beq_eq_false_iff_ne]; omega
    clear hq h0 ht hE VA
    generalize path.length = n at *
    generalize getC s path = q at *
    by_cases he : er = 0
    · subst he
      go_enter Try.func24, Try.ntmps24
      go_wp2_with (go_at_call 22; refine GE.out.mono ?_; rintro e w1 ⟨rfl, hB1⟩; have H1 := Lib.hid hB1; clear hB1)
      go_ret
      exact ⟨rfl, H1.out⟩
    · have t1 : (er == 0) = false := beq_eq_false_iff_ne.2 he
      rw [t1]
      clear he
      go_enter Try.func24, Try.ntmps24
      go_wp2_with (go_at_call 22; refine GE.out.mono ?_; rintro e w1 ⟨rfl, hB1⟩; have H1 := Lib.hid hB1; clear hB1)
      go_ret
      exact ⟨rfl, H1.out⟩
/-- 'along'. -/
def alongC : Bs → List Bs → Int
  | _, [] => 0
  | s, k :: r => match readC s with | none => 11 | some ps => if r = [] then 0 else match getP ps k with | none => 8 | some v => alongC v r
set_option maxRecDepth 100000 in
set_option maxHeartbeats 1600000 in
theorem along_any (s : Bs) (path : List Bs) (v : Value) (w : World) (hs : s.length ≤ 19999) (ht : TxtRow w v path) :
    Calls Try.prog 51 #[.string ⟨s.toArray⟩, v] w fun e w' => e = .returned (.int .i64 (alongC s path)) ∧ Below w.heap.size w w' := by
  obtain ⟨o, c, rfl, _⟩ := id ht
  obtain ⟨_, h1, h2, h3⟩ := ht.at_
  unfold maxLen at h2
  have HT := Lib.hid h3
  clear ht h3
  go_enter Try.func51, Try.ntmps51
  go_wp2_with fail
  go_loopg [0, 5, 6, 7, 8, 9, 12] path.length (fun g v0 _ _ _ _ _ i wr => ∃ (j : Nat) (t : Bs), j + g = path.length ∧ i = .int .i64 (j : Int) ∧ v0 = .string ⟨t.toArray⟩ ∧ t.length ≤ 19999 ∧ Below w.heap.size w wr ∧ Hid (alongC s path = alongC t (path.drop j)))
  case atStart => exact ⟨0, s, by omega, rfl, rfl, hs, Below.refl _ _, rfl⟩
  case round =>
    obtain ⟨j, t, hjg, rfl, rfl, htl, hb, HI⟩ := hrel
    by_cases hlt : j < path.length
    · obtain ⟨b, off, rfl, hbl, hc⟩ := HT.out j hlt
      have hdr : path.drop j = path[j] :: path.drop (j + 1) := List.drop_eq_getElem_cons hlt
      obtain ⟨k, hke⟩ : ∃ k, k = path[j] := ⟨_, rfl⟩
      rw [← hke] at hc hdr
      have hcx : wr.cell? ⟨b, off + j, none⟩ = some (.string ⟨k.toArray⟩) := (hb.cell (p := ⟨b, off + j, none⟩) hbl).trans hc
      have t0 : decide ((j : Int) < (path.length : Int)) = true := by rw [decide_eq_true_eq]; omega
      cases hr : readC t with
      | none =>
        have P1 := Lib.hid (rp_none htl hr wr)
        have HR : Hid (alongC s path = 11) := by show _ = _; rw [HI.out, hdr, alongC, hr]
        clear hr HI hdr hc hke
        go_wp2_with (go_at_call 17; refine P1.out.mono ?_; rintro e w1 ⟨rfl, hB1⟩; have H1 := Lib.hid hB1; clear hB1)
        go_ret
        exact ⟨by rw [HR.out]; rfl, hb.trans (H1.out.mono hb.size)⟩
      | some ps =>
        have hvl := val_len hr k
        have hrl := read_len hr
        have P1 := Lib.hid (rp_some htl hr wr)
        have hfl := flatP_len ps
        obtain ⟨n, hn⟩ : ∃ n, (flatP ps).length = n := ⟨_, rfl⟩
        have hn2 : n ≤ 1000000 := by omega
        rw [hn] at P1
        have HB := Lib.hid hb
        by_cases hlast : path.drop (j + 1) = []
        · have hjl : path.length = j + 1 := by have := List.drop_eq_nil_iff.1 hlast; omega
          have HR : Hid (alongC s path = 0) := by show _ = _; rw [HI.out, hdr, alongC, hr, hlast]; rfl
          have t1 : ((j : Int) == (path.length : Int) - 1) = true := by rw [beq_iff_eq]; omega
          have t2 : (path.length : Int) - 1 = (j : Int) := by omega
          clear hr HI hdr hc hke hn hfl hrl hb hlast hjl
          go_wp2_with (go_at_call 17; refine P1.out.mono ?_; rintro e w1 ⟨o1, c1, rfl, hB1, hT1⟩; have H1 := Lib.hid (And.intro hB1 hT1); clear hB1 hT1)
          go_ret
          exact ⟨by rw [HR.out]; rfl, HB.out.trans (H1.out.1.mono HB.out.size)⟩
        · have hjl : j + 1 < path.length := by
            rcases Nat.lt_or_ge (j + 1) path.length with h | h
            · exact h
            · exact absurd (List.drop_eq_nil_iff.2 h) hlast
          have t1 : ((j : Int) == (path.length : Int) - 1) = false := by rw [beq_eq_false_iff_ne]; omega
          have FI : Hid (∀ v W, TxtRow W v (flatP ps) → Calls Try.prog 40 #[v, .string ⟨k.toArray⟩] W fun e w' => e = .returned (.int .i64 (findI ps k)) ∧ W = w') := fun v W h => rfind_any v ps k W h (by omega)
          have FL : Hid (∀ W o n c, TxtRow W (.slice o n c) (flatP ps) → (getP ps k = none ∧ findI ps k = -1) ∨ ∃ m b off, getP ps k = some (valC ps k) ∧ findI ps k = ((m : Nat) : Int) ∧ m < n ∧ o = some ⟨b, off, none⟩ ∧ b < W.heap.size ∧ W.cell? ⟨b, off + m, none⟩ = some (.string ⟨(valC ps k).toArray⟩)) := fun W o n c h => find_lies k h
          have hgl : alongC t (k :: path.drop (j + 1)) = match getP ps k with | none => 8 | some v => alongC v (path.drop (j + 1)) := by rw [alongC, hr]; simp only [hlast, if_false]
          have HI2 : Hid (alongC s path = match getP ps k with | none => 8 | some v => alongC v (path.drop (j + 1))) := by
            show _ = _
            rw [HI.out, hdr, hgl]
          clear hr HI hdr hc hke hgl hn hfl hrl hb hlast
          generalize valC ps k = vv at *
          cases hg : getP ps k with
          | none =>
            rw [hg] at HI2
            have FI2 : Hid (∀ v W, TxtRow W v (flatP ps) → Calls Try.prog 40 #[v, .string ⟨k.toArray⟩] W fun e w' => e = .returned (.int .i64 (-1)) ∧ W = w') := fun v W h => by
              obtain ⟨o, c, rfl⟩ := h.len
              rcases FL.out W o _ c h with ⟨_, e⟩ | ⟨m, b, off, h', _⟩
              · rw [← e]; exact FI.out _ W h
              · rw [hg] at h'; cases h'
            clear hg FI FL
            go_wp2_with (first | (go_at_call 17; refine P1.out.mono ?_; rintro e w1 ⟨o1, c1, rfl, hB1, hT1⟩; have H1 := Lib.hid (And.intro hB1 hT1); clear hB1 hT1) | (go_at_call 40; refine (FI2.out _ _ H1.out.2).mono ?_; rintro e w2 ⟨rfl, rfl⟩))
            go_ret
            exact ⟨by rw [HI2.out]; rfl, HB.out.trans (H1.out.1.mono HB.out.size)⟩
          | some x =>
            rw [hg] at HI2
            have FI2 : Hid (∀ W o c, TxtRow W (.slice o n c) (flatP ps) → ∃ m b off, x = vv ∧ m < n ∧ o = some ⟨b, off, none⟩ ∧ W.cell? ⟨b, off + m, none⟩ = some (.string ⟨vv.toArray⟩) ∧ Calls Try.prog 40 #[.slice o n c, .string ⟨k.toArray⟩] W fun e w' => e = .returned (.int .i64 (m : Int)) ∧ W = w') := fun W o c h => by
              rcases FL.out W o n c h with ⟨h', _⟩ | ⟨m, b, off, h1, h2, h3, h4, _, h5⟩
              · rw [hg] at h'; cases h'
              · rw [hg] at h1
                exact ⟨m, b, off, Option.some.inj h1, h3, h4, h5, by rw [← h2]; exact FI.out _ W h⟩
            clear hg FI FL
            go_wp2_with (first | (go_at_call 17; refine P1.out.mono ?_; rintro e w1 ⟨o1, c1, rfl, hB1, hT1⟩; obtain ⟨m, b1, f1, hxv, hm1, ho1, hm2, hFF⟩ := FI2.out _ _ _ hT1; subst ho1; have hm3 : decide ((m : Int) < 0) = false := (by rw [decide_eq_false_iff_not]; omega); have H1 := Lib.hid (And.intro hB1 (And.intro hxv hFF)); clear hB1 hT1 hFF hxv) | (go_at_call 40; refine H1.out.2.2.mono ?_; rintro e w2 ⟨rfl, rfl⟩))
            go_roundg (gk - 1)
            case measure => omega
            case rel => exact ⟨j + 1, vv, by omega, by go_num, rfl, by omega, HB.out.trans (H1.out.1.mono HB.out.size), by show _ = _; rw [HI2.out, H1.out.2.1]⟩
    · obtain rfl : j = path.length := by omega
      have t0 : decide ((path.length : Int) < (path.length : Int)) = false := by rw [decide_eq_false_iff_not]; omega
      have HR : Hid (alongC s path = 0) := by show _ = _; rw [HI.out, List.drop_length, alongC]
      clear HI
      go_wp2_with fail
      go_ret
      exact ⟨by rw [HR.out]; rfl, hb⟩
end Go.Proofs.Ytpaffocniniakaa
