/- The reference's Valid, Get, Exists, along; Valid, Exists. -/
import Derived.Test.YtpaffocniniakaaGreatMergeR
import Derived.Test.YtpaffocniniakaaGreatBookD
namespace Go.Proofs.YtpaffocniniakaaGreat
set_option linter.unusedVariables false
set_option linter.unusedSimpArgs false
open Go.RowKit

theorem rp_none {s : Bs} (hs : s.length ≤ 19999) (hr : readC s = none) (W : World) : Calls Tryz.prog 13 #[.string ⟨s.toArray⟩] W fun e w' => e = .returned (.tuple #[.slice none 0 0, .int .i64 11]) ∧ Below W.heap.size W w' := (rPairs_any s hs W).mono fun e w' ⟨r, err, he, hb, h⟩ => by
  rcases h with ⟨_, rfl, rfl⟩ | ⟨ps', h', _⟩
  · exact ⟨he, hb⟩
  · rw [hr] at h'; cases h'
theorem rp_some {s : Bs} {ps : Prs} (hs : s.length ≤ 19999) (hr : readC s = some ps) (W : World) : Calls Tryz.prog 13 #[.string ⟨s.toArray⟩] W fun e w' => ∃ o c, e = .returned (.tuple #[.slice o (flatP ps).length c, .int .i64 0]) ∧ Below W.heap.size W w' ∧ TxtRow w' (.slice o (flatP ps).length c) (flatP ps) := (rPairs_any s hs W).mono fun e w' ⟨r, err, he, hb, h⟩ => by
  rcases h with ⟨h', _⟩ | ⟨ps', h', rfl, ho⟩
  · rw [hr] at h'; cases h'
  · rw [hr] at h'; cases h'
    obtain ⟨o, c, rfl⟩ := owns_slice ho
    exact ⟨o, c, he, hb, TxtRow.of_owns ho⟩
theorem valC_some {ps : Prs} {k v : Bs} (h : getP ps k = some v) : valC ps k = v := by unfold valC; rw [h]; rfl
/-- What 'find' tells, and what lies there. -/
theorem find_lies {W : World} {o : Option Addr} {n c : Nat} {ps : Prs} (k : Bs) (ht : TxtRow W (.slice o n c) (flatP ps)) :
    (getP ps k = none ∧ findI ps k = -1) ∨ ∃ m b off, getP ps k = some (valC ps k) ∧ findI ps k = ((m : Nat) : Int) ∧ m < n ∧ o = some ⟨b, off, none⟩ ∧ b < W.heap.size ∧ W.cell? ⟨b, off + m, none⟩ = some (.string ⟨(valC ps k).toArray⟩) := by
  obtain ⟨z1, _, _, h0⟩ := ht.at_
  cases hf : findP ps k with
  | none => exact .inl ⟨find_none hf, by unfold findI; rw [hf]⟩
  | some i =>
    obtain ⟨hil, _⟩ := find_lt hf
    have hfl := flatP_len ps
    obtain ⟨b, off, rfl, hl, hc⟩ := h0 (2 * i + 1) (by omega)
    rw [(flat_at' hil).2] at hc
    have hg := find_get hf hil
    refine .inr ⟨2 * i + 1, b, off, by rw [valC_some hg]; exact hg, by unfold findI; rw [hf], by omega, rfl, hl, ?_⟩
    rw [valC_some hg]; exact hc
set_option maxHeartbeats 400000 in
theorem rValid_any (s : Bs) (hs : s.length ≤ 19999) (w : World) : Calls Tryz.prog 11 #[.string ⟨s.toArray⟩] w fun e w' => e = .returned (.bool (readC s).isSome) ∧ Below w.heap.size w w' := by
  cases hr : readC s with
  | none =>
    have P1 := Lib.hid (rp_none hs hr w)
    clear hr
    simp only [Option.isSome_none]
    go_enter Tryz.func11, Tryz.ntmps11
    go_wp2_with (go_at_call 13; refine P1.out.mono ?_; rintro e w1 ⟨rfl, hB1⟩; have H1 := Lib.hid hB1; clear hB1)
    go_ret
    exact ⟨rfl, H1.out⟩
  | some ps =>
    have P1 := Lib.hid (rp_some hs hr w)
    clear hr
    simp only [Option.isSome_some]
    go_enter Tryz.func11, Tryz.ntmps11
    go_wp2_with (go_at_call 13; refine P1.out.mono ?_; rintro e w1 ⟨o, c, rfl, hB1, _⟩; have H1 := Lib.hid hB1; clear hB1)
    go_ret
    exact ⟨rfl, H1.out⟩
set_option maxHeartbeats 400000 in
theorem Valid_any (s : Bs) (hs : s.length ≤ 19999) (w : World) : Calls Tryz.prog 10 #[.string ⟨s.toArray⟩] w fun e w' => e = .returned (.bool (readC s).isSome) ∧ Below w.heap.size w w' := by
  have RD := read_any s hs w
  cases hr : readC s with
  | none =>
    have RD2 : Hid (Calls Tryz.prog 27 #[.string ⟨s.toArray⟩] w fun e w' => Below w.heap.size w w' ∧ e = .returned (.tuple #[.pointer none, .int .i64 11])) := RD.mono fun e w' ⟨h1, h2⟩ => ⟨h1, by
      rcases h2 with ⟨_, h'⟩ | ⟨_, _, _, h', _⟩
      · exact h'
      · rw [hr] at h'; cases h'⟩
    clear RD hr
    simp only [Option.isSome_none]
    go_enter Tryz.func10, Tryz.ntmps10
    go_wp2_with (go_at_call 27; refine RD2.out.mono ?_; rintro e w1 ⟨hB1, rfl⟩; have H1 := Lib.hid hB1; clear hB1)
    go_ret
    exact ⟨rfl, H1.out⟩
  | some ps =>
    have RD2 : Hid (Calls Tryz.prog 27 #[.string ⟨s.toArray⟩] w fun e w' => Below w.heap.size w w' ∧ ∃ b, e = .returned (.tuple #[.pointer b, .int .i64 0])) := RD.mono fun e w' ⟨h1, h2⟩ => ⟨h1, by
      rcases h2 with ⟨h', _⟩ | ⟨b2, F2, ps', h', he, hb, hF⟩
      · rw [hr] at h'; cases h'
      · exact ⟨_, he⟩⟩
    clear RD hr
    simp only [Option.isSome_some]
    go_enter Tryz.func10, Tryz.ntmps10
    go_wp2_with (go_at_call 27; refine RD2.out.mono ?_; rintro e w1 ⟨hB1, b, rfl⟩; have H1 := Lib.hid hB1; clear hB1)
    go_ret
    exact ⟨rfl, H1.out⟩
end Go.Proofs.YtpaffocniniakaaGreat
