/- Pairs, Get. Get. -/
import Derived.Test.YtodajjhchngkgaaRJoin
import Derived.Deep.LoopGhost
namespace Go.Proofs.Ytodajjhchngkgaa
set_option linter.unusedVariables false
set_option linter.unusedSimpArgs false
open Go.RowKit

set_option maxRecDepth 100000 in
set_option maxHeartbeats 1600000 in
theorem Pairs_any (s : Bs) (hs : s.length ≤ 19999) (w : World) :
    Calls Try.prog 12 #[.string ⟨s.toArray⟩] w fun e w' => ∃ r err, e = .returned (.tuple #[r, .int .i64 err]) ∧ RPrs w s r err w' := by
  have RD := read_any s hs w
  cases hr : readC s with
  | none =>
    have RD2 : Hid (Calls Try.prog 36 #[.string ⟨s.toArray⟩] w fun e w' => Below w.heap.size w w' ∧ e = .returned (.tuple #[.pointer none, .int .i64 11])) := RD.mono fun e w' ⟨h1, h2⟩ => ⟨h1, by
      rcases h2 with ⟨_, h'⟩ | ⟨_, _, _, h', _⟩
      · exact h'
      · rw [hr] at h'; cases h'⟩
    have HR := Lib.hid hr
    clear RD hr
    go_enter Try.func12, Try.ntmps12
    go_wp2_with (go_at_call 36; refine RD2.out.mono ?_; rintro e w1 ⟨hB1, rfl⟩; have H1 := Lib.hid hB1; clear hB1)
    go_ret2
    exact ⟨_, _, rfl, H1.out, .inl ⟨HR.out, rfl, rfl⟩⟩
  | some ps =>
    have hlen := read_len hr
    have RD2 : Hid (Calls Try.prog 36 #[.string ⟨s.toArray⟩] w fun e w' => Below w.heap.size w w' ∧ ∃ b F, e = .returned (.tuple #[.pointer (some ⟨b, 0, none⟩), .int .i64 0]) ∧ Bk w' b F ps) := RD.mono fun e w' ⟨h1, h2⟩ => ⟨h1, by
      rcases h2 with ⟨h', _⟩ | ⟨b2, F2, ps', h', he, hb, hF⟩
      · rw [hr] at h'; cases h'
      · rw [hr] at h'; cases h'; exact ⟨b2, F2, he, hb⟩⟩
    have PA : Hid (∀ W b F, Bk W b F ps → Calls Try.prog 37 #[.pointer (some ⟨b, 0, none⟩)] W fun e w' => ∃ v, e = .returned v ∧ w'.ownsRow W.heap.size 9 1 v (flatP ps).length ((flatP ps).map sv) ∧ Below W.heap.size W w') := fun W b F h => pairs_any h (by omega)
    have HR := Lib.hid hr
    clear RD hr
    go_enter Try.func12, Try.ntmps12
    go_wp2_with (first | (go_at_call 36; refine RD2.out.mono ?_; rintro e w1 ⟨hB1, b, F, rfl, hb⟩; have H1 := Lib.hid (And.intro hB1 hb); clear hB1 hb) | (go_at_call 37; refine (PA.out _ _ _ H1.out.2).mono ?_; rintro e w2 ⟨v, rfl, hO2, hB2⟩; have H2 := Lib.hid (And.intro hO2 hB2); clear hO2 hB2))
    go_ret2
    exact ⟨_, _, rfl, H1.out.1.trans (H2.out.2.mono H1.out.1.size), .inr ⟨_, HR.out, rfl, by have h := H2.out.1; exact ⟨h.1, h.2.imp id (fun ⟨g, c, cur, q1, q2, q3⟩ => ⟨g, c, cur, q1, Nat.le_trans H1.out.1.size q2, q3⟩)⟩⟩⟩

/-- 'Get' behind its first question. -/
def getL : Bs → List Bs → Bs × Int
  | s, [] => (s, 0)
  | s, k :: r => match readC s with | none => ([], 11) | some ps => match getP ps k with | none => ([], 8) | some v => getL v r
end Go.Proofs.Ytodajjhchngkgaa
namespace Go.Proofs.Ytodajjhchngkgaa
set_option linter.unusedVariables false
set_option linter.unusedSimpArgs false
open Go.RowKit

def getC (s : Bs) (path : List Bs) : Bs × Int := if path = [] then canonC s else getL s path
set_option maxRecDepth 100000 in
set_option maxHeartbeats 1600000 in
theorem Get_any (s : Bs) (path : List Bs) (v : Value) (w : World) (hM : MaxIs w) (hs : s.length ≤ 19999) (hkl : ∀ k ∈ path, k.length ≤ 1000000) (ht : TxtRow w v path) :
    Calls Try.prog 19 #[.string ⟨s.toArray⟩, v] w fun e w' => e = .returned (.tuple #[.string ⟨(getC s path).1.toArray⟩, .int .i64 (getC s path).2]) ∧ Below w.heap.size w w' := by
  obtain ⟨o, c, rfl, _⟩ := id ht
  obtain ⟨_, h1, h2, h3⟩ := ht.at_
  unfold maxLen at h2
  by_cases h0 : path = []
  · subst h0
    have CA : Hid (Calls Try.prog 8 #[.string ⟨s.toArray⟩] w fun e w' => e = .returned (.tuple #[.string ⟨(canonC s).1.toArray⟩, .int .i64 (canonC s).2]) ∧ Below w.heap.size w w') := Canonical_any s hs w hM
    have HG : Hid (getC s [] = canonC s) := if_pos rfl
    rw [HG.out]
    clear ht h3 hM
    go_enter Try.func19, Try.ntmps19
    go_wp2_with (go_at_call 8; refine CA.out.mono ?_; rintro e w1 ⟨rfl, hB1⟩; have H1 := Lib.hid hB1; clear hB1)
    go_ret2
    exact ⟨rfl, H1.out⟩
  · have HG : Hid (getC s path = getL s path) := if_neg h0
    rw [HG.out]
    have hl0 : 0 < path.length := List.length_pos_iff.2 h0
    have t9 : ((path.length : Int) == 0) = false := by rw [beq_eq_false_iff_ne]; omega
    have HT := Lib.hid h3
    have HK := Lib.hid hkl
    clear ht h3 hM h0 hkl
    go_enter Try.func19, Try.ntmps19
    go_wp2_with fail
    go_loopg [0, 7, 8, 9, 10, 11, 21] path.length (fun g v0 _ _ _ _ _ v21 wr => ∃ (j : Nat) (t : Bs), j + g = path.length ∧ v21 = .int .i64 (j : Int) ∧ v0 = .string ⟨t.toArray⟩ ∧ t.length ≤ 19999 ∧ Below w.heap.size w wr ∧ Hid (getL s path = getL t (path.drop j)))
    case atStart => exact ⟨0, s, by omega, rfl, rfl, hs, Below.refl _ _, rfl⟩
    case round =>
      obtain ⟨j, t, hjg, rfl, rfl, htl, hb, HI⟩ := hrel
      by_cases hlt : j < path.length
      · obtain ⟨b, off, rfl, hbl, hc⟩ := HT.out j hlt
        have hk := HK.out _ (List.getElem_mem hlt)
        have hdr : path.drop j = path[j] :: path.drop (j + 1) := List.drop_eq_getElem_cons hlt
        obtain ⟨k, hke⟩ : ∃ k, k = path[j] := ⟨_, rfl⟩
        rw [← hke] at hc hk hdr
        have hcx : wr.cell? ⟨b, off + j, none⟩ = some (.string ⟨k.toArray⟩) := (hb.cell (p := ⟨b, off + j, none⟩) hbl).trans hc
        have t0 : decide ((j : Int) < (path.length : Int)) = true := by rw [decide_eq_true_eq]; omega
        have RD := read_any t htl wr
        cases hr : readC t with
        | none =>
          have RD2 : Hid (Calls Try.prog 36 #[.string ⟨t.toArray⟩] wr fun e w' => Below wr.heap.size wr w' ∧ e = .returned (.tuple #[.pointer none, .int .i64 11])) := RD.mono fun e w' ⟨h1, h2⟩ => ⟨h1, by
            rcases h2 with ⟨_, h'⟩ | ⟨_, _, _, h', _⟩
            · exact h'
            · rw [hr] at h'; cases h'⟩
          have HR : Hid (getL s path = ([], 11)) := by show _ = _; rw [HI.out, hdr, getL, hr]
          clear RD hr HI hdr hc hke
          go_wp2_with (go_at_call 36; refine RD2.out.mono ?_; rintro e w1 ⟨hB1, rfl⟩; have H1 := Lib.hid hB1; clear hB1)
          go_ret2
          exact ⟨ret2_si (by rw [HR.out]) (by rw [HR.out]), hb.trans (H1.out.mono hb.size)⟩
        | some ps =>
          have hvl := val_len hr k
          have RD2 : Hid (Calls Try.prog 36 #[.string ⟨t.toArray⟩] wr fun e w' => Below wr.heap.size wr w' ∧ ∃ b F, e = .returned (.tuple #[.pointer (some ⟨b, 0, none⟩), .int .i64 0]) ∧ Bk w' b F ps) := RD.mono fun e w' ⟨h1, h2⟩ => ⟨h1, by
            rcases h2 with ⟨h', _⟩ | ⟨b2, F2, ps', h', he, hb, hF⟩
            · rw [hr] at h'; cases h'
            · rw [hr] at h'; cases h'; exact ⟨b2, F2, he, hb⟩⟩
          have GET : Hid (∀ W b F, Bk W b F ps → Calls Try.prog 40 #[.pointer (some ⟨b, 0, none⟩), .string ⟨k.toArray⟩] W fun e w' => e = .returned (.tuple #[.string ⟨(valC ps k).toArray⟩, .bool (getP ps k).isSome]) ∧ w' = W) := fun W b F h => get_any h k (by unfold maxLen; omega)
          have HS : Hid ((getP ps k = none ∧ getL s path = ([], 8)) ∨ ((getP ps k).isSome = true ∧ getL s path = getL (valC ps k) (path.drop (j + 1)))) := by
            have h := HI.out
            rw [hdr, getL, hr] at h
            simp only at h
            cases hg : getP ps k with
            | none => rw [hg] at h; exact .inl ⟨rfl, h⟩
            | some x => rw [hg] at h; exact .inr ⟨rfl, by unfold valC; rw [hg]; exact h⟩
          clear RD hr HI hdr hc hke
          generalize valC ps k = vv at *
          rcases HS.out with ⟨hg, hR⟩ | ⟨hg, hR⟩
          · rw [hg] at GET
            have HR := Lib.hid hR
            clear hR HS hg
            go_wp2_with (first | (go_at_call 36; refine RD2.out.mono ?_; rintro e w1 ⟨hB1, b1, F1, rfl, hb1⟩; have H1 := Lib.hid (And.intro hB1 hb1); clear hB1 hb1) | (go_at_call 40; refine (GET.out _ _ _ H1.out.2).mono ?_; rintro e w2 ⟨rfl, rfl⟩))
            go_ret2
            exact ⟨ret2_si (by rw [HR.out]) (by rw [HR.out]), hb.trans (H1.out.1.mono hb.size)⟩
          · rw [hg] at GET
            have HR := Lib.hid hR
            clear hR HS hg
            go_wp2_with (first | (go_at_call 36; refine RD2.out.mono ?_; rintro e w1 ⟨hB1, b1, F1, rfl, hb1⟩; have H1 := Lib.hid (And.intro hB1 hb1); clear hB1 hb1) | (go_at_call 40; refine (GET.out _ _ _ H1.out.2).mono ?_; rintro e w2 ⟨rfl, rfl⟩))
            go_roundg (gk - 1)
            case measure => omega
            case rel => exact ⟨j + 1, vv, by omega, by go_num, rfl, by omega, hb.trans (H1.out.1.mono hb.size), HR⟩
      · obtain rfl : j = path.length := by omega
        have t0 : decide ((path.length : Int) < (path.length : Int)) = false := by rw [decide_eq_false_iff_not]; omega
        have HR : Hid (getL s path = (t, 0)) := by show _ = _; rw [HI.out, List.drop_length, getL]
        clear HI
        go_wp2_with fail
        go_ret2
        exact ⟨ret2_si (by rw [HR.out]) (by rw [HR.out]), hb⟩
end Go.Proofs.Ytodajjhchngkgaa
