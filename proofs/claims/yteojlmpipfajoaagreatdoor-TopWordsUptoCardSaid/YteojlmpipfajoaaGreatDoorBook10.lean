/- changed, at each function that is handed to it. Printed by mkCh.py. -/
import Derived.Test.YteojlmpipfajoaaGreatDoorBook9
namespace Go.Proofs.YteojlmpipfajoaaGreatDoor
set_option linter.unusedVariables false
set_option linter.unusedSimpArgs false
open Go.RowKit Go.MapKept Go.WideMaps

/-- What 'changed' gives: the error, and the pairs, that the function makes. -/
def chgE (s : Bs) (err : Prs → Int) (res : Prs → Prs) : Bs × Int := match readC s with | none => ([], 11) | some ps => if err ps = 0 then joinE (flatP (res ps)) else ([], err ps)
/-- What a function that is handed to 'changed' gives. -/
def ChF (w : World) (err : Int) (res : Prs) (e : Ending) (w' : World) : Prop := Below w.heap.size w w' ∧ ((err ≠ 0 ∧ e = .returned (.tuple #[.pointer none, .int .i64 err])) ∨ (err = 0 ∧ ∃ b F, e = .returned (.tuple #[.pointer (some ⟨b, 0, none⟩), .int .i64 0]) ∧ Bk w' b F res))
set_option maxRecDepth 100000 in
set_option maxHeartbeats 800000 in
theorem changed_put {pb fb : Nat} (s : Bs) (hs : s.length ≤ 19999) (w : World) (hM : MaxIs w) (err : Prs → Int) (res : Prs → Prs)
    (HF : ∀ ps, readC s = some ps → ∀ W b F, Below w.heap.size w W → Bk W b F ps → (∀ d ∈ F, w.heap.size ≤ d) → Calls Tryz.prog 38 #[.pointer (some ⟨b, 0, none⟩), .pointer (some ⟨pb, 0, none⟩), .pointer (some ⟨fb, 0, none⟩)] W (ChF w (err ps) (res ps))) (hlen : ∀ ps, readC s = some ps → (res ps).length ≤ 1000000) :
    Calls Tryz.prog 37 #[.string ⟨s.toArray⟩, .func (.func 38) #[] #[.pointer (some ⟨pb, 0, none⟩), .pointer (some ⟨fb, 0, none⟩)]] w fun e w' => e = .returned (.tuple #[.string ⟨(chgE s err res).1.toArray⟩, .int .i64 (chgE s err res).2]) ∧ Below w.heap.size w w' := by
  have hm0 := hM.pos
  have RD := read_any s hs w
  unfold chgE
  cases hr : readC s with
  | none =>
    have RD2 : Hid (Calls Tryz.prog 58 #[.string ⟨s.toArray⟩] w fun e w' => Below w.heap.size w w' ∧ e = .returned (.tuple #[.pointer none, .int .i64 11])) := RD.mono fun e w' ⟨h1, h2⟩ => ⟨h1, by
      rcases h2 with ⟨_, h'⟩ | ⟨_, _, _, h', _⟩
      · exact h'
      · rw [hr] at h'; cases h'⟩
    clear RD HF hlen hr hM
    go_enter Tryz.func37, Tryz.ntmps37
    go_wp2_with (go_at_call 58; refine RD2.out.mono ?_; rintro e w1 ⟨hB1, rfl⟩; skip)
    go_ret2
    exact ⟨rfl, hB1⟩
  | some ps =>
    have RD2 : Hid (Calls Tryz.prog 58 #[.string ⟨s.toArray⟩] w fun e w' => Below w.heap.size w w' ∧ ∃ b F, e = .returned (.tuple #[.pointer (some ⟨b, 0, none⟩), .int .i64 0]) ∧ Bk w' b F ps ∧ ∀ d ∈ F, w.heap.size ≤ d) := RD.mono fun e w' ⟨h1, h2⟩ => ⟨h1, by
      rcases h2 with ⟨h', _⟩ | ⟨b2, F2, ps', h', he, hb, hF⟩
      · rw [hr] at h'; cases h'
      · rw [hr] at h'; cases h'; exact ⟨b2, F2, he, hb, hF⟩⟩
    have HF2 := Lib.hid (HF ps hr)
    have HL := Lib.hid (hlen ps hr)
    have HM := Lib.hid hM
    clear RD HF hlen hr hM
    simp only
    obtain ⟨er, her⟩ : ∃ er, err ps = er := ⟨_, rfl⟩
    obtain ⟨rs, hrs⟩ : ∃ rs, res ps = rs := ⟨_, rfl⟩
    rw [her, hrs] at HF2 ⊢
    rw [hrs] at HL
    clear her hrs
    by_cases he : er = 0
    · subst he
      have CL : Hid (∀ W b F, Below w.heap.size w W → Bk W b F ps → (∀ d ∈ F, w.heap.size ≤ d) → Calls Tryz.prog 38 #[.pointer (some ⟨b, 0, none⟩), .pointer (some ⟨pb, 0, none⟩), .pointer (some ⟨fb, 0, none⟩)] W fun e w' => Below w.heap.size w w' ∧ ∃ b F, e = .returned (.tuple #[.pointer (some ⟨b, 0, none⟩), .int .i64 0]) ∧ Bk w' b F rs) := fun W b F h1 h2 h3 => (HF2.out W b F h1 h2 h3).mono fun e w' ⟨g1, g2⟩ => ⟨g1, by
        rcases g2 with ⟨g, _⟩ | ⟨_, g⟩
        · exact absurd rfl g
        · exact g⟩
      have TX : Hid (∀ W b F, Below w.heap.size w W → Bk W b F rs → Calls Tryz.prog 59 #[.pointer (some ⟨b, 0, none⟩)] W fun e w' => e = .returned (.tuple #[.string ⟨(joinE (flatP rs)).1.toArray⟩, .int .i64 (joinE (flatP rs)).2]) ∧ Below W.heap.size W w') := fun W b F h1 h2 => text_any h2 HL.out (HM.out.below h1 hm0)
      clear HF2 HL HM
      rw [if_pos rfl]
      generalize joinE (flatP rs) = je at *
      go_enter Tryz.func37, Tryz.ntmps37
      go_wp2_with (first | (go_at_call 58; refine RD2.out.mono ?_; rintro e w1 ⟨hB1, b, F, rfl, hb, hF⟩; have H1 := Lib.hid (And.intro hB1 (And.intro hb hF)); clear hB1 hb hF) | (go_at_call 38; refine (CL.out _ _ _ H1.out.1 H1.out.2.1 H1.out.2.2).mono ?_; rintro e w2 ⟨hB2, b', F', rfl, hb'⟩; have H2 := Lib.hid (And.intro hB2 hb'); clear hB2 hb') | (go_at_call 59; refine (TX.out _ _ _ H2.out.1 H2.out.2).mono ?_; rintro e w3 ⟨rfl, hB3⟩; have H3 := Lib.hid hB3; clear hB3))
      go_ret2
      exact ⟨rfl, H2.out.1.trans (H3.out.mono H2.out.1.size)⟩
    · have CL : Hid (∀ W b F, Below w.heap.size w W → Bk W b F ps → (∀ d ∈ F, w.heap.size ≤ d) → Calls Tryz.prog 38 #[.pointer (some ⟨b, 0, none⟩), .pointer (some ⟨pb, 0, none⟩), .pointer (some ⟨fb, 0, none⟩)] W fun e w' => Below w.heap.size w w' ∧ e = .returned (.tuple #[.pointer none, .int .i64 er])) := fun W b F h1 h2 h3 => (HF2.out W b F h1 h2 h3).mono fun e w' ⟨g1, g2⟩ => ⟨g1, by
        rcases g2 with ⟨_, g⟩ | ⟨g, _⟩
        · exact g
        · exact absurd g he⟩
      have t1 : (er == 0) = false := beq_eq_false_iff_ne.2 he
      clear HF2 HL HM
      rw [if_neg he]
      clear he
      go_enter Tryz.func37, Tryz.ntmps37
      go_wp2_with (first | (go_at_call 58; refine RD2.out.mono ?_; rintro e w1 ⟨hB1, b, F, rfl, hb, hF⟩; have H1 := Lib.hid (And.intro hB1 (And.intro hb hF)); clear hB1 hb hF) | (go_at_call 38; refine (CL.out _ _ _ H1.out.1 H1.out.2.1 H1.out.2.2).mono ?_; rintro e w2 ⟨hB2, rfl⟩; have H2 := Lib.hid hB2; clear hB2))
      go_ret2
      exact ⟨rfl, H2.out⟩
/-- Canonical. -/
def canonC (s : Bs) : Bs × Int := match readC s with | none => ([], 11) | some ps => joinE (flatP ps)
end Go.Proofs.YteojlmpipfajoaaGreatDoor
