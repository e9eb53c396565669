/- Pairs, Get. Get. -/
import Derived.Test.YtpaffocniniakaaGreatRJoin
import Derived.Deep.LoopGhost
namespace Go.Proofs.YtpaffocniniakaaGreat
set_option linter.unusedVariables false
set_option linter.unusedSimpArgs false
open Go.RowKit

set_option maxRecDepth 100000 in
set_option maxHeartbeats 1600000 in
theorem Pairs_any (s : Bs) (hs : s.length ≤ 19999) (w : World) :
    Calls Tryz.prog 12 #[.string ⟨s.toArray⟩] w fun e w' => ∃ r err, e = .returned (.tuple #[r, .int .i64 err]) ∧ RPrs w s r err w' := by
  have RD := read_any s hs w
  cases hr : readC s with
  | none =>
    have RD2 : Hid (Calls Tryz.prog 27 #[.string ⟨s.toArray⟩] w fun e w' => Below w.heap.size w w' ∧ e = .returned (.tuple #[.pointer none, .int .i64 11])) := RD.mono fun e w' ⟨h1, h2⟩ => ⟨h1, by
      rcases h2 with ⟨_, h'⟩ | ⟨_, _, _, h', _⟩
      · exact h'
      · rw [hr] at h'; cases h'⟩
    have HR := Lib.hid hr
    clear RD hr
    go_enter Tryz.func12, Tryz.ntmps12
    go_wp2_with (go_at_call 27; refine RD2.out.mono ?_; rintro e w1 ⟨hB1, rfl⟩; have H1 := Lib.hid hB1; clear hB1)
    go_ret2
    exact ⟨_, _, rfl, H1.out, .inl ⟨HR.out, rfl, rfl⟩⟩
  | some ps =>
    have hlen := read_len hr
    have RD2 : Hid (Calls Tryz.prog 27 #[.string ⟨s.toArray⟩] w fun e w' => Below w.heap.size w w' ∧ ∃ b F, e = .returned (.tuple #[.pointer (some ⟨b, 0, none⟩), .int .i64 0]) ∧ Bk w' b F ps) := RD.mono fun e w' ⟨h1, h2⟩ => ⟨h1, by
      rcases h2 with ⟨h', _⟩ | ⟨b2, F2, ps', h', he, hb, hF⟩
      · rw [hr] at h'; cases h'
      · rw [hr] at h'; cases h'; exact ⟨b2, F2, he, hb⟩⟩
    have PA : Hid (∀ W b F, Bk W b F ps → Calls Tryz.prog 28 #[.pointer (some ⟨b, 0, none⟩)] W fun e w' => ∃ v, e = .returned v ∧ w'.ownsRow W.heap.size 9 1 v (flatP ps).length ((flatP ps).map sv) ∧ Below W.heap.size W w') := fun W b F h => pairs_any h (by omega)
    have HR := Lib.hid hr
    clear RD hr
    go_enter Tryz.func12, Tryz.ntmps12
    go_wp2_with (first | (go_at_call 27; refine RD2.out.mono ?_; rintro e w1 ⟨hB1, b, F, rfl, hb⟩; have H1 := Lib.hid (And.intro hB1 hb); clear hB1 hb) | (go_at_call 28; refine (PA.out _ _ _ H1.out.2).mono ?_; rintro e w2 ⟨v, rfl, hO2, hB2⟩; have H2 := Lib.hid (And.intro hO2 hB2); clear hO2 hB2))
    go_ret2
    exact ⟨_, _, rfl, H1.out.1.trans (H2.out.2.mono H1.out.1.size), .inr ⟨_, HR.out, rfl, by have h := H2.out.1; exact ⟨h.1, h.2.imp id (fun ⟨g, c, cur, q1, q2, q3⟩ => ⟨g, c, cur, q1, Nat.le_trans H1.out.1.size q2, q3⟩)⟩⟩⟩

/-- 'Get' behind its first question. -/
def getL : Bs → List Bs → Bs × Int
  | s, [] => (s, 0)
  | s, k :: r => match readC s with | none => ([], 11) | some ps => match getP ps k with | none => ([], 8) | some v => getL v r
end Go.Proofs.YtpaffocniniakaaGreat
namespace Go.Proofs.YtpaffocniniakaaGreat
set_option linter.unusedVariables false
set_option linter.unusedSimpArgs false
open Go.RowKit

def getC (s : Bs) (path : List Bs) : Bs × Int := if path = [] then canonC s else getL s path
end Go.Proofs.YtpaffocniniakaaGreat
