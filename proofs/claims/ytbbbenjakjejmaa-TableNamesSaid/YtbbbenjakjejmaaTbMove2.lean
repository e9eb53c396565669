/- 'Rename', 'Hide', 'Expose', 'Find', 'FindHidden'. -/
import Derived.Test.YtbbbenjakjejmaaTbMove
namespace Go.Proofs.Ytbbbenjakjejmaa
set_option linter.unusedVariables false
set_option linter.unusedSimpArgs false
open Go.RowKit Go.MapKept Go.WideMaps
theorem below_drewM {B : Nat} {a w : World} (h : Below B a w) (n : Nat) : Below B a (w.drewN n) := h.trans ⟨rfl, rfl, rfl, Nat.le_refl _, fun _ _ => rfl⟩
section
variable {B tb mn mh mk : Nat} {who : Own} {cb : Nat → Nat}
set_option maxHeartbeats 400000 in
theorem Rename_any {S : TS} {w : World} (h : Tb w B tb mn mh mk who cb S) (hW : WF S) (he : S.epoch ≤ 1000000) (old new : Bs) (ho : old.length ≤ 100000) (hn : new.length ≤ 100000) :
    Calls Try.prog 19 #[.pointer (some ⟨tb, 0, none⟩), .string ⟨old.toArray⟩, .string ⟨new.toArray⟩] w fun e w' => ∃ r S', e = .returned (.int .i64 r) ∧ MoveR S false old false new r S' ∧ Tb w' B tb mn mh mk who cb S' ∧ Stp who who w w' := by
  have MV := Lib.hid (move_any h hW he false false old new ho hn)
  obtain ⟨c0, c1, _⟩ := h.cells
  rw [show kindB mn mh false = mn from rfl] at MV
  clear h hW
  go_enter Try.func19, Try.ntmps19
  go_wp2_with (go_at_call 40; refine MV.out.mono ?_; rintro e w2 ⟨r, S', rfl, hm, ht, hs⟩; have H := Lib.hid (And.intro hm (And.intro ht hs)); clear hm ht hs)
  go_ret
  exact ⟨r, S', rfl, H.out.1, H.out.2.1, H.out.2.2⟩
set_option maxHeartbeats 400000 in
theorem Hide_any {S : TS} {w : World} (h : Tb w B tb mn mh mk who cb S) (hW : WF S) (he : S.epoch ≤ 1000000) (old new : Bs) (ho : old.length ≤ 100000) (hn : new.length ≤ 100000) :
    Calls Try.prog 20 #[.pointer (some ⟨tb, 0, none⟩), .string ⟨old.toArray⟩, .string ⟨new.toArray⟩] w fun e w' => ∃ r S', e = .returned (.int .i64 r) ∧ MoveR S false old true new r S' ∧ Tb w' B tb mn mh mk who cb S' ∧ Stp who who w w' := by
  have MV := Lib.hid (move_any h hW he false true old new ho hn)
  obtain ⟨c0, c1, _⟩ := h.cells
  rw [show kindB mn mh false = mn from rfl] at MV
  clear h hW
  go_enter Try.func20, Try.ntmps20
  go_wp2_with (go_at_call 40; refine MV.out.mono ?_; rintro e w2 ⟨r, S', rfl, hm, ht, hs⟩; have H := Lib.hid (And.intro hm (And.intro ht hs)); clear hm ht hs)
  go_ret
  exact ⟨r, S', rfl, H.out.1, H.out.2.1, H.out.2.2⟩
set_option maxHeartbeats 400000 in
theorem Expose_any {S : TS} {w : World} (h : Tb w B tb mn mh mk who cb S) (hW : WF S) (he : S.epoch ≤ 1000000) (old new : Bs) (ho : old.length ≤ 100000) (hn : new.length ≤ 100000) :
    Calls Try.prog 22 #[.pointer (some ⟨tb, 0, none⟩), .string ⟨old.toArray⟩, .string ⟨new.toArray⟩] w fun e w' => ∃ r S', e = .returned (.int .i64 r) ∧ MoveR S true old false new r S' ∧ Tb w' B tb mn mh mk who cb S' ∧ Stp who who w w' := by
  have MV := Lib.hid (move_any h hW he true false old new ho hn)
  obtain ⟨c0, c1, _⟩ := h.cells
  rw [show kindB mn mh true = mh from rfl] at MV
  clear h hW
  go_enter Try.func22, Try.ntmps22
  go_wp2_with (go_at_call 40; refine MV.out.mono ?_; rintro e w2 ⟨r, S', rfl, hm, ht, hs⟩; have H := Lib.hid (And.intro hm (And.intro ht hs)); clear hm ht hs)
  go_ret
  exact ⟨r, S', rfl, H.out.1, H.out.2.1, H.out.2.2⟩
set_option maxHeartbeats 400000 in
theorem Find_any {S : TS} {w : World} (h : Tb w B tb mn mh mk who cb S) (hW : WF S) (k : Bs) (hk0 : k.length ≤ 100000) :
    Calls Try.prog 18 #[.pointer (some ⟨tb, 0, none⟩), .string ⟨k.toArray⟩] w fun e w' => e = .returned (.int .i64 (((S.nm false k).getD 0 : Nat) : Int)) ∧ Below w.heap.size w w' := by
  obtain ⟨c0, c1, _⟩ := h.cells
  have hk : k.length ≤ maxLen := by unfold maxLen; omega
  have hl := h.lookName false (k := k) hk
  have hl2 : ∀ n, (Instr.lookup 54 (.map (some (kindB mn mh false))) (.string ⟨k.toArray⟩) false).run Try.prog (w.drewN n) = .ok (ptrM cb (S.nm false k)) (w.drewN n) := fun n => (h.low (below_drewM (Below.refl _ _) n)).lookName false hk
  rw [show kindB mn mh false = mn from rfl] at hl
  simp only [show kindB mn mh false = mn from rfl] at hl2
  cases hn : S.nm false k with
  | none =>
    rw [hn] at hl
    simp only [hn, ptrM, Option.map_none] at hl hl2
    clear h hn
    go_enter Try.func18, Try.ntmps18
    go_wp2_with fail
    go_ret
    exact ⟨rfl, by first | exact Below.refl _ _ | exact (Below.refl _ _).drew | exact below_drewM (Below.refl _ _) _⟩
  | some n =>
    rw [hn] at hl
    simp only [hn, ptrM, Option.map_some] at hl hl2
    obtain ⟨c, hc, _⟩ := (hW.names _ _ _).1 hn
    obtain ⟨q0, _⟩ := (h.cmd n c hc).cells
    clear h hn
    go_enter Try.func18, Try.ntmps18
    go_wp2_with fail
    go_ret
    exact ⟨rfl, by first | exact Below.refl _ _ | exact (Below.refl _ _).drew | exact below_drewM (Below.refl _ _) _⟩
set_option maxHeartbeats 400000 in
theorem FindHidden_any {S : TS} {w : World} (h : Tb w B tb mn mh mk who cb S) (hW : WF S) (k : Bs) (hk0 : k.length ≤ 100000) :
    Calls Try.prog 21 #[.pointer (some ⟨tb, 0, none⟩), .string ⟨k.toArray⟩] w fun e w' => e = .returned (.int .i64 (((S.nm true k).getD 0 : Nat) : Int)) ∧ Below w.heap.size w w' := by
  obtain ⟨c0, c1, _⟩ := h.cells
  have hk : k.length ≤ maxLen := by unfold maxLen; omega
  have hl := h.lookName true (k := k) hk
  have hl2 : ∀ n, (Instr.lookup 54 (.map (some (kindB mn mh true))) (.string ⟨k.toArray⟩) false).run Try.prog (w.drewN n) = .ok (ptrM cb (S.nm true k)) (w.drewN n) := fun n => (h.low (below_drewM (Below.refl _ _) n)).lookName true hk
  rw [show kindB mn mh true = mh from rfl] at hl
  simp only [show kindB mn mh true = mh from rfl] at hl2
  cases hn : S.nm true k with
  | none =>
    rw [hn] at hl
    simp only [hn, ptrM, Option.map_none] at hl hl2
    clear h hn
    go_enter Try.func21, Try.ntmps21
    go_wp2_with fail
    go_ret
    exact ⟨rfl, by first | exact Below.refl _ _ | exact (Below.refl _ _).drew | exact below_drewM (Below.refl _ _) _⟩
  | some n =>
    rw [hn] at hl
    simp only [hn, ptrM, Option.map_some] at hl hl2
    obtain ⟨c, hc, _⟩ := (hW.names _ _ _).1 hn
    obtain ⟨q0, _⟩ := (h.cmd n c hc).cells
    clear h hn
    go_enter Try.func21, Try.ntmps21
    go_wp2_with fail
    go_ret
    exact ⟨rfl, by first | exact Below.refl _ _ | exact (Below.refl _ _).drew | exact below_drewM (Below.refl _ _) _⟩
end
end Go.Proofs.Ytbbbenjakjejmaa
