/- 'Search': a node's list, copied. -/
import Derived.Test.YtjgdfgpnmmkjfaaGreatDoorShelf
import Derived.Test.YtjgdfgpnmmkjfaaGreatDoorNPlay
namespace Go.Proofs.YtjgdfgpnmmkjfaaGreatDoor
set_option linter.unusedVariables false
set_option linter.unusedSimpArgs false
open Go.RowKit Go.MapKept
theorem clone_any {w : World} {v : Value} {L : List Bs} (h : TxtRow w v L) (hl : L.length ≤ 1000000) : Calls Tryz.prog 72 #[v] w fun e w' => ∃ o c, e = .returned (.slice o L.length c) ∧ w'.ownsRow w.heap.size 9 1 (.slice o L.length c) L.length (L.map sv) ∧ Below w.heap.size w w' := by
  obtain ⟨o, c, rfl⟩ := h.len
  obtain ⟨_, h1, h2, h3⟩ := h.at_
  rcases Nat.eq_zero_or_pos L.length with h0 | h0
  · obtain rfl : L = [] := List.length_eq_zero_iff.1 h0
    cases o with
    | none => exact (Tryz.slices_Clone_string_nil 0 c w).mono fun e w' ⟨he, hw⟩ => ⟨none, 0, he, by subst hw; exact ⟨rfl, .inl ⟨rfl, rfl⟩⟩, by subst hw; exact Below.refl _ _⟩
    | some a =>
      exact (Tryz.slices_Clone_string_zero a c w).mono fun e w' ⟨v', he, ho, _, hB⟩ => by
        obtain ⟨o, c, rfl⟩ := owns_slice ho
        exact ⟨o, c, he, ho, hB⟩
  · obtain ⟨b, off, rfl, _, _⟩ := h3 0 h0
    have hz : ((L.map fun s => (⟨s.toArray⟩ : ByteArray)).take L.length).map Value.string = L.map sv := by
      rw [List.take_of_length_le (by simp), List.map_map]; rfl
    have := Tryz.slices_Clone_string b off L.length c (L.map fun s => ⟨s.toArray⟩) w (by simp) (by omega) (fun j hj => by
      simp at hj
      obtain ⟨b', off', e, _, hc⟩ := h3 j hj
      cases e
      rw [hc]
      simp [List.getD, hj, sv])
    rw [hz] at this
    exact this.mono fun e w' ⟨v', he, ho, _, hB⟩ => by
      obtain ⟨o, c, rfl⟩ := owns_slice ho
      exact ⟨o, c, he, ho, hB⟩
theorem searches_any {w : World} {B tb m : Nat} {who : Own} {nd : Bs → Option Nat} {S : Bs → Option ND} (h : Tr w B tb m who nd S) {k : Bs} {b : Nat} {n : ND} (hb : nd k = some b) (hS : S k = some n) (hl : n.search.length ≤ 1000000) :
    Calls Tryz.prog 42 #[.pointer (some ⟨b, 0, none⟩)] w fun e w' => ∃ o c, e = .returned (.slice o n.search.length c) ∧ w'.ownsRow w.heap.size 9 1 (.slice o n.search.length c) n.search.length (n.search.map sv) ∧ Below w.heap.size w w' := by
  obtain ⟨_, vs, ve, hc, hrs, _, _⟩ := h.node _ _ _ hb hS
  obtain ⟨c0, _⟩ := vcells3 hc
  have hT : TxtRow w vs n.search := TxtRow.of_owns hrs
  obtain ⟨o, c, rfl⟩ := hT.len
  have CL := Lib.hid (clone_any hT hl)
  clear hT hrs hc h hl
  go_enter Tryz.func42, Tryz.ntmps42
  go_wp2_with (go_at_call 72; refine CL.out.mono ?_; rintro e w1 ⟨o', c', rfl, ho, hB⟩; have H1 : Hid (_ ∧ _) := ⟨ho, hB⟩; clear ho hB)
  go_ret
  exact ⟨o', c', rfl, H1.out.1, H1.out.2⟩
theorem told_search {w : World} {B tb m : Nat} {who : Own} {nd : Bs → Option Nat} {S : Bs → Option ND} (h : Tr w B tb m who nd S) (path : Bs) (hp : path.length ≤ 100000) {n : ND} (hS : S (canonN rootN path) = some n) (hl : n.search.length ≤ 1000000) :
    Calls Tryz.prog 41 #[.pointer (some ⟨tb, 0, none⟩), .string ⟨path.toArray⟩, .func (.func 42) #[] #[]] w fun e w' => ∃ o c, e = .returned (.tuple #[.slice o n.search.length c, .int .i64 0]) ∧ w'.ownsRow w.heap.size 9 1 (.slice o n.search.length c) n.search.length (n.search.map sv) ∧ Below w.heap.size w w' := by
  have A0 := at_any h.tree path hp
  have hsm := h.same (canonN rootN path)
  rw [hS] at hsm
  cases hnd : nd (canonN rootN path) with
  | none => rw [hnd] at hsm; cases hsm
  | some b =>
    rw [hnd] at A0
    have A1 : Hid (Calls Tryz.prog 32 #[.pointer (some ⟨tb, 0, none⟩), .string ⟨path.toArray⟩] w fun e w' => e = .returned (.pointer (some ⟨b, 0, none⟩)) ∧ Below w.heap.size w w') := A0
    have SE : Hid (∀ W, Below w.heap.size w W → Calls Tryz.prog 42 #[.pointer (some ⟨b, 0, none⟩)] W fun e w' => ∃ o c, e = .returned (.slice o n.search.length c) ∧ w'.ownsRow w.heap.size 9 1 (.slice o n.search.length c) n.search.length (n.search.map sv) ∧ Below w.heap.size w w') := fun W hb =>
      (searches_any (h.low hb) hnd hS hl).mono fun e w' ⟨o, c, he, ho, hB⟩ => ⟨o, c, he, row_base ho hb.size, hb.trans (hB.mono hb.size)⟩
    clear h A0 hsm hnd hS hl hp
    go_enter Tryz.func41, Tryz.ntmps41
    go_wp2_with (first | (go_at_call 32; refine A1.out.mono ?_; rintro e w1 ⟨rfl, hB⟩; have H1 := Lib.hid hB; clear hB) | (go_at_call 42; refine (SE.out _ H1.out).mono ?_; rintro e w2 ⟨o', c', rfl, ho, hB⟩; have H2 : Hid (_ ∧ _) := ⟨ho, hB⟩; clear ho hB))
    go_ret2
    exact ⟨o', c', rfl, H2.out.1, H2.out.2⟩
theorem Search_any {w : World} {B tb m : Nat} {who : Own} {nd : Bs → Option Nat} {S : Bs → Option ND} (h : Tr w B tb m who nd S) (path : Bs) (hp : path.length ≤ 100000) {n : ND} (hS : S (canonN rootN path) = some n) (hl : n.search.length ≤ 1000000) :
    Calls Tryz.prog 21 #[.pointer (some ⟨tb, 0, none⟩), .string ⟨path.toArray⟩] w fun e w' => ∃ o c, e = .returned (.tuple #[.slice o n.search.length c, .int .i64 0]) ∧ w'.ownsRow w.heap.size 9 1 (.slice o n.search.length c) n.search.length (n.search.map sv) ∧ Below w.heap.size w w' := by
  have TO := Lib.hid (told_search h path hp hS hl)
  clear h hp hS hl
  go_enter Tryz.func21, Tryz.ntmps21
  go_wp2_with (go_at_call 41; refine TO.out.mono ?_; rintro e w1 ⟨o', c', rfl, ho, hB⟩; have H1 : Hid (_ ∧ _) := ⟨ho, hB⟩; clear ho hB)
  go_ret2
  exact ⟨o', c', rfl, H1.out.1, H1.out.2⟩
end Go.Proofs.YtjgdfgpnmmkjfaaGreatDoor
