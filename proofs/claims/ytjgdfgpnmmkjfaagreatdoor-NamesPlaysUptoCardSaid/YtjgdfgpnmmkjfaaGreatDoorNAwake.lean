/- 'awake' of layer 16: the document's example. -/
import Derived.Test.YtjgdfgpnmmkjfaaGreatDoorNCand
import Derived.Test.YtjgdfgpnmmkjfaaGreatDoorSame
namespace Go.Proofs.YtjgdfgpnmmkjfaaGreatDoor
set_option linter.unusedVariables false
set_option linter.unusedSimpArgs false
open Go.RowKit Go.MapKept

def awP1 : Bs := [58, 58, 97]
def awP2 : Bs := [98]
def awA : Bs := [97]
def awF : Bs := [102]
def awS2 : Bs → Option ND := makeS (makeS newS awP1) awP2
theorem aw_srch : (srchS awS2 awA [awP2]).1 = 0 := by kernel_rfl
def awS3 : Bs → Option ND := (srchS awS2 awA [awP2]).2
def awL : List Bs := [[58, 58, 97, 58, 58, 102], [58, 58, 98, 58, 58, 102], [58, 58, 102]]
theorem aw_cand : candS awS3 awA awF = (0, awL) := by kernel_rfl
theorem aw_node : awS3 (canonN rootN awA) = some ⟨[[58, 58, 98]], [], []⟩ := by kernel_rfl
theorem aw_canon : canonN awP1 [98, 58, 58, 58, 99] = [58, 58, 97, 58, 58, 98, 58, 58, 99] := by kernel_rfl
/-- A tree of the call's own, and what lies below. -/
def TrB (w W : World) (tb : Nat) (S : Bs → Option ND) : Prop := ∃ m who nd, Tr W w.heap.size tb m who nd S ∧ Below w.heap.size w W
theorem TrB.stp {w W W' : World} {tb m : Nat} {who who' : Own} {nd nd' : Bs → Option Nat} {S S' : Bs → Option ND} (h : Tr W w.heap.size tb m who nd S) (hb : Below w.heap.size w W) (h' : Tr W' w.heap.size tb m who' nd' S') (hs : Stp who who' W W') : TrB w W' tb S' :=
  ⟨m, who', nd', h', hb.trans (hs.below hb.size (fun j hj => (h.lo j hj).1))⟩
theorem TrB.make {w W : World} {tb : Nat} {S : Bs → Option ND} (h : TrB w W tb S) (path : Bs) (hp : path.length ≤ 100000) :
    Calls Tryz.prog 14 #[.pointer (some ⟨tb, 0, none⟩), .string ⟨path.toArray⟩] W fun e w' => e = .returned (.int .i64 0) ∧ TrB w w' tb (makeS S path) := by
  obtain ⟨m, who, nd, hT, hB⟩ := h
  exact (Make_any hT path hp).mono fun e w' ⟨he, who', nd', hT', hS⟩ => ⟨he, TrB.stp hT hB hT' hS⟩
theorem TrB.low {w W W' : World} {tb : Nat} {S : Bs → Option ND} (h : TrB w W tb S) (hb : Below W.heap.size W W') : TrB w W' tb S := by
  obtain ⟨m, who, nd, hT, hB⟩ := h
  exact ⟨m, who, nd, hT.low hb, hB.trans (hb.mono hB.size)⟩
theorem TrB.search {w W : World} {tb : Nat} {S : Bs → Option ND} (h : TrB w W tb S) (path : Bs) (hp : path.length ≤ 100000) (L : List Bs) (hL : ∀ p ∈ L, p.length ≤ 100000) (hn : L.length ≤ 100000) {v : Value} (hv : TxtRow W v L) :
    Calls Tryz.prog 23 #[.pointer (some ⟨tb, 0, none⟩), .string ⟨path.toArray⟩, v] W fun e w' => e = .returned (.int .i64 (srchS S path L).1) ∧ TrB w w' tb (srchS S path L).2 := by
  obtain ⟨m, who, nd, hT, hB⟩ := h
  exact (SetSearch_any hT path hp L hL hn hv).mono fun e w' ⟨he, who', nd', hT', hS⟩ => ⟨he, TrB.stp hT hB hT' hS⟩
set_option maxRecDepth 100000 in
set_option maxHeartbeats 1600000 in
theorem awake_any (w : World) : Calls Tryz.prog 7 #[] w fun e w' => e = .returned (.bool true) ∧ Below w.heap.size w w' := by
  have A0 : Hid (Calls Tryz.prog 8 #[] w fun e w' => ∃ tb, e = .returned (.pointer (some ⟨tb, 0, none⟩)) ∧ TrB w w' tb newS) := (nNew_tr w).mono fun e w' ⟨tb, m, who, nd, he, hT, hB⟩ => ⟨tb, he, m, who, nd, hT, hB⟩
  have A1 : Hid (∀ W tb, TrB w W tb newS → Calls Tryz.prog 14 #[.pointer (some ⟨tb, 0, none⟩), .string ⟨#[58, 58, 97]⟩] W fun e w' => e = .returned (.int .i64 0) ∧ TrB w w' tb (makeS newS awP1)) := fun W tb h => h.make awP1 (by decide)
  have A2 : Hid (∀ W tb, TrB w W tb (makeS newS awP1) → Calls Tryz.prog 14 #[.pointer (some ⟨tb, 0, none⟩), .string ⟨#[98]⟩] W fun e w' => e = .returned (.int .i64 0) ∧ TrB w w' tb awS2) := fun W tb h => h.make awP2 (by decide)
  have A3 : Hid (∀ W tb v, TrB w W tb awS2 → TxtRow W v [awP2] → Calls Tryz.prog 23 #[.pointer (some ⟨tb, 0, none⟩), .string ⟨#[97]⟩, v] W fun e w' => e = .returned (.int .i64 0) ∧ TrB w w' tb awS3) := fun W tb v h hv => by
    have := h.search awA (by decide) [awP2] (by decide) (by decide) hv
    rw [aw_srch] at this
    exact this
  have A4 : Hid (∀ W tb, TrB w W tb awS3 → Calls Tryz.prog 17 #[.pointer (some ⟨tb, 0, none⟩), .string ⟨#[97]⟩, .string ⟨#[102]⟩] W fun e w' => ∃ o c, e = .returned (.tuple #[.slice o 3 c, .int .i64 0]) ∧ TxtRow w' (.slice o 3 c) awL ∧ Below w.heap.size w w') := fun W tb h => by
    obtain ⟨m, who, nd, hT, hB⟩ := h
    have := Candidates_any hT awA awF (by decide) (by decide) (fun n hn => by rw [aw_node] at hn; cases hn; decide)
    rw [aw_cand] at this
    refine this.mono fun e w' ⟨o, c, he, ho, hb⟩ => ⟨o, c, he, TxtRow.of_owns ho, hB.trans (hb.mono hB.size)⟩
  have A5 : Hid (∀ W, Calls Tryz.prog 19 #[.string ⟨#[58, 58, 97]⟩, .string ⟨#[98, 58, 58, 58, 99]⟩] W fun e w' => e = .returned (.string ⟨#[58, 58, 97, 58, 58, 98, 58, 58, 99]⟩) ∧ Below W.heap.size W w') := fun W => by
    have := Canonical_any awP1 [98, 58, 58, 58, 99] (by decide) (by decide) W
    rw [aw_canon] at this
    exact this
  have A6 : Hid (∀ W va vb, TxtRow W va awL → TxtRow W vb awL → Calls Tryz.prog 16 #[va, vb] W fun e w' => e = .returned (.bool true) ∧ Below W.heap.size W w') := fun W va vb ha hb => same_yes W ha hb
  have A7 : Hid (∀ W : World, TxtRow (W.alloc (.cells #[.string ⟨#[58, 58, 97, 58, 58, 102]⟩, .string ⟨#[58, 58, 98, 58, 58, 102]⟩, .string ⟨#[58, 58, 102]⟩] 9)) (.slice (some ⟨W.heap.size, 0, none⟩) 3 3) awL) := fun W => txt_new W awL (by decide)
  have tokA : True := trivial
  go_enter Tryz.func7, Tryz.ntmps7
  go_wp2_with (first | (go_at_call 8; refine A0.out.mono ?_; rintro e w1 ⟨tb, rfl, hT⟩; have H := Lib.hid hT; clear hT) | (go_at_call 14; have _t := tokA; refine (A1.out _ _ H.out).mono ?_; rintro e w2 ⟨rfl, hT⟩; have H2 := Lib.hid hT; clear hT tokA _t) | (go_at_call 14; refine (A2.out _ _ H2.out).mono ?_; rintro e w3 ⟨rfl, hT⟩; have H3 := Lib.hid hT; clear hT) | (go_at_call 23; refine (A3.out _ _ _ (by exact H3.out.low ((Below.refl _ w3).alloc (Nat.le_refl _) _)) (by exact txt_new w3 [awP2] (by decide))).mono ?_; rintro e w4 ⟨rfl, hT⟩; have H4 := Lib.hid hT; clear hT) | (go_at_call 17; refine (A4.out _ _ H4.out).mono ?_; rintro e w5 ⟨o, c, rfl, ho, hB⟩; have H5 := Lib.hid (And.intro ho hB); clear ho hB) | (go_at_call 19; refine (A5.out _).mono ?_; rintro e w6 ⟨rfl, hB⟩; have H6 := Lib.hid (And.intro (H5.out.1.below hB) (H5.out.2.trans (hB.mono H5.out.2.size))); clear hB) | (go_at_call 16; refine (A6.out _ _ _ (by exact H6.out.1.al _) (by exact A7.out _)).mono ?_; rintro e w7 ⟨rfl, hB⟩; have H7 := Lib.hid ((below_al H6.out.2 _).trans (hB.mono (below_al H6.out.2 _).size)); clear hB))
  go_ret
  exact ⟨rfl, H7.out⟩
end Go.Proofs.YtjgdfgpnmmkjfaaGreatDoor
