/- The program's questions: 'Search', 'Patterns', 'Unknown', 'Exports'; what is told of no namespace. -/
import Derived.Test.YtjgdfgpnmmkjfaaGreatDoorNQ
import Derived.Test.YtjgdfgpnmmkjfaaGreatDoorNTold
namespace Go.Proofs.YtjgdfgpnmmkjfaaGreatDoor
set_option linter.unusedVariables false
set_option linter.unusedSimpArgs false
open Go.RowKit Go.MapKept
theorem patterns_any {w : World} {B tb m : Nat} {who : Own} {nd : Bs → Option Nat} {S : Bs → Option ND} (h : Tr w B tb m who nd S) {k : Bs} {b : Nat} {n : ND} (hb : nd k = some b) (hS : S k = some n) (hl : n.exports.length ≤ 1000000) :
    Calls Tryz.prog 78 #[.pointer (some ⟨b, 0, none⟩)] w fun e w' => ∃ o c, e = .returned (.slice o n.exports.length c) ∧ w'.ownsRow w.heap.size 9 1 (.slice o n.exports.length c) n.exports.length (n.exports.map sv) ∧ Below w.heap.size w w' := by
  obtain ⟨_, vs, ve, hc, hrs0, _, hrs, _⟩ := h.node _ _ _ hb hS
  obtain ⟨_, c0, _⟩ := vcells3 hc
  have hT : TxtRow w ve n.exports := TxtRow.of_owns hrs
  obtain ⟨o, c, rfl⟩ := hT.len
  have CL := Lib.hid (clone_any hT hl)
  clear hT hrs hrs0 hc h hl
  go_enter Tryz.func78, Tryz.ntmps78
  go_wp2_with (go_at_call 72; refine CL.out.mono ?_; rintro e w1 ⟨o', c', rfl, ho, hB⟩; have H1 : Hid (_ ∧ _) := ⟨ho, hB⟩; clear ho hB)
  go_ret
  exact ⟨o', c', rfl, H1.out.1, H1.out.2⟩
theorem told_patterns {w : World} {B tb m : Nat} {who : Own} {nd : Bs → Option Nat} {S : Bs → Option ND} (h : Tr w B tb m who nd S) (path : Bs) (hp : path.length ≤ 100000) {n : ND} (hS : S (canonN rootN path) = some n) (hl : n.exports.length ≤ 1000000) :
    Calls Tryz.prog 41 #[.pointer (some ⟨tb, 0, none⟩), .string ⟨path.toArray⟩, .func (.func 78) #[] #[]] w fun e w' => ∃ o c, e = .returned (.tuple #[.slice o n.exports.length c, .int .i64 0]) ∧ w'.ownsRow w.heap.size 9 1 (.slice o n.exports.length c) n.exports.length (n.exports.map sv) ∧ Below w.heap.size w w' := by
  have A0 := at_any h.tree path hp
  have hsm := h.same (canonN rootN path)
  rw [hS] at hsm
  cases hnd : nd (canonN rootN path) with
  | none => rw [hnd] at hsm; cases hsm
  | some b =>
    rw [hnd] at A0
    have A1 : Hid (Calls Tryz.prog 32 #[.pointer (some ⟨tb, 0, none⟩), .string ⟨path.toArray⟩] w fun e w' => e = .returned (.pointer (some ⟨b, 0, none⟩)) ∧ Below w.heap.size w w') := A0
    have SE : Hid (∀ W, Below w.heap.size w W → Calls Tryz.prog 78 #[.pointer (some ⟨b, 0, none⟩)] W fun e w' => ∃ o c, e = .returned (.slice o n.exports.length c) ∧ w'.ownsRow w.heap.size 9 1 (.slice o n.exports.length c) n.exports.length (n.exports.map sv) ∧ Below w.heap.size w w') := fun W hb =>
      (patterns_any (h.low hb) hnd hS hl).mono fun e w' ⟨o, c, he, ho, hB⟩ => ⟨o, c, he, row_base ho hb.size, hb.trans (hB.mono hb.size)⟩
    clear h A0 hsm hnd hS hl hp
    go_enter Tryz.func41, Tryz.ntmps41
    go_wp2_with (first | (go_at_call 32; refine A1.out.mono ?_; rintro e w1 ⟨rfl, hB⟩; have H1 := Lib.hid hB; clear hB) | (go_at_call 78; refine (SE.out _ H1.out).mono ?_; rintro e w2 ⟨o', c', rfl, ho, hB⟩; have H2 : Hid (_ ∧ _) := ⟨ho, hB⟩; clear ho hB))
    go_ret2
    exact ⟨o', c', rfl, H2.out.1, H2.out.2⟩
theorem Patterns_any {w : World} {B tb m : Nat} {who : Own} {nd : Bs → Option Nat} {S : Bs → Option ND} (h : Tr w B tb m who nd S) (path : Bs) (hp : path.length ≤ 100000) {n : ND} (hS : S (canonN rootN path) = some n) (hl : n.exports.length ≤ 1000000) :
    Calls Tryz.prog 50 #[.pointer (some ⟨tb, 0, none⟩), .string ⟨path.toArray⟩] w fun e w' => ∃ o c, e = .returned (.tuple #[.slice o n.exports.length c, .int .i64 0]) ∧ w'.ownsRow w.heap.size 9 1 (.slice o n.exports.length c) n.exports.length (n.exports.map sv) ∧ Below w.heap.size w w' := by
  have TO := Lib.hid (told_patterns h path hp hS hl)
  clear h hp hS hl
  go_enter Tryz.func50, Tryz.ntmps50
  go_wp2_with (go_at_call 41; refine TO.out.mono ?_; rintro e w1 ⟨o', c', rfl, ho, hB⟩; have H1 : Hid (_ ∧ _) := ⟨ho, hB⟩; clear ho hB)
  go_ret2
  exact ⟨o', c', rfl, H1.out.1, H1.out.2⟩
theorem told_searches_none {w : World} {B tb m : Nat} {who : Own} {nd : Bs → Option Nat} {S : Bs → Option ND} (h : Tr w B tb m who nd S) (s : Bs) (hs : s.length ≤ 100000) (hk : S (canonN rootN s) = none) : Calls Tryz.prog 41 #[.pointer (some ⟨tb, 0, none⟩), .string ⟨s.toArray⟩, .func (.func 42) #[] #[]] w fun e w' => e = .returned (.tuple #[.slice none 0 0, .int .i64 8]) ∧ Below w.heap.size w w' := by
  have A0 := at_any h.tree s hs
  rw [h.of_none hk] at A0
  have A1 : Hid (Calls Tryz.prog 32 #[.pointer (some ⟨tb, 0, none⟩), .string ⟨s.toArray⟩] w fun e w' => e = .returned (.pointer none) ∧ Below w.heap.size w w') := A0
  clear h A0 hk hs
  go_enter Tryz.func41, Tryz.ntmps41
  go_wp2_with (go_at_call 32; refine A1.out.mono ?_; rintro e w1 ⟨rfl, hB⟩; have HB1 := Lib.hid hB; clear hB)
  go_ret2
  exact ⟨rfl, HB1.out⟩
theorem Search_none {w : World} {B tb m : Nat} {who : Own} {nd : Bs → Option Nat} {S : Bs → Option ND} (h : Tr w B tb m who nd S) (s : Bs) (hs : s.length ≤ 100000) (hk : S (canonN rootN s) = none) : Calls Tryz.prog 21 #[.pointer (some ⟨tb, 0, none⟩), .string ⟨s.toArray⟩] w fun e w' => e = .returned (.tuple #[.slice none 0 0, .int .i64 8]) ∧ Below w.heap.size w w' := by
  have TO := Lib.hid (told_searches_none h s hs hk)
  clear h hs hk
  go_enter Tryz.func21, Tryz.ntmps21
  go_wp2_with (go_at_call 41; refine TO.out.mono ?_; rintro e w1 ⟨rfl, hB⟩; have HB1 := Lib.hid hB; clear hB)
  go_ret2
  exact ⟨rfl, HB1.out⟩
theorem told_patterns_none {w : World} {B tb m : Nat} {who : Own} {nd : Bs → Option Nat} {S : Bs → Option ND} (h : Tr w B tb m who nd S) (s : Bs) (hs : s.length ≤ 100000) (hk : S (canonN rootN s) = none) : Calls Tryz.prog 41 #[.pointer (some ⟨tb, 0, none⟩), .string ⟨s.toArray⟩, .func (.func 78) #[] #[]] w fun e w' => e = .returned (.tuple #[.slice none 0 0, .int .i64 8]) ∧ Below w.heap.size w w' := by
  have A0 := at_any h.tree s hs
  rw [h.of_none hk] at A0
  have A1 : Hid (Calls Tryz.prog 32 #[.pointer (some ⟨tb, 0, none⟩), .string ⟨s.toArray⟩] w fun e w' => e = .returned (.pointer none) ∧ Below w.heap.size w w') := A0
  clear h A0 hk hs
  go_enter Tryz.func41, Tryz.ntmps41
  go_wp2_with (go_at_call 32; refine A1.out.mono ?_; rintro e w1 ⟨rfl, hB⟩; have HB1 := Lib.hid hB; clear hB)
  go_ret2
  exact ⟨rfl, HB1.out⟩
theorem Patterns_none {w : World} {B tb m : Nat} {who : Own} {nd : Bs → Option Nat} {S : Bs → Option ND} (h : Tr w B tb m who nd S) (s : Bs) (hs : s.length ≤ 100000) (hk : S (canonN rootN s) = none) : Calls Tryz.prog 50 #[.pointer (some ⟨tb, 0, none⟩), .string ⟨s.toArray⟩] w fun e w' => e = .returned (.tuple #[.slice none 0 0, .int .i64 8]) ∧ Below w.heap.size w w' := by
  have TO := Lib.hid (told_patterns_none h s hs hk)
  clear h hs hk
  go_enter Tryz.func50, Tryz.ntmps50
  go_wp2_with (go_at_call 41; refine TO.out.mono ?_; rintro e w1 ⟨rfl, hB⟩; have HB1 := Lib.hid hB; clear hB)
  go_ret2
  exact ⟨rfl, HB1.out⟩
theorem unk1_any {w : World} {b : Nat} {u : Bs} (hc : w.cell? ⟨b, 2, none⟩ = some (.string ⟨u.toArray⟩)) : Calls Tryz.prog 81 #[.pointer (some ⟨b, 0, none⟩)] w fun e w' => e = .returned (.string ⟨u.toArray⟩) ∧ w = w' := by
  go_enter Tryz.func81, Tryz.ntmps81
  go_wp2_with fail
  go_ret
  exact ⟨rfl, rfl⟩
theorem told_unk {w : World} {B tb m : Nat} {who : Own} {nd : Bs → Option Nat} {S : Bs → Option ND} (h : Tr w B tb m who nd S) (s : Bs) (hs : s.length ≤ 100000) {q : Int × Bs} (hq : (match S (canonN rootN s) with | none => ((8 : Int), ([] : Bs)) | some n => (0, n.unknown)) = q) : Calls Tryz.prog 80 #[.pointer (some ⟨tb, 0, none⟩), .string ⟨s.toArray⟩, .func (.func 81) #[] #[]] w fun e w' => e = .returned (.tuple #[.string ⟨q.2.toArray⟩, .int .i64 q.1]) ∧ Below w.heap.size w w' := by
  cases hk : S (canonN rootN s) with
  | none =>
    rw [hk] at hq
    subst hq
    have A0 := at_any h.tree s hs
    rw [h.of_none hk] at A0
    have A1 : Hid (Calls Tryz.prog 32 #[.pointer (some ⟨tb, 0, none⟩), .string ⟨s.toArray⟩] w fun e w' => e = .returned (.pointer none) ∧ Below w.heap.size w w') := A0
    clear h A0 hk hs
    go_enter Tryz.func80, Tryz.ntmps80
    go_wp2_with (go_at_call 32; refine A1.out.mono ?_; rintro e w1 ⟨rfl, hB⟩; have HB1 := Lib.hid hB; clear hB)
    go_ret2
    exact ⟨rfl, HB1.out⟩
  | some n =>
    rw [hk] at hq
    subst hq
    obtain ⟨b, hb, hN⟩ := h.of_some hk
    obtain ⟨_, vs, ve, hc, _⟩ := hN
    have hbl := (Array.getElem?_eq_some_iff.1 hc).1
    have HX : Hid (∀ W, Below w.heap.size w W → Calls Tryz.prog 81 #[.pointer (some ⟨b, 0, none⟩)] W fun e w' => e = .returned (.string ⟨n.unknown.toArray⟩) ∧ W = w') := fun W hb => unk1_any (vcells3 ((hb.block b hbl).trans hc)).2.2.1
    have A0 := at_any h.tree s hs
    rw [hb] at A0
    have A1 : Hid (Calls Tryz.prog 32 #[.pointer (some ⟨tb, 0, none⟩), .string ⟨s.toArray⟩] w fun e w' => e = .returned (.pointer (some ⟨b, 0, none⟩)) ∧ Below w.heap.size w w') := A0
    clear h A0 hk hs hb hc hbl
    go_enter Tryz.func80, Tryz.ntmps80
    go_wp2_with (first | (go_at_call 32; refine A1.out.mono ?_; rintro e w1 ⟨rfl, hB⟩; have HB1 := Lib.hid hB; clear hB) | (go_at_call 81; refine (HX.out _ HB1.out).mono ?_; rintro e w2 ⟨rfl, rfl⟩))
    go_ret2
    exact ⟨rfl, HB1.out⟩
theorem Unknown_any {w : World} {B tb m : Nat} {who : Own} {nd : Bs → Option Nat} {S : Bs → Option ND} (h : Tr w B tb m who nd S) (s : Bs) (hs : s.length ≤ 100000) {q : Int × Bs} (hq : (match S (canonN rootN s) with | none => ((8 : Int), ([] : Bs)) | some n => (0, n.unknown)) = q) : Calls Tryz.prog 53 #[.pointer (some ⟨tb, 0, none⟩), .string ⟨s.toArray⟩] w fun e w' => e = .returned (.tuple #[.string ⟨q.2.toArray⟩, .int .i64 q.1]) ∧ Below w.heap.size w w' := by
  have TO := Lib.hid (told_unk h s hs hq)
  obtain ⟨q1, q2⟩ := q
  clear h hs hq
  go_enter Tryz.func53, Tryz.ntmps53
  go_wp2_with (go_at_call 80; refine TO.out.mono ?_; rintro e w1 ⟨rfl, hB⟩; have HB1 := Lib.hid hB; clear hB)
  go_ret2
  exact ⟨rfl, HB1.out⟩
theorem exq_any {b : Nat} {x : Bs} (p : Bs) (W : World) (hc : W.cell? ⟨b, 0, none⟩ = some (.string ⟨x.toArray⟩)) (hp : p.length ≤ 1000000) (hx : x.length ≤ 1000000) : Calls Tryz.prog 77 #[.string ⟨p.toArray⟩, .pointer (some ⟨b, 0, none⟩)] W fun e w' => e = .returned (.bool (qB p x)) ∧ Below W.heap.size W w' := by
  have GK := Lib.hid (show Calls Tryz.prog 73 #[.string ⟨p.toArray⟩, .string ⟨x.toArray⟩, .bool false] W fun e w' => e = .returned (.bool (qB p x)) ∧ Below W.heap.size W w' from Glob_any p x false hp hx W)
  generalize qB p x = q at *
  go_enter Tryz.func77, Tryz.ntmps77
  go_wp2_with (go_at_call 73; refine GK.out.mono ?_; rintro e w1 ⟨rfl, hB⟩; have H1 := Lib.hid hB; clear hB)
  go_ret
  exact ⟨rfl, H1.out⟩
/-- What 'IndexFunc' tells. -/
def IxR (L : List Bs) (x : Bs) (e : Ending) : Prop := ∃ i : Int, e = .returned (.int .i64 i) ∧ ((0 ≤ i) ↔ expQ L x = true)
set_option maxRecDepth 100000 in
set_option maxHeartbeats 800000 in
theorem index_any {w : World} {v : Value} {L : List Bs} (hv : TxtRow w v L) (hn : L.length ≤ 1000000) (hp : ∀ p ∈ L, p.length ≤ 1000000) {b : Nat} {x : Bs} (hb : b < w.heap.size) (hc : w.cell? ⟨b, 0, none⟩ = some (.string ⟨x.toArray⟩)) (hx : x.length ≤ 1000000) :
    Calls Tryz.prog 103 #[v, .func (.func 77) #[] #[.pointer (some ⟨b, 0, none⟩)]] w fun e w' => IxR L x e ∧ Below w.heap.size w w' := by
  obtain ⟨o, c, rfl⟩ := hv.len
  have HGL : Hid (∀ W p, Below w.heap.size w W → p ∈ L → Calls Tryz.prog 77 #[.string ⟨p.toArray⟩, .pointer (some ⟨b, 0, none⟩)] W fun e w' => e = .returned (.bool (qB p x)) ∧ Below W.heap.size W w') := fun W p hB hm => exq_any p W ((hB.cell (p := ⟨b, 0, none⟩) hb).trans hc) (hp p hm) hx
  have H1 := Lib.hid hv
  obtain ⟨n, hn2⟩ : ∃ n, L.length = n := ⟨_, rfl⟩
  have HN := Lib.hid hn2
  rw [hn2] at H1 hn ⊢
  clear hv hp hn2 hc hb
  go_enter Tryz.func103, Tryz.ntmps103
  go_wp2_with fail
  go_loopw [8] (fun qv wr => ∃ i : Nat, i ≤ n ∧ qv = .int .i64 (i : Int) ∧ expQ (L.take i) x = false ∧ Below w.heap.size w wr) (fun q _ => n - (intOf q).toNat)
  case atStart => exact ⟨0, Nat.zero_le _, rfl, by simp [expQ], Below.refl _ _⟩
  case round =>
    obtain ⟨i, hi, rfl, hex, hB⟩ := hrel
    by_cases hlt : i < n
    · have hil : i < L.length := by have := HN.out; omega
      obtain ⟨g, off, rfl, hgl, hc⟩ := H1.out.at_.2.2.2 i hil
      have d0 := (hB.cell (p := ⟨g, off + i, none⟩) hgl).trans hc
      unfold sv at d0
      have GK := Lib.hid (fun W hb => HGL.out W L[i] hb (List.getElem_mem hil))
      have hx2 := exp_take hil x
      generalize L[i] = p at *
      have i1 : i < n := hlt
      have i2 : decide ((i : Int) < (n : Int)) = true := by rw [decide_eq_true_eq]; omega
      have hw1 : IntKind.i64.wrap ((i : Int) + 1) = (i : Int) + 1 := IntWalk.i64_in _ (by omega)
      have HI := Lib.hid (And.intro hlt (And.intro hex (And.intro hx2 (And.intro hB hil))))
      have HB := Lib.hid hB
      clear hi hlt hex hx2 hil hgl hc hB
      cases hq : qB p x with
      | true =>
        rw [hq] at GK HI
        clear hq
        go_wp2_with (go_at_call 77; refine (GK.out _ HB.out).mono ?_; rintro e w3 ⟨rfl, hB3⟩; have H3 := Lib.hid (HB.out.trans (hB3.mono HB.out.size)); clear hB3)
        go_ret
        refine ⟨⟨(i : Int), rfl, ⟨fun _ => ?_, fun _ => by omega⟩⟩, H3.out⟩
        have : expQ (L.take (i + 1)) x = true := by rw [HI.out.2.2.1]; simp
        unfold expQ at this ⊢
        rw [List.any_eq_true] at this ⊢
        obtain ⟨y, hy, hyq⟩ := this
        exact ⟨y, List.mem_of_mem_take hy, hyq⟩
      | false =>
        rw [hq] at GK HI
        clear hq
        go_wp2_with (go_at_call 77; refine (GK.out _ HB.out).mono ?_; rintro e w3 ⟨rfl, hB3⟩; have H3 := Lib.hid (HB.out.trans (hB3.mono HB.out.size)); clear hB3)
        exact ⟨⟨i + 1, by have := HI.out.1; omega, by go_num, by rw [HI.out.2.2.1, HI.out.2.1]; rfl, H3.out⟩, by have := HI.out.1; simp [intOf]; omega⟩
    · obtain rfl : i = n := by omega
      have i2 : decide ((i : Int) < (i : Int)) = false := by rw [decide_eq_false_iff_not]; omega
      rw [show L.take i = L from by rw [← HN.out, List.take_length]] at hex
      have HI := Lib.hid (And.intro hex hB)
      clear hi hlt hex hB
      go_wp2_with fail
      go_ret
      exact ⟨⟨-1, rfl, ⟨fun h => by omega, fun h => by rw [HI.out.1] at h; cases h⟩⟩, HI.out.2⟩
theorem containsF_any {w : World} {v : Value} {L : List Bs} (hv : TxtRow w v L) (hn : L.length ≤ 1000000) (hp : ∀ p ∈ L, p.length ≤ 1000000) {b : Nat} {x : Bs} (hb : b < w.heap.size) (hc : w.cell? ⟨b, 0, none⟩ = some (.string ⟨x.toArray⟩)) (hx : x.length ≤ 1000000) :
    Calls Tryz.prog 76 #[v, .func (.func 77) #[] #[.pointer (some ⟨b, 0, none⟩)]] w fun e w' => e = .returned (.bool (expQ L x)) ∧ Below w.heap.size w w' := by
  have IA := Lib.hid (index_any hv hn hp hb hc hx)
  obtain ⟨o, c, rfl⟩ := hv.len
  generalize L.length = n at *
  clear hv hp hb hc
  go_enter Tryz.func76, Tryz.ntmps76
  go_wp2_with (go_at_call 103; refine IA.out.mono ?_; rintro e w1 ⟨⟨i, rfl, hi⟩, hB⟩; have H1 := Lib.hid (And.intro hi hB); clear hi hB)
  go_ret
  refine ⟨ret_bool ?_, H1.out.2⟩
  have h1 := H1.out.1
  rw [Bool.eq_iff_iff, ← h1]
  simp
set_option maxHeartbeats 800000 in
theorem Exports_any {w : World} {B tb m : Nat} {who : Own} {nd : Bs → Option Nat} {S : Bs → Option ND} (h : Tr w B tb m who nd S) (s : Bs) (hs : s.length ≤ 100000) (x : Bs) (hx : x.length ≤ 1000000) {L : List Bs} (hL : (match S (canonN rootN s) with | none => ([] : List Bs) | some n => n.exports) = L) (hn : L.length ≤ 1000000) (hp : ∀ p ∈ L, p.length ≤ 1000000) : Calls Tryz.prog 47 #[.pointer (some ⟨tb, 0, none⟩), .string ⟨s.toArray⟩, .string ⟨x.toArray⟩] w fun e w' => e = .returned (.bool (expQ L x)) ∧ Below w.heap.size w w' := by
  have hmf : ∀ (fn : Fn) (first cap : Array Value) (w : World), (Instr.makeFunc fn first cap).run Tryz.prog w = .ok (.func fn first cap) w := fun _ _ _ _ => rfl
  have hB0 : Below w.heap.size w (w.alloc (.cells #[.string ⟨x.toArray⟩] 9)) := (Below.refl _ w).alloc (Nat.le_refl _) _
  have PT : Hid (Calls Tryz.prog 50 #[.pointer (some ⟨tb, 0, none⟩), .string ⟨s.toArray⟩] (w.alloc (.cells #[.string ⟨x.toArray⟩] 9)) fun e w' => ∃ o c r, e = .returned (.tuple #[.slice o L.length c, .int .i64 r]) ∧ TxtRow w' (.slice o L.length c) L ∧ Below (w.alloc (.cells #[.string ⟨x.toArray⟩] 9)).heap.size (w.alloc (.cells #[.string ⟨x.toArray⟩] 9)) w') := by
    cases hk : S (canonN rootN s) with
    | none =>
      rw [hk] at hL
      subst hL
      exact (Patterns_none (h.low hB0) s hs hk).mono fun e w' ⟨he, hb⟩ => ⟨none, 0, 8, he, TxtRow.nil _, hb⟩
    | some n =>
      rw [hk] at hL
      subst hL
      exact (Patterns_any (h.low hB0) s hs hk hn).mono fun e w' ⟨o, c, he, ho, hb⟩ => ⟨o, c, 0, he, TxtRow.of_owns ho, hb⟩
  have CT : Hid (∀ W v, TxtRow W v L → Below (w.alloc (.cells #[.string ⟨x.toArray⟩] 9)).heap.size (w.alloc (.cells #[.string ⟨x.toArray⟩] 9)) W → Calls Tryz.prog 76 #[v, .func (.func 77) #[] #[.pointer (some ⟨w.heap.size, 0, none⟩)]] W fun e w' => e = .returned (.bool (expQ L x)) ∧ Below W.heap.size W w') := fun W v hv hb =>
    containsF_any hv hn hp (by have := hb.size; simp at this; omega) ((hb.cell (p := ⟨w.heap.size, 0, none⟩) (by simp)).trans (Boxed.new w 9 (.string ⟨x.toArray⟩)).cell) hx
  generalize L.length = n at *
  have HB0 := Lib.hid hB0
  clear h hs hL hp hB0
  go_enter Tryz.func47, Tryz.ntmps47
  go_wp2_with (first
    | (go_at_call 50; refine PT.out.mono ?_; rintro e w1 ⟨o, c, r, rfl, ht, hB⟩; have H1 := Lib.hid (And.intro ht hB); clear ht hB)
    | (go_at_call 76; refine (CT.out _ _ H1.out.1 H1.out.2).mono ?_; rintro e w2 ⟨rfl, hB⟩; have H2 := Lib.hid (HB0.out.trans ((H1.out.2.trans (hB.mono H1.out.2.size)).mono HB0.out.size)); clear hB))
  go_ret
  exact ⟨rfl, H2.out⟩
theorem Children_none {w : World} {B tb m : Nat} {who : Own} {nd : Bs → Option Nat} {S : Bs → Option ND} (h : Tr w B tb m who nd S) (s : Bs) (hs : s.length ≤ 100000) (pat : Bs) (hk : S (canonN rootN s) = none) : Calls Tryz.prog 43 #[.pointer (some ⟨tb, 0, none⟩), .string ⟨s.toArray⟩, .string ⟨pat.toArray⟩] w fun e w' => e = .returned (.tuple #[.slice none 0 0, .int .i64 8]) ∧ Below w.heap.size w w' := by
  have hB0 : Below w.heap.size w ((w.alloc (.cells #[.string ⟨s.toArray⟩] 9)).alloc (.cells #[.string ⟨pat.toArray⟩] 9)) := ((Below.refl _ w).alloc (Nat.le_refl _) _).alloc (by simp) _
  have A0 := at_any (h.low hB0).tree s hs
  rw [h.of_none hk] at A0
  have A1 : Hid (Calls Tryz.prog 32 #[.pointer (some ⟨tb, 0, none⟩), .string ⟨s.toArray⟩] ((w.alloc (.cells #[.string ⟨s.toArray⟩] 9)).alloc (.cells #[.string ⟨pat.toArray⟩] 9)) fun e w' => e = .returned (.pointer none) ∧ Below ((w.alloc (.cells #[.string ⟨s.toArray⟩] 9)).alloc (.cells #[.string ⟨pat.toArray⟩] 9)).heap.size ((w.alloc (.cells #[.string ⟨s.toArray⟩] 9)).alloc (.cells #[.string ⟨pat.toArray⟩] 9)) w') := A0
  have HB0 := Lib.hid hB0
  clear h A0 hk hs hB0
  go_enter Tryz.func43, Tryz.ntmps43
  go_wp2_with (go_at_call 32; refine A1.out.mono ?_; rintro e w1 ⟨rfl, hB⟩; have HB1 := Lib.hid (HB0.out.trans (hB.mono HB0.out.size)); clear hB)
  go_ret2
  exact ⟨rfl, HB1.out⟩
end Go.Proofs.YtjgdfgpnmmkjfaaGreatDoor
