/- For 'play' with a tree of the reference just made: Same of any two rows; the reference's 'Delete' there; 'Search' of a tree. -/
import Derived.Test.YtjgdfgpnmmkjfaaGreatDoorNREx
import Derived.Test.YtjgdfgpnmmkjfaaGreatDoorNDel
import Derived.Test.YtjgdfgpnmmkjfaaGreatDoorNAwake
namespace Go.Proofs.YtjgdfgpnmmkjfaaGreatDoor
set_option linter.unusedVariables false
set_option linter.unusedSimpArgs false
open Go.RowKit Go.MapKept

def ABool (e : Ending) : Prop := ∃ b, e = .returned (.bool b)
set_option maxRecDepth 100000 in
set_option maxHeartbeats 1600000 in
theorem same_any {va vb : Value} {A B : List Bs} (w : World) (ha : TxtRow w va A) (hb : TxtRow w vb B) :
    Calls Tryz.prog 16 #[va, vb] w fun e w' => ABool e ∧ Below w.heap.size w w' := by
  obtain ⟨oa, ca, rfl, _⟩ := id ha
  obtain ⟨ob, cb, rfl, _⟩ := id hb
  obtain ⟨hz1, ha1, ha2, ha3⟩ := ha.at_
  obtain ⟨hz2, hb1, hb2, hb3⟩ := hb.at_
  unfold maxLen at ha2 hb2
  have HA := Lib.hid ha3
  have HB := Lib.hid hb3
  obtain ⟨n, hn⟩ : ∃ n, A.length = n := ⟨_, rfl⟩
  obtain ⟨m, hm⟩ : ∃ m, B.length = m := ⟨_, rfl⟩
  have HN := Lib.hid (And.intro hn hm)
  rw [hn] at ha1 ⊢
  rw [hm] at hb1 ⊢
  clear ha hb ha3 hb3 hn hm hz1 hz2
  by_cases hnm : n = m
  · subst hnm
    have t1 : ((n : Int) == (n : Int)) = true := by simp
    go_enter Tryz.func16, Tryz.ntmps16
    go_wp2_with fail
    go_loopg [5, 13] n (fun g _ i wr => ∃ k : Nat, k + g = n ∧ i = .int .i64 (k : Int) ∧ Below w.heap.size w wr)
    case atStart => exact ⟨0, by omega, rfl, Below.refl _ _⟩
    case round =>
      obtain ⟨k, hkg, rfl, hb⟩ := hrel
      have hn := HN.out
      by_cases hlt : k < n
      · obtain ⟨ga, fa, rfl, hla, hca⟩ := HA.out k (by omega)
        obtain ⟨gb, fb, rfl, hlb, hcb⟩ := HB.out k (by omega)
        have hcx : wr.cell? ⟨ga, fa + k, none⟩ = some (sv (A[k]'(by omega))) := (hb.cell (p := ⟨ga, fa + k, none⟩) hla).trans hca
        have hcy : wr.cell? ⟨gb, fb + k, none⟩ = some (sv (B[k]'(by omega))) := (hb.cell (p := ⟨gb, fb + k, none⟩) hlb).trans hcb
        generalize A[k]'(by omega) = x at *
        generalize B[k]'(by omega) = y at *
        have cx : wr.cell? ⟨ga, fa + k, none⟩ = some (.string ⟨x.toArray⟩) := hcx
        have cy : wr.cell? ⟨gb, fb + k, none⟩ = some (.string ⟨y.toArray⟩) := hcy
        have i1 : k < n := hlt
        have t0 : decide ((k : Int) < (n : Int)) = true := by rw [decide_eq_true_eq]; omega
        have HJ := Lib.hid (And.intro hkg hlt)
        have HW := Lib.hid hb
        clear hkg hn hlt hca hcb hcx hcy hb
        by_cases hxy : x = y
        · subst hxy
          go_wp2_with fail
          go_quiet (fail)
          go_wp2
          go_roundg (gk - 1)
          case measure => have := HJ.out; omega
          case rel => exact ⟨k + 1, by have := HJ.out; omega, by go_num, below_drewN HW.out nq⟩
        · have e1 : (x == y) = false := beq_eq_false_iff_ne.2 hxy
          have e2 : (⟨x.toArray⟩ : ByteArray) ≠ ⟨y.toArray⟩ := fun e => hxy (by simpa using e)
          clear hxy
          go_wp2_with fail
          go_quiet (fail)
          go_wp2
          go_ret
          exact ⟨⟨_, rfl⟩, below_drewN HW.out nq⟩
      · obtain rfl : k = n := by omega
        have t0 : decide ((k : Int) < (k : Int)) = false := by rw [decide_eq_false_iff_not]; omega
        clear hkg hn hlt
        go_wp2_with fail
        go_ret
        exact ⟨⟨_, rfl⟩, hb⟩
  · have t1 : ((n : Int) == (m : Int)) = false := by rw [beq_eq_false_iff_ne]; omega
    clear hnm
    go_enter Tryz.func16, Tryz.ntmps16
    go_wp2_with fail
    go_ret
    exact ⟨⟨_, rfl⟩, Below.refl _ _⟩
theorem rSorted_nil (w : World) : Calls Tryz.prog 60 #[.slice none 0 0] w fun e w' => e = .returned (.slice none 0 0) ∧ w = w' := by
  go_enter Tryz.func60, Tryz.ntmps60
  go_wp2_with fail
  go_loopw [8, 3] (fun q o wr => q = .int .i64 0 ∧ o = .slice none 0 0 ∧ w = wr) (fun _ _ _ => 0)
  case atStart => exact ⟨rfl, rfl, rfl⟩
  case round =>
    obtain ⟨rfl, rfl, rfl⟩ := hrel
    go_wp2_with fail
    go_ret
    exact ⟨rfl, rfl⟩
set_option maxRecDepth 100000 in
set_option maxHeartbeats 800000 in
theorem rbelow_root (w : World) : Calls Tryz.prog 59 #[.string ⟨#[58, 58]⟩, .string ⟨#[58, 58]⟩] w fun e w' => e = .returned (.bool true) ∧ Below w.heap.size w w' := by
  have PA : Hid (∀ W, Calls Tryz.prog 55 #[.string ⟨#[58, 58]⟩] W fun e w' => ∃ o c, e = .returned (.slice o 0 c) ∧ TxtRow w' (.slice o 0 c) [] ∧ Below W.heap.size W w') := fun W => (rParts_any rootN (by decide) W).mono fun e w' ⟨r, he, ho, hB⟩ => by
    rw [parts_root] at ho
    obtain ⟨o, c, rfl⟩ := owns_slice ho
    exact ⟨o, c, he, TxtRow.of_owns (ss := []) ho, hB⟩
  have OF : Hid (∀ W v, TxtRow W v [] → Calls Tryz.prog 57 #[v] W fun e w' => e = .returned (.string ⟨(canN []).toArray⟩) ∧ Below W.heap.size W w') := fun W v hv => of_any [] v W hv (by simp [wN])
  generalize canN [] = q at *
  have B0 : Hid (Below w.heap.size w w) := Below.refl _ _
  have tok : True := trivial
  have tok2 : True := trivial
  go_enter Tryz.func59, Tryz.ntmps59
  go_wp2_with (first | (go_at_call 55; have _t := tok; refine (PA.out _).mono ?_; rintro e w1 ⟨o1, c1, rfl, ht, hB⟩; have H1 := Lib.hid (And.intro ht hB); clear ht hB tok _t) | (go_at_call 55; refine (PA.out _).mono ?_; rintro e w2 ⟨o2, c2, rfl, ht, hB⟩; have H2 := Lib.hid (And.intro (H1.out.1.below hB) (And.intro ht (H1.out.2.trans (hB.mono H1.out.2.size)))); clear ht hB) | (go_at_call 57; have _t := tok2; refine (OF.out _ _ (by exact H2.out.1)).mono ?_; rintro e w3 ⟨rfl, hB⟩; have H3 := Lib.hid (And.intro (H2.out.2.1.below hB) (H2.out.2.2.trans (hB.mono H2.out.2.2.size))); clear hB tok2 _t) | (go_at_call 57; refine (OF.out _ _ (by exact H3.out.1)).mono ?_; rintro e w4 ⟨rfl, hB⟩; have H4 := Lib.hid (H3.out.2.trans (hB.mono H3.out.2.size)); clear hB))
  go_ret
  exact ⟨rfl, H4.out⟩
set_option maxRecDepth 100000 in
set_option maxHeartbeats 1600000 in
theorem rDelete_new {w : World} {B yb : Nat} {who : Own} {nd : Bs → Option Nat} (h : RTr w B yb who nd newS [rootN]) (path : Bs) (hp : path.length ≤ 20000) :
    Calls Tryz.prog 25 #[.pointer (some ⟨yb, 0, none⟩), .string ⟨path.toArray⟩] w fun e w' => ∃ c, e = .returned (.tuple #[.slice none 0 0, .int .i64 c]) ∧ Fr who w w' := by
  have A0 := rat_any h (by decide) path (by omega)
  by_cases hk : canonN rootN path = rootN
  · obtain ⟨b, n, hnd, hS, hNA⟩ := h.of_mem (k := rootN) (by simp)
    rw [hk, hnd] at A0
    have A1 : Hid (Calls Tryz.prog 56 #[.pointer (some ⟨yb, 0, none⟩), .string ⟨path.toArray⟩] w fun e w' => e = .returned (.pointer (some ⟨b, 0, none⟩)) ∧ Below w.heap.size w w') := A0
    have CA : Hid (∀ W, Calls Tryz.prog 58 #[.string ⟨#[58, 58]⟩, .string ⟨path.toArray⟩] W fun e w' => e = .returned (.string ⟨#[58, 58]⟩) ∧ Below W.heap.size W w') := fun W => by
      have := rCanonical_any rootN path (by decide) (by omega) W
      rw [hk] at this
      exact this
    obtain ⟨lo, lc, hcl, hown, htag⟩ := h.lvOf
    rcases hown.2 with ⟨_, h0⟩ | ⟨g, cap, cur, e1, hg1, hg2, hg3, hg4, hg5, hg6⟩
    · simp at h0
    cases e1
    obtain ⟨_, vs, ve, hcn, _⟩ := hNA
    have HC : Hid (∀ W, Below w.heap.size w W → W.cell? ⟨yb, 0, none⟩ = some (.slice (some ⟨g, 0, none⟩) 1 lc) ∧ W.frozen? ⟨yb, 0, none⟩ = false ∧ W.cell? ⟨g, 0, none⟩ = some (.pointer (some ⟨b, 0, none⟩)) ∧ W.cell? ⟨b, 0, none⟩ = some (.string ⟨#[58, 58]⟩)) := fun W hb => by
      have c1 := vcells1 ((hb.block yb h.lt).trans hcl)
      refine ⟨c1.1, c1.2 0, ?_, (vcells4 ((hb.block b (Array.getElem?_eq_some_iff.1 hcn).1).trans hcn)).1⟩
      have hj : ([rootN].map fun p => ptrN (nd p))[0]? = some (.pointer (some ⟨b, 0, none⟩)) := by simp [hnd, ptrN]
      rw [← hg6, List.getElem?_take, if_pos (by simp)] at hj
      have hgw := (hb.block g (Array.getElem?_eq_some_iff.1 hg2).1).trans hg2
      simp only [World.cell?, hgw]
      simpa using hj
    have BE := Lib.hid (fun W => rbelow_root W)
    have SO := Lib.hid (fun W => rSorted_nil W)
    have hlc : 1 ≤ lc := by simpa using hg3
    have HY := Lib.hid (And.intro h.wyb h.lt)
    clear h A0 hk hnd hS hcl hown htag hg1 hg2 hg3 hg4 hg5 hg6 hcn hp
    go_enter Tryz.func25, Tryz.ntmps25
    go_wp2_with (first | (go_at_call 56; refine A1.out.mono ?_; rintro e w1 ⟨rfl, hB⟩; have HB1 := Lib.hid hB; clear hB) | (go_at_call 58; refine (CA.out _).mono ?_; rintro e w2 ⟨rfl, hB⟩; have hb2 := HB1.out.trans (hB.mono HB1.out.size); have HB2 := Lib.hid hb2; obtain ⟨d0, _, d1, d2⟩ := HC.out _ hb2; clear hB hb2))
    go_loopw [22, 7, 8] (fun q z o wr => z = .slice none 0 0 ∧ Below w.heap.size w wr ∧ ((q = .int .i64 0 ∧ o = .slice none 0 0) ∨ (q = .int .i64 1 ∧ ∃ g c, o = .slice (some ⟨g, 0, none⟩) 1 c))) (fun q _ _ _ => 1 - (intOf q).toNat)
    case atStart => exact ⟨rfl, HB2.out, .inl ⟨rfl, rfl⟩⟩
    case round =>
      obtain ⟨rfl, hB, hcase⟩ := hrel
      clear d0 d1 d2
      obtain ⟨d0, df, d1, d2⟩ := HC.out _ hB
      have HB := Lib.hid hB
      rcases hcase with ⟨rfl, rfl⟩ | ⟨rfl, g5, c5, rfl⟩
      · clear hB
        go_wp2_with (first | (go_at_call 59; refine (BE.out _).mono ?_; rintro e w3 ⟨rfl, hB⟩; have hb3 := HB.out.trans (hB.mono HB.out.size); have HB3 := Lib.hid hb3; obtain ⟨d0', df', d1', d2'⟩ := HC.out _ hb3; clear hB hb3) | (at_builtin; go_loud (refine wpList_push1 rfl (.tmp 51) (.tmp 54) 58 rfl w.heap.size 55 (.pointer none) 8 Tryz.underlying58 infoSp rfl (.slice none 0 0) 0 [] rfl ⟨rfl, .inl ⟨rfl, rfl⟩⟩ (.pointer (some ⟨w3.heap.size, 0, none⟩)) (w3.heap.size + 1) (by simp) rfl rfl (by unfold maxLen; decide) (by decide) (by have := HB3.out.size; simp; omega) ?_); intro g1 c1 w4 hg4 hown4 hb4 hloc; have HB4 := Lib.hid ((HB3.out.alloc HB3.out.size (rnode rootN)).trans (hb4.below (by have := HB3.out.size; simp; omega) (fun d hd => by simp [Value.ownBlock] at hd))); clear hg4 hown4 hb4 hloc))
        exact ⟨⟨rfl, HB4.out, .inr ⟨rfl, g1, c1, rfl⟩⟩, by simp [intOf]⟩
      · clear hB
        go_wp2_with (go_at_call 60; refine (SO.out _).mono ?_; rintro e w6 ⟨rfl, rfl⟩)
        go_ret2
        refine ⟨_, rfl, ?_⟩
        have hb := HB.out
        refine ⟨hb.os, hb.tape, hb.output, by simpa [World.setCell] using hb.size, fun j hj hn => ?_⟩
        exact (Below.heap_setCell wr ⟨yb, 0, none⟩ _ j (by rintro rfl; rw [HY.out.1] at hn; cases hn)).trans (hb.block j hj)
  · have hnd : nd (canonN rootN path) = none := by
      have h1 := h.same (canonN rootN path)
      unfold newS at h1
      rw [if_neg hk] at h1
      cases hx : nd (canonN rootN path) with
      | none => rfl
      | some x => rw [hx] at h1; simp at h1
    rw [hnd] at A0
    have A1 : Hid (Calls Tryz.prog 56 #[.pointer (some ⟨yb, 0, none⟩), .string ⟨path.toArray⟩] w fun e w' => e = .returned (.pointer none) ∧ Below w.heap.size w w') := A0
    clear h A0 hk hnd hp
    go_enter Tryz.func25, Tryz.ntmps25
    go_wp2_with (go_at_call 56; refine A1.out.mono ?_; rintro e w1 ⟨rfl, hB⟩; have HB1 := Lib.hid hB; clear hB)
    go_ret2
    exact ⟨8, rfl, (Stp.of_below HB1.out).fr⟩
end Go.Proofs.YtjgdfgpnmmkjfaaGreatDoor
