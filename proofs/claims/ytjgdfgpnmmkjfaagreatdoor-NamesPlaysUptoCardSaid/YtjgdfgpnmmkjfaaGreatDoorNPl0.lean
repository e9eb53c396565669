/- For 'play' with a tree of the reference just made: Same of any two rows; the reference's 'Delete' there; 'Search' of a tree. 'light' of the statements on layer 16, over acts whose sum is bounded. -/
import Derived.Test.YtjgdfgpnmmkjfaaGreatDoorNRMk
import Derived.Test.YtjgdfgpnmmkjfaaGreatDoorNDel
import Derived.Test.YtjgdfgpnmmkjfaaGreatDoorNAwake
namespace Go.Proofs.YtjgdfgpnmmkjfaaGreatDoor
set_option linter.unusedVariables false
set_option linter.unusedSimpArgs false
open Go.RowKit Go.MapKept

def ABool (e : Ending) : Prop := ∃ b, e = .returned (.bool b)
set_option maxRecDepth 100000 in
set_option maxHeartbeats 1600000 in
theorem same_any {va vb : Value} {A B : List Bs} (w : World) (ha : TxtRow w va A) (hb : TxtRow w vb B) :
    Calls Tryz.prog 16 #[va, vb] w fun e w' => ABool e ∧ Below w.heap.size w w' := by
  obtain ⟨oa, ca, rfl, _⟩ := id ha
  obtain ⟨ob, cb, rfl, _⟩ := id hb
  obtain ⟨hz1, ha1, ha2, ha3⟩ := ha.at_
  obtain ⟨hz2, hb1, hb2, hb3⟩ := hb.at_
  unfold maxLen at ha2 hb2
  have HA := Lib.hid ha3
  have HB := Lib.hid hb3
  obtain ⟨n, hn⟩ : ∃ n, A.length = n := ⟨_, rfl⟩
  obtain ⟨m, hm⟩ : ∃ m, B.length = m := ⟨_, rfl⟩
  have HN := Lib.hid (And.intro hn hm)
  rw [hn] at ha1 ⊢
  rw [hm] at hb1 ⊢
  clear ha hb ha3 hb3 hn hm hz1 hz2
  by_cases hnm : n = m
  · subst hnm
    have t1 : ((n : Int) == (n : Int)) = true := by simp
    go_enter Tryz.func16, Tryz.ntmps16
    go_wp2_with fail
    go_loopg [5, 13] n (fun g _ i wr => ∃ k : Nat, k + g = n ∧ i = .int .i64 (k : Int) ∧ Below w.heap.size w wr)
    case atStart => exact ⟨0, by omega, rfl, Below.refl _ _⟩
    case round =>
      obtain ⟨k, hkg, rfl, hb⟩ := hrel
      have hn := HN.out
      by_cases hlt : k < n
      · obtain ⟨ga, fa, rfl, hla, hca⟩ := HA.out k (by omega)
        obtain ⟨gb, fb, rfl, hlb, hcb⟩ := HB.out k (by omega)
        have hcx : wr.cell? ⟨ga, fa + k, none⟩ = some (sv (A[k]'(by omega))) := (hb.cell (p := ⟨ga, fa + k, none⟩) hla).trans hca
        have hcy : wr.cell? ⟨gb, fb + k, none⟩ = some (sv (B[k]'(by omega))) := (hb.cell (p := ⟨gb, fb + k, none⟩) hlb).trans hcb
        generalize A[k]'(by omega) = x at *
        generalize B[k]'(by omega) = y at *
        have cx : wr.cell? ⟨ga, fa + k, none⟩ = some (.string ⟨x.toArray⟩) := hcx
        have cy : wr.cell? ⟨gb, fb + k, none⟩ = some (.string ⟨y.toArray⟩) := hcy
        have i1 : k < n := hlt
        have t0 : decide ((k : Int) < (n : Int)) = true := by rw [decide_eq_true_eq]; omega
        have HJ := Lib.hid (And.intro hkg hlt)
        have HW := Lib.hid hb
        clear hkg hn hlt hca hcb hcx hcy hb
        by_cases hxy : x = y
        · subst hxy
          go_wp2_with fail
          go_quiet (fail)
          go_wp2
          go_roundg (gk - 1)
          case measure => have := HJ.out; omega
          case rel => exact ⟨k + 1, by have := HJ.out; omega, by go_num, below_drewN HW.out nq⟩
        · have e1 : (x == y) = false := beq_eq_false_iff_ne.2 hxy
          have e2 : (⟨x.toArray⟩ : ByteArray) ≠ ⟨y.toArray⟩ := fun e => hxy (by simpa using e)
          clear hxy
          go_wp2_with fail
          go_quiet (fail)
          go_wp2
          go_ret
          exact ⟨⟨_, rfl⟩, below_drewN HW.out nq⟩
      · obtain rfl : k = n := by omega
        have t0 : decide ((k : Int) < (k : Int)) = false := by rw [decide_eq_false_iff_not]; omega
        clear hkg hn hlt
        go_wp2_with fail
        go_ret
        exact ⟨⟨_, rfl⟩, hb⟩
  · have t1 : ((n : Int) == (m : Int)) = false := by rw [beq_eq_false_iff_ne]; omega
    clear hnm
    go_enter Tryz.func16, Tryz.ntmps16
    go_wp2_with fail
    go_ret
    exact ⟨⟨_, rfl⟩, Below.refl _ _⟩
theorem rSorted_nil (w : World) : Calls Tryz.prog 60 #[.slice none 0 0] w fun e w' => e = .returned (.slice none 0 0) ∧ w = w' := by
  go_enter Tryz.func60, Tryz.ntmps60
  go_wp2_with fail
  go_loopw [8, 3] (fun q o wr => q = .int .i64 0 ∧ o = .slice none 0 0 ∧ w = wr) (fun _ _ _ => 0)
  case atStart => exact ⟨rfl, rfl, rfl⟩
  case round =>
    obtain ⟨rfl, rfl, rfl⟩ := hrel
    go_wp2_with fail
    go_ret
    exact ⟨rfl, rfl⟩
set_option maxRecDepth 100000 in
set_option maxHeartbeats 800000 in
theorem rbelow_root (w : World) : Calls Tryz.prog 59 #[.string ⟨#[58, 58]⟩, .string ⟨#[58, 58]⟩] w fun e w' => e = .returned (.bool true) ∧ Below w.heap.size w w' := by
  have PA : Hid (∀ W, Calls Tryz.prog 55 #[.string ⟨#[58, 58]⟩] W fun e w' => ∃ o c, e = .returned (.slice o 0 c) ∧ TxtRow w' (.slice o 0 c) [] ∧ Below W.heap.size W w') := fun W => (rParts_any rootN (by decide) W).mono fun e w' ⟨r, he, ho, hB⟩ => by
    rw [parts_root] at ho
    obtain ⟨o, c, rfl⟩ := owns_slice ho
    exact ⟨o, c, he, TxtRow.of_owns (ss := []) ho, hB⟩
  have OF : Hid (∀ W v, TxtRow W v [] → Calls Tryz.prog 57 #[v] W fun e w' => e = .returned (.string ⟨(canN []).toArray⟩) ∧ Below W.heap.size W w') := fun W v hv => of_any [] v W hv (by simp [wN])
  generalize canN [] = q at *
  have B0 : Hid (Below w.heap.size w w) := Below.refl _ _
  have tok : True := trivial
  have tok2 : True := trivial
  go_enter Tryz.func59, Tryz.ntmps59
  go_wp2_with (first | (go_at_call 55; have _t := tok; refine (PA.out _).mono ?_; rintro e w1 ⟨o1, c1, rfl, ht, hB⟩; have H1 := Lib.hid (And.intro ht hB); clear ht hB tok _t) | (go_at_call 55; refine (PA.out _).mono ?_; rintro e w2 ⟨o2, c2, rfl, ht, hB⟩; have H2 := Lib.hid (And.intro (H1.out.1.below hB) (And.intro ht (H1.out.2.trans (hB.mono H1.out.2.size)))); clear ht hB) | (go_at_call 57; have _t := tok2; refine (OF.out _ _ (by exact H2.out.1)).mono ?_; rintro e w3 ⟨rfl, hB⟩; have H3 := Lib.hid (And.intro (H2.out.2.1.below hB) (H2.out.2.2.trans (hB.mono H2.out.2.2.size))); clear hB tok2 _t) | (go_at_call 57; refine (OF.out _ _ (by exact H3.out.1)).mono ?_; rintro e w4 ⟨rfl, hB⟩; have H4 := Lib.hid (H3.out.2.trans (hB.mono H3.out.2.size)); clear hB))
  go_ret
  exact ⟨rfl, H4.out⟩
set_option maxRecDepth 100000 in
set_option maxHeartbeats 1600000 in
theorem rDelete_new {w : World} {B yb : Nat} {who : Own} {nd : Bs → Option Nat} (h : RTr w B yb who nd newS [rootN]) (path : Bs) (hp : path.length ≤ 20000) :
    Calls Tryz.prog 25 #[.pointer (some ⟨yb, 0, none⟩), .string ⟨path.toArray⟩] w fun e w' => ∃ c, e = .returned (.tuple #[.slice none 0 0, .int .i64 c]) ∧ Fr who w w' := by
  have A0 := rat_any h (by decide) path (by omega)
  by_cases hk : canonN rootN path = rootN
  · obtain ⟨b, n, hnd, hS, hNA⟩ := h.of_mem (k := rootN) (by simp)
    rw [hk, hnd] at A0
    have A1 : Hid (Calls Tryz.prog 56 #[.pointer (some ⟨yb, 0, none⟩), .string ⟨path.toArray⟩] w fun e w' => e = .returned (.pointer (some ⟨b, 0, none⟩)) ∧ Below w.heap.size w w') := A0
    have CA : Hid (∀ W, Calls Tryz.prog 58 #[.string ⟨#[58, 58]⟩, .string ⟨path.toArray⟩] W fun e w' => e = .returned (.string ⟨#[58, 58]⟩) ∧ Below W.heap.size W w') := fun W => by
      have := rCanonical_any rootN path (by decide) (by omega) W
      rw [hk] at this
      exact this
    obtain ⟨lo, lc, hcl, hown, htag⟩ := h.lvOf
    rcases hown.2 with ⟨_, h0⟩ | ⟨g, cap, cur, e1, hg1, hg2, hg3, hg4, hg5, hg6⟩
    · simp at h0
    cases e1
    obtain ⟨_, vs, ve, hcn, _⟩ := hNA
    have HC : Hid (∀ W, Below w.heap.size w W → W.cell? ⟨yb, 0, none⟩ = some (.slice (some ⟨g, 0, none⟩) 1 lc) ∧ W.frozen? ⟨yb, 0, none⟩ = false ∧ W.cell? ⟨g, 0, none⟩ = some (.pointer (some ⟨b, 0, none⟩)) ∧ W.cell? ⟨b, 0, none⟩ = some (.string ⟨#[58, 58]⟩)) := fun W hb => by
      have c1 := vcells1 ((hb.block yb h.lt).trans hcl)
      refine ⟨c1.1, c1.2 0, ?_, (vcells4 ((hb.block b (Array.getElem?_eq_some_iff.1 hcn).1).trans hcn)).1⟩
      have hj : ([rootN].map fun p => ptrN (nd p))[0]? = some (.pointer (some ⟨b, 0, none⟩)) := by simp [hnd, ptrN]
      rw [← hg6, List.getElem?_take, if_pos (by simp)] at hj
      have hgw := (hb.block g (Array.getElem?_eq_some_iff.1 hg2).1).trans hg2
      simp only [World.cell?, hgw]
      simpa using hj
    have BE := Lib.hid (fun W => rbelow_root W)
    have SO := Lib.hid (fun W => rSorted_nil W)
    have hlc : 1 ≤ lc := by simpa using hg3
    have HY := Lib.hid (And.intro h.wyb h.lt)
    clear h A0 hk hnd hS hcl hown htag hg1 hg2 hg3 hg4 hg5 hg6 hcn hp
    go_enter Tryz.func25, Tryz.ntmps25
    go_wp2_with (first | (go_at_call 56; refine A1.out.mono ?_; rintro e w1 ⟨rfl, hB⟩; have HB1 := Lib.hid hB; clear hB) | (go_at_call 58; refine (CA.out _).mono ?_; rintro e w2 ⟨rfl, hB⟩; have hb2 := HB1.out.trans (hB.mono HB1.out.size); have HB2 := Lib.hid hb2; obtain ⟨d0, _, d1, d2⟩ := HC.out _ hb2; clear hB hb2))
    go_loopw [22, 7, 8] (fun q z o wr => z = .slice none 0 0 ∧ Below w.heap.size w wr ∧ ((q = .int .i64 0 ∧ o = .slice none 0 0) ∨ (q = .int .i64 1 ∧ ∃ g c, o = .slice (some ⟨g, 0, none⟩) 1 c))) (fun q _ _ _ => 1 - (intOf q).toNat)
    case atStart => exact ⟨rfl, HB2.out, .inl ⟨rfl, rfl⟩⟩
    case round =>
      obtain ⟨rfl, hB, hcase⟩ := hrel
      clear d0 d1 d2
      obtain ⟨d0, df, d1, d2⟩ := HC.out _ hB
      have HB := Lib.hid hB
      rcases hcase with ⟨rfl, rfl⟩ | ⟨rfl, g5, c5, rfl⟩
      · clear hB
        go_wp2_with (first | (go_at_call 59; refine (BE.out _).mono ?_; rintro e w3 ⟨rfl, hB⟩; have hb3 := HB.out.trans (hB.mono HB.out.size); have HB3 := Lib.hid hb3; obtain ⟨d0', df', d1', d2'⟩ := HC.out _ hb3; clear hB hb3) | (at_builtin; go_loud (refine wpList_push1 rfl (.tmp 51) (.tmp 54) 58 rfl w.heap.size 55 (.pointer none) 8 Tryz.underlying58 infoSp rfl (.slice none 0 0) 0 [] rfl ⟨rfl, .inl ⟨rfl, rfl⟩⟩ (.pointer (some ⟨w3.heap.size, 0, none⟩)) (w3.heap.size + 1) (by simp) rfl rfl (by unfold maxLen; decide) (by decide) (by have := HB3.out.size; simp; omega) ?_); intro g1 c1 w4 hg4 hown4 hb4 hloc; have HB4 := Lib.hid ((HB3.out.alloc HB3.out.size (rnode rootN)).trans (hb4.below (by have := HB3.out.size; simp; omega) (fun d hd => by simp [Value.ownBlock] at hd))); clear hg4 hown4 hb4 hloc))
        exact ⟨⟨rfl, HB4.out, .inr ⟨rfl, g1, c1, rfl⟩⟩, by simp [intOf]⟩
      · clear hB
        go_wp2_with (go_at_call 60; refine (SO.out _).mono ?_; rintro e w6 ⟨rfl, rfl⟩)
        go_ret2
        refine ⟨_, rfl, ?_⟩
        have hb := HB.out
        refine ⟨hb.os, hb.tape, hb.output, by simpa [World.setCell] using hb.size, fun j hj hn => ?_⟩
        exact (Below.heap_setCell wr ⟨yb, 0, none⟩ _ j (by rintro rfl; rw [HY.out.1] at hn; cases hn)).trans (hb.block j hj)
  · have hnd : nd (canonN rootN path) = none := by
      have h1 := h.same (canonN rootN path)
      unfold newS at h1
      rw [if_neg hk] at h1
      cases hx : nd (canonN rootN path) with
      | none => rfl
      | some x => rw [hx] at h1; simp at h1
    rw [hnd] at A0
    have A1 : Hid (Calls Tryz.prog 56 #[.pointer (some ⟨yb, 0, none⟩), .string ⟨path.toArray⟩] w fun e w' => e = .returned (.pointer none) ∧ Below w.heap.size w w') := A0
    clear h A0 hk hnd hp
    go_enter Tryz.func25, Tryz.ntmps25
    go_wp2_with (go_at_call 56; refine A1.out.mono ?_; rintro e w1 ⟨rfl, hB⟩; have HB1 := Lib.hid hB; clear hB)
    go_ret2
    exact ⟨8, rfl, (Stp.of_below HB1.out).fr⟩
end Go.Proofs.YtjgdfgpnmmkjfaaGreatDoor
namespace Go.Proofs.YtjgdfgpnmmkjfaaGreatDoor
set_option linter.unusedVariables false
set_option linter.unusedSimpArgs false
open Go.RowKit Go.MapKept

/-- An act, and where its list lies. -/
structure AN where
  k : Int
  s : Bs
  t : Bs
  L : List Bs
  cl : Bool
  lo : Option Addr
  lc : Nat
def AN.sum (x : AN) : Nat := x.s.length + x.t.length + 1 + longS x.L
def sumN : List AN → Nat
  | [] => 0
  | x :: l => x.sum + sumN l
theorem sumN_append (l m : List AN) : sumN (l ++ m) = sumN l + sumN m := by
  induction l with
  | nil => simp [sumN]
  | cons x l ih => simp [sumN, ih]; omega
theorem sumN_take {l : List AN} {k : Nat} (h : k < l.length) : sumN (l.take (k + 1)) = sumN (l.take k) + l[k].sum := by
  rw [List.take_succ_eq_append_getElem h, sumN_append]; simp [sumN]
theorem sumN_le (l : List AN) (k : Nat) : sumN (l.take k) ≤ sumN l := by
  have h : sumN l = sumN (l.take k) + sumN (l.drop k) := by rw [← sumN_append, List.take_append_drop]
  omega
theorem longS_append (l m : List Bs) : longS (l ++ m) = longS l + longS m := by
  induction l with
  | nil => simp [longS]
  | cons x l ih => simp [longS, ih]; omega
theorem longS_take {l : List Bs} {k : Nat} (h : k < l.length) : longS (l.take (k + 1)) = longS (l.take k) + (l[k].length + 1) := by
  rw [List.take_succ_eq_append_getElem h, longS_append]; simp [longS]
theorem longS_le (l : List Bs) (k : Nat) : longS (l.take k) ≤ longS l := by
  have h : longS l = longS (l.take k) + longS (l.drop k) := by rw [← longS_append, List.take_append_drop]
  omega
theorem longS_mem {l : List Bs} {p : Bs} (h : p ∈ l) : p.length + 1 ≤ longS l := by
  induction l with
  | nil => cases h
  | cons x l ih =>
    simp only [longS]
    rcases List.mem_cons.1 h with rfl | h
    · omega
    · have := ih h; omega
theorem longS_len (l : List Bs) : l.length ≤ longS l := by
  induction l with
  | nil => simp [longS]
  | cons x l ih => simp only [longS, List.length_cons]; omega
def lightN (l : List AN) : Bool := decide (l.length ≤ 40) && decide (sumN l ≤ 1500)
/-- The acts lie below block n. -/
structure AR (n : Nat) (w : World) (ao : Option Addr) (l : List AN) : Prop where
  row : l ≠ [] → ∃ b off, ao = some ⟨b, off, none⟩ ∧ b < n ∧ ∀ (i : Nat) (h : i < l.length),
    w.cell? ⟨b, off + i * 5, none⟩ = some (.int .i64 l[i].k) ∧ w.cell? ⟨b, off + i * 5 + 1, none⟩ = some (.string ⟨l[i].s.toArray⟩) ∧ w.cell? ⟨b, off + i * 5 + 2, none⟩ = some (.string ⟨l[i].t.toArray⟩) ∧
    w.cell? ⟨b, off + i * 5 + 3, none⟩ = some (.slice l[i].lo l[i].L.length l[i].lc) ∧ w.cell? ⟨b, off + i * 5 + 4, none⟩ = some (.bool l[i].cl)
  txt : ∀ x ∈ l, TxtRow w (.slice x.lo x.L.length x.lc) x.L ∧ ∀ a, x.lo = some a → 0 < x.L.length → a.block < n
theorem AR.below {n : Nat} {w w' : World} {ao : Option Addr} {l : List AN} (h : AR n w ao l) (hb : Below n w w') : AR n w' ao l := by
  refine ⟨fun hne => ?_, fun x hx => ⟨?_, (h.txt x hx).2⟩⟩
  · obtain ⟨b, off, h1, h2, h3⟩ := h.row hne
    refine ⟨b, off, h1, h2, fun i hi => ?_⟩
    obtain ⟨c0, c1, c2, c3, c4⟩ := h3 i hi
    exact ⟨(hb.cell (p := ⟨b, _, none⟩) h2).trans c0, (hb.cell (p := ⟨b, _, none⟩) h2).trans c1, (hb.cell (p := ⟨b, _, none⟩) h2).trans c2, (hb.cell (p := ⟨b, _, none⟩) h2).trans c3, (hb.cell (p := ⟨b, _, none⟩) h2).trans c4⟩
  · obtain ⟨⟨o, c, h1, h2, h3, h4⟩, h5⟩ := h.txt x hx
    refine ⟨o, c, h1, h2, h3, fun i hi => ?_⟩
    obtain ⟨b, off, e, hl, hc⟩ := h4 i hi
    cases h1
    refine ⟨b, off, e, Nat.lt_of_lt_of_le hl hb.size, (hb.cell (p := ⟨b, off + i, none⟩) (h5 ⟨b, off, none⟩ e (by omega))).trans hc⟩
set_option maxRecDepth 100000 in
set_option maxHeartbeats 3200000 in
theorem light_any (l : List AN) (ao : Option Addr) (cap : Nat) (hl : l.length ≤ 2000000) (hs : sumN l ≤ 4611686018427387904) (w : World) (hR : AR w.heap.size w ao l) :
    Calls Tryz.prog 6 #[.slice ao l.length cap] w fun e w' => e = .returned (.bool (lightN l)) ∧ Below w.heap.size w w' := by
  have HR := Lib.hid hR
  obtain ⟨N, hN⟩ : ∃ N, l.length = N := ⟨_, rfl⟩
  have HN := Lib.hid (And.intro hN hs)
  rw [hN] at hl ⊢
  clear hR hN hs
  go_enter Tryz.func6, Tryz.ntmps6
  go_wp2_with fail
  go_loopw [10, 3] (fun i n wr => ∃ k : Nat, k ≤ N ∧ i = .int .i64 (k : Int) ∧ n = .int .i64 ((sumN (l.take k) : Nat) : Int) ∧ Below w.heap.size w wr) (fun i _ _ => N - (intOf i).toNat)
  case atStart => exact ⟨0, Nat.zero_le _, rfl, rfl, Below.refl _ _⟩
  case round =>
    obtain ⟨k, hk, rfl, rfl, hb⟩ := hrel
    by_cases hlt : k < N
    · have hkl : k < l.length := by have := HN.out.1; omega
      obtain ⟨b, off, rfl, hbl, hc⟩ := HR.out.row (by intro h; rw [h] at hkl; simp at hkl)
      obtain ⟨c0, c1, c2, c3, c4⟩ := hc k hkl
      have d0 := (hb.cell (p := ⟨b, _, none⟩) hbl).trans c0
      have d1 := (hb.cell (p := ⟨b, _, none⟩) hbl).trans c1
      have d2 := (hb.cell (p := ⟨b, _, none⟩) hbl).trans c2
      have d3 := (hb.cell (p := ⟨b, _, none⟩) hbl).trans c3
      have d4 := (hb.cell (p := ⟨b, _, none⟩) hbl).trans c4
      have hst := sumN_take hkl
      have hle := sumN_le l (k + 1)
      have hN2 := HN.out.2
      have hT := (HR.out.txt l[k] (List.getElem_mem _)).1
      generalize l[k] = x at *
      obtain ⟨xk, xs, xt, xL, xc, xo, xlc⟩ := x
      simp only [AN.sum] at d0 d1 d2 d3 d4 hst hT
      obtain ⟨hh, hp1, hp2, hcell⟩ := hT.at_
      unfold maxLen at hp2
      have HC := Lib.hid hcell
      generalize sumN (l.take k) = n at *
      obtain ⟨m, hm⟩ : ∃ m, xL.length = m := ⟨_, rfl⟩
      have HM := Lib.hid (And.intro hm (And.intro hlt (And.intro hst (And.intro hle hN2))))
      rw [hm] at d3 hp1
      have hmB := longS_len xL
      have hs1 : IntKind.i64.wrap ((xs.length : Int) + (xt.length : Int)) = (xs.length : Int) + (xt.length : Int) := IntWalk.i64_in _ (by omega)
      have hs2 : IntKind.i64.wrap ((xs.length : Int) + (xt.length : Int) + 1) = (xs.length : Int) + (xt.length : Int) + 1 := IntWalk.i64_in _ (by omega)
      have hs3 : IntKind.i64.wrap ((n : Int) + ((xs.length : Int) + (xt.length : Int) + 1)) = (n : Int) + ((xs.length : Int) + (xt.length : Int) + 1) := IntWalk.i64_in _ (by omega)
      have t0 : decide ((k : Int) < (N : Int)) = true := by rw [decide_eq_true_eq]; omega
      have hw1 : IntKind.i64.wrap ((k : Int) + 1) = (k : Int) + 1 := IntWalk.i64_in _ (by omega)
      have i1 : k < N := hlt
      have HBW := Lib.hid hb
      clear c0 c1 c2 c3 c4 hc hcell hh hT hm hst hle hN2 hk hkl hb hlt hmB
      go_wp2_with fail
      obtain ⟨wo, rfl⟩ : ∃ wo : World, wo = wr := ⟨_, rfl⟩
      go_loopw [27, 3] (fun i z wy => ∃ j : Nat, j ≤ m ∧ i = .int .i64 (j : Int) ∧ z = .int .i64 ((n + (xs.length + xt.length + 1) + longS (xL.take j) : Nat) : Int) ∧ Below w.heap.size w wy ∧ Below wo.heap.size wo wy) (fun i _ _ => m - (intOf i).toNat)
      case atStart => exact ⟨0, Nat.zero_le _, rfl, by simp [longS], HBW.out.alloc HBW.out.size _, (Below.refl _ wo).alloc (Nat.le_refl _) _⟩
      case round =>
        obtain ⟨j, hj, rfl, rfl, hby, hbz⟩ := hrel
        by_cases hjm : j < m
        · obtain ⟨gb, of2, rfl, hgl, hc0⟩ := HC.out j (by have := HM.out.1; omega)
          have hcx0 := (hbz.cell (p := ⟨gb, of2 + j, none⟩) (Nat.lt_of_lt_of_le hgl HBW.out.size)).trans ((HBW.out.cell (p := ⟨gb, of2 + j, none⟩) hgl).trans hc0)
          have hlt2 := longS_take (l := xL) (k := j) (by have := HM.out.1; omega)
          have hle2 := longS_le xL (j + 1)
          generalize xL[j]'(by have := HM.out.1; omega) = p at *
          have hcx : wr.cell? ⟨gb, of2 + j, none⟩ = some (.string ⟨p.toArray⟩) := hcx0
          obtain ⟨z, hz⟩ : ∃ z, n + (xs.length + xt.length + 1) + longS (xL.take j) = z := ⟨_, rfl⟩
          have HZ : Hid (n + (xs.length + xt.length + 1) + longS (xL.take (j + 1)) = z + (p.length + 1) ∧ j < m ∧ z + (p.length + 1) ≤ 4611686018427387904) := ⟨by omega, hjm, by have := HM.out; omega⟩
          have hzb : z + (p.length + 1) ≤ 4611686018427387904 := HZ.out.2.2
          rw [hz]
          have i2 : j < m := hjm
          have hcap : m ≤ xlc := by omega
          have t2 : decide ((j : Int) < (m : Int)) = true := by rw [decide_eq_true_eq]; omega
          have hs4 : IntKind.i64.wrap ((p.length : Int) + 1) = (p.length : Int) + 1 := IntWalk.i64_in _ (by omega)
          have hs5 : IntKind.i64.wrap ((z : Int) + ((p.length : Int) + 1)) = (z : Int) + ((p.length : Int) + 1) := IntWalk.i64_in _ (by omega)
          have hs6 : IntKind.i64.wrap ((j : Int) + 1) = (j : Int) + 1 := IntWalk.i64_in _ (by omega)
          have HBY := Lib.hid (And.intro hby hbz)
          clear hcx0 hlt2 hle2 hz hj hjm hby hbz hc0
          go_wp2_with fail
          exact ⟨⟨j + 1, by have := HZ.out; omega, by go_num, by rw [HZ.out.1]; push_cast; rfl, HBY.out.1, HBY.out.2⟩, by have := HZ.out; simp [intOf]; omega⟩
        · have hjn : j = m := by omega
          subst hjn
          have t2 : decide ((j : Int) < (j : Int)) = false := by rw [decide_eq_false_iff_not]; omega
          rw [List.take_of_length_le (by have := HM.out.1; omega)]
          have HZ : Hid (n + (xs.length + xt.length + 1) + longS xL = sumN (l.take (k + 1)) ∧ k < N) := ⟨by have := HM.out.2.2.1; omega, HM.out.2.1⟩
          have HBY := Lib.hid hby
          generalize n + (xs.length + xt.length + 1) + longS xL = z at *
          clear hj hjm hby hbz
          go_wp2_with fail
          exact ⟨⟨k + 1, by have := HZ.out; omega, by go_num, by rw [← HZ.out.1], HBY.out⟩, by have := HZ.out; simp [intOf]; omega⟩
    · have hkn : k = N := by omega
      subst hkn
      have hN1 := HN.out.1
      rw [List.take_of_length_le (by omega)]
      have t0 : decide ((k : Int) < (k : Int)) = false := by rw [decide_eq_false_iff_not]; omega
      have HF : Hid (lightN l = (decide (k ≤ 40) && decide (sumN l ≤ 1500))) := by show _ = _; unfold lightN; rw [hN1]
      have HBW := Lib.hid hb
      generalize sumN l = n at *
      clear hk hb hlt hN1
      by_cases h4 : k ≤ 40
      · have h4i : decide ((k : Int) ≤ 40) = true := by rw [decide_eq_true_eq]; omega
        by_cases h5 : n ≤ 1500
        · have h5i : decide ((n : Int) ≤ 1500) = true := by rw [decide_eq_true_eq]; omega
          have HF2 : Hid (lightN l = true) := by show _ = _; rw [HF.out]; simp [h4, h5]
          go_wp2_with fail
          go_ret
          exact ⟨by rw [HF2.out]; first | rfl | simp [h5], HBW.out⟩
        · have h5i : decide ((n : Int) ≤ 1500) = false := by rw [decide_eq_false_iff_not]; omega
          have HF2 : Hid (lightN l = false) := by show _ = _; rw [HF.out]; simp [h5]
          go_wp2_with fail
          go_ret
          exact ⟨by rw [HF2.out]; first | rfl | simp [h5], HBW.out⟩
      · have h4i : decide ((k : Int) ≤ 40) = false := by rw [decide_eq_false_iff_not]; omega
        have HF2 : Hid (lightN l = false) := by show _ = _; rw [HF.out]; simp [h4]
        go_wp2_with fail
        go_ret
        exact ⟨by rw [HF2.out]; rfl, HBW.out⟩
end Go.Proofs.YtjgdfgpnmmkjfaaGreatDoor
