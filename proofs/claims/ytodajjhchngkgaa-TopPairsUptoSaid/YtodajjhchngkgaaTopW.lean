/- TopPairs: the walk. -/
import Derived.Test.YtodajjhchngkgaaTopA
namespace Go.Proofs.Ytodajjhchngkgaa
set_option linter.unusedVariables false
set_option linter.unusedSimpArgs false
open Go.RowKit

theorem top_one (k : Bs) (W : World) : Below W.heap.size W (W.alloc (.cells #[.string ⟨k.toArray⟩] 9)) ∧ TxtRow (W.alloc (.cells #[.string ⟨k.toArray⟩] 9)) (.slice (some ⟨W.heap.size, 0, none⟩) 1 1) [k] :=
  ⟨(Below.refl _ _).alloc (Nat.le_refl _) _, txt_new W [k] (by show 1 ≤ maxLen; decide)⟩
/-- The call gives r, and the world below B is as it was. -/
def ToB (B : Nat) (w : World) (r : Value) : Ending → World → Prop := fun e w' => e = .returned r ∧ Below B w w'
set_option maxRecDepth 100000 in
set_option maxHeartbeats 3200000 in
theorem topPairs_main (l : List Bs) (key text : Bs) (o : Option Addr) (c : Nat) (w : World) (hM : MaxIs w) (ht : TxtRow w (.slice o l.length c) l) (h1 : longS l ≤ 600) (h2 : longS [key, text] ≤ 600) (he : l.length % 2 = 0)
    (S1 : Hid (Calls Try.prog 4 #[.slice o l.length c] w fun e w' => e = .returned (.bool true) ∧ w = w'))
    (S2 : Hid (Calls Try.prog 4 #[.slice (some ⟨w.heap.size, 0, none⟩) 2 2] (w.alloc (.cells #[.string ⟨key.toArray⟩, .string ⟨text.toArray⟩] 9)) fun e w' => e = .returned (.bool true) ∧ Below w.heap.size w w'))
    (AW : Hid (∀ W, Below w.heap.size w W → Calls Try.prog 5 #[] W fun e w' => e = .returned (.bool true) ∧ Below w.heap.size w w')) :
    Calls Try.prog 3 #[.slice o l.length c, .string ⟨key.toArray⟩, .string ⟨text.toArray⟩] w fun e w' => e = .returned (.bool true) ∧ Below w.heap.size w w' := by
  obtain ⟨s, d, T, ps, p1, p2, p3, p4, p5, p6, p7, p8, p9, p10, p11, p12⟩ := top_plain l key text h1 h2 he
  have a1 := wt_long l
  have a2 := len_long l
  have hkl : key.length ≤ 1000000 := by simp only [longS] at h2; omega
  have htl : text.length ≤ 1000000 := by simp only [longS] at h2; omega
  have up : ∀ {W W' : World}, Below w.heap.size w W → Below W.heap.size W W' → Below w.heap.size w W' := fun a b => a.trans (b.mono a.size)
  have JO : Hid (∀ W, Below w.heap.size w W → Calls Try.prog 6 #[.slice o l.length c] W fun e w' => e = .returned (.tuple #[.string ⟨s.toArray⟩, .int .i64 0]) ∧ Below w.heap.size w w') := fun W h => by
    have q := Join_any _ l W (hM.below h hM.pos) (ht.below h)
    rw [p1] at q
    exact q.mono fun e w' ⟨q1, q2⟩ => ⟨q1, up h q2⟩
  have CR : Hid (∀ W, Below w.heap.size w W → Calls Try.prog 7 #[.slice o l.length c] W fun e w' => e = .returned (.tuple #[.string ⟨d.toArray⟩, .int .i64 0]) ∧ Below w.heap.size w w') := fun W h => by
    have q := Create_any _ l W (hM.below h hM.pos) (ht.below h) (by omega) (by omega)
    rw [p2] at q
    exact q.mono fun e w' ⟨q1, q2⟩ => ⟨q1, up h q2⟩
  have CA : Hid (∀ W, Below w.heap.size w W → Calls Try.prog 8 #[.string ⟨s.toArray⟩] W fun e w' => e = .returned (.tuple #[.string ⟨d.toArray⟩, .int .i64 0]) ∧ Below w.heap.size w w') := fun W h => by
    have q := Canonical_any s p11 W (hM.below h hM.pos)
    rw [p4] at q
    exact q.mono fun e w' ⟨q1, q2⟩ => ⟨q1, up h q2⟩
  have IC : Hid (∀ W, Below w.heap.size w W → Calls Try.prog 9 #[.string ⟨d.toArray⟩] W fun e w' => e = .returned (.bool true) ∧ Below w.heap.size w w') := fun W h => by
    have q := IsCanonical_yes (flatP ps) p9 p10 W (hM.below h hM.pos)
    rw [← p8] at q
    exact q.mono fun e w' ⟨q1, q2⟩ => ⟨q1, up h q2⟩
  have NW : Hid (∀ W, Below w.heap.size w W → Calls Try.prog 10 #[.string ⟨s.toArray⟩] W fun e w' => ∃ vb sb, e = .returned (.pointer (some ⟨vb, 0, none⟩)) ∧ Below w.heap.size w w' ∧ ValAt w' vb sb s .nilIface ∧ w.heap.size ≤ vb) := fun W h => (vNew_any s W).mono fun e w' ⟨vb, sb, q1, q2, q3, q4, q5⟩ => ⟨vb, sb, q1, up h q3, q2, Nat.le_trans h.size q4⟩
  have VP : Hid (∀ W vb sb, Below w.heap.size w W ∧ ValAt W vb sb s .nilIface ∧ w.heap.size ≤ vb → Calls Try.prog 11 #[.pointer (some ⟨vb, 0, none⟩)] W fun e w' => ∃ r, e = .returned (.tuple #[r, .int .i64 0]) ∧ Below w.heap.size w w' ∧ TxtRow w' r (flatP ps)) := fun W vb sb ⟨h, hv, hl⟩ => (vPairs_any hv p11 p3).mono fun e w' ⟨r, f', q1, q2, q3, q4⟩ => ⟨r, q1, h.trans (q4.below h.size (by simpa using hl)), TxtRow.of_owns q2⟩
  have DP : Hid (∀ W r, Below w.heap.size w W ∧ TxtRow W r (flatP ps) → Calls Try.prog 12 #[.string ⟨s.toArray⟩] W fun e w' => ∃ r2, e = .returned (.tuple #[r2, .int .i64 0]) ∧ Below w.heap.size w w' ∧ TxtRow w' r (flatP ps) ∧ TxtRow w' r2 (flatP ps)) := fun W r ⟨h, hr⟩ => (Pairs_any s p11 W).mono fun e w' ⟨r2, err, hx, hb, h'⟩ => by
    rcases h' with ⟨h', _⟩ | ⟨ps', h', rfl, ho⟩
    · rw [p3] at h'; cases h'
    · rw [p3] at h'; cases h'
      exact ⟨r2, hx, up h hb, hr.below hb, TxtRow.of_owns ho⟩
  have SM : Hid (∀ W r r2, Below w.heap.size w W ∧ TxtRow W r (flatP ps) ∧ TxtRow W r2 (flatP ps) → Calls Try.prog 13 #[r, r2] W fun e w' => e = .returned (.bool true) ∧ Below w.heap.size w w') := fun W r r2 ⟨h, hr, hr2⟩ => (same_yes W hr hr2).mono fun e w' ⟨q1, q2⟩ => ⟨q1, up h q2⟩
  have SE : Hid (∀ W, Below w.heap.size w W → Calls Try.prog 14 #[.string ⟨s.toArray⟩, .slice (some ⟨W.heap.size, 0, none⟩) 1 1, .string ⟨text.toArray⟩] (W.alloc (.cells #[.string ⟨key.toArray⟩] 9)) fun e w' => e = .returned (.tuple #[.string ⟨T.toArray⟩, .int .i64 0]) ∧ Below w.heap.size w w') := fun W hB => by
    obtain ⟨g1, g2⟩ := top_one key W
    have hB2 := up hB g1
    have h := Set_any s [key] text _ _ (hM.below hB2 hM.pos) p11 (fun k hk => by simp at hk; subst hk; omega) g2
    rw [p5] at h
    exact h.mono fun e w' ⟨h3, h4⟩ => ⟨h3, up hB2 h4⟩
  have NS : Hid (∀ W, Below w.heap.size w W → Calls Try.prog 15 #[] W fun e w' => ∃ st, e = .returned (.pointer (some ⟨st, 0, none⟩)) ∧ Below w.heap.size w w' ∧ w'.heap[st]? = some (.cells #[.slice none 0 0] 85 (0, 0)) ∧ w.heap.size ≤ st) := fun W h => (sNew_any W).mono fun e w' ⟨q1, q2, q3⟩ => ⟨_, q1, up h q3, q2, h.size⟩
  have AD : Hid (∀ W st, Below w.heap.size w W ∧ W.heap[st]? = some (.cells #[.slice none 0 0] 85 (0, 0)) ∧ w.heap.size ≤ st → Calls Try.prog 16 #[.pointer (some ⟨st, 0, none⟩), .string ⟨s.toArray⟩] W fun e w' => ∃ g c vb sb, e = .returned (.int .i64 0) ∧ Below w.heap.size w w' ∧ StoreAt w' st g c vb sb s .nilIface ∧ w.heap.size ≤ vb ∧ w.heap.size ≤ sb) := fun W st ⟨h, hs, hl⟩ => (sAdd_any s hs).mono fun e w' ⟨g, c, vb, sb, q1, q2, q3, q4, q5, q6⟩ => ⟨g, c, vb, sb, q1, h.trans (q3.below h.size (by simpa using hl)), q2, Nat.le_trans h.size q5, Nat.le_trans h.size q6⟩
  have EN : Hid (∀ W st g c vb sb, Below w.heap.size w W ∧ StoreAt W st g c vb sb s .nilIface ∧ w.heap.size ≤ vb ∧ w.heap.size ≤ sb → Calls Try.prog 17 #[.pointer (some ⟨st, 0, none⟩), .int .i64 0, .string ⟨key.toArray⟩, .string ⟨text.toArray⟩] W fun e w' => e = .returned (.int .i64 0) ∧ Below w.heap.size w w' ∧ ∃ f', StoreAt w' st g c vb sb T f') := fun W st g c vb sb ⟨h, hs, hl, hl2⟩ => (sEnter_any hs (hM.below h hM.pos) p11 p3 key text p6).mono fun e w' ⟨q1, q2, q3⟩ => ⟨q1, h.trans (q3.below h.size (by simp [hl, hl2])), q2⟩
  have TX : Hid (∀ W st g c vb sb, (∃ f', StoreAt W st g c vb sb T f') → Calls Try.prog 18 #[.pointer (some ⟨st, 0, none⟩), .int .i64 0] W fun e w' => e = .returned (.tuple #[.string ⟨T.toArray⟩, .int .i64 0]) ∧ W = w') := fun W st g c vb sb ⟨f', h⟩ => (sText_any h).mono fun e w' ⟨q1, q2⟩ => ⟨q1, q2.symm⟩
  have GE : Hid (∀ W, Below w.heap.size w W → Calls Try.prog 19 #[.string ⟨T.toArray⟩, .slice (some ⟨W.heap.size, 0, none⟩) 1 1] (W.alloc (.cells #[.string ⟨key.toArray⟩] 9)) fun e w' => e = .returned (.tuple #[.string ⟨text.toArray⟩, .int .i64 0]) ∧ Below w.heap.size w w') := fun W hB => by
    obtain ⟨g1, g2⟩ := top_one key W
    have hB2 := up hB g1
    have h := Get_any T [key] _ _ (hM.below hB2 hM.pos) p12 (fun k hk => by simp at hk; subst hk; omega) g2
    rw [p7] at h
    exact h.mono fun e w' ⟨h3, h4⟩ => ⟨h3, up hB2 h4⟩
  obtain ⟨n, hn⟩ : ∃ n, l.length = n := ⟨_, rfl⟩
  rw [hn] at JO CR S1 he ⊢
  have t1 : ((n : Int) % 2 == 0) = true := by rw [beq_iff_eq]; omega
  have t2 : Int.tmod (n : Int) 2 = 0 := by rw [Int.tmod_eq_emod_of_nonneg (by omega)]; omega
  have t3 : (n : Int) % 2 = 0 := by omega
  clear p1 p2 p3 p4 p5 p6 p7 p8 p9 p10 p11 p12 a1 a2 hkl htl up hn ht h1 h2 hM he
  generalize flatP ps = fp at *
  go_enter Try.func3, Try.ntmps3
  go_wp2_with (first | (go_at_call_of 4 (Value.slice (some ⟨w.heap.size, 0, none⟩) 2 2); refine S2.out.mono ?_; rintro e w1 ⟨rfl, hB1⟩; have H := Lib.hid hB1; clear hB1 S1 S2) | (go_at_call 4; refine S1.out.mono ?_; rintro e w1 ⟨rfl, rfl⟩) | (go_at_call 6; refine (JO.out _ H.out).mono ?_; rintro e w2 ⟨rfl, hB⟩; have H := Lib.hid hB; clear hB) | (go_at_call 7; refine (CR.out _ H.out).mono ?_; rintro e w2 ⟨rfl, hB⟩; have H := Lib.hid hB; clear hB) | (go_at_call 8; refine (CA.out _ H.out).mono ?_; rintro e w2 ⟨rfl, hB⟩; have H := Lib.hid hB; clear hB) | (go_at_call 9; refine (IC.out _ H.out).mono ?_; rintro e w2 ⟨rfl, hB⟩; have H := Lib.hid hB; clear hB) | (go_at_call 10; refine (NW.out _ H.out).mono ?_; rintro e w3 ⟨vb0, sb0, rfl, q⟩; have H3 := Lib.hid q; clear q) | (go_at_call 11; refine (VP.out _ _ _ H3.out).mono ?_; rintro e w4 ⟨r1, rfl, q⟩; have H4 := Lib.hid q; clear q) | (go_at_call 12; refine (DP.out _ _ H4.out).mono ?_; rintro e w5 ⟨r2, rfl, q⟩; have H5 := Lib.hid q; clear q) | (go_at_call 13; refine (SM.out _ _ _ H5.out).mono ?_; rintro e w6 ⟨rfl, hB⟩; have H := Lib.hid hB; clear hB) | (go_at_call 14; refine (SE.out _ H.out).mono ?_; rintro e w7 ⟨rfl, hB⟩; have H := Lib.hid hB; clear hB) | (go_at_call 15; refine (NS.out _ H.out).mono ?_; rintro e w8 ⟨st, rfl, q⟩; have H8 := Lib.hid q; clear q) | (go_at_call 16; refine (AD.out _ _ H8.out).mono ?_; rintro e w9 ⟨g, c9, vb, sb, rfl, q⟩; have H9 := Lib.hid q; clear q) | (go_at_call 17; refine (EN.out _ _ _ _ _ _ H9.out).mono ?_; rintro e w10 ⟨rfl, q⟩; have H10 := Lib.hid q; clear q) | (go_at_call 18; refine (TX.out _ _ _ _ _ _ H10.out.2).mono ?_; rintro e w11 ⟨rfl, rfl⟩) | (go_at_call 19; refine (GE.out _ H10.out.1).mono ?_; rintro e w12 ⟨rfl, hB⟩; have H := Lib.hid hB; clear hB) | (go_at_call 5; refine (AW.out _ H.out).mono ?_; rintro e w13 ⟨rfl, hB⟩; have H := Lib.hid hB; clear hB))
  go_ret
  exact ⟨rfl, H.out⟩
set_option maxRecDepth 100000 in
set_option maxHeartbeats 1600000 in
theorem topPairs_walk (l : List Bs) (key text : Bs) (v : Value) (w : World) (hM : MaxIs w) (ht : TxtRow w v l) (h1 : longS l ≤ 9223372036854775807) (h2 : longS [key, text] ≤ 9223372036854775807) :
    Calls Try.prog 3 #[v, .string ⟨key.toArray⟩, .string ⟨text.toArray⟩] w fun e w' => e = .returned (.bool true) ∧ Below w.heap.size w w' := by
  obtain ⟨o, c, rfl⟩ := ht.len
  have AW : Hid (∀ W, Below w.heap.size w W → Calls Try.prog 5 #[] W fun e w' => e = .returned (.bool true) ∧ Below w.heap.size w w') := fun W hB => (awake9_any W (hM.below hB hM.pos)).mono fun e w' ⟨h1, h2⟩ => ⟨h1, hB.trans (h2.mono hB.size)⟩
  have S1 := Lib.hid (small9_any l _ w h1 ht)
  have hB1 : Below w.heap.size w (w.alloc (.cells #[.string ⟨key.toArray⟩, .string ⟨text.toArray⟩] 9)) := (Below.refl _ _).alloc (Nat.le_refl _) _
  have S2 : Hid (Calls Try.prog 4 #[.slice (some ⟨w.heap.size, 0, none⟩) 2 2] (w.alloc (.cells #[.string ⟨key.toArray⟩, .string ⟨text.toArray⟩] 9)) fun e w' => e = .returned (.bool (decide (longS [key, text] ≤ 600))) ∧ Below w.heap.size w w') :=
    (small9_any [key, text] _ _ h2 (txt_new w [key, text] (by show 2 ≤ maxLen; decide))).mono fun e w' ⟨q1, q2⟩ => ⟨q1, q2 ▸ hB1⟩
  by_cases c1 : longS l ≤ 600
  · rw [decide_eq_true c1] at S1
    by_cases c2 : longS [key, text] ≤ 600
    · rw [decide_eq_true c2] at S2
      by_cases c3 : l.length % 2 = 0
      · exact topPairs_main l key text o c w hM ht c1 c2 c3 S1 S2 AW
      · generalize l.length = n at *
        have t1 : ((n : Int) % 2 == 0) = false := by rw [beq_eq_false_iff_ne]; omega
        have t2 : Int.tmod (n : Int) 2 = 1 := by rw [Int.tmod_eq_emod_of_nonneg (by omega)]; omega
        have t3 : (n : Int) % 2 = 1 := by omega
        clear hM ht h1 h2 c1 c2 c3 hB1
        go_enter Try.func3, Try.ntmps3
        go_wp2_with (first | (go_at_call_of 4 (Value.slice (some ⟨w.heap.size, 0, none⟩) 2 2); refine S2.out.mono ?_; rintro e w1 ⟨rfl, hB1⟩; have H := Lib.hid hB1; clear hB1 S1 S2) | (go_at_call 4; refine S1.out.mono ?_; rintro e w1 ⟨rfl, rfl⟩) | (go_at_call 5; refine (AW.out _ H.out).mono ?_; rintro e w13 ⟨rfl, hB⟩; have H := Lib.hid hB; clear hB))
        go_ret
        exact ⟨rfl, H.out⟩
    · rw [decide_eq_false c2] at S2
      generalize l.length = n at *
      clear hM ht h1 h2 c1 c2 hB1
      go_enter Try.func3, Try.ntmps3
      go_wp2_with (first | (go_at_call_of 4 (Value.slice (some ⟨w.heap.size, 0, none⟩) 2 2); refine S2.out.mono ?_; rintro e w1 ⟨rfl, hB1⟩; have H := Lib.hid hB1; clear hB1 S1 S2) | (go_at_call 4; refine S1.out.mono ?_; rintro e w1 ⟨rfl, rfl⟩) | (go_at_call 5; refine (AW.out _ H.out).mono ?_; rintro e w13 ⟨rfl, hB⟩; have H := Lib.hid hB; clear hB))
      go_ret
      exact ⟨rfl, H.out⟩
  · rw [decide_eq_false c1] at S1
    have H := Lib.hid (Below.refl w.heap.size w)
    generalize l.length = n at *
    clear hM ht h1 h2 c1 hB1 S2
    go_enter Try.func3, Try.ntmps3
    go_wp2_with (first | (go_at_call 4; refine S1.out.mono ?_; rintro e w1 ⟨rfl, rfl⟩) | (go_at_call 5; refine (AW.out _ H.out).mono ?_; rintro e w13 ⟨rfl, hB⟩; have H := Lib.hid hB; clear hB))
    go_ret
    exact ⟨rfl, H.out⟩
end Go.Proofs.Ytodajjhchngkgaa
