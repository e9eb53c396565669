/- What Write writes is read again. Plain. What Write writes is read again: letters, runs, the time. Plain. What Write writes by a form that tells the whole time is read again. Plain. -/
import Derived.Test.YtkahakhhdiffcaaGreatDoorCRdT
namespace Go.Proofs.YtkahakhhdiffcaaGreatDoor
set_option linter.unusedVariables false
set_option linter.unusedSimpArgs false
/-- No digit stands at the beginning. -/
def NoDg (s : Bs) : Prop := s = [] ∨ ∃ a r, s = a :: r ∧ isDg a = false
theorem digN_app : ∀ (x rest : Bs) (n : Nat), AllDg x → NoDg rest → x.length ≤ n → digN (x ++ rest) n = x.length
  | [], rest, n, _, hr, _ => by
    rcases hr with rfl | ⟨a, r, rfl, h⟩
    · rfl
    · cases n with
      | zero => rfl
      | succ n => rw [List.nil_append, digN, if_neg (by rw [h]; decide)]; rfl
  | c :: x, rest, n, hx, hr, hn => by
    cases n with
    | zero => simp at hn
    | succ n =>
      rw [List.cons_append, digN, if_pos (hx c (by simp)), digN_app x rest n (fun z hz => hx z (by simp [hz])) hr (by simpa using hn)]
      rfl
theorem digN_full : ∀ (x rest : Bs), AllDg x → digN (x ++ rest) x.length = x.length
  | [], rest, _ => digN_zero _
  | c :: x, rest, hx => by
    rw [List.cons_append, List.length_cons, digN, if_pos (hx c (by simp)), digN_full x rest (fun z hz => hx z (by simp [hz]))]
theorem dec_canon (u : Nat) : Canon (Lib.decDigits u) := by
  obtain ⟨h1, _, h3⟩ := dec_of u
  refine ⟨h1, h3, ?_⟩
  induction u using Nat.strongRecOn with
  | _ u ih =>
    intro hl
    by_cases h : u < 10
    · rw [Lib.decDigits_one h] at hl; simp at hl
    · have e : Lib.decDigits u = Lib.decDigits (u / 10) ++ [UInt8.ofNat (48 + u % 10)] := by rw [Lib.decDigits, dif_neg h]
      obtain ⟨g1, g2, g3⟩ := dec_of (u / 10)
      have hh : (Lib.decDigits u).head? = (Lib.decDigits (u / 10)).head? := by
        rw [e]
        cases hq : Lib.decDigits (u / 10) with
        | nil => exact absurd hq g3
        | cons a r => rfl
      rw [hh]
      by_cases h10 : u / 10 < 10
      · rw [Lib.decDigits_one h10]
        intro hq
        simp only [List.head?_cons, Option.some.injEq] at hq
        have := congrArg UInt8.toNat hq
        rw [UInt8.toNat_ofNat_of_lt' (by simp [UInt8.size]; omega)] at this
        have e48 : (48 : UInt8).toNat = 48 := rfl
        omega
      · refine ih (u / 10) (by omega) g1 g2 g3 ?_
        have e2 : Lib.decDigits (u / 10) = Lib.decDigits (u / 10 / 10) ++ [UInt8.ofNat (48 + u / 10 % 10)] := by conv => lhs; rw [Lib.decDigits, dif_neg h10]
        rw [e2]
        have := List.length_pos_iff.2 (dec_of (u / 10 / 10)).2.2
        simp
        omega
theorem dec_short : ∀ (n m : Nat), m < 10 ^ (n + 1) → (Lib.decDigits m).length ≤ n + 1
  | 0, m, h => by rw [Lib.decDigits_one (by simpa using h)]; simp
  | n + 1, m, h => by
    by_cases hm : m < 10
    · rw [Lib.decDigits_one hm]; simp
    · rw [Lib.decDigits, dif_neg hm]
      have := dec_short n (m / 10) (by rw [Nat.pow_succ] at h; omega)
      simp
      exact this
theorem pad_exact {n m : Nat} (hn : 0 < n) (h : m < 10 ^ n) : (padC n (Lib.decDigits m)).length = n := by
  have := dec_short (n - 1) m (by rwa [show n - 1 + 1 = n by omega])
  unfold padC
  rw [List.length_append, Lib.repeatL_length]
  simp
  omega
/-- How great a letter's number is. -/
theorem fn_hi {c : UInt8} {i : Info} (hi : info (c.toNat : Int) = some i) (hn : i.names = []) (h101 : c ≠ 101) (h115 : c ≠ 115) {t : Int} (ht : -62135596800 ≤ t) (ht2 : t ≤ 253402300799) : fnC i.F t < ((10 ^ i.dig.toNat : Nat) : Int) := by
  have hok := (dateC_ok ht).1
  have hyl := year_le hok (by rw [(dateC_ok ht).2]; exact ht2)
  have h2 := hok.date.m12; have h4 := hok.date.dn; have h5 := dim_ge (dateC t).y (dateC t).m
  have h6 := hok.h0; have h7 := hok.h1; have h9 := hok.mi1; have h11 := hok.s1
  have hth := th_in t
  have hle := th_le ht ht2
  have hyi := yearOf_in hle.1
  have hyl2 := year_le2 hle.2 hyi.2.1
  have hyt := year_in ht
  have hn1 := bef_next (dateC t).y
  have hl1 := leap1_le (dateC t).y
  have hn2 := bef_next (yearOf (thC t))
  have hl2 := leap1_le (yearOf (thC t))
  have b1 : ydC t ≤ 366 := by unfold ydC; omega
  have b2 : weekN t ≤ 54 := by unfold weekN; omega
  have b3 : yearOf (thC t) ≤ 9999 := hyl2
  have b4 : wdC t ≤ 7 := by omega
  have hk := taken_known c.toNat c.toNat_lt (by rw [hi]; rfl)
  have hof : ∀ n : Nat, n < 256 → c.toNat = n → c = UInt8.ofNat n := fun n hn h => by
    apply UInt8.toNat_inj.1
    rw [h, UInt8.toNat_ofNat_of_lt' (by simpa [UInt8.size] using hn)]
  simp only [List.mem_cons, List.not_mem_nil, or_false] at hk
  rcases hk with h | h | h | h | h | h | h | h | h | h | h | h | h | h | h | h | h | h | h
  · obtain rfl : c = 89 := hof 89 (by omega) h
    obtain rfl : _ = i := Option.some.inj hi
    show (dateC t).y < 10000
    omega
  · obtain rfl : c = 71 := hof 71 (by omega) h
    obtain rfl : _ = i := Option.some.inj hi
    show yearOf (thC t) < 10000
    omega
  · obtain rfl : c = 106 := hof 106 (by omega) h
    obtain rfl : _ = i := Option.some.inj hi
    show ydC t < 1000
    omega
  · obtain rfl : c = 117 := hof 117 (by omega) h
    obtain rfl : _ = i := Option.some.inj hi
    show wdC t < 10
    omega
  · obtain rfl : c = 121 := hof 121 (by omega) h
    obtain rfl : _ = i := Option.some.inj hi
    show (dateC t).y % 100 < 100
    omega
  · obtain rfl : c = 109 := hof 109 (by omega) h
    obtain rfl : _ = i := Option.some.inj hi
    show (dateC t).m < 100
    omega
  · obtain rfl : c = 100 := hof 100 (by omega) h
    obtain rfl : _ = i := Option.some.inj hi
    show (dateC t).d < 100
    omega
  · obtain rfl : c = 72 := hof 72 (by omega) h
    obtain rfl : _ = i := Option.some.inj hi
    show (dateC t).h < 100
    omega
  · obtain rfl : c = 77 := hof 77 (by omega) h
    obtain rfl : _ = i := Option.some.inj hi
    show (dateC t).mi < 100
    omega
  · obtain rfl : c = 83 := hof 83 (by omega) h
    obtain rfl : _ = i := Option.some.inj hi
    show (dateC t).s < 100
    omega
  · obtain rfl : c = 73 := hof 73 (by omega) h
    obtain rfl : _ = i := Option.some.inj hi
    show ((dateC t).h + 11) % 12 + 1 < 100
    omega
  · obtain rfl : c = 86 := hof 86 (by omega) h
    obtain rfl : _ = i := Option.some.inj hi
    show weekN t < 100
    omega
  · exact absurd (hof 101 (by omega) h) h101
  · exact absurd (hof 115 (by omega) h) h115
  · obtain rfl : c = 112 := hof 112 (by omega) h
    obtain rfl : _ = i := Option.some.inj hi
    cases hn
  · obtain rfl : c = 66 := hof 66 (by omega) h
    obtain rfl : _ = i := Option.some.inj hi
    cases hn
  · obtain rfl : c = 98 := hof 98 (by omega) h
    obtain rfl : _ = i := Option.some.inj hi
    cases hn
  · obtain rfl : c = 65 := hof 65 (by omega) h
    obtain rfl : _ = i := Option.some.inj hi
    cases hn
  · obtain rfl : c = 97 := hof 97 (by omega) h
    obtain rfl : _ = i := Option.some.inj hi
    cases hn
end Go.Proofs.YtkahakhhdiffcaaGreatDoor
namespace Go.Proofs.YtkahakhhdiffcaaGreatDoor
set_option linter.unusedVariables false
set_option linter.unusedSimpArgs false
theorem pad_zero (l : Bs) : padC 0 l = l := pad_full (n := 0) (Nat.zero_le _)
/-- A letter's text is read again, whatever stands behind it but a digit. -/
theorem read_back {c : UInt8} {i : Info} (hi : info (c.toNat : Int) = some i) {t : Int} (ht : -62135596800 ≤ t) (ht2 : t ≤ 253402300799) {rest : Bs} (hr : NoDg rest) :
    readC c (textD c t ++ rest) = (fnL (c.toNat : Int) t, (textD c t).length) ∧ 0 < (textD c t).length := by
  have hfn : fnL (c.toNat : Int) t = fnC i.F t := by unfold fnL; rw [hi]
  have htx : textD c t = textC i t := by unfold textD; rw [hi]
  rw [hfn, htx]
  have hrd : ∀ s, readC c s = if i.names = [] then readD c i.dig.toNat s else readN s i.names := fun s => by unfold readC; rw [hi]
  rw [hrd]
  have hk := (kind_of c hi).1
  obtain ⟨d1, d2⟩ := info_dig c hi
  by_cases hn : i.names = []
  · rw [if_pos hn]
    have htc : textC i t = padC i.dig (Lib.itoa (fnC i.F t)) := by unfold textC; rw [if_pos hn]
    rw [htc]
    by_cases h115 : c = 115
    · subst h115
      have hd0 : i.dig = 0 := by
        rcases d1 hn with h | h
        · exact h.2
        · exact absurd rfl h.2.1
      have hF : fnC i.F t = t := by
        obtain rfl : _ = i := Option.some.inj hi
        rfl
      rw [hd0, hF, pad_zero, readD_s]
      unfold readS
      by_cases hneg : t < 0
      · obtain ⟨u, rfl⟩ : ∃ u : Nat, t = -(u : Int) := ⟨t.natAbs, by omega⟩
        have hit : Lib.itoa (-(u : Int)) = 45 :: Lib.decDigits u := by
          unfold Lib.itoa
          rw [if_pos hneg, show (-(u : Int)).natAbs = u by omega]
        obtain ⟨q1, q2, q3⟩ := dec_of u
        have hc := dec_canon u
        rw [hit, List.cons_append]
        have hsg : sgn (45 :: (Lib.decDigits u ++ rest)) = 1 := rfl
        rw [hsg, List.drop_one, List.tail_cons]
        have hdl : digN (Lib.decDigits u ++ rest) (45 :: (Lib.decDigits u ++ rest)).length = (Lib.decDigits u).length := digN_app _ _ _ q1 hr (by simp; omega)
        have hpos := List.length_pos_iff.2 q3
        rw [hdl, if_neg (by omega)]
        have h1 : (45 :: (Lib.decDigits u ++ rest))[1]? = (Lib.decDigits u).head? := by
          cases hq : Lib.decDigits u with
          | nil => exact absurd hq q3
          | cons a r => rfl
        have h48 : (Lib.decDigits u).head? ≠ some 48 := by
          by_cases hl : 1 < (Lib.decDigits u).length
          · exact hc.2.2 hl
          · intro e
            have hu : u < 10 := by
              by_cases h : u < 10
              · exact h
              · exfalso
                have e9 : Lib.decDigits u = Lib.decDigits (u / 10) ++ [UInt8.ofNat (48 + u % 10)] := by conv => lhs; rw [Lib.decDigits, dif_neg h]
                rw [e9] at hl
                have := List.length_pos_iff.2 (dec_of (u / 10)).2.2
                rw [List.length_append, List.length_singleton] at hl
                omega
            rw [Lib.decDigits_one hu] at e
            simp only [List.head?_cons, Option.some.injEq] at e
            have := congrArg UInt8.toNat e
            rw [UInt8.toNat_ofNat_of_lt' (by simp [UInt8.size]; omega)] at this
            have e48 : (48 : UInt8).toNat = 48 := rfl
            omega
        rw [h1, if_neg (fun h => h48 h.2), if_neg (fun h => h48 h.2)]
        have htk : (45 :: (Lib.decDigits u ++ rest)).take (1 + (Lib.decDigits u).length) = 45 :: Lib.decDigits u := by
          rw [Nat.add_comm, List.take_succ_cons, List.take_left]
        rw [htk]
        have ha := atoi_mdg q1 q3
        rw [q2, if_pos (by omega)] at ha
        refine ⟨?_, by simp⟩
        rw [show valA (45 :: Lib.decDigits u) = -(u : Int) by unfold valA; rw [ha]]
        simp
        omega
      · obtain ⟨u, rfl⟩ : ∃ u : Nat, t = (u : Int) := ⟨t.toNat, by omega⟩
        rw [itoa_nat]
        obtain ⟨q1, q2, q3⟩ := dec_of u
        have hc := dec_canon u
        have hpos := List.length_pos_iff.2 q3
        have h0 : (Lib.decDigits u ++ rest)[0]? = (Lib.decDigits u).head? := by
          cases hq : Lib.decDigits u with
          | nil => exact absurd hq q3
          | cons a r => rfl
        have hsg : sgn (Lib.decDigits u ++ rest) = 0 := by
          unfold sgn
          rw [if_neg]
          rw [h0]
          intro e
          cases hq : Lib.decDigits u with
          | nil => exact q3 hq
          | cons a r =>
            rw [hq] at e q1
            simp only [List.head?_cons, Option.some.injEq] at e
            subst e
            have := q1 45 (by simp)
            revert this; decide
        rw [hsg, List.drop_zero]
        have hdl : digN (Lib.decDigits u ++ rest) (Lib.decDigits u ++ rest).length = (Lib.decDigits u).length := digN_app _ _ _ q1 hr (by simp)
        rw [hdl, if_neg (by omega), h0, if_neg (fun h => hc.2.2 h.1 h.2), if_neg (fun h => by cases h.1), Nat.zero_add, List.take_left]
        have ha := atoi_dg q1 q3
        rw [q2, if_pos (by omega)] at ha
        exact ⟨by rw [show valA (Lib.decDigits u) = (u : Int) by unfold valA; rw [ha]], hpos⟩
    · have hF : i.F ≠ 79 := by
        intro e
        have : ∀ n : Nat, n < 256 → n ≠ 115 → (match info (n : Int) with | some i => decide (i.F ≠ 79) | none => true) = true := by decide +kernel
        have h7 := this c.toNat c.toNat_lt (fun e => h115 (u8_115 e))
        rw [hi] at h7
        simp only [decide_eq_true_eq] at h7
        exact h7 e
      have h0 := fn_zero hk hn hF ht ht2
      obtain ⟨m, hm⟩ : ∃ m : Nat, fnC i.F t = (m : Int) := ⟨(fnC i.F t).toNat, by omega⟩
      obtain ⟨q1, q2, q3⟩ := dec_of m
      by_cases h101 : c = 101
      · subst h101
        have hd0 : i.dig = 0 := by
          rcases d1 hn with h | h
          · exact h.2
          · exact absurd rfl h.1
        have hFd : fnC i.F t = (dateC t).d := by
          obtain rfl : _ = i := Option.some.inj hi
          rfl
        have hdok := (dateC_ok ht).1.date
        have g1 := hdok.d1; have g2 := hdok.dn; have g3 := dim_ge (dateC t).y (dateC t).m
        rw [hFd] at hm
        have hlen : (Lib.decDigits m).length ≤ 2 := dec_short 1 m (by omega)
        have hpos := List.length_pos_iff.2 q3
        have hdn : digN (Lib.decDigits m ++ rest) 2 = (Lib.decDigits m).length := digN_app _ _ _ q1 hr hlen
        have h48 : (Lib.decDigits m ++ rest)[0]? ≠ some 48 := by
          have h0 : (Lib.decDigits m ++ rest)[0]? = (Lib.decDigits m).head? := by
            cases hq : Lib.decDigits m with
            | nil => exact absurd hq q3
            | cons a r => rfl
          rw [h0]
          by_cases hl : 1 < (Lib.decDigits m).length
          · exact (dec_canon m).2.2 hl
          · intro e
            have hu : m < 10 := by
              by_cases h : m < 10
              · exact h
              · exfalso
                have e9 : Lib.decDigits m = Lib.decDigits (m / 10) ++ [UInt8.ofNat (48 + m % 10)] := by conv => lhs; rw [Lib.decDigits, dif_neg h]
                rw [e9] at hl
                have := List.length_pos_iff.2 (dec_of (m / 10)).2.2
                rw [List.length_append, List.length_singleton] at hl
                omega
            rw [Lib.decDigits_one hu] at e
            simp only [List.head?_cons, Option.some.injEq] at e
            have := congrArg UInt8.toNat e
            rw [UInt8.toNat_ofNat_of_lt' (by simp [UInt8.size]; omega)] at this
            have e48 : (48 : UInt8).toNat = 48 := rfl
            omega
        have hle : lenE (Lib.decDigits m ++ rest) = (Lib.decDigits m).length := by unfold lenE; rw [if_neg (fun h => h48 h.2), hdn]
        rw [hFd, hm, hd0, pad_zero, itoa_nat]
        unfold readD
        rw [if_pos rfl, hle, if_neg (by omega), List.take_left, (valA_dg q1 q3 (by omega)).1, q2]
        exact ⟨rfl, hpos⟩
      · have hhi := fn_hi hi hn h101 h115 ht ht2
        rw [hm] at hhi ⊢
        have hdig : 0 < i.dig ∧ i.dig ≤ 4 := by
          rcases d1 hn with h | h
          · exfalso
            rcases h.1 with h | h
            · exact h101 (u8_101 h)
            · exact h115 (u8_115 h)
          · exact ⟨h.2.2.1, (info_ok c hi).1 hn⟩
        obtain ⟨n, hnd⟩ : ∃ n : Nat, i.dig = (n : Int) := ⟨i.dig.toNat, by omega⟩
        rw [hnd] at hhi hdig ⊢
        rw [Int.toNat_natCast] at hhi ⊢
        rw [itoa_nat]
        have hpl := pad_exact (n := n) (m := m) (by omega) (by omega)
        have hpd := pad_dg n q1
        have hdf := digN_full (padC n (Lib.decDigits m)) rest hpd
        rw [hpl] at hdf
        have hne : padC n (Lib.decDigits m) ≠ [] := by intro e; rw [e] at hpl; simp at hpl; omega
        unfold readD
        rw [if_neg h101, if_neg h115, hdf, if_neg (by omega), if_neg (by omega)]
        have htk : (padC n (Lib.decDigits m) ++ rest).take n = padC n (Lib.decDigits m) := by
          conv => lhs; rw [show n = (padC n (Lib.decDigits m)).length from hpl.symm]
          rw [hpl]
          exact List.take_left' hpl
        rw [htk, (valA_dg hpd hne (by omega)).1, pad_dec, q2, hpl]
        exact ⟨rfl, by omega⟩
  · rw [if_neg hn]
    obtain ⟨g1, g2⟩ := fn_names hk hn ht ht2
    obtain ⟨_, k2, k3⟩ := info_ok c hi
    have htc : textC i t = i.names.getD (fnC i.F t - 1).toNat [] := by unfold textC; rw [if_neg hn]
    rw [htc]
    obtain ⟨k, hkk⟩ : ∃ k : Nat, fnC i.F t = (k : Int) + 1 := ⟨(fnC i.F t - 1).toNat, by omega⟩
    rw [hkk] at g2 ⊢
    have hk9 : ((k : Int) + 1 - 1).toNat = k := by omega
    rw [hk9]
    have hkl : k < i.names.length := by omega
    have hgd : i.names.getD k [] = i.names[k] := by rw [List.getD_eq_getElem?_getD, List.getElem?_eq_getElem hkl]; rfl
    rw [hgd]
    have hhas : hasName (i.names[k] ++ rest) i.names[k] = true := by
      unfold hasName
      rw [List.take_left]
      simp
    refine ⟨readN_at hkl (fun j hj hjk => ?_) hhas, k2 _ (List.getElem_mem hkl)⟩
    cases hq : hasName (i.names[k] ++ rest) i.names[j] with
    | false => rfl
    | true =>
      have hp := List.pairwise_iff_getElem.1 k3 j k hj hkl hjk
      rcases two_names hq hhas with h | h
      · exact absurd h hp.1
      · exact absurd h hp.2
/-- Behind each letter comes a byte that is no digit, or the end. -/
def SepL : List Part → Prop
  | [] => True
  | p :: l => (p.2 ≠ 0 → p.1 = [] ∧ (l = [] ∨ ∃ q l' ch, l = q :: l' ∧ q.2 = 0 ∧ q.1 = [ch] ∧ isDg ch = false)) ∧ SepL l
theorem runs_back (t : Int) (ht : -62135596800 ≤ t) (ht2 : t ≤ 253402300799) : ∀ (l : List Part) (g : Vals), SepL l → (∀ p ∈ l, PG2 p) → (letsL l).Nodup → (∀ c ∈ letsL l, g (c.toNat : Int) = none) →
    ∃ g', runP l (writeC t l) g = some ([], g') ∧ (∀ c ∈ letsL l, g' (c.toNat : Int) = some (fnL (c.toNat : Int) t)) ∧ ∀ k : Int, (∀ c ∈ letsL l, k ≠ (c.toNat : Int)) → g' k = g k
  | [], g, _, _, _, _ => ⟨g, rfl, fun c hc => by simp [letsL] at hc, fun _ _ => rfl⟩
  | p :: l, g, hs, hp, hn, hg => by
    obtain ⟨hs1, hs2⟩ := hs
    have hw : writeC t (p :: l) = partText t p ++ writeC t l := by simp [writeC]
    rw [hw]
    rcases hp p (by simp) with ⟨h0, ch, hch⟩ | ⟨h0, h37, hi⟩
    · have e1 : letsL (p :: l) = letsL l := by rw [letsL, if_pos h0]
      rw [e1] at hn hg ⊢
      have ht9 : partText t p = [ch] := by unfold partText; rw [hch, if_pos h0]; rfl
      rw [ht9]
      obtain ⟨g', h1, h2, h3⟩ := runs_back t ht ht2 l g hs2 (fun q hq => hp q (by simp [hq])) hn hg
      refine ⟨g', ?_, h2, h3⟩
      unfold runP stepP
      rw [if_pos h0, hch]
      have hpx : Lib.hasPrefix ([ch] ++ writeC t l) [ch] = true := by simp [Lib.hasPrefix, List.isPrefixOf]
      rw [if_pos hpx]
      have htr : Lib.trimPrefix ([ch] ++ writeC t l) [ch] = writeC t l := by unfold Lib.trimPrefix; rw [if_pos hpx]; rfl
      simp only
      rw [htr]
      exact h1
    · have e1 : letsL (p :: l) = p.2 :: letsL l := by rw [letsL, if_neg h0]
      rw [e1] at hn hg ⊢
      obtain ⟨hn1, hn2⟩ := List.nodup_cons.1 hn
      obtain ⟨hs3, hs4⟩ := hs1 h0
      have ht9 : partText t p = textD p.2 t := by unfold partText; rw [hs3, if_neg h0]; rfl
      rw [ht9]
      have hnd : NoDg (writeC t l) := by
        rcases hs4 with rfl | ⟨q, l', ch, rfl, q0, q1, q2⟩
        · exact .inl rfl
        · refine .inr ⟨ch, writeC t l', ?_, q2⟩
          have : writeC t (q :: l') = partText t q ++ writeC t l' := by simp [writeC]
          rw [this]
          unfold partText
          rw [q1, if_pos q0]
          rfl
      obtain ⟨i, hii⟩ := Option.isSome_iff_exists.1 hi
      obtain ⟨r1, r2⟩ := read_back hii ht ht2 hnd
      have hgn := hg p.2 (by simp)
      have hu : ∀ c ∈ letsL l, (c.toNat : Int) ≠ (p.2.toNat : Int) := fun c hc e => by
        have : c = p.2 := UInt8.toNat_inj.1 (by omega)
        subst this
        exact hn1 hc
      obtain ⟨g', h1, h2, h3⟩ := runs_back t ht ht2 l (fun k => if k = (p.2.toNat : Int) then some (fnL (p.2.toNat : Int) t) else g k) hs2 (fun q hq => hp q (by simp [hq])) hn2 (fun c hc => by
        show (if (c.toNat : Int) = (p.2.toNat : Int) then some (fnL (p.2.toNat : Int) t) else g (c.toNat : Int)) = none
        rw [if_neg (hu c hc)]
        exact hg c (by simp [hc]))
      refine ⟨g', ?_, fun c hc => ?_, fun k hk => ?_⟩
      · unfold runP stepP
        rw [if_neg h0, hgn, r1]
        have hcn : ¬ (((none : Option Int).isSome = true) ∨ (fnL (p.2.toNat : Int) t, (textD p.2 t).length).2 = 0) := by
          rintro (h | h)
          · cases h
          · have h9 : (textD p.2 t).length = 0 := h
            omega
        rw [if_neg hcn]
        simp only
        rw [List.drop_left]
        exact h1
      · rcases List.mem_cons.1 hc with rfl | hc
        · rw [h3 _ (fun c hc => (hu c hc).symm)]
          exact if_pos rfl
        · exact h2 c hc
      · rw [h3 k (fun c hc => hk c (by simp [hc]))]
        exact if_neg (hk p.2 (by simp))
end Go.Proofs.YtkahakhhdiffcaaGreatDoor
namespace Go.Proofs.YtkahakhhdiffcaaGreatDoor
set_option linter.unusedVariables false
set_option linter.unusedSimpArgs false
/-- Letters that tell the whole time. -/
def FullL (L : Bs) : Prop := 115 ∈ L ∨ (89 ∈ L ∧ (((109 ∈ L ∨ 66 ∈ L ∨ 98 ∈ L) ∧ (100 ∈ L ∨ 101 ∈ L)) ∨ 106 ∈ L) ∧ (72 ∈ L ∨ (73 ∈ L ∧ 112 ∈ L)) ∧ 77 ∈ L ∧ 83 ∈ L)
theorem back_time {g : Vals} {L : Bs} {t : Int} (ht : -62135596800 ≤ t) (ht2 : t ≤ 253402300799) (h1 : ∀ c ∈ L, g (c.toNat : Int) = some (fnL (c.toNat : Int) t)) (h2 : ∀ k : Int, (∀ c ∈ L, k ≠ (c.toNat : Int)) → g k = none) (hF : FullL L) : tmP g = (t, 0) := by
  have hval : validI t = true := (validI_iff t).2 ⟨ht, ht2⟩
  have hg : ∀ c : UInt8, g (c.toNat : Int) = none ∨ g (c.toNat : Int) = some (fnL (c.toNat : Int) t) := fun c => by
    by_cases hc : c ∈ L
    · exact .inr (h1 c hc)
    · exact .inl (h2 _ (fun d hd e => hc (by have : c = d := UInt8.toNat_inj.1 (by omega); rw [this]; exact hd)))
  have hno : ∀ c : UInt8, g (c.toNat : Int) = none → c ∉ L := fun c hn hc => by rw [h1 c hc] at hn; cases hn
  unfold tmP
  cases h115 : g 115 with
  | some v =>
    have : g ((115 : UInt8).toNat : Int) = some v := h115
    have hv : v = t := by
      rcases hg 115 with h | h
      · rw [this] at h; cases h
      · rw [this] at h; injection h
    subst hv
    show (if validI v = true then (v, 0) else (0, 7)) = _
    rw [if_pos hval]
  | none =>
    show (if (datedC g).2 = true ∧ validI (datedC g).1 = true then ((datedC g).1, 0) else (0, 7)) = _
    have hs := hno 115 h115
    rcases hF with hF | ⟨f89, fmd, fh, f77, f83⟩
    · exact absurd hF hs
    obtain ⟨hok, htt⟩ := dateC_ok ht
    have hdt : t = (dayNo (dateC t).y (dateC t).m (dateC t).d - 719162) * 86400 + (dateC t).h * 3600 + (dateC t).mi * 60 + (dateC t).s := htt.symm
    have hdd := date_day ht
    have hyi := year_in ht
    have hyl := year_le hok (by rw [htt]; exact ht2)
    have e89 : g 89 = some (dateC t).y := h1 89 f89
    have e77 : g 77 = some (dateC t).mi := h1 77 f77
    have e83 : g 83 = some (dateC t).s := h1 83 f83
    have p1 : ∀ (c : UInt8) (L : Bs) (o v : Int), g (c.toNat : Int) = some v → pickC g (c :: L) o = v := fun c L o v h => by rw [pickC_cons, h]
    have p2 : ∀ (c : UInt8) (L : Bs) (o : Int), g (c.toNat : Int) = none → pickC g (c :: L) o = pickC g L o := fun c L o h => by rw [pickC_cons, h]
    have hY : yC g = (dateC t).y := by
      unfold yC
      rw [e89]
      have := p1 89 [] 1970 _ e89
      cases g 121 <;> exact this
    have hMi : pickC g [77] 0 = (dateC t).mi := p1 77 [] 0 _ e77
    have hSe : pickC g [83] 0 = (dateC t).s := p1 83 [] 0 _ e83
    have hH : hC g = some (dateC t).h := by
      unfold hC
      cases h73 : g 73 with
      | none =>
        have h72 : g 72 = some (dateC t).h := by
          rcases fh with h | ⟨h, _⟩
          · exact h1 72 h
          · exact absurd h (hno 73 h73)
        exact congrArg some (p1 72 [] 0 _ h72)
      | some n =>
        cases h72 : g 72 with
        | some x =>
          have : x = (dateC t).h := by
            rcases hg 72 with h | h
            · have h9 : g 72 = none := h
              rw [h72] at h9; cases h9
            · have h9 : g 72 = some (dateC t).h := h
              rw [h72] at h9; injection h9
          subst this
          exact congrArg some (p1 72 [] 0 _ h72)
        | none =>
          have f112 : (112 : UInt8) ∈ L := by
            rcases fh with h | ⟨_, h⟩
            · exact absurd h (hno 72 h72)
            · exact h
          have hn : n = ((dateC t).h + 11) % 12 + 1 := by
            rcases hg 73 with h | h
            · have h9 : g 73 = none := h
              rw [h73] at h9; cases h9
            · have h9 : g 73 = some (((dateC t).h + 11) % 12 + 1) := h
              rw [h73] at h9; injection h9
          have hp : pickC g [112] 1 = (dateC t).h / 12 + 1 := p1 112 [] 1 _ (h1 112 f112)
          have a1 := hok.h0
          have a2 := hok.h1
          rw [hp, hn]
          have hw : winI (((dateC t).h + 11) % 12 + 1) 1 12 = true := by simp only [winI, Bool.and_eq_true, decide_eq_true_eq]; omega
          simp only
          rw [if_pos hw, Int.tmod_eq_emod_of_nonneg (by omega)]
          congr 1
          omega
    have b1 := hok.date.m1; have b2 := hok.date.m12; have b3 := hok.date.d1; have b4 := hok.date.dn
    have b5 := hok.h0; have b6 := hok.h1; have b7 := hok.mi0; have b8 := hok.mi1; have b9 := hok.s0; have b10 := hok.s1
    have hres : datedC g = (t, true) := by
      unfold datedC
      rw [hH]
      simp only
      rw [hY, hMi, hSe]
      cases h106 : g 106 with
      | none =>
        have hmd : ((109 ∈ L ∨ 66 ∈ L ∨ 98 ∈ L) ∧ (100 ∈ L ∨ 101 ∈ L)) := by
          rcases fmd with h | h
          · exact h
          · exact absurd h (hno 106 h106)
        have hM : pickC g [109, 66, 98] 1 = (dateC t).m := by
          rcases hg 109 with h | h
          · rw [p2 109 _ _ h]
            rcases hg 66 with h' | h'
            · rw [p2 66 _ _ h']
              rcases hg 98 with h'' | h''
              · exfalso
                rcases hmd.1 with q | q | q
                · exact hno 109 h q
                · exact hno 66 h' q
                · exact hno 98 h'' q
              · exact p1 98 _ _ _ h''
            · exact p1 66 _ _ _ h'
          · exact p1 109 _ _ _ h
        have hD : pickC g [100, 101] 1 = (dateC t).d := by
          rcases hg 100 with h | h
          · rw [p2 100 _ _ h]
            rcases hg 101 with h' | h'
            · exfalso
              rcases hmd.2 with q | q
              · exact hno 100 h q
              · exact hno 101 h' q
            · exact p1 101 _ _ _ h'
          · exact p1 100 _ _ _ h
        simp only
        rw [hM, hD]
        have hv : validB (dateC t).y (dateC t).m (dateC t).d (dateC t).h (dateC t).mi (dateC t).s = true := by
          unfold validB
          rw [decide_eq_true_eq]
          exact ⟨hyi.1, hyl, b1, b2, b3, b4, b5, b6, b7, b8, b9, b10⟩
        rw [if_pos hv]
        unfold timeI
        rw [← hdt]
      | some j =>
        have hj : j = ydC t := by
          rcases hg 106 with h | h
          · have h9 : g 106 = none := h
            rw [h106] at h9; cases h9
          · have h9 : g 106 = some (ydC t) := h
            rw [h106] at h9; injection h9
        have hv : validB (dateC t).y 1 1 (dateC t).h (dateC t).mi (dateC t).s = true := by
          unfold validB
          rw [decide_eq_true_eq]
          have := dim_ge (dateC t).y 1
          exact ⟨hyi.1, hyl, by omega, by omega, by omega, by omega, b5, b6, b7, b8, b9, b10⟩
        simp only
        rw [if_pos hv, hj]
        have hd1 : dayNo (dateC t).y 1 1 = bef (dateC t).y := by unfold dayNo; rw [cum_one]; omega
        have hyd : ydC t = dayOf t - bef (dateC t).y + 1 := rfl
        have hw : winI (ydC t) 1 (bef ((dateC t).y + 1) - bef (dateC t).y) = true := by
          simp only [winI, Bool.and_eq_true, decide_eq_true_eq]
          rw [hyd]
          omega
        rw [hw]
        congr 1
        unfold timeI
        rw [hd1, hyd]
        rw [hdd] at hdt
        omega
    rw [hres, if_pos ⟨rfl, hval⟩]
/-- A form that tells the whole time, letters apart: what is written is read. -/
theorem back_law {form : Bs} {l : List Part} {t : Int} (ht : -62135596800 ≤ t) (ht2 : t ≤ 253402300799) (hp : partsC form = some l) (hs : SepL l) (hg : ∀ p ∈ l, PG2 p) (hn : (letsL l).Nodup) (hF : FullL (letsL l)) : rdP (writeC t l) form = (t, 0) := by
  obtain ⟨g', h1, h2, h3⟩ := runs_back t ht ht2 l (fun _ => none) hs hg hn (fun _ _ => rfl)
  have hv : valuesC (writeC t l) form = some g' := by unfold valuesC; rw [hp]; simp only; rw [h1]; rfl
  have htm := back_time ht ht2 h2 (fun k hk => h3 k hk) hF
  unfold rdP
  rw [hv]
  simp only
  rw [htm, if_pos rfl, if_pos]
  intro c v hc
  by_cases hm : ∃ d ∈ letsL l, c = (d.toNat : Int)
  · obtain ⟨d, hd, rfl⟩ := hm
    rw [h2 d hd] at hc
    injection hc
  · rw [h3 c (fun d hd e => hm ⟨d, hd, e⟩)] at hc
    cases hc
end Go.Proofs.YtkahakhhdiffcaaGreatDoor
