/- The reference's put, Set. Printed by mkPut.py. -/
import Derived.Test.YtpaffocniniakaaPathR3
namespace Go.Proofs.Ytpaffocniniakaa
set_option linter.unusedVariables false
set_option linter.unusedSimpArgs false
open Go.RowKit

theorem joinE_short (ss : List Bs) : (joinE ss).1.length ≤ 65536 := by
  unfold joinE
  split
  · rename_i h; exact h.2
  · exact Nat.zero_le _
theorem putC_len (path : List Bs) (s value : Bs) : (putC path s value).1.length ≤ value.length + 65536 := by
  cases path with
  | nil => exact Nat.le_add_right _ _
  | cons k r =>
    rw [putC, chgE]
    split
    · exact Nat.zero_le _
    · split
      · exact Nat.le_trans (joinE_short _) (by omega)
      · exact Nat.zero_le _
set_option maxRecDepth 100000 in
set_option maxHeartbeats 1600000 in
theorem rput_in1 {value k : Bs} {s : Bs} {cb off : Nat} {w : World} (hs : s.length ≤ 19999) (hv : value.length ≤ 900000) (hkl : k.length ≤ 1000000) (hcbl : cb < w.heap.size) (hck : w.cell? ⟨cb, off, none⟩ = some (.string ⟨k.toArray⟩)) 
    (IH : ∀ s v W, s.length ≤ 19999 → Below w.heap.size w W → TxtRow W v [] → Calls Try.prog 52 #[.string ⟨s.toArray⟩, v, .string ⟨value.toArray⟩] W fun e w' => e = .returned (.tuple #[.string ⟨(putC [] s value).1.toArray⟩, .int .i64 (putC [] s value).2]) ∧ Below W.heap.size W w') :
    Calls Try.prog 52 #[.string ⟨s.toArray⟩, .slice (some ⟨cb, off, none⟩) 1 1, .string ⟨value.toArray⟩] w fun e w' => e = .returned (.tuple #[.string ⟨(putC (k :: []) s value).1.toArray⟩, .int .i64 (putC (k :: []) s value).2]) ∧ Below w.heap.size w w' := by
  have HT : Hid (∀ W, Below w.heap.size w W → TxtRow W (.slice (some ⟨cb, off, none⟩) 0 0) []) := fun W _ => ⟨_, _, rfl, Nat.zero_le _, by unfold maxLen; omega, fun i hi => by simp at hi⟩
  cases hr : readC s with
  | none =>
    have P1 := Lib.hid (rp_none hs hr w)
    have HQ : Hid (putC (k :: []) s value = ([], 11)) := by show chgE s (fun ps => (putC [] (valC ps k) value).2) (fun ps => setP ps k (putC [] (valC ps k) value).1) = _; rw [chgE, hr]
    rw [HQ.out]
    clear hr IH
    go_enter Try.func52, Try.ntmps52
    go_wp2_with (go_at_call 17; refine P1.out.mono ?_; rintro e w1 ⟨rfl, hB1⟩; have H1 := Lib.hid hB1; clear hB1)
    go_ret2
    exact ⟨rfl, H1.out⟩
  | some ps =>
    have hvl := val_len hr k
    have hrl := read_len hr
    have P1 := Lib.hid (rp_some hs hr w)
    have hfl := flatP_len ps
    obtain ⟨n, hn⟩ : ∃ n, (flatP ps).length = n := ⟨_, rfl⟩
    have hn2 : n ≤ 1000000 := by omega
    rw [hn] at P1
    have FI : Hid (∀ v W, TxtRow W v (flatP ps) → Calls Try.prog 40 #[v, .string ⟨k.toArray⟩] W fun e w' => e = .returned (.int .i64 (findI ps k)) ∧ W = w') := fun v W h => rfind_any v ps k W h (by omega)
    have PUT : Hid (∀ W, Below w.heap.size w W → Calls Try.prog 52 #[.string ⟨(valC ps k).toArray⟩, .slice (some ⟨cb, off, none⟩) 0 0, .string ⟨value.toArray⟩] W fun e w' => e = .returned (.tuple #[.string ⟨(putC [] (valC ps k) value).1.toArray⟩, .int .i64 (putC [] (valC ps k) value).2]) ∧ Below W.heap.size W w') := fun W h => IH _ _ W (by omega) h (HT.out W h)
    have HQ : Hid (putC (k :: []) s value = if (putC [] (valC ps k) value).2 = 0 then joinE (flatP (setP ps k (putC [] (valC ps k) value).1)) else ([], (putC [] (valC ps k) value).2)) := by show chgE s (fun ps => (putC [] (valC ps k) value).2) (fun ps => setP ps k (putC [] (valC ps k) value).1) = _; rw [chgE, hr]
    have hpl := putC_len [] (valC ps k) value
    obtain ⟨⟨pt, pe⟩, hpq⟩ : ∃ q, putC [] (valC ps k) value = q := ⟨_, rfl⟩
    rw [hpq] at PUT HQ hpl
    simp only at PUT HQ hpl
    have SE : Hid (∀ v W, TxtRow W v (flatP ps) → Calls Try.prog 62 #[v, .string ⟨k.toArray⟩, .string ⟨pt.toArray⟩] W fun e w' => ∃ r, e = .returned r ∧ Below W.heap.size W w' ∧ w'.ownsRow W.heap.size 9 1 r (flatP (setP ps k pt)).length ((flatP (setP ps k pt)).map sv)) := fun v W h => rset_any v ps k pt W h (by omega)
    have JO : Hid (∀ v W, TxtRow W v (flatP (setP ps k pt)) → Calls Try.prog 37 #[v] W fun e w' => e = .returned (.tuple #[.string ⟨(joinE (flatP (setP ps k pt))).1.toArray⟩, .int .i64 (joinE (flatP (setP ps k pt))).2]) ∧ Below W.heap.size W w') := fun v W h => rJoin_any v _ W h (fun x hx => by
      obtain ⟨p, hp, hx'⟩ := mem_flat hx
      rcases mem_setP hp with h1 | h1
      · have := read_mem hr h1; rcases hx' with rfl | rfl <;> omega
      · subst h1
        rcases hx' with rfl | rfl
        · exact hkl
        · exact Nat.le_trans hpl (by omega))
    have FL : Hid (∀ W o c, TxtRow W (.slice o n c) (flatP ps) → (getP ps k = none ∧ findI ps k = -1) ∨ ∃ m b off, getP ps k = some (valC ps k) ∧ findI ps k = ((m : Nat) : Int) ∧ m < n ∧ o = some ⟨b, off, none⟩ ∧ b < W.heap.size ∧ W.cell? ⟨b, off + m, none⟩ = some (.string ⟨(valC ps k).toArray⟩)) := fun W o c h => find_lies k h
    have hv0 : getP ps k = none → valC ps k = [] := fun h => by unfold valC; rw [h]; rfl
    clear hr IH hpq hpl hfl hrl hn hvl
    generalize valC ps k = vv at *
    cases hg : getP ps k with
    | none =>
      obtain rfl := hv0 hg
      have FI2 : Hid (∀ W o c, TxtRow W (.slice o n c) (flatP ps) → Calls Try.prog 40 #[.slice o n c, .string ⟨k.toArray⟩] W fun e w' => e = .returned (.int .i64 (-1)) ∧ W = w') := fun W o c h => by
        rcases FL.out W o c h with ⟨_, e⟩ | ⟨m, b, off, h', _⟩
        · rw [← e]; exact FI.out _ W h
        · rw [hg] at h'; cases h'
      clear hg FI FL hv0
      by_cases hpe : pe = 0
      · subst hpe
        rw [if_pos rfl] at HQ
        obtain ⟨q, hq⟩ : ∃ q, joinE (flatP (setP ps k pt)) = q := ⟨_, rfl⟩
        rw [hq] at HQ JO
        rw [HQ.out]
        clear hq HQ
        go_enter Try.func52, Try.ntmps52
        go_wp2_with (first | (go_at_call 17; refine P1.out.mono ?_; rintro e w1 ⟨o1, c1', rfl, hB1, hT1⟩; have hk1 := (hB1.cell (p := ⟨cb, off, none⟩) hcbl).trans hck; have H1 := Lib.hid (And.intro hB1 (And.intro hT1 (FI2.out _ _ _ hT1))); clear hB1 hT1) | (go_at_call 40; refine H1.out.2.2.mono ?_; rintro e w2 ⟨rfl, rfl⟩; skip) | (go_at_call 52; refine (PUT.out _ H1.out.1).mono ?_; rintro e w3 ⟨rfl, hB3⟩; have hk3 := (hB3.cell (p := ⟨cb, off, none⟩) (Nat.lt_of_lt_of_le hcbl H1.out.1.size)).trans hk1; have H3 := Lib.hid (And.intro hB3 (H1.out.2.1.below hB3)); clear hB3) | (go_at_call 62; refine (SE.out _ _ H3.out.2).mono ?_; rintro e w4 ⟨r4, rfl, hB4, hO4⟩; have H4 := Lib.hid (And.intro hB4 (TxtRow.of_owns hO4)); clear hB4 hO4) | (go_at_call 37; refine (JO.out _ _ H4.out.2).mono ?_; rintro e w5 ⟨rfl, hB5⟩; have H5 := Lib.hid hB5; clear hB5))
        go_ret2
        exact ⟨rfl, H1.out.1.trans ((H3.out.1.trans ((H4.out.1.trans (H5.out.mono H4.out.1.size)).mono H3.out.1.size)).mono H1.out.1.size)⟩
      · have t1 : (pe == 0) = false := beq_eq_false_iff_ne.2 hpe
        rw [if_neg hpe] at HQ
        rw [HQ.out]
        clear hpe SE JO HQ
        go_enter Try.func52, Try.ntmps52
        go_wp2_with (first | (go_at_call 17; refine P1.out.mono ?_; rintro e w1 ⟨o1, c1', rfl, hB1, hT1⟩; have hk1 := (hB1.cell (p := ⟨cb, off, none⟩) hcbl).trans hck; have H1 := Lib.hid (And.intro hB1 (And.intro hT1 (FI2.out _ _ _ hT1))); clear hB1 hT1) | (go_at_call 40; refine H1.out.2.2.mono ?_; rintro e w2 ⟨rfl, rfl⟩; skip) | (go_at_call 52; refine (PUT.out _ H1.out.1).mono ?_; rintro e w3 ⟨rfl, hB3⟩; have hk3 := (hB3.cell (p := ⟨cb, off, none⟩) (Nat.lt_of_lt_of_le hcbl H1.out.1.size)).trans hk1; have H3 := Lib.hid (And.intro hB3 (H1.out.2.1.below hB3)); clear hB3))
        go_ret2
        exact ⟨rfl, H1.out.1.trans (H3.out.1.mono H1.out.1.size)⟩
    | some x =>
      have FI2 : Hid (∀ W o c, TxtRow W (.slice o n c) (flatP ps) → ∃ m b off, m < n ∧ o = some ⟨b, off, none⟩ ∧ W.cell? ⟨b, off + m, none⟩ = some (.string ⟨vv.toArray⟩) ∧ Calls Try.prog 40 #[.slice o n c, .string ⟨k.toArray⟩] W fun e w' => e = .returned (.int .i64 (m : Int)) ∧ W = w') := fun W o c h => by
        rcases FL.out W o c h with ⟨h', _⟩ | ⟨m, b, off, h1, h2, h3, h4, _, h5⟩
        · rw [hg] at h'; cases h'
        · exact ⟨m, b, off, h3, h4, h5, by rw [← h2]; exact FI.out _ W h⟩
      clear hg FI FL hv0
      by_cases hpe : pe = 0
      · subst hpe
        rw [if_pos rfl] at HQ
        obtain ⟨q, hq⟩ : ∃ q, joinE (flatP (setP ps k pt)) = q := ⟨_, rfl⟩
        rw [hq] at HQ JO
        rw [HQ.out]
        clear hq HQ
        go_enter Try.func52, Try.ntmps52
        go_wp2_with (first | (go_at_call 17; refine P1.out.mono ?_; rintro e w1 ⟨o1, c1', rfl, hB1, hT1⟩; have hk1 := (hB1.cell (p := ⟨cb, off, none⟩) hcbl).trans hck; obtain ⟨m, b1, f1, hm1, ho1, hm2, hFF⟩ := FI2.out _ _ _ hT1; subst ho1; have hm3 : decide ((0 : Int) ≤ (m : Int)) = true := (by rw [decide_eq_true_eq]; omega); have H1 := Lib.hid (And.intro hB1 (And.intro hT1 hFF)); clear hFF; clear hB1 hT1) | (go_at_call 40; refine H1.out.2.2.mono ?_; rintro e w2 ⟨rfl, rfl⟩; skip) | (go_at_call 52; refine (PUT.out _ H1.out.1).mono ?_; rintro e w3 ⟨rfl, hB3⟩; have hk3 := (hB3.cell (p := ⟨cb, off, none⟩) (Nat.lt_of_lt_of_le hcbl H1.out.1.size)).trans hk1; have H3 := Lib.hid (And.intro hB3 (H1.out.2.1.below hB3)); clear hB3) | (go_at_call 62; refine (SE.out _ _ H3.out.2).mono ?_; rintro e w4 ⟨r4, rfl, hB4, hO4⟩; have H4 := Lib.hid (And.intro hB4 (TxtRow.of_owns hO4)); clear hB4 hO4) | (go_at_call 37; refine (JO.out _ _ H4.out.2).mono ?_; rintro e w5 ⟨rfl, hB5⟩; have H5 := Lib.hid hB5; clear hB5))
        go_ret2
        exact ⟨rfl, H1.out.1.trans ((H3.out.1.trans ((H4.out.1.trans (H5.out.mono H4.out.1.size)).mono H3.out.1.size)).mono H1.out.1.size)⟩
      · have t1 : (pe == 0) = false := beq_eq_false_iff_ne.2 hpe
        rw [if_neg hpe] at HQ
        rw [HQ.out]
        clear hpe SE JO HQ
        go_enter Try.func52, Try.ntmps52
        go_wp2_with (first | (go_at_call 17; refine P1.out.mono ?_; rintro e w1 ⟨o1, c1', rfl, hB1, hT1⟩; have hk1 := (hB1.cell (p := ⟨cb, off, none⟩) hcbl).trans hck; obtain ⟨m, b1, f1, hm1, ho1, hm2, hFF⟩ := FI2.out _ _ _ hT1; subst ho1; have hm3 : decide ((0 : Int) ≤ (m : Int)) = true := (by rw [decide_eq_true_eq]; omega); have H1 := Lib.hid (And.intro hB1 (And.intro hT1 hFF)); clear hFF; clear hB1 hT1) | (go_at_call 40; refine H1.out.2.2.mono ?_; rintro e w2 ⟨rfl, rfl⟩; skip) | (go_at_call 52; refine (PUT.out _ H1.out.1).mono ?_; rintro e w3 ⟨rfl, hB3⟩; have hk3 := (hB3.cell (p := ⟨cb, off, none⟩) (Nat.lt_of_lt_of_le hcbl H1.out.1.size)).trans hk1; have H3 := Lib.hid (And.intro hB3 (H1.out.2.1.below hB3)); clear hB3))
        go_ret2
        exact ⟨rfl, H1.out.1.trans (H3.out.1.mono H1.out.1.size)⟩
set_option maxRecDepth 100000 in
set_option maxHeartbeats 1600000 in
theorem rput_in2 {value k : Bs} {r : List Bs} {s : Bs} {cb off c : Nat} {w : World} (hs : s.length ≤ 19999) (hv : value.length ≤ 900000) (hkl : k.length ≤ 1000000) (hcbl : cb < w.heap.size) (hck : w.cell? ⟨cb, off, none⟩ = some (.string ⟨k.toArray⟩)) (hcl : r.length + 1 ≤ c) (hcm : c ≤ maxLen) (hc1 : ¬ c = 1) (ht : TxtRow w (.slice (some ⟨cb, off + 1, none⟩) r.length (c - 1)) r)
    (IH : ∀ s v W, s.length ≤ 19999 → Below w.heap.size w W → TxtRow W v r → Calls Try.prog 52 #[.string ⟨s.toArray⟩, v, .string ⟨value.toArray⟩] W fun e w' => e = .returned (.tuple #[.string ⟨(putC r s value).1.toArray⟩, .int .i64 (putC r s value).2]) ∧ Below W.heap.size W w') :
    Calls Try.prog 52 #[.string ⟨s.toArray⟩, .slice (some ⟨cb, off, none⟩) (r.length + 1) c, .string ⟨value.toArray⟩] w fun e w' => e = .returned (.tuple #[.string ⟨(putC (k :: r) s value).1.toArray⟩, .int .i64 (putC (k :: r) s value).2]) ∧ Below w.heap.size w w' := by
  have HT : Hid (∀ W, Below w.heap.size w W → TxtRow W (.slice (some ⟨cb, off + 1, none⟩) r.length (c - 1)) r) := fun W h => ht.below h
  clear ht
  have c1 : (1 : Int) ≤ (c : Int) := by omega
  have c2 : (1 : Int) ≤ (r.length : Int) + 1 := by omega
  have c3 : (r.length : Int) + 1 ≤ (c : Int) := by omega
  have c5 : (r.length : Int) ≤ (c : Int) := by omega
  have t5 : ((r.length : Int) + 1 == 0) = false := by rw [beq_eq_false_iff_ne]; omega
  unfold maxLen at hcm
  cases hr : readC s with
  | none =>
    have P1 := Lib.hid (rp_none hs hr w)
    have HQ : Hid (putC (k :: r) s value = ([], 11)) := by show chgE s (fun ps => (putC r (valC ps k) value).2) (fun ps => setP ps k (putC r (valC ps k) value).1) = _; rw [chgE, hr]
    rw [HQ.out]
    clear hr IH
    go_enter Try.func52, Try.ntmps52
    go_wp2_with (go_at_call 17; refine P1.out.mono ?_; rintro e w1 ⟨rfl, hB1⟩; have H1 := Lib.hid hB1; clear hB1)
    go_ret2
    exact ⟨rfl, H1.out⟩
  | some ps =>
    have hvl := val_len hr k
    have hrl := read_len hr
    have P1 := Lib.hid (rp_some hs hr w)
    have hfl := flatP_len ps
    obtain ⟨n, hn⟩ : ∃ n, (flatP ps).length = n := ⟨_, rfl⟩
    have hn2 : n ≤ 1000000 := by omega
    rw [hn] at P1
    have FI : Hid (∀ v W, TxtRow W v (flatP ps) → Calls Try.prog 40 #[v, .string ⟨k.toArray⟩] W fun e w' => e = .returned (.int .i64 (findI ps k)) ∧ W = w') := fun v W h => rfind_any v ps k W h (by omega)
    have PUT : Hid (∀ W, Below w.heap.size w W → Calls Try.prog 52 #[.string ⟨(valC ps k).toArray⟩, .slice (some ⟨cb, off + 1, none⟩) r.length (c - 1), .string ⟨value.toArray⟩] W fun e w' => e = .returned (.tuple #[.string ⟨(putC r (valC ps k) value).1.toArray⟩, .int .i64 (putC r (valC ps k) value).2]) ∧ Below W.heap.size W w') := fun W h => IH _ _ W (by omega) h (HT.out W h)
    have HQ : Hid (putC (k :: r) s value = if (putC r (valC ps k) value).2 = 0 then joinE (flatP (setP ps k (putC r (valC ps k) value).1)) else ([], (putC r (valC ps k) value).2)) := by show chgE s (fun ps => (putC r (valC ps k) value).2) (fun ps => setP ps k (putC r (valC ps k) value).1) = _; rw [chgE, hr]
    have hpl := putC_len r (valC ps k) value
    obtain ⟨⟨pt, pe⟩, hpq⟩ : ∃ q, putC r (valC ps k) value = q := ⟨_, rfl⟩
    rw [hpq] at PUT HQ hpl
    simp only at PUT HQ hpl
    have SE : Hid (∀ v W, TxtRow W v (flatP ps) → Calls Try.prog 62 #[v, .string ⟨k.toArray⟩, .string ⟨pt.toArray⟩] W fun e w' => ∃ r, e = .returned r ∧ Below W.heap.size W w' ∧ w'.ownsRow W.heap.size 9 1 r (flatP (setP ps k pt)).length ((flatP (setP ps k pt)).map sv)) := fun v W h => rset_any v ps k pt W h (by omega)
    have JO : Hid (∀ v W, TxtRow W v (flatP (setP ps k pt)) → Calls Try.prog 37 #[v] W fun e w' => e = .returned (.tuple #[.string ⟨(joinE (flatP (setP ps k pt))).1.toArray⟩, .int .i64 (joinE (flatP (setP ps k pt))).2]) ∧ Below W.heap.size W w') := fun v W h => rJoin_any v _ W h (fun x hx => by
      obtain ⟨p, hp, hx'⟩ := mem_flat hx
      rcases mem_setP hp with h1 | h1
      · have := read_mem hr h1; rcases hx' with rfl | rfl <;> omega
      · subst h1
        rcases hx' with rfl | rfl
        · exact hkl
        · exact Nat.le_trans hpl (by omega))
    have FL : Hid (∀ W o c, TxtRow W (.slice o n c) (flatP ps) → (getP ps k = none ∧ findI ps k = -1) ∨ ∃ m b off, getP ps k = some (valC ps k) ∧ findI ps k = ((m : Nat) : Int) ∧ m < n ∧ o = some ⟨b, off, none⟩ ∧ b < W.heap.size ∧ W.cell? ⟨b, off + m, none⟩ = some (.string ⟨(valC ps k).toArray⟩)) := fun W o c h => find_lies k h
    have hv0 : getP ps k = none → valC ps k = [] := fun h => by unfold valC; rw [h]; rfl
    clear hr IH hpq hpl hfl hrl hn hvl
    generalize valC ps k = vv at *
    cases hg : getP ps k with
    | none =>
      obtain rfl := hv0 hg
      have FI2 : Hid (∀ W o c, TxtRow W (.slice o n c) (flatP ps) → Calls Try.prog 40 #[.slice o n c, .string ⟨k.toArray⟩] W fun e w' => e = .returned (.int .i64 (-1)) ∧ W = w') := fun W o c h => by
        rcases FL.out W o c h with ⟨_, e⟩ | ⟨m, b, off, h', _⟩
        · rw [← e]; exact FI.out _ W h
        · rw [hg] at h'; cases h'
      clear hg FI FL hv0
      by_cases hpe : pe = 0
      · subst hpe
        rw [if_pos rfl] at HQ
        obtain ⟨q, hq⟩ : ∃ q, joinE (flatP (setP ps k pt)) = q := ⟨_, rfl⟩
        rw [hq] at HQ JO
        rw [HQ.out]
        clear hq HQ
        go_enter Try.func52, Try.ntmps52
        go_wp2_with (first | (go_at_call 17; refine P1.out.mono ?_; rintro e w1 ⟨o1, c1', rfl, hB1, hT1⟩; have hk1 := (hB1.cell (p := ⟨cb, off, none⟩) hcbl).trans hck; have H1 := Lib.hid (And.intro hB1 (And.intro hT1 (FI2.out _ _ _ hT1))); clear hB1 hT1) | (go_at_call 40; refine H1.out.2.2.mono ?_; rintro e w2 ⟨rfl, rfl⟩; skip) | (go_at_call 52; refine (PUT.out _ H1.out.1).mono ?_; rintro e w3 ⟨rfl, hB3⟩; have hk3 := (hB3.cell (p := ⟨cb, off, none⟩) (Nat.lt_of_lt_of_le hcbl H1.out.1.size)).trans hk1; have H3 := Lib.hid (And.intro hB3 (H1.out.2.1.below hB3)); clear hB3) | (go_at_call 62; refine (SE.out _ _ H3.out.2).mono ?_; rintro e w4 ⟨r4, rfl, hB4, hO4⟩; have H4 := Lib.hid (And.intro hB4 (TxtRow.of_owns hO4)); clear hB4 hO4) | (go_at_call 37; refine (JO.out _ _ H4.out.2).mono ?_; rintro e w5 ⟨rfl, hB5⟩; have H5 := Lib.hid hB5; clear hB5))
        go_ret2
        exact ⟨rfl, H1.out.1.trans ((H3.out.1.trans ((H4.out.1.trans (H5.out.mono H4.out.1.size)).mono H3.out.1.size)).mono H1.out.1.size)⟩
      · have t1 : (pe == 0) = false := beq_eq_false_iff_ne.2 hpe
        rw [if_neg hpe] at HQ
        rw [HQ.out]
        clear hpe SE JO HQ
        go_enter Try.func52, Try.ntmps52
        go_wp2_with (first | (go_at_call 17; refine P1.out.mono ?_; rintro e w1 ⟨o1, c1', rfl, hB1, hT1⟩; have hk1 := (hB1.cell (p := ⟨cb, off, none⟩) hcbl).trans hck; have H1 := Lib.hid (And.intro hB1 (And.intro hT1 (FI2.out _ _ _ hT1))); clear hB1 hT1) | (go_at_call 40; refine H1.out.2.2.mono ?_; rintro e w2 ⟨rfl, rfl⟩; skip) | (go_at_call 52; refine (PUT.out _ H1.out.1).mono ?_; rintro e w3 ⟨rfl, hB3⟩; have hk3 := (hB3.cell (p := ⟨cb, off, none⟩) (Nat.lt_of_lt_of_le hcbl H1.out.1.size)).trans hk1; have H3 := Lib.hid (And.intro hB3 (H1.out.2.1.below hB3)); clear hB3))
        go_ret2
        exact ⟨rfl, H1.out.1.trans (H3.out.1.mono H1.out.1.size)⟩
    | some x =>
      have FI2 : Hid (∀ W o c, TxtRow W (.slice o n c) (flatP ps) → ∃ m b off, m < n ∧ o = some ⟨b, off, none⟩ ∧ W.cell? ⟨b, off + m, none⟩ = some (.string ⟨vv.toArray⟩) ∧ Calls Try.prog 40 #[.slice o n c, .string ⟨k.toArray⟩] W fun e w' => e = .returned (.int .i64 (m : Int)) ∧ W = w') := fun W o c h => by
        rcases FL.out W o c h with ⟨h', _⟩ | ⟨m, b, off, h1, h2, h3, h4, _, h5⟩
        · rw [hg] at h'; cases h'
        · exact ⟨m, b, off, h3, h4, h5, by rw [← h2]; exact FI.out _ W h⟩
      clear hg FI FL hv0
      by_cases hpe : pe = 0
      · subst hpe
        rw [if_pos rfl] at HQ
        obtain ⟨q, hq⟩ : ∃ q, joinE (flatP (setP ps k pt)) = q := ⟨_, rfl⟩
        rw [hq] at HQ JO
        rw [HQ.out]
        clear hq HQ
        go_enter Try.func52, Try.ntmps52
        go_wp2_with (first | (go_at_call 17; refine P1.out.mono ?_; rintro e w1 ⟨o1, c1', rfl, hB1, hT1⟩; have hk1 := (hB1.cell (p := ⟨cb, off, none⟩) hcbl).trans hck; obtain ⟨m, b1, f1, hm1, ho1, hm2, hFF⟩ := FI2.out _ _ _ hT1; subst ho1; have hm3 : decide ((0 : Int) ≤ (m : Int)) = true := (by rw [decide_eq_true_eq]; omega); have H1 := Lib.hid (And.intro hB1 (And.intro hT1 hFF)); clear hFF; clear hB1 hT1) | (go_at_call 40; refine H1.out.2.2.mono ?_; rintro e w2 ⟨rfl, rfl⟩; skip) | (go_at_call 52; refine (PUT.out _ H1.out.1).mono ?_; rintro e w3 ⟨rfl, hB3⟩; have hk3 := (hB3.cell (p := ⟨cb, off, none⟩) (Nat.lt_of_lt_of_le hcbl H1.out.1.size)).trans hk1; have H3 := Lib.hid (And.intro hB3 (H1.out.2.1.below hB3)); clear hB3) | (go_at_call 62; refine (SE.out _ _ H3.out.2).mono ?_; rintro e w4 ⟨r4, rfl, hB4, hO4⟩; have H4 := Lib.hid (And.intro hB4 (TxtRow.of_owns hO4)); clear hB4 hO4) | (go_at_call 37; refine (JO.out _ _ H4.out.2).mono ?_; rintro e w5 ⟨rfl, hB5⟩; have H5 := Lib.hid hB5; clear hB5))
        go_ret2
        exact ⟨rfl, H1.out.1.trans ((H3.out.1.trans ((H4.out.1.trans (H5.out.mono H4.out.1.size)).mono H3.out.1.size)).mono H1.out.1.size)⟩
      · have t1 : (pe == 0) = false := beq_eq_false_iff_ne.2 hpe
        rw [if_neg hpe] at HQ
        rw [HQ.out]
        clear hpe SE JO HQ
        go_enter Try.func52, Try.ntmps52
        go_wp2_with (first | (go_at_call 17; refine P1.out.mono ?_; rintro e w1 ⟨o1, c1', rfl, hB1, hT1⟩; have hk1 := (hB1.cell (p := ⟨cb, off, none⟩) hcbl).trans hck; obtain ⟨m, b1, f1, hm1, ho1, hm2, hFF⟩ := FI2.out _ _ _ hT1; subst ho1; have hm3 : decide ((0 : Int) ≤ (m : Int)) = true := (by rw [decide_eq_true_eq]; omega); have H1 := Lib.hid (And.intro hB1 (And.intro hT1 hFF)); clear hFF; clear hB1 hT1) | (go_at_call 40; refine H1.out.2.2.mono ?_; rintro e w2 ⟨rfl, rfl⟩; skip) | (go_at_call 52; refine (PUT.out _ H1.out.1).mono ?_; rintro e w3 ⟨rfl, hB3⟩; have hk3 := (hB3.cell (p := ⟨cb, off, none⟩) (Nat.lt_of_lt_of_le hcbl H1.out.1.size)).trans hk1; have H3 := Lib.hid (And.intro hB3 (H1.out.2.1.below hB3)); clear hB3))
        go_ret2
        exact ⟨rfl, H1.out.1.trans (H3.out.1.mono H1.out.1.size)⟩
set_option maxHeartbeats 400000 in
theorem rput_any {value : Bs} (hv : value.length ≤ 900000) : ∀ (path : List Bs) (s : Bs) (v : Value) (w : World), s.length ≤ 19999 → (∀ k ∈ path, k.length ≤ 1000000) → TxtRow w v path →
    Calls Try.prog 52 #[.string ⟨s.toArray⟩, v, .string ⟨value.toArray⟩] w fun e w' => e = .returned (.tuple #[.string ⟨(putC path s value).1.toArray⟩, .int .i64 (putC path s value).2]) ∧ Below w.heap.size w w' := by
  intro path
  induction path with
  | nil =>
    intro s v w hs _ ht
    obtain ⟨o, c, rfl, _⟩ := ht
    go_enter Try.func52, Try.ntmps52
    go_wp2_with fail
    go_ret2
    exact ⟨rfl, Below.refl _ _⟩
  | cons k r ih =>
    intro s v w hs hkl ht
    obtain ⟨o, c, rfl, _⟩ := id ht
    obtain ⟨cb, off, rfl, hcl, hcm, hbl, hc0, ht1⟩ := ht.first
    have hk := hkl k (by simp)
    by_cases c1 : c = 1
    · subst c1
      obtain rfl : r = [] := List.length_eq_zero_iff.1 (by have h9 : (k :: r).length = r.length + 1 := rfl; omega)
      exact rput_in1 hs hv hk hbl hc0 (fun s' v' W' h1 h2 h3 => ih s' v' W' h1 (by simp) h3)
    · exact rput_in2 hs hv hk hbl hc0 (by simpa using hcl) hcm c1 ht1 (fun s' v' W' h1 h2 h3 => ih s' v' W' h1 (fun x hx => hkl x (List.mem_cons_of_mem _ hx)) h3)
end Go.Proofs.Ytpaffocniniakaa
