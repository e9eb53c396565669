/- The reference's list: Join. The reference's dictionaries: Canonical. -/
import Derived.Test.YtpaffocniniakaaGreatRQuoteM
namespace Go.Proofs.YtpaffocniniakaaGreat
set_option linter.unusedVariables false
set_option linter.unusedSimpArgs false
open Go.RowKit

/-- Two texts put together: a name that no lemma lays open. -/
def cat (a b : Bs) : Bs := a ++ b
theorem ba_cat (a b : Bs) : (⟨a.toArray⟩ : ByteArray) ++ ⟨b.toArray⟩ = ⟨(cat a b).toArray⟩ := ba_append a b
theorem cat_len (a b : Bs) : (cat a b).length = a.length + b.length := List.length_append
attribute [local go_sem] ba_cat cat_len in
set_option maxRecDepth 100000 in
set_option maxHeartbeats 1600000 in
theorem rJoin_any (v : Value) (ss : List Bs) (w : World) (ht : TxtRow w v ss) (hx : ∀ x ∈ ss, x.length ≤ 1000000) :
    Calls Tryz.prog 26 #[v] w fun e w' => e = .returned (.tuple #[.string ⟨(joinE ss).1.toArray⟩, .int .i64 (joinE ss).2]) ∧ Below w.heap.size w w' := by
  obtain ⟨o, c, rfl, _⟩ := id ht
  obtain ⟨_, h1, h2, h3⟩ := ht.at_
  have HT := Lib.hid h3
  have HX := Lib.hid hx
  unfold maxLen at h2
  clear ht h3 hx
  by_cases hbig : 10000 < ss.length
  · have HR : Hid (joinE ss = ([], 4)) := if_neg (fun h => by omega)
    rw [HR.out]
    go_enter Tryz.func26, Tryz.ntmps26
    go_wp2_with fail
    go_ret2
    exact ⟨rfl, Below.refl _ _⟩
  · go_enter Tryz.func26, Tryz.ntmps26
    go_wp2_with fail
    go_loopg [4, 5, 6, 12] ss.length (fun g out _ _ v wr => ∃ (j : Nat), j + g = ss.length ∧ v = .int .i64 (j : Int) ∧ Hid (out = .string ⟨(joinL (ss.take j)).toArray⟩) ∧ Below w.heap.size w wr ∧ Hid ((joinL (ss.take j)).length ≤ 65536))
    case atStart => exact ⟨0, by omega, rfl, rfl, Below.refl _ _, by show _ ≤ _; simp [joinL]⟩
    case round =>
      obtain ⟨j, hjg, rfl, HO, hb, HL⟩ := hrel
      obtain ⟨acc, hacc⟩ : ∃ acc, joinL (ss.take j) = acc := ⟨_, rfl⟩
      rw [hacc] at HO HL
      have hal : acc.length ≤ 65536 := HL.out
      have ho := HO.out
      subst ho
      clear HO HL
      by_cases hlt : j < ss.length
      · obtain ⟨b, off, rfl, hbl, hc⟩ := HT.out j hlt
        have hjt := join_take hlt
        rw [hacc] at hjt
        have hxl := HX.out _ (List.getElem_mem hlt)
        obtain ⟨x, hxe⟩ : ∃ x, x = ss[j] := ⟨_, rfl⟩
        rw [← hxe] at hc hjt hxl
        have hcx : wr.cell? ⟨b, off + j, none⟩ = some (.string ⟨x.toArray⟩) := (hb.cell (p := ⟨b, off + j, none⟩) hbl).trans hc
        have hql := quote_len x
        have QU : Hid (∀ W, Calls Tryz.prog 49 #[.string ⟨x.toArray⟩] W fun e w' => e = .returned (.string ⟨(quote x).toArray⟩) ∧ Below W.heap.size W w') := fun W => rQuote_any x hxl W
        have hno : Hid (65536 < (joinL (ss.take (j + 1))).length → joinE ss = ([], 4)) := fun h => joinE_no h
        have HJ := Lib.hid hjt
        have t0 : decide ((j : Int) < (ss.length : Int)) = true := by rw [decide_eq_true_eq]; omega
        clear hjt hxe hc hacc
        generalize quote x = q at *
        by_cases h0 : j = 0
        · have HS : Hid (joinL (ss.take (j + 1)) = cat acc q) := by show _ = acc ++ q; rw [HJ.out, h0]; simp [sepK]
          have hj0 : ¬ 0 < j := by omega
          have c1 : ¬ (9223372036854775807 < acc.length + q.length) := by omega
          clear h0 HJ
          by_cases hov : 65536 < acc.length + q.length
          · have HR : Hid (joinE ss = ([], 4)) := hno.out (by rw [HS.out, cat_len]; exact hov)
            go_wp2_with (go_at_call 49; refine (QU.out _).mono ?_; rintro e w2 ⟨rfl, hB2⟩; have H2 := Lib.hid hB2; clear hB2)
            go_ret2
            exact ⟨ret2_si (by rw [HR.out]) (by rw [HR.out]), hb.trans (H2.out.mono hb.size)⟩
          · go_wp2_with (go_at_call 49; refine (QU.out _).mono ?_; rintro e w2 ⟨rfl, hB2⟩; have H2 := Lib.hid hB2; clear hB2)
            go_roundg (gk - 1)
            case measure => omega
            case rel => exact ⟨j + 1, by omega, by go_num, by show _ = _; rw [HS.out], hb.trans (H2.out.mono hb.size), by show _ ≤ _; rw [HS.out]; simp only [cat_len, List.length_cons, List.length_nil]; omega⟩
        · have HS : Hid (joinL (ss.take (j + 1)) = cat (cat acc [32]) q) := by show _ = acc ++ [32] ++ q; rw [HJ.out]; simp [sepK, h0]
          have hj0 : 0 < j := by omega
          have c1 : ¬ (9223372036854775807 < acc.length + 1 + q.length) := by omega
          have c2 : ¬ (9223372036854775807 < acc.length + 1) := by omega
          clear h0 HJ
          by_cases hov : 65536 < acc.length + 1 + q.length
          · have HR : Hid (joinE ss = ([], 4)) := hno.out (by rw [HS.out, cat_len, cat_len]; exact hov)
            go_wp2_with (go_at_call 49; refine (QU.out _).mono ?_; rintro e w2 ⟨rfl, hB2⟩; have H2 := Lib.hid hB2; clear hB2)
            go_ret2
            exact ⟨ret2_si (by rw [HR.out]) (by rw [HR.out]), hb.trans (H2.out.mono hb.size)⟩
          · go_wp2_with (go_at_call 49; refine (QU.out _).mono ?_; rintro e w2 ⟨rfl, hB2⟩; have H2 := Lib.hid hB2; clear hB2)
            go_roundg (gk - 1)
            case measure => omega
            case rel => exact ⟨j + 1, by omega, by go_num, by show _ = _; rw [HS.out], hb.trans (H2.out.mono hb.size), by show _ ≤ _; rw [HS.out]; simp only [cat_len, List.length_cons, List.length_nil]; omega⟩
      · obtain rfl : j = ss.length := by omega
        have t0 : decide ((ss.length : Int) < (ss.length : Int)) = false := by rw [decide_eq_false_iff_not]; omega
        rw [List.take_length] at hacc
        have HR : Hid (joinE ss = (acc, 0)) := by show _ = _; rw [joinE_ok (by omega) (by rw [hacc]; exact hal), hacc]
        clear hacc
        go_wp2_with fail
        go_ret2
        exact ⟨ret2_si (by rw [HR.out]) (by rw [HR.out]), hb⟩
end Go.Proofs.YtpaffocniniakaaGreat
namespace Go.Proofs.YtpaffocniniakaaGreat
set_option linter.unusedVariables false
set_option linter.unusedSimpArgs false
open Go.RowKit

theorem mem_flat : ∀ {ps : Prs} {x : Bs}, x ∈ flatP ps → ∃ p ∈ ps, x = p.1 ∨ x = p.2
  | [], x, h => by cases h
  | p :: r, x, h => by
    simp only [flatP, List.mem_cons] at h
    rcases h with h | h | h
    · exact ⟨p, by simp, .inl h⟩
    · exact ⟨p, by simp, .inr h⟩
    · obtain ⟨q, h1, h2⟩ := mem_flat h
      exact ⟨q, List.mem_cons_of_mem _ h1, h2⟩
theorem read_flat {s : Bs} {ps : Prs} (h : readC s = some ps) : ∀ x ∈ flatP ps, x.length ≤ s.length := by
  intro x hx
  obtain ⟨p, hp, e⟩ := mem_flat hx
  have := read_mem h hp
  rcases e with rfl | rfl
  · exact this.1
  · exact this.2
set_option maxRecDepth 100000 in
set_option maxHeartbeats 1600000 in
theorem rCanonical_any (s : Bs) (hs : s.length ≤ 19999) (w : World) :
    Calls Tryz.prog 7 #[.string ⟨s.toArray⟩] w fun e w' => e = .returned (.tuple #[.string ⟨(canonC s).1.toArray⟩, .int .i64 (canonC s).2]) ∧ Below w.heap.size w w' := by
  have PR := rPairs_any s hs w
  unfold canonC
  cases hr : readC s with
  | none =>
    have PR2 : Hid (Calls Tryz.prog 13 #[.string ⟨s.toArray⟩] w fun e w' => e = .returned (.tuple #[.slice none 0 0, .int .i64 11]) ∧ Below w.heap.size w w') := PR.mono fun e w' ⟨r, err, he, hb, h⟩ => by
      rcases h with ⟨_, rfl, rfl⟩ | ⟨ps, h', _⟩
      · exact ⟨he, hb⟩
      · rw [hr] at h'; cases h'
    clear PR hr
    go_enter Tryz.func7, Tryz.ntmps7
    go_wp2_with (go_at_call 13; refine PR2.out.mono ?_; rintro e w2 ⟨rfl, hB2⟩; have H2 := Lib.hid hB2; clear hB2)
    go_ret2
    exact ⟨rfl, H2.out⟩
  | some ps =>
    simp only
    have PR2 : Hid (Calls Tryz.prog 13 #[.string ⟨s.toArray⟩] w fun e w' => ∃ r, e = .returned (.tuple #[r, .int .i64 0]) ∧ Below w.heap.size w w' ∧ TxtRow w' r (flatP ps)) := PR.mono fun e w' ⟨r, err, he, hb, h⟩ => by
      rcases h with ⟨h', _⟩ | ⟨ps', h', rfl, ho⟩
      · rw [hr] at h'; cases h'
      · rw [hr] at h'; cases h'
        exact ⟨r, he, hb, TxtRow.of_owns ho⟩
    have JO : Hid (∀ v W, TxtRow W v (flatP ps) → Calls Tryz.prog 26 #[v] W fun e w' => e = .returned (.tuple #[.string ⟨(joinE (flatP ps)).1.toArray⟩, .int .i64 (joinE (flatP ps)).2]) ∧ Below W.heap.size W w') := fun v W ht => rJoin_any v _ W ht (fun x hx => by have := read_flat hr x hx; omega)
    clear PR hr
    generalize joinE (flatP ps) = q at *
    go_enter Tryz.func7, Tryz.ntmps7
    go_wp2_with (first | (go_at_call 13; refine PR2.out.mono ?_; rintro e w2 ⟨r, rfl, hB2, hT2⟩; have H2 := Lib.hid (And.intro hB2 hT2); clear hB2 hT2) | (go_at_call 26; refine (JO.out _ _ H2.out.2).mono ?_; rintro e w3 ⟨rfl, hB3⟩; have H3 := Lib.hid hB3; clear hB3))
    go_ret2
    exact ⟨rfl, H2.out.1.trans (H3.out.mono H2.out.1.size)⟩
end Go.Proofs.YtpaffocniniakaaGreat
