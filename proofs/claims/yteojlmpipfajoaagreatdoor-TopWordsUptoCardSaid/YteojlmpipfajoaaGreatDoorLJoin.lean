/- list.Join. -/
import Derived.Test.YteojlmpipfajoaaGreatDoorLQuote
import Derived.Test.YteojlmpipfajoaaGreatDoorLSplitM
namespace Go.Proofs.YteojlmpipfajoaaGreatDoor
set_option linter.unusedVariables false
set_option linter.unusedSimpArgs false
open Go.RowKit Go.Shelf

/-- A slice of texts that can be read. -/
def TxtRow (w : World) (v : Value) (ss : List Bs) : Prop := ∃ o c, v = .slice o ss.length c ∧ ss.length ≤ c ∧ c ≤ maxLen ∧ ∀ i (h : i < ss.length), ∃ b off, o = some ⟨b, off, none⟩ ∧ b < w.heap.size ∧ w.cell? ⟨b, off + i, none⟩ = some (sv ss[i])
theorem TxtRow.below {w w' : World} {v : Value} {ss : List Bs} (h : TxtRow w v ss) (hb : Below w.heap.size w w') : TxtRow w' v ss := by
  obtain ⟨o, c, h1, h2, h3, h4⟩ := h
  refine ⟨o, c, h1, h2, h3, fun i hi => ?_⟩
  obtain ⟨b, off, e, hl, hc⟩ := h4 i hi
  exact ⟨b, off, e, Nat.lt_of_lt_of_le hl hb.size, (hb.cell (p := ⟨b, off + i, none⟩) hl).trans hc⟩
theorem TxtRow.of_owns {w : World} {base : Nat} {v : Value} {ss : List Bs} (h : w.ownsRow base 9 1 v ss.length (ss.map sv)) : TxtRow w v ss := by
  rcases h.2 with ⟨h0, hl⟩ | ⟨g, cap, cur, rfl, hb, hg, h1, h2, h3, h4⟩
  · subst h0
    refine ⟨none, 0, ?_, by omega, by unfold maxLen; omega, fun i hi => by omega⟩
    rw [hl]
  · refine ⟨_, cap, rfl, h1, h2, fun i hi => ⟨g, 0, rfl, (Array.getElem?_eq_some_iff.1 hg).1, ?_⟩⟩
    have hj : (ss.map sv)[i]? = some (sv ss[i]) := by rw [List.getElem?_map, List.getElem?_eq_getElem hi]; rfl
    rw [← h4, List.getElem?_take, if_pos (by omega)] at hj
    simp only [World.cell?, hg, Nat.zero_add]
    simpa using hj
theorem TxtRow.nil (w : World) : TxtRow w (.slice none 0 0) [] := ⟨none, 0, rfl, Nat.le_refl _, by unfold maxLen; omega, fun i hi => by simp at hi⟩

theorem str_put {B : Nat} {bs t : Bs} {W : World} (h : IsB B B (Lib.byteCells bs) W) (hl : bs.length + t.length ≤ 1000000000) :
    Calls Tryz.prog 19 #[.pointer (some ⟨B, 0, none⟩), .string ⟨t.toArray⟩] W fun e w' => e = .returned (.tuple #[.int .i64 (t.length : Int), .nilIface]) ∧ IsB B B (Lib.byteCells (bs ++ t)) w' ∧ Below B W w' := by
  have hlt : B < W.heap.size := by obtain ⟨c, hc⟩ := h.block; exact (Array.getElem?_eq_some_iff.1 hc).1
  refine (WriteString_any B B _ ⟨t.toArray⟩ W h ?_ (by omega)).mono ?_
  · rw [byteCells_len]
    show bs.length + t.length ≤ _
    omega
  · rintro e w' ⟨rfl, h1, h2, h3⟩
    rw [← byteCells_more] at h1
    exact ⟨rfl, .inr h1, h2⟩
theorem len_put {B : Nat} {bs : Bs} {W : World} (h : IsB B B (Lib.byteCells bs) W) :
    Calls Tryz.prog 21 #[.pointer (some ⟨B, 0, none⟩)] W fun e w' => e = .returned (.int .i64 (bs.length : Int)) ∧ w' = W :=
  (Tryz.Builder_Len_f B B _ W h).mono fun e w' ⟨h1, h2⟩ => ⟨by rw [h1, byteCells_len], h2⟩
theorem len_putN {B n : Nat} {bs : Bs} {W : World} (h : IsB B B (Lib.byteCells bs) W) (hn : bs.length = n) :
    Calls Tryz.prog 21 #[.pointer (some ⟨B, 0, none⟩)] W fun e w' => e = .returned (.int .i64 (n : Int)) ∧ w' = W := by
  subst hn; exact len_put h
/-- What 'Join' writes ahead of an element. -/
def sepK (k : Nat) : Bs := if k = 0 then [] else [32]
theorem join_snoc : ∀ (l : List Bs) (x : Bs), joinL (l ++ [x]) = joinL l ++ sepK l.length ++ quote x := by
  intro l
  induction l with
  | nil => intro x; simp [joinL, sepK]
  | cons y l ih =>
    intro x
    cases l with
    | nil => simp [joinL, sepK]
    | cons z l =>
      have h := ih x
      show quote y ++ 32 :: joinL ((z :: l) ++ [x]) = _
      rw [h]
      simp [joinL, sepK]
theorem join_take {ss : List Bs} {k : Nat} (h : k < ss.length) : joinL (ss.take (k + 1)) = joinL (ss.take k) ++ sepK k ++ quote ss[k] := by
  rw [List.take_succ_eq_append_getElem h, join_snoc, List.length_take, Nat.min_eq_left (by omega)]
theorem join_mono : ∀ (ss : List Bs) (k : Nat), (joinL (ss.take k)).length ≤ (joinL ss).length := by
  intro ss
  suffices ∀ n k, n + k = ss.length → (joinL (ss.take k)).length ≤ (joinL ss).length by
    intro k
    rcases Nat.le_total k ss.length with h | h
    · exact this (ss.length - k) k (by omega)
    · rw [List.take_of_length_le h]; exact Nat.le_refl _
  intro n
  induction n with
  | zero => intro k h; rw [List.take_of_length_le (by omega)]; exact Nat.le_refl _
  | succ n ih =>
    intro k h
    have := ih (k + 1) (by omega)
    rw [join_take (by omega)] at this
    simp only [List.length_append] at this
    omega
theorem quote_ge (x : Bs) : x.length ≤ (quote x).length := by
  unfold quote
  split
  · rename_i h; subst h; simp
  · split
    · omega
    · split
      · simp; omega
      · cases x with
        | nil => simp [slashed]
        | cons c r =>
          have h1 : 1 ≤ (slashB true c).length := by unfold slashB; split <;> simp
          have h2 : ∀ s : Bs, s.length ≤ ((s.map (slashB false)).flatten).length := by
            intro s
            induction s with
            | nil => simp
            | cons d t ih =>
              have : 1 ≤ (slashB false d).length := by unfold slashB; split <;> simp
              simp only [List.map_cons, List.flatten_cons, List.length_append, List.length_cons]; omega
          have := h2 r
          simp only [slashed, List.length_append, List.length_cons]; omega
/-- What Join gives. -/
def joinE (ss : List Bs) : Bs × Int := if ss.length ≤ 10000 ∧ (joinL ss).length ≤ 65536 then (joinL ss, 0) else ([], 4)
theorem joinE_ok {ss : List Bs} (h1 : ss.length ≤ 10000) (h2 : (joinL ss).length ≤ 65536) : joinE ss = (joinL ss, 0) := if_pos ⟨h1, h2⟩
theorem joinE_no {ss : List Bs} {k : Nat} (h : 65536 < (joinL (ss.take k)).length) : joinE ss = ([], 4) := if_neg (fun h' => by have := join_mono ss k; omega)
/-- What holds at Join's loop's head. -/
def JoR (w : World) (ss : List Bs) (v : Value) (wr : World) : Prop := ∃ k : Nat, k ≤ ss.length ∧ v = .int .i64 (k : Int) ∧ (joinL (ss.take k)).length ≤ 65536 ∧ IsB w.heap.size w.heap.size (Lib.byteCells (joinL (ss.take k))) wr ∧ Below w.heap.size w wr
set_option maxRecDepth 100000 in
set_option maxHeartbeats 3200000 in
theorem Join_any (v : Value) (ss : List Bs) (w : World) (hM : MaxIs w) (hr : TxtRow w v ss) :
    Calls Tryz.prog 6 #[v] w fun e w' => e = .returned (.tuple #[.string ⟨(joinE ss).1.toArray⟩, .int .i64 (joinE ss).2]) ∧ Below w.heap.size w w' := by
  obtain ⟨o, c, rfl, hlc, hcm, hcells⟩ := hr
  unfold maxLen at hcm
  by_cases hmany : 10000 < ss.length
  · have HE : Hid (joinE ss = ([], 4)) := if_neg (fun h => by omega)
    rw [HE.out]
    have t0 : decide ((10000 : Int) < (ss.length : Int)) = true := by rw [decide_eq_true_eq]; omega
    clear hcells HE hM
    go_enter Tryz.func6, Tryz.ntmps6
    go_wp2
    go_ret2
    exact ⟨rfl, Below.refl _ _⟩
  have t0 : decide ((10000 : Int) < (ss.length : Int)) = false := by rw [decide_eq_false_iff_not]; omega
  have HC := Lib.hid hcells
  have HM := Lib.hid hM
  have hm0 := hM.pos
  clear hcells hM
  obtain ⟨je, hje⟩ : ∃ je, joinE ss = je := ⟨_, rfl⟩
  rw [hje]
  have HJE := Lib.hid hje
  clear hje
  go_enter Tryz.func6, Tryz.ntmps6
  go_wp2
  go_loopw [12] (fun v wr => JoR w ss v wr) (fun v _ => ss.length - (intOf v).toNat)
  case atStart => exact ⟨0, Nat.zero_le _, rfl, by simp [joinL], by rw [List.take_zero]; exact IsB.new w, (Below.refl _ _).alloc (Nat.le_refl _) _⟩
  case round =>
    obtain ⟨k, hk, rfl, hlen, hb, hB⟩ := hrel
    by_cases hlt : k < ss.length
    · obtain ⟨b, off, rfl, hbl, hcell⟩ := HC.out k hlt
      have hc1 := (hB.cell (p := ⟨b, off + k, none⟩) hbl).trans hcell
      have hx := join_take hlt
      have hkc : (k : Int) < (c : Int) := by omega
      obtain ⟨x, hxx⟩ : ∃ x, ss[k] = x := ⟨_, rfl⟩
      rw [hxx] at hc1 hx
      have HB := Lib.hid hb
      have HW := Lib.hid hB
      have HX := Lib.hid hx
      have HN : Hid (65536 < (joinL (ss.take (k + 1))).length → je = ([], 4)) := fun h => by rw [← HJE.out]; exact joinE_no h
      clear hcell hxx hb hB hx
      generalize joinL (ss.take k) = acc at *
      have HQL := Lib.hid (And.intro (quote_len x) (quote_ge x))
      by_cases hlong : 65536 < x.length
      · have hjn := HN.out (by have := HQL.out.2; rw [HX.out]; simp only [List.length_append]; omega)
        subst hjn
        have t1 : decide ((65536 : Int) < (x.length : Int)) = true := by rw [decide_eq_true_eq]; omega
        clear HN HQL HX
        by_cases h0 : k = 0
        · have t2 : ¬ 0 < k := by omega
          clear h0
          go_wp2
          go_ret2
          exact ⟨rfl, HW.out⟩
        · have t2 : 0 < k := by omega
          clear h0
          go_wp2_with (go_at_call 18; refine (byte_put HB.out 32 (by omega)).mono ?_; rintro e w1 ⟨rfl, hb1, hB1⟩; have HW1 := Lib.hid (HW.out.trans hB1); have hc2 := (hB1.cell (p := ⟨b, off + k, none⟩) hbl).trans hc1; clear hb1 hB1 HB HW hc1)
          go_ret2
          exact ⟨rfl, HW1.out⟩
      · have t1 : decide ((65536 : Int) < (x.length : Int)) = false := by rw [decide_eq_false_iff_not]; omega
        have hxl : x.length ≤ 1000000 := by omega
        have QU : Hid (∀ W, Below w.heap.size w W → Calls Tryz.prog 20 #[.string ⟨x.toArray⟩] W fun e w' => e = .returned (.string ⟨(quote x).toArray⟩) ∧ Below W.heap.size W w') := fun W hW => Quote_any x hxl W (HM.out.below hW hm0)
        have hql : (quote x).length ≤ 200000 := by have := HQL.out.1; omega
        clear HQL hlong
        generalize quote x = q at *
        by_cases h0 : k = 0
        · have hs0 : sepK k = [] := by unfold sepK; rw [if_pos h0]
          rw [hs0, List.append_nil] at HX
          have t2 : ¬ 0 < k := by omega
          clear h0 hs0
          obtain ⟨n, hn⟩ : ∃ n, (acc ++ q).length = n := ⟨_, rfl⟩
          have HNN := Lib.hid hn
          by_cases hl2 : 65536 < n
          · have hjn := HN.out (by rw [HX.out, hn]; exact hl2)
            subst hjn
            have t3 : decide ((65536 : Int) < (n : Int)) = true := by rw [decide_eq_true_eq]; omega
            clear HN HX hn
            go_wp2_with (first | (go_at_call 20; refine (QU.out _ HW.out).mono ?_; rintro e w2 ⟨rfl, hB2⟩; replace HB := Lib.hid (HB.out.below hB2); replace HW := Lib.hid (HW.out.trans (hB2.mono HW.out.size)); clear hB2) | (go_at_call 19; refine (str_put HB.out (by omega)).mono ?_; rintro e w3 ⟨rfl, hb3, hB3⟩; have HB2 := Lib.hid hb3; replace HW := Lib.hid (HW.out.trans hB3); clear hb3 hB3 HB) | (go_at_call 21; refine (len_putN HB2.out HNN.out).mono ?_; rintro e w4 ⟨rfl, rfl⟩; skip))
            go_ret2
            exact ⟨rfl, HW.out⟩
          · have t3 : decide ((65536 : Int) < (n : Int)) = false := by rw [decide_eq_false_iff_not]; omega
            clear HN hn
            go_wp2_with (first | (go_at_call 20; refine (QU.out _ HW.out).mono ?_; rintro e w2 ⟨rfl, hB2⟩; replace HB := Lib.hid (HB.out.below hB2); replace HW := Lib.hid (HW.out.trans (hB2.mono HW.out.size)); clear hB2) | (go_at_call 19; refine (str_put HB.out (by omega)).mono ?_; rintro e w3 ⟨rfl, hb3, hB3⟩; have HB2 := Lib.hid hb3; replace HW := Lib.hid (HW.out.trans hB3); clear hb3 hB3 HB) | (go_at_call 21; refine (len_putN HB2.out HNN.out).mono ?_; rintro e w4 ⟨rfl, rfl⟩; skip))
            go_roundw
            case rel => exact ⟨k + 1, hlt, by go_num, by rw [HX.out, HNN.out]; omega, by rw [HX.out]; exact HB2.out, HW.out⟩
            case measure => simp [intOf]; omega
        · have hs0 : sepK k = [32] := by unfold sepK; rw [if_neg h0]
          rw [hs0] at HX
          have t2 : 0 < k := by omega
          clear h0 hs0
          obtain ⟨n, hn⟩ : ∃ n, (acc ++ [32] ++ q).length = n := ⟨_, rfl⟩
          have HNN := Lib.hid hn
          by_cases hl2 : 65536 < n
          · have hjn := HN.out (by rw [HX.out, hn]; exact hl2)
            subst hjn
            have t3 : decide ((65536 : Int) < (n : Int)) = true := by rw [decide_eq_true_eq]; omega
            clear HN HX hn
            go_wp2_with (first | (go_at_call 18; refine (byte_put HB.out 32 (by omega)).mono ?_; rintro e w1 ⟨rfl, hb1, hB1⟩; replace HB := Lib.hid hb1; replace HW := Lib.hid (HW.out.trans hB1); have hc2 := (hB1.cell (p := ⟨b, off + k, none⟩) hbl).trans hc1; clear hb1 hB1 hc1) | (go_at_call 20; refine (QU.out _ HW.out).mono ?_; rintro e w2 ⟨rfl, hB2⟩; replace HB := Lib.hid (HB.out.below hB2); replace HW := Lib.hid (HW.out.trans (hB2.mono HW.out.size)); clear hB2) | (go_at_call 19; refine (str_put HB.out (by simp; omega)).mono ?_; rintro e w3 ⟨rfl, hb3, hB3⟩; have HB2 := Lib.hid hb3; replace HW := Lib.hid (HW.out.trans hB3); clear hb3 hB3 HB) | (go_at_call 21; refine (len_putN HB2.out HNN.out).mono ?_; rintro e w4 ⟨rfl, rfl⟩; skip))
            go_ret2
            exact ⟨rfl, HW.out⟩
          · have t3 : decide ((65536 : Int) < (n : Int)) = false := by rw [decide_eq_false_iff_not]; omega
            clear HN hn
            go_wp2_with (first | (go_at_call 18; refine (byte_put HB.out 32 (by omega)).mono ?_; rintro e w1 ⟨rfl, hb1, hB1⟩; replace HB := Lib.hid hb1; replace HW := Lib.hid (HW.out.trans hB1); have hc2 := (hB1.cell (p := ⟨b, off + k, none⟩) hbl).trans hc1; clear hb1 hB1 hc1) | (go_at_call 20; refine (QU.out _ HW.out).mono ?_; rintro e w2 ⟨rfl, hB2⟩; replace HB := Lib.hid (HB.out.below hB2); replace HW := Lib.hid (HW.out.trans (hB2.mono HW.out.size)); clear hB2) | (go_at_call 19; refine (str_put HB.out (by simp; omega)).mono ?_; rintro e w3 ⟨rfl, hb3, hB3⟩; have HB2 := Lib.hid hb3; replace HW := Lib.hid (HW.out.trans hB3); clear hb3 hB3 HB) | (go_at_call 21; refine (len_putN HB2.out HNN.out).mono ?_; rintro e w4 ⟨rfl, rfl⟩; skip))
            go_roundw
            case rel => exact ⟨k + 1, hlt, by go_num, by rw [HX.out, HNN.out]; omega, by rw [HX.out]; exact HB2.out, HW.out⟩
            case measure => simp [intOf]; omega
    · obtain rfl : k = ss.length := by omega
      rw [List.take_length] at hb hlen
      have hj := (joinE_ok (by omega : ss.length ≤ 10000) hlen).symm.trans HJE.out
      have HB := Lib.hid hb
      have HW := Lib.hid hB
      have HJ := Lib.hid hj
      have hle : w.heap.size ≤ wr.heap.size := hB.size
      clear hb hB hj HJE
      go_wp2_with (go_at_call 22; refine (Tryz.Builder_String_any_k w.heap.size w.heap.size (joinL ss) _ HB.out hle).mono ?_; rintro e w1 ⟨rfl, _, hB1, _⟩; skip)
      go_ret2
      exact ⟨by rw [← HJ.out]; rfl, HW.out.trans hB1⟩
end Go.Proofs.YteojlmpipfajoaaGreatDoor
