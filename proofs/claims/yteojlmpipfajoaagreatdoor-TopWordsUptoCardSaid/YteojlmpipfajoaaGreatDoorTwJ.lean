/- The reader of scripts: texts without escaped line feeds; tokens of a text. -/
import Derived.Test.YteojlmpipfajoaaGreatDoorTwB
import Derived.Test.YteojlmpipfajoaaGreatDoorBuilder
import Derived.Lib.IndexMore
namespace Go.Proofs.YteojlmpipfajoaaGreatDoor
set_option linter.unusedVariables false
set_option linter.unusedSimpArgs false
open Go.RowKit
theorem index_ge1 (sub : Bs) : ∀ l : Bs, -1 ≤ Lib.index l sub
  | [] => by unfold Lib.index; split <;> omega
  | b :: l => by
    have := index_ge1 sub l
    unfold Lib.index
    split
    · omega
    · split
      · omega
      · rename_i h1 h2
        simp at h2
        omega
theorem contains_cons (b : UInt8) (l sub : Bs) : Lib.contains (b :: l) sub = (sub.isPrefixOf (b :: l) || Lib.contains l sub) := by
  have := index_ge1 sub l
  unfold Lib.contains
  rw [Lib.index]
  cases h : sub.isPrefixOf (b :: l) with
  | true => simp
  | false =>
    rw [if_neg (by decide), Bool.false_or]
    by_cases h1 : Lib.index l sub = -1
    · rw [if_pos (by rw [h1]; rfl), h1]
    · rw [if_neg (by simpa using h1)]
      rw [decide_eq_true (by omega : 0 ≤ Lib.index l sub + 1), decide_eq_true (by omega : 0 ≤ Lib.index l sub)]
theorem nl_free : ∀ {x : Bs}, Lib.contains x [92, 10] = false → ∀ j (h : j + 1 < x.length), x[j] = 92 → x[j + 1] ≠ 10
  | [], _, j, h, _ => by simp at h
  | a :: x, hc, j, h, h1 => by
    rw [contains_cons] at hc
    simp only [Bool.or_eq_false_iff] at hc
    cases j with
    | zero =>
      intro h2
      cases x with
      | nil => simp at h
      | cons b x =>
        have e1 : a = 92 := h1
        have e2 : b = 10 := h2
        subst e1 e2
        have := hc.1
        simp [List.isPrefixOf] at this
    | succ j => exact nl_free hc.2 j (by simpa using h) h1
set_option maxRecDepth 100000 in
set_option maxHeartbeats 1600000 in
theorem joined_any (x : Bs) (hx : x.length ≤ 100000) (hc : Lib.contains x [92, 10] = false) (w : World) :
    Calls Tryz.prog 103 #[.string ⟨x.toArray⟩] w fun e w' => e = .returned (.string ⟨x.toArray⟩) ∧ Below w.heap.size w w' := by
  have HN := Lib.hid (nl_free hc)
  clear hc
  go_enter Tryz.func103, Tryz.ntmps103
  go_wp2_with fail
  go_loopg [4, 5, 6] x.length (fun g v _ _ wr => ∃ (i : Nat) (acc : Bs), i + g = x.length ∧ v = .int .i64 i ∧ IsB w.heap.size w.heap.size (Lib.byteCells acc) wr ∧ Below w.heap.size w wr ∧ Hid (acc = x.take i))
  case atStart => exact ⟨0, [], by omega, rfl, IsB.new w, (Below.refl _ _).alloc (Nat.le_refl _) _, by simp [Hid]⟩
  case round =>
    obtain ⟨i, acc, hig, rfl, hB, hb, HI⟩ := hrel
    have hacc : acc.length ≤ x.length := by rw [HI.out]; exact List.length_take_le' _ _
    by_cases hlt : i < x.length
    · have t0 : decide ((i : Int) < (x.length : Int)) = true := by rw [decide_eq_true_eq]; omega
      have hlt' : (i : Int) < (x.length : Int) := by omega
      have h1 : Hid (acc ++ [x[i]] = x.take (i + 1)) := by rw [HI.out]; exact (List.take_succ_eq_append_getElem hlt).symm
      obtain ⟨c, hc⟩ : ∃ c, x[i] = c := ⟨_, rfl⟩
      rw [hc] at h1
      by_cases h92 : c = 92
      · have t1 : ((c.toNat : Int) != 92) = false := by rw [h92]; decide
        rcases Nat.lt_or_ge (i + 1) x.length with hn | hn
        · obtain ⟨d, hd⟩ : ∃ d, x[i + 1] = d := ⟨_, rfl⟩
          have hne : d ≠ 10 := by rw [← hd]; exact HN.out i hn (hc.trans h92)
          have t2 : ((d.toNat : Int) != 10) = true := congrArg not (show ((d.toNat : Int) == 10) = false from u8_ne (n := 10) hne)
          have t3 : ((i : Int) + 1 == (x.length : Int)) = false := by rw [beq_eq_false_iff_ne]; omega
          have hlt2 : (i : Int) + 1 < (x.length : Int) := by omega
          have hlt3 : (i : Int) + 2 ≤ (x.length : Int) := by omega
          have h2 : Hid (acc ++ [c, d] = x.take (i + 2)) := by
            show _ = x.take (i + 1 + 1)
            rw [HI.out, List.take_succ_eq_append_getElem (show i + 1 < x.length from hn), List.take_succ_eq_append_getElem hlt, hc, hd]
            simp
          have hts : List.take 2 (List.drop i x) = [c, d] := by
            rw [List.drop_eq_getElem_cons hlt, List.drop_eq_getElem_cons hn, hc, hd]
            rfl
          clear h92 hne HI h1
          go_wp2_with (go_at_call 19; refine (WriteString_any _ _ _ ⟨[c, d].toArray⟩ _ hB (by rw [byteCells_len]; simp [ByteArray.size]; omega) hb.size).mono ?_; rintro e w4 ⟨rfl, hB5, hb5, hk5⟩)
          go_roundg (gk - 2)
          case measure => omega
          case rel => exact ⟨i + 2, acc ++ [c, d], by omega, by go_num, .inr (by rw [byteCells_more]; exact hB5), hb.trans hb5, h2⟩
        · have t3 : ((i : Int) + 1 == (x.length : Int)) = true := by rw [beq_iff_eq]; omega
          clear h92 HI
          go_wp2_with (go_at_call 18; refine (WriteByte_any _ _ _ _ _ hB (by rw [byteCells_len]; omega) hb.size).mono ?_; rintro e w4 ⟨rfl, hB5, hb5, hk5⟩)
          go_roundg (gk - 1)
          case measure => omega
          case rel => exact ⟨i + 1, acc ++ [c], by omega, by go_num, .inr (by rw [← byteCells_snoc]; exact hB5), hb.trans hb5, h1⟩
      · have t1 : ((c.toNat : Int) != 92) = true := congrArg not (show ((c.toNat : Int) == 92) = false from u8_ne (n := 92) h92)
        clear h92 HI
        go_wp2_with (go_at_call 18; refine (WriteByte_any _ _ _ _ _ hB (by rw [byteCells_len]; omega) hb.size).mono ?_; rintro e w4 ⟨rfl, hB5, hb5, hk5⟩)
        go_roundg (gk - 1)
        case measure => omega
        case rel => exact ⟨i + 1, acc ++ [c], by omega, by go_num, .inr (by rw [← byteCells_snoc]; exact hB5), hb.trans hb5, h1⟩
    · have hi : i = x.length := by omega
      have t0 : decide ((i : Int) < (x.length : Int)) = false := by rw [decide_eq_false_iff_not]; omega
      have hres : acc = x := by rw [HI.out, hi, List.take_length]
      have HR := Lib.hid hres
      clear hres HI hi
      go_wp2_with (go_at_call 22; refine (Tryz.Builder_String_any_f _ _ _ _ hB hb.size).mono ?_; rintro e w2 ⟨rfl, hB2, hb2⟩)
      go_ret
      exact ⟨by rw [HR.out]; rfl, hb.trans hb2⟩
/-- The tokens of a word that is just a text. -/
structure TokAt (w : World) (v : Value) (x : Bs) : Prop where
  ex : ∃ g c, v = .slice (some ⟨g, 0, none⟩) 1 c ∧ 1 ≤ c ∧ g < w.heap.size ∧ w.cell? ⟨g, 0, none⟩ = some (.int .i64 1) ∧ w.cell? ⟨g, 1, none⟩ = some (.string ⟨x.toArray⟩) ∧ w.cell? ⟨g, 2, none⟩ = some (.bool false) ∧ w.cell? ⟨g, 3, none⟩ = some (.slice none 0 0)
theorem TokAt.below {w w' : World} {v : Value} {x : Bs} (h : TokAt w v x) (hb : Below w.heap.size w w') : TokAt w' v x := by
  obtain ⟨g, c, h1, h2, h3, h4, h5, h6, h7⟩ := h.ex
  exact ⟨g, c, h1, h2, Nat.lt_of_lt_of_le h3 hb.size, (hb.cell (p := ⟨g, 0, none⟩) h3).trans h4, (hb.cell (p := ⟨g, 1, none⟩) h3).trans h5, (hb.cell (p := ⟨g, 2, none⟩) h3).trans h6, (hb.cell (p := ⟨g, 3, none⟩) h3).trans h7⟩
theorem TokAt.kp {D : List Nat} {w w' : World} {v : Value} {x : Bs} (h : TokAt w v x) (hk : Kp D w w') (hD : ∀ g c n, v = .slice (some ⟨g, 0, none⟩) n c → g ∉ D) : TokAt w' v x := by
  obtain ⟨g, c, h1, h2, h3, h4, h5, h6, h7⟩ := h.ex
  have hg := hD g c 1 h1
  have hc : ∀ j, w'.cell? ⟨g, j, none⟩ = w.cell? ⟨g, j, none⟩ := fun j => by simp only [World.cell?]; rw [hk.block g h3 hg]
  exact ⟨g, c, h1, h2, Nat.lt_of_lt_of_le h3 hk.size, by rw [hc]; exact h4, by rw [hc]; exact h5, by rw [hc]; exact h6, by rw [hc]; exact h7⟩
theorem literal_any (x : Bs) (w : World) :
    Calls Tryz.prog 92 #[.string ⟨x.toArray⟩] w fun e w' => e = .returned (.slice (some ⟨w.heap.size, 0, none⟩) 1 1) ∧ TokAt w' (.slice (some ⟨w.heap.size, 0, none⟩) 1 1) x ∧ Below w.heap.size w w' := by
  go_enter Tryz.func92, Tryz.ntmps92
  go_wp2_with fail
  go_ret
  refine ⟨rfl, ⟨_, _, rfl, Nat.le_refl _, by simp, ?_, ?_, ?_, ?_⟩, (Below.refl _ _).alloc (Nat.le_refl _) _⟩ <;> simp [go_sem]
end Go.Proofs.YteojlmpipfajoaaGreatDoor
