/- list.isSpecial, balanced, Quote. -/
import Derived.Test.YteojlmpipfajoaaGreatDoorLRead
import Derived.Test.YteojlmpipfajoaaGreatDoorLLaw
namespace Go.Proofs.YteojlmpipfajoaaGreatDoor
set_option linter.unusedVariables false
set_option linter.unusedSimpArgs false
open Go.RowKit Go.Shelf
theorem ba_append (a b : Bs) : (⟨a.toArray⟩ : ByteArray) ++ ⟨b.toArray⟩ = ⟨(a ++ b).toArray⟩ := by
  apply ByteArray.ext
  simp
attribute [local go_sem] ba_get ba_extract take_drop_all ba_append

/-- The library's variable of the greatest length that is looked for at a stroke holds a number. -/
def MaxIs (w : World) : Prop := ∃ m, w.cell? ⟨0, 0, none⟩ = some (.int .i64 m)
theorem MaxIs.pos {w : World} (h : MaxIs w) : 0 < w.heap.size := by
  obtain ⟨m, hm⟩ := h
  simp only [World.cell?] at hm
  cases hk : w.heap[0]? with
  | none => rw [hk] at hm; simp at hm
  | some o => exact (Array.getElem?_eq_some_iff.1 hk).1
theorem MaxIs.below {w w' : World} {B : Nat} (h : MaxIs w) (hb : Below B w w') (hB : 0 < B) : MaxIs w' := by
  obtain ⟨m, hm⟩ := h
  exact ⟨m, (hb.cell (p := ⟨0, 0, none⟩) hB).trans hm⟩

def specT : Bs := [34, 92, 123, 125, 36, 91, 93, 59]
def specOk (c : UInt8) : Bool := isS c == (isW c || decide (0 ≤ Lib.indexByte specT c))
theorem specOk_all : ∀ n : Fin 256, specOk (UInt8.ofNat n.val) = true := by decide +kernel
theorem spec_eq (c : UInt8) : isS c = (isW c || decide (0 ≤ Lib.indexByte specT c)) := by
  have h := specOk_all ⟨c.toNat, c.toNat_lt⟩
  rw [UInt8.ofNat_toNat] at h
  exact eq_of_beq h
set_option maxRecDepth 100000 in
theorem isSpecial_any (c : UInt8) (w : World) : Calls Tryz.prog 43 #[.int .u8 (c.toNat : Int)] w fun e w' => e = .returned (.bool (isS c)) ∧ w = w' := by
  have h255 := byte_lt c
  have h000 : (0 : Int) ≤ (c.toNat : Int) := by omega
  have V1 : Hid (∀ W, Calls Tryz.prog 61 #[.int .u8 (c.toNat : Int)] W fun e w' => e = .returned (.bool (isW c)) ∧ W = w') := fun W => white_any _ h000 h255 W
  have HI : Hid (∀ W, Calls Tryz.prog 62 #[.string ⟨#[34, 92, 123, 125, 36, 91, 93, 59]⟩, .int .u8 (c.toNat : Int)] W fun e w' => e = .returned (.int .i64 (Lib.indexByte specT c)) ∧ W = w') := fun W => by
    refine (Tryz.strings_IndexByte ⟨#[34, 92, 123, 125, 36, 91, 93, 59]⟩ (c.toNat : Int) W).mono fun e w' ⟨h1, h2⟩ => ⟨?_, h2.symm⟩
    rw [h1]
    simp [specT]
  have HS := Lib.hid (spec_eq c)
  rw [HS.out]
  generalize isW c = x at *
  generalize Lib.indexByte specT c = y at *
  clear HS
  cases x
  · go_enter Tryz.func43, Tryz.ntmps43
    go_wp2_with (first | (go_at_call 61; refine (V1.out _).mono ?_; rintro e w' ⟨rfl, rfl⟩) | (go_at_call 62; refine (HI.out _).mono ?_; rintro e w' ⟨rfl, rfl⟩))
    go_ret
    exact ⟨by first | done | simp | rfl, rfl⟩
  · go_enter Tryz.func43, Tryz.ntmps43
    go_wp2_with (first | (go_at_call 61; refine (V1.out _).mono ?_; rintro e w' ⟨rfl, rfl⟩) | (go_at_call 62; refine (HI.out _).mono ?_; rintro e w' ⟨rfl, rfl⟩))
    go_ret
    exact ⟨by first | done | simp | rfl, rfl⟩

theorem bal_esc {s : Bs} {i d : Nat} (hlt : i < s.length) (hb : s[i] = 92) : balF (s.drop i) d = if h : i + 1 < s.length then balF (s.drop (i + 2)) d else false := by
  rw [List.drop_eq_getElem_cons hlt, hb]
  split
  · rename_i h
    rw [List.drop_eq_getElem_cons h, balF.eq_def]
    simp
  · rename_i h
    rw [List.drop_eq_nil_of_le (by omega), balF.eq_def]
    simp
theorem bal_open {s : Bs} {i d : Nat} (hlt : i < s.length) (hb : s[i] = 123) : balF (s.drop i) d = balF (s.drop (i + 1)) (d + 1) := by
  rw [List.drop_eq_getElem_cons hlt, hb, balF.eq_def]; simp
theorem bal_close {s : Bs} {i d : Nat} (hlt : i < s.length) (hb : s[i] = 125) : balF (s.drop i) d = if d = 0 then false else balF (s.drop (i + 1)) (d - 1) := by
  rw [List.drop_eq_getElem_cons hlt, hb, balF.eq_def]; simp
theorem bal_lit {s : Bs} {i d : Nat} (hlt : i < s.length) (h1 : s[i] ≠ 92) (h2 : s[i] ≠ 123) (h3 : s[i] ≠ 125) : balF (s.drop i) d = balF (s.drop (i + 1)) d := by
  rw [List.drop_eq_getElem_cons hlt, balF.eq_def]; simp [h1, h2, h3]
set_option maxRecDepth 100000 in
set_option maxHeartbeats 1600000 in
theorem balanced_any (s : Bs) (hs : s.length ≤ 1000000) (w : World) (hM : MaxIs w) : Calls Tryz.prog 44 #[.string ⟨s.toArray⟩] w fun e w' => e = .returned (.bool (balanced s)) ∧ w = w' := by
  have HC : Hid (Calls Tryz.prog 63 #[.string ⟨s.toArray⟩, .string ⟨#[92, 10]⟩] w fun e w' => e = .returned (.bool (Lib.contains s [92, 10])) ∧ w = w') := by
    obtain ⟨m, hm⟩ := hM
    exact (Tryz.strings_Contains ⟨s.toArray⟩ ⟨#[92, 10]⟩ m w (by simp [ByteArray.size]; omega) hm).mono fun e w' ⟨h1, h2⟩ => ⟨h1, h2.symm⟩
  have HE : Hid (balanced s = (balF s 0 && !Lib.contains s [92, 10])) := rfl
  rw [HE.out]
  clear HE hM
  obtain ⟨x, hx⟩ : ∃ x, Lib.contains s [92, 10] = x := ⟨_, rfl⟩
  rw [hx] at HC ⊢
  obtain ⟨y, hy⟩ : ∃ y, balF s 0 = y := ⟨_, rfl⟩
  rw [hy]
  have HY := Lib.hid hy
  clear hx hy
  go_enter Tryz.func44, Tryz.ntmps44
  go_wp2
  go_loop [3, 4] (fun v3 v4 => ∃ i d : Nat, i ≤ s.length ∧ d ≤ i ∧ v3 = .int .i64 (d : Int) ∧ v4 = .int .i64 (i : Int) ∧ Hid (balF (s.drop i) d = y)) (fun _ v4 => s.length - (intOf v4).toNat)
  case atStart => exact ⟨0, 0, by omega, by omega, rfl, rfl, HY.out⟩
  case round =>
    obtain ⟨i, d, hi, hdi, rfl, rfl, HB⟩ := hrel
    by_cases hlt : i < s.length
    · by_cases h1 : s[i] = 92
      · have HB1 := HB.out
        rw [bal_esc hlt h1] at HB1
        have u1 : ((s[i].toNat : Int) == 92) = true := u8_eq h1
        by_cases hend : i + 1 < s.length
        · rw [dif_pos hend] at HB1
          have HB2 := Lib.hid HB1
          have t5 : ((i : Int) + 1 == (s.length : Int)) = false := by rw [beq_eq_false_iff_ne]; omega
          clear HB HB1 h1
          go_wp2
          go_round
          case rel => exact ⟨i + 2, d, by omega, by omega, rfl, by go_num, HB2.out⟩
          case measure => simp [intOf]; omega
        · rw [dif_neg hend] at HB1
          have HB2 := Lib.hid HB1
          have t5 : ((i : Int) + 1 == (s.length : Int)) = true := by rw [beq_iff_eq]; omega
          clear HB HB1 h1
          go_wp2
          go_ret
          exact ⟨by rw [← HB2.out]; rfl, rfl⟩
      · have u1 : ((s[i].toNat : Int) == 92) = false := u8_ne h1
        by_cases h2 : s[i] = 123
        · have HB2 := Lib.hid ((bal_open hlt h2).symm.trans HB.out)
          have u2 : ((s[i].toNat : Int) == 123) = true := u8_eq h2
          clear HB h1 h2
          go_wp2
          go_round
          case rel => exact ⟨i + 1, d + 1, by omega, by omega, by go_num, by go_num, HB2.out⟩
          case measure => simp [intOf]; omega
        · have u2 : ((s[i].toNat : Int) == 123) = false := u8_ne h2
          by_cases h3 : s[i] = 125
          · have HB1 := (bal_close hlt h3).symm.trans HB.out
            have u3 : ((s[i].toNat : Int) == 125) = true := u8_eq h3
            by_cases hd : d = 0
            · rw [if_pos hd] at HB1
              have HB2 := Lib.hid HB1
              subst hd
              clear HB HB1 h1 h2 h3
              go_wp2
              go_ret
              exact ⟨by rw [← HB2.out]; rfl, rfl⟩
            · rw [if_neg hd] at HB1
              have HB2 := Lib.hid HB1
              have t6 : decide ((d : Int) - 1 < 0) = false := by rw [decide_eq_false_iff_not]; omega
              clear HB HB1 h1 h2 h3
              go_wp2
              go_round
              case rel => exact ⟨i + 1, d - 1, by omega, by omega, by go_num, by go_num, HB2.out⟩
              case measure => simp [intOf]; omega
          · have HB2 := Lib.hid ((bal_lit hlt h1 h2 h3).symm.trans HB.out)
            have u3 : ((s[i].toNat : Int) == 125) = false := u8_ne h3
            clear HB h1 h2 h3
            go_wp2
            go_round
            case rel => exact ⟨i + 1, d, by omega, by omega, rfl, by go_num, HB2.out⟩
            case measure => simp [intOf]; omega
    · have hB1 := HB.out
      rw [List.drop_eq_nil_of_le (by omega), balF.eq_def] at hB1
      simp only at hB1
      have HB2 := Lib.hid hB1
      clear HB hB1
      by_cases hd : d = 0
      · have t7 : ((d : Int) == 0) = true := by rw [beq_iff_eq]; omega
        have hyt : y = true := by rw [← HB2.out]; simp [hd]
        subst hyt
        clear hd HB2
        go_wp2_with (go_at_call 63; refine HC.out.mono ?_; rintro e w' ⟨rfl, rfl⟩)
        go_ret
        exact ⟨by first | done | simp | rfl, rfl⟩
      · have t7 : ((d : Int) == 0) = false := by rw [beq_eq_false_iff_ne]; omega
        have hyt : y = false := by rw [← HB2.out]; simp [hd]
        subst hyt
        clear hd HB2
        go_wp2
        go_ret
        exact ⟨by first | done | simp | rfl, rfl⟩

theorem IsB.block {W : World} {B b : Nat} {bs : List Value} (h : IsB B b bs W) : ∃ c, W.heap[b]? = some (.cells c 54 (0, 0)) := by
  rcases h with ⟨_, v, hb, _⟩ | ⟨_, v, hb, _⟩ <;> exact ⟨_, hb⟩
theorem byte_put {B : Nat} {bs : Bs} {W : World} (h : IsB B B (Lib.byteCells bs) W) (c : UInt8) (hl : bs.length ≤ 1000000000) :
    Calls Tryz.prog 18 #[.pointer (some ⟨B, 0, none⟩), .int .u8 (c.toNat : Int)] W fun e w' => e = .returned .nilIface ∧ IsB B B (Lib.byteCells (bs ++ [c])) w' ∧ Below B W w' := by
  have hlt : B < W.heap.size := by obtain ⟨c, hc⟩ := h.block; exact (Array.getElem?_eq_some_iff.1 hc).1
  refine (WriteByte_any B B _ c.toNat W h (by rw [byteCells_len]; omega) (by have := byte_lt c; omega)).mono ?_
  rintro e w' ⟨rfl, h1, h2, h3⟩
  refine ⟨rfl, ?_, h2⟩
  rw [byteCells_snoc] at h1
  exact .inr h1
theorem plainB_take {s : Bs} {c : UInt8} {r : Bs} (hs : s = c :: r) : plainB s = (c != 35 && (s.take s.length).all fun c => !isS c) := by
  rw [List.take_length, hs]; rfl
theorem plain_no {s : Bs} {c : UInt8} {r : Bs} (hs : s = c :: r) {i : Nat} (h : false = (c != 35 && (s.take i).all fun c => !isS c)) : plainB s = false := by
  rw [plainB_take hs, List.take_length]
  cases hc : c != 35
  · rfl
  · rw [hc, Bool.true_and] at h
    rw [Bool.true_and]
    cases ha : s.all fun c => !isS c
    · rfl
    · rw [← List.take_append_drop i s, List.all_append, Bool.and_eq_true] at ha
      rw [ha.1] at h; cases h
theorem take_all {s : Bs} {i : Nat} (hlt : i < s.length) (f : UInt8 → Bool) : (s.take (i + 1)).all f = ((s.take i).all f && f s[i]) := by
  rw [List.take_succ_eq_append_getElem hlt, List.all_append]; simp
theorem slashed_take {s : Bs} {k : Nat} (hlt : k < s.length) : slashed (s.take (k + 1)) = slashed (s.take k) ++ slashB (k == 0) s[k] := by
  cases s with
  | nil => simp at hlt
  | cons c r =>
    cases k with
    | zero => simp [slashed]
    | succ k =>
      have hk : k < r.length := by simpa using hlt
      simp only [List.take_succ_cons, slashed, List.getElem_cons_succ]
      rw [List.take_succ_eq_append_getElem hk, List.map_append, List.flatten_append]
      simp
theorem slashed_len (s : Bs) : (slashed s).length ≤ 2 * s.length := by
  cases s with
  | nil => simp [slashed]
  | cons c r =>
    have h1 := slashB_len true c
    have h2 := flat_len r
    simp only [slashed, List.length_append, List.length_cons]; omega
/-- What holds at the head of the loop that writes. -/
def QuR (w : World) (s : Bs) (v : Value) (wr : World) : Prop := ∃ k : Nat, k ≤ s.length ∧ v = .int .i64 (k : Int) ∧ IsB w.heap.size w.heap.size (Lib.byteCells (slashed (s.take k))) wr ∧ Below w.heap.size w wr
theorem letW_else {c : UInt8} (h : ¬ (9 ≤ c.toNat ∧ c.toNat ≤ 13)) : letW c = c := by
  have ne : ∀ n : UInt8, 9 ≤ n.toNat → n.toNat ≤ 13 → c ≠ n := fun n h1 h2 e => h ⟨e ▸ h1, e ▸ h2⟩
  unfold letW
  rw [if_neg (ne 9 (by decide) (by decide)), if_neg (ne 10 (by decide) (by decide)), if_neg (ne 11 (by decide) (by decide)), if_neg (ne 12 (by decide) (by decide)), if_neg (ne 13 (by decide) (by decide))]
theorem u8_five {c : UInt8} (h : 9 ≤ c.toNat ∧ c.toNat ≤ 13) : c = 9 ∨ c = 10 ∨ c = 11 ∨ c = 12 ∨ c = 13 := by
  have e : ∀ n : UInt8, c.toNat = n.toNat → c = n := fun n h => UInt8.toNat_inj.1 h
  rcases (by omega : c.toNat = 9 ∨ c.toNat = 10 ∨ c.toNat = 11 ∨ c.toNat = 12 ∨ c.toNat = 13) with h | h | h | h | h
  · exact .inl (e 9 h)
  · exact .inr (.inl (e 10 h))
  · exact .inr (.inr (.inl (e 11 h)))
  · exact .inr (.inr (.inr (.inl (e 12 h))))
  · exact .inr (.inr (.inr (.inr (e 13 h))))

set_option maxRecDepth 100000 in
set_option maxHeartbeats 12800000 in
/-- The writing of a text that is neither plain nor balanced. -/
theorem Quote_any (s : Bs) (hs : s.length ≤ 1000000) (w : World) (hM : MaxIs w) : Calls Tryz.prog 20 #[.string ⟨s.toArray⟩] w fun e w' => e = .returned (.string ⟨(quote s).toArray⟩) ∧ Below w.heap.size w w' := by
  by_cases h0 : s = []
  · subst h0
    clear hM
    go_enter Tryz.func20, Tryz.ntmps20
    go_wp2
    go_ret
    exact ⟨rfl, Below.refl _ _⟩
  obtain ⟨c0, r0, hsr⟩ : ∃ c r, s = c :: r := by cases s with | nil => exact absurd rfl h0 | cons c r => exact ⟨c, r, rfl⟩
  have hpos : 0 < s.length := by rw [hsr]; simp
  have hposI : (0 : Int) < (s.length : Int) := by omega
  have hc0 : s[0] = c0 := by simp only [hsr]; rfl
  have t0 : (s == ([] : Bs)) = false := beq_eq_false_iff_ne.2 h0
  have BAL : Hid (∀ W, w = W → Calls Tryz.prog 44 #[.string ⟨s.toArray⟩] W fun e w' => e = .returned (.bool (balanced s)) ∧ W = w') := fun W e => by subst e; exact balanced_any s hs w hM
  obtain ⟨x0, hx0⟩ : ∃ x : Bool, (c0 != 35) = x := ⟨_, rfl⟩
  have t1 : ((c0.toNat : Int) != 35) = x0 := by
    rw [← hx0]
    by_cases e : c0 = 35
    · rw [e]; rfl
    · rw [bne, show ((c0.toNat : Int) == 35) = false from u8_ne (n := 35) e]; simp [e]
  have PN : Hid (∀ i, false = (x0 && (s.take i).all fun c => !isS c) → plainB s = false) := fun i h => plain_no hsr (i := i) (by rw [hx0]; exact h)
  have PY : Hid (true = (x0 && (s.take s.length).all fun c => !isS c) → plainB s = true) := fun h => by rw [plainB_take hsr, hx0]; exact h.symm
  have QP : Hid (plainB s = true → quote s = s) := fun h => by unfold quote; rw [if_neg h0, if_pos h]
  have QB : Hid (plainB s = false → balanced s = true → quote s = 123 :: (s ++ [125])) := fun h h' => by unfold quote; rw [if_neg h0, if_neg (by rw [h]; exact Bool.false_ne_true), if_pos h']
  have QS : Hid (plainB s = false → balanced s = false → quote s = slashed s) := fun h h' => by unfold quote; rw [if_neg h0, if_neg (by rw [h]; exact Bool.false_ne_true), if_neg (by rw [h']; exact Bool.false_ne_true)]
  clear hM h0 hsr hx0
  obtain ⟨bb, hbb⟩ : ∃ b, balanced s = b := ⟨_, rfl⟩
  rw [hbb] at BAL QB QS
  clear hbb
  go_enter Tryz.func20, Tryz.ntmps20
  go_wp2
  go_loop [3, 4] (fun v3 v4 => ∃ (i : Nat) (x : Bool), i ≤ s.length ∧ v3 = .bool x ∧ v4 = .int .i64 (i : Int) ∧ Hid (x = (x0 && (s.take i).all fun c => !isS c))) (fun _ v4 => s.length - (intOf v4).toNat)
  case atStart => exact ⟨0, x0, Nat.zero_le _, by first | rfl | (rw [hc0, t1]) | (simp [hc0, t1]), rfl, by show _ = _; simp⟩
  case round =>
    obtain ⟨i, x, hi, rfl, rfl, HXX⟩ := hrel
    cases x
    · have hp := PN.out i HXX.out
      have QB' := Lib.hid (QB.out hp)
      have QS' := Lib.hid (QS.out hp)
      clear QB QS QP PN PY HXX
      by_cases hlt2 : i < s.length
      all_goals
        cases bb
        · have HQ := Lib.hid (QS'.out rfl)
          clear QB' QS' hp
          go_wp2_with (go_at_call 44; refine (BAL.out _ rfl).mono ?_; rintro e w' ⟨rfl, rfl⟩)
          clear BAL hc0 t1 t0 hposI
          go_loopw [38] (fun v wr => QuR w s v wr) (fun v _ => s.length - (intOf v).toNat)
          case atStart => exact ⟨0, Nat.zero_le _, rfl, by rw [List.take_zero]; exact IsB.new w, (Below.refl _ _).alloc (Nat.le_refl _) _⟩
          case round =>
            obtain ⟨k, hk, rfl, hb, hB⟩ := hrel
            by_cases hlt : k < s.length
            · have hx := slashed_take hlt
              have hlen := slashed_len (s.take k)
              obtain ⟨c, hcc⟩ : ∃ c, s[k] = c := ⟨_, rfl⟩
              have V1 : Hid (∀ W, Calls Tryz.prog 43 #[.int .u8 (c.toNat : Int)] W fun e w' => e = .returned (.bool (isS c)) ∧ W = w') := fun W => isSpecial_any c W
              rw [hcc] at hx
              have HB := Lib.hid hb
              have HW := Lib.hid hB
              have HX := Lib.hid hx
              have HL : Hid ((slashed (s.take k)).length ≤ 2 * s.length) := by
                show _ ≤ _
                have : (s.take k).length ≤ s.length := by simp; omega
                omega
              clear hb hB hx hlen
              generalize slashed (s.take k) = acc at *
              have h255 := byte_lt c
              cases hS : isS c
              · rw [hS] at V1
                by_cases h0 : k = 0 ∧ c = 35
                · obtain ⟨rfl, rfl⟩ := h0
                  go_wp2_with (first | (go_at_call 43; refine (V1.out _).mono ?_; rintro e w' ⟨rfl, rfl⟩) | (go_at_call 18; refine (byte_put HB.out 92 (by have := HL.out; omega)).mono ?_; rintro e w1 ⟨rfl, hb1, hB1⟩; have HB1 := Lib.hid hb1; have HW1 := Lib.hid (HW.out.trans hB1); clear hb1 hB1 HB HW) | (go_at_call 18; refine (byte_put HB1.out 35 (by have := HL.out; simp; omega)).mono ?_; rintro e w2 ⟨rfl, hb2, hB2⟩; have HB2 := Lib.hid hb2; have HW2 := Lib.hid (HW1.out.trans hB2); clear hb2 hB2 HB1 HW1))
                  go_roundw
                  case rel => exact ⟨0 + 1, by omega, by go_num, by have h := HB2.out; rw [List.append_assoc] at h; rw [HX.out, show slashB ((0 : Nat) == 0) 35 = [92] ++ [35] from rfl]; exact h, HW2.out⟩
                  case measure => simp [intOf]; omega
                · have hf : slashB (k == 0) c = [c] := by
                    unfold slashB
                    rw [if_neg]
                    simp only [hS, Bool.false_or, Bool.and_eq_true, beq_iff_eq]
                    exact h0
                  have HF := Lib.hid hf
                  by_cases h00 : k = 0
                  · have t3 : ((c.toNat : Int) == 35) = false := u8_ne (fun e => h0 ⟨h00, e⟩)
                    subst h00
                    clear hS h0 hf
                    go_wp2_with (first | (go_at_call 43; refine (V1.out _).mono ?_; rintro e w' ⟨rfl, rfl⟩) | (go_at_call 18; refine (byte_put HB.out c (by have := HL.out; omega)).mono ?_; rintro e w1 ⟨rfl, hb1, hB1⟩; have HB1 := Lib.hid hb1; have HW1 := Lib.hid (HW.out.trans hB1); clear hb1 hB1 HB HW))
                    go_roundw
                    case rel => exact ⟨0 + 1, by omega, by go_num, by rw [HX.out, HF.out]; exact HB1.out, HW1.out⟩
                    case measure => simp [intOf]; omega
                  · have t4 : ((k : Int) == 0) = false := by rw [beq_eq_false_iff_ne]; omega
                    clear hS h0 h00 hf
                    go_wp2_with (first | (go_at_call 43; refine (V1.out _).mono ?_; rintro e w' ⟨rfl, rfl⟩) | (go_at_call 18; refine (byte_put HB.out c (by have := HL.out; omega)).mono ?_; rintro e w1 ⟨rfl, hb1, hB1⟩; have HB1 := Lib.hid hb1; have HW1 := Lib.hid (HW.out.trans hB1); clear hb1 hB1 HB HW))
                    go_roundw
                    case rel => exact ⟨k + 1, by omega, by go_num, by rw [HX.out, HF.out]; exact HB1.out, HW1.out⟩
                    case measure => simp [intOf]; omega
              · rw [hS] at V1
                have hf : slashB (k == 0) c = [92, letW c] := by unfold slashB; rw [if_pos (by rw [hS]; rfl)]
                have HF := Lib.hid hf
                by_cases h9 : 9 ≤ c.toNat ∧ c.toNat ≤ 13
                · rcases u8_five h9 with rfl | rfl | rfl | rfl | rfl
                  · clear hS h9 hf
                    go_wp2_with (first | (go_at_call 43; refine (V1.out _).mono ?_; rintro e w' ⟨rfl, rfl⟩) | (go_at_call 18; refine (byte_put HB.out 92 (by have := HL.out; omega)).mono ?_; rintro e w1 ⟨rfl, hb1, hB1⟩; have HB1 := Lib.hid hb1; have HW1 := Lib.hid (HW.out.trans hB1); clear hb1 hB1 HB HW) | (go_at_call 18; refine (byte_put HB1.out 116 (by have := HL.out; simp; omega)).mono ?_; rintro e w2 ⟨rfl, hb2, hB2⟩; have HB2 := Lib.hid hb2; have HW2 := Lib.hid (HW1.out.trans hB2); clear hb2 hB2 HB1 HW1))
                    go_roundw
                    case rel => exact ⟨k + 1, by omega, by go_num, by have h := HB2.out; rw [List.append_assoc] at h; rw [HX.out, HF.out, show [92, letW 9] = [92] ++ [116] from rfl]; exact h, HW2.out⟩
                    case measure => simp [intOf]; omega
                  · clear hS h9 hf
                    go_wp2_with (first | (go_at_call 43; refine (V1.out _).mono ?_; rintro e w' ⟨rfl, rfl⟩) | (go_at_call 18; refine (byte_put HB.out 92 (by have := HL.out; omega)).mono ?_; rintro e w1 ⟨rfl, hb1, hB1⟩; have HB1 := Lib.hid hb1; have HW1 := Lib.hid (HW.out.trans hB1); clear hb1 hB1 HB HW) | (go_at_call 18; refine (byte_put HB1.out 110 (by have := HL.out; simp; omega)).mono ?_; rintro e w2 ⟨rfl, hb2, hB2⟩; have HB2 := Lib.hid hb2; have HW2 := Lib.hid (HW1.out.trans hB2); clear hb2 hB2 HB1 HW1))
                    go_roundw
                    case rel => exact ⟨k + 1, by omega, by go_num, by have h := HB2.out; rw [List.append_assoc] at h; rw [HX.out, HF.out, show [92, letW 10] = [92] ++ [110] from rfl]; exact h, HW2.out⟩
                    case measure => simp [intOf]; omega
                  · clear hS h9 hf
                    go_wp2_with (first | (go_at_call 43; refine (V1.out _).mono ?_; rintro e w' ⟨rfl, rfl⟩) | (go_at_call 18; refine (byte_put HB.out 92 (by have := HL.out; omega)).mono ?_; rintro e w1 ⟨rfl, hb1, hB1⟩; have HB1 := Lib.hid hb1; have HW1 := Lib.hid (HW.out.trans hB1); clear hb1 hB1 HB HW) | (go_at_call 18; refine (byte_put HB1.out 118 (by have := HL.out; simp; omega)).mono ?_; rintro e w2 ⟨rfl, hb2, hB2⟩; have HB2 := Lib.hid hb2; have HW2 := Lib.hid (HW1.out.trans hB2); clear hb2 hB2 HB1 HW1))
                    go_roundw
                    case rel => exact ⟨k + 1, by omega, by go_num, by have h := HB2.out; rw [List.append_assoc] at h; rw [HX.out, HF.out, show [92, letW 11] = [92] ++ [118] from rfl]; exact h, HW2.out⟩
                    case measure => simp [intOf]; omega
                  · clear hS h9 hf
                    go_wp2_with (first | (go_at_call 43; refine (V1.out _).mono ?_; rintro e w' ⟨rfl, rfl⟩) | (go_at_call 18; refine (byte_put HB.out 92 (by have := HL.out; omega)).mono ?_; rintro e w1 ⟨rfl, hb1, hB1⟩; have HB1 := Lib.hid hb1; have HW1 := Lib.hid (HW.out.trans hB1); clear hb1 hB1 HB HW) | (go_at_call 18; refine (byte_put HB1.out 102 (by have := HL.out; simp; omega)).mono ?_; rintro e w2 ⟨rfl, hb2, hB2⟩; have HB2 := Lib.hid hb2; have HW2 := Lib.hid (HW1.out.trans hB2); clear hb2 hB2 HB1 HW1))
                    go_roundw
                    case rel => exact ⟨k + 1, by omega, by go_num, by have h := HB2.out; rw [List.append_assoc] at h; rw [HX.out, HF.out, show [92, letW 12] = [92] ++ [102] from rfl]; exact h, HW2.out⟩
                    case measure => simp [intOf]; omega
                  · clear hS h9 hf
                    go_wp2_with (first | (go_at_call 43; refine (V1.out _).mono ?_; rintro e w' ⟨rfl, rfl⟩) | (go_at_call 18; refine (byte_put HB.out 92 (by have := HL.out; omega)).mono ?_; rintro e w1 ⟨rfl, hb1, hB1⟩; have HB1 := Lib.hid hb1; have HW1 := Lib.hid (HW.out.trans hB1); clear hb1 hB1 HB HW) | (go_at_call 18; refine (byte_put HB1.out 114 (by have := HL.out; simp; omega)).mono ?_; rintro e w2 ⟨rfl, hb2, hB2⟩; have HB2 := Lib.hid hb2; have HW2 := Lib.hid (HW1.out.trans hB2); clear hb2 hB2 HB1 HW1))
                    go_roundw
                    case rel => exact ⟨k + 1, by omega, by go_num, by have h := HB2.out; rw [List.append_assoc] at h; rw [HX.out, HF.out, show [92, letW 13] = [92] ++ [114] from rfl]; exact h, HW2.out⟩
                    case measure => simp [intOf]; omega
                · rw [letW_else h9] at HF
                  rcases (by omega : c.toNat < 9 ∨ (9 ≤ c.toNat ∧ 13 < c.toNat)) with h9a | ⟨h9a, h9b⟩
                  · have t5 : decide ((9 : Int) ≤ (c.toNat : Int)) = false := by rw [decide_eq_false_iff_not]; omega
                    clear hS h9 hf h9a
                    go_wp2_with (first | (go_at_call 43; refine (V1.out _).mono ?_; rintro e w' ⟨rfl, rfl⟩) | (go_at_call 18; refine (byte_put HB.out 92 (by have := HL.out; omega)).mono ?_; rintro e w1 ⟨rfl, hb1, hB1⟩; have HB1 := Lib.hid hb1; have HW1 := Lib.hid (HW.out.trans hB1); clear hb1 hB1 HB HW) | (go_at_call 18; refine (byte_put HB1.out c (by have := HL.out; simp; omega)).mono ?_; rintro e w2 ⟨rfl, hb2, hB2⟩; have HB2 := Lib.hid hb2; have HW2 := Lib.hid (HW1.out.trans hB2); clear hb2 hB2 HB1 HW1))
                    go_roundw
                    case rel => exact ⟨k + 1, by omega, by go_num, by have h := HB2.out; rw [List.append_assoc] at h; rw [HX.out, HF.out, show [92, c] = [92] ++ [c] from rfl]; exact h, HW2.out⟩
                    case measure => simp [intOf]; omega
                  · have t5 : decide ((9 : Int) ≤ (c.toNat : Int)) = true := by rw [decide_eq_true_eq]; omega
                    have t6 : decide ((c.toNat : Int) ≤ 13) = false := by rw [decide_eq_false_iff_not]; omega
                    clear hS h9 hf h9a h9b
                    go_wp2_with (first | (go_at_call 43; refine (V1.out _).mono ?_; rintro e w' ⟨rfl, rfl⟩) | (go_at_call 18; refine (byte_put HB.out 92 (by have := HL.out; omega)).mono ?_; rintro e w1 ⟨rfl, hb1, hB1⟩; have HB1 := Lib.hid hb1; have HW1 := Lib.hid (HW.out.trans hB1); clear hb1 hB1 HB HW) | (go_at_call 18; refine (byte_put HB1.out c (by have := HL.out; simp; omega)).mono ?_; rintro e w2 ⟨rfl, hb2, hB2⟩; have HB2 := Lib.hid hb2; have HW2 := Lib.hid (HW1.out.trans hB2); clear hb2 hB2 HB1 HW1))
                    go_roundw
                    case rel => exact ⟨k + 1, by omega, by go_num, by have h := HB2.out; rw [List.append_assoc] at h; rw [HX.out, HF.out, show [92, c] = [92] ++ [c] from rfl]; exact h, HW2.out⟩
                    case measure => simp [intOf]; omega
            · obtain rfl : k = s.length := by omega
              rw [List.take_length] at hb
              have hle : w.heap.size ≤ wr.heap.size := hB.size
              have HB := Lib.hid hb
              have HW := Lib.hid hB
              clear hb hB
              go_wp2_with (go_at_call 22; refine (Tryz.Builder_String_any_k w.heap.size w.heap.size (slashed s) _ HB.out hle).mono ?_; rintro e w1 ⟨rfl, _, hB1, _⟩; skip)
              go_ret
              exact ⟨by rw [HQ.out]; rfl, HW.out.trans hB1⟩
        · have HQ := Lib.hid (QB'.out rfl)
          clear QB' QS' hp
          go_wp2_with (go_at_call 44; refine (BAL.out _ rfl).mono ?_; rintro e w' ⟨rfl, rfl⟩)
          go_ret
          exact ⟨by rw [HQ.out]; simp, Below.refl _ _⟩
    · by_cases hlt : i < s.length
      · have hta := take_all hlt (fun c => !isS c)
        have HX2 : Hid ((!isS s[i]) = (x0 && (s.take (i + 1)).all fun c => !isS c)) := by
          show _ = _
          rw [hta, ← Bool.and_assoc, ← HXX.out, Bool.true_and]
        have V1 : Hid (∀ W, Calls Tryz.prog 43 #[.int .u8 (s[i].toNat : Int)] W fun e w' => e = .returned (.bool (isS s[i])) ∧ W = w') := fun W => isSpecial_any s[i] W
        clear HXX hta BAL QB QS QP PN PY
        generalize isS s[i] = y at *
        go_wp2_with (go_at_call 43; refine (V1.out _).mono ?_; rintro e w' ⟨rfl, rfl⟩)
        go_round
        case rel => exact ⟨i + 1, !y, hlt, by first | rfl | (cases y <;> rfl), by go_num, HX2.out⟩
        case measure => simp [intOf]; omega
      · obtain rfl : i = s.length := by omega
        have HQ := Lib.hid (QP.out (PY.out HXX.out))
        clear QB QS QP PN PY HXX BAL
        go_wp2
        go_ret
        exact ⟨by rw [HQ.out]; rfl, Below.refl _ _⟩
end Go.Proofs.YteojlmpipfajoaaGreatDoor
