/- The reference's list: what is special, what is balanced. The reference's list: balanced. The reference's list: Slashed. The reference's list: Quote. -/
import Derived.Test.YtpaffocniniakaaGreatRDictM
import Derived.Test.YtpaffocniniakaaGreatFind
import Derived.Lib.IndexMore
import Derived.Deep.LoopGhost
namespace Go.Proofs.YtpaffocniniakaaGreat
set_option linter.unusedVariables false
set_option linter.unusedSimpArgs false
open Go.RowKit

def spOk (c : UInt8) : Bool := isS c == (isW c || decide (0 ≤ firstI [c] [34, 92, 123, 125, 36, 91, 93, 59] 0))
theorem spOk_all : ∀ n : Fin 256, spOk (UInt8.ofNat n.val) = true := by decide +kernel
theorem spOk_any (c : UInt8) : spOk c = true := by
  have h := spOk_all ⟨c.toNat, c.toNat_lt⟩
  simpa using h
set_option maxRecDepth 100000 in
set_option maxHeartbeats 400000 in
theorem rspecial_any (c : UInt8) (w : World) : Calls Tryz.prog 62 #[.int .u8 (c.toNat : Int)] w fun e w' => e = .returned (.bool (isS c)) ∧ Below w.heap.size w w' := by
  have h255 := byte_lt c
  have h000 : (0 : Int) ≤ (c.toNat : Int) := by omega
  have V1 : Hid (∀ W, Calls Tryz.prog 52 #[.int .u8 (c.toNat : Int)] W fun e w' => e = .returned (.bool (isW c)) ∧ W = w') := fun W => rwhite_any _ h000 h255 W
  have FI : Hid (∀ W, Calls Tryz.prog 76 #[.string ⟨#[c]⟩, .string ⟨#[34, 92, 123, 125, 36, 91, 93, 59]⟩, .int .i64 0] W fun e w' => e = .returned (.int .i64 (firstI [c] [34, 92, 123, 125, 36, 91, 93, 59] 0)) ∧ W = w') := fun W => rFirst_any [c] [34, 92, 123, 125, 36, 91, 93, 59] 0 (by simp) (by decide) W
  have hok : isS c = (isW c || decide (0 ≤ firstI [c] [34, 92, 123, 125, 36, 91, 93, 59] 0)) := by
    have h := spOk_any c
    unfold spOk at h
    exact beq_iff_eq.1 h
  generalize firstI [c] [34, 92, 123, 125, 36, 91, 93, 59] 0 = f at *
  rw [hok]
  clear hok
  cases hw : isW c with
  | true =>
    rw [hw] at V1
    go_enter Tryz.func62, Tryz.ntmps62
    go_wp2_with (first | (go_at_call 52; refine (V1.out _).mono ?_; rintro e w2 ⟨rfl, rfl⟩))
    go_ret
    exact ⟨rfl, Below.refl _ _⟩
  | false =>
    rw [hw] at V1
    have hb := Below.alloc (Below.refl w.heap.size w) (Nat.le_refl _) (.cells #[.int .u8 (c.toNat : Int)] 5)
    have HB := Lib.hid hb
    clear hb
    have hcv := one_byte (c.toNat : Int) h000 h255 5 w
    rw [show byteI (c.toNat : Int) = c by unfold byteI; simp] at hcv
    have hcv2 : (convert 100 9 (.slice (some ⟨w.heap.size, 0, none⟩) 1 1)).run Tryz.prog (w.alloc (.cells #[.int .u8 (c.toNat : Int)] 5)) = .ok (.string ⟨#[c]⟩) (w.alloc (.cells #[.int .u8 (c.toNat : Int)] 5)) := hcv
    clear hcv
    go_enter Tryz.func62, Tryz.ntmps62
    go_wp2_with (first | (go_at_call 52; refine (V1.out _).mono ?_; rintro e w2 ⟨rfl, rfl⟩) | (go_at_call 76; refine (FI.out _).mono ?_; rintro e w2 ⟨rfl, rfl⟩))
    go_ret
    exact ⟨by simp, HB.out⟩
end Go.Proofs.YtpaffocniniakaaGreat
namespace Go.Proofs.YtpaffocniniakaaGreat
set_option linter.unusedVariables false
set_option linter.unusedSimpArgs false
open Go.RowKit

theorem occ_st (s n : Bs) (i : Nat) : Lib.occAt s n i = stB n s i := by
  unfold Lib.occAt stB
  rw [Bool.eq_iff_iff, List.isPrefixOf_iff_prefix, List.prefix_iff_eq_take, beq_iff_eq]
  exact ⟨fun h => h.symm, fun h => h.symm⟩
theorem stB_drop (n s : Bs) (k i : Nat) : stB n (s.drop k) i = stB n s (k + i) := by
  unfold stB; rw [List.drop_drop]
theorem ne_isEmpty {n : Bs} (h : n ≠ []) : (!n.isEmpty) = true := by cases n with | nil => exact absurd rfl h | cons _ _ => rfl
theorem stB_lt {n s : Bs} {j : Nat} (hne : n ≠ []) (h : stB n s j = true) : j + n.length ≤ s.length := by
  have h1 := stB_len h
  have h2 : 0 < n.length := by cases n with | nil => exact absurd rfl hne | cons _ _ => simp
  omega
theorem first_law {n s : Bs} {fr : Int} {k : Nat} (hne : n ≠ []) (hk : max fr 0 = k) : firstI n s fr = if Lib.index (s.drop k) n = -1 then -1 else k + Lib.index (s.drop k) n := by
  have hP : ∀ j : Nat, (!n.isEmpty && decide (fr ≤ (j : Nat)) && stB n s j) = true ↔ k ≤ j ∧ stB n s j = true := by
    intro j
    rw [ne_isEmpty hne, Bool.true_and, Bool.and_eq_true, decide_eq_true_eq]
    constructor <;> (rintro ⟨h1, h2⟩; exact ⟨by omega, h2⟩)
  have h0 : firstI n s fr = fstG (fun (i : Nat) => !n.isEmpty && decide (fr ≤ i) && stB n s i) s.length 0 := rfl
  rcases Lib.index_spec (s.drop k) n with ⟨h1, h2⟩ | ⟨i, h1, h2, h3, h4⟩
  · rw [if_pos h1]
    rcases fstG_spec (fun (i : Nat) => !n.isEmpty && decide (fr ≤ i) && stB n s i) s.length 0 with ⟨h3, _⟩ | ⟨q, _, _, h3, h4, _⟩
    · rw [h0, h3]
    · have h5 := (hP q).1 h4
      have h6 := stB_lt hne h5.2
      have h7 := h2 (q - k) (by simp; omega)
      rw [occ_st, stB_drop, show k + (q - k) = q from by omega, h5.2] at h7
      cases h7
  · rw [if_neg (by omega), h1]
    rw [occ_st, stB_drop] at h3
    have h5 := stB_lt hne h3
    have hn0 : 0 < n.length := by cases n with | nil => exact absurd rfl hne | cons _ _ => simp
    rcases fstG_spec (fun (i : Nat) => !n.isEmpty && decide (fr ≤ i) && stB n s i) s.length 0 with ⟨_, h6⟩ | ⟨q, h6, _, h7, h8, h9⟩
    · have h7 := h6 (k + i) (by omega) (by omega)
      rw [(hP (k + i)).2 ⟨by omega, h3⟩] at h7; cases h7
    · rw [h0, h6]
      have h10 := (hP q).1 h8
      have h11 : ¬ q < k + i := by
        intro hlt
        have := h4 (q - k) (by omega)
        rw [occ_st, stB_drop, show k + (q - k) = q from by omega, h10.2] at this
        cases this
      have h12 : ¬ k + i < q := by
        intro hlt
        have := h9 (k + i) (by omega) hlt
        rw [(hP (k + i)).2 ⟨by omega, h3⟩] at this; cases this
      omega
set_option maxRecDepth 100000 in
set_option maxHeartbeats 1600000 in
theorem rbalanced_any (s : Bs) (hs : s.length ≤ 1000000) (w : World) : Calls Tryz.prog 63 #[.string ⟨s.toArray⟩] w fun e w' => e = .returned (.bool (balanced s)) ∧ w = w' := by
  have HC : Hid (Calls Tryz.prog 76 #[.string ⟨#[92, 10]⟩, .string ⟨s.toArray⟩, .int .i64 0] w fun e w' => e = .returned (.int .i64 (firstI [92, 10] s 0)) ∧ w = w') := rFirst_any [92, 10] s 0 (by simp) hs w
  have hlt : decide (firstI [92, 10] s 0 < 0) = !Lib.contains s [92, 10] := by
    rw [first_law (k := 0) (by simp) (by simp), List.drop_zero]
    unfold Lib.contains
    rcases Lib.index_spec s [92, 10] with ⟨h1, _⟩ | ⟨i, h1, _⟩
    · rw [h1]; rfl
    · rw [h1, if_neg (by omega), Bool.eq_iff_iff]; simp
  obtain ⟨ff, hff⟩ : ∃ ff, firstI [92, 10] s 0 = ff := ⟨_, rfl⟩
  rw [hff] at HC hlt
  clear hff
  have HE : Hid (balanced s = (balF s 0 && !Lib.contains s [92, 10])) := rfl
  rw [HE.out]
  clear HE
  obtain ⟨x, hx⟩ : ∃ x, Lib.contains s [92, 10] = x := ⟨_, rfl⟩
  rw [hx] at hlt ⊢
  have HL := Lib.hid hlt
  clear hlt
  obtain ⟨y, hy⟩ : ∃ y, balF s 0 = y := ⟨_, rfl⟩
  rw [hy]
  have HY := Lib.hid hy
  clear hx hy
  go_enter Tryz.func63, Tryz.ntmps63
  go_wp2
  go_loop [3, 4] (fun v3 v4 => ∃ i d : Nat, i ≤ s.length ∧ d ≤ i ∧ v3 = .int .i64 (d : Int) ∧ v4 = .int .i64 (i : Int) ∧ Hid (balF (s.drop i) d = y)) (fun _ v4 => s.length - (intOf v4).toNat)
  case atStart => exact ⟨0, 0, by omega, by omega, rfl, rfl, HY.out⟩
  case round =>
    obtain ⟨i, d, hi, hdi, rfl, rfl, HB⟩ := hrel
    by_cases hlt : i < s.length
    · by_cases h1 : s[i] = 92
      · have HB1 := HB.out
        rw [bal_esc hlt h1] at HB1
        have u1 : ((s[i].toNat : Int) == 92) = true := u8_eq h1
        by_cases hend : i + 1 < s.length
        · rw [dif_pos hend] at HB1
          have HB2 := Lib.hid HB1
          have t5 : ((i : Int) + 1 == (s.length : Int)) = false := by rw [beq_eq_false_iff_ne]; omega
          clear HB HB1 h1
          go_wp2
          go_round
          case rel => exact ⟨i + 2, d, by omega, by omega, rfl, by go_num, HB2.out⟩
          case measure => simp [intOf]; omega
        · rw [dif_neg hend] at HB1
          have HB2 := Lib.hid HB1
          have t5 : ((i : Int) + 1 == (s.length : Int)) = true := by rw [beq_iff_eq]; omega
          clear HB HB1 h1
          go_wp2
          go_ret
          exact ⟨by rw [← HB2.out]; rfl, rfl⟩
      · have u1 : ((s[i].toNat : Int) == 92) = false := u8_ne h1
        by_cases h2 : s[i] = 123
        · have HB2 := Lib.hid ((bal_open hlt h2).symm.trans HB.out)
          have u2 : ((s[i].toNat : Int) == 123) = true := u8_eq h2
          clear HB h1 h2
          go_wp2
          go_round
          case rel => exact ⟨i + 1, d + 1, by omega, by omega, by go_num, by go_num, HB2.out⟩
          case measure => simp [intOf]; omega
        · have u2 : ((s[i].toNat : Int) == 123) = false := u8_ne h2
          by_cases h3 : s[i] = 125
          · have HB1 := (bal_close hlt h3).symm.trans HB.out
            have u3 : ((s[i].toNat : Int) == 125) = true := u8_eq h3
            by_cases hd : d = 0
            · rw [if_pos hd] at HB1
              have HB2 := Lib.hid HB1
              subst hd
              clear HB HB1 h1 h2 h3
              go_wp2
              go_ret
              exact ⟨by rw [← HB2.out]; rfl, rfl⟩
            · rw [if_neg hd] at HB1
              have HB2 := Lib.hid HB1
              have t6 : decide ((d : Int) - 1 < 0) = false := by rw [decide_eq_false_iff_not]; omega
              clear HB HB1 h1 h2 h3
              go_wp2
              go_round
              case rel => exact ⟨i + 1, d - 1, by omega, by omega, by go_num, by go_num, HB2.out⟩
              case measure => simp [intOf]; omega
          · have HB2 := Lib.hid ((bal_lit hlt h1 h2 h3).symm.trans HB.out)
            have u3 : ((s[i].toNat : Int) == 125) = false := u8_ne h3
            clear HB h1 h2 h3
            go_wp2
            go_round
            case rel => exact ⟨i + 1, d, by omega, by omega, rfl, by go_num, HB2.out⟩
            case measure => simp [intOf]; omega
    · have hB1 := HB.out
      rw [List.drop_eq_nil_of_le (by omega), balF.eq_def] at hB1
      simp only at hB1
      have HB2 := Lib.hid hB1
      clear HB hB1
      by_cases hd : d = 0
      · have t7 : ((d : Int) == 0) = true := by rw [beq_iff_eq]; omega
        have hyt : y = true := by rw [← HB2.out]; simp [hd]
        subst hyt
        clear hd HB2
        go_wp2_with (go_at_call 76; refine HC.out.mono ?_; rintro e w' ⟨rfl, rfl⟩)
        go_ret
        exact ⟨by have h := HL.out; rw [Bool.true_and, ← h]; rfl, rfl⟩
      · have t7 : ((d : Int) == 0) = false := by rw [beq_eq_false_iff_ne]; omega
        have hyt : y = false := by rw [← HB2.out]; simp [hd]
        subst hyt
        clear hd HB2
        go_wp2
        go_ret
        exact ⟨by first | done | simp | rfl, rfl⟩
end Go.Proofs.YtpaffocniniakaaGreat
namespace Go.Proofs.YtpaffocniniakaaGreat
set_option linter.unusedVariables false
set_option linter.unusedSimpArgs false
open Go.RowKit

/-- What is still to be written of a text that is quoted with backslashes. -/
def slR (s : Bs) (j : Nat) : Bs := if j = 0 then slashed s else ((s.drop j).map (slashB false)).flatten
theorem slR_step {s : Bs} {j : Nat} (h : j < s.length) : slR s j = slashB (j == 0) s[j] ++ slR s (j + 1) := by
  unfold slR
  rw [if_neg (by omega : ¬ j + 1 = 0)]
  by_cases h0 : j = 0
  · subst h0
    rw [if_pos rfl]
    cases s with
    | nil => simp at h
    | cons c r => rfl
  · rw [if_neg h0, List.drop_eq_getElem_cons h, List.map_cons, List.flatten_cons, show (j == 0) = false from beq_eq_false_iff_ne.2 h0]
theorem slR_end (s : Bs) : slR s s.length = [] := by
  unfold slR
  split
  · rename_i h
    rw [List.length_eq_zero_iff.1 h]; rfl
  · simp
attribute [local go_sem] ba_append in
set_option maxRecDepth 100000 in
set_option maxHeartbeats 3200000 in
theorem rSlashed_any (s : Bs) (hs : s.length ≤ 1000000) (w : World) :
    Calls Tryz.prog 64 #[.string ⟨s.toArray⟩] w fun e w' => e = .returned (.string ⟨(slashed s).toArray⟩) ∧ Below w.heap.size w w' := by
  go_enter Tryz.func64, Tryz.ntmps64
  go_wp2_with fail
  go_loopg [3, 4, 7] s.length (fun g o _ v wr => ∃ (i : Nat) (acc : Bs), i + g = s.length ∧ v = .int .i64 (i : Int) ∧ o = .string ⟨acc.toArray⟩ ∧ Below w.heap.size w wr ∧ Hid (acc ++ slR s i = slashed s) ∧ acc.length ≤ 2 * i)
  case atStart => exact ⟨0, [], by omega, rfl, rfl, Below.refl _ _, by simp [Hid, slR], by simp⟩
  case round =>
    obtain ⟨i, acc, hig, rfl, rfl, hb, HI, hacc⟩ := hrel
    by_cases hlt : i < s.length
    · have t0 : decide ((i : Int) < (s.length : Int)) = true := by rw [decide_eq_true_eq]; omega
      have h255 := byte_lt s[i]
      have h000 : (0 : Int) ≤ (s[i].toNat : Int) := by omega
      have c1 : ¬ (9223372036854775807 < acc.length + 2) := by omega
      have c2 : ¬ (9223372036854775807 < acc.length + 1) := by omega
      have hsub : (s.drop i).take 1 = [s[i]] := by rw [List.drop_eq_getElem_cons hlt]; rfl
      have SP : Hid (∀ W, Calls Tryz.prog 62 #[.int .u8 (s[i].toNat : Int)] W fun e w' => e = .returned (.bool (isS s[i])) ∧ Below W.heap.size W w') := fun W => rspecial_any s[i] W
      have HB : Hid (acc ++ slashB (i == 0) s[i] ++ slR s (i + 1) = slashed s) := by have h := HI.out; rw [slR_step hlt, ← List.append_assoc] at h; exact h
      clear HI
      by_cases hw : 9 ≤ s[i].toNat ∧ s[i].toNat ≤ 13
      · have HA : Hid (slashB (i == 0) s[i] = [92, letW s[i]]) := by
          have h1 : isS s[i] = true := by
            obtain ⟨h1, h2⟩ := hw
            unfold isS isW whiteI
            simp; omega
          show _ = _
          unfold slashB; rw [h1]; rfl
        have hvs : s[i].toNat = 9 ∨ s[i].toNat = 10 ∨ s[i].toNat = 11 ∨ s[i].toNat = 12 ∨ s[i].toNat = 13 := by omega
        rcases hvs with hv0 | hv0 | hv0 | hv0 | hv0
        · have hv : s[i] = 9 := UInt8.toNat_inj.1 (by rw [hv0]; rfl)
          have HA2 : Hid (slashB (i == 0) s[i] = [92, 116]) := by have h := HA.out; rw [hv] at h ⊢; exact h
          have hi : (s[i].toNat : Int) = 9 := by rw [hv0]; rfl
          clear HA hw hv hv0 hsub SP
          go_wp2_with fail
          go_quiet (fail)
          go_wp2_with fail
          go_roundg (gk - 1)
          case measure => omega
          case rel => exact ⟨i + 1, acc ++ [92, 116], by omega, by go_num, by first | rfl | simp, below_drewN hb _, by have h := HB.out; rw [HA2.out] at h; exact h, by simp; omega⟩
        · have hv : s[i] = 10 := UInt8.toNat_inj.1 (by rw [hv0]; rfl)
          have HA2 : Hid (slashB (i == 0) s[i] = [92, 110]) := by have h := HA.out; rw [hv] at h ⊢; exact h
          have hi : (s[i].toNat : Int) = 10 := by rw [hv0]; rfl
          clear HA hw hv hv0 hsub SP
          go_wp2_with fail
          go_quiet (fail)
          go_wp2_with fail
          go_roundg (gk - 1)
          case measure => omega
          case rel => exact ⟨i + 1, acc ++ [92, 110], by omega, by go_num, by first | rfl | simp, below_drewN hb _, by have h := HB.out; rw [HA2.out] at h; exact h, by simp; omega⟩
        · have hv : s[i] = 11 := UInt8.toNat_inj.1 (by rw [hv0]; rfl)
          have HA2 : Hid (slashB (i == 0) s[i] = [92, 118]) := by have h := HA.out; rw [hv] at h ⊢; exact h
          have hi : (s[i].toNat : Int) = 11 := by rw [hv0]; rfl
          clear HA hw hv hv0 hsub SP
          go_wp2_with fail
          go_quiet (fail)
          go_wp2_with fail
          go_roundg (gk - 1)
          case measure => omega
          case rel => exact ⟨i + 1, acc ++ [92, 118], by omega, by go_num, by first | rfl | simp, below_drewN hb _, by have h := HB.out; rw [HA2.out] at h; exact h, by simp; omega⟩
        · have hv : s[i] = 12 := UInt8.toNat_inj.1 (by rw [hv0]; rfl)
          have HA2 : Hid (slashB (i == 0) s[i] = [92, 102]) := by have h := HA.out; rw [hv] at h ⊢; exact h
          have hi : (s[i].toNat : Int) = 12 := by rw [hv0]; rfl
          clear HA hw hv hv0 hsub SP
          go_wp2_with fail
          go_quiet (fail)
          go_wp2_with fail
          go_roundg (gk - 1)
          case measure => omega
          case rel => exact ⟨i + 1, acc ++ [92, 102], by omega, by go_num, by first | rfl | simp, below_drewN hb _, by have h := HB.out; rw [HA2.out] at h; exact h, by simp; omega⟩
        · have hv : s[i] = 13 := UInt8.toNat_inj.1 (by rw [hv0]; rfl)
          have HA2 : Hid (slashB (i == 0) s[i] = [92, 114]) := by have h := HA.out; rw [hv] at h ⊢; exact h
          have hi : (s[i].toNat : Int) = 13 := by rw [hv0]; rfl
          clear HA hw hv hv0 hsub SP
          go_wp2_with fail
          go_quiet (fail)
          go_wp2_with fail
          go_roundg (gk - 1)
          case measure => omega
          case rel => exact ⟨i + 1, acc ++ [92, 114], by omega, by go_num, by first | rfl | simp, below_drewN hb _, by have h := HB.out; rw [HA2.out] at h; exact h, by simp; omega⟩
      · have hlw : letW s[i] = s[i] := by
          have n9 : ∀ v : UInt8, 9 ≤ v.toNat → v.toNat ≤ 13 → s[i] ≠ v := fun v h1 h2 e => hw (by rw [e]; exact ⟨h1, h2⟩)
          unfold letW
          rw [if_neg (n9 9 (by decide) (by decide)), if_neg (n9 10 (by decide) (by decide)), if_neg (n9 11 (by decide) (by decide)), if_neg (n9 12 (by decide) (by decide)), if_neg (n9 13 (by decide) (by decide))]
        have D1 : Hid (decide ((9 : Int) ≤ (s[i].toNat : Int)) = false) ∨ Hid (decide ((9 : Int) ≤ (s[i].toNat : Int)) = true ∧ decide ((s[i].toNat : Int) ≤ 13) = false) := by
          by_cases h : 9 ≤ s[i].toNat
          · refine .inr ⟨?_, ?_⟩
            · rw [decide_eq_true_eq]; omega
            · rw [decide_eq_false_iff_not]; omega
          · refine .inl ?_
            show _ = _
            rw [decide_eq_false_iff_not]; omega
        have D2 : (Hid (isS s[i] = true) ∧ Hid (slashB (i == 0) s[i] = [92, s[i]])) ∨ (Hid (isS s[i] = false ∧ ((i : Int) == 0) = false) ∧ Hid (slashB (i == 0) s[i] = [s[i]])) ∨ (Hid (isS s[i] = false ∧ ((i : Int) == 0) = true ∧ ((s[i].toNat : Int) == 35) = true) ∧ Hid (slashB (i == 0) s[i] = [92, s[i]])) ∨ (Hid (isS s[i] = false ∧ ((i : Int) == 0) = true ∧ ((s[i].toNat : Int) == 35) = false) ∧ Hid (slashB (i == 0) s[i] = [s[i]])) := by
          cases hS : isS s[i] with
          | true => exact .inl ⟨rfl, by show _ = _; unfold slashB; rw [hS, hlw]; rfl⟩
          | false =>
            by_cases h0 : i = 0
            · by_cases h35 : s[i] = 35
              · exact .inr (.inr (.inl ⟨⟨rfl, by rw [beq_iff_eq]; omega, u8_eq (n := 35) h35⟩, by show _ = _; unfold slashB; rw [hS, hlw, h35, show (i == 0) = true from beq_iff_eq.2 h0]; rfl⟩))
              · exact .inr (.inr (.inr ⟨⟨rfl, by rw [beq_iff_eq]; omega, u8_ne (n := 35) h35⟩, by show _ = _; unfold slashB; rw [hS, show (s[i] == 35) = false from beq_eq_false_iff_ne.2 h35, Bool.and_false]; rfl⟩))
            · exact .inr (.inl ⟨⟨rfl, by rw [beq_eq_false_iff_ne]; omega⟩, by show _ = _; unfold slashB; rw [hS, show (i == 0) = false from beq_eq_false_iff_ne.2 h0]; rfl⟩)
        clear hw hlw
        rcases D1 with d1 | d1 <;> rcases D2 with ⟨d2, HA⟩ | ⟨d2, HA⟩ | ⟨d2, HA⟩ | ⟨d2, HA⟩
        all_goals
          first | (obtain ⟨d3, d4⟩ := d1.out) | (have d3 := d1.out)
          first | (obtain ⟨d5, d6, d7⟩ := d2.out) | (obtain ⟨d5, d6⟩ := d2.out) | (have d5 := d2.out)
          clear d1 d2
          rw [d5] at SP
          clear d5
          go_wp2_with (go_at_call 62; refine (SP.out _).mono ?_; rintro e w2 ⟨rfl, hB2⟩; have H2 := Lib.hid hB2; clear hB2)
          go_roundg (gk - 1)
          case measure => omega
          case rel =>
            have h := HB.out
            rw [HA.out] at h
            first | exact ⟨i + 1, acc ++ [92, s[i]], by omega, by go_num, by first | rfl | (simp; done), hb.trans (H2.out.mono hb.size), h, by simp; omega⟩ | exact ⟨i + 1, acc ++ [s[i]], by omega, by go_num, by first | rfl | (simp; done), hb.trans (H2.out.mono hb.size), h, by simp; omega⟩
    · obtain rfl : i = s.length := by omega
      have t0 : decide ((s.length : Int) < (s.length : Int)) = false := by rw [decide_eq_false_iff_not]; omega
      have HR : Hid (acc = slashed s) := by have h := HI.out; rw [slR_end, List.append_nil] at h; exact h
      clear HI
      go_wp2_with fail
      go_ret
      exact ⟨by rw [HR.out]; rfl, hb⟩
end Go.Proofs.YtpaffocniniakaaGreat
namespace Go.Proofs.YtpaffocniniakaaGreat
set_option linter.unusedVariables false
set_option linter.unusedSimpArgs false
open Go.RowKit

attribute [local go_sem] ba_append in
set_option maxRecDepth 100000 in
set_option maxHeartbeats 1600000 in
theorem rQuote_any (s : Bs) (hs : s.length ≤ 1000000) (w : World) :
    Calls Tryz.prog 49 #[.string ⟨s.toArray⟩] w fun e w' => e = .returned (.string ⟨(quote s).toArray⟩) ∧ Below w.heap.size w w' := by
  by_cases h0 : s = []
  · subst h0
    go_enter Tryz.func49, Tryz.ntmps49
    go_wp2_with fail
    go_ret
    exact ⟨rfl, Below.refl _ _⟩
  · have hl0 : 0 < s.length := List.length_pos_iff.2 h0
    have hq : quote s = if plainB s = true then s else if balanced s = true then 123 :: (s ++ [125]) else slashed s := by unfold quote; rw [if_neg h0]
    have hpl : plainB s = (s[0] != 35 && s.all fun c => !isS c) := by
      cases s with
      | nil => exact absurd rfl h0
      | cons c r => rfl
    have he : s.isEmpty = false := by cases s with | nil => exact absurd rfl h0 | cons _ _ => rfl
    have BA : Hid (∀ W, Calls Tryz.prog 63 #[.string ⟨s.toArray⟩] W fun e w' => e = .returned (.bool (balanced s)) ∧ W = w') := fun W => rbalanced_any s hs W
    have SL : Hid (∀ W, Calls Tryz.prog 64 #[.string ⟨s.toArray⟩] W fun e w' => e = .returned (.string ⟨(slashed s).toArray⟩) ∧ Below W.heap.size W w') := fun W => rSlashed_any s hs W
    have HQ := Lib.hid hq
    have HP := Lib.hid hpl
    have h255a := byte_lt s[0]
    have h000a : (0 : Int) ≤ (s[0].toNat : Int) := by omega
    obtain ⟨b0, hb0, u0⟩ : ∃ b0 : Bool, b0 = (s[0] != 35) ∧ ((s[0].toNat : Int) == 35) = !b0 := by
      by_cases h : s[0] = 35
      · exact ⟨false, by rw [h]; rfl, u8_eq (n := 35) h⟩
      · exact ⟨true, by simp [h], u8_ne (n := 35) h⟩
    have HB0 := Lib.hid hb0
    have HU := Lib.hid u0
    clear u0
    have hne : ¬ s = [] := h0
    have c1 : ¬ (9223372036854775807 < 1 + s.length) := by omega
    have c2 : ¬ (9223372036854775807 < s.length + 1 + 1) := by omega
    have c3 : ¬ (9223372036854775807 < 1 + s.length + 1) := by omega
    clear hq hpl hb0 h0
    generalize balanced s = bal at *
    go_enter Tryz.func49, Tryz.ntmps49
    go_wp2_with fail
    go_loopg [3, 4, 12] s.length (fun g p _ v wr => ∃ (i : Nat) (b : Bool), i + g = s.length ∧ v = .int .i64 (i : Int) ∧ p = .bool b ∧ Below w.heap.size w wr ∧ Hid (b = (s[0] != 35 && (s.take i).all fun c => !isS c)))
    case atStart => exact ⟨0, b0, by omega, rfl, by unfold bne; rw [HU.out, Bool.not_not], Below.refl _ _, by show _ = _; rw [HB0.out]; simp⟩
    case round =>
      obtain ⟨i, b, hig, rfl, rfl, hb, HI⟩ := hrel
      by_cases hlt : i < s.length
      · have t0 : decide ((i : Int) < (s.length : Int)) = true := by rw [decide_eq_true_eq]; omega
        have h255 := byte_lt s[i]
        have h000 : (0 : Int) ≤ (s[i].toNat : Int) := by omega
        have SP : Hid (∀ W, Calls Tryz.prog 62 #[.int .u8 (s[i].toNat : Int)] W fun e w' => e = .returned (.bool (isS s[i])) ∧ Below W.heap.size W w') := fun W => rspecial_any s[i] W
        have HA : Hid ((b && !isS s[i]) = (s[0] != 35 && (s.take (i + 1)).all fun c => !isS c)) := by
          show _ = _
          rw [HI.out, List.take_succ_eq_append_getElem hlt, List.all_append, Bool.and_assoc]
          simp
        clear HI
        generalize isS s[i] = si at *
        cases b with
        | true =>
          go_wp2_with (go_at_call 62; refine (SP.out _).mono ?_; rintro e w2 ⟨rfl, hB2⟩; have H2 := Lib.hid hB2; clear hB2)
          go_roundg (gk - 1)
          case measure => omega
          case rel => exact ⟨i + 1, _, by omega, by go_num, rfl, hb.trans (H2.out.mono hb.size), by show _ = _; have h := HA.out; rw [Bool.true_and] at h; exact h⟩
        | false =>
          go_wp2_with fail
          go_roundg (gk - 1)
          case measure => omega
          case rel => exact ⟨i + 1, false, by omega, by go_num, rfl, hb, by show _ = _; have h := HA.out; rw [Bool.false_and] at h; exact h⟩
      · obtain rfl : i = s.length := by omega
        have t0 : decide ((s.length : Int) < (s.length : Int)) = false := by rw [decide_eq_false_iff_not]; omega
        have HR : Hid (plainB s = b) := by show _ = _; rw [HP.out, HI.out, List.take_length]
        clear HI
        cases b with
        | true =>
          go_wp2_with fail
          go_ret
          exact ⟨by rw [HQ.out, HR.out]; rfl, hb⟩
        | false =>
          cases bal with
          | true =>
            go_wp2_with (go_at_call 63; refine (BA.out _).mono ?_; rintro e w2 ⟨rfl, rfl⟩)
            go_ret
            exact ⟨by rw [HQ.out, HR.out]; simp, hb⟩
          | false =>
            go_wp2_with (first | (go_at_call 63; refine (BA.out _).mono ?_; rintro e w2 ⟨rfl, rfl⟩) | (go_at_call 64; refine (SL.out _).mono ?_; rintro e w2 ⟨rfl, hB2⟩; have H2 := Lib.hid hB2; clear hB2))
            go_ret
            exact ⟨by rw [HQ.out, HR.out]; simp, hb.trans (H2.out.mono hb.size)⟩
end Go.Proofs.YtpaffocniniakaaGreat
