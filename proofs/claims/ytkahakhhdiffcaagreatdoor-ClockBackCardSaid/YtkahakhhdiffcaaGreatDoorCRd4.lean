/- Texts with small letters: 'lower' of both packages. Printed by mkCRd1.py. What a letter reads: letter.read. What the letter of seconds reads; what every letter reads. Printed by mkCRd3.py. What every letter reads. -/
import Derived.Test.YtkahakhhdiffcaaGreatDoorCNx9
import Derived.Test.YtkahakhhdiffcaaGreatDoorCWrite
namespace Go.Proofs.YtkahakhhdiffcaaGreatDoor
set_option linter.unusedVariables false
set_option linter.unusedSimpArgs false
open Go.RowKit Go.Shelf
/-- A text with small letters. -/
def lowL (s : Bs) : Bs := s.map lowB
def lowRow (s : Bs) (k : Nat) : Bs := (s.take k).map lowB ++ s.drop k
theorem lowRow_len (s : Bs) (k : Nat) : (lowRow s k).length = s.length := by simp [lowRow]; omega
theorem lowRow_at (s : Bs) (k : Nat) (h : k < s.length) : (lowRow s k)[k]'(by rw [lowRow_len]; exact h) = s[k] := by
  have hl : ((s.take k).map lowB).length = k := by simp; omega
  unfold lowRow
  rw [List.getElem_append_right (by omega)]
  simp [Nat.min_eq_left (Nat.le_of_lt h)]
theorem lowRow_set (s : Bs) (k : Nat) (h : k < s.length) : (lowRow s k).set k (lowB s[k]) = lowRow s (k + 1) := by
  have hl : ((s.take k).map lowB).length = k := by simp; omega
  unfold lowRow
  rw [List.set_append_right _ _ (by omega), hl, Nat.sub_self, List.drop_eq_getElem_cons h, List.set_cons_zero, List.take_succ_eq_append_getElem h, List.map_append, List.append_assoc]
  rfl
theorem lowRow_same (s : Bs) (k : Nat) (h : k < s.length) (hl : lowB s[k] = s[k]) : lowRow s k = lowRow s (k + 1) := by
  unfold lowRow
  rw [List.drop_eq_getElem_cons h, List.take_succ_eq_append_getElem h, List.map_append, List.append_assoc]
  simp [hl]
theorem lowRow_all (s : Bs) : lowRow s s.length = lowL s := by simp [lowRow, lowL]
theorem lowB_all : ∀ n : Fin 256, lowB (UInt8.ofNat n.val) = if 65 ≤ n.val ∧ n.val ≤ 90 then UInt8.ofNat (n.val + 32) else UInt8.ofNat n.val := by decide +kernel
theorem lowB_cases (c : UInt8) : lowB c = if 65 ≤ c.toNat ∧ c.toNat ≤ 90 then UInt8.ofNat (c.toNat + 32) else c := by
  have h := lowB_all ⟨c.toNat, c.toNat_lt⟩
  simpa using h
theorem IntKind.u8_wrap_of {n : Int} (h0 : 0 ≤ n) (h1 : n < 256) : IntKind.u8.wrap n = n := IntWalk.u8_in _ (by omega)
set_option maxHeartbeats 800000 in
theorem low_any (s : Bs) (hs : s.length ≤ 1000000) (w : World) :
    Calls Tryz.prog 120 #[.string ⟨s.toArray⟩] w fun e w' => e = .returned (.string ⟨(lowL s).toArray⟩) ∧ Below w.heap.size w w' := by
  go_enter Tryz.func120, Tryz.ntmps120
  go_wp2_with (refine wpList_bytes rfl _ _ 5 _ rfl Tryz.underlying9 Tryz.underlying27 Tryz.underlying5 s rfl ?_; intro w1 cap hB hsz hR; have H1 := Lib.hid (And.intro hR hB); clear hB hsz hR)
  go_loopw [4, 5, 10] (fun _ _ v10 wr => ∃ k : Nat, k ≤ s.length ∧ v10 = .int .i64 k ∧ BRow wr w.heap.size (lowRow s k) ∧ Below w.heap.size w wr) (fun _ _ v10 _ => s.length - (intOf v10).toNat)
  case atStart => exact ⟨0, Nat.zero_le _, rfl, H1.out.1, H1.out.2⟩
  case round =>
    obtain ⟨k, hk, rfl, hr, hb⟩ := hrel
    have hlen := lowRow_len s k
    by_cases hlt : k < s.length
    · have t1 : decide ((k : Int) < (s.length : Int)) = true := by rw [decide_eq_true_eq]; omega
      have i1 : k < s.length := hlt
      have hw1 : IntKind.i64.wrap ((k : Int) + 1) = (k : Int) + 1 := IntWalk.i64_in _ (by omega)
      have hkk : k < (lowRow s k).length := by omega
      have hc := hr.cell hkk
      have hf := hr.free hkk
      have hx : (lowRow s k)[k]'hkk = s[k] := lowRow_at s k hlt
      rw [hx] at hc
      have HS := Lib.hid (hr.set hkk (lowB s[k]))
      rw [lowRow_set s k hlt] at HS
      have HR := Lib.hid (fun (h : lowB s[k] = s[k]) => lowRow_same s k hlt h)
      have HBR := Lib.hid (And.intro hr hb)
      have hlb : lowB s[k] = if 65 ≤ s[k].toNat ∧ s[k].toNat ≤ 90 then UInt8.ofNat (s[k].toNat + 32) else s[k] := lowB_cases s[k]
      have hlt8 := s[k].toNat_lt
      clear hr hb hx hkk hlen
      generalize s[k] = c at *
      by_cases h1 : 65 ≤ c.toNat
      · have d1 : decide (65 ≤ (c.toNat : Int)) = true := by rw [decide_eq_true_eq]; omega
        by_cases h2 : c.toNat ≤ 90
        · have d2 : decide ((c.toNat : Int) ≤ 90) = true := by rw [decide_eq_true_eq]; omega
          rw [if_pos ⟨h1, h2⟩] at hlb
          have hw8 : IntKind.u8.wrap ((c.toNat : Int) + 32) = ((lowB c).toNat : Int) := by
            rw [hlb, UInt8.toNat_ofNat_of_lt' (by simp [UInt8.size]; omega), IntKind.u8_wrap_of (by omega) (by omega)]; rfl
          clear hlb HR
          go_wp2_with fail
          go_roundw
          case rel => exact ⟨k + 1, by omega, by go_num, HS.out, HBR.out.2.setCell (Nat.le_refl _) _⟩
          case measure => simp [intOf]; omega
        · have d2 : decide ((c.toNat : Int) ≤ 90) = false := by rw [decide_eq_false_iff_not]; omega
          rw [if_neg (by omega)] at hlb
          have HSK := Lib.hid (HR.out hlb)
          clear hlb HR
          go_wp2_with fail
          go_roundw
          case rel => exact ⟨k + 1, by omega, by go_num, by rw [← HSK.out]; exact HBR.out.1, HBR.out.2⟩
          case measure => simp [intOf]; omega
      · have d1 : decide (65 ≤ (c.toNat : Int)) = false := by rw [decide_eq_false_iff_not]; omega
        rw [if_neg (by omega)] at hlb
        have HSK := Lib.hid (HR.out hlb)
        clear hlb HR
        go_wp2_with fail
        go_roundw
        case rel => exact ⟨k + 1, by omega, by go_num, by rw [← HSK.out]; exact HBR.out.1, HBR.out.2⟩
        case measure => simp [intOf]; omega
    · obtain rfl : k = s.length := by omega
      have t1 : decide ((s.length : Int) < (s.length : Int)) = false := by rw [decide_eq_false_iff_not]; omega
      rw [lowRow_all] at hr
      have hcv := run_back (P := Tryz.prog) 27 9 5 Tryz.underlying27 Tryz.underlying5 Tryz.underlying9 (cap := cap) (n := s.length) hr (by simp [lowL])
      have HB := Lib.hid hb
      clear hlen hr hb
      go_wp2_with fail
      go_ret
      exact ⟨rfl, HB.out⟩
set_option maxHeartbeats 800000 in
theorem rlow_any (s : Bs) (hs : s.length ≤ 1000000) (w : World) :
    Calls Tryz.prog 41 #[.string ⟨s.toArray⟩] w fun e w' => e = .returned (.string ⟨(lowL s).toArray⟩) ∧ Below w.heap.size w w' := by
  go_enter Tryz.func41, Tryz.ntmps41
  go_wp2_with (refine wpList_bytes rfl _ _ 5 _ rfl Tryz.underlying9 Tryz.underlying27 Tryz.underlying5 s rfl ?_; intro w1 cap hB hsz hR; have H1 := Lib.hid (And.intro hR hB); clear hB hsz hR)
  go_loopw [4, 5, 10] (fun _ _ v10 wr => ∃ k : Nat, k ≤ s.length ∧ v10 = .int .i64 k ∧ BRow wr w.heap.size (lowRow s k) ∧ Below w.heap.size w wr) (fun _ _ v10 _ => s.length - (intOf v10).toNat)
  case atStart => exact ⟨0, Nat.zero_le _, rfl, H1.out.1, H1.out.2⟩
  case round =>
    obtain ⟨k, hk, rfl, hr, hb⟩ := hrel
    have hlen := lowRow_len s k
    by_cases hlt : k < s.length
    · have t1 : decide ((k : Int) < (s.length : Int)) = true := by rw [decide_eq_true_eq]; omega
      have i1 : k < s.length := hlt
      have hw1 : IntKind.i64.wrap ((k : Int) + 1) = (k : Int) + 1 := IntWalk.i64_in _ (by omega)
      have hkk : k < (lowRow s k).length := by omega
      have hc := hr.cell hkk
      have hf := hr.free hkk
      have hx : (lowRow s k)[k]'hkk = s[k] := lowRow_at s k hlt
      rw [hx] at hc
      have HS := Lib.hid (hr.set hkk (lowB s[k]))
      rw [lowRow_set s k hlt] at HS
      have HR := Lib.hid (fun (h : lowB s[k] = s[k]) => lowRow_same s k hlt h)
      have HBR := Lib.hid (And.intro hr hb)
      have hlb : lowB s[k] = if 65 ≤ s[k].toNat ∧ s[k].toNat ≤ 90 then UInt8.ofNat (s[k].toNat + 32) else s[k] := lowB_cases s[k]
      have hlt8 := s[k].toNat_lt
      clear hr hb hx hkk hlen
      generalize s[k] = c at *
      by_cases h1 : 65 ≤ c.toNat
      · have d1 : decide (65 ≤ (c.toNat : Int)) = true := by rw [decide_eq_true_eq]; omega
        by_cases h2 : c.toNat ≤ 90
        · have d2 : decide ((c.toNat : Int) ≤ 90) = true := by rw [decide_eq_true_eq]; omega
          rw [if_pos ⟨h1, h2⟩] at hlb
          have hw8 : IntKind.u8.wrap ((c.toNat : Int) + 32) = ((lowB c).toNat : Int) := by
            rw [hlb, UInt8.toNat_ofNat_of_lt' (by simp [UInt8.size]; omega), IntKind.u8_wrap_of (by omega) (by omega)]; rfl
          clear hlb HR
          go_wp2_with fail
          go_roundw
          case rel => exact ⟨k + 1, by omega, by go_num, HS.out, HBR.out.2.setCell (Nat.le_refl _) _⟩
          case measure => simp [intOf]; omega
        · have d2 : decide ((c.toNat : Int) ≤ 90) = false := by rw [decide_eq_false_iff_not]; omega
          rw [if_neg (by omega)] at hlb
          have HSK := Lib.hid (HR.out hlb)
          clear hlb HR
          go_wp2_with fail
          go_roundw
          case rel => exact ⟨k + 1, by omega, by go_num, by rw [← HSK.out]; exact HBR.out.1, HBR.out.2⟩
          case measure => simp [intOf]; omega
      · have d1 : decide (65 ≤ (c.toNat : Int)) = false := by rw [decide_eq_false_iff_not]; omega
        rw [if_neg (by omega)] at hlb
        have HSK := Lib.hid (HR.out hlb)
        clear hlb HR
        go_wp2_with fail
        go_roundw
        case rel => exact ⟨k + 1, by omega, by go_num, by rw [← HSK.out]; exact HBR.out.1, HBR.out.2⟩
        case measure => simp [intOf]; omega
    · obtain rfl : k = s.length := by omega
      have t1 : decide ((s.length : Int) < (s.length : Int)) = false := by rw [decide_eq_false_iff_not]; omega
      rw [lowRow_all] at hr
      have hcv := run_back (P := Tryz.prog) 27 9 5 Tryz.underlying27 Tryz.underlying5 Tryz.underlying9 (cap := cap) (n := s.length) hr (by simp [lowL])
      have HB := Lib.hid hb
      clear hlen hr hb
      go_wp2_with fail
      go_ret
      exact ⟨rfl, HB.out⟩
end Go.Proofs.YtkahakhhdiffcaaGreatDoor
namespace Go.Proofs.YtkahakhhdiffcaaGreatDoor
set_option linter.unusedVariables false
set_option linter.unusedSimpArgs false
open Go.RowKit Go.Shelf
/-- A name stands at the beginning, small or great. -/
def hasName (s x : Bs) : Bool := decide (x.length ≤ s.length) && (lowL (s.take x.length) == lowL x)
/-- What a letter with names reads: its number, and how many bytes. -/
def readN (s : Bs) (l : List Bs) : Int × Nat := match l.findIdx? (hasName s) with
  | some i => ((i : Int) + 1, (l.getD i []).length)
  | none => (0, 0)
theorem readN_at {s : Bs} {l : List Bs} {k : Nat} (hk : k < l.length) (h : ∀ i (hi : i < l.length), i < k → hasName s l[i] = false) (hy : hasName s l[k] = true) : readN s l = ((k : Int) + 1, l[k].length) := by
  have : l.findIdx? (hasName s) = some k := by
    rw [List.findIdx?_eq_some_iff_getElem]
    exact ⟨hk, hy, fun j hj => by rw [h j (by omega) hj]; decide⟩
  unfold readN
  rw [this]
  simp [List.getD_eq_getElem?_getD, List.getElem?_eq_getElem hk]
theorem readN_none {s : Bs} {l : List Bs} (h : ∀ i (hi : i < l.length), hasName s l[i] = false) : readN s l = (0, 0) := by
  have : l.findIdx? (hasName s) = none := by
    rw [List.findIdx?_eq_none_iff]
    intro x hx
    obtain ⟨i, hi, rfl⟩ := List.getElem_of_mem hx
    exact h i hi
  unfold readN
  rw [this]
set_option maxRecDepth 100000 in
set_option maxHeartbeats 1600000 in
theorem read_names (c : UInt8) (s : Bs) (hs : s.length ≤ 1000000) (fn : Fn) (fcap : Array Value) (l : List Bs) (hl : 0 < l.length) (hl9 : l.length ≤ 1000) (hx9 : ∀ x ∈ l, x.length ≤ 20) (b cap : Nat) (W : World) (hr : SRow W b l) :
    Calls Tryz.prog 82 #[.agg #[.func fn #[] fcap, .int .i64 0, .slice (some ⟨b, 0, none⟩) l.length cap], .int .u8 (c.toNat : Int), .string ⟨s.toArray⟩] W fun e w' => e = .returned (.tuple #[.int .i64 (readN s l).1, .int .i64 ((readN s l).2 : Int)]) ∧ Below W.heap.size W w' := by
  have hb0 := below_alloc1 W (.cells #[.func fn #[] fcap, .int .i64 0, .slice (some ⟨b, 0, none⟩) l.length cap] 83)
  obtain ⟨c0, c1, c2⟩ := cells3_new W (.func fn #[] fcap) (.int .i64 0) (.slice (some ⟨b, 0, none⟩) l.length cap) 83
  have hx0 : ∃ x, l[0]? = some x := ⟨l[0], List.getElem?_eq_getElem hl⟩
  have hbW : b < W.heap.size := by obtain ⟨x, hx⟩ := hx0; exact cell_lt (hr 0 x hx)
  have HR := Lib.hid (And.intro hr hb0)
  have HX := Lib.hid hx9
  clear hr hx9 hx0
  have hl0 : (0 : Int) < (l.length : Int) := by omega
  obtain ⟨r1, r2, hres⟩ : ∃ r1 r2, readN s l = (r1, r2) := ⟨_, _, rfl⟩
  rw [hres]
  simp only
  have HS := Lib.hid hres
  clear hres
  generalize hn : W.heap.size = n at *
  go_enter Tryz.func82, Tryz.ntmps82
  go_wp2_with fail
  go_loopw [8, 9, 17] (fun v8 v9 v17 wr => ∃ k : Nat, k ≤ l.length ∧ v17 = .int .i64 k ∧ (∀ i (hi : i < l.length), i < k → hasName s l[i] = false) ∧ Below n W wr ∧ wr.cell? ⟨n, 0, none⟩ = some (.func fn #[] fcap) ∧ wr.cell? ⟨n, 1, none⟩ = some (.int .i64 0) ∧ wr.cell? ⟨n, 2, none⟩ = some (.slice (some ⟨b, 0, none⟩) l.length cap)) (fun _ _ v17 _ => l.length - (intOf v17).toNat)
  case atStart => exact ⟨0, Nat.zero_le _, rfl, fun i _ h => absurd h (Nat.not_lt_zero _), HR.out.2, c0, c1, c2⟩
  case round =>
    obtain ⟨k, hk, rfl, hno, hb, c0, c1, c2⟩ := hrel
    by_cases hlt : k < l.length
    · have hx : l[k]? = some l[k] := List.getElem?_eq_getElem hlt
      have hck := (hb.cell (p := ⟨b, k, none⟩) hbW).trans (HR.out.1 k _ hx)
      have hx20 := HX.out _ (List.getElem_mem hlt)
      have HNO := Lib.hid (fun (h : hasName s l[k] = false) => show ∀ i (hi : i < l.length), i < k + 1 → hasName s l[i] = false from fun i hi h2 => by
        rcases Nat.lt_succ_iff_lt_or_eq.1 h2 with h3 | rfl
        · exact hno i hi h3
        · exact h)
      have HY := Lib.hid (fun (h : hasName s l[k] = true) => show r1 = (k : Int) + 1 ∧ r2 = l[k].length from by
        have h9 := HS.out
        rw [readN_at hlt hno h] at h9
        injection h9 with h8 h9
        exact ⟨h8.symm, h9.symm⟩)
      have t1 : decide ((k : Int) < (l.length : Int)) = true := by rw [decide_eq_true_eq]; omega
      have hw1 : IntKind.i64.wrap ((k : Int) + 1) = (k : Int) + 1 := IntWalk.i64_in _ (by omega)
      have hk0 : (0 : Int) ≤ k := by omega
      have hki : (k : Int) < (l.length : Int) := by omega
      have H0 := Lib.hid (And.intro hb (And.intro c0 (And.intro c1 c2)))
      have H00 := Lib.hid hb
      clear hx hno HR HX hb HS
      generalize l[k] = x at *
      by_cases h2 : x.length ≤ s.length
      · have d1 : decide (x.length ≤ s.length) = true := by rw [decide_eq_true_eq]; exact h2
        have HL1 := Lib.hid (fun W' => low_any (s.take x.length) (by simp; omega) W')
        have HL2 := Lib.hid (fun W' => low_any x (by omega) W')
        have e1 : hasName s x = (lowL (s.take x.length) == lowL x) := by
          unfold hasName
          rw [d1, Bool.true_and]
        rw [e1] at HNO HY
        generalize lowL (s.take x.length) = u1 at *
        generalize lowL x = u2 at *
        cases hq : (u1 == u2) with
        | true =>
          obtain ⟨rfl, rfl⟩ := HY.out hq
          clear HNO HY e1
          go_wp2_with (go_at_call 120; first | (have HQ := HL1; clear HL1; refine (HQ.out _).mono ?_; clear HQ; rintro e w1 ⟨rfl, hB⟩; have H1 := Lib.hid hB; clear hB) | (refine (HL2.out _).mono ?_; rintro e w2 ⟨rfl, hB⟩; have H2 := Lib.hid hB; clear hB))
          go_ret2
          exact ⟨rfl, (H00.out.trans (H1.out.mono (by have := H00.out.size; rw [hn] at this; omega))).trans (H2.out.mono (by have h7 := H00.out.size; have := H1.out.size; rw [hn] at h7; omega))⟩
        | false =>
          have HN2 := Lib.hid (HNO.out hq)
          clear HNO HY e1
          go_wp2_with (go_at_call 120; first | (have HQ := HL1; clear HL1; refine (HQ.out _).mono ?_; clear HQ; rintro e w1 ⟨rfl, hB⟩; have H1 := Lib.hid hB; clear hB) | (refine (HL2.out _).mono ?_; rintro e w2 ⟨rfl, hB⟩; have H2 := Lib.hid hB; clear hB))
          go_roundw
          case rel =>
            have hB := (H00.out.trans (H1.out.mono (by have h7 := H00.out.size; rw [hn] at h7; omega))).trans (H2.out.mono (by have h7 := H00.out.size; have := H1.out.size; rw [hn] at h7; omega))
            obtain ⟨_, c0, c1, c2⟩ := H0.out
            have h12 := H1.out.trans (H2.out.mono H1.out.size)
            exact ⟨k + 1, by omega, by go_num, HN2.out, hB, cells3_kept h12 c0 c1 c2⟩
          case measure => simp [intOf]; omega
      · have d1 : decide (x.length ≤ s.length) = false := by rw [decide_eq_false_iff_not]; exact h2
        have hnn : hasName s x = false := by unfold hasName; rw [d1]; rfl
        have HN2 := Lib.hid (HNO.out hnn)
        clear HNO HY hnn
        go_wp2_with fail
        go_roundw
        case rel => exact ⟨k + 1, by omega, by go_num, HN2.out, H0.out⟩
        case measure => simp [intOf]; omega
    · obtain rfl : k = l.length := by omega
      have t1 : decide ((l.length : Int) < (l.length : Int)) = false := by rw [decide_eq_false_iff_not]; omega
      have hres : readN s l = (0, 0) := readN_none fun i hi => hno i hi hi
      obtain ⟨rfl, rfl⟩ : r1 = 0 ∧ r2 = 0 := by have h9 := HS.out; rw [hres] at h9; injection h9 with h8 h9; exact ⟨h8.symm, h9.symm⟩
      have H0 := Lib.hid hb
      clear hb hno HX HR hres HS
      go_wp2_with fail
      go_ret2
      exact ⟨rfl, H0.out⟩
/-- Atoi's number, or one that is too great. -/
def valA (s : Bs) : Int := match Lib.atoiAll s with
  | .ok v => v
  | _ => 253402300800
def lenE (s : Bs) : Nat := if 0 < digN s 2 ∧ s[0]? = some 48 then 1 else digN s 2
def sgn (s : Bs) : Nat := if s[0]? = some 45 then 1 else 0
/-- What a letter without names reads: its number, and how many bytes (0: it is not there). -/
def readD (c : UInt8) (dig : Nat) (s : Bs) : Int × Nat :=
  if c = 101 then (if lenE s = 0 then (0, 0) else (valA (s.take (lenE s)), lenE s))
  else if c = 115 then
    (if digN (s.drop (sgn s)) s.length = 0 then (0, 0)
    else if 1 < digN (s.drop (sgn s)) s.length ∧ s[sgn s]? = some 48 then (0, 0)
    else if sgn s = 1 ∧ s[1]? = some 48 then (0, 0)
    else (valA (s.take (sgn s + digN (s.drop (sgn s)) s.length)), sgn s + digN (s.drop (sgn s)) s.length))
  else if digN s dig < dig then (0, 0) else if dig = 0 then (0, 0) else (valA (s.take dig), dig)
theorem atoi_any (s : Bs) (hs : s.length ≤ 1000000) (w : World) (hE : ErrIs w) :
    Calls Tryz.prog 91 #[.string ⟨s.toArray⟩] w fun e w' => ((∃ v, e = .returned (.tuple #[.int .i64 v, .nilIface]) ∧ v = valA s) ∨ ∃ v N, e = .returned (.tuple #[.int .i64 v, .iface 159 (.pointer (some ⟨N, 0, none⟩))]) ∧ valA s = 253402300800) ∧ Below w.heap.size w w' := by
  refine (atoi_full s (by omega) w hE).mono ?_
  rintro e w' ⟨er, rfl, h, hb⟩
  refine ⟨?_, hb⟩
  rcases h with ⟨rfl, v, hv⟩ | ⟨⟨N, rfl⟩, h⟩
  · exact .inl ⟨_, rfl, by unfold atoiV valA; rw [hv]⟩
  · refine .inr ⟨_, N, rfl, ?_⟩
    unfold valA
    split
    · rename_i v hv; exact absurd hv (h v)
    · rfl
set_option maxRecDepth 100000 in
set_option maxHeartbeats 1600000 in
theorem read_dig (c : UInt8) (hce : c ≠ 101) (hcs : c ≠ 115) (s : Bs) (hs : s.length ≤ 1000000) (fn : Fn) (fcap : Array Value) (dig : Nat) (hd0 : 0 < dig) (hd : dig ≤ 100) (W : World) (hE : ErrIs W) :
    Calls Tryz.prog 82 #[.agg #[.func fn #[] fcap, .int .i64 dig, .slice none 0 0], .int .u8 (c.toNat : Int), .string ⟨s.toArray⟩] W fun e w' => e = .returned (.tuple #[.int .i64 (readD c dig s).1, .int .i64 ((readD c dig s).2 : Int)]) ∧ Below W.heap.size W w' := by
  have hb0 := below_alloc1 W (.cells #[.func fn #[] fcap, .int .i64 dig, .slice none 0 0] 83)
  obtain ⟨c0, c1, c2⟩ := cells3_new W (.func fn #[] fcap) (.int .i64 dig) (.slice none 0 0) 83
  have HE := Lib.hid (hE.below hb0)
  have HB := Lib.hid hb0
  have c101 : (((c.toNat : Int)) == 101) = false := by simpa using u8_ne (a := c) (k := 101) (by omega) hce
  have c115 : (((c.toNat : Int)) == 115) = false := by simpa using u8_ne (a := c) (k := 115) (by omega) hcs
  have HD := Lib.hid (fun W' => digits_any s dig (by omega) (by omega) W')
  have hdl := digN_le s dig
  have hres : readD c dig s = if digN s dig < dig then (0, 0) else if dig = 0 then (0, 0) else (valA (s.take dig), dig) := by unfold readD; rw [if_neg hce, if_neg hcs]
  rw [hres]
  have HA := Lib.hid (fun W' hE => atoi_any (s.take dig) (by simp; omega) W' hE)
  generalize hn : W.heap.size = n at *
  clear hb0 hres hce hcs hE
  by_cases h1 : digN s dig < dig
  · rw [if_pos h1]
    have d1 : decide ((digN s dig : Int) < (dig : Int)) = true := by rw [decide_eq_true_eq]; omega
    clear HA
    generalize digN s dig = m at *
    go_enter Tryz.func82, Tryz.ntmps82
    go_wp2_with fail
    go_loop [8, 9, 17] (fun _ _ v17 => v17 = .int .i64 0) (fun _ _ _ => 0)
    case atStart => rfl
    case round =>
      obtain rfl := hrel
      go_wp2_with (go_at_call 121; refine (HD.out _).mono ?_; rintro e w1 ⟨rfl, rfl⟩)
      go_ret2
      exact ⟨rfl, HB.out⟩
  · rw [if_neg h1]
    have d1 : decide ((digN s dig : Int) < (dig : Int)) = false := by rw [decide_eq_false_iff_not]; omega
    have hdl2 : (dig : Int) ≤ (s.length : Int) := by omega
    have hdl3 : dig ≤ s.length := by omega
    generalize digN s dig = m at *
    generalize valA (s.take dig) = va at *
    have hw : IntKind.i64.wrap ((0 : Int) + (dig : Int)) = (dig : Int) := by rw [Int.zero_add]; exact IntWalk.i64_in _ (by omega)
    by_cases h0 : dig = 0
    · omega
    · rw [if_neg h0]
      have z : ((dig : Int) == 0) = false := by simp; omega
      go_enter Tryz.func82, Tryz.ntmps82
      go_wp2_with fail
      go_loop [8, 9, 17] (fun _ _ v17 => v17 = .int .i64 0) (fun _ _ _ => 0)
      case atStart => rfl
      case round =>
        obtain rfl := hrel
        go_wp2_with (first | (go_at_call 121; refine (HD.out _).mono ?_; rintro e w1 ⟨rfl, rfl⟩) | (go_at_call 91; refine (HA.out _ HE.out).mono ?_; rintro e w2 ⟨hv, hB⟩; have H2 := Lib.hid hB; clear hB; obtain ⟨v, rfl, rfl⟩ | ⟨v, N, rfl, rfl⟩ := hv))
        all_goals go_ret2
        all_goals exact ⟨rfl, HB.out.trans (H2.out.mono (by simp [hn]))⟩
set_option maxRecDepth 100000 in
set_option maxHeartbeats 1600000 in
theorem read_e (s : Bs) (hs : s.length ≤ 1000000) (fn : Fn) (fcap : Array Value) (W : World) (hE : ErrIs W) :
    Calls Tryz.prog 82 #[.agg #[.func fn #[] fcap, .int .i64 0, .slice none 0 0], .int .u8 101, .string ⟨s.toArray⟩] W fun e w' => e = .returned (.tuple #[.int .i64 (readD 101 0 s).1, .int .i64 ((readD 101 0 s).2 : Int)]) ∧ Below W.heap.size W w' := by
  have hb0 := below_alloc1 W (.cells #[.func fn #[] fcap, .int .i64 0, .slice none 0 0] 83)
  obtain ⟨c0, c1, c2⟩ := cells3_new W (.func fn #[] fcap) (.int .i64 0) (.slice none 0 0) 83
  have HE := Lib.hid (hE.below hb0)
  have HB := Lib.hid hb0
  have HD := Lib.hid (fun W' => digits_any s 2 (by omega) (by omega) W')
  have hdl := digN_le s 2
  have hres : readD 101 0 s = if lenE s = 0 then (0, 0) else (valA (s.take (lenE s)), lenE s) := by unfold readD; rw [if_pos rfl]
  rw [hres]
  have hll : lenE s ≤ 2 ∧ lenE s ≤ s.length := by unfold lenE; split <;> omega
  have HA := Lib.hid (fun W' hE => atoi_any (s.take (lenE s)) (by simp; omega) W' hE)
  generalize hn : W.heap.size = n at *
  clear hb0 hres hE
  have hle : lenE s = if 0 < digN s 2 ∧ s[0]? = some 48 then 1 else digN s 2 := rfl
  cases s with
  | nil =>
    have hm : digN ([] : Bs) 2 = 0 := Nat.le_zero.1 hdl.1
    have hl : lenE [] = 0 := Nat.le_zero.1 hll.2
    rw [hl] at HA ⊢
    rw [hm] at HD
    rw [if_pos rfl]
    clear hle hl hdl hll
    go_enter Tryz.func82, Tryz.ntmps82
    go_wp2_with fail
    go_loop [8, 9, 17] (fun _ _ v17 => v17 = .int .i64 0) (fun _ _ _ => 0)
    case atStart => rfl
    case round =>
      obtain rfl := hrel
      go_wp2_with (first | (go_at_call 121; refine (HD.out _).mono ?_; rintro e w1 ⟨rfl, rfl⟩) | (go_at_call 91; refine (HA.out _ HE.out).mono ?_; rintro e w2 ⟨hv, hB⟩; have H2 := Lib.hid hB; clear hB; obtain ⟨v, rfl, rfl⟩ | ⟨v, N, rfl, hN⟩ := hv))
      all_goals go_ret2
      all_goals exact ⟨rfl, HB.out.trans (H2.out.mono (by simp [hn]))⟩
  | cons a r =>
    generalize digN (a :: r) 2 = m at *
    generalize hL : lenE (a :: r) = L at *
    rw [List.getElem?_cons_zero] at hle
    have hLi : (L : Int) ≤ ((a :: r).length : Int) := by omega
    have hw : IntKind.i64.wrap ((0 : Int) + (L : Int)) = (L : Int) := by rw [Int.zero_add]; exact IntWalk.i64_in _ (by omega)
    by_cases h0 : m = 0
    · subst h0
      obtain rfl : L = 0 := by rw [hle]; simp
      rw [if_pos rfl]
      clear hle hdl hll hL
      go_enter Tryz.func82, Tryz.ntmps82
      go_wp2_with fail
      go_loop [8, 9, 17] (fun _ _ v17 => v17 = .int .i64 0) (fun _ _ _ => 0)
      case atStart => rfl
      case round =>
        obtain rfl := hrel
        go_wp2_with (first | (go_at_call 121; refine (HD.out _).mono ?_; rintro e w1 ⟨rfl, rfl⟩) | (go_at_call 91; refine (HA.out _ HE.out).mono ?_; rintro e w2 ⟨hv, hB⟩; have H2 := Lib.hid hB; clear hB; obtain ⟨v, rfl, rfl⟩ | ⟨v, N, rfl, hN⟩ := hv))
        all_goals go_ret2
        all_goals exact ⟨rfl, HB.out.trans (H2.out.mono (by simp [hn]))⟩
    · have d0 : decide ((0 : Int) < (m : Int)) = true := by rw [decide_eq_true_eq]; omega
      by_cases ha : a = 48
      · subst ha
        obtain rfl : L = 1 := by rw [hle, if_pos ⟨by omega, rfl⟩]
        have hmin : min (m : Int) 1 = 1 := by omega
        rw [if_neg (by omega)]
        generalize valA (List.take 1 (48 :: r)) = va at *
        clear hle hdl hll hL
        go_enter Tryz.func82, Tryz.ntmps82
        go_wp2_with fail
        go_loop [8, 9, 17] (fun _ _ v17 => v17 = .int .i64 0) (fun _ _ _ => 0)
        case atStart => rfl
        case round =>
          obtain rfl := hrel
          go_wp2_with (first | (go_at_call 121; refine (HD.out _).mono ?_; rintro e w1 ⟨rfl, rfl⟩) | (go_at_call 91; refine (HA.out _ HE.out).mono ?_; rintro e w2 ⟨hv, hB⟩; have H2 := Lib.hid hB; clear hB; obtain ⟨v, rfl, rfl⟩ | ⟨v, N, rfl, rfl⟩ := hv))
          all_goals go_ret2
          all_goals exact ⟨rfl, HB.out.trans (H2.out.mono (by simp [hn]))⟩
      · obtain rfl : L = m := by rw [hle, if_neg (by intro h; exact ha (Option.some.inj h.2))]
        have a48 : (((a.toNat : Int)) == 48) = false := by simpa using u8_ne (a := a) (k := 48) (by omega) ha
        rw [if_neg h0]
        have z : ((L : Int) == 0) = false := by simp; omega
        generalize valA (List.take L (a :: r)) = va at *
        clear hle hdl hL
        go_enter Tryz.func82, Tryz.ntmps82
        go_wp2_with fail
        go_loop [8, 9, 17] (fun _ _ v17 => v17 = .int .i64 0) (fun _ _ _ => 0)
        case atStart => rfl
        case round =>
          obtain rfl := hrel
          go_wp2_with (first | (go_at_call 121; refine (HD.out _).mono ?_; rintro e w1 ⟨rfl, rfl⟩) | (go_at_call 91; refine (HA.out _ HE.out).mono ?_; rintro e w2 ⟨hv, hB⟩; have H2 := Lib.hid hB; clear hB; obtain ⟨v, rfl, rfl⟩ | ⟨v, N, rfl, rfl⟩ := hv))
          all_goals go_ret2
          all_goals exact ⟨rfl, HB.out.trans (H2.out.mono (by simp [hn]))⟩
end Go.Proofs.YtkahakhhdiffcaaGreatDoor
namespace Go.Proofs.YtkahakhhdiffcaaGreatDoor
set_option linter.unusedVariables false
set_option linter.unusedSimpArgs false
open Go.RowKit Go.Shelf
theorem hasm_any (x : Bs) (W : World) : Calls Tryz.prog 47 #[.string ⟨x.toArray⟩, .string ⟨#[45]⟩] W fun e w' => e = .returned (.bool (decide (x.head? = some 45))) ∧ W = w' := by
  refine (Tryz.strings_HasPrefix ⟨x.toArray⟩ ⟨#[45]⟩ W).mono ?_
  rintro e w' ⟨rfl, rfl⟩
  refine ⟨?_, rfl⟩
  have : Lib.hasPrefix x [45] = decide (x.head? = some 45) := by
    unfold Lib.hasPrefix
    cases x with
    | nil => simp [List.isPrefixOf]
    | cons a r =>
      by_cases h : a = 45
      · subst h; simp [List.isPrefixOf]
      · simp [List.isPrefixOf, h, Ne.symm h]
  rw [← this]
def readS (s : Bs) : Int × Nat := if digN (s.drop (sgn s)) s.length = 0 then (0, 0)
    else if 1 < digN (s.drop (sgn s)) s.length ∧ s[sgn s]? = some 48 then (0, 0)
    else if sgn s = 1 ∧ s[1]? = some 48 then (0, 0)
    else (valA (s.take (sgn s + digN (s.drop (sgn s)) s.length)), sgn s + digN (s.drop (sgn s)) s.length)
theorem readD_s (dig : Nat) (s : Bs) : readD 115 dig s = readS s := by unfold readD readS; rw [if_neg (by decide), if_pos rfl]
set_option maxRecDepth 100000 in
set_option maxHeartbeats 1600000 in
theorem read_s (s : Bs) (hs : s.length ≤ 1000000) (fn : Fn) (fcap : Array Value) (W : World) (hE : ErrIs W) :
    Calls Tryz.prog 82 #[.agg #[.func fn #[] fcap, .int .i64 0, .slice none 0 0], .int .u8 115, .string ⟨s.toArray⟩] W fun e w' => e = .returned (.tuple #[.int .i64 (readD 115 0 s).1, .int .i64 ((readD 115 0 s).2 : Int)]) ∧ Below W.heap.size W w' := by
  have hb0 := below_alloc1 W (.cells #[.func fn #[] fcap, .int .i64 0, .slice none 0 0] 83)
  obtain ⟨c0, c1, c2⟩ := cells3_new W (.func fn #[] fcap) (.int .i64 0) (.slice none 0 0) 83
  have HE := Lib.hid (hE.below hb0)
  have HB := Lib.hid hb0
  rw [readD_s]
  generalize hn : W.heap.size = n at *
  clear hb0 hE
  have HP := Lib.hid (fun W' => hasm_any s W')
  cases s with
  | nil =>
    have hl : readS [] = (0, 0) := rfl
    rw [hl]
    have HD := Lib.hid (fun W' => digits_any [] 0 (by omega) (by simp) W')
    have HA := Lib.hid (fun W' hE => atoi_any [] (by simp) W' hE)
    have hm : digN ([] : Bs) 0 = 0 := rfl
    have hf : decide (([] : Bs).head? = some 45) = false := rfl
    rw [hm] at HD
    rw [hf] at HP
    clear hm hf hl
    go_enter Tryz.func82, Tryz.ntmps82
    go_wp2_with fail
    go_loop [8, 9, 17] (fun _ _ v17 => v17 = .int .i64 0) (fun _ _ _ => 0)
    case atStart => rfl
    case round =>
      obtain rfl := hrel
      go_wp2_with (first | (go_at_call 47; refine (HP.out _).mono ?_; rintro e w9 ⟨rfl, rfl⟩) | (go_at_call 121; refine (HD.out _).mono ?_; rintro e w1 ⟨rfl, rfl⟩) | (go_at_call 91; refine (HA.out _ HE.out).mono ?_; rintro e w2 ⟨hv, hB⟩; have H2 := Lib.hid hB; clear hB; obtain ⟨v, rfl, hvv⟩ | ⟨v, N, rfl, hvv⟩ := hv))
      all_goals go_ret2
      all_goals exact ⟨rfl, HB.out.trans (H2.out.mono (by simp [hn]))⟩
  | cons a r =>
    by_cases h45 : a = 45
    · subst h45
      have hg : sgn (45 :: r) = 1 := rfl
      have hf : decide ((45 :: r : Bs).head? = some 45) = true := rfl
      rw [hf] at HP
      have hdl := digN_le r (r.length + 1)
      have HD := Lib.hid (fun W' => digits_any r (r.length + 1) (by simp at hs; omega) (by simp at hs; omega) W')
      have hr : readS (45 :: r) = if digN r (r.length + 1) = 0 then (0, 0) else if 1 < digN r (r.length + 1) ∧ r[0]? = some 48 then (0, 0) else if r[0]? = some 48 then (0, 0) else (valA ((45 :: r).take (1 + digN r (r.length + 1))), 1 + digN r (r.length + 1)) := by
        unfold readS
        rw [hg]
        simp
      rw [hr]
      clear hr hg hf
      have HA := Lib.hid (fun W' hE => atoi_any ((45 :: r).take (1 + digN r (r.length + 1))) (by simp at hs ⊢; omega) W' hE)
      have hr9 : r.length < 1000000 := by simp at hs; omega
      clear hs
      generalize digN r (r.length + 1) = D at *
      by_cases h0 : D = 0
      · subst h0
        rw [if_pos rfl]
        clear hdl
        go_enter Tryz.func82, Tryz.ntmps82
        go_wp2_with fail
        go_loop [8, 9, 17] (fun _ _ v17 => v17 = .int .i64 0) (fun _ _ _ => 0)
        case atStart => rfl
        case round =>
          obtain rfl := hrel
          go_wp2_with (first | (go_at_call 47; refine (HP.out _).mono ?_; rintro e w9 ⟨rfl, rfl⟩) | (go_at_call 121; refine (HD.out _).mono ?_; rintro e w1 ⟨rfl, rfl⟩) | (go_at_call 91; refine (HA.out _ HE.out).mono ?_; rintro e w2 ⟨hv, hB⟩; have H2 := Lib.hid hB; clear hB; obtain ⟨v, rfl, hvv⟩ | ⟨v, N, rfl, hvv⟩ := hv))
          all_goals go_ret2
          all_goals exact ⟨rfl, HB.out.trans (H2.out.mono (by simp [hn]))⟩
      · rw [if_neg h0]
        have z : ((D : Int) == 0) = false := by simp; omega
        have hw : IntKind.i64.wrap ((1 : Int) + (D : Int)) = (1 : Int) + (D : Int) := IntWalk.i64_in _ (by omega)
        cases r with
        | nil => simp at hdl; omega
        | cons b r2 =>
          rw [List.getElem?_cons_zero]
          have hDl : (1 : Int) + (D : Int) ≤ (r2.length : Int) + 1 + 1 := by simp at hdl; omega
          by_cases hb : b = 48
          · subst hb
            by_cases h1 : 1 < D
            · rw [if_pos ⟨h1, rfl⟩]
              have d1 : decide ((1 : Int) < (D : Int)) = true := by rw [decide_eq_true_eq]; omega
              clear hdl hw hDl HA
              go_enter Tryz.func82, Tryz.ntmps82
              go_wp2_with fail
              go_loop [8, 9, 17] (fun _ _ v17 => v17 = .int .i64 0) (fun _ _ _ => 0)
              case atStart => rfl
              case round =>
                obtain rfl := hrel
                go_wp2_with (first | (go_at_call 47; refine (HP.out _).mono ?_; rintro e w9 ⟨rfl, rfl⟩) | (go_at_call 121; refine (HD.out _).mono ?_; rintro e w1 ⟨rfl, rfl⟩))
                all_goals go_ret2
                all_goals exact ⟨rfl, HB.out⟩
            · rw [if_neg (fun h => h1 h.1), if_pos rfl]
              have d1 : decide ((1 : Int) < (D : Int)) = false := by rw [decide_eq_false_iff_not]; omega
              clear hdl
              go_enter Tryz.func82, Tryz.ntmps82
              go_wp2_with fail
              go_loop [8, 9, 17] (fun _ _ v17 => v17 = .int .i64 0) (fun _ _ _ => 0)
              case atStart => rfl
              case round =>
                obtain rfl := hrel
                go_wp2_with (first | (go_at_call 47; refine (HP.out _).mono ?_; rintro e w9 ⟨rfl, rfl⟩) | (go_at_call 121; refine (HD.out _).mono ?_; rintro e w1 ⟨rfl, rfl⟩) | (go_at_call 91; refine (HA.out _ HE.out).mono ?_; rintro e w2 ⟨hv, hB⟩; have H2 := Lib.hid hB; clear hB; obtain ⟨v, rfl, hvv⟩ | ⟨v, N, rfl, hvv⟩ := hv))
                all_goals go_ret2
                all_goals exact ⟨rfl, HB.out.trans (H2.out.mono (by simp [hn]))⟩
          · have b48 : (((b.toNat : Int)) == 48) = false := by simpa using u8_ne (a := b) (k := 48) (by omega) hb
            rw [if_neg (fun h => hb (Option.some.inj h.2)), if_neg (fun h => hb (Option.some.inj h))]
            generalize valA (List.take (1 + D) (45 :: b :: r2)) = va at *
            by_cases h1 : 1 < D
            · have d1 : decide ((1 : Int) < (D : Int)) = true := by rw [decide_eq_true_eq]; omega
              clear hdl
              go_enter Tryz.func82, Tryz.ntmps82
              go_wp2_with fail
              go_loop [8, 9, 17] (fun _ _ v17 => v17 = .int .i64 0) (fun _ _ _ => 0)
              case atStart => rfl
              case round =>
                obtain rfl := hrel
                go_wp2_with (first | (go_at_call 47; refine (HP.out _).mono ?_; rintro e w9 ⟨rfl, rfl⟩) | (go_at_call 121; refine (HD.out _).mono ?_; rintro e w1 ⟨rfl, rfl⟩) | (go_at_call 91; refine (HA.out _ HE.out).mono ?_; rintro e w2 ⟨hv, hB⟩; have H2 := Lib.hid hB; clear hB; obtain ⟨v, rfl, rfl⟩ | ⟨v, N, rfl, rfl⟩ := hv))
                all_goals go_ret2
                all_goals exact ⟨rfl, HB.out.trans (H2.out.mono (by simp [hn]))⟩
            · have d1 : decide ((1 : Int) < (D : Int)) = false := by rw [decide_eq_false_iff_not]; omega
              clear hdl
              go_enter Tryz.func82, Tryz.ntmps82
              go_wp2_with fail
              go_loop [8, 9, 17] (fun _ _ v17 => v17 = .int .i64 0) (fun _ _ _ => 0)
              case atStart => rfl
              case round =>
                obtain rfl := hrel
                go_wp2_with (first | (go_at_call 47; refine (HP.out _).mono ?_; rintro e w9 ⟨rfl, rfl⟩) | (go_at_call 121; refine (HD.out _).mono ?_; rintro e w1 ⟨rfl, rfl⟩) | (go_at_call 91; refine (HA.out _ HE.out).mono ?_; rintro e w2 ⟨hv, hB⟩; have H2 := Lib.hid hB; clear hB; obtain ⟨v, rfl, rfl⟩ | ⟨v, N, rfl, rfl⟩ := hv))
                all_goals go_ret2
                all_goals exact ⟨rfl, HB.out.trans (H2.out.mono (by simp [hn]))⟩
    · have hg : sgn (a :: r) = 0 := by unfold sgn; rw [if_neg]; simpa using h45
      have hf : decide ((a :: r : Bs).head? = some 45) = false := by simpa using h45
      rw [hf] at HP
      have hlen : (a :: r).length = r.length + 1 := rfl
      have hdl := digN_le (a :: r) (r.length + 1)
      have HD := Lib.hid (fun W' => digits_any (a :: r) (r.length + 1) (by simp at hs; omega) (by simp at hs ⊢; omega) W')
      have hr : readS (a :: r) = if digN (a :: r) (r.length + 1) = 0 then (0, 0) else if 1 < digN (a :: r) (r.length + 1) ∧ a = 48 then (0, 0) else (valA ((a :: r).take (digN (a :: r) (r.length + 1))), digN (a :: r) (r.length + 1)) := by
        unfold readS
        rw [hg, hlen]
        simp
      rw [hr]
      clear hr hg hf
      have HA := Lib.hid (fun W' hE => atoi_any ((a :: r).take (digN (a :: r) (r.length + 1))) (by simp only [List.length_take]; simp at hs; omega) W' hE)
      rw [hlen] at hdl
      generalize digN (a :: r) (r.length + 1) = D at *
      have hr9 : r.length < 1000000 := by simp at hs; omega
      clear hs hlen
      by_cases h0 : D = 0
      · subst h0
        rw [if_pos rfl]
        clear hdl
        go_enter Tryz.func82, Tryz.ntmps82
        go_wp2_with fail
        go_loop [8, 9, 17] (fun _ _ v17 => v17 = .int .i64 0) (fun _ _ _ => 0)
        case atStart => rfl
        case round =>
          obtain rfl := hrel
          go_wp2_with (first | (go_at_call 47; refine (HP.out _).mono ?_; rintro e w9 ⟨rfl, rfl⟩) | (go_at_call 121; refine (HD.out _).mono ?_; rintro e w1 ⟨rfl, rfl⟩) | (go_at_call 91; refine (HA.out _ HE.out).mono ?_; rintro e w2 ⟨hv, hB⟩; have H2 := Lib.hid hB; clear hB; obtain ⟨v, rfl, hvv⟩ | ⟨v, N, rfl, hvv⟩ := hv))
          all_goals go_ret2
          all_goals exact ⟨rfl, HB.out.trans (H2.out.mono (by simp [hn]))⟩
      · rw [if_neg h0]
        have z : ((D : Int) == 0) = false := by simp; omega
        have hw : IntKind.i64.wrap ((0 : Int) + (D : Int)) = (D : Int) := by rw [Int.zero_add]; exact IntWalk.i64_in _ (by omega)
        have hDl : (D : Int) ≤ (r.length : Int) + 1 := by omega
        by_cases ha : a = 48
        · subst ha
          by_cases h1 : 1 < D
          · rw [if_pos ⟨h1, rfl⟩]
            have d1 : decide ((1 : Int) < (D : Int)) = true := by rw [decide_eq_true_eq]; omega
            clear hdl hw hDl HA
            go_enter Tryz.func82, Tryz.ntmps82
            go_wp2_with fail
            go_loop [8, 9, 17] (fun _ _ v17 => v17 = .int .i64 0) (fun _ _ _ => 0)
            case atStart => rfl
            case round =>
              obtain rfl := hrel
              go_wp2_with (first | (go_at_call 47; refine (HP.out _).mono ?_; rintro e w9 ⟨rfl, rfl⟩) | (go_at_call 121; refine (HD.out _).mono ?_; rintro e w1 ⟨rfl, rfl⟩))
              all_goals go_ret2
              all_goals exact ⟨rfl, HB.out⟩
          · rw [if_neg (fun h => h1 h.1)]
            have d1 : decide ((1 : Int) < (D : Int)) = false := by rw [decide_eq_false_iff_not]; omega
            generalize valA (List.take D (48 :: r)) = va at *
            clear hdl
            go_enter Tryz.func82, Tryz.ntmps82
            go_wp2_with fail
            go_loop [8, 9, 17] (fun _ _ v17 => v17 = .int .i64 0) (fun _ _ _ => 0)
            case atStart => rfl
            case round =>
              obtain rfl := hrel
              go_wp2_with (first | (go_at_call 47; refine (HP.out _).mono ?_; rintro e w9 ⟨rfl, rfl⟩) | (go_at_call 121; refine (HD.out _).mono ?_; rintro e w1 ⟨rfl, rfl⟩) | (go_at_call 91; refine (HA.out _ HE.out).mono ?_; rintro e w2 ⟨hv, hB⟩; have H2 := Lib.hid hB; clear hB; obtain ⟨v, rfl, rfl⟩ | ⟨v, N, rfl, rfl⟩ := hv))
              all_goals go_ret2
              all_goals exact ⟨rfl, HB.out.trans (H2.out.mono (by simp [hn]))⟩
        · have a48 : (((a.toNat : Int)) == 48) = false := by simpa using u8_ne (a := a) (k := 48) (by omega) ha
          rw [if_neg (fun h => ha h.2)]
          generalize valA (List.take D (a :: r)) = va at *
          by_cases h1 : 1 < D
          · have d1 : decide ((1 : Int) < (D : Int)) = true := by rw [decide_eq_true_eq]; omega
            clear hdl
            go_enter Tryz.func82, Tryz.ntmps82
            go_wp2_with fail
            go_loop [8, 9, 17] (fun _ _ v17 => v17 = .int .i64 0) (fun _ _ _ => 0)
            case atStart => rfl
            case round =>
              obtain rfl := hrel
              go_wp2_with (first | (go_at_call 47; refine (HP.out _).mono ?_; rintro e w9 ⟨rfl, rfl⟩) | (go_at_call 121; refine (HD.out _).mono ?_; rintro e w1 ⟨rfl, rfl⟩) | (go_at_call 91; refine (HA.out _ HE.out).mono ?_; rintro e w2 ⟨hv, hB⟩; have H2 := Lib.hid hB; clear hB; obtain ⟨v, rfl, rfl⟩ | ⟨v, N, rfl, rfl⟩ := hv))
              all_goals go_ret2
              all_goals exact ⟨rfl, HB.out.trans (H2.out.mono (by simp [hn]))⟩
          · have d1 : decide ((1 : Int) < (D : Int)) = false := by rw [decide_eq_false_iff_not]; omega
            clear hdl
            go_enter Tryz.func82, Tryz.ntmps82
            go_wp2_with fail
            go_loop [8, 9, 17] (fun _ _ v17 => v17 = .int .i64 0) (fun _ _ _ => 0)
            case atStart => rfl
            case round =>
              obtain rfl := hrel
              go_wp2_with (first | (go_at_call 47; refine (HP.out _).mono ?_; rintro e w9 ⟨rfl, rfl⟩) | (go_at_call 121; refine (HD.out _).mono ?_; rintro e w1 ⟨rfl, rfl⟩) | (go_at_call 91; refine (HA.out _ HE.out).mono ?_; rintro e w2 ⟨hv, hB⟩; have H2 := Lib.hid hB; clear hB; obtain ⟨v, rfl, rfl⟩ | ⟨v, N, rfl, rfl⟩ := hv))
              all_goals go_ret2
              all_goals exact ⟨rfl, HB.out.trans (H2.out.mono (by simp [hn]))⟩
end Go.Proofs.YtkahakhhdiffcaaGreatDoor
namespace Go.Proofs.YtkahakhhdiffcaaGreatDoor
set_option linter.unusedVariables false
set_option linter.unusedSimpArgs false
open Go.RowKit Go.Shelf
/-- What a letter reads: its number, and how many bytes (0: it is not there). -/
def readC (c : UInt8) (s : Bs) : Int × Nat := match info (c.toNat : Int) with
  | some i => if i.names = [] then readD c i.dig.toNat s else readN s i.names
  | none => (0, 0)
def digOk (n : Nat) : Bool := match info (n : Int) with
  | some i => if i.names = [] then (decide (n = 101 ∨ n = 115) && decide (i.dig = 0)) || (decide (n ≠ 101) && decide (n ≠ 115) && decide (0 < i.dig) && decide (i.dig ≤ 100)) else decide (i.dig = 0) && decide (i.names.length ≤ 1000)
  | none => true
theorem digOk_all : ∀ n : Nat, n < 256 → digOk n = true := by decide +kernel
theorem info_dig (d : UInt8) {i : Info} (h : info (d.toNat : Int) = some i) : (i.names = [] → ((d.toNat = 101 ∨ d.toNat = 115) ∧ i.dig = 0) ∨ (d.toNat ≠ 101 ∧ d.toNat ≠ 115 ∧ 0 < i.dig ∧ i.dig ≤ 100)) ∧ (i.names ≠ [] → i.dig = 0 ∧ i.names.length ≤ 1000) := by
  have hd := digOk_all d.toNat d.toNat_lt
  unfold digOk at hd
  rw [h] at hd
  simp only at hd
  by_cases hn : i.names = []
  · rw [if_pos hn] at hd
    refine ⟨fun _ => ?_, fun h => absurd hn h⟩
    simp only [Bool.or_eq_true, Bool.and_eq_true, decide_eq_true_eq] at hd
    rcases hd with h | h
    · exact .inl h
    · exact .inr ⟨h.1.1.1, h.1.1.2, h.1.2, h.2⟩
  · rw [if_neg hn] at hd
    simp only [Bool.and_eq_true, decide_eq_true_eq] at hd
    exact ⟨fun h => absurd h hn, fun _ => hd⟩
theorem u8_101 {c : UInt8} (h : c.toNat = 101) : c = 101 := by
  apply UInt8.toNat_inj.1; rw [h]; rfl
theorem u8_115 {c : UInt8} (h : c.toNat = 115) : c = 115 := by
  apply UInt8.toNat_inj.1; rw [h]; rfl
theorem letter_read (mb : Nat) (W : World) (d : UInt8) (v : Value) (hv : LetterV mb W (d.toNat : Int) v) (s : Bs) (hs : s.length ≤ 1000000) (hE : ErrIs W) :
    Calls Tryz.prog 82 #[v, .int .u8 (d.toNat : Int), .string ⟨s.toArray⟩] W fun e w' => e = .returned (.tuple #[.int .i64 (readC d s).1, .int .i64 ((readC d s).2 : Int)]) ∧ Below W.heap.size W w' := by
  obtain ⟨i, f, n, h1, rfl, hf, hn⟩ := hv
  have hx := (kind_of d h1).2
  have hi := info_dig d h1
  have hr : readC d s = if i.names = [] then readD d i.dig.toNat s else readN s i.names := by unfold readC; rw [h1]
  rw [hr]
  obtain ⟨direct, F, dig, names⟩ := i
  simp only [] at hi hx hf hn ⊢
  have hfn : ∃ fn fcap, f = .func fn #[] fcap := by
    cases direct with
    | true => exact ⟨_, _, hf⟩
    | false => obtain ⟨a, _, h, _⟩ := hf; exact ⟨_, _, h⟩
  obtain ⟨fn, fcap, rfl⟩ := hfn
  by_cases hnn : names = []
  · rw [if_pos hnn]
    obtain rfl : n = .slice none 0 0 := by
      rcases hn with ⟨_, h⟩ | ⟨b, cap, _, h, _, h0⟩
      · exact h
      · rw [hnn] at h0; cases h0
    rcases hi.1 hnn with ⟨h, rfl⟩ | ⟨h2, h3, h4, h5⟩
    · rcases h with h | h
      · obtain rfl := u8_101 h
        exact read_e s hs fn fcap W hE
      · obtain rfl := u8_115 h
        exact read_s s hs fn fcap W hE
    · obtain ⟨k, rfl⟩ : ∃ k : Nat, dig = k := ⟨dig.toNat, by omega⟩
      rw [show ((k : Int)).toNat = k from rfl]
      exact read_dig d (by rintro rfl; exact h2 rfl) (by rintro rfl; exact h3 rfl) s hs fn fcap k (by omega) (by omega) W hE
  · rw [if_neg hnn]
    obtain ⟨rfl, h6⟩ := hi.2 hnn
    rcases hn with ⟨h, _⟩ | ⟨b, cap, _, rfl, hr, h0⟩
    · exact absurd h hnn
    · exact read_names d s hs fn fcap names h0 h6 hx b cap W hr
end Go.Proofs.YtkahakhhdiffcaaGreatDoor
