/- The readers of one element (package list), walked. -/
import Derived.Test.YteojlmpipfajoaaGreatDoorUnesc3
import Derived.Test.YteojlmpipfajoaaGreatDoorBuilder
import Derived.Test.YteojlmpipfajoaaGreatDoorLPlain
import Derived.Deep.LoopGhost
namespace Go.Proofs.YteojlmpipfajoaaGreatDoor
set_option linter.unusedVariables false
set_option linter.unusedSimpArgs false
open Go.RowKit

theorem u8_ne {a : UInt8} {n : UInt8} (h : a ≠ n) : ((a.toNat : Int) == (n.toNat : Int)) = false := by
  rw [beq_eq_false_iff_ne]
  intro h2
  exact h (UInt8.toNat_inj.1 (by omega))
theorem u8_eq {a : UInt8} {n : UInt8} (h : a = n) : ((a.toNat : Int) == (n.toNat : Int)) = true := by
  rw [h]; simp
theorem byteCells_more (acc t : Bs) : Lib.byteCells (acc ++ t) = Lib.byteCells acc ++ Lib.strCells ⟨t.toArray⟩ := by simp [Lib.byteCells, Lib.strCells]
theorem ret3_sib {s s' : Bs} {a b : Int} {x y : Bool} (h : s = s') (h' : a = b) (h2 : x = y) : Ending.returned (.tuple #[.string ⟨s.toArray⟩, .int .i64 a, .bool x]) = .returned (.tuple #[.string ⟨s'.toArray⟩, .int .i64 b, .bool y]) := by rw [h, h', h2]

theorem kind_any (c : UInt8) (w : World) :
    Calls Tryz.prog 69 #[.int .u8 (c.toNat : Int)] w fun e w' => e = .returned (.int .i64 (if c = 123 then 1 else if c = 34 then 2 else 0)) ∧ w = w' := by
  by_cases h1 : c = 123
  · subst h1
    go_enter Tryz.func69, Tryz.ntmps69
    go_wp2_with fail
    go_ret
    exact ⟨rfl, rfl⟩
  · have t1 : ((c.toNat : Int) == 123) = false := u8_ne (n := 123) h1
    rw [if_neg h1]
    by_cases h2 : c = 34
    · subst h2
      go_enter Tryz.func69, Tryz.ntmps69
      go_wp2_with fail
      go_ret
      exact ⟨rfl, rfl⟩
    · have t2 : ((c.toNat : Int) == 34) = false := u8_ne (n := 34) h2
      rw [if_neg h2]
      go_enter Tryz.func69, Tryz.ntmps69
      go_wp2_with fail
      go_ret
      exact ⟨rfl, rfl⟩

set_option maxRecDepth 100000 in
set_option maxHeartbeats 1600000 in
theorem readBare_any (s : Bs) (hs : s.length ≤ 1000000) (w : World) :
    Calls Tryz.prog 80 #[.string ⟨s.toArray⟩] w fun e w' => e = .returned (.tuple #[.string ⟨(bare s).1.toArray⟩, .int .i64 ((bare s).2 : Int), .bool true]) ∧ Below w.heap.size w w' := by
  go_enter Tryz.func80, Tryz.ntmps80
  go_wp2_with fail
  go_loopg [6, 7, 8] s.length (fun g v _ _ wr => ∃ (i : Nat) (acc : Bs), i + g = s.length ∧ v = .int .i64 i ∧ IsB w.heap.size w.heap.size (Lib.byteCells acc) wr ∧ Below w.heap.size w wr ∧ Hid (acc ++ (bare (s.drop i)).1 = (bare s).1 ∧ i + (bare (s.drop i)).2 = (bare s).2) ∧ acc.length ≤ i)
  case atStart => exact ⟨0, [], by omega, rfl, IsB.new w, (Below.refl _ _).alloc (Nat.le_refl _) _, by simp [Hid], by simp⟩
  case round =>
    obtain ⟨i, acc, hig, rfl, hB, hb, HI, hacc⟩ := hrel
    by_cases hlt : i < s.length
    · have t0 : decide ((i : Int) < (s.length : Int)) = true := by rw [decide_eq_true_eq]; omega
      have hcons : s.drop i = s[i] :: s.drop (i + 1) := List.drop_eq_getElem_cons hlt
      have h255 := byte_lt s[i]
      have h000 : (0 : Int) ≤ (s[i].toNat : Int) := by omega
      have V1 := Lib.hid (fun W => white_any _ h000 h255 W)
      by_cases hw : isW s[i] = true
      · have hw' : whiteI (s[i].toNat : Int) = true := hw
        have hres : acc = (bare s).1 ∧ i = (bare s).2 := by
          have h := HI.out
          rw [hcons, bare_white hw] at h
          simpa using h
        rw [hw'] at V1
        have Hres := Lib.hid hres
        clear hres HI hcons hw hw'
        go_wp2_with (first | (go_at_call 61; refine (V1.out _).mono ?_; rintro e w2 ⟨rfl, rfl⟩) | (go_at_call 22; refine (Tryz.Builder_String_any_f _ _ _ _ hB hb.size).mono ?_; rintro e w2 ⟨rfl, hB2, hb2⟩))
        go_ret3
        exact ⟨ret3_sib Hres.out.1 (by rw [← Hres.out.2]) rfl, hb.trans hb2⟩
      · have hw1 : isW s[i] = false := by simpa using hw
        have hw' : whiteI (s[i].toNat : Int) = false := hw1
        rw [hw'] at V1
        by_cases h92 : s[i] = 92
        · have t1 : ((s[i].toNat : Int) == 92) = true := u8_eq (n := 92) h92
          have hu : (s.drop i).length ≤ 1000000 := by simp; omega
          have HU := Lib.hid (fun W => Unescape_any (s.drop i) hu W)
          have hp := unesc_pos (r := s.drop (i + 1)) h92
          have hul := unesc_len (s.drop i)
          have h := HI.out
          rw [hcons, bare_esc hw1 h92, ← hcons] at h
          rw [← hcons] at hp
          generalize unesc (s.drop i) = q at *
          obtain ⟨qc, qn⟩ := q
          simp only [List.drop_drop, List.length_drop] at HU hul hp h
          obtain ⟨hu1, hu2, hu3⟩ := hul
          have HA : Hid (acc ++ qc ++ (bare (s.drop (i + qn))).1 = (bare s).1 ∧ i + qn + (bare (s.drop (i + qn))).2 = (bare s).2) := ⟨by rw [List.append_assoc]; exact h.1, by rw [Nat.add_assoc]; exact h.2⟩
          clear h HI hcons h92 hw hw1 hw'
          go_wp2_with (first | (go_at_call 61; refine (V1.out _).mono ?_; rintro e w2 ⟨rfl, rfl⟩) | (go_at_call 94; refine (HU.out _).mono ?_; rintro e w2 ⟨rfl, hbx⟩) | (go_at_call 19; refine (WriteString_any _ _ _ _ _ (hB.below hbx) (by rw [byteCells_len]; simp [ByteArray.size]; omega) (hb.trans (hbx.mono hb.size)).size).mono ?_; rintro e w4 ⟨rfl, hB5, hb5, hk5⟩))
          go_roundg (gk - qn)
          case measure => omega
          case rel => exact ⟨i + qn, acc ++ qc, by omega, by go_num, .inr (by rw [byteCells_more]; exact hB5), (hb.trans (hbx.mono hb.size)).trans hb5, HA, by simp; omega⟩
        · have t1 : ((s[i].toNat : Int) == 92) = false := u8_ne (n := 92) h92
          have h := HI.out
          rw [hcons, bare_lit hw1 h92] at h
          have HA : Hid (acc ++ [s[i]] ++ (bare (s.drop (i + 1))).1 = (bare s).1 ∧ i + 1 + (bare (s.drop (i + 1))).2 = (bare s).2) := ⟨by simpa using h.1, by have := h.2; simp only at this; omega⟩
          clear h HI hcons h92 hw hw1 hw'
          go_wp2_with (first | (go_at_call 61; refine (V1.out _).mono ?_; rintro e w2 ⟨rfl, rfl⟩) | (go_at_call 18; refine (WriteByte_any _ _ _ _ _ hB (by rw [byteCells_len]; omega) hb.size).mono ?_; rintro e w4 ⟨rfl, hB5, hb5, hk5⟩))
          go_roundg (gk - 1)
          case measure => omega
          case rel => exact ⟨i + 1, acc ++ [s[i]], by omega, by go_num, .inr (by rw [← byteCells_snoc]; exact hB5), hb.trans hb5, HA, by simp; omega⟩
    · have hi : i = s.length := by omega
      have t0 : decide ((i : Int) < (s.length : Int)) = false := by rw [decide_eq_false_iff_not]; omega
      have hres : acc = (bare s).1 ∧ i = (bare s).2 := by
        have h := HI.out
        rw [hi, List.drop_length, bare_nil] at h
        rw [hi]; simpa using h
      have Hres := Lib.hid hres
      clear hres HI hi
      go_wp2_with (first | (go_at_call 22; refine (Tryz.Builder_String_any_f _ _ _ _ hB hb.size).mono ?_; rintro e w2 ⟨rfl, hB2, hb2⟩))
      go_ret3
      exact ⟨ret3_sib Hres.out.1 (by rw [← Hres.out.2]) rfl, hb.trans hb2⟩
/-- Where a quoted element ends, i bytes being read and acc written. -/
def quoRel (s : Bs) (i : Nat) (acc : Bs) : Prop := (quo (s.drop i)).map (fun q => (acc ++ q.1, i + q.2)) = (quo (s.drop 1)).map (fun q => (q.1, q.2 + 1))
def quoRes (s : Bs) : Bs × Nat × Bool := match quo (s.drop 1) with | some q => (q.1, q.2 + 1, true) | none => ([], 0, false)

set_option maxRecDepth 100000 in
set_option maxHeartbeats 1600000 in
theorem readQuoted_any (s : Bs) (hs : s.length ≤ 1000000) (h1 : 1 ≤ s.length) (w : World) :
    Calls Tryz.prog 82 #[.string ⟨s.toArray⟩] w fun e w' => e = .returned (.tuple #[.string ⟨(quoRes s).1.toArray⟩, .int .i64 ((quoRes s).2.1 : Int), .bool (quoRes s).2.2]) ∧ Below w.heap.size w w' := by
  go_enter Tryz.func82, Tryz.ntmps82
  go_wp2_with fail
  go_loopg [6, 7, 8] (s.length - 1) (fun g v _ _ wr => ∃ (i : Nat) (acc : Bs), i + g = s.length ∧ v = .int .i64 i ∧ IsB w.heap.size w.heap.size (Lib.byteCells acc) wr ∧ Below w.heap.size w wr ∧ Hid (quoRel s i acc) ∧ acc.length ≤ i)
  case atStart => exact ⟨1, [], by omega, rfl, IsB.new w, (Below.refl _ _).alloc (Nat.le_refl _) _, by simp only [Hid, quoRel, List.nil_append, Nat.add_comm 1], by simp⟩
  case round =>
    obtain ⟨i, acc, hig, rfl, hB, hb, HI, hacc⟩ := hrel
    by_cases hlt : i < s.length
    · have t0 : decide ((i : Int) < (s.length : Int)) = true := by rw [decide_eq_true_eq]; omega
      have hcons : s.drop i = s[i] :: s.drop (i + 1) := List.drop_eq_getElem_cons hlt
      have h255 := byte_lt s[i]
      have h000 : (0 : Int) ≤ (s[i].toNat : Int) := by omega
      by_cases hq : s[i] = 34
      · have t1 : ((s[i].toNat : Int) == 34) = true := u8_eq (n := 34) hq
        have hres : quoRes s = (acc, i + 1, true) := by
          have h := HI.out
          unfold quoRel at h
          rw [hcons, quo_end hq] at h
          unfold quoRes
          cases hz : quo (s.drop 1) with
          | none => rw [hz] at h; cases h
          | some q =>
            rw [hz] at h
            simp at h
            simp [h]
        have Hres := Lib.hid hres
        clear hres HI hcons hq
        go_wp2_with (first | (go_at_call 22; refine (Tryz.Builder_String_any_f _ _ _ _ hB hb.size).mono ?_; rintro e w2 ⟨rfl, hB2, hb2⟩))
        go_ret3
        exact ⟨by rw [Hres.out]; exact ret3_sib rfl (by go_num) rfl, hb.trans hb2⟩
      · have t1 : ((s[i].toNat : Int) == 34) = false := u8_ne (n := 34) hq
        by_cases h92 : s[i] = 92
        · have t2 : ((s[i].toNat : Int) == 92) = true := u8_eq (n := 92) h92
          have hu : (s.drop i).length ≤ 1000000 := by simp; omega
          have HU := Lib.hid (fun W => Unescape_any (s.drop i) hu W)
          have hp := unesc_pos (r := s.drop (i + 1)) h92
          have hul := unesc_len (s.drop i)
          have h := HI.out
          unfold quoRel at h
          rw [hcons, quo_esc h92, ← hcons] at h
          rw [← hcons] at hp
          generalize unesc (s.drop i) = q at *
          obtain ⟨qc, qn⟩ := q
          simp only [List.drop_drop, List.length_drop, Option.map_map] at HU hul hp h
          obtain ⟨hu1, hu2, hu3⟩ := hul
          have HA : Hid (quoRel s (i + qn) (acc ++ qc)) := by
            unfold Hid quoRel
            rw [← h]
            congr 1
            funext q
            simp [Nat.add_assoc]
          clear h HI hcons hq h92
          go_wp2_with (first | (go_at_call 94; refine (HU.out _).mono ?_; rintro e w2 ⟨rfl, hbx⟩) | (go_at_call 19; refine (WriteString_any _ _ _ _ _ (hB.below hbx) (by rw [byteCells_len]; simp [ByteArray.size]; omega) (hb.trans (hbx.mono hb.size)).size).mono ?_; rintro e w4 ⟨rfl, hB5, hb5, hk5⟩))
          go_roundg (gk - qn)
          case measure => omega
          case rel => exact ⟨i + qn, acc ++ qc, by omega, by go_num, .inr (by rw [byteCells_more]; exact hB5), (hb.trans (hbx.mono hb.size)).trans hb5, HA, by simp; omega⟩
        · have t2 : ((s[i].toNat : Int) == 92) = false := u8_ne (n := 92) h92
          have h := HI.out
          unfold quoRel at h
          rw [hcons, quo_lit hq h92] at h
          have HA : Hid (quoRel s (i + 1) (acc ++ [s[i]])) := by
            unfold Hid quoRel
            rw [← h, Option.map_map]
            congr 1
            funext q
            simp; omega
          clear h HI hcons hq h92
          go_wp2_with (first | (go_at_call 18; refine (WriteByte_any _ _ _ _ _ hB (by rw [byteCells_len]; omega) hb.size).mono ?_; rintro e w4 ⟨rfl, hB5, hb5, hk5⟩))
          go_roundg (gk - 1)
          case measure => omega
          case rel => exact ⟨i + 1, acc ++ [s[i]], by omega, by go_num, .inr (by rw [← byteCells_snoc]; exact hB5), hb.trans hb5, HA, by simp; omega⟩
    · have hi : i = s.length := by omega
      have t0 : decide ((i : Int) < (s.length : Int)) = false := by rw [decide_eq_false_iff_not]; omega
      have hres : quoRes s = ([], 0, false) := by
        have h := HI.out
        unfold quoRel at h
        rw [hi, List.drop_length, quo_nil] at h
        unfold quoRes
        cases hz : quo (s.drop 1) with
        | none => rfl
        | some q => rw [hz] at h; cases h
      have Hres := Lib.hid hres
      clear hres HI hi
      go_wp2_with fail
      go_ret3
      exact ⟨by rw [Hres.out]; rfl, hb⟩

theorem clo_esc (c : UInt8) (r : Bs) (d : Nat) : clo (92 :: c :: r) d = (clo r d).map (· + 2) := by rw [clo.eq_def]; simp
theorem clo_esc1 (d : Nat) : clo [92] d = none := by rw [clo.eq_def]; simp
theorem clo_open (r : Bs) (d : Nat) : clo (123 :: r) d = (clo r (d + 1)).map (· + 1) := by rw [clo.eq_def]; simp
theorem clo_end (r : Bs) : clo (125 :: r) 1 = some 0 := by rw [clo.eq_def]; simp
theorem clo_close (r : Bs) (d : Nat) (h : d ≠ 1) : clo (125 :: r) d = (clo r (d - 1)).map (· + 1) := by rw [clo.eq_def]; simp [h]
theorem clo_lit {c : UInt8} (r : Bs) (d : Nat) (h1 : c ≠ 92) (h2 : c ≠ 123) (h3 : c ≠ 125) : clo (c :: r) d = (clo r d).map (· + 1) := by rw [clo.eq_def]; simp [h1, h2, h3]

/-- Where a braced element ends, i bytes being read and d braces open. -/
def cloRel (s : Bs) (i d : Nat) : Prop := (clo (s.drop i) d).map (fun k => i + k) = (clo (s.drop 1) 1).map (fun k => 1 + k)
def cloRes (s : Bs) : Bs × Nat × Bool := match clo (s.drop 1) 1 with | some k => ((s.drop 1).take k, k + 2, true) | none => ([], 0, false)
def CloI (s : Bs) (i d : Nat) : Prop := (i = 0 ∧ d = 0) ∨ (1 ≤ i ∧ 1 ≤ d ∧ cloRel s i d)

theorem map_add (o : Option Nat) (i j m : Nat) (h : m = i + j) : (o.map (· + j)).map (fun k => i + k) = o.map (fun k => m + k) := by
  rw [Option.map_map]; congr 1; funext k; simp; omega
theorem clo_step_esc {s r : Bs} (hsr : s = 123 :: r) {i d : Nat} (hlt : i < s.length) (hb : s[i] = 92) (h : CloI s i d) : CloI s (i + 2) d := by
  have hcons : s.drop i = s[i] :: s.drop (i + 1) := List.drop_eq_getElem_cons hlt
  rcases h with ⟨h0, h1⟩ | ⟨h0, h1, h⟩
  · subst h0; subst hsr; exact absurd (show (123 : UInt8) = _ from hb) (by decide)
  · refine .inr ⟨by omega, h1, ?_⟩
    unfold cloRel at h ⊢
    rw [← h, hcons, hb]
    cases hr : s.drop (i + 1) with
    | nil =>
      have : s.drop (i + 2) = [] := by
        have := congrArg List.length hr
        simp at this
        exact List.drop_eq_nil_of_le (by omega)
      rw [this, clo_esc1]; rfl
    | cons c r' =>
      have : s.drop (i + 2) = r' := by
        have := congrArg (List.drop 1) hr
        rw [List.drop_drop] at this
        exact this
      rw [this, clo_esc, map_add _ i 2 _ rfl]
theorem clo_step_open {s r : Bs} (hsr : s = 123 :: r) {i d : Nat} (hlt : i < s.length) (hb : s[i] = 123) (h : CloI s i d) : CloI s (i + 1) (d + 1) := by
  have hcons : s.drop i = s[i] :: s.drop (i + 1) := List.drop_eq_getElem_cons hlt
  refine .inr ⟨by omega, by omega, ?_⟩
  rcases h with ⟨h0, h1⟩ | ⟨h0, h1, h⟩
  · subst h0; subst h1; rfl
  · unfold cloRel at h ⊢
    rw [← h, hcons, hb, clo_open, map_add _ i 1 _ rfl]
theorem clo_step_lit {s r : Bs} (hsr : s = 123 :: r) {i d : Nat} (hlt : i < s.length) (h1 : s[i] ≠ 92) (h2 : s[i] ≠ 123) (h3 : s[i] ≠ 125) (h : CloI s i d) : CloI s (i + 1) d := by
  have hcons : s.drop i = s[i] :: s.drop (i + 1) := List.drop_eq_getElem_cons hlt
  rcases h with ⟨h0, hd⟩ | ⟨h0, hd, h⟩
  · subst h0; subst hsr; exact absurd rfl h2
  · refine .inr ⟨by omega, hd, ?_⟩
    unfold cloRel at h ⊢
    rw [← h, hcons, clo_lit _ _ h1 h2 h3, map_add _ i 1 _ rfl]
theorem clo_step_close {s r : Bs} (hsr : s = 123 :: r) {i d : Nat} (hlt : i < s.length) (hb : s[i] = 125) (hd : d ≠ 1) (h : CloI s i d) : CloI s (i + 1) (d - 1) ∧ 1 ≤ d := by
  have hcons : s.drop i = s[i] :: s.drop (i + 1) := List.drop_eq_getElem_cons hlt
  rcases h with ⟨h0, h1⟩ | ⟨h0, h1, h⟩
  · subst h0; subst hsr; exact absurd (show (123 : UInt8) = _ from hb) (by decide)
  · refine ⟨.inr ⟨by omega, by omega, ?_⟩, h1⟩
    unfold cloRel at h ⊢
    rw [← h, hcons, hb, clo_close _ _ hd, map_add _ i 1 _ rfl]
theorem clo_step_end {s r : Bs} (hsr : s = 123 :: r) {i : Nat} (hlt : i < s.length) (hb : s[i] = 125) (h : CloI s i 1) : cloRes s = ((s.drop 1).take (i - 1), i + 1, true) ∧ 1 ≤ i := by
  have hcons : s.drop i = s[i] :: s.drop (i + 1) := List.drop_eq_getElem_cons hlt
  rcases h with ⟨h0, h1⟩ | ⟨h0, h1, h⟩
  · omega
  · refine ⟨?_, h0⟩
    unfold cloRel at h
    rw [hcons, hb, clo_end] at h
    unfold cloRes
    cases hc : clo (s.drop 1) 1 with
    | none => rw [hc] at h; cases h
    | some k =>
      rw [hc] at h
      simp at h
      have e : k = i - 1 := by omega
      subst e
      simp; omega
theorem clo_step_out {s r : Bs} (hsr : s = 123 :: r) {i d : Nat} (hlt : s.length ≤ i) (h : CloI s i d) : cloRes s = ([], 0, false) := by
  rcases h with ⟨h0, h1⟩ | ⟨h0, h1, h⟩
  · subst h0; subst hsr; simp at hlt
  · unfold cloRel at h
    rw [List.drop_eq_nil_of_le hlt] at h
    unfold cloRes
    cases hc : clo (s.drop 1) 1 with
    | none => rfl
    | some k => rw [hc] at h; simp [clo] at h

set_option maxRecDepth 100000 in
set_option maxHeartbeats 1600000 in
theorem readBraced_any (s : Bs) (hs : s.length ≤ 1000000) (r : Bs) (hsr : s = 123 :: r) (w : World) :
    Calls Tryz.prog 81 #[.string ⟨s.toArray⟩] w fun e w' => e = .returned (.tuple #[.string ⟨(cloRes s).1.toArray⟩, .int .i64 ((cloRes s).2.1 : Int), .bool (cloRes s).2.2]) ∧ w = w' := by
  have hl1 : 1 ≤ s.length := by rw [hsr]; simp
  have HR := Lib.hid hsr
  clear hsr
  go_enter Tryz.func81, Tryz.ntmps81
  go_wp2_with fail
  go_loopg [5, 6] (s.length + 1) (fun g vd v wr => ∃ (i d : Nat), i + g = s.length + 1 ∧ d ≤ i ∧ vd = .int .i64 d ∧ v = .int .i64 i ∧ wr = w ∧ Hid (CloI s i d))
  case atStart => exact ⟨0, 0, by omega, by omega, rfl, rfl, rfl, .inl ⟨rfl, rfl⟩⟩
  case round =>
    obtain ⟨i, d, hig, hdi, rfl, rfl, rfl, HI⟩ := hrel
    by_cases hlt : i < s.length
    · have t0 : decide ((i : Int) < (s.length : Int)) = true := by rw [decide_eq_true_eq]; omega
      have h255 := byte_lt s[i]
      have h000 : (0 : Int) ≤ (s[i].toNat : Int) := by omega
      by_cases hb : s[i] = 92
      · have t1 : ((s[i].toNat : Int) == 92) = true := u8_eq (n := 92) hb
        have HA := Lib.hid (clo_step_esc HR.out hlt hb HI.out)
        clear HI hb
        go_wp2_with fail
        go_roundg (gk - 2)
        case measure => omega
        case rel => exact ⟨i + 2, d, by omega, by omega, by go_num, by go_num, rfl, HA⟩
      · have t1 : ((s[i].toNat : Int) == 92) = false := u8_ne (n := 92) hb
        by_cases ho : s[i] = 123
        · have t2 : ((s[i].toNat : Int) == 123) = true := u8_eq (n := 123) ho
          have HA := Lib.hid (clo_step_open HR.out hlt ho HI.out)
          clear HI hb ho
          go_wp2_with fail
          go_roundg (gk - 1)
          case measure => omega
          case rel => exact ⟨i + 1, d + 1, by omega, by omega, by go_num, by go_num, rfl, HA⟩
        · have t2 : ((s[i].toNat : Int) == 123) = false := u8_ne (n := 123) ho
          by_cases hc : s[i] = 125
          · have t3 : ((s[i].toNat : Int) == 125) = true := u8_eq (n := 125) hc
            by_cases hd : d = 1
            · subst hd
              obtain ⟨hres, h1i⟩ := clo_step_end HR.out hlt hc HI.out
              have Hres := Lib.hid hres
              clear HI hb ho hc hres
              go_wp2_with fail
              go_ret3
              exact ⟨by rw [Hres.out]; exact ret3_sib (by simp only [List.drop_one]) (by go_num) rfl, rfl⟩
            · obtain ⟨ha, h1d⟩ := clo_step_close HR.out hlt hc hd HI.out
              have HA := Lib.hid ha
              have t4 : ((d : Int) - 1 == 0) = false := by rw [beq_eq_false_iff_ne]; omega
              clear HI hb ho hc ha
              go_wp2_with fail
              go_roundg (gk - 1)
              case measure => omega
              case rel => exact ⟨i + 1, d - 1, by omega, by omega, by go_num, by go_num, rfl, HA⟩
          · have t3 : ((s[i].toNat : Int) == 125) = false := u8_ne (n := 125) hc
            have HA := Lib.hid (clo_step_lit HR.out hlt hb ho hc HI.out)
            clear HI hb ho hc
            go_wp2_with fail
            go_roundg (gk - 1)
            case measure => omega
            case rel => exact ⟨i + 1, d, by omega, by omega, by go_num, by go_num, rfl, HA⟩
    · have t0 : decide ((i : Int) < (s.length : Int)) = false := by rw [decide_eq_false_iff_not]; omega
      have Hres := Lib.hid (clo_step_out HR.out (by omega) HI.out)
      clear HI
      go_wp2_with fail
      go_ret3
      exact ⟨by rw [Hres.out]; rfl, rfl⟩
end Go.Proofs.YteojlmpipfajoaaGreatDoor
