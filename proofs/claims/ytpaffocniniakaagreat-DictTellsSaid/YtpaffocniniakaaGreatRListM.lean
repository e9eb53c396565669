/- The reference's list: a text unescaped, the closing brace. The reference's list: one element. The reference's list: an element in braces or quotes. The reference's list: an element, Split. -/
import Derived.Test.YtpaffocniniakaaGreatLCut
import Derived.Test.YtpaffocniniakaaGreatLRead
import Derived.Test.YtpaffocniniakaaGreatLQuote
import Derived.Deep.LoopGhost
import Derived.Test.YtpaffocniniakaaGreatLJoin
import Derived.Test.YtpaffocniniakaaGreatPush1
namespace Go.Proofs.YtpaffocniniakaaGreat
set_option linter.unusedVariables false
set_option linter.unusedSimpArgs false
open Go.RowKit

attribute [local go_sem] ba_append in
set_option maxRecDepth 100000 in
set_option maxHeartbeats 1600000 in
theorem rUnescaped_any (s : Bs) (hs : s.length ≤ 1000000) (w : World) :
    Calls Tryz.prog 69 #[.string ⟨s.toArray⟩] w fun e w' => e = .returned (.string ⟨(unescAll s).toArray⟩) ∧ Below w.heap.size w w' := by
  go_enter Tryz.func69, Tryz.ntmps69
  go_wp2_with fail
  go_loopg [0, 3, 4, 5] s.length (fun g v o _ _ wr => ∃ (i : Nat) (t acc : Bs), i + g = s.length ∧ t = s.drop i ∧ v = .string ⟨t.toArray⟩ ∧ o = .string ⟨acc.toArray⟩ ∧ Below w.heap.size w wr ∧ Hid (acc ++ unescAll t = unescAll s) ∧ acc.length ≤ i)
  case atStart => exact ⟨0, s, [], by omega, rfl, rfl, rfl, Below.refl _ _, by simp [Hid], by simp⟩
  case round =>
    obtain ⟨i, t, acc, hig, ht, rfl, rfl, hb, HI, hacc⟩ := hrel
    have htl : t.length = s.length - i := by rw [ht]; simp
    have HT := Lib.hid ht
    clear ht
    by_cases hne : t = []
    · have hres : unescAll s = acc := by rw [← HI.out, hne]; simp [unescAll_nil]
      have Hres := Lib.hid hres
      subst hne
      clear hres HI HT
      go_wp2_with fail
      go_ret
      exact ⟨by rw [Hres.out]; rfl, hb⟩
    · have hl : 0 < t.length := List.length_pos_iff.2 hne
      have hl1 : 1 ≤ t.length := hl
      have hlI : (1 : Int) ≤ (t.length : Int) := by omega
      have he : t.isEmpty = false := by cases t with | nil => exact absurd rfl hne | cons _ _ => rfl
      have HU := Lib.hid (fun W => rUnescape_any t (by omega) W)
      have hul := unesc_len t
      have HZ : Hid ((unesc t).2 = 0 → acc ++ t.take 1 ++ unescAll (t.drop 1) = unescAll s) := fun h => by rw [← HI.out, unescAll_zero hne h, List.append_assoc]
      have HS : Hid ((unesc t).2 ≠ 0 → acc ++ (unesc t).1 ++ unescAll (t.drop (unesc t).2) = unescAll s) := fun h => by rw [← HI.out, unescAll_some hne h, List.append_assoc]
      generalize unesc t = q at *
      obtain ⟨qc, qn⟩ := q
      simp only at HU hul HZ HS
      obtain ⟨hu1, hu2, hu3⟩ := hul
      clear HI hne
      by_cases hz : qn = 0
      · subst hz
        have HA := Lib.hid (HZ.out rfl)
        have hcat : ¬ ((9223372036854775807 : Int) < (acc.length : Int) + ((t.take 1).length : Int)) := by simp; omega
        clear HZ HS hu1 hu2 hu3
        go_wp2_with (first | (go_at_call 68; refine (HU.out _).mono ?_; rintro e w2 ⟨rfl, hbx⟩))
        go_roundg (gk - 1)
        case measure => omega
        case rel => exact ⟨i + 1, t.drop 1, acc ++ t.take 1, by omega, by rw [HT.out, List.drop_drop], by first | (simp; done) | (simp; rw [List.take_of_length_le (by simp; omega)]), rfl, hb.trans (hbx.mono hb.size), HA, by simp; omega⟩
      · have HA := Lib.hid (HS.out hz)
        have t1 : ((qn : Int) == 0) = false := by rw [beq_eq_false_iff_ne]; omega
        have e1 : (qn : Int) ≤ (t.length : Int) := by omega
        clear HZ HS
        go_wp2_with (first | (go_at_call 68; refine (HU.out _).mono ?_; rintro e w2 ⟨rfl, hbx⟩))
        go_roundg (gk - qn)
        case measure => omega
        case rel => exact ⟨i + qn, t.drop qn, acc ++ qc, by omega, by rw [HT.out, List.drop_drop], by first | (simp; done) | (simp; rw [List.take_of_length_le (by simp; omega)]), rfl, hb.trans (hbx.mono hb.size), HA, by simp; omega⟩

/-- What 'closing' of the reference tells. -/
def closeI (s : Bs) (a : Nat) : Int := if (cloRes (s.drop a)).2.2 = true then (a : Int) + ((cloRes (s.drop a)).2.1 : Int) - 1 else -1
set_option maxRecDepth 100000 in
set_option maxHeartbeats 1600000 in
theorem rclosing_any (s : Bs) (a : Nat) (hs : s.length ≤ 1000000) (r : Bs) (hsr : s.drop a = 123 :: r) (w : World) :
    Calls Tryz.prog 67 #[.string ⟨s.toArray⟩, .int .i64 (a : Int)] w fun e w' => e = .returned (.int .i64 (closeI s a)) ∧ w = w' := by
  have hl1 : (s.drop a).length = r.length + 1 := by rw [hsr]; simp
  have hl2 : (s.drop a).length = s.length - a := by simp
  have hal : a < s.length := by omega
  have HR := Lib.hid hsr
  clear hsr hl1 hl2
  go_enter Tryz.func67, Tryz.ntmps67
  go_wp2_with fail
  go_loopg [5, 6] (s.length + 1 - a) (fun g vd v wr => ∃ (j d : Nat), j + g = s.length + 1 - a ∧ d ≤ j ∧ vd = .int .i64 d ∧ v = .int .i64 ((a + j : Nat) : Int) ∧ wr = w ∧ Hid (CloI (s.drop a) j d))
  case atStart => exact ⟨0, 0, by omega, by omega, rfl, rfl, rfl, .inl ⟨rfl, rfl⟩⟩
  case round =>
    obtain ⟨j, d, hig, hdi, rfl, rfl, rfl, HI⟩ := hrel
    obtain ⟨i, hi⟩ : ∃ i, i = a + j := ⟨_, rfl⟩
    have hai : a ≤ i := by omega
    have hji : j = i - a := by omega
    rw [← hi]
    have HE := Lib.hid (And.intro hi (And.intro hji hig))
    by_cases hlt : i < s.length
    · have hltd : j < (s.drop a).length := by simp; omega
      have hget : (s.drop a)[j] = s[i] := by rw [List.getElem_drop]; simp only [hi]
      have t0 : decide ((i : Int) < (s.length : Int)) = true := by rw [decide_eq_true_eq]; omega
      have h255 := byte_lt s[i]
      have h000 : (0 : Int) ≤ (s[i].toNat : Int) := by omega
      by_cases hb : s[i] = 92
      · have t1 : ((s[i].toNat : Int) == 92) = true := u8_eq (n := 92) hb
        have HA := Lib.hid (clo_step_esc HR.out hltd (hget.trans hb) HI.out)
        clear HI hb hget hltd hi hji
        go_wp2_with fail
        go_roundg (gk - 2)
        case measure => have he := HE.out; omega
        case rel => have he := HE.out; exact ⟨j + 2, d, by omega, by omega, by go_num, by go_num, rfl, HA⟩
      · have t1 : ((s[i].toNat : Int) == 92) = false := u8_ne (n := 92) hb
        by_cases ho : s[i] = 123
        · have t2 : ((s[i].toNat : Int) == 123) = true := u8_eq (n := 123) ho
          have HA := Lib.hid (clo_step_open HR.out hltd (hget.trans ho) HI.out)
          clear HI hb ho hget hltd hi hji
          go_wp2_with fail
          go_roundg (gk - 1)
          case measure => have he := HE.out; omega
          case rel => have he := HE.out; exact ⟨j + 1, d + 1, by omega, by omega, by go_num, by go_num, rfl, HA⟩
        · have t2 : ((s[i].toNat : Int) == 123) = false := u8_ne (n := 123) ho
          by_cases hc : s[i] = 125
          · have t3 : ((s[i].toNat : Int) == 125) = true := u8_eq (n := 125) hc
            by_cases hd : d = 1
            · subst hd
              obtain ⟨hres, h1i⟩ := clo_step_end HR.out hltd (hget.trans hc) HI.out
              have Hres := Lib.hid hres
              clear HI hb ho hc hres hget hltd hi hji
              go_wp2_with fail
              go_ret
              exact ⟨by unfold closeI; rw [Hres.out]; simp only [if_true]; have he := HE.out; exact congrArg (fun x => Ending.returned (.int .i64 x)) (by push_cast; omega), rfl⟩
            · obtain ⟨ha, h1d⟩ := clo_step_close HR.out hltd (hget.trans hc) hd HI.out
              have HA := Lib.hid ha
              have t4 : ((d : Int) - 1 == 0) = false := by rw [beq_eq_false_iff_ne]; omega
              clear HI hb ho hc ha hget hltd hi hji
              go_wp2_with fail
              go_roundg (gk - 1)
              case measure => have he := HE.out; omega
              case rel => have he := HE.out; exact ⟨j + 1, d - 1, by omega, by omega, by go_num, by go_num, rfl, HA⟩
          · have t3 : ((s[i].toNat : Int) == 125) = false := u8_ne (n := 125) hc
            have HA := Lib.hid (clo_step_lit HR.out hltd (fun e => hb (hget.symm.trans e)) (fun e => ho (hget.symm.trans e)) (fun e => hc (hget.symm.trans e)) HI.out)
            clear HI hb ho hc hget hltd hi hji
            go_wp2_with fail
            go_roundg (gk - 1)
            case measure => have he := HE.out; omega
            case rel => have he := HE.out; exact ⟨j + 1, d, by omega, by omega, by go_num, by go_num, rfl, HA⟩
    · have t0 : decide ((i : Int) < (s.length : Int)) = false := by rw [decide_eq_false_iff_not]; omega
      have Hres := Lib.hid (clo_step_out HR.out (by simp; omega) HI.out)
      clear HI hi hji
      go_wp2_with fail
      go_ret
      exact ⟨by unfold closeI; rw [Hres.out]; rfl, rfl⟩
end Go.Proofs.YtpaffocniniakaaGreat
namespace Go.Proofs.YtpaffocniniakaaGreat
set_option linter.unusedVariables false
set_option linter.unusedSimpArgs false
open Go.RowKit

/-- What 'element' of the reference tells. -/
def relm (s : Bs) (a : Nat) : Bs × Int := match elemC (s.drop a) with | some (t, k) => if atEnd (s.drop (a + k)) = true then (t, (a : Int) + (k : Int)) else ([], -1) | none => ([], -1)
theorem bare_atEnd : ∀ (n : Nat) (s : Bs), s.length ≤ n → atEnd (s.drop (bare s).2) = true := by
  intro n
  induction n with
  | zero =>
    intro s h
    obtain rfl : s = [] := List.length_eq_zero_iff.1 (by omega)
    rfl
  | succ n ih =>
    intro s h
    cases s with
    | nil => rfl
    | cons c r =>
      by_cases hw : isW c = true
      · rw [bare_white hw]; exact hw
      · have hw' : isW c = false := by simpa using hw
        by_cases hc : c = 92
        · have hp := unesc_pos (r := r) hc
          rw [bare_esc hw' hc]
          simp only
          rw [← List.drop_drop]
          exact ih _ (by simp at h hp ⊢; omega)
        · rw [bare_lit hw' hc]
          simp only [List.drop_succ_cons]
          exact ih r (by simp at h; omega)
theorem ret2_si {s s' : Bs} {a b : Int} (h : s = s') (h' : a = b) : Ending.returned (.tuple #[.string ⟨s.toArray⟩, .int .i64 a]) = .returned (.tuple #[.string ⟨s'.toArray⟩, .int .i64 b]) := by rw [h, h']
set_option maxRecDepth 100000 in
set_option maxHeartbeats 1600000 in
theorem relement_bare (s : Bs) (a : Nat) (hs : s.length ≤ 1000000) (ha : a < s.length) (h1 : s[a] ≠ 123) (h2 : s[a] ≠ 34) (w : World) :
    Calls Tryz.prog 53 #[.string ⟨s.toArray⟩, .int .i64 (a : Int)] w fun e w' => e = .returned (.tuple #[.string ⟨(bare (s.drop a)).1.toArray⟩, .int .i64 ((a : Int) + ((bare (s.drop a)).2 : Int))]) ∧ Below w.heap.size w w' := by
  have t1 : ((s[a].toNat : Int) == 123) = false := u8_ne (n := 123) h1
  have t2 : ((s[a].toNat : Int) == 34) = false := u8_ne (n := 34) h2
  have h255a := byte_lt s[a]
  have h000a : (0 : Int) ≤ (s[a].toNat : Int) := by omega
  have hble := bareF_le (s.drop a).length (s.drop a)
  have HBT := Lib.hid (bare_text _ (s.drop a) (Nat.le_refl _))
  have HBL : Hid ((bare (s.drop a)).2 ≤ s.length - a) := by show (bareF (s.drop a).length (s.drop a)).2 ≤ _; have := hble.1; rw [List.length_drop] at this ⊢; exact this
  clear hble h1 h2
  obtain ⟨bt, hbt⟩ : ∃ b, bare (s.drop a) = b := ⟨_, rfl⟩
  rw [hbt] at HBT HBL ⊢
  have HB := Lib.hid hbt
  clear hbt
  go_enter Tryz.func53, Tryz.ntmps53
  go_wp2_with fail
  go_loopg [7, 11, 12] (s.length - a) (fun g v _ _ wr => ∃ (j : Nat), j + g = s.length - a ∧ v = .int .i64 ((a + j : Nat) : Int) ∧ Below w.heap.size w wr ∧ Hid (j + (bare (s.drop (a + j))).2 = bt.2))
  case atStart => exact ⟨0, by omega, rfl, Below.refl _ _, by show _ = _; rw [Nat.add_zero, HB.out]; omega⟩
  case round =>
    obtain ⟨j, hig, rfl, hb, HI⟩ := hrel
    obtain ⟨i, hi⟩ : ∃ i, i = a + j := ⟨_, rfl⟩
    have hai : a ≤ i := by omega
    rw [← hi] at HI ⊢
    have HE := Lib.hid (And.intro hi (And.intro (show j = i - a by omega) hig))
    clear hi hig
    by_cases hlt : i < s.length
    · have t0 : decide ((i : Int) < (s.length : Int)) = true := by rw [decide_eq_true_eq]; omega
      have hcons : s.drop i = s[i] :: s.drop (i + 1) := List.drop_eq_getElem_cons hlt
      have h255 := byte_lt s[i]
      have h000 : (0 : Int) ≤ (s[i].toNat : Int) := by omega
      have V1 := Lib.hid (fun W => rwhite_any _ h000 h255 W)
      by_cases hw : isW s[i] = true
      · have hw' : whiteI (s[i].toNat : Int) = true := hw
        have hres : j = bt.2 := by
          have h := HI.out
          rw [hcons, bare_white hw] at h
          simpa using h
        rw [hw'] at V1
        have Hres := Lib.hid hres
        have RU := Lib.hid (fun W => rUnescaped_any ((s.drop a).take (i - a)) (by simp; omega) W)
        clear hres HI hcons hw hw'
        go_wp2_with (first | (go_at_call 52; refine (V1.out _).mono ?_; rintro e w2 ⟨rfl, rfl⟩) | (go_at_call 69; refine (RU.out _).mono ?_; rintro e w2 ⟨rfl, hB2⟩; have H2 := Lib.hid hB2; clear hB2))
        go_ret2
        have he := HE.out
        have hr := Hres.out
        exact ⟨ret2_si (by rw [HBT.out, show i - a = bt.2 by omega]) (by omega), hb.trans (H2.out.mono hb.size)⟩
      · have hw1 : isW s[i] = false := by simpa using hw
        have hw' : whiteI (s[i].toNat : Int) = false := hw1
        rw [hw'] at V1
        have hu : (s.drop i).length ≤ 1000000 := by simp; omega
        have HU := Lib.hid (fun W => rUnescape_any (s.drop i) hu W)
        have hul := unesc_len (s.drop i)
        have hst : ∃ m : Nat, 1 ≤ m ∧ i + m ≤ s.length ∧ max ((unesc (s.drop i)).2 : Int) 1 = (m : Int) ∧ j + m + (bare (s.drop (i + m))).2 = bt.2 := by
          have h := HI.out
          by_cases h92 : s[i] = 92
          · have hp := unesc_pos (r := s.drop (i + 1)) h92
            rw [hcons, bare_esc hw1 h92, ← hcons] at h
            rw [← hcons] at hp
            rw [List.drop_drop] at h
            rw [List.length_drop] at hul
            exact ⟨(unesc (s.drop i)).2, hp.1, by omega, by omega, by simp only at h; omega⟩
          · rw [hcons, bare_lit hw1 h92] at h
            rw [hcons, unesc_plain h92]
            exact ⟨1, Nat.le_refl _, by omega, rfl, by simp only at h; omega⟩
        obtain ⟨m, hm1, hm2, hmax, hA⟩ := hst
        have HA := Lib.hid hA
        clear hA HI hcons hw hw1 hw' hul
        generalize unesc (s.drop i) = q at *
        obtain ⟨qc, qn⟩ := q
        simp only at HU hmax
        go_wp2_with (first | (go_at_call 52; refine (V1.out _).mono ?_; rintro e w2 ⟨rfl, rfl⟩) | (go_at_call 68; refine (HU.out _).mono ?_; rintro e w2 ⟨rfl, hB2⟩; have H2 := Lib.hid hB2; clear hB2))
        go_roundg (gk - m)
        case measure => have he := HE.out; omega
        case rel => have he := HE.out; exact ⟨j + m, by omega, by go_num, hb.trans (H2.out.mono hb.size), by show _ = _; rw [show a + (j + m) = i + m by omega]; exact HA.out⟩
    · have t0 : decide ((i : Int) < (s.length : Int)) = false := by rw [decide_eq_false_iff_not]; omega
      have hres : j = bt.2 := by
        have h := HI.out
        rw [List.drop_eq_nil_of_le (by omega), bare_nil] at h
        simpa using h
      have Hres := Lib.hid hres
      have RU := Lib.hid (fun W => rUnescaped_any ((s.drop a).take (i - a)) (by simp; omega) W)
      have his : i ≤ s.length := by have h1 := HBL.out; have h2 := HE.out; omega
      clear hres HI
      go_wp2_with (first | (go_at_call 69; refine (RU.out _).mono ?_; rintro e w2 ⟨rfl, hB2⟩; have H2 := Lib.hid hB2; clear hB2))
      go_ret2
      have he := HE.out
      have hr := Hres.out
      exact ⟨ret2_si (by rw [HBT.out, show i - a = bt.2 by omega]) (by omega), hb.trans (H2.out.mono hb.size)⟩
end Go.Proofs.YtpaffocniniakaaGreat
namespace Go.Proofs.YtpaffocniniakaaGreat
set_option linter.unusedVariables false
set_option linter.unusedSimpArgs false
open Go.RowKit

theorem atEnd_cases (s : Bs) (n : Nat) : (∃ h : n < s.length, isW s[n] = true ∧ atEnd (s.drop n) = true) ∨ (∃ h : n < s.length, isW s[n] = false ∧ atEnd (s.drop n) = false) ∨ (s.length ≤ n ∧ atEnd (s.drop n) = true) := by
  by_cases h : n < s.length
  · have hcons : s.drop n = s[n] :: s.drop (n + 1) := List.drop_eq_getElem_cons h
    rw [hcons]
    rcases Bool.eq_false_or_eq_true (isW s[n]) with hw | hw
    · exact .inl ⟨h, by first | rfl | exact hw, by show isW s[n] = true; exact hw⟩
    · exact .inr (.inl ⟨h, by first | rfl | exact hw, by show isW s[n] = false; exact hw⟩)
  · rw [List.drop_eq_nil_of_le (by omega)]
    exact .inr (.inr ⟨by omega, rfl⟩)
set_option maxRecDepth 100000 in
set_option maxHeartbeats 1600000 in
theorem relement_brace (s : Bs) (a : Nat) (hs : s.length ≤ 1000000) (ha : a < s.length) (h1 : s[a] = 123) (w : World) :
    Calls Tryz.prog 53 #[.string ⟨s.toArray⟩, .int .i64 (a : Int)] w fun e w' => e = .returned (.tuple #[.string ⟨(relm s a).1.toArray⟩, .int .i64 (relm s a).2]) ∧ Below w.heap.size w w' := by
  have t1 : ((s[a].toNat : Int) == 123) = true := u8_eq (n := 123) h1
  have h255a := byte_lt s[a]
  have h000a : (0 : Int) ≤ (s[a].toNat : Int) := by omega
  have hcons : s.drop a = 123 :: s.drop (a + 1) := by rw [List.drop_eq_getElem_cons ha, h1]
  have RC := Lib.hid (fun W => rclosing_any s a hs (s.drop (a + 1)) hcons W)
  have hel : elemC (s.drop a) = (clo (s.drop (a + 1)) 1).map fun k => ((s.drop (a + 1)).take k, k + 2) := by
    rw [hcons]; simp [elemC]
  have hcl : closeI s a = match clo (s.drop (a + 1)) 1 with | some k => (a : Int) + (k : Int) + 1 | none => -1 := by
    unfold closeI cloRes
    rw [hcons]
    simp only [List.drop_succ_cons, List.drop_zero]
    cases clo (s.drop (a + 1)) 1 with
    | none => rfl
    | some k => simp only [if_true]; push_cast; omega
  cases hc : clo (s.drop (a + 1)) 1 with
  | none =>
    have HR : Hid (relm s a = ([], -1)) := by show _ = _; unfold relm; rw [hel, hc]; rfl
    rw [hc] at hcl
    simp only at hcl
    rw [hcl] at RC
    rw [HR.out]
    clear hcons hel hcl hc h1
    go_enter Tryz.func53, Tryz.ntmps53
    go_wp2_with (go_at_call 67; refine (RC.out _).mono ?_; rintro e w2 ⟨rfl, rfl⟩)
    go_ret2
    exact ⟨rfl, Below.refl _ _⟩
  | some k =>
    have hkl := clo_le _ _ (Nat.le_refl _) _ _ hc
    rw [List.length_drop] at hkl
    rw [hc] at hcl hel
    simp only [Option.map_some] at hcl hel
    obtain ⟨kk, hkk⟩ : ∃ kk : Nat, kk = a + k + 1 := ⟨_, rfl⟩
    have hcl' : closeI s a = (kk : Int) := by rw [hcl, hkk]; push_cast; rfl
    rw [hcl'] at RC
    have hn1 : kk + 1 ≤ s.length := by omega
    have hn2 : a + 1 ≤ kk := by omega
    have t3 : decide ((kk : Int) < 0) = false := by rw [decide_eq_false_iff_not]; omega
    have HT : Hid ((s.drop (a + 1)).take k = (s.drop (a + 1)).take (kk - (a + 1))) := by show _ = _; congr 1; omega
    rcases atEnd_cases s (kk + 1) with ⟨hlt, hw, he⟩ | ⟨hlt, hw, he⟩ | ⟨hge, he⟩
    · have HR : Hid (relm s a = ((s.drop (a + 1)).take (kk - (a + 1)), (kk : Int) + 1)) := by
        show _ = _; unfold relm; rw [hel]; simp only; rw [show a + (k + 2) = kk + 1 by omega, if_pos he, HT.out]; congr 1; push_cast; omega
      rw [HR.out]
      have h255 := byte_lt s[kk + 1]
      have h000 : (0 : Int) ≤ (s[kk + 1].toNat : Int) := by omega
      have V1 := Lib.hid (fun W => rwhite_any _ h000 h255 W)
      have hw' : whiteI (s[kk + 1].toNat : Int) = true := hw
      rw [hw'] at V1
      clear hcons hel hcl hcl' hc h1 hkk hw hw' he hkl
      go_enter Tryz.func53, Tryz.ntmps53
      go_wp2_with (first | (go_at_call 67; refine (RC.out _).mono ?_; rintro e w2 ⟨rfl, rfl⟩) | (go_at_call 52; refine (V1.out _).mono ?_; rintro e w2 ⟨rfl, rfl⟩))
      go_ret2
      exact ⟨rfl, Below.refl _ _⟩
    · have HR : Hid (relm s a = ([], -1)) := by
        show _ = _; unfold relm; rw [hel]; simp only; rw [show a + (k + 2) = kk + 1 by omega, he]; rfl
      rw [HR.out]
      have h255 := byte_lt s[kk + 1]
      have h000 : (0 : Int) ≤ (s[kk + 1].toNat : Int) := by omega
      have V1 := Lib.hid (fun W => rwhite_any _ h000 h255 W)
      have hw' : whiteI (s[kk + 1].toNat : Int) = false := hw
      rw [hw'] at V1
      clear hcons hel hcl hcl' hc h1 hkk hw hw' he hkl
      go_enter Tryz.func53, Tryz.ntmps53
      go_wp2_with (first | (go_at_call 67; refine (RC.out _).mono ?_; rintro e w2 ⟨rfl, rfl⟩) | (go_at_call 52; refine (V1.out _).mono ?_; rintro e w2 ⟨rfl, rfl⟩))
      go_ret2
      exact ⟨rfl, Below.refl _ _⟩
    · have HR : Hid (relm s a = ((s.drop (a + 1)).take (kk - (a + 1)), (kk : Int) + 1)) := by
        show _ = _; unfold relm; rw [hel]; simp only; rw [show a + (k + 2) = kk + 1 by omega, if_pos he, HT.out]; congr 1; push_cast; omega
      rw [HR.out]
      clear hcons hel hcl hcl' hc h1 hkk he hkl
      go_enter Tryz.func53, Tryz.ntmps53
      go_wp2_with (first | (go_at_call 67; refine (RC.out _).mono ?_; rintro e w2 ⟨rfl, rfl⟩))
      go_ret2
      exact ⟨rfl, Below.refl _ _⟩
/-- How far the closing quote is, i bytes being read behind the first one. -/
def quoN (s : Bs) (a j : Nat) : Prop := (quo (s.drop (a + 1))).map (·.2) = (quo (s.drop (a + 1 + j))).map (fun q => j + q.2)
set_option maxRecDepth 100000 in
set_option maxHeartbeats 1600000 in
theorem relement_quote (s : Bs) (a : Nat) (hs : s.length ≤ 1000000) (ha : a < s.length) (h1 : s[a] = 34) (w : World) :
    Calls Tryz.prog 53 #[.string ⟨s.toArray⟩, .int .i64 (a : Int)] w fun e w' => e = .returned (.tuple #[.string ⟨(relm s a).1.toArray⟩, .int .i64 (relm s a).2]) ∧ Below w.heap.size w w' := by
  have t1 : ((s[a].toNat : Int) == 34) = true := u8_eq (n := 34) h1
  have t2 : ((s[a].toNat : Int) == 123) = false := u8_ne (n := 123) (by rw [h1]; decide)
  have h255a := byte_lt s[a]
  have h000a : (0 : Int) ≤ (s[a].toNat : Int) := by omega
  have hcons0 : s.drop a = 34 :: s.drop (a + 1) := by rw [List.drop_eq_getElem_cons ha, h1]
  have hel : elemC (s.drop a) = (quo (s.drop (a + 1))).map fun q => (q.1, q.2 + 1) := by
    rw [hcons0]; simp [elemC]
  clear h1
  have HEL := Lib.hid (And.intro hel hcons0)
  clear hel hcons0
  go_enter Tryz.func53, Tryz.ntmps53
  go_wp2_with fail
  go_loopg [7, 9, 10] (s.length - (a + 1)) (fun g v _ _ wr => ∃ (j : Nat), j + g = s.length - (a + 1) ∧ v = .int .i64 ((a + 1 + j : Nat) : Int) ∧ Below w.heap.size w wr ∧ Hid (quoN s a j))
  case atStart => exact ⟨0, by omega, by go_num, Below.refl _ _, by show (quo _).map _ = _; rw [Nat.add_zero]; cases quo (s.drop (a + 1)) <;> simp⟩
  case round =>
    obtain ⟨j, hig, rfl, hb, HI⟩ := hrel
    obtain ⟨i, hi⟩ : ∃ i, i = a + 1 + j := ⟨_, rfl⟩
    have hai : a + 1 ≤ i := by omega
    have HE := Lib.hid (And.intro hi (And.intro (show j = i - (a + 1) by omega) hig))
    have his : i ≤ s.length := by omega
    have HI2 : Hid ((quo (s.drop (a + 1))).map (·.2) = (quo (s.drop i)).map (fun q => j + q.2)) := by have h := HI.out; unfold quoN at h; rw [← hi] at h; exact h
    rw [← hi]
    clear HI hi hig
    have HI := HI2
    clear HI2
    by_cases hlt : i < s.length
    · have t0 : decide ((i : Int) < (s.length : Int)) = true := by rw [decide_eq_true_eq]; omega
      have hcons : s.drop i = s[i] :: s.drop (i + 1) := List.drop_eq_getElem_cons hlt
      have h255 := byte_lt s[i]
      have h000 : (0 : Int) ≤ (s[i].toNat : Int) := by omega
      by_cases h34 : s[i] = 34
      · have t3 : ((s[i].toNat : Int) == 34) = true := u8_eq (n := 34) h34
        have t4 : decide ((s.length : Int) ≤ (i : Int)) = false := by rw [decide_eq_false_iff_not]; omega
        have hq0 : ∃ t, quo (s.drop (a + 1)) = some (t, j + 1) := by
          have h := HI.out
          rw [hcons, quo_end h34] at h
          cases hq : quo (s.drop (a + 1)) with
          | none => rw [hq] at h; cases h
          | some q => rw [hq] at h; simp only [Option.map_some, Option.some.injEq] at h; exact ⟨q.1, by rw [← h]⟩
        obtain ⟨t, hq⟩ := hq0
        have hqt := (quo_text _ _ (Nat.le_refl _) _ _ hq).2
        rw [show j + 1 - 1 = j by omega] at hqt
        have RU := Lib.hid (fun W => rUnescaped_any ((s.drop (a + 1)).take (i - (a + 1))) (by simp; omega) W)
        obtain ⟨hel, hcons0⟩ := HEL.out
        clear hcons
        rcases atEnd_cases s (i + 1) with ⟨hlt2, hw, he⟩ | ⟨hlt2, hw, he⟩ | ⟨hge, he⟩
        ·
          have h255 := byte_lt s[i + 1]
          have h000 : (0 : Int) ≤ (s[i + 1].toNat : Int) := by omega
          have V1 := Lib.hid (fun W => rwhite_any _ h000 h255 W)
          have hw' : whiteI (s[i + 1].toNat : Int) = true := hw
          rw [hw'] at V1
          have HR : Hid (relm s a = (unescAll ((s.drop (a + 1)).take (i - (a + 1))), (i : Int) + 1)) := by show _ = _; unfold relm; rw [hel, hq]; simp only [Option.map_some]; have e := HE.out; rw [show a + (j + 1 + 1) = i + 1 by omega, if_pos he, hqt, show i - (a + 1) = j by omega]; congr 1; push_cast; omega
          clear hq HI hcons0 h34 he hqt hw hw'
          clear hel
          go_wp2_with (first | (go_at_call 69; refine (RU.out _).mono ?_; rintro e w3 ⟨rfl, hB3⟩; have H3 := Lib.hid hB3; clear hB3) | (go_at_call 52; refine (V1.out _).mono ?_; rintro e w2 ⟨rfl, rfl⟩))
          go_ret2
          exact ⟨ret2_si (by rw [HR.out]) (by rw [HR.out]), hb.trans (H3.out.mono hb.size)⟩
        ·
          have h255 := byte_lt s[i + 1]
          have h000 : (0 : Int) ≤ (s[i + 1].toNat : Int) := by omega
          have V1 := Lib.hid (fun W => rwhite_any _ h000 h255 W)
          have hw' : whiteI (s[i + 1].toNat : Int) = false := hw
          rw [hw'] at V1
          have HR : Hid (relm s a = ([], -1)) := by show _ = _; unfold relm; rw [hel, hq]; simp only [Option.map_some]; have e := HE.out; rw [show a + (j + 1 + 1) = i + 1 by omega, he]; rfl
          clear hq HI hcons0 h34 he hqt hw hw'
          clear hel
          go_wp2_with (first | (go_at_call 69; refine (RU.out _).mono ?_; rintro e w3 ⟨rfl, hB3⟩; have H3 := Lib.hid hB3; clear hB3) | (go_at_call 52; refine (V1.out _).mono ?_; rintro e w2 ⟨rfl, rfl⟩))
          go_ret2
          exact ⟨ret2_si (by rw [HR.out]) (by rw [HR.out]), hb.trans (H3.out.mono hb.size)⟩
        ·
          have HR : Hid (relm s a = (unescAll ((s.drop (a + 1)).take (i - (a + 1))), (i : Int) + 1)) := by show _ = _; unfold relm; rw [hel, hq]; simp only [Option.map_some]; have e := HE.out; rw [show a + (j + 1 + 1) = i + 1 by omega, if_pos he, hqt, show i - (a + 1) = j by omega]; congr 1; push_cast; omega
          clear hq HI hcons0 h34 he hqt 
          clear hel
          go_wp2_with (first | (go_at_call 69; refine (RU.out _).mono ?_; rintro e w3 ⟨rfl, hB3⟩; have H3 := Lib.hid hB3; clear hB3))
          go_ret2
          exact ⟨ret2_si (by rw [HR.out]) (by rw [HR.out]), hb.trans (H3.out.mono hb.size)⟩
      · have t3 : ((s[i].toNat : Int) == 34) = false := u8_ne (n := 34) h34
        have hu : (s.drop i).length ≤ 1000000 := by simp; omega
        have HU := Lib.hid (fun W => rUnescape_any (s.drop i) hu W)
        have hul := unesc_len (s.drop i)
        have hst : ∃ m : Nat, 1 ≤ m ∧ i + m ≤ s.length ∧ max ((unesc (s.drop i)).2 : Int) 1 = (m : Int) ∧ (quo (s.drop (a + 1))).map (·.2) = (quo (s.drop (i + m))).map (fun q => j + m + q.2) := by
          have h := HI.out
          by_cases h92 : s[i] = 92
          · have hp := unesc_pos (r := s.drop (i + 1)) h92
            rw [hcons, quo_esc h92, ← hcons] at h
            rw [← hcons] at hp
            rw [List.drop_drop] at h
            rw [List.length_drop] at hul
            refine ⟨(unesc (s.drop i)).2, hp.1, by omega, by omega, ?_⟩
            rw [h, Option.map_map]
            congr 1; funext q; simp only [Function.comp]; omega
          · rw [hcons, quo_lit h34 h92] at h
            rw [hcons, unesc_plain h92]
            refine ⟨1, Nat.le_refl _, by omega, rfl, ?_⟩
            rw [h, Option.map_map]
            congr 1; funext q; simp only [Function.comp]; omega
        obtain ⟨m, hm1, hm2, hmax, hA⟩ := hst
        have HA := Lib.hid hA
        clear hA HI hcons h34 hul
        generalize unesc (s.drop i) = q at *
        obtain ⟨qc, qn⟩ := q
        simp only at HU hmax
        go_wp2_with (go_at_call 68; refine (HU.out _).mono ?_; rintro e w2 ⟨rfl, hB2⟩; have H2 := Lib.hid hB2; clear hB2)
        go_roundg (gk - m)
        case measure => have he := HE.out; omega
        case rel => have he := HE.out; exact ⟨j + m, by omega, by go_num, hb.trans (H2.out.mono hb.size), by show (quo _).map _ = _; rw [show a + 1 + (j + m) = i + m by omega]; exact HA.out⟩
    · have t0 : decide ((i : Int) < (s.length : Int)) = false := by rw [decide_eq_false_iff_not]; omega
      have t4 : decide ((s.length : Int) ≤ (i : Int)) = true := by rw [decide_eq_true_eq]; omega
      have hq : quo (s.drop (a + 1)) = none := by
        have h := HI.out
        rw [show s.drop i = [] from List.drop_eq_nil_of_le (by omega), quo_nil] at h
        generalize quo (s.drop (a + 1)) = oq at h ⊢
        cases oq with
        | none => rfl
        | some q => cases h
      have HR : Hid (relm s a = ([], -1)) := by show _ = _; unfold relm; rw [HEL.out.1, hq]; rfl
      clear hq HI
      go_wp2_with fail
      go_ret2
      exact ⟨by rw [HR.out]; rfl, hb⟩
end Go.Proofs.YtpaffocniniakaaGreat
namespace Go.Proofs.YtpaffocniniakaaGreat
set_option linter.unusedVariables false
set_option linter.unusedSimpArgs false
open Go.RowKit

theorem relement_any (s : Bs) (a : Nat) (hs : s.length ≤ 1000000) (ha : a < s.length) (w : World) :
    Calls Tryz.prog 53 #[.string ⟨s.toArray⟩, .int .i64 (a : Int)] w fun e w' => e = .returned (.tuple #[.string ⟨(relm s a).1.toArray⟩, .int .i64 (relm s a).2]) ∧ Below w.heap.size w w' := by
  by_cases h1 : s[a] = 123
  · exact relement_brace s a hs ha h1 w
  · by_cases h2 : s[a] = 34
    · exact relement_quote s a hs ha h2 w
    · have hr : relm s a = ((bare (s.drop a)).1, (a : Int) + ((bare (s.drop a)).2 : Int)) := by
        have hcons : s.drop a = s[a] :: s.drop (a + 1) := List.drop_eq_getElem_cons ha
        have hel : elemC (s.drop a) = some (bare (s.drop a)) := by rw [hcons]; simp [elemC, h1, h2]
        have he := bare_atEnd _ (s.drop a) (Nat.le_refl _)
        rw [List.drop_drop] at he
        unfold relm
        rw [hel]
        simp only
        rw [if_pos he]
      rw [hr]
      exact relement_bare s a hs ha h1 h2 w
/-- What is left of the list: an element is read there, or it is wrong. -/
theorem relm_some {s : Bs} {a : Nat} (ha : a < s.length) (hw : isW s[a] = false) : (relm s a = ([], -1) ∧ splitL (s.drop a) = none) ∨ ∃ t k, 1 ≤ k ∧ a + k ≤ s.length ∧ relm s a = (t, ((a + k : Nat) : Int)) ∧ splitL (s.drop a) = (splitL (s.drop (a + k))).map (t :: ·) := by
  have hcons : s.drop a = s[a] :: s.drop (a + 1) := List.drop_eq_getElem_cons ha
  have hsp : splitL (s.drop a) = (elemC (s.drop a)).bind fun q => if atEnd ((s.drop a).drop q.2) = true then (splitL ((s.drop a).drop q.2)).map (q.1 :: ·) else none := by
    rw [hcons, splitL_elem hw]
  unfold relm
  cases he : elemC (s.drop a) with
  | none => rw [he] at hsp; exact .inl ⟨rfl, hsp⟩
  | some q =>
    obtain ⟨t, k⟩ := q
    rw [he, Option.bind_some] at hsp
    simp only [List.drop_drop] at hsp
    simp only
    have hk1 := elem_le he
    rw [List.length_drop] at hk1
    have hk2 : 1 ≤ k := by rw [hcons] at he; exact elem_pos hw he
    by_cases hE : atEnd (s.drop (a + k)) = true
    · rw [if_pos hE] at hsp ⊢
      exact .inr ⟨t, k, hk2, by omega, by push_cast; rfl, hsp⟩
    · rw [if_neg hE] at hsp ⊢
      exact .inl ⟨rfl, hsp⟩
theorem split_half : ∀ (n : Nat) (s : Bs), s.length ≤ n → ∀ l, splitL s = some l → 2 * l.length ≤ s.length + 1 ∧ (atEnd s = true → 2 * l.length ≤ s.length) := by
  intro n
  induction n with
  | zero =>
    intro s h l hl
    obtain rfl : s = [] := List.length_eq_zero_iff.1 (by omega)
    rw [splitL_nil] at hl; cases hl; simp
  | succ n ih =>
    intro s h l hl
    cases s with
    | nil => rw [splitL_nil] at hl; cases hl; simp
    | cons c r =>
      simp only [List.length_cons] at h ⊢
      by_cases hw : isW c = true
      · rw [splitL_white hw] at hl
        have := (ih r (by omega) l hl).1
        exact ⟨by omega, fun _ => by omega⟩
      · have hw' : isW c = false := by simpa using hw
        have hne : atEnd (c :: r) = false := hw'
        rw [splitL_elem hw'] at hl
        cases he : elemC (c :: r) with
        | none => rw [he] at hl; cases hl
        | some q =>
          have h1 := elem_le (t := q.1) (k := q.2) he
          have h2 := elem_pos hw' (t := q.1) (k := q.2) he
          simp only [List.length_cons] at h1
          rw [he, Option.bind_some] at hl
          split at hl
          · rename_i hE
            cases hm : splitL ((c :: r).drop q.2) with
            | none => rw [hm] at hl; cases hl
            | some m =>
              rw [hm] at hl; cases hl
              have := (ih _ (by simp; omega) m hm).2 hE
              simp only [List.length_drop, List.length_cons] at this ⊢
              exact ⟨by omega, fun h => by rw [hne] at h; cases h⟩
          · cases hl
theorem owns_slice {w : World} {base : Nat} {e : TypeId} {size n : Nat} {v : Value} {xs : List Value} (h : w.ownsRow base e size v n xs) : ∃ ao cap, v = .slice ao n cap := by
  rcases h.2 with ⟨rfl, rfl⟩ | ⟨g, cap, cur, rfl, _⟩
  · exact ⟨_, _, rfl⟩
  · exact ⟨_, _, rfl⟩
theorem infoStr : (Tryz.prog.info? 9).map (fun i => (i.zero, i.size, i.bytes)) = some (some (.string ⟨#[]⟩), 1, 16) := by kernel_rfl
/-- What 'Split' of the reference gives. -/
def RSpl (w : World) (s : Bs) (v : Value) (e : Int) (w' : World) : Prop := Below w.heap.size w w' ∧ ((splitL s = none ∧ e = 2 ∧ v = .slice none 0 0) ∨ ∃ l, splitL s = some l ∧ e = 0 ∧ w'.ownsRow w.heap.size 9 1 v l.length (l.map sv))
set_option maxRecDepth 100000 in
set_option maxHeartbeats 1600000 in
theorem rSplit_any (s : Bs) (hs : s.length ≤ 19999) (w : World) :
    Calls Tryz.prog 29 #[.string ⟨s.toArray⟩] w fun e w' => ∃ v i err, e = .returned (.tuple #[v, .int .i64 i, .int .i64 err]) ∧ RSpl w s v err w' := by
  go_enter Tryz.func29, Tryz.ntmps29
  go_wp2_with fail
  go_loopg [2, 5, 6, 7] (s.length + 1) (fun g l v _ _ wr => ∃ (i : Nat) (acc : List Bs), i + g = s.length + 1 ∧ i ≤ s.length ∧ v = .int .i64 (i : Int) ∧ Hid (wr.ownsRow w.heap.size 9 1 l acc.length (acc.map sv)) ∧ Below w.heap.size w wr ∧ acc.length ≤ i ∧ Hid (splitL s = (splitL (s.drop i)).map (acc ++ ·)))
  case atStart => exact ⟨0, [], by omega, by omega, rfl, World.ownsRow_nil _ _ _ _, Below.refl _ _, by simp, by show _ = _; cases h : splitL s <;> simp [h]⟩
  case round =>
    obtain ⟨i0, acc, hig, hi0, rfl, HO, hb, hacc, HI⟩ := hrel
    obtain ⟨ao, cap, rfl⟩ := owns_slice HO.out
    obtain ⟨wo, rfl⟩ : ∃ wo : World, wo = wr := ⟨_, rfl⟩
    obtain ⟨go, rfl⟩ : ∃ go : Nat, go = gk := ⟨_, rfl⟩
    go_wp2_with fail
    go_loopg [5] (s.length + 1 - i0) (fun g2 v wy => ∃ (i : Nat), i + g2 = s.length + 1 ∧ i0 ≤ i ∧ i ≤ s.length ∧ v = .int .i64 (i : Int) ∧ wy = wo ∧ Hid (splitL (s.drop i0) = splitL (s.drop i)))
    case atStart => exact ⟨i0, by omega, by omega, hi0, rfl, rfl, rfl⟩
    case round =>
      obtain ⟨i, hig2, hii, his, rfl, rfl, HI2⟩ := hrel
      by_cases hlt : i < s.length
      · have t0 : decide ((i : Int) < (s.length : Int)) = true := by rw [decide_eq_true_eq]; omega
        have t1 : ((i : Int) == (s.length : Int)) = false := by rw [beq_eq_false_iff_ne]; omega
        have hcons : s.drop i = s[i] :: s.drop (i + 1) := List.drop_eq_getElem_cons hlt
        have h255 := byte_lt s[i]
        have h000 : (0 : Int) ≤ (s[i].toNat : Int) := by omega
        have V1 := Lib.hid (fun W => rwhite_any _ h000 h255 W)
        by_cases hw : isW s[i] = true
        · have hw' : whiteI (s[i].toNat : Int) = true := hw
          have HA : Hid (splitL (s.drop i0) = splitL (s.drop (i + 1))) := by have h := HI2.out; rw [hcons, splitL_white hw] at h; exact h
          rw [hw'] at V1
          clear hw hw' hcons HI2
          go_wp2_with (go_at_call 52; refine (V1.out _).mono ?_; rintro e w2 ⟨rfl, rfl⟩)
          go_roundg (gk - 1)
          case measure => omega
          case rel => exact ⟨i + 1, by omega, by omega, by omega, by go_num, rfl, HA⟩
        · have hw1 : isW s[i] = false := by simpa using hw
          have hw' : whiteI (s[i].toNat : Int) = false := hw1
          rw [hw'] at V1
          have EL := Lib.hid (fun W => relement_any s i (by omega) hlt W)
          rcases relm_some hlt hw1 with ⟨hr, hn⟩ | ⟨t, k, hk1, hk2, hr, hn⟩
          · rw [hr] at EL
            have HA : Hid (splitL s = none) := by have h := HI.out; rw [HI2.out, hn] at h; exact h
            clear hw hw1 hw' hcons HI2 hr hn
            go_wp2_with (first | (go_at_call 52; refine (V1.out _).mono ?_; rintro e w2 ⟨rfl, rfl⟩) | (go_at_call 53; refine (EL.out _).mono ?_; rintro e w2 ⟨rfl, hB2⟩; have H2 := Lib.hid hB2; clear hB2))
            go_ret3
            exact ⟨_, _, _, rfl, hb.trans (H2.out.mono hb.size), .inl ⟨HA.out, rfl, rfl⟩⟩
          · rw [hr] at EL
            have HA : Hid (splitL s = (splitL (s.drop (i + k))).map ((acc ++ [t]) ++ ·)) := by
              have h := HI.out
              rw [HI2.out, hn, Option.map_map] at h
              show _ = _
              rw [h]; congr 1; funext m; simp
            have t5 : decide (((i + k : Nat) : Int) < 0) = false := by rw [decide_eq_false_iff_not]; omega
            obtain ⟨ik, hik⟩ : ∃ ik, ik = i + k := ⟨_, rfl⟩
            rw [← hik] at EL HA t5
            have hik1 : i + 1 ≤ ik := by omega
            have hik2 : ik ≤ s.length := by omega
            clear hw hw1 hw' hcons HI2 hr hn HI hik hk1 hk2
            simp only at EL
            go_wp2_with (first | (go_at_call 52; refine (V1.out _).mono ?_; rintro e w2 ⟨rfl, rfl⟩) | (go_at_call 53; refine (EL.out _).mono ?_; rintro e w2 ⟨rfl, hB2⟩; have H2 := Lib.hid hB2; have hs2 := hB2.size; clear hB2) | (at_builtin; go_loud (refine wpList_push1 rfl _ _ 30 rfl w.heap.size 9 (.string ⟨#[]⟩) 16 Tryz.underlying30 infoStr rfl (.slice ao acc.length cap) acc.length (acc.map sv) rfl (ownsRow_kp HO.out (kp_of_below H2.out) (fun b hb => by simp)) (.string ⟨t.toArray⟩) w2.heap.size (by rfl) rfl rfl (by unfold maxLen; omega) (by omega) (by have := hb.size; omega) ?_; intro g c1 w1 hg hown1 hk1 hlc; have HK := Lib.hid (And.intro hk1 hlc); have HOW := Lib.hid hown1; clear hk1 hlc hown1)))
            go_roundg (go - (ik - i0))
            case measure => omega
            case rel =>
              refine ⟨ik, acc ++ [t], by omega, hik2, rfl, ?_, ?_, by simp; omega, HA⟩
              · show World.ownsRow _ _ _ _ _ _ _
                rw [List.length_append, List.map_append]
                exact HOW.out
              · refine (hb.trans (H2.out.mono hb.size)).trans (HK.out.1.below (by have := hb.size; omega) (fun d hd => ?_))
                have hd' : (Value.slice ao acc.length cap).ownBlock = some d := by simpa using hd
                exact (ownsRow_type HO.out d hd').1
      · obtain rfl : i = s.length := by omega
        have hsp : splitL s = some acc := by have h := HI.out; rw [HI2.out, List.drop_length, splitL_nil] at h; simpa using h
        have hhalf := (split_half _ _ (Nat.le_refl _) _ hsp).1
        have HA := Lib.hid hsp
        have t0 : decide ((s.length : Int) < (s.length : Int)) = false := by rw [decide_eq_false_iff_not]; omega
        have t1 : ((s.length : Int) == (s.length : Int)) = true := by rw [beq_iff_eq]
        have t2 : decide ((10000 : Int) < (acc.length : Int)) = false := by rw [decide_eq_false_iff_not]; omega
        clear hsp HI HI2
        go_wp2_with fail
        go_ret3
        exact ⟨_, _, _, rfl, hb, .inr ⟨acc, HA.out, rfl, HO.out⟩⟩
end Go.Proofs.YtpaffocniniakaaGreat
