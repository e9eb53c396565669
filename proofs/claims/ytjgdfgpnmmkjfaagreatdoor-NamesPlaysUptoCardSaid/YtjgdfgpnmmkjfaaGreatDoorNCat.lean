/- 'slices.Grow', 'slices.Concat', 'slices.Contains' over rows of texts. -/
import Derived.Test.YtjgdfgpnmmkjfaaGreatDoorNTree
import Derived.Lib.AppendZeros
namespace Go.Proofs.YtjgdfgpnmmkjfaaGreatDoor
set_option linter.unusedVariables false
set_option linter.unusedSimpArgs false
open Go.RowKit Go.MapKept

def hasB (L : List Bs) (x : Bs) : Bool := L.any fun y => y == x
theorem contains_any {w : World} {v : Value} {L : List Bs} (h : TxtRow w v L) (x : Bs) : Calls Tryz.prog 39 #[v, .string ⟨x.toArray⟩] w fun e w' => e = .returned (.bool (hasB L x)) ∧ w = w' := by
  obtain ⟨o, c, rfl⟩ := h.len
  obtain ⟨_, h1, h2, h3⟩ := h.at_
  unfold maxLen at h2
  rcases Nat.eq_zero_or_pos L.length with h0 | h0
  · obtain rfl : L = [] := List.length_eq_zero_iff.1 h0
    exact (Tryz.slices_Contains_string_empty o c ⟨x.toArray⟩ w).mono fun e w' ⟨he, hw⟩ => ⟨he, hw.symm⟩
  · obtain ⟨b, off, rfl, _, _⟩ := h3 0 h0
    refine (Tryz.slices_Contains_string b off L.length c (L.map fun y => ⟨y.toArray⟩) ⟨x.toArray⟩ w (by simp) (by omega) (fun j hj => ?_)).mono fun e w' ⟨he, hw⟩ => ⟨?_, hw.symm⟩
    · rw [List.length_map] at hj
      obtain ⟨b', off', e, _, hc⟩ := h3 j hj
      cases e
      rw [hc]
      simp [sv, List.getD_eq_getElem?_getD, hj]
    · rw [he]
      have : Lib.containsS ((L.map fun y => (⟨y.toArray⟩ : ByteArray)).take L.length) ⟨x.toArray⟩ = hasB L x := by
        rw [List.take_of_length_le (by simp)]
        rw [Bool.eq_iff_iff, Lib.containsS_iff, hasB, List.any_eq_true, List.mem_map]
        constructor
        · rintro ⟨y, hy, e⟩
          exact ⟨y, hy, by simpa using e⟩
        · rintro ⟨y, hy, e⟩
          exact ⟨y, hy, by rw [show y = x by simpa using e]⟩
      rw [this]
theorem infoStr' : ∃ i, Tryz.prog.info? 9 = some i ∧ i.zero = some (.string ⟨#[]⟩) ∧ i.size = 1 ∧ i.bytes = 16 := by
  have h := infoStr
  cases hi : Tryz.prog.info? 9 with
  | none => rw [hi] at h; cases h
  | some i => rw [hi] at h; simp at h; exact ⟨i, rfl, h.1, h.2.1, h.2.2⟩
set_option maxHeartbeats 800000 in
theorem grow_nil (n : Nat) (h0 : 0 < n) (hn : n ≤ 1000000) (w : World) : Calls Tryz.prog 69 #[.slice none 0 0, .int .i64 (n : Int)] w fun e w' => ∃ cap, e = .returned (.slice (some ⟨w.heap.size, 0, none⟩) 0 cap) ∧ w'.ownsRow w.heap.size 9 1 (.slice (some ⟨w.heap.size, 0, none⟩) 0 cap) 0 [] ∧ Below w.heap.size w w' := by
  obtain ⟨i, hi, hz, hs, hb⟩ := infoStr'
  have hrz := fun ty => Lib.run_append_nil_zeros (P := Tryz.prog) w 27 3 ty 9 i (.string ⟨#[]⟩) .i64 .i64 Tryz.underlying27 Tryz.underlying3 hi hz n h0 (by omega) (by omega) (by rw [hb]; omega)
  have hG1 := grownCap_ge w n 0 9
  have hG2 := grownCap_le_maxLen w n 0 9 (by unfold maxLen; omega)
  obtain ⟨G, hG⟩ : ∃ G, G = grownCap w n 0 9 := ⟨_, rfl⟩
  rw [← hG] at hrz hG1 hG2
  have t1 : decide ((n : Int) < 0) = false := by rw [decide_eq_false_iff_not]; omega
  have t2 : decide ((0 : Int) < (n : Int)) = true := by rw [decide_eq_true_eq]; omega
  have t3 : IntKind.i64.wrap ((n : Int) - 0) = (n : Int) := by rw [IntWalk.i64_in _ (by omega)]; omega
  have HG := Lib.hid hG2
  unfold maxLen at hG2
  clear hG hi hz hs hb
  go_enter Tryz.func69, Tryz.ntmps69
  go_wp2_with (at_builtin; refine Lib.wpList_append_run _ rfl _ _ _ _ rfl _ _ rfl rfl _ _ (hrz _) ?_)
  go_ret
  refine ⟨G, rfl, ⟨rfl, .inr ⟨w.heap.size, G, _, rfl, Nat.le_refl _, heap_alloc_new _ _, Nat.zero_le _, HG.out, ?_, rfl⟩⟩, (Below.refl _ w).drew.alloc (Nat.le_refl _) _⟩
  simp [Builtin.zeroCells, Value.cells]
  omega
theorem flat_take {LL : List (List Bs)} {k : Nat} (hk : k < LL.length) : (LL.take (k + 1)).flatten = (LL.take k).flatten ++ LL[k] := by
  rw [List.take_succ_eq_append_getElem hk, List.flatten_append]; simp
theorem flat_le {LL : List (List Bs)} (k : Nat) : (LL.take k).flatten.length ≤ LL.flatten.length := by
  have h : LL.flatten = (LL.take k).flatten ++ (LL.drop k).flatten := by rw [← List.flatten_append, List.take_append_drop]
  rw [h, List.length_append]; omega
set_option maxRecDepth 100000 in
set_option maxHeartbeats 1600000 in
theorem concat_any (w : World) (g : Nat) (vs : List Value) (LL : List (List Bs)) (n : Nat) (hv : vs.length = n) (hL : LL.length = n) (hn : n ≤ 1000) (hgl : g < w.heap.size)
    (hc : ∀ i (h : i < vs.length), w.cell? ⟨g, i, none⟩ = some vs[i]) (ht : ∀ i (h : i < vs.length) (h' : i < LL.length), TxtRow w vs[i] LL[i]) (h0 : 0 < LL.flatten.length) (hs : LL.flatten.length ≤ 1000000) :
    Calls Tryz.prog 38 #[.slice (some ⟨g, 0, none⟩) n n] w fun e w' => ∃ o c, e = .returned (.slice o LL.flatten.length c) ∧ w'.ownsRow w.heap.size 9 1 (.slice o LL.flatten.length c) LL.flatten.length (LL.flatten.map sv) ∧ Below w.heap.size w w' := by
  have HC := Lib.hid hc
  have HT := Lib.hid ht
  have HV := Lib.hid (And.intro hv (And.intro hL h0))
  obtain ⟨tot, htot⟩ : ∃ tot, LL.flatten.length = tot := ⟨_, rfl⟩
  have HTOT := Lib.hid htot
  rw [htot] at hs h0
  have GR := Lib.hid (grow_nil tot h0 hs w)
  rw [htot]
  clear hc ht hv hL htot h0
  go_enter Tryz.func38, Tryz.ntmps38
  go_wp2_with fail
  go_loopw [11, 3] (fun q z wr => ∃ k : Nat, k ≤ n ∧ q = .int .i64 (k : Int) ∧ z = .int .i64 (((LL.take k).flatten.length : Nat) : Int) ∧ w = wr) (fun q _ _ => n - (intOf q).toNat)
  case atStart => exact ⟨0, Nat.zero_le _, rfl, rfl, rfl⟩
  case round =>
    obtain ⟨k, hk, rfl, rfl, rfl⟩ := hrel
    have hV := HV.out
    by_cases hlt : k < n
    · have hc := HC.out k (by omega)
      have hf := flat_take (LL := LL) (k := k) (by omega)
      have ht := HT.out k (by omega) (by omega)
      have hle := flat_le (LL := LL) (k + 1)
      have hto := HTOT.out
      rw [hf, List.length_append] at hle
      have HF := Lib.hid hf
      generalize LL[k]'(by omega) = R at *
      generalize vs[k]'(by omega) = rv at *
      obtain ⟨ro, rc, rfl⟩ := ht.len
      obtain ⟨sz, hsz⟩ : ∃ sz, (LL.take k).flatten.length = sz := ⟨_, rfl⟩
      have HSZ := Lib.hid hsz
      rw [hsz] at hle ⊢
      obtain ⟨rl, hrl⟩ : ∃ rl, R.length = rl := ⟨_, rfl⟩
      rw [hrl] at hc hle
      have HRL := Lib.hid hrl
      have t0 : decide ((k : Int) < (n : Int)) = true := by rw [decide_eq_true_eq]; omega
      have t1 : IntKind.i64.wrap ((sz : Int) + (rl : Int)) = (sz : Int) + (rl : Int) := IntWalk.i64_in _ (by omega)
      have t2 : decide ((sz : Int) + (rl : Int) < 0) = false := by rw [decide_eq_false_iff_not]; omega
      have i1 : k < n := hlt
      have HK := Lib.hid hlt
      clear hf ht hle hto hV hlt hk hrl hsz
      go_wp2_with fail
      exact ⟨⟨k + 1, by have := HK.out; omega, by go_num, by rw [HF.out, List.length_append, HRL.out, HSZ.out]; push_cast; rfl, trivial⟩, by have := HK.out; simp [intOf]; omega⟩
    · have hkn : k = n := by omega
      subst hkn
      have t0 : decide ((k : Int) < (k : Int)) = false := by rw [decide_eq_false_iff_not]; omega
      rw [List.take_of_length_le (by omega), HTOT.out]
      have HK := Lib.hid hV
      clear hV hlt hk
      go_wp2_with (go_at_call 69; refine GR.out.mono ?_; rintro e w1 ⟨cap, rfl, ho, hB⟩; have HO := Lib.hid (And.intro ho hB); clear ho hB)
      go_loopw [27, 6] (fun q z wr => ∃ j : Nat, j ≤ k ∧ q = .int .i64 (j : Int) ∧ wr.ownsRow w.heap.size 9 1 z (LL.take j).flatten.length ((LL.take j).flatten.map sv) ∧ Below w.heap.size w wr) (fun q _ _ => k - (intOf q).toNat)
      case atStart => exact ⟨0, Nat.zero_le _, rfl, HO.out.1, HO.out.2⟩
      case round =>
        obtain ⟨j, hj, rfl, hown, hB⟩ := hrel
        have hV := HK.out
        by_cases hlt : j < k
        · have hc := (hB.cell (p := ⟨g, j, none⟩) hgl).trans (HC.out j (by omega))
          have hf := flat_take (LL := LL) (k := j) (by omega)
          have ht := (HT.out j (by omega) (by omega)).below hB
          have hle := flat_le (LL := LL) (j + 1)
          have hto := HTOT.out
          rw [hf, List.length_append, hto] at hle
          have HF := Lib.hid hf
          generalize LL[j]'(by omega) = R at *
          generalize vs[j]'(by omega) = rv at *
          obtain ⟨ro, rc, rfl⟩ := ht.len
          obtain ⟨oo, oc, rfl⟩ := owns_slice hown
          obtain ⟨sz, hsz⟩ : ∃ sz, (LL.take j).flatten.length = sz := ⟨_, rfl⟩
          have HSZ := Lib.hid hsz
          obtain ⟨rl, hrl⟩ : ∃ rl, R.length = rl := ⟨_, rfl⟩
          rw [hsz] at hle hown
          rw [hrl] at hc hle ht
          rw [hsz]
          have HRL := Lib.hid hrl
          have HO2 := Lib.hid (And.intro hown (And.intro ht hB))
          have t1 : decide ((j : Int) < (k : Int)) = true := by rw [decide_eq_true_eq]; omega
          have i1 : j < k := hlt
          have HJ := Lib.hid hlt
          clear hf ht hto hV hlt hj hrl hsz hown hB
          go_wp2_with (at_builtin; go_loud (refine wpList_pushRow rfl (.tmp 31) (.tmp 32) 27 rfl w.heap.size 9 (.string ⟨#[]⟩) 16 Tryz.underlying27 infoStr rfl (.slice oo sz oc) sz _ rfl HO2.out.1 ro rl rc R rfl HO2.out.2.1 (by unfold maxLen; omega) (by omega) HO2.out.2.2.size ?_); intro v4 w4 hown4 hB4; have H4 := Lib.hid (And.intro hown4 (HO2.out.2.2.trans hB4)); clear hown4 hB4)
          exact ⟨⟨j + 1, by have := HJ.out; omega, by go_num, by rw [HF.out, List.length_append, HRL.out, HSZ.out, List.map_append]; exact H4.out.1, H4.out.2⟩, by have := HJ.out; simp [intOf]; omega⟩
        · have hjk : j = k := by omega
          subst hjk
          rw [List.take_of_length_le (by omega), HTOT.out] at hown
          obtain ⟨oo, oc, rfl⟩ := owns_slice hown
          have HE := Lib.hid (And.intro hown hB)
          clear hown hB hV hlt hj
          go_wp2_with fail
          go_ret
          exact ⟨oo, oc, rfl, HE.out.1, HE.out.2⟩
end Go.Proofs.YtjgdfgpnmmkjfaaGreatDoor
