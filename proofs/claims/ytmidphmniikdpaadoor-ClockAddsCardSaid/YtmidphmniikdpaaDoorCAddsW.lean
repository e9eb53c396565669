/- 'ClockAdds' returns true: the walk. -/
import Derived.Test.YtmidphmniikdpaaDoorCAdd5
import Derived.Test.YtmidphmniikdpaaDoorCDatesW
import Derived.Deep.RegionWith
namespace Go.Proofs.YtmidphmniikdpaaDoor.clockAdds
set_option linter.unusedVariables false
set_option linter.unusedSimpArgs false
open Go.RowKit
theorem addC_err (t n : Int) (u : Nat) : (addC t n u).2 = 0 ∨ (addC t n u).2 = 7 := by
  unfold addC
  split <;> split <;> first | exact .inl rfl | exact .inr rfl
set_option maxRecDepth 100000 in
set_option maxHeartbeats 12800000 in
theorem walk_ok (t m n tt : Int) (s : Bs) (mn a b g c h k i k1 x j y l yy mm dd hh ii ss : Int) (w : World) (hT : SpaceIs w) (hP : PowIs w) (hs : s.length ≤ 10)
    (hm1 : -1000000000 ≤ m) (hm2 : m ≤ 1000000000) (hn1 : -1000000000 ≤ n) (hn2 : n ≤ 1000000000) (hmn : m + n = mn)
    (hD : datesC t = (⟨yy, mm, dd, hh, ii, ss⟩, 0)) (h1 : addR t m s = (a, 0)) (h2 : addR a n s = (b, g)) (h3 : addR t mn s = (c, h)) (h4 : addR t k s = (x, j)) (h5 : addR t k1 s = (y, l)) (hB : betR t tt s = (k, i))
    (hA : g = 7 ∨ (g = 0 ∧ 28 < dd) ∨ (g = 0 ∧ dd ≤ 28 ∧ h = 0 ∧ c = b))
    (hC : i = 7 ∨ (i = 0 ∧ tt < t) ∨ (i = 0 ∧ t ≤ tt ∧ 0 ≤ k ∧ k ≤ 400000000000 ∧ k + 1 = k1 ∧ j = 0 ∧ x ≤ tt ∧ (l = 7 ∨ (l = 0 ∧ tt < y)))) :
    Calls Tryd.prog 7 #[.int .i64 t, .int .i64 m, .int .i64 n, .int .i64 tt, .string ⟨s.toArray⟩] w fun e w' => e = .returned (.bool true) ∧ Below w.heap.size w w' := by
  have KD := Lib.hid (fun W => Date_any t W)
  rw [hD] at KD
  simp only [DT.v] at KD
  have K1 := Lib.hid (fun W => Add_any t m s W)
  rw [h1] at K1
  have K2 := Lib.hid (fun W => Add_any a n s W)
  rw [h2] at K2
  have K3 := Lib.hid (fun W => Add_any t mn s W)
  rw [h3] at K3
  have K4 := Lib.hid (fun W => Add_any t k s W)
  rw [h4] at K4
  have K5 := Lib.hid (fun W => Add_any t k1 s W)
  rw [h5] at K5
  have KB := Lib.hid (fun W => Between_any t tt s W)
  rw [hB] at KB
  have HT := Lib.hid hT
  have HP := Lib.hid hP
  have HB := Lib.hid (Below.refl w.heap.size w)
  clear hT hP hD h1 h2 h3 h4 h5 hB
  rcases hA with rfl | ⟨rfl, hd⟩ | ⟨rfl, hd, rfl, rfl⟩ <;> rcases hC with rfl | ⟨rfl, ht⟩ | ⟨rfl, ht, hk0, hk1, hk2, rfl, hx, rfl | ⟨rfl, hy⟩⟩
  all_goals
    go_enter Tryd.func7, Tryd.ntmps7
    go_wp2_with (first
      | (go_at_call_of 32 (Value.int .i64 k1); refine (K5.out _).mono ?_; rintro e w1 ⟨rfl, hb⟩; replace cx := (hb.cell (cell_lt cx)).trans cx; replace HB := Lib.hid (HB.out.trans (hb.mono HB.out.size)); clear hb)
      | (go_at_call_of 32 (Value.int .i64 k); refine (K4.out _).mono ?_; rintro e w1 ⟨rfl, hb⟩; replace cx := (hb.cell (cell_lt cx)).trans cx; replace HB := Lib.hid (HB.out.trans (hb.mono HB.out.size)); clear hb)
      | (go_at_call_of 32 (Value.int .i64 mn); refine (K3.out _).mono ?_; rintro e w1 ⟨rfl, hb⟩; replace cx := (hb.cell (cell_lt cx)).trans cx; replace HB := Lib.hid (HB.out.trans (hb.mono HB.out.size)); clear hb)
      | (go_at_call_of 32 (Value.int .i64 n); refine (K2.out _).mono ?_; rintro e w1 ⟨rfl, hb⟩; replace cx := (hb.cell (cell_lt cx)).trans cx; replace HB := Lib.hid (HB.out.trans (hb.mono HB.out.size)); clear hb)
      | (go_at_call_of 32 (Value.int .i64 m); refine (K1.out _).mono ?_; rintro e w1 ⟨rfl, hb⟩; replace cx := (hb.cell (cell_lt cx)).trans cx; replace HB := Lib.hid (HB.out.trans (hb.mono HB.out.size)); clear hb)
      | (go_at_call 15; refine (KD.out _).mono ?_; rintro e w1 ⟨rfl, hb⟩; obtain ⟨-, -, cx, -, -, -⟩ := cells6_new w1 (.int .i64 yy) (.int .i64 mm) (.int .i64 dd) (.int .i64 hh) (.int .i64 ii) (.int .i64 ss) 30; have hq := HB.out.trans (hb.mono HB.out.size); replace HB := Lib.hid (hq.alloc hq.size (.cells #[.int .i64 yy, .int .i64 mm, .int .i64 dd, .int .i64 hh, .int .i64 ii, .int .i64 ss] 30)); clear hb hq)
      | (go_at_call 33; refine (KB.out _).mono ?_; rintro e w1 ⟨rfl, hb⟩; replace cx := (hb.cell (cell_lt cx)).trans cx; replace HB := Lib.hid (HB.out.trans (hb.mono HB.out.size)); clear hb)
      | (go_at_call 9; refine (awake_any _ ?_ ?_).mono ?_; exact HT.out.below HB.out; exact HP.out.below HB.out; rintro e w8 ⟨rfl, hb⟩; replace HB := Lib.hid (HB.out.trans (hb.mono HB.out.size)); clear hb))
    go_ret
    exact ⟨rfl, HB.out⟩
set_option maxRecDepth 100000 in
set_option maxHeartbeats 6400000 in
theorem walk_err (t m n tt : Int) (s : Bs) (a e f yy mm dd hh ii ss : Int) (w : World) (hT : SpaceIs w) (hP : PowIs w) (hs : s.length ≤ 10)
    (hm1 : -1000000000 ≤ m) (hm2 : m ≤ 1000000000) (hn1 : -1000000000 ≤ n) (hn2 : n ≤ 1000000000)
    (hD : datesC t = (⟨yy, mm, dd, hh, ii, ss⟩, e)) (h1 : addR t m s = (a, f)) (hE : e = 7 ∨ (e = 0 ∧ (f = 5 ∨ f = 7))) :
    Calls Tryd.prog 7 #[.int .i64 t, .int .i64 m, .int .i64 n, .int .i64 tt, .string ⟨s.toArray⟩] w fun e w' => e = .returned (.bool true) ∧ Below w.heap.size w w' := by
  have KD := Lib.hid (fun W => Date_any t W)
  rw [hD] at KD
  simp only [DT.v] at KD
  have K1 := Lib.hid (fun W => Add_any t m s W)
  rw [h1] at K1
  have HT := Lib.hid hT
  have HP := Lib.hid hP
  have HB := Lib.hid (Below.refl w.heap.size w)
  clear hT hP hD h1
  rcases hE with rfl | ⟨rfl, rfl | rfl⟩
  all_goals
    go_enter Tryd.func7, Tryd.ntmps7
    go_wp2_with (first
      | (go_at_call_of 32 (Value.int .i64 m); refine (K1.out _).mono ?_; rintro e w1 ⟨rfl, hb⟩; replace cx := (hb.cell (cell_lt cx)).trans cx; replace HB := Lib.hid (HB.out.trans (hb.mono HB.out.size)); clear hb)
      | (go_at_call 15; refine (KD.out _).mono ?_; rintro e w1 ⟨rfl, hb⟩; obtain ⟨-, -, cx, -, -, -⟩ := cells6_new w1 (.int .i64 yy) (.int .i64 mm) (.int .i64 dd) (.int .i64 hh) (.int .i64 ii) (.int .i64 ss) 30; have hq := HB.out.trans (hb.mono HB.out.size); replace HB := Lib.hid (hq.alloc hq.size (.cells #[.int .i64 yy, .int .i64 mm, .int .i64 dd, .int .i64 hh, .int .i64 ii, .int .i64 ss] 30)); clear hb hq)
      | (go_at_call 9; refine (awake_any _ ?_ ?_).mono ?_; exact HT.out.below HB.out; exact HP.out.below HB.out; rintro e w8 ⟨rfl, hb⟩; replace HB := Lib.hid (HB.out.trans (hb.mono HB.out.size)); clear hb))
    go_ret
    exact ⟨rfl, HB.out⟩
set_option maxRecDepth 100000 in
set_option maxHeartbeats 6400000 in
theorem walk_far (t m n tt : Int) (s : Bs) (hs : s.length ≤ maxLen) (w : World) (hT : SpaceIs w) (hP : PowIs w)
    (hE : m < -1000000000 ∨ (-1000000000 ≤ m ∧ 1000000000 < m) ∨ (-1000000000 ≤ m ∧ m ≤ 1000000000 ∧ n < -1000000000) ∨ (-1000000000 ≤ m ∧ m ≤ 1000000000 ∧ -1000000000 ≤ n ∧ 1000000000 < n) ∨ (-1000000000 ≤ m ∧ m ≤ 1000000000 ∧ -1000000000 ≤ n ∧ n ≤ 1000000000 ∧ 10 < s.length)) :
    Calls Tryd.prog 7 #[.int .i64 t, .int .i64 m, .int .i64 n, .int .i64 tt, .string ⟨s.toArray⟩] w fun e w' => e = .returned (.bool true) ∧ Below w.heap.size w w' := by
  have HT := Lib.hid hT
  have HP := Lib.hid hP
  have HB := Lib.hid (Below.refl w.heap.size w)
  clear hT hP
  rcases hE with h1 | ⟨h1, h2⟩ | ⟨h1, h2, h3⟩ | ⟨h1, h2, h3, h4⟩ | ⟨h1, h2, h3, h4, h5⟩
  all_goals
    go_enter Tryd.func7, Tryd.ntmps7
    go_wp2_with (go_at_call 9; refine (awake_any _ ?_ ?_).mono ?_; exact HT.out.below HB.out; exact HP.out.below HB.out; rintro e w8 ⟨rfl, hb⟩; replace HB := Lib.hid (HB.out.trans (hb.mono HB.out.size)); clear hb)
    go_ret
    exact ⟨rfl, HB.out⟩
theorem walk (t m n tt : Int) (s : Bs) (hs : s.length ≤ maxLen) (w : World) (hT : SpaceIs w) (hP : PowIs w) :
    Calls Tryd.prog 7 #[.int .i64 t, .int .i64 m, .int .i64 n, .int .i64 tt, .string ⟨s.toArray⟩] w fun e w' => e = .returned (.bool true) ∧ Below w.heap.size w w' := by
  by_cases hf : m < -1000000000 ∨ (-1000000000 ≤ m ∧ 1000000000 < m) ∨ (-1000000000 ≤ m ∧ m ≤ 1000000000 ∧ n < -1000000000) ∨ (-1000000000 ≤ m ∧ m ≤ 1000000000 ∧ -1000000000 ≤ n ∧ 1000000000 < n) ∨ (-1000000000 ≤ m ∧ m ≤ 1000000000 ∧ -1000000000 ≤ n ∧ n ≤ 1000000000 ∧ 10 < s.length)
  · exact walk_far t m n tt s hs w hT hP hf
  have hl : s.length ≤ 10 := by omega
  have hm1 : -1000000000 ≤ m := by omega
  have hm2 : m ≤ 1000000000 := by omega
  have hn1 : -1000000000 ≤ n := by omega
  have hn2 : n ≤ 1000000000 := by omega
  clear hf
  by_cases hv : validI t = true
  · have eD : datesC t = (⟨(dateC t).y, (dateC t).m, (dateC t).d, (dateC t).h, (dateC t).mi, (dateC t).s⟩, 0) := by unfold datesC; rw [if_pos hv]
    have EA : ∀ {v q : Int}, validI v = true → addR v q s = match unitC s with
        | some u => addC v q u
        | none => (0, 5) := fun {v q} hv => by unfold addR; rw [if_pos hv]; rfl
    cases hu : unitC s with
    | none => exact walk_err t m n tt s 0 0 5 _ _ _ _ _ _ w hT hP hl hm1 hm2 hn1 hn2 eD (by rw [EA hv, hu]) (.inr ⟨rfl, .inl rfl⟩)
    | some u =>
      have hu6 := unitC_le hu
      have EA2 : ∀ {v q : Int}, validI v = true → addR v q s = addC v q u := fun {v q} hv => by rw [EA hv, hu]
      have P : ∀ {p : Int × Int}, p = (p.1, p.2) := rfl
      rcases addC_err t m u with h0 | h7
      · have hva := add_ok_valid hu6 hv h0
        have e1 : addR t m s = ((addC t m u).1, 0) := by rw [EA2 hv, ← h0]
        have e2 : addR (addC t m u).1 n s = ((addC (addC t m u).1 n u).1, (addC (addC t m u).1 n u).2) := EA2 hva
        have e3 : addR t (m + n) s = ((addC t (m + n) u).1, (addC t (m + n) u).2) := EA2 hv
        have e4 : ∀ k : Int, addR t k s = ((addC t k u).1, (addC t k u).2) := fun k => EA2 hv
        have hA : (addC (addC t m u).1 n u).2 = 7 ∨ ((addC (addC t m u).1 n u).2 = 0 ∧ 28 < (dateC t).d) ∨ ((addC (addC t m u).1 n u).2 = 0 ∧ (dateC t).d ≤ 28 ∧ (addC t (m + n) u).2 = 0 ∧ (addC t (m + n) u).1 = (addC (addC t m u).1 n u).1) := by
          rcases addC_err (addC t m u).1 n u with g0 | g7
          · rcases (show 28 < (dateC t).d ∨ (dateC t).d ≤ 28 by omega) with d1 | d1
            · exact .inr (.inl ⟨g0, d1⟩)
            · have hh := add_add hu6 hv d1 h0 g0
              exact .inr (.inr ⟨g0, d1, by rw [hh]; exact g0, by rw [hh]⟩)
          · exact .inl g7
        by_cases hvt : validI tt = true
        · have eB : betR t tt s = (if t ≤ tt then betC t tt u else -(betC tt t u), 0) := by unfold betR; rw [if_pos ⟨hv, hvt⟩, hu]
          by_cases hle : t ≤ tt
          · rw [if_pos hle] at eB
            obtain ⟨b1, b2, b3, b4, b5⟩ := bet_law hu6 hv hvt hle
            refine walk_ok t m n tt s (m + n) _ _ _ _ _ _ _ (betC t tt u + 1) _ _ _ _ _ _ _ _ _ _ w hT hP hl hm1 hm2 hn1 hn2 rfl eD e1 e2 e3 (e4 _) (e4 _) eB hA (.inr (.inr ⟨rfl, hle, b1, b2, rfl, b3, b4, ?_⟩))
            rcases addC_err t (betC t tt u + 1) u with l0 | l7
            · rcases b5 with q | q
              · exact absurd l0 q
              · exact .inr ⟨l0, q⟩
            · exact .inl l7
          · rw [if_neg hle] at eB
            exact walk_ok t m n tt s (m + n) _ _ _ _ _ _ _ 0 _ _ _ _ _ _ _ _ _ _ w hT hP hl hm1 hm2 hn1 hn2 rfl eD e1 e2 e3 (e4 _) (e4 _) eB hA (.inr (.inl ⟨rfl, by omega⟩))
        · have eB : betR t tt s = (0, 7) := by unfold betR; rw [if_neg (fun h => hvt h.2)]
          exact walk_ok t m n tt s (m + n) _ _ _ _ _ _ _ 0 _ _ _ _ _ _ _ _ _ _ w hT hP hl hm1 hm2 hn1 hn2 rfl eD e1 e2 e3 (e4 _) (e4 _) eB hA (.inl rfl)
      · exact walk_err t m n tt s (addC t m u).1 0 7 _ _ _ _ _ _ w hT hP hl hm1 hm2 hn1 hn2 eD (by rw [EA2 hv, ← h7]) (.inr ⟨rfl, .inr rfl⟩)
  · have eD : datesC t = (⟨0, 0, 0, 0, 0, 0⟩, 7) := by unfold datesC; rw [if_neg hv]; rfl
    exact walk_err t m n tt s (addR t m s).1 7 (addR t m s).2 0 0 0 0 0 0 w hT hP hl hm1 hm2 hn1 hn2 eD rfl (.inl rfl)
end Go.Proofs.YtmidphmniikdpaaDoor.clockAdds
