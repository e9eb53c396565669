/- For every text, every list of pairs and both ways of folding, 'TextMaps' returns true: 'Map' of package text is that of the reference, and mapping a key to itself changes nothing. No condition. -/
import Derived.Test.YtkjeccndbdgghaaRows
import Derived.Test.YtkjeccndbdgghaaAwake1
import Derived.Test.YtkjeccndbdgghaaRMap
import Derived.Deep.RegionWith
import Derived.Deep.RegionHeld3
import Derived.ProofKit
import Derived.OpenShut
import Derived.ShutString
import Derived.SliceStrings
import Derived.Carry
namespace Go.Proofs.Ytkjeccndbdgghaa.textMaps
open Go.ChangeShapes Go.WideShapes Go.ChangeAt Go.RowKit
open Go.ChangeMaps (open_string shut_string)
set_option linter.unusedVariables false

set_option maxHeartbeats 400000 in
theorem Map_odd (s : Bs) (ao : Option Addr) (n cap : Nat) (fold : Bool) (hn : n ≤ 1000000) (hp : n % 2 = 1) (w : World) :
    Calls Try.prog 11 #[.string ⟨s.toArray⟩, .slice ao n cap, .bool fold] w fun e w' => e = .returned (.tuple #[.string ⟨([] : Bs).toArray⟩, .int .i64 1]) ∧ w = w' := by
  have hp1 : ((n : Int) % 2 == 1) = true := by rw [beq_iff_eq]; omega
  go_enter Try.func11, Try.ntmps11
  go_wp2_with fail
  go_step3
  go_wp2_with fail
  rw [Exit.noGoto_ret]
  go_ret2
  exact ⟨rfl, rfl⟩

set_option maxHeartbeats 400000 in
theorem rMap_odd (s : Bs) (ao : Option Addr) (n cap : Nat) (fold : Bool) (hn : n ≤ 1000000) (hp : n % 2 = 1) (w : World) :
    Calls Try.prog 12 #[.string ⟨s.toArray⟩, .slice ao n cap, .bool fold] w fun e w' => e = .returned (.tuple #[.string ⟨([] : Bs).toArray⟩, .int .i64 1]) ∧ w = w' := by
  have hp1 : ((n : Int) % 2 != 0) = true := by rw [bne_iff_ne]; omega
  go_enter Try.func12, Try.ntmps12
  go_wp2_with fail
  go_ret2
  exact ⟨rfl, rfl⟩

theorem pair_row (w : World) (p : Bs) : SRow (w.alloc (.cells #[.string ⟨p.toArray⟩, .string ⟨p.toArray⟩] 9)).heap.size (w.alloc (.cells #[.string ⟨p.toArray⟩, .string ⟨p.toArray⟩] 9)) (some ⟨w.heap.size, 0, none⟩) [p, p] := by
  intro _
  refine ⟨w.heap.size, 0, rfl, by simp, fun i hi => ?_⟩
  have hb := heap_alloc_new w (.cells #[.string ⟨p.toArray⟩, .string ⟨p.toArray⟩] 9)
  simp only [World.cell?, hb]
  match i, hi with
  | 0, _ => rfl
  | 1, _ => rfl

set_option maxRecDepth 100000 in
set_option maxHeartbeats 1000000 in
theorem walk (s : Bs) (ss : List Bs) (fold : Bool) (ao : Option Addr) (cap : Nat) (hs : s.length ≤ 9223372036854775807) (hss : ss.length ≤ 9223372036854775807) (w : World) (hR : SRow w.heap.size w ao ss) :
    Calls Try.prog 3 #[.string ⟨s.toArray⟩, .slice ao ss.length cap, .bool fold] w fun e w' => e = .returned (.bool true) ∧ Below w.heap.size w w' := by
  have hl1 : SRow (w.alloc (.cells #[.string ⟨s.toArray⟩] 9)).heap.size (w.alloc (.cells #[.string ⟨s.toArray⟩] 9)) (some ⟨w.heap.size, 0, none⟩) [s] := by
    intro _
    refine ⟨w.heap.size, 0, rfl, by simp, fun i hi => ?_⟩
    have hb := heap_alloc_new w (.cells #[.string ⟨s.toArray⟩] 9)
    simp only [World.cell?, hb]
    match i, hi with
    | 0, _ => rfl
  have hlong1 := Long_any [s] _ 1 (by simp) _ _ hl1
  have hb1 : Below w.heap.size w (w.alloc (.cells #[.string ⟨s.toArray⟩] 9)) := (Below.refl _ w).alloc (Nat.le_refl _) _
  have hlong2 := Long_any ss ao cap hss _ _ (hR.below hb1 (Nat.le_refl _))
  have HL1 := Lib.hid hlong1
  have HL2 := Lib.hid hlong2
  clear hlong1 hlong2 hl1
  by_cases h1 : isLong [s] = true
  · rw [h1] at HL1
    clear h1 hb1 HL2
    go_enter Try.func3, Try.ntmps3
    go_wp2_with (first | (go_at_call 9; refine HL1.out.mono ?_; rintro e w1 ⟨rfl, rfl⟩) | (go_at_call 10; refine (awake_any _).mono ?_; rintro e w2 ⟨rfl, hb⟩))
    go_ret
    exact ⟨rfl, ((Below.refl _ w).alloc (Nat.le_refl _) _).trans (hb.mono (by simp))⟩
  · have h1f : isLong [s] = false := by simpa using h1
    rw [h1f] at HL1
    by_cases h2 : 20 < ss.length
    · clear h1 h1f hb1 HL2
      go_enter Try.func3, Try.ntmps3
      go_wp2_with (first | (go_at_call 9; refine HL1.out.mono ?_; rintro e w1 ⟨rfl, rfl⟩) | (go_at_call 10; refine (awake_any _).mono ?_; rintro e w2 ⟨rfl, hb⟩))
      go_ret
      exact ⟨rfl, ((Below.refl _ w).alloc (Nat.le_refl _) _).trans (hb.mono (by simp))⟩
    · by_cases h3 : isLong ss = true
      · rw [h3] at HL2
        clear h1 h1f hb1 h3
        go_enter Try.func3, Try.ntmps3
        go_wp2_with (first | (go_at_call_of 9 (Value.slice ao ss.length cap); refine HL2.out.mono ?_; rintro e w1 ⟨rfl, rfl⟩) | (go_at_call 9; refine HL1.out.mono ?_; rintro e w1 ⟨rfl, rfl⟩) | (go_at_call 10; refine (awake_any _).mono ?_; rintro e w2 ⟨rfl, hb⟩))
        go_ret
        exact ⟨rfl, ((Below.refl _ w).alloc (Nat.le_refl _) _).trans (hb.mono (by simp))⟩
      · have h3f : isLong ss = false := by simpa using h3
        rw [h3f] at HL2
        have hsl : s.length ≤ 400 := by simpa [isLong] using h1f
        have hxl : ∀ x ∈ ss, x.length ≤ 400 := by
          intro x hx
          have := List.any_eq_false.1 h3f x hx
          simpa using this
        have hR1 := hR.below hb1 (Nat.le_refl _)
        obtain ⟨m, c, c1, c2⟩ : ∃ (m : Bs) (c : Int), (∀ W, SRow W.heap.size W ao ss → Calls Try.prog 11 #[.string ⟨s.toArray⟩, .slice ao ss.length cap, .bool fold] W fun e w' => e = .returned (.tuple #[.string ⟨m.toArray⟩, .int .i64 c]) ∧ Below W.heap.size W w') ∧
            (∀ W, SRow W.heap.size W ao ss → Calls Try.prog 12 #[.string ⟨s.toArray⟩, .slice ao ss.length cap, .bool fold] W fun e w' => e = .returned (.tuple #[.string ⟨m.toArray⟩, .int .i64 c]) ∧ Below W.heap.size W w') := by
          by_cases hodd : ss.length % 2 = 1
          · exact ⟨[], 1, fun W _ => (Map_odd s ao ss.length cap fold (by omega) hodd W).mono fun e w' h => ⟨h.1, h.2 ▸ Below.refl _ _⟩, fun W _ => (rMap_odd s ao ss.length cap fold (by omega) hodd W).mono fun e w' h => ⟨h.1, h.2 ▸ Below.refl _ _⟩⟩
          · exact ⟨_, _, fun W h => Map_any s ss fold ao cap (by omega) (by omega) (by omega) (fun x hx => by have := hxl x hx; omega) W h, fun W h => rMap_any s ss fold ao cap (by omega) (by omega) (by omega) (fun x hx => by have := hxl x hx; omega) W h⟩
        have C1 := Lib.hid (c1 _ (hR1.mono hb1.size))
        have C2 := Lib.hid c2
        have HR := Lib.hid hR
        have HX := Lib.hid hxl
        clear c1 c2 hR1 hR h1 h1f h3 h3f hxl
        have HB1 := Lib.hid hb1
        clear hb1
        by_cases h0 : ss.length = 0
        · have t0 : ((ss.length : Int) == 0) = true := by rw [beq_iff_eq]; omega
          clear h0
          go_enter Try.func3, Try.ntmps3
          go_wp2_with (first | (go_at_call_of 9 (Value.slice ao ss.length cap); refine HL2.out.mono ?_; rintro e w1 ⟨rfl, rfl⟩) | (go_at_call 9; refine HL1.out.mono ?_; rintro e w1 ⟨rfl, rfl⟩) | (go_at_call 11; refine C1.out.mono ?_; rintro e w2 ⟨rfl, hb2⟩; have HB2 := Lib.hid (HB1.out.trans (hb2.mono HB1.out.size)); clear hb2) | (go_at_call 12; refine (C2.out _ ((HR.out.below HB2.out (Nat.le_refl _)).mono HB2.out.size)).mono ?_; rintro e w3 ⟨rfl, hb3⟩; have HB3 := Lib.hid (HB2.out.trans (hb3.mono HB2.out.size)); clear hb3) | (go_at_call 10; refine (awake_any _).mono ?_; rintro e w4 ⟨rfl, hb4⟩))
          go_ret
          exact ⟨rfl, HB3.out.trans (hb4.mono HB3.out.size)⟩
        · have t0 : ((ss.length : Int) == 0) = false := by rw [beq_eq_false_iff_ne]; omega
          obtain ⟨b, off, rfl, hbb, hcells⟩ := HR.out (by intro h; rw [h] at h0; simp at h0)
          have hc0 := hcells 0 (by omega)
          have hx0 := HX.out ss[0] (List.getElem_mem _)
          obtain ⟨p, hp⟩ : ∃ p, p = ss[0] := ⟨_, rfl⟩
          rw [← hp] at hc0 hx0
          rw [Nat.add_zero] at hc0
          have hm3 : ∀ W ao, SRow W.heap.size W ao [p, p] → Calls Try.prog 11 #[.string ⟨s.toArray⟩, .slice ao 2 2, .bool false] W fun e w' => e = .returned (.tuple #[.string ⟨s.toArray⟩, .int .i64 0]) ∧ Below W.heap.size W w' := by
            intro W ao h
            have := Map_any s [p, p] false ao 2 (by omega) (by simp) (by simp) (by simp; omega) W h
            rw [mapAll_self p s.length s (Nat.le_refl _), lim, if_pos (by omega)] at this
            exact this
          have C3 := Lib.hid hm3
          have HC := Lib.hid hcells
          have HC0 := Lib.hid hc0
          clear hm3 hcells hp hc0
          have e1 : (0 : Int) < (ss.length : Int) := by omega
          have e1n : 0 < ss.length := by omega
          go_enter Try.func3, Try.ntmps3
          go_wp2_with (first | (go_at_call_of 9 (Value.slice (some ⟨b, off, none⟩) ss.length cap); refine HL2.out.mono ?_; rintro e w1 ⟨rfl, rfl⟩) | (go_at_call 9; refine HL1.out.mono ?_; rintro e w1 ⟨rfl, rfl⟩) | (go_at_call 11; refine C1.out.mono ?_; rintro e w2 ⟨rfl, hb2⟩; have HB2 := Lib.hid (HB1.out.trans (hb2.mono HB1.out.size)); clear hb2) | (go_at_call 12; refine (C2.out _ ((HR.out.below HB2.out (Nat.le_refl _)).mono HB2.out.size)).mono ?_; rintro e w3 ⟨rfl, hb3⟩; have HB3 := Lib.hid (HB2.out.trans (hb3.mono HB2.out.size)); clear hb3))
          have hc3 : w3.cell? ⟨b, off, none⟩ = some (.string ⟨p.toArray⟩) := (HB3.out.cell (p := ⟨b, off, none⟩) hbb).trans HC0.out
          go_region_held3 (fun w' => w'.cell? ⟨b, off, none⟩ = some (.string ⟨p.toArray⟩)) (first | go_keep | (exact (hbx.cell (p := ⟨b, off, none⟩) (Nat.lt_of_lt_of_le hbb HB3.out.size)).trans hc3)) ((go_at_call 11; refine (C3.out _ _ (by exact pair_row _ p)).mono ?_; rintro e w4 ⟨rfl, hbx0⟩; have hbx := (((Below.refl w3.heap.size w3).alloc (Nat.le_refl _) (.cells #[.string ⟨p.toArray⟩, .string ⟨p.toArray⟩] 9)).drew).trans (hbx0.mono (by simp)); clear hbx0))
          go_wp2_with (go_at_call 10; refine (awake_any _).mono ?_; rintro e w5 ⟨rfl, hb5⟩)
          go_ret
          exact ⟨rfl, HB3.out.trans ((hbx.mono HB3.out.size).trans (hb5.mono (Nat.le_trans HB3.out.size hbx.size)))⟩

theorem own : ownKnob Try.prog.godebug = none := by kernel_rfl
theorem laidOut : laidOutB Try.prog = true := by kernel_rfl
theorem cellsS : Try.prog.cellsOf 9 = 1 := by kernel_rfl

theorem walkB (s : ByteArray) (ss : List Bs) (fold : Bool) (ao : Option Addr) (n cap : Nat) (hn : n = ss.length) (hs : s.size ≤ maxLen) (hss : n ≤ maxLen) (w : World) (hR : SRow w.heap.size w ao ss) :
    Calls Try.prog 3 #[.string s, .slice ao n cap, .bool fold] w fun e w' => e = .returned (.bool true) ∧ Below w.heap.size w w' := by
  subst hn
  cases s with
  | mk d =>
    cases d with
    | mk l => exact walk l ss fold ao cap (by simpa [ByteArray.size, maxLen] using hs) (by simpa [maxLen] using hss) w hR

set_option maxRecDepth 100000 in
theorem lifted (os : Os) (started : os.Started) (H : Type) (enc : TypeId × Value → H) :
    ReturnsInHanded {} Try.checked os 3 .any (Rows.textMapsSpec.pre6 enc Try.prog Try.f3 Rows.textMapsRow.domain false) (Rows.textMapsSpec.post enc Try.prog Try.f3 false true false false) := by
  refine returnsInHanded_of_change (C := Try.checked) own started (by kernel_rfl) Try.func3
    (ChangeSpec.witness6 (enc := enc) (C := Try.checked) false ⟨#[], #[.string ByteArray.empty, .slice none 0 0, .bool false], []⟩ 8 (by kernel_rfl) (by kernel_rfl) (by kernel_rfl) (by kernel_rfl)) ?_
  intro W base args ds gs before hval0 hW hcnd _
  have hval : ∀ (j : Nat) t v, Try.f3.params[j]? = some t → args[j]? = some v → Value.okWide Try.prog W .any base t v := hval0
  have hW' := hW
  obtain ⟨p, q, hA0, hV, rfl, hfz, hnd⟩ := hW
  have hA : DataW.TrodAll enc Try.prog W 0 (fun _ => true) true Try.f3.params.toList args.toList ds p := hA0
  rw [Try.params3] at hA hval
  obtain ⟨v0, vs0, d0, ds0, p0, q0, hargs, rfl, rfl, h0, r0⟩ := trodAll_cons hA
  obtain ⟨v1, vs1, d1, ds1, p1, q1, rfl, rfl, rfl, h1, r1⟩ := trodAll_cons r0
  obtain ⟨v2, vs2, d2, ds2, p2, q2, rfl, rfl, rfl, h2, r2⟩ := trodAll_cons r1
  obtain ⟨rfl, rfl, rfl⟩ := trodAll_nil r2
  obtain rfl : args = #[v0, v1, v2] := by cases args; simp_all
  obtain ⟨rfl, rfl⟩ := trodVars_none hV
  obtain ⟨a0, rfl, rfl, rfl, w0⟩ := open_string Try.underlying9 (hval 0 9 v0 rfl rfl) h0
  obtain ⟨a1, n, cap, rfl⟩ := okWide_slice Try.underlying22 (hval 1 22 v1 rfl rfl)
  obtain ⟨a2, rfl, rfl, rfl⟩ := open_bool Try.underlying4 (hval 2 4 v2 rfl rfl) h2
  have h1k := h1
  obtain ⟨fuel, hf⟩ := h1
  clear hA0 hval0
  simp only [List.append_nil, List.nil_append] at hW'
  have hlt : ∀ x ∈ p1, x.block < W.heap.size := fun x hx => by simpa using hW'.lt x hx
  obtain ⟨ss, hn, hss, hR⟩ : ∃ ss : List Bs, n = ss.length ∧ n ≤ maxLen ∧ SRow W.heap.size W a1 ss := by
    rcases open_strings Try.underlying22 Try.underlying9 cellsS hf with ⟨hcs, hx⟩ | ⟨a, len', cap', zs, hcs, _, hl, hm, hz, hx, hcell, hwz⟩
    · simp [Value.cells] at hcs
      obtain ⟨rfl, rfl, rfl⟩ := hcs
      exact ⟨[], rfl, by decide, fun h => absurd rfl h⟩
    · simp [Value.cells] at hcs
      obtain ⟨rfl, rfl, rfl⟩ := hcs
      simp only [Prod.mk.injEq] at hx
      obtain ⟨rfl, rfl⟩ := hx
      simp only [if_true] at hz
      refine ⟨(zs.take n).map fun b => b.data.toList, by simp; omega, by omega, fun hne => ?_⟩
      have hn0 : 0 < n := by
        rcases Nat.eq_zero_or_pos n with h | h
        · subst h; simp at hne
        · exact h
      obtain ⟨b, off, spot⟩ := a
      have hspot : spot = none := by simpa [Addr.add] using World.cell?_spot (hcell 0 (by omega))
      subst hspot
      refine ⟨b, off, rfl, hlt (.cell b off) (MemPlace.mem_row.2 ⟨0, by omega, by simp⟩), fun i hi => ?_⟩
      simp at hi
      have := hcell i (by omega)
      rw [add_plain] at this
      rw [this]
      simp [List.getD, show i < zs.length by omega]
  refine (walkB a0 ss a2 a1 n cap hn w0 hss W hR).mono fun e W' ⟨he, hb⟩ => ?_
  subst he
  exact ⟨_, rfl, _, _, _, [], [] ++ (p1 ++ ([] ++ [])), [], hW', trodAll_cons_mk (shut_bool Try.underlying4 _) trodAll_mk0,
    trodAll_cons_mk (shut_string Try.underlying9 w0) (trodAll_cons_mk (Below.trod laidOut (by kernel_rfl) (of_decide_eq_true (by kernel_rfl)) h1k hb hlt) (trodAll_cons_mk (shut_bool Try.underlying4 _) trodAll_mk0)), rfl, hb.frame _, fun h => by cases h⟩

theorem over : Rows.textMapsRow.holds Try.pinned (OpenSpec.ofChange Rows.textMapsSpec) :=
  OpenClaim.holds_of_wide 3 Try.f3 rfl rfl rfl rfl rfl rfl rfl ⟨rfl, rfl, rfl, rfl, rfl⟩ rfl rfl rfl rfl rfl (by kernel_rfl) Try.func3 (by kernel_rfl)
    (of_decide_eq_true (by kernel_rfl)) (by unfold Func.isWrapper; first | (rw [if_pos (by decide +kernel)]; kernel_rfl) | (rw [if_neg (by decide +kernel)]; exact ⟨rfl, rfl⟩))
    (fun os started H enc _ => lifted os started H enc)

theorem proved : Rows.TextMapsSaid :=
  over
#print axioms proved
end Go.Proofs.Ytkjeccndbdgghaa.textMaps
