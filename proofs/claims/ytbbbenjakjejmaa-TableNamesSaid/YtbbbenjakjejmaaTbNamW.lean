/- The walk of 'TableNames'. -/
import Derived.Test.YtbbbenjakjejmaaTbNamP
import Derived.Deep.RegionWith
namespace Go.Proofs.Ytbbbenjakjejmaa
set_option linter.unusedVariables false
set_option linter.unusedSimpArgs false
open Go.RowKit Go.MapKept Go.WideMaps
theorem light_len {l : List ActV} (h : lightB l = true) : l.length ≤ 60 ∧ ∀ x ∈ l, x.s.length ≤ 1500 ∧ x.t.length ≤ 1500 := by
  unfold lightB at h
  simp only [Bool.and_eq_true, decide_eq_true_eq] at h
  refine ⟨h.1, fun x hx => ?_⟩
  have := sumA_mem hx
  omega
def boxX (x : ActV) : Obj := .cells #[.int .i64 x.k, .int .i64 x.a, .string ⟨x.s.toArray⟩, .string ⟨x.t.toArray⟩] 28
theorem boxX_cells {w : World} {b : Nat} {x : ActV} (h : w.heap[b]? = some (boxX x)) : w.cell? ⟨b, 0, none⟩ = some (.int .i64 x.k) ∧ w.cell? ⟨b, 1, none⟩ = some (.int .i64 x.a) ∧ w.cell? ⟨b, 2, none⟩ = some (.string ⟨x.s.toArray⟩) ∧ w.cell? ⟨b, 3, none⟩ = some (.string ⟨x.t.toArray⟩) := by
  unfold boxX at h
  refine ⟨?_, ?_, ?_, ?_⟩ <;> simp [World.cell?, h]
theorem nam_not (l : List ActV) (ao : Option Addr) (cap : Nat) (hl : l.length ≤ 9223372036854775807) (hok : ∀ x ∈ l, AOk x) (w : World) (hR : ARow w.heap.size w ao l) (h : lightB l = false) :
    Calls Try.prog 5 #[.slice ao l.length cap] w fun e w' => e = .returned (.bool true) ∧ Below w.heap.size w w' := by
  have LI := Lib.hid (light_any l ao cap hl hok w hR)
  have AW := Lib.hid (fun W => awake_any W)
  generalize l.length = n at *
  clear hR hl hok
  rw [h] at LI
  clear h
  go_enter Try.func5, Try.ntmps5
  go_wp2_with (first | (go_at_call 6; refine LI.out.mono ?_; rintro e w1 ⟨rfl, hB⟩; have H1 := Lib.hid hB; clear hB) | (go_at_call 7; refine (AW.out _).mono ?_; rintro e w2 ⟨rfl, hB⟩; have H2 := Lib.hid (H1.out.trans (hB.mono H1.out.size)); clear hB))
  go_ret
  exact ⟨rfl, H2.out⟩
set_option maxRecDepth 100000 in
set_option maxHeartbeats 3200000 in
theorem nam_yes (l : List ActV) (ao : Option Addr) (cap : Nat) (hlt : lightB l = true) (hok : ∀ x ∈ l, AOk x) (w : World) (hR : ARow w.heap.size w ao l) :
    Calls Try.prog 5 #[.slice ao l.length cap] w fun e w' => e = .returned (.bool true) ∧ Below w.heap.size w w' := by
  obtain ⟨hl60, hlen⟩ := light_len hlt
  have LI : Hid (Calls Try.prog 6 #[.slice ao l.length cap] w fun e w' => e = .returned (.bool true) ∧ Below w.heap.size w w') := by
    have := light_any l ao cap (by omega) hok w hR
    rw [hlt] at this
    exact this
  have AW := Lib.hid (fun W => awake_any W)
  have NW := Lib.hid (fun W => tNew_any W)
  have HR := Lib.hid hR
  have HL := Lib.hid (And.intro hlen hok)
  obtain ⟨N, hN⟩ : ∃ N, l.length = N := ⟨_, rfl⟩
  have HN := Lib.hid hN
  rw [hN] at LI hl60 ⊢
  have hmk : ∀ W : World, (Instr.makeSlice 49 (.int .i64 200) (.int .i64 200)).run Try.prog W = .ok (.slice (some ⟨W.heap.size, 0, none⟩) 200 200) (W.alloc (.cells (madeCells #[.bool false] 200) 4)) := fun W => run_make_row' 49 4 (.bool false) 1 Try.underlying49 (by kernel_rfl) rfl .i64 .i64 200 (by omega) (by omega) W
  clear hR hlt hN hlen hok
  go_enter Try.func5, Try.ntmps5
  go_wp2_with (first | (go_at_call 6; refine LI.out.mono ?_; rintro e w1 ⟨rfl, hB⟩; have H1 := Lib.hid hB; clear hB) | (go_at_call 8; refine (NW.out _).mono ?_; rintro e w2 ⟨tb, mn, mh, mk, who0, cb0, rfl, hT, hB⟩; have H2 : Hid (Led w1 w1.heap.size tb mn mh mk 0 w2) := ⟨⟨newT, who0, cb0, wf_new, Nat.le_refl _, Nat.le_refl _, hT⟩, hB⟩; clear hT hB))
  go_loopw [26] (fun i wr => ∃ k : Nat, k ≤ N ∧ i = .int .i64 (k : Int) ∧ Led w1 w1.heap.size tb mn mh mk k wr) (fun i _ => N - (intOf i).toNat)
  case atStart => exact ⟨0, Nat.zero_le _, rfl, H2.out⟩
  case round =>
    obtain ⟨k, hk, rfl, hled⟩ := hrel
    have HLED := Lib.hid hled
    have hB1 : Below w.heap.size w wr := H1.out.trans (hled.below.mono H1.out.size)
    by_cases hlt : k < N
    · have hkl : k < l.length := by have := HN.out; omega
      obtain ⟨b, off, rfl, hbl, hc⟩ := HR.out (by intro h; rw [h] at hkl; simp at hkl)
      obtain ⟨c0, c1, c2, c3⟩ := hc k hkl
      have d0 := (hB1.cell (p := ⟨b, _, none⟩) hbl).trans c0
      have d1 := (hB1.cell (p := ⟨b, _, none⟩) hbl).trans c1
      have d2 := (hB1.cell (p := ⟨b, _, none⟩) hbl).trans c2
      have d3 := (hB1.cell (p := ⟨b, _, none⟩) hbl).trans c3
      have hxl := HL.out.1 l[k] (List.getElem_mem _)
      have hxo := HL.out.2 l[k] (List.getElem_mem _)
      generalize l[k] = x at *
      have HPL : Hid (∀ W yb, LedY w1 w1.heap.size tb mn mh mk k yb W → Calls Try.prog 9 #[.pointer (some ⟨tb, 0, none⟩), .pointer (some ⟨yb, 0, none⟩), .agg #[.int .i64 x.k, .int .i64 x.a, .string ⟨x.s.toArray⟩, .string ⟨x.t.toArray⟩]] W fun e w' => (∃ q, e = .returned (.bool q)) ∧ Led w1 w1.heap.size tb mn mh mk (k + 1) w') := fun W yb h => h.play (by omega) x.k x.a hxo.2.1 x.s x.t (by omega) (by omega)
      have HY : Hid (∀ W, Below wr.heap.size wr W → Calls Try.prog 10 #[] W fun e w' => ∃ yb, e = .returned (.pointer (some ⟨yb, 0, none⟩)) ∧ LedY w1 w1.heap.size tb mn mh mk k yb w' ∧ Below W.heap.size W w') := fun W hb => (HLED.out.low hb).new
      have HBX : Hid (∀ W, Below (wr.heap.size + 1) (wr.alloc (boxX x)) W → W.cell? ⟨wr.heap.size, 0, none⟩ = some (.int .i64 x.k) ∧ W.cell? ⟨wr.heap.size, 1, none⟩ = some (.int .i64 x.a) ∧ W.cell? ⟨wr.heap.size, 2, none⟩ = some (.string ⟨x.s.toArray⟩) ∧ W.cell? ⟨wr.heap.size, 3, none⟩ = some (.string ⟨x.t.toArray⟩)) := fun W hb => boxX_cells ((hb.block wr.heap.size (by omega)).trans (heap_alloc_new wr (boxX x)))
      have hw1 : IntKind.i64.wrap ((k : Int) + 1) = (k : Int) + 1 := IntWalk.i64_in _ (by omega)
      unfold boxX at HBX
      obtain ⟨xk, xa, xs, xt⟩ := x
      simp only at d0 d1 d2 d3 HBX HPL
      have i1 : k < N := hlt
      have HK := Lib.hid hlt
      clear c0 c1 c2 c3 hc hk hkl hlt hled hB1 hxl hxo
      go_wp2_with fail
      obtain ⟨e0, e1, e2, e3⟩ := HBX.out _ (Below.refl _ _)
      go_region_with (first | (go_at_call 10; refine (HY.out _ (by exact ((Below.refl _ wr).alloc (Nat.le_refl _) _).drew)).mono ?_; rintro e w5 ⟨yb, rfl, h2, hB⟩; obtain ⟨r0, r1, r2, r3⟩ := HBX.out w5 (((Below.refl _ _).drew).trans (hB.mono (by simp))); have H5 := Lib.hid h2; clear h2 hB) | (go_at_call 9; refine (HPL.out _ _ H5.out).mono ?_; rintro e w6 ⟨⟨bb, rfl⟩, hled⟩; have H6 := Lib.hid hled; clear hled))
      all_goals
        go_wp2_with fail
        exact ⟨⟨k + 1, by have := HK.out; omega, by go_num, H6.out⟩, by have := HK.out; simp [intOf]; omega⟩
    · have i1 : decide ((k : Int) < (N : Int)) = false := by rw [decide_eq_false_iff_not]; omega
      obtain ⟨S, who, cb, hW, hla, hep, hT⟩ := hled.ex
      have HB : Hid (Below w.heap.size w wr) := hB1
      have HW := Lib.hid (And.intro hW (And.intro hT (And.intro (show S.last ≤ 60 by omega) (show S.epoch ≤ 60 by omega))))
      have HLO := Lib.hid (And.intro H1.out.size (And.intro hT.base (fun j hj => (hT.lo j hj).1)))
      obtain ⟨W0, rfl⟩ : ∃ q : World, q = wr := ⟨_, rfl⟩
      have HKN0 := Names_any hT hW (by omega) [42] (by decide)
      obtain ⟨ks, hN, _⟩ := HKN0
      have HKH0 := Hidden_any hT hW (by omega) [42] (by decide)
      obtain ⟨hs, hH, _⟩ := HKH0
      have hcnt := names_cnt hW hN hH
      have hcl := S.cnt_le
      obtain ⟨kn, hkn⟩ : ∃ kn, ks.length = kn := ⟨_, rfl⟩
      obtain ⟨hn, hhn⟩ : ∃ hn, hs.length = hn := ⟨_, rfl⟩
      obtain ⟨cn, hcn⟩ : ∃ cn, S.cnt = cn := ⟨_, rfl⟩
      rw [hkn, hhn, hcn] at hcnt
      have hknb : kn ≤ 100 := by omega
      have hhnb : hn ≤ 100 := by omega
      have HKN := Lib.hid (And.intro hN hkn)
      have HKH := Lib.hid (And.intro hH hhn)
      have HCN := Lib.hid (And.intro hcn hcnt)
      have HGW : Hid (who W0.heap.size = none ∧ w.heap.size ≤ W0.heap.size) := ⟨hT.none_at (Nat.le_refl _), hB1.size⟩
      have HC0 : Hid (CurT w1.heap.size tb mn mh mk who cb S w (W0.alloc (.cells (madeCells #[.bool false] 200) 4))) := ⟨hT.low ((Below.refl _ W0).alloc (Nat.le_refl _) _), hB1.trans ((Below.refl _ W0).alloc hB1.size _)⟩
      have NA : Hid (Calls Try.prog 16 #[.pointer (some ⟨tb, 0, none⟩), .string ⟨#[42]⟩] (W0.alloc (.cells (madeCells #[.bool false] 200) 4)) fun e w' => ∃ o c, e = .returned (.slice o kn c) ∧ TxtRow w' (.slice o kn c) (srt ks) ∧ CurT w1.heap.size tb mn mh mk who cb S w w' ∧ Below (W0.alloc (.cells (madeCells #[.bool false] 200) 4)).heap.size (W0.alloc (.cells (madeCells #[.bool false] 200) 4)) w' ∧ ∀ a, o = some a → (W0.alloc (.cells (madeCells #[.bool false] 200) 4)).heap.size ≤ a.block) := HC0.out.names HW.out.1 (by have := HW.out.2.2.1; omega) HKN.out.1 HKN.out.2
      clear hN hH hkn hhn hcn hcnt hcl hla hep hled HLED hB1 hT hW
      go_wp2_with (go_at_call 16; refine NA.out.mono ?_; rintro e w5 ⟨o5, c5, rfl, hr, hA, hB, hu⟩; have HRWn : Hid (TxtRow w5 (.slice o5 kn c5) (srt ks) ∧ (∀ a, o5 = some a → W0.heap.size < a.block) ∧ CurT w1.heap.size tb mn mh mk who cb S w w5) := ⟨hr, fun a ha => by have := hu a ha; simp at this; omega, hA⟩; have HM5 : Hid (MR w5 w5 W0.heap.size (Seen S false (srt ks) 0)) := (MR.start W0 hB).weak (fun m hm => hm.elim); clear hr hA hB hu)
      go_loopw [39] (fun q wr => ∃ i : Nat, i ≤ kn ∧ q = .int .i64 (i : Int) ∧ MR w5 wr W0.heap.size (Seen S false (srt ks) i)) (fun q _ => kn - (intOf q).toNat)
      case atStart => exact ⟨0, Nat.zero_le _, rfl, HM5.out⟩
      case round =>
        obtain ⟨i, hi, rfl, hmr⟩ := hrel
        have HM := Lib.hid hmr
        by_cases hil : i < kn
        · have hil2 : i < (srt ks).length := by rw [srt_len]; have := HKN.out.2; omega
          obtain ⟨b, off, hob, hbl, hc⟩ := (hmr.row HRWn.out.1 HRWn.out.2.1).at_.2.2.2 i hil2
          have hgx : (srt ks)[i]? = some (srt ks)[i] := List.getElem?_eq_getElem hil2
          generalize (srt ks)[i] = x at hc hgx
          obtain ⟨n, c, hn1, hn2, hn3, hn4, hn5, hn6, hn7, hn8, hn9, hnA⟩ := row_fact HW.out.1 HW.out.2.2.1 HKN.out.1 hgx
          have FI : Hid (∀ W, Below wr.heap.size wr W → Calls Try.prog 18 #[.pointer (some ⟨tb, 0, none⟩), .string ⟨x.toArray⟩] W fun e w' => e = .returned (.int .i64 (n : Int)) ∧ Below W.heap.size W w') := fun W hb => CurT.find ((HM.out.low hb).cur HRWn.out.2.2 HGW.out.1 HGW.out.2) HW.out.1 x hn8 hn1
          have NM : Hid (∀ W, Below wr.heap.size wr W → Calls Try.prog 13 #[.pointer (some ⟨tb, 0, none⟩), .int .i64 (n : Int)] W fun e w' => e = .returned (.tuple #[.string ⟨x.toArray⟩, .bool false, .bool true]) ∧ Below W.heap.size W w') := fun W hb => CurT.name ((HM.out.low hb).cur HRWn.out.2.2 HGW.out.1 HGW.out.2) hn7 hn2 hn3 hn4 hn5
          have CE : Hid (∀ W, Below wr.heap.size wr W → W.cell? ⟨W0.heap.size, n, none⟩ = some (.bool false) ∧ W.frozen? ⟨W0.heap.size, n, none⟩ = false) := fun W hb => ⟨(HM.out.low hb).cell (by omega) (hn9), (HM.out.low hb).frozen n⟩
          have FN : Hid (∀ W, Below wr.heap.size wr W → MR w5 (W.setCell ⟨W0.heap.size, n, none⟩ (.bool true)) W0.heap.size (Seen S false (srt ks) (i + 1))) := fun W hb => (HM.out.low hb).set (by omega) (fun m hm => hnA m hm)
          have i3 : decide ((i : Int) < (kn : Int)) = true := by rw [decide_eq_true_eq]; omega
          have i4 : decide ((n : Int) < 1) = false := by rw [decide_eq_false_iff_not]; omega
          have i5 : decide ((200 : Int) ≤ (n : Int)) = false := by rw [decide_eq_false_iff_not]; omega
          have i6 : (n : Int) < 200 := by omega
          have i7 : n < 200 := by omega
          have hw1 : IntKind.i64.wrap ((i : Int) + 1) = (i : Int) + 1 := IntWalk.i64_in _ (by omega)
          have HI := Lib.hid hil
          unfold sv at hc
          subst hob
          clear hmr hn1 hn2 hn3 hn4 hn5 hn6 hn7 hn8 hn9 hnA hgx hil2 hi hbl
          go_wp2_with (first
            | (go_at_call 18; refine (FI.out _ (Below.refl _ _)).mono ?_; rintro e wf ⟨rfl, hB⟩; have HF := Lib.hid hB; clear hB)
            | (go_at_call 13; refine (NM.out _ HF.out).mono ?_; rintro e wn ⟨rfl, hB⟩; have hN := HF.out.trans (hB.mono HF.out.size); obtain ⟨e1, e2⟩ := CE.out _ hN; have HN2 := Lib.hid hN; clear hB hN))
          exact ⟨⟨i + 1, by have := HI.out; omega, by go_num, FN.out _ HN2.out⟩, by have := HI.out; simp [intOf]; omega⟩
        · obtain rfl : i = kn := by omega
          have i3 : decide ((i : Int) < (i : Int)) = false := by rw [decide_eq_false_iff_not]; omega
          clear hi hil hmr
          obtain ⟨wq1, rfl⟩ : ∃ q : World, q = wr := ⟨_, rfl⟩
          have HC1 : Hid (CurT w1.heap.size tb mn mh mk who cb S w wq1) := HM.out.cur HRWn.out.2.2 HGW.out.1 HGW.out.2
          have NH : Hid (Calls Try.prog 24 #[.pointer (some ⟨tb, 0, none⟩), .string ⟨#[42]⟩] wq1 fun e w' => ∃ o c, e = .returned (.slice o hn c) ∧ TxtRow w' (.slice o hn c) (srt hs) ∧ CurT w1.heap.size tb mn mh mk who cb S w w' ∧ Below wq1.heap.size wq1 w' ∧ ∀ a, o = some a → wq1.heap.size ≤ a.block) := HC1.out.hiddens HW.out.1 (by have := HW.out.2.2.1; omega) HKH.out.1 HKH.out.2
          have HKI := Lib.hid HKN.out.2
          go_wp2_with (go_at_call 24; refine NH.out.mono ?_; rintro e w6 ⟨o6, c6, rfl, hr, hA, hB, hu⟩; have HRWh : Hid (TxtRow w6 (.slice o6 hn c6) (srt hs) ∧ (∀ a, o6 = some a → W0.heap.size < a.block) ∧ CurT w1.heap.size tb mn mh mk who cb S w w6) := ⟨hr, fun a ha => Nat.lt_of_lt_of_le (Nat.lt_of_lt_of_le HM.out.lt HM.out.stp.fr.size) (hu a ha), hA⟩; have HM6 : Hid (MR w6 w6 W0.heap.size (fun n => (∃ x, S.nm false x = some n) ∨ Seen S true (srt hs) 0 n)) := ((HM.out.low hB).again.weak (fun m hm => by obtain ⟨j, x, _, _, h⟩ := hm; exact .inl ⟨x, h⟩)); clear hr hA hB hu)
          clear HM HC1 NH
          obtain ⟨kn, hkn⟩ : ∃ kn, kn = i := ⟨_, rfl⟩
          rw [← hkn] at HKN HCN hknb
          clear hkn HKI
          go_loopw [86] (fun q wr => ∃ i : Nat, i ≤ hn ∧ q = .int .i64 (i : Int) ∧ MR w6 wr W0.heap.size (fun n => (∃ x, S.nm false x = some n) ∨ Seen S true (srt hs) i n)) (fun q _ => hn - (intOf q).toNat)
          case atStart => exact ⟨0, Nat.zero_le _, rfl, HM6.out⟩
          case round =>
            obtain ⟨i, hi, rfl, hmr⟩ := hrel
            have HM := Lib.hid hmr
            by_cases hil : i < hn
            · have hil2 : i < (srt hs).length := by rw [srt_len]; have := HKH.out.2; omega
              obtain ⟨b, off, hob, hbl, hc⟩ := (hmr.row HRWh.out.1 HRWh.out.2.1).at_.2.2.2 i hil2
              have hgx : (srt hs)[i]? = some (srt hs)[i] := List.getElem?_eq_getElem hil2
              generalize (srt hs)[i] = x at hc hgx
              obtain ⟨n, c, hn1, hn2, hn3, hn4, hn5, hn6, hn7, hn8, hn9, hnA⟩ := row_fact HW.out.1 HW.out.2.2.1 HKH.out.1 hgx
              have FI : Hid (∀ W, Below wr.heap.size wr W → Calls Try.prog 21 #[.pointer (some ⟨tb, 0, none⟩), .string ⟨x.toArray⟩] W fun e w' => e = .returned (.int .i64 (n : Int)) ∧ Below W.heap.size W w') := fun W hb => CurT.findHidden ((HM.out.low hb).cur HRWh.out.2.2 HGW.out.1 HGW.out.2) HW.out.1 x hn8 hn1
              have NM : Hid (∀ W, Below wr.heap.size wr W → Calls Try.prog 13 #[.pointer (some ⟨tb, 0, none⟩), .int .i64 (n : Int)] W fun e w' => e = .returned (.tuple #[.string ⟨x.toArray⟩, .bool true, .bool true]) ∧ Below W.heap.size W w') := fun W hb => CurT.name ((HM.out.low hb).cur HRWh.out.2.2 HGW.out.1 HGW.out.2) hn7 hn2 hn3 hn4 hn5
              have CE : Hid (∀ W, Below wr.heap.size wr W → W.cell? ⟨W0.heap.size, n, none⟩ = some (.bool false) ∧ W.frozen? ⟨W0.heap.size, n, none⟩ = false) := fun W hb => ⟨(HM.out.low hb).cell (by omega) (fun h => by rcases h with ⟨y, hy⟩ | h; exact two_kinds HW.out.1 hy hn1; exact hn9 h), (HM.out.low hb).frozen n⟩
              have FN : Hid (∀ W, Below wr.heap.size wr W → MR w6 (W.setCell ⟨W0.heap.size, n, none⟩ (.bool true)) W0.heap.size (fun n => (∃ x, S.nm false x = some n) ∨ Seen S true (srt hs) (i + 1) n)) := fun W hb => (HM.out.low hb).set (by omega) (fun m hm => by rcases hm with rfl | hm | hm; exact .inr (hnA _ (.inl rfl)); exact .inl hm; exact .inr (hnA _ (.inr hm)))
              have i3 : decide ((i : Int) < (hn : Int)) = true := by rw [decide_eq_true_eq]; omega
              have i4 : decide ((n : Int) < 1) = false := by rw [decide_eq_false_iff_not]; omega
              have i5 : decide ((200 : Int) ≤ (n : Int)) = false := by rw [decide_eq_false_iff_not]; omega
              have i6 : (n : Int) < 200 := by omega
              have i7 : n < 200 := by omega
              have hw1 : IntKind.i64.wrap ((i : Int) + 1) = (i : Int) + 1 := IntWalk.i64_in _ (by omega)
              have HI := Lib.hid hil
              unfold sv at hc
              subst hob
              clear hmr hn1 hn2 hn3 hn4 hn5 hn6 hn7 hn8 hn9 hnA hgx hil2 hi hbl
              go_wp2_with (first
                | (go_at_call 21; refine (FI.out _ (Below.refl _ _)).mono ?_; rintro e wf ⟨rfl, hB⟩; have HF := Lib.hid hB; clear hB)
                | (go_at_call 13; refine (NM.out _ HF.out).mono ?_; rintro e wn ⟨rfl, hB⟩; have hN := HF.out.trans (hB.mono HF.out.size); obtain ⟨e1, e2⟩ := CE.out _ hN; have HN2 := Lib.hid hN; clear hB hN))
              exact ⟨⟨i + 1, by have := HI.out; omega, by go_num, FN.out _ HN2.out⟩, by have := HI.out; simp [intOf]; omega⟩
            · obtain rfl : i = hn := by omega
              have i3 : decide ((i : Int) < (i : Int)) = false := by rw [decide_eq_false_iff_not]; omega
              clear hi hil hmr
              obtain ⟨wq2, rfl⟩ : ∃ q : World, q = wr := ⟨_, rfl⟩
              have HC2 : Hid (CurT w1.heap.size tb mn mh mk who cb S w wq2) := HM.out.cur HRWh.out.2.2 HGW.out.1 HGW.out.2
              have NA2 : Hid (∀ W, CurT w1.heap.size tb mn mh mk who cb S w W → Calls Try.prog 16 #[.pointer (some ⟨tb, 0, none⟩), .string ⟨#[42]⟩] W fun e w' => ∃ o c, e = .returned (.slice o kn c) ∧ CurT w1.heap.size tb mn mh mk who cb S w w') := fun W h => (h.names HW.out.1 (by have := HW.out.2.2.1; omega) HKN.out.1 HKN.out.2).mono fun e w' ⟨o, c, he, _, hA, _⟩ => ⟨o, c, he, hA⟩
              have NH2 : Hid (∀ W, CurT w1.heap.size tb mn mh mk who cb S w W → Calls Try.prog 24 #[.pointer (some ⟨tb, 0, none⟩), .string ⟨#[42]⟩] W fun e w' => ∃ o c, e = .returned (.slice o i c) ∧ CurT w1.heap.size tb mn mh mk who cb S w w') := fun W h => (h.hiddens HW.out.1 (by have := HW.out.2.2.1; omega) HKH.out.1 HKH.out.2).mono fun e w' ⟨o, c, he, _, hA, _⟩ => ⟨o, c, he, hA⟩
              have CO2 : Hid (∀ W, CurT w1.heap.size tb mn mh mk who cb S w W → Calls Try.prog 11 #[.pointer (some ⟨tb, 0, none⟩)] W fun e w' => e = .returned (.int .i64 (cn : Int)) ∧ W = w') := fun W h => h.count HW.out.1 HCN.out.1
              have hsum : kn + i = cn := HCN.out.2
              have hwS : IntKind.i64.wrap ((kn : Int) + (i : Int)) = (cn : Int) := by rw [IntWalk.i64_in _ (by omega)]; omega
              clear hsum
              go_wp2_with (first
                | (go_at_call 16; refine (NA2.out _ HC2.out).mono ?_; rintro e wx ⟨oo, cc, rfl, hA⟩; clear HC2; have HC2 := Lib.hid hA; clear hA)
                | (go_at_call 24; refine (NH2.out _ HC2.out).mono ?_; rintro e wx ⟨oo, cc, rfl, hA⟩; clear HC2; have HC2 := Lib.hid hA; clear hA)
                | (go_at_call 11; refine (CO2.out _ HC2.out).mono ?_; rintro e wx ⟨rfl, rfl⟩)
                | (go_at_call 7; refine (AW.out _).mono ?_; rintro e wG ⟨rfl, hB⟩; have HGo := Lib.hid (HC2.out.2.trans (hB.mono HC2.out.2.size)); clear hB))
              go_ret
              exact ⟨rfl, HGo.out⟩
theorem nam_any (l : List ActV) (ao : Option Addr) (cap : Nat) (hl : l.length ≤ 9223372036854775807) (hok : ∀ x ∈ l, AOk x) (w : World) (hR : ARow w.heap.size w ao l) :
    Calls Try.prog 5 #[.slice ao l.length cap] w fun e w' => e = .returned (.bool true) ∧ Below w.heap.size w w' := by
  by_cases h1 : lightB l = true
  · exact nam_yes l ao cap h1 hok w hR
  · exact nam_not l ao cap hl hok w hR (by simpa using h1)
end Go.Proofs.Ytbbbenjakjejmaa
