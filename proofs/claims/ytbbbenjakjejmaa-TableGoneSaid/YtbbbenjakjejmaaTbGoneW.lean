/- The walk of 'TableGone'. -/
import Derived.Test.YtbbbenjakjejmaaTbPlayA
import Derived.Deep.RegionWith
namespace Go.Proofs.Ytbbbenjakjejmaa
set_option linter.unusedVariables false
set_option linter.unusedSimpArgs false
open Go.RowKit Go.MapKept Go.WideMaps
theorem light_len {l : List ActV} (h : lightB l = true) : l.length ≤ 60 ∧ ∀ x ∈ l, x.s.length ≤ 1500 ∧ x.t.length ≤ 1500 := by
  unfold lightB at h
  simp only [Bool.and_eq_true, decide_eq_true_eq] at h
  refine ⟨h.1, fun x hx => ?_⟩
  have := sumA_mem hx
  omega
def boxX (x : ActV) : Obj := .cells #[.int .i64 x.k, .int .i64 x.a, .string ⟨x.s.toArray⟩, .string ⟨x.t.toArray⟩] 28
theorem boxX_cells {w : World} {b : Nat} {x : ActV} (h : w.heap[b]? = some (boxX x)) : w.cell? ⟨b, 0, none⟩ = some (.int .i64 x.k) ∧ w.cell? ⟨b, 1, none⟩ = some (.int .i64 x.a) ∧ w.cell? ⟨b, 2, none⟩ = some (.string ⟨x.s.toArray⟩) ∧ w.cell? ⟨b, 3, none⟩ = some (.string ⟨x.t.toArray⟩) := by
  unfold boxX at h
  refine ⟨?_, ?_, ?_, ?_⟩ <;> simp [World.cell?, h]
/-- A row of numbers, read. -/
theorem IR.at_ {w : World} {B : Nat} {who : Own} {o : Option Addr} {n c : Nat} {zs : List Int} (h : IR w B who (.slice o n c) zs) (hn : n = zs.length) : ∀ i (hi : i < zs.length), ∃ b, o = some ⟨b, 0, none⟩ ∧ w.cell? ⟨b, i, none⟩ = some (.int .i64 zs[i]) := fun i hi => by
  subst hn
  obtain ⟨g, c', e, _⟩ := row_some h.own (by omega)
  have hc := h.own
  rw [e] at hc
  have := hc.cellAt i (by omega)
  rw [List.getElem?_map, List.getElem?_eq_getElem hi] at this
  injection e with e1 e2 e3
  exact ⟨g, e1, by simpa using this⟩
theorem gone_not (l : List ActV) (ao : Option Addr) (cap : Nat) (hl : l.length ≤ 9223372036854775807) (hok : ∀ x ∈ l, AOk x) (s : Bs) (w : World) (hR : ARow w.heap.size w ao l) (h : lightB l = false ∨ 100 < s.length) (hp : s.length ≤ 140737488355328) :
    Calls Try.prog 3 #[.slice ao l.length cap, .string ⟨s.toArray⟩] w fun e w' => e = .returned (.bool true) ∧ Below w.heap.size w w' := by
  have LI := Lib.hid (light_any l ao cap hl hok w hR)
  have AW := Lib.hid (fun W => awake_any W)
  generalize l.length = n at *
  clear hR hl hok
  cases hb : lightB l with
  | false =>
    rw [hb] at LI
    clear h hp hb
    go_enter Try.func3, Try.ntmps3
    go_wp2_with (first | (go_at_call 6; refine LI.out.mono ?_; rintro e w1 ⟨rfl, hB⟩; have H1 := Lib.hid hB; clear hB) | (go_at_call 7; refine (AW.out _).mono ?_; rintro e w2 ⟨rfl, hB⟩; have H2 := Lib.hid (H1.out.trans (hB.mono H1.out.size)); clear hB))
    go_ret
    exact ⟨rfl, H2.out⟩
  | true =>
    rw [hb] at LI h
    have hpl : 100 < s.length := by rcases h with h | h; cases h; exact h
    have t1 : decide ((100 : Int) < (s.length : Int)) = true := by rw [decide_eq_true_eq]; omega
    have t2 : decide (100 < s.length) = true := by rw [decide_eq_true_eq]; omega
    clear h hb
    go_enter Try.func3, Try.ntmps3
    go_wp2_with (first | (go_at_call 6; refine LI.out.mono ?_; rintro e w1 ⟨rfl, hB⟩; have H1 := Lib.hid hB; clear hB) | (go_at_call 7; refine (AW.out _).mono ?_; rintro e w2 ⟨rfl, hB⟩; have H2 := Lib.hid (H1.out.trans (hB.mono H1.out.size)); clear hB))
    go_ret
    exact ⟨rfl, H2.out⟩
set_option maxRecDepth 100000 in
set_option maxHeartbeats 3200000 in
theorem gone_yes (l : List ActV) (ao : Option Addr) (cap : Nat) (hlt : lightB l = true) (hok : ∀ x ∈ l, AOk x) (s : Bs) (hp : s.length ≤ 100) (w : World) (hR : ARow w.heap.size w ao l) :
    Calls Try.prog 3 #[.slice ao l.length cap, .string ⟨s.toArray⟩] w fun e w' => e = .returned (.bool true) ∧ Below w.heap.size w w' := by
  obtain ⟨hl60, hlen⟩ := light_len hlt
  have LI : Hid (Calls Try.prog 6 #[.slice ao l.length cap] w fun e w' => e = .returned (.bool true) ∧ Below w.heap.size w w') := by
    have := light_any l ao cap (by omega) hok w hR
    rw [hlt] at this
    exact this
  have AW := Lib.hid (fun W => awake_any W)
  have NW := Lib.hid (fun W => tNew_any W)
  have HR := Lib.hid hR
  have HL := Lib.hid (And.intro hlen hok)
  obtain ⟨N, hN⟩ : ∃ N, l.length = N := ⟨_, rfl⟩
  have HN := Lib.hid hN
  rw [hN] at LI hl60 ⊢
  have t1 : decide ((100 : Int) < (s.length : Int)) = false := by rw [decide_eq_false_iff_not]; omega
  have t2 : decide (100 < s.length) = false := by rw [decide_eq_false_iff_not]; omega
  clear hR hlt hN hlen hok
  go_enter Try.func3, Try.ntmps3
  go_wp2_with (first | (go_at_call 6; refine LI.out.mono ?_; rintro e w1 ⟨rfl, hB⟩; have H1 := Lib.hid hB; clear hB) | (go_at_call 8; refine (NW.out _).mono ?_; rintro e w2 ⟨tb, mn, mh, mk, who0, cb0, rfl, hT, hB⟩; have H2 : Hid (Led w1 w1.heap.size tb mn mh mk 0 w2) := ⟨⟨newT, who0, cb0, wf_new, Nat.le_refl _, Nat.le_refl _, hT⟩, hB⟩; clear hT hB))
  go_loopw [32] (fun i wr => ∃ k : Nat, k ≤ N ∧ i = .int .i64 (k : Int) ∧ Led w1 w1.heap.size tb mn mh mk k wr) (fun i _ => N - (intOf i).toNat)
  case atStart => exact ⟨0, Nat.zero_le _, rfl, H2.out⟩
  case round =>
    obtain ⟨k, hk, rfl, hled⟩ := hrel
    have HLED := Lib.hid hled
    have hB1 : Below w.heap.size w wr := H1.out.trans (hled.below.mono H1.out.size)
    by_cases hlt : k < N
    · have hkl : k < l.length := by have := HN.out; omega
      obtain ⟨b, off, rfl, hbl, hc⟩ := HR.out (by intro h; rw [h] at hkl; simp at hkl)
      obtain ⟨c0, c1, c2, c3⟩ := hc k hkl
      have d0 := (hB1.cell (p := ⟨b, _, none⟩) hbl).trans c0
      have d1 := (hB1.cell (p := ⟨b, _, none⟩) hbl).trans c1
      have d2 := (hB1.cell (p := ⟨b, _, none⟩) hbl).trans c2
      have d3 := (hB1.cell (p := ⟨b, _, none⟩) hbl).trans c3
      have hxl := HL.out.1 l[k] (List.getElem_mem _)
      have hxo := HL.out.2 l[k] (List.getElem_mem _)
      generalize l[k] = x at *
      have HPL : Hid (∀ W yb, LedY w1 w1.heap.size tb mn mh mk k yb W → Calls Try.prog 9 #[.pointer (some ⟨tb, 0, none⟩), .pointer (some ⟨yb, 0, none⟩), .agg #[.int .i64 x.k, .int .i64 x.a, .string ⟨x.s.toArray⟩, .string ⟨x.t.toArray⟩]] W fun e w' => (∃ q, e = .returned (.bool q)) ∧ Led w1 w1.heap.size tb mn mh mk (k + 1) w') := fun W yb h => h.play (by omega) x.k x.a hxo.2.1 x.s x.t (by omega) (by omega)
      have HY : Hid (∀ W, Below wr.heap.size wr W → Calls Try.prog 10 #[] W fun e w' => ∃ yb, e = .returned (.pointer (some ⟨yb, 0, none⟩)) ∧ LedY w1 w1.heap.size tb mn mh mk k yb w' ∧ Below W.heap.size W w') := fun W hb => (HLED.out.low hb).new
      have HBX : Hid (∀ W, Below (wr.heap.size + 1) (wr.alloc (boxX x)) W → W.cell? ⟨wr.heap.size, 0, none⟩ = some (.int .i64 x.k) ∧ W.cell? ⟨wr.heap.size, 1, none⟩ = some (.int .i64 x.a) ∧ W.cell? ⟨wr.heap.size, 2, none⟩ = some (.string ⟨x.s.toArray⟩) ∧ W.cell? ⟨wr.heap.size, 3, none⟩ = some (.string ⟨x.t.toArray⟩)) := fun W hb => boxX_cells ((hb.block wr.heap.size (by omega)).trans (heap_alloc_new wr (boxX x)))
      have hw1 : IntKind.i64.wrap ((k : Int) + 1) = (k : Int) + 1 := IntWalk.i64_in _ (by omega)
      unfold boxX at HBX
      obtain ⟨xk, xa, xs, xt⟩ := x
      simp only at d0 d1 d2 d3 HBX HPL
      have i1 : k < N := hlt
      have HK := Lib.hid hlt
      clear c0 c1 c2 c3 hc hk hkl hlt hled hB1 hxl hxo
      go_wp2_with fail
      obtain ⟨e0, e1, e2, e3⟩ := HBX.out _ (Below.refl _ _)
      go_region_with (first | (go_at_call 10; refine (HY.out _ (by exact ((Below.refl _ wr).alloc (Nat.le_refl _) _).drew)).mono ?_; rintro e w5 ⟨yb, rfl, h2, hB⟩; obtain ⟨r0, r1, r2, r3⟩ := HBX.out w5 (((Below.refl _ _).drew).trans (hB.mono (by simp))); have H5 := Lib.hid h2; clear h2 hB) | (go_at_call 9; refine (HPL.out _ _ H5.out).mono ?_; rintro e w6 ⟨⟨bb, rfl⟩, hled⟩; have H6 := Lib.hid hled; clear hled))
      all_goals
        go_wp2_with fail
        exact ⟨⟨k + 1, by have := HK.out; omega, by go_num, H6.out⟩, by have := HK.out; simp [intOf]; omega⟩
    · have i1 : decide ((k : Int) < (N : Int)) = false := by rw [decide_eq_false_iff_not]; omega
      obtain ⟨S, who, cb, hW, hla, hep, hT⟩ := hled.ex
      have HB : Hid (Below w.heap.size w wr) := hB1
      have HW := Lib.hid (And.intro hW (And.intro hT (And.intro (show S.last ≤ 60 by omega) (show S.epoch ≤ 60 by omega))))
      have HLO := Lib.hid (And.intro H1.out.size (And.intro hT.base (fun j hj => (hT.lo j hj).1)))
      have CO : Hid (Calls Try.prog 11 #[.pointer (some ⟨tb, 0, none⟩)] wr fun e w' => e = .returned (.int .i64 (S.cnt : Int)) ∧ wr = w') := Count_any hT hW
      have DE := Lib.hid (Delete_any hT hW (by omega) (by omega) s (by omega))
      have hcl := S.cnt_le
      cases hn : S.nm false s with
      | none =>
        have DE2 : Hid (Calls Try.prog 12 #[.pointer (some ⟨tb, 0, none⟩), .string ⟨s.toArray⟩] wr fun e w' => ∃ o c, e = .returned (.tuple #[.slice o 0 c, .int .i64 8]) ∧ Tb w' w1.heap.size tb mn mh mk who cb S ∧ Below w1.heap.size wr w') := DE.out.mono fun e w' ⟨r, o, c, S', L, he, hD, hT2, _, hS⟩ => by
          rcases hD with ⟨_, rfl, rfl, rfl⟩ | ⟨n, h1, _⟩
          · exact ⟨o, c, he, hT2, low_stp HW.out.2.1 hS⟩
          · rw [hn] at h1; cases h1
        have CO2 : Hid (∀ W, Tb W w1.heap.size tb mn mh mk who cb S → Calls Try.prog 11 #[.pointer (some ⟨tb, 0, none⟩)] W fun e w' => e = .returned (.int .i64 (S.cnt : Int)) ∧ W = w') := fun W h => Count_any h HW.out.1
        generalize S.cnt = cn at *
        clear hW hT hla hep hled hB1 hn DE HLED
        go_wp2_with (first
          | (go_at_call 11; refine CO.out.mono ?_; rintro e wc ⟨rfl, rfl⟩)
          | (go_at_call 12; refine DE2.out.mono ?_; rintro e w3 ⟨o, c, rfl, hT3, hB3⟩; have H3 := Lib.hid (And.intro hT3 hB3); clear hT3 hB3)
          | (go_at_call 11; refine (CO2.out _ H3.out.1).mono ?_; rintro e wc ⟨rfl, rfl⟩)
          | (go_at_call 7; refine (AW.out _).mono ?_; rintro e wG ⟨rfl, hB⟩; have HGo := Lib.hid (HB.out.trans ((H3.out.2.mono HLO.out.1).trans (hB.mono (Nat.le_trans HB.out.size H3.out.2.size)))); clear hB))
        go_ret
        exact ⟨rfl, HGo.out⟩
      | some n =>
        have DE2 : Hid (Calls Try.prog 12 #[.pointer (some ⟨tb, 0, none⟩), .string ⟨s.toArray⟩] wr fun e w' => ∃ o c S3 L, e = .returned (.tuple #[.slice o L.length c, .int .i64 0]) ∧ Gone { S with epoch := S.epoch + 1 } n L S3 ∧ Tb w' w1.heap.size tb mn mh mk who cb S3 ∧ IR w' w1.heap.size who (.slice o L.length c) (srtI (L.map (fun k : Nat => (k : Int)))) ∧ Below w1.heap.size wr w') := DE.out.mono fun e w' ⟨r, o, c, S', L, he, hD, hT2, hI, hS⟩ => by
          rcases hD with ⟨h1, _⟩ | ⟨n', h1, rfl, g⟩
          · rw [hn] at h1; cases h1
          · rw [hn] at h1
            cases h1
            exact ⟨o, c, S', L, he, g, hT2, hI, low_stp HW.out.2.1 hS⟩
        have HNM := Lib.hid hn
        clear hW hT hep hled hB1 hn DE HLED
        obtain ⟨cn, hcn⟩ : ∃ cn, S.cnt = cn := ⟨_, rfl⟩
        have HCN := Lib.hid hcn
        rw [hcn] at CO hcl
        clear hcn
        go_wp2_with (first
          | (go_at_call 11; refine CO.out.mono ?_; rintro e wc ⟨rfl, rfl⟩)
          | (go_at_call 12; refine DE2.out.mono ?_; rintro e w3 ⟨o, c, S3, L, rfl, hG, hT3, hI, hB3⟩; have H3 := Lib.hid (And.intro hG (And.intro hT3 (And.intro hI hB3))); clear hG hT3 hI hB3))
        have hzl : (srtI (L.map (fun k : Nat => (k : Int)))).length = L.length := by rw [srtI_len, List.length_map]
        have hzm : ∀ z ∈ srtI (L.map (fun k : Nat => (k : Int))), S3.num z = none ∧ (Lit.int .i64 z).wf = true ∧ z ≤ (S3.last : Int) := fun z hz => by
          obtain ⟨k', hk', rfl⟩ := List.mem_map.1 ((srtI_perm _).mem_iff.1 hz)
          obtain ⟨d, hd⟩ := H3.out.1.was k' hk'
          have h1 := (HW.out.1.pos k' d hd).2
          have h2 := H3.out.1.cm k'
          rw [if_pos hk'] at h2
          have h3 : S3.last = S.last := H3.out.1.last
          have h4 := HW.out.2.2.1
          exact ⟨by simp [TS.num, h2], nat_wf (by omega), by omega⟩
        have hIR := H3.out.2.2.1
        obtain ⟨zs, hzs⟩ : ∃ zs, srtI (L.map (fun k : Nat => (k : Int))) = zs := ⟨_, rfl⟩
        rw [hzs] at hzl hzm hIR
        have hcg0 := H3.out.1.cnt (wf_epoch HW.out.1 (S.epoch + 1))
        have hcg : S3.cnt + L.length = S.cnt := hcg0
        rw [HCN.out] at hcg
        have hl3 : S3.last ≤ 60 := by have h3 : S3.last = S.last := H3.out.1.last; have := HW.out.2.2.1; omega
        have he3 : S3.epoch ≤ 61 := by have h3 : S3.epoch = S.epoch + 1 := H3.out.1.epoch; have := HW.out.2.2.2; omega
        have hn3 : S3.nm false s = none := H3.out.1.none_nm HNM.out
        have DF : Hid (Calls Try.prog 15 #[.pointer (some ⟨tb, 0, none⟩), .string ⟨s.toArray⟩] w3 fun e w' => ∃ who' cb' o' c', e = .returned (.tuple #[.int .i64 ((S3.last + 1 : Nat) : Int), .slice o' 0 c']) ∧ Tb w' w1.heap.size tb mn mh mk who' cb' (addT S3 s 0) ∧ Stp who who' w3 w') := (Define_any H3.out.2.1 H3.out.1.wf (by omega) (by omega) s (by omega)).mono fun e w' ⟨who', cb', o', c', S4, L4, he, hA, hT4, _, hS⟩ => by
          rcases hA with ⟨_, rfl, rfl⟩ | ⟨n', S1', h1, _⟩
          · exact ⟨who', cb', o', c', he, hT4, hS⟩
          · rw [hn3] at h1; cases h1
        have CO4 : Hid (∀ W who' cb', Tb W w1.heap.size tb mn mh mk who' cb' (addT S3 s 0) → Calls Try.prog 11 #[.pointer (some ⟨tb, 0, none⟩)] W fun e w' => e = .returned (.int .i64 ((S3.cnt + 1 : Nat) : Int)) ∧ W = w') := fun W who' cb' h => by
          have := Count_any h (wf_addT H3.out.1.wf (by omega) hn3 (.inl rfl))
          rw [cnt_addT H3.out.1.wf (by omega) hn3 (.inl rfl)] at this
          exact this
        have NI : Hid (∀ z, S3.num z = none → (Lit.int .i64 z).wf = true → (Calls Try.prog 13 #[.pointer (some ⟨tb, 0, none⟩), .int .i64 z] w3 fun e w' => e = .returned (.tuple #[.string ⟨#[]⟩, .bool false, .bool false]) ∧ w3 = w') ∧ (Calls Try.prog 14 #[.pointer (some ⟨tb, 0, none⟩), .int .i64 z] w3 fun e w' => e = .returned (.slice none 0 0) ∧ w3 = w')) := fun z h1 h2 => ⟨Name_none H3.out.2.1 h2 h1, Imports_none H3.out.2.1 h2 h1⟩
        obtain ⟨gl, hgl⟩ : ∃ gl, L.length = gl := ⟨_, rfl⟩
        obtain ⟨nx, hnx⟩ : ∃ nx, S3.last + 1 = nx := ⟨_, rfl⟩
        obtain ⟨c4, hc4⟩ : ∃ c4, S3.cnt + 1 = c4 := ⟨_, rfl⟩
        have HZ : Hid (zs.length = gl ∧ (∀ z ∈ zs, S3.num z = none ∧ (Lit.int .i64 z).wf = true ∧ z < (nx : Int)) ∧ IR w3 w1.heap.size who (.slice o gl c) zs ∧ Below w1.heap.size wr w3) := by
          rw [← hgl]
          refine ⟨hzl, fun z hz => ?_, hIR, H3.out.2.2.2⟩
          obtain ⟨q1, q2, q3⟩ := hzm z hz
          exact ⟨q1, q2, by omega⟩
        have hsum : c4 + gl = cn + 1 := by omega
        rw [hnx] at DF
        rw [hc4] at CO4
        rw [hgl]
        clear hzl hzm hIR hzs hcg hcg0 hl3 he3 hn3 hgl hnx hc4
        have hgb : gl ≤ 100 := by omega
        go_loopw [60] (fun q wq => ∃ i : Nat, i ≤ gl ∧ q = .int .i64 (i : Int) ∧ wq = w3) (fun q _ => gl - (intOf q).toNat)
        case atStart => exact ⟨0, Nat.zero_le _, rfl, rfl⟩
        case round =>
          obtain ⟨i, hi, rfl, rfl⟩ := hrel
          by_cases hil : i < gl
          · have hiz : i < zs.length := by have := HZ.out.1; omega
            obtain ⟨b, rfl, hc⟩ := HZ.out.2.2.1.at_ HZ.out.1.symm i hiz
            obtain ⟨z1, z2, z3⟩ := HZ.out.2.1 zs[i] (List.getElem_mem _)
            generalize zs[i] = z at *
            have NI2 := Lib.hid (NI.out z z1 z2)
            have i3 : decide ((i : Int) < (gl : Int)) = true := by rw [decide_eq_true_eq]; omega
            have hw1 : IntKind.i64.wrap ((i : Int) + 1) = (i : Int) + 1 := IntWalk.i64_in _ (by omega)
            have HI := Lib.hid hil
            clear z1 z2 z3 hi hiz
            go_wp2_with (first
              | (go_at_call 13; refine NI2.out.1.mono ?_; rintro e wn ⟨rfl, rfl⟩)
              | (go_at_call 14; refine NI2.out.2.mono ?_; rintro e wn ⟨rfl, rfl⟩))
            exact ⟨⟨i + 1, by have := HI.out; omega, by go_num, by first | rfl | trivial⟩, by have := HI.out; simp [intOf]; omega⟩
          · obtain rfl : i = gl := by omega
            have i3 : decide ((i : Int) < (i : Int)) = false := by rw [decide_eq_false_iff_not]; omega
            clear hi hil
            go_wp2_with (go_at_call 15; refine DF.out.mono ?_; rintro e w4 ⟨who4, cb4, o4, c5, rfl, hT4, hS4⟩; have H4 := Lib.hid (And.intro hT4 hS4); clear hT4 hS4)
            go_loopw [88] (fun q wq => ∃ j : Nat, j ≤ i ∧ q = .int .i64 (j : Int) ∧ wq = w4) (fun q _ => i - (intOf q).toNat)
            case atStart => exact ⟨0, Nat.zero_le _, rfl, rfl⟩
            case round =>
              obtain ⟨j, hj, rfl, rfl⟩ := hrel
              by_cases hjl : j < i
              · have hjz : j < zs.length := by have := HZ.out.1; omega
                obtain ⟨b, rfl, hc⟩ := (HZ.out.2.2.1.stp H4.out.2).at_ HZ.out.1.symm j hjz
                obtain ⟨z1, z2, z3⟩ := HZ.out.2.1 zs[j] (List.getElem_mem _)
                generalize zs[j] = z at *
                have j3 : decide ((j : Int) < (i : Int)) = true := by rw [decide_eq_true_eq]; omega
                have j4 : decide ((nx : Int) ≤ z) = false := by rw [decide_eq_false_iff_not]; omega
                have hw1 : IntKind.i64.wrap ((j : Int) + 1) = (j : Int) + 1 := IntWalk.i64_in _ (by omega)
                have HJ := Lib.hid hjl
                clear z1 z2 z3 hj hjz
                go_wp2_with fail
                exact ⟨⟨j + 1, by have := HJ.out; omega, by go_num, by first | rfl | trivial⟩, by have := HJ.out; simp [intOf]; omega⟩
              · obtain rfl : j = i := by omega
                have j3 : decide ((j : Int) < (j : Int)) = false := by rw [decide_eq_false_iff_not]; omega
                have hwA : IntKind.i64.wrap ((cn : Int) - (j : Int)) = (cn : Int) - (j : Int) := IntWalk.i64_in _ (by omega)
                have hwB : IntKind.i64.wrap ((cn : Int) - (j : Int) + 1) = (c4 : Int) := by rw [IntWalk.i64_in _ (by omega)]; omega
                clear hj hjl hsum
                go_wp2_with (first
                  | (go_at_call 11; refine (CO4.out _ _ _ H4.out.1).mono ?_; rintro e wc ⟨rfl, rfl⟩)
                  | (go_at_call 7; refine (AW.out _).mono ?_; rintro e wG ⟨rfl, hB⟩; have HGo := Lib.hid (HB.out.trans ((((HZ.out.2.2.2.trans (H4.out.2.below (Nat.le_trans HLO.out.2.1 HZ.out.2.2.2.size) HLO.out.2.2)).mono HLO.out.1)).trans (hB.mono (Nat.le_trans HB.out.size (Nat.le_trans HZ.out.2.2.2.size H4.out.2.fr.size))))); clear hB))
                go_ret
                exact ⟨rfl, HGo.out⟩
theorem gone_any (l : List ActV) (ao : Option Addr) (cap : Nat) (hl : l.length ≤ 9223372036854775807) (hok : ∀ x ∈ l, AOk x) (s : Bs) (hp : s.length ≤ 140737488355328) (w : World) (hR : ARow w.heap.size w ao l) :
    Calls Try.prog 3 #[.slice ao l.length cap, .string ⟨s.toArray⟩] w fun e w' => e = .returned (.bool true) ∧ Below w.heap.size w w' := by
  by_cases h1 : lightB l = true
  · by_cases h2 : s.length ≤ 100
    · exact gone_yes l ao cap h1 hok s h2 w hR
    · exact gone_not l ao cap hl hok s w hR (.inr (by omega)) hp
  · exact gone_not l ao cap hl hok s w hR (.inl (by simpa using h1)) hp
end Go.Proofs.Ytbbbenjakjejmaa
