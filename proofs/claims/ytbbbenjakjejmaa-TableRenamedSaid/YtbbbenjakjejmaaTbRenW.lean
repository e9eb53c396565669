/- The walk of 'TableRenamed'. -/
import Derived.Test.YtbbbenjakjejmaaTbRenP
import Derived.Deep.RegionWith
namespace Go.Proofs.Ytbbbenjakjejmaa
set_option linter.unusedVariables false
set_option linter.unusedSimpArgs false
open Go.RowKit Go.MapKept Go.WideMaps
theorem light_len {l : List ActV} (h : lightB l = true) : l.length ≤ 60 ∧ ∀ x ∈ l, x.s.length ≤ 1500 ∧ x.t.length ≤ 1500 := by
  unfold lightB at h
  simp only [Bool.and_eq_true, decide_eq_true_eq] at h
  refine ⟨h.1, fun x hx => ?_⟩
  have := sumA_mem hx
  omega
def boxX (x : ActV) : Obj := .cells #[.int .i64 x.k, .int .i64 x.a, .string ⟨x.s.toArray⟩, .string ⟨x.t.toArray⟩] 28
theorem boxX_cells {w : World} {b : Nat} {x : ActV} (h : w.heap[b]? = some (boxX x)) : w.cell? ⟨b, 0, none⟩ = some (.int .i64 x.k) ∧ w.cell? ⟨b, 1, none⟩ = some (.int .i64 x.a) ∧ w.cell? ⟨b, 2, none⟩ = some (.string ⟨x.s.toArray⟩) ∧ w.cell? ⟨b, 3, none⟩ = some (.string ⟨x.t.toArray⟩) := by
  unfold boxX at h
  refine ⟨?_, ?_, ?_, ?_⟩ <;> simp [World.cell?, h]
theorem low_stp2 {B tb mn mh mk : Nat} {who : Own} {cb : Nat → Nat} {S : TS} {w w1 w2 : World} (h : Tb w B tb mn mh mk who cb S) (hb : Below w.heap.size w w1) (hs : Stp who who w1 w2) : Below B w1 w2 := hs.below (Nat.le_trans h.base hb.size) (fun j hj => (h.lo j hj).1)
theorem ren_not (l : List ActV) (ao : Option Addr) (cap : Nat) (hl : l.length ≤ 9223372036854775807) (hok : ∀ x ∈ l, AOk x) (s t : Bs) (w : World) (hR : ARow w.heap.size w ao l) (h : lightB l = false ∨ 100 < s.length + t.length) (hp : s.length ≤ 140737488355328) (hq : t.length ≤ 140737488355328) :
    Calls Try.prog 4 #[.slice ao l.length cap, .string ⟨s.toArray⟩, .string ⟨t.toArray⟩] w fun e w' => e = .returned (.bool true) ∧ Below w.heap.size w w' := by
  have LI := Lib.hid (light_any l ao cap hl hok w hR)
  have AW := Lib.hid (fun W => awake_any W)
  generalize l.length = n at *
  clear hR hl hok
  cases hb : lightB l with
  | false =>
    rw [hb] at LI
    clear h hp hq hb
    go_enter Try.func4, Try.ntmps4
    go_wp2_with (first | (go_at_call 6; refine LI.out.mono ?_; rintro e w1 ⟨rfl, hB⟩; have H1 := Lib.hid hB; clear hB) | (go_at_call 7; refine (AW.out _).mono ?_; rintro e w2 ⟨rfl, hB⟩; have H2 := Lib.hid (H1.out.trans (hB.mono H1.out.size)); clear hB))
    go_ret
    exact ⟨rfl, H2.out⟩
  | true =>
    rw [hb] at LI h
    have hpl : 100 < s.length + t.length := by rcases h with h | h; cases h; exact h
    have hw0 : IntKind.i64.wrap ((s.length : Int) + (t.length : Int)) = (s.length : Int) + (t.length : Int) := IntWalk.i64_in _ (by omega)
    have t1 : decide ((100 : Int) < (s.length : Int) + (t.length : Int)) = true := by rw [decide_eq_true_eq]; omega
    clear h hb
    go_enter Try.func4, Try.ntmps4
    go_wp2_with (first | (go_at_call 6; refine LI.out.mono ?_; rintro e w1 ⟨rfl, hB⟩; have H1 := Lib.hid hB; clear hB) | (go_at_call 7; refine (AW.out _).mono ?_; rintro e w2 ⟨rfl, hB⟩; have H2 := Lib.hid (H1.out.trans (hB.mono H1.out.size)); clear hB))
    go_ret
    exact ⟨rfl, H2.out⟩
set_option maxRecDepth 100000 in
set_option maxHeartbeats 3200000 in
theorem ren_yes (l : List ActV) (ao : Option Addr) (cap : Nat) (hlt : lightB l = true) (hok : ∀ x ∈ l, AOk x) (s t : Bs) (hp : s.length + t.length ≤ 100) (w : World) (hR : ARow w.heap.size w ao l) :
    Calls Try.prog 4 #[.slice ao l.length cap, .string ⟨s.toArray⟩, .string ⟨t.toArray⟩] w fun e w' => e = .returned (.bool true) ∧ Below w.heap.size w w' := by
  obtain ⟨hl60, hlen⟩ := light_len hlt
  have LI : Hid (Calls Try.prog 6 #[.slice ao l.length cap] w fun e w' => e = .returned (.bool true) ∧ Below w.heap.size w w') := by
    have := light_any l ao cap (by omega) hok w hR
    rw [hlt] at this
    exact this
  have AW := Lib.hid (fun W => awake_any W)
  have NW := Lib.hid (fun W => tNew_any W)
  have HR := Lib.hid hR
  have HL := Lib.hid (And.intro hlen hok)
  obtain ⟨N, hN⟩ : ∃ N, l.length = N := ⟨_, rfl⟩
  have HN := Lib.hid hN
  rw [hN] at LI hl60 ⊢
  have hw0 : IntKind.i64.wrap ((s.length : Int) + (t.length : Int)) = (s.length : Int) + (t.length : Int) := IntWalk.i64_in _ (by omega)
  have t1 : decide ((100 : Int) < (s.length : Int) + (t.length : Int)) = false := by rw [decide_eq_false_iff_not]; omega
  clear hR hlt hN hlen hok
  go_enter Try.func4, Try.ntmps4
  go_wp2_with (first | (go_at_call 6; refine LI.out.mono ?_; rintro e w1 ⟨rfl, hB⟩; have H1 := Lib.hid hB; clear hB) | (go_at_call 8; refine (NW.out _).mono ?_; rintro e w2 ⟨tb, mn, mh, mk, who0, cb0, rfl, hT, hB⟩; have H2 : Hid (Led w1 w1.heap.size tb mn mh mk 0 w2) := ⟨⟨newT, who0, cb0, wf_new, Nat.le_refl _, Nat.le_refl _, hT⟩, hB⟩; clear hT hB))
  go_loopw [28] (fun i wr => ∃ k : Nat, k ≤ N ∧ i = .int .i64 (k : Int) ∧ Led w1 w1.heap.size tb mn mh mk k wr) (fun i _ => N - (intOf i).toNat)
  case atStart => exact ⟨0, Nat.zero_le _, rfl, H2.out⟩
  case round =>
    obtain ⟨k, hk, rfl, hled⟩ := hrel
    have HLED := Lib.hid hled
    have hB1 : Below w.heap.size w wr := H1.out.trans (hled.below.mono H1.out.size)
    by_cases hlt : k < N
    · have hkl : k < l.length := by have := HN.out; omega
      obtain ⟨b, off, rfl, hbl, hc⟩ := HR.out (by intro h; rw [h] at hkl; simp at hkl)
      obtain ⟨c0, c1, c2, c3⟩ := hc k hkl
      have d0 := (hB1.cell (p := ⟨b, _, none⟩) hbl).trans c0
      have d1 := (hB1.cell (p := ⟨b, _, none⟩) hbl).trans c1
      have d2 := (hB1.cell (p := ⟨b, _, none⟩) hbl).trans c2
      have d3 := (hB1.cell (p := ⟨b, _, none⟩) hbl).trans c3
      have hxl := HL.out.1 l[k] (List.getElem_mem _)
      have hxo := HL.out.2 l[k] (List.getElem_mem _)
      generalize l[k] = x at *
      have HPL : Hid (∀ W yb, LedY w1 w1.heap.size tb mn mh mk k yb W → Calls Try.prog 9 #[.pointer (some ⟨tb, 0, none⟩), .pointer (some ⟨yb, 0, none⟩), .agg #[.int .i64 x.k, .int .i64 x.a, .string ⟨x.s.toArray⟩, .string ⟨x.t.toArray⟩]] W fun e w' => (∃ q, e = .returned (.bool q)) ∧ Led w1 w1.heap.size tb mn mh mk (k + 1) w') := fun W yb h => h.play (by omega) x.k x.a hxo.2.1 x.s x.t (by omega) (by omega)
      have HY : Hid (∀ W, Below wr.heap.size wr W → Calls Try.prog 10 #[] W fun e w' => ∃ yb, e = .returned (.pointer (some ⟨yb, 0, none⟩)) ∧ LedY w1 w1.heap.size tb mn mh mk k yb w' ∧ Below W.heap.size W w') := fun W hb => (HLED.out.low hb).new
      have HBX : Hid (∀ W, Below (wr.heap.size + 1) (wr.alloc (boxX x)) W → W.cell? ⟨wr.heap.size, 0, none⟩ = some (.int .i64 x.k) ∧ W.cell? ⟨wr.heap.size, 1, none⟩ = some (.int .i64 x.a) ∧ W.cell? ⟨wr.heap.size, 2, none⟩ = some (.string ⟨x.s.toArray⟩) ∧ W.cell? ⟨wr.heap.size, 3, none⟩ = some (.string ⟨x.t.toArray⟩)) := fun W hb => boxX_cells ((hb.block wr.heap.size (by omega)).trans (heap_alloc_new wr (boxX x)))
      have hw1 : IntKind.i64.wrap ((k : Int) + 1) = (k : Int) + 1 := IntWalk.i64_in _ (by omega)
      unfold boxX at HBX
      obtain ⟨xk, xa, xs, xt⟩ := x
      simp only at d0 d1 d2 d3 HBX HPL
      have i1 : k < N := hlt
      have HK := Lib.hid hlt
      clear c0 c1 c2 c3 hc hk hkl hlt hled hB1 hxl hxo
      go_wp2_with fail
      obtain ⟨e0, e1, e2, e3⟩ := HBX.out _ (Below.refl _ _)
      go_region_with (first | (go_at_call 10; refine (HY.out _ (by exact ((Below.refl _ wr).alloc (Nat.le_refl _) _).drew)).mono ?_; rintro e w5 ⟨yb, rfl, h2, hB⟩; obtain ⟨r0, r1, r2, r3⟩ := HBX.out w5 (((Below.refl _ _).drew).trans (hB.mono (by simp))); have H5 := Lib.hid h2; clear h2 hB) | (go_at_call 9; refine (HPL.out _ _ H5.out).mono ?_; rintro e w6 ⟨⟨bb, rfl⟩, hled⟩; have H6 := Lib.hid hled; clear hled))
      all_goals
        go_wp2_with fail
        exact ⟨⟨k + 1, by have := HK.out; omega, by go_num, H6.out⟩, by have := HK.out; simp [intOf]; omega⟩
    · have i1 : decide ((k : Int) < (N : Int)) = false := by rw [decide_eq_false_iff_not]; omega
      obtain ⟨S, who, cb, hW, hla, hep, hT⟩ := hled.ex
      have HB : Hid (Below w.heap.size w wr) := hB1
      have HW := Lib.hid (And.intro hW (And.intro hT (And.intro (show S.last ≤ 60 by omega) (show S.epoch ≤ 60 by omega))))
      have HLO := Lib.hid (And.intro H1.out.size (And.intro hT.base (fun j hj => (hT.lo j hj).1)))
      have HKN0 := Names_any hT hW (by omega) [42] (by decide)
      obtain ⟨ks, hN, _⟩ := HKN0
      obtain ⟨kn, hkn⟩ : ∃ kn, ks.length = kn := ⟨_, rfl⟩
      have HKN := Lib.hid (And.intro hN hkn)
      obtain ⟨f0, hf⟩ : ∃ f0, (S.nm false s).getD 0 = f0 := ⟨_, rfl⟩
      have HF0 := Lib.hid hf
      obtain ⟨e0, he0⟩ : ∃ e0, S.epoch = e0 := ⟨_, rfl⟩
      have HEP := Lib.hid he0
      obtain ⟨e2, he2⟩ : ∃ e2, e0 + 2 = e2 := ⟨_, rfl⟩
      obtain ⟨e4, he4⟩ : ∃ e4, e2 + 2 = e4 := ⟨_, rfl⟩
      have HE2 := Lib.hid (And.intro he2 (And.intro he4 (show e4 ≤ 1000 by omega)))
      have hwe : IntKind.i64.wrap ((e0 : Int) + 2) = (e2 : Int) := by rw [IntWalk.i64_in _ (by omega)]; omega
      have hwe2 : IntKind.i64.wrap ((e2 : Int) + 2) = (e4 : Int) := by rw [IntWalk.i64_in _ (by omega)]; omega
      clear hN hkn hf he0 he2 he4 hla hep hled HLED hB1 hT hW
      by_cases hA : ∃ n, S.nm false s = some n ∧ S.nm false t = none
      · by_cases hB' : ∃ n, S.nm false s = some n ∧ S.nm true t = none
        · have NA0 : Hid (Calls Try.prog 16 #[.pointer (some ⟨tb, 0, none⟩), .string ⟨#[42]⟩] wr fun e w' => ∃ o c, e = .returned (.slice o kn c) ∧ TxtRow w' (.slice o kn c) (srt ks) ∧ AtS w1.heap.size tb mn mh mk who cb w' w' S ∧ Below wr.heap.size wr w' ∧ ∀ a, o = some a → who a.block = none) := by
            rw [← HKN.out.2]
            exact (AtS.names (w1 := wr) ⟨HW.out.2.1, Stp.refl _ _⟩ HW.out.1 (by have := HW.out.2.2.1; omega) HKN.out.1 (fun _ => rfl)).mono fun e w' ⟨o, c, he, hr, hA, hB, hn⟩ => ⟨o, c, he, hr, ⟨hA.1, Stp.refl _ _⟩, hB, fun x hx => HW.out.2.1.none_at (hn x hx)⟩
          have E0 : Hid (∀ wa W, AtS w1.heap.size tb mn mh mk who cb wa W S → Calls Try.prog 17 #[.pointer (some ⟨tb, 0, none⟩)] W fun e w' => e = .returned (.int .i64 (e0 : Int)) ∧ W = w') := fun wa W h => by have := h.epoch; rw [HEP.out] at this; exact this
          have F0 : Hid (∀ wa W, AtS w1.heap.size tb mn mh mk who cb wa W S → Calls Try.prog 18 #[.pointer (some ⟨tb, 0, none⟩), .string ⟨s.toArray⟩] W fun e w' => e = .returned (.int .i64 (f0 : Int)) ∧ AtS w1.heap.size tb mn mh mk who cb wa w' S) := fun wa W h => h.find HW.out.1 s (by omega) HF0.out
          obtain ⟨n, hn1, hn2⟩ := hA
          have hf0 : f0 = n := by have := HF0.out; rw [hn1] at this; exact this.symm
          obtain ⟨S1, hS1⟩ : ∃ S1, S1 = moveT S n false s false t := ⟨_, rfl⟩
          have hW1 : WF S1 := by rw [hS1]; exact wf_moveT HW.out.1 (by omega) hn1 hn2
          have hth := there_nm hn1 hn2
          rw [← hS1] at hth
          have hth1 := hth.1
          have hth2 := hth.2
          obtain ⟨S2, hS2⟩ : ∃ S2, S2 = moveT S1 n false t false s := ⟨_, rfl⟩
          have hW2 : WF S2 := by rw [hS2]; exact wf_moveT hW1 (by omega) hth1 hth2
          have hnm2 : ∀ h k, S2.nm h k = S.nm h k := by rw [hS2, hS1]; exact back_nm hn1 hn2
          have hep1 : S1.epoch ≤ 1000000 := by rw [hS1]; have := HW.out.2.2.2; show S.epoch + 1 ≤ _; omega
          have hep2 : S2.epoch = e2 := by rw [hS2, hS1, ← HE2.out.1, ← HEP.out]; rfl
          have hla2 : S2.last ≤ 60 := by rw [hS2, hS1]; exact HW.out.2.2.1
          have R0 : Hid (∀ wa W, AtS w1.heap.size tb mn mh mk who cb wa W S → Calls Try.prog 19 #[.pointer (some ⟨tb, 0, none⟩), .string ⟨s.toArray⟩, .string ⟨t.toArray⟩] W fun e w' => e = .returned (.int .i64 0) ∧ AtS w1.heap.size tb mn mh mk who cb wa w' S1) := fun wa W h => by have := h.rename_ok HW.out.1 (by have := HW.out.2.2.2; omega) s t (by omega) (by omega) hn1 hn2; rw [← hS1] at this; exact this
          have FT1 : Hid (∀ wa W, AtS w1.heap.size tb mn mh mk who cb wa W S1 → Calls Try.prog 18 #[.pointer (some ⟨tb, 0, none⟩), .string ⟨t.toArray⟩] W fun e w' => e = .returned (.int .i64 (f0 : Int)) ∧ AtS w1.heap.size tb mn mh mk who cb wa w' S1) := fun wa W h => h.find hW1 t (by omega) (by rw [hth1, hf0]; rfl)
          have FS1 : Hid (∀ wa W, AtS w1.heap.size tb mn mh mk who cb wa W S1 → Calls Try.prog 18 #[.pointer (some ⟨tb, 0, none⟩), .string ⟨s.toArray⟩] W fun e w' => e = .returned (.int .i64 0) ∧ AtS w1.heap.size tb mn mh mk who cb wa w' S1) := fun wa W h => by have := h.find hW1 s (by omega) (n := 0) (by rw [hth2]; rfl); simpa using this
          have R1 : Hid (∀ wa W, AtS w1.heap.size tb mn mh mk who cb wa W S1 → Calls Try.prog 19 #[.pointer (some ⟨tb, 0, none⟩), .string ⟨t.toArray⟩, .string ⟨s.toArray⟩] W fun e w' => e = .returned (.int .i64 0) ∧ AtS w1.heap.size tb mn mh mk who cb wa w' S2) := fun wa W h => by have := h.rename_ok hW1 hep1 t s (by omega) (by omega) hth1 hth2; rw [← hS2] at this; exact this
          have E2 : Hid (∀ wa W, AtS w1.heap.size tb mn mh mk who cb wa W S2 → Calls Try.prog 17 #[.pointer (some ⟨tb, 0, none⟩)] W fun e w' => e = .returned (.int .i64 (e2 : Int)) ∧ W = w') := fun wa W h => by have := h.epoch; rw [hep2] at this; exact this
          obtain ⟨m, hm1, hm2⟩ := hB'
          rw [← hnm2] at hm1 hm2
          have hf1 : f0 = m := by have := HF0.out; rw [← hnm2, hm1] at this; exact this.symm
          obtain ⟨S3, hS3⟩ : ∃ S3, S3 = moveT S2 m false s true t := ⟨_, rfl⟩
          have hW3 : WF S3 := by rw [hS3]; exact wf_moveT hW2 (by omega) hm1 hm2
          have htv := there_nm hm1 hm2
          rw [← hS3] at htv
          have htv1 := htv.1
          have htv2 := htv.2
          obtain ⟨S4, hS4⟩ : ∃ S4, S4 = moveT S3 m true t false s := ⟨_, rfl⟩
          have hW4 : WF S4 := by rw [hS4]; exact wf_moveT hW3 (by omega) htv1 htv2
          have hnm4 : ∀ h k, S4.nm h k = S.nm h k := fun h k => by rw [← hnm2, hS4, hS3]; exact back_nm hm1 hm2 h k
          have hep3 : S3.epoch ≤ 1000000 := by rw [hS3]; show S2.epoch + 1 ≤ _; rw [hep2]; have := HE2.out.2.2; have := HE2.out.1; have := HE2.out.2.1; omega
          have hep4 : S4.epoch = e4 := by rw [hS4, hS3]; show S2.epoch + 1 + 1 = _; rw [hep2]; have := HE2.out.1; have := HE2.out.2.1; omega
          have hla4 : S4.last ≤ 60 := by rw [hS4, hS3]; exact hla2
          have D2 : Hid (∀ wa W, AtS w1.heap.size tb mn mh mk who cb wa W S2 → Calls Try.prog 20 #[.pointer (some ⟨tb, 0, none⟩), .string ⟨s.toArray⟩, .string ⟨t.toArray⟩] W fun e w' => e = .returned (.int .i64 0) ∧ AtS w1.heap.size tb mn mh mk who cb wa w' S3) := fun wa W h => by have := h.hide_ok hW2 (by rw [hep2]; have := HE2.out.2.2; have := HE2.out.1; have := HE2.out.2.1; omega) s t (by omega) (by omega) hm1 hm2; rw [← hS3] at this; exact this
          have FH3 : Hid (∀ wa W, AtS w1.heap.size tb mn mh mk who cb wa W S3 → Calls Try.prog 21 #[.pointer (some ⟨tb, 0, none⟩), .string ⟨t.toArray⟩] W fun e w' => e = .returned (.int .i64 (f0 : Int)) ∧ AtS w1.heap.size tb mn mh mk who cb wa w' S3) := fun wa W h => h.findHidden hW3 t (by omega) (by rw [htv1, hf1]; rfl)
          have X3 : Hid (∀ wa W, AtS w1.heap.size tb mn mh mk who cb wa W S3 → Calls Try.prog 22 #[.pointer (some ⟨tb, 0, none⟩), .string ⟨t.toArray⟩, .string ⟨s.toArray⟩] W fun e w' => e = .returned (.int .i64 0) ∧ AtS w1.heap.size tb mn mh mk who cb wa w' S4) := fun wa W h => by have := h.expose_ok hW3 hep3 t s (by omega) (by omega) htv1 htv2; rw [← hS4] at this; exact this
          have E4 : Hid (∀ wa W, AtS w1.heap.size tb mn mh mk who cb wa W S4 → Calls Try.prog 17 #[.pointer (some ⟨tb, 0, none⟩)] W fun e w' => e = .returned (.int .i64 (e4 : Int)) ∧ W = w') := fun wa W h => by have := h.epoch; rw [hep4] at this; exact this
          have NA4 : Hid (∀ wa W, AtS w1.heap.size tb mn mh mk who cb wa W S4 → Calls Try.prog 16 #[.pointer (some ⟨tb, 0, none⟩), .string ⟨#[42]⟩] W fun e w' => ∃ o c, e = .returned (.slice o kn c) ∧ TxtRow w' (.slice o kn c) (srt ks) ∧ AtS w1.heap.size tb mn mh mk who cb wa w' S4 ∧ Below W.heap.size W w') := fun wa W h => by
            rw [← HKN.out.2]
            exact (h.names hW4 (by omega) HKN.out.1 (fun k => hnm4 false k)).mono fun e w' ⟨o, c, he, hr, hA, hB, _⟩ => ⟨o, c, he, hr, hA, hB⟩
          have F4 : Hid (∀ wa W, AtS w1.heap.size tb mn mh mk who cb wa W S4 → Calls Try.prog 18 #[.pointer (some ⟨tb, 0, none⟩), .string ⟨s.toArray⟩] W fun e w' => e = .returned (.int .i64 (f0 : Int)) ∧ AtS w1.heap.size tb mn mh mk who cb wa w' S4) := fun wa W h => h.find hW4 s (by omega) (by rw [hnm4]; exact HF0.out)
          try clear hn1
          try clear hn2
          try clear hf0
          try clear hS1
          try clear hS2
          try clear hth
          try clear hth1
          try clear hth2
          try clear hW1
          try clear hep1
          try clear hm1
          try clear hm2
          try clear hf1
          try clear hS3
          try clear hS4
          try clear htv
          try clear htv1
          try clear htv2
          try clear hW3
          try clear hep3
          try clear hep4
          try clear hA
          try clear hB'
          try clear hnm2
          try clear hW2
          try clear hep2
          try clear hla2
          try clear hnm4
          try clear hW4
          try clear hla4
          go_wp2_with (first
            | (go_at_call 17; refine (E0.out _ _ H0.out).mono ?_; rintro e we ⟨rfl, rfl⟩)
            | (go_at_call 18; with_reducible refine (F0.out _ _ H0.out).mono ?_; rintro e wf ⟨rfl, hA⟩; clear H0; have H0 := Lib.hid hA; clear hA)
            | (go_at_call 19; with_reducible refine (R0.out _ _ H0.out).mono ?_; rintro e wx ⟨rfl, hA⟩; clear H0; have H1 := Lib.hid hA; clear hA)
            | (go_at_call 18; with_reducible refine (FT1.out _ _ H1.out).mono ?_; rintro e wf ⟨rfl, hA⟩; clear H1; have H1 := Lib.hid hA; clear hA)
            | (go_at_call 18; with_reducible refine (FS1.out _ _ H1.out).mono ?_; rintro e wf ⟨rfl, hA⟩; clear H1; have H1 := Lib.hid hA; clear hA)
            | (go_at_call 19; with_reducible refine (R1.out _ _ H1.out).mono ?_; rintro e wx ⟨rfl, hA⟩; clear H1; have H2 := Lib.hid hA; clear hA)
            | (go_at_call 17; refine (E2.out _ _ H2.out).mono ?_; rintro e we ⟨rfl, rfl⟩)
            | (go_at_call 20; with_reducible refine (D2.out _ _ H2.out).mono ?_; rintro e wx ⟨rfl, hA⟩; clear H2; have H3 := Lib.hid hA; clear hA)
            | (go_at_call 21; with_reducible refine (FH3.out _ _ H3.out).mono ?_; rintro e wf ⟨rfl, hA⟩; clear H3; have H3 := Lib.hid hA; clear hA)
            | (go_at_call 22; with_reducible refine (X3.out _ _ H3.out).mono ?_; rintro e wx ⟨rfl, hA⟩; clear H3; have H4 := Lib.hid hA; clear hA)
            | (go_at_call 17; refine (E4.out _ _ H4.out).mono ?_; rintro e we ⟨rfl, rfl⟩)
            | (go_at_call 16; refine (NA4.out _ _ H4.out).mono ?_; rintro e wz ⟨o4, c4, rfl, hr, hA, hB⟩; clear H4; have H4 := Lib.hid hA; have HRZ := Lib.hid hr; clear hA hr hB)
            | (go_at_call 16; refine NA0.out.mono ?_; rintro e wn ⟨o0, c0, rfl, hr, hA, hB, hu⟩; have H0 := Lib.hid hA; have HRN := Lib.hid (And.intro hr (And.intro hB hu)); clear hr hA hB hu)
            | (go_at_call 18; with_reducible refine (F4.out _ _ H4.out).mono ?_; rintro e wf ⟨rfl, hA⟩; clear H4; have H4 := Lib.hid hA; clear hA)
            | (go_at_call 23; refine (same_yes _ (HRN.out.1.fr HRN.out.2.2 H4.out.2.fr) HRZ.out).mono ?_; rintro e ws ⟨rfl, hB⟩; have HA5 := H4.out.low hB; clear H4; have H4 := Lib.hid HA5; clear HA5 hB)
            | (go_at_call 7; refine (AW.out _).mono ?_; rintro e wG ⟨rfl, hB⟩; have HGo := Lib.hid (HB.out.trans (((low_stp HW.out.2.1 (Stp.of_below HRN.out.2.1)).trans (low_stp2 HW.out.2.1 HRN.out.2.1 H4.out.2)).mono HLO.out.1 |>.trans (hB.mono (Nat.le_trans HB.out.size (Nat.le_trans HRN.out.2.1.size H4.out.2.fr.size))))); clear hB))
          go_ret
          exact ⟨rfl, HGo.out⟩
        · have NA0 : Hid (Calls Try.prog 16 #[.pointer (some ⟨tb, 0, none⟩), .string ⟨#[42]⟩] wr fun e w' => ∃ o c, e = .returned (.slice o kn c) ∧ TxtRow w' (.slice o kn c) (srt ks) ∧ AtS w1.heap.size tb mn mh mk who cb w' w' S ∧ Below wr.heap.size wr w' ∧ ∀ a, o = some a → who a.block = none) := by
            rw [← HKN.out.2]
            exact (AtS.names (w1 := wr) ⟨HW.out.2.1, Stp.refl _ _⟩ HW.out.1 (by have := HW.out.2.2.1; omega) HKN.out.1 (fun _ => rfl)).mono fun e w' ⟨o, c, he, hr, hA, hB, hn⟩ => ⟨o, c, he, hr, ⟨hA.1, Stp.refl _ _⟩, hB, fun x hx => HW.out.2.1.none_at (hn x hx)⟩
          have E0 : Hid (∀ wa W, AtS w1.heap.size tb mn mh mk who cb wa W S → Calls Try.prog 17 #[.pointer (some ⟨tb, 0, none⟩)] W fun e w' => e = .returned (.int .i64 (e0 : Int)) ∧ W = w') := fun wa W h => by have := h.epoch; rw [HEP.out] at this; exact this
          have F0 : Hid (∀ wa W, AtS w1.heap.size tb mn mh mk who cb wa W S → Calls Try.prog 18 #[.pointer (some ⟨tb, 0, none⟩), .string ⟨s.toArray⟩] W fun e w' => e = .returned (.int .i64 (f0 : Int)) ∧ AtS w1.heap.size tb mn mh mk who cb wa w' S) := fun wa W h => h.find HW.out.1 s (by omega) HF0.out
          obtain ⟨n, hn1, hn2⟩ := hA
          have hf0 : f0 = n := by have := HF0.out; rw [hn1] at this; exact this.symm
          obtain ⟨S1, hS1⟩ : ∃ S1, S1 = moveT S n false s false t := ⟨_, rfl⟩
          have hW1 : WF S1 := by rw [hS1]; exact wf_moveT HW.out.1 (by omega) hn1 hn2
          have hth := there_nm hn1 hn2
          rw [← hS1] at hth
          have hth1 := hth.1
          have hth2 := hth.2
          obtain ⟨S2, hS2⟩ : ∃ S2, S2 = moveT S1 n false t false s := ⟨_, rfl⟩
          have hW2 : WF S2 := by rw [hS2]; exact wf_moveT hW1 (by omega) hth1 hth2
          have hnm2 : ∀ h k, S2.nm h k = S.nm h k := by rw [hS2, hS1]; exact back_nm hn1 hn2
          have hep1 : S1.epoch ≤ 1000000 := by rw [hS1]; have := HW.out.2.2.2; show S.epoch + 1 ≤ _; omega
          have hep2 : S2.epoch = e2 := by rw [hS2, hS1, ← HE2.out.1, ← HEP.out]; rfl
          have hla2 : S2.last ≤ 60 := by rw [hS2, hS1]; exact HW.out.2.2.1
          have R0 : Hid (∀ wa W, AtS w1.heap.size tb mn mh mk who cb wa W S → Calls Try.prog 19 #[.pointer (some ⟨tb, 0, none⟩), .string ⟨s.toArray⟩, .string ⟨t.toArray⟩] W fun e w' => e = .returned (.int .i64 0) ∧ AtS w1.heap.size tb mn mh mk who cb wa w' S1) := fun wa W h => by have := h.rename_ok HW.out.1 (by have := HW.out.2.2.2; omega) s t (by omega) (by omega) hn1 hn2; rw [← hS1] at this; exact this
          have FT1 : Hid (∀ wa W, AtS w1.heap.size tb mn mh mk who cb wa W S1 → Calls Try.prog 18 #[.pointer (some ⟨tb, 0, none⟩), .string ⟨t.toArray⟩] W fun e w' => e = .returned (.int .i64 (f0 : Int)) ∧ AtS w1.heap.size tb mn mh mk who cb wa w' S1) := fun wa W h => h.find hW1 t (by omega) (by rw [hth1, hf0]; rfl)
          have FS1 : Hid (∀ wa W, AtS w1.heap.size tb mn mh mk who cb wa W S1 → Calls Try.prog 18 #[.pointer (some ⟨tb, 0, none⟩), .string ⟨s.toArray⟩] W fun e w' => e = .returned (.int .i64 0) ∧ AtS w1.heap.size tb mn mh mk who cb wa w' S1) := fun wa W h => by have := h.find hW1 s (by omega) (n := 0) (by rw [hth2]; rfl); simpa using this
          have R1 : Hid (∀ wa W, AtS w1.heap.size tb mn mh mk who cb wa W S1 → Calls Try.prog 19 #[.pointer (some ⟨tb, 0, none⟩), .string ⟨t.toArray⟩, .string ⟨s.toArray⟩] W fun e w' => e = .returned (.int .i64 0) ∧ AtS w1.heap.size tb mn mh mk who cb wa w' S2) := fun wa W h => by have := h.rename_ok hW1 hep1 t s (by omega) (by omega) hth1 hth2; rw [← hS2] at this; exact this
          have E2 : Hid (∀ wa W, AtS w1.heap.size tb mn mh mk who cb wa W S2 → Calls Try.prog 17 #[.pointer (some ⟨tb, 0, none⟩)] W fun e w' => e = .returned (.int .i64 (e2 : Int)) ∧ W = w') := fun wa W h => by have := h.epoch; rw [hep2] at this; exact this
          have D2 : Hid (∀ wa W, AtS w1.heap.size tb mn mh mk who cb wa W S2 → Calls Try.prog 20 #[.pointer (some ⟨tb, 0, none⟩), .string ⟨s.toArray⟩, .string ⟨t.toArray⟩] W fun e w' => ∃ r : Int, e = .returned (.int .i64 r) ∧ (r == 0) = false ∧ AtS w1.heap.size tb mn mh mk who cb wa w' S2) := fun wa W h => h.hide_no hW2 (by rw [hep2]; have := HE2.out.2.2; have := HE2.out.1; have := HE2.out.2.1; omega) s t (by omega) (by omega) (fun ⟨m, hm1, hm2⟩ => hB' ⟨m, by rw [← hnm2]; exact hm1, by rw [← hnm2]; exact hm2⟩)
          have hnm4 := hnm2
          have hW4 := hW2
          have hla4 := hla2
          have NA4 : Hid (∀ wa W, AtS w1.heap.size tb mn mh mk who cb wa W S2 → Calls Try.prog 16 #[.pointer (some ⟨tb, 0, none⟩), .string ⟨#[42]⟩] W fun e w' => ∃ o c, e = .returned (.slice o kn c) ∧ TxtRow w' (.slice o kn c) (srt ks) ∧ AtS w1.heap.size tb mn mh mk who cb wa w' S2 ∧ Below W.heap.size W w') := fun wa W h => by
            rw [← HKN.out.2]
            exact (h.names hW4 (by omega) HKN.out.1 (fun k => hnm4 false k)).mono fun e w' ⟨o, c, he, hr, hA, hB, _⟩ => ⟨o, c, he, hr, hA, hB⟩
          have F4 : Hid (∀ wa W, AtS w1.heap.size tb mn mh mk who cb wa W S2 → Calls Try.prog 18 #[.pointer (some ⟨tb, 0, none⟩), .string ⟨s.toArray⟩] W fun e w' => e = .returned (.int .i64 (f0 : Int)) ∧ AtS w1.heap.size tb mn mh mk who cb wa w' S2) := fun wa W h => h.find hW4 s (by omega) (by rw [hnm4]; exact HF0.out)
          try clear hn1
          try clear hn2
          try clear hf0
          try clear hS1
          try clear hS2
          try clear hth
          try clear hth1
          try clear hth2
          try clear hW1
          try clear hep1
          try clear hm1
          try clear hm2
          try clear hf1
          try clear hS3
          try clear hS4
          try clear htv
          try clear htv1
          try clear htv2
          try clear hW3
          try clear hep3
          try clear hep4
          try clear hA
          try clear hB'
          try clear hnm2
          try clear hW2
          try clear hep2
          try clear hla2
          try clear hnm4
          try clear hW4
          try clear hla4
          go_wp2_with (first
            | (go_at_call 17; refine (E0.out _ _ H0.out).mono ?_; rintro e we ⟨rfl, rfl⟩)
            | (go_at_call 18; with_reducible refine (F0.out _ _ H0.out).mono ?_; rintro e wf ⟨rfl, hA⟩; clear H0; have H0 := Lib.hid hA; clear hA)
            | (go_at_call 19; with_reducible refine (R0.out _ _ H0.out).mono ?_; rintro e wx ⟨rfl, hA⟩; clear H0; have H1 := Lib.hid hA; clear hA)
            | (go_at_call 18; with_reducible refine (FT1.out _ _ H1.out).mono ?_; rintro e wf ⟨rfl, hA⟩; clear H1; have H1 := Lib.hid hA; clear hA)
            | (go_at_call 18; with_reducible refine (FS1.out _ _ H1.out).mono ?_; rintro e wf ⟨rfl, hA⟩; clear H1; have H1 := Lib.hid hA; clear hA)
            | (go_at_call 19; with_reducible refine (R1.out _ _ H1.out).mono ?_; rintro e wx ⟨rfl, hA⟩; clear H1; have H2 := Lib.hid hA; clear hA)
            | (go_at_call 17; refine (E2.out _ _ H2.out).mono ?_; rintro e we ⟨rfl, rfl⟩)
            | (go_at_call 20; with_reducible refine (D2.out _ _ H2.out).mono ?_; rintro e wx ⟨r, rfl, hr1, hA⟩; clear H2; have H4 := Lib.hid hA; clear hA)
            | (go_at_call 16; refine (NA4.out _ _ H4.out).mono ?_; rintro e wz ⟨o4, c4, rfl, hr, hA, hB⟩; clear H4; have H4 := Lib.hid hA; have HRZ := Lib.hid hr; clear hA hr hB)
            | (go_at_call 16; refine NA0.out.mono ?_; rintro e wn ⟨o0, c0, rfl, hr, hA, hB, hu⟩; have H0 := Lib.hid hA; have HRN := Lib.hid (And.intro hr (And.intro hB hu)); clear hr hA hB hu)
            | (go_at_call 18; with_reducible refine (F4.out _ _ H4.out).mono ?_; rintro e wf ⟨rfl, hA⟩; clear H4; have H4 := Lib.hid hA; clear hA)
            | (go_at_call 23; refine (same_yes _ (HRN.out.1.fr HRN.out.2.2 H4.out.2.fr) HRZ.out).mono ?_; rintro e ws ⟨rfl, hB⟩; have HA5 := H4.out.low hB; clear H4; have H4 := Lib.hid HA5; clear HA5 hB)
            | (go_at_call 7; refine (AW.out _).mono ?_; rintro e wG ⟨rfl, hB⟩; have HGo := Lib.hid (HB.out.trans (((low_stp HW.out.2.1 (Stp.of_below HRN.out.2.1)).trans (low_stp2 HW.out.2.1 HRN.out.2.1 H4.out.2)).mono HLO.out.1 |>.trans (hB.mono (Nat.le_trans HB.out.size (Nat.le_trans HRN.out.2.1.size H4.out.2.fr.size))))); clear hB))
          go_ret
          exact ⟨rfl, HGo.out⟩
      · by_cases hB' : ∃ n, S.nm false s = some n ∧ S.nm true t = none
        · have NA0 : Hid (Calls Try.prog 16 #[.pointer (some ⟨tb, 0, none⟩), .string ⟨#[42]⟩] wr fun e w' => ∃ o c, e = .returned (.slice o kn c) ∧ TxtRow w' (.slice o kn c) (srt ks) ∧ AtS w1.heap.size tb mn mh mk who cb w' w' S ∧ Below wr.heap.size wr w' ∧ ∀ a, o = some a → who a.block = none) := by
            rw [← HKN.out.2]
            exact (AtS.names (w1 := wr) ⟨HW.out.2.1, Stp.refl _ _⟩ HW.out.1 (by have := HW.out.2.2.1; omega) HKN.out.1 (fun _ => rfl)).mono fun e w' ⟨o, c, he, hr, hA, hB, hn⟩ => ⟨o, c, he, hr, ⟨hA.1, Stp.refl _ _⟩, hB, fun x hx => HW.out.2.1.none_at (hn x hx)⟩
          have E0 : Hid (∀ wa W, AtS w1.heap.size tb mn mh mk who cb wa W S → Calls Try.prog 17 #[.pointer (some ⟨tb, 0, none⟩)] W fun e w' => e = .returned (.int .i64 (e0 : Int)) ∧ W = w') := fun wa W h => by have := h.epoch; rw [HEP.out] at this; exact this
          have F0 : Hid (∀ wa W, AtS w1.heap.size tb mn mh mk who cb wa W S → Calls Try.prog 18 #[.pointer (some ⟨tb, 0, none⟩), .string ⟨s.toArray⟩] W fun e w' => e = .returned (.int .i64 (f0 : Int)) ∧ AtS w1.heap.size tb mn mh mk who cb wa w' S) := fun wa W h => h.find HW.out.1 s (by omega) HF0.out
          have R0 : Hid (∀ wa W, AtS w1.heap.size tb mn mh mk who cb wa W S → Calls Try.prog 19 #[.pointer (some ⟨tb, 0, none⟩), .string ⟨s.toArray⟩, .string ⟨t.toArray⟩] W fun e w' => ∃ r : Int, e = .returned (.int .i64 r) ∧ (r == 0) = false ∧ AtS w1.heap.size tb mn mh mk who cb wa w' S) := fun wa W h => h.rename_no HW.out.1 (by have := HW.out.2.2.2; omega) s t (by omega) (by omega) hA
          have hnm2 : ∀ h k, S.nm h k = S.nm h k := fun _ _ => rfl
          have hW2 := HW.out.1
          have hep2 : S.epoch = e0 := HEP.out
          have hla2 := HW.out.2.2.1
          obtain ⟨m, hm1, hm2⟩ := hB'
          rw [← hnm2] at hm1 hm2
          have hf1 : f0 = m := by have := HF0.out; rw [← hnm2, hm1] at this; exact this.symm
          obtain ⟨S3, hS3⟩ : ∃ S3, S3 = moveT S m false s true t := ⟨_, rfl⟩
          have hW3 : WF S3 := by rw [hS3]; exact wf_moveT hW2 (by omega) hm1 hm2
          have htv := there_nm hm1 hm2
          rw [← hS3] at htv
          have htv1 := htv.1
          have htv2 := htv.2
          obtain ⟨S4, hS4⟩ : ∃ S4, S4 = moveT S3 m true t false s := ⟨_, rfl⟩
          have hW4 : WF S4 := by rw [hS4]; exact wf_moveT hW3 (by omega) htv1 htv2
          have hnm4 : ∀ h k, S4.nm h k = S.nm h k := fun h k => by rw [← hnm2, hS4, hS3]; exact back_nm hm1 hm2 h k
          have hep3 : S3.epoch ≤ 1000000 := by rw [hS3]; show S.epoch + 1 ≤ _; rw [hep2]; have := HE2.out.2.2; have := HE2.out.1; have := HE2.out.2.1; omega
          have hep4 : S4.epoch = e2 := by rw [hS4, hS3]; show S.epoch + 1 + 1 = _; rw [hep2]; have := HE2.out.1; have := HE2.out.2.1; omega
          have hla4 : S4.last ≤ 60 := by rw [hS4, hS3]; exact hla2
          have D2 : Hid (∀ wa W, AtS w1.heap.size tb mn mh mk who cb wa W S → Calls Try.prog 20 #[.pointer (some ⟨tb, 0, none⟩), .string ⟨s.toArray⟩, .string ⟨t.toArray⟩] W fun e w' => e = .returned (.int .i64 0) ∧ AtS w1.heap.size tb mn mh mk who cb wa w' S3) := fun wa W h => by have := h.hide_ok hW2 (by have := HW.out.2.2.2; omega) s t (by omega) (by omega) hm1 hm2; rw [← hS3] at this; exact this
          have FH3 : Hid (∀ wa W, AtS w1.heap.size tb mn mh mk who cb wa W S3 → Calls Try.prog 21 #[.pointer (some ⟨tb, 0, none⟩), .string ⟨t.toArray⟩] W fun e w' => e = .returned (.int .i64 (f0 : Int)) ∧ AtS w1.heap.size tb mn mh mk who cb wa w' S3) := fun wa W h => h.findHidden hW3 t (by omega) (by rw [htv1, hf1]; rfl)
          have X3 : Hid (∀ wa W, AtS w1.heap.size tb mn mh mk who cb wa W S3 → Calls Try.prog 22 #[.pointer (some ⟨tb, 0, none⟩), .string ⟨t.toArray⟩, .string ⟨s.toArray⟩] W fun e w' => e = .returned (.int .i64 0) ∧ AtS w1.heap.size tb mn mh mk who cb wa w' S4) := fun wa W h => by have := h.expose_ok hW3 hep3 t s (by omega) (by omega) htv1 htv2; rw [← hS4] at this; exact this
          have E4 : Hid (∀ wa W, AtS w1.heap.size tb mn mh mk who cb wa W S4 → Calls Try.prog 17 #[.pointer (some ⟨tb, 0, none⟩)] W fun e w' => e = .returned (.int .i64 (e2 : Int)) ∧ W = w') := fun wa W h => by have := h.epoch; rw [hep4] at this; exact this
          have NA4 : Hid (∀ wa W, AtS w1.heap.size tb mn mh mk who cb wa W S4 → Calls Try.prog 16 #[.pointer (some ⟨tb, 0, none⟩), .string ⟨#[42]⟩] W fun e w' => ∃ o c, e = .returned (.slice o kn c) ∧ TxtRow w' (.slice o kn c) (srt ks) ∧ AtS w1.heap.size tb mn mh mk who cb wa w' S4 ∧ Below W.heap.size W w') := fun wa W h => by
            rw [← HKN.out.2]
            exact (h.names hW4 (by omega) HKN.out.1 (fun k => hnm4 false k)).mono fun e w' ⟨o, c, he, hr, hA, hB, _⟩ => ⟨o, c, he, hr, hA, hB⟩
          have F4 : Hid (∀ wa W, AtS w1.heap.size tb mn mh mk who cb wa W S4 → Calls Try.prog 18 #[.pointer (some ⟨tb, 0, none⟩), .string ⟨s.toArray⟩] W fun e w' => e = .returned (.int .i64 (f0 : Int)) ∧ AtS w1.heap.size tb mn mh mk who cb wa w' S4) := fun wa W h => h.find hW4 s (by omega) (by rw [hnm4]; exact HF0.out)
          try clear hn1
          try clear hn2
          try clear hf0
          try clear hS1
          try clear hS2
          try clear hth
          try clear hth1
          try clear hth2
          try clear hW1
          try clear hep1
          try clear hm1
          try clear hm2
          try clear hf1
          try clear hS3
          try clear hS4
          try clear htv
          try clear htv1
          try clear htv2
          try clear hW3
          try clear hep3
          try clear hep4
          try clear hA
          try clear hB'
          try clear hnm2
          try clear hW2
          try clear hep2
          try clear hla2
          try clear hnm4
          try clear hW4
          try clear hla4
          go_wp2_with (first
            | (go_at_call 17; refine (E0.out _ _ H0.out).mono ?_; rintro e we ⟨rfl, rfl⟩)
            | (go_at_call 18; with_reducible refine (F0.out _ _ H0.out).mono ?_; rintro e wf ⟨rfl, hA⟩; clear H0; have H0 := Lib.hid hA; clear hA)
            | (go_at_call 19; with_reducible refine (R0.out _ _ H0.out).mono ?_; rintro e wx ⟨r, rfl, hr0, hA⟩; clear H0; have H2 := Lib.hid hA; clear hA)
            | (go_at_call 20; with_reducible refine (D2.out _ _ H2.out).mono ?_; rintro e wx ⟨rfl, hA⟩; clear H2; have H3 := Lib.hid hA; clear hA)
            | (go_at_call 21; with_reducible refine (FH3.out _ _ H3.out).mono ?_; rintro e wf ⟨rfl, hA⟩; clear H3; have H3 := Lib.hid hA; clear hA)
            | (go_at_call 22; with_reducible refine (X3.out _ _ H3.out).mono ?_; rintro e wx ⟨rfl, hA⟩; clear H3; have H4 := Lib.hid hA; clear hA)
            | (go_at_call 17; refine (E4.out _ _ H4.out).mono ?_; rintro e we ⟨rfl, rfl⟩)
            | (go_at_call 16; refine (NA4.out _ _ H4.out).mono ?_; rintro e wz ⟨o4, c4, rfl, hr, hA, hB⟩; clear H4; have H4 := Lib.hid hA; have HRZ := Lib.hid hr; clear hA hr hB)
            | (go_at_call 16; refine NA0.out.mono ?_; rintro e wn ⟨o0, c0, rfl, hr, hA, hB, hu⟩; have H0 := Lib.hid hA; have HRN := Lib.hid (And.intro hr (And.intro hB hu)); clear hr hA hB hu)
            | (go_at_call 18; with_reducible refine (F4.out _ _ H4.out).mono ?_; rintro e wf ⟨rfl, hA⟩; clear H4; have H4 := Lib.hid hA; clear hA)
            | (go_at_call 23; refine (same_yes _ (HRN.out.1.fr HRN.out.2.2 H4.out.2.fr) HRZ.out).mono ?_; rintro e ws ⟨rfl, hB⟩; have HA5 := H4.out.low hB; clear H4; have H4 := Lib.hid HA5; clear HA5 hB)
            | (go_at_call 7; refine (AW.out _).mono ?_; rintro e wG ⟨rfl, hB⟩; have HGo := Lib.hid (HB.out.trans (((low_stp HW.out.2.1 (Stp.of_below HRN.out.2.1)).trans (low_stp2 HW.out.2.1 HRN.out.2.1 H4.out.2)).mono HLO.out.1 |>.trans (hB.mono (Nat.le_trans HB.out.size (Nat.le_trans HRN.out.2.1.size H4.out.2.fr.size))))); clear hB))
          go_ret
          exact ⟨rfl, HGo.out⟩
        · have NA0 : Hid (Calls Try.prog 16 #[.pointer (some ⟨tb, 0, none⟩), .string ⟨#[42]⟩] wr fun e w' => ∃ o c, e = .returned (.slice o kn c) ∧ TxtRow w' (.slice o kn c) (srt ks) ∧ AtS w1.heap.size tb mn mh mk who cb w' w' S ∧ Below wr.heap.size wr w' ∧ ∀ a, o = some a → who a.block = none) := by
            rw [← HKN.out.2]
            exact (AtS.names (w1 := wr) ⟨HW.out.2.1, Stp.refl _ _⟩ HW.out.1 (by have := HW.out.2.2.1; omega) HKN.out.1 (fun _ => rfl)).mono fun e w' ⟨o, c, he, hr, hA, hB, hn⟩ => ⟨o, c, he, hr, ⟨hA.1, Stp.refl _ _⟩, hB, fun x hx => HW.out.2.1.none_at (hn x hx)⟩
          have E0 : Hid (∀ wa W, AtS w1.heap.size tb mn mh mk who cb wa W S → Calls Try.prog 17 #[.pointer (some ⟨tb, 0, none⟩)] W fun e w' => e = .returned (.int .i64 (e0 : Int)) ∧ W = w') := fun wa W h => by have := h.epoch; rw [HEP.out] at this; exact this
          have F0 : Hid (∀ wa W, AtS w1.heap.size tb mn mh mk who cb wa W S → Calls Try.prog 18 #[.pointer (some ⟨tb, 0, none⟩), .string ⟨s.toArray⟩] W fun e w' => e = .returned (.int .i64 (f0 : Int)) ∧ AtS w1.heap.size tb mn mh mk who cb wa w' S) := fun wa W h => h.find HW.out.1 s (by omega) HF0.out
          have R0 : Hid (∀ wa W, AtS w1.heap.size tb mn mh mk who cb wa W S → Calls Try.prog 19 #[.pointer (some ⟨tb, 0, none⟩), .string ⟨s.toArray⟩, .string ⟨t.toArray⟩] W fun e w' => ∃ r : Int, e = .returned (.int .i64 r) ∧ (r == 0) = false ∧ AtS w1.heap.size tb mn mh mk who cb wa w' S) := fun wa W h => h.rename_no HW.out.1 (by have := HW.out.2.2.2; omega) s t (by omega) (by omega) hA
          have hnm2 : ∀ h k, S.nm h k = S.nm h k := fun _ _ => rfl
          have hW2 := HW.out.1
          have hep2 : S.epoch = e0 := HEP.out
          have hla2 := HW.out.2.2.1
          have D2 : Hid (∀ wa W, AtS w1.heap.size tb mn mh mk who cb wa W S → Calls Try.prog 20 #[.pointer (some ⟨tb, 0, none⟩), .string ⟨s.toArray⟩, .string ⟨t.toArray⟩] W fun e w' => ∃ r : Int, e = .returned (.int .i64 r) ∧ (r == 0) = false ∧ AtS w1.heap.size tb mn mh mk who cb wa w' S) := fun wa W h => h.hide_no hW2 (by have := HW.out.2.2.2; omega) s t (by omega) (by omega) (fun ⟨m, hm1, hm2⟩ => hB' ⟨m, by rw [← hnm2]; exact hm1, by rw [← hnm2]; exact hm2⟩)
          have hnm4 := hnm2
          have hW4 := hW2
          have hla4 := hla2
          have NA4 : Hid (∀ wa W, AtS w1.heap.size tb mn mh mk who cb wa W S → Calls Try.prog 16 #[.pointer (some ⟨tb, 0, none⟩), .string ⟨#[42]⟩] W fun e w' => ∃ o c, e = .returned (.slice o kn c) ∧ TxtRow w' (.slice o kn c) (srt ks) ∧ AtS w1.heap.size tb mn mh mk who cb wa w' S ∧ Below W.heap.size W w') := fun wa W h => by
            rw [← HKN.out.2]
            exact (h.names hW4 (by omega) HKN.out.1 (fun k => hnm4 false k)).mono fun e w' ⟨o, c, he, hr, hA, hB, _⟩ => ⟨o, c, he, hr, hA, hB⟩
          have F4 : Hid (∀ wa W, AtS w1.heap.size tb mn mh mk who cb wa W S → Calls Try.prog 18 #[.pointer (some ⟨tb, 0, none⟩), .string ⟨s.toArray⟩] W fun e w' => e = .returned (.int .i64 (f0 : Int)) ∧ AtS w1.heap.size tb mn mh mk who cb wa w' S) := fun wa W h => h.find hW4 s (by omega) (by rw [hnm4]; exact HF0.out)
          try clear hn1
          try clear hn2
          try clear hf0
          try clear hS1
          try clear hS2
          try clear hth
          try clear hth1
          try clear hth2
          try clear hW1
          try clear hep1
          try clear hm1
          try clear hm2
          try clear hf1
          try clear hS3
          try clear hS4
          try clear htv
          try clear htv1
          try clear htv2
          try clear hW3
          try clear hep3
          try clear hep4
          try clear hA
          try clear hB'
          try clear hnm2
          try clear hW2
          try clear hep2
          try clear hla2
          try clear hnm4
          try clear hW4
          try clear hla4
          go_wp2_with (first
            | (go_at_call 17; refine (E0.out _ _ H0.out).mono ?_; rintro e we ⟨rfl, rfl⟩)
            | (go_at_call 18; with_reducible refine (F0.out _ _ H0.out).mono ?_; rintro e wf ⟨rfl, hA⟩; clear H0; have H0 := Lib.hid hA; clear hA)
            | (go_at_call 19; with_reducible refine (R0.out _ _ H0.out).mono ?_; rintro e wx ⟨r, rfl, hr0, hA⟩; clear H0; have H2 := Lib.hid hA; clear hA)
            | (go_at_call 20; with_reducible refine (D2.out _ _ H2.out).mono ?_; rintro e wx ⟨r, rfl, hr1, hA⟩; clear H2; have H4 := Lib.hid hA; clear hA)
            | (go_at_call 16; refine (NA4.out _ _ H4.out).mono ?_; rintro e wz ⟨o4, c4, rfl, hr, hA, hB⟩; clear H4; have H4 := Lib.hid hA; have HRZ := Lib.hid hr; clear hA hr hB)
            | (go_at_call 16; refine NA0.out.mono ?_; rintro e wn ⟨o0, c0, rfl, hr, hA, hB, hu⟩; have H0 := Lib.hid hA; have HRN := Lib.hid (And.intro hr (And.intro hB hu)); clear hr hA hB hu)
            | (go_at_call 18; with_reducible refine (F4.out _ _ H4.out).mono ?_; rintro e wf ⟨rfl, hA⟩; clear H4; have H4 := Lib.hid hA; clear hA)
            | (go_at_call 23; refine (same_yes _ (HRN.out.1.fr HRN.out.2.2 H4.out.2.fr) HRZ.out).mono ?_; rintro e ws ⟨rfl, hB⟩; have HA5 := H4.out.low hB; clear H4; have H4 := Lib.hid HA5; clear HA5 hB)
            | (go_at_call 7; refine (AW.out _).mono ?_; rintro e wG ⟨rfl, hB⟩; have HGo := Lib.hid (HB.out.trans (((low_stp HW.out.2.1 (Stp.of_below HRN.out.2.1)).trans (low_stp2 HW.out.2.1 HRN.out.2.1 H4.out.2)).mono HLO.out.1 |>.trans (hB.mono (Nat.le_trans HB.out.size (Nat.le_trans HRN.out.2.1.size H4.out.2.fr.size))))); clear hB))
          go_ret
          exact ⟨rfl, HGo.out⟩
theorem ren_any (l : List ActV) (ao : Option Addr) (cap : Nat) (hl : l.length ≤ 9223372036854775807) (hok : ∀ x ∈ l, AOk x) (s : Bs) (hp : s.length ≤ 140737488355328) (t : Bs) (hq : t.length ≤ 140737488355328) (w : World) (hR : ARow w.heap.size w ao l) :
    Calls Try.prog 4 #[.slice ao l.length cap, .string ⟨s.toArray⟩, .string ⟨t.toArray⟩] w fun e w' => e = .returned (.bool true) ∧ Below w.heap.size w w' := by
  by_cases h1 : lightB l = true
  · by_cases h2 : s.length + t.length ≤ 100
    · exact ren_yes l ao cap h1 hok s t h2 w hR
    · exact ren_not l ao cap hl hok s t w hR (.inr (by omega)) hp hq
  · exact ren_not l ao cap hl hok s t w hR (.inl (by simpa using h1)) hp hq
end Go.Proofs.Ytbbbenjakjejmaa
