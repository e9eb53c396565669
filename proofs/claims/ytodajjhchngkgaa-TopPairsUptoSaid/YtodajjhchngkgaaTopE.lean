/- TopPairs: 'Pairs' of a value, 'enter', 'Enter' of a store. -/
import Derived.Test.YtodajjhchngkgaaTopS
import Derived.Test.YtodajjhchngkgaaSetsP
import Derived.Test.YtodajjhchngkgaaMergeR
import Derived.Test.YtodajjhchngkgaaShelf
import Derived.Deep.LoopGhost
import Derived.BigQuiet
import Derived.Deep.QuietTactic
import Derived.IntWalk
namespace Go.Proofs.Ytodajjhchngkgaa
set_option linter.unusedVariables false
set_option linter.unusedSimpArgs false
open Go.RowKit

theorem find_not : ∀ {ps : Prs} {k : Bs}, findP ps k = none → ∀ m (h : m < ps.length), ps[m].1 ≠ k
  | [], _, _, m, h => by simp at h
  | p :: r, k, hf, m, h => by
    rw [findP] at hf
    split at hf
    · cases hf
    · rename_i hp
      have hr : findP r k = none := by simpa using hf
      cases m with
      | zero => simpa using hp
      | succ m => simpa using find_not hr m (by simpa using h)
theorem find_none {ps : Prs} {k : Bs} (h : ∀ m (h : m < ps.length), ps[m].1 ≠ k) : findP ps k = none := by
  cases hf : findP ps k with
  | none => rfl
  | some j => obtain ⟨hj, e⟩ := find_lt hf; exact absurd e (h j hj)
theorem find_at {ps : Prs} {k : Bs} (hu : Uniq ps) {m : Nat} (h : m < ps.length) (hk : ps[m].1 = k) : findP ps k = some m := by
  cases hf : findP ps k with
  | none => exact absurd hk (find_not hf m h)
  | some j =>
    obtain ⟨hj, e⟩ := find_lt hf
    have hn : (keysP ps).Nodup := hu
    have h1 : (keysP ps)[j]'(by simpa [keysP] using hj) = (keysP ps)[m]'(by simpa [keysP] using h) := by simp [keysP, e, hk]
    rcases Nat.lt_trichotomy j m with hl | rfl | hl
    · exact absurd h1 ((List.pairwise_iff_getElem.1 hn) _ _ _ _ hl)
    · rfl
    · exact absurd h1.symm ((List.pairwise_iff_getElem.1 hn) _ _ _ _ hl)
theorem clone_any {v : Value} {ss : List Bs} {w : World} (ht : TxtRow w v ss) (hl : ss.length ≤ 1000000) :
    Calls Try.prog 35 #[v] w fun e w' => ∃ r, e = .returned r ∧ w'.ownsRow w.heap.size 9 1 r ss.length (ss.map sv) ∧ Below w.heap.size w w' := by
  obtain ⟨o, c, rfl, h1, h2, h3⟩ := ht
  cases o with
  | none =>
    have h0 : ss = [] := by
      rcases ss with _ | ⟨s, r⟩
      · rfl
      · obtain ⟨b, off, e, _⟩ := h3 0 (by simp); cases e
    subst h0
    exact (Try.slices_Clone_string_nil _ c w).mono fun e w' ⟨q1, q2⟩ => ⟨_, q1, World.ownsRow_nil _ _ _ _, q2 ▸ Below.refl _ _⟩
  | some a =>
    rcases hs : ss with _ | ⟨s, r⟩
    · exact (Try.slices_Clone_string_zero a c w).mono fun e w' ⟨r, q1, q2, _, q3⟩ => ⟨r, q1, q2, q3⟩
    · rw [← hs]
      obtain ⟨b, off, e, _⟩ := h3 0 (by simp [hs])
      cases e
      refine (Try.slices_Clone_string b off ss.length c (ss.map fun s => ⟨s.toArray⟩) w (by simp) (by omega) (fun j hj => ?_)).mono fun e w' ⟨r, q1, q2, _, q3⟩ => ⟨r, q1, ?_, q3⟩
      · have hj' : j < ss.length := by simpa using hj
        obtain ⟨b', off', e, _, hc⟩ := h3 j hj'
        cases e
        rw [hc]
        simp [List.getD, hj', sv]
      · have he : ((ss.map fun s => (⟨s.toArray⟩ : ByteArray)).take ss.length).map Value.string = ss.map sv := by
          rw [List.take_of_length_le (by simp), List.map_map]; rfl
        rw [he] at q2
        exact q2
theorem MaxIs.kp {w w' : World} {D : List Nat} (h : MaxIs w) (hk : Kp D w w') (hD : 0 ∉ D) : MaxIs w' := by
  have h0 := h.pos
  obtain ⟨m, hm⟩ := h
  exact ⟨m, by simp only [World.cell?] at hm ⊢; rw [hk.block 0 h0 hD]; exact hm⟩
theorem ValAt.maxne {w : World} {vb sb : Nat} {t : Bs} {f : Value} (h : ValAt w vb sb t f) (hM : MaxIs w) : 0 ≠ vb ∧ 0 ≠ sb := by
  obtain ⟨m, hm⟩ := hM
  constructor
  · rintro rfl
    rw [(vcells2 h.v).1] at hm; cases hm
  · rintro rfl
    rw [(vcells3 h.s).1] at hm; cases hm
theorem ValAt.low {B : Nat} {w w' : World} {vb sb : Nat} {t : Bs} {f : Value} (h : ValAt w vb sb t f) (k : Below B w w') (h1 : vb < B) (h2 : sb < B) : ValAt w' vb sb t f :=
  ⟨h.ne, (k.block vb h1).trans h.v, (k.block sb h2).trans h.s⟩
theorem Kp.low {D : List Nat} {w w1 w2 : World} (h : Kp D w w1) (k : Below w.heap.size w1 w2) : Kp D w w2 :=
  ⟨k.os.trans h.os, k.tape.trans h.tape, k.output.trans h.output, Nat.le_trans h.size k.size, fun b hb hn => (k.block b hb).trans (h.block b hb hn)⟩
theorem assert_nil (w : World) : (Instr.typeAssert .nilIface 68 71 true).run Try.prog w = .ok (.tuple #[.slice none 0 0, .bool false]) w := by kernel_rfl
theorem vPairs_any {w : World} {vb sb : Nat} {t : Bs} {ps : Prs} (h : ValAt w vb sb t .nilIface) (ht : t.length ≤ 19999) (hr : readC t = some ps) :
    Calls Try.prog 11 #[.pointer (some ⟨vb, 0, none⟩)] w fun e w' => ∃ r f', e = .returned (.tuple #[r, .int .i64 0]) ∧ w'.ownsRow w.heap.size 9 1 r (flatP ps).length ((flatP ps).map sv) ∧ ValAt w' vb sb t f' ∧ Kp [vb] w w' := by
  have hrl := read_len hr
  have hfl := flatP_len ps
  have hvl := h.ltv
  have TX := Lib.hid (vText_any h)
  have DP : Hid (Calls Try.prog 12 #[.string ⟨t.toArray⟩] w fun e w' => ∃ r, e = .returned (.tuple #[r, .int .i64 0]) ∧ Below w.heap.size w w' ∧ w'.ownsRow w.heap.size 9 1 r (flatP ps).length ((flatP ps).map sv)) := (Pairs_any t ht w).mono fun e w' ⟨r, err, he, hb, h⟩ => by
    rcases h with ⟨h', _⟩ | ⟨ps', h', rfl, ho⟩
    · rw [hr] at h'; cases h'
    · rw [hr] at h'; cases h'
      exact ⟨r, he, hb, ho⟩
  have KE : Hid (∀ (W : World) (u : TypeId) (g : Value), Below w.heap.size w W → Calls Try.prog 34 #[.pointer (some ⟨vb, 0, none⟩), .iface u g] W fun e w' => e = .returned (.tuple #[]) ∧ w' = W.setCell ⟨vb, 1, none⟩ (.iface u g)) := fun W u g hB => vkeep_any (h.below hB) u g
  have CL : Hid (∀ (W : World) (v : Value) (u : TypeId) (g : Value), W.ownsRow w.heap.size 9 1 v (flatP ps).length ((flatP ps).map sv) → Calls Try.prog 35 #[v] (W.setCell ⟨vb, 1, none⟩ (.iface u g)) fun e w' => ∃ r, e = .returned r ∧ w'.ownsRow W.heap.size 9 1 r (flatP ps).length ((flatP ps).map sv) ∧ Below W.heap.size (W.setCell ⟨vb, 1, none⟩ (.iface u g)) w') := fun W v u g ho => by
    have ho2 : (W.setCell ⟨vb, 1, none⟩ (.iface u g)).ownsRow w.heap.size 9 1 v (flatP ps).length ((flatP ps).map sv) := ownsRow_kp ho ((Kp.refl [vb] W).setCell vb 1 _ (.inl (by simp))) (fun b hb => by have := (ho.lt b hb).1; simp; omega)
    have hz : (W.setCell ⟨vb, 1, none⟩ (.iface u g)).heap.size = W.heap.size := by simp [World.setCell]
    have hc := clone_any (TxtRow.of_owns ho2) (by omega)
    rw [hz] at hc
    exact hc
  have HV := Lib.hid (And.intro h hvl)
  obtain ⟨c0, c1, _⟩ := vcells2 h.v
  have AN := assert_nil
  clear h hvl hr hrl hfl ht
  go_enter Try.func11, Try.ntmps11
  go_wp2_with (first | (go_at_call 33; refine TX.out.mono ?_; rintro e w1 ⟨rfl, rfl⟩) | (go_at_call 12; refine DP.out.mono ?_; rintro e w2 ⟨r, rfl, q1, q2⟩; have H2 := Lib.hid (And.intro q1 q2); clear q1 q2) | (go_at_call 34; refine (KE.out _ _ _ H2.out.1).mono ?_; rintro e w3 ⟨rfl, rfl⟩) | (go_at_call 35; refine (CL.out _ _ _ _ H2.out.2).mono ?_; rintro e w4 ⟨r4, rfl, q3, q4⟩; have H4 := Lib.hid (And.intro q3 q4); clear q3 q4))
  go_ret2
  have hb := H2.out.1
  have hv := HV.out.1.below hb
  have hb4 : Below (w2.setCell ⟨vb, 1, none⟩ (.iface 71 r)).heap.size (w2.setCell ⟨vb, 1, none⟩ (.iface 71 r)) w4 := by
    have := H4.out.2
    simpa [World.setCell] using this
  refine ⟨_, _, rfl, ?_, (vset_face hv _).below hb4, ((kp_of_below hb).mono (by simp)).trans (((Kp.refl [vb] w2).setCell vb 1 _ (.inl (by simp))).trans ((kp_of_below hb4).mono (by simp)) (fun d hd => .inl hd)) (fun d hd => .inl hd)⟩
  have ho := H4.out.1
  exact ⟨ho.1, ho.2.imp id (fun ⟨g, c, cur, q1, q2, q3⟩ => ⟨g, c, cur, q1, Nat.le_trans hb.size q2, q3⟩)⟩
theorem venter_any {w : World} {vb sb : Nat} {t T : Bs} {f : Value} {ss : List Bs} {v : Value} (h : ValAt w vb sb t f) (hM : MaxIs w) (ht : TxtRow w v ss) (hT : joinE ss = (T, 0)) (u : TypeId) (g : Value) :
    Calls Try.prog 45 #[.pointer (some ⟨vb, 0, none⟩), v, .iface u g] w fun e w' => e = .returned (.int .i64 0) ∧ ValAt w' vb sb T (.iface u g) ∧ Kp [vb, sb] w w' := by
  have hl : ss.length ≤ 10000 := by
    unfold joinE at hT
    split at hT
    · rename_i h1; exact h1.1
    · cases hT
  have JO := Join_any v ss w hM ht
  rw [hT] at JO
  have JO2 := Lib.hid JO
  have hsl : ∃ o c, v = .slice o ss.length c := by
    obtain ⟨o, c, e, _⟩ := ht
    exact ⟨o, c, e⟩
  have PU : Hid (∀ W, Below w.heap.size w W → Calls Try.prog 55 #[.pointer (some ⟨vb, 0, none⟩), .string ⟨T.toArray⟩, .iface u g] W fun e w' => e = .returned (.tuple #[]) ∧ ValAt w' vb sb T (.iface u g) ∧ Kp [vb, sb] W w') := fun W hB => vput_any (h.below hB) T u g
  clear h hM ht hT JO
  obtain ⟨o, c, rfl⟩ := hsl
  generalize ss.length = n at *
  go_enter Try.func45, Try.ntmps45
  go_wp2_with (first | (go_at_call 6; refine JO2.out.mono ?_; rintro e w1 ⟨rfl, hB⟩; have H1 := Lib.hid hB; clear hB) | (go_at_call 55; refine (PU.out _ H1.out).mono ?_; rintro e w2 ⟨rfl, q1, q2⟩; have H2 := Lib.hid (And.intro q1 q2); clear q1 q2))
  go_ret
  exact ⟨rfl, H2.out.1, ((kp_of_below H1.out).mono (by simp)).trans H2.out.2 (fun d hd => .inl hd)⟩
/-- Where the loop of 'Enter' has found the key. -/
def AtI (ps : Prs) (key : Bs) (j : Nat) (a : Int) : Prop := (a = -1 ∧ ∀ m (h : m < ps.length), m < j → ps[m].1 ≠ key) ∨ ∃ m, ∃ h : m < ps.length, m < j ∧ a = ((2 * m : Nat) : Int) ∧ ps[m].1 = key
set_option maxRecDepth 100000 in
set_option maxHeartbeats 1600000 in
theorem sEnter_any {w : World} {st g c vb sb : Nat} {t T : Bs} {ps : Prs} (h : StoreAt w st g c vb sb t .nilIface) (hM : MaxIs w) (ht : t.length ≤ 19999) (hr : readC t = some ps) (key text : Bs) (hT : joinE (flatP (setP ps key text)) = (T, 0)) :
    Calls Try.prog 17 #[.pointer (some ⟨st, 0, none⟩), .int .i64 0, .string ⟨key.toArray⟩, .string ⟨text.toArray⟩] w fun e w' => e = .returned (.int .i64 0) ∧ (∃ f', StoreAt w' st g c vb sb T f') ∧ Kp [vb, sb] w w' := by
  have hrl := read_len hr
  have hu := read_uniq hr
  have hfl := flatP_len ps
  have GO : Hid (Calls Try.prog 44 #[.pointer (some ⟨st, 0, none⟩), .int .i64 0] w fun e w' => e = .returned (.tuple #[.pointer (some ⟨vb, 0, none⟩), .int .i64 0]) ∧ w = w') := (sgot_any h).mono fun e w' ⟨h1, h2⟩ => ⟨h1, h2.symm⟩
  have PA := Lib.hid (vPairs_any h.val ht hr)
  have EN : Hid (∀ (W : World) (v : Value) (f : Value) (u : TypeId) (x : Value), ValAt W vb sb t f → MaxIs W → TxtRow W v (flatP (setP ps key text)) → Calls Try.prog 45 #[.pointer (some ⟨vb, 0, none⟩), v, .iface u x] W fun e w' => e = .returned (.int .i64 0) ∧ ValAt w' vb sb T (.iface u x) ∧ Kp [vb, sb] W w') := fun W v f u x h1 h2 h3 => venter_any h1 h2 h3 hT u x
  have HH := Lib.hid (And.intro h (And.intro hM hu))
  obtain ⟨n, hn⟩ : ∃ n, (flatP ps).length = n := ⟨_, rfl⟩
  have HN := Lib.hid (And.intro hn (And.intro hfl hrl))
  have hn2 : n ≤ 100000 := by omega
  rw [hn] at PA
  clear h hM ht hr hT hrl hu hfl hn
  go_enter Try.func17, Try.ntmps17
  go_wp2_with (first | (go_at_call 44; refine GO.out.mono ?_; rintro e w1 ⟨rfl, rfl⟩) | (go_at_call 11; refine PA.out.mono ?_; rintro e w2 ⟨r, f', rfl, q1, q2, q3⟩; obtain ⟨ao, cap, rfl⟩ := owns_slice q1; have H2 := Lib.hid (And.intro q1 (And.intro q2 q3)); clear q1 q2 q3))
  go_loopg [12, 13] ps.length (fun g a i wr => ∃ (j : Nat) (z : Int), j + g = ps.length ∧ a = .int .i64 z ∧ i = .int .i64 ((2 * j : Nat) : Int) ∧ wr = w2 ∧ Hid (AtI ps key j z))
  case atStart => exact ⟨0, -1, by omega, rfl, rfl, rfl, .inl ⟨rfl, fun m _ h => by omega⟩⟩
  case round =>
    obtain ⟨j, z, hjg, rfl, rfl, rfl, HI⟩ := hrel
    obtain ⟨hn, hfl, hrl⟩ := HN.out
    by_cases hlt : j < ps.length
    · obtain ⟨z1, hc0, hcm, h0⟩ := (TxtRow.of_owns (ss := flatP ps) (by rw [hn]; exact H2.out.1)).at_
      obtain ⟨g0, f0, rfl, hl0, hc⟩ := h0 (2 * j) (by omega)
      rw [(flat_at' hlt).1] at hc
      obtain ⟨q, hq⟩ : ∃ q, q = ps[j].1 := ⟨_, rfl⟩
      rw [← hq] at hc
      obtain ⟨jj, hjj⟩ : ∃ jj, 2 * j = jj := ⟨_, rfl⟩
      rw [hjj] at hc ⊢
      have hcx : wr.cell? ⟨g0, f0 + jj, none⟩ = some (.string ⟨q.toArray⟩) := hc
      have t0 : decide ((jj : Int) < (n : Int)) = true := by rw [decide_eq_true_eq]; omega
      have i1 : jj < n := by omega
      have HJ := Lib.hid (And.intro hjj (And.intro hjg hlt))
      have HI2 := HI
      by_cases hk : q = key
      · have HA : Hid (AtI ps key (j + 1) ((jj : Nat) : Int)) := .inr ⟨j, hlt, by omega, by rw [hjj], hq ▸ hk⟩
        subst hk
        clear HI HI2 z1 hc0 hcm h0 hc hq hjg hlt hjj hn hfl hrl
        go_wp2_with fail
        go_roundg (gk - 1)
        case measure => have := HJ.out; omega
        case rel => exact ⟨j + 1, _, by have := HJ.out; omega, rfl, by have := HJ.out; rw [show 2 * (j + 1) = jj + 2 by omega]; go_num, rfl, HA⟩
      · have HA : Hid (AtI ps key (j + 1) z) := by
          rcases HI.out with ⟨h1, h2⟩ | ⟨m, hm, h1, h2⟩
          · refine .inl ⟨h1, fun m hm hmj => ?_⟩
            by_cases he : m = j
            · subst he; exact fun e => hk (hq.trans e)
            · exact h2 m hm (by omega)
          · exact .inr ⟨m, hm, by omega, h2⟩
        have hne : (⟨q.toArray⟩ : ByteArray) ≠ ⟨key.toArray⟩ := fun e => hk (by simpa using e)
        have hk2 : (q == key) = false := beq_eq_false_iff_ne.2 hk
        have hk3 : decide (q = key) = false := decide_eq_false_iff_not.2 hk
        clear HI HI2 z1 hc0 hcm h0 hc hq hjg hlt hjj hn hfl hrl
        go_wp2_with fail
        go_roundg (gk - 1)
        case measure => have := HJ.out; omega
        case rel => exact ⟨j + 1, _, by have := HJ.out; omega, rfl, by have := HJ.out; rw [show 2 * (j + 1) = jj + 2 by omega]; go_num, rfl, HA⟩
    · obtain rfl : j = ps.length := by omega
      have t0 : decide ((n : Int) < (n : Int)) = false := by rw [decide_eq_false_iff_not]; omega
      rw [show 2 * ps.length = n by omega]
      obtain ⟨hst, hM, hu⟩ := HH.out
      have hvl := hst.val.ltv
      have hsl := hst.val.lts
      obtain ⟨m1, m2⟩ := hst.val.maxne hM
      rcases HI.out with ⟨rfl, h2⟩ | ⟨m, hm, _, rfl, hk⟩
      · have HF := Lib.hid (flat_new ps key text (find_none (fun m hm => h2 m hm hm)))
        have HO := Lib.hid H2.out.1
        have PUT : Hid (∀ (W : World) (g1 c1 : Nat), W.ownsRow w.heap.size 9 1 (.slice (some ⟨g1, 0, none⟩) (n + 2) c1) (n + 2) ((flatP ps).map sv ++ [sv key, sv []]) → Below w.heap.size wr W → W.frozen? ⟨g1, n + 1, none⟩ = false ∧ (∃ u, W.cell? ⟨g1, n + 1, none⟩ = some u) ∧ ∀ (u : TypeId) (x : Value), Calls Try.prog 45 #[.pointer (some ⟨vb, 0, none⟩), .slice (some ⟨g1, 0, none⟩) (n + 2) c1, .iface u x] (W.setCell ⟨g1, n + 1, none⟩ (.string ⟨text.toArray⟩)) fun e w' => e = .returned (.int .i64 0) ∧ (∃ f', StoreAt w' st g c vb sb T f') ∧ Kp [vb, sb] w w') := by
          intro W g1 c1 ho hB
          obtain ⟨r1, r2, r3⟩ := row_set (i := n + 1) (sv text) ho (by omega)
          refine ⟨r1, r2, fun u x => ?_⟩
          have hg1 : w.heap.size ≤ g1 := (ho.lt g1 rfl).1
          have hBW : Below w.heap.size W (W.setCell ⟨g1, n + 1, none⟩ (.string ⟨text.toArray⟩)) := (Below.refl _ _).setCell hg1 _
          have hB2 := hB.trans hBW
          have hv : ValAt (W.setCell ⟨g1, n + 1, none⟩ (.string ⟨text.toArray⟩)) vb sb t f' := H2.out.2.1.low hB2 hvl hsl
          have hM2 : MaxIs (W.setCell ⟨g1, n + 1, none⟩ (.string ⟨text.toArray⟩)) := (hM.kp H2.out.2.2 (by simpa using m1)).below hB2 hM.pos
          have hset : ((flatP ps).map sv ++ [sv key, sv []]).set (n + 1) (sv text) = (flatP (setP ps key text)).map sv := by
            rw [HF.out, List.map_append, List.set_append_right _ _ (by simp; omega)]
            have : n + 1 - ((flatP ps).map sv).length = 1 := by simp; omega
            rw [this]; rfl
          have hlen : (flatP (setP ps key text)).length = n + 2 := by rw [HF.out]; simp; omega
          have hT : TxtRow (W.setCell ⟨g1, n + 1, none⟩ (.string ⟨text.toArray⟩)) (.slice (some ⟨g1, 0, none⟩) (n + 2) c1) (flatP (setP ps key text)) := by
            refine TxtRow.of_owns (base := w.heap.size) ?_
            rw [hlen, ← hset]; exact r3
          refine (EN.out _ _ _ u x hv hM2 hT).mono fun e w' ⟨p1, p2, p3⟩ => ?_
          have hk : Kp [vb, sb] w w' := ((H2.out.2.2.low hB2).mono (by simp)).trans p3 (fun d hd => .inl hd)
          exact ⟨p1, ⟨_, hst.turn hk p2⟩, hk⟩
        clear HI h2 hst hM hu hvl hsl m1 m2 hn hfl hrl hlt hjg EN
        go_wp2_with (first | (at_builtin; go_loud (refine wpList_pushTwo rfl (.tmp 48) (.tmp 50) 22 rfl w.heap.size 9 (.string ⟨#[]⟩) 16 Try.underlying22 infoStr rfl (.slice ao n cap) n _ (by simp [Act.eval, Act.put]) HO.out (.string ⟨key.toArray⟩) (.string ⟨#[]⟩) _ rfl rfl rfl rfl (by unfold maxLen; omega) (by omega) (H2.out.2.2.size) ?_); intro g1 c1 w3 hg1 hown3 hb3; have P3 := PUT.out _ _ _ hown3 hb3; obtain ⟨fz3, ⟨u3, cu3⟩, EN3⟩ := P3; replace EN3 := Lib.hid EN3; clear hg1 hown3 hb3) | (go_at_call 45; refine (EN3.out _ _).mono ?_; rintro e w4 ⟨rfl, q1, q2⟩; have H4 := Lib.hid (And.intro q1 q2); clear q1 q2))
        go_ret
        exact ⟨rfl, H4.out⟩
      · have HF := Lib.hid (flat_set ps key text m (find_at hu hm hk))
        obtain ⟨g0, hg0⟩ : ∃ g0, ao = some ⟨g0, 0, none⟩ := by
          rcases H2.out.1.2 with ⟨_, h0⟩ | ⟨g, _, _, he, _⟩
          · omega
          · cases he; exact ⟨g, rfl⟩
        subst hg0
        have ho := H2.out.1
        obtain ⟨r1, ⟨u1, r2⟩, r3⟩ := row_set (i := 2 * m + 1) (sv text) ho (by omega)
        have hg1 : w.heap.size ≤ g0 := (ho.lt g0 rfl).1
        have hB2 : Below w.heap.size wr (wr.setCell ⟨g0, 2 * m + 1, none⟩ (.string ⟨text.toArray⟩)) := (Below.refl _ _).setCell hg1 _
        have EN3 : Hid (∀ (u : TypeId) (x : Value), Calls Try.prog 45 #[.pointer (some ⟨vb, 0, none⟩), .slice (some ⟨g0, 0, none⟩) n cap, .iface u x] (wr.setCell ⟨g0, 2 * m + 1, none⟩ (.string ⟨text.toArray⟩)) fun e w' => e = .returned (.int .i64 0) ∧ (∃ f', StoreAt w' st g c vb sb T f') ∧ Kp [vb, sb] w w') := fun u x => by
          have hv : ValAt (wr.setCell ⟨g0, 2 * m + 1, none⟩ (.string ⟨text.toArray⟩)) vb sb t f' := H2.out.2.1.low hB2 hvl hsl
          have hM2 : MaxIs (wr.setCell ⟨g0, 2 * m + 1, none⟩ (.string ⟨text.toArray⟩)) := (hM.kp H2.out.2.2 (by simpa using m1)).below hB2 hM.pos
          have hlen : (flatP (setP ps key text)).length = n := by rw [HF.out]; simp; omega
          have hT : TxtRow (wr.setCell ⟨g0, 2 * m + 1, none⟩ (.string ⟨text.toArray⟩)) (.slice (some ⟨g0, 0, none⟩) n cap) (flatP (setP ps key text)) := by
            have h5 : TxtRow (wr.setCell ⟨g0, 2 * m + 1, none⟩ (.string ⟨text.toArray⟩)) (.slice (some ⟨g0, 0, none⟩) n cap) ((flatP ps).set (2 * m + 1) text) := by
              refine TxtRow.of_owns (base := w.heap.size) ?_
              rw [List.length_set, hn, List.map_set]; exact r3
            rw [HF.out]; exact h5
          refine (EN.out _ _ _ u x hv hM2 hT).mono fun e w' ⟨p1, p2, p3⟩ => ?_
          have hk : Kp [vb, sb] w w' := ((H2.out.2.2.low hB2).mono (by simp)).trans p3 (fun d hd => .inl hd)
          exact ⟨p1, ⟨_, hst.turn hk p2⟩, hk⟩
        obtain ⟨jj, hjj⟩ : ∃ jj, 2 * m = jj := ⟨_, rfl⟩
        have i1 : jj + 1 < n := by omega
        rw [hjj] at r1 r2 EN3 ⊢
        have i3 : (0 : Int) ≤ (jj : Int) + 1 := by omega
        have i4 : (jj : Int) + 1 < (n : Int) := by omega
        have i6 : jj ≤ 100000 := by omega
        have t1 : decide ((jj : Int) < 0) = false := by rw [decide_eq_false_iff_not]; omega
        have hj5 : IntKind.i64.wrap ((jj : Int) + 1) = (jj : Int) + 1 := IntWalk.i64_in _ (by omega)
        clear HI hst hM hu hvl hsl m1 m2 hn hfl hrl hlt hjg EN r3 hB2 hg1 ho hk hm hjj
        go_wp2_with (go_at_call 45; refine (EN3.out _ _).mono ?_; rintro e w4 ⟨rfl, q1, q2⟩; have H4 := Lib.hid (And.intro q1 q2); clear q1 q2)
        go_ret
        exact ⟨rfl, H4.out⟩
end Go.Proofs.Ytodajjhchngkgaa
