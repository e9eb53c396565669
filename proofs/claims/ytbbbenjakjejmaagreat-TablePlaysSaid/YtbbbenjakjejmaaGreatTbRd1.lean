/- The reference's table: 'find', 'there', 'Epoch', 'Find', 'FindHidden'. -/
import Derived.Test.YtbbbenjakjejmaaGreatTbSim
import Derived.Deep.RegionWith
namespace Go.Proofs.YtbbbenjakjejmaaGreat
set_option linter.unusedVariables false
set_option linter.unusedSimpArgs false
open Go.RowKit Go.MapKept Go.WideMaps
def boxR (r : RC) : Obj := .cells #[.string ⟨r.name.toArray⟩, .bool r.hid, .bool r.there, .int .i64 (r.org : Int)] 68
theorem boxR_cells {w : World} {b : Nat} {r : RC} (h : w.heap[b]? = some (boxR r)) : w.cell? ⟨b, 0, none⟩ = some (.string ⟨r.name.toArray⟩) ∧ w.cell? ⟨b, 1, none⟩ = some (.bool r.hid) ∧ w.cell? ⟨b, 2, none⟩ = some (.bool r.there) ∧ w.cell? ⟨b, 3, none⟩ = some (.int .i64 (r.org : Int)) := by
  unfold boxR at h
  refine ⟨?_, ?_, ?_, ?_⟩ <;> simp [World.cell?, h]
section
variable {w : World} {B yb ep : Nat} {l : List RC} {v : Value} {S : TS}
set_option maxHeartbeats 800000 in
theorem rfind_any (h : Rf w B yb l ep v) (hs : Sim S l) (hW : WF S) (hl : S.last ≤ 100000) (name : Bs) (hid : Bool) {q : Nat} (hq : (S.nm hid name).getD 0 = q) :
    Calls Tryz.prog 51 #[.pointer (some ⟨yb, 0, none⟩), .string ⟨name.toArray⟩, .bool hid] w fun e w' => e = .returned (.int .i64 (q : Int)) ∧ Below w.heap.size w w' := by
  have hlen := hs.len
  obtain ⟨c0, _⟩ := h.cells
  obtain ⟨vo, vc, hv⟩ := h.shape
  obtain ⟨N, hN⟩ : ∃ N, l.length = N := ⟨_, rfl⟩
  have H := Lib.hid (And.intro h (And.intro hs (And.intro hW (And.intro hN (And.intro hq hv)))))
  rw [hv, hN] at c0
  have hNl : N ≤ 100000 := by omega
  clear h hs hW hlen hN hq hv hl
  go_enter Tryz.func51, Tryz.ntmps51
  go_wp2_with fail
  go_loopw [16] (fun i wr => ∃ k : Nat, k ≤ N ∧ i = .int .i64 (k : Int) ∧ Below w.heap.size w wr ∧ ∀ j r, j < k → l[j]? = some r → ¬ hitR name hid r) (fun i _ => N - (intOf i).toNat)
  case atStart => exact ⟨0, Nat.zero_le _, rfl, Below.refl _ _, fun j r hj => by omega⟩
  case round =>
    obtain ⟨k, hk, rfl, hB, hno⟩ := hrel
    by_cases hlt : k < N
    · have hkl : k < l.length := by have := H.out.2.2.2.1; omega
      have hr : l[k]? = some l[k] := List.getElem?_eq_getElem hkl
      obtain ⟨g, cap, hv, hg, d0, d1, d2, d3, _⟩ := (H.out.1.low hB).at_ hr
      rw [H.out.2.2.2.2.2] at hv
      injection hv with hv1 hv2 hv3
      subst hv1
      generalize l[k] = r at *
      obtain ⟨e0, e1, e2, e3⟩ := boxR_cells (heap_alloc_new wr (boxR r))
      unfold boxR at e0 e1 e2 e3
      have i1 : k < N := hlt
      have hw1 : IntKind.i64.wrap ((k : Int) + 1) = (k : Int) + 1 := IntWalk.i64_in _ (by omega)
      have HB := Lib.hid (And.intro (hB.alloc (o := boxR r) hB.size) (And.intro hno (And.intro hr hlt)))
      unfold boxR at HB
      obtain ⟨rn, rh, rt, ro⟩ := r
      simp only at d0 d1 d2 d3 e0 e1 e2 e3 HB
      clear hkl hr hg hB hno hk hlt hv2 hv3
      cases rt with
      | false =>
        have hmiss : ¬ hitR name hid ⟨rn, rh, false, ro⟩ := fun hh => by obtain ⟨a1, a2, a3⟩ := hh; simp_all
        have HM := Lib.hid hmiss
        clear hmiss
        go_wp2_with fail
        exact ⟨⟨k + 1, by have := HB.out.2.2.2; omega, by go_num, HB.out.1, fun j r hj hr hh => by
          rcases Nat.lt_succ_iff_lt_or_eq.1 hj with h | rfl
          · exact HB.out.2.1 j r h hr hh
          · rw [HB.out.2.2.1] at hr
            cases hr
            exact HM.out hh⟩, by have := HB.out.2.2.2; simp [intOf]; omega⟩
      | true =>
        by_cases hh : rh = hid
        · subst hh
          by_cases hnm : rn = name
          · subst hnm
            have hn := H.out.2.1.hit (name := rn) (hid := rh) H.out.2.2.1 HB.out.2.2.1 ⟨rfl, rfl, rfl⟩
            have hq := H.out.2.2.2.2.1
            rw [hn] at hq
            have hq1 : q = k + 1 := hq.symm
            have HQ := Lib.hid hq1
            have bn : (rn == rn) = true := beq_self_eq_true rn
            clear hn hq hq1
            go_wp2_with fail
            go_ret
            exact ⟨ret_int (by rw [HQ.out]; simp), HB.out.1⟩
          · have bn : (rn == name) = false := beq_eq_false_iff_ne.2 hnm
            have hmiss : ¬ hitR name rh ⟨rn, rh, true, ro⟩ := fun hh => by obtain ⟨a1, a2, a3⟩ := hh; simp_all
            have HM := Lib.hid hmiss
            clear hmiss
            go_wp2_with fail
            exact ⟨⟨k + 1, by have := HB.out.2.2.2; omega, by go_num, HB.out.1, fun j r hj hr hh => by
              rcases Nat.lt_succ_iff_lt_or_eq.1 hj with h | rfl
              · exact HB.out.2.1 j r h hr hh
              · rw [HB.out.2.2.1] at hr
                cases hr
                exact HM.out hh⟩, by have := HB.out.2.2.2; simp [intOf]; omega⟩
        · have hmiss : ¬ hitR name hid ⟨rn, rh, true, ro⟩ := fun hh => by obtain ⟨a1, a2, a3⟩ := hh; simp_all
          have HM := Lib.hid hmiss
          clear hmiss
          go_wp2_with fail
          exact ⟨⟨k + 1, by have := HB.out.2.2.2; omega, by go_num, HB.out.1, fun j r hj hr hh => by
            rcases Nat.lt_succ_iff_lt_or_eq.1 hj with h | rfl
            · exact HB.out.2.1 j r h hr hh
            · rw [HB.out.2.2.1] at hr
              cases hr
              exact HM.out hh⟩, by have := HB.out.2.2.2; simp [intOf]; omega⟩
    · obtain rfl : k = N := by omega
      have i1 : decide ((k : Int) < (k : Int)) = false := by rw [decide_eq_false_iff_not]; omega
      have hn : S.nm hid name = none := H.out.2.1.miss H.out.2.2.1 (fun i r hi => hno i r (by have := (List.getElem?_eq_some_iff.1 hi).1; have := H.out.2.2.2.1; omega) hi)
      have hq := H.out.2.2.2.2.1
      rw [hn] at hq
      have HB := Lib.hid (And.intro hB hq)
      clear hno hB hk hlt hq hn
      go_wp2_with fail
      go_ret
      exact ⟨ret_int (by rw [← HB.out.2]; simp), HB.out.1⟩
theorem rFind_any (h : Rf w B yb l ep v) (hs : Sim S l) (hW : WF S) (hl : S.last ≤ 100000) (name : Bs) {q : Nat} (hq : (S.nm false name).getD 0 = q) :
    Calls Tryz.prog 30 #[.pointer (some ⟨yb, 0, none⟩), .string ⟨name.toArray⟩] w fun e w' => e = .returned (.int .i64 (q : Int)) ∧ Below w.heap.size w w' := by
  have FI := Lib.hid (rfind_any h hs hW hl name false hq)
  clear h hs hW hq
  go_enter Tryz.func30, Tryz.ntmps30
  go_wp2_with (go_at_call 51; refine FI.out.mono ?_; rintro e w2 ⟨rfl, hB⟩; have H := Lib.hid hB; clear hB)
  go_ret
  exact ⟨rfl, H.out⟩
theorem rFindHidden_any (h : Rf w B yb l ep v) (hs : Sim S l) (hW : WF S) (hl : S.last ≤ 100000) (name : Bs) {q : Nat} (hq : (S.nm true name).getD 0 = q) :
    Calls Tryz.prog 32 #[.pointer (some ⟨yb, 0, none⟩), .string ⟨name.toArray⟩] w fun e w' => e = .returned (.int .i64 (q : Int)) ∧ Below w.heap.size w w' := by
  have FI := Lib.hid (rfind_any h hs hW hl name true hq)
  clear h hs hW hq
  go_enter Tryz.func32, Tryz.ntmps32
  go_wp2_with (go_at_call 51; refine FI.out.mono ?_; rintro e w2 ⟨rfl, hB⟩; have H := Lib.hid hB; clear hB)
  go_ret
  exact ⟨rfl, H.out⟩
theorem rEpoch_any (h : Rf w B yb l ep v) : Calls Tryz.prog 39 #[.pointer (some ⟨yb, 0, none⟩)] w fun e w' => e = .returned (.int .i64 (ep : Int)) ∧ w = w' := by
  have c1 := h.cells.2.1
  clear h
  go_enter Tryz.func39, Tryz.ntmps39
  go_wp2
  go_ret
  exact ⟨rfl, rfl⟩
set_option maxHeartbeats 800000 in
theorem rthere_any (h : Rf w B yb l ep v) (hs : Sim S l) (hW : WF S) (hl : S.last ≤ 100000) (i : Int) (hi : (Lit.int .i64 i).wf = true) {q : Bool} (hq : (S.num i).isSome = q) :
    Calls Tryz.prog 47 #[.pointer (some ⟨yb, 0, none⟩), .int .i64 i] w fun e w' => e = .returned (.bool q) ∧ w = w' := by
  have hlen := hs.len
  obtain ⟨c0, _⟩ := h.cells
  obtain ⟨vo, vc, hv⟩ := h.shape
  by_cases h1 : 1 ≤ i
  · have t1 : decide (1 ≤ i) = true := by simpa using h1
    by_cases h2 : i ≤ (l.length : Int)
    · obtain ⟨k, rfl⟩ : ∃ k : Nat, i = ((k + 1 : Nat) : Int) := ⟨(i - 1).toNat, by omega⟩
      have hr : l[k]? = some l[k] := List.getElem?_eq_getElem (by omega)
      rw [hs.num_at hr] at hq
      obtain ⟨g, cap, hv2, hg, d0, d1, d2, d3, _⟩ := h.at_ hr
      rw [hv2] at c0
      generalize l[k] = r at *
      have hq2 : r.there = q := by rw [← hq]; cases r.there <;> rfl
      rw [hq2] at d2
      obtain ⟨N, hN⟩ : ∃ N, l.length = N := ⟨_, rfl⟩
      rw [hN] at c0 h2
      obtain ⟨m, hm⟩ : ∃ m, k + 1 = m := ⟨_, rfl⟩
      rw [hm] at t1 h1 h2 ⊢
      have t2 : decide ((m : Int) ≤ (N : Int)) = true := by simpa using h2
      have hw1 : IntKind.i64.wrap ((m : Int) - 1) = (k : Int) := by rw [IntWalk.i64_in _ (by omega)]; omega
      have i1 : k < N := by omega
      have t3 : m ≤ N := by omega
      clear h hs hW hlen hv hv2 hr hq hq2 hi d0 d1 d3 hg h1 h2 hm hN
      go_enter Tryz.func47, Tryz.ntmps47
      go_wp2_with fail
      go_ret
      exact ⟨rfl, rfl⟩
    · rw [hs.num_past (by omega) hW] at hq
      subst hq
      rw [hv] at c0
      have t2 : decide (i ≤ (l.length : Int)) = false := by rw [decide_eq_false_iff_not]; exact h2
      generalize l.length = N at *
      clear h hs hW hlen hv hi h1 h2
      go_enter Tryz.func47, Tryz.ntmps47
      go_wp2_with fail
      go_ret
      exact ⟨rfl, rfl⟩
  · have t1 : decide (1 ≤ i) = false := by simpa using h1
    rw [num_neg (by omega) hW] at hq
    subst hq
    clear h hs hW hlen hv hi c0
    go_enter Tryz.func47, Tryz.ntmps47
    go_wp2_with fail
    go_ret
    exact ⟨rfl, rfl⟩
end
end Go.Proofs.YtbbbenjakjejmaaGreat
