/- The reference's space, just made: Link. -/
import Derived.Test.YtcaifihdbcjakaaGreatVR8
import Derived.LaidEqlPtr
namespace Go.Proofs.YtcaifihdbcjakaaGreat
set_option linter.unusedVariables false
set_option linter.unusedSimpArgs false
open Go.RowKit

theorem infoRC : (Tryz.prog.info? 99).map (fun i => i.size) = some 9 := by kernel_rfl
theorem rsame (c : Nat) (W : World) : (binOp .eql 88 (.pointer (some ⟨c, 0, none⟩)) (.pointer (some ⟨c, 0, none⟩))).run Tryz.prog W = .ok (.bool true) W := by
  obtain ⟨j, hj, _⟩ := Option.map_eq_some_iff.1 infoRC
  exact run_eql_ptr_same W _ Tryz.underlying88 hj
theorem rother {W : World} {c d : Nat} {k1 c1 o1 k2 c2 o2 : Value} (h1 : W.heap[c]? = some (clB k1 c1 o1)) (h2 : W.heap[d]? = some (clB k2 c2 o2)) (hne : ¬ c = d) : ∀ m, (binOp .eql 88 (.pointer (some ⟨c, 0, none⟩)) (.pointer (some ⟨d, 0, none⟩))).run Tryz.prog (W.drewN m) = .ok (.bool false) (W.drewN m) := by
  intro m
  obtain ⟨j, hj, hjs⟩ := Option.map_eq_some_iff.1 infoRC
  exact run_eql_ptr_other (W.drewN m) Tryz.underlying88 hj (by rw [hjs]; decide) (by intro e; exact hne (by cases e; rfl)) (by simpa using h1) (by simpa using h2)

theorem ent_first {B : Nat} {w w1 : World} {y row sc : Nat} {name : Bs} {e : Ending} (h : EntRes B w y row sc nilS [] name e w1) :
    ∃ nm own nv, e = .returned (.pointer (some ⟨nm, 0, none⟩)) ∧ Ns B w1 y row sc nv [(name, nm, own)] ∧ Kp [sc] w w1 ∧ w1.heap[nm]? = some (nmB name own) ∧ w1.heap[own]? = some (clB nilS nilS (.pointer none)) ∧ w.heap.size ≤ nm ∧ w.heap.size ≤ own ∧ ∀ b, nv.ownBlock = some b → w.heap.size ≤ b := by
  obtain ⟨nm, own, nv', L', rfl, hns, hkp, ⟨hm, _⟩ | ⟨_, rfl, hc, h1, h2, h3⟩⟩ := h
  · simp at hm
  · simp only [List.nil_append] at hns
    exact ⟨nm, own, nv', rfl, hns, by simpa [Value.ownBlock] using hkp, hns.nm (name, nm, own) (by simp), hc, h1, h2, fun b hb => by rcases h3 b hb with e | e; simp [Value.ownBlock] at e; exact e⟩

theorem eq_scp_nil0 (W : World) : (binOp .eql 57 (.pointer none) (.pointer none)).run Tryz.prog W = .ok (.bool true) W := by kernel_rfl
theorem eq_tg_nil (W : World) : (binOp .eql 101 (.pointer none) (.pointer none)).run Tryz.prog W = .ok (.bool true) W := by kernel_rfl

set_option maxRecDepth 100000 in
set_option maxHeartbeats 1600000 in
theorem rLinkTo_no {w : World} {y row sc : Nat} {nv : Value} (h : Sc w y row sc nv) {n to : Int} (hn : (Lit.int .i64 n).wf = true) (ht : (Lit.int .i64 to).wf = true) (h0 : ¬ (n = 0 ∧ to = 0)) {name word : Bs} :
    Calls Tryz.prog 56 #[.pointer (some ⟨y, 0, none⟩), .int .i64 n, .string ⟨name.toArray⟩, .pointer (some ⟨y, 0, none⟩), .int .i64 to, .string ⟨word.toArray⟩] w fun e w' => IntKp [sc] w e w' := by
  have HA := Lib.hid (rat_any h hn)
  have HT := Lib.hid (rat_any h ht)
  have hc1 := eq_scp_nil0
  have hc2 := fun W => eq_scp_nil sc W
  by_cases hn0 : n = 0
  · subst hn0
    have ht0 : ¬ to = 0 := by simpa using h0
    rw [if_pos rfl] at HA
    rw [if_neg ht0] at HT
    clear h h0 ht0
    go_enter Tryz.func56, Tryz.ntmps56
    go_wp2_with (first | (go_at_call_of 58 (Value.int IntKind.i64 to); refine HT.out.mono ?_; rintro e w1 ⟨rfl, rfl⟩) | (go_at_call 58; refine HA.out.mono ?_; rintro e w1 ⟨rfl, rfl⟩))
    go_ret
    exact ⟨⟨_, rfl⟩, Kp.refl _ _⟩
  · rw [if_neg hn0] at HA
    have HT' : Hid (∃ v, Calls Tryz.prog 58 #[.pointer (some ⟨y, 0, none⟩), .int .i64 to] w fun e w' => e = .returned (.pointer v) ∧ w = w') := ⟨_, HT.out⟩
    clear h h0 hn0 HT
    obtain ⟨v, HT⟩ := HT'
    have HT := Lib.hid HT
    go_enter Tryz.func56, Tryz.ntmps56
    go_wp2_with (first | (go_at_call_of 58 (Value.int IntKind.i64 n); refine HA.out.mono ?_; rintro e w1 ⟨rfl, rfl⟩) | (go_at_call 58; refine HT.out.mono ?_; rintro e w1 ⟨rfl, rfl⟩))
    go_ret
    exact ⟨⟨_, rfl⟩, Kp.refl _ _⟩

set_option maxRecDepth 100000 in
set_option maxHeartbeats 1600000 in
theorem rLinkTo_name {w : World} {y row sc : Nat} {nv : Value} (h : Sc w y row sc nv) {name word : Bs} (hw : name.length ≤ 1000000) (hs : (splitC name).2.2 = true) :
    Calls Tryz.prog 56 #[.pointer (some ⟨y, 0, none⟩), .int .i64 0, .string ⟨name.toArray⟩, .pointer (some ⟨y, 0, none⟩), .int .i64 0, .string ⟨word.toArray⟩] w fun e w' => IntKp [sc] w e w' := by
  have HA := Lib.hid (rat_any h (n := 0) (by decide))
  rw [if_pos rfl] at HA
  have hc2 := fun W => eq_scp_nil sc W
  have HS := Lib.hid (fun W => rSplit_any name hw W)
  obtain ⟨q, hq⟩ : ∃ q, splitC name = q := ⟨_, rfl⟩
  rw [hq] at HS hs
  obtain ⟨s1, s2, el⟩ := q
  simp only at hs
  subst hs
  clear hq h
  go_enter Tryz.func56, Tryz.ntmps56
  go_wp2_with (first | (go_at_call 58; refine HA.out.mono ?_; rintro e w1 ⟨rfl, rfl⟩) | (go_at_call 76; refine (HS.out _).mono ?_; rintro e w1 ⟨rfl, m, rfl⟩))
  go_ret
  exact ⟨⟨_, rfl⟩, (Kp.refl _ _).drewN _⟩

set_option maxRecDepth 100000 in
set_option maxHeartbeats 1600000 in
theorem rLinkTo_self {B : Nat} {w : World} {y row sc : Nat} (hB : B ≤ w.heap.size) (h : Ns B w y row sc nilS []) {name word : Bs} (hw : name.length ≤ 1000000) (hww : word.length ≤ 1000000) (hs : (splitC name).2.2 = false) (hsame : (splitC word).1 = name) :
    Calls Tryz.prog 56 #[.pointer (some ⟨y, 0, none⟩), .int .i64 0, .string ⟨name.toArray⟩, .pointer (some ⟨y, 0, none⟩), .int .i64 0, .string ⟨word.toArray⟩] w fun e w' => IntKp [sc] w e w' := by
  have HA := Lib.hid (rat_any h.spc (n := 0) (by decide))
  rw [if_pos rfl] at HA
  have hc2 := fun W => eq_scp_nil sc W
  have hc3 := eq_tg_nil
  have HS := Lib.hid (fun W => rSplit_any name hw W)
  have HW := Lib.hid (fun W => rSplit_any word hww W)
  obtain ⟨q, hq⟩ : ∃ q, splitC name = q := ⟨_, rfl⟩
  rw [hq] at HS hs
  obtain ⟨s1, s2, el⟩ := q
  simp only at hs
  subst hs
  obtain ⟨q, hq2⟩ : ∃ q, splitC word = q := ⟨_, rfl⟩
  rw [hq2] at HW hsame
  obtain ⟨t1, t2, el2⟩ := q
  simp only at hsame
  subst hsame
  have HE := Lib.hid (fun m => entry_any (name := t1) (w := w.drewN m) (by simpa using hB) (h.keep ((Kp.refl [] w).drewN m)) (by simp))
  have HE2 : Hid (∀ w1 nm own nv m, Ns B w1 y row sc nv [(t1, nm, own)] → w.heap.size ≤ w1.heap.size → Calls Tryz.prog 59 #[.pointer (some ⟨sc, 0, none⟩), .string ⟨t1.toArray⟩] (w1.drewN m) fun e w' => e = .returned (.pointer (some ⟨nm, 0, none⟩)) ∧ w1.drewN m = w') := by
    intro w1 nm own nv m hns hsz
    refine (entry_any (name := t1) (by simp; omega) (hns.keep ((Kp.refl [] w1).drewN m)) (by simp)).mono ?_
    rintro e w' ⟨nm', own', nv', L', rfl, _, _, ⟨hm, _, rfl⟩ | ⟨hno, _⟩⟩
    · simp at hm; exact ⟨by rw [hm.1], rfl⟩
    · exact absurd rfl (hno (t1, nm, own) (by simp))
  clear hq hq2 h
  have hEq := fun c W => rsame c W
  have tok1 : True := trivial
  go_enter Tryz.func56, Tryz.ntmps56
  go_wp2_with (first | (go_at_call 58; refine HA.out.mono ?_; rintro e w1 ⟨rfl, rfl⟩) | (go_at_call_of 76 (Value.string ⟨t1.toArray⟩); refine (HS.out _).mono ?_; rintro e w1 ⟨rfl, m, rfl⟩) | (go_at_call 76; refine (HW.out _).mono ?_; rintro e w2 ⟨rfl, m2, rfl⟩) | (go_at_call 59; have _t := tok1; refine (HE.out _).mono ?_; intro e w1 hr; obtain ⟨nm, own, nv1, rfl, hns, hkp, hnm, hob, _, _, _⟩ := ent_first hr; obtain ⟨n0, n1, n2, nf2, nl⟩ := nm3 hnm; obtain ⟨o0, o1, _, _, _, _, _, ol⟩ := cell9 hob; have HNS := Lib.hid hns; have HNM := Lib.hid hnm; have HK := Lib.hid hkp; clear hr hkp hnm hns hob tok1 _t) | (go_at_call 59; refine (HE2.out _ _ _ _ _ HNS.out (by have := HK.out.size; simpa using this)).mono ?_; rintro e w3 ⟨rfl, rfl⟩) | (go_at_call 79; refine (place_any (keep_drewN HNM.out _)).mono ?_; rintro e w4 ⟨rfl, hb4⟩; have hc4 : w4.cell? ⟨nm, 1, none⟩ = some (.pointer (some ⟨own, 0, none⟩)) := (hb4.cell (p := ⟨nm, 1, none⟩) (by simpa using nl)).trans (by simpa using n1); have hl4 : nm < w4.heap.size := (by have := hb4.size; simp at this; omega); have HB4 := Lib.hid hb4; clear hb4))
  go_quiet (fail)
  go_wp2_with fail
  go_ret
  exact ⟨⟨9, rfl⟩, (((((((Kp.refl [sc] w).drewN m).trans HK.out (fun d hd => .inl hd)).drewN m2).trans (kp_of_below HB4.out) (by simp)).alloc _).drewN _)⟩
end Go.Proofs.YtcaifihdbcjakaaGreat
