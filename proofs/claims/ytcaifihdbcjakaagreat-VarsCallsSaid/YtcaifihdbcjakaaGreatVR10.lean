/- The reference's space, just made: Link to another name. -/
import Derived.Test.YtcaifihdbcjakaaGreatVR9
namespace Go.Proofs.YtcaifihdbcjakaaGreat
set_option linter.unusedVariables false
set_option linter.unusedSimpArgs false
open Go.RowKit

theorem ent_second {B : Nat} {W w3 : World} {y row sc nm own : Nat} {nv : Value} {name t1 : Bs} {e : Ending} (hns : Ns B W y row sc nv [(name, nm, own)]) (hc : W.heap[own]? = some (clB nilS nilS (.pointer none))) (hne : name ≠ t1) (h : EntRes B W y row sc nv [(name, nm, own)] t1 e w3) :
    ∃ nm2 own2, e = .returned (.pointer (some ⟨nm2, 0, none⟩)) ∧ w3.heap[nm]? = some (nmB name own) ∧ w3.heap[nm2]? = some (nmB t1 own2) ∧ w3.heap[own]? = some (clB nilS nilS (.pointer none)) ∧ w3.heap[own2]? = some (clB nilS nilS (.pointer none)) ∧ ¬ own2 = own ∧ Kp (sc :: nv.ownBlock.toList) W w3 ∧ W.heap.size ≤ own2 := by
  obtain ⟨nm2, own2, nv', L', rfl, hns2, hkp, ⟨hm, _⟩ | ⟨_, rfl, hc2, h1, h2, _⟩⟩ := h
  · simp at hm; exact absurd hm.1.symm hne
  · have hl := (Array.getElem?_eq_some_iff.1 hc).1
    refine ⟨nm2, own2, rfl, hns2.nm (name, nm, own) (by simp), hns2.nm (t1, nm2, own2) (by simp), ?_, hc2, by omega, hkp, h2⟩
    refine (hkp.block own hl (fun hm => ?_)).trans hc
    exact ((ent_typed (T := NotCel) hns celS celN own hm).ne hc (fun x => x.1 rfl)) rfl

set_option maxRecDepth 100000 in
set_option maxHeartbeats 3200000 in
theorem rLinkTo_plain {B : Nat} {w : World} {y row sc : Nat} (hB : B ≤ w.heap.size) (h : Ns B w y row sc nilS []) {name word : Bs} (hw : name.length ≤ 1000000) (hww : word.length ≤ 1000000) (hs : (splitC name).2.2 = false) (hne : name ≠ (splitC word).1) (hs2 : (splitC word).2.2 = false) :
    Calls Tryz.prog 56 #[.pointer (some ⟨y, 0, none⟩), .int .i64 0, .string ⟨name.toArray⟩, .pointer (some ⟨y, 0, none⟩), .int .i64 0, .string ⟨word.toArray⟩] w fun e w' => IntKp [sc] w e w' := by
  have HA := Lib.hid (rat_any h.spc (n := 0) (by decide))
  rw [if_pos rfl] at HA
  have hc2 := fun W => eq_scp_nil sc W
  have hc3 := eq_tg_nil
  have HS := Lib.hid (fun W => rSplit_any name hw W)
  have HW := Lib.hid (fun W => rSplit_any word hww W)
  obtain ⟨q, hq⟩ : ∃ q, splitC name = q := ⟨_, rfl⟩
  rw [hq] at HS hs
  obtain ⟨s1, s2, el⟩ := q
  simp only at hs
  subst hs
  obtain ⟨q, hq2⟩ : ∃ q, splitC word = q := ⟨_, rfl⟩
  rw [hq2] at HW hne hs2
  obtain ⟨t1, t2, el2⟩ := q
  simp only at hne hs2
  subst hs2
  have HE := Lib.hid (fun m => entry_any (name := name) (w := w.drewN m) (by simpa using hB) (h.keep ((Kp.refl [] w).drewN m)) (by simp))
  have HE2 : Hid (∀ w1 nm own nv m, Ns B w1 y row sc nv [(name, nm, own)] → w.heap.size ≤ w1.heap.size → Calls Tryz.prog 59 #[.pointer (some ⟨sc, 0, none⟩), .string ⟨t1.toArray⟩] (w1.drewN m) fun e w' => EntRes B (w1.drewN m) y row sc nv [(name, nm, own)] t1 e w') := by
    intro w1 nm own nv m hns hsz
    exact entry_any (name := t1) (by simp; omega) (hns.keep ((Kp.refl [] w1).drewN m)) (by simp)
  have HNE := Lib.hid hne
  clear hq hq2 h hne
  have tok1 : True := trivial
  go_enter Tryz.func56, Tryz.ntmps56
  go_wp2_with (first | (go_at_call 58; refine HA.out.mono ?_; rintro e w1 ⟨rfl, rfl⟩) | (go_at_call_of 76 (Value.string ⟨name.toArray⟩); refine (HS.out _).mono ?_; rintro e w1 ⟨rfl, m, rfl⟩) | (go_at_call 76; refine (HW.out _).mono ?_; rintro e w2 ⟨rfl, m2, rfl⟩) | (go_at_call 59; have _t := tok1; refine (HE.out _).mono ?_; intro e w1 hr; obtain ⟨nm, own, nv1, rfl, hns, hkp, hnm, hob, hnew, _, hrow⟩ := ent_first hr; obtain ⟨n0, n1, n2, nf2, nl⟩ := nm3 hnm; obtain ⟨o0, o1, _, _, _, _, _, ol⟩ := cell9 hob; have HNS := Lib.hid hns; have HOB := Lib.hid hob; have HK := Lib.hid hkp; have HNEW := Lib.hid hnew; have HROW := Lib.hid hrow; clear hr hkp hnm hns hob tok1 _t hrow hnew) | (go_at_call 59; refine (HE2.out _ _ _ _ _ HNS.out (by have := HK.out.size; simpa using this)).mono ?_; intro e w3 hr; obtain ⟨nm2, own2, rfl, hnm, hnm2, ho, ho2, hoo, hkp2, hnew2⟩ := ent_second (HNS.out.keep ((Kp.refl [] w1).drewN m2)) (keep_drewN HOB.out m2) HNE.out hr; have HNM := Lib.hid hnm; have HNM2 := Lib.hid hnm2; have HO := Lib.hid ho; have HO2 := Lib.hid ho2; have HOO := Lib.hid hoo; have HK2 := Lib.hid hkp2; clear hr hnm hnm2 ho ho2 hoo hkp2 hnew2 n0 n1 n2 nf2 nl o0 o1 ol) | (go_at_call 79; refine (place_any HNM2.out).mono ?_; rintro e w4 ⟨rfl, hb4⟩; obtain ⟨n0, n1, n2, nf2, nl⟩ := nm3 (keep_below HNM.out hb4); have hEq := rother (keep_alloc (o' := .cells #[.pointer (some ⟨own2, 0, none⟩), .bool false, .string ⟨#[]⟩] 127) (keep_below HO2.out hb4)) (keep_alloc (keep_below HO.out hb4)) HOO.out; have HB4 := Lib.hid hb4; clear hb4))
  go_quiet (fail)
  go_wp2_with fail
  go_ret
  have K3 : Kp [sc] w w3 := ((((Kp.refl [sc] w).drewN m).trans HK.out (fun d hd => .inl hd)).drewN m2).trans HK2.out (fun d hd => by
    simp only [List.mem_cons, Option.mem_toList] at hd
    rcases hd with rfl | hd
    · exact .inl (by simp)
    · have := HROW.out d hd; simp at this; exact .inr this)
  exact ⟨⟨0, rfl⟩, (((K3.trans (kp_of_below HB4.out) (by simp)).alloc _).drewN _).setCell _ _ _ (.inr (by have := HNEW.out; simpa using this))⟩

theorem inn_fresh {B : Nat} {W w6 : World} {c : Nat} {idx : Bs} {e : Ending} (h : InnRes B W c nilS nilS (.pointer none) [] idx e w6) : ∃ d, e = .returned (fndV d true (some c)) ∧ Kp [c] W w6 := by
  obtain ⟨d, _, _, _, rfl, _, hkp, _⟩ := h
  exact ⟨d, rfl, by simpa [Value.ownBlock] using hkp⟩
theorem keep_typed {W w6 : World} {c b : Nat} {kv cv ofv : Value} {cur : Array Value} {t : TypeId} (hk : Kp [c] W w6) (hc : W.heap[c]? = some (clB kv cv ofv)) (hb : W.heap[b]? = some (Obj.cells cur t (0, 0))) (ht : t ≠ 99) : w6.heap[b]? = some (Obj.cells cur t (0, 0)) :=
  (hk.block b (Array.getElem?_eq_some_iff.1 hb).1 (by simpa using ne_of_type hb hc ht)).trans hb
theorem cells3 {w : World} {b : Nat} {x0 x1 x2 : Value} {t : TypeId} (h : w.heap[b]? = some (Obj.cells #[x0, x1, x2] t (0, 0))) :
    (w.cell? ⟨b, 0, none⟩ = some x0 ∧ w.cell? ⟨b, 1, none⟩ = some x1 ∧ w.cell? ⟨b, 2, none⟩ = some x2) ∧ (w.frozen? ⟨b, 0, none⟩ = false ∧ w.frozen? ⟨b, 1, none⟩ = false ∧ w.frozen? ⟨b, 2, none⟩ = false) ∧ b < w.heap.size := by
  refine ⟨⟨?_, ?_, ?_⟩, ⟨?_, ?_, ?_⟩, (Array.getElem?_eq_some_iff.1 h).1⟩
  all_goals first | (simp only [World.cell?, h]; rfl) | simp [World.frozen?, h]
theorem run_wrong (d c : Nat) (W : World) : (Instr.field TF (fndV d true (some c)) 2).run Tryz.prog W = .ok (.bool false) W := by kernel_rfl
abbrev tgB (c : Nat) : Obj := .cells #[.pointer (some ⟨c, 0, none⟩), .bool false, .string ⟨#[]⟩] 127 (0, 0)

set_option maxRecDepth 100000 in
set_option maxHeartbeats 3200000 in
theorem rLinkTo_el {B : Nat} {w : World} {y row sc : Nat} (hB : B ≤ w.heap.size) (h : Ns B w y row sc nilS []) {name word : Bs} (hw : name.length ≤ 1000000) (hww : word.length ≤ 1000000) (hs : (splitC name).2.2 = false) (hne : name ≠ (splitC word).1) (hs2 : (splitC word).2.2 = true) :
    Calls Tryz.prog 56 #[.pointer (some ⟨y, 0, none⟩), .int .i64 0, .string ⟨name.toArray⟩, .pointer (some ⟨y, 0, none⟩), .int .i64 0, .string ⟨word.toArray⟩] w fun e w' => IntKp [sc] w e w' := by
  have HA := Lib.hid (rat_any h.spc (n := 0) (by decide))
  rw [if_pos rfl] at HA
  have hc2 := fun W => eq_scp_nil sc W
  have hc3 := eq_tg_nil
  have HS := Lib.hid (fun W => rSplit_any name hw W)
  have HW := Lib.hid (fun W => rSplit_any word hww W)
  obtain ⟨q, hq⟩ : ∃ q, splitC name = q := ⟨_, rfl⟩
  rw [hq] at HS hs
  obtain ⟨s1, s2, el⟩ := q
  simp only at hs
  subst hs
  obtain ⟨q, hq2⟩ : ∃ q, splitC word = q := ⟨_, rfl⟩
  rw [hq2] at HW hne hs2
  obtain ⟨t1, t2, el2⟩ := q
  simp only at hne hs2
  subst hs2
  have HE := Lib.hid (fun m => entry_any (name := name) (w := w.drewN m) (by simpa using hB) (h.keep ((Kp.refl [] w).drewN m)) (by simp))
  have HE2 : Hid (∀ w1 nm own nv m, Ns B w1 y row sc nv [(name, nm, own)] → w.heap.size ≤ w1.heap.size → Calls Tryz.prog 59 #[.pointer (some ⟨sc, 0, none⟩), .string ⟨t1.toArray⟩] (w1.drewN m) fun e w' => EntRes B (w1.drewN m) y row sc nv [(name, nm, own)] t1 e w') := by
    intro w1 nm own nv m hns hsz
    exact entry_any (name := t1) (by simp; omega) (hns.keep ((Kp.refl [] w1).drewN m)) (by simp)
  have HIN : Hid (∀ W own2, W.heap[own2]? = some (clB nilS nilS (.pointer none)) → Calls Tryz.prog 77 #[fndV own2 false none, .string ⟨t2.toArray⟩] W fun e w6 => ∃ d, e = .returned (fndV d true (some own2)) ∧ Kp [own2] W w6) := by
    intro W own2 hc
    refine (inner_any (B := 0) (Nat.zero_le _) (Cel.fresh hc (Nat.zero_le _)) (by simp)).mono ?_
    intro e w6 hr
    exact inn_fresh hr
  have HNE := Lib.hid hne
  clear hq hq2 h hne
  have tok1 : True := trivial
  go_enter Tryz.func56, Tryz.ntmps56
  go_wp2_with (first | (go_at_call 58; refine HA.out.mono ?_; rintro e w1 ⟨rfl, rfl⟩) | (go_at_call_of 76 (Value.string ⟨name.toArray⟩); refine (HS.out _).mono ?_; rintro e w1 ⟨rfl, m, rfl⟩) | (go_at_call 76; refine (HW.out _).mono ?_; rintro e w2 ⟨rfl, m2, rfl⟩) | (go_at_call 59; have _t := tok1; refine (HE.out _).mono ?_; intro e w1 hr; obtain ⟨nm, own, nv1, rfl, hns, hkp, hnm, hob, hnew, _, hrow⟩ := ent_first hr; obtain ⟨n0, n1, n2, nf2, nl⟩ := nm3 hnm; obtain ⟨o0, o1, _, _, _, _, _, ol⟩ := cell9 hob; have HNS := Lib.hid hns; have HOB := Lib.hid hob; have HK := Lib.hid hkp; have HNEW := Lib.hid hnew; have HROW := Lib.hid hrow; clear hr hkp hnm hns hob tok1 _t hrow hnew) | (go_at_call 59; refine (HE2.out _ _ _ _ _ HNS.out (by have := HK.out.size; simpa using this)).mono ?_; intro e w3 hr; obtain ⟨nm2, own2, rfl, hnm, hnm2, ho, ho2, hoo, hkp2, hnew2⟩ := ent_second (HNS.out.keep ((Kp.refl [] w1).drewN m2)) (keep_drewN HOB.out m2) HNE.out hr; have HNM := Lib.hid hnm; have HNM2 := Lib.hid hnm2; have HO := Lib.hid ho; have HO2 := Lib.hid ho2; have HOO := Lib.hid hoo; have HK2 := Lib.hid hkp2; have HNEW2 : Hid (w.heap.size ≤ own2) := (by have := HK.out.size; simp at this hnew2; show _ ≤ _; omega); clear hr hnm hnm2 ho ho2 hoo hkp2 hnew2 n0 n1 n2 nf2 nl o0 o1 ol) | (go_at_call 79; refine (place_any HNM2.out).mono ?_; rintro e w4 ⟨rfl, hb4⟩; obtain ⟨n0, n1, n2, nf2, nl⟩ := nm3 (keep_below HNM.out hb4); have hEq := rother (keep_alloc (o' := .cells #[.pointer (some ⟨own2, 0, none⟩), .bool false, .string ⟨#[]⟩] 127) (keep_below HO2.out hb4)) (keep_alloc (keep_below HO.out hb4)) HOO.out; have HB4 := Lib.hid hb4; clear hb4))
  go_quiet (fail)
  have H4 : Hid (((w4.alloc (tgB own2)).drewN nq).heap[nm2]? = some (nmB t1 own2) ∧ ((w4.alloc (tgB own2)).drewN nq).heap[nm]? = some (nmB name own) ∧ ((w4.alloc (tgB own2)).drewN nq).heap[own2]? = some (clB nilS nilS (.pointer none)) ∧ ((w4.alloc (tgB own2)).drewN nq).heap[w4.heap.size]? = some (tgB own2)) :=
    ⟨keep_drewN (keep_alloc (keep_below HNM2.out HB4.out)) nq, keep_drewN (keep_alloc (keep_below HNM.out HB4.out)) nq, keep_drewN (keep_alloc (keep_below HO2.out HB4.out)) nq, keep_drewN (heap_alloc_new _ _) nq⟩
  go_wp2_with (first | (go_at_call 70; refine (found_any H4.out.1).mono ?_; rintro e w5 ⟨rfl, hb5⟩; have HB5 := Lib.hid hb5; clear hb5) | (go_at_call 77; refine (HIN.out _ own2 (keep_alloc (keep_below H4.out.2.2.1 HB5.out))).mono ?_; rintro e w6 ⟨d, rfl, hk6⟩; have hfld := run_wrong d own2 w6; have HNM6 := Lib.hid (keep_typed hk6 (keep_alloc (keep_below H4.out.2.2.1 HB5.out)) (keep_alloc (keep_below H4.out.2.1 HB5.out)) (by decide)); have HTG6 := Lib.hid (keep_typed hk6 (keep_alloc (keep_below H4.out.2.2.1 HB5.out)) (keep_alloc (keep_below H4.out.2.2.2 HB5.out)) (by decide)); obtain ⟨_, _, m2c, mf2, ml⟩ := nm3 HNM6.out; obtain ⟨⟨_, x1, x2⟩, ⟨_, xf1, xf2⟩, xl⟩ := cells3 HTG6.out; have hnt : nm ≠ w4.heap.size := (Nat.ne_of_lt nl); have HK6 := Lib.hid hk6; clear hk6))
  go_ret
  have K3 : Kp [sc] w w3 := ((((Kp.refl [sc] w).drewN m).trans HK.out (fun d hd => .inl hd)).drewN m2).trans HK2.out (fun d hd => by
    simp only [List.mem_cons, Option.mem_toList] at hd
    rcases hd with rfl | hd
    · exact .inl (by simp)
    · have := HROW.out d hd; simp at this; exact .inr this)
  have K4 : Kp [sc] w w4 := K3.trans (kp_of_below HB4.out) (by simp)
  have K6 : Kp [sc] w w6 := ((((K4.alloc (tgB own2)).drewN nq).trans (kp_of_below HB5.out) (by simp)).alloc _).trans HK6.out (by intro d hd; simp only [List.mem_singleton] at hd; subst hd; exact .inr HNEW2.out)
  have s4 := K4.size
  exact ⟨⟨0, rfl⟩, ((K6.setCell _ _ _ (.inr s4)).setCell _ _ _ (.inr s4)).setCell _ _ _ (.inr (by have := HNEW.out; simpa using this))⟩

theorem rLinkTo_any {B : Nat} {w : World} {y row sc : Nat} (hB : B ≤ w.heap.size) (h : Ns B w y row sc nilS []) {n to : Int} (hn : (Lit.int .i64 n).wf = true) (ht : (Lit.int .i64 to).wf = true) {name word : Bs} (hw : name.length ≤ 1000000) (hww : word.length ≤ 1000000) :
    Calls Tryz.prog 56 #[.pointer (some ⟨y, 0, none⟩), .int .i64 n, .string ⟨name.toArray⟩, .pointer (some ⟨y, 0, none⟩), .int .i64 to, .string ⟨word.toArray⟩] w fun e w' => IntKp [sc] w e w' := by
  by_cases h0 : n = 0 ∧ to = 0
  · obtain ⟨rfl, rfl⟩ := h0
    cases hs : (splitC name).2.2 with
    | true => exact rLinkTo_name h.spc hw hs
    | false =>
      by_cases he : name = (splitC word).1
      · exact rLinkTo_self hB h hw hww hs he.symm
      · cases hs2 : (splitC word).2.2 with
        | true => exact rLinkTo_el hB h hw hww hs he hs2
        | false => exact rLinkTo_plain hB h hw hww hs he hs2
  · exact rLinkTo_no h.spc hn ht h0

set_option maxRecDepth 100000 in
set_option maxHeartbeats 1600000 in
theorem rLink_any {B : Nat} {w : World} {y row sc : Nat} (hB : B ≤ w.heap.size) (h : Ns B w y row sc nilS []) {n to : Int} (hn : (Lit.int .i64 n).wf = true) (ht : (Lit.int .i64 to).wf = true) {name word : Bs} (hw : name.length ≤ 1000000) (hww : word.length ≤ 1000000) :
    Calls Tryz.prog 27 #[.pointer (some ⟨y, 0, none⟩), .int .i64 n, .string ⟨name.toArray⟩, .int .i64 to, .string ⟨word.toArray⟩] w fun e w' => IntKp [sc] w e w' := by
  have HL := Lib.hid (rLinkTo_any hB h hn ht hw hww)
  clear h
  go_enter Tryz.func27, Tryz.ntmps27
  go_wp2_with (go_at_call 56; refine HL.out.mono ?_; rintro e w1 ⟨⟨i, rfl⟩, hk⟩; have HK := Lib.hid hk; clear hk)
  go_ret
  exact ⟨⟨i, rfl⟩, HK.out⟩
end Go.Proofs.YtcaifihdbcjakaaGreat
