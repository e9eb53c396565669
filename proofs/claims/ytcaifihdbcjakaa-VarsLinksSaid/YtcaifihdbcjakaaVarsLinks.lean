/- For all acts, scopes, names, words and values, 'VarsLinks' returns true: behind a link both names tell the same, and setting the one sets the other one. No condition. -/
import Derived.Test.YtcaifihdbcjakaaRows
import Derived.Test.YtcaifihdbcjakaaVActs
import Derived.Test.YtcaifihdbcjakaaVArgs
import Derived.ProofKit
import Derived.OpenShut
import Derived.ShutString
import Derived.SliceStrings
import Derived.Carry
namespace Go.Proofs.Ytcaifihdbcjakaa.varsLinks
open Go.ChangeShapes Go.WideShapes Go.ChangeAt Go.RowKit
open Go.ChangeMaps (open_string shut_string)
set_option linter.unusedVariables false
set_option linter.unusedSimpArgs false

set_option maxRecDepth 100000 in
set_option maxHeartbeats 6400000 in
theorem walk (l : List ActV) (ao : Option Addr) (cap : Nat) (hl : l.length ≤ 9223372036854775807) (hok : ∀ x ∈ l, AOk x) (i j : Int) (hi : (Lit.int .i64 i).wf = true) (hj : (Lit.int .i64 j).wf = true) (name other value : Bs) (h1 : name.length ≤ 140737488355328) (h2 : value.length ≤ 140737488355328) (h3 : other.length ≤ 140737488355328) (w : World) (hR : ARow w.heap.size w ao l) :
    Calls Try.prog 5 #[.slice ao l.length cap, .int .i64 i, .int .i64 j, .string ⟨name.toArray⟩, .string ⟨other.toArray⟩, .string ⟨value.toArray⟩] w fun e w' => e = .returned (.bool true) ∧ Below w.heap.size w w' := by
  have HL := Lib.hid (light_any l ao cap hl hok w hR)
  have HA := Lib.hid (acts_light name value other h1 h2 h3)
  by_cases g1 : lightB l = false
  · rw [g1] at HL
    clear hR hok g1
    go_enter Try.func5, Try.ntmps5
    go_wp2_with (first | (go_at_call 9; refine HL.out.mono ?_; rintro e w1 ⟨rfl, hb1⟩; have HB1 := Lib.hid hb1; clear hb1) | (go_at_call 6; refine (awake_any _).mono ?_; rintro e w2 ⟨rfl, hb2⟩))
    go_ret
    exact ⟨rfl, HB1.out.trans (hb2.mono HB1.out.size)⟩
  · have g1t : lightB l = true := by simpa using g1
    rw [g1t] at HL
    by_cases g2 : lightB (actsL name value other) = false
    · rw [g2] at HA
      clear hR hok g1 g2
      have HA' : Hid (∀ w, Calls Try.prog 9 #[.slice (some ⟨w.heap.size, 0, none⟩) 2 2] (w.alloc (.cells #[.int .i64 0, .int .i64 0, .int .i64 0, .string ⟨name.toArray⟩, .string ⟨value.toArray⟩, .int .i64 0, .int .i64 0, .int .i64 0, .string ⟨other.toArray⟩, .string ⟨#[]⟩] 29)) fun e w' => e = .returned (.bool false) ∧ Below w.heap.size w w') := fun w => HA.out w
      go_enter Try.func5, Try.ntmps5
      go_wp2_with (first | (go_at_call_of 9 (Value.slice ao l.length cap); refine HL.out.mono ?_; rintro e w1 ⟨rfl, hb1⟩; have HB1 := Lib.hid hb1; clear hb1) | (go_at_call 9; refine (HA'.out _).mono ?_; rintro e w3 ⟨rfl, hb3⟩; have HB3 := Lib.hid hb3; clear hb3) | (go_at_call 6; refine (awake_any _).mono ?_; rintro e w2 ⟨rfl, hb2⟩))
      go_ret
      exact ⟨rfl, HB1.out.trans ((HB3.out.mono HB1.out.size).trans (hb2.mono (Nat.le_trans HB1.out.size HB3.out.size)))⟩
    · have g2t : lightB (actsL name value other) = true := by simpa using g2
      rw [g2t] at HA
      obtain ⟨hl60, hlen⟩ := light_len g1t
      obtain ⟨_, hlen2⟩ := light_len g2t
      have q1 := (hlen2 ⟨0, 0, 0, name, value⟩ (by simp [actsL])).1
      have q2 := (hlen2 ⟨0, 0, 0, other, []⟩ (by simp [actsL])).1
      have HA' : Hid (∀ w, Calls Try.prog 9 #[.slice (some ⟨w.heap.size, 0, none⟩) 2 2] (w.alloc (.cells #[.int .i64 0, .int .i64 0, .int .i64 0, .string ⟨name.toArray⟩, .string ⟨value.toArray⟩, .int .i64 0, .int .i64 0, .int .i64 0, .string ⟨other.toArray⟩, .string ⟨#[]⟩] 29)) fun e w' => e = .returned (.bool true) ∧ Below w.heap.size w w') := fun w => HA.out w
      have HLEN := Lib.hid hlen
      have HOK := Lib.hid hok
      have HR := Lib.hid hR
      clear hR hok g1 g2 g1t g2t hlen hlen2 HA
      go_enter Try.func5, Try.ntmps5
      go_wp2_with (first | (go_at_call_of 9 (Value.slice ao l.length cap); refine HL.out.mono ?_; rintro e w1 ⟨rfl, hb1⟩; have HB1 := Lib.hid hb1; clear hb1) | (go_at_call 9; refine (HA'.out _).mono ?_; rintro e w3 ⟨rfl, hb3⟩; have HB3 : Hid (Below w.heap.size w w3) := HB1.out.trans (hb3.mono HB1.out.size); clear hb3) | (go_at_call 10; refine (New_any _).mono ?_; rintro e w4 ⟨x, sm, S, g, rfl, hG, hp, _, _⟩; have HX : Hid (XSt 0 w3.heap.size w3 x sm w4) := ⟨S, g, hG.rep, hp, hG.below, hG.below.size⟩; clear hG hp))
      go_loopw [38] (fun q wr => ∃ k : Nat, k ≤ l.length ∧ q = .int .i64 k ∧ XSt k w3.heap.size w3 x sm wr) (fun q _ => l.length - (intOf q).toNat)
      case atStart => exact ⟨0, Nat.zero_le _, rfl, HX.out⟩
      case round =>
        obtain ⟨k, hk, rfl, hst⟩ := hrel
        have HST := Lib.hid hst
        have HBW : Hid (Below w.heap.size w wr) := by obtain ⟨_, _, _, _, hb, _⟩ := hst; exact HB3.out.trans (hb.mono HB3.out.size)
        clear hst
        by_cases hlt : k < l.length
        · obtain ⟨b, off, rfl, hbl, hc⟩ := HR.out (by intro h; rw [h] at hlt; simp at hlt)
          obtain ⟨c0, c1, c2, c3, c4⟩ := hc k hlt
          have d0 := (HBW.out.cell (p := ⟨b, _, none⟩) hbl).trans c0
          have d1 := (HBW.out.cell (p := ⟨b, _, none⟩) hbl).trans c1
          have d2 := (HBW.out.cell (p := ⟨b, _, none⟩) hbl).trans c2
          have d3 := (HBW.out.cell (p := ⟨b, _, none⟩) hbl).trans c3
          have d4 := (HBW.out.cell (p := ⟨b, _, none⟩) hbl).trans c4
          have hx := Lib.hid (HOK.out l[k] (List.getElem_mem _))
          have hxl := Lib.hid (HLEN.out l[k] (List.getElem_mem _))
          generalize l[k] = v at *
          obtain ⟨vk, va, vb, vs, vt⟩ := v
          simp only at d0 d1 d2 d3 d4
          clear c0 c1 c2 c3 c4 hc
          have HN : Hid (∀ W, Kp [] wr W → W.heap[wr.heap.size]? = some (actB vk va vb vs vt) → Calls Try.prog 12 #[] W fun e w1 => ∃ y, e = .returned (.pointer (some ⟨y, 0, none⟩)) ∧ RMid k w3.heap.size w3 x sm y wr.heap.size (actB vk va vb vs vt) w1) := fun W hkk ho =>
            (rNew_any W).mono fun e w1 hr => rmid (by
              obtain ⟨S, g, r1, r2, r3, r4⟩ := HST.out
              exact ⟨S, g, r1.kp hkk (by simp), r2, r3.trans (hkk.below r4 (by simp)), Nat.le_trans r4 hkk.size⟩) ho hr
          go_wp2_with fail
          go_region_with ((first | (go_at_call 12; refine (HN.out _ (by exact ((Kp.refl [] wr).alloc _).drew) (by exact heap_alloc_new wr _)).mono ?_; rintro e w5 ⟨y, rfl, hm⟩; obtain ⟨⟨r0, r1, r2, r3, r4⟩, rl⟩ := cells5 hm.box; have HM := Lib.hid hm; clear hm) | (go_at_call 11; refine (rmid_play (v := ⟨vk, va, vb, vs, vt⟩) (by omega) HM.out hx.out hxl.out.1 hxl.out.2).mono ?_; rintro e w6 ⟨⟨bb, rfl⟩, hst⟩; have HST2 := Lib.hid hst; clear hst)))
          all_goals
            go_wp2_with fail
            exact ⟨⟨k + 1, by omega, by go_num, HST2.out⟩, by simp [intOf]; omega⟩
        · have hkl : k = l.length := by omega
          subst hkl
          obtain ⟨S, g, hRep, hp, hbl, hlo⟩ := HST.out
          have hm1 : name.length ≤ maxLen := by simp [maxLen]; omega
          have hm2 : other.length ≤ maxLen := by simp [maxLen]; omega
          have HFIN : Hid (∀ w7, Below w3.heap.size w3 w7 → Calls Try.prog 6 #[] w7 fun e w8 => e = .returned (.bool true) ∧ Below w.heap.size w w8) := fun w7 hb =>
            (awake_any w7).mono fun e w8 ⟨q1, q2⟩ => ⟨q1, HB3.out.trans ((hb.trans (q2.mono hb.size)).mono HB3.out.size)⟩
          have HLINK : Hid (Calls Try.prog 15 #[.pointer (some ⟨x, 0, none⟩), .int .i64 i, .string ⟨name.toArray⟩, .int .i64 j, .string ⟨other.toArray⟩] wr fun en w' => LinkRes l.length w3.heap.size S wr x sm g i j name other en w') := Link_any hlo hRep hp hi hj hm1 hm2
          have HP := Lib.hid hp
          have HBL := Lib.hid hbl
          clear hRep hp hbl
          go_wp2_with fail
          refine HLINK.out.mono ?_
          rintro e w5 ⟨r, rfl, ⟨hr, _, hG⟩ | ⟨hr, S1, c, nn, m, f, hp1, _, _, hf, hgi, hm, hn, hel, hns, hG⟩⟩
          · have tr : (r != 0) = true := by simpa using hr
            have HB5 := Lib.hid (HBL.out.trans hG.below)
            clear hr hG
            go_wp2_with (go_at_call 6; refine (HFIN.out _ HB5.out).mono ?_; rintro e w9 ⟨rfl, hb9⟩)
            go_ret
            exact ⟨rfl, hb9⟩
          · subst hr
            rw [linkS_eq] at hG
            obtain ⟨k1, v1, e1, p1, hc1⟩ := findC_cell hp1.wf hp1.smap (i := j) (word := other) (c := c) (by rw [hf])
            have hp2 := link_sp (word := name) hp1 hm hn hc1
            obtain ⟨hfa, hfb, hlk⟩ := link_find (a := i) (b := j) hp1 hm hn hgi hf hel hns
            have HB5 := Lib.hid (HBL.out.trans hG.below)
            have hR5 := hG.rep
            have hlo5 := Nat.le_trans hlo hG.below.size
            obtain ⟨S2, hS2⟩ : ∃ S2, linkS' S1 m nn c f name = S2 := ⟨_, rfl⟩
            rw [hS2] at hp2 hfa hfb hlk hR5
            clear hS2 hG hc1 hf hgi hm hn hel hns hp1
            obtain ⟨hge, hke⟩ := get_of_find (hfa.trans hfb.symm)
            obtain ⟨⟨v, ee⟩, hve⟩ : ∃ q, getC S2 g j other = q := ⟨_, rfl⟩
            obtain ⟨kx, hkx⟩ : ∃ q, kindC S2 g j other = q := ⟨_, rfl⟩
            rw [hve] at hge
            rw [hkx] at hke
            have HG1 := Lib.hid (Get_any hR5 hp2 hi (word := name) hm1)
            have HG2 := Lib.hid (fun m => Get_any (hR5.drewN m) hp2 hj (word := other) hm2)
            have HK1 := Lib.hid (fun m => Kind_any (hR5.drewN m) hp2 hi (word := name) hm1)
            have HK2 := Lib.hid (fun m => Kind_any (hR5.drewN m) hp2 hj (word := other) hm2)
            have HL1 := Lib.hid (fun m => Linked_any (hR5.drewN m) hp2 hi (word := name) hm1)
            rw [hge] at HG1
            rw [hve] at HG2
            rw [hke] at HK1
            rw [hkx] at HK2
            rw [hlk] at HL1
            simp only at HG1 HG2
            have HSET : Hid (∀ m, Calls Try.prog 14 #[.pointer (some ⟨x, 0, none⟩), .int .i64 i, .string ⟨name.toArray⟩, .string ⟨value.toArray⟩] (w5.drewN m) fun en w' => SetRes l.length w3.heap.size S2 (w5.drewN m) x sm g i name value en w') := fun m => Set_any (by simpa using hlo5) (hR5.drewN m) hp2 hi hm1
            have HFB := Lib.hid hfb
            have HFA := Lib.hid hfa
            have HP2 := Lib.hid hp2
            have b1 : (v != v) = false := by simp
            have b2 : (ee != ee) = false := by simp
            have b3 : (kx != kx) = false := by simp
            clear hge hke hve hkx hfa hfb hlk hp2 hR5
            have tokA : True := trivial
            have tokB : True := trivial
            have tokC : True := trivial
            go_wp2_with (first | (go_at_call 13; have _t := tokA; refine HG1.out.mono ?_; rintro e w7 ⟨rfl, m7, rfl⟩; clear tokA _t) | (go_at_call 13; have _t := tokB; refine (HG2.out _).mono ?_; rintro e w8 ⟨rfl, m8, rfl⟩; clear tokB _t) | (go_at_call 16; refine (HL1.out _).mono ?_; rintro e w8 ⟨rfl, rfl⟩) | (go_at_call 17; have _t := tokC; refine (HK1.out _).mono ?_; rintro e w8 ⟨rfl, m9, rfl⟩; clear tokC _t) | (go_at_call 17; refine (HK2.out _).mono ?_; rintro e w8 ⟨rfl, m10, rfl⟩) | (go_at_call 14; refine (HSET.out _).mono ?_; rintro e w6 ⟨r, S', rfl, hG, hp', hcase⟩; have HP' := Lib.hid hp'; have HR' := Lib.hid hG.rep; have HB6 := Lib.hid ((below_drewN HB5.out _).trans hG.below); have HC := Lib.hid hcase; clear hG hp' hcase))
            have HGo := Lib.hid (Get_any HR'.out HP'.out hj (word := other) hm2)
            rcases HC.out with ⟨hr, _⟩ | ⟨hr, S1b, c', hp1b, _, hmore, hf1, hst1, hS'⟩
            · have tr : (r != 0) = true := by simpa using hr
              generalize getC S' g j other = gn at *
              obtain ⟨gv, gc⟩ := gn
              simp only at HGo
              clear hr HC
              go_wp2_with (first | (go_at_call 13; refine HGo.out.mono ?_; rintro e w8 ⟨rfl, m11, rfl⟩) | (go_at_call 6; refine (HFIN.out _ (by exact below_drewN HB6.out _)).mono ?_; rintro e w9 ⟨rfl, hb9⟩))
              go_ret
              exact ⟨rfl, hb9⟩
            · subst hr
              have hfa1 := find_more HP2.out hmore.name hmore.nmap hmore.cell hmore.el HFA.out
              have hfb1 := find_more HP2.out hmore.name hmore.nmap hmore.cell hmore.el HFB.out
              rw [hf1] at hfa1
              cases hfa1
              obtain ⟨k2, v2, e2, p2, hc2⟩ := findC_cell hp1b.wf hp1b.smap (i := j) (word := other) (c := c) (by rw [hfb1])
              have hkk := (kept hp1b hfb1 hst1 value).1
              rw [← setS_eq hp1b.wf hc2, ← hS'] at hkk
              rw [hkk] at HGo
              simp only at HGo
              clear hS' hst1 hf1 hmore hp1b hfb1 hc2 HC hkk
              have c1 : ((0 : Int) == 0) = true := rfl
              have c2 : (value == value) = true := by simp
              go_wp2_with (first | (go_at_call 13; refine HGo.out.mono ?_; rintro e w8 ⟨rfl, m11, rfl⟩) | (go_at_call 6; refine (HFIN.out _ (by exact below_drewN HB6.out _)).mono ?_; rintro e w9 ⟨rfl, hb9⟩))
              go_ret
              exact ⟨rfl, hb9⟩

theorem own : ownKnob Try.prog.godebug = none := by kernel_rfl
theorem laidOut : laidOutB Try.prog = true := by kernel_rfl

theorem walkB (l : List ActV) (ao : Option Addr) (n cap : Nat) (hn : n = l.length) (hl : l.length ≤ 9223372036854775807) (hok : ∀ x ∈ l, AOk x) (i j : Int) (hi : (Lit.int .i64 i).wf = true) (hj : (Lit.int .i64 j).wf = true) (a2 a3 a4 : ByteArray) (h2 : a2.data.toList.length ≤ reachBytes) (h3 : a3.data.toList.length ≤ reachBytes) (h4 : a4.data.toList.length ≤ reachBytes) (w : World) (hR : ARow w.heap.size w ao l) :
    Calls Try.prog 5 #[.slice ao n cap, .int .i64 i, .int .i64 j, .string a2, .string a3, .string a4] w fun e w' => e = .returned (.bool true) ∧ Below w.heap.size w w' := by
  subst hn
  have hr : reachBytes ≤ 140737488355328 := by decide
  cases a2 with
  | mk d2 => cases d2 with
    | mk l2 => cases a3 with
      | mk d3 => cases d3 with
        | mk l3 => cases a4 with
          | mk d4 => cases d4 with
            | mk l4 => exact walk l ao cap hl hok i j hi hj l2 l3 l4 (Nat.le_trans h2 hr) (Nat.le_trans h4 hr) (Nat.le_trans h3 hr) w hR

set_option maxRecDepth 100000 in
theorem lifted (os : Os) (started : os.Started) (H : Type) (enc : TypeId × Value → H) :
    ReturnsInHanded {} Try.checked os 5 .any (Rows.varsLinksSpec.pre6 enc Try.prog Try.f5 Rows.varsLinksRow.domain false) (Rows.varsLinksSpec.post enc Try.prog Try.f5 false true false false) := by
  refine returnsInHanded_of_change_sized (C := Try.checked) own started (by kernel_rfl) Try.func5
    (ChangeSpec.witness6 (enc := enc) (C := Try.checked) false ⟨#[], #[.slice none 0 0, .int .i64 0, .int .i64 0, .string ByteArray.empty, .string ByteArray.empty, .string ByteArray.empty], []⟩ 8 (by kernel_rfl) (by kernel_rfl) (by kernel_rfl) (by kernel_rfl)) ?_
  intro W base args ds gs before hval0 hW hcnd hsz0 _
  have hval : ∀ (j : Nat) t v, Try.f5.params[j]? = some t → args[j]? = some v → Value.okWide Try.prog W .any base t v := hval0
  have hsz : (DataW.weightsEach Try.prog (Try.f5.params.toList ++ Rows.varsLinksSpec.plain.varTypes Try.prog) (ds ++ gs)).all (· ≤ reachBytes) = true := hsz0
  have hW' := hW
  obtain ⟨p, q, hA0, hV, rfl, hfz, hnd⟩ := hW
  have hA : DataW.TrodAll enc Try.prog W 0 (fun _ => true) true Try.f5.params.toList args.toList ds p := hA0
  rw [Try.params5] at hA hval hsz
  obtain ⟨v0, vs0, d0, ds0, p0, q0, hargs, rfl, rfl, h0, r0⟩ := trodAll_cons hA
  obtain ⟨v1, vs1, d1, ds1, p1, q1, rfl, rfl, rfl, h1, r1⟩ := trodAll_cons r0
  obtain ⟨v2, vs2, d2, ds2, p2, q2, rfl, rfl, rfl, h2, r2⟩ := trodAll_cons r1
  obtain ⟨v3, vs3, d3, ds3, p3, q3, rfl, rfl, rfl, h3, r3⟩ := trodAll_cons r2
  obtain ⟨v4, vs4, d4, ds4, p4, q4, rfl, rfl, rfl, h4, r4⟩ := trodAll_cons r3
  obtain ⟨v5, vs5, d5, ds5, p5, q5, rfl, rfl, rfl, h5, r5⟩ := trodAll_cons r4
  obtain ⟨rfl, rfl, rfl⟩ := trodAll_nil r5
  obtain rfl : args = #[v0, v1, v2, v3, v4, v5] := by cases args; simp_all
  obtain ⟨rfl, rfl⟩ := trodVars_none hV
  obtain ⟨a0, n, cap, rfl⟩ := okWide_slice Try.underlying26 (hval 0 26 v0 rfl rfl)
  obtain ⟨a1, rfl, rfl, rfl, w1⟩ := open_int Try.underlying3 (hval 1 3 v1 rfl rfl) h1
  obtain ⟨b1, rfl, rfl, rfl, x1⟩ := open_int Try.underlying3 (hval 2 3 v2 rfl rfl) h2
  obtain ⟨a2, rfl, rfl, rfl, w2⟩ := open_string Try.underlying9 (hval 3 9 v3 rfl rfl) h3
  obtain ⟨a3, rfl, rfl, rfl, w3⟩ := open_string Try.underlying9 (hval 4 9 v4 rfl rfl) h4
  obtain ⟨a4, rfl, rfl, rfl, w4⟩ := open_string Try.underlying9 (hval 5 9 v5 rfl rfl) h5
  have h0k := h0
  obtain ⟨fuel, hf⟩ := h0
  clear hA0 hval0
  simp only [List.append_nil, List.nil_append] at hW'
  have hlt : ∀ x ∈ p0, x.block < W.heap.size := fun x hx => by simpa using hW'.lt x hx
  have s2 := sized_string hsz (j := 3) (t := 9) rfl rfl
  have s3 := sized_string hsz (j := 4) (t := 9) rfl rfl
  have s4 := sized_string hsz (j := 5) (t := 9) rfl rfl
  obtain ⟨l, hn, hl, hR, hok⟩ := open_acts hf hlt (fun m hm => by
    have := List.all_eq_true.1 hsz _ (DataW.weights_mem_each (j := 0) (t := 26) rfl rfl m hm)
    simpa using this)
  refine (walkB l a0 n cap hn hl hok a1 b1 w1 x1 a2 a3 a4 s2 s3 s4 W hR).mono fun e W' ⟨he, hb⟩ => ?_
  subst he
  exact ⟨_, rfl, _, _, _, [], p0 ++ ([] ++ ([] ++ ([] ++ ([] ++ ([] ++ []))))), [], hW', trodAll_cons_mk (shut_bool Try.underlying4 _) trodAll_mk0,
    trodAll_cons_mk (Below.trod laidOut (by kernel_rfl) (of_decide_eq_true (by kernel_rfl)) h0k hb hlt) (trodAll_cons_mk (shut_int Try.underlying3 w1) (trodAll_cons_mk (shut_int Try.underlying3 x1) (trodAll_cons_mk (shut_string Try.underlying9 w2) (trodAll_cons_mk (shut_string Try.underlying9 w3) (trodAll_cons_mk (shut_string Try.underlying9 w4) trodAll_mk0))))), rfl, hb.frame _, fun h => by cases h⟩

theorem over : Rows.varsLinksRow.holds Try.pinned (OpenSpec.ofChange Rows.varsLinksSpec) :=
  OpenClaim.holds_of_wide 5 Try.f5 rfl rfl rfl rfl rfl rfl rfl ⟨rfl, rfl, rfl, rfl, rfl⟩ rfl rfl rfl rfl rfl (by kernel_rfl) Try.func5 (by kernel_rfl)
    (of_decide_eq_true (by kernel_rfl)) (by unfold Func.isWrapper; first | (rw [if_pos (by decide +kernel)]; kernel_rfl) | (rw [if_neg (by decide +kernel)]; exact ⟨rfl, rfl⟩))
    (fun os started H enc _ => lifted os started H enc)

theorem proved : Rows.VarsLinksSaid :=
  over
#print axioms proved
end Go.Proofs.Ytcaifihdbcjakaa.varsLinks
