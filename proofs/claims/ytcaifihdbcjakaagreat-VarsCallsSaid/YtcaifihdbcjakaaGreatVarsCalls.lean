/- For all acts, names and values, 'VarsCalls' returns true: a new call has no names, and is gone when it has ended. No condition. -/
import Derived.Test.YtcaifihdbcjakaaGreatRows
import Derived.Test.YtcaifihdbcjakaaGreatVPlay4
import Derived.Test.YtcaifihdbcjakaaGreatVArgs
import Derived.Test.YtcaifihdbcjakaaGreatVNames
import Derived.ProofKit
import Derived.OpenShut
import Derived.ShutString
import Derived.SliceStrings
import Derived.Carry
namespace Go.Proofs.YtcaifihdbcjakaaGreat
set_option linter.unusedVariables false
set_option linter.unusedSimpArgs false
open Go.RowKit

def act1O (name value : Bs) : Obj := .cells #[.int .i64 0, .int .i64 0, .int .i64 0, .string ⟨name.toArray⟩, .string ⟨value.toArray⟩] 25
def act1L (name value : Bs) : List ActV := [⟨0, 0, 0, name, value⟩]

theorem act1_row (w : World) (name value : Bs) : ARow (w.alloc (act1O name value)).heap.size (w.alloc (act1O name value)) (some ⟨w.heap.size, 0, none⟩) (act1L name value) := by
  intro _
  refine ⟨w.heap.size, 0, rfl, by simp, fun i hi => ?_⟩
  have hb := heap_alloc_new w (act1O name value)
  match i, hi with
  | 0, _ => refine ⟨?_, ?_, ?_, ?_, ?_⟩ <;> (simp only [World.cell?]; rw [hb]; rfl)

theorem act1_light (name value : Bs) (h1 : name.length ≤ 140737488355328) (h2 : value.length ≤ 140737488355328) (w : World) :
    Calls Tryz.prog 5 #[.slice (some ⟨w.heap.size, 0, none⟩) 1 1] (w.alloc (act1O name value)) fun e w' => e = .returned (.bool (lightB (act1L name value))) ∧ Below w.heap.size w w' := by
  refine (light_any (act1L name value) (some ⟨w.heap.size, 0, none⟩) 1 (by simp [act1L]) ?_ _ (act1_row w name value)).mono fun e w' ⟨h, hb⟩ => ⟨h, ((Below.refl _ w).alloc (Nat.le_refl _) _).trans (hb.mono (by simp))⟩
  intro x hx
  simp only [act1L, List.mem_cons, List.not_mem_nil, or_false] at hx
  subst hx
  exact ⟨rfl, rfl, rfl, h1, h2⟩

theorem light_len {l : List ActV} (h : lightB l = true) : l.length ≤ 60 ∧ ∀ x ∈ l, x.s.length ≤ 1000000 ∧ x.t.length ≤ 1000000 := by
  simp only [lightB, Bool.and_eq_true, decide_eq_true_eq] at h
  refine ⟨h.1, fun x hx => ?_⟩
  have := sumA_mem hx
  omega

theorem cnt_le {N : Nat} {S : St} {x sm : Nat} {g : Int → Option Nat} (h : Sp N S x sm g) : cntS S x ≤ N := by
  obtain ⟨cs, rm, r, hx, _, hcs⟩ := h.space
  rw [cntS, hx]
  cases cs with
  | none => simp [callsN]
  | some q => obtain ⟨b, n, c⟩ := q; simpa [callsN] using (hcs b n c rfl).1

/-- Behind Push: the scope has nothing. -/
structure New3 (N B : Nat) (S' : St) (x sm : Nat) (g' : Int → Option Nat) (i : Int) (k : Nat) : Prop where
  sp : Sp N S' x sm g'
  lead : ∃ m, g' i = some m ∧ ∀ v, nmOf S' m v = none
  cnt : cntS S' x = k + 1
  top : ∃ b c rm l, S' x = some (.space sm (some (b, k + 1, c)) rm) ∧ S' b = some (.row (l ++ [i]) c) ∧ l.length = k

theorem new3 {N B : Nat} {S : St} {w w' : World} {x sm : Nat} {g : Int → Option Nat} {e : Ending} (h : PushRes3 N B S w x sm g e w') :
    ∃ i S' g', e = .returned (.int .i64 i) ∧ (Lit.int .i64 i).wf = true ∧ Goes B S w S' w' ∧ New3 (N + 1) B S' x sm g' i (cntS S x) := by
  obtain ⟨i, m, rfl, hwf, hfree, S', hG, hp, hnm, gb, c, rm, l, hx, hb, hl⟩ := h
  exact ⟨i, S', _, rfl, hwf, hG, hp, ⟨m, by simp, fun v => by rw [hnm]; simp [nmOf, hfree]⟩, by simp [cntS, hx, callsN], gb, c, rm, l, hx, hb, hl⟩

theorem kind_none {S : St} {g : Int → Option Nat} {i : Int} {m : Nat} (h : g i = some m) (hn : ∀ v, nmOf S m v = none) (w : Bs) : kindC S g i w = 0 := by
  have hf : findC S g i w = (none, 0) := by unfold findC; rw [h]; simp only [hn]
  unfold kindC; rw [hf]; rfl
theorem gone {S : St} {g : Int → Option Nat} {i : Int} (h : g i = none) (w : Bs) : kindC S g i w = 0 ∧ getC S g i w = ([], 7) := by
  have hf : findC S g i w = (none, 7) := by unfold findC; rw [h]
  refine ⟨?_, ?_⟩
  · unfold kindC; rw [hf]; rfl
  · unfold getC; rw [hf]; rfl
end Go.Proofs.YtcaifihdbcjakaaGreat
namespace Go.Proofs.YtcaifihdbcjakaaGreat.varsCalls
open Go.ChangeShapes Go.WideShapes Go.ChangeAt Go.RowKit
open Go.ChangeMaps (open_string shut_string)
set_option linter.unusedVariables false
set_option linter.unusedSimpArgs false

set_option maxRecDepth 100000 in
set_option maxHeartbeats 6400000 in
theorem walk (l : List ActV) (ao : Option Addr) (cap : Nat) (hl : l.length ≤ 9223372036854775807) (hok : ∀ x ∈ l, AOk x) (name value : Bs) (h1 : name.length ≤ 140737488355328) (h2 : value.length ≤ 140737488355328) (w : World) (hR : ARow w.heap.size w ao l) :
    Calls Tryz.prog 3 #[.slice ao l.length cap, .string ⟨name.toArray⟩, .string ⟨value.toArray⟩] w fun e w' => e = .returned (.bool true) ∧ Below w.heap.size w w' := by
  have HL := Lib.hid (light_any l ao cap hl hok w hR)
  have HA := Lib.hid (act1_light name value h1 h2)
  by_cases g1 : lightB l = false
  · rw [g1] at HL
    clear hR hok g1
    go_enter Tryz.func3, Tryz.ntmps3
    go_wp2_with (first | (go_at_call 5; refine HL.out.mono ?_; rintro e w1 ⟨rfl, hb1⟩; have HB1 := Lib.hid hb1; clear hb1) | (go_at_call 6; refine (awake_any _).mono ?_; rintro e w2 ⟨rfl, hb2⟩))
    go_ret
    exact ⟨rfl, HB1.out.trans (hb2.mono HB1.out.size)⟩
  · have g1t : lightB l = true := by simpa using g1
    rw [g1t] at HL
    by_cases g2 : lightB (act1L name value) = false
    · rw [g2] at HA
      clear hR hok g1 g2
      have HA' : Hid (∀ w, Calls Tryz.prog 5 #[.slice (some ⟨w.heap.size, 0, none⟩) 1 1] (w.alloc (.cells #[.int .i64 0, .int .i64 0, .int .i64 0, .string ⟨name.toArray⟩, .string ⟨value.toArray⟩] 25)) fun e w' => e = .returned (.bool false) ∧ Below w.heap.size w w') := fun w => HA.out w
      go_enter Tryz.func3, Tryz.ntmps3
      go_wp2_with (first | (go_at_call_of 5 (Value.slice ao l.length cap); refine HL.out.mono ?_; rintro e w1 ⟨rfl, hb1⟩; have HB1 := Lib.hid hb1; clear hb1) | (go_at_call 5; refine (HA'.out _).mono ?_; rintro e w3 ⟨rfl, hb3⟩; have HB3 := Lib.hid hb3; clear hb3) | (go_at_call 6; refine (awake_any _).mono ?_; rintro e w2 ⟨rfl, hb2⟩))
      go_ret
      exact ⟨rfl, HB1.out.trans ((HB3.out.mono HB1.out.size).trans (hb2.mono (Nat.le_trans HB1.out.size HB3.out.size)))⟩
    · have g2t : lightB (act1L name value) = true := by simpa using g2
      rw [g2t] at HA
      obtain ⟨hl60, hlen⟩ := light_len g1t
      obtain ⟨_, hlen2⟩ := light_len g2t
      have q1 := (hlen2 ⟨0, 0, 0, name, value⟩ (by simp [act1L])).1
      have HA' : Hid (∀ w, Calls Tryz.prog 5 #[.slice (some ⟨w.heap.size, 0, none⟩) 1 1] (w.alloc (.cells #[.int .i64 0, .int .i64 0, .int .i64 0, .string ⟨name.toArray⟩, .string ⟨value.toArray⟩] 25)) fun e w' => e = .returned (.bool true) ∧ Below w.heap.size w w') := fun w => HA.out w
      have HLEN := Lib.hid hlen
      have HOK := Lib.hid hok
      have HR := Lib.hid hR
      clear hR hok g1 g2 g1t g2t hlen hlen2 HA
      go_enter Tryz.func3, Tryz.ntmps3
      go_wp2_with (first | (go_at_call_of 5 (Value.slice ao l.length cap); refine HL.out.mono ?_; rintro e w1 ⟨rfl, hb1⟩; have HB1 := Lib.hid hb1; clear hb1) | (go_at_call 5; refine (HA'.out _).mono ?_; rintro e w3 ⟨rfl, hb3⟩; have HB3 : Hid (Below w.heap.size w w3) := HB1.out.trans (hb3.mono HB1.out.size); clear hb3) | (go_at_call 7; refine (New_any _).mono ?_; rintro e w4 ⟨x, sm, S, g, rfl, hG, hp, _, _⟩; have HX : Hid (XSt 0 w3.heap.size w3 x sm w4) := ⟨S, g, hG.rep, hp, hG.below, hG.below.size⟩; clear hG hp))
      go_loopw [29] (fun q wr => ∃ k : Nat, k ≤ l.length ∧ q = .int .i64 k ∧ XSt k w3.heap.size w3 x sm wr) (fun q _ => l.length - (intOf q).toNat)
      case atStart => exact ⟨0, Nat.zero_le _, rfl, HX.out⟩
      case round =>
        obtain ⟨k, hk, rfl, hst⟩ := hrel
        have HST := Lib.hid hst
        have HBW : Hid (Below w.heap.size w wr) := by obtain ⟨_, _, _, _, hb, _⟩ := hst; exact HB3.out.trans (hb.mono HB3.out.size)
        clear hst
        by_cases hlt : k < l.length
        · obtain ⟨b, off, rfl, hbl, hc⟩ := HR.out (by intro h; rw [h] at hlt; simp at hlt)
          obtain ⟨c0, c1, c2, c3, c4⟩ := hc k hlt
          have d0 := (HBW.out.cell (p := ⟨b, _, none⟩) hbl).trans c0
          have d1 := (HBW.out.cell (p := ⟨b, _, none⟩) hbl).trans c1
          have d2 := (HBW.out.cell (p := ⟨b, _, none⟩) hbl).trans c2
          have d3 := (HBW.out.cell (p := ⟨b, _, none⟩) hbl).trans c3
          have d4 := (HBW.out.cell (p := ⟨b, _, none⟩) hbl).trans c4
          have hx := Lib.hid (HOK.out l[k] (List.getElem_mem _))
          have hxl := Lib.hid (HLEN.out l[k] (List.getElem_mem _))
          generalize l[k] = v at *
          obtain ⟨vk, va, vb, vs, vt⟩ := v
          simp only at d0 d1 d2 d3 d4
          clear c0 c1 c2 c3 c4 hc
          have HN : Hid (∀ W, Kp [] wr W → W.heap[wr.heap.size]? = some (actB vk va vb vs vt) → Calls Tryz.prog 9 #[] W fun e w1 => ∃ y, e = .returned (.pointer (some ⟨y, 0, none⟩)) ∧ RMid k w3.heap.size w3 x sm y wr.heap.size (actB vk va vb vs vt) w1) := fun W hkk ho =>
            (rNew_any W).mono fun e w1 hr => rmid (by
              obtain ⟨S, g, r1, r2, r3, r4⟩ := HST.out
              exact ⟨S, g, r1.kp hkk (by simp), r2, r3.trans (hkk.below r4 (by simp)), Nat.le_trans r4 hkk.size⟩) ho hr
          go_wp2_with fail
          go_region_with ((first | (go_at_call 9; refine (HN.out _ (by exact ((Kp.refl [] wr).alloc _).drew) (by exact heap_alloc_new wr _)).mono ?_; rintro e w5 ⟨y, rfl, hm⟩; obtain ⟨⟨r0, r1, r2, r3, r4⟩, rl⟩ := cells5 hm.box; have HM := Lib.hid hm; clear hm) | (go_at_call 8; refine (rmid_play (v := ⟨vk, va, vb, vs, vt⟩) (by omega) HM.out hx.out hxl.out.1 hxl.out.2).mono ?_; rintro e w6 ⟨⟨bb, rfl⟩, hst⟩; have HST2 := Lib.hid hst; clear hst)))
          all_goals
            go_wp2_with fail
            exact ⟨⟨k + 1, by omega, by go_num, HST2.out⟩, by simp [intOf]; omega⟩
        · have hkl : k = l.length := by omega
          subst hkl
          obtain ⟨S, g, hRep, hp, hbl, hlo⟩ := HST.out
          have hm1 : name.length ≤ maxLen := by simp [maxLen]; omega
          obtain ⟨cs0, rm0, r0, hx0, _⟩ := hp.space
          have hcl := cnt_le hp
          have HC1 := Lib.hid (Calls_any hRep hx0)
          have HPU : Hid (Calls Tryz.prog 11 #[.pointer (some ⟨x, 0, none⟩)] wr fun e w' => ∃ i S' g', e = .returned (.int .i64 i) ∧ (Lit.int .i64 i).wf = true ∧ Goes w3.heap.size S wr S' w' ∧ New3 (l.length + 1) w3.heap.size S' x sm g' i (cntS S x)) := (Push_new3 (by omega) hlo hRep hp).mono fun e w' h => new3 h
          have HBL := Lib.hid hbl
          have HLO := Lib.hid hlo
          have HAW : Hid (∀ w7, Below w3.heap.size w3 w7 → Calls Tryz.prog 6 #[] w7 fun e w8 => e = .returned (.bool true) ∧ Below w.heap.size w w8) := fun w7 hb =>
            (awake_any w7).mono fun e w8 ⟨q1, q2⟩ => ⟨q1, HB3.out.trans ((hb.trans (q2.mono hb.size)).mono HB3.out.size)⟩
          generalize cntS S x = kk at *
          have hN60 : l.length + 1 ≤ 100000 := by omega
          have hne : (((kk : Int) + 1) != (kk : Int) + 1) = false := by simp
          have hne2 : ((kk : Int) != (kk : Int)) = false := by simp
          clear hRep hp hbl hx0 hlo
          have tokA : True := trivial
          have tokB : True := trivial
          have tokC : True := trivial
          go_wp2_with (first | (go_at_call 10; have _t := tokA; refine HC1.out.mono ?_; rintro e w5 ⟨rfl, rfl⟩; clear tokA _t HC1) | (go_at_call 11; refine HPU.out.mono ?_; rintro e w5 ⟨i, S', g', rfl, hwf, hG, hn3⟩; obtain ⟨m, hgi, hno⟩ := hn3.lead; obtain ⟨cs5, rm5, r5, hx5, _⟩ := hn3.sp.space; have HX5 := Lib.hid hx5; have HN3 := Lib.hid hn3; have HWF := Lib.hid hwf; have HGI := Lib.hid hgi; have HNO := Lib.hid hno; have HR5 := Lib.hid hG.rep; have HB5 := Lib.hid (HBL.out.trans hG.below); have HS5 := Lib.hid (Nat.le_trans HLO.out hG.below.size); clear hwf hG hn3 hgi hno hx5 HPU) | (go_at_call 12; refine (Names_none HR5.out HN3.out.sp HWF.out HGI.out HNO.out [42]).mono ?_; rintro e w6 ⟨rfl, hb6⟩; have HR6 := Lib.hid (goes_below HR5.out HS5.out hb6).rep; have HB6 := Lib.hid (HB5.out.trans (hb6.mono HS5.out)); have HS6 := Lib.hid (Nat.le_trans HS5.out hb6.size); clear hb6) | (go_at_call 13; have _t := tokB; refine (Kind_any HR6.out HN3.out.sp HWF.out (word := name) hm1).mono ?_; rintro e w7 ⟨rfl, m7, rfl⟩; rw [kind_none HGI.out HNO.out]; clear tokB _t) | (go_at_call 10; have _t := tokC; refine (Calls_any (HR6.out.drewN m7) HX5.out).mono ?_; rintro e w8 ⟨rfl, rfl⟩; rw [HN3.out.cnt]; clear tokC _t) | (go_at_call 14; refine (Dump_none (by simpa using HS6.out) (HR6.out.drewN m7) HN3.out.sp HWF.out HGI.out HNO.out).mono ?_; rintro e w8 ⟨rfl, hb8⟩; have HR8 := Lib.hid (goes_below (HR6.out.drewN m7) (by simpa using HS6.out) hb8).rep; have HB8 : Hid (Below w3.heap.size w3 w8) := (below_drewN HB6.out m7).trans (hb8.mono (by simpa using HS6.out)); have HS8 : Hid (w3.heap.size ≤ w8.heap.size) := Nat.le_trans HS6.out (by simpa using hb8.size); clear hb8) | (go_at_call 15; refine (Set_any2 HS8.out HR8.out HN3.out.sp HWF.out (word := name) (val := value) hm1).mono ?_; intro e w9 hr; obtain ⟨rfl, S3, hG3, hp3, hsp3, hrow3⟩ := set_ok HGI.out HNO.out hr; have HR9 := Lib.hid hG3.rep; have HB9 := Lib.hid (HB8.out.trans hG3.below); have HP9 := Lib.hid hp3; have HX9 := Lib.hid hsp3; have HW9 := Lib.hid hrow3; clear hr hG3 hp3 hsp3 hrow3) | (go_at_call 16; obtain ⟨b6, c6, rm6, l6, hx6, hb6, hl6⟩ := HN3.out.top; refine (Pop3 hN60 HR9.out HP9.out (HX9.out _ _ _ hx6) (HW9.out _ _ _ hb6) hl6).mono ?_; rintro e w10 ⟨rfl, S4, hG4, hp4, hc4⟩; obtain ⟨cs4, rm4, r4, hx4, _⟩ := hp4.space; have HX4 := Lib.hid hx4; have HC4 := Lib.hid hc4; have HR10 := Lib.hid hG4.rep; have HB10 := Lib.hid (HB9.out.trans hG4.below); have HP10 := Lib.hid hp4; clear hG4 hp4 hc4 hx4 hx6 hb6 hl6) | (go_at_call 10; refine (Calls_any HR10.out HX4.out).mono ?_; rintro e w11 ⟨rfl, rfl⟩; rw [HC4.out]) | (go_at_call 17; refine (Get_any HR10.out HP10.out HWF.out (word := name) hm1).mono ?_; rintro e w12 ⟨rfl, m12, rfl⟩; rw [(gone (if_pos rfl) name).2]) | (go_at_call 13; refine (Kind_any (HR10.out.drewN m12) HP10.out HWF.out (word := name) hm1).mono ?_; rintro e w13 ⟨rfl, m13, rfl⟩; rw [(gone (if_pos rfl) name).1]) | (go_at_call 6; refine (HAW.out _ (by exact below_drewN HB10.out _)).mono ?_; rintro e w14 ⟨rfl, hb14⟩))
          go_ret
          exact ⟨rfl, hb14⟩

theorem own : ownKnob Tryz.prog.godebug = none := by kernel_rfl
theorem laidOut : laidOutB Tryz.prog = true := by kernel_rfl

theorem walkB (l : List ActV) (ao : Option Addr) (n cap : Nat) (hn : n = l.length) (hl : l.length ≤ 9223372036854775807) (hok : ∀ x ∈ l, AOk x) (a2 a3 : ByteArray) (h2 : a2.data.toList.length ≤ reachBytes) (h3 : a3.data.toList.length ≤ reachBytes) (w : World) (hR : ARow w.heap.size w ao l) :
    Calls Tryz.prog 3 #[.slice ao n cap, .string a2, .string a3] w fun e w' => e = .returned (.bool true) ∧ Below w.heap.size w w' := by
  subst hn
  have hr : reachBytes ≤ 140737488355328 := by decide
  cases a2 with
  | mk d2 => cases d2 with
    | mk l2 => cases a3 with
      | mk d3 => cases d3 with
        | mk l3 => exact walk l ao cap hl hok l2 l3 (Nat.le_trans h2 hr) (Nat.le_trans h3 hr) w hR

set_option maxRecDepth 100000 in
theorem lifted (os : Os) (started : os.Started) (H : Type) (enc : TypeId × Value → H) :
    ReturnsInHanded {} Tryz.checked os 3 .any (Rows.varsCallsSpec.pre6 enc Tryz.prog Tryz.f3 Rows.varsCallsRow.domain false) (Rows.varsCallsSpec.post enc Tryz.prog Tryz.f3 false true false false) := by
  refine returnsInHanded_of_change_sized (C := Tryz.checked) own started (by kernel_rfl) Tryz.func3
    (ChangeSpec.witness6 (enc := enc) (C := Tryz.checked) false ⟨#[], #[.slice none 0 0, .string ByteArray.empty, .string ByteArray.empty], []⟩ 8 (by kernel_rfl) (by kernel_rfl) (by kernel_rfl) (by kernel_rfl)) ?_
  intro W base args ds gs before hval0 hW hcnd hsz0 _
  have hval : ∀ (j : Nat) t v, Tryz.f3.params[j]? = some t → args[j]? = some v → Value.okWide Tryz.prog W .any base t v := hval0
  have hsz : (DataW.weightsEach Tryz.prog (Tryz.f3.params.toList ++ Rows.varsCallsSpec.plain.varTypes Tryz.prog) (ds ++ gs)).all (· ≤ reachBytes) = true := hsz0
  have hW' := hW
  obtain ⟨p, q, hA0, hV, rfl, hfz, hnd⟩ := hW
  have hA : DataW.TrodAll enc Tryz.prog W 0 (fun _ => true) true Tryz.f3.params.toList args.toList ds p := hA0
  rw [Tryz.params3] at hA hval hsz
  obtain ⟨v0, vs0, d0, ds0, p0, q0, hargs, rfl, rfl, h0, r0⟩ := trodAll_cons hA
  obtain ⟨v1, vs1, d1, ds1, p1, q1, rfl, rfl, rfl, h1, r1⟩ := trodAll_cons r0
  obtain ⟨v2, vs2, d2, ds2, p2, q2, rfl, rfl, rfl, h2, r2⟩ := trodAll_cons r1
  obtain ⟨rfl, rfl, rfl⟩ := trodAll_nil r2
  obtain rfl : args = #[v0, v1, v2] := by cases args; simp_all
  obtain ⟨rfl, rfl⟩ := trodVars_none hV
  obtain ⟨a0, n, cap, rfl⟩ := okWide_slice Tryz.underlying22 (hval 0 22 v0 rfl rfl)
  obtain ⟨a2, rfl, rfl, rfl, w2⟩ := open_string Tryz.underlying9 (hval 1 9 v1 rfl rfl) h1
  obtain ⟨a3, rfl, rfl, rfl, w3⟩ := open_string Tryz.underlying9 (hval 2 9 v2 rfl rfl) h2
  have h0k := h0
  obtain ⟨fuel, hf⟩ := h0
  clear hA0 hval0
  simp only [List.append_nil, List.nil_append] at hW'
  have hlt : ∀ x ∈ p0, x.block < W.heap.size := fun x hx => by simpa using hW'.lt x hx
  have s2 := sized_string hsz (j := 1) (t := 9) rfl rfl
  have s3 := sized_string hsz (j := 2) (t := 9) rfl rfl
  obtain ⟨l, hn, hl, hR, hok⟩ := open_acts hf hlt (fun m hm => by
    have := List.all_eq_true.1 hsz _ (DataW.weights_mem_each (j := 0) (t := 22) rfl rfl m hm)
    simpa using this)
  refine (walkB l a0 n cap hn hl hok a2 a3 s2 s3 W hR).mono fun e W' ⟨he, hb⟩ => ?_
  subst he
  exact ⟨_, rfl, _, _, _, [], p0 ++ ([] ++ ([] ++ [])), [], hW', trodAll_cons_mk (shut_bool Tryz.underlying4 _) trodAll_mk0,
    trodAll_cons_mk (Below.trod laidOut (by kernel_rfl) (of_decide_eq_true (by kernel_rfl)) h0k hb hlt) (trodAll_cons_mk (shut_string Tryz.underlying9 w2) (trodAll_cons_mk (shut_string Tryz.underlying9 w3) trodAll_mk0)), rfl, hb.frame _, fun h => by cases h⟩

theorem over : Rows.varsCallsRow.holds Tryz.pinned (OpenSpec.ofChange Rows.varsCallsSpec) :=
  OpenClaim.holds_of_wide 3 Tryz.f3 rfl rfl rfl rfl rfl rfl rfl ⟨rfl, rfl, rfl, rfl, rfl⟩ rfl rfl rfl rfl rfl (by kernel_rfl) Tryz.func3 (by kernel_rfl)
    (of_decide_eq_true (by kernel_rfl)) (by unfold Func.isWrapper; first | (rw [if_pos (by decide +kernel)]; kernel_rfl) | (rw [if_neg (by decide +kernel)]; exact ⟨rfl, rfl⟩))
    (fun os started H enc _ => lifted os started H enc)

theorem proved : Rows.VarsCallsSaid :=
  over
#print axioms proved
end Go.Proofs.YtcaifihdbcjakaaGreat.varsCalls
