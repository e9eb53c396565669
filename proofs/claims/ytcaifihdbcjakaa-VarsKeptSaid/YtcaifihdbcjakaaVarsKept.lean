/- For all acts, scopes, names and values, 'VarsKept' returns true: what was set is told, whatever else was done before, and other names of the scope keep theirs. No condition. -/
import Derived.Test.YtcaifihdbcjakaaRows
import Derived.Test.YtcaifihdbcjakaaVPlay4
import Derived.Test.YtcaifihdbcjakaaVArgs
import Derived.ProofKit
import Derived.OpenShut
import Derived.ShutString
import Derived.SliceStrings
import Derived.Carry
namespace Go.Proofs.Ytcaifihdbcjakaa
set_option linter.unusedVariables false
set_option linter.unusedSimpArgs false
open Go.RowKit

def actsO (name value other : Bs) : Obj := .cells #[.int .i64 0, .int .i64 0, .int .i64 0, .string ⟨name.toArray⟩, .string ⟨value.toArray⟩, .int .i64 0, .int .i64 0, .int .i64 0, .string ⟨other.toArray⟩, .string ⟨#[]⟩] 29
def actsL (name value other : Bs) : List ActV := [⟨0, 0, 0, name, value⟩, ⟨0, 0, 0, other, []⟩]

theorem acts_row (w : World) (name value other : Bs) : ARow (w.alloc (actsO name value other)).heap.size (w.alloc (actsO name value other)) (some ⟨w.heap.size, 0, none⟩) (actsL name value other) := by
  intro _
  refine ⟨w.heap.size, 0, rfl, by simp, fun i hi => ?_⟩
  have hb := heap_alloc_new w (actsO name value other)
  match i, hi with
  | 0, _ => refine ⟨?_, ?_, ?_, ?_, ?_⟩ <;> (simp only [World.cell?]; rw [hb]; rfl)
  | 1, _ => refine ⟨?_, ?_, ?_, ?_, ?_⟩ <;> (simp only [World.cell?]; rw [hb]; rfl)

theorem acts_light (name value other : Bs) (h1 : name.length ≤ 140737488355328) (h2 : value.length ≤ 140737488355328) (h3 : other.length ≤ 140737488355328) (w : World) :
    Calls Try.prog 9 #[.slice (some ⟨w.heap.size, 0, none⟩) 2 2] (w.alloc (actsO name value other)) fun e w' => e = .returned (.bool (lightB (actsL name value other))) ∧ Below w.heap.size w w' := by
  refine (light_any (actsL name value other) (some ⟨w.heap.size, 0, none⟩) 2 (by simp [actsL]) ?_ _ (acts_row w name value other)).mono fun e w' ⟨h, hb⟩ => ⟨h, ((Below.refl _ w).alloc (Nat.le_refl _) _).trans (hb.mono (by simp))⟩
  intro x hx
  simp only [actsL, List.mem_cons, List.not_mem_nil, or_false] at hx
  rcases hx with rfl | rfl
  · exact ⟨rfl, rfl, rfl, h1, h2⟩
  · exact ⟨rfl, rfl, rfl, h3, Nat.zero_le _⟩

theorem light_len {l : List ActV} (h : lightB l = true) : l.length ≤ 60 ∧ ∀ x ∈ l, x.s.length ≤ 1000000 ∧ x.t.length ≤ 1000000 := by
  simp only [lightB, Bool.and_eq_true, decide_eq_true_eq] at h
  refine ⟨h.1, fun x hx => ?_⟩
  have := sumA_mem hx
  omega
end Go.Proofs.Ytcaifihdbcjakaa
namespace Go.Proofs.Ytcaifihdbcjakaa.varsKept
open Go.ChangeShapes Go.WideShapes Go.ChangeAt Go.RowKit
open Go.ChangeMaps (open_string shut_string)
set_option linter.unusedVariables false
set_option linter.unusedSimpArgs false

set_option maxRecDepth 100000 in
set_option maxHeartbeats 6400000 in
theorem walk (l : List ActV) (ao : Option Addr) (cap : Nat) (hl : l.length ≤ 9223372036854775807) (hok : ∀ x ∈ l, AOk x) (i : Int) (hi : (Lit.int .i64 i).wf = true) (name value other : Bs) (h1 : name.length ≤ 140737488355328) (h2 : value.length ≤ 140737488355328) (h3 : other.length ≤ 140737488355328) (w : World) (hR : ARow w.heap.size w ao l) :
    Calls Try.prog 4 #[.slice ao l.length cap, .int .i64 i, .string ⟨name.toArray⟩, .string ⟨value.toArray⟩, .string ⟨other.toArray⟩] w fun e w' => e = .returned (.bool true) ∧ Below w.heap.size w w' := by
  have HL := Lib.hid (light_any l ao cap hl hok w hR)
  have HA := Lib.hid (acts_light name value other h1 h2 h3)
  by_cases g1 : lightB l = false
  · rw [g1] at HL
    clear hR hok g1
    go_enter Try.func4, Try.ntmps4
    go_wp2_with (first | (go_at_call 9; refine HL.out.mono ?_; rintro e w1 ⟨rfl, hb1⟩; have HB1 := Lib.hid hb1; clear hb1) | (go_at_call 6; refine (awake_any _).mono ?_; rintro e w2 ⟨rfl, hb2⟩))
    go_ret
    exact ⟨rfl, HB1.out.trans (hb2.mono HB1.out.size)⟩
  · have g1t : lightB l = true := by simpa using g1
    rw [g1t] at HL
    by_cases g2 : lightB (actsL name value other) = false
    · rw [g2] at HA
      clear hR hok g1 g2
      have HA' : Hid (∀ w, Calls Try.prog 9 #[.slice (some ⟨w.heap.size, 0, none⟩) 2 2] (w.alloc (.cells #[.int .i64 0, .int .i64 0, .int .i64 0, .string ⟨name.toArray⟩, .string ⟨value.toArray⟩, .int .i64 0, .int .i64 0, .int .i64 0, .string ⟨other.toArray⟩, .string ⟨#[]⟩] 29)) fun e w' => e = .returned (.bool false) ∧ Below w.heap.size w w') := fun w => HA.out w
      go_enter Try.func4, Try.ntmps4
      go_wp2_with (first | (go_at_call_of 9 (Value.slice ao l.length cap); refine HL.out.mono ?_; rintro e w1 ⟨rfl, hb1⟩; have HB1 := Lib.hid hb1; clear hb1) | (go_at_call 9; refine (HA'.out _).mono ?_; rintro e w3 ⟨rfl, hb3⟩; have HB3 := Lib.hid hb3; clear hb3) | (go_at_call 6; refine (awake_any _).mono ?_; rintro e w2 ⟨rfl, hb2⟩))
      go_ret
      exact ⟨rfl, HB1.out.trans ((HB3.out.mono HB1.out.size).trans (hb2.mono (Nat.le_trans HB1.out.size HB3.out.size)))⟩
    · have g2t : lightB (actsL name value other) = true := by simpa using g2
      rw [g2t] at HA
      obtain ⟨hl60, hlen⟩ := light_len g1t
      obtain ⟨_, hlen2⟩ := light_len g2t
      have q1 := (hlen2 ⟨0, 0, 0, name, value⟩ (by simp [actsL])).1
      have q2 := (hlen2 ⟨0, 0, 0, other, []⟩ (by simp [actsL])).1
      have HA' : Hid (∀ w, Calls Try.prog 9 #[.slice (some ⟨w.heap.size, 0, none⟩) 2 2] (w.alloc (.cells #[.int .i64 0, .int .i64 0, .int .i64 0, .string ⟨name.toArray⟩, .string ⟨value.toArray⟩, .int .i64 0, .int .i64 0, .int .i64 0, .string ⟨other.toArray⟩, .string ⟨#[]⟩] 29)) fun e w' => e = .returned (.bool true) ∧ Below w.heap.size w w') := fun w => HA.out w
      have HLEN := Lib.hid hlen
      have HOK := Lib.hid hok
      have HR := Lib.hid hR
      clear hR hok g1 g2 g1t g2t hlen hlen2 HA
      go_enter Try.func4, Try.ntmps4
      go_wp2_with (first | (go_at_call_of 9 (Value.slice ao l.length cap); refine HL.out.mono ?_; rintro e w1 ⟨rfl, hb1⟩; have HB1 := Lib.hid hb1; clear hb1) | (go_at_call 9; refine (HA'.out _).mono ?_; rintro e w3 ⟨rfl, hb3⟩; have HB3 : Hid (Below w.heap.size w w3) := HB1.out.trans (hb3.mono HB1.out.size); clear hb3) | (go_at_call 10; refine (New_any _).mono ?_; rintro e w4 ⟨x, sm, S, g, rfl, hG, hp, _, _⟩; have HX : Hid (XSt 0 w3.heap.size w3 x sm w4) := ⟨S, g, hG.rep, hp, hG.below, hG.below.size⟩; clear hG hp))
      go_loopw [38] (fun q wr => ∃ k : Nat, k ≤ l.length ∧ q = .int .i64 k ∧ XSt k w3.heap.size w3 x sm wr) (fun q _ => l.length - (intOf q).toNat)
      case atStart => exact ⟨0, Nat.zero_le _, rfl, HX.out⟩
      case round =>
        obtain ⟨k, hk, rfl, hst⟩ := hrel
        have HST := Lib.hid hst
        have HBW : Hid (Below w.heap.size w wr) := by obtain ⟨_, _, _, _, hb, _⟩ := hst; exact HB3.out.trans (hb.mono HB3.out.size)
        clear hst
        by_cases hlt : k < l.length
        · obtain ⟨b, off, rfl, hbl, hc⟩ := HR.out (by intro h; rw [h] at hlt; simp at hlt)
          obtain ⟨c0, c1, c2, c3, c4⟩ := hc k hlt
          have d0 := (HBW.out.cell (p := ⟨b, _, none⟩) hbl).trans c0
          have d1 := (HBW.out.cell (p := ⟨b, _, none⟩) hbl).trans c1
          have d2 := (HBW.out.cell (p := ⟨b, _, none⟩) hbl).trans c2
          have d3 := (HBW.out.cell (p := ⟨b, _, none⟩) hbl).trans c3
          have d4 := (HBW.out.cell (p := ⟨b, _, none⟩) hbl).trans c4
          have hx := Lib.hid (HOK.out l[k] (List.getElem_mem _))
          have hxl := Lib.hid (HLEN.out l[k] (List.getElem_mem _))
          generalize l[k] = v at *
          obtain ⟨vk, va, vb, vs, vt⟩ := v
          simp only at d0 d1 d2 d3 d4
          clear c0 c1 c2 c3 c4 hc
          have HN : Hid (∀ W, Kp [] wr W → W.heap[wr.heap.size]? = some (actB vk va vb vs vt) → Calls Try.prog 12 #[] W fun e w1 => ∃ y, e = .returned (.pointer (some ⟨y, 0, none⟩)) ∧ RMid k w3.heap.size w3 x sm y wr.heap.size (actB vk va vb vs vt) w1) := fun W hkk ho =>
            (rNew_any W).mono fun e w1 hr => rmid (by
              obtain ⟨S, g, r1, r2, r3, r4⟩ := HST.out
              exact ⟨S, g, r1.kp hkk (by simp), r2, r3.trans (hkk.below r4 (by simp)), Nat.le_trans r4 hkk.size⟩) ho hr
          go_wp2_with fail
          go_region_with ((first | (go_at_call 12; refine (HN.out _ (by exact ((Kp.refl [] wr).alloc _).drew) (by exact heap_alloc_new wr _)).mono ?_; rintro e w5 ⟨y, rfl, hm⟩; obtain ⟨⟨r0, r1, r2, r3, r4⟩, rl⟩ := cells5 hm.box; have HM := Lib.hid hm; clear hm) | (go_at_call 11; refine (rmid_play (v := ⟨vk, va, vb, vs, vt⟩) (by omega) HM.out hx.out hxl.out.1 hxl.out.2).mono ?_; rintro e w6 ⟨⟨bb, rfl⟩, hst⟩; have HST2 := Lib.hid hst; clear hst)))
          all_goals
            go_wp2_with fail
            exact ⟨⟨k + 1, by omega, by go_num, HST2.out⟩, by simp [intOf]; omega⟩
        · have hkl : k = l.length := by omega
          subst hkl
          obtain ⟨S, g, hRep, hp, hbl, hlo⟩ := HST.out
          obtain ⟨⟨v, c⟩, hvc⟩ : ∃ q, getC S g i other = q := ⟨_, rfl⟩
          have hm1 : name.length ≤ maxLen := by simp [maxLen]; omega
          have hm2 : other.length ≤ maxLen := by simp [maxLen]; omega
          have HGET : Hid (Calls Try.prog 13 #[.pointer (some ⟨x, 0, none⟩), .int .i64 i, .string ⟨other.toArray⟩] wr fun en w' => en = .returned (.tuple #[.string ⟨v.toArray⟩, .int .i64 c]) ∧ ∃ m, w' = wr.drewN m) := by
            have := Get_any hRep hp hi (word := other) hm2
            rw [hvc] at this
            exact this
          have HSET : Hid (∀ m, Calls Try.prog 14 #[.pointer (some ⟨x, 0, none⟩), .int .i64 i, .string ⟨name.toArray⟩, .string ⟨value.toArray⟩] (wr.drewN m) fun en w' => SetRes l.length w3.heap.size S (wr.drewN m) x sm g i name value en w') := fun m => Set_any (by simpa using hlo) (hRep.drewN m) hp hi hm1
          have HVC := Lib.hid hvc
          have HBL := Lib.hid (fun m => below_drewN hbl m)
          clear hRep hp hvc hbl
          have tokA : True := trivial
          go_wp2_with (first | (go_at_call 13; have _t := tokA; refine HGET.out.mono ?_; rintro e w5 ⟨rfl, m, rfl⟩; clear tokA _t HGET) | (go_at_call 14; refine (HSET.out _).mono ?_; rintro e w6 ⟨r, S', rfl, hG, hp', hcase⟩; have HP' := Lib.hid hp'; have HR' := Lib.hid hG.rep; have HB6 := Lib.hid ((HBL.out m).trans hG.below); have HC := Lib.hid hcase; clear hG hp' hcase))
          have HGn := Lib.hid (Get_any HR'.out HP'.out hi (word := name) hm1)
          have HGo := Lib.hid (fun m => Get_any (HR'.out.drewN m) HP'.out hi (word := other) hm2)
          have HFIN : Hid (∀ w7, Below w6.heap.size w6 w7 → Below w.heap.size w w7) := fun w7 hb => by
            have hb6 := HB6.out
            exact HB3.out.trans ((hb6.mono HB3.out.size).trans (hb.mono (Nat.le_trans HB3.out.size hb6.size)))
          have HAW : Hid (∀ w7, Below w6.heap.size w6 w7 → Calls Try.prog 6 #[] w7 fun e w8 => e = .returned (.bool true) ∧ Below w.heap.size w w8) := fun w7 hb =>
            (awake_any w7).mono fun e w8 ⟨h1, h2⟩ => ⟨h1, HFIN.out w8 (hb.trans (h2.mono hb.size))⟩
          clear HB6 HFIN
          rcases HC.out with ⟨hr, hsame⟩ | ⟨hr, S1, c1, hp1, hsame, hmore, hf1, hst1, hS'⟩
          · have tr : (r != 0) = true := by simpa using hr
            rw [(hsame i other).1, HVC.out] at HGo
            generalize getC S' g i name = gn at *
            obtain ⟨gv, gc⟩ := gn
            simp only at HGn HGo
            clear hr hsame HC HVC
            have tokB : True := trivial
            go_wp2_with (first | (go_at_call 13; have _t := tokB; refine HGn.out.mono ?_; rintro e w7 ⟨rfl, m7, rfl⟩; clear tokB _t) | (go_at_call 13; refine (HGo.out _).mono ?_; rintro e w8 ⟨rfl, m8, rfl⟩) | (go_at_call 6; refine (HAW.out _ (by exact below_drewN (Below.refl _ w6) _)).mono ?_; rintro e w9 ⟨rfl, hb9⟩))
            go_ret
            exact ⟨rfl, hb9⟩
          · subst hr
            obtain ⟨k1, v1, e1, p1, hc1⟩ := findC_cell hp1.wf hp1.smap (i := i) (word := name) (c := c1) (by rw [hf1])
            have hkept := kept hp1 hf1 hst1 value
            rw [← setS_eq hp1.wf hc1, ← hS'] at hkept
            obtain ⟨hk1, hk2⟩ := hkept
            have hko := hk2 i other
            rw [(hsame i other).1, HVC.out] at hko
            rw [hk1] at HGn
            clear hk2 hS' hst1 hf1 hmore hp1 hsame hc1 HC HVC
            have gg : ((0 : Int) == 0) = true := rfl
            have gv : (value == value) = true := by simp
            obtain ⟨⟨v3, c3⟩, h33⟩ : ∃ q, getC S' g i other = q := ⟨_, rfl⟩
            rw [h33] at hko HGo
            simp only at HGo HGn
            clear h33 hk1
            by_cases hc : c = c3
            · subst hc
              have bc : (c == c) = true := by simp
              by_cases hv : v = v3
              · subst hv
                have bv : (v == v) = true := by simp
                clear hko
                have tokB : True := trivial
                go_wp2_with (first | (go_at_call 13; have _t := tokB; refine HGn.out.mono ?_; rintro e w7 ⟨rfl, m7, rfl⟩; clear tokB _t) | (go_at_call 13; refine (HGo.out _).mono ?_; rintro e w8 ⟨rfl, m8, rfl⟩) | (go_at_call 6; refine (HAW.out _ (by exact below_drewN (Below.refl _ w6) _)).mono ?_; rintro e w9 ⟨rfl, hb9⟩))
                go_ret
                exact ⟨rfl, hb9⟩
              · have bv : (v == v3) = false := by simpa using hv
                rcases hko with hko | hko | hko
                · cases hko; exact absurd rfl hv
                · cases hko
                  clear hv
                  have tokB : True := trivial
                  go_wp2_with (first | (go_at_call 13; have _t := tokB; refine HGn.out.mono ?_; rintro e w7 ⟨rfl, m7, rfl⟩; clear tokB _t) | (go_at_call 13; refine (HGo.out _).mono ?_; rintro e w8 ⟨rfl, m8, rfl⟩) | (go_at_call 6; refine (HAW.out _ (by exact below_drewN (Below.refl _ w6) _)).mono ?_; rintro e w9 ⟨rfl, hb9⟩))
                  go_ret
                  exact ⟨rfl, hb9⟩
                · simp only at hko
                  subst hko
                  clear hv
                  have b3 : ((11 : Int) == 0) = false := rfl
                  have b4 : ((11 : Int) == 11) = true := rfl
                  have tokB : True := trivial
                  go_wp2_with (first | (go_at_call 13; have _t := tokB; refine HGn.out.mono ?_; rintro e w7 ⟨rfl, m7, rfl⟩; clear tokB _t) | (go_at_call 13; refine (HGo.out _).mono ?_; rintro e w8 ⟨rfl, m8, rfl⟩) | (go_at_call 6; refine (HAW.out _ (by exact below_drewN (Below.refl _ w6) _)).mono ?_; rintro e w9 ⟨rfl, hb9⟩))
                  go_ret
                  exact ⟨rfl, hb9⟩
            · have bc : (c == c3) = false := by simpa using hc
              rcases hko with hko | hko | hko
              · cases hko; exact absurd rfl hc
              · cases hko
                clear hc
                have tokB : True := trivial
                go_wp2_with (first | (go_at_call 13; have _t := tokB; refine HGn.out.mono ?_; rintro e w7 ⟨rfl, m7, rfl⟩; clear tokB _t) | (go_at_call 13; refine (HGo.out _).mono ?_; rintro e w8 ⟨rfl, m8, rfl⟩) | (go_at_call 6; refine (HAW.out _ (by exact below_drewN (Below.refl _ w6) _)).mono ?_; rintro e w9 ⟨rfl, hb9⟩))
                go_ret
                exact ⟨rfl, hb9⟩
              · simp only at hko
                subst hko
                clear hc
                have b3 : ((11 : Int) == 0) = false := rfl
                have b4 : ((11 : Int) == 11) = true := rfl
                have tokB : True := trivial
                go_wp2_with (first | (go_at_call 13; have _t := tokB; refine HGn.out.mono ?_; rintro e w7 ⟨rfl, m7, rfl⟩; clear tokB _t) | (go_at_call 13; refine (HGo.out _).mono ?_; rintro e w8 ⟨rfl, m8, rfl⟩) | (go_at_call 6; refine (HAW.out _ (by exact below_drewN (Below.refl _ w6) _)).mono ?_; rintro e w9 ⟨rfl, hb9⟩))
                go_ret
                exact ⟨rfl, hb9⟩

theorem own : ownKnob Try.prog.godebug = none := by kernel_rfl
theorem laidOut : laidOutB Try.prog = true := by kernel_rfl

theorem walkB (l : List ActV) (ao : Option Addr) (n cap : Nat) (hn : n = l.length) (hl : l.length ≤ 9223372036854775807) (hok : ∀ x ∈ l, AOk x) (i : Int) (hi : (Lit.int .i64 i).wf = true) (a2 a3 a4 : ByteArray) (h2 : a2.data.toList.length ≤ reachBytes) (h3 : a3.data.toList.length ≤ reachBytes) (h4 : a4.data.toList.length ≤ reachBytes) (w : World) (hR : ARow w.heap.size w ao l) :
    Calls Try.prog 4 #[.slice ao n cap, .int .i64 i, .string a2, .string a3, .string a4] w fun e w' => e = .returned (.bool true) ∧ Below w.heap.size w w' := by
  subst hn
  have hr : reachBytes ≤ 140737488355328 := by decide
  cases a2 with
  | mk d2 => cases d2 with
    | mk l2 => cases a3 with
      | mk d3 => cases d3 with
        | mk l3 => cases a4 with
          | mk d4 => cases d4 with
            | mk l4 => exact walk l ao cap hl hok i hi l2 l3 l4 (Nat.le_trans h2 hr) (Nat.le_trans h3 hr) (Nat.le_trans h4 hr) w hR

set_option maxRecDepth 100000 in
theorem lifted (os : Os) (started : os.Started) (H : Type) (enc : TypeId × Value → H) :
    ReturnsInHanded {} Try.checked os 4 .any (Rows.varsKeptSpec.pre6 enc Try.prog Try.f4 Rows.varsKeptRow.domain false) (Rows.varsKeptSpec.post enc Try.prog Try.f4 false true false false) := by
  refine returnsInHanded_of_change_sized (C := Try.checked) own started (by kernel_rfl) Try.func4
    (ChangeSpec.witness6 (enc := enc) (C := Try.checked) false ⟨#[], #[.slice none 0 0, .int .i64 0, .string ByteArray.empty, .string ByteArray.empty, .string ByteArray.empty], []⟩ 8 (by kernel_rfl) (by kernel_rfl) (by kernel_rfl) (by kernel_rfl)) ?_
  intro W base args ds gs before hval0 hW hcnd hsz0 _
  have hval : ∀ (j : Nat) t v, Try.f4.params[j]? = some t → args[j]? = some v → Value.okWide Try.prog W .any base t v := hval0
  have hsz : (DataW.weightsEach Try.prog (Try.f4.params.toList ++ Rows.varsKeptSpec.plain.varTypes Try.prog) (ds ++ gs)).all (· ≤ reachBytes) = true := hsz0
  have hW' := hW
  obtain ⟨p, q, hA0, hV, rfl, hfz, hnd⟩ := hW
  have hA : DataW.TrodAll enc Try.prog W 0 (fun _ => true) true Try.f4.params.toList args.toList ds p := hA0
  rw [Try.params4] at hA hval hsz
  obtain ⟨v0, vs0, d0, ds0, p0, q0, hargs, rfl, rfl, h0, r0⟩ := trodAll_cons hA
  obtain ⟨v1, vs1, d1, ds1, p1, q1, rfl, rfl, rfl, h1, r1⟩ := trodAll_cons r0
  obtain ⟨v2, vs2, d2, ds2, p2, q2, rfl, rfl, rfl, h2, r2⟩ := trodAll_cons r1
  obtain ⟨v3, vs3, d3, ds3, p3, q3, rfl, rfl, rfl, h3, r3⟩ := trodAll_cons r2
  obtain ⟨v4, vs4, d4, ds4, p4, q4, rfl, rfl, rfl, h4, r4⟩ := trodAll_cons r3
  obtain ⟨rfl, rfl, rfl⟩ := trodAll_nil r4
  obtain rfl : args = #[v0, v1, v2, v3, v4] := by cases args; simp_all
  obtain ⟨rfl, rfl⟩ := trodVars_none hV
  obtain ⟨a0, n, cap, rfl⟩ := okWide_slice Try.underlying26 (hval 0 26 v0 rfl rfl)
  obtain ⟨a1, rfl, rfl, rfl, w1⟩ := open_int Try.underlying3 (hval 1 3 v1 rfl rfl) h1
  obtain ⟨a2, rfl, rfl, rfl, w2⟩ := open_string Try.underlying9 (hval 2 9 v2 rfl rfl) h2
  obtain ⟨a3, rfl, rfl, rfl, w3⟩ := open_string Try.underlying9 (hval 3 9 v3 rfl rfl) h3
  obtain ⟨a4, rfl, rfl, rfl, w4⟩ := open_string Try.underlying9 (hval 4 9 v4 rfl rfl) h4
  have h0k := h0
  obtain ⟨fuel, hf⟩ := h0
  clear hA0 hval0
  simp only [List.append_nil, List.nil_append] at hW'
  have hlt : ∀ x ∈ p0, x.block < W.heap.size := fun x hx => by simpa using hW'.lt x hx
  have s2 := sized_string hsz (j := 2) (t := 9) rfl rfl
  have s3 := sized_string hsz (j := 3) (t := 9) rfl rfl
  have s4 := sized_string hsz (j := 4) (t := 9) rfl rfl
  obtain ⟨l, hn, hl, hR, hok⟩ := open_acts hf hlt (fun m hm => by
    have := List.all_eq_true.1 hsz _ (DataW.weights_mem_each (j := 0) (t := 26) rfl rfl m hm)
    simpa using this)
  refine (walkB l a0 n cap hn hl hok a1 w1 a2 a3 a4 s2 s3 s4 W hR).mono fun e W' ⟨he, hb⟩ => ?_
  subst he
  exact ⟨_, rfl, _, _, _, [], p0 ++ ([] ++ ([] ++ ([] ++ ([] ++ [])))), [], hW', trodAll_cons_mk (shut_bool Try.underlying4 _) trodAll_mk0,
    trodAll_cons_mk (Below.trod laidOut (by kernel_rfl) (of_decide_eq_true (by kernel_rfl)) h0k hb hlt) (trodAll_cons_mk (shut_int Try.underlying3 w1) (trodAll_cons_mk (shut_string Try.underlying9 w2) (trodAll_cons_mk (shut_string Try.underlying9 w3) (trodAll_cons_mk (shut_string Try.underlying9 w4) trodAll_mk0)))), rfl, hb.frame _, fun h => by cases h⟩

theorem over : Rows.varsKeptRow.holds Try.pinned (OpenSpec.ofChange Rows.varsKeptSpec) :=
  OpenClaim.holds_of_wide 4 Try.f4 rfl rfl rfl rfl rfl rfl rfl ⟨rfl, rfl, rfl, rfl, rfl⟩ rfl rfl rfl rfl rfl (by kernel_rfl) Try.func4 (by kernel_rfl)
    (of_decide_eq_true (by kernel_rfl)) (by unfold Func.isWrapper; first | (rw [if_pos (by decide +kernel)]; kernel_rfl) | (rw [if_neg (by decide +kernel)]; exact ⟨rfl, rfl⟩))
    (fun os started H enc _ => lifted os started H enc)

theorem proved : Rows.VarsKeptSaid :=
  over
#print axioms proved
end Go.Proofs.Ytcaifihdbcjakaa.varsKept
