/- The sanity check of the statements on layer 15. -/
import Derived.Test.YtcaifihdbcjakaaGreatVAwakeP
import Derived.Test.YtcaifihdbcjakaaGreatVPush2
import Derived.Test.YtcaifihdbcjakaaGreatVLink
namespace Go.Proofs.YtcaifihdbcjakaaGreat
set_option linter.unusedVariables false
set_option linter.unusedSimpArgs false
open Go.RowKit
variable {N : Nat}

theorem awk_link {B : Nat} {S S2 : St} {w2 w3 : World} {x sm m : Nat} {g : Int → Option Nat} {i : Int} {e : Ending} (hE : ∀ m w, nmOf S m w = none) (h0 : ∃ m, g 0 = some m) (hnm : ∀ m w, nmOf S2 m w = nmOf S m w) (hp2 : Sp N S2 x sm (fun j => if j = i then some m else g j))
    (hL : LinkRes N B S2 w2 x sm (fun j => if j = i then some m else g j) i 0 bX bA1 e w3) :
    ∃ S3 a c, e = .returned (.int .i64 0) ∧ Goes B S2 w2 S3 w3 ∧ Sp N S3 x sm (fun j => if j = i then some m else g j) ∧ Ex S3 (fun j => if j = i then some m else g j) i a c := by
  have h0' : ∃ m', (fun j => if j = i then some m else g j) 0 = some m' := by
    by_cases h : 0 = i
    · exact ⟨m, by simp [h]⟩
    · obtain ⟨m', h'⟩ := h0; exact ⟨m', by simp [h, h']⟩
  obtain ⟨r, rfl, ⟨hr, hno, _⟩ | ⟨rfl, S1, c, n, mm, f, hp1, hs, hmore, hf, hgi, hm, hn, _, _, hG⟩⟩ := hL
  · exfalso
    refine hno ⟨⟨m, by simp, by rw [hnm, hE]⟩, h0', by rw [spX], by rw [spA1]; rintro ⟨_, h⟩; revert h; decide, ?_⟩
    obtain ⟨m', h'⟩ := h0'
    unfold findC
    rw [h']
    simp only [hnm, hE]
  · obtain ⟨h1, a, h2⟩ := ex_link (S := S2) (fun m w => by rw [hnm, hE]) h0' hp1 hs hf hgi hm hn
    exact ⟨_, a, c, rfl, hG, h1, h2⟩

theorem awk_set {B : Nat} {S : St} {w w' : World} {x sm a c : Nat} {g : Int → Option Nat} {i : Int} {e : Ending} (hp : Sp N S x sm g) (hx : Ex S g i a c) (hL : SetRes2 N B S w x sm g i bX bV e w') :
    ∃ S4, e = .returned (.int .i64 0) ∧ Goes B S w S4 w' ∧ Sp N S4 x sm g ∧ getC S4 g 0 bA1 = (bV, 0) ∧ kindC S4 g 0 bA = 2 := by
  obtain ⟨r, S4, rfl, hG, hp4, ⟨hr, _, hno⟩ | ⟨rfl, S1, c', hp1, hs, hmore, hf, hst, rfl⟩⟩ := hL
  · exact absurd hno (hx.notNo hp)
  · have h4 := hx.more hp hmore
    have h5 := h4.fX
    rw [hf] at h5
    cases h5
    obtain ⟨h6, h7⟩ := h4.set hp1
    exact ⟨_, rfl, hG, hp4, h6, h7⟩

set_option maxRecDepth 100000 in
set_option maxHeartbeats 1600000 in
theorem awake_any (w : World) : Calls Tryz.prog 6 #[] w fun en w' => en = .returned (.bool true) ∧ Below w.heap.size w w' := by
  have HN := Lib.hid (New_any w)
  go_enter Tryz.func6, Tryz.ntmps6
  go_wp2_with (first | (go_at_call 7; refine HN.out.mono ?_; rintro e w1 ⟨x, sm, S, g, rfl, hG1, hp, h0, hE⟩; have HG1 := Lib.hid hG1; have HP := Lib.hid hp; have H0 := Lib.hid h0; have HE := Lib.hid hE; have HB1 := Lib.hid hG1.below.size; clear hG1 hp h0 hE) | (go_at_call 11; refine (Push_new (by decide) HB1.out HG1.out.rep HP.out).mono ?_; rintro e w2 ⟨i, m, rfl, hwfi, hfr, S2, hG2, hp2, hnm2⟩; have HB2 := Lib.hid (Nat.le_trans HB1.out hG2.below.size); have HG2 := Lib.hid hG2; have HP2 := Lib.hid hp2; have HNM2 := Lib.hid hnm2; have HW := Lib.hid hwfi; clear hG2 hp2 hnm2 hwfi hfr) | (go_at_call 19; refine (Link_any (word := bX) (target := bA1) HB2.out HG2.out.rep HP2.out HW.out (j := 0) (by decide) (by decide) (by decide)).mono ?_; intro e w3 hL; have HR := Lib.hid (awk_link HE.out H0.out HNM2.out HP2.out hL); clear hL; obtain ⟨S3, a, c, rfl, hG3, hp3, hx3⟩ := HR.out; have HB3 := Lib.hid (Nat.le_trans HB2.out hG3.below.size); have HG3 := Lib.hid hG3; have HP3 := Lib.hid hp3; have HX3 := Lib.hid hx3; clear hG3 hp3 hx3 HR) | (go_at_call 15; refine (Set_any2 (word := bX) (val := bV) HB3.out HG3.out.rep HP3.out HW.out (by decide)).mono ?_; intro e w4 hL; have HR4 := Lib.hid (awk_set HP3.out HX3.out hL); clear hL; obtain ⟨S4, rfl, hG4, hp4, hx4, hk4⟩ := HR4.out; have HG4 := Lib.hid hG4; have HP4 := Lib.hid hp4; have HX4 := Lib.hid hx4; have HK4 := Lib.hid hk4; clear hG4 hp4 hx4 hk4 HR4) | (go_at_call 17; refine (Get_any HG4.out.rep HP4.out (i := 0) (by decide) (word := bA1) (by decide)).mono ?_; rintro e w5 ⟨rfl, m5, rfl⟩; rw [HX4.out]) | (go_at_call 13; refine (Kind_any (HG4.out.rep.drewN m5) HP4.out (i := 0) (by decide) (word := bA) (by decide)).mono ?_; rintro e w6 ⟨rfl, m6, rfl⟩; rw [HK4.out]))
  go_ret
  refine ⟨by first | rfl | simp [bV], ?_⟩
  have hb : Below w.heap.size w w4 := ((HG1.out.below.trans HG2.out.below).trans HG3.out.below).trans HG4.out.below
  exact below_drewN hb _
end Go.Proofs.YtcaifihdbcjakaaGreat
