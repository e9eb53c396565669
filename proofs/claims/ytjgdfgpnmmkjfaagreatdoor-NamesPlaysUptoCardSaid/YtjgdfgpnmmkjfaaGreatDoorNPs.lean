/- 'same' of both trees. -/
import Derived.Test.YtjgdfgpnmmkjfaaGreatDoorNAs
import Derived.Deep.RegionHeld3
namespace Go.Proofs.YtjgdfgpnmmkjfaaGreatDoor
set_option linter.unusedVariables false
set_option linter.unusedSimpArgs false
open Go.RowKit Go.MapKept
section
variable {B tb m yb : Nat} {who whoY : Own}
set_option maxRecDepth 100000 in
set_option maxHeartbeats 6400000 in
theorem ns_any {w : World} {S : Bs → Option ND} {n : Nat} {ks : List Bs} (h : Tn w B tb m yb who whoY S S) (hF : FitN S n) (hG : Gx S) (hks : KeysOf S ks) (k : Int) (s t : Bs) (hs : s.length ≤ 1500) (ht : t.length ≤ 1500) (lo : Option Addr) (ln lc : Nat) (cl : Bool) :
    Calls Tryz.prog 22 #[.pointer (some ⟨tb, 0, none⟩), .pointer (some ⟨yb, 0, none⟩), .agg #[.int .i64 k, .string ⟨s.toArray⟩, .string ⟨t.toArray⟩, .slice lo ln lc, .bool cl]] w fun e w' => e = .returned (.bool true) ∧ Tn w' B tb m yb who whoY S S ∧ Below w.heap.size w w' := by
  have hb : Below w.heap.size w (w.alloc (.cells #[.int .i64 k, .string ⟨s.toArray⟩, .string ⟨t.toArray⟩, .slice lo ln lc, .bool cl] 29)) := (Below.refl _ w).alloc (Nat.le_refl _) _
  have hbn := heap_alloc_new w (.cells #[.int .i64 k, .string ⟨s.toArray⟩, .string ⟨t.toArray⟩, .slice lo ln lc, .bool cl] 29)
  obtain ⟨ab, hab⟩ : ∃ ab, w.heap.size = ab := ⟨_, rfl⟩
  obtain ⟨W0, hWd⟩ : ∃ W, w.alloc (.cells #[.int .i64 k, .string ⟨s.toArray⟩, .string ⟨t.toArray⟩, .slice lo ln lc, .bool cl] 29) = W := ⟨_, rfl⟩
  rw [hWd] at hb hbn
  rw [hab] at hbn
  have HA : Hid (AskN B tb m yb who whoY S n ks W0 W0) := ⟨h.low hb, hF, hG, hks, Below.refl _ _⟩
  have hal : ab < W0.heap.size := (Array.getElem?_eq_some_iff.1 hbn).1
  have CE : Hid (∀ W' : World, AskN B tb m yb who whoY S n ks W0 W' → W'.cell? ⟨ab, 1, none⟩ = some (.string ⟨s.toArray⟩) ∧ W'.cell? ⟨ab, 2, none⟩ = some (.string ⟨t.toArray⟩)) := fun W' e => by
    have e2 := (e.below.block ab hal).trans hbn
    exact ⟨(vcells5 e2).2.1, (vcells5 e2).2.2.1⟩
  have FIN : Hid (∀ W', AskN B tb m yb who whoY S n ks W0 W' → Tn W' B tb m yb who whoY S S ∧ Below w.heap.size w W') := fun W' e => ⟨e.tn, hb.trans (e.below.mono hb.size)⟩
  obtain ⟨⟨c1, c2⟩, hcq⟩ : ∃ q, chQ S ks s t = q := ⟨_, rfl⟩
  obtain ⟨⟨f1, f2⟩, hfq⟩ : ∃ q, seQ S s = q := ⟨_, rfl⟩
  obtain ⟨⟨g1, g2⟩, hgq⟩ : ∃ q, paQ S s = q := ⟨_, rfl⟩
  obtain ⟨⟨d1, d2⟩, hdq⟩ : ∃ q, candS S s t = q := ⟨_, rfl⟩
  obtain ⟨⟨u1, u2⟩, huq⟩ : ∃ q, unQ S s = q := ⟨_, rfl⟩
  obtain ⟨xe, hxe⟩ : ∃ q, (S (canonN rootN s)).isSome = q := ⟨_, rfl⟩
  obtain ⟨xp, hxp⟩ : ∃ q, expQ (exQ S s) t = q := ⟨_, rfl⟩
  have CH1 : Hid (∀ W, AskN B tb m yb who whoY S n ks W0 W → Calls Tryz.prog 43 #[.pointer (some ⟨tb, 0, none⟩), .string ⟨s.toArray⟩, .string ⟨t.toArray⟩] W fun e w' => ∃ vo, e = .returned (.tuple #[vo, .int .i64 c1]) ∧ TxtRow w' vo c2 ∧ AskN B tb m yb who whoY S n ks W0 w') := fun W h => h.children s hs t ht hcq
  have CH2 : Hid (∀ W (va : Value), TxtRow W va c2 → AskN B tb m yb who whoY S n ks W0 W → Calls Tryz.prog 44 #[.pointer (some ⟨yb, 0, none⟩), .string ⟨s.toArray⟩, .string ⟨t.toArray⟩] W fun e w' => ∃ vo, e = .returned (.tuple #[vo, .int .i64 c1]) ∧ TxtRow w' va c2 ∧ TxtRow w' vo c2 ∧ AskN B tb m yb who whoY S n ks W0 w') := fun W va hr h => h.rchildren s hs t ht hcq hr
  have SE1 : Hid (∀ W, AskN B tb m yb who whoY S n ks W0 W → Calls Tryz.prog 21 #[.pointer (some ⟨tb, 0, none⟩), .string ⟨s.toArray⟩] W fun e w' => ∃ vo, e = .returned (.tuple #[vo, .int .i64 f1]) ∧ TxtRow w' vo f2 ∧ AskN B tb m yb who whoY S n ks W0 w') := fun W h => h.search s hs hfq
  have SE2 : Hid (∀ W (va : Value), TxtRow W va f2 → AskN B tb m yb who whoY S n ks W0 W → Calls Tryz.prog 49 #[.pointer (some ⟨yb, 0, none⟩), .string ⟨s.toArray⟩] W fun e w' => ∃ vo, e = .returned (.tuple #[vo, .int .i64 f1]) ∧ TxtRow w' va f2 ∧ TxtRow w' vo f2 ∧ AskN B tb m yb who whoY S n ks W0 w') := fun W va hr h => h.rsearch s hs hfq hr
  have PT1 : Hid (∀ W, AskN B tb m yb who whoY S n ks W0 W → Calls Tryz.prog 50 #[.pointer (some ⟨tb, 0, none⟩), .string ⟨s.toArray⟩] W fun e w' => ∃ vo, e = .returned (.tuple #[vo, .int .i64 g1]) ∧ TxtRow w' vo g2 ∧ AskN B tb m yb who whoY S n ks W0 w') := fun W h => h.pats s hs hgq
  have PT2 : Hid (∀ W (va : Value), TxtRow W va g2 → AskN B tb m yb who whoY S n ks W0 W → Calls Tryz.prog 51 #[.pointer (some ⟨yb, 0, none⟩), .string ⟨s.toArray⟩] W fun e w' => ∃ vo, e = .returned (.tuple #[vo, .int .i64 g1]) ∧ TxtRow w' va g2 ∧ TxtRow w' vo g2 ∧ AskN B tb m yb who whoY S n ks W0 w') := fun W va hr h => h.rpats s hs hgq hr
  have CD1 : Hid (∀ W, AskN B tb m yb who whoY S n ks W0 W → Calls Tryz.prog 17 #[.pointer (some ⟨tb, 0, none⟩), .string ⟨s.toArray⟩, .string ⟨t.toArray⟩] W fun e w' => ∃ vo, e = .returned (.tuple #[vo, .int .i64 d1]) ∧ TxtRow w' vo d2 ∧ AskN B tb m yb who whoY S n ks W0 w') := fun W h => h.cands s hs t ht hdq
  have CD2 : Hid (∀ W (va : Value), TxtRow W va d2 → AskN B tb m yb who whoY S n ks W0 W → Calls Tryz.prog 52 #[.pointer (some ⟨yb, 0, none⟩), .string ⟨s.toArray⟩, .string ⟨t.toArray⟩] W fun e w' => ∃ vo, e = .returned (.tuple #[vo, .int .i64 d1]) ∧ TxtRow w' va d2 ∧ TxtRow w' vo d2 ∧ AskN B tb m yb who whoY S n ks W0 w') := fun W va hr h => h.rcands s hs t ht hdq hr
  have EX1 : Hid (∀ W, AskN B tb m yb who whoY S n ks W0 W → Calls Tryz.prog 12 #[.pointer (some ⟨tb, 0, none⟩), .string ⟨s.toArray⟩] W fun e w' => e = .returned (.bool xe) ∧ AskN B tb m yb who whoY S n ks W0 w') := fun W h => h.exist s hs hxe
  have EX2 : Hid (∀ W, AskN B tb m yb who whoY S n ks W0 W → Calls Tryz.prog 45 #[.pointer (some ⟨yb, 0, none⟩), .string ⟨s.toArray⟩] W fun e w' => e = .returned (.bool xe) ∧ AskN B tb m yb who whoY S n ks W0 w') := fun W h => h.rexist s hs hxe
  have EP1 : Hid (∀ W, AskN B tb m yb who whoY S n ks W0 W → Calls Tryz.prog 47 #[.pointer (some ⟨tb, 0, none⟩), .string ⟨s.toArray⟩, .string ⟨t.toArray⟩] W fun e w' => e = .returned (.bool xp) ∧ AskN B tb m yb who whoY S n ks W0 w') := fun W h => h.exps s hs t ht hxp
  have EP2 : Hid (∀ W, AskN B tb m yb who whoY S n ks W0 W → Calls Tryz.prog 48 #[.pointer (some ⟨yb, 0, none⟩), .string ⟨s.toArray⟩, .string ⟨t.toArray⟩] W fun e w' => e = .returned (.bool xp) ∧ AskN B tb m yb who whoY S n ks W0 w') := fun W h => h.rexps s hs t ht hxp
  have AL1 : Hid (∀ W, AskN B tb m yb who whoY S n ks W0 W → Calls Tryz.prog 11 #[.pointer (some ⟨tb, 0, none⟩)] W fun e w' => ∃ vo, e = .returned vo ∧ TxtRow w' vo ks ∧ AskN B tb m yb who whoY S n ks W0 w') := fun W h => h.all
  have AL2 : Hid (∀ W (va : Value), TxtRow W va ks → AskN B tb m yb who whoY S n ks W0 W → Calls Tryz.prog 46 #[.pointer (some ⟨yb, 0, none⟩)] W fun e w' => ∃ vo, e = .returned vo ∧ TxtRow w' va ks ∧ TxtRow w' vo ks ∧ AskN B tb m yb who whoY S n ks W0 w') := fun W va hr h => h.rall hr
  have UN1 : Hid (∀ W (va vb : Value), TxtRow W va d2 → TxtRow W vb d2 → AskN B tb m yb who whoY S n ks W0 W → Calls Tryz.prog 53 #[.pointer (some ⟨tb, 0, none⟩), .string ⟨s.toArray⟩] W fun e w' => e = .returned (.tuple #[.string ⟨u2.toArray⟩, .int .i64 u1]) ∧ TxtRow w' va d2 ∧ TxtRow w' vb d2 ∧ AskN B tb m yb who whoY S n ks W0 w') := fun W va vb hr1 hr2 h => h.unk s hs huq hr1 hr2
  have UN2 : Hid (∀ W (va vb : Value), TxtRow W va d2 → TxtRow W vb d2 → AskN B tb m yb who whoY S n ks W0 W → Calls Tryz.prog 54 #[.pointer (some ⟨yb, 0, none⟩), .string ⟨s.toArray⟩] W fun e w' => e = .returned (.tuple #[.string ⟨u2.toArray⟩, .int .i64 u1]) ∧ TxtRow w' va d2 ∧ TxtRow w' vb d2 ∧ AskN B tb m yb who whoY S n ks W0 w') := fun W va vb hr1 hr2 h => h.runk s hs huq hr1 hr2
  have SM : Hid (∀ W (va vb : Value) (ss : List Bs), TxtRow W va ss → TxtRow W vb ss → AskN B tb m yb who whoY S n ks W0 W → Calls Tryz.prog 16 #[va, vb] W fun e w' => e = .returned (.bool true) ∧ AskN B tb m yb who whoY S n ks W0 w') := fun W va vb ss hr1 hr2 h => h.same hr1 hr2
  obtain ⟨z1, z2⟩ := CE.out W0 HA.out
  clear h hF hG hks hb hbn hal hcq hfq hgq hdq huq hxe hxp hs ht
  go_enter Tryz.func22, Tryz.ntmps22
  go_wp2_with (first
    | (go_at_call 43; with_reducible refine (CH1.out _ (by first | exact HA.out | exact HA.out.drew)).mono ?_; rintro e wz ⟨va, rfl, hr, hA⟩; have HR := Lib.hid hr; clear hr; obtain ⟨z1, z2⟩ := CE.out _ hA; clear HA; have HA := Lib.hid hA; clear hA)
    | (go_at_call 44; with_reducible refine (CH2.out _ va HR.out (by first | exact HA.out | exact HA.out.drew)).mono ?_; rintro e wz ⟨vb, rfl, hr1, hr2, hA⟩; clear HR; have HR := Lib.hid (And.intro hr1 hr2); clear hr1 hr2; obtain ⟨z1, z2⟩ := CE.out _ hA; clear HA; have HA := Lib.hid hA; clear hA))
  go_region_held3 (fun w' => w'.cell? ⟨ab, 1, none⟩ = some (.string ⟨s.toArray⟩) ∧ w'.cell? ⟨ab, 2, none⟩ = some (.string ⟨t.toArray⟩)) (first | go_keep | exact ⟨z1, z2⟩) (first
    | (go_at_call 16; with_reducible refine (SM.out _ va vb _ (by first | exact HR.out.1 | exact HR.out.1.below (Below.refl _ _).drew) (by first | exact HR.out.2 | exact HR.out.2.below (Below.refl _ _).drew) (by first | exact HA.out | exact HA.out.drew)).mono ?_; rintro e wz ⟨rfl, hA⟩; clear HR; obtain ⟨z1, z2⟩ := CE.out _ hA; clear HA; have HA := Lib.hid hA; clear hA)
    | (go_at_call 12; with_reducible refine (EX1.out _ (by first | exact HA.out | exact HA.out.drew)).mono ?_; rintro e wz ⟨rfl, hA⟩; obtain ⟨z1, z2⟩ := CE.out _ hA; clear HA; have HA := Lib.hid hA; clear hA)
    | (go_at_call 45; with_reducible refine (EX2.out _ (by first | exact HA.out | exact HA.out.drew)).mono ?_; rintro e wz ⟨rfl, hA⟩; obtain ⟨z1, z2⟩ := CE.out _ hA; clear HA; have HA := Lib.hid hA; clear hA)
    | (go_at_call 11; with_reducible refine (AL1.out _ (by first | exact HA.out | exact HA.out.drew)).mono ?_; rintro e wz ⟨va, rfl, hr, hA⟩; have HR := Lib.hid hr; clear hr; obtain ⟨z1, z2⟩ := CE.out _ hA; clear HA; have HA := Lib.hid hA; clear hA)
    | (go_at_call 46; with_reducible refine (AL2.out _ va HR.out (by first | exact HA.out | exact HA.out.drew)).mono ?_; rintro e wz ⟨vb, rfl, hr1, hr2, hA⟩; clear HR; have HR := Lib.hid (And.intro hr1 hr2); clear hr1 hr2; obtain ⟨z1, z2⟩ := CE.out _ hA; clear HA; have HA := Lib.hid hA; clear hA)
    | (go_at_call 47; with_reducible refine (EP1.out _ (by first | exact HA.out | exact HA.out.drew)).mono ?_; rintro e wz ⟨rfl, hA⟩; obtain ⟨z1, z2⟩ := CE.out _ hA; clear HA; have HA := Lib.hid hA; clear hA)
    | (go_at_call 48; with_reducible refine (EP2.out _ (by first | exact HA.out | exact HA.out.drew)).mono ?_; rintro e wz ⟨rfl, hA⟩; obtain ⟨z1, z2⟩ := CE.out _ hA; clear HA; have HA := Lib.hid hA; clear hA))
  go_wp2_with (first
    | (go_at_call 21; with_reducible refine (SE1.out _ (by first | exact HA.out | exact HA.out.drew)).mono ?_; rintro e wz ⟨va, rfl, hr, hA⟩; have HR := Lib.hid hr; clear hr; obtain ⟨z1, z2⟩ := CE.out _ hA; clear HA; have HA := Lib.hid hA; clear hA)
    | (go_at_call 49; with_reducible refine (SE2.out _ va HR.out (by first | exact HA.out | exact HA.out.drew)).mono ?_; rintro e wz ⟨vb, rfl, hr1, hr2, hA⟩; clear HR; have HR := Lib.hid (And.intro hr1 hr2); clear hr1 hr2; obtain ⟨z1, z2⟩ := CE.out _ hA; clear HA; have HA := Lib.hid hA; clear hA)
    | (go_at_call 50; with_reducible refine (PT1.out _ (by first | exact HA.out | exact HA.out.drew)).mono ?_; rintro e wz ⟨va, rfl, hr, hA⟩; have HR := Lib.hid hr; clear hr; obtain ⟨z1, z2⟩ := CE.out _ hA; clear HA; have HA := Lib.hid hA; clear hA)
    | (go_at_call 51; with_reducible refine (PT2.out _ va HR.out (by first | exact HA.out | exact HA.out.drew)).mono ?_; rintro e wz ⟨vb, rfl, hr1, hr2, hA⟩; clear HR; have HR := Lib.hid (And.intro hr1 hr2); clear hr1 hr2; obtain ⟨z1, z2⟩ := CE.out _ hA; clear HA; have HA := Lib.hid hA; clear hA)
    | (go_at_call 17; with_reducible refine (CD1.out _ (by first | exact HA.out | exact HA.out.drew)).mono ?_; rintro e wz ⟨va, rfl, hr, hA⟩; have HR := Lib.hid hr; clear hr; obtain ⟨z1, z2⟩ := CE.out _ hA; clear HA; have HA := Lib.hid hA; clear hA)
    | (go_at_call 52; with_reducible refine (CD2.out _ va HR.out (by first | exact HA.out | exact HA.out.drew)).mono ?_; rintro e wz ⟨vb, rfl, hr1, hr2, hA⟩; clear HR; have HR := Lib.hid (And.intro hr1 hr2); clear hr1 hr2; obtain ⟨z1, z2⟩ := CE.out _ hA; clear HA; have HA := Lib.hid hA; clear hA)
    | (go_at_call 53; with_reducible refine (UN1.out _ va vb HR.out.1 HR.out.2 (by first | exact HA.out | exact HA.out.drew)).mono ?_; rintro e wz ⟨rfl, hr1, hr2, hA⟩; clear HR; have HR := Lib.hid (And.intro hr1 hr2); clear hr1 hr2; obtain ⟨z1, z2⟩ := CE.out _ hA; clear HA; have HA := Lib.hid hA; clear hA)
    | (go_at_call 54; with_reducible refine (UN2.out _ va vb HR.out.1 HR.out.2 (by first | exact HA.out | exact HA.out.drew)).mono ?_; rintro e wz ⟨rfl, hr1, hr2, hA⟩; clear HR; have HR := Lib.hid (And.intro hr1 hr2); clear hr1 hr2; obtain ⟨z1, z2⟩ := CE.out _ hA; clear HA; have HA := Lib.hid hA; clear hA)
    | (go_at_call 16; with_reducible refine (SM.out _ va vb _ (by first | exact HR.out.1 | exact HR.out.1.below (Below.refl _ _).drew) (by first | exact HR.out.2 | exact HR.out.2.below (Below.refl _ _).drew) (by first | exact HA.out | exact HA.out.drew)).mono ?_; rintro e wz ⟨rfl, hA⟩; clear HR; obtain ⟨z1, z2⟩ := CE.out _ hA; clear HA; have HA := Lib.hid hA; clear hA))
  go_ret
  exact ⟨ret_bool (by simp), FIN.out _ HA.out⟩
end
end Go.Proofs.YtjgdfgpnmmkjfaaGreatDoor
