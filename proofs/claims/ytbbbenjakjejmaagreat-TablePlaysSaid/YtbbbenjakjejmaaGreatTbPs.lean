/- 'same'. -/
import Derived.Test.YtbbbenjakjejmaaGreatTbAs
import Derived.Test.YtbbbenjakjejmaaGreatTbLight
namespace Go.Proofs.YtbbbenjakjejmaaGreat
set_option linter.unusedVariables false
set_option linter.unusedSimpArgs false
open Go.RowKit Go.MapKept Go.WideMaps
section
variable {B tb mn mh mk yb : Nat} {who : Own} {cb : Nat → Nat}
set_option maxRecDepth 100000 in
set_option maxHeartbeats 6400000 in
theorem same_0 {w : World} {S : TS} (h : Tw w B tb mn mh mk yb who cb S S) (hl : S.last ≤ 100000) (he : S.epoch ≤ 100000) (k : Int) (a : Int) (ha : (Lit.int .i64 a).wf = true) (hn : S.num a = none) (s t : Bs) (hs : s.length ≤ 100000) (ht : t.length ≤ 100000) :
    Calls Tryz.prog 9 #[.pointer (some ⟨tb, 0, none⟩), .pointer (some ⟨yb, 0, none⟩), .agg #[.int .i64 k, .int .i64 a, .string ⟨s.toArray⟩, .string ⟨t.toArray⟩]] w fun e w' => e = .returned (.bool true) ∧ Tw w' B tb mn mh mk yb who cb S S ∧ Below w.heap.size w w' := by
  have hb : Below w.heap.size w (w.alloc (.cells #[.int .i64 k, .int .i64 a, .string ⟨s.toArray⟩, .string ⟨t.toArray⟩] 30)) := (Below.refl _ w).alloc (Nat.le_refl _) _
  have hbn := heap_alloc_new w (.cells #[.int .i64 k, .int .i64 a, .string ⟨s.toArray⟩, .string ⟨t.toArray⟩] 30)
  have hT := h.low hb
  obtain ⟨ab, hab⟩ : ∃ ab, w.heap.size = ab := ⟨_, rfl⟩
  obtain ⟨W0, hWd⟩ : ∃ W, w.alloc (.cells #[.int .i64 k, .int .i64 a, .string ⟨s.toArray⟩, .string ⟨t.toArray⟩] 30) = W := ⟨_, rfl⟩
  rw [hWd] at hb hbn hT
  rw [hab] at hbn
  obtain ⟨kf, hkf, _⟩ := Names_any hT.tb hT.wf (by omega) [42] (by decide)
  obtain ⟨kt, hkt, _⟩ := Hidden_any hT.tb hT.wf (by omega) [42] (by decide)
  have HA : Hid (Ask B tb mn mh mk yb who cb S W0 W0) := ⟨hT, hl, he, Below.refl _ _⟩
  have hal : ab < W0.heap.size := (Array.getElem?_eq_some_iff.1 hbn).1
  have CE : Hid (∀ W' : World, Ask B tb mn mh mk yb who cb S W0 W' → W'.cell? ⟨ab, 1, none⟩ = some (.int .i64 a) ∧ W'.cell? ⟨ab, 2, none⟩ = some (.string ⟨s.toArray⟩) ∧ W'.cell? ⟨ab, 3, none⟩ = some (.string ⟨t.toArray⟩)) := fun W' e => by
    have e2 := (e.2.2.2.block ab hal).trans hbn
    refine ⟨?_, ?_, ?_⟩ <;> simp [World.cell?, e2]
  have FIN : Hid (∀ W', Ask B tb mn mh mk yb who cb S W0 W' → Tw W' B tb mn mh mk yb who cb S S ∧ Below w.heap.size w W') := fun W' e => ⟨e.1, hb.trans (e.2.2.2.mono hb.size)⟩
  obtain ⟨q1, hq1⟩ : ∃ q, (S.nm false s).getD 0 = q := ⟨_, rfl⟩
  obtain ⟨q2, hq2⟩ : ∃ q, (S.nm true t).getD 0 = q := ⟨_, rfl⟩
  obtain ⟨ep, hep⟩ : ∃ q, S.epoch = q := ⟨_, rfl⟩
  obtain ⟨cn, hcn⟩ : ∃ q, S.cnt = q := ⟨_, rfl⟩
  have O1 : Hid (∀ W, Ask B tb mn mh mk yb who cb S W0 W → Calls Tryz.prog 13 #[.pointer (some ⟨tb, 0, none⟩), .int .i64 a] W fun e w' => e = .returned (.tuple #[.int .i64 0, .int .i64 8]) ∧ Ask B tb mn mh mk yb who cb S W0 w') := fun W h => h.origin0 ha hn
  have O2 : Hid (∀ W, Ask B tb mn mh mk yb who cb S W0 W → Calls Tryz.prog 24 #[.pointer (some ⟨yb, 0, none⟩), .int .i64 a] W fun e w' => e = .returned (.tuple #[.int .i64 0, .int .i64 8]) ∧ Ask B tb mn mh mk yb who cb S W0 w') := fun W h => h.rorigin0 ha hn
  have N1 : Hid (∀ W, Ask B tb mn mh mk yb who cb S W0 W → Calls Tryz.prog 25 #[.pointer (some ⟨tb, 0, none⟩), .int .i64 a] W fun e w' => e = .returned (.tuple #[.string ⟨#[]⟩, .bool false, .bool false]) ∧ Ask B tb mn mh mk yb who cb S W0 w') := fun W h => h.name0 ha hn
  have N2 : Hid (∀ W, Ask B tb mn mh mk yb who cb S W0 W → Calls Tryz.prog 26 #[.pointer (some ⟨yb, 0, none⟩), .int .i64 a] W fun e w' => e = .returned (.tuple #[.string ⟨#[]⟩, .bool false, .bool false]) ∧ Ask B tb mn mh mk yb who cb S W0 w') := fun W h => h.rname0 ha hn
  have I1 : Hid (∀ W, Ask B tb mn mh mk yb who cb S W0 W → Calls Tryz.prog 27 #[.pointer (some ⟨tb, 0, none⟩), .int .i64 a] W fun e w' => ∃ vo, e = .returned vo ∧ NRow w' vo [] ∧ Ask B tb mn mh mk yb who cb S W0 w') := fun W h => h.imports0 ha hn
  have I2 : Hid (∀ W (va : Value), NRow W va [] → Ask B tb mn mh mk yb who cb S W0 W → Calls Tryz.prog 28 #[.pointer (some ⟨yb, 0, none⟩), .int .i64 a] W fun e w' => ∃ vo, e = .returned vo ∧ NRow w' va [] ∧ NRow w' vo [] ∧ Ask B tb mn mh mk yb who cb S W0 w') := fun W va hr h => h.rimports0 ha hn hr
  have SI : Hid (∀ W (va vb : Value), NRow W va [] → NRow W vb [] → Ask B tb mn mh mk yb who cb S W0 W → Calls Tryz.prog 16 #[va, vb] W fun e w' => e = .returned (.bool true) ∧ Ask B tb mn mh mk yb who cb S W0 w') := fun W va vb hr1 hr2 h => h.sints hr1 hr2
  have F1 : Hid (∀ W, Ask B tb mn mh mk yb who cb S W0 W → Calls Tryz.prog 29 #[.pointer (some ⟨tb, 0, none⟩), .string ⟨s.toArray⟩] W fun e w' => e = .returned (.int .i64 (q1 : Int)) ∧ Ask B tb mn mh mk yb who cb S W0 w') := fun W h => h.find s hs hq1
  have F2 : Hid (∀ W, Ask B tb mn mh mk yb who cb S W0 W → Calls Tryz.prog 30 #[.pointer (some ⟨yb, 0, none⟩), .string ⟨s.toArray⟩] W fun e w' => e = .returned (.int .i64 (q1 : Int)) ∧ Ask B tb mn mh mk yb who cb S W0 w') := fun W h => h.rfind s hq1
  have G1 : Hid (∀ W, Ask B tb mn mh mk yb who cb S W0 W → Calls Tryz.prog 31 #[.pointer (some ⟨tb, 0, none⟩), .string ⟨t.toArray⟩] W fun e w' => e = .returned (.int .i64 (q2 : Int)) ∧ Ask B tb mn mh mk yb who cb S W0 w') := fun W h => h.findH t ht hq2
  have G2 : Hid (∀ W, Ask B tb mn mh mk yb who cb S W0 W → Calls Tryz.prog 32 #[.pointer (some ⟨yb, 0, none⟩), .string ⟨t.toArray⟩] W fun e w' => e = .returned (.int .i64 (q2 : Int)) ∧ Ask B tb mn mh mk yb who cb S W0 w') := fun W h => h.rfindH t hq2
  have E1 : Hid (∀ W, Ask B tb mn mh mk yb who cb S W0 W → Calls Tryz.prog 38 #[.pointer (some ⟨tb, 0, none⟩)] W fun e w' => e = .returned (.int .i64 (ep : Int)) ∧ Ask B tb mn mh mk yb who cb S W0 w') := fun W h => hep ▸ h.epoch
  have E2 : Hid (∀ W, Ask B tb mn mh mk yb who cb S W0 W → Calls Tryz.prog 39 #[.pointer (some ⟨yb, 0, none⟩)] W fun e w' => e = .returned (.int .i64 (ep : Int)) ∧ Ask B tb mn mh mk yb who cb S W0 w') := fun W h => hep ▸ h.repoch
  have K1 : Hid (∀ W, Ask B tb mn mh mk yb who cb S W0 W → Calls Tryz.prog 40 #[.pointer (some ⟨tb, 0, none⟩)] W fun e w' => e = .returned (.int .i64 (cn : Int)) ∧ Ask B tb mn mh mk yb who cb S W0 w') := fun W h => hcn ▸ h.count
  have K2 : Hid (∀ W, Ask B tb mn mh mk yb who cb S W0 W → Calls Tryz.prog 41 #[.pointer (some ⟨yb, 0, none⟩)] W fun e w' => e = .returned (.int .i64 (cn : Int)) ∧ Ask B tb mn mh mk yb who cb S W0 w') := fun W h => hcn ▸ h.rcount
  obtain ⟨sT, hsT⟩ : ∃ q, srt (kf.filter (qB t)) = q := ⟨_, rfl⟩
  have T1 : Hid (∀ W, Ask B tb mn mh mk yb who cb S W0 W → Calls Tryz.prog 34 #[.pointer (some ⟨tb, 0, none⟩), .string ⟨t.toArray⟩] W fun e w' => ∃ vo, e = .returned vo ∧ TxtRow w' vo sT ∧ Ask B tb mn mh mk yb who cb S W0 w') := fun W h => hsT ▸ h.names t ht hkf
  have T2 : Hid (∀ W (va : Value), TxtRow W va sT → Ask B tb mn mh mk yb who cb S W0 W → Calls Tryz.prog 35 #[.pointer (some ⟨yb, 0, none⟩), .string ⟨t.toArray⟩] W fun e w' => ∃ vo, e = .returned vo ∧ TxtRow w' va sT ∧ TxtRow w' vo sT ∧ Ask B tb mn mh mk yb who cb S W0 w') := fun W va hr h => by have := h.rnames t ht hkf hr; rw [hsT] at this; exact this
  obtain ⟨sU, hsU⟩ : ∃ q, srt (kf.filter (qB [42])) = q := ⟨_, rfl⟩
  have U1 : Hid (∀ W, Ask B tb mn mh mk yb who cb S W0 W → Calls Tryz.prog 34 #[.pointer (some ⟨tb, 0, none⟩), .string ⟨#[42]⟩] W fun e w' => ∃ vo, e = .returned vo ∧ TxtRow w' vo sU ∧ Ask B tb mn mh mk yb who cb S W0 w') := fun W h => hsU ▸ h.names [42] (by decide) hkf
  have U2 : Hid (∀ W (va : Value), TxtRow W va sU → Ask B tb mn mh mk yb who cb S W0 W → Calls Tryz.prog 35 #[.pointer (some ⟨yb, 0, none⟩), .string ⟨#[42]⟩] W fun e w' => ∃ vo, e = .returned vo ∧ TxtRow w' va sU ∧ TxtRow w' vo sU ∧ Ask B tb mn mh mk yb who cb S W0 w') := fun W va hr h => by have := h.rnames [42] (by decide) hkf hr; rw [hsU] at this; exact this
  obtain ⟨sV, hsV⟩ : ∃ q, srt (kt.filter (qB [42])) = q := ⟨_, rfl⟩
  have V1 : Hid (∀ W, Ask B tb mn mh mk yb who cb S W0 W → Calls Tryz.prog 36 #[.pointer (some ⟨tb, 0, none⟩), .string ⟨#[42]⟩] W fun e w' => ∃ vo, e = .returned vo ∧ TxtRow w' vo sV ∧ Ask B tb mn mh mk yb who cb S W0 w') := fun W h => hsV ▸ h.hidden [42] (by decide) hkt
  have V2 : Hid (∀ W (va : Value), TxtRow W va sV → Ask B tb mn mh mk yb who cb S W0 W → Calls Tryz.prog 37 #[.pointer (some ⟨yb, 0, none⟩), .string ⟨#[42]⟩] W fun e w' => ∃ vo, e = .returned vo ∧ TxtRow w' va sV ∧ TxtRow w' vo sV ∧ Ask B tb mn mh mk yb who cb S W0 w') := fun W va hr h => by have := h.rhidden [42] (by decide) hkt hr; rw [hsV] at this; exact this
  have SM : Hid (∀ W (va vb : Value) (ss : List Bs), TxtRow W va ss → TxtRow W vb ss → Ask B tb mn mh mk yb who cb S W0 W → Calls Tryz.prog 33 #[va, vb] W fun e w' => e = .returned (.bool true) ∧ Ask B tb mn mh mk yb who cb S W0 w') := fun W va vb ss hr1 hr2 h => h.same hr1 hr2
  obtain ⟨z1, z2, z3⟩ := CE.out W0 HA.out
  clear h hb hbn hT hal hkf hkt hq1 hq2 hep hcn hsT hsU hsV ha hn
  go_enter Tryz.func9, Tryz.ntmps9
  go_wp2_with (first
    | (go_at_call 13; with_reducible refine (O1.out _ (by first | exact HA.out | exact HA.out.drew)).mono ?_; rintro e wz ⟨rfl, hA⟩; obtain ⟨z1, z2, z3⟩ := CE.out _ hA; clear HA; have HA := Lib.hid hA; clear hA)
    | (go_at_call 24; with_reducible refine (O2.out _ (by first | exact HA.out | exact HA.out.drew)).mono ?_; rintro e wz ⟨rfl, hA⟩; obtain ⟨z1, z2, z3⟩ := CE.out _ hA; clear HA; have HA := Lib.hid hA; clear hA)
    | (go_at_call 25; with_reducible refine (N1.out _ (by first | exact HA.out | exact HA.out.drew)).mono ?_; rintro e wz ⟨rfl, hA⟩; obtain ⟨z1, z2, z3⟩ := CE.out _ hA; clear HA; have HA := Lib.hid hA; clear hA)
    | (go_at_call 26; with_reducible refine (N2.out _ (by first | exact HA.out | exact HA.out.drew)).mono ?_; rintro e wz ⟨rfl, hA⟩; obtain ⟨z1, z2, z3⟩ := CE.out _ hA; clear HA; have HA := Lib.hid hA; clear hA))
  go_region_held3 (fun w' => w'.cell? ⟨ab, 1, none⟩ = some (.int .i64 a) ∧ w'.cell? ⟨ab, 2, none⟩ = some (.string ⟨s.toArray⟩) ∧ w'.cell? ⟨ab, 3, none⟩ = some (.string ⟨t.toArray⟩)) (first | go_keep | exact ⟨z1, z2, z3⟩) (first
    | (go_at_call 27; with_reducible refine (I1.out _ (by first | exact HA.out | exact HA.out.drew)).mono ?_; rintro e wz ⟨va, rfl, hr, hA⟩; have HR := Lib.hid hr; clear hr; obtain ⟨z1, z2, z3⟩ := CE.out _ hA; clear HA; have HA := Lib.hid hA; clear hA)
    | (go_at_call 28; with_reducible refine (I2.out _ va HR.out (by first | exact HA.out | exact HA.out.drew)).mono ?_; rintro e wz ⟨vb, rfl, hr1, hr2, hA⟩; clear HR; have HR := Lib.hid (And.intro hr1 hr2); clear hr1 hr2; obtain ⟨z1, z2, z3⟩ := CE.out _ hA; clear HA; have HA := Lib.hid hA; clear hA)
    | (go_at_call 16; with_reducible refine (SI.out _ va vb HR.out.1 HR.out.2 (by first | exact HA.out | exact HA.out.drew)).mono ?_; rintro e wz ⟨rfl, hA⟩; clear HR; obtain ⟨z1, z2, z3⟩ := CE.out _ hA; clear HA; have HA := Lib.hid hA; clear hA))
  go_wp2_with fail
  go_region_held3 (fun w' => w'.cell? ⟨ab, 1, none⟩ = some (.int .i64 a) ∧ w'.cell? ⟨ab, 2, none⟩ = some (.string ⟨s.toArray⟩) ∧ w'.cell? ⟨ab, 3, none⟩ = some (.string ⟨t.toArray⟩)) (first | go_keep | exact ⟨z1, z2, z3⟩) (first
    | (go_at_call 29; with_reducible refine (F1.out _ (by first | exact HA.out | exact HA.out.drew)).mono ?_; rintro e wz ⟨rfl, hA⟩; obtain ⟨z1, z2, z3⟩ := CE.out _ hA; clear HA; have HA := Lib.hid hA; clear hA)
    | (go_at_call 30; with_reducible refine (F2.out _ (by first | exact HA.out | exact HA.out.drew)).mono ?_; rintro e wz ⟨rfl, hA⟩; obtain ⟨z1, z2, z3⟩ := CE.out _ hA; clear HA; have HA := Lib.hid hA; clear hA)
    | (go_at_call 31; with_reducible refine (G1.out _ (by first | exact HA.out | exact HA.out.drew)).mono ?_; rintro e wz ⟨rfl, hA⟩; obtain ⟨z1, z2, z3⟩ := CE.out _ hA; clear HA; have HA := Lib.hid hA; clear hA)
    | (go_at_call 32; with_reducible refine (G2.out _ (by first | exact HA.out | exact HA.out.drew)).mono ?_; rintro e wz ⟨rfl, hA⟩; obtain ⟨z1, z2, z3⟩ := CE.out _ hA; clear HA; have HA := Lib.hid hA; clear hA)
    | (go_at_call 34; with_reducible refine (T1.out _ (by first | exact HA.out | exact HA.out.drew)).mono ?_; rintro e wz ⟨va, rfl, hr, hA⟩; have HR := Lib.hid hr; clear hr; obtain ⟨z1, z2, z3⟩ := CE.out _ hA; clear HA; have HA := Lib.hid hA; clear hA)
    | (go_at_call 35; with_reducible refine (T2.out _ va HR.out (by first | exact HA.out | exact HA.out.drew)).mono ?_; rintro e wz ⟨vb, rfl, hr1, hr2, hA⟩; clear HR; have HR := Lib.hid (And.intro hr1 hr2); clear hr1 hr2; obtain ⟨z1, z2, z3⟩ := CE.out _ hA; clear HA; have HA := Lib.hid hA; clear hA)
    | (go_at_call 34; with_reducible refine (U1.out _ (by first | exact HA.out | exact HA.out.drew)).mono ?_; rintro e wz ⟨va, rfl, hr, hA⟩; have HR := Lib.hid hr; clear hr; obtain ⟨z1, z2, z3⟩ := CE.out _ hA; clear HA; have HA := Lib.hid hA; clear hA)
    | (go_at_call 35; with_reducible refine (U2.out _ va HR.out (by first | exact HA.out | exact HA.out.drew)).mono ?_; rintro e wz ⟨vb, rfl, hr1, hr2, hA⟩; clear HR; have HR := Lib.hid (And.intro hr1 hr2); clear hr1 hr2; obtain ⟨z1, z2, z3⟩ := CE.out _ hA; clear HA; have HA := Lib.hid hA; clear hA)
    | (go_at_call 36; with_reducible refine (V1.out _ (by first | exact HA.out | exact HA.out.drew)).mono ?_; rintro e wz ⟨va, rfl, hr, hA⟩; have HR := Lib.hid hr; clear hr; obtain ⟨z1, z2, z3⟩ := CE.out _ hA; clear HA; have HA := Lib.hid hA; clear hA)
    | (go_at_call 37; with_reducible refine (V2.out _ va HR.out (by first | exact HA.out | exact HA.out.drew)).mono ?_; rintro e wz ⟨vb, rfl, hr1, hr2, hA⟩; clear HR; have HR := Lib.hid (And.intro hr1 hr2); clear hr1 hr2; obtain ⟨z1, z2, z3⟩ := CE.out _ hA; clear HA; have HA := Lib.hid hA; clear hA)
    | (go_at_call 33; with_reducible refine (SM.out _ va vb _ HR.out.1 HR.out.2 (by first | exact HA.out | exact HA.out.drew)).mono ?_; rintro e wz ⟨rfl, hA⟩; clear HR; obtain ⟨z1, z2, z3⟩ := CE.out _ hA; clear HA; have HA := Lib.hid hA; clear hA)
    | (go_at_call 38; with_reducible refine (E1.out _ (by first | exact HA.out | exact HA.out.drew)).mono ?_; rintro e wz ⟨rfl, hA⟩; obtain ⟨z1, z2, z3⟩ := CE.out _ hA; clear HA; have HA := Lib.hid hA; clear hA)
    | (go_at_call 39; with_reducible refine (E2.out _ (by first | exact HA.out | exact HA.out.drew)).mono ?_; rintro e wz ⟨rfl, hA⟩; obtain ⟨z1, z2, z3⟩ := CE.out _ hA; clear HA; have HA := Lib.hid hA; clear hA)
    | (go_at_call 40; with_reducible refine (K1.out _ (by first | exact HA.out | exact HA.out.drew)).mono ?_; rintro e wz ⟨rfl, hA⟩; obtain ⟨z1, z2, z3⟩ := CE.out _ hA; clear HA; have HA := Lib.hid hA; clear hA)
    | (go_at_call 41; with_reducible refine (K2.out _ (by first | exact HA.out | exact HA.out.drew)).mono ?_; rintro e wz ⟨rfl, hA⟩; obtain ⟨z1, z2, z3⟩ := CE.out _ hA; clear HA; have HA := Lib.hid hA; clear hA))
  all_goals
    go_wp2_with fail
    go_ret
    exact ⟨rfl, FIN.out _ HA.out⟩
set_option maxRecDepth 100000 in
set_option maxHeartbeats 6400000 in
theorem same_1 {w : World} {S : TS} (h : Tw w B tb mn mh mk yb who cb S S) (hl : S.last ≤ 100000) (he : S.epoch ≤ 100000) (k : Int) {n : Nat} {c : Cm} (hc : S.cm n = some c) (s t : Bs) (hs : s.length ≤ 100000) (ht : t.length ≤ 100000) :
    Calls Tryz.prog 9 #[.pointer (some ⟨tb, 0, none⟩), .pointer (some ⟨yb, 0, none⟩), .agg #[.int .i64 k, .int .i64 (n : Int), .string ⟨s.toArray⟩, .string ⟨t.toArray⟩]] w fun e w' => e = .returned (.bool true) ∧ Tw w' B tb mn mh mk yb who cb S S ∧ Below w.heap.size w w' := by
  have hb : Below w.heap.size w (w.alloc (.cells #[.int .i64 k, .int .i64 (n : Int), .string ⟨s.toArray⟩, .string ⟨t.toArray⟩] 30)) := (Below.refl _ w).alloc (Nat.le_refl _) _
  have hbn := heap_alloc_new w (.cells #[.int .i64 k, .int .i64 (n : Int), .string ⟨s.toArray⟩, .string ⟨t.toArray⟩] 30)
  have hT := h.low hb
  obtain ⟨ab, hab⟩ : ∃ ab, w.heap.size = ab := ⟨_, rfl⟩
  obtain ⟨W0, hWd⟩ : ∃ W, w.alloc (.cells #[.int .i64 k, .int .i64 (n : Int), .string ⟨s.toArray⟩, .string ⟨t.toArray⟩] 30) = W := ⟨_, rfl⟩
  rw [hWd] at hb hbn hT
  rw [hab] at hbn
  obtain ⟨kf, hkf, _⟩ := Names_any hT.tb hT.wf (by omega) [42] (by decide)
  obtain ⟨kt, hkt, _⟩ := Hidden_any hT.tb hT.wf (by omega) [42] (by decide)
  have HA : Hid (Ask B tb mn mh mk yb who cb S W0 W0) := ⟨hT, hl, he, Below.refl _ _⟩
  have hal : ab < W0.heap.size := (Array.getElem?_eq_some_iff.1 hbn).1
  have CE : Hid (∀ W' : World, Ask B tb mn mh mk yb who cb S W0 W' → W'.cell? ⟨ab, 1, none⟩ = some (.int .i64 (n : Int)) ∧ W'.cell? ⟨ab, 2, none⟩ = some (.string ⟨s.toArray⟩) ∧ W'.cell? ⟨ab, 3, none⟩ = some (.string ⟨t.toArray⟩)) := fun W' e => by
    have e2 := (e.2.2.2.block ab hal).trans hbn
    refine ⟨?_, ?_, ?_⟩ <;> simp [World.cell?, e2]
  have FIN : Hid (∀ W', Ask B tb mn mh mk yb who cb S W0 W' → Tw W' B tb mn mh mk yb who cb S S ∧ Below w.heap.size w W') := fun W' e => ⟨e.1, hb.trans (e.2.2.2.mono hb.size)⟩
  obtain ⟨q1, hq1⟩ : ∃ q, (S.nm false s).getD 0 = q := ⟨_, rfl⟩
  obtain ⟨q2, hq2⟩ : ∃ q, (S.nm true t).getD 0 = q := ⟨_, rfl⟩
  obtain ⟨ep, hep⟩ : ∃ q, S.epoch = q := ⟨_, rfl⟩
  obtain ⟨cn, hcn⟩ : ∃ q, S.cnt = q := ⟨_, rfl⟩
  obtain ⟨zs, hzs⟩ : ∃ q, asI (impR S n (S.last + 1)) = q := ⟨_, rfl⟩
  obtain ⟨cnm, hcnm⟩ : ∃ q, c.name = q := ⟨_, rfl⟩
  obtain ⟨chd, hchd⟩ : ∃ q, c.hid = q := ⟨_, rfl⟩
  have O1 : Hid (∀ W, Ask B tb mn mh mk yb who cb S W0 W → Calls Tryz.prog 13 #[.pointer (some ⟨tb, 0, none⟩), .int .i64 (n : Int)] W fun e w' => ∃ (r : Nat) (d : Cm), e = .returned (.tuple #[.int .i64 (r : Int), .int .i64 0]) ∧ (S.cm r = some d ∧ d.org = 0 ∧ Up S n r) ∧ Ask B tb mn mh mk yb who cb S W0 w') := fun W h => h.origin1 hc
  have O2 : Hid (∀ W (r : Nat) (d : Cm), (S.cm r = some d ∧ d.org = 0 ∧ Up S n r) → Ask B tb mn mh mk yb who cb S W0 W → Calls Tryz.prog 24 #[.pointer (some ⟨yb, 0, none⟩), .int .i64 (n : Int)] W fun e w' => e = .returned (.tuple #[.int .i64 (r : Int), .int .i64 0]) ∧ Ask B tb mn mh mk yb who cb S W0 w') := fun W r d hr h => h.rorigin1 hc hr
  have N1 : Hid (∀ W, Ask B tb mn mh mk yb who cb S W0 W → Calls Tryz.prog 25 #[.pointer (some ⟨tb, 0, none⟩), .int .i64 (n : Int)] W fun e w' => e = .returned (.tuple #[.string ⟨cnm.toArray⟩, .bool chd, .bool true]) ∧ Ask B tb mn mh mk yb who cb S W0 w') := fun W h => by rw [← hcnm, ← hchd]; exact h.name1 hc
  have N2 : Hid (∀ W, Ask B tb mn mh mk yb who cb S W0 W → Calls Tryz.prog 26 #[.pointer (some ⟨yb, 0, none⟩), .int .i64 (n : Int)] W fun e w' => e = .returned (.tuple #[.string ⟨cnm.toArray⟩, .bool chd, .bool true]) ∧ Ask B tb mn mh mk yb who cb S W0 w') := fun W h => by rw [← hcnm, ← hchd]; exact h.rname1 hc
  have I1 : Hid (∀ W, Ask B tb mn mh mk yb who cb S W0 W → Calls Tryz.prog 27 #[.pointer (some ⟨tb, 0, none⟩), .int .i64 (n : Int)] W fun e w' => ∃ vo, e = .returned vo ∧ NRow w' vo zs ∧ Ask B tb mn mh mk yb who cb S W0 w') := fun W h => hzs ▸ h.imports1 hc
  have I2 : Hid (∀ W (va : Value), NRow W va zs → Ask B tb mn mh mk yb who cb S W0 W → Calls Tryz.prog 28 #[.pointer (some ⟨yb, 0, none⟩), .int .i64 (n : Int)] W fun e w' => ∃ vo, e = .returned vo ∧ NRow w' va zs ∧ NRow w' vo zs ∧ Ask B tb mn mh mk yb who cb S W0 w') := fun W va hr h => by have := h.rimports1 hc hr; rw [hzs] at this; exact this
  have SI : Hid (∀ W (va vb : Value), NRow W va zs → NRow W vb zs → Ask B tb mn mh mk yb who cb S W0 W → Calls Tryz.prog 16 #[va, vb] W fun e w' => e = .returned (.bool true) ∧ Ask B tb mn mh mk yb who cb S W0 w') := fun W va vb hr1 hr2 h => h.sints hr1 hr2
  have F1 : Hid (∀ W, Ask B tb mn mh mk yb who cb S W0 W → Calls Tryz.prog 29 #[.pointer (some ⟨tb, 0, none⟩), .string ⟨s.toArray⟩] W fun e w' => e = .returned (.int .i64 (q1 : Int)) ∧ Ask B tb mn mh mk yb who cb S W0 w') := fun W h => h.find s hs hq1
  have F2 : Hid (∀ W, Ask B tb mn mh mk yb who cb S W0 W → Calls Tryz.prog 30 #[.pointer (some ⟨yb, 0, none⟩), .string ⟨s.toArray⟩] W fun e w' => e = .returned (.int .i64 (q1 : Int)) ∧ Ask B tb mn mh mk yb who cb S W0 w') := fun W h => h.rfind s hq1
  have G1 : Hid (∀ W, Ask B tb mn mh mk yb who cb S W0 W → Calls Tryz.prog 31 #[.pointer (some ⟨tb, 0, none⟩), .string ⟨t.toArray⟩] W fun e w' => e = .returned (.int .i64 (q2 : Int)) ∧ Ask B tb mn mh mk yb who cb S W0 w') := fun W h => h.findH t ht hq2
  have G2 : Hid (∀ W, Ask B tb mn mh mk yb who cb S W0 W → Calls Tryz.prog 32 #[.pointer (some ⟨yb, 0, none⟩), .string ⟨t.toArray⟩] W fun e w' => e = .returned (.int .i64 (q2 : Int)) ∧ Ask B tb mn mh mk yb who cb S W0 w') := fun W h => h.rfindH t hq2
  have E1 : Hid (∀ W, Ask B tb mn mh mk yb who cb S W0 W → Calls Tryz.prog 38 #[.pointer (some ⟨tb, 0, none⟩)] W fun e w' => e = .returned (.int .i64 (ep : Int)) ∧ Ask B tb mn mh mk yb who cb S W0 w') := fun W h => hep ▸ h.epoch
  have E2 : Hid (∀ W, Ask B tb mn mh mk yb who cb S W0 W → Calls Tryz.prog 39 #[.pointer (some ⟨yb, 0, none⟩)] W fun e w' => e = .returned (.int .i64 (ep : Int)) ∧ Ask B tb mn mh mk yb who cb S W0 w') := fun W h => hep ▸ h.repoch
  have K1 : Hid (∀ W, Ask B tb mn mh mk yb who cb S W0 W → Calls Tryz.prog 40 #[.pointer (some ⟨tb, 0, none⟩)] W fun e w' => e = .returned (.int .i64 (cn : Int)) ∧ Ask B tb mn mh mk yb who cb S W0 w') := fun W h => hcn ▸ h.count
  have K2 : Hid (∀ W, Ask B tb mn mh mk yb who cb S W0 W → Calls Tryz.prog 41 #[.pointer (some ⟨yb, 0, none⟩)] W fun e w' => e = .returned (.int .i64 (cn : Int)) ∧ Ask B tb mn mh mk yb who cb S W0 w') := fun W h => hcn ▸ h.rcount
  obtain ⟨sT, hsT⟩ : ∃ q, srt (kf.filter (qB t)) = q := ⟨_, rfl⟩
  have T1 : Hid (∀ W, Ask B tb mn mh mk yb who cb S W0 W → Calls Tryz.prog 34 #[.pointer (some ⟨tb, 0, none⟩), .string ⟨t.toArray⟩] W fun e w' => ∃ vo, e = .returned vo ∧ TxtRow w' vo sT ∧ Ask B tb mn mh mk yb who cb S W0 w') := fun W h => hsT ▸ h.names t ht hkf
  have T2 : Hid (∀ W (va : Value), TxtRow W va sT → Ask B tb mn mh mk yb who cb S W0 W → Calls Tryz.prog 35 #[.pointer (some ⟨yb, 0, none⟩), .string ⟨t.toArray⟩] W fun e w' => ∃ vo, e = .returned vo ∧ TxtRow w' va sT ∧ TxtRow w' vo sT ∧ Ask B tb mn mh mk yb who cb S W0 w') := fun W va hr h => by have := h.rnames t ht hkf hr; rw [hsT] at this; exact this
  obtain ⟨sU, hsU⟩ : ∃ q, srt (kf.filter (qB [42])) = q := ⟨_, rfl⟩
  have U1 : Hid (∀ W, Ask B tb mn mh mk yb who cb S W0 W → Calls Tryz.prog 34 #[.pointer (some ⟨tb, 0, none⟩), .string ⟨#[42]⟩] W fun e w' => ∃ vo, e = .returned vo ∧ TxtRow w' vo sU ∧ Ask B tb mn mh mk yb who cb S W0 w') := fun W h => hsU ▸ h.names [42] (by decide) hkf
  have U2 : Hid (∀ W (va : Value), TxtRow W va sU → Ask B tb mn mh mk yb who cb S W0 W → Calls Tryz.prog 35 #[.pointer (some ⟨yb, 0, none⟩), .string ⟨#[42]⟩] W fun e w' => ∃ vo, e = .returned vo ∧ TxtRow w' va sU ∧ TxtRow w' vo sU ∧ Ask B tb mn mh mk yb who cb S W0 w') := fun W va hr h => by have := h.rnames [42] (by decide) hkf hr; rw [hsU] at this; exact this
  obtain ⟨sV, hsV⟩ : ∃ q, srt (kt.filter (qB [42])) = q := ⟨_, rfl⟩
  have V1 : Hid (∀ W, Ask B tb mn mh mk yb who cb S W0 W → Calls Tryz.prog 36 #[.pointer (some ⟨tb, 0, none⟩), .string ⟨#[42]⟩] W fun e w' => ∃ vo, e = .returned vo ∧ TxtRow w' vo sV ∧ Ask B tb mn mh mk yb who cb S W0 w') := fun W h => hsV ▸ h.hidden [42] (by decide) hkt
  have V2 : Hid (∀ W (va : Value), TxtRow W va sV → Ask B tb mn mh mk yb who cb S W0 W → Calls Tryz.prog 37 #[.pointer (some ⟨yb, 0, none⟩), .string ⟨#[42]⟩] W fun e w' => ∃ vo, e = .returned vo ∧ TxtRow w' va sV ∧ TxtRow w' vo sV ∧ Ask B tb mn mh mk yb who cb S W0 w') := fun W va hr h => by have := h.rhidden [42] (by decide) hkt hr; rw [hsV] at this; exact this
  have SM : Hid (∀ W (va vb : Value) (ss : List Bs), TxtRow W va ss → TxtRow W vb ss → Ask B tb mn mh mk yb who cb S W0 W → Calls Tryz.prog 33 #[va, vb] W fun e w' => e = .returned (.bool true) ∧ Ask B tb mn mh mk yb who cb S W0 w') := fun W va vb ss hr1 hr2 h => h.same hr1 hr2
  obtain ⟨z1, z2, z3⟩ := CE.out W0 HA.out
  clear h hb hbn hT hal hkf hkt hq1 hq2 hep hcn hsT hsU hsV hc hzs hcnm hchd
  go_enter Tryz.func9, Tryz.ntmps9
  go_wp2_with (first
    | (go_at_call 13; with_reducible refine (O1.out _ (by first | exact HA.out | exact HA.out.drew)).mono ?_; rintro e wz ⟨r, d, rfl, hr, hA⟩; have HO := Lib.hid hr; clear hr; obtain ⟨z1, z2, z3⟩ := CE.out _ hA; clear HA; have HA := Lib.hid hA; clear hA)
    | (go_at_call 24; with_reducible refine (O2.out _ r d HO.out (by first | exact HA.out | exact HA.out.drew)).mono ?_; rintro e wz ⟨rfl, hA⟩; obtain ⟨z1, z2, z3⟩ := CE.out _ hA; clear HA; have HA := Lib.hid hA; clear hA)
    | (go_at_call 25; with_reducible refine (N1.out _ (by first | exact HA.out | exact HA.out.drew)).mono ?_; rintro e wz ⟨rfl, hA⟩; obtain ⟨z1, z2, z3⟩ := CE.out _ hA; clear HA; have HA := Lib.hid hA; clear hA)
    | (go_at_call 26; with_reducible refine (N2.out _ (by first | exact HA.out | exact HA.out.drew)).mono ?_; rintro e wz ⟨rfl, hA⟩; obtain ⟨z1, z2, z3⟩ := CE.out _ hA; clear HA; have HA := Lib.hid hA; clear hA))
  go_region_held3 (fun w' => w'.cell? ⟨ab, 1, none⟩ = some (.int .i64 (n : Int)) ∧ w'.cell? ⟨ab, 2, none⟩ = some (.string ⟨s.toArray⟩) ∧ w'.cell? ⟨ab, 3, none⟩ = some (.string ⟨t.toArray⟩)) (first | go_keep | exact ⟨z1, z2, z3⟩) (first
    | (go_at_call 27; with_reducible refine (I1.out _ (by first | exact HA.out | exact HA.out.drew)).mono ?_; rintro e wz ⟨va, rfl, hr, hA⟩; have HR := Lib.hid hr; clear hr; obtain ⟨z1, z2, z3⟩ := CE.out _ hA; clear HA; have HA := Lib.hid hA; clear hA)
    | (go_at_call 28; with_reducible refine (I2.out _ va HR.out (by first | exact HA.out | exact HA.out.drew)).mono ?_; rintro e wz ⟨vb, rfl, hr1, hr2, hA⟩; clear HR; have HR := Lib.hid (And.intro hr1 hr2); clear hr1 hr2; obtain ⟨z1, z2, z3⟩ := CE.out _ hA; clear HA; have HA := Lib.hid hA; clear hA)
    | (go_at_call 16; with_reducible refine (SI.out _ va vb HR.out.1 HR.out.2 (by first | exact HA.out | exact HA.out.drew)).mono ?_; rintro e wz ⟨rfl, hA⟩; clear HR; obtain ⟨z1, z2, z3⟩ := CE.out _ hA; clear HA; have HA := Lib.hid hA; clear hA))
  go_wp2_with fail
  go_region_held3 (fun w' => w'.cell? ⟨ab, 1, none⟩ = some (.int .i64 (n : Int)) ∧ w'.cell? ⟨ab, 2, none⟩ = some (.string ⟨s.toArray⟩) ∧ w'.cell? ⟨ab, 3, none⟩ = some (.string ⟨t.toArray⟩)) (first | go_keep | exact ⟨z1, z2, z3⟩) (first
    | (go_at_call 29; with_reducible refine (F1.out _ (by first | exact HA.out | exact HA.out.drew)).mono ?_; rintro e wz ⟨rfl, hA⟩; obtain ⟨z1, z2, z3⟩ := CE.out _ hA; clear HA; have HA := Lib.hid hA; clear hA)
    | (go_at_call 30; with_reducible refine (F2.out _ (by first | exact HA.out | exact HA.out.drew)).mono ?_; rintro e wz ⟨rfl, hA⟩; obtain ⟨z1, z2, z3⟩ := CE.out _ hA; clear HA; have HA := Lib.hid hA; clear hA)
    | (go_at_call 31; with_reducible refine (G1.out _ (by first | exact HA.out | exact HA.out.drew)).mono ?_; rintro e wz ⟨rfl, hA⟩; obtain ⟨z1, z2, z3⟩ := CE.out _ hA; clear HA; have HA := Lib.hid hA; clear hA)
    | (go_at_call 32; with_reducible refine (G2.out _ (by first | exact HA.out | exact HA.out.drew)).mono ?_; rintro e wz ⟨rfl, hA⟩; obtain ⟨z1, z2, z3⟩ := CE.out _ hA; clear HA; have HA := Lib.hid hA; clear hA)
    | (go_at_call 34; with_reducible refine (T1.out _ (by first | exact HA.out | exact HA.out.drew)).mono ?_; rintro e wz ⟨va, rfl, hr, hA⟩; have HR := Lib.hid hr; clear hr; obtain ⟨z1, z2, z3⟩ := CE.out _ hA; clear HA; have HA := Lib.hid hA; clear hA)
    | (go_at_call 35; with_reducible refine (T2.out _ va HR.out (by first | exact HA.out | exact HA.out.drew)).mono ?_; rintro e wz ⟨vb, rfl, hr1, hr2, hA⟩; clear HR; have HR := Lib.hid (And.intro hr1 hr2); clear hr1 hr2; obtain ⟨z1, z2, z3⟩ := CE.out _ hA; clear HA; have HA := Lib.hid hA; clear hA)
    | (go_at_call 34; with_reducible refine (U1.out _ (by first | exact HA.out | exact HA.out.drew)).mono ?_; rintro e wz ⟨va, rfl, hr, hA⟩; have HR := Lib.hid hr; clear hr; obtain ⟨z1, z2, z3⟩ := CE.out _ hA; clear HA; have HA := Lib.hid hA; clear hA)
    | (go_at_call 35; with_reducible refine (U2.out _ va HR.out (by first | exact HA.out | exact HA.out.drew)).mono ?_; rintro e wz ⟨vb, rfl, hr1, hr2, hA⟩; clear HR; have HR := Lib.hid (And.intro hr1 hr2); clear hr1 hr2; obtain ⟨z1, z2, z3⟩ := CE.out _ hA; clear HA; have HA := Lib.hid hA; clear hA)
    | (go_at_call 36; with_reducible refine (V1.out _ (by first | exact HA.out | exact HA.out.drew)).mono ?_; rintro e wz ⟨va, rfl, hr, hA⟩; have HR := Lib.hid hr; clear hr; obtain ⟨z1, z2, z3⟩ := CE.out _ hA; clear HA; have HA := Lib.hid hA; clear hA)
    | (go_at_call 37; with_reducible refine (V2.out _ va HR.out (by first | exact HA.out | exact HA.out.drew)).mono ?_; rintro e wz ⟨vb, rfl, hr1, hr2, hA⟩; clear HR; have HR := Lib.hid (And.intro hr1 hr2); clear hr1 hr2; obtain ⟨z1, z2, z3⟩ := CE.out _ hA; clear HA; have HA := Lib.hid hA; clear hA)
    | (go_at_call 33; with_reducible refine (SM.out _ va vb _ HR.out.1 HR.out.2 (by first | exact HA.out | exact HA.out.drew)).mono ?_; rintro e wz ⟨rfl, hA⟩; clear HR; obtain ⟨z1, z2, z3⟩ := CE.out _ hA; clear HA; have HA := Lib.hid hA; clear hA)
    | (go_at_call 38; with_reducible refine (E1.out _ (by first | exact HA.out | exact HA.out.drew)).mono ?_; rintro e wz ⟨rfl, hA⟩; obtain ⟨z1, z2, z3⟩ := CE.out _ hA; clear HA; have HA := Lib.hid hA; clear hA)
    | (go_at_call 39; with_reducible refine (E2.out _ (by first | exact HA.out | exact HA.out.drew)).mono ?_; rintro e wz ⟨rfl, hA⟩; obtain ⟨z1, z2, z3⟩ := CE.out _ hA; clear HA; have HA := Lib.hid hA; clear hA)
    | (go_at_call 40; with_reducible refine (K1.out _ (by first | exact HA.out | exact HA.out.drew)).mono ?_; rintro e wz ⟨rfl, hA⟩; obtain ⟨z1, z2, z3⟩ := CE.out _ hA; clear HA; have HA := Lib.hid hA; clear hA)
    | (go_at_call 41; with_reducible refine (K2.out _ (by first | exact HA.out | exact HA.out.drew)).mono ?_; rintro e wz ⟨rfl, hA⟩; obtain ⟨z1, z2, z3⟩ := CE.out _ hA; clear HA; have HA := Lib.hid hA; clear hA))
  all_goals
    go_wp2_with fail
    go_ret
    exact ⟨rfl, FIN.out _ HA.out⟩
end
end Go.Proofs.YtbbbenjakjejmaaGreat
