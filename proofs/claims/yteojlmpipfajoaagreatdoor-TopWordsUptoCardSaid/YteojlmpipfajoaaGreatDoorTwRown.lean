/- TopWords: the walk. A slice of texts among the arguments: what it holds, and how long its texts are; the wrap for a row with a condition, the variables' shape handed on. What the row of TopWords lists: the tables hold what they were laid with; and one world in which they do. -/
import Derived.Test.YteojlmpipfajoaaGreatDoorTwUm
import Derived.Test.YteojlmpipfajoaaGreatDoorTopL
import Derived.Test.YteojlmpipfajoaaGreatDoorTopA9
import Derived.Test.YteojlmpipfajoaaGreatDoorRows
import Derived.Test.YteojlmpipfajoaaGreatDoorLJoin
import Derived.Test.YteojlmpipfajoaaGreatDoorBook15
import Derived.SliceStrings
import Derived.SizedLaws
import Derived.JoinedCond
import Derived.ProofKit
import Derived.Test.YteojlmpipfajoaaGreatDoorCards
import Derived.Test.YteojlmpipfajoaaGreatDoorTie
import Derived.WalkKit
import Derived.OpenShut
import Derived.Deep.DeepHandedRow
import Derived.Lib.LaidTab
import Derived.Lib.LaidU8
import Derived.MakeChecks
import Derived.Deep.DeepWitnessRowRef
namespace Go.Proofs.YteojlmpipfajoaaGreatDoor
set_option linter.unusedVariables false
set_option linter.unusedSimpArgs false
open Go.RowKit
theorem tw_wt (ss : List Bs) : wt ss ≤ 5 * longS ss := by
  induction ss with
  | nil => simp [wt]
  | cons s r ih => simp only [wt, longS]; omega
theorem tw_mem {l : List Bs} {p : Bs} (h : p ∈ l) : p.length + 1 ≤ longS l := by
  induction l with
  | nil => cases h
  | cons x l ih =>
    simp only [longS]
    rcases List.mem_cons.1 h with rfl | h
    · omega
    · have := ih h; omega
theorem tw_len (l : List Bs) : l.length ≤ longS l := by
  induction l with
  | nil => simp
  | cons x l ih => simp only [longS, List.length_cons]; omega
theorem tw_bounds {l : List Bs} (h : longS l ≤ 600) : l.length ≤ 600 ∧ (∀ x ∈ l, x.length ≤ 600) ∧ (joinL l).length ≤ 3000 :=
  ⟨Nat.le_trans (tw_len l) h, fun x hx => by have := tw_mem hx; omega, by have := join_len l; have := tw_wt l; omega⟩
theorem StoA.below {w w' : World} {sb vb : Nat} (h : StoA w sb vb) (hb : Below w.heap.size w w') : StoA w' sb vb := by
  obtain ⟨g, c, h1, h2, h3, h4⟩ := h.ex
  exact ⟨g, c, h1, (hb.block _ (Array.getElem?_eq_some_iff.1 h2).1).trans h2, (hb.cell (p := ⟨g, 0, none⟩) h4).trans h3, Nat.lt_of_lt_of_le h4 hb.size⟩
theorem tw_b8 {w6 w8 : World} {o : Obj} (hk : Kp [w6.heap.size] (w6.alloc o) w8) : Below w6.heap.size w6 w8 :=
  ((kp_of_below ((Below.refl _ _).alloc (Nat.le_refl _) o)).trans hk (by simp)).below (Nat.le_refl _) (by simp)
theorem tw_b10 {w w6 w9 w10 : World} {o : Obj} {f : Nat} (hz : w.heap.size ≤ w6.heap.size) (h9 : Below w.heap.size w w9) (hk : Kp [f] w9 w10) (hf : (w6.alloc o).heap.size ≤ f) : Below w.heap.size w w10 :=
  h9.trans (hk.below h9.size (by intro d hd; simp at hd hf; omega))
section
variable {l : List Bs} {ab ao c i : Nat}
set_option maxRecDepth 100000 in
set_option maxHeartbeats 6400000 in
theorem topWords_main {w : World} (hM : MaxIs w) (ht : TxtRow w (.slice (some ⟨ab, ao, none⟩) l.length c) l) (h6 : longS l ≤ 600) (hi : i < l.length)
    (S1 : Hid (Calls Tryz.prog 4 #[.slice (some ⟨ab, ao, none⟩) l.length c] w fun e w' => e = .returned (.bool true) ∧ w = w')) :
    Calls Tryz.prog 3 #[.slice (some ⟨ab, ao, none⟩) l.length c, .int .i64 (i : Int)] w fun e w' => e = .returned (.bool true) ∧ Below w.heap.size w w' := by
  obtain ⟨b1, b2, b3⟩ := tw_bounds h6
  have hne : l ≠ [] := fun e => by simp [e] at hi
  obtain ⟨s, hs⟩ : ∃ s, joinL l = s := ⟨_, rfl⟩
  have up : ∀ {W W' : World}, Below w.heap.size w W → Below W.heap.size W W' → Below w.heap.size w W' := fun a b => a.trans (b.mono a.size)
  have JO : Hid (∀ W, Below w.heap.size w W → Calls Tryz.prog 6 #[.slice (some ⟨ab, ao, none⟩) l.length c] W fun e w' => e = .returned (.tuple #[.string ⟨s.toArray⟩, .int .i64 0]) ∧ Below w.heap.size w w') := fun W h => by
    have q := Join_any _ l W (hM.below h hM.pos) (ht.below h)
    rw [joinE_ok (by omega) (by omega), hs] at q
    exact q.mono fun e w' ⟨q1, q2⟩ => ⟨q1, up h q2⟩
  have SC : Hid (∀ W, Below w.heap.size w W → Calls Tryz.prog 7 #[.string ⟨s.toArray⟩] W fun e w' => ∃ g c i0 gv cv ts, e = .returned (.tuple #[.slice (some ⟨g, 0, none⟩) 1 c, .int .i64 0, .int .i64 0]) ∧ CmC w' g c i0 gv cv ts l ∧ Below w.heap.size w w') := fun W h => by
    refine (script_any W hne hs.symm (by rw [← hs]; omega) (by omega) (fun x hx => by have := b2 x hx; omega)).mono ?_
    rintro e w' ⟨v, rfl, hv, hk⟩
    obtain ⟨g, c, i0, gv, cv, ts, rfl, hc⟩ := hv.at hne
    exact ⟨g, c, i0, gv, cv, ts, rfl, hc, up h (hk.below (Nat.le_refl _) (by simp))⟩
  have QU : Hid (∀ W, Below w.heap.size w W → Calls Tryz.prog 8 #[.slice (some ⟨ab, ao, none⟩) l.length c] W fun e w' => e = .returned (.string ⟨s.toArray⟩) ∧ Below W.heap.size W w') := fun W h => by
    have q := Quoted_any l _ W (hM.below h hM.pos) (ht.below h) (by omega) (fun x hx => by have := b2 x hx; omega) (by omega)
    rw [hs] at q
    exact q
  have CP : Hid (∀ W, Calls Tryz.prog 9 #[.string ⟨s.toArray⟩] W fun e w' => e = .returned (.bool true) ∧ Below W.heap.size W w') := fun W =>
    (complete_any W hne hs.symm (by rw [← hs]; omega) (by omega) (fun x hx => by have := b2 x hx; omega)).mono fun e w' ⟨q1, q2⟩ => ⟨q1, q2.below (Nat.le_refl _) (by simp)⟩
  have CO : Hid (∀ W g c i0 gv cv ts, CmC W g c i0 gv cv ts l → Calls Tryz.prog 10 #[.slice (some ⟨g, 0, none⟩) 1 c] W fun e w' => e = .returned (.int .i64 1) ∧ Below W.heap.size W w') := fun W g c i0 gv cv ts h => count_any h (by omega)
  have MK : Hid (∀ W sb, Below w.heap.size w W → W.heap[sb]? = some (.cells #[.slice none 0 0] 75 (0, 0)) → Calls Tryz.prog 13 #[.pointer (some ⟨sb, 0, none⟩), .slice (some ⟨ab, ao, none⟩) l.length c] W fun e w' => ∃ vb, e = .returned (.tuple #[.int .i64 0, .int .i64 0]) ∧ StoA w' sb vb ∧ ValA w' W.heap.size vb l ∧ W.heap.size ≤ vb ∧ Kp [sb] W w') := fun W sb h hsb => make_any hsb (hM.below h hM.pos) (ht.below h) (by omega) (by omega) (by omega)
  have EL : Hid (∀ W sb B vb, StoA W sb vb → ValA W B vb l → Calls Tryz.prog 14 #[.pointer (some ⟨sb, 0, none⟩), .int .i64 0, .int .i64 (i : Int)] W fun e w' => e = .returned (.tuple #[sv l[i], .int .i64 0]) ∧ Below W.heap.size W w') := fun W sb B vb h1 h2 => element_any h1 h2 (by omega) i hi
  have TX : Hid (∀ W sb B vb, Below w.heap.size w W → StoA W sb vb → ValA W B vb l → Calls Tryz.prog 15 #[.pointer (some ⟨sb, 0, none⟩), .int .i64 0] W fun e w' => e = .returned (.tuple #[.string ⟨s.toArray⟩, .int .i64 0]) ∧ ∃ f, B ≤ f ∧ Kp [f] W w') := fun W sb B vb h h1 h2 => by
    have q := sText_any h1 (hM.below h hM.pos) h2 (by omega) (by omega)
    rw [hs] at q
    exact q
  have AW : Hid (∀ W, Below w.heap.size w W → Calls Tryz.prog 5 #[] W fun e w' => e = .returned (.bool true) ∧ Below w.heap.size w w') := fun W hB => (awake9_any W (hM.below hB hM.pos)).mono fun e w' ⟨h1, h2⟩ => ⟨h1, up hB h2⟩
  have TC : Hid (∀ W, Below w.heap.size w W → W.cell? ⟨ab, ao + i, none⟩ = some (sv l[i])) := fun W h => by
    obtain ⟨o, c', e1, -, -, h4⟩ := ht.below h
    cases e1
    obtain ⟨b, off, e2, -, h5⟩ := h4 i hi
    cases e2
    exact h5
  have UP : Hid (∀ (W W' : World), Below w.heap.size w W → Below W.heap.size W W' → Below w.heap.size w W') := fun _ _ a b => up a b
  have t0 : ((l.length : Int) == 0) = false := by rw [beq_eq_false_iff_ne]; omega
  have t1 : decide ((i : Int) < 0) = false := by rw [decide_eq_false_iff_not]; omega
  have t2 : decide ((l.length : Int) ≤ (i : Int)) = false := by rw [decide_eq_false_iff_not]; omega
  have t3 : decide (l.length ≤ i) = false := by rw [decide_eq_false_iff_not]; omega
  clear hM ht h6 b1 b2 b3 hs up hne
  go_enter Tryz.func3, Tryz.ntmps3
  go_wp2_with (first | (go_at_call 4; refine S1.out.mono ?_; rintro e w1 ⟨rfl, rfl⟩) | (go_at_call 6; refine (JO.out _ (Below.refl _ _)).mono ?_; rintro e w1 ⟨rfl, hb⟩; have H1 := Lib.hid hb; clear hb) | (go_at_call 7; refine (SC.out _ H1.out).mono ?_; rintro e w2 ⟨g, cg, i0, gv, cv, ts, rfl, hC, hb⟩; have H2 := Lib.hid (And.intro hC hb); clear hC hb) | (go_at_call 8; refine (QU.out _ H2.out.2).mono ?_; rintro e w3 ⟨rfl, hb⟩; have H3 := Lib.hid (And.intro (H2.out.1.below hb) (UP.out _ _ H2.out.2 hb)); clear hb; have c1 := H3.out.1.c1) | (go_at_call 9; refine (CP.out _).mono ?_; rintro e w4 ⟨rfl, hb⟩; have H4 := Lib.hid (And.intro (H3.out.1.below hb) (UP.out _ _ H3.out.2 hb)); clear hb c1) | (go_at_call 10; refine (CO.out _ _ _ _ _ _ _ H4.out.1).mono ?_; rintro e w5 ⟨rfl, hb⟩; have H5 := Lib.hid (And.intro (H4.out.1.below hb) (UP.out _ _ H4.out.2 hb)); clear hb; have c1 := H5.out.1.c1; obtain ⟨d0, d1⟩ := H5.out.1.cell i (by have := H5.out.1.len; omega); have hT := H5.out.1.tok i (by have := H5.out.1.len; omega) hi; obtain ⟨gt, ct, hx, -⟩ := hT.ex; rw [hx] at d1 hT; have HT := Lib.hid hT; clear hx hT) | (go_at_call 11; refine (litW_any HT.out).mono ?_; rintro e w6 ⟨rfl, hb⟩; have H6 := Lib.hid (UP.out _ _ H5.out.2 hb); clear hb c1 d0 d1) | (go_at_call 12; refine (newStore_any _).mono ?_; rintro e w7 ⟨rfl, rfl⟩) | (go_at_call 13; refine (MK.out _ _ (UP.out _ _ H6.out ((Below.refl _ _).alloc (Nat.le_refl _) _)) (heap_alloc_new _ _)).mono ?_; rintro e w8 ⟨vb, rfl, hS, hV, hvb, hk⟩; have hz6 : w.heap.size ≤ w6.heap.size := H6.out.size; have H8 := Lib.hid (And.intro hS (And.intro hV (And.intro hvb (UP.out _ _ H6.out (tw_b8 hk))))); clear hS hV hvb hk) | (go_at_call 14; refine (EL.out _ _ _ _ H8.out.1 H8.out.2.1).mono ?_; rintro e w9 ⟨rfl, hb⟩; have H9 := Lib.hid (And.intro (H8.out.1.below hb) (And.intro (H8.out.2.1.kp (kp_of_below hb) (by simp) H8.out.2.2.1) (UP.out _ _ H8.out.2.2.2 hb))); clear hb) | (go_at_call 15; refine (TX.out _ _ _ _ H9.out.2.2 H9.out.1 H9.out.2.1).mono ?_; rintro e w10 ⟨rfl, f, hf, hk⟩; have H10 := Lib.hid (tw_b10 hz6 H9.out.2.2 hk hf); clear hf hk; have tc := TC.out _ H10.out) | (go_at_call 5; refine (AW.out _ H10.out).mono ?_; rintro e w11 ⟨rfl, hb⟩))
  go_ret
  exact ⟨rfl, hb⟩
end
section
variable {w : World} {n c : Nat} {o : Option Addr} {z : Int}
set_option maxRecDepth 100000 in
set_option maxHeartbeats 3200000 in
theorem topWords_off {b : Bool} (S1 : Hid (Calls Tryz.prog 4 #[.slice o n c] w fun e w' => e = .returned (.bool b) ∧ w = w'))
    (AW : Hid (Calls Tryz.prog 5 #[] w fun e w' => e = .returned (.bool true) ∧ Below w.heap.size w w')) (hoff : b = false ∨ n = 0 ∨ z < 0 ∨ (n : Int) ≤ z) :
    Calls Tryz.prog 3 #[.slice o n c, .int .i64 z] w fun e w' => e = .returned (.bool true) ∧ Below w.heap.size w w' := by
  cases b with
  | false =>
    clear hoff
    go_enter Tryz.func3, Tryz.ntmps3
    go_wp2_with (first | (go_at_call 4; refine S1.out.mono ?_; rintro e w1 ⟨rfl, rfl⟩) | (go_at_call 5; refine AW.out.mono ?_; rintro e w11 ⟨rfl, hb⟩))
    go_ret
    exact ⟨rfl, hb⟩
  | true =>
    have hoff : n = 0 ∨ z < 0 ∨ (n : Int) ≤ z := by rcases hoff with h | h; cases h; exact h
    by_cases h0 : n = 0
    · subst h0
      clear hoff
      go_enter Tryz.func3, Tryz.ntmps3
      go_wp2_with (first | (go_at_call 4; refine S1.out.mono ?_; rintro e w1 ⟨rfl, rfl⟩) | (go_at_call 5; refine AW.out.mono ?_; rintro e w11 ⟨rfl, hb⟩))
      go_ret
      exact ⟨rfl, hb⟩
    · have t0 : ((n : Int) == 0) = false := by rw [beq_eq_false_iff_ne]; omega
      by_cases h1 : z < 0
      · have t1 : decide (z < 0) = true := by rw [decide_eq_true_eq]; exact h1
        clear hoff
        go_enter Tryz.func3, Tryz.ntmps3
        go_wp2_with (first | (go_at_call 4; refine S1.out.mono ?_; rintro e w1 ⟨rfl, rfl⟩) | (go_at_call 5; refine AW.out.mono ?_; rintro e w11 ⟨rfl, hb⟩))
        go_ret
        exact ⟨rfl, hb⟩
      · have t1 : decide (z < 0) = false := by rw [decide_eq_false_iff_not]; exact h1
        have t2 : decide ((n : Int) ≤ z) = true := by rw [decide_eq_true_eq]; omega
        clear hoff
        go_enter Tryz.func3, Tryz.ntmps3
        go_wp2_with (first | (go_at_call 4; refine S1.out.mono ?_; rintro e w1 ⟨rfl, rfl⟩) | (go_at_call 5; refine AW.out.mono ?_; rintro e w11 ⟨rfl, hb⟩))
        go_ret
        exact ⟨rfl, hb⟩
end
theorem topWords_walk (l : List Bs) (v : Value) (z : Int) (w : World) (hM : MaxIs w) (ht : TxtRow w v l) (h1 : longS l ≤ 9223372036854775807) :
    Calls Tryz.prog 3 #[v, .int .i64 z] w fun e w' => e = .returned (.bool true) ∧ Below w.heap.size w w' := by
  have S1 := Lib.hid (small9_any l v w h1 ht)
  have AW := Lib.hid (awake9_any w hM)
  obtain ⟨o, c, rfl, hlc, hcm, h4⟩ := id ht
  by_cases c1 : longS l ≤ 600
  · rw [decide_eq_true c1] at S1
    by_cases hz : 0 ≤ z ∧ z < (l.length : Int)
    · obtain ⟨i, rfl⟩ : ∃ i : Nat, z = i := ⟨z.toNat, by omega⟩
      obtain ⟨ab, ao, rfl, -, -⟩ := h4 0 (by omega)
      exact topWords_main hM ht c1 (by omega) S1
    · exact topWords_off S1 AW (by omega)
  · rw [decide_eq_false c1] at S1
    exact topWords_off S1 AW (.inl rfl)
end Go.Proofs.YteojlmpipfajoaaGreatDoor
namespace Go.Proofs.YteojlmpipfajoaaGreatDoor
set_option linter.unusedVariables false
set_option linter.unusedSimpArgs false
open Go.ChangeShapes Go.WideShapes Go.RowKit

section
variable {H : Type} {enc : TypeId × Value → H}
theorem cellsStr : Tryz.prog.cellsOf 9 = 1 := by kernel_rfl
theorem txts_mem {P : Program} {e : TypeId} {ds : List (DataW H)} {d : DataW H} (hd : d ∈ ds) {n : Nat} (hn : n ∈ d.weights P e) : n ∈ DataW.weightsAll P e ds := by
  induction ds with
  | nil => simp at hd
  | cons x r ih =>
    simp only [DataW.weightsAll, List.mem_append]
    rw [List.mem_cons] at hd
    rcases hd with rfl | hd
    · exact .inl hn
    · exact .inr (ih hd)
theorem str_weight (s : Bs) : s.length ∈ (DataW.lit (H := H) (.string s)).weights Tryz.prog 9 := by
  simp [DataW.weights, Tryz.underlying9]
/-- A slice of texts that came in. -/
theorem open_txts {W : World} {fuel : Nat} {ao : Option Addr} {n cap : Nat} {x : DataW H × List MemPlace} (h : DataW.trod enc Tryz.prog W 0 (fun _ => true) true fuel 22 [.slice ao n cap] = some x)
    (hlt : ∀ p ∈ x.2, p.block < W.heap.size) :
    ∃ ss : List Bs, n = ss.length ∧ TxtRow W (.slice ao n cap) ss ∧ (x.1 = .nil ∧ ss = [] ∨ ∃ sp, x.1 = .slice (ss.map fun s => .lit (.string s)) sp) := by
  rcases open_strings Tryz.underlying22 Tryz.underlying9 cellsStr h with ⟨hcs, hx⟩ | ⟨a, len', cap', zs, hcs, _, hl, hm, hz, hx, hcell, hwz⟩
  · simp at hcs
    obtain ⟨rfl, rfl, rfl⟩ := hcs
    exact ⟨[], rfl, TxtRow.nil _, .inl ⟨by rw [hx], rfl⟩⟩
  · simp at hcs
    obtain ⟨rfl, rfl, rfl⟩ := hcs
    simp only [if_true] at hz
    obtain ⟨ss, hss⟩ : ∃ ss : List Bs, ss = (zs.take n).map fun b => b.data.toList := ⟨_, rfl⟩
    have hlen : ss.length = n := by rw [hss]; simp; omega
    refine ⟨ss, hlen.symm, ⟨_, cap, by rw [hlen], by omega, hm, fun i hi => ?_⟩, .inr ⟨strs (zs.drop n), by rw [hx, hss, List.map_map]; rfl⟩⟩
    have hi' : i < n := by omega
    obtain ⟨b, off, spot⟩ := a
    have hc := hcell i (by omega)
    have hspot : spot = none := by
      have h0 := hcell 0 (by omega)
      simpa [Addr.add] using World.cell?_spot h0
    subst hspot
    refine ⟨b, off, rfl, ?_, ?_⟩
    · refine hlt (.cell b off) ?_
      rw [hx]
      exact MemPlace.mem_row.2 ⟨0, by omega, by simp⟩
    · rw [add_plain] at hc
      rw [hc]
      simp [hss, List.getD, show i < zs.length by omega, sv]
theorem txts_bulk (ss : List Bs) : Rows.uptoBulkAll (ss.map fun s => DataW.lit (H := H) (.string s)) = longS ss := by
  induction ss with
  | nil => simp [Rows.uptoBulkAll, longS]
  | cons s r ih => simp only [List.map_cons, Rows.uptoBulkAll, Rows.uptoBulk, ih, longS]
theorem txts_reach {ss : List Bs} {sp : List (DataW H)} (hz : ∀ m ∈ (DataW.slice (ss.map fun s => DataW.lit (H := H) (.string s)) sp).weights Tryz.prog 22, m ≤ reachBytes) : ∀ s ∈ ss, s.length ≤ reachBytes := fun s hs => hz _ (by
  simp only [DataW.weights, Tryz.underlying22, List.mem_cons, List.mem_append]
  exact .inr (.inl (txts_mem (List.mem_map.2 ⟨s, hs, rfl⟩) (str_weight s))))
/-- For a row with a condition: the contract may lean on the condition and on what the variables hold. -/
theorem handed_of_cond_shaped {a : Assume} {C : Checked} {os : Os} {f : FuncId} {fn : Func} {s : OpenSpec} {k : (H : Type) → List (DataW H) → Bool} (hk : s.cond = some k) {F : Stop.Interp} {conds : List PathCond} {apart fresh handsOn again : Bool}
    (own : ownKnob C.prog.godebug = none) (started : os.Started) (noInit : C.prog.inits.idxOf? f = none) (hfn : C.prog.funcs[f]? = some fn)
    (witness : ∃ (w : World) (tape : Tape) (i : Input), w.os = os ∧ (w.forCall tape i).Shaped C.prog ∧ i.vars = [] ∧ Input.okWide C.prog (w.forCall tape i) .any w.heap.size f i ∧
      s.pre6 enc C.prog fn conds apart (w.forCall tape i).memory i.args ∧ a.holds C.prog (lone (Frame.enter C.prog f i.args .normal) [] (w.forCall tape i)))
    (contract : ∀ (W : World) (base : Nat) (args : Array Value) (ds gs : List (DataW H)) (before : List MemPlace),
      (∀ (j : Nat) t v, fn.params[j]? = some t → args[j]? = some v → Value.okWide C.prog W .any base t v) →
      DataW.Whole enc C.prog fn.params.toList s.vars apart W args.toList ds gs before → k H (ds ++ gs) = true → W.ShapedOpen C.prog →
      Calls C.prog f args W fun e W' => ∃ v, e = .returned v ∧ (s.at F).post enc C.prog fn apart fresh handsOn again W args v W') :
    ReturnsInHanded a C os f .any (s.pre6 enc C.prog fn conds apart) ((s.at F).post enc C.prog fn apart fresh handsOn again) := by
  refine returnsInHanded_of_calls own started noInit witness fun w tape i _ hsh _ hok hpre _ => ?_
  obtain ⟨_, _, _, fn', hfn', _, _, _, _, hval⟩ := hok
  cases hfn'.symm.trans hfn
  obtain ⟨ds, gs, before, hw, _, hkk⟩ := (OpenSpec.pre_some hk conds apart _ _).1 hpre.1
  refine (contract _ _ _ ds gs before hval (DataW.Whole.of_heap (w' := w.forCall tape i) (by rfl) hw) hkk hsh).mono fun e W' ⟨v, he, hp⟩ => ?_
  cases he
  exact ChangeSpec.post_blind hp
end
end Go.Proofs.YteojlmpipfajoaaGreatDoor
namespace Go.Proofs.YteojlmpipfajoaaGreatDoor
set_option linter.unusedVariables false
set_option linter.unusedSimpArgs false
open Go.ChangeShapes Go.WideShapes Go.ChangeAt Go.RowKit

theorem own : ownKnob Tryz.prog.godebug = none := by kernel_rfl
theorem laidOut : laidOutB Tryz.prog = true := by kernel_rfl
/-- The list of all rows of this layer. -/
def laidL : List (String × DataW Unit) := [("unicode/utf8.acceptRanges", Rows.laid_unicode_utf8_acceptRanges), ("unicode/utf8.first", Rows.laid_unicode_utf8_first)]
/-- The numbers of a table's datum, two levels deep. -/
def numOf : DataW Unit → List Value
  | .lit (.int k z) => [Value.int k z]
  | _ => []
def numOf2 : DataW Unit → List Value
  | .agg l => l.flatMap numOf
  | d => numOf d
def numsOf : DataW Unit → Array Value
  | .agg l => (l.flatMap numOf2).toArray
  | _ => #[]
/-- The settled world, the variables holding what their initialisers lay. -/
noncomputable def laidWorld (os : Os) : World :=
  let w0 := World.holding Tryz.prog os ⟨#[], #[], []⟩
  let put (h : Array Obj) (g : Nat) (cs : Array Value) : Array Obj := h.modify g fun
    | .cells _ t frozen => .cells cs t frozen
    | o => o
  let h1 := put w0.heap 2 (numsOf Rows.laid_unicode_utf8_acceptRanges)
  let h2 := put h1 1 (numsOf Rows.laid_unicode_utf8_first)
  { w0 with heap := h2 }
set_option maxRecDepth 100000 in
theorem laid_met (os : Os) (args : Array Value) : laidMet Tryz.prog laidL ((laidWorld os).forCall (fun _ _ => 0) ⟨#[], args, []⟩).memory :=
  laidMet_of_run' 12 (by kernel_rfl) (by kernel_rfl)
end Go.Proofs.YteojlmpipfajoaaGreatDoor
