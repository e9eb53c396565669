/- For all texts, translations, cuts and asks, 'PipeCuts' returns true: what is read hangs neither on how raw bytes were cut by Feed, nor on how many were asked for at a time. No condition of its own; the tables of Go's library hold what they were laid with (tied to the text by the card). -/
import Derived.Test.YtafohdmhjilleaaDoorPRow
import Derived.Test.YtafohdmhjilleaaDoorPCuts1
import Derived.Test.YtafohdmhjilleaaDoorPCuts2
import Derived.Test.YtafohdmhjilleaaDoorPCuts3
import Derived.SevenTiedAt
namespace Go.Proofs.YtafohdmhjilleaaDoor.pipeCuts
set_option linter.unusedVariables false
set_option linter.unusedSimpArgs false
open Go.ChangeShapes Go.WideShapes Go.ChangeAt Go.RowKit
open Go.ChangeMaps (open_string shut_string)

theorem walk (W : World) (hM : MaxIs W) (raw : Bs) (hs : raw.length ≤ 9223372036854775807) (mode : Bs) (ho : mode.length ≤ 9223372036854775807) (c1 : Value) (hc1 : Bytes3 W c1) (c2 : Value) (hc2 : Bytes3 W c2) :
    Calls Tryd.prog 4 #[.string ⟨raw.toArray⟩, .string ⟨mode.toArray⟩, c1, c2] W fun e w' => e = .returned (.bool true) ∧ Below W.heap.size W w' := by
  by_cases h1 : isInM mode = true
  · by_cases h3 : raw.length ≤ 2000
    · rcases hc1 with rfl | ⟨a1, cap1, rfl, hcap1⟩ | ⟨cb1, off1, n1, cap1, z1, rfl, hnc1, hcap1, hcb1, hcell1, hby1⟩
      · rcases hc2 with rfl | ⟨a2, cap2, rfl, hcap2⟩ | ⟨cb2, off2, n2, cap2, z2, rfl, hnc2, hcap2, hcb2, hcell2, hby2⟩
        · exact cuts_nil_nil raw mode W hM h1 h3
        · exact cuts_nil_emp raw mode W hM h1 h3 a2 cap2 hcap2
        · exact cuts_nil_cel raw mode W hM h1 h3 cb2 off2 n2 cap2 z2 hnc2 hcap2 hcb2 hcell2 hby2
      · rcases hc2 with rfl | ⟨a2, cap2, rfl, hcap2⟩ | ⟨cb2, off2, n2, cap2, z2, rfl, hnc2, hcap2, hcb2, hcell2, hby2⟩
        · exact cuts_emp_nil raw mode W hM h1 h3 a1 cap1 hcap1
        · exact cuts_emp_emp raw mode W hM h1 h3 a1 cap1 hcap1 a2 cap2 hcap2
        · exact cuts_emp_cel raw mode W hM h1 h3 a1 cap1 hcap1 cb2 off2 n2 cap2 z2 hnc2 hcap2 hcb2 hcell2 hby2
      · rcases hc2 with rfl | ⟨a2, cap2, rfl, hcap2⟩ | ⟨cb2, off2, n2, cap2, z2, rfl, hnc2, hcap2, hcb2, hcell2, hby2⟩
        · exact cuts_cel_nil raw mode W hM h1 h3 cb1 off1 n1 cap1 z1 hnc1 hcap1 hcb1 hcell1 hby1
        · exact cuts_cel_emp raw mode W hM h1 h3 cb1 off1 n1 cap1 z1 hnc1 hcap1 hcb1 hcell1 hby1 a2 cap2 hcap2
        · exact cuts_cel_cel raw mode W hM h1 h3 cb1 off1 n1 cap1 z1 hnc1 hcap1 hcb1 hcell1 hby1 cb2 off2 n2 cap2 z2 hnc2 hcap2 hcb2 hcell2 hby2
    · exact cuts_long raw mode c1 c2 W hM h1 (by omega)
  · exact cuts_no raw mode c1 c2 W hM h1

theorem walkB (W : World) (hM : MaxIs W) (a0 : ByteArray) (w0 : a0.size ≤ maxLen) (a1 : ByteArray) (w1 : a1.size ≤ maxLen) (a2 : Value) (w2 : Bytes3 W a2) (a3 : Value) (w3 : Bytes3 W a3) :
    Calls Tryd.prog 4 #[.string a0, .string a1, a2, a3] W fun e w' => e = .returned (.bool true) ∧ Below W.heap.size W w' := by
  cases a0 with
  | mk d0 => cases d0 with
    | mk l0 =>
      have b0 : l0.length ≤ 9223372036854775807 := by simpa [ByteArray.size, maxLen] using w0
      cases a1 with
      | mk d1 => cases d1 with
        | mk l1 =>
          have b1 : l1.length ≤ 9223372036854775807 := by simpa [ByteArray.size, maxLen] using w1
          exact walk W hM l0 b0 l1 b1 a2 w2 a3 w3

set_option maxRecDepth 100000 in
theorem contract (H : Type) (enc : TypeId × Value → H) (W : World) (base : Nat) (args : Array Value) (ds gs : List (DataW H)) (before : List MemPlace) (hsh : W.ShapedOpen Tryd.prog)
    (hval : ∀ (j : Nat) t v, Tryd.f4.params[j]? = some t → args[j]? = some v → Value.okWide Tryd.prog W .any base t v)
    (hW : DataW.Whole enc Tryd.prog Tryd.f4.params.toList Rows.pipeCutsSpec.vars false W args.toList ds gs before) :
    Calls Tryd.prog 4 args W fun e W' => ∃ v, e = .returned v ∧ Rows.pipeCutsSpec.post enc Tryd.prog Tryd.f4 false true false false W args v W' := by
  have hW' := hW
  obtain ⟨p, q, hA0, hV, rfl, hfz, hnd⟩ := hW
  have hA : DataW.TrodAll enc Tryd.prog W 0 (fun _ => true) true Tryd.f4.params.toList args.toList ds p := hA0
  rw [Tryd.params4] at hA hval
  obtain ⟨v0, vs0, d0, ds0, p0, q0, hargs, rfl, rfl, h0, r0⟩ := trodAll_cons hA
  obtain ⟨v1, vs1, d1, ds1, p1, q1, rfl, rfl, rfl, h1, r1⟩ := trodAll_cons r0
  obtain ⟨v2, vs2, d2, ds2, p2, q2, rfl, rfl, rfl, h2, r2⟩ := trodAll_cons r1
  obtain ⟨v3, vs3, d3, ds3, p3, q3, rfl, rfl, rfl, h3, r3⟩ := trodAll_cons r2
  obtain ⟨rfl, rfl, rfl⟩ := trodAll_nil r3
  obtain rfl : args = #[v0, v1, v2, v3] := by cases args; simp_all
  obtain ⟨rfl, rfl⟩ := trodVars_none hV
  obtain ⟨a0, rfl, rfl, rfl, w0⟩ := open_string Tryd.underlying9 (hval 0 9 v0 rfl rfl) h0
  obtain ⟨a1, rfl, rfl, rfl, w1⟩ := open_string Tryd.underlying9 (hval 1 9 v1 rfl rfl) h1
  clear hA0
  simp only [List.append_nil, List.nil_append] at hW'
  have hlt2 : ∀ x ∈ p2, x.block < W.heap.size := fun x hx => by first | simpa using hW'.lt x hx | exact hW'.lt x (by simp [hx])
  have w2 := open_bytes3 (hval 2 22 v2 rfl rfl) h2 hlt2
  have hlt3 : ∀ x ∈ p3, x.block < W.heap.size := fun x hx => by first | simpa using hW'.lt x hx | exact hW'.lt x (by simp [hx])
  have w3 := open_bytes3 (hval 3 22 v3 rfl rfl) h3 hlt3
  refine (walkB W (max_of hsh) a0 w0 a1 w1 v2 w2 v3 w3).mono fun e W' ⟨he, hb⟩ => ?_
  subst he
  exact ⟨_, rfl, _, _, _, [], [] ++ ([] ++ (p2 ++ (p3 ++ []))), [], hW', trodAll_cons_mk (shut_bool Tryd.underlying4 _) trodAll_mk0,
    trodAll_cons_mk (shut_string Tryd.underlying9 w0) (trodAll_cons_mk (shut_string Tryd.underlying9 w1) (trodAll_cons_mk (Below.trod laidOut (by kernel_rfl) (of_decide_eq_true (by kernel_rfl)) h2 hb hlt2) (trodAll_cons_mk (Below.trod laidOut (by kernel_rfl) (of_decide_eq_true (by kernel_rfl)) h3 hb hlt3) trodAll_mk0))), rfl, hb.frame _, fun h => by cases h⟩

theorem reads (os : Os) {H : Type} (enc : TypeId × Value → H) : ∃ places, DataW.whole enc Tryd.prog ((laidWorld os).forCall (fun _ _ => 0) ⟨#[], #[.string ByteArray.empty, .string ByteArray.empty, .slice none 0 0, .slice none 0 0], []⟩).memory Tryd.f4.params.toList Rows.pipeCutsSpec.vars false (#[.string ByteArray.empty, .string ByteArray.empty, .slice none 0 0, .slice none 0 0] : Array Value).toList 8 = some ([.lit (.string []), .lit (.string []), .nil, .nil], [], places) :=
  ⟨[], by kernel_rfl⟩

set_option maxRecDepth 100000 in
theorem lifted (os : Os) (started : os.Started) (H : Type) (enc : TypeId × Value → H) (F : Stop.Interp) :
    ReturnsInHanded {} Tryd.checked os 4 .any ((OpenSpec.ofChange Rows.pipeCutsSpec).preRow enc Tryd.prog Tryd.f4 Rows.pipeCutsRow.domain false Rows.pipeCutsRow.laid) (((OpenSpec.ofChange Rows.pipeCutsSpec).at F).post enc Tryd.prog Tryd.f4 false true false false) := by
  obtain ⟨places, hx⟩ := reads os enc
  refine returnsInHanded_of_row (C := Tryd.checked) (s := OpenSpec.ofChange Rows.pipeCutsSpec) own started (by kernel_rfl) Tryd.func4
    (witness_row_atRef (enc := enc) (C := Tryd.checked) false (laidWorld os) #[.string ByteArray.empty, .string ByteArray.empty, .slice none 0 0, .slice none 0 0] rfl (by kernel_rfl) (by kernel_rfl) (by kernel_rfl)
      (OpenSpec.preRow_of_cond 8 hx (by kernel_rfl) (fun k hk => by cases hk) (by kernel_rfl) (laid_met os _))) ?_
  intro W base args ds gs before hval hW _ _ _ hL hsh _
  exact contract H enc W base args ds gs before hsh hval hW

theorem said : Rows.PipeCutsSaid :=
  OpenClaim.holds_of_cond 4 Tryd.f4 rfl rfl rfl rfl rfl rfl rfl ⟨rfl, rfl, rfl, rfl, rfl⟩ rfl rfl rfl rfl rfl (by kernel_rfl) Tryd.func4 (by kernel_rfl)
    (of_decide_eq_true (by kernel_rfl)) (by unfold Func.isWrapper; first | (rw [if_pos (by decide +kernel)]; kernel_rfl) | (rw [if_neg (by decide +kernel)]; exact ⟨rfl, rfl⟩))
    (fun os started H enc _ F => by rw [OpenClaim.pre_eq_preRow]; exact lifted os started H enc F)

theorem plain (f : FuncId) (fn : Func) (hf : Tryd.pinned.checked.prog.funcNamed "threadbare/threadbarelaw12.PipeCuts" = some f) (hfn : Tryd.pinned.checked.prog.funcs[f]? = some fn) :
    false = Tryd.pinned.checked.prog.looks [] ∧ ∀ (j : Nat) t, fn.params[j]? = some t → Tryd.pinned.checked.prog.wantsStandIn t = false := by
  obtain rfl : f = 4 := Option.some.inj ((show Tryd.prog.funcNamed "threadbare/threadbarelaw12.PipeCuts" = some 4 by kernel_rfl).symm.trans hf) |>.symm
  obtain rfl : fn = Tryd.f4 := (Option.some.inj (Tryd.func4.symm.trans hfn)).symm
  refine ⟨by kernel_rfl, fun j t ht => ?_⟩
  rw [Tryd.params4] at ht
  have hm := Array.mem_of_getElem? ht
  simp at hm
  have hs : Tryd.prog.wantsStandIn 9 = false := by kernel_rfl
  have hy : Tryd.prog.wantsStandIn 22 = false := by kernel_rfl
  rcases hm with rfl | rfl
  · exact hs
  · exact hy

theorem proved : Rows.PipeCutsCardSaid :=
  Claim7.holds_tied_plain_at .later [] _ _ _ _ said (fun _ h => by cases h) (by kernel_rfl) (fun _ h => by cases h) pipeCuts_row_tie rfl ⟨rfl, rfl⟩ (by kernel_rfl) rfl plain (by kernel_rfl)
#print axioms proved
end Go.Proofs.YtafohdmhjilleaaDoor.pipeCuts
