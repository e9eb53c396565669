/- For all texts, translations and filters, 'PipeBack' returns true: what goes out by a translation comes in by the same one as it was written, also through filters that lie on both sides in the same order. No condition of its own; the tables of Go's library hold what they were laid with (tied to the text by the card). -/
import Derived.Test.YtafohdmhjilleaaDoorPRow
import Derived.Test.YtafohdmhjilleaaDoorPBackW
import Derived.SevenTiedAt
namespace Go.Proofs.YtafohdmhjilleaaDoor.pipeBack
set_option linter.unusedVariables false
set_option linter.unusedSimpArgs false
open Go.ChangeShapes Go.WideShapes Go.ChangeAt Go.RowKit
open Go.ChangeMaps (open_string shut_string)

theorem walk (W : World) (hM : MaxIs W) (s : Bs) (_ : s.length ≤ 9223372036854775807) (mode : Bs) (_ : mode.length ≤ 9223372036854775807) (fv : Value) (hf : Bools3 W fv) :
    Calls Tryd.prog 8 #[.string ⟨s.toArray⟩, .string ⟨mode.toArray⟩, fv] W fun e w' => e = .returned (.bool true) ∧ Below W.heap.size W w' := by
  obtain ⟨o, n, cap, z, rfl, hnc, hcm, hz⟩ := hf
  by_cases hs : s.length ≤ 600
  · by_cases hn : n ≤ 3
    · by_cases hm : mode = lfM ∨ mode = crM ∨ mode = crlfM
      · rcases hm with rfl | rfl | rfl
        · exact back_lf s o n cap z W hM hs hn (fun h => absurd rfl h) hnc hcm hz
        · by_cases h13 : (13 : UInt8) ∈ s
          · exact back_13cr s o n cap W hM hs hn (index_in h13)
          · exact back_cr s o n cap z W hM hs hn (fun _ => h13) hnc hcm hz
        · by_cases h13 : (13 : UInt8) ∈ s
          · exact back_13crlf s o n cap W hM hs hn (index_in h13)
          · exact back_crlf s o n cap z W hM hs hn (fun _ => h13) hnc hcm hz
      · exact back_mode s mode o n cap W hM hs hn hm
    · exact back_many s mode o n cap W hM hs (by omega)
  · exact back_long s mode o n cap W hM (by omega)
theorem cells1_bool : Tryd.prog.cellsOf 4 = 1 := by kernel_rfl
set_option maxRecDepth 100000 in
theorem open_bools3 {H : Type} {enc : TypeId × Value → H} {W : World} {base : Nat} {v : Value} {d : DataW H} {ps : List MemPlace} (hv : Value.okWide Tryd.prog W .any base 47 v) (h : DataW.Trod enc Tryd.prog W 0 (fun _ => true) true 47 v d ps) (hlt : ∀ x ∈ ps, x.block < W.heap.size) : Bools3 W v := by
  obtain ⟨a1, n, cap, rfl⟩ := okWide_slice Tryd.underlying47 hv
  obtain ⟨fuel, hf⟩ := h
  rcases Deep.open_bools Tryd.underlying47 Tryd.underlying4 cells1_bool hf with ⟨hcs, hx⟩ | ⟨a, len', cap', B, hcs, _, hl, hm, hx, hcell⟩
  · simp [Value.cells] at hcs
    obtain ⟨rfl, rfl, rfl⟩ := hcs
    exact ⟨none, 0, 0, fun _ => false, rfl, Nat.le_refl _, by unfold maxLen; omega, fun i hi => by omega⟩
  · simp [Value.cells] at hcs
    obtain ⟨rfl, rfl, rfl⟩ := hcs
    simp only [Prod.mk.injEq] at hx
    obtain ⟨rfl, rfl⟩ := hx
    obtain ⟨b, off, spot⟩ := a
    refine ⟨_, n, cap, B, rfl, hl, hm, fun i hi => ?_⟩
    have h0 := hcell i (by omega)
    have hspot : spot = none := by simpa [Addr.add] using World.cell?_spot (hcell 0 (by omega))
    subst hspot
    refine ⟨b, off, rfl, hlt (.cell b off) (MemPlace.mem_row.2 ⟨0, by omega, by simp⟩), ?_⟩
    rwa [add_plain] at h0

theorem walkB (W : World) (hM : MaxIs W) (a0 : ByteArray) (w0 : a0.size ≤ maxLen) (a1 : ByteArray) (w1 : a1.size ≤ maxLen) (a2 : Value) (w2 : Bools3 W a2) :
    Calls Tryd.prog 8 #[.string a0, .string a1, a2] W fun e w' => e = .returned (.bool true) ∧ Below W.heap.size W w' := by
  cases a0 with
  | mk d0 => cases d0 with
    | mk l0 =>
      have b0 : l0.length ≤ 9223372036854775807 := by simpa [ByteArray.size, maxLen] using w0
      cases a1 with
      | mk d1 => cases d1 with
        | mk l1 =>
          have b1 : l1.length ≤ 9223372036854775807 := by simpa [ByteArray.size, maxLen] using w1
          exact walk W hM l0 b0 l1 b1 a2 w2

set_option maxRecDepth 100000 in
theorem contract (H : Type) (enc : TypeId × Value → H) (W : World) (base : Nat) (args : Array Value) (ds gs : List (DataW H)) (before : List MemPlace) (hsh : W.ShapedOpen Tryd.prog)
    (hval : ∀ (j : Nat) t v, Tryd.f8.params[j]? = some t → args[j]? = some v → Value.okWide Tryd.prog W .any base t v)
    (hW : DataW.Whole enc Tryd.prog Tryd.f8.params.toList Rows.pipeBackSpec.vars false W args.toList ds gs before) :
    Calls Tryd.prog 8 args W fun e W' => ∃ v, e = .returned v ∧ Rows.pipeBackSpec.post enc Tryd.prog Tryd.f8 false true false false W args v W' := by
  have hW' := hW
  obtain ⟨p, q, hA0, hV, rfl, hfz, hnd⟩ := hW
  have hA : DataW.TrodAll enc Tryd.prog W 0 (fun _ => true) true Tryd.f8.params.toList args.toList ds p := hA0
  rw [Tryd.params8] at hA hval
  obtain ⟨v0, vs0, d0, ds0, p0, q0, hargs, rfl, rfl, h0, r0⟩ := trodAll_cons hA
  obtain ⟨v1, vs1, d1, ds1, p1, q1, rfl, rfl, rfl, h1, r1⟩ := trodAll_cons r0
  obtain ⟨v2, vs2, d2, ds2, p2, q2, rfl, rfl, rfl, h2, r2⟩ := trodAll_cons r1
  obtain ⟨rfl, rfl, rfl⟩ := trodAll_nil r2
  obtain rfl : args = #[v0, v1, v2] := by cases args; simp_all
  obtain ⟨rfl, rfl⟩ := trodVars_none hV
  obtain ⟨a0, rfl, rfl, rfl, w0⟩ := open_string Tryd.underlying9 (hval 0 9 v0 rfl rfl) h0
  obtain ⟨a1, rfl, rfl, rfl, w1⟩ := open_string Tryd.underlying9 (hval 1 9 v1 rfl rfl) h1
  clear hA0
  simp only [List.append_nil, List.nil_append] at hW'
  have hlt2 : ∀ x ∈ p2, x.block < W.heap.size := fun x hx => by first | simpa using hW'.lt x hx | exact hW'.lt x (by simp [hx])
  have w2 := open_bools3 (hval 2 47 v2 rfl rfl) h2 hlt2
  refine (walkB W (max_of hsh) a0 w0 a1 w1 v2 w2).mono fun e W' ⟨he, hb⟩ => ?_
  subst he
  exact ⟨_, rfl, _, _, _, [], [] ++ ([] ++ (p2 ++ [])), [], hW', trodAll_cons_mk (shut_bool Tryd.underlying4 _) trodAll_mk0,
    trodAll_cons_mk (shut_string Tryd.underlying9 w0) (trodAll_cons_mk (shut_string Tryd.underlying9 w1) (trodAll_cons_mk (Below.trod laidOut (by kernel_rfl) (of_decide_eq_true (by kernel_rfl)) h2 hb hlt2) trodAll_mk0)), rfl, hb.frame _, fun h => by cases h⟩

theorem reads (os : Os) {H : Type} (enc : TypeId × Value → H) : ∃ places, DataW.whole enc Tryd.prog ((laidWorld os).forCall (fun _ _ => 0) ⟨#[], #[.string ByteArray.empty, .string ByteArray.empty, .slice none 0 0], []⟩).memory Tryd.f8.params.toList Rows.pipeBackSpec.vars false (#[.string ByteArray.empty, .string ByteArray.empty, .slice none 0 0] : Array Value).toList 8 = some ([.lit (.string []), .lit (.string []), .nil], [], places) :=
  ⟨[], by kernel_rfl⟩

set_option maxRecDepth 100000 in
theorem lifted (os : Os) (started : os.Started) (H : Type) (enc : TypeId × Value → H) (F : Stop.Interp) :
    ReturnsInHanded {} Tryd.checked os 8 .any ((OpenSpec.ofChange Rows.pipeBackSpec).preRow enc Tryd.prog Tryd.f8 Rows.pipeBackRow.domain false Rows.pipeBackRow.laid) (((OpenSpec.ofChange Rows.pipeBackSpec).at F).post enc Tryd.prog Tryd.f8 false true false false) := by
  obtain ⟨places, hx⟩ := reads os enc
  refine returnsInHanded_of_row (C := Tryd.checked) (s := OpenSpec.ofChange Rows.pipeBackSpec) own started (by kernel_rfl) Tryd.func8
    (witness_row_atRef (enc := enc) (C := Tryd.checked) false (laidWorld os) #[.string ByteArray.empty, .string ByteArray.empty, .slice none 0 0] rfl (by kernel_rfl) (by kernel_rfl) (by kernel_rfl)
      (OpenSpec.preRow_of_cond 8 hx (by kernel_rfl) (fun k hk => by cases hk) (by kernel_rfl) (laid_met os _))) ?_
  intro W base args ds gs before hval hW _ _ _ hL hsh _
  exact contract H enc W base args ds gs before hsh hval hW

theorem said : Rows.PipeBackSaid :=
  OpenClaim.holds_of_cond 8 Tryd.f8 rfl rfl rfl rfl rfl rfl rfl ⟨rfl, rfl, rfl, rfl, rfl⟩ rfl rfl rfl rfl rfl (by kernel_rfl) Tryd.func8 (by kernel_rfl)
    (of_decide_eq_true (by kernel_rfl)) (by unfold Func.isWrapper; first | (rw [if_pos (by decide +kernel)]; kernel_rfl) | (rw [if_neg (by decide +kernel)]; exact ⟨rfl, rfl⟩))
    (fun os started H enc _ F => by rw [OpenClaim.pre_eq_preRow]; exact lifted os started H enc F)

theorem plain (f : FuncId) (fn : Func) (hf : Tryd.pinned.checked.prog.funcNamed "threadbare/threadbarelaw12.PipeBack" = some f) (hfn : Tryd.pinned.checked.prog.funcs[f]? = some fn) :
    false = Tryd.pinned.checked.prog.looks [] ∧ ∀ (j : Nat) t, fn.params[j]? = some t → Tryd.pinned.checked.prog.wantsStandIn t = false := by
  obtain rfl : f = 8 := Option.some.inj ((show Tryd.prog.funcNamed "threadbare/threadbarelaw12.PipeBack" = some 8 by kernel_rfl).symm.trans hf) |>.symm
  obtain rfl : fn = Tryd.f8 := (Option.some.inj (Tryd.func8.symm.trans hfn)).symm
  refine ⟨by kernel_rfl, fun j t ht => ?_⟩
  rw [Tryd.params8] at ht
  have hm := Array.mem_of_getElem? ht
  simp at hm
  have hs : Tryd.prog.wantsStandIn 9 = false := by kernel_rfl
  have hB : Tryd.prog.wantsStandIn 47 = false := by kernel_rfl
  rcases hm with rfl | rfl
  · exact hs
  · exact hB

theorem proved : Rows.PipeBackCardSaid :=
  Claim7.holds_tied_plain_at .later [] _ _ _ _ said (fun _ h => by cases h) (by kernel_rfl) (fun _ h => by cases h) pipeBack_row_tie rfl ⟨rfl, rfl⟩ (by kernel_rfl) rfl plain (by kernel_rfl)
#print axioms proved
end Go.Proofs.YtafohdmhjilleaaDoor.pipeBack
