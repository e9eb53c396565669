/- For all times, choices and bytes between, 'ClockBack' returns true: what Write writes by a form that tells the whole time is read again. No condition of its own; the tables and errors of Go's library hold what they were laid with (tied to the text by the card). -/
import Derived.Test.YtkahakhhdiffcaaGreatDoorCBackRow
import Derived.Test.YtkahakhhdiffcaaGreatDoorCBackW
import Derived.SevenTiedAt
import Derived.ShutString
namespace Go.Proofs.YtkahakhhdiffcaaGreatDoor.clockBack
set_option linter.unusedVariables false
set_option linter.unusedSimpArgs false
open Go.ChangeShapes Go.WideShapes Go.ChangeAt Go.RowKit
open Go.ChangeMaps (open_string shut_string)

theorem walkB (t : Int) (v : Value) (c : Int) (h0 : 0 ≤ c) (h1 : c ≤ 255) (w : World) (hv : Bytes3 w v) (hT : SpaceIs w) (hP : PowIs w) (hE : ErrIs w) (hM : MaxIs w) :
    Calls Tryz.prog 4 #[.int .i64 t, v, .int .u8 c] w fun e w' => e = .returned (.bool true) ∧ Below w.heap.size w w' := by
  obtain ⟨b, rfl⟩ : ∃ b : UInt8, (b.toNat : Int) = c := ⟨UInt8.ofNat c.toNat, by simp [UInt8.toNat_ofNat']; omega⟩
  have key : ∀ (A : Option Addr) (n cap : Nat) (z : Nat → Int), (A = none → cap = 0) → n ≤ cap → cap ≤ maxLen → (∀ j, j < n → 0 ≤ z j ∧ z j ≤ 255 ∧ ∃ cb off, A = some ⟨cb, off, none⟩ ∧ cb < w.heap.size ∧ w.cell? ⟨cb, off + j, none⟩ = some (.int .u8 (z j))) →
      Calls Tryz.prog 4 #[.int .i64 t, .slice A n cap, .int .u8 (b.toNat : Int)] w fun e w' => e = .returned (.bool true) ∧ Below w.heap.size w w' := fun A n cap z hA hn hc hz => by
    by_cases hn30 : 30 < n
    · exact back_early t A n cap b w hT hP (.inl hn30)
    · by_cases h37 : b = 37
      · exact back_early t A n cap b w hT hP (.inr ⟨by omega, .inl h37⟩)
      · by_cases h45 : b = 45
        · exact back_early t A n cap b w hT hP (.inr ⟨by omega, .inr (.inl h45)⟩)
        · cases hd : isDg b with
          | true => exact back_early t A n cap b w hT hP (.inr ⟨by omega, .inr (.inr ⟨h37, h45, hd⟩)⟩)
          | false => exact back_main t A n cap z b w hT hP hE hM hA (by omega) hn hc hz h37 h45 hd
  rcases hv with rfl | ⟨a, cap, rfl, hc⟩ | ⟨cb, off, n, cap, z, rfl, hn, hc, hlt, hcell, hz⟩
  · exact key none 0 0 (fun _ => 0) (fun _ => rfl) (Nat.le_refl _) (by unfold maxLen; omega) (fun j hj => by omega)
  · exact key (some a) 0 cap (fun _ => 0) (fun h => by cases h) (Nat.zero_le _) hc (fun j hj => by omega)
  · exact key _ n cap z (fun h => by cases h) hn hc (fun j hj => ⟨(hz j hj).1, (hz j hj).2, cb, off, rfl, hlt, hcell j hj⟩)

set_option maxRecDepth 100000 in
theorem contract (H : Type) (enc : TypeId × Value → H) (W : World) (base : Nat) (args : Array Value) (ds gs : List (DataW H)) (before : List MemPlace) (hsh : W.ShapedOpen Tryz.prog)
    (hval : ∀ (j : Nat) t v, Tryz.f4.params[j]? = some t → args[j]? = some v → Value.okWide Tryz.prog W .any base t v)
    (hW : DataW.Whole enc Tryz.prog Tryz.f4.params.toList Rows.clockBackSpec.vars false W args.toList ds gs before) (hL : laidMetH Tryz.prog Rows.clockBackRow.laid W) :
    Calls Tryz.prog 4 args W fun e W' => ∃ v, e = .returned v ∧ Rows.clockBackSpec.post enc Tryz.prog Tryz.f4 false true false false W args v W' := by
  have hL' : laidMetH Tryz.prog laidB W := hL
  have hW' := hW
  obtain ⟨p, q, hA0, hV, rfl, hfz, hnd⟩ := hW
  have hA : DataW.TrodAll enc Tryz.prog W 0 (fun _ => true) true Tryz.f4.params.toList args.toList ds p := hA0
  rw [Tryz.params4] at hA hval
  obtain ⟨v0, vs0, d0, ds0, p0, q0, hargs, rfl, rfl, h0, r0⟩ := trodAll_cons hA
  obtain ⟨v1, vs1, d1, ds1, p1, q1, rfl, rfl, rfl, h1, r1⟩ := trodAll_cons r0
  obtain ⟨v2, vs2, d2, ds2, p2, q2, rfl, rfl, rfl, h2, r2⟩ := trodAll_cons r1
  obtain ⟨rfl, rfl, rfl⟩ := trodAll_nil r2
  obtain rfl : args = #[v0, v1, v2] := by cases args; simp_all
  obtain ⟨rfl, rfl⟩ := trodVars_none hV
  obtain ⟨a0, rfl, rfl, rfl, w0⟩ := open_int Tryz.underlying3 (hval 0 3 v0 rfl rfl) h0
  obtain ⟨a2, rfl, rfl, rfl, w2⟩ := open_int Tryz.underlying5 (hval 2 5 v2 rfl rfl) h2
  clear hA0
  simp only [List.append_nil, List.nil_append] at hW'
  have hlt1 : ∀ x ∈ p1, x.block < W.heap.size := fun x hx => by first | simpa using hW'.lt x hx | exact hW'.lt x (by simp [hx])
  have w1 := open_bytes3 (hval 1 27 v1 rfl rfl) h1 hlt1
  have hb2 : 0 ≤ a2 ∧ a2 ≤ 255 := by
    have e1 : IntKind.u8.min = 0 := rfl
    have e2 : IntKind.u8.max = 255 := rfl
    have := w2
    simp only [Lit.wf, Bool.and_eq_true, decide_eq_true_eq, e1, e2] at this
    exact this
  refine (walkB a0 v1 a2 hb2.1 hb2.2 W w1 (spaceB_of hL') (powB_of hL') (errB_of hL') (max_of hsh)).mono fun e W' ⟨he, hb⟩ => ?_
  subst he
  exact ⟨_, rfl, _, _, _, [], [] ++ (p1 ++ ([] ++ [])), [], hW', trodAll_cons_mk (shut_bool Tryz.underlying4 _) trodAll_mk0,
    trodAll_cons_mk (shut_int Tryz.underlying3 w0) (trodAll_cons_mk (Below.trod laidOut (by kernel_rfl) (of_decide_eq_true (by kernel_rfl)) h1 hb hlt1) (trodAll_cons_mk (shut_int Tryz.underlying5 w2) trodAll_mk0)), rfl, hb.frame _, fun h => by cases h⟩

theorem reads (os : Os) {H : Type} (enc : TypeId × Value → H) : ∃ places, DataW.whole enc Tryz.prog ((laidWorldB os).forCall (fun _ _ => 0) ⟨#[], #[.int .i64 0, .slice none 0 0, .int .u8 0], []⟩).memory Tryz.f4.params.toList Rows.clockBackSpec.vars false (#[.int .i64 0, .slice none 0 0, .int .u8 0] : Array Value).toList 8 = some ([.lit (.int .i64 0), .nil, .lit (.int .u8 0)], [], places) :=
  ⟨[], by kernel_rfl⟩

set_option maxRecDepth 100000 in
theorem lifted (os : Os) (started : os.Started) (H : Type) (enc : TypeId × Value → H) (F : Stop.Interp) :
    ReturnsInHanded {} Tryz.checked os 4 .any ((OpenSpec.ofChange Rows.clockBackSpec).preRow enc Tryz.prog Tryz.f4 Rows.clockBackRow.domain false Rows.clockBackRow.laid) (((OpenSpec.ofChange Rows.clockBackSpec).at F).post enc Tryz.prog Tryz.f4 false true false false) := by
  obtain ⟨places, hx⟩ := reads os enc
  refine returnsInHanded_of_row (C := Tryz.checked) (s := OpenSpec.ofChange Rows.clockBackSpec) own started (by kernel_rfl) Tryz.func4
    (witness_row_atRef (enc := enc) (C := Tryz.checked) false (laidWorldB os) #[.int .i64 0, .slice none 0 0, .int .u8 0] rfl (by kernel_rfl) (by kernel_rfl) (by kernel_rfl)
      (OpenSpec.preRow_of_cond 8 hx (by kernel_rfl) (fun k hk => by cases hk) (by kernel_rfl) (laidB_met os _))) ?_
  intro W base args ds gs before hval hW _ _ _ hL hsh _
  exact contract H enc W base args ds gs before hsh hval hW hL

theorem said : Rows.ClockBackSaid :=
  OpenClaim.holds_of_cond 4 Tryz.f4 rfl rfl rfl rfl rfl rfl rfl ⟨rfl, rfl, rfl, rfl, rfl⟩ rfl rfl rfl rfl rfl (by kernel_rfl) Tryz.func4 (by kernel_rfl)
    (of_decide_eq_true (by kernel_rfl)) (by unfold Func.isWrapper; first | (rw [if_pos (by decide +kernel)]; kernel_rfl) | (rw [if_neg (by decide +kernel)]; exact ⟨rfl, rfl⟩))
    (fun os started H enc _ F => by rw [OpenClaim.pre_eq_preRow]; exact lifted os started H enc F)

theorem plain (f : FuncId) (fn : Func) (hf : Tryz.pinned.checked.prog.funcNamed "threadbare/threadbarelaw11.ClockBack" = some f) (hfn : Tryz.pinned.checked.prog.funcs[f]? = some fn) :
    true = Tryz.pinned.checked.prog.looks [] ∧ ∀ (j : Nat) t, fn.params[j]? = some t → Tryz.pinned.checked.prog.wantsStandIn t = false := by
  obtain rfl : f = 4 := Option.some.inj ((show Tryz.prog.funcNamed "threadbare/threadbarelaw11.ClockBack" = some 4 by kernel_rfl).symm.trans hf) |>.symm
  obtain rfl : fn = Tryz.f4 := (Option.some.inj (Tryz.func4.symm.trans hfn)).symm
  refine ⟨by kernel_rfl, fun j t ht => ?_⟩
  rw [Tryz.params4] at ht
  have hm := Array.mem_of_getElem? ht
  have h1 : Tryz.prog.wantsStandIn 3 = false := by kernel_rfl
  have h2 : Tryz.prog.wantsStandIn 27 = false := by kernel_rfl
  have h3 : Tryz.prog.wantsStandIn 5 = false := by kernel_rfl
  simp at hm
  rcases hm with rfl | rfl | rfl
  · exact h1
  · exact h2
  · exact h3

theorem proved : Rows.ClockBackCardSaid :=
  Claim7.holds_tied_plain_at .later [] _ _ _ _ said (fun _ h => by cases h) (by kernel_rfl) (fun _ h => by cases h) clockBack_row_tie rfl ⟨rfl, rfl⟩ (by kernel_rfl) rfl plain (by kernel_rfl)
#print axioms proved
end Go.Proofs.YtkahakhhdiffcaaGreatDoor.clockBack
