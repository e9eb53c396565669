/- 'DictPaths' returns true for all texts and paths. No condition. -/
import Derived.Test.YtpaffocniniakaaRows
import Derived.Test.YtpaffocniniakaaPathsW
import Derived.Test.YtpaffocniniakaaTxtArg
import Derived.ProofKit
import Derived.HandedShaped
import Derived.OpenShut
import Derived.ShutString
import Derived.Carry
namespace Go.Proofs.Ytpaffocniniakaa.dictPaths
open Go.ChangeShapes Go.WideShapes Go.ChangeAt Go.RowKit
open Go.ChangeMaps (open_string shut_string)
set_option linter.unusedVariables false
set_option linter.unusedSimpArgs false

theorem own : ownKnob Try.prog.godebug = none := by kernel_rfl
theorem laidOut : laidOutB Try.prog = true := by kernel_rfl
theorem walkB (a0 a2 : ByteArray) (ss : List Bs) (v : Value) (h0 : a0.data.toList.length ≤ reachBytes) (hp : ∀ x ∈ ss, x.length ≤ reachBytes) (h2 : a2.data.toList.length ≤ reachBytes) (w : World) (hM : MaxIs w) (ht : TxtRow w v ss) :
    Calls Try.prog 6 #[.string a0, v, .string a2] w fun e w' => e = .returned (.bool true) ∧ Below w.heap.size w w' := by
  have hr : reachBytes ≤ 1000000000000000 := by decide
  cases a0 with
  | mk d0 => cases d0 with
    | mk l0 => cases a2 with
      | mk d2 => cases d2 with
        | mk l2 => exact dictPaths_walk l0 l2 ss v (Nat.le_trans h0 hr) (Nat.le_trans h2 hr) (fun x hx => Nat.le_trans (hp x hx) hr) w hM ht

set_option maxRecDepth 100000 in
theorem lifted (os : Os) (started : os.Started) (H : Type) (enc : TypeId × Value → H) :
    ReturnsInHanded {} Try.checked os 6 .any (Rows.dictPathsSpec.pre6 enc Try.prog Try.f6 Rows.dictPathsRow.domain false) (Rows.dictPathsSpec.post enc Try.prog Try.f6 false true false false) := by
  refine returnsInHanded_of_change_shaped (C := Try.checked) own started (by kernel_rfl) Try.func6
    (ChangeSpec.witness6 (enc := enc) (C := Try.checked) false ⟨#[], #[.string ByteArray.empty, .slice none 0 0, .string ByteArray.empty], []⟩ 8 (by kernel_rfl) (by kernel_rfl) (by kernel_rfl) (by kernel_rfl)) ?_
  intro W base args ds gs before hval0 hW hcnd hsz0 hsh _
  obtain ⟨mx, hmx⟩ := Try.laysM143.s1_3 W hsh
  have hval : ∀ (j : Nat) t v, Try.f6.params[j]? = some t → args[j]? = some v → Value.okWide Try.prog W .any base t v := hval0
  have hsz : (DataW.weightsEach Try.prog (Try.f6.params.toList ++ Rows.dictPathsSpec.plain.varTypes Try.prog) (ds ++ gs)).all (· ≤ reachBytes) = true := hsz0
  have hW' := hW
  obtain ⟨p, q, hA0, hV, rfl, hfz, hnd⟩ := hW
  have hA : DataW.TrodAll enc Try.prog W 0 (fun _ => true) true Try.f6.params.toList args.toList ds p := hA0
  rw [Try.params6] at hA hval hsz
  obtain ⟨v0, vs0, d0, ds0, p0, q0, hargs, rfl, rfl, h0, r0⟩ := trodAll_cons hA
  obtain ⟨v1, vs1, d1, ds1, p1, q1, rfl, rfl, rfl, h1, r1⟩ := trodAll_cons r0
  obtain ⟨v2, vs2, d2, ds2, p2, q2, rfl, rfl, rfl, h2, r2⟩ := trodAll_cons r1
  obtain ⟨rfl, rfl, rfl⟩ := trodAll_nil r2
  obtain rfl : args = #[v0, v1, v2] := by cases args; simp_all
  obtain ⟨rfl, rfl⟩ := trodVars_none hV
  obtain ⟨a0, rfl, rfl, rfl, w0⟩ := open_string Try.underlying9 (hval 0 9 v0 rfl rfl) h0
  obtain ⟨a1, n, cap, rfl⟩ := okWide_slice Try.underlying29 (hval 1 29 v1 rfl rfl)
  obtain ⟨a2, rfl, rfl, rfl, w2⟩ := open_string Try.underlying9 (hval 2 9 v2 rfl rfl) h2
  have h1k := h1
  obtain ⟨fuel, hf⟩ := h1
  clear hA0 hval0
  simp only [List.append_nil, List.nil_append] at hW'
  have s0 := sized_string hsz (j := 0) (t := 9) rfl rfl
  have hlt : ∀ x ∈ p1, x.block < W.heap.size := fun x hx => by simpa using hW'.lt x hx
  obtain ⟨ss, hn, hR, hd⟩ := open_txts hf hlt
  have s1 : ∀ x ∈ ss, x.length ≤ reachBytes := by
    rcases hd with ⟨_, rfl⟩ | ⟨sp, hd⟩
    · simp
    · have hd : d1 = _ := hd
      refine txts_reach (H := H) (sp := sp) (fun m hm => ?_)
      have := List.all_eq_true.1 hsz _ (DataW.weights_mem_each (j := 1) (t := 29) rfl rfl m (by rw [hd]; exact hm))
      simpa using this
  have s2 := sized_string hsz (j := 2) (t := 9) rfl rfl
  refine (walkB a0 a2 ss _ s0 s1 s2 W ⟨mx, hmx⟩ hR).mono fun e W' ⟨he, hb⟩ => ?_
  subst he
  exact ⟨_, rfl, _, _, _, [], [] ++ (p1 ++ ([] ++ [])), [], hW', trodAll_cons_mk (shut_bool Try.underlying4 _) trodAll_mk0,
    trodAll_cons_mk (shut_string Try.underlying9 w0) (trodAll_cons_mk (Below.trod laidOut (by kernel_rfl) (of_decide_eq_true (by kernel_rfl)) h1k hb hlt) (trodAll_cons_mk (shut_string Try.underlying9 w2) trodAll_mk0)), rfl, hb.frame _, fun h => by cases h⟩

theorem over : Rows.dictPathsRow.holds Try.pinned (OpenSpec.ofChange Rows.dictPathsSpec) :=
  OpenClaim.holds_of_wide 6 Try.f6 rfl rfl rfl rfl rfl rfl rfl ⟨rfl, rfl, rfl, rfl, rfl⟩ rfl rfl rfl rfl rfl (by kernel_rfl) Try.func6 (by kernel_rfl)
    (of_decide_eq_true (by kernel_rfl)) (by unfold Func.isWrapper; first | (rw [if_pos (by decide +kernel)]; kernel_rfl) | (rw [if_neg (by decide +kernel)]; exact ⟨rfl, rfl⟩))
    (fun os started H enc _ => lifted os started H enc)

theorem proved : Rows.DictPathsSaid :=
  over
#print axioms proved
end Go.Proofs.Ytpaffocniniakaa.dictPaths
