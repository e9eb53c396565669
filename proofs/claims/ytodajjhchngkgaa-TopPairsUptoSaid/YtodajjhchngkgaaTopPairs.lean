/- 'TopPairs' returns true for all lists of texts, keys and texts. Condition: what is read is of bulk at most 1048576 (the second form). -/
import Derived.Test.YtodajjhchngkgaaRows
import Derived.Test.YtodajjhchngkgaaTopW
import Derived.Test.YtodajjhchngkgaaTxtArg
import Derived.HandedShaped
import Derived.OpenShut
import Derived.Carry
import Derived.ProofKit
import Derived.ShutString
namespace Go.Proofs.Ytodajjhchngkgaa.topPairs
open Go.ChangeShapes Go.WideShapes Go.ChangeAt Go.RowKit
open Go.ChangeMaps (open_string shut_string)
set_option linter.unusedVariables false
set_option linter.unusedSimpArgs false

theorem own : ownKnob Try.prog.godebug = none := by kernel_rfl
theorem laidOut : laidOutB Try.prog = true := by kernel_rfl
theorem walkB (a1 a2 : ByteArray) (ss : List Bs) (v : Value) (h1 : longS ss ≤ 9223372036854775807) (h2 : longS [a1.data.toList, a2.data.toList] ≤ 9223372036854775807) (w : World) (hM : MaxIs w) (ht : TxtRow w v ss) :
    Calls Try.prog 3 #[v, .string a1, .string a2] w fun e w' => e = .returned (.bool true) ∧ Below w.heap.size w w' := by
  cases a1 with
  | mk d1 => cases d1 with
    | mk l1 => cases a2 with
      | mk d2 => cases d2 with
        | mk l2 => exact topPairs_walk ss l1 l2 v w hM ht h1 h2

set_option maxRecDepth 100000 in
theorem lifted (os : Os) (started : os.Started) (H : Type) (enc : TypeId × Value → H) (F : Stop.Interp) :
    ReturnsInHanded {} Try.checked os 3 .any ((Rows.OpenSpec.upto Rows.topPairsSpec).pre6 enc Try.prog Try.f3 Rows.topPairsUptoRow.domain false) (((Rows.OpenSpec.upto Rows.topPairsSpec).at F).post enc Try.prog Try.f3 false true false false) := by
  refine handed_of_cond_shaped (C := Try.checked) (s := Rows.OpenSpec.upto Rows.topPairsSpec) (k := Rows.uptoSmall) rfl own started (by kernel_rfl) Try.func3
    (OpenSpec.witness (enc := enc) (C := Try.checked) (s := Rows.OpenSpec.upto Rows.topPairsSpec) (k := Rows.uptoSmall) rfl false ⟨#[], #[.slice none 0 0, .string ByteArray.empty, .string ByteArray.empty], []⟩ 8 (by kernel_rfl) (by kernel_rfl) (by kernel_rfl)
      (x := ([.nil, .lit (.string []), .lit (.string [])], [], [])) (by kernel_rfl) rfl (by kernel_rfl)) ?_
  intro W base args ds gs before hval0 hW hk hsh
  obtain ⟨mx, hmx⟩ := Try.laysM143.s1_3 W hsh
  have hval : ∀ (j : Nat) t v, Try.f3.params[j]? = some t → args[j]? = some v → Value.okWide Try.prog W .any base t v := hval0
  have hW' := hW
  obtain ⟨p, q, hA0, hV, rfl, hfz, hnd⟩ := hW
  have hA : DataW.TrodAll enc Try.prog W 0 (fun _ => true) true Try.f3.params.toList args.toList ds p := hA0
  rw [Try.params3] at hA hval
  obtain ⟨v0, vs0, d0, ds0, p0, q0, hargs, rfl, rfl, h0, r0⟩ := trodAll_cons hA
  obtain ⟨v1, vs1, d1, ds1, p1, q1, rfl, rfl, rfl, h1, r1⟩ := trodAll_cons r0
  obtain ⟨v2, vs2, d2, ds2, p2, q2, rfl, rfl, rfl, h2, r2⟩ := trodAll_cons r1
  obtain ⟨rfl, rfl, rfl⟩ := trodAll_nil r2
  obtain rfl : args = #[v0, v1, v2] := by cases args; simp_all
  obtain ⟨rfl, rfl⟩ := trodVars_none hV
  obtain ⟨a0, n, cap, rfl⟩ := okWide_slice Try.underlying22 (hval 0 22 v0 rfl rfl)
  obtain ⟨a1, rfl, rfl, rfl, w1⟩ := open_string Try.underlying9 (hval 1 9 v1 rfl rfl) h1
  obtain ⟨a2, rfl, rfl, rfl, w2⟩ := open_string Try.underlying9 (hval 2 9 v2 rfl rfl) h2
  have h0k := h0
  obtain ⟨fuel, hf⟩ := h0
  clear hA0 hval0
  simp only [List.append_nil, List.nil_append] at hW' hk
  have hlt : ∀ x ∈ p0, x.block < W.heap.size := fun x hx => by simpa using hW'.lt x hx
  obtain ⟨ss, hn, hR, hd⟩ := open_txts hf hlt
  have hb : Rows.uptoBulkAll [d0, .lit (.string a1.data.toList), .lit (.string a2.data.toList)] ≤ 1048576 := of_decide_eq_true hk
  simp only [Rows.uptoBulkAll, Rows.uptoBulk] at hb
  have hlong : longS ss ≤ 9223372036854775807 := by
    rcases hd with ⟨_, rfl⟩ | ⟨sp, hd⟩
    · simp [longS]
    · have hd : d0 = _ := hd
      rw [hd] at hb
      simp only [Rows.uptoBulkAll, Rows.uptoBulk] at hb
      rw [txts_bulk] at hb
      omega
  have hlong2 : longS [a1.data.toList, a2.data.toList] ≤ 9223372036854775807 := by simp only [longS]; omega
  refine (walkB a1 a2 ss _ hlong hlong2 W ⟨mx, hmx⟩ hR).mono fun e W' ⟨he, hb⟩ => ?_
  subst he
  exact ⟨_, rfl, _, _, _, [], p0 ++ ([] ++ ([] ++ [])), [], hW', trodAll_cons_mk (shut_bool Try.underlying4 _) trodAll_mk0,
    trodAll_cons_mk (Below.trod laidOut (by kernel_rfl) (of_decide_eq_true (by kernel_rfl)) h0k hb hlt) (trodAll_cons_mk (shut_string Try.underlying9 w1) (trodAll_cons_mk (shut_string Try.underlying9 w2) trodAll_mk0)), rfl, hb.frame _, fun h => by cases h⟩

theorem proved : Rows.TopPairsUptoSaid :=
  OpenClaim.holds_of_cond 3 Try.f3 rfl rfl rfl rfl rfl rfl rfl ⟨rfl, rfl, rfl, rfl, rfl⟩ rfl rfl rfl rfl rfl (by kernel_rfl) Try.func3 (by kernel_rfl)
    (of_decide_eq_true (by kernel_rfl)) (by unfold Func.isWrapper; first | (rw [if_pos (by decide +kernel)]; kernel_rfl) | (rw [if_neg (by decide +kernel)]; exact ⟨rfl, rfl⟩))
    (fun os started H enc _ F => lifted os started H enc F)
#print axioms proved
end Go.Proofs.Ytodajjhchngkgaa.topPairs
