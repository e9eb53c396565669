/- A slice of texts among the arguments: what it holds, and how long its texts are; the wrap for a row with a condition, the variables' shape handed on. -/
import Derived.Test.YtodajjhchngkgaaRows
import Derived.Test.YtodajjhchngkgaaLJoin
import Derived.Test.YtodajjhchngkgaaBook15
import Derived.SliceStrings
import Derived.SizedLaws
import Derived.JoinedCond
import Derived.ProofKit
namespace Go.Proofs.Ytodajjhchngkgaa
set_option linter.unusedVariables false
set_option linter.unusedSimpArgs false
open Go.ChangeShapes Go.WideShapes Go.RowKit

section
variable {H : Type} {enc : TypeId × Value → H}
theorem cellsStr : Try.prog.cellsOf 9 = 1 := by kernel_rfl
theorem txts_mem {P : Program} {e : TypeId} {ds : List (DataW H)} {d : DataW H} (hd : d ∈ ds) {n : Nat} (hn : n ∈ d.weights P e) : n ∈ DataW.weightsAll P e ds := by
  induction ds with
  | nil => simp at hd
  | cons x r ih =>
    simp only [DataW.weightsAll, List.mem_append]
    rw [List.mem_cons] at hd
    rcases hd with rfl | hd
    · exact .inl hn
    · exact .inr (ih hd)
theorem str_weight (s : Bs) : s.length ∈ (DataW.lit (H := H) (.string s)).weights Try.prog 9 := by
  simp [DataW.weights, Try.underlying9]
/-- A slice of texts that came in. -/
theorem open_txts {W : World} {fuel : Nat} {ao : Option Addr} {n cap : Nat} {x : DataW H × List MemPlace} (h : DataW.trod enc Try.prog W 0 (fun _ => true) true fuel 22 [.slice ao n cap] = some x)
    (hlt : ∀ p ∈ x.2, p.block < W.heap.size) :
    ∃ ss : List Bs, n = ss.length ∧ TxtRow W (.slice ao n cap) ss ∧ (x.1 = .nil ∧ ss = [] ∨ ∃ sp, x.1 = .slice (ss.map fun s => .lit (.string s)) sp) := by
  rcases open_strings Try.underlying22 Try.underlying9 cellsStr h with ⟨hcs, hx⟩ | ⟨a, len', cap', zs, hcs, _, hl, hm, hz, hx, hcell, hwz⟩
  · simp at hcs
    obtain ⟨rfl, rfl, rfl⟩ := hcs
    exact ⟨[], rfl, TxtRow.nil _, .inl ⟨by rw [hx], rfl⟩⟩
  · simp at hcs
    obtain ⟨rfl, rfl, rfl⟩ := hcs
    simp only [if_true] at hz
    obtain ⟨ss, hss⟩ : ∃ ss : List Bs, ss = (zs.take n).map fun b => b.data.toList := ⟨_, rfl⟩
    have hlen : ss.length = n := by rw [hss]; simp; omega
    refine ⟨ss, hlen.symm, ⟨_, cap, by rw [hlen], by omega, hm, fun i hi => ?_⟩, .inr ⟨strs (zs.drop n), by rw [hx, hss, List.map_map]; rfl⟩⟩
    have hi' : i < n := by omega
    obtain ⟨b, off, spot⟩ := a
    have hc := hcell i (by omega)
    have hspot : spot = none := by
      have h0 := hcell 0 (by omega)
      simpa [Addr.add] using World.cell?_spot h0
    subst hspot
    refine ⟨b, off, rfl, ?_, ?_⟩
    · refine hlt (.cell b off) ?_
      rw [hx]
      exact MemPlace.mem_row.2 ⟨0, by omega, by simp⟩
    · rw [add_plain] at hc
      rw [hc]
      simp [hss, List.getD, show i < zs.length by omega, sv]
theorem txts_bulk (ss : List Bs) : Rows.uptoBulkAll (ss.map fun s => DataW.lit (H := H) (.string s)) = longS ss := by
  induction ss with
  | nil => simp [Rows.uptoBulkAll, longS]
  | cons s r ih => simp only [List.map_cons, Rows.uptoBulkAll, Rows.uptoBulk, ih, longS]
theorem txts_reach {ss : List Bs} {sp : List (DataW H)} (hz : ∀ m ∈ (DataW.slice (ss.map fun s => DataW.lit (H := H) (.string s)) sp).weights Try.prog 22, m ≤ reachBytes) : ∀ s ∈ ss, s.length ≤ reachBytes := fun s hs => hz _ (by
  simp only [DataW.weights, Try.underlying22, List.mem_cons, List.mem_append]
  exact .inr (.inl (txts_mem (List.mem_map.2 ⟨s, hs, rfl⟩) (str_weight s))))
/-- For a row with a condition: the contract may lean on the condition and on what the variables hold. -/
theorem handed_of_cond_shaped {a : Assume} {C : Checked} {os : Os} {f : FuncId} {fn : Func} {s : OpenSpec} {k : (H : Type) → List (DataW H) → Bool} (hk : s.cond = some k) {F : Stop.Interp} {conds : List PathCond} {apart fresh handsOn again : Bool}
    (own : ownKnob C.prog.godebug = none) (started : os.Started) (noInit : C.prog.inits.idxOf? f = none) (hfn : C.prog.funcs[f]? = some fn)
    (witness : ∃ (w : World) (tape : Tape) (i : Input), w.os = os ∧ (w.forCall tape i).Shaped C.prog ∧ i.vars = [] ∧ Input.okWide C.prog (w.forCall tape i) .any w.heap.size f i ∧
      s.pre6 enc C.prog fn conds apart (w.forCall tape i).memory i.args ∧ a.holds C.prog (lone (Frame.enter C.prog f i.args .normal) [] (w.forCall tape i)))
    (contract : ∀ (W : World) (base : Nat) (args : Array Value) (ds gs : List (DataW H)) (before : List MemPlace),
      (∀ (j : Nat) t v, fn.params[j]? = some t → args[j]? = some v → Value.okWide C.prog W .any base t v) →
      DataW.Whole enc C.prog fn.params.toList s.vars apart W args.toList ds gs before → k H (ds ++ gs) = true → W.ShapedOpen C.prog →
      Calls C.prog f args W fun e W' => ∃ v, e = .returned v ∧ (s.at F).post enc C.prog fn apart fresh handsOn again W args v W') :
    ReturnsInHanded a C os f .any (s.pre6 enc C.prog fn conds apart) ((s.at F).post enc C.prog fn apart fresh handsOn again) := by
  refine returnsInHanded_of_calls own started noInit witness fun w tape i _ hsh _ hok hpre _ => ?_
  obtain ⟨_, _, _, fn', hfn', _, _, _, _, hval⟩ := hok
  cases hfn'.symm.trans hfn
  obtain ⟨ds, gs, before, hw, _, hkk⟩ := (OpenSpec.pre_some hk conds apart _ _).1 hpre.1
  refine (contract _ _ _ ds gs before hval (DataW.Whole.of_heap (w' := w.forCall tape i) (by rfl) hw) hkk hsh).mono fun e W' ⟨v, he, hp⟩ => ?_
  cases he
  exact ChangeSpec.post_blind hp
end
end Go.Proofs.Ytodajjhchngkgaa
