/- A range over a function that writes boxes of its own between its rounds. -/
import Derived.RangeFuncNested
import Derived.RangeFuncRecord
import Derived.RangeFuncLeaves
import Derived.RangeFuncBox
import Derived.Test.YtkahakhhdiffcaaGreatDoorProg
namespace Go.Proofs.YtkahakhhdiffcaaGreatDoor
set_option linter.unusedVariables false
set_option linter.unusedSimpArgs false
open Go.RowKit
/-- What an iterator promises that goes from an element to the next one and may change the world by Ab between its rounds. -/
def IterOwn {β : Type} (F : Fence) (n : Nat) (P : Program) (g : Nat) (lb : Array Value) (encs : β → Array Value) (nx : β → β) (ok S : β → Prop) (Kp : World → World → Prop) (Ab : Nat → World → World → Prop) (s : β) (W : World) : Prop :=
  ∀ (l : Nat) (J : β → World → Prop) (Jx : World → Prop), (∀ q X Y, J q X → Ab W.heap.size X Y → J q Y) →
    (∀ q X, J q X → ok q → YieldAt F (n - 1) P l (encs q) X fun e Y => (e = .returned (.bool true) ∧ J (nx q) Y ∧ Kp X Y) ∨ (e = .returned (.bool false) ∧ Jx Y)) →
    J s W → CallsIn F n P g (#[.func (.yield l) #[] #[]] ++ lb) W fun e Y => (∃ v, e = .returned v) ∧ ((∃ q, S q ∧ J q Y) ∨ Jx Y)
/-- How a round is left. -/
def roundPost (B : Nat) (Kp : World → World → Prop) (I : World → Prop) (Ix : Code → World → Prop) (W : World) : Exit → Act → World → Prop
  | .normal, _, W' => KeepsFrom B W W' ∧ Kp W W' ∧ I W'
  | .ret, _, W' => KeepsFrom B W W' ∧ Ix .ret W'
  | .exit i, _, W' => KeepsFrom B W W' ∧ Ix (.exit i) W'
  | .goto t, _, W' => KeepsFrom B W W' ∧ Ix (.goto t) W'
  | .panic _, _, _ => False
  | .outgrown, _, _ => False
theorem wpIn_iterOwn {F : Fence} {n : Nat} {P : Program} {β : Type} {g : Operand} {ps : Array Tmp} {assign body : Code} {Q : Exit → Act → World → Prop} {a : Act} {w : World}
    (hro : F.round = none) (h1 : 1 ≤ n) {gf : Nat} {lb : Array Value} (hg : a.eval g = .func (.func gf) #[] lb) (hFg : F.fn gf) (eg : ∀ args w, (callFunc gf args).run P w = .ok (.enter gf args) w)
    {encs : β → Array Value} {nx : β → β} {ok S : β → Prop} {Kp : World → World → Prop} {Ab : Nat → World → World → Prop} {s : β}
    (hseq : ∀ o1 o2 : Obj, IterOwn F (n - 1) P gf lb encs nx ok S Kp Ab s ((w.alloc o1).alloc o2))
    (hAb : ∀ B X Y, Ab B X Y → ∀ k, w.heap.size ≤ k → k < B → Y.heap[k]? = X.heap[k]?)
    (hKt : ∀ {A B C : World}, Kp A B → Kp B C → Kp A C) (hKb : ∀ (W : World) (l : Nat) (o o' : Obj), w.heap.size ≤ l → W.heap[l]? = some o → o.isCells = false → Kp W (W.putObj l o')) (hps : ∀ x, (encs x).size = ps.size)
    (I : β → World → Prop) (Ix : Code → World → Prop) (hI : OwnFrom w.heap.size I) (hIA : ∀ q X Y, I q X → Ab (w.heap.size + 2) X Y → I q Y) (hIx : OwnFrom w.heap.size Ix) (h0 : I s w)
    (Ax : β → Act → World → Prop) (hAx : ∀ x a', OwnFrom w.heap.size (fun (_ : Unit) W => Ax x a' W))
    (hassign : ∀ (l : Nat) (q : β) (W : World) (K : Act → World → Prop), I q W → ok q → (∀ a' W', KeepsFrom w.heap.size W W' → Kp W W' → I q W' → Ax q a' W' → K a' W') →
      assign.wpIn (F.inRound l) (n - 1 - 1) P (Exit.then K (fun _ _ _ => False)) { tmps := (ps.zip (encs q)).foldl (fun t (p, v) => t.setIfInBounds p v) a.tmps, defers := [] } W)
    (hbody : ∀ (l : Nat) (q : β) (a' : Act) (W : World), I q W → ok q → Ax q a' W → body.wpIn (F.inRound l) (n - 1 - 1) P (roundPost w.heap.size Kp (I (nx q)) Ix W) a' W)
    (hdone : ∀ (D : Nat) (q : β) (W : World), w.heap.size ≤ D → S q → I q W → W.heap[D]? = some (.deferred (some [])) → Q .normal { a with defers := { target := .collected D, args := #[] } :: a.defers } W)
    (hstop : ∀ (D : Nat) (c : Code) (W : World), w.heap.size ≤ D → Ix c W → W.heap[D]? = some (.deferred (some [])) → c.wpIn F n P Q { a with defers := { target := .collected D, args := #[] } :: a.defers } W) :
    (Code.rangeFunc g ps assign body).wpIn F n P Q a w := by
  refine wpIn_rangeFunc fun fn hfn => ?_
  rw [hro]
  let lp : LoopState → Option Code → Obj := fun st pe => .loop { state := st, pending := pe, fn, tmps := a.tmps, params := ps, assign, body, defers := w.heap.size }
  let de : Obj := .deferred (some [])
  let Bk : World → LoopState → Option Code → Prop := fun W st pe => W.heap[w.heap.size + 1]? = some (lp st pe) ∧ W.heap[w.heap.size]? = some de
  have hB0 : Bk ((w.alloc de).alloc (lp .ready none)) .ready none := by
    refine ⟨?_, (Below.heap_alloc _ _ _ (by simp)).trans (World.alloc_heap_new w _)⟩
    have := World.alloc_heap_new (w.alloc de) (lp .ready none)
    rwa [World.size_alloc] at this
  have hI0 : I s ((w.alloc de).alloc (lp .ready none)) := hI.alloc _ (hI.alloc _ h0)
  refine ⟨w.heap.size + 1, [{ target := .collected w.heap.size, args := #[] }], (w.alloc de).alloc (lp .ready none), { target := .fn (.func gf) lb, args := #[.func (.yield (w.heap.size + 1)) #[] #[]] }, (w.alloc de).alloc (lp .ready none), gf,
    #[.func (.yield (w.heap.size + 1)) #[] #[]] ++ lb, (w.alloc de).alloc (lp .ready none), run_enterLoop_outer _ _ _ _ _, ?_, ?_, ?_, fun _ => h1, ?_⟩
  · simp only [resolve, hg]
    simp [go_sem]
  · intro f' hf'; simp [Target.leads] at hf'; subst hf'; exact hFg
  · simp [invoke, go_sem, eg]
  have hsz : ((w.alloc de).alloc (lp .ready none)).heap.size = w.heap.size + 2 := by simp
  refine (hseq de (lp .ready none) (w.heap.size + 1) (fun q W => I q W ∧ Bk W .ready none) (fun W => ∃ c, Ix c W ∧ Bk W .done (some c)) ?_ ?_ ⟨hI0, hB0⟩).mono ?_
  · rintro q X Y ⟨hi, h2, h3⟩ hab
    rw [hsz] at hab
    exact ⟨hIA q X Y hi hab, (hAb _ _ _ hab _ (by omega) (by omega)).trans h2, (hAb _ _ _ hab _ (by omega) (by omega)).trans h3⟩
  · rintro q W ⟨hi, h2, h3⟩ hok
    have hy := run_yield (P := P) (args := encs q) h2 (hps q)
    refine ⟨fn, _, assign, body, hy, roundIn_of_wpIn hfn (hassign _ q W _ hi hok ?_)⟩
    clear hy
    intro a' V hkf hkp hiV hax
    have h2V := hkf.same _ _ (by omega) h2 rfl
    have h3V := hkf.same _ _ (Nat.le_refl _) h3 rfl
    have hltV : w.heap.size + 1 < V.heap.size := (Array.getElem?_eq_some_iff.1 h2V).1
    refine ⟨_, run_beginRound h2V rfl, ?_⟩
    have hb2 : (V.putObj (w.heap.size + 1) (lp .busy none)).heap[w.heap.size + 1]? = some (lp .busy none) := World.putObj_heap_same hltV
    have hb3 : (V.putObj (w.heap.size + 1) (lp .busy none)).heap[w.heap.size]? = some de := (World.putObj_heap_other (by omega)).trans h3V
    have hkB : Kp V (V.putObj (w.heap.size + 1) (lp .busy none)) := hKb _ _ _ _ (by omega) h2V rfl
    refine wpIn_mono (hbody _ q a' _ (hI.putObj _ hiV (by omega) h2V rfl) hok ((hAx q a').putObj (s := ()) _ hax (by omega) h2V rfl)) ?_
    have fin : ∀ (j : Option Code) (Z : World), KeepsFrom w.heap.size (V.putObj (w.heap.size + 1) (lp .busy none)) Z →
        (Instr.endRound (w.heap.size + 1) j).run P Z = .ok (.bool j.isNone) (Z.putObj (w.heap.size + 1) (lp (if j.isNone then .ready else .done) j)) ∧
        Z.heap[w.heap.size + 1]? = some (lp .busy none) ∧ Bk (Z.putObj (w.heap.size + 1) (lp (if j.isNone then .ready else .done) j)) (if j.isNone then .ready else .done) j := fun j Z hz => by
      have hz2 := hz.same _ _ (by omega) hb2 rfl
      exact ⟨run_endRound (P := P) j hz2, hz2, World.putObj_heap_same (Array.getElem?_eq_some_iff.1 hz2).1, (World.putObj_heap_other (by omega)).trans (hz.same _ _ (Nat.le_refl _) hb3 rfl)⟩
    rintro e a3 Z hp
    cases e with
    | normal =>
      obtain ⟨k1, k2, k3⟩ := hp
      obtain ⟨hr, hz, hbk⟩ := fin none Z k1
      exact ⟨_, _, hr, .inl ⟨rfl, ⟨hI.putObj _ k3 (by omega) hz rfl, hbk⟩, hKt hkp (hKt (hKt hkB k2) (hKb _ _ _ _ (by omega) hz rfl))⟩⟩
    | ret =>
      obtain ⟨k1, k3⟩ := hp
      obtain ⟨hr, hz, hbk⟩ := fin (some .ret) Z k1
      exact ⟨_, _, hr, .inr ⟨rfl, .ret, hIx.putObj _ k3 (by omega) hz rfl, hbk⟩⟩
    | exit i =>
      obtain ⟨k1, k3⟩ := hp
      obtain ⟨hr, hz, hbk⟩ := fin (some (.exit i)) Z k1
      exact ⟨_, _, hr, .inr ⟨rfl, .exit i, hIx.putObj _ k3 (by omega) hz rfl, hbk⟩⟩
    | goto t =>
      obtain ⟨k1, k3⟩ := hp
      obtain ⟨hr, hz, hbk⟩ := fin (some (.goto t)) Z k1
      exact ⟨_, _, hr, .inr ⟨rfl, .goto t, hIx.putObj _ k3 (by omega) hz rfl, hbk⟩⟩
    | panic ch => exact hp.elim
    | outgrown => exact hp.elim
  · rintro e Z ⟨⟨v, rfl⟩, (⟨q, hS, hi, hl, hk⟩ | ⟨c, hi, hl, hk⟩)⟩
    · exact ⟨none, _, run_endLoop (P := P) hl (by simp), hdone _ q _ (Nat.le_refl _) hS (hI.putObj _ hi (by omega) hl rfl) ((World.putObj_heap_other (by omega)).trans hk)⟩
    · exact ⟨some c, _, run_endLoop (P := P) hl (by simp), hstop _ c _ (Nat.le_refl _) (hIx.putObj _ hi (by omega) hl rfl) ((World.putObj_heap_other (by omega)).trans hk)⟩
end Go.Proofs.YtkahakhhdiffcaaGreatDoor
