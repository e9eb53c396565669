/- What a space of variables answers, plainly. No program in sight. -/
import Derived.Test.YtcaifihdbcjakaaGreatVPlain
namespace Go.Proofs.YtcaifihdbcjakaaGreat
set_option linter.unusedVariables false
set_option linter.unusedSimpArgs false

def nmOf (S : St) (m : Nat) (w : Bs) : Option Nat := match S m with | some (.nmap f) => f w | _ => none
def nameC (S : St) (n : Nat) : Option Nat := match S n with | some (.name c _) => some c | _ => none
def linkC (S : St) (n : Nat) : Bool := match S n with | some (.name _ l) => l | _ => false
def elOf (S : St) (c : Nat) (i : Bs) : Option Nat := match S c with
  | some (.cell _ _ (some e) _) => (match S e with | some (.emap f) => f i | _ => none)
  | _ => none
def parOf (S : St) (c : Nat) : Option Nat := match S c with | some (.cell _ _ _ p) => p | _ => none
def kindOf (S : St) (c : Nat) : Int := match S c with | some (.cell k _ _ _) => k | _ => 0
def valOf (S : St) (c : Nat) : Bs := match S c with | some (.cell _ v _ _) => v | _ => []
/-- 'state'. -/
def stateC (S : St) (c : Nat) : Int × Int := match parOf S c with
  | none => (kindOf S c, 0)
  | some p => if kindOf S p = 1 then (0, 11) else if kindOf S p = 0 then (0, 0) else (kindOf S c, 0)
/-- 'find'. -/
def findC (S : St) (g : Int → Option Nat) (i : Int) (word : Bs) : Option Nat × Int :=
  match g i with
  | none => (none, 7)
  | some m => match nmOf S m (splitC word).1 with
    | none => (none, 0)
    | some n => match nameC S n with
      | none => (none, 0)
      | some c => if (splitC word).2.2 = false then (some c, 0) else if parOf S c ≠ none then (none, 11) else if kindOf S c = 1 then (none, 11) else (elOf S c (splitC word).2.1, 0)
/-- 'Get'. -/
def getC (S : St) (g : Int → Option Nat) (i : Int) (word : Bs) : Bs × Int :=
  if (findC S g i word).2 ≠ 0 then ([], (findC S g i word).2) else match (findC S g i word).1 with
  | none => ([], 8)
  | some c => if (stateC S c).2 ≠ 0 ∨ (stateC S c).1 = 2 then ([], 11) else if (stateC S c).1 = 0 then ([], 8) else (valOf S c, 0)
/-- 'Kind'. -/
def kindC (S : St) (g : Int → Option Nat) (i : Int) (word : Bs) : Int :=
  if (findC S g i word).2 ≠ 0 then 0 else match (findC S g i word).1 with
  | none => 0
  | some c => (stateC S c).1
/-- 'Linked'. -/
def linkedC (S : St) (g : Int → Option Nat) (i : Int) (word : Bs) : Bool := match g i with
  | none => false
  | some m => match nmOf S m word with | none => false | some n => linkC S n

/-- The first numbers of a row are known, and are ints. -/
def RowOk (n c : Nat) (l : List Int) : Prop := n ≤ l.length ∧ l.length ≤ c ∧ c ≤ 9223372036854775807 ∧ ∀ i ∈ l, -9223372036854775808 ≤ i ∧ i ≤ 9223372036854775807

/-- A sound space, of at most N calls. -/
structure Sp (N : Nat) (S : St) (x sm : Nat) (g : Int → Option Nat) : Prop where
  wf : WF S
  smap : S sm = some (.smap g)
  space : ∃ cs rm r, S x = some (.space sm cs rm) ∧ S rm = some (.rmap r) ∧ ∀ b n c, cs = some (b, n, c) → n ≤ N ∧ ∃ l, S b = some (.row l c) ∧ RowOk n c l

theorem findC_cell {S : St} (h : WF S) {sm : Nat} {g : Int → Option Nat} (hs : S sm = some (.smap g)) {i : Int} {word : Bs} {c : Nat} (hf : (findC S g i word).1 = some c) : ∃ k v e p, S c = some (.cell k v e p) := by
  unfold findC at hf
  split at hf
  · cases hf
  · rename_i m hm
    obtain ⟨f, hmf⟩ := h.scope hs hm
    split at hf
    · cases hf
    · rename_i n hn
      simp only [nmOf, hmf] at hn
      obtain ⟨c0, l0, hn0⟩ := h.nm hmf hn
      simp only [nameC, hn0] at hf
      obtain ⟨k, v, e, p, hc0⟩ := h.nc hn0
      split at hf
      · cases hf; exact ⟨k, v, e, p, hc0⟩
      · split at hf
        · cases hf
        · split at hf
          · cases hf
          · simp only [elOf, hc0] at hf
            cases e with
            | none => simp at hf
            | some e =>
              obtain ⟨f, he⟩ := h.els hc0
              simp only [he] at hf
              obtain ⟨k', v', e', hd⟩ := h.kid hc0 he hf
              exact ⟨k', v', e', _, hd⟩
end Go.Proofs.YtcaifihdbcjakaaGreat
