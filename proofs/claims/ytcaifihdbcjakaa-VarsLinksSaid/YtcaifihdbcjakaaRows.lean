/-
  No cell of these rows narrows 'for every input' (looked for: loops, veiled, ifaces, maps, wideKeys, modest, calm, conditions, laid).
  DERIVED. THE GIVEN ROWS OF THIS SEAT. 3 by the template 'for every input the law returns true; each argument reads behind the call as it read before'; 0 by the template 'total and deterministic' (their statements: YtcaifihdbcjakaaTotals.lean).
  GIVEN WITH THE SEED: the statements are not yours to turn. If you find one false, say at which input.
  Laid BY PROGRAM, IN A SANDBOX (cutbox-rows.mjs): the forced cells as the released guide's own fill.sh prints them over the translation 229b60db1ba5c75c… (all of the seat's roots in one cut). By AI agents, Wed Nov 11 2026. No macro, syntax, notation, axiom, sorry.
-/
import Derived.Test.YtcaifihdbcjakaaChecked
import GoSem.Claim
import GoSem.ClaimJoined
import GoSem.ClaimMapViews
import Derived.JoinedTies
import Derived.KernelRfl
namespace Go.Proofs.Ytcaifihdbcjakaa
/- THE CELL 'sum', in the pinned program and in every row, IS THE sha256 OF THE DUMP (.gsa) THAT YtcaifihdbcjakaaProg.lean LOADS. Nothing in Lean hashes anything: it is a label: what it is worth is what the hold of that sum in a sandbox is worth. -/
noncomputable def Try.pinned : Pinned := { name := "ytcaifihdbcjakaa", sum := "229b60db1ba5c75ca79d91d9aae2698f081c11736bbd40408d5f0f450b33d53e", checked := Try.checked }
namespace Rows
def none {H : Type} : Left H := { results := [], args := [] }

/-- 'threadbarelaw15.VarsSplits': WHATEVER THE INPUT: true; the input reads as it did. -/
def varsSplitsSpec : ChangeSpec := { name := "varsSplits", fn := fun _ => fun
  | [d] => { results := [.lit (.bool true)], args := [d] }
  | _ => none }
def varsSplitsRow : OpenClaim := { program := "ytcaifihdbcjakaa", sum := "229b60db1ba5c75ca79d91d9aae2698f081c11736bbd40408d5f0f450b33d53e", func := "threadbare/threadbarelaw15.VarsSplits", spec := "varsSplits", inPlace := ["internal/bytealg.IndexByteString"], apart := false }
def VarsSplitsSaid : Prop := varsSplitsRow.holds Try.pinned (OpenSpec.ofChange varsSplitsSpec)

/-- ITS FALSE NEIGHBOUR: 'it returns false'. Refute it at one input. -/
def varsSplitsWrong : ChangeSpec := { name := "varsSplits", fn := fun _ => fun
  | [d] => { results := [.lit (.bool false)], args := [d] }
  | _ => none }
def VarsSplitsWrongFalsely : Prop := varsSplitsRow.holds Try.pinned (OpenSpec.ofChange varsSplitsWrong)

/-- 'threadbarelaw15.VarsKept': WHATEVER THE INPUT: true; the input reads as it did. -/
def varsKeptSpec : ChangeSpec := { name := "varsKept", fn := fun _ => fun
  | [d1, d2, d3, d4, d5] => { results := [.lit (.bool true)], args := [d1, d2, d3, d4, d5] }
  | _ => none }
def varsKeptRow : OpenClaim := { program := "ytcaifihdbcjakaa", sum := "229b60db1ba5c75ca79d91d9aae2698f081c11736bbd40408d5f0f450b33d53e", func := "threadbare/threadbarelaw15.VarsKept", spec := "varsKept", inPlace := ["internal/bytealg.IndexByteString"], apart := false }
def VarsKeptSaid : Prop := varsKeptRow.holds Try.pinned (OpenSpec.ofChange varsKeptSpec)

/-- ITS FALSE NEIGHBOUR: 'it returns false'. Refute it at one input. -/
def varsKeptWrong : ChangeSpec := { name := "varsKept", fn := fun _ => fun
  | [d1, d2, d3, d4, d5] => { results := [.lit (.bool false)], args := [d1, d2, d3, d4, d5] }
  | _ => none }
def VarsKeptWrongFalsely : Prop := varsKeptRow.holds Try.pinned (OpenSpec.ofChange varsKeptWrong)

/-- 'threadbarelaw15.VarsLinks': WHATEVER THE INPUT: true; the input reads as it did. -/
def varsLinksSpec : ChangeSpec := { name := "varsLinks", fn := fun _ => fun
  | [d1, d2, d3, d4, d5, d6] => { results := [.lit (.bool true)], args := [d1, d2, d3, d4, d5, d6] }
  | _ => none }
def varsLinksRow : OpenClaim := { program := "ytcaifihdbcjakaa", sum := "229b60db1ba5c75ca79d91d9aae2698f081c11736bbd40408d5f0f450b33d53e", func := "threadbare/threadbarelaw15.VarsLinks", spec := "varsLinks", inPlace := ["internal/bytealg.IndexByteString"], apart := false }
def VarsLinksSaid : Prop := varsLinksRow.holds Try.pinned (OpenSpec.ofChange varsLinksSpec)

/-- ITS FALSE NEIGHBOUR: 'it returns false'. Refute it at one input. -/
def varsLinksWrong : ChangeSpec := { name := "varsLinks", fn := fun _ => fun
  | [d1, d2, d3, d4, d5, d6] => { results := [.lit (.bool false)], args := [d1, d2, d3, d4, d5, d6] }
  | _ => none }
def VarsLinksWrongFalsely : Prop := varsLinksRow.holds Try.pinned (OpenSpec.ofChange varsLinksWrong)

/- THE SECOND FORM. 'bulk': how many values and letters a reading holds, each counted each time it is reached (what is shared counts as often as it is met; a slice's spare places count too). A statement '..UptoSaid' is the law's where the arguments, and the package variables that the reading takes, are together of bulk at most 1048576: NARROWER than '..Said'. Prove '..Said' where nothing that the law and all that it calls make is longer than what came in: it says more and counts as full. Else prove '..UptoSaid'. A law counts once. -/
mutual
def uptoBulk {H : Type} : DataW H → Nat
  | .lit (.string bytes) => bytes.length + 1
  | .lit _ => 1
  | .nil => 1
  | .ptr d => uptoBulk d + 1
  | .slice elems spare => uptoBulkAll elems + uptoBulkAll spare + 1
  | .agg parts => uptoBulkAll parts + 1
  | .iface _ d => uptoBulk d + 1
  | .map entries => uptoBulkEntries entries + 1
  | .held _ => 1
def uptoBulkAll {H : Type} : List (DataW H) → Nat
  | [] => 0
  | d :: r => uptoBulk d + uptoBulkAll r
def uptoBulkEntries {H : Type} : List (Lit × DataW H) → Nat
  | [] => 0
  | x :: r => uptoBulkEntry x + uptoBulkEntries r
def uptoBulkEntry {H : Type} : Lit × DataW H → Nat
  | (.string bytes, d) => bytes.length + uptoBulk d + 1
  | (_, d) => uptoBulk d + 1
 end
def uptoSmall : (H : Type) → List (DataW H) → Bool := fun _ ds => decide (uptoBulkAll ds ≤ 1048576)
def OpenSpec.upto (s : _root_.Go.ChangeSpec) : _root_.Go.OpenSpec := { _root_.Go.OpenSpec.ofChange s with cond := some uptoSmall }

/-- 'threadbarelaw15.VarsSplits', WHERE WHAT IT READS IS OF BULK AT MOST 1048576: true; the input reads as it did. -/
def varsSplitsUptoRow : OpenClaim := { program := "ytcaifihdbcjakaa", sum := "229b60db1ba5c75ca79d91d9aae2698f081c11736bbd40408d5f0f450b33d53e", func := "threadbare/threadbarelaw15.VarsSplits", spec := "varsSplits", inPlace := ["internal/bytealg.IndexByteString"], apart := false, narrowed := true }
def VarsSplitsUptoSaid : Prop := varsSplitsUptoRow.holds Try.pinned (OpenSpec.upto varsSplitsSpec)

/-- 'threadbarelaw15.VarsKept', WHERE WHAT IT READS IS OF BULK AT MOST 1048576: true; the input reads as it did. -/
def varsKeptUptoRow : OpenClaim := { program := "ytcaifihdbcjakaa", sum := "229b60db1ba5c75ca79d91d9aae2698f081c11736bbd40408d5f0f450b33d53e", func := "threadbare/threadbarelaw15.VarsKept", spec := "varsKept", inPlace := ["internal/bytealg.IndexByteString"], apart := false, narrowed := true }
def VarsKeptUptoSaid : Prop := varsKeptUptoRow.holds Try.pinned (OpenSpec.upto varsKeptSpec)

/-- 'threadbarelaw15.VarsLinks', WHERE WHAT IT READS IS OF BULK AT MOST 1048576: true; the input reads as it did. -/
def varsLinksUptoRow : OpenClaim := { program := "ytcaifihdbcjakaa", sum := "229b60db1ba5c75ca79d91d9aae2698f081c11736bbd40408d5f0f450b33d53e", func := "threadbare/threadbarelaw15.VarsLinks", spec := "varsLinks", inPlace := ["internal/bytealg.IndexByteString"], apart := false, narrowed := true }
def VarsLinksUptoSaid : Prop := varsLinksUptoRow.holds Try.pinned (OpenSpec.upto varsLinksSpec)

end Rows
end Go.Proofs.Ytcaifihdbcjakaa
