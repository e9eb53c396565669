/-
  No cell of these rows narrows 'for every input' (looked for: loops, veiled, ifaces, maps, wideKeys, modest, calm, conditions, laid).
  DERIVED. THE GIVEN ROWS OF THIS SEAT. 4 by the template 'for every input the law returns true; each argument reads behind the call as it read before'; 0 by the template 'total and deterministic' (their statements: YtpaffocniniakaaTotals.lean).
  GIVEN WITH THE SEED: the statements are not yours to turn. If you find one false, say at which input.
  Laid BY PROGRAM, IN A SANDBOX (cutbox-rows.mjs): the forced cells as the released guide's own fill.sh prints them over the translation 79f287362290ba1d… (all of the seat's roots in one cut). By AI agents, Wed Nov 11 2026. No macro, syntax, notation, axiom, sorry.
-/
import Derived.Test.YtpaffocniniakaaChecked
import GoSem.Claim
import GoSem.ClaimJoined
import GoSem.ClaimMapViews
import Derived.JoinedTies
import Derived.KernelRfl
namespace Go.Proofs.Ytpaffocniniakaa
/- THE CELL 'sum', in the pinned program and in every row, IS THE sha256 OF THE DUMP (.gsa) THAT YtpaffocniniakaaProg.lean LOADS. Nothing in Lean hashes anything: it is a label: what it is worth is what the hold of that sum in a sandbox is worth. -/
noncomputable def Try.pinned : Pinned := { name := "ytpaffocniniakaa", sum := "79f287362290ba1d491bb361a5e7cac2a410bab753aa81699eaa3aa0f0412f23", checked := Try.checked }
namespace Rows
def none {H : Type} : Left H := { results := [], args := [] }

/-- 'threadbarelaw04.DictAlike': WHATEVER THE INPUT: true; the input reads as it did. -/
def dictAlikeSpec : ChangeSpec := { name := "dictAlike", fn := fun _ => fun
  | [d1, d2, d3] => { results := [.lit (.bool true)], args := [d1, d2, d3] }
  | _ => none }
def dictAlikeRow : OpenClaim := { program := "ytpaffocniniakaa", sum := "79f287362290ba1d491bb361a5e7cac2a410bab753aa81699eaa3aa0f0412f23", func := "threadbare/threadbarelaw04.DictAlike", spec := "dictAlike", inPlace := ["internal/bytealg.IndexByteString", "internal/abi.NoEscape", "internal/bytealg.IndexString"], unfollowed := true, recurses := true, named := ["internal/bytealg.MaxLen"], apart := false }
def DictAlikeSaid : Prop := dictAlikeRow.holds Try.pinned (OpenSpec.ofChange dictAlikeSpec)

/-- ITS FALSE NEIGHBOUR: 'it returns false'. Refute it at one input. -/
def dictAlikeWrong : ChangeSpec := { name := "dictAlike", fn := fun _ => fun
  | [d1, d2, d3] => { results := [.lit (.bool false)], args := [d1, d2, d3] }
  | _ => none }
def DictAlikeWrongFalsely : Prop := dictAlikeRow.holds Try.pinned (OpenSpec.ofChange dictAlikeWrong)

/-- 'threadbarelaw04.DictMerges': WHATEVER THE INPUT: true; the input reads as it did. -/
def dictMergesSpec : ChangeSpec := { name := "dictMerges", fn := fun _ => fun
  | [d] => { results := [.lit (.bool true)], args := [d] }
  | _ => none }
def dictMergesRow : OpenClaim := { program := "ytpaffocniniakaa", sum := "79f287362290ba1d491bb361a5e7cac2a410bab753aa81699eaa3aa0f0412f23", func := "threadbare/threadbarelaw04.DictMerges", spec := "dictMerges", inPlace := ["internal/bytealg.IndexByteString", "internal/abi.NoEscape", "internal/bytealg.IndexString"], unfollowed := true, recurses := true, named := ["internal/bytealg.MaxLen"], apart := false }
def DictMergesSaid : Prop := dictMergesRow.holds Try.pinned (OpenSpec.ofChange dictMergesSpec)

/-- ITS FALSE NEIGHBOUR: 'it returns false'. Refute it at one input. -/
def dictMergesWrong : ChangeSpec := { name := "dictMerges", fn := fun _ => fun
  | [d] => { results := [.lit (.bool false)], args := [d] }
  | _ => none }
def DictMergesWrongFalsely : Prop := dictMergesRow.holds Try.pinned (OpenSpec.ofChange dictMergesWrong)

/-- 'threadbarelaw04.DictSets': WHATEVER THE INPUT: true; the input reads as it did. -/
def dictSetsSpec : ChangeSpec := { name := "dictSets", fn := fun _ => fun
  | [d1, d2, d3] => { results := [.lit (.bool true)], args := [d1, d2, d3] }
  | _ => none }
def dictSetsRow : OpenClaim := { program := "ytpaffocniniakaa", sum := "79f287362290ba1d491bb361a5e7cac2a410bab753aa81699eaa3aa0f0412f23", func := "threadbare/threadbarelaw04.DictSets", spec := "dictSets", inPlace := ["internal/bytealg.IndexByteString", "internal/abi.NoEscape", "internal/bytealg.IndexString"], unfollowed := true, recurses := true, named := ["internal/bytealg.MaxLen"], apart := false }
def DictSetsSaid : Prop := dictSetsRow.holds Try.pinned (OpenSpec.ofChange dictSetsSpec)

/-- ITS FALSE NEIGHBOUR: 'it returns false'. Refute it at one input. -/
def dictSetsWrong : ChangeSpec := { name := "dictSets", fn := fun _ => fun
  | [d1, d2, d3] => { results := [.lit (.bool false)], args := [d1, d2, d3] }
  | _ => none }
def DictSetsWrongFalsely : Prop := dictSetsRow.holds Try.pinned (OpenSpec.ofChange dictSetsWrong)

/-- 'threadbarelaw04.DictPaths': WHATEVER THE INPUT: true; the input reads as it did. -/
def dictPathsSpec : ChangeSpec := { name := "dictPaths", fn := fun _ => fun
  | [d1, d2, d3] => { results := [.lit (.bool true)], args := [d1, d2, d3] }
  | _ => none }
def dictPathsRow : OpenClaim := { program := "ytpaffocniniakaa", sum := "79f287362290ba1d491bb361a5e7cac2a410bab753aa81699eaa3aa0f0412f23", func := "threadbare/threadbarelaw04.DictPaths", spec := "dictPaths", inPlace := ["internal/bytealg.IndexByteString", "internal/abi.NoEscape", "internal/bytealg.IndexString"], unfollowed := true, recurses := true, named := ["internal/bytealg.MaxLen"], apart := false }
def DictPathsSaid : Prop := dictPathsRow.holds Try.pinned (OpenSpec.ofChange dictPathsSpec)

/-- ITS FALSE NEIGHBOUR: 'it returns false'. Refute it at one input. -/
def dictPathsWrong : ChangeSpec := { name := "dictPaths", fn := fun _ => fun
  | [d1, d2, d3] => { results := [.lit (.bool false)], args := [d1, d2, d3] }
  | _ => none }
def DictPathsWrongFalsely : Prop := dictPathsRow.holds Try.pinned (OpenSpec.ofChange dictPathsWrong)

/- THE SECOND FORM. 'bulk': how many values and letters a reading holds, each counted each time it is reached (what is shared counts as often as it is met; a slice's spare places count too). A statement '..UptoSaid' is the law's where the arguments, and the package variables that the reading takes, are together of bulk at most 1048576: NARROWER than '..Said'. Prove '..Said' where nothing that the law and all that it calls make is longer than what came in: it says more and counts as full. Else prove '..UptoSaid'. A law counts once. -/
mutual
def uptoBulk {H : Type} : DataW H → Nat
  | .lit (.string bytes) => bytes.length + 1
  | .lit _ => 1
  | .nil => 1
  | .ptr d => uptoBulk d + 1
  | .slice elems spare => uptoBulkAll elems + uptoBulkAll spare + 1
  | .agg parts => uptoBulkAll parts + 1
  | .iface _ d => uptoBulk d + 1
  | .map entries => uptoBulkEntries entries + 1
  | .held _ => 1
def uptoBulkAll {H : Type} : List (DataW H) → Nat
  | [] => 0
  | d :: r => uptoBulk d + uptoBulkAll r
def uptoBulkEntries {H : Type} : List (Lit × DataW H) → Nat
  | [] => 0
  | x :: r => uptoBulkEntry x + uptoBulkEntries r
def uptoBulkEntry {H : Type} : Lit × DataW H → Nat
  | (.string bytes, d) => bytes.length + uptoBulk d + 1
  | (_, d) => uptoBulk d + 1
 end
def uptoSmall : (H : Type) → List (DataW H) → Bool := fun _ ds => decide (uptoBulkAll ds ≤ 1048576)
def OpenSpec.upto (s : _root_.Go.ChangeSpec) : _root_.Go.OpenSpec := { _root_.Go.OpenSpec.ofChange s with cond := some uptoSmall }

/-- 'threadbarelaw04.DictAlike', WHERE WHAT IT READS IS OF BULK AT MOST 1048576: true; the input reads as it did. -/
def dictAlikeUptoRow : OpenClaim := { program := "ytpaffocniniakaa", sum := "79f287362290ba1d491bb361a5e7cac2a410bab753aa81699eaa3aa0f0412f23", func := "threadbare/threadbarelaw04.DictAlike", spec := "dictAlike", inPlace := ["internal/bytealg.IndexByteString", "internal/abi.NoEscape", "internal/bytealg.IndexString"], unfollowed := true, recurses := true, named := ["internal/bytealg.MaxLen"], apart := false, narrowed := true }
def DictAlikeUptoSaid : Prop := dictAlikeUptoRow.holds Try.pinned (OpenSpec.upto dictAlikeSpec)

/-- 'threadbarelaw04.DictMerges', WHERE WHAT IT READS IS OF BULK AT MOST 1048576: true; the input reads as it did. -/
def dictMergesUptoRow : OpenClaim := { program := "ytpaffocniniakaa", sum := "79f287362290ba1d491bb361a5e7cac2a410bab753aa81699eaa3aa0f0412f23", func := "threadbare/threadbarelaw04.DictMerges", spec := "dictMerges", inPlace := ["internal/bytealg.IndexByteString", "internal/abi.NoEscape", "internal/bytealg.IndexString"], unfollowed := true, recurses := true, named := ["internal/bytealg.MaxLen"], apart := false, narrowed := true }
def DictMergesUptoSaid : Prop := dictMergesUptoRow.holds Try.pinned (OpenSpec.upto dictMergesSpec)

/-- 'threadbarelaw04.DictSets', WHERE WHAT IT READS IS OF BULK AT MOST 1048576: true; the input reads as it did. -/
def dictSetsUptoRow : OpenClaim := { program := "ytpaffocniniakaa", sum := "79f287362290ba1d491bb361a5e7cac2a410bab753aa81699eaa3aa0f0412f23", func := "threadbare/threadbarelaw04.DictSets", spec := "dictSets", inPlace := ["internal/bytealg.IndexByteString", "internal/abi.NoEscape", "internal/bytealg.IndexString"], unfollowed := true, recurses := true, named := ["internal/bytealg.MaxLen"], apart := false, narrowed := true }
def DictSetsUptoSaid : Prop := dictSetsUptoRow.holds Try.pinned (OpenSpec.upto dictSetsSpec)

/-- 'threadbarelaw04.DictPaths', WHERE WHAT IT READS IS OF BULK AT MOST 1048576: true; the input reads as it did. -/
def dictPathsUptoRow : OpenClaim := { program := "ytpaffocniniakaa", sum := "79f287362290ba1d491bb361a5e7cac2a410bab753aa81699eaa3aa0f0412f23", func := "threadbare/threadbarelaw04.DictPaths", spec := "dictPaths", inPlace := ["internal/bytealg.IndexByteString", "internal/abi.NoEscape", "internal/bytealg.IndexString"], unfollowed := true, recurses := true, named := ["internal/bytealg.MaxLen"], apart := false, narrowed := true }
def DictPathsUptoSaid : Prop := dictPathsUptoRow.holds Try.pinned (OpenSpec.upto dictPathsSpec)

end Rows
end Go.Proofs.Ytpaffocniniakaa
