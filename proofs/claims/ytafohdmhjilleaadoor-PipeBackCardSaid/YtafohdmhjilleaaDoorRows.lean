/-
  NARROWER THAN 'FOR EVERY INPUT', by the rows' own cells (each row's printed sentence says how): PipeGoes: laid · PipeCuts: laid · PipeTranslates: laid · PipeCarries: laid · PipeLines: laid · PipeBack: laid.
  DERIVED. THE GIVEN ROWS OF THIS SEAT. 6 by the template 'for every input the law returns true; each argument reads behind the call as it read before'; 0 by the template 'total and deterministic' (their statements: YtafohdmhjilleaaDoorTotals.lean).
  GIVEN WITH THE SEED: the statements are not yours to turn. If you find one false, say at which input.
  Laid BY PROGRAM, IN A SANDBOX (cutbox-rows.mjs): the forced cells as the released guide's own fill.sh prints them over the translation 615b4c4d8cdb6da3… (all of the seat's roots in one cut). By AI agents, Wed Nov 11 2026. No macro, syntax, notation, axiom, sorry.
-/
import Derived.Test.YtafohdmhjilleaaDoorChecked
import GoSem.PinnedTables
import GoSem.Claim
import GoSem.ClaimJoined
import GoSem.ClaimMapViews
import Derived.JoinedTies
import Derived.KernelRfl
namespace Go.Proofs.YtafohdmhjilleaaDoor
/- THE CELL 'sum', in the pinned program and in every row, IS THE sha256 OF THE DUMP (.gsa) THAT YtafohdmhjilleaaDoorProg.lean LOADS. Nothing in Lean hashes anything: it is a label: what it is worth is what the hold of that sum in a sandbox is worth. -/
noncomputable def Tryd.pinned : Pinned := { name := "ytafohdmhjilleaadoor", sum := "615b4c4d8cdb6da3bdb1f5b7e37c3a0a08c3de2e5044b6d0356a2aea498ea5f5", checked := Tryd.checked }
namespace Rows
def none {H : Type} : Left H := { results := [], args := [] }

/- WHAT THE LISTED PACKAGE-LEVEL VARIABLES READ AS WHEN THE CALL BEGINS. Each datum BY PROGRAM (the guide's laid-datum.mjs) off the statement by which the dump's own 'gosem.cut.vars' lays the variable. In a bare row this is a premise. The card (YtafohdmhjilleaaDoorCards.lean) ties it to the program's text. -/
def laid_unicode_utf8_acceptRanges {H : Type} : DataW H := .agg [.agg [.lit (.int .u8 128), .lit (.int .u8 191)], .agg [.lit (.int .u8 160), .lit (.int .u8 191)], .agg [.lit (.int .u8 128), .lit (.int .u8 159)], .agg [.lit (.int .u8 144), .lit (.int .u8 191)], .agg [.lit (.int .u8 128), .lit (.int .u8 143)], .agg [.lit (.int .u8 0), .lit (.int .u8 0)], .agg [.lit (.int .u8 0), .lit (.int .u8 0)], .agg [.lit (.int .u8 0), .lit (.int .u8 0)], .agg [.lit (.int .u8 0), .lit (.int .u8 0)], .agg [.lit (.int .u8 0), .lit (.int .u8 0)], .agg [.lit (.int .u8 0), .lit (.int .u8 0)], .agg [.lit (.int .u8 0), .lit (.int .u8 0)], .agg [.lit (.int .u8 0), .lit (.int .u8 0)], .agg [.lit (.int .u8 0), .lit (.int .u8 0)], .agg [.lit (.int .u8 0), .lit (.int .u8 0)], .agg [.lit (.int .u8 0), .lit (.int .u8 0)]]
/-- One of Go's own tables, pinned by name: the form's constant. -/
def laid_unicode_utf8_first : DataW Unit := Go.Pinned.utf8First

/-- 'threadbarelaw12.PipeGoes': WHATEVER THE INPUT: true; the input reads as it did. -/
def pipeGoesSpec : ChangeSpec := { name := "pipeGoes", fn := fun _ => fun
  | [d1, d2, d3, d4, d5] => { results := [.lit (.bool true)], args := [d1, d2, d3, d4, d5] }
  | _ => none }
def pipeGoesRow : OpenClaim := { program := "ytafohdmhjilleaadoor", sum := "615b4c4d8cdb6da3bdb1f5b7e37c3a0a08c3de2e5044b6d0356a2aea498ea5f5", func := "threadbare/threadbarelaw12.PipeGoes", spec := "pipeGoes", inPlace := ["internal/abi.NoEscape", "internal/bytealg.CountString", "internal/bytealg.IndexByteString", "internal/bytealg.IndexString", "internal/bytealg.MakeNoZero"], unfollowed := true, recurses := true, named := ["internal/bytealg.MaxLen", "unicode/utf8.first", "unicode/utf8.acceptRanges"], apart := false, laid := [("unicode/utf8.acceptRanges", laid_unicode_utf8_acceptRanges), ("unicode/utf8.first", laid_unicode_utf8_first)] }
def PipeGoesSaid : Prop := pipeGoesRow.holds Tryd.pinned (OpenSpec.ofChange pipeGoesSpec)

/-- ITS FALSE NEIGHBOUR: 'it returns false'. Refute it at one input. -/
def pipeGoesWrong : ChangeSpec := { name := "pipeGoes", fn := fun _ => fun
  | [d1, d2, d3, d4, d5] => { results := [.lit (.bool false)], args := [d1, d2, d3, d4, d5] }
  | _ => none }
def PipeGoesWrongFalsely : Prop := pipeGoesRow.holds Tryd.pinned (OpenSpec.ofChange pipeGoesWrong)

/-- 'threadbarelaw12.PipeCuts': WHATEVER THE INPUT: true; the input reads as it did. -/
def pipeCutsSpec : ChangeSpec := { name := "pipeCuts", fn := fun _ => fun
  | [d1, d2, d3, d4] => { results := [.lit (.bool true)], args := [d1, d2, d3, d4] }
  | _ => none }
def pipeCutsRow : OpenClaim := { program := "ytafohdmhjilleaadoor", sum := "615b4c4d8cdb6da3bdb1f5b7e37c3a0a08c3de2e5044b6d0356a2aea498ea5f5", func := "threadbare/threadbarelaw12.PipeCuts", spec := "pipeCuts", inPlace := ["internal/abi.NoEscape", "internal/bytealg.CountString", "internal/bytealg.IndexByteString", "internal/bytealg.IndexString", "internal/bytealg.MakeNoZero"], unfollowed := true, recurses := true, named := ["internal/bytealg.MaxLen", "unicode/utf8.first", "unicode/utf8.acceptRanges"], apart := false, laid := [("unicode/utf8.acceptRanges", laid_unicode_utf8_acceptRanges), ("unicode/utf8.first", laid_unicode_utf8_first)] }
def PipeCutsSaid : Prop := pipeCutsRow.holds Tryd.pinned (OpenSpec.ofChange pipeCutsSpec)

/-- ITS FALSE NEIGHBOUR: 'it returns false'. Refute it at one input. -/
def pipeCutsWrong : ChangeSpec := { name := "pipeCuts", fn := fun _ => fun
  | [d1, d2, d3, d4] => { results := [.lit (.bool false)], args := [d1, d2, d3, d4] }
  | _ => none }
def PipeCutsWrongFalsely : Prop := pipeCutsRow.holds Tryd.pinned (OpenSpec.ofChange pipeCutsWrong)

/-- 'threadbarelaw12.PipeTranslates': WHATEVER THE INPUT: true; the input reads as it did. -/
def pipeTranslatesSpec : ChangeSpec := { name := "pipeTranslates", fn := fun _ => fun
  | [d1, d2, d3] => { results := [.lit (.bool true)], args := [d1, d2, d3] }
  | _ => none }
def pipeTranslatesRow : OpenClaim := { program := "ytafohdmhjilleaadoor", sum := "615b4c4d8cdb6da3bdb1f5b7e37c3a0a08c3de2e5044b6d0356a2aea498ea5f5", func := "threadbare/threadbarelaw12.PipeTranslates", spec := "pipeTranslates", inPlace := ["internal/abi.NoEscape", "internal/bytealg.CountString", "internal/bytealg.IndexByteString", "internal/bytealg.IndexString", "internal/bytealg.MakeNoZero"], unfollowed := true, recurses := true, named := ["internal/bytealg.MaxLen", "unicode/utf8.first", "unicode/utf8.acceptRanges"], apart := false, laid := [("unicode/utf8.acceptRanges", laid_unicode_utf8_acceptRanges), ("unicode/utf8.first", laid_unicode_utf8_first)] }
def PipeTranslatesSaid : Prop := pipeTranslatesRow.holds Tryd.pinned (OpenSpec.ofChange pipeTranslatesSpec)

/-- ITS FALSE NEIGHBOUR: 'it returns false'. Refute it at one input. -/
def pipeTranslatesWrong : ChangeSpec := { name := "pipeTranslates", fn := fun _ => fun
  | [d1, d2, d3] => { results := [.lit (.bool false)], args := [d1, d2, d3] }
  | _ => none }
def PipeTranslatesWrongFalsely : Prop := pipeTranslatesRow.holds Tryd.pinned (OpenSpec.ofChange pipeTranslatesWrong)

/-- 'threadbarelaw12.PipeCarries': WHATEVER THE INPUT: true; the input reads as it did. -/
def pipeCarriesSpec : ChangeSpec := { name := "pipeCarries", fn := fun _ => fun
  | [d1, d2, d3] => { results := [.lit (.bool true)], args := [d1, d2, d3] }
  | _ => none }
def pipeCarriesRow : OpenClaim := { program := "ytafohdmhjilleaadoor", sum := "615b4c4d8cdb6da3bdb1f5b7e37c3a0a08c3de2e5044b6d0356a2aea498ea5f5", func := "threadbare/threadbarelaw12.PipeCarries", spec := "pipeCarries", inPlace := ["internal/abi.NoEscape", "internal/bytealg.CountString", "internal/bytealg.IndexByteString", "internal/bytealg.IndexString", "internal/bytealg.MakeNoZero"], unfollowed := true, recurses := true, named := ["internal/bytealg.MaxLen", "unicode/utf8.first", "unicode/utf8.acceptRanges"], apart := false, laid := [("unicode/utf8.acceptRanges", laid_unicode_utf8_acceptRanges), ("unicode/utf8.first", laid_unicode_utf8_first)] }
def PipeCarriesSaid : Prop := pipeCarriesRow.holds Tryd.pinned (OpenSpec.ofChange pipeCarriesSpec)

/-- ITS FALSE NEIGHBOUR: 'it returns false'. Refute it at one input. -/
def pipeCarriesWrong : ChangeSpec := { name := "pipeCarries", fn := fun _ => fun
  | [d1, d2, d3] => { results := [.lit (.bool false)], args := [d1, d2, d3] }
  | _ => none }
def PipeCarriesWrongFalsely : Prop := pipeCarriesRow.holds Tryd.pinned (OpenSpec.ofChange pipeCarriesWrong)

/-- 'threadbarelaw12.PipeLines': WHATEVER THE INPUT: true; the input reads as it did. -/
def pipeLinesSpec : ChangeSpec := { name := "pipeLines", fn := fun _ => fun
  | [d1, d2] => { results := [.lit (.bool true)], args := [d1, d2] }
  | _ => none }
def pipeLinesRow : OpenClaim := { program := "ytafohdmhjilleaadoor", sum := "615b4c4d8cdb6da3bdb1f5b7e37c3a0a08c3de2e5044b6d0356a2aea498ea5f5", func := "threadbare/threadbarelaw12.PipeLines", spec := "pipeLines", inPlace := ["internal/abi.NoEscape", "internal/bytealg.CountString", "internal/bytealg.IndexByteString", "internal/bytealg.IndexString", "internal/bytealg.MakeNoZero"], unfollowed := true, recurses := true, named := ["internal/bytealg.MaxLen", "unicode/utf8.first", "unicode/utf8.acceptRanges"], apart := false, laid := [("unicode/utf8.acceptRanges", laid_unicode_utf8_acceptRanges), ("unicode/utf8.first", laid_unicode_utf8_first)] }
def PipeLinesSaid : Prop := pipeLinesRow.holds Tryd.pinned (OpenSpec.ofChange pipeLinesSpec)

/-- ITS FALSE NEIGHBOUR: 'it returns false'. Refute it at one input. -/
def pipeLinesWrong : ChangeSpec := { name := "pipeLines", fn := fun _ => fun
  | [d1, d2] => { results := [.lit (.bool false)], args := [d1, d2] }
  | _ => none }
def PipeLinesWrongFalsely : Prop := pipeLinesRow.holds Tryd.pinned (OpenSpec.ofChange pipeLinesWrong)

/-- 'threadbarelaw12.PipeBack': WHATEVER THE INPUT: true; the input reads as it did. -/
def pipeBackSpec : ChangeSpec := { name := "pipeBack", fn := fun _ => fun
  | [d1, d2, d3] => { results := [.lit (.bool true)], args := [d1, d2, d3] }
  | _ => none }
def pipeBackRow : OpenClaim := { program := "ytafohdmhjilleaadoor", sum := "615b4c4d8cdb6da3bdb1f5b7e37c3a0a08c3de2e5044b6d0356a2aea498ea5f5", func := "threadbare/threadbarelaw12.PipeBack", spec := "pipeBack", inPlace := ["internal/bytealg.IndexByteString", "internal/bytealg.IndexString", "internal/abi.NoEscape", "internal/bytealg.CountString", "internal/bytealg.MakeNoZero"], unfollowed := true, recurses := true, named := ["internal/bytealg.MaxLen", "unicode/utf8.first", "unicode/utf8.acceptRanges"], apart := false, laid := [("unicode/utf8.acceptRanges", laid_unicode_utf8_acceptRanges), ("unicode/utf8.first", laid_unicode_utf8_first)] }
def PipeBackSaid : Prop := pipeBackRow.holds Tryd.pinned (OpenSpec.ofChange pipeBackSpec)

/-- ITS FALSE NEIGHBOUR: 'it returns false'. Refute it at one input. -/
def pipeBackWrong : ChangeSpec := { name := "pipeBack", fn := fun _ => fun
  | [d1, d2, d3] => { results := [.lit (.bool false)], args := [d1, d2, d3] }
  | _ => none }
def PipeBackWrongFalsely : Prop := pipeBackRow.holds Tryd.pinned (OpenSpec.ofChange pipeBackWrong)

/- THE SECOND FORM. 'bulk': how many values and letters a reading holds, each counted each time it is reached (what is shared counts as often as it is met; a slice's spare places count too). A statement '..UptoSaid' is the law's where the arguments, and the package variables that the reading takes, are together of bulk at most 1048576: NARROWER than '..Said'. Prove '..Said' where nothing that the law and all that it calls make is longer than what came in: it says more and counts as full. Else prove '..UptoSaid'. A law counts once. -/
mutual
def uptoBulk {H : Type} : DataW H → Nat
  | .lit (.string bytes) => bytes.length + 1
  | .lit _ => 1
  | .nil => 1
  | .ptr d => uptoBulk d + 1
  | .slice elems spare => uptoBulkAll elems + uptoBulkAll spare + 1
  | .agg parts => uptoBulkAll parts + 1
  | .iface _ d => uptoBulk d + 1
  | .map entries => uptoBulkEntries entries + 1
  | .held _ => 1
def uptoBulkAll {H : Type} : List (DataW H) → Nat
  | [] => 0
  | d :: r => uptoBulk d + uptoBulkAll r
def uptoBulkEntries {H : Type} : List (Lit × DataW H) → Nat
  | [] => 0
  | x :: r => uptoBulkEntry x + uptoBulkEntries r
def uptoBulkEntry {H : Type} : Lit × DataW H → Nat
  | (.string bytes, d) => bytes.length + uptoBulk d + 1
  | (_, d) => uptoBulk d + 1
 end
def uptoSmall : (H : Type) → List (DataW H) → Bool := fun _ ds => decide (uptoBulkAll ds ≤ 1048576)
def OpenSpec.upto (s : _root_.Go.ChangeSpec) : _root_.Go.OpenSpec := { _root_.Go.OpenSpec.ofChange s with cond := some uptoSmall }

/-- 'threadbarelaw12.PipeGoes', WHERE WHAT IT READS IS OF BULK AT MOST 1048576: true; the input reads as it did. -/
def pipeGoesUptoRow : OpenClaim := { program := "ytafohdmhjilleaadoor", sum := "615b4c4d8cdb6da3bdb1f5b7e37c3a0a08c3de2e5044b6d0356a2aea498ea5f5", func := "threadbare/threadbarelaw12.PipeGoes", spec := "pipeGoes", inPlace := ["internal/abi.NoEscape", "internal/bytealg.CountString", "internal/bytealg.IndexByteString", "internal/bytealg.IndexString", "internal/bytealg.MakeNoZero"], unfollowed := true, recurses := true, named := ["internal/bytealg.MaxLen", "unicode/utf8.first", "unicode/utf8.acceptRanges"], apart := false, laid := [("unicode/utf8.acceptRanges", laid_unicode_utf8_acceptRanges), ("unicode/utf8.first", laid_unicode_utf8_first)], narrowed := true }
def PipeGoesUptoSaid : Prop := pipeGoesUptoRow.holds Tryd.pinned (OpenSpec.upto pipeGoesSpec)

/-- 'threadbarelaw12.PipeCuts', WHERE WHAT IT READS IS OF BULK AT MOST 1048576: true; the input reads as it did. -/
def pipeCutsUptoRow : OpenClaim := { program := "ytafohdmhjilleaadoor", sum := "615b4c4d8cdb6da3bdb1f5b7e37c3a0a08c3de2e5044b6d0356a2aea498ea5f5", func := "threadbare/threadbarelaw12.PipeCuts", spec := "pipeCuts", inPlace := ["internal/abi.NoEscape", "internal/bytealg.CountString", "internal/bytealg.IndexByteString", "internal/bytealg.IndexString", "internal/bytealg.MakeNoZero"], unfollowed := true, recurses := true, named := ["internal/bytealg.MaxLen", "unicode/utf8.first", "unicode/utf8.acceptRanges"], apart := false, laid := [("unicode/utf8.acceptRanges", laid_unicode_utf8_acceptRanges), ("unicode/utf8.first", laid_unicode_utf8_first)], narrowed := true }
def PipeCutsUptoSaid : Prop := pipeCutsUptoRow.holds Tryd.pinned (OpenSpec.upto pipeCutsSpec)

/-- 'threadbarelaw12.PipeTranslates', WHERE WHAT IT READS IS OF BULK AT MOST 1048576: true; the input reads as it did. -/
def pipeTranslatesUptoRow : OpenClaim := { program := "ytafohdmhjilleaadoor", sum := "615b4c4d8cdb6da3bdb1f5b7e37c3a0a08c3de2e5044b6d0356a2aea498ea5f5", func := "threadbare/threadbarelaw12.PipeTranslates", spec := "pipeTranslates", inPlace := ["internal/abi.NoEscape", "internal/bytealg.CountString", "internal/bytealg.IndexByteString", "internal/bytealg.IndexString", "internal/bytealg.MakeNoZero"], unfollowed := true, recurses := true, named := ["internal/bytealg.MaxLen", "unicode/utf8.first", "unicode/utf8.acceptRanges"], apart := false, laid := [("unicode/utf8.acceptRanges", laid_unicode_utf8_acceptRanges), ("unicode/utf8.first", laid_unicode_utf8_first)], narrowed := true }
def PipeTranslatesUptoSaid : Prop := pipeTranslatesUptoRow.holds Tryd.pinned (OpenSpec.upto pipeTranslatesSpec)

/-- 'threadbarelaw12.PipeCarries', WHERE WHAT IT READS IS OF BULK AT MOST 1048576: true; the input reads as it did. -/
def pipeCarriesUptoRow : OpenClaim := { program := "ytafohdmhjilleaadoor", sum := "615b4c4d8cdb6da3bdb1f5b7e37c3a0a08c3de2e5044b6d0356a2aea498ea5f5", func := "threadbare/threadbarelaw12.PipeCarries", spec := "pipeCarries", inPlace := ["internal/abi.NoEscape", "internal/bytealg.CountString", "internal/bytealg.IndexByteString", "internal/bytealg.IndexString", "internal/bytealg.MakeNoZero"], unfollowed := true, recurses := true, named := ["internal/bytealg.MaxLen", "unicode/utf8.first", "unicode/utf8.acceptRanges"], apart := false, laid := [("unicode/utf8.acceptRanges", laid_unicode_utf8_acceptRanges), ("unicode/utf8.first", laid_unicode_utf8_first)], narrowed := true }
def PipeCarriesUptoSaid : Prop := pipeCarriesUptoRow.holds Tryd.pinned (OpenSpec.upto pipeCarriesSpec)

/-- 'threadbarelaw12.PipeLines', WHERE WHAT IT READS IS OF BULK AT MOST 1048576: true; the input reads as it did. -/
def pipeLinesUptoRow : OpenClaim := { program := "ytafohdmhjilleaadoor", sum := "615b4c4d8cdb6da3bdb1f5b7e37c3a0a08c3de2e5044b6d0356a2aea498ea5f5", func := "threadbare/threadbarelaw12.PipeLines", spec := "pipeLines", inPlace := ["internal/abi.NoEscape", "internal/bytealg.CountString", "internal/bytealg.IndexByteString", "internal/bytealg.IndexString", "internal/bytealg.MakeNoZero"], unfollowed := true, recurses := true, named := ["internal/bytealg.MaxLen", "unicode/utf8.first", "unicode/utf8.acceptRanges"], apart := false, laid := [("unicode/utf8.acceptRanges", laid_unicode_utf8_acceptRanges), ("unicode/utf8.first", laid_unicode_utf8_first)], narrowed := true }
def PipeLinesUptoSaid : Prop := pipeLinesUptoRow.holds Tryd.pinned (OpenSpec.upto pipeLinesSpec)

/-- 'threadbarelaw12.PipeBack', WHERE WHAT IT READS IS OF BULK AT MOST 1048576: true; the input reads as it did. -/
def pipeBackUptoRow : OpenClaim := { program := "ytafohdmhjilleaadoor", sum := "615b4c4d8cdb6da3bdb1f5b7e37c3a0a08c3de2e5044b6d0356a2aea498ea5f5", func := "threadbare/threadbarelaw12.PipeBack", spec := "pipeBack", inPlace := ["internal/bytealg.IndexByteString", "internal/bytealg.IndexString", "internal/abi.NoEscape", "internal/bytealg.CountString", "internal/bytealg.MakeNoZero"], unfollowed := true, recurses := true, named := ["internal/bytealg.MaxLen", "unicode/utf8.first", "unicode/utf8.acceptRanges"], apart := false, laid := [("unicode/utf8.acceptRanges", laid_unicode_utf8_acceptRanges), ("unicode/utf8.first", laid_unicode_utf8_first)], narrowed := true }
def PipeBackUptoSaid : Prop := pipeBackUptoRow.holds Tryd.pinned (OpenSpec.upto pipeBackSpec)

end Rows
end Go.Proofs.YtafohdmhjilleaaDoor
