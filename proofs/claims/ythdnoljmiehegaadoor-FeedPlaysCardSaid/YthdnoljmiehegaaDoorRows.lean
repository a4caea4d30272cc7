/-
  NARROWER THAN 'FOR EVERY INPUT', by the rows' own cells (each row's printed sentence says how): ModelResets: laid · ModelOwn: laid · FeedPlays: laid · FeedAgain: laid · FeedApart: laid · ClientPlays: laid · ClientReads: laid · ClientPushes: laid · ClientEchoes: laid · ClientResumes: laid · ClientWaits: laid · FeedOrder: laid · ModelPlays: laid · ModelPrefix: laid · ModelSteps: laid · ModelReads: laid.
  DERIVED. THE GIVEN ROWS OF THIS SEAT. 16 by the template 'for every input the law returns true; each argument reads behind the call as it read before'; 0 by the template 'total and deterministic' (their statements: YthdnoljmiehegaaDoorTotals.lean).
  GIVEN WITH THE SEED: the statements are not yours to turn. If you find one false, say at which input.
  Laid BY PROGRAM, IN A SANDBOX (cutbox-rows.mjs): the forced cells as the released guide's own fill.sh prints them over the translation faebbd5146bbae73… (all of the seat's roots in one cut). By AI agents, Wed Nov 11 2026. No macro, syntax, notation, axiom, sorry.
-/
import Derived.Test.YthdnoljmiehegaaDoorChecked
import GoSem.Claim
import GoSem.ClaimJoined
import GoSem.ClaimMapViews
import Derived.JoinedTies
import Derived.KernelRfl
namespace Go.Proofs.YthdnoljmiehegaaDoor
/- THE CELL 'sum', in the pinned program and in every row, IS THE sha256 OF THE DUMP (.gsa) THAT YthdnoljmiehegaaDoorProg.lean LOADS. Nothing in Lean hashes anything: it is a label: what it is worth is what the hold of that sum in a sandbox is worth. -/
noncomputable def Tryd.pinned : Pinned := { name := "ythdnoljmiehegaadoor", sum := "faebbd5146bbae736d12393ab8d2a4d2b9e583f81af92ce82dcc3859b70e8897", checked := Tryd.checked }
namespace Rows
def none {H : Type} : Left H := { results := [], args := [] }

/- WHAT THE LISTED PACKAGE-LEVEL VARIABLES READ AS WHEN THE CALL BEGINS. Each datum BY PROGRAM (the guide's laid-datum.mjs) off the statement by which the dump's own 'gosem.cut.vars' lays the variable. In a bare row this is a premise. The card (YthdnoljmiehegaaDoorCards.lean) ties it to the program's text. -/
def laid_chapbook_prefix_bits {H : Type} : DataW H := .agg [.lit (.int .u64 6), .lit (.int .u64 14), .lit (.int .u64 30), .lit (.int .u64 62)]

/-- 'chapbooklaw21.ModelResets': WHATEVER THE INPUT: true; the input reads as it did. -/
def modelResetsSpec : ChangeSpec := { name := "modelResets", fn := fun _ => fun
  | [d1, d2, d3] => { results := [.lit (.bool true)], args := [d1, d2, d3] }
  | _ => none }
def modelResetsRow : OpenClaim := { program := "ythdnoljmiehegaadoor", sum := "faebbd5146bbae736d12393ab8d2a4d2b9e583f81af92ce82dcc3859b70e8897", func := "chapbook/chapbooklaw21.ModelResets", spec := "modelResets", inPlace := ["internal/abi.NoEscape"], named := ["chapbook/prefix.bits"], apart := false, laid := [("chapbook/prefix.bits", laid_chapbook_prefix_bits)] }
def ModelResetsSaid : Prop := modelResetsRow.holds Tryd.pinned (OpenSpec.ofChange modelResetsSpec)

/-- ITS FALSE NEIGHBOUR: 'it returns false'. Refute it at one input. -/
def modelResetsWrong : ChangeSpec := { name := "modelResets", fn := fun _ => fun
  | [d1, d2, d3] => { results := [.lit (.bool false)], args := [d1, d2, d3] }
  | _ => none }
def ModelResetsWrongFalsely : Prop := modelResetsRow.holds Tryd.pinned (OpenSpec.ofChange modelResetsWrong)

/-- 'chapbooklaw21.ModelOwn': WHATEVER THE INPUT: true; the input reads as it did. -/
def modelOwnSpec : ChangeSpec := { name := "modelOwn", fn := fun _ => fun
  | [d1, d2, d3] => { results := [.lit (.bool true)], args := [d1, d2, d3] }
  | _ => none }
def modelOwnRow : OpenClaim := { program := "ythdnoljmiehegaadoor", sum := "faebbd5146bbae736d12393ab8d2a4d2b9e583f81af92ce82dcc3859b70e8897", func := "chapbook/chapbooklaw21.ModelOwn", spec := "modelOwn", inPlace := ["internal/abi.NoEscape"], named := ["chapbook/prefix.bits"], apart := false, laid := [("chapbook/prefix.bits", laid_chapbook_prefix_bits)] }
def ModelOwnSaid : Prop := modelOwnRow.holds Tryd.pinned (OpenSpec.ofChange modelOwnSpec)

/-- ITS FALSE NEIGHBOUR: 'it returns false'. Refute it at one input. -/
def modelOwnWrong : ChangeSpec := { name := "modelOwn", fn := fun _ => fun
  | [d1, d2, d3] => { results := [.lit (.bool false)], args := [d1, d2, d3] }
  | _ => none }
def ModelOwnWrongFalsely : Prop := modelOwnRow.holds Tryd.pinned (OpenSpec.ofChange modelOwnWrong)

/-- 'chapbooklaw15.FeedPlays': WHATEVER THE INPUT: true; the input reads as it did. -/
def feedPlaysSpec : ChangeSpec := { name := "feedPlays", fn := fun _ => fun
  | [d1, d2] => { results := [.lit (.bool true)], args := [d1, d2] }
  | _ => none }
def feedPlaysRow : OpenClaim := { program := "ythdnoljmiehegaadoor", sum := "faebbd5146bbae736d12393ab8d2a4d2b9e583f81af92ce82dcc3859b70e8897", func := "chapbook/chapbooklaw15.FeedPlays", spec := "feedPlays", inPlace := ["internal/abi.NoEscape"], named := ["chapbook/prefix.bits"], apart := false, laid := [("chapbook/prefix.bits", laid_chapbook_prefix_bits)] }
def FeedPlaysSaid : Prop := feedPlaysRow.holds Tryd.pinned (OpenSpec.ofChange feedPlaysSpec)

/-- ITS FALSE NEIGHBOUR: 'it returns false'. Refute it at one input. -/
def feedPlaysWrong : ChangeSpec := { name := "feedPlays", fn := fun _ => fun
  | [d1, d2] => { results := [.lit (.bool false)], args := [d1, d2] }
  | _ => none }
def FeedPlaysWrongFalsely : Prop := feedPlaysRow.holds Tryd.pinned (OpenSpec.ofChange feedPlaysWrong)

/-- 'chapbooklaw15.FeedAgain': WHATEVER THE INPUT: true; the input reads as it did. -/
def feedAgainSpec : ChangeSpec := { name := "feedAgain", fn := fun _ => fun
  | [d1, d2] => { results := [.lit (.bool true)], args := [d1, d2] }
  | _ => none }
def feedAgainRow : OpenClaim := { program := "ythdnoljmiehegaadoor", sum := "faebbd5146bbae736d12393ab8d2a4d2b9e583f81af92ce82dcc3859b70e8897", func := "chapbook/chapbooklaw15.FeedAgain", spec := "feedAgain", inPlace := ["internal/abi.NoEscape"], named := ["chapbook/prefix.bits"], apart := false, laid := [("chapbook/prefix.bits", laid_chapbook_prefix_bits)] }
def FeedAgainSaid : Prop := feedAgainRow.holds Tryd.pinned (OpenSpec.ofChange feedAgainSpec)

/-- ITS FALSE NEIGHBOUR: 'it returns false'. Refute it at one input. -/
def feedAgainWrong : ChangeSpec := { name := "feedAgain", fn := fun _ => fun
  | [d1, d2] => { results := [.lit (.bool false)], args := [d1, d2] }
  | _ => none }
def FeedAgainWrongFalsely : Prop := feedAgainRow.holds Tryd.pinned (OpenSpec.ofChange feedAgainWrong)

/-- 'chapbooklaw15.FeedApart': WHATEVER THE INPUT: true; the input reads as it did. -/
def feedApartSpec : ChangeSpec := { name := "feedApart", fn := fun _ => fun
  | [d1, d2] => { results := [.lit (.bool true)], args := [d1, d2] }
  | _ => none }
def feedApartRow : OpenClaim := { program := "ythdnoljmiehegaadoor", sum := "faebbd5146bbae736d12393ab8d2a4d2b9e583f81af92ce82dcc3859b70e8897", func := "chapbook/chapbooklaw15.FeedApart", spec := "feedApart", inPlace := ["internal/abi.NoEscape"], named := ["chapbook/prefix.bits"], apart := false, laid := [("chapbook/prefix.bits", laid_chapbook_prefix_bits)] }
def FeedApartSaid : Prop := feedApartRow.holds Tryd.pinned (OpenSpec.ofChange feedApartSpec)

/-- ITS FALSE NEIGHBOUR: 'it returns false'. Refute it at one input. -/
def feedApartWrong : ChangeSpec := { name := "feedApart", fn := fun _ => fun
  | [d1, d2] => { results := [.lit (.bool false)], args := [d1, d2] }
  | _ => none }
def FeedApartWrongFalsely : Prop := feedApartRow.holds Tryd.pinned (OpenSpec.ofChange feedApartWrong)

/-- 'chapbooklaw17.ClientPlays': WHATEVER THE INPUT: true; the input reads as it did. -/
def clientPlaysSpec : ChangeSpec := { name := "clientPlays", fn := fun _ => fun
  | [d1, d2] => { results := [.lit (.bool true)], args := [d1, d2] }
  | _ => none }
def clientPlaysRow : OpenClaim := { program := "ythdnoljmiehegaadoor", sum := "faebbd5146bbae736d12393ab8d2a4d2b9e583f81af92ce82dcc3859b70e8897", func := "chapbook/chapbooklaw17.ClientPlays", spec := "clientPlays", inPlace := ["internal/abi.NoEscape"], named := ["chapbook/prefix.bits"], apart := false, laid := [("chapbook/prefix.bits", laid_chapbook_prefix_bits)] }
def ClientPlaysSaid : Prop := clientPlaysRow.holds Tryd.pinned (OpenSpec.ofChange clientPlaysSpec)

/-- ITS FALSE NEIGHBOUR: 'it returns false'. Refute it at one input. -/
def clientPlaysWrong : ChangeSpec := { name := "clientPlays", fn := fun _ => fun
  | [d1, d2] => { results := [.lit (.bool false)], args := [d1, d2] }
  | _ => none }
def ClientPlaysWrongFalsely : Prop := clientPlaysRow.holds Tryd.pinned (OpenSpec.ofChange clientPlaysWrong)

/-- 'chapbooklaw17.ClientReads': WHATEVER THE INPUT: true; the input reads as it did. -/
def clientReadsSpec : ChangeSpec := { name := "clientReads", fn := fun _ => fun
  | [d1, d2, d3] => { results := [.lit (.bool true)], args := [d1, d2, d3] }
  | _ => none }
def clientReadsRow : OpenClaim := { program := "ythdnoljmiehegaadoor", sum := "faebbd5146bbae736d12393ab8d2a4d2b9e583f81af92ce82dcc3859b70e8897", func := "chapbook/chapbooklaw17.ClientReads", spec := "clientReads", inPlace := ["internal/abi.NoEscape"], named := ["chapbook/prefix.bits"], apart := false, laid := [("chapbook/prefix.bits", laid_chapbook_prefix_bits)] }
def ClientReadsSaid : Prop := clientReadsRow.holds Tryd.pinned (OpenSpec.ofChange clientReadsSpec)

/-- ITS FALSE NEIGHBOUR: 'it returns false'. Refute it at one input. -/
def clientReadsWrong : ChangeSpec := { name := "clientReads", fn := fun _ => fun
  | [d1, d2, d3] => { results := [.lit (.bool false)], args := [d1, d2, d3] }
  | _ => none }
def ClientReadsWrongFalsely : Prop := clientReadsRow.holds Tryd.pinned (OpenSpec.ofChange clientReadsWrong)

/-- 'chapbooklaw17.ClientPushes': WHATEVER THE INPUT: true; the input reads as it did. -/
def clientPushesSpec : ChangeSpec := { name := "clientPushes", fn := fun _ => fun
  | [d1, d2, d3] => { results := [.lit (.bool true)], args := [d1, d2, d3] }
  | _ => none }
def clientPushesRow : OpenClaim := { program := "ythdnoljmiehegaadoor", sum := "faebbd5146bbae736d12393ab8d2a4d2b9e583f81af92ce82dcc3859b70e8897", func := "chapbook/chapbooklaw17.ClientPushes", spec := "clientPushes", inPlace := ["internal/abi.NoEscape"], named := ["chapbook/prefix.bits"], apart := false, laid := [("chapbook/prefix.bits", laid_chapbook_prefix_bits)] }
def ClientPushesSaid : Prop := clientPushesRow.holds Tryd.pinned (OpenSpec.ofChange clientPushesSpec)

/-- ITS FALSE NEIGHBOUR: 'it returns false'. Refute it at one input. -/
def clientPushesWrong : ChangeSpec := { name := "clientPushes", fn := fun _ => fun
  | [d1, d2, d3] => { results := [.lit (.bool false)], args := [d1, d2, d3] }
  | _ => none }
def ClientPushesWrongFalsely : Prop := clientPushesRow.holds Tryd.pinned (OpenSpec.ofChange clientPushesWrong)

/-- 'chapbooklaw17.ClientEchoes': WHATEVER THE INPUT: true; the input reads as it did. -/
def clientEchoesSpec : ChangeSpec := { name := "clientEchoes", fn := fun _ => fun
  | [d1, d2, d3] => { results := [.lit (.bool true)], args := [d1, d2, d3] }
  | _ => none }
def clientEchoesRow : OpenClaim := { program := "ythdnoljmiehegaadoor", sum := "faebbd5146bbae736d12393ab8d2a4d2b9e583f81af92ce82dcc3859b70e8897", func := "chapbook/chapbooklaw17.ClientEchoes", spec := "clientEchoes", inPlace := ["internal/abi.NoEscape"], named := ["chapbook/prefix.bits"], apart := false, laid := [("chapbook/prefix.bits", laid_chapbook_prefix_bits)] }
def ClientEchoesSaid : Prop := clientEchoesRow.holds Tryd.pinned (OpenSpec.ofChange clientEchoesSpec)

/-- ITS FALSE NEIGHBOUR: 'it returns false'. Refute it at one input. -/
def clientEchoesWrong : ChangeSpec := { name := "clientEchoes", fn := fun _ => fun
  | [d1, d2, d3] => { results := [.lit (.bool false)], args := [d1, d2, d3] }
  | _ => none }
def ClientEchoesWrongFalsely : Prop := clientEchoesRow.holds Tryd.pinned (OpenSpec.ofChange clientEchoesWrong)

/-- 'chapbooklaw17.ClientResumes': WHATEVER THE INPUT: true; the input reads as it did. -/
def clientResumesSpec : ChangeSpec := { name := "clientResumes", fn := fun _ => fun
  | [d1, d2] => { results := [.lit (.bool true)], args := [d1, d2] }
  | _ => none }
def clientResumesRow : OpenClaim := { program := "ythdnoljmiehegaadoor", sum := "faebbd5146bbae736d12393ab8d2a4d2b9e583f81af92ce82dcc3859b70e8897", func := "chapbook/chapbooklaw17.ClientResumes", spec := "clientResumes", inPlace := ["internal/abi.NoEscape"], named := ["chapbook/prefix.bits"], apart := false, laid := [("chapbook/prefix.bits", laid_chapbook_prefix_bits)] }
def ClientResumesSaid : Prop := clientResumesRow.holds Tryd.pinned (OpenSpec.ofChange clientResumesSpec)

/-- ITS FALSE NEIGHBOUR: 'it returns false'. Refute it at one input. -/
def clientResumesWrong : ChangeSpec := { name := "clientResumes", fn := fun _ => fun
  | [d1, d2] => { results := [.lit (.bool false)], args := [d1, d2] }
  | _ => none }
def ClientResumesWrongFalsely : Prop := clientResumesRow.holds Tryd.pinned (OpenSpec.ofChange clientResumesWrong)

/-- 'chapbooklaw17.ClientWaits': WHATEVER THE INPUT: true; the input reads as it did. -/
def clientWaitsSpec : ChangeSpec := { name := "clientWaits", fn := fun _ => fun
  | [d1, d2, d3] => { results := [.lit (.bool true)], args := [d1, d2, d3] }
  | _ => none }
def clientWaitsRow : OpenClaim := { program := "ythdnoljmiehegaadoor", sum := "faebbd5146bbae736d12393ab8d2a4d2b9e583f81af92ce82dcc3859b70e8897", func := "chapbook/chapbooklaw17.ClientWaits", spec := "clientWaits", inPlace := ["internal/abi.NoEscape"], named := ["chapbook/prefix.bits"], apart := false, laid := [("chapbook/prefix.bits", laid_chapbook_prefix_bits)] }
def ClientWaitsSaid : Prop := clientWaitsRow.holds Tryd.pinned (OpenSpec.ofChange clientWaitsSpec)

/-- ITS FALSE NEIGHBOUR: 'it returns false'. Refute it at one input. -/
def clientWaitsWrong : ChangeSpec := { name := "clientWaits", fn := fun _ => fun
  | [d1, d2, d3] => { results := [.lit (.bool false)], args := [d1, d2, d3] }
  | _ => none }
def ClientWaitsWrongFalsely : Prop := clientWaitsRow.holds Tryd.pinned (OpenSpec.ofChange clientWaitsWrong)

/-- 'chapbooklaw15.FeedOrder': WHATEVER THE INPUT: true; the input reads as it did. -/
def feedOrderSpec : ChangeSpec := { name := "feedOrder", fn := fun _ => fun
  | [d1, d2, d3] => { results := [.lit (.bool true)], args := [d1, d2, d3] }
  | _ => none }
def feedOrderRow : OpenClaim := { program := "ythdnoljmiehegaadoor", sum := "faebbd5146bbae736d12393ab8d2a4d2b9e583f81af92ce82dcc3859b70e8897", func := "chapbook/chapbooklaw15.FeedOrder", spec := "feedOrder", inPlace := ["internal/abi.NoEscape"], named := ["chapbook/prefix.bits"], apart := false, laid := [("chapbook/prefix.bits", laid_chapbook_prefix_bits)] }
def FeedOrderSaid : Prop := feedOrderRow.holds Tryd.pinned (OpenSpec.ofChange feedOrderSpec)

/-- ITS FALSE NEIGHBOUR: 'it returns false'. Refute it at one input. -/
def feedOrderWrong : ChangeSpec := { name := "feedOrder", fn := fun _ => fun
  | [d1, d2, d3] => { results := [.lit (.bool false)], args := [d1, d2, d3] }
  | _ => none }
def FeedOrderWrongFalsely : Prop := feedOrderRow.holds Tryd.pinned (OpenSpec.ofChange feedOrderWrong)

/-- 'chapbooklaw21.ModelPlays': WHATEVER THE INPUT: true; the input reads as it did. -/
def modelPlaysSpec : ChangeSpec := { name := "modelPlays", fn := fun _ => fun
  | [d1, d2] => { results := [.lit (.bool true)], args := [d1, d2] }
  | _ => none }
def modelPlaysRow : OpenClaim := { program := "ythdnoljmiehegaadoor", sum := "faebbd5146bbae736d12393ab8d2a4d2b9e583f81af92ce82dcc3859b70e8897", func := "chapbook/chapbooklaw21.ModelPlays", spec := "modelPlays", inPlace := ["internal/abi.NoEscape"], named := ["chapbook/prefix.bits"], apart := false, laid := [("chapbook/prefix.bits", laid_chapbook_prefix_bits)] }
def ModelPlaysSaid : Prop := modelPlaysRow.holds Tryd.pinned (OpenSpec.ofChange modelPlaysSpec)

/-- ITS FALSE NEIGHBOUR: 'it returns false'. Refute it at one input. -/
def modelPlaysWrong : ChangeSpec := { name := "modelPlays", fn := fun _ => fun
  | [d1, d2] => { results := [.lit (.bool false)], args := [d1, d2] }
  | _ => none }
def ModelPlaysWrongFalsely : Prop := modelPlaysRow.holds Tryd.pinned (OpenSpec.ofChange modelPlaysWrong)

/-- 'chapbooklaw21.ModelPrefix': WHATEVER THE INPUT: true; the input reads as it did. -/
def modelPrefixSpec : ChangeSpec := { name := "modelPrefix", fn := fun _ => fun
  | [d1, d2] => { results := [.lit (.bool true)], args := [d1, d2] }
  | _ => none }
def modelPrefixRow : OpenClaim := { program := "ythdnoljmiehegaadoor", sum := "faebbd5146bbae736d12393ab8d2a4d2b9e583f81af92ce82dcc3859b70e8897", func := "chapbook/chapbooklaw21.ModelPrefix", spec := "modelPrefix", inPlace := ["internal/abi.NoEscape"], named := ["chapbook/prefix.bits"], apart := false, laid := [("chapbook/prefix.bits", laid_chapbook_prefix_bits)] }
def ModelPrefixSaid : Prop := modelPrefixRow.holds Tryd.pinned (OpenSpec.ofChange modelPrefixSpec)

/-- ITS FALSE NEIGHBOUR: 'it returns false'. Refute it at one input. -/
def modelPrefixWrong : ChangeSpec := { name := "modelPrefix", fn := fun _ => fun
  | [d1, d2] => { results := [.lit (.bool false)], args := [d1, d2] }
  | _ => none }
def ModelPrefixWrongFalsely : Prop := modelPrefixRow.holds Tryd.pinned (OpenSpec.ofChange modelPrefixWrong)

/-- 'chapbooklaw21.ModelSteps': WHATEVER THE INPUT: true; the input reads as it did. -/
def modelStepsSpec : ChangeSpec := { name := "modelSteps", fn := fun _ => fun
  | [d1, d2, d3] => { results := [.lit (.bool true)], args := [d1, d2, d3] }
  | _ => none }
def modelStepsRow : OpenClaim := { program := "ythdnoljmiehegaadoor", sum := "faebbd5146bbae736d12393ab8d2a4d2b9e583f81af92ce82dcc3859b70e8897", func := "chapbook/chapbooklaw21.ModelSteps", spec := "modelSteps", inPlace := ["internal/abi.NoEscape"], named := ["chapbook/prefix.bits"], apart := false, laid := [("chapbook/prefix.bits", laid_chapbook_prefix_bits)] }
def ModelStepsSaid : Prop := modelStepsRow.holds Tryd.pinned (OpenSpec.ofChange modelStepsSpec)

/-- ITS FALSE NEIGHBOUR: 'it returns false'. Refute it at one input. -/
def modelStepsWrong : ChangeSpec := { name := "modelSteps", fn := fun _ => fun
  | [d1, d2, d3] => { results := [.lit (.bool false)], args := [d1, d2, d3] }
  | _ => none }
def ModelStepsWrongFalsely : Prop := modelStepsRow.holds Tryd.pinned (OpenSpec.ofChange modelStepsWrong)

/-- 'chapbooklaw21.ModelReads': WHATEVER THE INPUT: true; the input reads as it did. -/
def modelReadsSpec : ChangeSpec := { name := "modelReads", fn := fun _ => fun
  | [d1, d2, d3] => { results := [.lit (.bool true)], args := [d1, d2, d3] }
  | _ => none }
def modelReadsRow : OpenClaim := { program := "ythdnoljmiehegaadoor", sum := "faebbd5146bbae736d12393ab8d2a4d2b9e583f81af92ce82dcc3859b70e8897", func := "chapbook/chapbooklaw21.ModelReads", spec := "modelReads", inPlace := ["internal/abi.NoEscape"], named := ["chapbook/prefix.bits"], apart := false, laid := [("chapbook/prefix.bits", laid_chapbook_prefix_bits)] }
def ModelReadsSaid : Prop := modelReadsRow.holds Tryd.pinned (OpenSpec.ofChange modelReadsSpec)

/-- ITS FALSE NEIGHBOUR: 'it returns false'. Refute it at one input. -/
def modelReadsWrong : ChangeSpec := { name := "modelReads", fn := fun _ => fun
  | [d1, d2, d3] => { results := [.lit (.bool false)], args := [d1, d2, d3] }
  | _ => none }
def ModelReadsWrongFalsely : Prop := modelReadsRow.holds Tryd.pinned (OpenSpec.ofChange modelReadsWrong)

/- THE SECOND FORM. 'bulk': how many values and letters a reading holds, each counted each time it is reached (what is shared counts as often as it is met; a slice's spare places count too). A statement '..UptoSaid' is the law's where the arguments, and the package variables that the reading takes, are together of bulk at most 1048576: NARROWER than '..Said'. Prove '..Said' where nothing that the law and all that it calls make is longer than what came in: it says more and counts as full. Else prove '..UptoSaid'. A law counts once. -/
mutual
def uptoBulk {H : Type} : DataW H → Nat
  | .lit (.string bytes) => bytes.length + 1
  | .lit _ => 1
  | .nil => 1
  | .ptr d => uptoBulk d + 1
  | .slice elems spare => uptoBulkAll elems + uptoBulkAll spare + 1
  | .agg parts => uptoBulkAll parts + 1
  | .iface _ d => uptoBulk d + 1
  | .map entries => uptoBulkEntries entries + 1
  | .held _ => 1
def uptoBulkAll {H : Type} : List (DataW H) → Nat
  | [] => 0
  | d :: r => uptoBulk d + uptoBulkAll r
def uptoBulkEntries {H : Type} : List (Lit × DataW H) → Nat
  | [] => 0
  | x :: r => uptoBulkEntry x + uptoBulkEntries r
def uptoBulkEntry {H : Type} : Lit × DataW H → Nat
  | (.string bytes, d) => bytes.length + uptoBulk d + 1
  | (_, d) => uptoBulk d + 1
 end
def uptoSmall : (H : Type) → List (DataW H) → Bool := fun _ ds => decide (uptoBulkAll ds ≤ 1048576)
def OpenSpec.upto (s : _root_.Go.ChangeSpec) : _root_.Go.OpenSpec := { _root_.Go.OpenSpec.ofChange s with cond := some uptoSmall }

/-- 'chapbooklaw21.ModelResets', WHERE WHAT IT READS IS OF BULK AT MOST 1048576: true; the input reads as it did. -/
def modelResetsUptoRow : OpenClaim := { program := "ythdnoljmiehegaadoor", sum := "faebbd5146bbae736d12393ab8d2a4d2b9e583f81af92ce82dcc3859b70e8897", func := "chapbook/chapbooklaw21.ModelResets", spec := "modelResets", inPlace := ["internal/abi.NoEscape"], named := ["chapbook/prefix.bits"], apart := false, laid := [("chapbook/prefix.bits", laid_chapbook_prefix_bits)], narrowed := true }
def ModelResetsUptoSaid : Prop := modelResetsUptoRow.holds Tryd.pinned (OpenSpec.upto modelResetsSpec)

/-- 'chapbooklaw21.ModelOwn', WHERE WHAT IT READS IS OF BULK AT MOST 1048576: true; the input reads as it did. -/
def modelOwnUptoRow : OpenClaim := { program := "ythdnoljmiehegaadoor", sum := "faebbd5146bbae736d12393ab8d2a4d2b9e583f81af92ce82dcc3859b70e8897", func := "chapbook/chapbooklaw21.ModelOwn", spec := "modelOwn", inPlace := ["internal/abi.NoEscape"], named := ["chapbook/prefix.bits"], apart := false, laid := [("chapbook/prefix.bits", laid_chapbook_prefix_bits)], narrowed := true }
def ModelOwnUptoSaid : Prop := modelOwnUptoRow.holds Tryd.pinned (OpenSpec.upto modelOwnSpec)

/-- 'chapbooklaw15.FeedPlays', WHERE WHAT IT READS IS OF BULK AT MOST 1048576: true; the input reads as it did. -/
def feedPlaysUptoRow : OpenClaim := { program := "ythdnoljmiehegaadoor", sum := "faebbd5146bbae736d12393ab8d2a4d2b9e583f81af92ce82dcc3859b70e8897", func := "chapbook/chapbooklaw15.FeedPlays", spec := "feedPlays", inPlace := ["internal/abi.NoEscape"], named := ["chapbook/prefix.bits"], apart := false, laid := [("chapbook/prefix.bits", laid_chapbook_prefix_bits)], narrowed := true }
def FeedPlaysUptoSaid : Prop := feedPlaysUptoRow.holds Tryd.pinned (OpenSpec.upto feedPlaysSpec)

/-- 'chapbooklaw15.FeedAgain', WHERE WHAT IT READS IS OF BULK AT MOST 1048576: true; the input reads as it did. -/
def feedAgainUptoRow : OpenClaim := { program := "ythdnoljmiehegaadoor", sum := "faebbd5146bbae736d12393ab8d2a4d2b9e583f81af92ce82dcc3859b70e8897", func := "chapbook/chapbooklaw15.FeedAgain", spec := "feedAgain", inPlace := ["internal/abi.NoEscape"], named := ["chapbook/prefix.bits"], apart := false, laid := [("chapbook/prefix.bits", laid_chapbook_prefix_bits)], narrowed := true }
def FeedAgainUptoSaid : Prop := feedAgainUptoRow.holds Tryd.pinned (OpenSpec.upto feedAgainSpec)

/-- 'chapbooklaw15.FeedApart', WHERE WHAT IT READS IS OF BULK AT MOST 1048576: true; the input reads as it did. -/
def feedApartUptoRow : OpenClaim := { program := "ythdnoljmiehegaadoor", sum := "faebbd5146bbae736d12393ab8d2a4d2b9e583f81af92ce82dcc3859b70e8897", func := "chapbook/chapbooklaw15.FeedApart", spec := "feedApart", inPlace := ["internal/abi.NoEscape"], named := ["chapbook/prefix.bits"], apart := false, laid := [("chapbook/prefix.bits", laid_chapbook_prefix_bits)], narrowed := true }
def FeedApartUptoSaid : Prop := feedApartUptoRow.holds Tryd.pinned (OpenSpec.upto feedApartSpec)

/-- 'chapbooklaw17.ClientPlays', WHERE WHAT IT READS IS OF BULK AT MOST 1048576: true; the input reads as it did. -/
def clientPlaysUptoRow : OpenClaim := { program := "ythdnoljmiehegaadoor", sum := "faebbd5146bbae736d12393ab8d2a4d2b9e583f81af92ce82dcc3859b70e8897", func := "chapbook/chapbooklaw17.ClientPlays", spec := "clientPlays", inPlace := ["internal/abi.NoEscape"], named := ["chapbook/prefix.bits"], apart := false, laid := [("chapbook/prefix.bits", laid_chapbook_prefix_bits)], narrowed := true }
def ClientPlaysUptoSaid : Prop := clientPlaysUptoRow.holds Tryd.pinned (OpenSpec.upto clientPlaysSpec)

/-- 'chapbooklaw17.ClientReads', WHERE WHAT IT READS IS OF BULK AT MOST 1048576: true; the input reads as it did. -/
def clientReadsUptoRow : OpenClaim := { program := "ythdnoljmiehegaadoor", sum := "faebbd5146bbae736d12393ab8d2a4d2b9e583f81af92ce82dcc3859b70e8897", func := "chapbook/chapbooklaw17.ClientReads", spec := "clientReads", inPlace := ["internal/abi.NoEscape"], named := ["chapbook/prefix.bits"], apart := false, laid := [("chapbook/prefix.bits", laid_chapbook_prefix_bits)], narrowed := true }
def ClientReadsUptoSaid : Prop := clientReadsUptoRow.holds Tryd.pinned (OpenSpec.upto clientReadsSpec)

/-- 'chapbooklaw17.ClientPushes', WHERE WHAT IT READS IS OF BULK AT MOST 1048576: true; the input reads as it did. -/
def clientPushesUptoRow : OpenClaim := { program := "ythdnoljmiehegaadoor", sum := "faebbd5146bbae736d12393ab8d2a4d2b9e583f81af92ce82dcc3859b70e8897", func := "chapbook/chapbooklaw17.ClientPushes", spec := "clientPushes", inPlace := ["internal/abi.NoEscape"], named := ["chapbook/prefix.bits"], apart := false, laid := [("chapbook/prefix.bits", laid_chapbook_prefix_bits)], narrowed := true }
def ClientPushesUptoSaid : Prop := clientPushesUptoRow.holds Tryd.pinned (OpenSpec.upto clientPushesSpec)

/-- 'chapbooklaw17.ClientEchoes', WHERE WHAT IT READS IS OF BULK AT MOST 1048576: true; the input reads as it did. -/
def clientEchoesUptoRow : OpenClaim := { program := "ythdnoljmiehegaadoor", sum := "faebbd5146bbae736d12393ab8d2a4d2b9e583f81af92ce82dcc3859b70e8897", func := "chapbook/chapbooklaw17.ClientEchoes", spec := "clientEchoes", inPlace := ["internal/abi.NoEscape"], named := ["chapbook/prefix.bits"], apart := false, laid := [("chapbook/prefix.bits", laid_chapbook_prefix_bits)], narrowed := true }
def ClientEchoesUptoSaid : Prop := clientEchoesUptoRow.holds Tryd.pinned (OpenSpec.upto clientEchoesSpec)

/-- 'chapbooklaw17.ClientResumes', WHERE WHAT IT READS IS OF BULK AT MOST 1048576: true; the input reads as it did. -/
def clientResumesUptoRow : OpenClaim := { program := "ythdnoljmiehegaadoor", sum := "faebbd5146bbae736d12393ab8d2a4d2b9e583f81af92ce82dcc3859b70e8897", func := "chapbook/chapbooklaw17.ClientResumes", spec := "clientResumes", inPlace := ["internal/abi.NoEscape"], named := ["chapbook/prefix.bits"], apart := false, laid := [("chapbook/prefix.bits", laid_chapbook_prefix_bits)], narrowed := true }
def ClientResumesUptoSaid : Prop := clientResumesUptoRow.holds Tryd.pinned (OpenSpec.upto clientResumesSpec)

/-- 'chapbooklaw17.ClientWaits', WHERE WHAT IT READS IS OF BULK AT MOST 1048576: true; the input reads as it did. -/
def clientWaitsUptoRow : OpenClaim := { program := "ythdnoljmiehegaadoor", sum := "faebbd5146bbae736d12393ab8d2a4d2b9e583f81af92ce82dcc3859b70e8897", func := "chapbook/chapbooklaw17.ClientWaits", spec := "clientWaits", inPlace := ["internal/abi.NoEscape"], named := ["chapbook/prefix.bits"], apart := false, laid := [("chapbook/prefix.bits", laid_chapbook_prefix_bits)], narrowed := true }
def ClientWaitsUptoSaid : Prop := clientWaitsUptoRow.holds Tryd.pinned (OpenSpec.upto clientWaitsSpec)

/-- 'chapbooklaw15.FeedOrder', WHERE WHAT IT READS IS OF BULK AT MOST 1048576: true; the input reads as it did. -/
def feedOrderUptoRow : OpenClaim := { program := "ythdnoljmiehegaadoor", sum := "faebbd5146bbae736d12393ab8d2a4d2b9e583f81af92ce82dcc3859b70e8897", func := "chapbook/chapbooklaw15.FeedOrder", spec := "feedOrder", inPlace := ["internal/abi.NoEscape"], named := ["chapbook/prefix.bits"], apart := false, laid := [("chapbook/prefix.bits", laid_chapbook_prefix_bits)], narrowed := true }
def FeedOrderUptoSaid : Prop := feedOrderUptoRow.holds Tryd.pinned (OpenSpec.upto feedOrderSpec)

/-- 'chapbooklaw21.ModelPlays', WHERE WHAT IT READS IS OF BULK AT MOST 1048576: true; the input reads as it did. -/
def modelPlaysUptoRow : OpenClaim := { program := "ythdnoljmiehegaadoor", sum := "faebbd5146bbae736d12393ab8d2a4d2b9e583f81af92ce82dcc3859b70e8897", func := "chapbook/chapbooklaw21.ModelPlays", spec := "modelPlays", inPlace := ["internal/abi.NoEscape"], named := ["chapbook/prefix.bits"], apart := false, laid := [("chapbook/prefix.bits", laid_chapbook_prefix_bits)], narrowed := true }
def ModelPlaysUptoSaid : Prop := modelPlaysUptoRow.holds Tryd.pinned (OpenSpec.upto modelPlaysSpec)

/-- 'chapbooklaw21.ModelPrefix', WHERE WHAT IT READS IS OF BULK AT MOST 1048576: true; the input reads as it did. -/
def modelPrefixUptoRow : OpenClaim := { program := "ythdnoljmiehegaadoor", sum := "faebbd5146bbae736d12393ab8d2a4d2b9e583f81af92ce82dcc3859b70e8897", func := "chapbook/chapbooklaw21.ModelPrefix", spec := "modelPrefix", inPlace := ["internal/abi.NoEscape"], named := ["chapbook/prefix.bits"], apart := false, laid := [("chapbook/prefix.bits", laid_chapbook_prefix_bits)], narrowed := true }
def ModelPrefixUptoSaid : Prop := modelPrefixUptoRow.holds Tryd.pinned (OpenSpec.upto modelPrefixSpec)

/-- 'chapbooklaw21.ModelSteps', WHERE WHAT IT READS IS OF BULK AT MOST 1048576: true; the input reads as it did. -/
def modelStepsUptoRow : OpenClaim := { program := "ythdnoljmiehegaadoor", sum := "faebbd5146bbae736d12393ab8d2a4d2b9e583f81af92ce82dcc3859b70e8897", func := "chapbook/chapbooklaw21.ModelSteps", spec := "modelSteps", inPlace := ["internal/abi.NoEscape"], named := ["chapbook/prefix.bits"], apart := false, laid := [("chapbook/prefix.bits", laid_chapbook_prefix_bits)], narrowed := true }
def ModelStepsUptoSaid : Prop := modelStepsUptoRow.holds Tryd.pinned (OpenSpec.upto modelStepsSpec)

/-- 'chapbooklaw21.ModelReads', WHERE WHAT IT READS IS OF BULK AT MOST 1048576: true; the input reads as it did. -/
def modelReadsUptoRow : OpenClaim := { program := "ythdnoljmiehegaadoor", sum := "faebbd5146bbae736d12393ab8d2a4d2b9e583f81af92ce82dcc3859b70e8897", func := "chapbook/chapbooklaw21.ModelReads", spec := "modelReads", inPlace := ["internal/abi.NoEscape"], named := ["chapbook/prefix.bits"], apart := false, laid := [("chapbook/prefix.bits", laid_chapbook_prefix_bits)], narrowed := true }
def ModelReadsUptoSaid : Prop := modelReadsUptoRow.holds Tryd.pinned (OpenSpec.upto modelReadsSpec)

end Rows
end Go.Proofs.YthdnoljmiehegaaDoor
