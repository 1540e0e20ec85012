/-
  No cell of these rows narrows 'for every input' (looked for: loops, veiled, ifaces, maps, wideKeys, modest, calm, conditions, laid).
  DERIVED. THE GIVEN ROWS OF THIS SEAT. 14 by the template 'for every input the law returns true; each argument reads behind the call as it read before'; 0 by the template 'total and deterministic' (their statements: YtchepkicjfbfoaaTotals.lean).
  GIVEN WITH THE SEED: the statements are not yours to turn. If you find one false, say at which input.
  Laid BY PROGRAM, IN A SANDBOX (cutbox-rows.mjs): the forced cells as the released guide's own fill.sh prints them over the translation bfe95bb3440cacc9… (all of the seat's roots in one cut). By AI agents, Wed Nov 11 2026. No macro, syntax, notation, axiom, sorry.
-/
import Derived.Test.YtchepkicjfbfoaaChecked
import GoSem.Claim
import GoSem.ClaimJoined
import GoSem.ClaimMapViews
import Derived.JoinedTies
import Derived.KernelRfl
namespace Go.Proofs.Ytchepkicjfbfoaa
/- THE CELL 'sum', in the pinned program and in every row, IS THE sha256 OF THE DUMP (.gsa) THAT YtchepkicjfbfoaaProg.lean LOADS. Nothing in Lean hashes anything: it is a label: what it is worth is what the hold of that sum in a sandbox is worth. -/
noncomputable def Try.pinned : Pinned := { name := "ytchepkicjfbfoaa", sum := "bfe95bb3440cacc9044adf9ad22ec5afd48d526accf56b4a588eba0026c41a3f", checked := Try.checked }
namespace Rows
def none {H : Type} : Left H := { results := [], args := [] }

/-- 'marquetrylaw11.NormSteps': WHATEVER THE INPUT: true; the input reads as it did. -/
def normStepsSpec : ChangeSpec := { name := "normSteps", fn := fun _ => fun
  | [d] => { results := [.lit (.bool true)], args := [d] }
  | _ => none }
def normStepsRow : OpenClaim := { program := "ytchepkicjfbfoaa", sum := "bfe95bb3440cacc9044adf9ad22ec5afd48d526accf56b4a588eba0026c41a3f", func := "marquetry/marquetrylaw11.NormSteps", spec := "normSteps", inPlace := ["internal/abi.NoEscape", "internal/bytealg.MakeNoZero"], unfollowed := true, recurses := true, apart := false }
def NormStepsSaid : Prop := normStepsRow.holds Try.pinned (OpenSpec.ofChange normStepsSpec)

/-- ITS FALSE NEIGHBOUR: 'it returns false'. Refute it at one input. -/
def normStepsWrong : ChangeSpec := { name := "normSteps", fn := fun _ => fun
  | [d] => { results := [.lit (.bool false)], args := [d] }
  | _ => none }
def NormStepsWrongFalsely : Prop := normStepsRow.holds Try.pinned (OpenSpec.ofChange normStepsWrong)

/-- 'marquetrylaw11.NormBeta': WHATEVER THE INPUT: true; the input reads as it did. -/
def normBetaSpec : ChangeSpec := { name := "normBeta", fn := fun _ => fun
  | [d1, d2] => { results := [.lit (.bool true)], args := [d1, d2] }
  | _ => none }
def normBetaRow : OpenClaim := { program := "ytchepkicjfbfoaa", sum := "bfe95bb3440cacc9044adf9ad22ec5afd48d526accf56b4a588eba0026c41a3f", func := "marquetry/marquetrylaw11.NormBeta", spec := "normBeta", inPlace := ["internal/abi.NoEscape", "internal/bytealg.MakeNoZero"], unfollowed := true, recurses := true, apart := false }
def NormBetaSaid : Prop := normBetaRow.holds Try.pinned (OpenSpec.ofChange normBetaSpec)

/-- ITS FALSE NEIGHBOUR: 'it returns false'. Refute it at one input. -/
def normBetaWrong : ChangeSpec := { name := "normBeta", fn := fun _ => fun
  | [d1, d2] => { results := [.lit (.bool false)], args := [d1, d2] }
  | _ => none }
def NormBetaWrongFalsely : Prop := normBetaRow.holds Try.pinned (OpenSpec.ofChange normBetaWrong)

/-- 'marquetrylaw11.NormWithin': WHATEVER THE INPUT: true; the input reads as it did. -/
def normWithinSpec : ChangeSpec := { name := "normWithin", fn := fun _ => fun
  | [d1, d2] => { results := [.lit (.bool true)], args := [d1, d2] }
  | _ => none }
def normWithinRow : OpenClaim := { program := "ytchepkicjfbfoaa", sum := "bfe95bb3440cacc9044adf9ad22ec5afd48d526accf56b4a588eba0026c41a3f", func := "marquetry/marquetrylaw11.NormWithin", spec := "normWithin", inPlace := ["internal/abi.NoEscape", "internal/bytealg.MakeNoZero"], unfollowed := true, recurses := true, apart := false }
def NormWithinSaid : Prop := normWithinRow.holds Try.pinned (OpenSpec.ofChange normWithinSpec)

/-- ITS FALSE NEIGHBOUR: 'it returns false'. Refute it at one input. -/
def normWithinWrong : ChangeSpec := { name := "normWithin", fn := fun _ => fun
  | [d1, d2] => { results := [.lit (.bool false)], args := [d1, d2] }
  | _ => none }
def NormWithinWrongFalsely : Prop := normWithinRow.holds Try.pinned (OpenSpec.ofChange normWithinWrong)

/-- 'marquetrylaw11.NormForms': WHATEVER THE INPUT: true; the input reads as it did. -/
def normFormsSpec : ChangeSpec := { name := "normForms", fn := fun _ => fun
  | [d1, d2] => { results := [.lit (.bool true)], args := [d1, d2] }
  | _ => none }
def normFormsRow : OpenClaim := { program := "ytchepkicjfbfoaa", sum := "bfe95bb3440cacc9044adf9ad22ec5afd48d526accf56b4a588eba0026c41a3f", func := "marquetry/marquetrylaw11.NormForms", spec := "normForms", inPlace := ["internal/abi.NoEscape", "internal/bytealg.MakeNoZero"], unfollowed := true, recurses := true, apart := false }
def NormFormsSaid : Prop := normFormsRow.holds Try.pinned (OpenSpec.ofChange normFormsSpec)

/-- ITS FALSE NEIGHBOUR: 'it returns false'. Refute it at one input. -/
def normFormsWrong : ChangeSpec := { name := "normForms", fn := fun _ => fun
  | [d1, d2] => { results := [.lit (.bool false)], args := [d1, d2] }
  | _ => none }
def NormFormsWrongFalsely : Prop := normFormsRow.holds Try.pinned (OpenSpec.ofChange normFormsWrong)

/-- 'marquetrylaw11.NormEnds': WHATEVER THE INPUT: true; the input reads as it did. -/
def normEndsSpec : ChangeSpec := { name := "normEnds", fn := fun _ => fun
  | [d] => { results := [.lit (.bool true)], args := [d] }
  | _ => none }
def normEndsRow : OpenClaim := { program := "ytchepkicjfbfoaa", sum := "bfe95bb3440cacc9044adf9ad22ec5afd48d526accf56b4a588eba0026c41a3f", func := "marquetry/marquetrylaw11.NormEnds", spec := "normEnds", inPlace := ["internal/abi.NoEscape", "internal/bytealg.MakeNoZero"], unfollowed := true, recurses := true, apart := false }
def NormEndsSaid : Prop := normEndsRow.holds Try.pinned (OpenSpec.ofChange normEndsSpec)

/-- ITS FALSE NEIGHBOUR: 'it returns false'. Refute it at one input. -/
def normEndsWrong : ChangeSpec := { name := "normEnds", fn := fun _ => fun
  | [d] => { results := [.lit (.bool false)], args := [d] }
  | _ => none }
def NormEndsWrongFalsely : Prop := normEndsRow.holds Try.pinned (OpenSpec.ofChange normEndsWrong)

/-- 'marquetrylaw13.TermChecks': WHATEVER THE INPUT: true; the input reads as it did. -/
def termChecksSpec : ChangeSpec := { name := "termChecks", fn := fun _ => fun
  | [d] => { results := [.lit (.bool true)], args := [d] }
  | _ => none }
def termChecksRow : OpenClaim := { program := "ytchepkicjfbfoaa", sum := "bfe95bb3440cacc9044adf9ad22ec5afd48d526accf56b4a588eba0026c41a3f", func := "marquetry/marquetrylaw13.TermChecks", spec := "termChecks", inPlace := ["internal/abi.NoEscape", "internal/bytealg.MakeNoZero"], unfollowed := true, recurses := true, apart := false }
def TermChecksSaid : Prop := termChecksRow.holds Try.pinned (OpenSpec.ofChange termChecksSpec)

/-- ITS FALSE NEIGHBOUR: 'it returns false'. Refute it at one input. -/
def termChecksWrong : ChangeSpec := { name := "termChecks", fn := fun _ => fun
  | [d] => { results := [.lit (.bool false)], args := [d] }
  | _ => none }
def TermChecksWrongFalsely : Prop := termChecksRow.holds Try.pinned (OpenSpec.ofChange termChecksWrong)

/-- 'marquetrylaw13.TermValues': WHATEVER THE INPUT: true; the input reads as it did. -/
def termValuesSpec : ChangeSpec := { name := "termValues", fn := fun _ => fun
  | [d] => { results := [.lit (.bool true)], args := [d] }
  | _ => none }
def termValuesRow : OpenClaim := { program := "ytchepkicjfbfoaa", sum := "bfe95bb3440cacc9044adf9ad22ec5afd48d526accf56b4a588eba0026c41a3f", func := "marquetry/marquetrylaw13.TermValues", spec := "termValues", inPlace := ["internal/abi.NoEscape", "internal/bytealg.MakeNoZero"], unfollowed := true, recurses := true, apart := false }
def TermValuesSaid : Prop := termValuesRow.holds Try.pinned (OpenSpec.ofChange termValuesSpec)

/-- ITS FALSE NEIGHBOUR: 'it returns false'. Refute it at one input. -/
def termValuesWrong : ChangeSpec := { name := "termValues", fn := fun _ => fun
  | [d] => { results := [.lit (.bool false)], args := [d] }
  | _ => none }
def TermValuesWrongFalsely : Prop := termValuesRow.holds Try.pinned (OpenSpec.ofChange termValuesWrong)

/-- 'marquetrylaw13.TermFree': WHATEVER THE INPUT: true; the input reads as it did. -/
def termFreeSpec : ChangeSpec := { name := "termFree", fn := fun _ => fun
  | [d] => { results := [.lit (.bool true)], args := [d] }
  | _ => none }
def termFreeRow : OpenClaim := { program := "ytchepkicjfbfoaa", sum := "bfe95bb3440cacc9044adf9ad22ec5afd48d526accf56b4a588eba0026c41a3f", func := "marquetry/marquetrylaw13.TermFree", spec := "termFree", inPlace := ["internal/abi.NoEscape", "internal/bytealg.MakeNoZero"], unfollowed := true, recurses := true, apart := false }
def TermFreeSaid : Prop := termFreeRow.holds Try.pinned (OpenSpec.ofChange termFreeSpec)

/-- ITS FALSE NEIGHBOUR: 'it returns false'. Refute it at one input. -/
def termFreeWrong : ChangeSpec := { name := "termFree", fn := fun _ => fun
  | [d] => { results := [.lit (.bool false)], args := [d] }
  | _ => none }
def TermFreeWrongFalsely : Prop := termFreeRow.holds Try.pinned (OpenSpec.ofChange termFreeWrong)

/-- 'marquetrylaw13.TermBinds': WHATEVER THE INPUT: true; the input reads as it did. -/
def termBindsSpec : ChangeSpec := { name := "termBinds", fn := fun _ => fun
  | [d] => { results := [.lit (.bool true)], args := [d] }
  | _ => none }
def termBindsRow : OpenClaim := { program := "ytchepkicjfbfoaa", sum := "bfe95bb3440cacc9044adf9ad22ec5afd48d526accf56b4a588eba0026c41a3f", func := "marquetry/marquetrylaw13.TermBinds", spec := "termBinds", inPlace := ["internal/abi.NoEscape", "internal/bytealg.MakeNoZero"], unfollowed := true, recurses := true, apart := false }
def TermBindsSaid : Prop := termBindsRow.holds Try.pinned (OpenSpec.ofChange termBindsSpec)

/-- ITS FALSE NEIGHBOUR: 'it returns false'. Refute it at one input. -/
def termBindsWrong : ChangeSpec := { name := "termBinds", fn := fun _ => fun
  | [d] => { results := [.lit (.bool false)], args := [d] }
  | _ => none }
def TermBindsWrongFalsely : Prop := termBindsRow.holds Try.pinned (OpenSpec.ofChange termBindsWrong)

/-- 'marquetrylaw13.TermParts': WHATEVER THE INPUT: true; the input reads as it did. -/
def termPartsSpec : ChangeSpec := { name := "termParts", fn := fun _ => fun
  | [d] => { results := [.lit (.bool true)], args := [d] }
  | _ => none }
def termPartsRow : OpenClaim := { program := "ytchepkicjfbfoaa", sum := "bfe95bb3440cacc9044adf9ad22ec5afd48d526accf56b4a588eba0026c41a3f", func := "marquetry/marquetrylaw13.TermParts", spec := "termParts", inPlace := ["internal/abi.NoEscape", "internal/bytealg.MakeNoZero"], unfollowed := true, recurses := true, apart := false }
def TermPartsSaid : Prop := termPartsRow.holds Try.pinned (OpenSpec.ofChange termPartsSpec)

/-- ITS FALSE NEIGHBOUR: 'it returns false'. Refute it at one input. -/
def termPartsWrong : ChangeSpec := { name := "termParts", fn := fun _ => fun
  | [d] => { results := [.lit (.bool false)], args := [d] }
  | _ => none }
def TermPartsWrongFalsely : Prop := termPartsRow.holds Try.pinned (OpenSpec.ofChange termPartsWrong)

/-- 'marquetrylaw29.ExpoFills': WHATEVER THE INPUT: true; the input reads as it did. -/
def expoFillsSpec : ChangeSpec := { name := "expoFills", fn := fun _ => fun
  | [d1, d2] => { results := [.lit (.bool true)], args := [d1, d2] }
  | _ => none }
def expoFillsRow : OpenClaim := { program := "ytchepkicjfbfoaa", sum := "bfe95bb3440cacc9044adf9ad22ec5afd48d526accf56b4a588eba0026c41a3f", func := "marquetry/marquetrylaw29.ExpoFills", spec := "expoFills", unfollowed := true, recurses := true, apart := false }
def ExpoFillsSaid : Prop := expoFillsRow.holds Try.pinned (OpenSpec.ofChange expoFillsSpec)

/-- ITS FALSE NEIGHBOUR: 'it returns false'. Refute it at one input. -/
def expoFillsWrong : ChangeSpec := { name := "expoFills", fn := fun _ => fun
  | [d1, d2] => { results := [.lit (.bool false)], args := [d1, d2] }
  | _ => none }
def ExpoFillsWrongFalsely : Prop := expoFillsRow.holds Try.pinned (OpenSpec.ofChange expoFillsWrong)

/-- 'marquetrylaw12.KindingFits': WHATEVER THE INPUT: true; the input reads as it did. -/
def kindingFitsSpec : ChangeSpec := { name := "kindingFits", fn := fun _ => fun
  | [d] => { results := [.lit (.bool true)], args := [d] }
  | _ => none }
def kindingFitsRow : OpenClaim := { program := "ytchepkicjfbfoaa", sum := "bfe95bb3440cacc9044adf9ad22ec5afd48d526accf56b4a588eba0026c41a3f", func := "marquetry/marquetrylaw12.KindingFits", spec := "kindingFits", inPlace := ["internal/abi.NoEscape", "internal/bytealg.MakeNoZero"], unfollowed := true, recurses := true, apart := false }
def KindingFitsSaid : Prop := kindingFitsRow.holds Try.pinned (OpenSpec.ofChange kindingFitsSpec)

/-- ITS FALSE NEIGHBOUR: 'it returns false'. Refute it at one input. -/
def kindingFitsWrong : ChangeSpec := { name := "kindingFits", fn := fun _ => fun
  | [d] => { results := [.lit (.bool false)], args := [d] }
  | _ => none }
def KindingFitsWrongFalsely : Prop := kindingFitsRow.holds Try.pinned (OpenSpec.ofChange kindingFitsWrong)

/-- 'marquetrylaw12.KindingKinds': WHATEVER THE INPUT: true; the input reads as it did. -/
def kindingKindsSpec : ChangeSpec := { name := "kindingKinds", fn := fun _ => fun
  | [d1, d2] => { results := [.lit (.bool true)], args := [d1, d2] }
  | _ => none }
def kindingKindsRow : OpenClaim := { program := "ytchepkicjfbfoaa", sum := "bfe95bb3440cacc9044adf9ad22ec5afd48d526accf56b4a588eba0026c41a3f", func := "marquetry/marquetrylaw12.KindingKinds", spec := "kindingKinds", inPlace := ["internal/abi.NoEscape", "internal/bytealg.MakeNoZero"], unfollowed := true, recurses := true, apart := false }
def KindingKindsSaid : Prop := kindingKindsRow.holds Try.pinned (OpenSpec.ofChange kindingKindsSpec)

/-- ITS FALSE NEIGHBOUR: 'it returns false'. Refute it at one input. -/
def kindingKindsWrong : ChangeSpec := { name := "kindingKinds", fn := fun _ => fun
  | [d1, d2] => { results := [.lit (.bool false)], args := [d1, d2] }
  | _ => none }
def KindingKindsWrongFalsely : Prop := kindingKindsRow.holds Try.pinned (OpenSpec.ofChange kindingKindsWrong)

/-- 'marquetrylaw12.KindingMore': WHATEVER THE INPUT: true; the input reads as it did. -/
def kindingMoreSpec : ChangeSpec := { name := "kindingMore", fn := fun _ => fun
  | [d1, d2, d3] => { results := [.lit (.bool true)], args := [d1, d2, d3] }
  | _ => none }
def kindingMoreRow : OpenClaim := { program := "ytchepkicjfbfoaa", sum := "bfe95bb3440cacc9044adf9ad22ec5afd48d526accf56b4a588eba0026c41a3f", func := "marquetry/marquetrylaw12.KindingMore", spec := "kindingMore", inPlace := ["internal/abi.NoEscape", "internal/bytealg.MakeNoZero"], unfollowed := true, recurses := true, apart := false }
def KindingMoreSaid : Prop := kindingMoreRow.holds Try.pinned (OpenSpec.ofChange kindingMoreSpec)

/-- ITS FALSE NEIGHBOUR: 'it returns false'. Refute it at one input. -/
def kindingMoreWrong : ChangeSpec := { name := "kindingMore", fn := fun _ => fun
  | [d1, d2, d3] => { results := [.lit (.bool false)], args := [d1, d2, d3] }
  | _ => none }
def KindingMoreWrongFalsely : Prop := kindingMoreRow.holds Try.pinned (OpenSpec.ofChange kindingMoreWrong)

/- THE SECOND FORM. 'bulk': how many values and letters a reading holds, each counted each time it is reached (what is shared counts as often as it is met; a slice's spare places count too). A statement '..UptoSaid' is the law's where the arguments, and the package variables that the reading takes, are together of bulk at most 1048576: NARROWER than '..Said'. Prove '..Said' where nothing that the law and all that it calls make is longer than what came in: it says more and counts as full. Else prove '..UptoSaid'. A law counts once. -/
mutual
def uptoBulk {H : Type} : DataW H → Nat
  | .lit (.string bytes) => bytes.length + 1
  | .lit _ => 1
  | .nil => 1
  | .ptr d => uptoBulk d + 1
  | .slice elems spare => uptoBulkAll elems + uptoBulkAll spare + 1
  | .agg parts => uptoBulkAll parts + 1
  | .iface _ d => uptoBulk d + 1
  | .map entries => uptoBulkEntries entries + 1
  | .held _ => 1
def uptoBulkAll {H : Type} : List (DataW H) → Nat
  | [] => 0
  | d :: r => uptoBulk d + uptoBulkAll r
def uptoBulkEntries {H : Type} : List (Lit × DataW H) → Nat
  | [] => 0
  | x :: r => uptoBulkEntry x + uptoBulkEntries r
def uptoBulkEntry {H : Type} : Lit × DataW H → Nat
  | (.string bytes, d) => bytes.length + uptoBulk d + 1
  | (_, d) => uptoBulk d + 1
 end
def uptoSmall : (H : Type) → List (DataW H) → Bool := fun _ ds => decide (uptoBulkAll ds ≤ 1048576)
def OpenSpec.upto (s : _root_.Go.ChangeSpec) : _root_.Go.OpenSpec := { _root_.Go.OpenSpec.ofChange s with cond := some uptoSmall }

/-- 'marquetrylaw11.NormSteps', WHERE WHAT IT READS IS OF BULK AT MOST 1048576: true; the input reads as it did. -/
def normStepsUptoRow : OpenClaim := { program := "ytchepkicjfbfoaa", sum := "bfe95bb3440cacc9044adf9ad22ec5afd48d526accf56b4a588eba0026c41a3f", func := "marquetry/marquetrylaw11.NormSteps", spec := "normSteps", inPlace := ["internal/abi.NoEscape", "internal/bytealg.MakeNoZero"], unfollowed := true, recurses := true, apart := false, narrowed := true }
def NormStepsUptoSaid : Prop := normStepsUptoRow.holds Try.pinned (OpenSpec.upto normStepsSpec)

/-- 'marquetrylaw11.NormBeta', WHERE WHAT IT READS IS OF BULK AT MOST 1048576: true; the input reads as it did. -/
def normBetaUptoRow : OpenClaim := { program := "ytchepkicjfbfoaa", sum := "bfe95bb3440cacc9044adf9ad22ec5afd48d526accf56b4a588eba0026c41a3f", func := "marquetry/marquetrylaw11.NormBeta", spec := "normBeta", inPlace := ["internal/abi.NoEscape", "internal/bytealg.MakeNoZero"], unfollowed := true, recurses := true, apart := false, narrowed := true }
def NormBetaUptoSaid : Prop := normBetaUptoRow.holds Try.pinned (OpenSpec.upto normBetaSpec)

/-- 'marquetrylaw11.NormWithin', WHERE WHAT IT READS IS OF BULK AT MOST 1048576: true; the input reads as it did. -/
def normWithinUptoRow : OpenClaim := { program := "ytchepkicjfbfoaa", sum := "bfe95bb3440cacc9044adf9ad22ec5afd48d526accf56b4a588eba0026c41a3f", func := "marquetry/marquetrylaw11.NormWithin", spec := "normWithin", inPlace := ["internal/abi.NoEscape", "internal/bytealg.MakeNoZero"], unfollowed := true, recurses := true, apart := false, narrowed := true }
def NormWithinUptoSaid : Prop := normWithinUptoRow.holds Try.pinned (OpenSpec.upto normWithinSpec)

/-- 'marquetrylaw11.NormForms', WHERE WHAT IT READS IS OF BULK AT MOST 1048576: true; the input reads as it did. -/
def normFormsUptoRow : OpenClaim := { program := "ytchepkicjfbfoaa", sum := "bfe95bb3440cacc9044adf9ad22ec5afd48d526accf56b4a588eba0026c41a3f", func := "marquetry/marquetrylaw11.NormForms", spec := "normForms", inPlace := ["internal/abi.NoEscape", "internal/bytealg.MakeNoZero"], unfollowed := true, recurses := true, apart := false, narrowed := true }
def NormFormsUptoSaid : Prop := normFormsUptoRow.holds Try.pinned (OpenSpec.upto normFormsSpec)

/-- 'marquetrylaw11.NormEnds', WHERE WHAT IT READS IS OF BULK AT MOST 1048576: true; the input reads as it did. -/
def normEndsUptoRow : OpenClaim := { program := "ytchepkicjfbfoaa", sum := "bfe95bb3440cacc9044adf9ad22ec5afd48d526accf56b4a588eba0026c41a3f", func := "marquetry/marquetrylaw11.NormEnds", spec := "normEnds", inPlace := ["internal/abi.NoEscape", "internal/bytealg.MakeNoZero"], unfollowed := true, recurses := true, apart := false, narrowed := true }
def NormEndsUptoSaid : Prop := normEndsUptoRow.holds Try.pinned (OpenSpec.upto normEndsSpec)

/-- 'marquetrylaw13.TermChecks', WHERE WHAT IT READS IS OF BULK AT MOST 1048576: true; the input reads as it did. -/
def termChecksUptoRow : OpenClaim := { program := "ytchepkicjfbfoaa", sum := "bfe95bb3440cacc9044adf9ad22ec5afd48d526accf56b4a588eba0026c41a3f", func := "marquetry/marquetrylaw13.TermChecks", spec := "termChecks", inPlace := ["internal/abi.NoEscape", "internal/bytealg.MakeNoZero"], unfollowed := true, recurses := true, apart := false, narrowed := true }
def TermChecksUptoSaid : Prop := termChecksUptoRow.holds Try.pinned (OpenSpec.upto termChecksSpec)

/-- 'marquetrylaw13.TermValues', WHERE WHAT IT READS IS OF BULK AT MOST 1048576: true; the input reads as it did. -/
def termValuesUptoRow : OpenClaim := { program := "ytchepkicjfbfoaa", sum := "bfe95bb3440cacc9044adf9ad22ec5afd48d526accf56b4a588eba0026c41a3f", func := "marquetry/marquetrylaw13.TermValues", spec := "termValues", inPlace := ["internal/abi.NoEscape", "internal/bytealg.MakeNoZero"], unfollowed := true, recurses := true, apart := false, narrowed := true }
def TermValuesUptoSaid : Prop := termValuesUptoRow.holds Try.pinned (OpenSpec.upto termValuesSpec)

/-- 'marquetrylaw13.TermFree', WHERE WHAT IT READS IS OF BULK AT MOST 1048576: true; the input reads as it did. -/
def termFreeUptoRow : OpenClaim := { program := "ytchepkicjfbfoaa", sum := "bfe95bb3440cacc9044adf9ad22ec5afd48d526accf56b4a588eba0026c41a3f", func := "marquetry/marquetrylaw13.TermFree", spec := "termFree", inPlace := ["internal/abi.NoEscape", "internal/bytealg.MakeNoZero"], unfollowed := true, recurses := true, apart := false, narrowed := true }
def TermFreeUptoSaid : Prop := termFreeUptoRow.holds Try.pinned (OpenSpec.upto termFreeSpec)

/-- 'marquetrylaw13.TermBinds', WHERE WHAT IT READS IS OF BULK AT MOST 1048576: true; the input reads as it did. -/
def termBindsUptoRow : OpenClaim := { program := "ytchepkicjfbfoaa", sum := "bfe95bb3440cacc9044adf9ad22ec5afd48d526accf56b4a588eba0026c41a3f", func := "marquetry/marquetrylaw13.TermBinds", spec := "termBinds", inPlace := ["internal/abi.NoEscape", "internal/bytealg.MakeNoZero"], unfollowed := true, recurses := true, apart := false, narrowed := true }
def TermBindsUptoSaid : Prop := termBindsUptoRow.holds Try.pinned (OpenSpec.upto termBindsSpec)

/-- 'marquetrylaw13.TermParts', WHERE WHAT IT READS IS OF BULK AT MOST 1048576: true; the input reads as it did. -/
def termPartsUptoRow : OpenClaim := { program := "ytchepkicjfbfoaa", sum := "bfe95bb3440cacc9044adf9ad22ec5afd48d526accf56b4a588eba0026c41a3f", func := "marquetry/marquetrylaw13.TermParts", spec := "termParts", inPlace := ["internal/abi.NoEscape", "internal/bytealg.MakeNoZero"], unfollowed := true, recurses := true, apart := false, narrowed := true }
def TermPartsUptoSaid : Prop := termPartsUptoRow.holds Try.pinned (OpenSpec.upto termPartsSpec)

/-- 'marquetrylaw29.ExpoFills', WHERE WHAT IT READS IS OF BULK AT MOST 1048576: true; the input reads as it did. -/
def expoFillsUptoRow : OpenClaim := { program := "ytchepkicjfbfoaa", sum := "bfe95bb3440cacc9044adf9ad22ec5afd48d526accf56b4a588eba0026c41a3f", func := "marquetry/marquetrylaw29.ExpoFills", spec := "expoFills", unfollowed := true, recurses := true, apart := false, narrowed := true }
def ExpoFillsUptoSaid : Prop := expoFillsUptoRow.holds Try.pinned (OpenSpec.upto expoFillsSpec)

/-- 'marquetrylaw12.KindingFits', WHERE WHAT IT READS IS OF BULK AT MOST 1048576: true; the input reads as it did. -/
def kindingFitsUptoRow : OpenClaim := { program := "ytchepkicjfbfoaa", sum := "bfe95bb3440cacc9044adf9ad22ec5afd48d526accf56b4a588eba0026c41a3f", func := "marquetry/marquetrylaw12.KindingFits", spec := "kindingFits", inPlace := ["internal/abi.NoEscape", "internal/bytealg.MakeNoZero"], unfollowed := true, recurses := true, apart := false, narrowed := true }
def KindingFitsUptoSaid : Prop := kindingFitsUptoRow.holds Try.pinned (OpenSpec.upto kindingFitsSpec)

/-- 'marquetrylaw12.KindingKinds', WHERE WHAT IT READS IS OF BULK AT MOST 1048576: true; the input reads as it did. -/
def kindingKindsUptoRow : OpenClaim := { program := "ytchepkicjfbfoaa", sum := "bfe95bb3440cacc9044adf9ad22ec5afd48d526accf56b4a588eba0026c41a3f", func := "marquetry/marquetrylaw12.KindingKinds", spec := "kindingKinds", inPlace := ["internal/abi.NoEscape", "internal/bytealg.MakeNoZero"], unfollowed := true, recurses := true, apart := false, narrowed := true }
def KindingKindsUptoSaid : Prop := kindingKindsUptoRow.holds Try.pinned (OpenSpec.upto kindingKindsSpec)

/-- 'marquetrylaw12.KindingMore', WHERE WHAT IT READS IS OF BULK AT MOST 1048576: true; the input reads as it did. -/
def kindingMoreUptoRow : OpenClaim := { program := "ytchepkicjfbfoaa", sum := "bfe95bb3440cacc9044adf9ad22ec5afd48d526accf56b4a588eba0026c41a3f", func := "marquetry/marquetrylaw12.KindingMore", spec := "kindingMore", inPlace := ["internal/abi.NoEscape", "internal/bytealg.MakeNoZero"], unfollowed := true, recurses := true, apart := false, narrowed := true }
def KindingMoreUptoSaid : Prop := kindingMoreUptoRow.holds Try.pinned (OpenSpec.upto kindingMoreSpec)

end Rows
end Go.Proofs.Ytchepkicjfbfoaa
