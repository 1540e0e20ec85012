/-
  No cell of these rows narrows 'for every input' (looked for: loops, veiled, ifaces, maps, wideKeys, modest, calm, conditions, laid).
  DERIVED. THE GIVEN ROWS OF THIS SEAT. 12 by the template 'for every input the law returns true; each argument reads behind the call as it read before'; 0 by the template 'total and deterministic' (their statements: YtfblaochmhhknaaTotals.lean).
  GIVEN WITH THE SEED: the statements are not yours to turn. If you find one false, say at which input.
  Laid BY PROGRAM, IN A SANDBOX (cutbox-rows.mjs): the forced cells as the released guide's own fill.sh prints them over the translation ee1530657c1f0921… (all of the seat's roots in one cut). By AI agents, Wed Nov 11 2026. No macro, syntax, notation, axiom, sorry.
-/
import Derived.Test.YtfblaochmhhknaaChecked
import GoSem.Claim
import GoSem.ClaimJoined
import GoSem.ClaimMapViews
import Derived.JoinedTies
import Derived.KernelRfl
namespace Go.Proofs.Ytfblaochmhhknaa
/- THE CELL 'sum', in the pinned program and in every row, IS THE sha256 OF THE DUMP (.gsa) THAT YtfblaochmhhknaaProg.lean LOADS. Nothing in Lean hashes anything: it is a label: what it is worth is what the hold of that sum in a sandbox is worth. -/
noncomputable def Try.pinned : Pinned := { name := "ytfblaochmhhknaa", sum := "ee1530657c1f09217ab50582d257d235208c9d332bf7efe699eb3b27525a3bdc", checked := Try.checked }
namespace Rows
def none {H : Type} : Left H := { results := [], args := [] }

/-- 'marquetrylaw29.ExpoInstances': WHATEVER THE INPUT: true; the input reads as it did. -/
def expoInstancesSpec : ChangeSpec := { name := "expoInstances", fn := fun _ => fun
  | [d1, d2, d3] => { results := [.lit (.bool true)], args := [d1, d2, d3] }
  | _ => none }
def expoInstancesRow : OpenClaim := { program := "ytfblaochmhhknaa", sum := "ee1530657c1f09217ab50582d257d235208c9d332bf7efe699eb3b27525a3bdc", func := "marquetry/marquetrylaw29.ExpoInstances", spec := "expoInstances", unfollowed := true, recurses := true, apart := false }
def ExpoInstancesSaid : Prop := expoInstancesRow.holds Try.pinned (OpenSpec.ofChange expoInstancesSpec)

/-- ITS FALSE NEIGHBOUR: 'it returns false'. Refute it at one input. -/
def expoInstancesWrong : ChangeSpec := { name := "expoInstances", fn := fun _ => fun
  | [d1, d2, d3] => { results := [.lit (.bool false)], args := [d1, d2, d3] }
  | _ => none }
def ExpoInstancesWrongFalsely : Prop := expoInstancesRow.holds Try.pinned (OpenSpec.ofChange expoInstancesWrong)

/-- 'marquetrylaw29.ExpoCons': WHATEVER THE INPUT: true; the input reads as it did. -/
def expoConsSpec : ChangeSpec := { name := "expoCons", fn := fun _ => fun
  | [d1, d2] => { results := [.lit (.bool true)], args := [d1, d2] }
  | _ => none }
def expoConsRow : OpenClaim := { program := "ytfblaochmhhknaa", sum := "ee1530657c1f09217ab50582d257d235208c9d332bf7efe699eb3b27525a3bdc", func := "marquetry/marquetrylaw29.ExpoCons", spec := "expoCons", unfollowed := true, recurses := true, apart := false }
def ExpoConsSaid : Prop := expoConsRow.holds Try.pinned (OpenSpec.ofChange expoConsSpec)

/-- ITS FALSE NEIGHBOUR: 'it returns false'. Refute it at one input. -/
def expoConsWrong : ChangeSpec := { name := "expoCons", fn := fun _ => fun
  | [d1, d2] => { results := [.lit (.bool false)], args := [d1, d2] }
  | _ => none }
def ExpoConsWrongFalsely : Prop := expoConsRow.holds Try.pinned (OpenSpec.ofChange expoConsWrong)

/-- 'marquetrylaw10.CtorChecks': WHATEVER THE INPUT: true; the input reads as it did. -/
def ctorChecksSpec : ChangeSpec := { name := "ctorChecks", fn := fun _ => fun
  | [d] => { results := [.lit (.bool true)], args := [d] }
  | _ => none }
def ctorChecksRow : OpenClaim := { program := "ytfblaochmhhknaa", sum := "ee1530657c1f09217ab50582d257d235208c9d332bf7efe699eb3b27525a3bdc", func := "marquetry/marquetrylaw10.CtorChecks", spec := "ctorChecks", inPlace := ["internal/abi.NoEscape", "internal/bytealg.MakeNoZero"], unfollowed := true, recurses := true, apart := false }
def CtorChecksSaid : Prop := ctorChecksRow.holds Try.pinned (OpenSpec.ofChange ctorChecksSpec)

/-- ITS FALSE NEIGHBOUR: 'it returns false'. Refute it at one input. -/
def ctorChecksWrong : ChangeSpec := { name := "ctorChecks", fn := fun _ => fun
  | [d] => { results := [.lit (.bool false)], args := [d] }
  | _ => none }
def CtorChecksWrongFalsely : Prop := ctorChecksRow.holds Try.pinned (OpenSpec.ofChange ctorChecksWrong)

/-- 'marquetrylaw10.CtorSubsts': WHATEVER THE INPUT: true; the input reads as it did. -/
def ctorSubstsSpec : ChangeSpec := { name := "ctorSubsts", fn := fun _ => fun
  | [d1, d2, d3] => { results := [.lit (.bool true)], args := [d1, d2, d3] }
  | _ => none }
def ctorSubstsRow : OpenClaim := { program := "ytfblaochmhhknaa", sum := "ee1530657c1f09217ab50582d257d235208c9d332bf7efe699eb3b27525a3bdc", func := "marquetry/marquetrylaw10.CtorSubsts", spec := "ctorSubsts", inPlace := ["internal/abi.NoEscape", "internal/bytealg.MakeNoZero"], unfollowed := true, recurses := true, apart := false }
def CtorSubstsSaid : Prop := ctorSubstsRow.holds Try.pinned (OpenSpec.ofChange ctorSubstsSpec)

/-- ITS FALSE NEIGHBOUR: 'it returns false'. Refute it at one input. -/
def ctorSubstsWrong : ChangeSpec := { name := "ctorSubsts", fn := fun _ => fun
  | [d1, d2, d3] => { results := [.lit (.bool false)], args := [d1, d2, d3] }
  | _ => none }
def CtorSubstsWrongFalsely : Prop := ctorSubstsRow.holds Try.pinned (OpenSpec.ofChange ctorSubstsWrong)

/-- 'marquetrylaw10.CtorBack': WHATEVER THE INPUT: true; the input reads as it did. -/
def ctorBackSpec : ChangeSpec := { name := "ctorBack", fn := fun _ => fun
  | [d1, d2, d3] => { results := [.lit (.bool true)], args := [d1, d2, d3] }
  | _ => none }
def ctorBackRow : OpenClaim := { program := "ytfblaochmhhknaa", sum := "ee1530657c1f09217ab50582d257d235208c9d332bf7efe699eb3b27525a3bdc", func := "marquetry/marquetrylaw10.CtorBack", spec := "ctorBack", inPlace := ["internal/abi.NoEscape", "internal/bytealg.MakeNoZero"], unfollowed := true, recurses := true, apart := false }
def CtorBackSaid : Prop := ctorBackRow.holds Try.pinned (OpenSpec.ofChange ctorBackSpec)

/-- ITS FALSE NEIGHBOUR: 'it returns false'. Refute it at one input. -/
def ctorBackWrong : ChangeSpec := { name := "ctorBack", fn := fun _ => fun
  | [d1, d2, d3] => { results := [.lit (.bool false)], args := [d1, d2, d3] }
  | _ => none }
def CtorBackWrongFalsely : Prop := ctorBackRow.holds Try.pinned (OpenSpec.ofChange ctorBackWrong)

/-- 'marquetrylaw10.CtorShifts': WHATEVER THE INPUT: true; the input reads as it did. -/
def ctorShiftsSpec : ChangeSpec := { name := "ctorShifts", fn := fun _ => fun
  | [d1, d2, d3] => { results := [.lit (.bool true)], args := [d1, d2, d3] }
  | _ => none }
def ctorShiftsRow : OpenClaim := { program := "ytfblaochmhhknaa", sum := "ee1530657c1f09217ab50582d257d235208c9d332bf7efe699eb3b27525a3bdc", func := "marquetry/marquetrylaw10.CtorShifts", spec := "ctorShifts", inPlace := ["internal/abi.NoEscape", "internal/bytealg.MakeNoZero"], unfollowed := true, recurses := true, apart := false }
def CtorShiftsSaid : Prop := ctorShiftsRow.holds Try.pinned (OpenSpec.ofChange ctorShiftsSpec)

/-- ITS FALSE NEIGHBOUR: 'it returns false'. Refute it at one input. -/
def ctorShiftsWrong : ChangeSpec := { name := "ctorShifts", fn := fun _ => fun
  | [d1, d2, d3] => { results := [.lit (.bool false)], args := [d1, d2, d3] }
  | _ => none }
def CtorShiftsWrongFalsely : Prop := ctorShiftsRow.holds Try.pinned (OpenSpec.ofChange ctorShiftsWrong)

/-- 'marquetrylaw10.CtorGone': WHATEVER THE INPUT: true; the input reads as it did. -/
def ctorGoneSpec : ChangeSpec := { name := "ctorGone", fn := fun _ => fun
  | [d1, d2, d3] => { results := [.lit (.bool true)], args := [d1, d2, d3] }
  | _ => none }
def ctorGoneRow : OpenClaim := { program := "ytfblaochmhhknaa", sum := "ee1530657c1f09217ab50582d257d235208c9d332bf7efe699eb3b27525a3bdc", func := "marquetry/marquetrylaw10.CtorGone", spec := "ctorGone", inPlace := ["internal/abi.NoEscape", "internal/bytealg.MakeNoZero"], unfollowed := true, recurses := true, apart := false }
def CtorGoneSaid : Prop := ctorGoneRow.holds Try.pinned (OpenSpec.ofChange ctorGoneSpec)

/-- ITS FALSE NEIGHBOUR: 'it returns false'. Refute it at one input. -/
def ctorGoneWrong : ChangeSpec := { name := "ctorGone", fn := fun _ => fun
  | [d1, d2, d3] => { results := [.lit (.bool false)], args := [d1, d2, d3] }
  | _ => none }
def CtorGoneWrongFalsely : Prop := ctorGoneRow.holds Try.pinned (OpenSpec.ofChange ctorGoneWrong)

/-- 'marquetrylaw10.CtorVariable': WHATEVER THE INPUT: true; the input reads as it did. -/
def ctorVariableSpec : ChangeSpec := { name := "ctorVariable", fn := fun _ => fun
  | [d] => { results := [.lit (.bool true)], args := [d] }
  | _ => none }
def ctorVariableRow : OpenClaim := { program := "ytfblaochmhhknaa", sum := "ee1530657c1f09217ab50582d257d235208c9d332bf7efe699eb3b27525a3bdc", func := "marquetry/marquetrylaw10.CtorVariable", spec := "ctorVariable", inPlace := ["internal/abi.NoEscape", "internal/bytealg.MakeNoZero"], unfollowed := true, recurses := true, apart := false }
def CtorVariableSaid : Prop := ctorVariableRow.holds Try.pinned (OpenSpec.ofChange ctorVariableSpec)

/-- ITS FALSE NEIGHBOUR: 'it returns false'. Refute it at one input. -/
def ctorVariableWrong : ChangeSpec := { name := "ctorVariable", fn := fun _ => fun
  | [d] => { results := [.lit (.bool false)], args := [d] }
  | _ => none }
def CtorVariableWrongFalsely : Prop := ctorVariableRow.holds Try.pinned (OpenSpec.ofChange ctorVariableWrong)

/-- 'marquetrylaw13.TermChecks': WHATEVER THE INPUT: true; the input reads as it did. -/
def termChecksSpec : ChangeSpec := { name := "termChecks", fn := fun _ => fun
  | [d] => { results := [.lit (.bool true)], args := [d] }
  | _ => none }
def termChecksRow : OpenClaim := { program := "ytfblaochmhhknaa", sum := "ee1530657c1f09217ab50582d257d235208c9d332bf7efe699eb3b27525a3bdc", func := "marquetry/marquetrylaw13.TermChecks", spec := "termChecks", inPlace := ["internal/abi.NoEscape", "internal/bytealg.MakeNoZero"], unfollowed := true, recurses := true, apart := false }
def TermChecksSaid : Prop := termChecksRow.holds Try.pinned (OpenSpec.ofChange termChecksSpec)

/-- ITS FALSE NEIGHBOUR: 'it returns false'. Refute it at one input. -/
def termChecksWrong : ChangeSpec := { name := "termChecks", fn := fun _ => fun
  | [d] => { results := [.lit (.bool false)], args := [d] }
  | _ => none }
def TermChecksWrongFalsely : Prop := termChecksRow.holds Try.pinned (OpenSpec.ofChange termChecksWrong)

/-- 'marquetrylaw13.TermValues': WHATEVER THE INPUT: true; the input reads as it did. -/
def termValuesSpec : ChangeSpec := { name := "termValues", fn := fun _ => fun
  | [d] => { results := [.lit (.bool true)], args := [d] }
  | _ => none }
def termValuesRow : OpenClaim := { program := "ytfblaochmhhknaa", sum := "ee1530657c1f09217ab50582d257d235208c9d332bf7efe699eb3b27525a3bdc", func := "marquetry/marquetrylaw13.TermValues", spec := "termValues", inPlace := ["internal/abi.NoEscape", "internal/bytealg.MakeNoZero"], unfollowed := true, recurses := true, apart := false }
def TermValuesSaid : Prop := termValuesRow.holds Try.pinned (OpenSpec.ofChange termValuesSpec)

/-- ITS FALSE NEIGHBOUR: 'it returns false'. Refute it at one input. -/
def termValuesWrong : ChangeSpec := { name := "termValues", fn := fun _ => fun
  | [d] => { results := [.lit (.bool false)], args := [d] }
  | _ => none }
def TermValuesWrongFalsely : Prop := termValuesRow.holds Try.pinned (OpenSpec.ofChange termValuesWrong)

/-- 'marquetrylaw11.NormSteps': WHATEVER THE INPUT: true; the input reads as it did. -/
def normStepsSpec : ChangeSpec := { name := "normSteps", fn := fun _ => fun
  | [d] => { results := [.lit (.bool true)], args := [d] }
  | _ => none }
def normStepsRow : OpenClaim := { program := "ytfblaochmhhknaa", sum := "ee1530657c1f09217ab50582d257d235208c9d332bf7efe699eb3b27525a3bdc", func := "marquetry/marquetrylaw11.NormSteps", spec := "normSteps", inPlace := ["internal/abi.NoEscape", "internal/bytealg.MakeNoZero"], unfollowed := true, recurses := true, apart := false }
def NormStepsSaid : Prop := normStepsRow.holds Try.pinned (OpenSpec.ofChange normStepsSpec)

/-- ITS FALSE NEIGHBOUR: 'it returns false'. Refute it at one input. -/
def normStepsWrong : ChangeSpec := { name := "normSteps", fn := fun _ => fun
  | [d] => { results := [.lit (.bool false)], args := [d] }
  | _ => none }
def NormStepsWrongFalsely : Prop := normStepsRow.holds Try.pinned (OpenSpec.ofChange normStepsWrong)

/-- 'marquetrylaw29.ExpoFills': WHATEVER THE INPUT: true; the input reads as it did. -/
def expoFillsSpec : ChangeSpec := { name := "expoFills", fn := fun _ => fun
  | [d1, d2] => { results := [.lit (.bool true)], args := [d1, d2] }
  | _ => none }
def expoFillsRow : OpenClaim := { program := "ytfblaochmhhknaa", sum := "ee1530657c1f09217ab50582d257d235208c9d332bf7efe699eb3b27525a3bdc", func := "marquetry/marquetrylaw29.ExpoFills", spec := "expoFills", unfollowed := true, recurses := true, apart := false }
def ExpoFillsSaid : Prop := expoFillsRow.holds Try.pinned (OpenSpec.ofChange expoFillsSpec)

/-- ITS FALSE NEIGHBOUR: 'it returns false'. Refute it at one input. -/
def expoFillsWrong : ChangeSpec := { name := "expoFills", fn := fun _ => fun
  | [d1, d2] => { results := [.lit (.bool false)], args := [d1, d2] }
  | _ => none }
def ExpoFillsWrongFalsely : Prop := expoFillsRow.holds Try.pinned (OpenSpec.ofChange expoFillsWrong)

/- THE SECOND FORM. 'bulk': how many values and letters a reading holds, each counted each time it is reached (what is shared counts as often as it is met; a slice's spare places count too). A statement '..UptoSaid' is the law's where the arguments, and the package variables that the reading takes, are together of bulk at most 1048576: NARROWER than '..Said'. Prove '..Said' where nothing that the law and all that it calls make is longer than what came in: it says more and counts as full. Else prove '..UptoSaid'. A law counts once. -/
mutual
def uptoBulk {H : Type} : DataW H → Nat
  | .lit (.string bytes) => bytes.length + 1
  | .lit _ => 1
  | .nil => 1
  | .ptr d => uptoBulk d + 1
  | .slice elems spare => uptoBulkAll elems + uptoBulkAll spare + 1
  | .agg parts => uptoBulkAll parts + 1
  | .iface _ d => uptoBulk d + 1
  | .map entries => uptoBulkEntries entries + 1
  | .held _ => 1
def uptoBulkAll {H : Type} : List (DataW H) → Nat
  | [] => 0
  | d :: r => uptoBulk d + uptoBulkAll r
def uptoBulkEntries {H : Type} : List (Lit × DataW H) → Nat
  | [] => 0
  | x :: r => uptoBulkEntry x + uptoBulkEntries r
def uptoBulkEntry {H : Type} : Lit × DataW H → Nat
  | (.string bytes, d) => bytes.length + uptoBulk d + 1
  | (_, d) => uptoBulk d + 1
 end
def uptoSmall : (H : Type) → List (DataW H) → Bool := fun _ ds => decide (uptoBulkAll ds ≤ 1048576)
def OpenSpec.upto (s : _root_.Go.ChangeSpec) : _root_.Go.OpenSpec := { _root_.Go.OpenSpec.ofChange s with cond := some uptoSmall }

/-- 'marquetrylaw29.ExpoInstances', WHERE WHAT IT READS IS OF BULK AT MOST 1048576: true; the input reads as it did. -/
def expoInstancesUptoRow : OpenClaim := { program := "ytfblaochmhhknaa", sum := "ee1530657c1f09217ab50582d257d235208c9d332bf7efe699eb3b27525a3bdc", func := "marquetry/marquetrylaw29.ExpoInstances", spec := "expoInstances", unfollowed := true, recurses := true, apart := false, narrowed := true }
def ExpoInstancesUptoSaid : Prop := expoInstancesUptoRow.holds Try.pinned (OpenSpec.upto expoInstancesSpec)

/-- 'marquetrylaw29.ExpoCons', WHERE WHAT IT READS IS OF BULK AT MOST 1048576: true; the input reads as it did. -/
def expoConsUptoRow : OpenClaim := { program := "ytfblaochmhhknaa", sum := "ee1530657c1f09217ab50582d257d235208c9d332bf7efe699eb3b27525a3bdc", func := "marquetry/marquetrylaw29.ExpoCons", spec := "expoCons", unfollowed := true, recurses := true, apart := false, narrowed := true }
def ExpoConsUptoSaid : Prop := expoConsUptoRow.holds Try.pinned (OpenSpec.upto expoConsSpec)

/-- 'marquetrylaw10.CtorChecks', WHERE WHAT IT READS IS OF BULK AT MOST 1048576: true; the input reads as it did. -/
def ctorChecksUptoRow : OpenClaim := { program := "ytfblaochmhhknaa", sum := "ee1530657c1f09217ab50582d257d235208c9d332bf7efe699eb3b27525a3bdc", func := "marquetry/marquetrylaw10.CtorChecks", spec := "ctorChecks", inPlace := ["internal/abi.NoEscape", "internal/bytealg.MakeNoZero"], unfollowed := true, recurses := true, apart := false, narrowed := true }
def CtorChecksUptoSaid : Prop := ctorChecksUptoRow.holds Try.pinned (OpenSpec.upto ctorChecksSpec)

/-- 'marquetrylaw10.CtorSubsts', WHERE WHAT IT READS IS OF BULK AT MOST 1048576: true; the input reads as it did. -/
def ctorSubstsUptoRow : OpenClaim := { program := "ytfblaochmhhknaa", sum := "ee1530657c1f09217ab50582d257d235208c9d332bf7efe699eb3b27525a3bdc", func := "marquetry/marquetrylaw10.CtorSubsts", spec := "ctorSubsts", inPlace := ["internal/abi.NoEscape", "internal/bytealg.MakeNoZero"], unfollowed := true, recurses := true, apart := false, narrowed := true }
def CtorSubstsUptoSaid : Prop := ctorSubstsUptoRow.holds Try.pinned (OpenSpec.upto ctorSubstsSpec)

/-- 'marquetrylaw10.CtorBack', WHERE WHAT IT READS IS OF BULK AT MOST 1048576: true; the input reads as it did. -/
def ctorBackUptoRow : OpenClaim := { program := "ytfblaochmhhknaa", sum := "ee1530657c1f09217ab50582d257d235208c9d332bf7efe699eb3b27525a3bdc", func := "marquetry/marquetrylaw10.CtorBack", spec := "ctorBack", inPlace := ["internal/abi.NoEscape", "internal/bytealg.MakeNoZero"], unfollowed := true, recurses := true, apart := false, narrowed := true }
def CtorBackUptoSaid : Prop := ctorBackUptoRow.holds Try.pinned (OpenSpec.upto ctorBackSpec)

/-- 'marquetrylaw10.CtorShifts', WHERE WHAT IT READS IS OF BULK AT MOST 1048576: true; the input reads as it did. -/
def ctorShiftsUptoRow : OpenClaim := { program := "ytfblaochmhhknaa", sum := "ee1530657c1f09217ab50582d257d235208c9d332bf7efe699eb3b27525a3bdc", func := "marquetry/marquetrylaw10.CtorShifts", spec := "ctorShifts", inPlace := ["internal/abi.NoEscape", "internal/bytealg.MakeNoZero"], unfollowed := true, recurses := true, apart := false, narrowed := true }
def CtorShiftsUptoSaid : Prop := ctorShiftsUptoRow.holds Try.pinned (OpenSpec.upto ctorShiftsSpec)

/-- 'marquetrylaw10.CtorGone', WHERE WHAT IT READS IS OF BULK AT MOST 1048576: true; the input reads as it did. -/
def ctorGoneUptoRow : OpenClaim := { program := "ytfblaochmhhknaa", sum := "ee1530657c1f09217ab50582d257d235208c9d332bf7efe699eb3b27525a3bdc", func := "marquetry/marquetrylaw10.CtorGone", spec := "ctorGone", inPlace := ["internal/abi.NoEscape", "internal/bytealg.MakeNoZero"], unfollowed := true, recurses := true, apart := false, narrowed := true }
def CtorGoneUptoSaid : Prop := ctorGoneUptoRow.holds Try.pinned (OpenSpec.upto ctorGoneSpec)

/-- 'marquetrylaw10.CtorVariable', WHERE WHAT IT READS IS OF BULK AT MOST 1048576: true; the input reads as it did. -/
def ctorVariableUptoRow : OpenClaim := { program := "ytfblaochmhhknaa", sum := "ee1530657c1f09217ab50582d257d235208c9d332bf7efe699eb3b27525a3bdc", func := "marquetry/marquetrylaw10.CtorVariable", spec := "ctorVariable", inPlace := ["internal/abi.NoEscape", "internal/bytealg.MakeNoZero"], unfollowed := true, recurses := true, apart := false, narrowed := true }
def CtorVariableUptoSaid : Prop := ctorVariableUptoRow.holds Try.pinned (OpenSpec.upto ctorVariableSpec)

/-- 'marquetrylaw13.TermChecks', WHERE WHAT IT READS IS OF BULK AT MOST 1048576: true; the input reads as it did. -/
def termChecksUptoRow : OpenClaim := { program := "ytfblaochmhhknaa", sum := "ee1530657c1f09217ab50582d257d235208c9d332bf7efe699eb3b27525a3bdc", func := "marquetry/marquetrylaw13.TermChecks", spec := "termChecks", inPlace := ["internal/abi.NoEscape", "internal/bytealg.MakeNoZero"], unfollowed := true, recurses := true, apart := false, narrowed := true }
def TermChecksUptoSaid : Prop := termChecksUptoRow.holds Try.pinned (OpenSpec.upto termChecksSpec)

/-- 'marquetrylaw13.TermValues', WHERE WHAT IT READS IS OF BULK AT MOST 1048576: true; the input reads as it did. -/
def termValuesUptoRow : OpenClaim := { program := "ytfblaochmhhknaa", sum := "ee1530657c1f09217ab50582d257d235208c9d332bf7efe699eb3b27525a3bdc", func := "marquetry/marquetrylaw13.TermValues", spec := "termValues", inPlace := ["internal/abi.NoEscape", "internal/bytealg.MakeNoZero"], unfollowed := true, recurses := true, apart := false, narrowed := true }
def TermValuesUptoSaid : Prop := termValuesUptoRow.holds Try.pinned (OpenSpec.upto termValuesSpec)

/-- 'marquetrylaw11.NormSteps', WHERE WHAT IT READS IS OF BULK AT MOST 1048576: true; the input reads as it did. -/
def normStepsUptoRow : OpenClaim := { program := "ytfblaochmhhknaa", sum := "ee1530657c1f09217ab50582d257d235208c9d332bf7efe699eb3b27525a3bdc", func := "marquetry/marquetrylaw11.NormSteps", spec := "normSteps", inPlace := ["internal/abi.NoEscape", "internal/bytealg.MakeNoZero"], unfollowed := true, recurses := true, apart := false, narrowed := true }
def NormStepsUptoSaid : Prop := normStepsUptoRow.holds Try.pinned (OpenSpec.upto normStepsSpec)

/-- 'marquetrylaw29.ExpoFills', WHERE WHAT IT READS IS OF BULK AT MOST 1048576: true; the input reads as it did. -/
def expoFillsUptoRow : OpenClaim := { program := "ytfblaochmhhknaa", sum := "ee1530657c1f09217ab50582d257d235208c9d332bf7efe699eb3b27525a3bdc", func := "marquetry/marquetrylaw29.ExpoFills", spec := "expoFills", unfollowed := true, recurses := true, apart := false, narrowed := true }
def ExpoFillsUptoSaid : Prop := expoFillsUptoRow.holds Try.pinned (OpenSpec.upto expoFillsSpec)

end Rows
end Go.Proofs.Ytfblaochmhhknaa
