/-
  No cell of these rows narrows 'for every input' (looked for: loops, veiled, ifaces, maps, wideKeys, modest, calm, conditions, laid).
  DERIVED. THE GIVEN ROWS OF THIS SEAT. 3 by the template 'for every input the law returns true; each argument reads behind the call as it read before'; 0 by the template 'total and deterministic' (their statements: YtlgajkoplklkiaaTotals.lean).
  GIVEN WITH THE SEED: the statements are not yours to turn. If you find one false, say at which input.
  Laid BY PROGRAM, IN A SANDBOX (cutbox-rows.mjs): the forced cells as the released guide's own fill.sh prints them over the translation bc0dd70c67408749… (all of the seat's roots in one cut). By AI agents, Wed Nov 11 2026. No macro, syntax, notation, axiom, sorry.
-/
import Derived.Test.YtlgajkoplklkiaaChecked
import GoSem.Claim
import GoSem.ClaimJoined
import GoSem.ClaimMapViews
import Derived.JoinedTies
import Derived.KernelRfl
namespace Go.Proofs.Ytlgajkoplklkiaa
/- THE CELL 'sum', in the pinned program and in every row, IS THE sha256 OF THE DUMP (.gsa) THAT YtlgajkoplklkiaaProg.lean LOADS. Nothing in Lean hashes anything: it is a label: what it is worth is what the hold of that sum in a sandbox is worth. -/
noncomputable def Try.pinned : Pinned := { name := "ytlgajkoplklkiaa", sum := "bc0dd70c674087498e8a5d661221605719b9dd62d04b1245b67e78d8249f132a", checked := Try.checked }
namespace Rows
def none {H : Type} : Left H := { results := [], args := [] }

/-- 'marquetrylaw18.MachineRefuses': WHATEVER THE INPUT: true; the input reads as it did. -/
def machineRefusesSpec : ChangeSpec := { name := "machineRefuses", fn := fun _ => fun
  | [d1, d2] => { results := [.lit (.bool true)], args := [d1, d2] }
  | _ => none }
def machineRefusesRow : OpenClaim := { program := "ytlgajkoplklkiaa", sum := "bc0dd70c674087498e8a5d661221605719b9dd62d04b1245b67e78d8249f132a", func := "marquetry/marquetrylaw18.MachineRefuses", spec := "machineRefuses", unfollowed := true, recurses := true, apart := false }
def MachineRefusesSaid : Prop := machineRefusesRow.holds Try.pinned (OpenSpec.ofChange machineRefusesSpec)

/-- ITS FALSE NEIGHBOUR: 'it returns false'. Refute it at one input. -/
def machineRefusesWrong : ChangeSpec := { name := "machineRefuses", fn := fun _ => fun
  | [d1, d2] => { results := [.lit (.bool false)], args := [d1, d2] }
  | _ => none }
def MachineRefusesWrongFalsely : Prop := machineRefusesRow.holds Try.pinned (OpenSpec.ofChange machineRefusesWrong)

/-- 'marquetrylaw18.MachineFuel': WHATEVER THE INPUT: true; the input reads as it did. -/
def machineFuelSpec : ChangeSpec := { name := "machineFuel", fn := fun _ => fun
  | [d1, d2] => { results := [.lit (.bool true)], args := [d1, d2] }
  | _ => none }
def machineFuelRow : OpenClaim := { program := "ytlgajkoplklkiaa", sum := "bc0dd70c674087498e8a5d661221605719b9dd62d04b1245b67e78d8249f132a", func := "marquetry/marquetrylaw18.MachineFuel", spec := "machineFuel", unfollowed := true, recurses := true, apart := false }
def MachineFuelSaid : Prop := machineFuelRow.holds Try.pinned (OpenSpec.ofChange machineFuelSpec)

/-- ITS FALSE NEIGHBOUR: 'it returns false'. Refute it at one input. -/
def machineFuelWrong : ChangeSpec := { name := "machineFuel", fn := fun _ => fun
  | [d1, d2] => { results := [.lit (.bool false)], args := [d1, d2] }
  | _ => none }
def MachineFuelWrongFalsely : Prop := machineFuelRow.holds Try.pinned (OpenSpec.ofChange machineFuelWrong)

/-- 'marquetrylaw18.MachineNeed': WHATEVER THE INPUT: true; the input reads as it did. -/
def machineNeedSpec : ChangeSpec := { name := "machineNeed", fn := fun _ => fun
  | [d1, d2] => { results := [.lit (.bool true)], args := [d1, d2] }
  | _ => none }
def machineNeedRow : OpenClaim := { program := "ytlgajkoplklkiaa", sum := "bc0dd70c674087498e8a5d661221605719b9dd62d04b1245b67e78d8249f132a", func := "marquetry/marquetrylaw18.MachineNeed", spec := "machineNeed", unfollowed := true, recurses := true, apart := false }
def MachineNeedSaid : Prop := machineNeedRow.holds Try.pinned (OpenSpec.ofChange machineNeedSpec)

/-- ITS FALSE NEIGHBOUR: 'it returns false'. Refute it at one input. -/
def machineNeedWrong : ChangeSpec := { name := "machineNeed", fn := fun _ => fun
  | [d1, d2] => { results := [.lit (.bool false)], args := [d1, d2] }
  | _ => none }
def MachineNeedWrongFalsely : Prop := machineNeedRow.holds Try.pinned (OpenSpec.ofChange machineNeedWrong)

/- THE SECOND FORM. 'bulk': how many values and letters a reading holds, each counted each time it is reached (what is shared counts as often as it is met; a slice's spare places count too). A statement '..UptoSaid' is the law's where the arguments, and the package variables that the reading takes, are together of bulk at most 1048576: NARROWER than '..Said'. Prove '..Said' where nothing that the law and all that it calls make is longer than what came in: it says more and counts as full. Else prove '..UptoSaid'. A law counts once. -/
mutual
def uptoBulk {H : Type} : DataW H → Nat
  | .lit (.string bytes) => bytes.length + 1
  | .lit _ => 1
  | .nil => 1
  | .ptr d => uptoBulk d + 1
  | .slice elems spare => uptoBulkAll elems + uptoBulkAll spare + 1
  | .agg parts => uptoBulkAll parts + 1
  | .iface _ d => uptoBulk d + 1
  | .map entries => uptoBulkEntries entries + 1
  | .held _ => 1
def uptoBulkAll {H : Type} : List (DataW H) → Nat
  | [] => 0
  | d :: r => uptoBulk d + uptoBulkAll r
def uptoBulkEntries {H : Type} : List (Lit × DataW H) → Nat
  | [] => 0
  | x :: r => uptoBulkEntry x + uptoBulkEntries r
def uptoBulkEntry {H : Type} : Lit × DataW H → Nat
  | (.string bytes, d) => bytes.length + uptoBulk d + 1
  | (_, d) => uptoBulk d + 1
 end
def uptoSmall : (H : Type) → List (DataW H) → Bool := fun _ ds => decide (uptoBulkAll ds ≤ 1048576)
def OpenSpec.upto (s : _root_.Go.ChangeSpec) : _root_.Go.OpenSpec := { _root_.Go.OpenSpec.ofChange s with cond := some uptoSmall }

/-- 'marquetrylaw18.MachineRefuses', WHERE WHAT IT READS IS OF BULK AT MOST 1048576: true; the input reads as it did. -/
def machineRefusesUptoRow : OpenClaim := { program := "ytlgajkoplklkiaa", sum := "bc0dd70c674087498e8a5d661221605719b9dd62d04b1245b67e78d8249f132a", func := "marquetry/marquetrylaw18.MachineRefuses", spec := "machineRefuses", unfollowed := true, recurses := true, apart := false, narrowed := true }
def MachineRefusesUptoSaid : Prop := machineRefusesUptoRow.holds Try.pinned (OpenSpec.upto machineRefusesSpec)

/-- 'marquetrylaw18.MachineFuel', WHERE WHAT IT READS IS OF BULK AT MOST 1048576: true; the input reads as it did. -/
def machineFuelUptoRow : OpenClaim := { program := "ytlgajkoplklkiaa", sum := "bc0dd70c674087498e8a5d661221605719b9dd62d04b1245b67e78d8249f132a", func := "marquetry/marquetrylaw18.MachineFuel", spec := "machineFuel", unfollowed := true, recurses := true, apart := false, narrowed := true }
def MachineFuelUptoSaid : Prop := machineFuelUptoRow.holds Try.pinned (OpenSpec.upto machineFuelSpec)

/-- 'marquetrylaw18.MachineNeed', WHERE WHAT IT READS IS OF BULK AT MOST 1048576: true; the input reads as it did. -/
def machineNeedUptoRow : OpenClaim := { program := "ytlgajkoplklkiaa", sum := "bc0dd70c674087498e8a5d661221605719b9dd62d04b1245b67e78d8249f132a", func := "marquetry/marquetrylaw18.MachineNeed", spec := "machineNeed", unfollowed := true, recurses := true, apart := false, narrowed := true }
def MachineNeedUptoSaid : Prop := machineNeedUptoRow.holds Try.pinned (OpenSpec.upto machineNeedSpec)

end Rows
end Go.Proofs.Ytlgajkoplklkiaa
