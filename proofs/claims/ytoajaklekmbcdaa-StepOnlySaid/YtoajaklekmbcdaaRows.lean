/-
  No cell of these rows narrows 'for every input' (looked for: loops, veiled, ifaces, maps, wideKeys, modest, calm, conditions, laid).
  DERIVED. THE GIVEN ROWS OF THIS SEAT. 11 by the template 'for every input the law returns true; each argument reads behind the call as it read before'; 0 by the template 'total and deterministic' (their statements: YtoajaklekmbcdaaTotals.lean).
  GIVEN WITH THE SEED: the statements are not yours to turn. If you find one false, say at which input.
  Laid BY PROGRAM, IN A SANDBOX (cutbox-rows.mjs): the forced cells as the released guide's own fill.sh prints them over the translation 98b69fd09802ede1… (all of the seat's roots in one cut). By AI agents, Wed Nov 11 2026. No macro, syntax, notation, axiom, sorry.
-/
import Derived.Test.YtoajaklekmbcdaaChecked
import GoSem.Claim
import GoSem.ClaimJoined
import GoSem.ClaimMapViews
import Derived.JoinedTies
import Derived.KernelRfl
namespace Go.Proofs.Ytoajaklekmbcdaa
/- THE CELL 'sum', in the pinned program and in every row, IS THE sha256 OF THE DUMP (.gsa) THAT YtoajaklekmbcdaaProg.lean LOADS. Nothing in Lean hashes anything: it is a label: what it is worth is what the hold of that sum in a sandbox is worth. -/
noncomputable def Try.pinned : Pinned := { name := "ytoajaklekmbcdaa", sum := "98b69fd09802ede138a564686530cb8fbd657b1503c2f6629b097b497daf994e", checked := Try.checked }
namespace Rows
def none {H : Type} : Left H := { results := [], args := [] }

/-- 'marquetrylaw12.KindingSubst': WHATEVER THE INPUT: true; the input reads as it did. -/
def kindingSubstSpec : ChangeSpec := { name := "kindingSubst", fn := fun _ => fun
  | [d1, d2, d3] => { results := [.lit (.bool true)], args := [d1, d2, d3] }
  | _ => none }
def kindingSubstRow : OpenClaim := { program := "ytoajaklekmbcdaa", sum := "98b69fd09802ede138a564686530cb8fbd657b1503c2f6629b097b497daf994e", func := "marquetry/marquetrylaw12.KindingSubst", spec := "kindingSubst", inPlace := ["internal/abi.NoEscape", "internal/bytealg.MakeNoZero"], unfollowed := true, recurses := true, apart := false }
def KindingSubstSaid : Prop := kindingSubstRow.holds Try.pinned (OpenSpec.ofChange kindingSubstSpec)

/-- ITS FALSE NEIGHBOUR: 'it returns false'. Refute it at one input. -/
def kindingSubstWrong : ChangeSpec := { name := "kindingSubst", fn := fun _ => fun
  | [d1, d2, d3] => { results := [.lit (.bool false)], args := [d1, d2, d3] }
  | _ => none }
def KindingSubstWrongFalsely : Prop := kindingSubstRow.holds Try.pinned (OpenSpec.ofChange kindingSubstWrong)

/-- 'marquetrylaw15.SubstTerms': WHATEVER THE INPUT: true; the input reads as it did. -/
def substTermsSpec : ChangeSpec := { name := "substTerms", fn := fun _ => fun
  | [d1, d2, d3] => { results := [.lit (.bool true)], args := [d1, d2, d3] }
  | _ => none }
def substTermsRow : OpenClaim := { program := "ytoajaklekmbcdaa", sum := "98b69fd09802ede138a564686530cb8fbd657b1503c2f6629b097b497daf994e", func := "marquetry/marquetrylaw15.SubstTerms", spec := "substTerms", inPlace := ["internal/abi.NoEscape", "internal/bytealg.MakeNoZero"], unfollowed := true, recurses := true, apart := false }
def SubstTermsSaid : Prop := substTermsRow.holds Try.pinned (OpenSpec.ofChange substTermsSpec)

/-- ITS FALSE NEIGHBOUR: 'it returns false'. Refute it at one input. -/
def substTermsWrong : ChangeSpec := { name := "substTerms", fn := fun _ => fun
  | [d1, d2, d3] => { results := [.lit (.bool false)], args := [d1, d2, d3] }
  | _ => none }
def SubstTermsWrongFalsely : Prop := substTermsRow.holds Try.pinned (OpenSpec.ofChange substTermsWrong)

/-- 'marquetrylaw15.SubstOrder': WHATEVER THE INPUT: true; the input reads as it did. -/
def substOrderSpec : ChangeSpec := { name := "substOrder", fn := fun _ => fun
  | [d1, d2, d3] => { results := [.lit (.bool true)], args := [d1, d2, d3] }
  | _ => none }
def substOrderRow : OpenClaim := { program := "ytoajaklekmbcdaa", sum := "98b69fd09802ede138a564686530cb8fbd657b1503c2f6629b097b497daf994e", func := "marquetry/marquetrylaw15.SubstOrder", spec := "substOrder", inPlace := ["internal/abi.NoEscape", "internal/bytealg.MakeNoZero"], unfollowed := true, recurses := true, apart := false }
def SubstOrderSaid : Prop := substOrderRow.holds Try.pinned (OpenSpec.ofChange substOrderSpec)

/-- ITS FALSE NEIGHBOUR: 'it returns false'. Refute it at one input. -/
def substOrderWrong : ChangeSpec := { name := "substOrder", fn := fun _ => fun
  | [d1, d2, d3] => { results := [.lit (.bool false)], args := [d1, d2, d3] }
  | _ => none }
def SubstOrderWrongFalsely : Prop := substOrderRow.holds Try.pinned (OpenSpec.ofChange substOrderWrong)

/-- 'marquetrylaw12.KindingNorm': WHATEVER THE INPUT: true; the input reads as it did. -/
def kindingNormSpec : ChangeSpec := { name := "kindingNorm", fn := fun _ => fun
  | [d1, d2] => { results := [.lit (.bool true)], args := [d1, d2] }
  | _ => none }
def kindingNormRow : OpenClaim := { program := "ytoajaklekmbcdaa", sum := "98b69fd09802ede138a564686530cb8fbd657b1503c2f6629b097b497daf994e", func := "marquetry/marquetrylaw12.KindingNorm", spec := "kindingNorm", inPlace := ["internal/abi.NoEscape", "internal/bytealg.MakeNoZero"], unfollowed := true, recurses := true, apart := false }
def KindingNormSaid : Prop := kindingNormRow.holds Try.pinned (OpenSpec.ofChange kindingNormSpec)

/-- ITS FALSE NEIGHBOUR: 'it returns false'. Refute it at one input. -/
def kindingNormWrong : ChangeSpec := { name := "kindingNorm", fn := fun _ => fun
  | [d1, d2] => { results := [.lit (.bool false)], args := [d1, d2] }
  | _ => none }
def KindingNormWrongFalsely : Prop := kindingNormRow.holds Try.pinned (OpenSpec.ofChange kindingNormWrong)

/-- 'marquetrylaw15.SubstCons': WHATEVER THE INPUT: true; the input reads as it did. -/
def substConsSpec : ChangeSpec := { name := "substCons", fn := fun _ => fun
  | [d1, d2, d3] => { results := [.lit (.bool true)], args := [d1, d2, d3] }
  | _ => none }
def substConsRow : OpenClaim := { program := "ytoajaklekmbcdaa", sum := "98b69fd09802ede138a564686530cb8fbd657b1503c2f6629b097b497daf994e", func := "marquetry/marquetrylaw15.SubstCons", spec := "substCons", inPlace := ["internal/abi.NoEscape", "internal/bytealg.MakeNoZero"], unfollowed := true, recurses := true, apart := false }
def SubstConsSaid : Prop := substConsRow.holds Try.pinned (OpenSpec.ofChange substConsSpec)

/-- ITS FALSE NEIGHBOUR: 'it returns false'. Refute it at one input. -/
def substConsWrong : ChangeSpec := { name := "substCons", fn := fun _ => fun
  | [d1, d2, d3] => { results := [.lit (.bool false)], args := [d1, d2, d3] }
  | _ => none }
def SubstConsWrongFalsely : Prop := substConsRow.holds Try.pinned (OpenSpec.ofChange substConsWrong)

/-- 'marquetrylaw15.SubstGone': WHATEVER THE INPUT: true; the input reads as it did. -/
def substGoneSpec : ChangeSpec := { name := "substGone", fn := fun _ => fun
  | [d1, d2, d3] => { results := [.lit (.bool true)], args := [d1, d2, d3] }
  | _ => none }
def substGoneRow : OpenClaim := { program := "ytoajaklekmbcdaa", sum := "98b69fd09802ede138a564686530cb8fbd657b1503c2f6629b097b497daf994e", func := "marquetry/marquetrylaw15.SubstGone", spec := "substGone", inPlace := ["internal/abi.NoEscape", "internal/bytealg.MakeNoZero"], unfollowed := true, recurses := true, apart := false }
def SubstGoneSaid : Prop := substGoneRow.holds Try.pinned (OpenSpec.ofChange substGoneSpec)

/-- ITS FALSE NEIGHBOUR: 'it returns false'. Refute it at one input. -/
def substGoneWrong : ChangeSpec := { name := "substGone", fn := fun _ => fun
  | [d1, d2, d3] => { results := [.lit (.bool false)], args := [d1, d2, d3] }
  | _ => none }
def SubstGoneWrongFalsely : Prop := substGoneRow.holds Try.pinned (OpenSpec.ofChange substGoneWrong)

/-- 'marquetrylaw18.MachineRefuses': WHATEVER THE INPUT: true; the input reads as it did. -/
def machineRefusesSpec : ChangeSpec := { name := "machineRefuses", fn := fun _ => fun
  | [d1, d2] => { results := [.lit (.bool true)], args := [d1, d2] }
  | _ => none }
def machineRefusesRow : OpenClaim := { program := "ytoajaklekmbcdaa", sum := "98b69fd09802ede138a564686530cb8fbd657b1503c2f6629b097b497daf994e", func := "marquetry/marquetrylaw18.MachineRefuses", spec := "machineRefuses", unfollowed := true, recurses := true, apart := false }
def MachineRefusesSaid : Prop := machineRefusesRow.holds Try.pinned (OpenSpec.ofChange machineRefusesSpec)

/-- ITS FALSE NEIGHBOUR: 'it returns false'. Refute it at one input. -/
def machineRefusesWrong : ChangeSpec := { name := "machineRefuses", fn := fun _ => fun
  | [d1, d2] => { results := [.lit (.bool false)], args := [d1, d2] }
  | _ => none }
def MachineRefusesWrongFalsely : Prop := machineRefusesRow.holds Try.pinned (OpenSpec.ofChange machineRefusesWrong)

/-- 'marquetrylaw18.MachineFuel': WHATEVER THE INPUT: true; the input reads as it did. -/
def machineFuelSpec : ChangeSpec := { name := "machineFuel", fn := fun _ => fun
  | [d1, d2] => { results := [.lit (.bool true)], args := [d1, d2] }
  | _ => none }
def machineFuelRow : OpenClaim := { program := "ytoajaklekmbcdaa", sum := "98b69fd09802ede138a564686530cb8fbd657b1503c2f6629b097b497daf994e", func := "marquetry/marquetrylaw18.MachineFuel", spec := "machineFuel", unfollowed := true, recurses := true, apart := false }
def MachineFuelSaid : Prop := machineFuelRow.holds Try.pinned (OpenSpec.ofChange machineFuelSpec)

/-- ITS FALSE NEIGHBOUR: 'it returns false'. Refute it at one input. -/
def machineFuelWrong : ChangeSpec := { name := "machineFuel", fn := fun _ => fun
  | [d1, d2] => { results := [.lit (.bool false)], args := [d1, d2] }
  | _ => none }
def MachineFuelWrongFalsely : Prop := machineFuelRow.holds Try.pinned (OpenSpec.ofChange machineFuelWrong)

/-- 'marquetrylaw18.MachineNeed': WHATEVER THE INPUT: true; the input reads as it did. -/
def machineNeedSpec : ChangeSpec := { name := "machineNeed", fn := fun _ => fun
  | [d1, d2] => { results := [.lit (.bool true)], args := [d1, d2] }
  | _ => none }
def machineNeedRow : OpenClaim := { program := "ytoajaklekmbcdaa", sum := "98b69fd09802ede138a564686530cb8fbd657b1503c2f6629b097b497daf994e", func := "marquetry/marquetrylaw18.MachineNeed", spec := "machineNeed", unfollowed := true, recurses := true, apart := false }
def MachineNeedSaid : Prop := machineNeedRow.holds Try.pinned (OpenSpec.ofChange machineNeedSpec)

/-- ITS FALSE NEIGHBOUR: 'it returns false'. Refute it at one input. -/
def machineNeedWrong : ChangeSpec := { name := "machineNeed", fn := fun _ => fun
  | [d1, d2] => { results := [.lit (.bool false)], args := [d1, d2] }
  | _ => none }
def MachineNeedWrongFalsely : Prop := machineNeedRow.holds Try.pinned (OpenSpec.ofChange machineNeedWrong)

/-- 'marquetrylaw16.StepNumbers': WHATEVER THE INPUT: true; the input reads as it did. -/
def stepNumbersSpec : ChangeSpec := { name := "stepNumbers", fn := fun _ => fun
  | [d1, d2] => { results := [.lit (.bool true)], args := [d1, d2] }
  | _ => none }
def stepNumbersRow : OpenClaim := { program := "ytoajaklekmbcdaa", sum := "98b69fd09802ede138a564686530cb8fbd657b1503c2f6629b097b497daf994e", func := "marquetry/marquetrylaw16.StepNumbers", spec := "stepNumbers", inPlace := ["internal/abi.NoEscape", "internal/bytealg.MakeNoZero"], unfollowed := true, recurses := true, apart := false }
def StepNumbersSaid : Prop := stepNumbersRow.holds Try.pinned (OpenSpec.ofChange stepNumbersSpec)

/-- ITS FALSE NEIGHBOUR: 'it returns false'. Refute it at one input. -/
def stepNumbersWrong : ChangeSpec := { name := "stepNumbers", fn := fun _ => fun
  | [d1, d2] => { results := [.lit (.bool false)], args := [d1, d2] }
  | _ => none }
def StepNumbersWrongFalsely : Prop := stepNumbersRow.holds Try.pinned (OpenSpec.ofChange stepNumbersWrong)

/-- 'marquetrylaw16.StepOnly': WHATEVER THE INPUT: true; the input reads as it did. -/
def stepOnlySpec : ChangeSpec := { name := "stepOnly", fn := fun _ => fun
  | [d] => { results := [.lit (.bool true)], args := [d] }
  | _ => none }
def stepOnlyRow : OpenClaim := { program := "ytoajaklekmbcdaa", sum := "98b69fd09802ede138a564686530cb8fbd657b1503c2f6629b097b497daf994e", func := "marquetry/marquetrylaw16.StepOnly", spec := "stepOnly", inPlace := ["internal/abi.NoEscape", "internal/bytealg.MakeNoZero"], unfollowed := true, recurses := true, apart := false }
def StepOnlySaid : Prop := stepOnlyRow.holds Try.pinned (OpenSpec.ofChange stepOnlySpec)

/-- ITS FALSE NEIGHBOUR: 'it returns false'. Refute it at one input. -/
def stepOnlyWrong : ChangeSpec := { name := "stepOnly", fn := fun _ => fun
  | [d] => { results := [.lit (.bool false)], args := [d] }
  | _ => none }
def StepOnlyWrongFalsely : Prop := stepOnlyRow.holds Try.pinned (OpenSpec.ofChange stepOnlyWrong)

/- THE SECOND FORM. 'bulk': how many values and letters a reading holds, each counted each time it is reached (what is shared counts as often as it is met; a slice's spare places count too). A statement '..UptoSaid' is the law's where the arguments, and the package variables that the reading takes, are together of bulk at most 1048576: NARROWER than '..Said'. Prove '..Said' where nothing that the law and all that it calls make is longer than what came in: it says more and counts as full. Else prove '..UptoSaid'. A law counts once. -/
mutual
def uptoBulk {H : Type} : DataW H → Nat
  | .lit (.string bytes) => bytes.length + 1
  | .lit _ => 1
  | .nil => 1
  | .ptr d => uptoBulk d + 1
  | .slice elems spare => uptoBulkAll elems + uptoBulkAll spare + 1
  | .agg parts => uptoBulkAll parts + 1
  | .iface _ d => uptoBulk d + 1
  | .map entries => uptoBulkEntries entries + 1
  | .held _ => 1
def uptoBulkAll {H : Type} : List (DataW H) → Nat
  | [] => 0
  | d :: r => uptoBulk d + uptoBulkAll r
def uptoBulkEntries {H : Type} : List (Lit × DataW H) → Nat
  | [] => 0
  | x :: r => uptoBulkEntry x + uptoBulkEntries r
def uptoBulkEntry {H : Type} : Lit × DataW H → Nat
  | (.string bytes, d) => bytes.length + uptoBulk d + 1
  | (_, d) => uptoBulk d + 1
 end
def uptoSmall : (H : Type) → List (DataW H) → Bool := fun _ ds => decide (uptoBulkAll ds ≤ 1048576)
def OpenSpec.upto (s : _root_.Go.ChangeSpec) : _root_.Go.OpenSpec := { _root_.Go.OpenSpec.ofChange s with cond := some uptoSmall }

/-- 'marquetrylaw12.KindingSubst', WHERE WHAT IT READS IS OF BULK AT MOST 1048576: true; the input reads as it did. -/
def kindingSubstUptoRow : OpenClaim := { program := "ytoajaklekmbcdaa", sum := "98b69fd09802ede138a564686530cb8fbd657b1503c2f6629b097b497daf994e", func := "marquetry/marquetrylaw12.KindingSubst", spec := "kindingSubst", inPlace := ["internal/abi.NoEscape", "internal/bytealg.MakeNoZero"], unfollowed := true, recurses := true, apart := false, narrowed := true }
def KindingSubstUptoSaid : Prop := kindingSubstUptoRow.holds Try.pinned (OpenSpec.upto kindingSubstSpec)

/-- 'marquetrylaw15.SubstTerms', WHERE WHAT IT READS IS OF BULK AT MOST 1048576: true; the input reads as it did. -/
def substTermsUptoRow : OpenClaim := { program := "ytoajaklekmbcdaa", sum := "98b69fd09802ede138a564686530cb8fbd657b1503c2f6629b097b497daf994e", func := "marquetry/marquetrylaw15.SubstTerms", spec := "substTerms", inPlace := ["internal/abi.NoEscape", "internal/bytealg.MakeNoZero"], unfollowed := true, recurses := true, apart := false, narrowed := true }
def SubstTermsUptoSaid : Prop := substTermsUptoRow.holds Try.pinned (OpenSpec.upto substTermsSpec)

/-- 'marquetrylaw15.SubstOrder', WHERE WHAT IT READS IS OF BULK AT MOST 1048576: true; the input reads as it did. -/
def substOrderUptoRow : OpenClaim := { program := "ytoajaklekmbcdaa", sum := "98b69fd09802ede138a564686530cb8fbd657b1503c2f6629b097b497daf994e", func := "marquetry/marquetrylaw15.SubstOrder", spec := "substOrder", inPlace := ["internal/abi.NoEscape", "internal/bytealg.MakeNoZero"], unfollowed := true, recurses := true, apart := false, narrowed := true }
def SubstOrderUptoSaid : Prop := substOrderUptoRow.holds Try.pinned (OpenSpec.upto substOrderSpec)

/-- 'marquetrylaw12.KindingNorm', WHERE WHAT IT READS IS OF BULK AT MOST 1048576: true; the input reads as it did. -/
def kindingNormUptoRow : OpenClaim := { program := "ytoajaklekmbcdaa", sum := "98b69fd09802ede138a564686530cb8fbd657b1503c2f6629b097b497daf994e", func := "marquetry/marquetrylaw12.KindingNorm", spec := "kindingNorm", inPlace := ["internal/abi.NoEscape", "internal/bytealg.MakeNoZero"], unfollowed := true, recurses := true, apart := false, narrowed := true }
def KindingNormUptoSaid : Prop := kindingNormUptoRow.holds Try.pinned (OpenSpec.upto kindingNormSpec)

/-- 'marquetrylaw15.SubstCons', WHERE WHAT IT READS IS OF BULK AT MOST 1048576: true; the input reads as it did. -/
def substConsUptoRow : OpenClaim := { program := "ytoajaklekmbcdaa", sum := "98b69fd09802ede138a564686530cb8fbd657b1503c2f6629b097b497daf994e", func := "marquetry/marquetrylaw15.SubstCons", spec := "substCons", inPlace := ["internal/abi.NoEscape", "internal/bytealg.MakeNoZero"], unfollowed := true, recurses := true, apart := false, narrowed := true }
def SubstConsUptoSaid : Prop := substConsUptoRow.holds Try.pinned (OpenSpec.upto substConsSpec)

/-- 'marquetrylaw15.SubstGone', WHERE WHAT IT READS IS OF BULK AT MOST 1048576: true; the input reads as it did. -/
def substGoneUptoRow : OpenClaim := { program := "ytoajaklekmbcdaa", sum := "98b69fd09802ede138a564686530cb8fbd657b1503c2f6629b097b497daf994e", func := "marquetry/marquetrylaw15.SubstGone", spec := "substGone", inPlace := ["internal/abi.NoEscape", "internal/bytealg.MakeNoZero"], unfollowed := true, recurses := true, apart := false, narrowed := true }
def SubstGoneUptoSaid : Prop := substGoneUptoRow.holds Try.pinned (OpenSpec.upto substGoneSpec)

/-- 'marquetrylaw18.MachineRefuses', WHERE WHAT IT READS IS OF BULK AT MOST 1048576: true; the input reads as it did. -/
def machineRefusesUptoRow : OpenClaim := { program := "ytoajaklekmbcdaa", sum := "98b69fd09802ede138a564686530cb8fbd657b1503c2f6629b097b497daf994e", func := "marquetry/marquetrylaw18.MachineRefuses", spec := "machineRefuses", unfollowed := true, recurses := true, apart := false, narrowed := true }
def MachineRefusesUptoSaid : Prop := machineRefusesUptoRow.holds Try.pinned (OpenSpec.upto machineRefusesSpec)

/-- 'marquetrylaw18.MachineFuel', WHERE WHAT IT READS IS OF BULK AT MOST 1048576: true; the input reads as it did. -/
def machineFuelUptoRow : OpenClaim := { program := "ytoajaklekmbcdaa", sum := "98b69fd09802ede138a564686530cb8fbd657b1503c2f6629b097b497daf994e", func := "marquetry/marquetrylaw18.MachineFuel", spec := "machineFuel", unfollowed := true, recurses := true, apart := false, narrowed := true }
def MachineFuelUptoSaid : Prop := machineFuelUptoRow.holds Try.pinned (OpenSpec.upto machineFuelSpec)

/-- 'marquetrylaw18.MachineNeed', WHERE WHAT IT READS IS OF BULK AT MOST 1048576: true; the input reads as it did. -/
def machineNeedUptoRow : OpenClaim := { program := "ytoajaklekmbcdaa", sum := "98b69fd09802ede138a564686530cb8fbd657b1503c2f6629b097b497daf994e", func := "marquetry/marquetrylaw18.MachineNeed", spec := "machineNeed", unfollowed := true, recurses := true, apart := false, narrowed := true }
def MachineNeedUptoSaid : Prop := machineNeedUptoRow.holds Try.pinned (OpenSpec.upto machineNeedSpec)

/-- 'marquetrylaw16.StepNumbers', WHERE WHAT IT READS IS OF BULK AT MOST 1048576: true; the input reads as it did. -/
def stepNumbersUptoRow : OpenClaim := { program := "ytoajaklekmbcdaa", sum := "98b69fd09802ede138a564686530cb8fbd657b1503c2f6629b097b497daf994e", func := "marquetry/marquetrylaw16.StepNumbers", spec := "stepNumbers", inPlace := ["internal/abi.NoEscape", "internal/bytealg.MakeNoZero"], unfollowed := true, recurses := true, apart := false, narrowed := true }
def StepNumbersUptoSaid : Prop := stepNumbersUptoRow.holds Try.pinned (OpenSpec.upto stepNumbersSpec)

/-- 'marquetrylaw16.StepOnly', WHERE WHAT IT READS IS OF BULK AT MOST 1048576: true; the input reads as it did. -/
def stepOnlyUptoRow : OpenClaim := { program := "ytoajaklekmbcdaa", sum := "98b69fd09802ede138a564686530cb8fbd657b1503c2f6629b097b497daf994e", func := "marquetry/marquetrylaw16.StepOnly", spec := "stepOnly", inPlace := ["internal/abi.NoEscape", "internal/bytealg.MakeNoZero"], unfollowed := true, recurses := true, apart := false, narrowed := true }
def StepOnlyUptoSaid : Prop := stepOnlyUptoRow.holds Try.pinned (OpenSpec.upto stepOnlySpec)

end Rows
end Go.Proofs.Ytoajaklekmbcdaa
