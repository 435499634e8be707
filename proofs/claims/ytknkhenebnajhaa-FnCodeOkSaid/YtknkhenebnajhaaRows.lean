/-
  No cell of these rows narrows 'for every input' (looked for: loops, veiled, ifaces, maps, wideKeys, modest, calm, conditions, laid).
  DERIVED. THE GIVEN ROWS OF THIS SEAT. 11 by the template 'for every input the law returns true; each argument reads behind the call as it read before'; 0 by the template 'total and deterministic' (their statements: YtknkhenebnajhaaTotals.lean).
  GIVEN WITH THE SEED: the statements are not yours to turn. If you find one false, say at which input.
  Laid BY PROGRAM, IN A SANDBOX (cutbox-rows.mjs): the forced cells as the released guide's own fill.sh prints them over the translation b571811cb0f68973… (all of the seat's roots in one cut). By AI agents, Wed Nov 11 2026. No macro, syntax, notation, axiom, sorry.
-/
import Derived.Test.YtknkhenebnajhaaChecked
import GoSem.Claim
import GoSem.ClaimJoined
import GoSem.ClaimMapViews
import Derived.JoinedTies
import Derived.KernelRfl
namespace Go.Proofs.Ytknkhenebnajhaa
/- THE CELL 'sum', in the pinned program and in every row, IS THE sha256 OF THE DUMP (.gsa) THAT YtknkhenebnajhaaProg.lean LOADS. Nothing in Lean hashes anything: it is a label: what it is worth is what the hold of that sum in a sandbox is worth. -/
noncomputable def Try.pinned : Pinned := { name := "ytknkhenebnajhaa", sum := "b571811cb0f68973d626a3e71a3c22adf5686560828a52a3f016946e67fc4c83", checked := Try.checked }
namespace Rows
def none {H : Type} : Left H := { results := [], args := [] }

/-- 'laws.FnExactConstants': WHATEVER THE INPUT: true; the input reads as it did. -/
def fnExactConstantsSpec : ChangeSpec := { name := "fnExactConstants", fn := fun _ => fun
  | [] => { results := [.lit (.bool true)], args := [] }
  | _ => none }
def fnExactConstantsRow : OpenClaim := { program := "ytknkhenebnajhaa", sum := "b571811cb0f68973d626a3e71a3c22adf5686560828a52a3f016946e67fc4c83", func := "loop.example/hypersets/laws.FnExactConstants", spec := "fnExactConstants", apart := false }
def FnExactConstantsSaid : Prop := fnExactConstantsRow.holds Try.pinned (OpenSpec.ofChange fnExactConstantsSpec)

/-- ITS FALSE NEIGHBOUR: 'it returns false'. Refute it at one input. -/
def fnExactConstantsWrong : ChangeSpec := { name := "fnExactConstants", fn := fun _ => fun
  | [] => { results := [.lit (.bool false)], args := [] }
  | _ => none }
def FnExactConstantsWrongFalsely : Prop := fnExactConstantsRow.holds Try.pinned (OpenSpec.ofChange fnExactConstantsWrong)

/-- 'laws.FnExactCodeOk': WHATEVER THE INPUT: true; the input reads as it did. -/
def fnExactCodeOkSpec : ChangeSpec := { name := "fnExactCodeOk", fn := fun _ => fun
  | [d] => { results := [.lit (.bool true)], args := [d] }
  | _ => none }
def fnExactCodeOkRow : OpenClaim := { program := "ytknkhenebnajhaa", sum := "b571811cb0f68973d626a3e71a3c22adf5686560828a52a3f016946e67fc4c83", func := "loop.example/hypersets/laws.FnExactCodeOk", spec := "fnExactCodeOk", apart := false }
def FnExactCodeOkSaid : Prop := fnExactCodeOkRow.holds Try.pinned (OpenSpec.ofChange fnExactCodeOkSpec)

/-- ITS FALSE NEIGHBOUR: 'it returns false'. Refute it at one input. -/
def fnExactCodeOkWrong : ChangeSpec := { name := "fnExactCodeOk", fn := fun _ => fun
  | [d] => { results := [.lit (.bool false)], args := [d] }
  | _ => none }
def FnExactCodeOkWrongFalsely : Prop := fnExactCodeOkRow.holds Try.pinned (OpenSpec.ofChange fnExactCodeOkWrong)

/-- 'laws.FnExactHas': WHATEVER THE INPUT: true; the input reads as it did. -/
def fnExactHasSpec : ChangeSpec := { name := "fnExactHas", fn := fun _ => fun
  | [d1, d2] => { results := [.lit (.bool true)], args := [d1, d2] }
  | _ => none }
def fnExactHasRow : OpenClaim := { program := "ytknkhenebnajhaa", sum := "b571811cb0f68973d626a3e71a3c22adf5686560828a52a3f016946e67fc4c83", func := "loop.example/hypersets/laws.FnExactHas", spec := "fnExactHas", apart := false }
def FnExactHasSaid : Prop := fnExactHasRow.holds Try.pinned (OpenSpec.ofChange fnExactHasSpec)

/-- ITS FALSE NEIGHBOUR: 'it returns false'. Refute it at one input. -/
def fnExactHasWrong : ChangeSpec := { name := "fnExactHas", fn := fun _ => fun
  | [d1, d2] => { results := [.lit (.bool false)], args := [d1, d2] }
  | _ => none }
def FnExactHasWrongFalsely : Prop := fnExactHasRow.holds Try.pinned (OpenSpec.ofChange fnExactHasWrong)

/-- 'laws.FnExactWithinOf': WHATEVER THE INPUT: true; the input reads as it did. -/
def fnExactWithinOfSpec : ChangeSpec := { name := "fnExactWithinOf", fn := fun _ => fun
  | [d1, d2] => { results := [.lit (.bool true)], args := [d1, d2] }
  | _ => none }
def fnExactWithinOfRow : OpenClaim := { program := "ytknkhenebnajhaa", sum := "b571811cb0f68973d626a3e71a3c22adf5686560828a52a3f016946e67fc4c83", func := "loop.example/hypersets/laws.FnExactWithinOf", spec := "fnExactWithinOf", apart := false }
def FnExactWithinOfSaid : Prop := fnExactWithinOfRow.holds Try.pinned (OpenSpec.ofChange fnExactWithinOfSpec)

/-- ITS FALSE NEIGHBOUR: 'it returns false'. Refute it at one input. -/
def fnExactWithinOfWrong : ChangeSpec := { name := "fnExactWithinOf", fn := fun _ => fun
  | [d1, d2] => { results := [.lit (.bool false)], args := [d1, d2] }
  | _ => none }
def FnExactWithinOfWrongFalsely : Prop := fnExactWithinOfRow.holds Try.pinned (OpenSpec.ofChange fnExactWithinOfWrong)

/-- 'laws.FnExactCommonOf': WHATEVER THE INPUT: true; the input reads as it did. -/
def fnExactCommonOfSpec : ChangeSpec := { name := "fnExactCommonOf", fn := fun _ => fun
  | [d1, d2] => { results := [.lit (.bool true)], args := [d1, d2] }
  | _ => none }
def fnExactCommonOfRow : OpenClaim := { program := "ytknkhenebnajhaa", sum := "b571811cb0f68973d626a3e71a3c22adf5686560828a52a3f016946e67fc4c83", func := "loop.example/hypersets/laws.FnExactCommonOf", spec := "fnExactCommonOf", apart := false }
def FnExactCommonOfSaid : Prop := fnExactCommonOfRow.holds Try.pinned (OpenSpec.ofChange fnExactCommonOfSpec)

/-- ITS FALSE NEIGHBOUR: 'it returns false'. Refute it at one input. -/
def fnExactCommonOfWrong : ChangeSpec := { name := "fnExactCommonOf", fn := fun _ => fun
  | [d1, d2] => { results := [.lit (.bool false)], args := [d1, d2] }
  | _ => none }
def FnExactCommonOfWrongFalsely : Prop := fnExactCommonOfRow.holds Try.pinned (OpenSpec.ofChange fnExactCommonOfWrong)

/-- 'laws.FnExactUnionOf': WHATEVER THE INPUT: true; the input reads as it did. -/
def fnExactUnionOfSpec : ChangeSpec := { name := "fnExactUnionOf", fn := fun _ => fun
  | [d1, d2] => { results := [.lit (.bool true)], args := [d1, d2] }
  | _ => none }
def fnExactUnionOfRow : OpenClaim := { program := "ytknkhenebnajhaa", sum := "b571811cb0f68973d626a3e71a3c22adf5686560828a52a3f016946e67fc4c83", func := "loop.example/hypersets/laws.FnExactUnionOf", spec := "fnExactUnionOf", apart := false }
def FnExactUnionOfSaid : Prop := fnExactUnionOfRow.holds Try.pinned (OpenSpec.ofChange fnExactUnionOfSpec)

/-- ITS FALSE NEIGHBOUR: 'it returns false'. Refute it at one input. -/
def fnExactUnionOfWrong : ChangeSpec := { name := "fnExactUnionOf", fn := fun _ => fun
  | [d1, d2] => { results := [.lit (.bool false)], args := [d1, d2] }
  | _ => none }
def FnExactUnionOfWrongFalsely : Prop := fnExactUnionOfRow.holds Try.pinned (OpenSpec.ofChange fnExactUnionOfWrong)

/-- 'laws.FnExactSetOf': WHATEVER THE INPUT: true; the input reads as it did. -/
def fnExactSetOfSpec : ChangeSpec := { name := "fnExactSetOf", fn := fun _ => fun
  | [d] => { results := [.lit (.bool true)], args := [d] }
  | _ => none }
def fnExactSetOfRow : OpenClaim := { program := "ytknkhenebnajhaa", sum := "b571811cb0f68973d626a3e71a3c22adf5686560828a52a3f016946e67fc4c83", func := "loop.example/hypersets/laws.FnExactSetOf", spec := "fnExactSetOf", apart := false }
def FnExactSetOfSaid : Prop := fnExactSetOfRow.holds Try.pinned (OpenSpec.ofChange fnExactSetOfSpec)

/-- ITS FALSE NEIGHBOUR: 'it returns false'. Refute it at one input. -/
def fnExactSetOfWrong : ChangeSpec := { name := "fnExactSetOf", fn := fun _ => fun
  | [d] => { results := [.lit (.bool false)], args := [d] }
  | _ => none }
def FnExactSetOfWrongFalsely : Prop := fnExactSetOfRow.holds Try.pinned (OpenSpec.ofChange fnExactSetOfWrong)

/-- 'laws.FnExactAllMembersOf': WHATEVER THE INPUT: true; the input reads as it did. -/
def fnExactAllMembersOfSpec : ChangeSpec := { name := "fnExactAllMembersOf", fn := fun _ => fun
  | [d] => { results := [.lit (.bool true)], args := [d] }
  | _ => none }
def fnExactAllMembersOfRow : OpenClaim := { program := "ytknkhenebnajhaa", sum := "b571811cb0f68973d626a3e71a3c22adf5686560828a52a3f016946e67fc4c83", func := "loop.example/hypersets/laws.FnExactAllMembersOf", spec := "fnExactAllMembersOf", apart := false }
def FnExactAllMembersOfSaid : Prop := fnExactAllMembersOfRow.holds Try.pinned (OpenSpec.ofChange fnExactAllMembersOfSpec)

/-- ITS FALSE NEIGHBOUR: 'it returns false'. Refute it at one input. -/
def fnExactAllMembersOfWrong : ChangeSpec := { name := "fnExactAllMembersOf", fn := fun _ => fun
  | [d] => { results := [.lit (.bool false)], args := [d] }
  | _ => none }
def FnExactAllMembersOfWrongFalsely : Prop := fnExactAllMembersOfRow.holds Try.pinned (OpenSpec.ofChange fnExactAllMembersOfWrong)

/-- 'laws.FnExactDeepOf': WHATEVER THE INPUT: true; the input reads as it did. -/
def fnExactDeepOfSpec : ChangeSpec := { name := "fnExactDeepOf", fn := fun _ => fun
  | [d] => { results := [.lit (.bool true)], args := [d] }
  | _ => none }
def fnExactDeepOfRow : OpenClaim := { program := "ytknkhenebnajhaa", sum := "b571811cb0f68973d626a3e71a3c22adf5686560828a52a3f016946e67fc4c83", func := "loop.example/hypersets/laws.FnExactDeepOf", spec := "fnExactDeepOf", recurses := true, apart := false }
def FnExactDeepOfSaid : Prop := fnExactDeepOfRow.holds Try.pinned (OpenSpec.ofChange fnExactDeepOfSpec)

/-- ITS FALSE NEIGHBOUR: 'it returns false'. Refute it at one input. -/
def fnExactDeepOfWrong : ChangeSpec := { name := "fnExactDeepOf", fn := fun _ => fun
  | [d] => { results := [.lit (.bool false)], args := [d] }
  | _ => none }
def FnExactDeepOfWrongFalsely : Prop := fnExactDeepOfRow.holds Try.pinned (OpenSpec.ofChange fnExactDeepOfWrong)

/-- 'laws.FnExactFullOk': WHATEVER THE INPUT: true; the input reads as it did. -/
def fnExactFullOkSpec : ChangeSpec := { name := "fnExactFullOk", fn := fun _ => fun
  | [d] => { results := [.lit (.bool true)], args := [d] }
  | _ => none }
def fnExactFullOkRow : OpenClaim := { program := "ytknkhenebnajhaa", sum := "b571811cb0f68973d626a3e71a3c22adf5686560828a52a3f016946e67fc4c83", func := "loop.example/hypersets/laws.FnExactFullOk", spec := "fnExactFullOk", apart := false }
def FnExactFullOkSaid : Prop := fnExactFullOkRow.holds Try.pinned (OpenSpec.ofChange fnExactFullOkSpec)

/-- ITS FALSE NEIGHBOUR: 'it returns false'. Refute it at one input. -/
def fnExactFullOkWrong : ChangeSpec := { name := "fnExactFullOk", fn := fun _ => fun
  | [d] => { results := [.lit (.bool false)], args := [d] }
  | _ => none }
def FnExactFullOkWrongFalsely : Prop := fnExactFullOkRow.holds Try.pinned (OpenSpec.ofChange fnExactFullOkWrong)

/-- 'laws.FnCodeOk': WHATEVER THE INPUT: true; the input reads as it did. -/
def fnCodeOkSpec : ChangeSpec := { name := "fnCodeOk", fn := fun _ => fun
  | [d] => { results := [.lit (.bool true)], args := [d] }
  | _ => none }
def fnCodeOkRow : OpenClaim := { program := "ytknkhenebnajhaa", sum := "b571811cb0f68973d626a3e71a3c22adf5686560828a52a3f016946e67fc4c83", func := "loop.example/hypersets/laws.FnCodeOk", spec := "fnCodeOk", apart := false }
def FnCodeOkSaid : Prop := fnCodeOkRow.holds Try.pinned (OpenSpec.ofChange fnCodeOkSpec)

/-- ITS FALSE NEIGHBOUR: 'it returns false'. Refute it at one input. -/
def fnCodeOkWrong : ChangeSpec := { name := "fnCodeOk", fn := fun _ => fun
  | [d] => { results := [.lit (.bool false)], args := [d] }
  | _ => none }
def FnCodeOkWrongFalsely : Prop := fnCodeOkRow.holds Try.pinned (OpenSpec.ofChange fnCodeOkWrong)

/- THE SECOND FORM. 'bulk': how many values and letters a reading holds, each counted each time it is reached (what is shared counts as often as it is met; a slice's spare places count too). A statement '..UptoSaid' is the law's where the arguments, and the package variables that the reading takes, are together of bulk at most 1048576: NARROWER than '..Said'. Prove '..Said' where nothing that the law and all that it calls make is longer than what came in: it says more and counts as full. Else prove '..UptoSaid'. A law counts once. -/
mutual
def uptoBulk {H : Type} : DataW H → Nat
  | .lit (.string bytes) => bytes.length + 1
  | .lit _ => 1
  | .nil => 1
  | .ptr d => uptoBulk d + 1
  | .slice elems spare => uptoBulkAll elems + uptoBulkAll spare + 1
  | .agg parts => uptoBulkAll parts + 1
  | .iface _ d => uptoBulk d + 1
  | .map entries => uptoBulkEntries entries + 1
  | .held _ => 1
def uptoBulkAll {H : Type} : List (DataW H) → Nat
  | [] => 0
  | d :: r => uptoBulk d + uptoBulkAll r
def uptoBulkEntries {H : Type} : List (Lit × DataW H) → Nat
  | [] => 0
  | x :: r => uptoBulkEntry x + uptoBulkEntries r
def uptoBulkEntry {H : Type} : Lit × DataW H → Nat
  | (.string bytes, d) => bytes.length + uptoBulk d + 1
  | (_, d) => uptoBulk d + 1
 end
def uptoSmall : (H : Type) → List (DataW H) → Bool := fun _ ds => decide (uptoBulkAll ds ≤ 1048576)
def OpenSpec.upto (s : _root_.Go.ChangeSpec) : _root_.Go.OpenSpec := { _root_.Go.OpenSpec.ofChange s with cond := some uptoSmall }

/-- 'laws.FnExactConstants', WHERE WHAT IT READS IS OF BULK AT MOST 1048576: true; the input reads as it did. -/
def fnExactConstantsUptoRow : OpenClaim := { program := "ytknkhenebnajhaa", sum := "b571811cb0f68973d626a3e71a3c22adf5686560828a52a3f016946e67fc4c83", func := "loop.example/hypersets/laws.FnExactConstants", spec := "fnExactConstants", apart := false, narrowed := true }
def FnExactConstantsUptoSaid : Prop := fnExactConstantsUptoRow.holds Try.pinned (OpenSpec.upto fnExactConstantsSpec)

/-- 'laws.FnExactCodeOk', WHERE WHAT IT READS IS OF BULK AT MOST 1048576: true; the input reads as it did. -/
def fnExactCodeOkUptoRow : OpenClaim := { program := "ytknkhenebnajhaa", sum := "b571811cb0f68973d626a3e71a3c22adf5686560828a52a3f016946e67fc4c83", func := "loop.example/hypersets/laws.FnExactCodeOk", spec := "fnExactCodeOk", apart := false, narrowed := true }
def FnExactCodeOkUptoSaid : Prop := fnExactCodeOkUptoRow.holds Try.pinned (OpenSpec.upto fnExactCodeOkSpec)

/-- 'laws.FnExactHas', WHERE WHAT IT READS IS OF BULK AT MOST 1048576: true; the input reads as it did. -/
def fnExactHasUptoRow : OpenClaim := { program := "ytknkhenebnajhaa", sum := "b571811cb0f68973d626a3e71a3c22adf5686560828a52a3f016946e67fc4c83", func := "loop.example/hypersets/laws.FnExactHas", spec := "fnExactHas", apart := false, narrowed := true }
def FnExactHasUptoSaid : Prop := fnExactHasUptoRow.holds Try.pinned (OpenSpec.upto fnExactHasSpec)

/-- 'laws.FnExactWithinOf', WHERE WHAT IT READS IS OF BULK AT MOST 1048576: true; the input reads as it did. -/
def fnExactWithinOfUptoRow : OpenClaim := { program := "ytknkhenebnajhaa", sum := "b571811cb0f68973d626a3e71a3c22adf5686560828a52a3f016946e67fc4c83", func := "loop.example/hypersets/laws.FnExactWithinOf", spec := "fnExactWithinOf", apart := false, narrowed := true }
def FnExactWithinOfUptoSaid : Prop := fnExactWithinOfUptoRow.holds Try.pinned (OpenSpec.upto fnExactWithinOfSpec)

/-- 'laws.FnExactCommonOf', WHERE WHAT IT READS IS OF BULK AT MOST 1048576: true; the input reads as it did. -/
def fnExactCommonOfUptoRow : OpenClaim := { program := "ytknkhenebnajhaa", sum := "b571811cb0f68973d626a3e71a3c22adf5686560828a52a3f016946e67fc4c83", func := "loop.example/hypersets/laws.FnExactCommonOf", spec := "fnExactCommonOf", apart := false, narrowed := true }
def FnExactCommonOfUptoSaid : Prop := fnExactCommonOfUptoRow.holds Try.pinned (OpenSpec.upto fnExactCommonOfSpec)

/-- 'laws.FnExactUnionOf', WHERE WHAT IT READS IS OF BULK AT MOST 1048576: true; the input reads as it did. -/
def fnExactUnionOfUptoRow : OpenClaim := { program := "ytknkhenebnajhaa", sum := "b571811cb0f68973d626a3e71a3c22adf5686560828a52a3f016946e67fc4c83", func := "loop.example/hypersets/laws.FnExactUnionOf", spec := "fnExactUnionOf", apart := false, narrowed := true }
def FnExactUnionOfUptoSaid : Prop := fnExactUnionOfUptoRow.holds Try.pinned (OpenSpec.upto fnExactUnionOfSpec)

/-- 'laws.FnExactSetOf', WHERE WHAT IT READS IS OF BULK AT MOST 1048576: true; the input reads as it did. -/
def fnExactSetOfUptoRow : OpenClaim := { program := "ytknkhenebnajhaa", sum := "b571811cb0f68973d626a3e71a3c22adf5686560828a52a3f016946e67fc4c83", func := "loop.example/hypersets/laws.FnExactSetOf", spec := "fnExactSetOf", apart := false, narrowed := true }
def FnExactSetOfUptoSaid : Prop := fnExactSetOfUptoRow.holds Try.pinned (OpenSpec.upto fnExactSetOfSpec)

/-- 'laws.FnExactAllMembersOf', WHERE WHAT IT READS IS OF BULK AT MOST 1048576: true; the input reads as it did. -/
def fnExactAllMembersOfUptoRow : OpenClaim := { program := "ytknkhenebnajhaa", sum := "b571811cb0f68973d626a3e71a3c22adf5686560828a52a3f016946e67fc4c83", func := "loop.example/hypersets/laws.FnExactAllMembersOf", spec := "fnExactAllMembersOf", apart := false, narrowed := true }
def FnExactAllMembersOfUptoSaid : Prop := fnExactAllMembersOfUptoRow.holds Try.pinned (OpenSpec.upto fnExactAllMembersOfSpec)

/-- 'laws.FnExactDeepOf', WHERE WHAT IT READS IS OF BULK AT MOST 1048576: true; the input reads as it did. -/
def fnExactDeepOfUptoRow : OpenClaim := { program := "ytknkhenebnajhaa", sum := "b571811cb0f68973d626a3e71a3c22adf5686560828a52a3f016946e67fc4c83", func := "loop.example/hypersets/laws.FnExactDeepOf", spec := "fnExactDeepOf", recurses := true, apart := false, narrowed := true }
def FnExactDeepOfUptoSaid : Prop := fnExactDeepOfUptoRow.holds Try.pinned (OpenSpec.upto fnExactDeepOfSpec)

/-- 'laws.FnExactFullOk', WHERE WHAT IT READS IS OF BULK AT MOST 1048576: true; the input reads as it did. -/
def fnExactFullOkUptoRow : OpenClaim := { program := "ytknkhenebnajhaa", sum := "b571811cb0f68973d626a3e71a3c22adf5686560828a52a3f016946e67fc4c83", func := "loop.example/hypersets/laws.FnExactFullOk", spec := "fnExactFullOk", apart := false, narrowed := true }
def FnExactFullOkUptoSaid : Prop := fnExactFullOkUptoRow.holds Try.pinned (OpenSpec.upto fnExactFullOkSpec)

/-- 'laws.FnCodeOk', WHERE WHAT IT READS IS OF BULK AT MOST 1048576: true; the input reads as it did. -/
def fnCodeOkUptoRow : OpenClaim := { program := "ytknkhenebnajhaa", sum := "b571811cb0f68973d626a3e71a3c22adf5686560828a52a3f016946e67fc4c83", func := "loop.example/hypersets/laws.FnCodeOk", spec := "fnCodeOk", apart := false, narrowed := true }
def FnCodeOkUptoSaid : Prop := fnCodeOkUptoRow.holds Try.pinned (OpenSpec.upto fnCodeOkSpec)

end Rows
end Go.Proofs.Ytknkhenebnajhaa
