/-
  No cell of these rows narrows 'for every input' (looked for: loops, veiled, ifaces, maps, wideKeys, modest, calm, conditions, laid).
  DERIVED. THE GIVEN ROWS OF THIS SEAT. 8 by the template 'for every input the law returns true; each argument reads behind the call as it read before'; 0 by the template 'total and deterministic' (their statements: YtkicgodmgafkoaaTotals.lean).
  GIVEN WITH THE SEED: the statements are not yours to turn. If you find one false, say at which input.
  Laid BY PROGRAM, IN A SANDBOX (cutbox-rows.mjs): the forced cells as the released guide's own fill.sh prints them over the translation f7c242e055b8850c… (all of the seat's roots in one cut). By AI agents, Wed Nov 11 2026. No macro, syntax, notation, axiom, sorry.
-/
import Derived.Test.YtkicgodmgafkoaaChecked
import GoSem.Claim
import GoSem.ClaimJoined
import GoSem.ClaimMapViews
import Derived.JoinedTies
import Derived.KernelRfl
namespace Go.Proofs.Ytkicgodmgafkoaa
/- THE CELL 'sum', in the pinned program and in every row, IS THE sha256 OF THE DUMP (.gsa) THAT YtkicgodmgafkoaaProg.lean LOADS. Nothing in Lean hashes anything: it is a label: what it is worth is what the hold of that sum in a sandbox is worth. -/
noncomputable def Try.pinned : Pinned := { name := "ytkicgodmgafkoaa", sum := "f7c242e055b8850cdd5bfa7d772c0349244e3dc45f4b71db44f34719848c2243", checked := Try.checked }
namespace Rows
def none {H : Type} : Left H := { results := [], args := [] }

/-- 'laws.FnExactReachedFrom': WHATEVER THE INPUT: true; the input reads as it did. -/
def fnExactReachedFromSpec : ChangeSpec := { name := "fnExactReachedFrom", fn := fun _ => fun
  | [d1, d2] => { results := [.lit (.bool true)], args := [d1, d2] }
  | _ => none }
def fnExactReachedFromRow : OpenClaim := { program := "ytkicgodmgafkoaa", sum := "f7c242e055b8850cdd5bfa7d772c0349244e3dc45f4b71db44f34719848c2243", func := "loop.example/hypersets/laws.FnExactReachedFrom", spec := "fnExactReachedFrom", recurses := true, apart := false }
def FnExactReachedFromSaid : Prop := fnExactReachedFromRow.holds Try.pinned (OpenSpec.ofChange fnExactReachedFromSpec)

/-- ITS FALSE NEIGHBOUR: 'it returns false'. Refute it at one input. -/
def fnExactReachedFromWrong : ChangeSpec := { name := "fnExactReachedFrom", fn := fun _ => fun
  | [d1, d2] => { results := [.lit (.bool false)], args := [d1, d2] }
  | _ => none }
def FnExactReachedFromWrongFalsely : Prop := fnExactReachedFromRow.holds Try.pinned (OpenSpec.ofChange fnExactReachedFromWrong)

/-- 'laws.FnExactComesBack': WHATEVER THE INPUT: true; the input reads as it did. -/
def fnExactComesBackSpec : ChangeSpec := { name := "fnExactComesBack", fn := fun _ => fun
  | [d1, d2] => { results := [.lit (.bool true)], args := [d1, d2] }
  | _ => none }
def fnExactComesBackRow : OpenClaim := { program := "ytkicgodmgafkoaa", sum := "f7c242e055b8850cdd5bfa7d772c0349244e3dc45f4b71db44f34719848c2243", func := "loop.example/hypersets/laws.FnExactComesBack", spec := "fnExactComesBack", unfollowed := true, recurses := true, apart := false }
def FnExactComesBackSaid : Prop := fnExactComesBackRow.holds Try.pinned (OpenSpec.ofChange fnExactComesBackSpec)

/-- ITS FALSE NEIGHBOUR: 'it returns false'. Refute it at one input. -/
def fnExactComesBackWrong : ChangeSpec := { name := "fnExactComesBack", fn := fun _ => fun
  | [d1, d2] => { results := [.lit (.bool false)], args := [d1, d2] }
  | _ => none }
def FnExactComesBackWrongFalsely : Prop := fnExactComesBackRow.holds Try.pinned (OpenSpec.ofChange fnExactComesBackWrong)

/-- 'laws.FnReachedFrom': WHATEVER THE INPUT: true; the input reads as it did. -/
def fnReachedFromSpec : ChangeSpec := { name := "fnReachedFrom", fn := fun _ => fun
  | [d] => { results := [.lit (.bool true)], args := [d] }
  | _ => none }
def fnReachedFromRow : OpenClaim := { program := "ytkicgodmgafkoaa", sum := "f7c242e055b8850cdd5bfa7d772c0349244e3dc45f4b71db44f34719848c2243", func := "loop.example/hypersets/laws.FnReachedFrom", spec := "fnReachedFrom", recurses := true, apart := false }
def FnReachedFromSaid : Prop := fnReachedFromRow.holds Try.pinned (OpenSpec.ofChange fnReachedFromSpec)

/-- ITS FALSE NEIGHBOUR: 'it returns false'. Refute it at one input. -/
def fnReachedFromWrong : ChangeSpec := { name := "fnReachedFrom", fn := fun _ => fun
  | [d] => { results := [.lit (.bool false)], args := [d] }
  | _ => none }
def FnReachedFromWrongFalsely : Prop := fnReachedFromRow.holds Try.pinned (OpenSpec.ofChange fnReachedFromWrong)

/-- 'laws.FnComesBack': WHATEVER THE INPUT: true; the input reads as it did. -/
def fnComesBackSpec : ChangeSpec := { name := "fnComesBack", fn := fun _ => fun
  | [d] => { results := [.lit (.bool true)], args := [d] }
  | _ => none }
def fnComesBackRow : OpenClaim := { program := "ytkicgodmgafkoaa", sum := "f7c242e055b8850cdd5bfa7d772c0349244e3dc45f4b71db44f34719848c2243", func := "loop.example/hypersets/laws.FnComesBack", spec := "fnComesBack", unfollowed := true, recurses := true, apart := false }
def FnComesBackSaid : Prop := fnComesBackRow.holds Try.pinned (OpenSpec.ofChange fnComesBackSpec)

/-- ITS FALSE NEIGHBOUR: 'it returns false'. Refute it at one input. -/
def fnComesBackWrong : ChangeSpec := { name := "fnComesBack", fn := fun _ => fun
  | [d] => { results := [.lit (.bool false)], args := [d] }
  | _ => none }
def FnComesBackWrongFalsely : Prop := fnComesBackRow.holds Try.pinned (OpenSpec.ofChange fnComesBackWrong)

/-- 'laws.FnExactCodeAt': WHATEVER THE INPUT: true; the input reads as it did. -/
def fnExactCodeAtSpec : ChangeSpec := { name := "fnExactCodeAt", fn := fun _ => fun
  | [d1, d2] => { results := [.lit (.bool true)], args := [d1, d2] }
  | _ => none }
def fnExactCodeAtRow : OpenClaim := { program := "ytkicgodmgafkoaa", sum := "f7c242e055b8850cdd5bfa7d772c0349244e3dc45f4b71db44f34719848c2243", func := "loop.example/hypersets/laws.FnExactCodeAt", spec := "fnExactCodeAt", unfollowed := true, recurses := true, apart := false }
def FnExactCodeAtSaid : Prop := fnExactCodeAtRow.holds Try.pinned (OpenSpec.ofChange fnExactCodeAtSpec)

/-- ITS FALSE NEIGHBOUR: 'it returns false'. Refute it at one input. -/
def fnExactCodeAtWrong : ChangeSpec := { name := "fnExactCodeAt", fn := fun _ => fun
  | [d1, d2] => { results := [.lit (.bool false)], args := [d1, d2] }
  | _ => none }
def FnExactCodeAtWrongFalsely : Prop := fnExactCodeAtRow.holds Try.pinned (OpenSpec.ofChange fnExactCodeAtWrong)

/-- 'laws.FnCodeAt': WHATEVER THE INPUT: true; the input reads as it did. -/
def fnCodeAtSpec : ChangeSpec := { name := "fnCodeAt", fn := fun _ => fun
  | [d] => { results := [.lit (.bool true)], args := [d] }
  | _ => none }
def fnCodeAtRow : OpenClaim := { program := "ytkicgodmgafkoaa", sum := "f7c242e055b8850cdd5bfa7d772c0349244e3dc45f4b71db44f34719848c2243", func := "loop.example/hypersets/laws.FnCodeAt", spec := "fnCodeAt", unfollowed := true, recurses := true, apart := false }
def FnCodeAtSaid : Prop := fnCodeAtRow.holds Try.pinned (OpenSpec.ofChange fnCodeAtSpec)

/-- ITS FALSE NEIGHBOUR: 'it returns false'. Refute it at one input. -/
def fnCodeAtWrong : ChangeSpec := { name := "fnCodeAt", fn := fun _ => fun
  | [d] => { results := [.lit (.bool false)], args := [d] }
  | _ => none }
def FnCodeAtWrongFalsely : Prop := fnCodeAtRow.holds Try.pinned (OpenSpec.ofChange fnCodeAtWrong)

/-- 'laws.FnSameAt': WHATEVER THE INPUT: true; the input reads as it did. -/
def fnSameAtSpec : ChangeSpec := { name := "fnSameAt", fn := fun _ => fun
  | [d] => { results := [.lit (.bool true)], args := [d] }
  | _ => none }
def fnSameAtRow : OpenClaim := { program := "ytkicgodmgafkoaa", sum := "f7c242e055b8850cdd5bfa7d772c0349244e3dc45f4b71db44f34719848c2243", func := "loop.example/hypersets/laws.FnSameAt", spec := "fnSameAt", unfollowed := true, recurses := true, apart := false }
def FnSameAtSaid : Prop := fnSameAtRow.holds Try.pinned (OpenSpec.ofChange fnSameAtSpec)

/-- ITS FALSE NEIGHBOUR: 'it returns false'. Refute it at one input. -/
def fnSameAtWrong : ChangeSpec := { name := "fnSameAt", fn := fun _ => fun
  | [d] => { results := [.lit (.bool false)], args := [d] }
  | _ => none }
def FnSameAtWrongFalsely : Prop := fnSameAtRow.holds Try.pinned (OpenSpec.ofChange fnSameAtWrong)

/-- 'laws.FnDrawnOf': WHATEVER THE INPUT: true; the input reads as it did. -/
def fnDrawnOfSpec : ChangeSpec := { name := "fnDrawnOf", fn := fun _ => fun
  | [d] => { results := [.lit (.bool true)], args := [d] }
  | _ => none }
def fnDrawnOfRow : OpenClaim := { program := "ytkicgodmgafkoaa", sum := "f7c242e055b8850cdd5bfa7d772c0349244e3dc45f4b71db44f34719848c2243", func := "loop.example/hypersets/laws.FnDrawnOf", spec := "fnDrawnOf", unfollowed := true, recurses := true, apart := false }
def FnDrawnOfSaid : Prop := fnDrawnOfRow.holds Try.pinned (OpenSpec.ofChange fnDrawnOfSpec)

/-- ITS FALSE NEIGHBOUR: 'it returns false'. Refute it at one input. -/
def fnDrawnOfWrong : ChangeSpec := { name := "fnDrawnOf", fn := fun _ => fun
  | [d] => { results := [.lit (.bool false)], args := [d] }
  | _ => none }
def FnDrawnOfWrongFalsely : Prop := fnDrawnOfRow.holds Try.pinned (OpenSpec.ofChange fnDrawnOfWrong)

/- THE SECOND FORM. 'bulk': how many values and letters a reading holds, each counted each time it is reached (what is shared counts as often as it is met; a slice's spare places count too). A statement '..UptoSaid' is the law's where the arguments, and the package variables that the reading takes, are together of bulk at most 1048576: NARROWER than '..Said'. Prove '..Said' where nothing that the law and all that it calls make is longer than what came in: it says more and counts as full. Else prove '..UptoSaid'. A law counts once. -/
mutual
def uptoBulk {H : Type} : DataW H → Nat
  | .lit (.string bytes) => bytes.length + 1
  | .lit _ => 1
  | .nil => 1
  | .ptr d => uptoBulk d + 1
  | .slice elems spare => uptoBulkAll elems + uptoBulkAll spare + 1
  | .agg parts => uptoBulkAll parts + 1
  | .iface _ d => uptoBulk d + 1
  | .map entries => uptoBulkEntries entries + 1
  | .held _ => 1
def uptoBulkAll {H : Type} : List (DataW H) → Nat
  | [] => 0
  | d :: r => uptoBulk d + uptoBulkAll r
def uptoBulkEntries {H : Type} : List (Lit × DataW H) → Nat
  | [] => 0
  | x :: r => uptoBulkEntry x + uptoBulkEntries r
def uptoBulkEntry {H : Type} : Lit × DataW H → Nat
  | (.string bytes, d) => bytes.length + uptoBulk d + 1
  | (_, d) => uptoBulk d + 1
 end
def uptoSmall : (H : Type) → List (DataW H) → Bool := fun _ ds => decide (uptoBulkAll ds ≤ 1048576)
def OpenSpec.upto (s : _root_.Go.ChangeSpec) : _root_.Go.OpenSpec := { _root_.Go.OpenSpec.ofChange s with cond := some uptoSmall }

/-- 'laws.FnExactReachedFrom', WHERE WHAT IT READS IS OF BULK AT MOST 1048576: true; the input reads as it did. -/
def fnExactReachedFromUptoRow : OpenClaim := { program := "ytkicgodmgafkoaa", sum := "f7c242e055b8850cdd5bfa7d772c0349244e3dc45f4b71db44f34719848c2243", func := "loop.example/hypersets/laws.FnExactReachedFrom", spec := "fnExactReachedFrom", recurses := true, apart := false, narrowed := true }
def FnExactReachedFromUptoSaid : Prop := fnExactReachedFromUptoRow.holds Try.pinned (OpenSpec.upto fnExactReachedFromSpec)

/-- 'laws.FnExactComesBack', WHERE WHAT IT READS IS OF BULK AT MOST 1048576: true; the input reads as it did. -/
def fnExactComesBackUptoRow : OpenClaim := { program := "ytkicgodmgafkoaa", sum := "f7c242e055b8850cdd5bfa7d772c0349244e3dc45f4b71db44f34719848c2243", func := "loop.example/hypersets/laws.FnExactComesBack", spec := "fnExactComesBack", unfollowed := true, recurses := true, apart := false, narrowed := true }
def FnExactComesBackUptoSaid : Prop := fnExactComesBackUptoRow.holds Try.pinned (OpenSpec.upto fnExactComesBackSpec)

/-- 'laws.FnReachedFrom', WHERE WHAT IT READS IS OF BULK AT MOST 1048576: true; the input reads as it did. -/
def fnReachedFromUptoRow : OpenClaim := { program := "ytkicgodmgafkoaa", sum := "f7c242e055b8850cdd5bfa7d772c0349244e3dc45f4b71db44f34719848c2243", func := "loop.example/hypersets/laws.FnReachedFrom", spec := "fnReachedFrom", recurses := true, apart := false, narrowed := true }
def FnReachedFromUptoSaid : Prop := fnReachedFromUptoRow.holds Try.pinned (OpenSpec.upto fnReachedFromSpec)

/-- 'laws.FnComesBack', WHERE WHAT IT READS IS OF BULK AT MOST 1048576: true; the input reads as it did. -/
def fnComesBackUptoRow : OpenClaim := { program := "ytkicgodmgafkoaa", sum := "f7c242e055b8850cdd5bfa7d772c0349244e3dc45f4b71db44f34719848c2243", func := "loop.example/hypersets/laws.FnComesBack", spec := "fnComesBack", unfollowed := true, recurses := true, apart := false, narrowed := true }
def FnComesBackUptoSaid : Prop := fnComesBackUptoRow.holds Try.pinned (OpenSpec.upto fnComesBackSpec)

/-- 'laws.FnExactCodeAt', WHERE WHAT IT READS IS OF BULK AT MOST 1048576: true; the input reads as it did. -/
def fnExactCodeAtUptoRow : OpenClaim := { program := "ytkicgodmgafkoaa", sum := "f7c242e055b8850cdd5bfa7d772c0349244e3dc45f4b71db44f34719848c2243", func := "loop.example/hypersets/laws.FnExactCodeAt", spec := "fnExactCodeAt", unfollowed := true, recurses := true, apart := false, narrowed := true }
def FnExactCodeAtUptoSaid : Prop := fnExactCodeAtUptoRow.holds Try.pinned (OpenSpec.upto fnExactCodeAtSpec)

/-- 'laws.FnCodeAt', WHERE WHAT IT READS IS OF BULK AT MOST 1048576: true; the input reads as it did. -/
def fnCodeAtUptoRow : OpenClaim := { program := "ytkicgodmgafkoaa", sum := "f7c242e055b8850cdd5bfa7d772c0349244e3dc45f4b71db44f34719848c2243", func := "loop.example/hypersets/laws.FnCodeAt", spec := "fnCodeAt", unfollowed := true, recurses := true, apart := false, narrowed := true }
def FnCodeAtUptoSaid : Prop := fnCodeAtUptoRow.holds Try.pinned (OpenSpec.upto fnCodeAtSpec)

/-- 'laws.FnSameAt', WHERE WHAT IT READS IS OF BULK AT MOST 1048576: true; the input reads as it did. -/
def fnSameAtUptoRow : OpenClaim := { program := "ytkicgodmgafkoaa", sum := "f7c242e055b8850cdd5bfa7d772c0349244e3dc45f4b71db44f34719848c2243", func := "loop.example/hypersets/laws.FnSameAt", spec := "fnSameAt", unfollowed := true, recurses := true, apart := false, narrowed := true }
def FnSameAtUptoSaid : Prop := fnSameAtUptoRow.holds Try.pinned (OpenSpec.upto fnSameAtSpec)

/-- 'laws.FnDrawnOf', WHERE WHAT IT READS IS OF BULK AT MOST 1048576: true; the input reads as it did. -/
def fnDrawnOfUptoRow : OpenClaim := { program := "ytkicgodmgafkoaa", sum := "f7c242e055b8850cdd5bfa7d772c0349244e3dc45f4b71db44f34719848c2243", func := "loop.example/hypersets/laws.FnDrawnOf", spec := "fnDrawnOf", unfollowed := true, recurses := true, apart := false, narrowed := true }
def FnDrawnOfUptoSaid : Prop := fnDrawnOfUptoRow.holds Try.pinned (OpenSpec.upto fnDrawnOfSpec)

end Rows
end Go.Proofs.Ytkicgodmgafkoaa
