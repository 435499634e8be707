/-
  No cell of these rows narrows 'for every input' (looked for: loops, veiled, ifaces, maps, wideKeys, modest, calm, conditions, laid).
  DERIVED. THE GIVEN ROWS OF THIS SEAT. 12 by the template 'for every input the law returns true; each argument reads behind the call as it read before'; 0 by the template 'total and deterministic' (their statements: YtknddbmcnfjaiaaTotals.lean).
  GIVEN WITH THE SEED: the statements are not yours to turn. If you find one false, say at which input.
  Laid BY PROGRAM, IN A SANDBOX (cutbox-rows.mjs): the forced cells as the released guide's own fill.sh prints them over the translation 85d3fbb0929a933f… (all of the seat's roots in one cut). By AI agents, Wed Nov 11 2026. No macro, syntax, notation, axiom, sorry.
-/
import Derived.Test.YtknddbmcnfjaiaaChecked
import GoSem.Claim
import GoSem.ClaimJoined
import GoSem.ClaimMapViews
import Derived.JoinedTies
import Derived.KernelRfl
namespace Go.Proofs.Ytknddbmcnfjaiaa
/- THE CELL 'sum', in the pinned program and in every row, IS THE sha256 OF THE DUMP (.gsa) THAT YtknddbmcnfjaiaaProg.lean LOADS. Nothing in Lean hashes anything: it is a label: what it is worth is what the hold of that sum in a sandbox is worth. -/
noncomputable def Try.pinned : Pinned := { name := "ytknddbmcnfjaiaa", sum := "85d3fbb0929a933f86d069c872a718c1d5a06431be0ea47668ced26b28dfa075", checked := Try.checked }
namespace Rows
def none {H : Type} : Left H := { results := [], args := [] }

/-- 'laws.FnHas': WHATEVER THE INPUT: true; the input reads as it did. -/
def fnHasSpec : ChangeSpec := { name := "fnHas", fn := fun _ => fun
  | [d] => { results := [.lit (.bool true)], args := [d] }
  | _ => none }
def fnHasRow : OpenClaim := { program := "ytknddbmcnfjaiaa", sum := "85d3fbb0929a933f86d069c872a718c1d5a06431be0ea47668ced26b28dfa075", func := "loop.example/hypersets/laws.FnHas", spec := "fnHas", apart := false }
def FnHasSaid : Prop := fnHasRow.holds Try.pinned (OpenSpec.ofChange fnHasSpec)

/-- ITS FALSE NEIGHBOUR: 'it returns false'. Refute it at one input. -/
def fnHasWrong : ChangeSpec := { name := "fnHas", fn := fun _ => fun
  | [d] => { results := [.lit (.bool false)], args := [d] }
  | _ => none }
def FnHasWrongFalsely : Prop := fnHasRow.holds Try.pinned (OpenSpec.ofChange fnHasWrong)

/-- 'laws.FnSetOf': WHATEVER THE INPUT: true; the input reads as it did. -/
def fnSetOfSpec : ChangeSpec := { name := "fnSetOf", fn := fun _ => fun
  | [d] => { results := [.lit (.bool true)], args := [d] }
  | _ => none }
def fnSetOfRow : OpenClaim := { program := "ytknddbmcnfjaiaa", sum := "85d3fbb0929a933f86d069c872a718c1d5a06431be0ea47668ced26b28dfa075", func := "loop.example/hypersets/laws.FnSetOf", spec := "fnSetOf", apart := false }
def FnSetOfSaid : Prop := fnSetOfRow.holds Try.pinned (OpenSpec.ofChange fnSetOfSpec)

/-- ITS FALSE NEIGHBOUR: 'it returns false'. Refute it at one input. -/
def fnSetOfWrong : ChangeSpec := { name := "fnSetOf", fn := fun _ => fun
  | [d] => { results := [.lit (.bool false)], args := [d] }
  | _ => none }
def FnSetOfWrongFalsely : Prop := fnSetOfRow.holds Try.pinned (OpenSpec.ofChange fnSetOfWrong)

/-- 'laws.FnExactMembersOf': WHATEVER THE INPUT: true; the input reads as it did. -/
def fnExactMembersOfSpec : ChangeSpec := { name := "fnExactMembersOf", fn := fun _ => fun
  | [d] => { results := [.lit (.bool true)], args := [d] }
  | _ => none }
def fnExactMembersOfRow : OpenClaim := { program := "ytknddbmcnfjaiaa", sum := "85d3fbb0929a933f86d069c872a718c1d5a06431be0ea47668ced26b28dfa075", func := "loop.example/hypersets/laws.FnExactMembersOf", spec := "fnExactMembersOf", apart := false }
def FnExactMembersOfSaid : Prop := fnExactMembersOfRow.holds Try.pinned (OpenSpec.ofChange fnExactMembersOfSpec)

/-- ITS FALSE NEIGHBOUR: 'it returns false'. Refute it at one input. -/
def fnExactMembersOfWrong : ChangeSpec := { name := "fnExactMembersOf", fn := fun _ => fun
  | [d] => { results := [.lit (.bool false)], args := [d] }
  | _ => none }
def FnExactMembersOfWrongFalsely : Prop := fnExactMembersOfRow.holds Try.pinned (OpenSpec.ofChange fnExactMembersOfWrong)

/-- 'laws.FnWithinOf': WHATEVER THE INPUT: true; the input reads as it did. -/
def fnWithinOfSpec : ChangeSpec := { name := "fnWithinOf", fn := fun _ => fun
  | [d] => { results := [.lit (.bool true)], args := [d] }
  | _ => none }
def fnWithinOfRow : OpenClaim := { program := "ytknddbmcnfjaiaa", sum := "85d3fbb0929a933f86d069c872a718c1d5a06431be0ea47668ced26b28dfa075", func := "loop.example/hypersets/laws.FnWithinOf", spec := "fnWithinOf", apart := false }
def FnWithinOfSaid : Prop := fnWithinOfRow.holds Try.pinned (OpenSpec.ofChange fnWithinOfSpec)

/-- ITS FALSE NEIGHBOUR: 'it returns false'. Refute it at one input. -/
def fnWithinOfWrong : ChangeSpec := { name := "fnWithinOf", fn := fun _ => fun
  | [d] => { results := [.lit (.bool false)], args := [d] }
  | _ => none }
def FnWithinOfWrongFalsely : Prop := fnWithinOfRow.holds Try.pinned (OpenSpec.ofChange fnWithinOfWrong)

/-- 'laws.FnUnionOf': WHATEVER THE INPUT: true; the input reads as it did. -/
def fnUnionOfSpec : ChangeSpec := { name := "fnUnionOf", fn := fun _ => fun
  | [d] => { results := [.lit (.bool true)], args := [d] }
  | _ => none }
def fnUnionOfRow : OpenClaim := { program := "ytknddbmcnfjaiaa", sum := "85d3fbb0929a933f86d069c872a718c1d5a06431be0ea47668ced26b28dfa075", func := "loop.example/hypersets/laws.FnUnionOf", spec := "fnUnionOf", apart := false }
def FnUnionOfSaid : Prop := fnUnionOfRow.holds Try.pinned (OpenSpec.ofChange fnUnionOfSpec)

/-- ITS FALSE NEIGHBOUR: 'it returns false'. Refute it at one input. -/
def fnUnionOfWrong : ChangeSpec := { name := "fnUnionOf", fn := fun _ => fun
  | [d] => { results := [.lit (.bool false)], args := [d] }
  | _ => none }
def FnUnionOfWrongFalsely : Prop := fnUnionOfRow.holds Try.pinned (OpenSpec.ofChange fnUnionOfWrong)

/-- 'laws.FnExactFilledOf': WHATEVER THE INPUT: true; the input reads as it did. -/
def fnExactFilledOfSpec : ChangeSpec := { name := "fnExactFilledOf", fn := fun _ => fun
  | [d] => { results := [.lit (.bool true)], args := [d] }
  | _ => none }
def fnExactFilledOfRow : OpenClaim := { program := "ytknddbmcnfjaiaa", sum := "85d3fbb0929a933f86d069c872a718c1d5a06431be0ea47668ced26b28dfa075", func := "loop.example/hypersets/laws.FnExactFilledOf", spec := "fnExactFilledOf", apart := false }
def FnExactFilledOfSaid : Prop := fnExactFilledOfRow.holds Try.pinned (OpenSpec.ofChange fnExactFilledOfSpec)

/-- ITS FALSE NEIGHBOUR: 'it returns false'. Refute it at one input. -/
def fnExactFilledOfWrong : ChangeSpec := { name := "fnExactFilledOf", fn := fun _ => fun
  | [d] => { results := [.lit (.bool false)], args := [d] }
  | _ => none }
def FnExactFilledOfWrongFalsely : Prop := fnExactFilledOfRow.holds Try.pinned (OpenSpec.ofChange fnExactFilledOfWrong)

/-- 'laws.FnCommonOf': WHATEVER THE INPUT: true; the input reads as it did. -/
def fnCommonOfSpec : ChangeSpec := { name := "fnCommonOf", fn := fun _ => fun
  | [d] => { results := [.lit (.bool true)], args := [d] }
  | _ => none }
def fnCommonOfRow : OpenClaim := { program := "ytknddbmcnfjaiaa", sum := "85d3fbb0929a933f86d069c872a718c1d5a06431be0ea47668ced26b28dfa075", func := "loop.example/hypersets/laws.FnCommonOf", spec := "fnCommonOf", apart := false }
def FnCommonOfSaid : Prop := fnCommonOfRow.holds Try.pinned (OpenSpec.ofChange fnCommonOfSpec)

/-- ITS FALSE NEIGHBOUR: 'it returns false'. Refute it at one input. -/
def fnCommonOfWrong : ChangeSpec := { name := "fnCommonOf", fn := fun _ => fun
  | [d] => { results := [.lit (.bool false)], args := [d] }
  | _ => none }
def FnCommonOfWrongFalsely : Prop := fnCommonOfRow.holds Try.pinned (OpenSpec.ofChange fnCommonOfWrong)

/-- 'laws.FnDeepOf': WHATEVER THE INPUT: true; the input reads as it did. -/
def fnDeepOfSpec : ChangeSpec := { name := "fnDeepOf", fn := fun _ => fun
  | [d] => { results := [.lit (.bool true)], args := [d] }
  | _ => none }
def fnDeepOfRow : OpenClaim := { program := "ytknddbmcnfjaiaa", sum := "85d3fbb0929a933f86d069c872a718c1d5a06431be0ea47668ced26b28dfa075", func := "loop.example/hypersets/laws.FnDeepOf", spec := "fnDeepOf", recurses := true, apart := false }
def FnDeepOfSaid : Prop := fnDeepOfRow.holds Try.pinned (OpenSpec.ofChange fnDeepOfSpec)

/-- ITS FALSE NEIGHBOUR: 'it returns false'. Refute it at one input. -/
def fnDeepOfWrong : ChangeSpec := { name := "fnDeepOf", fn := fun _ => fun
  | [d] => { results := [.lit (.bool false)], args := [d] }
  | _ => none }
def FnDeepOfWrongFalsely : Prop := fnDeepOfRow.holds Try.pinned (OpenSpec.ofChange fnDeepOfWrong)

/-- 'laws.FnMembersOf': WHATEVER THE INPUT: true; the input reads as it did. -/
def fnMembersOfSpec : ChangeSpec := { name := "fnMembersOf", fn := fun _ => fun
  | [d] => { results := [.lit (.bool true)], args := [d] }
  | _ => none }
def fnMembersOfRow : OpenClaim := { program := "ytknddbmcnfjaiaa", sum := "85d3fbb0929a933f86d069c872a718c1d5a06431be0ea47668ced26b28dfa075", func := "loop.example/hypersets/laws.FnMembersOf", spec := "fnMembersOf", apart := false }
def FnMembersOfSaid : Prop := fnMembersOfRow.holds Try.pinned (OpenSpec.ofChange fnMembersOfSpec)

/-- ITS FALSE NEIGHBOUR: 'it returns false'. Refute it at one input. -/
def fnMembersOfWrong : ChangeSpec := { name := "fnMembersOf", fn := fun _ => fun
  | [d] => { results := [.lit (.bool false)], args := [d] }
  | _ => none }
def FnMembersOfWrongFalsely : Prop := fnMembersOfRow.holds Try.pinned (OpenSpec.ofChange fnMembersOfWrong)

/-- 'laws.FnAllMembersOf': WHATEVER THE INPUT: true; the input reads as it did. -/
def fnAllMembersOfSpec : ChangeSpec := { name := "fnAllMembersOf", fn := fun _ => fun
  | [d] => { results := [.lit (.bool true)], args := [d] }
  | _ => none }
def fnAllMembersOfRow : OpenClaim := { program := "ytknddbmcnfjaiaa", sum := "85d3fbb0929a933f86d069c872a718c1d5a06431be0ea47668ced26b28dfa075", func := "loop.example/hypersets/laws.FnAllMembersOf", spec := "fnAllMembersOf", recurses := true, apart := false }
def FnAllMembersOfSaid : Prop := fnAllMembersOfRow.holds Try.pinned (OpenSpec.ofChange fnAllMembersOfSpec)

/-- ITS FALSE NEIGHBOUR: 'it returns false'. Refute it at one input. -/
def fnAllMembersOfWrong : ChangeSpec := { name := "fnAllMembersOf", fn := fun _ => fun
  | [d] => { results := [.lit (.bool false)], args := [d] }
  | _ => none }
def FnAllMembersOfWrongFalsely : Prop := fnAllMembersOfRow.holds Try.pinned (OpenSpec.ofChange fnAllMembersOfWrong)

/-- 'laws.FnFullOk': WHATEVER THE INPUT: true; the input reads as it did. -/
def fnFullOkSpec : ChangeSpec := { name := "fnFullOk", fn := fun _ => fun
  | [d] => { results := [.lit (.bool true)], args := [d] }
  | _ => none }
def fnFullOkRow : OpenClaim := { program := "ytknddbmcnfjaiaa", sum := "85d3fbb0929a933f86d069c872a718c1d5a06431be0ea47668ced26b28dfa075", func := "loop.example/hypersets/laws.FnFullOk", spec := "fnFullOk", apart := false }
def FnFullOkSaid : Prop := fnFullOkRow.holds Try.pinned (OpenSpec.ofChange fnFullOkSpec)

/-- ITS FALSE NEIGHBOUR: 'it returns false'. Refute it at one input. -/
def fnFullOkWrong : ChangeSpec := { name := "fnFullOk", fn := fun _ => fun
  | [d] => { results := [.lit (.bool false)], args := [d] }
  | _ => none }
def FnFullOkWrongFalsely : Prop := fnFullOkRow.holds Try.pinned (OpenSpec.ofChange fnFullOkWrong)

/-- 'laws.FnFilledOf': WHATEVER THE INPUT: true; the input reads as it did. -/
def fnFilledOfSpec : ChangeSpec := { name := "fnFilledOf", fn := fun _ => fun
  | [d] => { results := [.lit (.bool true)], args := [d] }
  | _ => none }
def fnFilledOfRow : OpenClaim := { program := "ytknddbmcnfjaiaa", sum := "85d3fbb0929a933f86d069c872a718c1d5a06431be0ea47668ced26b28dfa075", func := "loop.example/hypersets/laws.FnFilledOf", spec := "fnFilledOf", recurses := true, apart := false }
def FnFilledOfSaid : Prop := fnFilledOfRow.holds Try.pinned (OpenSpec.ofChange fnFilledOfSpec)

/-- ITS FALSE NEIGHBOUR: 'it returns false'. Refute it at one input. -/
def fnFilledOfWrong : ChangeSpec := { name := "fnFilledOf", fn := fun _ => fun
  | [d] => { results := [.lit (.bool false)], args := [d] }
  | _ => none }
def FnFilledOfWrongFalsely : Prop := fnFilledOfRow.holds Try.pinned (OpenSpec.ofChange fnFilledOfWrong)

/- THE SECOND FORM. 'bulk': how many values and letters a reading holds, each counted each time it is reached (what is shared counts as often as it is met; a slice's spare places count too). A statement '..UptoSaid' is the law's where the arguments, and the package variables that the reading takes, are together of bulk at most 1048576: NARROWER than '..Said'. Prove '..Said' where nothing that the law and all that it calls make is longer than what came in: it says more and counts as full. Else prove '..UptoSaid'. A law counts once. -/
mutual
def uptoBulk {H : Type} : DataW H → Nat
  | .lit (.string bytes) => bytes.length + 1
  | .lit _ => 1
  | .nil => 1
  | .ptr d => uptoBulk d + 1
  | .slice elems spare => uptoBulkAll elems + uptoBulkAll spare + 1
  | .agg parts => uptoBulkAll parts + 1
  | .iface _ d => uptoBulk d + 1
  | .map entries => uptoBulkEntries entries + 1
  | .held _ => 1
def uptoBulkAll {H : Type} : List (DataW H) → Nat
  | [] => 0
  | d :: r => uptoBulk d + uptoBulkAll r
def uptoBulkEntries {H : Type} : List (Lit × DataW H) → Nat
  | [] => 0
  | x :: r => uptoBulkEntry x + uptoBulkEntries r
def uptoBulkEntry {H : Type} : Lit × DataW H → Nat
  | (.string bytes, d) => bytes.length + uptoBulk d + 1
  | (_, d) => uptoBulk d + 1
 end
def uptoSmall : (H : Type) → List (DataW H) → Bool := fun _ ds => decide (uptoBulkAll ds ≤ 1048576)
def OpenSpec.upto (s : _root_.Go.ChangeSpec) : _root_.Go.OpenSpec := { _root_.Go.OpenSpec.ofChange s with cond := some uptoSmall }

/-- 'laws.FnHas', WHERE WHAT IT READS IS OF BULK AT MOST 1048576: true; the input reads as it did. -/
def fnHasUptoRow : OpenClaim := { program := "ytknddbmcnfjaiaa", sum := "85d3fbb0929a933f86d069c872a718c1d5a06431be0ea47668ced26b28dfa075", func := "loop.example/hypersets/laws.FnHas", spec := "fnHas", apart := false, narrowed := true }
def FnHasUptoSaid : Prop := fnHasUptoRow.holds Try.pinned (OpenSpec.upto fnHasSpec)

/-- 'laws.FnSetOf', WHERE WHAT IT READS IS OF BULK AT MOST 1048576: true; the input reads as it did. -/
def fnSetOfUptoRow : OpenClaim := { program := "ytknddbmcnfjaiaa", sum := "85d3fbb0929a933f86d069c872a718c1d5a06431be0ea47668ced26b28dfa075", func := "loop.example/hypersets/laws.FnSetOf", spec := "fnSetOf", apart := false, narrowed := true }
def FnSetOfUptoSaid : Prop := fnSetOfUptoRow.holds Try.pinned (OpenSpec.upto fnSetOfSpec)

/-- 'laws.FnExactMembersOf', WHERE WHAT IT READS IS OF BULK AT MOST 1048576: true; the input reads as it did. -/
def fnExactMembersOfUptoRow : OpenClaim := { program := "ytknddbmcnfjaiaa", sum := "85d3fbb0929a933f86d069c872a718c1d5a06431be0ea47668ced26b28dfa075", func := "loop.example/hypersets/laws.FnExactMembersOf", spec := "fnExactMembersOf", apart := false, narrowed := true }
def FnExactMembersOfUptoSaid : Prop := fnExactMembersOfUptoRow.holds Try.pinned (OpenSpec.upto fnExactMembersOfSpec)

/-- 'laws.FnWithinOf', WHERE WHAT IT READS IS OF BULK AT MOST 1048576: true; the input reads as it did. -/
def fnWithinOfUptoRow : OpenClaim := { program := "ytknddbmcnfjaiaa", sum := "85d3fbb0929a933f86d069c872a718c1d5a06431be0ea47668ced26b28dfa075", func := "loop.example/hypersets/laws.FnWithinOf", spec := "fnWithinOf", apart := false, narrowed := true }
def FnWithinOfUptoSaid : Prop := fnWithinOfUptoRow.holds Try.pinned (OpenSpec.upto fnWithinOfSpec)

/-- 'laws.FnUnionOf', WHERE WHAT IT READS IS OF BULK AT MOST 1048576: true; the input reads as it did. -/
def fnUnionOfUptoRow : OpenClaim := { program := "ytknddbmcnfjaiaa", sum := "85d3fbb0929a933f86d069c872a718c1d5a06431be0ea47668ced26b28dfa075", func := "loop.example/hypersets/laws.FnUnionOf", spec := "fnUnionOf", apart := false, narrowed := true }
def FnUnionOfUptoSaid : Prop := fnUnionOfUptoRow.holds Try.pinned (OpenSpec.upto fnUnionOfSpec)

/-- 'laws.FnExactFilledOf', WHERE WHAT IT READS IS OF BULK AT MOST 1048576: true; the input reads as it did. -/
def fnExactFilledOfUptoRow : OpenClaim := { program := "ytknddbmcnfjaiaa", sum := "85d3fbb0929a933f86d069c872a718c1d5a06431be0ea47668ced26b28dfa075", func := "loop.example/hypersets/laws.FnExactFilledOf", spec := "fnExactFilledOf", apart := false, narrowed := true }
def FnExactFilledOfUptoSaid : Prop := fnExactFilledOfUptoRow.holds Try.pinned (OpenSpec.upto fnExactFilledOfSpec)

/-- 'laws.FnCommonOf', WHERE WHAT IT READS IS OF BULK AT MOST 1048576: true; the input reads as it did. -/
def fnCommonOfUptoRow : OpenClaim := { program := "ytknddbmcnfjaiaa", sum := "85d3fbb0929a933f86d069c872a718c1d5a06431be0ea47668ced26b28dfa075", func := "loop.example/hypersets/laws.FnCommonOf", spec := "fnCommonOf", apart := false, narrowed := true }
def FnCommonOfUptoSaid : Prop := fnCommonOfUptoRow.holds Try.pinned (OpenSpec.upto fnCommonOfSpec)

/-- 'laws.FnDeepOf', WHERE WHAT IT READS IS OF BULK AT MOST 1048576: true; the input reads as it did. -/
def fnDeepOfUptoRow : OpenClaim := { program := "ytknddbmcnfjaiaa", sum := "85d3fbb0929a933f86d069c872a718c1d5a06431be0ea47668ced26b28dfa075", func := "loop.example/hypersets/laws.FnDeepOf", spec := "fnDeepOf", recurses := true, apart := false, narrowed := true }
def FnDeepOfUptoSaid : Prop := fnDeepOfUptoRow.holds Try.pinned (OpenSpec.upto fnDeepOfSpec)

/-- 'laws.FnMembersOf', WHERE WHAT IT READS IS OF BULK AT MOST 1048576: true; the input reads as it did. -/
def fnMembersOfUptoRow : OpenClaim := { program := "ytknddbmcnfjaiaa", sum := "85d3fbb0929a933f86d069c872a718c1d5a06431be0ea47668ced26b28dfa075", func := "loop.example/hypersets/laws.FnMembersOf", spec := "fnMembersOf", apart := false, narrowed := true }
def FnMembersOfUptoSaid : Prop := fnMembersOfUptoRow.holds Try.pinned (OpenSpec.upto fnMembersOfSpec)

/-- 'laws.FnAllMembersOf', WHERE WHAT IT READS IS OF BULK AT MOST 1048576: true; the input reads as it did. -/
def fnAllMembersOfUptoRow : OpenClaim := { program := "ytknddbmcnfjaiaa", sum := "85d3fbb0929a933f86d069c872a718c1d5a06431be0ea47668ced26b28dfa075", func := "loop.example/hypersets/laws.FnAllMembersOf", spec := "fnAllMembersOf", recurses := true, apart := false, narrowed := true }
def FnAllMembersOfUptoSaid : Prop := fnAllMembersOfUptoRow.holds Try.pinned (OpenSpec.upto fnAllMembersOfSpec)

/-- 'laws.FnFullOk', WHERE WHAT IT READS IS OF BULK AT MOST 1048576: true; the input reads as it did. -/
def fnFullOkUptoRow : OpenClaim := { program := "ytknddbmcnfjaiaa", sum := "85d3fbb0929a933f86d069c872a718c1d5a06431be0ea47668ced26b28dfa075", func := "loop.example/hypersets/laws.FnFullOk", spec := "fnFullOk", apart := false, narrowed := true }
def FnFullOkUptoSaid : Prop := fnFullOkUptoRow.holds Try.pinned (OpenSpec.upto fnFullOkSpec)

/-- 'laws.FnFilledOf', WHERE WHAT IT READS IS OF BULK AT MOST 1048576: true; the input reads as it did. -/
def fnFilledOfUptoRow : OpenClaim := { program := "ytknddbmcnfjaiaa", sum := "85d3fbb0929a933f86d069c872a718c1d5a06431be0ea47668ced26b28dfa075", func := "loop.example/hypersets/laws.FnFilledOf", spec := "fnFilledOf", recurses := true, apart := false, narrowed := true }
def FnFilledOfUptoSaid : Prop := fnFilledOfUptoRow.holds Try.pinned (OpenSpec.upto fnFilledOfSpec)

end Rows
end Go.Proofs.Ytknddbmcnfjaiaa
