/-
  No cell of these rows narrows 'for every input' (looked for: loops, veiled, ifaces, maps, wideKeys, modest, calm, conditions, laid).
  DERIVED. THE GIVEN ROWS OF THIS SEAT. 4 by the template 'for every input the law returns true; each argument reads behind the call as it read before'; 0 by the template 'total and deterministic' (their statements: YtipadgpgcdjflaaTotals.lean).
  GIVEN WITH THE SEED: the statements are not yours to turn. If you find one false, say at which input.
  Laid BY PROGRAM, IN A SANDBOX (cutbox-rows.mjs): the forced cells as the released guide's own fill.sh prints them over the translation 44e79b4b256c8bc3… (all of the seat's roots in one cut). By AI agents, Wed Nov 11 2026. No macro, syntax, notation, axiom, sorry.
-/
import Derived.Test.YtipadgpgcdjflaaChecked
import GoSem.Claim
import GoSem.ClaimJoined
import GoSem.ClaimMapViews
import Derived.JoinedTies
import Derived.KernelRfl
namespace Go.Proofs.Ytipadgpgcdjflaa
/- THE CELL 'sum', in the pinned program and in every row, IS THE sha256 OF THE DUMP (.gsa) THAT YtipadgpgcdjflaaProg.lean LOADS. Nothing in Lean hashes anything: it is a label: what it is worth is what the hold of that sum in a sandbox is worth. -/
noncomputable def Try.pinned : Pinned := { name := "ytipadgpgcdjflaa", sum := "44e79b4b256c8bc33253a8ab4c7e256a516817e420cd14bbdeb41295733cd126", checked := Try.checked }
namespace Rows
def none {H : Type} : Left H := { results := [], args := [] }

/-- 'laws.FnExactSetText': WHATEVER THE INPUT: true; the input reads as it did. -/
def fnExactSetTextSpec : ChangeSpec := { name := "fnExactSetText", fn := fun _ => fun
  | [d] => { results := [.lit (.bool true)], args := [d] }
  | _ => none }
def fnExactSetTextRow : OpenClaim := { program := "ytipadgpgcdjflaa", sum := "44e79b4b256c8bc33253a8ab4c7e256a516817e420cd14bbdeb41295733cd126", func := "loop.example/hypersets/laws.FnExactSetText", spec := "fnExactSetText", inPlace := ["internal/abi.NoEscape", "internal/bytealg.MakeNoZero"], recurses := true, apart := false }
def FnExactSetTextSaid : Prop := fnExactSetTextRow.holds Try.pinned (OpenSpec.ofChange fnExactSetTextSpec)

/-- ITS FALSE NEIGHBOUR: 'it returns false'. Refute it at one input. -/
def fnExactSetTextWrong : ChangeSpec := { name := "fnExactSetText", fn := fun _ => fun
  | [d] => { results := [.lit (.bool false)], args := [d] }
  | _ => none }
def FnExactSetTextWrongFalsely : Prop := fnExactSetTextRow.holds Try.pinned (OpenSpec.ofChange fnExactSetTextWrong)

/-- 'laws.FnExactReadSet': WHATEVER THE INPUT: true; the input reads as it did. -/
def fnExactReadSetSpec : ChangeSpec := { name := "fnExactReadSet", fn := fun _ => fun
  | [d] => { results := [.lit (.bool true)], args := [d] }
  | _ => none }
def fnExactReadSetRow : OpenClaim := { program := "ytipadgpgcdjflaa", sum := "44e79b4b256c8bc33253a8ab4c7e256a516817e420cd14bbdeb41295733cd126", func := "loop.example/hypersets/laws.FnExactReadSet", spec := "fnExactReadSet", inPlace := ["internal/abi.NoEscape", "internal/bytealg.MakeNoZero"], recurses := true, apart := false }
def FnExactReadSetSaid : Prop := fnExactReadSetRow.holds Try.pinned (OpenSpec.ofChange fnExactReadSetSpec)

/-- ITS FALSE NEIGHBOUR: 'it returns false'. Refute it at one input. -/
def fnExactReadSetWrong : ChangeSpec := { name := "fnExactReadSet", fn := fun _ => fun
  | [d] => { results := [.lit (.bool false)], args := [d] }
  | _ => none }
def FnExactReadSetWrongFalsely : Prop := fnExactReadSetRow.holds Try.pinned (OpenSpec.ofChange fnExactReadSetWrong)

/-- 'laws.FnSetText': WHATEVER THE INPUT: true; the input reads as it did. -/
def fnSetTextSpec : ChangeSpec := { name := "fnSetText", fn := fun _ => fun
  | [d] => { results := [.lit (.bool true)], args := [d] }
  | _ => none }
def fnSetTextRow : OpenClaim := { program := "ytipadgpgcdjflaa", sum := "44e79b4b256c8bc33253a8ab4c7e256a516817e420cd14bbdeb41295733cd126", func := "loop.example/hypersets/laws.FnSetText", spec := "fnSetText", inPlace := ["internal/abi.NoEscape", "internal/bytealg.MakeNoZero"], recurses := true, apart := false }
def FnSetTextSaid : Prop := fnSetTextRow.holds Try.pinned (OpenSpec.ofChange fnSetTextSpec)

/-- ITS FALSE NEIGHBOUR: 'it returns false'. Refute it at one input. -/
def fnSetTextWrong : ChangeSpec := { name := "fnSetText", fn := fun _ => fun
  | [d] => { results := [.lit (.bool false)], args := [d] }
  | _ => none }
def FnSetTextWrongFalsely : Prop := fnSetTextRow.holds Try.pinned (OpenSpec.ofChange fnSetTextWrong)

/-- 'laws.FnReadSet': WHATEVER THE INPUT: true; the input reads as it did. -/
def fnReadSetSpec : ChangeSpec := { name := "fnReadSet", fn := fun _ => fun
  | [d] => { results := [.lit (.bool true)], args := [d] }
  | _ => none }
def fnReadSetRow : OpenClaim := { program := "ytipadgpgcdjflaa", sum := "44e79b4b256c8bc33253a8ab4c7e256a516817e420cd14bbdeb41295733cd126", func := "loop.example/hypersets/laws.FnReadSet", spec := "fnReadSet", inPlace := ["internal/abi.NoEscape", "internal/bytealg.MakeNoZero"], recurses := true, apart := false }
def FnReadSetSaid : Prop := fnReadSetRow.holds Try.pinned (OpenSpec.ofChange fnReadSetSpec)

/-- ITS FALSE NEIGHBOUR: 'it returns false'. Refute it at one input. -/
def fnReadSetWrong : ChangeSpec := { name := "fnReadSet", fn := fun _ => fun
  | [d] => { results := [.lit (.bool false)], args := [d] }
  | _ => none }
def FnReadSetWrongFalsely : Prop := fnReadSetRow.holds Try.pinned (OpenSpec.ofChange fnReadSetWrong)

/- THE SECOND FORM. 'bulk': how many values and letters a reading holds, each counted each time it is reached (what is shared counts as often as it is met; a slice's spare places count too). A statement '..UptoSaid' is the law's where the arguments, and the package variables that the reading takes, are together of bulk at most 1048576: NARROWER than '..Said'. Prove '..Said' where nothing that the law and all that it calls make is longer than what came in: it says more and counts as full. Else prove '..UptoSaid'. A law counts once. -/
mutual
def uptoBulk {H : Type} : DataW H → Nat
  | .lit (.string bytes) => bytes.length + 1
  | .lit _ => 1
  | .nil => 1
  | .ptr d => uptoBulk d + 1
  | .slice elems spare => uptoBulkAll elems + uptoBulkAll spare + 1
  | .agg parts => uptoBulkAll parts + 1
  | .iface _ d => uptoBulk d + 1
  | .map entries => uptoBulkEntries entries + 1
  | .held _ => 1
def uptoBulkAll {H : Type} : List (DataW H) → Nat
  | [] => 0
  | d :: r => uptoBulk d + uptoBulkAll r
def uptoBulkEntries {H : Type} : List (Lit × DataW H) → Nat
  | [] => 0
  | x :: r => uptoBulkEntry x + uptoBulkEntries r
def uptoBulkEntry {H : Type} : Lit × DataW H → Nat
  | (.string bytes, d) => bytes.length + uptoBulk d + 1
  | (_, d) => uptoBulk d + 1
 end
def uptoSmall : (H : Type) → List (DataW H) → Bool := fun _ ds => decide (uptoBulkAll ds ≤ 1048576)
def OpenSpec.upto (s : _root_.Go.ChangeSpec) : _root_.Go.OpenSpec := { _root_.Go.OpenSpec.ofChange s with cond := some uptoSmall }

/-- 'laws.FnExactSetText', WHERE WHAT IT READS IS OF BULK AT MOST 1048576: true; the input reads as it did. -/
def fnExactSetTextUptoRow : OpenClaim := { program := "ytipadgpgcdjflaa", sum := "44e79b4b256c8bc33253a8ab4c7e256a516817e420cd14bbdeb41295733cd126", func := "loop.example/hypersets/laws.FnExactSetText", spec := "fnExactSetText", inPlace := ["internal/abi.NoEscape", "internal/bytealg.MakeNoZero"], recurses := true, apart := false, narrowed := true }
def FnExactSetTextUptoSaid : Prop := fnExactSetTextUptoRow.holds Try.pinned (OpenSpec.upto fnExactSetTextSpec)

/-- 'laws.FnExactReadSet', WHERE WHAT IT READS IS OF BULK AT MOST 1048576: true; the input reads as it did. -/
def fnExactReadSetUptoRow : OpenClaim := { program := "ytipadgpgcdjflaa", sum := "44e79b4b256c8bc33253a8ab4c7e256a516817e420cd14bbdeb41295733cd126", func := "loop.example/hypersets/laws.FnExactReadSet", spec := "fnExactReadSet", inPlace := ["internal/abi.NoEscape", "internal/bytealg.MakeNoZero"], recurses := true, apart := false, narrowed := true }
def FnExactReadSetUptoSaid : Prop := fnExactReadSetUptoRow.holds Try.pinned (OpenSpec.upto fnExactReadSetSpec)

/-- 'laws.FnSetText', WHERE WHAT IT READS IS OF BULK AT MOST 1048576: true; the input reads as it did. -/
def fnSetTextUptoRow : OpenClaim := { program := "ytipadgpgcdjflaa", sum := "44e79b4b256c8bc33253a8ab4c7e256a516817e420cd14bbdeb41295733cd126", func := "loop.example/hypersets/laws.FnSetText", spec := "fnSetText", inPlace := ["internal/abi.NoEscape", "internal/bytealg.MakeNoZero"], recurses := true, apart := false, narrowed := true }
def FnSetTextUptoSaid : Prop := fnSetTextUptoRow.holds Try.pinned (OpenSpec.upto fnSetTextSpec)

/-- 'laws.FnReadSet', WHERE WHAT IT READS IS OF BULK AT MOST 1048576: true; the input reads as it did. -/
def fnReadSetUptoRow : OpenClaim := { program := "ytipadgpgcdjflaa", sum := "44e79b4b256c8bc33253a8ab4c7e256a516817e420cd14bbdeb41295733cd126", func := "loop.example/hypersets/laws.FnReadSet", spec := "fnReadSet", inPlace := ["internal/abi.NoEscape", "internal/bytealg.MakeNoZero"], recurses := true, apart := false, narrowed := true }
def FnReadSetUptoSaid : Prop := fnReadSetUptoRow.holds Try.pinned (OpenSpec.upto fnReadSetSpec)

end Rows
end Go.Proofs.Ytipadgpgcdjflaa
