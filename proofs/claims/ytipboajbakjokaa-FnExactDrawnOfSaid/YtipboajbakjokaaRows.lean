/-
  No cell of these rows narrows 'for every input' (looked for: loops, veiled, ifaces, maps, wideKeys, modest, calm, conditions, laid).
  DERIVED. THE GIVEN ROWS OF THIS SEAT. 12 by the template 'for every input the law returns true; each argument reads behind the call as it read before'; 0 by the template 'total and deterministic' (their statements: YtipboajbakjokaaTotals.lean).
  GIVEN WITH THE SEED: the statements are not yours to turn. If you find one false, say at which input.
  Laid BY PROGRAM, IN A SANDBOX (cutbox-rows.mjs): the forced cells as the released guide's own fill.sh prints them over the translation a68f25f480b2daed… (all of the seat's roots in one cut). By AI agents, Wed Nov 11 2026. No macro, syntax, notation, axiom, sorry.
-/
import Derived.Test.YtipboajbakjokaaChecked
import GoSem.Claim
import GoSem.ClaimJoined
import GoSem.ClaimMapViews
import Derived.JoinedTies
import Derived.KernelRfl
namespace Go.Proofs.Ytipboajbakjokaa
/- THE CELL 'sum', in the pinned program and in every row, IS THE sha256 OF THE DUMP (.gsa) THAT YtipboajbakjokaaProg.lean LOADS. Nothing in Lean hashes anything: it is a label: what it is worth is what the hold of that sum in a sandbox is worth. -/
noncomputable def Try.pinned : Pinned := { name := "ytipboajbakjokaa", sum := "a68f25f480b2daed2f0403bb7fc30651ec429e60868d4fe3b1cf9edb9e697d87", checked := Try.checked }
namespace Rows
def none {H : Type} : Left H := { results := [], args := [] }

/-- 'laws.FnExactPictureOk': WHATEVER THE INPUT: true; the input reads as it did. -/
def fnExactPictureOkSpec : ChangeSpec := { name := "fnExactPictureOk", fn := fun _ => fun
  | [d] => { results := [.lit (.bool true)], args := [d] }
  | _ => none }
def fnExactPictureOkRow : OpenClaim := { program := "ytipboajbakjokaa", sum := "a68f25f480b2daed2f0403bb7fc30651ec429e60868d4fe3b1cf9edb9e697d87", func := "loop.example/hypersets/laws.FnExactPictureOk", spec := "fnExactPictureOk", apart := false }
def FnExactPictureOkSaid : Prop := fnExactPictureOkRow.holds Try.pinned (OpenSpec.ofChange fnExactPictureOkSpec)

/-- ITS FALSE NEIGHBOUR: 'it returns false'. Refute it at one input. -/
def fnExactPictureOkWrong : ChangeSpec := { name := "fnExactPictureOk", fn := fun _ => fun
  | [d] => { results := [.lit (.bool false)], args := [d] }
  | _ => none }
def FnExactPictureOkWrongFalsely : Prop := fnExactPictureOkRow.holds Try.pinned (OpenSpec.ofChange fnExactPictureOkWrong)

/-- 'laws.FnPictureOk': WHATEVER THE INPUT: true; the input reads as it did. -/
def fnPictureOkSpec : ChangeSpec := { name := "fnPictureOk", fn := fun _ => fun
  | [d] => { results := [.lit (.bool true)], args := [d] }
  | _ => none }
def fnPictureOkRow : OpenClaim := { program := "ytipboajbakjokaa", sum := "a68f25f480b2daed2f0403bb7fc30651ec429e60868d4fe3b1cf9edb9e697d87", func := "loop.example/hypersets/laws.FnPictureOk", spec := "fnPictureOk", apart := false }
def FnPictureOkSaid : Prop := fnPictureOkRow.holds Try.pinned (OpenSpec.ofChange fnPictureOkSpec)

/-- ITS FALSE NEIGHBOUR: 'it returns false'. Refute it at one input. -/
def fnPictureOkWrong : ChangeSpec := { name := "fnPictureOk", fn := fun _ => fun
  | [d] => { results := [.lit (.bool false)], args := [d] }
  | _ => none }
def FnPictureOkWrongFalsely : Prop := fnPictureOkRow.holds Try.pinned (OpenSpec.ofChange fnPictureOkWrong)

/-- 'laws.FnExactDrawnOf': WHATEVER THE INPUT: true; the input reads as it did. -/
def fnExactDrawnOfSpec : ChangeSpec := { name := "fnExactDrawnOf", fn := fun _ => fun
  | [d] => { results := [.lit (.bool true)], args := [d] }
  | _ => none }
def fnExactDrawnOfRow : OpenClaim := { program := "ytipboajbakjokaa", sum := "a68f25f480b2daed2f0403bb7fc30651ec429e60868d4fe3b1cf9edb9e697d87", func := "loop.example/hypersets/laws.FnExactDrawnOf", spec := "fnExactDrawnOf", apart := false }
def FnExactDrawnOfSaid : Prop := fnExactDrawnOfRow.holds Try.pinned (OpenSpec.ofChange fnExactDrawnOfSpec)

/-- ITS FALSE NEIGHBOUR: 'it returns false'. Refute it at one input. -/
def fnExactDrawnOfWrong : ChangeSpec := { name := "fnExactDrawnOf", fn := fun _ => fun
  | [d] => { results := [.lit (.bool false)], args := [d] }
  | _ => none }
def FnExactDrawnOfWrongFalsely : Prop := fnExactDrawnOfRow.holds Try.pinned (OpenSpec.ofChange fnExactDrawnOfWrong)

/-- 'laws.FnExactLikeOk': WHATEVER THE INPUT: true; the input reads as it did. -/
def fnExactLikeOkSpec : ChangeSpec := { name := "fnExactLikeOk", fn := fun _ => fun
  | [d1, d2] => { results := [.lit (.bool true)], args := [d1, d2] }
  | _ => none }
def fnExactLikeOkRow : OpenClaim := { program := "ytipboajbakjokaa", sum := "a68f25f480b2daed2f0403bb7fc30651ec429e60868d4fe3b1cf9edb9e697d87", func := "loop.example/hypersets/laws.FnExactLikeOk", spec := "fnExactLikeOk", unfollowed := true, recurses := true, apart := false }
def FnExactLikeOkSaid : Prop := fnExactLikeOkRow.holds Try.pinned (OpenSpec.ofChange fnExactLikeOkSpec)

/-- ITS FALSE NEIGHBOUR: 'it returns false'. Refute it at one input. -/
def fnExactLikeOkWrong : ChangeSpec := { name := "fnExactLikeOk", fn := fun _ => fun
  | [d1, d2] => { results := [.lit (.bool false)], args := [d1, d2] }
  | _ => none }
def FnExactLikeOkWrongFalsely : Prop := fnExactLikeOkRow.holds Try.pinned (OpenSpec.ofChange fnExactLikeOkWrong)

/-- 'laws.FnExactSameAt': WHATEVER THE INPUT: true; the input reads as it did. -/
def fnExactSameAtSpec : ChangeSpec := { name := "fnExactSameAt", fn := fun _ => fun
  | [d1, d2, d3] => { results := [.lit (.bool true)], args := [d1, d2, d3] }
  | _ => none }
def fnExactSameAtRow : OpenClaim := { program := "ytipboajbakjokaa", sum := "a68f25f480b2daed2f0403bb7fc30651ec429e60868d4fe3b1cf9edb9e697d87", func := "loop.example/hypersets/laws.FnExactSameAt", spec := "fnExactSameAt", unfollowed := true, recurses := true, apart := false }
def FnExactSameAtSaid : Prop := fnExactSameAtRow.holds Try.pinned (OpenSpec.ofChange fnExactSameAtSpec)

/-- ITS FALSE NEIGHBOUR: 'it returns false'. Refute it at one input. -/
def fnExactSameAtWrong : ChangeSpec := { name := "fnExactSameAt", fn := fun _ => fun
  | [d1, d2, d3] => { results := [.lit (.bool false)], args := [d1, d2, d3] }
  | _ => none }
def FnExactSameAtWrongFalsely : Prop := fnExactSameAtRow.holds Try.pinned (OpenSpec.ofChange fnExactSameAtWrong)

/-- 'laws.FnExactLeftAfter': WHATEVER THE INPUT: true; the input reads as it did. -/
def fnExactLeftAfterSpec : ChangeSpec := { name := "fnExactLeftAfter", fn := fun _ => fun
  | [d1, d2] => { results := [.lit (.bool true)], args := [d1, d2] }
  | _ => none }
def fnExactLeftAfterRow : OpenClaim := { program := "ytipboajbakjokaa", sum := "a68f25f480b2daed2f0403bb7fc30651ec429e60868d4fe3b1cf9edb9e697d87", func := "loop.example/hypersets/laws.FnExactLeftAfter", spec := "fnExactLeftAfter", unfollowed := true, recurses := true, apart := false }
def FnExactLeftAfterSaid : Prop := fnExactLeftAfterRow.holds Try.pinned (OpenSpec.ofChange fnExactLeftAfterSpec)

/-- ITS FALSE NEIGHBOUR: 'it returns false'. Refute it at one input. -/
def fnExactLeftAfterWrong : ChangeSpec := { name := "fnExactLeftAfter", fn := fun _ => fun
  | [d1, d2] => { results := [.lit (.bool false)], args := [d1, d2] }
  | _ => none }
def FnExactLeftAfterWrongFalsely : Prop := fnExactLeftAfterRow.holds Try.pinned (OpenSpec.ofChange fnExactLeftAfterWrong)

/-- 'laws.FnExactSameRows': WHATEVER THE INPUT: true; the input reads as it did. -/
def fnExactSameRowsSpec : ChangeSpec := { name := "fnExactSameRows", fn := fun _ => fun
  | [d] => { results := [.lit (.bool true)], args := [d] }
  | _ => none }
def fnExactSameRowsRow : OpenClaim := { program := "ytipboajbakjokaa", sum := "a68f25f480b2daed2f0403bb7fc30651ec429e60868d4fe3b1cf9edb9e697d87", func := "loop.example/hypersets/laws.FnExactSameRows", spec := "fnExactSameRows", unfollowed := true, recurses := true, apart := false }
def FnExactSameRowsSaid : Prop := fnExactSameRowsRow.holds Try.pinned (OpenSpec.ofChange fnExactSameRowsSpec)

/-- ITS FALSE NEIGHBOUR: 'it returns false'. Refute it at one input. -/
def fnExactSameRowsWrong : ChangeSpec := { name := "fnExactSameRows", fn := fun _ => fun
  | [d] => { results := [.lit (.bool false)], args := [d] }
  | _ => none }
def FnExactSameRowsWrongFalsely : Prop := fnExactSameRowsRow.holds Try.pinned (OpenSpec.ofChange fnExactSameRowsWrong)

/-- 'laws.FnLeftAfter': WHATEVER THE INPUT: true; the input reads as it did. -/
def fnLeftAfterSpec : ChangeSpec := { name := "fnLeftAfter", fn := fun _ => fun
  | [d] => { results := [.lit (.bool true)], args := [d] }
  | _ => none }
def fnLeftAfterRow : OpenClaim := { program := "ytipboajbakjokaa", sum := "a68f25f480b2daed2f0403bb7fc30651ec429e60868d4fe3b1cf9edb9e697d87", func := "loop.example/hypersets/laws.FnLeftAfter", spec := "fnLeftAfter", unfollowed := true, recurses := true, apart := false }
def FnLeftAfterSaid : Prop := fnLeftAfterRow.holds Try.pinned (OpenSpec.ofChange fnLeftAfterSpec)

/-- ITS FALSE NEIGHBOUR: 'it returns false'. Refute it at one input. -/
def fnLeftAfterWrong : ChangeSpec := { name := "fnLeftAfter", fn := fun _ => fun
  | [d] => { results := [.lit (.bool false)], args := [d] }
  | _ => none }
def FnLeftAfterWrongFalsely : Prop := fnLeftAfterRow.holds Try.pinned (OpenSpec.ofChange fnLeftAfterWrong)

/-- 'laws.FnLikeOk': WHATEVER THE INPUT: true; the input reads as it did. -/
def fnLikeOkSpec : ChangeSpec := { name := "fnLikeOk", fn := fun _ => fun
  | [d] => { results := [.lit (.bool true)], args := [d] }
  | _ => none }
def fnLikeOkRow : OpenClaim := { program := "ytipboajbakjokaa", sum := "a68f25f480b2daed2f0403bb7fc30651ec429e60868d4fe3b1cf9edb9e697d87", func := "loop.example/hypersets/laws.FnLikeOk", spec := "fnLikeOk", unfollowed := true, recurses := true, apart := false }
def FnLikeOkSaid : Prop := fnLikeOkRow.holds Try.pinned (OpenSpec.ofChange fnLikeOkSpec)

/-- ITS FALSE NEIGHBOUR: 'it returns false'. Refute it at one input. -/
def fnLikeOkWrong : ChangeSpec := { name := "fnLikeOk", fn := fun _ => fun
  | [d] => { results := [.lit (.bool false)], args := [d] }
  | _ => none }
def FnLikeOkWrongFalsely : Prop := fnLikeOkRow.holds Try.pinned (OpenSpec.ofChange fnLikeOkWrong)

/-- 'laws.FnExactKindsOf': WHATEVER THE INPUT: true; the input reads as it did. -/
def fnExactKindsOfSpec : ChangeSpec := { name := "fnExactKindsOf", fn := fun _ => fun
  | [d] => { results := [.lit (.bool true)], args := [d] }
  | _ => none }
def fnExactKindsOfRow : OpenClaim := { program := "ytipboajbakjokaa", sum := "a68f25f480b2daed2f0403bb7fc30651ec429e60868d4fe3b1cf9edb9e697d87", func := "loop.example/hypersets/laws.FnExactKindsOf", spec := "fnExactKindsOf", unfollowed := true, recurses := true, apart := false }
def FnExactKindsOfSaid : Prop := fnExactKindsOfRow.holds Try.pinned (OpenSpec.ofChange fnExactKindsOfSpec)

/-- ITS FALSE NEIGHBOUR: 'it returns false'. Refute it at one input. -/
def fnExactKindsOfWrong : ChangeSpec := { name := "fnExactKindsOf", fn := fun _ => fun
  | [d] => { results := [.lit (.bool false)], args := [d] }
  | _ => none }
def FnExactKindsOfWrongFalsely : Prop := fnExactKindsOfRow.holds Try.pinned (OpenSpec.ofChange fnExactKindsOfWrong)

/-- 'laws.FnKindsOf': WHATEVER THE INPUT: true; the input reads as it did. -/
def fnKindsOfSpec : ChangeSpec := { name := "fnKindsOf", fn := fun _ => fun
  | [d] => { results := [.lit (.bool true)], args := [d] }
  | _ => none }
def fnKindsOfRow : OpenClaim := { program := "ytipboajbakjokaa", sum := "a68f25f480b2daed2f0403bb7fc30651ec429e60868d4fe3b1cf9edb9e697d87", func := "loop.example/hypersets/laws.FnKindsOf", spec := "fnKindsOf", unfollowed := true, recurses := true, apart := false }
def FnKindsOfSaid : Prop := fnKindsOfRow.holds Try.pinned (OpenSpec.ofChange fnKindsOfSpec)

/-- ITS FALSE NEIGHBOUR: 'it returns false'. Refute it at one input. -/
def fnKindsOfWrong : ChangeSpec := { name := "fnKindsOf", fn := fun _ => fun
  | [d] => { results := [.lit (.bool false)], args := [d] }
  | _ => none }
def FnKindsOfWrongFalsely : Prop := fnKindsOfRow.holds Try.pinned (OpenSpec.ofChange fnKindsOfWrong)

/-- 'laws.FnSameRows': WHATEVER THE INPUT: true; the input reads as it did. -/
def fnSameRowsSpec : ChangeSpec := { name := "fnSameRows", fn := fun _ => fun
  | [d1, d2] => { results := [.lit (.bool true)], args := [d1, d2] }
  | _ => none }
def fnSameRowsRow : OpenClaim := { program := "ytipboajbakjokaa", sum := "a68f25f480b2daed2f0403bb7fc30651ec429e60868d4fe3b1cf9edb9e697d87", func := "loop.example/hypersets/laws.FnSameRows", spec := "fnSameRows", unfollowed := true, recurses := true, apart := false }
def FnSameRowsSaid : Prop := fnSameRowsRow.holds Try.pinned (OpenSpec.ofChange fnSameRowsSpec)

/-- ITS FALSE NEIGHBOUR: 'it returns false'. Refute it at one input. -/
def fnSameRowsWrong : ChangeSpec := { name := "fnSameRows", fn := fun _ => fun
  | [d1, d2] => { results := [.lit (.bool false)], args := [d1, d2] }
  | _ => none }
def FnSameRowsWrongFalsely : Prop := fnSameRowsRow.holds Try.pinned (OpenSpec.ofChange fnSameRowsWrong)

/- THE SECOND FORM. 'bulk': how many values and letters a reading holds, each counted each time it is reached (what is shared counts as often as it is met; a slice's spare places count too). A statement '..UptoSaid' is the law's where the arguments, and the package variables that the reading takes, are together of bulk at most 1048576: NARROWER than '..Said'. Prove '..Said' where nothing that the law and all that it calls make is longer than what came in: it says more and counts as full. Else prove '..UptoSaid'. A law counts once. -/
mutual
def uptoBulk {H : Type} : DataW H → Nat
  | .lit (.string bytes) => bytes.length + 1
  | .lit _ => 1
  | .nil => 1
  | .ptr d => uptoBulk d + 1
  | .slice elems spare => uptoBulkAll elems + uptoBulkAll spare + 1
  | .agg parts => uptoBulkAll parts + 1
  | .iface _ d => uptoBulk d + 1
  | .map entries => uptoBulkEntries entries + 1
  | .held _ => 1
def uptoBulkAll {H : Type} : List (DataW H) → Nat
  | [] => 0
  | d :: r => uptoBulk d + uptoBulkAll r
def uptoBulkEntries {H : Type} : List (Lit × DataW H) → Nat
  | [] => 0
  | x :: r => uptoBulkEntry x + uptoBulkEntries r
def uptoBulkEntry {H : Type} : Lit × DataW H → Nat
  | (.string bytes, d) => bytes.length + uptoBulk d + 1
  | (_, d) => uptoBulk d + 1
 end
def uptoSmall : (H : Type) → List (DataW H) → Bool := fun _ ds => decide (uptoBulkAll ds ≤ 1048576)
def OpenSpec.upto (s : _root_.Go.ChangeSpec) : _root_.Go.OpenSpec := { _root_.Go.OpenSpec.ofChange s with cond := some uptoSmall }

/-- 'laws.FnExactPictureOk', WHERE WHAT IT READS IS OF BULK AT MOST 1048576: true; the input reads as it did. -/
def fnExactPictureOkUptoRow : OpenClaim := { program := "ytipboajbakjokaa", sum := "a68f25f480b2daed2f0403bb7fc30651ec429e60868d4fe3b1cf9edb9e697d87", func := "loop.example/hypersets/laws.FnExactPictureOk", spec := "fnExactPictureOk", apart := false, narrowed := true }
def FnExactPictureOkUptoSaid : Prop := fnExactPictureOkUptoRow.holds Try.pinned (OpenSpec.upto fnExactPictureOkSpec)

/-- 'laws.FnPictureOk', WHERE WHAT IT READS IS OF BULK AT MOST 1048576: true; the input reads as it did. -/
def fnPictureOkUptoRow : OpenClaim := { program := "ytipboajbakjokaa", sum := "a68f25f480b2daed2f0403bb7fc30651ec429e60868d4fe3b1cf9edb9e697d87", func := "loop.example/hypersets/laws.FnPictureOk", spec := "fnPictureOk", apart := false, narrowed := true }
def FnPictureOkUptoSaid : Prop := fnPictureOkUptoRow.holds Try.pinned (OpenSpec.upto fnPictureOkSpec)

/-- 'laws.FnExactDrawnOf', WHERE WHAT IT READS IS OF BULK AT MOST 1048576: true; the input reads as it did. -/
def fnExactDrawnOfUptoRow : OpenClaim := { program := "ytipboajbakjokaa", sum := "a68f25f480b2daed2f0403bb7fc30651ec429e60868d4fe3b1cf9edb9e697d87", func := "loop.example/hypersets/laws.FnExactDrawnOf", spec := "fnExactDrawnOf", apart := false, narrowed := true }
def FnExactDrawnOfUptoSaid : Prop := fnExactDrawnOfUptoRow.holds Try.pinned (OpenSpec.upto fnExactDrawnOfSpec)

/-- 'laws.FnExactLikeOk', WHERE WHAT IT READS IS OF BULK AT MOST 1048576: true; the input reads as it did. -/
def fnExactLikeOkUptoRow : OpenClaim := { program := "ytipboajbakjokaa", sum := "a68f25f480b2daed2f0403bb7fc30651ec429e60868d4fe3b1cf9edb9e697d87", func := "loop.example/hypersets/laws.FnExactLikeOk", spec := "fnExactLikeOk", unfollowed := true, recurses := true, apart := false, narrowed := true }
def FnExactLikeOkUptoSaid : Prop := fnExactLikeOkUptoRow.holds Try.pinned (OpenSpec.upto fnExactLikeOkSpec)

/-- 'laws.FnExactSameAt', WHERE WHAT IT READS IS OF BULK AT MOST 1048576: true; the input reads as it did. -/
def fnExactSameAtUptoRow : OpenClaim := { program := "ytipboajbakjokaa", sum := "a68f25f480b2daed2f0403bb7fc30651ec429e60868d4fe3b1cf9edb9e697d87", func := "loop.example/hypersets/laws.FnExactSameAt", spec := "fnExactSameAt", unfollowed := true, recurses := true, apart := false, narrowed := true }
def FnExactSameAtUptoSaid : Prop := fnExactSameAtUptoRow.holds Try.pinned (OpenSpec.upto fnExactSameAtSpec)

/-- 'laws.FnExactLeftAfter', WHERE WHAT IT READS IS OF BULK AT MOST 1048576: true; the input reads as it did. -/
def fnExactLeftAfterUptoRow : OpenClaim := { program := "ytipboajbakjokaa", sum := "a68f25f480b2daed2f0403bb7fc30651ec429e60868d4fe3b1cf9edb9e697d87", func := "loop.example/hypersets/laws.FnExactLeftAfter", spec := "fnExactLeftAfter", unfollowed := true, recurses := true, apart := false, narrowed := true }
def FnExactLeftAfterUptoSaid : Prop := fnExactLeftAfterUptoRow.holds Try.pinned (OpenSpec.upto fnExactLeftAfterSpec)

/-- 'laws.FnExactSameRows', WHERE WHAT IT READS IS OF BULK AT MOST 1048576: true; the input reads as it did. -/
def fnExactSameRowsUptoRow : OpenClaim := { program := "ytipboajbakjokaa", sum := "a68f25f480b2daed2f0403bb7fc30651ec429e60868d4fe3b1cf9edb9e697d87", func := "loop.example/hypersets/laws.FnExactSameRows", spec := "fnExactSameRows", unfollowed := true, recurses := true, apart := false, narrowed := true }
def FnExactSameRowsUptoSaid : Prop := fnExactSameRowsUptoRow.holds Try.pinned (OpenSpec.upto fnExactSameRowsSpec)

/-- 'laws.FnLeftAfter', WHERE WHAT IT READS IS OF BULK AT MOST 1048576: true; the input reads as it did. -/
def fnLeftAfterUptoRow : OpenClaim := { program := "ytipboajbakjokaa", sum := "a68f25f480b2daed2f0403bb7fc30651ec429e60868d4fe3b1cf9edb9e697d87", func := "loop.example/hypersets/laws.FnLeftAfter", spec := "fnLeftAfter", unfollowed := true, recurses := true, apart := false, narrowed := true }
def FnLeftAfterUptoSaid : Prop := fnLeftAfterUptoRow.holds Try.pinned (OpenSpec.upto fnLeftAfterSpec)

/-- 'laws.FnLikeOk', WHERE WHAT IT READS IS OF BULK AT MOST 1048576: true; the input reads as it did. -/
def fnLikeOkUptoRow : OpenClaim := { program := "ytipboajbakjokaa", sum := "a68f25f480b2daed2f0403bb7fc30651ec429e60868d4fe3b1cf9edb9e697d87", func := "loop.example/hypersets/laws.FnLikeOk", spec := "fnLikeOk", unfollowed := true, recurses := true, apart := false, narrowed := true }
def FnLikeOkUptoSaid : Prop := fnLikeOkUptoRow.holds Try.pinned (OpenSpec.upto fnLikeOkSpec)

/-- 'laws.FnExactKindsOf', WHERE WHAT IT READS IS OF BULK AT MOST 1048576: true; the input reads as it did. -/
def fnExactKindsOfUptoRow : OpenClaim := { program := "ytipboajbakjokaa", sum := "a68f25f480b2daed2f0403bb7fc30651ec429e60868d4fe3b1cf9edb9e697d87", func := "loop.example/hypersets/laws.FnExactKindsOf", spec := "fnExactKindsOf", unfollowed := true, recurses := true, apart := false, narrowed := true }
def FnExactKindsOfUptoSaid : Prop := fnExactKindsOfUptoRow.holds Try.pinned (OpenSpec.upto fnExactKindsOfSpec)

/-- 'laws.FnKindsOf', WHERE WHAT IT READS IS OF BULK AT MOST 1048576: true; the input reads as it did. -/
def fnKindsOfUptoRow : OpenClaim := { program := "ytipboajbakjokaa", sum := "a68f25f480b2daed2f0403bb7fc30651ec429e60868d4fe3b1cf9edb9e697d87", func := "loop.example/hypersets/laws.FnKindsOf", spec := "fnKindsOf", unfollowed := true, recurses := true, apart := false, narrowed := true }
def FnKindsOfUptoSaid : Prop := fnKindsOfUptoRow.holds Try.pinned (OpenSpec.upto fnKindsOfSpec)

/-- 'laws.FnSameRows', WHERE WHAT IT READS IS OF BULK AT MOST 1048576: true; the input reads as it did. -/
def fnSameRowsUptoRow : OpenClaim := { program := "ytipboajbakjokaa", sum := "a68f25f480b2daed2f0403bb7fc30651ec429e60868d4fe3b1cf9edb9e697d87", func := "loop.example/hypersets/laws.FnSameRows", spec := "fnSameRows", unfollowed := true, recurses := true, apart := false, narrowed := true }
def FnSameRowsUptoSaid : Prop := fnSameRowsUptoRow.holds Try.pinned (OpenSpec.upto fnSameRowsSpec)

end Rows
end Go.Proofs.Ytipboajbakjokaa
