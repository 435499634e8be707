/-
  DERIVED. GIVEN WITH THE SEED: THE CARDS: each row of YtipadgpgcdjflaaDoorRows.lean that lists a variable, with what it lists TIED to the program's text (the seventh form; the later family's looks); each row that meets fmt, with fmt's text TOLD by the authors' own Lean function (tested against real Go, not proved from fmt's source: count such statements apart). THE CARD IS WHAT COUNTS. Prove the row's statement (the work); the ties are given (YtipadgpgcdjflaaDoorTie.lean); close each card by the builder's one call (the guide's Derived/Test/ToyasCard.lean, 'card_holds'). Laid BY PROGRAM, IN A SANDBOX (cutbox-door.mjs). By AI agents, Wed Nov 11 2026. No macro, syntax, notation, axiom, sorry.
-/
import Derived.Test.YtipadgpgcdjflaaDoorRows
import GoSem.ClaimSeven
namespace Go.Proofs.YtipadgpgcdjflaaDoor
namespace Rows

/-- THE TIED CARD OF 'laws.FnExactReadPicture'. -/
def fnExactReadPictureCard : Claim7 := { stood := { row := fnExactReadPictureRow, standIns := [], harness := (true, "6426ce3ad6ceff1a464c632a533fcecc0d27818ca484c21dc655703699e57644"), looks := false }, kinds := [], alts := [], laidByText := true, laidKinds := [.data, .data, .data, .data, .pinned], laidTests := true, laidLooks := .later }
def FnExactReadPictureCardSaid : Prop := Claim7.holds Tryd.pinned (.plain (OpenSpec.ofChange fnExactReadPictureSpec)) fnExactReadPictureCard

/-- THE TIED CARD OF 'laws.FnPictureText'. -/
def fnPictureTextCard : Claim7 := { stood := { row := fnPictureTextRow, standIns := [], harness := (true, "6426ce3ad6ceff1a464c632a533fcecc0d27818ca484c21dc655703699e57644"), looks := false }, kinds := [], alts := [], laidByText := true, laidKinds := [.data, .data, .data, .data, .pinned], laidTests := true, laidLooks := .later }
def FnPictureTextCardSaid : Prop := Claim7.holds Tryd.pinned (.plain (OpenSpec.ofChange fnPictureTextSpec)) fnPictureTextCard

/-- THE TIED CARD OF 'laws.FnReadPicture'. -/
def fnReadPictureCard : Claim7 := { stood := { row := fnReadPictureRow, standIns := [], harness := (true, "6426ce3ad6ceff1a464c632a533fcecc0d27818ca484c21dc655703699e57644"), looks := false }, kinds := [], alts := [], laidByText := true, laidKinds := [.data, .data, .data, .data, .pinned], laidTests := true, laidLooks := .later }
def FnReadPictureCardSaid : Prop := Claim7.holds Tryd.pinned (.plain (OpenSpec.ofChange fnReadPictureSpec)) fnReadPictureCard

/-- THE TIED CARD OF 'laws.FnExactPictureText'. -/
def fnExactPictureTextCard : Claim7 := { stood := { row := fnExactPictureTextRow, standIns := [], harness := (true, "6426ce3ad6ceff1a464c632a533fcecc0d27818ca484c21dc655703699e57644"), looks := false }, kinds := [], alts := [], laidByText := true, laidKinds := [.data, .data, .data], laidTests := true, laidLooks := .later }
def FnExactPictureTextCardSaid : Prop := Claim7.holds Tryd.pinned (.plain (OpenSpec.ofChange fnExactPictureTextSpec)) fnExactPictureTextCard

/-- THE SECOND FORM's CARD OF 'laws.FnExactReadPicture'. -/
def fnExactReadPictureUptoCard : Claim7 := { stood := { row := fnExactReadPictureUptoRow, standIns := [], harness := (true, "6426ce3ad6ceff1a464c632a533fcecc0d27818ca484c21dc655703699e57644"), looks := false }, kinds := [], alts := [], laidByText := true, laidKinds := [.data, .data, .data, .data, .pinned], laidTests := true, laidLooks := .later }
def FnExactReadPictureUptoCardSaid : Prop := Claim7.holds Tryd.pinned (.plain (OpenSpec.upto fnExactReadPictureSpec)) fnExactReadPictureUptoCard

/-- THE SECOND FORM's CARD OF 'laws.FnPictureText'. -/
def fnPictureTextUptoCard : Claim7 := { stood := { row := fnPictureTextUptoRow, standIns := [], harness := (true, "6426ce3ad6ceff1a464c632a533fcecc0d27818ca484c21dc655703699e57644"), looks := false }, kinds := [], alts := [], laidByText := true, laidKinds := [.data, .data, .data, .data, .pinned], laidTests := true, laidLooks := .later }
def FnPictureTextUptoCardSaid : Prop := Claim7.holds Tryd.pinned (.plain (OpenSpec.upto fnPictureTextSpec)) fnPictureTextUptoCard

/-- THE SECOND FORM's CARD OF 'laws.FnReadPicture'. -/
def fnReadPictureUptoCard : Claim7 := { stood := { row := fnReadPictureUptoRow, standIns := [], harness := (true, "6426ce3ad6ceff1a464c632a533fcecc0d27818ca484c21dc655703699e57644"), looks := false }, kinds := [], alts := [], laidByText := true, laidKinds := [.data, .data, .data, .data, .pinned], laidTests := true, laidLooks := .later }
def FnReadPictureUptoCardSaid : Prop := Claim7.holds Tryd.pinned (.plain (OpenSpec.upto fnReadPictureSpec)) fnReadPictureUptoCard

/-- THE SECOND FORM's CARD OF 'laws.FnExactPictureText'. -/
def fnExactPictureTextUptoCard : Claim7 := { stood := { row := fnExactPictureTextUptoRow, standIns := [], harness := (true, "6426ce3ad6ceff1a464c632a533fcecc0d27818ca484c21dc655703699e57644"), looks := false }, kinds := [], alts := [], laidByText := true, laidKinds := [.data, .data, .data], laidTests := true, laidLooks := .later }
def FnExactPictureTextUptoCardSaid : Prop := Claim7.holds Tryd.pinned (.plain (OpenSpec.upto fnExactPictureTextSpec)) fnExactPictureTextUptoCard
end Rows
end Go.Proofs.YtipadgpgcdjflaaDoor
