/-
  DERIVED. GIVEN WITH THE SEED: THE CARDS: each row of YteekbhpdalbofaaGreatDoorRows.lean that lists a variable, with what it lists TIED to the program's text (the seventh form; the later family's looks); each row that meets fmt, with fmt's text TOLD by the authors' own Lean function (tested against real Go, not proved from fmt's source: count such statements apart). THE CARD IS WHAT COUNTS. Prove the row's statement (the work); the ties are given (YteekbhpdalbofaaGreatDoorTie.lean); close each card by the builder's one call (the guide's Derived/Test/ToyasCard.lean, 'card_holds'). Laid BY PROGRAM, IN A SANDBOX (cutbox-door.mjs). By AI agents, Wed Nov 11 2026. No macro, syntax, notation, axiom, sorry.
-/
import Derived.Test.YteekbhpdalbofaaGreatDoorRows
import GoSem.ClaimSeven
namespace Go.Proofs.YteekbhpdalbofaaGreatDoor
namespace Rows

/-- THE TIED CARD OF 'laws.FnExactDuTotal'. -/
def fnExactDuTotalCard : Claim7 := { stood := { row := fnExactDuTotalRow, standIns := [], harness := (true, "043e1d4c2c65fec877cfa73d51f52344c53abb60ce2768575126edc6c0aab797"), looks := false }, kinds := [], alts := [], laidByText := true, laidKinds := [.data, .pinned], laidTests := true, laidLooks := .later }
def FnExactDuTotalCardSaid : Prop := Claim7.holds Tryz.pinned (.plain (OpenSpec.ofChange fnExactDuTotalSpec)) fnExactDuTotalCard

/-- THE TIED CARD OF 'laws.FnExactListDir'. -/
def fnExactListDirCard : Claim7 := { stood := { row := fnExactListDirRow, standIns := [], harness := (true, "043e1d4c2c65fec877cfa73d51f52344c53abb60ce2768575126edc6c0aab797"), looks := false }, kinds := [], alts := [], laidByText := true, laidKinds := [.data, .pinned], laidTests := true, laidLooks := .later }
def FnExactListDirCardSaid : Prop := Claim7.holds Tryz.pinned (.plain (OpenSpec.ofChange fnExactListDirSpec)) fnExactListDirCard

/-- THE TIED CARD OF 'laws.FnExactRealPath'. -/
def fnExactRealPathCard : Claim7 := { stood := { row := fnExactRealPathRow, standIns := [], harness := (true, "043e1d4c2c65fec877cfa73d51f52344c53abb60ce2768575126edc6c0aab797"), looks := false }, kinds := [], alts := [], laidByText := true, laidKinds := [.data, .pinned], laidTests := true, laidLooks := .later }
def FnExactRealPathCardSaid : Prop := Claim7.holds Tryz.pinned (.plain (OpenSpec.ofChange fnExactRealPathSpec)) fnExactRealPathCard

/-- THE TIED CARD OF 'laws.FnExactSetMode'. -/
def fnExactSetModeCard : Claim7 := { stood := { row := fnExactSetModeRow, standIns := [], harness := (true, "043e1d4c2c65fec877cfa73d51f52344c53abb60ce2768575126edc6c0aab797"), looks := false }, kinds := [], alts := [], laidByText := true, laidKinds := [.data, .pinned], laidTests := true, laidLooks := .later }
def FnExactSetModeCardSaid : Prop := Claim7.holds Tryz.pinned (.plain (OpenSpec.ofChange fnExactSetModeSpec)) fnExactSetModeCard

/-- THE TIED CARD OF 'laws.FnExactDuLines'. -/
def fnExactDuLinesCard : Claim7 := { stood := { row := fnExactDuLinesRow, standIns := [], harness := (true, "043e1d4c2c65fec877cfa73d51f52344c53abb60ce2768575126edc6c0aab797"), looks := false }, kinds := [], alts := [], laidByText := true, laidKinds := [.data, .pinned], laidTests := true, laidLooks := .later }
def FnExactDuLinesCardSaid : Prop := Claim7.holds Tryz.pinned (.plain (OpenSpec.ofChange fnExactDuLinesSpec)) fnExactDuLinesCard

/-- THE TIED CARD OF 'laws.FnExactFindPlace'. -/
def fnExactFindPlaceCard : Claim7 := { stood := { row := fnExactFindPlaceRow, standIns := [], harness := (true, "043e1d4c2c65fec877cfa73d51f52344c53abb60ce2768575126edc6c0aab797"), looks := false }, kinds := [], alts := [], laidByText := true, laidKinds := [.data, .pinned], laidTests := true, laidLooks := .later }
def FnExactFindPlaceCardSaid : Prop := Claim7.holds Tryz.pinned (.plain (OpenSpec.ofChange fnExactFindPlaceSpec)) fnExactFindPlaceCard

/-- THE TIED CARD OF 'laws.FnExactCopyCode'. -/
def fnExactCopyCodeCard : Claim7 := { stood := { row := fnExactCopyCodeRow, standIns := [], harness := (true, "043e1d4c2c65fec877cfa73d51f52344c53abb60ce2768575126edc6c0aab797"), looks := false }, kinds := [], alts := [], laidByText := true, laidKinds := [.data, .pinned], laidTests := true, laidLooks := .later }
def FnExactCopyCodeCardSaid : Prop := Claim7.holds Tryz.pinned (.plain (OpenSpec.ofChange fnExactCopyCodeSpec)) fnExactCopyCodeCard

/-- THE TIED CARD OF 'laws.FnExactFindNamed'. -/
def fnExactFindNamedCard : Claim7 := { stood := { row := fnExactFindNamedRow, standIns := [], harness := (true, "043e1d4c2c65fec877cfa73d51f52344c53abb60ce2768575126edc6c0aab797"), looks := false }, kinds := [], alts := [], laidByText := true, laidKinds := [.data, .pinned], laidTests := true, laidLooks := .later }
def FnExactFindNamedCardSaid : Prop := Claim7.holds Tryz.pinned (.plain (OpenSpec.ofChange fnExactFindNamedSpec)) fnExactFindNamedCard

/-- THE SECOND FORM's CARD OF 'laws.FnExactDuTotal'. -/
def fnExactDuTotalUptoCard : Claim7 := { stood := { row := fnExactDuTotalUptoRow, standIns := [], harness := (true, "043e1d4c2c65fec877cfa73d51f52344c53abb60ce2768575126edc6c0aab797"), looks := false }, kinds := [], alts := [], laidByText := true, laidKinds := [.data, .pinned], laidTests := true, laidLooks := .later }
def FnExactDuTotalUptoCardSaid : Prop := Claim7.holds Tryz.pinned (.plain (OpenSpec.upto fnExactDuTotalSpec)) fnExactDuTotalUptoCard

/-- THE SECOND FORM's CARD OF 'laws.FnExactListDir'. -/
def fnExactListDirUptoCard : Claim7 := { stood := { row := fnExactListDirUptoRow, standIns := [], harness := (true, "043e1d4c2c65fec877cfa73d51f52344c53abb60ce2768575126edc6c0aab797"), looks := false }, kinds := [], alts := [], laidByText := true, laidKinds := [.data, .pinned], laidTests := true, laidLooks := .later }
def FnExactListDirUptoCardSaid : Prop := Claim7.holds Tryz.pinned (.plain (OpenSpec.upto fnExactListDirSpec)) fnExactListDirUptoCard

/-- THE SECOND FORM's CARD OF 'laws.FnExactRealPath'. -/
def fnExactRealPathUptoCard : Claim7 := { stood := { row := fnExactRealPathUptoRow, standIns := [], harness := (true, "043e1d4c2c65fec877cfa73d51f52344c53abb60ce2768575126edc6c0aab797"), looks := false }, kinds := [], alts := [], laidByText := true, laidKinds := [.data, .pinned], laidTests := true, laidLooks := .later }
def FnExactRealPathUptoCardSaid : Prop := Claim7.holds Tryz.pinned (.plain (OpenSpec.upto fnExactRealPathSpec)) fnExactRealPathUptoCard

/-- THE SECOND FORM's CARD OF 'laws.FnExactSetMode'. -/
def fnExactSetModeUptoCard : Claim7 := { stood := { row := fnExactSetModeUptoRow, standIns := [], harness := (true, "043e1d4c2c65fec877cfa73d51f52344c53abb60ce2768575126edc6c0aab797"), looks := false }, kinds := [], alts := [], laidByText := true, laidKinds := [.data, .pinned], laidTests := true, laidLooks := .later }
def FnExactSetModeUptoCardSaid : Prop := Claim7.holds Tryz.pinned (.plain (OpenSpec.upto fnExactSetModeSpec)) fnExactSetModeUptoCard

/-- THE SECOND FORM's CARD OF 'laws.FnExactDuLines'. -/
def fnExactDuLinesUptoCard : Claim7 := { stood := { row := fnExactDuLinesUptoRow, standIns := [], harness := (true, "043e1d4c2c65fec877cfa73d51f52344c53abb60ce2768575126edc6c0aab797"), looks := false }, kinds := [], alts := [], laidByText := true, laidKinds := [.data, .pinned], laidTests := true, laidLooks := .later }
def FnExactDuLinesUptoCardSaid : Prop := Claim7.holds Tryz.pinned (.plain (OpenSpec.upto fnExactDuLinesSpec)) fnExactDuLinesUptoCard

/-- THE SECOND FORM's CARD OF 'laws.FnExactFindPlace'. -/
def fnExactFindPlaceUptoCard : Claim7 := { stood := { row := fnExactFindPlaceUptoRow, standIns := [], harness := (true, "043e1d4c2c65fec877cfa73d51f52344c53abb60ce2768575126edc6c0aab797"), looks := false }, kinds := [], alts := [], laidByText := true, laidKinds := [.data, .pinned], laidTests := true, laidLooks := .later }
def FnExactFindPlaceUptoCardSaid : Prop := Claim7.holds Tryz.pinned (.plain (OpenSpec.upto fnExactFindPlaceSpec)) fnExactFindPlaceUptoCard

/-- THE SECOND FORM's CARD OF 'laws.FnExactCopyCode'. -/
def fnExactCopyCodeUptoCard : Claim7 := { stood := { row := fnExactCopyCodeUptoRow, standIns := [], harness := (true, "043e1d4c2c65fec877cfa73d51f52344c53abb60ce2768575126edc6c0aab797"), looks := false }, kinds := [], alts := [], laidByText := true, laidKinds := [.data, .pinned], laidTests := true, laidLooks := .later }
def FnExactCopyCodeUptoCardSaid : Prop := Claim7.holds Tryz.pinned (.plain (OpenSpec.upto fnExactCopyCodeSpec)) fnExactCopyCodeUptoCard

/-- THE SECOND FORM's CARD OF 'laws.FnExactFindNamed'. -/
def fnExactFindNamedUptoCard : Claim7 := { stood := { row := fnExactFindNamedUptoRow, standIns := [], harness := (true, "043e1d4c2c65fec877cfa73d51f52344c53abb60ce2768575126edc6c0aab797"), looks := false }, kinds := [], alts := [], laidByText := true, laidKinds := [.data, .pinned], laidTests := true, laidLooks := .later }
def FnExactFindNamedUptoCardSaid : Prop := Claim7.holds Tryz.pinned (.plain (OpenSpec.upto fnExactFindNamedSpec)) fnExactFindNamedUptoCard
end Rows
end Go.Proofs.YteekbhpdalbofaaGreatDoor
