/-
  DERIVED. GIVEN WITH THE SEED: THE CARDS: each row of YteekbhpdalbofaaDoorRows.lean that lists a variable, with what it lists TIED to the program's text (the seventh form; the later family's looks); each row that meets fmt, with fmt's text TOLD by the authors' own Lean function (tested against real Go, not proved from fmt's source: count such statements apart). THE CARD IS WHAT COUNTS. Prove the row's statement (the work); the ties are given (YteekbhpdalbofaaDoorTie.lean); close each card by the builder's one call (the guide's Derived/Test/ToyasCard.lean, 'card_holds'). Laid BY PROGRAM, IN A SANDBOX (cutbox-door.mjs). By AI agents, Wed Nov 11 2026. No macro, syntax, notation, axiom, sorry.
-/
import Derived.Test.YteekbhpdalbofaaDoorRows
import GoSem.ClaimSeven
namespace Go.Proofs.YteekbhpdalbofaaDoor
namespace Rows

/-- THE TIED CARD OF 'laws.FnExactFindNode'. -/
def fnExactFindNodeCard : Claim7 := { stood := { row := fnExactFindNodeRow, standIns := [], harness := (true, "bf99b975e56feeb54458a2794a8c9dd95e71ac636b8df9426606ba72c7a28e3d"), looks := false }, kinds := [], alts := [], laidByText := true, laidKinds := [.data, .pinned], laidTests := true, laidLooks := .later }
def FnExactFindNodeCardSaid : Prop := Claim7.holds Tryd.pinned (.plain (OpenSpec.ofChange fnExactFindNodeSpec)) fnExactFindNodeCard

/-- THE TIED CARD OF 'laws.FnExactReadLink'. -/
def fnExactReadLinkCard : Claim7 := { stood := { row := fnExactReadLinkRow, standIns := [], harness := (true, "bf99b975e56feeb54458a2794a8c9dd95e71ac636b8df9426606ba72c7a28e3d"), looks := false }, kinds := [], alts := [], laidByText := true, laidKinds := [.data, .pinned], laidTests := true, laidLooks := .later }
def FnExactReadLinkCardSaid : Prop := Claim7.holds Tryd.pinned (.plain (OpenSpec.ofChange fnExactReadLinkSpec)) fnExactReadLinkCard

/-- THE TIED CARD OF 'laws.FnExactReadFile'. -/
def fnExactReadFileCard : Claim7 := { stood := { row := fnExactReadFileRow, standIns := [], harness := (true, "bf99b975e56feeb54458a2794a8c9dd95e71ac636b8df9426606ba72c7a28e3d"), looks := false }, kinds := [], alts := [], laidByText := true, laidKinds := [.data, .pinned], laidTests := true, laidLooks := .later }
def FnExactReadFileCardSaid : Prop := Claim7.holds Tryd.pinned (.plain (OpenSpec.ofChange fnExactReadFileSpec)) fnExactReadFileCard

/-- THE TIED CARD OF 'laws.FnExactStatOf'. -/
def fnExactStatOfCard : Claim7 := { stood := { row := fnExactStatOfRow, standIns := [], harness := (true, "bf99b975e56feeb54458a2794a8c9dd95e71ac636b8df9426606ba72c7a28e3d"), looks := false }, kinds := [], alts := [], laidByText := true, laidKinds := [.data, .pinned], laidTests := true, laidLooks := .later }
def FnExactStatOfCardSaid : Prop := Claim7.holds Tryd.pinned (.plain (OpenSpec.ofChange fnExactStatOfSpec)) fnExactStatOfCard

/-- THE SECOND FORM's CARD OF 'laws.FnExactFindNode'. -/
def fnExactFindNodeUptoCard : Claim7 := { stood := { row := fnExactFindNodeUptoRow, standIns := [], harness := (true, "bf99b975e56feeb54458a2794a8c9dd95e71ac636b8df9426606ba72c7a28e3d"), looks := false }, kinds := [], alts := [], laidByText := true, laidKinds := [.data, .pinned], laidTests := true, laidLooks := .later }
def FnExactFindNodeUptoCardSaid : Prop := Claim7.holds Tryd.pinned (.plain (OpenSpec.upto fnExactFindNodeSpec)) fnExactFindNodeUptoCard

/-- THE SECOND FORM's CARD OF 'laws.FnExactReadLink'. -/
def fnExactReadLinkUptoCard : Claim7 := { stood := { row := fnExactReadLinkUptoRow, standIns := [], harness := (true, "bf99b975e56feeb54458a2794a8c9dd95e71ac636b8df9426606ba72c7a28e3d"), looks := false }, kinds := [], alts := [], laidByText := true, laidKinds := [.data, .pinned], laidTests := true, laidLooks := .later }
def FnExactReadLinkUptoCardSaid : Prop := Claim7.holds Tryd.pinned (.plain (OpenSpec.upto fnExactReadLinkSpec)) fnExactReadLinkUptoCard

/-- THE SECOND FORM's CARD OF 'laws.FnExactReadFile'. -/
def fnExactReadFileUptoCard : Claim7 := { stood := { row := fnExactReadFileUptoRow, standIns := [], harness := (true, "bf99b975e56feeb54458a2794a8c9dd95e71ac636b8df9426606ba72c7a28e3d"), looks := false }, kinds := [], alts := [], laidByText := true, laidKinds := [.data, .pinned], laidTests := true, laidLooks := .later }
def FnExactReadFileUptoCardSaid : Prop := Claim7.holds Tryd.pinned (.plain (OpenSpec.upto fnExactReadFileSpec)) fnExactReadFileUptoCard

/-- THE SECOND FORM's CARD OF 'laws.FnExactStatOf'. -/
def fnExactStatOfUptoCard : Claim7 := { stood := { row := fnExactStatOfUptoRow, standIns := [], harness := (true, "bf99b975e56feeb54458a2794a8c9dd95e71ac636b8df9426606ba72c7a28e3d"), looks := false }, kinds := [], alts := [], laidByText := true, laidKinds := [.data, .pinned], laidTests := true, laidLooks := .later }
def FnExactStatOfUptoCardSaid : Prop := Claim7.holds Tryd.pinned (.plain (OpenSpec.upto fnExactStatOfSpec)) fnExactStatOfUptoCard
end Rows
end Go.Proofs.YteekbhpdalbofaaDoor
