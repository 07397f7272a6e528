/-
  DERIVED. GIVEN WITH THE SEED: THE CARDS: each row of YtfebgjdmddegjaaDoorRows.lean that lists a variable, with what it lists TIED to the program's text (the seventh form; the later family's looks); each row that meets fmt, with fmt's text TOLD by the authors' own Lean function (tested against real Go, not proved from fmt's source: count such statements apart). THE CARD IS WHAT COUNTS. Prove the row's statement (the work); the ties are given (YtfebgjdmddegjaaDoorTie.lean); close each card by the builder's one call (the guide's Derived/Test/ToyasCard.lean, 'card_holds'). Laid BY PROGRAM, IN A SANDBOX (cutbox-door.mjs). By AI agents, Wed Nov 11 2026. No macro, syntax, notation, axiom, sorry.
-/
import Derived.Test.YtfebgjdmddegjaaDoorRows
import GoSem.ClaimSeven
namespace Go.Proofs.YtfebgjdmddegjaaDoor
namespace Rows

/-- THE TIED CARD OF 'laws.FnPaths'. -/
def fnPathsCard : Claim7 := { stood := { row := fnPathsRow, standIns := [], harness := (true, "1a4fa0b60c6c16facdaf767585b9da3b5b11599ff43306bc8dd807796fe5bf92"), looks := false }, kinds := [], alts := [], laidByText := true, laidKinds := [.data, .pinned], laidTests := true, laidLooks := .later }
def FnPathsCardSaid : Prop := Claim7.holds Tryd.pinned (.plain (OpenSpec.ofChange fnPathsSpec)) fnPathsCard

/-- THE TIED CARD OF 'laws.FnWithin'. -/
def fnWithinCard : Claim7 := { stood := { row := fnWithinRow, standIns := [], harness := (true, "1a4fa0b60c6c16facdaf767585b9da3b5b11599ff43306bc8dd807796fe5bf92"), looks := false }, kinds := [], alts := [], laidByText := true, laidKinds := [.data, .pinned], laidTests := true, laidLooks := .later }
def FnWithinCardSaid : Prop := Claim7.holds Tryd.pinned (.plain (OpenSpec.ofChange fnWithinSpec)) fnWithinCard

/-- THE SECOND FORM's CARD OF 'laws.FnPaths'. -/
def fnPathsUptoCard : Claim7 := { stood := { row := fnPathsUptoRow, standIns := [], harness := (true, "1a4fa0b60c6c16facdaf767585b9da3b5b11599ff43306bc8dd807796fe5bf92"), looks := false }, kinds := [], alts := [], laidByText := true, laidKinds := [.data, .pinned], laidTests := true, laidLooks := .later }
def FnPathsUptoCardSaid : Prop := Claim7.holds Tryd.pinned (.plain (OpenSpec.upto fnPathsSpec)) fnPathsUptoCard

/-- THE SECOND FORM's CARD OF 'laws.FnWithin'. -/
def fnWithinUptoCard : Claim7 := { stood := { row := fnWithinUptoRow, standIns := [], harness := (true, "1a4fa0b60c6c16facdaf767585b9da3b5b11599ff43306bc8dd807796fe5bf92"), looks := false }, kinds := [], alts := [], laidByText := true, laidKinds := [.data, .pinned], laidTests := true, laidLooks := .later }
def FnWithinUptoCardSaid : Prop := Claim7.holds Tryd.pinned (.plain (OpenSpec.upto fnWithinSpec)) fnWithinUptoCard
end Rows
end Go.Proofs.YtfebgjdmddegjaaDoor
