/-
  NARROWER THAN 'FOR EVERY INPUT', by the rows' own cells (each row's printed sentence says how): FnExactDuTotal: laid · FnExactListDir: laid · FnExactRealPath: laid · FnExactSetMode: laid · FnExactDuLines: laid · FnExactFindPlace: laid · FnExactCopyCode: laid · FnExactFindNamed: laid.
  DERIVED. THE GIVEN ROWS OF THIS SEAT. 8 by the template 'for every input the law returns true; each argument reads behind the call as it read before'; 0 by the template 'total and deterministic' (their statements: YteekbhpdalbofaaGreatDoorTotals.lean).
  GIVEN WITH THE SEED: the statements are not yours to turn. If you find one false, say at which input.
  Laid BY PROGRAM, IN A SANDBOX (cutbox-rows.mjs): the forced cells as the released guide's own fill.sh prints them over the translation cf8dd581d0e74364… (all of the seat's roots in one cut). By AI agents, Wed Nov 11 2026. No macro, syntax, notation, axiom, sorry.
-/
import Derived.Test.YteekbhpdalbofaaGreatDoorChecked
import GoSem.PinnedTables
import GoSem.Claim
import GoSem.ClaimJoined
import GoSem.ClaimMapViews
import Derived.JoinedTies
import Derived.KernelRfl
namespace Go.Proofs.YteekbhpdalbofaaGreatDoor
/- THE CELL 'sum', in the pinned program and in every row, IS THE sha256 OF THE DUMP (.gsa) THAT YteekbhpdalbofaaGreatDoorProg.lean LOADS. Nothing in Lean hashes anything: it is a label: what it is worth is what the hold of that sum in a sandbox is worth. -/
noncomputable def Tryz.pinned : Pinned := { name := "yteekbhpdalbofaagreatdoor", sum := "cf8dd581d0e7436495e2ed13fb3429b6a39a0c887e778f6bec77449dd8ed00f1", checked := Tryz.checked }
namespace Rows
def none {H : Type} : Left H := { results := [], args := [] }

/- WHAT THE LISTED PACKAGE-LEVEL VARIABLES READ AS WHEN THE CALL BEGINS. Each datum BY PROGRAM (the guide's laid-datum.mjs) off the statement by which the dump's own 'gosem.cut.vars' lays the variable. In a bare row this is a premise. The card (YteekbhpdalbofaaGreatDoorCards.lean) ties it to the program's text. -/
def laid_unicode_utf8_acceptRanges {H : Type} : DataW H := .agg [.agg [.lit (.int .u8 128), .lit (.int .u8 191)], .agg [.lit (.int .u8 160), .lit (.int .u8 191)], .agg [.lit (.int .u8 128), .lit (.int .u8 159)], .agg [.lit (.int .u8 144), .lit (.int .u8 191)], .agg [.lit (.int .u8 128), .lit (.int .u8 143)], .agg [.lit (.int .u8 0), .lit (.int .u8 0)], .agg [.lit (.int .u8 0), .lit (.int .u8 0)], .agg [.lit (.int .u8 0), .lit (.int .u8 0)], .agg [.lit (.int .u8 0), .lit (.int .u8 0)], .agg [.lit (.int .u8 0), .lit (.int .u8 0)], .agg [.lit (.int .u8 0), .lit (.int .u8 0)], .agg [.lit (.int .u8 0), .lit (.int .u8 0)], .agg [.lit (.int .u8 0), .lit (.int .u8 0)], .agg [.lit (.int .u8 0), .lit (.int .u8 0)], .agg [.lit (.int .u8 0), .lit (.int .u8 0)], .agg [.lit (.int .u8 0), .lit (.int .u8 0)]]
/-- One of Go's own tables, pinned by name: the form's constant. -/
def laid_unicode_utf8_first : DataW Unit := Go.Pinned.utf8First

/-- 'laws.FnExactDuTotal': WHATEVER THE INPUT: true; the input reads as it did. -/
def fnExactDuTotalSpec : ChangeSpec := { name := "fnExactDuTotal", fn := fun _ => fun
  | [d1, d2, d3] => { results := [.lit (.bool true)], args := [d1, d2, d3] }
  | _ => none }
def fnExactDuTotalRow : OpenClaim := { program := "yteekbhpdalbofaagreatdoor", sum := "cf8dd581d0e7436495e2ed13fb3429b6a39a0c887e778f6bec77449dd8ed00f1", func := "loop.example/g00756/laws.FnExactDuTotal", spec := "fnExactDuTotal", inPlace := ["internal/bytealg.CountString", "internal/bytealg.IndexByteString", "internal/bytealg.IndexString"], unfollowed := true, recurses := true, named := ["unicode/utf8.first", "unicode/utf8.acceptRanges", "internal/bytealg.MaxLen"], apart := false, laid := [("unicode/utf8.acceptRanges", laid_unicode_utf8_acceptRanges), ("unicode/utf8.first", laid_unicode_utf8_first)] }
def FnExactDuTotalSaid : Prop := fnExactDuTotalRow.holds Tryz.pinned (OpenSpec.ofChange fnExactDuTotalSpec)

/-- ITS FALSE NEIGHBOUR: 'it returns false'. Refute it at one input. -/
def fnExactDuTotalWrong : ChangeSpec := { name := "fnExactDuTotal", fn := fun _ => fun
  | [d1, d2, d3] => { results := [.lit (.bool false)], args := [d1, d2, d3] }
  | _ => none }
def FnExactDuTotalWrongFalsely : Prop := fnExactDuTotalRow.holds Tryz.pinned (OpenSpec.ofChange fnExactDuTotalWrong)

/-- 'laws.FnExactListDir': WHATEVER THE INPUT: true; the input reads as it did. -/
def fnExactListDirSpec : ChangeSpec := { name := "fnExactListDir", fn := fun _ => fun
  | [d1, d2, d3] => { results := [.lit (.bool true)], args := [d1, d2, d3] }
  | _ => none }
def fnExactListDirRow : OpenClaim := { program := "yteekbhpdalbofaagreatdoor", sum := "cf8dd581d0e7436495e2ed13fb3429b6a39a0c887e778f6bec77449dd8ed00f1", func := "loop.example/g00756/laws.FnExactListDir", spec := "fnExactListDir", inPlace := ["internal/bytealg.CountString", "internal/bytealg.IndexByteString", "internal/bytealg.IndexString"], unfollowed := true, recurses := true, named := ["unicode/utf8.first", "unicode/utf8.acceptRanges", "internal/bytealg.MaxLen"], apart := false, laid := [("unicode/utf8.acceptRanges", laid_unicode_utf8_acceptRanges), ("unicode/utf8.first", laid_unicode_utf8_first)] }
def FnExactListDirSaid : Prop := fnExactListDirRow.holds Tryz.pinned (OpenSpec.ofChange fnExactListDirSpec)

/-- ITS FALSE NEIGHBOUR: 'it returns false'. Refute it at one input. -/
def fnExactListDirWrong : ChangeSpec := { name := "fnExactListDir", fn := fun _ => fun
  | [d1, d2, d3] => { results := [.lit (.bool false)], args := [d1, d2, d3] }
  | _ => none }
def FnExactListDirWrongFalsely : Prop := fnExactListDirRow.holds Tryz.pinned (OpenSpec.ofChange fnExactListDirWrong)

/-- 'laws.FnExactRealPath': WHATEVER THE INPUT: true; the input reads as it did. -/
def fnExactRealPathSpec : ChangeSpec := { name := "fnExactRealPath", fn := fun _ => fun
  | [d1, d2, d3] => { results := [.lit (.bool true)], args := [d1, d2, d3] }
  | _ => none }
def fnExactRealPathRow : OpenClaim := { program := "yteekbhpdalbofaagreatdoor", sum := "cf8dd581d0e7436495e2ed13fb3429b6a39a0c887e778f6bec77449dd8ed00f1", func := "loop.example/g00756/laws.FnExactRealPath", spec := "fnExactRealPath", inPlace := ["internal/bytealg.CountString", "internal/bytealg.IndexByteString", "internal/bytealg.IndexString", "internal/abi.NoEscape", "internal/bytealg.MakeNoZero"], unfollowed := true, recurses := true, named := ["unicode/utf8.first", "unicode/utf8.acceptRanges", "internal/bytealg.MaxLen"], apart := false, laid := [("unicode/utf8.acceptRanges", laid_unicode_utf8_acceptRanges), ("unicode/utf8.first", laid_unicode_utf8_first)] }
def FnExactRealPathSaid : Prop := fnExactRealPathRow.holds Tryz.pinned (OpenSpec.ofChange fnExactRealPathSpec)

/-- ITS FALSE NEIGHBOUR: 'it returns false'. Refute it at one input. -/
def fnExactRealPathWrong : ChangeSpec := { name := "fnExactRealPath", fn := fun _ => fun
  | [d1, d2, d3] => { results := [.lit (.bool false)], args := [d1, d2, d3] }
  | _ => none }
def FnExactRealPathWrongFalsely : Prop := fnExactRealPathRow.holds Tryz.pinned (OpenSpec.ofChange fnExactRealPathWrong)

/-- 'laws.FnExactSetMode': WHATEVER THE INPUT: true; the input reads as it did. -/
def fnExactSetModeSpec : ChangeSpec := { name := "fnExactSetMode", fn := fun _ => fun
  | [d1, d2, d3, d4] => { results := [.lit (.bool true)], args := [d1, d2, d3, d4] }
  | _ => none }
def fnExactSetModeRow : OpenClaim := { program := "yteekbhpdalbofaagreatdoor", sum := "cf8dd581d0e7436495e2ed13fb3429b6a39a0c887e778f6bec77449dd8ed00f1", func := "loop.example/g00756/laws.FnExactSetMode", spec := "fnExactSetMode", inPlace := ["internal/bytealg.CountString", "internal/bytealg.IndexByteString", "internal/bytealg.IndexString"], unfollowed := true, recurses := true, named := ["unicode/utf8.first", "unicode/utf8.acceptRanges", "internal/bytealg.MaxLen"], apart := false, laid := [("unicode/utf8.acceptRanges", laid_unicode_utf8_acceptRanges), ("unicode/utf8.first", laid_unicode_utf8_first)] }
def FnExactSetModeSaid : Prop := fnExactSetModeRow.holds Tryz.pinned (OpenSpec.ofChange fnExactSetModeSpec)

/-- ITS FALSE NEIGHBOUR: 'it returns false'. Refute it at one input. -/
def fnExactSetModeWrong : ChangeSpec := { name := "fnExactSetMode", fn := fun _ => fun
  | [d1, d2, d3, d4] => { results := [.lit (.bool false)], args := [d1, d2, d3, d4] }
  | _ => none }
def FnExactSetModeWrongFalsely : Prop := fnExactSetModeRow.holds Tryz.pinned (OpenSpec.ofChange fnExactSetModeWrong)

/-- 'laws.FnExactDuLines': WHATEVER THE INPUT: true; the input reads as it did. -/
def fnExactDuLinesSpec : ChangeSpec := { name := "fnExactDuLines", fn := fun _ => fun
  | [d1, d2, d3, d4] => { results := [.lit (.bool true)], args := [d1, d2, d3, d4] }
  | _ => none }
def fnExactDuLinesRow : OpenClaim := { program := "yteekbhpdalbofaagreatdoor", sum := "cf8dd581d0e7436495e2ed13fb3429b6a39a0c887e778f6bec77449dd8ed00f1", func := "loop.example/g00756/laws.FnExactDuLines", spec := "fnExactDuLines", inPlace := ["internal/bytealg.CountString", "internal/bytealg.IndexByteString", "internal/bytealg.IndexString"], unfollowed := true, recurses := true, named := ["unicode/utf8.first", "unicode/utf8.acceptRanges", "internal/bytealg.MaxLen"], apart := false, laid := [("unicode/utf8.acceptRanges", laid_unicode_utf8_acceptRanges), ("unicode/utf8.first", laid_unicode_utf8_first)] }
def FnExactDuLinesSaid : Prop := fnExactDuLinesRow.holds Tryz.pinned (OpenSpec.ofChange fnExactDuLinesSpec)

/-- ITS FALSE NEIGHBOUR: 'it returns false'. Refute it at one input. -/
def fnExactDuLinesWrong : ChangeSpec := { name := "fnExactDuLines", fn := fun _ => fun
  | [d1, d2, d3, d4] => { results := [.lit (.bool false)], args := [d1, d2, d3, d4] }
  | _ => none }
def FnExactDuLinesWrongFalsely : Prop := fnExactDuLinesRow.holds Tryz.pinned (OpenSpec.ofChange fnExactDuLinesWrong)

/-- 'laws.FnExactFindPlace': WHATEVER THE INPUT: true; the input reads as it did. -/
def fnExactFindPlaceSpec : ChangeSpec := { name := "fnExactFindPlace", fn := fun _ => fun
  | [d1, d2, d3] => { results := [.lit (.bool true)], args := [d1, d2, d3] }
  | _ => none }
def fnExactFindPlaceRow : OpenClaim := { program := "yteekbhpdalbofaagreatdoor", sum := "cf8dd581d0e7436495e2ed13fb3429b6a39a0c887e778f6bec77449dd8ed00f1", func := "loop.example/g00756/laws.FnExactFindPlace", spec := "fnExactFindPlace", inPlace := ["internal/bytealg.CountString", "internal/bytealg.IndexByteString", "internal/bytealg.IndexString"], unfollowed := true, recurses := true, named := ["unicode/utf8.first", "unicode/utf8.acceptRanges", "internal/bytealg.MaxLen"], apart := false, laid := [("unicode/utf8.acceptRanges", laid_unicode_utf8_acceptRanges), ("unicode/utf8.first", laid_unicode_utf8_first)] }
def FnExactFindPlaceSaid : Prop := fnExactFindPlaceRow.holds Tryz.pinned (OpenSpec.ofChange fnExactFindPlaceSpec)

/-- ITS FALSE NEIGHBOUR: 'it returns false'. Refute it at one input. -/
def fnExactFindPlaceWrong : ChangeSpec := { name := "fnExactFindPlace", fn := fun _ => fun
  | [d1, d2, d3] => { results := [.lit (.bool false)], args := [d1, d2, d3] }
  | _ => none }
def FnExactFindPlaceWrongFalsely : Prop := fnExactFindPlaceRow.holds Tryz.pinned (OpenSpec.ofChange fnExactFindPlaceWrong)

/-- 'laws.FnExactCopyCode': WHATEVER THE INPUT: true; the input reads as it did. -/
def fnExactCopyCodeSpec : ChangeSpec := { name := "fnExactCopyCode", fn := fun _ => fun
  | [d1, d2, d3, d4] => { results := [.lit (.bool true)], args := [d1, d2, d3, d4] }
  | _ => none }
def fnExactCopyCodeRow : OpenClaim := { program := "yteekbhpdalbofaagreatdoor", sum := "cf8dd581d0e7436495e2ed13fb3429b6a39a0c887e778f6bec77449dd8ed00f1", func := "loop.example/g00756/laws.FnExactCopyCode", spec := "fnExactCopyCode", inPlace := ["internal/bytealg.CountString", "internal/bytealg.IndexByteString", "internal/bytealg.IndexString"], unfollowed := true, recurses := true, named := ["unicode/utf8.first", "unicode/utf8.acceptRanges", "internal/bytealg.MaxLen"], apart := false, laid := [("unicode/utf8.acceptRanges", laid_unicode_utf8_acceptRanges), ("unicode/utf8.first", laid_unicode_utf8_first)] }
def FnExactCopyCodeSaid : Prop := fnExactCopyCodeRow.holds Tryz.pinned (OpenSpec.ofChange fnExactCopyCodeSpec)

/-- ITS FALSE NEIGHBOUR: 'it returns false'. Refute it at one input. -/
def fnExactCopyCodeWrong : ChangeSpec := { name := "fnExactCopyCode", fn := fun _ => fun
  | [d1, d2, d3, d4] => { results := [.lit (.bool false)], args := [d1, d2, d3, d4] }
  | _ => none }
def FnExactCopyCodeWrongFalsely : Prop := fnExactCopyCodeRow.holds Tryz.pinned (OpenSpec.ofChange fnExactCopyCodeWrong)

/-- 'laws.FnExactFindNamed': WHATEVER THE INPUT: true; the input reads as it did. -/
def fnExactFindNamedSpec : ChangeSpec := { name := "fnExactFindNamed", fn := fun _ => fun
  | [d1, d2, d3, d4] => { results := [.lit (.bool true)], args := [d1, d2, d3, d4] }
  | _ => none }
def fnExactFindNamedRow : OpenClaim := { program := "yteekbhpdalbofaagreatdoor", sum := "cf8dd581d0e7436495e2ed13fb3429b6a39a0c887e778f6bec77449dd8ed00f1", func := "loop.example/g00756/laws.FnExactFindNamed", spec := "fnExactFindNamed", inPlace := ["internal/bytealg.CountString", "internal/bytealg.IndexByteString", "internal/bytealg.IndexString", "internal/abi.NoEscape", "internal/bytealg.MakeNoZero"], unfollowed := true, recurses := true, named := ["unicode/utf8.first", "unicode/utf8.acceptRanges", "internal/bytealg.MaxLen"], apart := false, laid := [("unicode/utf8.acceptRanges", laid_unicode_utf8_acceptRanges), ("unicode/utf8.first", laid_unicode_utf8_first)] }
def FnExactFindNamedSaid : Prop := fnExactFindNamedRow.holds Tryz.pinned (OpenSpec.ofChange fnExactFindNamedSpec)

/-- ITS FALSE NEIGHBOUR: 'it returns false'. Refute it at one input. -/
def fnExactFindNamedWrong : ChangeSpec := { name := "fnExactFindNamed", fn := fun _ => fun
  | [d1, d2, d3, d4] => { results := [.lit (.bool false)], args := [d1, d2, d3, d4] }
  | _ => none }
def FnExactFindNamedWrongFalsely : Prop := fnExactFindNamedRow.holds Tryz.pinned (OpenSpec.ofChange fnExactFindNamedWrong)

/- THE SECOND FORM. 'bulk': how many values and letters a reading holds, each counted each time it is reached (what is shared counts as often as it is met; a slice's spare places count too). A statement '..UptoSaid' is the law's where the arguments, and the package variables that the reading takes, are together of bulk at most 1048576: NARROWER than '..Said'. Prove '..Said' where nothing that the law and all that it calls make is longer than what came in: it says more and counts as full. Else prove '..UptoSaid'. A law counts once. -/
mutual
def uptoBulk {H : Type} : DataW H → Nat
  | .lit (.string bytes) => bytes.length + 1
  | .lit _ => 1
  | .nil => 1
  | .ptr d => uptoBulk d + 1
  | .slice elems spare => uptoBulkAll elems + uptoBulkAll spare + 1
  | .agg parts => uptoBulkAll parts + 1
  | .iface _ d => uptoBulk d + 1
  | .map entries => uptoBulkEntries entries + 1
  | .held _ => 1
def uptoBulkAll {H : Type} : List (DataW H) → Nat
  | [] => 0
  | d :: r => uptoBulk d + uptoBulkAll r
def uptoBulkEntries {H : Type} : List (Lit × DataW H) → Nat
  | [] => 0
  | x :: r => uptoBulkEntry x + uptoBulkEntries r
def uptoBulkEntry {H : Type} : Lit × DataW H → Nat
  | (.string bytes, d) => bytes.length + uptoBulk d + 1
  | (_, d) => uptoBulk d + 1
 end
def uptoSmall : (H : Type) → List (DataW H) → Bool := fun _ ds => decide (uptoBulkAll ds ≤ 1048576)
def OpenSpec.upto (s : _root_.Go.ChangeSpec) : _root_.Go.OpenSpec := { _root_.Go.OpenSpec.ofChange s with cond := some uptoSmall }

/-- 'laws.FnExactDuTotal', WHERE WHAT IT READS IS OF BULK AT MOST 1048576: true; the input reads as it did. -/
def fnExactDuTotalUptoRow : OpenClaim := { program := "yteekbhpdalbofaagreatdoor", sum := "cf8dd581d0e7436495e2ed13fb3429b6a39a0c887e778f6bec77449dd8ed00f1", func := "loop.example/g00756/laws.FnExactDuTotal", spec := "fnExactDuTotal", inPlace := ["internal/bytealg.CountString", "internal/bytealg.IndexByteString", "internal/bytealg.IndexString"], unfollowed := true, recurses := true, named := ["unicode/utf8.first", "unicode/utf8.acceptRanges", "internal/bytealg.MaxLen"], apart := false, laid := [("unicode/utf8.acceptRanges", laid_unicode_utf8_acceptRanges), ("unicode/utf8.first", laid_unicode_utf8_first)], narrowed := true }
def FnExactDuTotalUptoSaid : Prop := fnExactDuTotalUptoRow.holds Tryz.pinned (OpenSpec.upto fnExactDuTotalSpec)

/-- 'laws.FnExactListDir', WHERE WHAT IT READS IS OF BULK AT MOST 1048576: true; the input reads as it did. -/
def fnExactListDirUptoRow : OpenClaim := { program := "yteekbhpdalbofaagreatdoor", sum := "cf8dd581d0e7436495e2ed13fb3429b6a39a0c887e778f6bec77449dd8ed00f1", func := "loop.example/g00756/laws.FnExactListDir", spec := "fnExactListDir", inPlace := ["internal/bytealg.CountString", "internal/bytealg.IndexByteString", "internal/bytealg.IndexString"], unfollowed := true, recurses := true, named := ["unicode/utf8.first", "unicode/utf8.acceptRanges", "internal/bytealg.MaxLen"], apart := false, laid := [("unicode/utf8.acceptRanges", laid_unicode_utf8_acceptRanges), ("unicode/utf8.first", laid_unicode_utf8_first)], narrowed := true }
def FnExactListDirUptoSaid : Prop := fnExactListDirUptoRow.holds Tryz.pinned (OpenSpec.upto fnExactListDirSpec)

/-- 'laws.FnExactRealPath', WHERE WHAT IT READS IS OF BULK AT MOST 1048576: true; the input reads as it did. -/
def fnExactRealPathUptoRow : OpenClaim := { program := "yteekbhpdalbofaagreatdoor", sum := "cf8dd581d0e7436495e2ed13fb3429b6a39a0c887e778f6bec77449dd8ed00f1", func := "loop.example/g00756/laws.FnExactRealPath", spec := "fnExactRealPath", inPlace := ["internal/bytealg.CountString", "internal/bytealg.IndexByteString", "internal/bytealg.IndexString", "internal/abi.NoEscape", "internal/bytealg.MakeNoZero"], unfollowed := true, recurses := true, named := ["unicode/utf8.first", "unicode/utf8.acceptRanges", "internal/bytealg.MaxLen"], apart := false, laid := [("unicode/utf8.acceptRanges", laid_unicode_utf8_acceptRanges), ("unicode/utf8.first", laid_unicode_utf8_first)], narrowed := true }
def FnExactRealPathUptoSaid : Prop := fnExactRealPathUptoRow.holds Tryz.pinned (OpenSpec.upto fnExactRealPathSpec)

/-- 'laws.FnExactSetMode', WHERE WHAT IT READS IS OF BULK AT MOST 1048576: true; the input reads as it did. -/
def fnExactSetModeUptoRow : OpenClaim := { program := "yteekbhpdalbofaagreatdoor", sum := "cf8dd581d0e7436495e2ed13fb3429b6a39a0c887e778f6bec77449dd8ed00f1", func := "loop.example/g00756/laws.FnExactSetMode", spec := "fnExactSetMode", inPlace := ["internal/bytealg.CountString", "internal/bytealg.IndexByteString", "internal/bytealg.IndexString"], unfollowed := true, recurses := true, named := ["unicode/utf8.first", "unicode/utf8.acceptRanges", "internal/bytealg.MaxLen"], apart := false, laid := [("unicode/utf8.acceptRanges", laid_unicode_utf8_acceptRanges), ("unicode/utf8.first", laid_unicode_utf8_first)], narrowed := true }
def FnExactSetModeUptoSaid : Prop := fnExactSetModeUptoRow.holds Tryz.pinned (OpenSpec.upto fnExactSetModeSpec)

/-- 'laws.FnExactDuLines', WHERE WHAT IT READS IS OF BULK AT MOST 1048576: true; the input reads as it did. -/
def fnExactDuLinesUptoRow : OpenClaim := { program := "yteekbhpdalbofaagreatdoor", sum := "cf8dd581d0e7436495e2ed13fb3429b6a39a0c887e778f6bec77449dd8ed00f1", func := "loop.example/g00756/laws.FnExactDuLines", spec := "fnExactDuLines", inPlace := ["internal/bytealg.CountString", "internal/bytealg.IndexByteString", "internal/bytealg.IndexString"], unfollowed := true, recurses := true, named := ["unicode/utf8.first", "unicode/utf8.acceptRanges", "internal/bytealg.MaxLen"], apart := false, laid := [("unicode/utf8.acceptRanges", laid_unicode_utf8_acceptRanges), ("unicode/utf8.first", laid_unicode_utf8_first)], narrowed := true }
def FnExactDuLinesUptoSaid : Prop := fnExactDuLinesUptoRow.holds Tryz.pinned (OpenSpec.upto fnExactDuLinesSpec)

/-- 'laws.FnExactFindPlace', WHERE WHAT IT READS IS OF BULK AT MOST 1048576: true; the input reads as it did. -/
def fnExactFindPlaceUptoRow : OpenClaim := { program := "yteekbhpdalbofaagreatdoor", sum := "cf8dd581d0e7436495e2ed13fb3429b6a39a0c887e778f6bec77449dd8ed00f1", func := "loop.example/g00756/laws.FnExactFindPlace", spec := "fnExactFindPlace", inPlace := ["internal/bytealg.CountString", "internal/bytealg.IndexByteString", "internal/bytealg.IndexString"], unfollowed := true, recurses := true, named := ["unicode/utf8.first", "unicode/utf8.acceptRanges", "internal/bytealg.MaxLen"], apart := false, laid := [("unicode/utf8.acceptRanges", laid_unicode_utf8_acceptRanges), ("unicode/utf8.first", laid_unicode_utf8_first)], narrowed := true }
def FnExactFindPlaceUptoSaid : Prop := fnExactFindPlaceUptoRow.holds Tryz.pinned (OpenSpec.upto fnExactFindPlaceSpec)

/-- 'laws.FnExactCopyCode', WHERE WHAT IT READS IS OF BULK AT MOST 1048576: true; the input reads as it did. -/
def fnExactCopyCodeUptoRow : OpenClaim := { program := "yteekbhpdalbofaagreatdoor", sum := "cf8dd581d0e7436495e2ed13fb3429b6a39a0c887e778f6bec77449dd8ed00f1", func := "loop.example/g00756/laws.FnExactCopyCode", spec := "fnExactCopyCode", inPlace := ["internal/bytealg.CountString", "internal/bytealg.IndexByteString", "internal/bytealg.IndexString"], unfollowed := true, recurses := true, named := ["unicode/utf8.first", "unicode/utf8.acceptRanges", "internal/bytealg.MaxLen"], apart := false, laid := [("unicode/utf8.acceptRanges", laid_unicode_utf8_acceptRanges), ("unicode/utf8.first", laid_unicode_utf8_first)], narrowed := true }
def FnExactCopyCodeUptoSaid : Prop := fnExactCopyCodeUptoRow.holds Tryz.pinned (OpenSpec.upto fnExactCopyCodeSpec)

/-- 'laws.FnExactFindNamed', WHERE WHAT IT READS IS OF BULK AT MOST 1048576: true; the input reads as it did. -/
def fnExactFindNamedUptoRow : OpenClaim := { program := "yteekbhpdalbofaagreatdoor", sum := "cf8dd581d0e7436495e2ed13fb3429b6a39a0c887e778f6bec77449dd8ed00f1", func := "loop.example/g00756/laws.FnExactFindNamed", spec := "fnExactFindNamed", inPlace := ["internal/bytealg.CountString", "internal/bytealg.IndexByteString", "internal/bytealg.IndexString", "internal/abi.NoEscape", "internal/bytealg.MakeNoZero"], unfollowed := true, recurses := true, named := ["unicode/utf8.first", "unicode/utf8.acceptRanges", "internal/bytealg.MaxLen"], apart := false, laid := [("unicode/utf8.acceptRanges", laid_unicode_utf8_acceptRanges), ("unicode/utf8.first", laid_unicode_utf8_first)], narrowed := true }
def FnExactFindNamedUptoSaid : Prop := fnExactFindNamedUptoRow.holds Tryz.pinned (OpenSpec.upto fnExactFindNamedSpec)

end Rows
end Go.Proofs.YteekbhpdalbofaaGreatDoor
