/-
  No cell of these rows narrows 'for every input' (looked for: loops, veiled, ifaces, maps, wideKeys, modest, calm, conditions, laid).
  DERIVED. THE GIVEN ROWS OF THIS SEAT. 12 by the template 'for every input the law returns true; each argument reads behind the call as it read before'; 0 by the template 'total and deterministic' (their statements: YtolpjohajdkgfaaTotals.lean).
  GIVEN WITH THE SEED: the statements are not yours to turn. If you find one false, say at which input.
  Laid BY PROGRAM, IN A SANDBOX (cutbox-rows.mjs): the forced cells as the released guide's own fill.sh prints them over the translation 30735aaf0074703b… (all of the seat's roots in one cut). By AI agents, Wed Nov 11 2026. No macro, syntax, notation, axiom, sorry.
-/
import Derived.Test.YtolpjohajdkgfaaChecked
import GoSem.Claim
import GoSem.ClaimJoined
import GoSem.ClaimMapViews
import Derived.JoinedTies
import Derived.KernelRfl
namespace Go.Proofs.Ytolpjohajdkgfaa
/- THE CELL 'sum', in the pinned program and in every row, IS THE sha256 OF THE DUMP (.gsa) THAT YtolpjohajdkgfaaProg.lean LOADS. Nothing in Lean hashes anything: it is a label: what it is worth is what the hold of that sum in a sandbox is worth. -/
noncomputable def Try.pinned : Pinned := { name := "ytolpjohajdkgfaa", sum := "30735aaf0074703b6649338083a0f86ffecf9b71c02ea9a6dc0338c8e984e510", checked := Try.checked }
namespace Rows
def none {H : Type} : Left H := { results := [], args := [] }

/-- 'laws.FnExactGoodForest': WHATEVER THE INPUT: true; the input reads as it did. -/
def fnExactGoodForestSpec : ChangeSpec := { name := "fnExactGoodForest", fn := fun _ => fun
  | [d] => { results := [.lit (.bool true)], args := [d] }
  | _ => none }
def fnExactGoodForestRow : OpenClaim := { program := "ytolpjohajdkgfaa", sum := "30735aaf0074703b6649338083a0f86ffecf9b71c02ea9a6dc0338c8e984e510", func := "loop.example/g00756/laws.FnExactGoodForest", spec := "fnExactGoodForest", apart := false }
def FnExactGoodForestSaid : Prop := fnExactGoodForestRow.holds Try.pinned (OpenSpec.ofChange fnExactGoodForestSpec)

/-- ITS FALSE NEIGHBOUR: 'it returns false'. Refute it at one input. -/
def fnExactGoodForestWrong : ChangeSpec := { name := "fnExactGoodForest", fn := fun _ => fun
  | [d] => { results := [.lit (.bool false)], args := [d] }
  | _ => none }
def FnExactGoodForestWrongFalsely : Prop := fnExactGoodForestRow.holds Try.pinned (OpenSpec.ofChange fnExactGoodForestWrong)

/-- 'laws.FnExactBelowIn': WHATEVER THE INPUT: true; the input reads as it did. -/
def fnExactBelowInSpec : ChangeSpec := { name := "fnExactBelowIn", fn := fun _ => fun
  | [d1, d2] => { results := [.lit (.bool true)], args := [d1, d2] }
  | _ => none }
def fnExactBelowInRow : OpenClaim := { program := "ytolpjohajdkgfaa", sum := "30735aaf0074703b6649338083a0f86ffecf9b71c02ea9a6dc0338c8e984e510", func := "loop.example/g00756/laws.FnExactBelowIn", spec := "fnExactBelowIn", apart := false }
def FnExactBelowInSaid : Prop := fnExactBelowInRow.holds Try.pinned (OpenSpec.ofChange fnExactBelowInSpec)

/-- ITS FALSE NEIGHBOUR: 'it returns false'. Refute it at one input. -/
def fnExactBelowInWrong : ChangeSpec := { name := "fnExactBelowIn", fn := fun _ => fun
  | [d1, d2] => { results := [.lit (.bool false)], args := [d1, d2] }
  | _ => none }
def FnExactBelowInWrongFalsely : Prop := fnExactBelowInRow.holds Try.pinned (OpenSpec.ofChange fnExactBelowInWrong)

/-- 'laws.FnMay': WHATEVER THE INPUT: true; the input reads as it did. -/
def fnMaySpec : ChangeSpec := { name := "fnMay", fn := fun _ => fun
  | [d1, d2] => { results := [.lit (.bool true)], args := [d1, d2] }
  | _ => none }
def fnMayRow : OpenClaim := { program := "ytolpjohajdkgfaa", sum := "30735aaf0074703b6649338083a0f86ffecf9b71c02ea9a6dc0338c8e984e510", func := "loop.example/g00756/laws.FnMay", spec := "fnMay", apart := false }
def FnMaySaid : Prop := fnMayRow.holds Try.pinned (OpenSpec.ofChange fnMaySpec)

/-- ITS FALSE NEIGHBOUR: 'it returns false'. Refute it at one input. -/
def fnMayWrong : ChangeSpec := { name := "fnMay", fn := fun _ => fun
  | [d1, d2] => { results := [.lit (.bool false)], args := [d1, d2] }
  | _ => none }
def FnMayWrongFalsely : Prop := fnMayRow.holds Try.pinned (OpenSpec.ofChange fnMayWrong)

/-- 'laws.FnExactIsOrderly': WHATEVER THE INPUT: true; the input reads as it did. -/
def fnExactIsOrderlySpec : ChangeSpec := { name := "fnExactIsOrderly", fn := fun _ => fun
  | [d1, d2] => { results := [.lit (.bool true)], args := [d1, d2] }
  | _ => none }
def fnExactIsOrderlyRow : OpenClaim := { program := "ytolpjohajdkgfaa", sum := "30735aaf0074703b6649338083a0f86ffecf9b71c02ea9a6dc0338c8e984e510", func := "loop.example/g00756/laws.FnExactIsOrderly", spec := "fnExactIsOrderly", apart := false }
def FnExactIsOrderlySaid : Prop := fnExactIsOrderlyRow.holds Try.pinned (OpenSpec.ofChange fnExactIsOrderlySpec)

/-- ITS FALSE NEIGHBOUR: 'it returns false'. Refute it at one input. -/
def fnExactIsOrderlyWrong : ChangeSpec := { name := "fnExactIsOrderly", fn := fun _ => fun
  | [d1, d2] => { results := [.lit (.bool false)], args := [d1, d2] }
  | _ => none }
def FnExactIsOrderlyWrongFalsely : Prop := fnExactIsOrderlyRow.holds Try.pinned (OpenSpec.ofChange fnExactIsOrderlyWrong)

/-- 'laws.FnExactPopFrom': WHATEVER THE INPUT: true; the input reads as it did. -/
def fnExactPopFromSpec : ChangeSpec := { name := "fnExactPopFrom", fn := fun _ => fun
  | [d1, d2] => { results := [.lit (.bool true)], args := [d1, d2] }
  | _ => none }
def fnExactPopFromRow : OpenClaim := { program := "ytolpjohajdkgfaa", sum := "30735aaf0074703b6649338083a0f86ffecf9b71c02ea9a6dc0338c8e984e510", func := "loop.example/g00756/laws.FnExactPopFrom", spec := "fnExactPopFrom", apart := false }
def FnExactPopFromSaid : Prop := fnExactPopFromRow.holds Try.pinned (OpenSpec.ofChange fnExactPopFromSpec)

/-- ITS FALSE NEIGHBOUR: 'it returns false'. Refute it at one input. -/
def fnExactPopFromWrong : ChangeSpec := { name := "fnExactPopFrom", fn := fun _ => fun
  | [d1, d2] => { results := [.lit (.bool false)], args := [d1, d2] }
  | _ => none }
def FnExactPopFromWrongFalsely : Prop := fnExactPopFromRow.holds Try.pinned (OpenSpec.ofChange fnExactPopFromWrong)

/-- 'laws.FnExactPushTo': WHATEVER THE INPUT: true; the input reads as it did. -/
def fnExactPushToSpec : ChangeSpec := { name := "fnExactPushTo", fn := fun _ => fun
  | [d1, d2, d3] => { results := [.lit (.bool true)], args := [d1, d2, d3] }
  | _ => none }
def fnExactPushToRow : OpenClaim := { program := "ytolpjohajdkgfaa", sum := "30735aaf0074703b6649338083a0f86ffecf9b71c02ea9a6dc0338c8e984e510", func := "loop.example/g00756/laws.FnExactPushTo", spec := "fnExactPushTo", apart := false }
def FnExactPushToSaid : Prop := fnExactPushToRow.holds Try.pinned (OpenSpec.ofChange fnExactPushToSpec)

/-- ITS FALSE NEIGHBOUR: 'it returns false'. Refute it at one input. -/
def fnExactPushToWrong : ChangeSpec := { name := "fnExactPushTo", fn := fun _ => fun
  | [d1, d2, d3] => { results := [.lit (.bool false)], args := [d1, d2, d3] }
  | _ => none }
def FnExactPushToWrongFalsely : Prop := fnExactPushToRow.holds Try.pinned (OpenSpec.ofChange fnExactPushToWrong)

/-- 'laws.FnExactReadyIn': WHATEVER THE INPUT: true; the input reads as it did. -/
def fnExactReadyInSpec : ChangeSpec := { name := "fnExactReadyIn", fn := fun _ => fun
  | [d1, d2, d3, d4, d5] => { results := [.lit (.bool true)], args := [d1, d2, d3, d4, d5] }
  | _ => none }
def fnExactReadyInRow : OpenClaim := { program := "ytolpjohajdkgfaa", sum := "30735aaf0074703b6649338083a0f86ffecf9b71c02ea9a6dc0338c8e984e510", func := "loop.example/g00756/laws.FnExactReadyIn", spec := "fnExactReadyIn", apart := false }
def FnExactReadyInSaid : Prop := fnExactReadyInRow.holds Try.pinned (OpenSpec.ofChange fnExactReadyInSpec)

/-- ITS FALSE NEIGHBOUR: 'it returns false'. Refute it at one input. -/
def fnExactReadyInWrong : ChangeSpec := { name := "fnExactReadyIn", fn := fun _ => fun
  | [d1, d2, d3, d4, d5] => { results := [.lit (.bool false)], args := [d1, d2, d3, d4, d5] }
  | _ => none }
def FnExactReadyInWrongFalsely : Prop := fnExactReadyInRow.holds Try.pinned (OpenSpec.ofChange fnExactReadyInWrong)

/-- 'laws.FnExactWorkOf': WHATEVER THE INPUT: true; the input reads as it did. -/
def fnExactWorkOfSpec : ChangeSpec := { name := "fnExactWorkOf", fn := fun _ => fun
  | [d1, d2, d3, d4] => { results := [.lit (.bool true)], args := [d1, d2, d3, d4] }
  | _ => none }
def fnExactWorkOfRow : OpenClaim := { program := "ytolpjohajdkgfaa", sum := "30735aaf0074703b6649338083a0f86ffecf9b71c02ea9a6dc0338c8e984e510", func := "loop.example/g00756/laws.FnExactWorkOf", spec := "fnExactWorkOf", apart := false }
def FnExactWorkOfSaid : Prop := fnExactWorkOfRow.holds Try.pinned (OpenSpec.ofChange fnExactWorkOfSpec)

/-- ITS FALSE NEIGHBOUR: 'it returns false'. Refute it at one input. -/
def fnExactWorkOfWrong : ChangeSpec := { name := "fnExactWorkOf", fn := fun _ => fun
  | [d1, d2, d3, d4] => { results := [.lit (.bool false)], args := [d1, d2, d3, d4] }
  | _ => none }
def FnExactWorkOfWrongFalsely : Prop := fnExactWorkOfRow.holds Try.pinned (OpenSpec.ofChange fnExactWorkOfWrong)

/-- 'laws.FnExactEventsOf': WHATEVER THE INPUT: true; the input reads as it did. -/
def fnExactEventsOfSpec : ChangeSpec := { name := "fnExactEventsOf", fn := fun _ => fun
  | [d1, d2, d3, d4] => { results := [.lit (.bool true)], args := [d1, d2, d3, d4] }
  | _ => none }
def fnExactEventsOfRow : OpenClaim := { program := "ytolpjohajdkgfaa", sum := "30735aaf0074703b6649338083a0f86ffecf9b71c02ea9a6dc0338c8e984e510", func := "loop.example/g00756/laws.FnExactEventsOf", spec := "fnExactEventsOf", apart := false }
def FnExactEventsOfSaid : Prop := fnExactEventsOfRow.holds Try.pinned (OpenSpec.ofChange fnExactEventsOfSpec)

/-- ITS FALSE NEIGHBOUR: 'it returns false'. Refute it at one input. -/
def fnExactEventsOfWrong : ChangeSpec := { name := "fnExactEventsOf", fn := fun _ => fun
  | [d1, d2, d3, d4] => { results := [.lit (.bool false)], args := [d1, d2, d3, d4] }
  | _ => none }
def FnExactEventsOfWrongFalsely : Prop := fnExactEventsOfRow.holds Try.pinned (OpenSpec.ofChange fnExactEventsOfWrong)

/-- 'laws.FnModes': WHATEVER THE INPUT: true; the input reads as it did. -/
def fnModesSpec : ChangeSpec := { name := "fnModes", fn := fun _ => fun
  | [d1, d2] => { results := [.lit (.bool true)], args := [d1, d2] }
  | _ => none }
def fnModesRow : OpenClaim := { program := "ytolpjohajdkgfaa", sum := "30735aaf0074703b6649338083a0f86ffecf9b71c02ea9a6dc0338c8e984e510", func := "loop.example/g00756/laws.FnModes", spec := "fnModes", inPlace := ["internal/bytealg.IndexByteString", "internal/bytealg.IndexString"], recurses := true, named := ["internal/bytealg.MaxLen"], apart := false }
def FnModesSaid : Prop := fnModesRow.holds Try.pinned (OpenSpec.ofChange fnModesSpec)

/-- ITS FALSE NEIGHBOUR: 'it returns false'. Refute it at one input. -/
def fnModesWrong : ChangeSpec := { name := "fnModes", fn := fun _ => fun
  | [d1, d2] => { results := [.lit (.bool false)], args := [d1, d2] }
  | _ => none }
def FnModesWrongFalsely : Prop := fnModesRow.holds Try.pinned (OpenSpec.ofChange fnModesWrong)

/-- 'laws.FnExactRunPool': WHATEVER THE INPUT: true; the input reads as it did. -/
def fnExactRunPoolSpec : ChangeSpec := { name := "fnExactRunPool", fn := fun _ => fun
  | [d1, d2, d3, d4, d5] => { results := [.lit (.bool true)], args := [d1, d2, d3, d4, d5] }
  | _ => none }
def fnExactRunPoolRow : OpenClaim := { program := "ytolpjohajdkgfaa", sum := "30735aaf0074703b6649338083a0f86ffecf9b71c02ea9a6dc0338c8e984e510", func := "loop.example/g00756/laws.FnExactRunPool", spec := "fnExactRunPool", apart := false }
def FnExactRunPoolSaid : Prop := fnExactRunPoolRow.holds Try.pinned (OpenSpec.ofChange fnExactRunPoolSpec)

/-- ITS FALSE NEIGHBOUR: 'it returns false'. Refute it at one input. -/
def fnExactRunPoolWrong : ChangeSpec := { name := "fnExactRunPool", fn := fun _ => fun
  | [d1, d2, d3, d4, d5] => { results := [.lit (.bool false)], args := [d1, d2, d3, d4, d5] }
  | _ => none }
def FnExactRunPoolWrongFalsely : Prop := fnExactRunPoolRow.holds Try.pinned (OpenSpec.ofChange fnExactRunPoolWrong)

/-- 'laws.FnOrderly': WHATEVER THE INPUT: true; the input reads as it did. -/
def fnOrderlySpec : ChangeSpec := { name := "fnOrderly", fn := fun _ => fun
  | [d1, d2] => { results := [.lit (.bool true)], args := [d1, d2] }
  | _ => none }
def fnOrderlyRow : OpenClaim := { program := "ytolpjohajdkgfaa", sum := "30735aaf0074703b6649338083a0f86ffecf9b71c02ea9a6dc0338c8e984e510", func := "loop.example/g00756/laws.FnOrderly", spec := "fnOrderly", apart := false }
def FnOrderlySaid : Prop := fnOrderlyRow.holds Try.pinned (OpenSpec.ofChange fnOrderlySpec)

/-- ITS FALSE NEIGHBOUR: 'it returns false'. Refute it at one input. -/
def fnOrderlyWrong : ChangeSpec := { name := "fnOrderly", fn := fun _ => fun
  | [d1, d2] => { results := [.lit (.bool false)], args := [d1, d2] }
  | _ => none }
def FnOrderlyWrongFalsely : Prop := fnOrderlyRow.holds Try.pinned (OpenSpec.ofChange fnOrderlyWrong)

/- THE SECOND FORM. 'bulk': how many values and letters a reading holds, each counted each time it is reached (what is shared counts as often as it is met; a slice's spare places count too). A statement '..UptoSaid' is the law's where the arguments, and the package variables that the reading takes, are together of bulk at most 1048576: NARROWER than '..Said'. Prove '..Said' where nothing that the law and all that it calls make is longer than what came in: it says more and counts as full. Else prove '..UptoSaid'. A law counts once. -/
mutual
def uptoBulk {H : Type} : DataW H → Nat
  | .lit (.string bytes) => bytes.length + 1
  | .lit _ => 1
  | .nil => 1
  | .ptr d => uptoBulk d + 1
  | .slice elems spare => uptoBulkAll elems + uptoBulkAll spare + 1
  | .agg parts => uptoBulkAll parts + 1
  | .iface _ d => uptoBulk d + 1
  | .map entries => uptoBulkEntries entries + 1
  | .held _ => 1
def uptoBulkAll {H : Type} : List (DataW H) → Nat
  | [] => 0
  | d :: r => uptoBulk d + uptoBulkAll r
def uptoBulkEntries {H : Type} : List (Lit × DataW H) → Nat
  | [] => 0
  | x :: r => uptoBulkEntry x + uptoBulkEntries r
def uptoBulkEntry {H : Type} : Lit × DataW H → Nat
  | (.string bytes, d) => bytes.length + uptoBulk d + 1
  | (_, d) => uptoBulk d + 1
 end
def uptoSmall : (H : Type) → List (DataW H) → Bool := fun _ ds => decide (uptoBulkAll ds ≤ 1048576)
def OpenSpec.upto (s : _root_.Go.ChangeSpec) : _root_.Go.OpenSpec := { _root_.Go.OpenSpec.ofChange s with cond := some uptoSmall }

/-- 'laws.FnExactGoodForest', WHERE WHAT IT READS IS OF BULK AT MOST 1048576: true; the input reads as it did. -/
def fnExactGoodForestUptoRow : OpenClaim := { program := "ytolpjohajdkgfaa", sum := "30735aaf0074703b6649338083a0f86ffecf9b71c02ea9a6dc0338c8e984e510", func := "loop.example/g00756/laws.FnExactGoodForest", spec := "fnExactGoodForest", apart := false, narrowed := true }
def FnExactGoodForestUptoSaid : Prop := fnExactGoodForestUptoRow.holds Try.pinned (OpenSpec.upto fnExactGoodForestSpec)

/-- 'laws.FnExactBelowIn', WHERE WHAT IT READS IS OF BULK AT MOST 1048576: true; the input reads as it did. -/
def fnExactBelowInUptoRow : OpenClaim := { program := "ytolpjohajdkgfaa", sum := "30735aaf0074703b6649338083a0f86ffecf9b71c02ea9a6dc0338c8e984e510", func := "loop.example/g00756/laws.FnExactBelowIn", spec := "fnExactBelowIn", apart := false, narrowed := true }
def FnExactBelowInUptoSaid : Prop := fnExactBelowInUptoRow.holds Try.pinned (OpenSpec.upto fnExactBelowInSpec)

/-- 'laws.FnMay', WHERE WHAT IT READS IS OF BULK AT MOST 1048576: true; the input reads as it did. -/
def fnMayUptoRow : OpenClaim := { program := "ytolpjohajdkgfaa", sum := "30735aaf0074703b6649338083a0f86ffecf9b71c02ea9a6dc0338c8e984e510", func := "loop.example/g00756/laws.FnMay", spec := "fnMay", apart := false, narrowed := true }
def FnMayUptoSaid : Prop := fnMayUptoRow.holds Try.pinned (OpenSpec.upto fnMaySpec)

/-- 'laws.FnExactIsOrderly', WHERE WHAT IT READS IS OF BULK AT MOST 1048576: true; the input reads as it did. -/
def fnExactIsOrderlyUptoRow : OpenClaim := { program := "ytolpjohajdkgfaa", sum := "30735aaf0074703b6649338083a0f86ffecf9b71c02ea9a6dc0338c8e984e510", func := "loop.example/g00756/laws.FnExactIsOrderly", spec := "fnExactIsOrderly", apart := false, narrowed := true }
def FnExactIsOrderlyUptoSaid : Prop := fnExactIsOrderlyUptoRow.holds Try.pinned (OpenSpec.upto fnExactIsOrderlySpec)

/-- 'laws.FnExactPopFrom', WHERE WHAT IT READS IS OF BULK AT MOST 1048576: true; the input reads as it did. -/
def fnExactPopFromUptoRow : OpenClaim := { program := "ytolpjohajdkgfaa", sum := "30735aaf0074703b6649338083a0f86ffecf9b71c02ea9a6dc0338c8e984e510", func := "loop.example/g00756/laws.FnExactPopFrom", spec := "fnExactPopFrom", apart := false, narrowed := true }
def FnExactPopFromUptoSaid : Prop := fnExactPopFromUptoRow.holds Try.pinned (OpenSpec.upto fnExactPopFromSpec)

/-- 'laws.FnExactPushTo', WHERE WHAT IT READS IS OF BULK AT MOST 1048576: true; the input reads as it did. -/
def fnExactPushToUptoRow : OpenClaim := { program := "ytolpjohajdkgfaa", sum := "30735aaf0074703b6649338083a0f86ffecf9b71c02ea9a6dc0338c8e984e510", func := "loop.example/g00756/laws.FnExactPushTo", spec := "fnExactPushTo", apart := false, narrowed := true }
def FnExactPushToUptoSaid : Prop := fnExactPushToUptoRow.holds Try.pinned (OpenSpec.upto fnExactPushToSpec)

/-- 'laws.FnExactReadyIn', WHERE WHAT IT READS IS OF BULK AT MOST 1048576: true; the input reads as it did. -/
def fnExactReadyInUptoRow : OpenClaim := { program := "ytolpjohajdkgfaa", sum := "30735aaf0074703b6649338083a0f86ffecf9b71c02ea9a6dc0338c8e984e510", func := "loop.example/g00756/laws.FnExactReadyIn", spec := "fnExactReadyIn", apart := false, narrowed := true }
def FnExactReadyInUptoSaid : Prop := fnExactReadyInUptoRow.holds Try.pinned (OpenSpec.upto fnExactReadyInSpec)

/-- 'laws.FnExactWorkOf', WHERE WHAT IT READS IS OF BULK AT MOST 1048576: true; the input reads as it did. -/
def fnExactWorkOfUptoRow : OpenClaim := { program := "ytolpjohajdkgfaa", sum := "30735aaf0074703b6649338083a0f86ffecf9b71c02ea9a6dc0338c8e984e510", func := "loop.example/g00756/laws.FnExactWorkOf", spec := "fnExactWorkOf", apart := false, narrowed := true }
def FnExactWorkOfUptoSaid : Prop := fnExactWorkOfUptoRow.holds Try.pinned (OpenSpec.upto fnExactWorkOfSpec)

/-- 'laws.FnExactEventsOf', WHERE WHAT IT READS IS OF BULK AT MOST 1048576: true; the input reads as it did. -/
def fnExactEventsOfUptoRow : OpenClaim := { program := "ytolpjohajdkgfaa", sum := "30735aaf0074703b6649338083a0f86ffecf9b71c02ea9a6dc0338c8e984e510", func := "loop.example/g00756/laws.FnExactEventsOf", spec := "fnExactEventsOf", apart := false, narrowed := true }
def FnExactEventsOfUptoSaid : Prop := fnExactEventsOfUptoRow.holds Try.pinned (OpenSpec.upto fnExactEventsOfSpec)

/-- 'laws.FnModes', WHERE WHAT IT READS IS OF BULK AT MOST 1048576: true; the input reads as it did. -/
def fnModesUptoRow : OpenClaim := { program := "ytolpjohajdkgfaa", sum := "30735aaf0074703b6649338083a0f86ffecf9b71c02ea9a6dc0338c8e984e510", func := "loop.example/g00756/laws.FnModes", spec := "fnModes", inPlace := ["internal/bytealg.IndexByteString", "internal/bytealg.IndexString"], recurses := true, named := ["internal/bytealg.MaxLen"], apart := false, narrowed := true }
def FnModesUptoSaid : Prop := fnModesUptoRow.holds Try.pinned (OpenSpec.upto fnModesSpec)

/-- 'laws.FnExactRunPool', WHERE WHAT IT READS IS OF BULK AT MOST 1048576: true; the input reads as it did. -/
def fnExactRunPoolUptoRow : OpenClaim := { program := "ytolpjohajdkgfaa", sum := "30735aaf0074703b6649338083a0f86ffecf9b71c02ea9a6dc0338c8e984e510", func := "loop.example/g00756/laws.FnExactRunPool", spec := "fnExactRunPool", apart := false, narrowed := true }
def FnExactRunPoolUptoSaid : Prop := fnExactRunPoolUptoRow.holds Try.pinned (OpenSpec.upto fnExactRunPoolSpec)

/-- 'laws.FnOrderly', WHERE WHAT IT READS IS OF BULK AT MOST 1048576: true; the input reads as it did. -/
def fnOrderlyUptoRow : OpenClaim := { program := "ytolpjohajdkgfaa", sum := "30735aaf0074703b6649338083a0f86ffecf9b71c02ea9a6dc0338c8e984e510", func := "loop.example/g00756/laws.FnOrderly", spec := "fnOrderly", apart := false, narrowed := true }
def FnOrderlyUptoSaid : Prop := fnOrderlyUptoRow.holds Try.pinned (OpenSpec.upto fnOrderlySpec)

end Rows
end Go.Proofs.Ytolpjohajdkgfaa
