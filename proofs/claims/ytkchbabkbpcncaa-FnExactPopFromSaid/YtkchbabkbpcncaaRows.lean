/-
  No cell of these rows narrows 'for every input' (looked for: loops, veiled, ifaces, maps, wideKeys, modest, calm, conditions, laid).
  DERIVED. THE GIVEN ROWS OF THIS SEAT. 11 by the template 'for every input the law returns true; each argument reads behind the call as it read before'; 0 by the template 'total and deterministic' (their statements: YtkchbabkbpcncaaTotals.lean).
  GIVEN WITH THE SEED: the statements are not yours to turn. If you find one false, say at which input.
  Laid BY PROGRAM, IN A SANDBOX (cutbox-rows.mjs): the forced cells as the released guide's own fill.sh prints them over the translation 348de41757a92a6d… (all of the seat's roots in one cut). By AI agents, Wed Nov 11 2026. No macro, syntax, notation, axiom, sorry.
-/
import Derived.Test.YtkchbabkbpcncaaChecked
import GoSem.Claim
import GoSem.ClaimJoined
import GoSem.ClaimMapViews
import Derived.JoinedTies
import Derived.KernelRfl
namespace Go.Proofs.Ytkchbabkbpcncaa
/- THE CELL 'sum', in the pinned program and in every row, IS THE sha256 OF THE DUMP (.gsa) THAT YtkchbabkbpcncaaProg.lean LOADS. Nothing in Lean hashes anything: it is a label: what it is worth is what the hold of that sum in a sandbox is worth. -/
noncomputable def Try.pinned : Pinned := { name := "ytkchbabkbpcncaa", sum := "348de41757a92a6d8f1b91d56e4431bd1e47d46dfba6d182bb1c4506c4c67a1b", checked := Try.checked }
namespace Rows
def none {H : Type} : Left H := { results := [], args := [] }

/-- 'laws.FnExactPopFrom': WHATEVER THE INPUT: true; the input reads as it did. -/
def fnExactPopFromSpec : ChangeSpec := { name := "fnExactPopFrom", fn := fun _ => fun
  | [d1, d2] => { results := [.lit (.bool true)], args := [d1, d2] }
  | _ => none }
def fnExactPopFromRow : OpenClaim := { program := "ytkchbabkbpcncaa", sum := "348de41757a92a6d8f1b91d56e4431bd1e47d46dfba6d182bb1c4506c4c67a1b", func := "loop.example/g00756/laws.FnExactPopFrom", spec := "fnExactPopFrom", apart := false }
def FnExactPopFromSaid : Prop := fnExactPopFromRow.holds Try.pinned (OpenSpec.ofChange fnExactPopFromSpec)

/-- ITS FALSE NEIGHBOUR: 'it returns false'. Refute it at one input. -/
def fnExactPopFromWrong : ChangeSpec := { name := "fnExactPopFrom", fn := fun _ => fun
  | [d1, d2] => { results := [.lit (.bool false)], args := [d1, d2] }
  | _ => none }
def FnExactPopFromWrongFalsely : Prop := fnExactPopFromRow.holds Try.pinned (OpenSpec.ofChange fnExactPopFromWrong)

/-- 'laws.FnExactPushTo': WHATEVER THE INPUT: true; the input reads as it did. -/
def fnExactPushToSpec : ChangeSpec := { name := "fnExactPushTo", fn := fun _ => fun
  | [d1, d2, d3] => { results := [.lit (.bool true)], args := [d1, d2, d3] }
  | _ => none }
def fnExactPushToRow : OpenClaim := { program := "ytkchbabkbpcncaa", sum := "348de41757a92a6d8f1b91d56e4431bd1e47d46dfba6d182bb1c4506c4c67a1b", func := "loop.example/g00756/laws.FnExactPushTo", spec := "fnExactPushTo", apart := false }
def FnExactPushToSaid : Prop := fnExactPushToRow.holds Try.pinned (OpenSpec.ofChange fnExactPushToSpec)

/-- ITS FALSE NEIGHBOUR: 'it returns false'. Refute it at one input. -/
def fnExactPushToWrong : ChangeSpec := { name := "fnExactPushTo", fn := fun _ => fun
  | [d1, d2, d3] => { results := [.lit (.bool false)], args := [d1, d2, d3] }
  | _ => none }
def FnExactPushToWrongFalsely : Prop := fnExactPushToRow.holds Try.pinned (OpenSpec.ofChange fnExactPushToWrong)

/-- 'laws.FnExactReadyIn': WHATEVER THE INPUT: true; the input reads as it did. -/
def fnExactReadyInSpec : ChangeSpec := { name := "fnExactReadyIn", fn := fun _ => fun
  | [d1, d2, d3, d4, d5] => { results := [.lit (.bool true)], args := [d1, d2, d3, d4, d5] }
  | _ => none }
def fnExactReadyInRow : OpenClaim := { program := "ytkchbabkbpcncaa", sum := "348de41757a92a6d8f1b91d56e4431bd1e47d46dfba6d182bb1c4506c4c67a1b", func := "loop.example/g00756/laws.FnExactReadyIn", spec := "fnExactReadyIn", apart := false }
def FnExactReadyInSaid : Prop := fnExactReadyInRow.holds Try.pinned (OpenSpec.ofChange fnExactReadyInSpec)

/-- ITS FALSE NEIGHBOUR: 'it returns false'. Refute it at one input. -/
def fnExactReadyInWrong : ChangeSpec := { name := "fnExactReadyIn", fn := fun _ => fun
  | [d1, d2, d3, d4, d5] => { results := [.lit (.bool false)], args := [d1, d2, d3, d4, d5] }
  | _ => none }
def FnExactReadyInWrongFalsely : Prop := fnExactReadyInRow.holds Try.pinned (OpenSpec.ofChange fnExactReadyInWrong)

/-- 'laws.FnExactWorkOf': WHATEVER THE INPUT: true; the input reads as it did. -/
def fnExactWorkOfSpec : ChangeSpec := { name := "fnExactWorkOf", fn := fun _ => fun
  | [d1, d2, d3, d4] => { results := [.lit (.bool true)], args := [d1, d2, d3, d4] }
  | _ => none }
def fnExactWorkOfRow : OpenClaim := { program := "ytkchbabkbpcncaa", sum := "348de41757a92a6d8f1b91d56e4431bd1e47d46dfba6d182bb1c4506c4c67a1b", func := "loop.example/g00756/laws.FnExactWorkOf", spec := "fnExactWorkOf", apart := false }
def FnExactWorkOfSaid : Prop := fnExactWorkOfRow.holds Try.pinned (OpenSpec.ofChange fnExactWorkOfSpec)

/-- ITS FALSE NEIGHBOUR: 'it returns false'. Refute it at one input. -/
def fnExactWorkOfWrong : ChangeSpec := { name := "fnExactWorkOf", fn := fun _ => fun
  | [d1, d2, d3, d4] => { results := [.lit (.bool false)], args := [d1, d2, d3, d4] }
  | _ => none }
def FnExactWorkOfWrongFalsely : Prop := fnExactWorkOfRow.holds Try.pinned (OpenSpec.ofChange fnExactWorkOfWrong)

/-- 'laws.FnExactEventsOf': WHATEVER THE INPUT: true; the input reads as it did. -/
def fnExactEventsOfSpec : ChangeSpec := { name := "fnExactEventsOf", fn := fun _ => fun
  | [d1, d2, d3, d4] => { results := [.lit (.bool true)], args := [d1, d2, d3, d4] }
  | _ => none }
def fnExactEventsOfRow : OpenClaim := { program := "ytkchbabkbpcncaa", sum := "348de41757a92a6d8f1b91d56e4431bd1e47d46dfba6d182bb1c4506c4c67a1b", func := "loop.example/g00756/laws.FnExactEventsOf", spec := "fnExactEventsOf", apart := false }
def FnExactEventsOfSaid : Prop := fnExactEventsOfRow.holds Try.pinned (OpenSpec.ofChange fnExactEventsOfSpec)

/-- ITS FALSE NEIGHBOUR: 'it returns false'. Refute it at one input. -/
def fnExactEventsOfWrong : ChangeSpec := { name := "fnExactEventsOf", fn := fun _ => fun
  | [d1, d2, d3, d4] => { results := [.lit (.bool false)], args := [d1, d2, d3, d4] }
  | _ => none }
def FnExactEventsOfWrongFalsely : Prop := fnExactEventsOfRow.holds Try.pinned (OpenSpec.ofChange fnExactEventsOfWrong)

/-- 'laws.FnExactRunPool': WHATEVER THE INPUT: true; the input reads as it did. -/
def fnExactRunPoolSpec : ChangeSpec := { name := "fnExactRunPool", fn := fun _ => fun
  | [d1, d2, d3, d4, d5] => { results := [.lit (.bool true)], args := [d1, d2, d3, d4, d5] }
  | _ => none }
def fnExactRunPoolRow : OpenClaim := { program := "ytkchbabkbpcncaa", sum := "348de41757a92a6d8f1b91d56e4431bd1e47d46dfba6d182bb1c4506c4c67a1b", func := "loop.example/g00756/laws.FnExactRunPool", spec := "fnExactRunPool", apart := false }
def FnExactRunPoolSaid : Prop := fnExactRunPoolRow.holds Try.pinned (OpenSpec.ofChange fnExactRunPoolSpec)

/-- ITS FALSE NEIGHBOUR: 'it returns false'. Refute it at one input. -/
def fnExactRunPoolWrong : ChangeSpec := { name := "fnExactRunPool", fn := fun _ => fun
  | [d1, d2, d3, d4, d5] => { results := [.lit (.bool false)], args := [d1, d2, d3, d4, d5] }
  | _ => none }
def FnExactRunPoolWrongFalsely : Prop := fnExactRunPoolRow.holds Try.pinned (OpenSpec.ofChange fnExactRunPoolWrong)

/-- 'laws.FnOrderly': WHATEVER THE INPUT: true; the input reads as it did. -/
def fnOrderlySpec : ChangeSpec := { name := "fnOrderly", fn := fun _ => fun
  | [d1, d2] => { results := [.lit (.bool true)], args := [d1, d2] }
  | _ => none }
def fnOrderlyRow : OpenClaim := { program := "ytkchbabkbpcncaa", sum := "348de41757a92a6d8f1b91d56e4431bd1e47d46dfba6d182bb1c4506c4c67a1b", func := "loop.example/g00756/laws.FnOrderly", spec := "fnOrderly", apart := false }
def FnOrderlySaid : Prop := fnOrderlyRow.holds Try.pinned (OpenSpec.ofChange fnOrderlySpec)

/-- ITS FALSE NEIGHBOUR: 'it returns false'. Refute it at one input. -/
def fnOrderlyWrong : ChangeSpec := { name := "fnOrderly", fn := fun _ => fun
  | [d1, d2] => { results := [.lit (.bool false)], args := [d1, d2] }
  | _ => none }
def FnOrderlyWrongFalsely : Prop := fnOrderlyRow.holds Try.pinned (OpenSpec.ofChange fnOrderlyWrong)

/-- 'laws.FnExactTasksIn': WHATEVER THE INPUT: true; the input reads as it did. -/
def fnExactTasksInSpec : ChangeSpec := { name := "fnExactTasksIn", fn := fun _ => fun
  | [d] => { results := [.lit (.bool true)], args := [d] }
  | _ => none }
def fnExactTasksInRow : OpenClaim := { program := "ytkchbabkbpcncaa", sum := "348de41757a92a6d8f1b91d56e4431bd1e47d46dfba6d182bb1c4506c4c67a1b", func := "loop.example/g00756/laws.FnExactTasksIn", spec := "fnExactTasksIn", unfollowed := true, recurses := true, apart := false }
def FnExactTasksInSaid : Prop := fnExactTasksInRow.holds Try.pinned (OpenSpec.ofChange fnExactTasksInSpec)

/-- ITS FALSE NEIGHBOUR: 'it returns false'. Refute it at one input. -/
def fnExactTasksInWrong : ChangeSpec := { name := "fnExactTasksIn", fn := fun _ => fun
  | [d] => { results := [.lit (.bool false)], args := [d] }
  | _ => none }
def FnExactTasksInWrongFalsely : Prop := fnExactTasksInRow.holds Try.pinned (OpenSpec.ofChange fnExactTasksInWrong)

/-- 'laws.FnVictims': WHATEVER THE INPUT: true; the input reads as it did. -/
def fnVictimsSpec : ChangeSpec := { name := "fnVictims", fn := fun _ => fun
  | [d1, d2] => { results := [.lit (.bool true)], args := [d1, d2] }
  | _ => none }
def fnVictimsRow : OpenClaim := { program := "ytkchbabkbpcncaa", sum := "348de41757a92a6d8f1b91d56e4431bd1e47d46dfba6d182bb1c4506c4c67a1b", func := "loop.example/g00756/laws.FnVictims", spec := "fnVictims", unfollowed := true, recurses := true, apart := false }
def FnVictimsSaid : Prop := fnVictimsRow.holds Try.pinned (OpenSpec.ofChange fnVictimsSpec)

/-- ITS FALSE NEIGHBOUR: 'it returns false'. Refute it at one input. -/
def fnVictimsWrong : ChangeSpec := { name := "fnVictims", fn := fun _ => fun
  | [d1, d2] => { results := [.lit (.bool false)], args := [d1, d2] }
  | _ => none }
def FnVictimsWrongFalsely : Prop := fnVictimsRow.holds Try.pinned (OpenSpec.ofChange fnVictimsWrong)

/-- 'laws.FnDecks': WHATEVER THE INPUT: true; the input reads as it did. -/
def fnDecksSpec : ChangeSpec := { name := "fnDecks", fn := fun _ => fun
  | [d1, d2] => { results := [.lit (.bool true)], args := [d1, d2] }
  | _ => none }
def fnDecksRow : OpenClaim := { program := "ytkchbabkbpcncaa", sum := "348de41757a92a6d8f1b91d56e4431bd1e47d46dfba6d182bb1c4506c4c67a1b", func := "loop.example/g00756/laws.FnDecks", spec := "fnDecks", unfollowed := true, recurses := true, apart := false }
def FnDecksSaid : Prop := fnDecksRow.holds Try.pinned (OpenSpec.ofChange fnDecksSpec)

/-- ITS FALSE NEIGHBOUR: 'it returns false'. Refute it at one input. -/
def fnDecksWrong : ChangeSpec := { name := "fnDecks", fn := fun _ => fun
  | [d1, d2] => { results := [.lit (.bool false)], args := [d1, d2] }
  | _ => none }
def FnDecksWrongFalsely : Prop := fnDecksRow.holds Try.pinned (OpenSpec.ofChange fnDecksWrong)

/-- 'laws.FnNeverIdle': WHATEVER THE INPUT: true; the input reads as it did. -/
def fnNeverIdleSpec : ChangeSpec := { name := "fnNeverIdle", fn := fun _ => fun
  | [d1, d2] => { results := [.lit (.bool true)], args := [d1, d2] }
  | _ => none }
def fnNeverIdleRow : OpenClaim := { program := "ytkchbabkbpcncaa", sum := "348de41757a92a6d8f1b91d56e4431bd1e47d46dfba6d182bb1c4506c4c67a1b", func := "loop.example/g00756/laws.FnNeverIdle", spec := "fnNeverIdle", unfollowed := true, recurses := true, apart := false }
def FnNeverIdleSaid : Prop := fnNeverIdleRow.holds Try.pinned (OpenSpec.ofChange fnNeverIdleSpec)

/-- ITS FALSE NEIGHBOUR: 'it returns false'. Refute it at one input. -/
def fnNeverIdleWrong : ChangeSpec := { name := "fnNeverIdle", fn := fun _ => fun
  | [d1, d2] => { results := [.lit (.bool false)], args := [d1, d2] }
  | _ => none }
def FnNeverIdleWrongFalsely : Prop := fnNeverIdleRow.holds Try.pinned (OpenSpec.ofChange fnNeverIdleWrong)

/- THE SECOND FORM. 'bulk': how many values and letters a reading holds, each counted each time it is reached (what is shared counts as often as it is met; a slice's spare places count too). A statement '..UptoSaid' is the law's where the arguments, and the package variables that the reading takes, are together of bulk at most 1048576: NARROWER than '..Said'. Prove '..Said' where nothing that the law and all that it calls make is longer than what came in: it says more and counts as full. Else prove '..UptoSaid'. A law counts once. -/
mutual
def uptoBulk {H : Type} : DataW H → Nat
  | .lit (.string bytes) => bytes.length + 1
  | .lit _ => 1
  | .nil => 1
  | .ptr d => uptoBulk d + 1
  | .slice elems spare => uptoBulkAll elems + uptoBulkAll spare + 1
  | .agg parts => uptoBulkAll parts + 1
  | .iface _ d => uptoBulk d + 1
  | .map entries => uptoBulkEntries entries + 1
  | .held _ => 1
def uptoBulkAll {H : Type} : List (DataW H) → Nat
  | [] => 0
  | d :: r => uptoBulk d + uptoBulkAll r
def uptoBulkEntries {H : Type} : List (Lit × DataW H) → Nat
  | [] => 0
  | x :: r => uptoBulkEntry x + uptoBulkEntries r
def uptoBulkEntry {H : Type} : Lit × DataW H → Nat
  | (.string bytes, d) => bytes.length + uptoBulk d + 1
  | (_, d) => uptoBulk d + 1
 end
def uptoSmall : (H : Type) → List (DataW H) → Bool := fun _ ds => decide (uptoBulkAll ds ≤ 1048576)
def OpenSpec.upto (s : _root_.Go.ChangeSpec) : _root_.Go.OpenSpec := { _root_.Go.OpenSpec.ofChange s with cond := some uptoSmall }

/-- 'laws.FnExactPopFrom', WHERE WHAT IT READS IS OF BULK AT MOST 1048576: true; the input reads as it did. -/
def fnExactPopFromUptoRow : OpenClaim := { program := "ytkchbabkbpcncaa", sum := "348de41757a92a6d8f1b91d56e4431bd1e47d46dfba6d182bb1c4506c4c67a1b", func := "loop.example/g00756/laws.FnExactPopFrom", spec := "fnExactPopFrom", apart := false, narrowed := true }
def FnExactPopFromUptoSaid : Prop := fnExactPopFromUptoRow.holds Try.pinned (OpenSpec.upto fnExactPopFromSpec)

/-- 'laws.FnExactPushTo', WHERE WHAT IT READS IS OF BULK AT MOST 1048576: true; the input reads as it did. -/
def fnExactPushToUptoRow : OpenClaim := { program := "ytkchbabkbpcncaa", sum := "348de41757a92a6d8f1b91d56e4431bd1e47d46dfba6d182bb1c4506c4c67a1b", func := "loop.example/g00756/laws.FnExactPushTo", spec := "fnExactPushTo", apart := false, narrowed := true }
def FnExactPushToUptoSaid : Prop := fnExactPushToUptoRow.holds Try.pinned (OpenSpec.upto fnExactPushToSpec)

/-- 'laws.FnExactReadyIn', WHERE WHAT IT READS IS OF BULK AT MOST 1048576: true; the input reads as it did. -/
def fnExactReadyInUptoRow : OpenClaim := { program := "ytkchbabkbpcncaa", sum := "348de41757a92a6d8f1b91d56e4431bd1e47d46dfba6d182bb1c4506c4c67a1b", func := "loop.example/g00756/laws.FnExactReadyIn", spec := "fnExactReadyIn", apart := false, narrowed := true }
def FnExactReadyInUptoSaid : Prop := fnExactReadyInUptoRow.holds Try.pinned (OpenSpec.upto fnExactReadyInSpec)

/-- 'laws.FnExactWorkOf', WHERE WHAT IT READS IS OF BULK AT MOST 1048576: true; the input reads as it did. -/
def fnExactWorkOfUptoRow : OpenClaim := { program := "ytkchbabkbpcncaa", sum := "348de41757a92a6d8f1b91d56e4431bd1e47d46dfba6d182bb1c4506c4c67a1b", func := "loop.example/g00756/laws.FnExactWorkOf", spec := "fnExactWorkOf", apart := false, narrowed := true }
def FnExactWorkOfUptoSaid : Prop := fnExactWorkOfUptoRow.holds Try.pinned (OpenSpec.upto fnExactWorkOfSpec)

/-- 'laws.FnExactEventsOf', WHERE WHAT IT READS IS OF BULK AT MOST 1048576: true; the input reads as it did. -/
def fnExactEventsOfUptoRow : OpenClaim := { program := "ytkchbabkbpcncaa", sum := "348de41757a92a6d8f1b91d56e4431bd1e47d46dfba6d182bb1c4506c4c67a1b", func := "loop.example/g00756/laws.FnExactEventsOf", spec := "fnExactEventsOf", apart := false, narrowed := true }
def FnExactEventsOfUptoSaid : Prop := fnExactEventsOfUptoRow.holds Try.pinned (OpenSpec.upto fnExactEventsOfSpec)

/-- 'laws.FnExactRunPool', WHERE WHAT IT READS IS OF BULK AT MOST 1048576: true; the input reads as it did. -/
def fnExactRunPoolUptoRow : OpenClaim := { program := "ytkchbabkbpcncaa", sum := "348de41757a92a6d8f1b91d56e4431bd1e47d46dfba6d182bb1c4506c4c67a1b", func := "loop.example/g00756/laws.FnExactRunPool", spec := "fnExactRunPool", apart := false, narrowed := true }
def FnExactRunPoolUptoSaid : Prop := fnExactRunPoolUptoRow.holds Try.pinned (OpenSpec.upto fnExactRunPoolSpec)

/-- 'laws.FnOrderly', WHERE WHAT IT READS IS OF BULK AT MOST 1048576: true; the input reads as it did. -/
def fnOrderlyUptoRow : OpenClaim := { program := "ytkchbabkbpcncaa", sum := "348de41757a92a6d8f1b91d56e4431bd1e47d46dfba6d182bb1c4506c4c67a1b", func := "loop.example/g00756/laws.FnOrderly", spec := "fnOrderly", apart := false, narrowed := true }
def FnOrderlyUptoSaid : Prop := fnOrderlyUptoRow.holds Try.pinned (OpenSpec.upto fnOrderlySpec)

/-- 'laws.FnExactTasksIn', WHERE WHAT IT READS IS OF BULK AT MOST 1048576: true; the input reads as it did. -/
def fnExactTasksInUptoRow : OpenClaim := { program := "ytkchbabkbpcncaa", sum := "348de41757a92a6d8f1b91d56e4431bd1e47d46dfba6d182bb1c4506c4c67a1b", func := "loop.example/g00756/laws.FnExactTasksIn", spec := "fnExactTasksIn", unfollowed := true, recurses := true, apart := false, narrowed := true }
def FnExactTasksInUptoSaid : Prop := fnExactTasksInUptoRow.holds Try.pinned (OpenSpec.upto fnExactTasksInSpec)

/-- 'laws.FnVictims', WHERE WHAT IT READS IS OF BULK AT MOST 1048576: true; the input reads as it did. -/
def fnVictimsUptoRow : OpenClaim := { program := "ytkchbabkbpcncaa", sum := "348de41757a92a6d8f1b91d56e4431bd1e47d46dfba6d182bb1c4506c4c67a1b", func := "loop.example/g00756/laws.FnVictims", spec := "fnVictims", unfollowed := true, recurses := true, apart := false, narrowed := true }
def FnVictimsUptoSaid : Prop := fnVictimsUptoRow.holds Try.pinned (OpenSpec.upto fnVictimsSpec)

/-- 'laws.FnDecks', WHERE WHAT IT READS IS OF BULK AT MOST 1048576: true; the input reads as it did. -/
def fnDecksUptoRow : OpenClaim := { program := "ytkchbabkbpcncaa", sum := "348de41757a92a6d8f1b91d56e4431bd1e47d46dfba6d182bb1c4506c4c67a1b", func := "loop.example/g00756/laws.FnDecks", spec := "fnDecks", unfollowed := true, recurses := true, apart := false, narrowed := true }
def FnDecksUptoSaid : Prop := fnDecksUptoRow.holds Try.pinned (OpenSpec.upto fnDecksSpec)

/-- 'laws.FnNeverIdle', WHERE WHAT IT READS IS OF BULK AT MOST 1048576: true; the input reads as it did. -/
def fnNeverIdleUptoRow : OpenClaim := { program := "ytkchbabkbpcncaa", sum := "348de41757a92a6d8f1b91d56e4431bd1e47d46dfba6d182bb1c4506c4c67a1b", func := "loop.example/g00756/laws.FnNeverIdle", spec := "fnNeverIdle", unfollowed := true, recurses := true, apart := false, narrowed := true }
def FnNeverIdleUptoSaid : Prop := fnNeverIdleUptoRow.holds Try.pinned (OpenSpec.upto fnNeverIdleSpec)

end Rows
end Go.Proofs.Ytkchbabkbpcncaa
