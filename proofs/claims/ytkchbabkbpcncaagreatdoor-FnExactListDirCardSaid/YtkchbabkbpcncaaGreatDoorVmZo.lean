/- strings.Join, by its contract. -/
import Derived.Test.YtkchbabkbpcncaaGreatDoorVmZk
import Derived.Below
import Derived.Shelf.Strings.OnBuilder
set_option linter.unusedSimpArgs false
set_option linter.unusedVariables false
namespace Go.VM
open Go.RowKit Go.Lib
end Go.VM
set_option linter.unusedVariables false
namespace Go.VM
open Go.RowKit Go.Lib
def ZSH (C:Cfg) {R:Type} (g:FuncId) (fn:Func) (K:V → S → Option R):X → List V → S → Option R:=fun x E' s' =>
 match x with
 | .exit _=>none
 | _=>ZcT C s' E' fn.results.toList fun vs =>
  match C.mode g with
  | .pure=>ZbT false s' 12 (Zl6 vs) fun v=>ZBD C g (Zm3 (C.ownRet g) (Zl6 vs) v) fun v=>K v []
  | .shared | .fresh=>K (match Zl6 vs with | .tuple l=>.tuple (l.map V.noOwn) | v=>v.noOwn) s'
  | .own=>ZjA vs fun sz es e=>Zaj ((C.ty e).known && Nat.beq sz (C.ty e).size) (K (.list sz es (.own e)) [])
theorem ZDs {C:Cfg} {R:Type} {Φ:Zar} {Λ:Zax} {g:FuncId} {fn:Func} {args:List V} {s:S} {K:V → S → Option R} {c:Code} (h:fn.body = some c) :
  Za2 C Φ Λ g fn args s K = Zok C Φ Λ c [] (args ++ List.replicate (fn.ntmps - args.length) .dead) s (ZSH C g fn K):=by
 unfold Za2
 rw [h]
 rfl
end Go.VM
