/- strings.Join, by its contract. -/
import Derived.Test.YtkchbabkbpcncaaVmZk
import Derived.Below
import Derived.Shelf.Strings.OnBuilder
set_option linter.unusedSimpArgs false
set_option linter.unusedVariables false
namespace Go.VM
open Go.RowKit Go.Lib
end Go.VM
set_option linter.unusedVariables false
namespace Go.VM
open Go.RowKit Go.Lib
def Zya (C:Cfg) {R:Type} (g:FuncId) (fn:Func) (K:V → S → Option R):X → List V → S → Option R:=fun x E' s' =>
 match x with
 | .exit _=>none
 | _=>ZcC C s' E' fn.results.toList fun vs =>
  match C.mode g with
  | .pure=>Zbj false s' 12 (ZhS vs) fun v=>ZsG C g (Zmp (C.ownRet g) (ZhS vs) v) fun v=>K v []
  | .shared | .fresh=>K (match ZhS vs with | .tuple l=>.tuple (l.map V.noOwn) | v=>v.noOwn) s'
  | .own=>Zmx vs fun sz es e=>Zag ((C.ty e).known && Nat.beq sz (C.ty e).size) (K (.list sz es (.own e)) [])
theorem ZrM {C:Cfg} {R:Type} {Φ:Zat} {Λ:ZaB} {g:FuncId} {fn:Func} {args:List V} {s:S} {K:V → S → Option R} {c:Code} (h:fn.body = some c) :
  Zbw C Φ Λ g fn args s K = ZiQ C Φ Λ c [] (args ++ List.replicate (fn.ntmps - args.length) .dead) s (Zya C g fn K):=by
 unfold Zbw
 rw [h]
 rfl
end Go.VM
