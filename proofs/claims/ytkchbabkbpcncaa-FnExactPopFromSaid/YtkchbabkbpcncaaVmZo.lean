/- strings.Join, by its contract. -/
import Derived.Test.YtkchbabkbpcncaaVmZk
import Derived.Below
import Derived.Shelf.Strings.OnBuilder
set_option linter.unusedSimpArgs false
set_option linter.unusedVariables false
namespace Go.VM
open Go.RowKit Go.Lib
end Go.VM
set_option linter.unusedVariables false
namespace Go.VM
open Go.RowKit Go.Lib
def Zxl (C:Cfg) {R:Type} (g:FuncId) (fn:Func) (K:V → S → Option R):X → List V → S → Option R:=fun x E' s' =>
 match x with
 | .exit _=>none
 | _=>Zcz C s' E' fn.results.toList fun vs =>
  match C.mode g with
  | .pure=>Zbg false s' 12 (ZhJ vs) fun v=>Zq0 C g (Zld (C.ownRet g) (ZhJ vs) v) fun v=>K v []
  | .shared | .fresh=>K (match ZhJ vs with | .tuple l=>.tuple (l.map V.noOwn) | v=>v.noOwn) s'
  | .own=>Zlp vs fun sz es e=>Zaf ((C.ty e).known && Nat.beq sz (C.ty e).size) (K (.list sz es (.own e)) [])
theorem Zq5 {C:Cfg} {R:Type} {Φ:Zat} {Λ:ZaB} {g:FuncId} {fn:Func} {args:List V} {s:S} {K:V → S → Option R} {c:Code} (h:fn.body = some c) :
  Zbw C Φ Λ g fn args s K = Zh2 C Φ Λ c [] (args ++ List.replicate (fn.ntmps - args.length) .dead) s (Zxl C g fn K):=by
 unfold Zbw
 rw [h]
 rfl
end Go.VM
