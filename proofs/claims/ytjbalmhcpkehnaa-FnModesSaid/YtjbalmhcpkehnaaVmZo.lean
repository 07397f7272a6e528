/- Long bodies in segments: the spine of a code, cut. -/
import Derived.Test.YtjbalmhcpkehnaaVmZn
set_option linter.unusedVariables false
namespace Go.VM
open Go.RowKit Go.Lib
def Zhi : Nat → Code → Code → Code
 | 0, _, T => T
 | n + 1, .seq a b, T => .seq a (Zhi n b T)
 | _ + 1, c, _ => c
def Zfn : Nat → Code → Code
 | 0, c => c
 | n + 1, .seq _ b => Zfn n b
 | _ + 1, c => c
theorem ZgQ (n : Nat) : ∀ c : Code, Zhi n c (Zfn n c) = c := by
 induction n with
 | zero => intro _; rfl
 | succ n ih =>
  intro c
  cases c <;> first | rfl | exact congrArg (Code.seq _) (ih _)
def Zrp (C : Cfg) {R : Type} (g : FuncId) (fn : Func) (K : V → S → Option R) : X → List V → S → Option R := fun x E' s' =>
 match x with
 | .exit _ => none
 | _ => Zb7 C s' E' fn.results.toList fun vs =>
  match C.mode g with
  | .pure => Zbo false s' 12 (Zho vs) fun v => ZnJ C g (Zi9 (C.ownRet g) (Zho vs) v) fun v => K v []
  | .shared => K (match Zho vs with | .tuple l => .tuple (l.map V.noOwn) | v => v.noOwn) s'
  | .own => Zj0 vs fun sz es e => Zal ((C.ty e).known && Nat.beq sz (C.ty e).size) (K (.list sz es (.own e)) [])
theorem ZnK {C : Cfg} {R : Type} {Φ : Zar} {Λ : ZaI} {g : FuncId} {fn : Func} {args : List V} {s : S} {K : V → S → Option R} {c : Code} (h : fn.body = some c) :
  Za9 C Φ Λ g fn args s K = ZfL C Φ Λ c [] (args ++ List.replicate (fn.ntmps - args.length) .dead) s (Zrp C g fn K) := by
 unfold Za9
 rw [h]
 rfl
end Go.VM
