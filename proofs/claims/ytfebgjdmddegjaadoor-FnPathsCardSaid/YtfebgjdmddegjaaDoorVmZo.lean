/- Long bodies in segments: the spine of a code, cut. -/
import Derived.Test.YtfebgjdmddegjaaDoorVmZn
set_option linter.unusedVariables false
namespace Go.VM
open Go.RowKit Go.Lib
def Ziw : Nat → Code → Code → Code
 | 0, _, T => T
 | n + 1, .seq a b, T => .seq a (Ziw n b T)
 | _ + 1, c, _ => c
def Zhr : Nat → Code → Code
 | 0, c => c
 | n + 1, .seq _ b => Zhr n b
 | _ + 1, c => c
theorem ZjH (n : Nat) : ∀ c : Code, Ziw n c (Zhr n c) = c := by
 induction n with
 | zero => intro _; rfl
 | succ n ih =>
  intro c
  cases c <;> first | rfl | exact congrArg (Code.seq _) (ih _)
def Zza (C : Cfg) {R : Type} (g : FuncId) (fn : Func) (K : V → S → Option R) : X → List V → S → Option R := fun x E' s' =>
 match x with
 | .exit _ => none
 | _ => Zcm C s' E' fn.results.toList fun vs =>
  match C.mode g with
  | .pure => ZbU false s' 12 (ZhW vs) fun v => ZqH C g (ZjF (C.ownRet g) (ZhW vs) v) fun v => K v []
  | .shared => K (match ZhW vs with | .tuple l => .tuple (l.map V.noOwn) | v => v.noOwn) s'
  | .own => Zga vs fun sz es e => Zaj ((C.ty e).known && Nat.beq sz (C.ty e).size) (K (.list sz es (.own e)) [])
theorem Zut {C : Cfg} {R : Type} {Φ : Zan} {Λ : ZaH} {g : FuncId} {fn : Func} {args : List V} {s : S} {K : V → S → Option R} {c : Code} (h : fn.body = some c) :
  ZaS C Φ Λ g fn args s K = ZhT C Φ Λ c [] (args ++ List.replicate (fn.ntmps - args.length) .dead) s (Zza C g fn K) := by
 unfold ZaS
 rw [h]
 rfl
end Go.VM
