/- Long bodies in segments: the spine of a code, cut. -/
import Derived.Test.YtfebgjdmddegjaaDoorVmZn
set_option linter.unusedVariables false
namespace Go.VM
open Go.RowKit Go.Lib
def Zfo : Nat → Code → Code → Code
 | 0, _, T => T
 | n + 1, .seq a b, T => .seq a (Zfo n b T)
 | _ + 1, c, _ => c
def Zcc : Nat → Code → Code
 | 0, c => c
 | n + 1, .seq _ b => Zcc n b
 | _ + 1, c => c
theorem ZdE (n : Nat) : ∀ c : Code, Zfo n c (Zcc n c) = c := by
 induction n with
 | zero => intro _; rfl
 | succ n ih =>
  intro c
  cases c <;> first | rfl | exact congrArg (Code.seq _) (ih _)
theorem Ze0 (n m q : Nat) (h : m + n = q) : ∀ c : Code, Zcc n (Zcc m c) = Zcc q c := by
 subst h
 induction m with
 | zero => intro c; rw [Nat.zero_add]; rfl
 | succ m ih =>
  intro c
  cases c <;> first
   | (rw [show m + 1 + n = (m + n) + 1 by omega]; exact ih _)
   | (rw [show m + 1 + n = (m + n) + 1 by omega]; cases n <;> rfl)
def ZpV (C : Cfg) {R : Type} (g : FuncId) (fn : Func) (K : V → S → Option R) : X → List V → S → Option R := fun x E' s' =>
 match x with
 | .exit _ => none
 | _ => Zck C s' E' fn.results.toList fun vs =>
  match C.mode g with
  | .pure => ZbL false s' 12 (Zhv vs) fun v => ZpY C g (Zie (C.ownRet g) (Zhv vs) v) fun v => K v []
  | .shared => K (match Zhv vs with | .tuple l => .tuple (l.map V.noOwn) | v => v.noOwn) s'
  | .own => ZfZ vs fun sz es e => Zak ((C.ty e).known && Nat.beq sz (C.ty e).size) (K (.list sz es (.own e)) [])
theorem ZrE {C : Cfg} {R : Type} {Φ : Zao} {Λ : ZaL} {g : FuncId} {fn : Func} {args : List V} {s : S} {K : V → S → Option R} {c : Code} (h : fn.body = some c) :
  ZaV C Φ Λ g fn args s K = ZeU C Φ Λ c [] (args ++ List.replicate (fn.ntmps - args.length) .dead) s (ZpV C g fn K) := by
 unfold ZaV
 rw [h]
 rfl
end Go.VM
