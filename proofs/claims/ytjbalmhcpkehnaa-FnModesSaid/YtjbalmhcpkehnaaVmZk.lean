/- Functions without a body, by the model's own entries. -/
import Derived.Test.YtjbalmhcpkehnaaVmZj
import Derived.Lib.Bytealg
import Derived.Laws.AppendOwn
set_option linter.unusedSimpArgs false
set_option linter.unusedVariables false
namespace Go.VM
open Go.RowKit Go.Lib
section
variable {P : Program}
theorem ZdN.of_extern {f : FuncId} {fn : Func} {e : Array Value → Sem Value} {rvs : Array Value} {w : World} {v : Value} {T : Value → World → Prop} (hf : P.funcs[f]? = some fn) (hname : (fn.name == "runtime.NumGoroutine") = false)
  (hb : fn.body.isNone = true) (hn : Extern.findNext fn = none) (he : Extern.find fn = some e) (hr : (e rvs).run P w = .ok v w) (hT : T v w) : ZdN P f rvs w T := by
 intro o a next Q hnext
 rw [run_callFunc_extern hf hname hb hn he, hr]
 simp only [Result.andThen]
 rw [Oper.upon_value]
 exact hnext v w hT
theorem ZiE {f : FuncId} {fn : Func} {e : Array Value → Sem Value} (hf : P.funcs[f]? = some fn) (hname : (fn.name == "runtime.NumGoroutine") = false)
  (hb : fn.body.isNone = true) (hn : Extern.findNext fn = none) (he : Extern.find fn = some e) {s : ByteArray} {c n : Int} (hr : ∀ w, (e #[.string s, .int .u8 c]).run P w = .ok (.int .i64 n) w) : Zge P f [.str s, .int .u8 c] (.int .i64 n) := by
 refine ⟨by simp [V.still], fun g w rvs hs hi hl hargs => ?_⟩
 have hrv : rvs = #[.string s, .int .u8 c] := by
  apply Array.ext'
  match hq : rvs.toList, (by simpa using hl : 2 = rvs.toList.length) with
  | [a, b], _ =>
   have h0 : rvs[0]? = some a := by rw [← Array.getElem?_toList, hq]; rfl
   have h1 : rvs[1]? = some b := by rw [← Array.getElem?_toList, hq]; rfl
   have e0 := (hargs 0 _ a rfl h0).1
   have e1 := (hargs 1 _ b rfl h1).1
   cases e0
   cases e1
   rfl
  | [], h => simp at h
  | [_], h => simp at h
  | _ :: _ :: _ :: _, h => simp at h
 subst hrv
 exact ZdN.of_extern hf hname hb hn he (hr w) ⟨Nat.le_refl _, fun _ _ => rfl, rfl, rfl, rfl, fun _ _ => False, fun _ _ h => h.elim, .int .i64 n⟩
theorem Zdd {f : FuncId} {fn : Func} (hf : P.funcs[f]? = some fn) (hname : (fn.name == "runtime.NumGoroutine") = false)
  (hb : fn.body.isNone = true) (hn : Extern.findNext fn = none) (he : Extern.find fn = some Extern.BytealgIndexByte.indexByte) (s : ByteArray) (c : Int) : Zge P f [.str s, .int .u8 c] (.int .i64 (Lib.indexByte s.data.toList c.toNat.toUInt8)) :=
 ZiE hf hname hb hn he fun w => run_indexByteString s c w
end
end Go.VM
