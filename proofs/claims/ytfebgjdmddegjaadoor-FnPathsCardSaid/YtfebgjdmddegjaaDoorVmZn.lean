/- slices.Reverse of texts, by its contract: on an object of any version. -/
import Derived.Test.YtfebgjdmddegjaaDoorVmZm
import Derived.Shelf.Slices.ReverseS
set_option linter.unusedSimpArgs false
set_option linter.unusedVariables false
namespace Go.VM
open Go.RowKit Go.Lib
def Zuu {R : Type} (es : List V) (sep : ByteArray) (k : ByteArray → Option R) : Option R :=
 match Zdq es with
 | some xs => if xs.length ≤ 140737488355328 ∧ (Lib.join (xs.map (·.data.toList)) sep.data.toList).length ≤ 140737488355328 then k ⟨(Lib.join (xs.map (·.data.toList)) sep.data.toList).toArray⟩ else none
 | none => none
theorem Zsb {P : Program} {f : FuncId} {fn : Func} (hf : P.funcs[f]? = some fn) (hb : fn.body.isNone = false) (hname : (fn.name == "runtime.NumGoroutine") = false)
  (h0 : ∀ (a : Option Addr) (c : Nat) (sep : ByteArray) (w : World), Calls P f #[.slice a 0 c, .string sep] w fun e w' => e = .returned (.string ⟨#[]⟩) ∧ w' = w)
  (h1 : ∀ (bk o c : Nat) (xs : List ByteArray) (sep : ByteArray) (w : World), (∀ (j : Nat) x, xs[j]? = some x → w.cell? ⟨bk, o + j, none⟩ = some (.string x)) → bk < w.heap.size → xs.length ≤ 140737488355328 → xs.length ≤ c →
   (Lib.join (xs.map (·.data.toList)) sep.data.toList).length ≤ 140737488355328 →
   Calls P f #[.slice (some ⟨bk, o, none⟩) xs.length c, .string sep] w fun e w' => e = .returned (.string ⟨(Lib.join (xs.map (·.data.toList)) sep.data.toList).toArray⟩) ∧ Below w.heap.size w w')
  {R : Type} {es : List V} {fl : Fl} {sep : ByteArray} {k : ByteArray → Option R} {r : R} (h : Zuu es sep k = some r) : ∃ v, k v = some r ∧ ZdU P f [.list 1 es fl, .str sep] (.str v) := by
 unfold Zuu at h
 cases hx : Zdq es with
 | none => rw [hx] at h; cases h
 | some xs =>
  rw [hx] at h
  simp only at h
  split at h
  ·rename_i hc
   exact ⟨_, h, ZtK hf hb hname h0 h1 hx hc.1 hc.2⟩
  ·cases h
end Go.VM
