/- strings.IndexAny on ASCII bytes, by its contract. -/
import Derived.Test.YtjbalmhcpkehnaaVmZp
import Derived.Lib.IndexAny
set_option linter.unusedSimpArgs false
set_option linter.unusedVariables false
namespace Go.VM
open Go.RowKit Go.Lib
def ZmV (s : ByteArray) : Bool := s.data.toList.all fun b => decide (b.toNat < 128)
theorem Zih {s : ByteArray} (h : ZmV s = true) : ∀ (j : Nat) b, s.data.toList[j]? = some b → b.toNat < 128 := by
 intro j b hb
 exact of_decide_eq_true (List.all_eq_true.1 h b (List.mem_of_getElem? hb))
def Zef {R : Type} (s chars : ByteArray) (k : Int → Option R) : Option R :=
 if s.size < 4294967281 ∧ chars.size < 4294967281 ∧ ZmV s = true ∧ ZmV chars = true then k (Lib.indexAny s.data.toList chars.data.toList) else none
theorem ZfR {P : Program} {f : FuncId} {fn : Func} (hf : P.funcs[f]? = some fn) (hb : fn.body.isNone = false) (hname : (fn.name == "runtime.NumGoroutine") = false)
  (h1 : ∀ (s chars : ByteArray) (w : World), s.size < 4294967281 → chars.size < 4294967281 → (∀ (j : Nat) b, s.data.toList[j]? = some b → b.toNat < 128) → (∀ (j : Nat) b, chars.data.toList[j]? = some b → b.toNat < 128) →
   Calls P f #[.string s, .string chars] w fun e w' => e = .returned (.int .i64 (Lib.indexAny s.data.toList chars.data.toList)) ∧ Below w.heap.size w w')
  {R : Type} {s chars : ByteArray} {k : Int → Option R} {r : R} (h : Zef s chars k = some r) : ∃ v, k v = some r ∧ Zge P f [.str s, .str chars] (.int .i64 v) := by
 unfold Zef at h
 split at h
 ·rename_i hc
  refine ⟨_, h, by simp [V.still], fun g w rvs hs hi hl hargs => ?_⟩
  have hrv : ∃ a b, rvs = #[a, b] ∧ DR g w false (.str s) a ∧ DR g w false (.str chars) b := by
   match hq : rvs.toList, (by simpa using hl : 2 = rvs.toList.length) with
   | [a, b], _ =>
    have h0 : rvs[0]? = some a := by rw [← Array.getElem?_toList, hq]; rfl
    have h1 : rvs[1]? = some b := by rw [← Array.getElem?_toList, hq]; rfl
    exact ⟨a, b, by apply Array.ext'; simpa using hq, (hargs 0 _ a rfl h0).1, (hargs 1 _ b rfl h1).1⟩
   | [], h => simp at h
   | [_], h => simp at h
   | _ :: _ :: _ :: _, h => simp at h
  obtain ⟨a, b, rfl, ha, hb2⟩ := hrv
  cases ha
  cases hb2
  refine ZdN.of_calls hf hb hname ((h1 s chars w hc.1 hc.2.1 (Zih hc.2.2.1) (Zih hc.2.2.2)).mono fun e w' ⟨he, hbel⟩ => ⟨_, he, ?_⟩)
  exact ⟨hbel.size, hbel.block, hbel.os, hbel.tape, hbel.output, fun _ _ => False, fun _ _ h => h.elim, .int _ _⟩
 ·cases h
end Go.VM
