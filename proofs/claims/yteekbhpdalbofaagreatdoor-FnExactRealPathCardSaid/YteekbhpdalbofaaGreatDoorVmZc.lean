/- The arguments of a law, one by one, for its row. -/
import Derived.Test.YteekbhpdalbofaaGreatDoorVmZb
import Derived.Carry
import Derived.WideShapes
set_option linter.unusedSimpArgs false
set_option linter.unusedVariables false
namespace Go.VM
open Go.RowKit Go.Lib
def ZGy (W : World) (c : V) (v : Value) : Prop := (∀ g : G, (∀ b i, b < W.heap.size → g.safe b i) → DR g W true c v) ∧ c.still
theorem ZEk {P : Program} {W : World} {n : Nat} {t : TypeId} {v : Value} {H : Type} {enc : TypeId × Value → H} {base : Nat} {spare : Nat → Bool} {held : Bool} {d : DataW H} {ps : List MemPlace}
  (hc : v.cells.toList = [v]) (ho : opens P n t = true) (h : DataW.Trod enc P W base spare held t v d ps) : ∃ c, Ze9 P n t [c] ∧ ZGy W c v := by
 obtain ⟨fuel, hf⟩ := h
 obtain ⟨cs, h1, h2⟩ := Zup n t v.cells.toList ho ⟨H, enc, base, spare, held, fuel, _, hf⟩
 rw [hc] at h2
 obtain ⟨hl, ha⟩ := h2
 match cs, hl, h1, ha with
 | [c], _, h1, ha =>
  obtain ⟨_, q2, q3⟩ := ha 0 c v rfl rfl
  exact ⟨c, h1, q3, q2⟩
theorem Zfg {P : Program} {W : World} {n : Nat} {t : TypeId} {vs : List Value} {H : Type} {enc : TypeId × Value → H} {base : Nat} {spare : Nat → Bool} {held : Bool} {d : DataW H} {ps : List MemPlace}
  (ho : opens P n t = true) (h : DataW.Trod enc P W base spare held t (.agg vs.toArray) d ps) : ∃ cs, Ze9 P n t cs ∧ ZGy W (.agg cs) (.agg vs.toArray) := by
 obtain ⟨fuel, hf⟩ := h
 obtain ⟨cs, h1, h2⟩ := Zup n t _ ho ⟨H, enc, base, spare, held, fuel, _, hf⟩
 have hcl : (Value.agg vs.toArray).cells.toList = vs := by simp [Value.cells]
 rw [hcl] at h2
 obtain ⟨hl, ha⟩ := h2
 refine ⟨cs, h1, fun g hg => .agg cs vs hl fun i c u h3 h4 => (ha i c u h3 h4).2.2 g hg, ?_⟩
 refine ⟨fun sz es e h => (by cases h), fun cs' hcs i sz es e hc => ?_⟩
 injection hcs with hcs
 subst hcs
 have hlt : i < vs.length := by rw [← hl]; exact ZaS hc
 exact (ha i _ vs[i] hc (by rw [Zal, List.getElem?_eq_getElem hlt])).2.1.1 sz es e rfl
def Zm8 (W : World) : List V → List Value → Prop
 | [], [] => True
 | c :: cs, v :: vs => ZGy W c v ∧ Zm8 W cs vs
 | _, _ => False
theorem ZkX {W : World} : ∀ {cs : List V} {vs : List Value}, Zm8 W cs vs → cs.length = vs.length ∧ ∀ i c v, nth cs i = some c → nth vs i = some v → ZGy W c v
 | [], [], _ => ⟨rfl, fun i c v h => by simp [nth] at h⟩
 | c :: cs, v :: vs, h => by
  obtain ⟨h1, h2⟩ := ZkX h.2
  refine ⟨by simp [h1], fun i c' v' hc hv => ?_⟩
  cases i with
  | zero => simp only [nth] at hc hv; obtain rfl := Option.some.inj hc; obtain rfl := Option.some.inj hv; exact h.1
  | succ i => exact h2 i c' v' hc hv
 | [], _ :: _, h => h.elim
 | _ :: _, [], h => h.elim
theorem ZIp {P : Program} {C : Cfg} {Φ : Zar} {Λ : ZaA} (hC : Ok P C) (hΦ : Zaa P C Φ) {g : FuncId} {fn : Func} {c : Code} (hf : P.funcs[g]? = some fn) (hb : fn.body = some c)
  (hn : (fn.name == "runtime.NumGoroutine") = false) (hl : ZaV P C Λ c []) (hm : C.mode g = .pure) (ho : C.ownRet g = false) {cs : List V} {rvs : List Value} {w : World}
  (h : Za0 C Φ Λ g fn cs [] (fun v _ => some v) = some (.bool true)) (ha : Zm8 w cs rvs) :
  Calls P g rvs.toArray w fun e w' => e = .returned (.bool true) ∧ Below w.heap.size w w' := by
 obtain ⟨h1, h2⟩ := ZkX ha
 refine (ZBO hC hΦ hf hb hn hl hm ho h (rvs := rvs.toArray) (by simpa using h1) fun i c rv hc hr => ?_).mono fun e w' he => ?_
 ·have hr' : nth rvs i = some rv := by rw [Zal]; simpa using hr
  exact h2 i c rv hc hr'
 ·obtain ⟨q1, q2, q3, q4, q5, q6⟩ := he
  exact ⟨q1, q4, q5, q6, q2, fun k hk => q3 k hk⟩
theorem Zxu {P : Program} {n : Nat} {t e : TypeId} {c : V} (ht : P.underlying t = some (.slice e)) (h : Ze9 P (n + 1) t [c]) :
  ∃ es, c = .list (P.cellsOf e) es .sh ∧ es.length ≤ maxLen ∧ ∀ el ∈ es, ∃ ds, el = ZIF P e ds ∧ Ze9 P n e ds := by
 unfold Ze9 at h
 rw [ht] at h
 obtain ⟨es, h1, h2, h3⟩ := h
 injection h1 with h1 _
 exact ⟨es, h1, h2, h3⟩
theorem ZE6 {P : Program} {n : Nat} {t : TypeId} {k : IntKind} {cs : List V} (ht : P.underlying t = some (.int k)) (h : Ze9 P (n + 1) t cs) : ∃ z, cs = [.int k z] ∧ (Lit.int k z).wf = true := by
 unfold Ze9 at h
 rw [ht] at h
 exact h
theorem Zka {P : Program} {n : Nat} {t : TypeId} {cs : List V} (ht : P.underlying t = some .string) (h : Ze9 P (n + 1) t cs) : ∃ s, cs = [.str s] ∧ s.size ≤ maxLen := by
 unfold Ze9 at h
 rw [ht] at h
 exact h
end Go.VM
