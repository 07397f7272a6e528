/- The arguments of a law, one by one, for its row. -/
import Derived.Test.YtjbalmhcpkehnaaVmZb
import Derived.Carry
import Derived.WideShapes
set_option linter.unusedSimpArgs false
set_option linter.unusedVariables false
namespace Go.VM
open Go.RowKit Go.Lib
def Zqi (W : World) (c : V) (v : Value) : Prop := (∀ g : G, (∀ b i, b < W.heap.size → g.safe b i) → DR g W true c v) ∧ c.still
theorem Zkw {P : Program} {W : World} {n : Nat} {t : TypeId} {v : Value} {H : Type} {enc : TypeId × Value → H} {base : Nat} {spare : Nat → Bool} {held : Bool} {d : DataW H} {ps : List MemPlace}
  (hc : v.cells.toList = [v]) (ho : Zjd P n t = true) (h : DataW.Trod enc P W base spare held t v d ps) : ∃ c, ZiR P n t [c] ∧ Zqi W c v := by
 obtain ⟨fuel, hf⟩ := h
 obtain ⟨cs, h1, h2⟩ := ZmP n t v.cells.toList ho ⟨H, enc, base, spare, held, fuel, _, hf⟩
 rw [hc] at h2
 obtain ⟨hl, ha⟩ := h2
 match cs, hl, h1, ha with
 | [c], _, h1, ha =>
  obtain ⟨_, q2, q3⟩ := ha 0 c v rfl rfl
  exact ⟨c, h1, q3, q2⟩
def Zg1 (W : World) : List V → List Value → Prop
 | [], [] => True
 | c :: cs, v :: vs => Zqi W c v ∧ Zg1 W cs vs
 | _, _ => False
theorem ZfS {W : World} : ∀ {cs : List V} {vs : List Value}, Zg1 W cs vs → cs.length = vs.length ∧ ∀ i c v, nth cs i = some c → nth vs i = some v → Zqi W c v
 | [], [], _ => ⟨rfl, fun i c v h => by simp [nth] at h⟩
 | c :: cs, v :: vs, h => by
  obtain ⟨h1, h2⟩ := ZfS h.2
  refine ⟨by simp [h1], fun i c' v' hc hv => ?_⟩
  cases i with
  | zero => simp only [nth] at hc hv; obtain rfl := Option.some.inj hc; obtain rfl := Option.some.inj hv; exact h.1
  | succ i => exact h2 i c' v' hc hv
 | [], _ :: _, h => h.elim
 | _ :: _, [], h => h.elim
theorem Zqn {P : Program} {C : Cfg} {Φ : Zar} {Λ : ZaI} (hC : Ok P C) (hΦ : Zab P C Φ) {g : FuncId} {fn : Func} {c : Code} (hf : P.funcs[g]? = some fn) (hb : fn.body = some c)
  (hn : (fn.name == "runtime.NumGoroutine") = false) (hl : ZaY P C Λ c []) (hm : C.mode g = .pure) (ho : C.ownRet g = false) {cs : List V} {rvs : List Value} {w : World}
  (h : Za9 C Φ Λ g fn cs [] (fun v _ => some v) = some (.bool true)) (ha : Zg1 w cs rvs) :
  Calls P g rvs.toArray w fun e w' => e = .returned (.bool true) ∧ Below w.heap.size w w' := by
 obtain ⟨h1, h2⟩ := ZfS ha
 refine (ZmU hC hΦ hf hb hn hl hm ho h (rvs := rvs.toArray) (by simpa using h1) fun i c rv hc hr => ?_).mono fun e w' he => ?_
 ·have hr' : nth rvs i = some rv := by rw [Zac]; simpa using hr
  exact h2 i c rv hc hr'
 ·obtain ⟨q1, q2, q3, q4, q5, q6⟩ := he
  exact ⟨q1, q4, q5, q6, q2, fun k hk => q3 k hk⟩
theorem ZlU {P : Program} {n : Nat} {t e : TypeId} {c : V} (ht : P.underlying t = some (.slice e)) (h : ZiR P (n + 1) t [c]) :
  ∃ es, c = .list (P.cellsOf e) es .sh ∧ es.length ≤ maxLen ∧ ∀ el ∈ es, ∃ ds, el = Zqo P e ds ∧ ZiR P n e ds := by
 unfold ZiR at h
 rw [ht] at h
 obtain ⟨es, h1, h2, h3⟩ := h
 injection h1 with h1 _
 exact ⟨es, h1, h2, h3⟩
theorem Zo5 {P : Program} {n : Nat} {t : TypeId} {k : IntKind} {cs : List V} (ht : P.underlying t = some (.int k)) (h : ZiR P (n + 1) t cs) : ∃ z, cs = [.int k z] ∧ (Lit.int k z).wf = true := by
 unfold ZiR at h
 rw [ht] at h
 exact h
theorem ZiM {P : Program} {n : Nat} {t e : TypeId} {k : IntKind} {c : V} (ht : P.underlying t = some (.slice e)) (he : P.underlying e = some (.int k)) (h1 : P.cellsOf e = 1) (h : ZiR P (n + 2) t [c]) :
  ∃ xs : List Int, c = .list 1 (xs.map (V.int k)) .sh ∧ xs.length ≤ maxLen ∧ ∀ x ∈ xs, (Lit.int k x).wf = true := by
 obtain ⟨es, rfl, hl, hel⟩ := ZlU ht h
 rw [h1]
 have each : ∀ el ∈ es, ∃ z, el = V.int k z ∧ (Lit.int k z).wf = true := fun el hm => by
  obtain ⟨ds, rfl, hd⟩ := hel el hm
  obtain ⟨z, rfl, hz⟩ := Zo5 he hd
  exact ⟨z, by simp [Zqo, he, Zho], hz⟩
 clear hel h
 suffices ∃ xs : List Int, es = xs.map (V.int k) ∧ ∀ x ∈ xs, (Lit.int k x).wf = true by
  obtain ⟨xs, rfl, hx⟩ := this
  exact ⟨xs, rfl, by simpa using hl, hx⟩
 clear hl
 induction es with
 | nil => exact ⟨[], rfl, by simp⟩
 | cons el es ih =>
  obtain ⟨z, rfl, hz⟩ := each el (by simp)
  obtain ⟨xs, rfl, hx⟩ := ih fun el hm => each el (by simp [hm])
  exact ⟨z :: xs, rfl, by intro x hm; rcases List.mem_cons.1 hm with rfl | hm; exact hz; exact hx x hm⟩
theorem Zte {z : Int} (h : (Lit.int .u8 z).wf = true) : 0 ≤ z ∧ z < 256 := by
 have : IntKind.u8.min ≤ z ∧ z ≤ IntKind.u8.max := by simpa [Lit.wf] using h
 have h1 : IntKind.u8.min = 0 := rfl
 have h2 : IntKind.u8.max = 255 := rfl
 omega
end Go.VM
