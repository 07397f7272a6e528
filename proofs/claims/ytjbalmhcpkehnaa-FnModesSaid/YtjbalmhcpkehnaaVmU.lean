/- Tables of callees; a law's call. -/
import Derived.Test.YtjbalmhcpkehnaaVmT
set_option linter.unusedSimpArgs false
set_option linter.unusedVariables false
namespace Go.VM
open Go.RowKit Go.Lib
def Zcl : Zar := fun _ _ _ _ _ => none
def Zar.add (Φ : Zar) (g : FuncId) (f : (R : Type) → List V → S → (V → S → Option R) → Option R) : Zar := fun R h as s K =>
 match Nat.beq h g with
 | true => f R as s K
 | false => Φ R h as s K
theorem ZcH (P : Program) (C : Cfg) : Zab P C Zcl := fun R f as s K r h => by cases h
section
variable {P : Program} {C : Cfg} {Φ : Zar} {Λ : ZaI}
theorem Zab.add_pure (hΦ : Zab P C Φ) {g : FuncId} {f : (R : Type) → List V → S → (V → S → Option R) → Option R} (hm : C.mode g = .pure)
  (h : ∀ (R : Type) (as : List V) (K : V → S → Option R) (r : R), f R as [] K = some r → ∃ v, K v [] = some r ∧ Zge P g as v) : Zab P C (Φ.add g f) := by
 intro R f' as s K r hr
 unfold Zar.add at hr
 split at hr
 ·rename_i hb
  obtain rfl := Nat.eq_of_beq_eq_true hb
  rw [hm]
  intro hs
  subst hs
  exact h R as K r hr
 ·exact hΦ R f' as s K r hr
theorem Zab.add_shared (hΦ : Zab P C Φ) {g : FuncId} {f : (R : Type) → List V → S → (V → S → Option R) → Option R} (hm : C.mode g = .shared)
  (h : ∀ (R : Type) (as : List V) (s : S) (K : V → S → Option R) (r : R), f R as s K = some r → ∃ v s', K v s' = some r ∧ Za4 P C g as s v s') : Zab P C (Φ.add g f) := by
 intro R f' as s K r hr
 unfold Zar.add at hr
 split at hr
 ·rename_i hb
  obtain rfl := Nat.eq_of_beq_eq_true hb
  rw [hm]
  exact h R as s K r hr
 ·exact hΦ R f' as s K r hr
theorem ZmU (hC : Ok P C) (hΦ : Zab P C Φ) {g : FuncId} {fn : Func} {c : Code} (hf : P.funcs[g]? = some fn) (hb : fn.body = some c)
  (hn : (fn.name == "runtime.NumGoroutine") = false) (hl : ZaY P C Λ c []) (hm : C.mode g = .pure) (ho : C.ownRet g = false) {as : List V}
  (h : Za9 C Φ Λ g fn as [] (fun v _ => some v) = some (.bool true)) {rvs : Array Value} {w : World} (hlen : as.length = rvs.size)
  (hargs : ∀ (i : Nat) (c : V) (rv : Value), nth as i = some c → rvs[i]? = some rv → (∀ g : G, (∀ b i, b < w.heap.size → g.safe b i) → DR g w true c rv) ∧ c.still) :
  Calls P g rvs w fun e w' => e = .returned (.bool true) ∧ w.heap.size ≤ w'.heap.size ∧ (∀ b, b < w.heap.size → w'.heap[b]? = w.heap[b]?) ∧ w'.os = w.os ∧ w'.tape = w.tape ∧ w'.output = w.output := by
 obtain ⟨v, h1, hst, h2⟩ := Zaz hC hΦ hf hb hn hl hm ho h
 have hv := Option.some.inj h1
 subst hv
 let gg : G := { base := 0, imm := fun b _ => b < w.heap.size, safe := fun b _ => b < w.heap.size, susp := fun _ => False, obs := [] }
 have h3 := h2 gg w rvs (fun _ _ h => h) (fun _ _ h => h) hlen fun i c rv hc hr => by
  obtain ⟨q1, q2⟩ := hargs i c rv hc hr
  exact ⟨(q1 gg fun _ _ h => h).lower, q2⟩
 have hcall : (callFunc g rvs).run P w = .ok (.enter g rvs) w := by
  have hn' : ¬ fn.name = "runtime.NumGoroutine" := by simpa using hn
  simp [callFunc, hf, hb, hn']
 have h4 := h3 { (default : Oper) with dst := some 0 } { tmps := #[undef], defers := [] } (fun a' w' => ∃ rv, a'.tmps[0]? = some rv ∧ (rv = .bool true ∧ w.heap.size ≤ w'.heap.size ∧ (∀ b, b < w.heap.size → w'.heap[b]? = w.heap[b]?) ∧ w'.os = w.os ∧ w'.tape = w.tape ∧ w'.output = w.output)) (fun _ _ _ => False)
  fun rv w' hw => by
   obtain ⟨k1, k2, k3, k4, k5, N, _, k7⟩ := hw
   refine ⟨rv, by simp [Act.put], ?_, k1, k2, k3, k4, k5⟩
   cases k7
   rfl
 rw [hcall, Oper.upon_enter] at h4
 refine h4.mono fun e w' he => ?_
 cases e with
 | returned rv =>
  simp only at he
  obtain ⟨rv', e1, e2, rest⟩ := he
  simp [Act.put] at e1
  subst e1
  exact ⟨by rw [e2], rest⟩
 | panicked chain => exact he.elim
 | outgrown =>
  exfalso
  simp only at he
  revert he
  unfold LetsOut
  intro he
  first | exact he | (obtain ⟨a, w, h⟩ := he; exact h) | (exact (he default w).elim) | (exact (he { tmps := #[], defers := [] } w).elim)
end
end Go.VM
