/- Values told with other numbers of objects. -/
import Derived.Test.YtjbalmhcpkehnaaVmZf
set_option linter.unusedSimpArgs false
set_option linter.unusedVariables false
namespace Go.VM
open Go.RowKit Go.Lib
def rho0 (f : Nat → Option Nat) : V → V
 | .arr o ver off len => (match f o with | some o' => .arr o' ver off len | none => .dead)
 | .ptr o ver i j => (match f o with | some o' => .ptr o' ver i j | none => .dead)
 | .fn g caps => (match caps with
  | [] => .fn g []
  | _ :: _ => .dead)
 | .agg _ => .dead
 | .tuple _ => .dead
 | .cptr _ => .dead
 | v => v
def rhoC (f : Nat → Option Nat) : V → V
 | .fn g caps => .fn g (caps.map (rho0 f))
 | v => rho0 f v
def rho1 (f : Nat → Option Nat) : V → V
 | .agg cs => .agg (cs.map (rhoC f))
 | v => rhoC f v
def V.rho (f : Nat → Option Nat) : V → V
 | .tuple vs => .tuple (vs.map (rho1 f))
 | v => rho1 f v
def Ob.rho (f : Nat → Option Nat) (ob : Ob) : Ob := { ob with es := ob.es.map (rho1 f) }
structure StandsF (g g1 : G) (f : Nat → Option Nat) : Prop where
 imm : ∀ b i, g.imm b i → g1.imm b i
 safe : ∀ b i, g.safe b i → g1.safe b i
 at_ : ∀ i i', i < g.obs.length → f i = some i' → i' < g1.obs.length ∧ nth g1.obs i' = nth g.obs i
section
variable {P : Program} {C : Cfg} {g g1 : G} {w : World} {f : Nat → Option Nat}
theorem VR.rho0 (hs : Sub g) (hst : StandsF g g1 f) {v : V} {rv : Value} (h : VR g w v rv) : VR g1 w (Go.VM.rho0 f v) rv := by
 have dat : ∀ v rv, DR g w false v rv → VR g1 w (Go.VM.rho0 f v) rv := by
  intro v rv h
  cases h with
  | bool b => exact .data (.bool b)
  | int k m => exact .data (.int k m)
  | str s => exact .data (.str s)
  | nilp => exact .data .nilp
  | nilf => exact .data .nilf
  | nili => exact .data .nili
  | nils => exact .data .nils
  | fn f => exact .data (.fn f)
  | agg cs vs hl h => exact .dead _
  | tuple cs vs hl h => exact .dead _
  | list esz es f A m c b off cv hn hc hl hA hsz hf ho hw hd => exact .data ((DR.list esz es f A m c b off cv hn hc hl hA hsz hf ho hw hd).to hs hst.imm hst.safe)
 cases h with
 | data h => exact dat _ _ h
 | ptr i ver a b ad hi h =>
  simp only [Go.VM.rho0]
  cases hf : f i with
  | none => exact .dead _
  | some i' =>
   obtain ⟨h1, h2⟩ := hst.at_ i i' hi hf
   exact .ptr _ ver a b ad h1 fun x hx => h x (h2.symm.trans hx)
 | arr i ver off len A c hc hi h =>
  simp only [Go.VM.rho0]
  cases hf : f i with
  | none => exact .dead _
  | some i' =>
   obtain ⟨h1, h2⟩ := hst.at_ i i' hi hf
   exact .arr _ ver off len A c hc h1 fun x hx => h x (h2.symm.trans hx)
 | cptr cs b off cv ho hw hd => exact .dead _
 | agg cs vs hl h => exact .dead _
 | tuple cs vs hl h => exact .dead _
 | fn k cs vs hl h =>
  cases cs with
  | nil =>
   obtain rfl : vs = [] := List.eq_nil_of_length_eq_zero (by simpa using hl.symm)
   exact .fn k [] [] rfl fun i c v h1 => by simp [nth] at h1
  | cons => exact .dead _
 | dead rv => exact .dead _
theorem VR.rhoC (hs : Sub g) (hst : StandsF g g1 f) {v : V} {rv : Value} (h : VR g w v rv) : VR g1 w (Go.VM.rhoC f v) rv := by
 by_cases hfn : ∃ k caps, v = .fn k caps
 ·obtain ⟨k, caps, rfl⟩ := hfn
  obtain ⟨vs, rfl, hl, hc⟩ := h.fn_inv
  refine .fn k _ vs (by simp [hl]) fun i c u q1 q2 => ?_
  obtain ⟨c0, hc0, rfl⟩ := Zag q1
  exact (hc i c0 u hc0 q2).rho0 hs hst
 ·have : Go.VM.rhoC f v = Go.VM.rho0 f v := by
   cases v <;> first | rfl | exact absurd ⟨_, _, rfl⟩ hfn
  rw [this]
  exact h.rho0 hs hst
theorem VR.rho1 (hs : Sub g) (hst : StandsF g g1 f) {v : V} {rv : Value} (h : VR g w v rv) : VR g1 w (Go.VM.rho1 f v) rv := by
 by_cases hag : ∃ cs, v = .agg cs
 ·obtain ⟨cs, rfl⟩ := hag
  obtain ⟨vs, rfl, hl, hc⟩ := h.agg_inv
  refine .agg _ vs (by simp [hl]) fun i c u q1 q2 => ?_
  obtain ⟨c0, hc0, rfl⟩ := Zag q1
  exact (hc i c0 u hc0 q2).rhoC hs hst
 ·have : Go.VM.rho1 f v = Go.VM.rhoC f v := by
   cases v <;> first | rfl | exact absurd ⟨_, rfl⟩ hag
  rw [this]
  exact h.rhoC hs hst
theorem VR.rho (hs : Sub g) (hst : StandsF g g1 f) {v : V} {rv : Value} (h : VR g w v rv) : VR g1 w (v.rho f) rv := by
 by_cases hag : ∃ cs, v = .tuple cs
 ·obtain ⟨cs, rfl⟩ := hag
  obtain ⟨vs, rfl, hl, hc⟩ := h.tuple_inv
  refine .tuple _ vs (by simp [hl]) fun i c u q1 q2 => ?_
  obtain ⟨c0, hc0, rfl⟩ := Zag q1
  exact (hc i c0 u hc0 q2).rho1 hs hst
 ·have : v.rho f = Go.VM.rho1 f v := by
   cases v <;> first | rfl | exact absurd ⟨_, rfl⟩ hag
  rw [this]
  exact h.rho1 hs hst
theorem Znc {v : V} {sz : Nat} {es : List V} {l : Fl} (h : rho0 f v = .list sz es l) : v = .list sz es l := by
 cases v <;> simp only [rho0] at h <;> first | exact h | (cases h; done) | (split at h <;> cases h)
theorem ZcZ {v : V} {sz : Nat} {es : List V} {l : Fl} (h : rhoC f v = .list sz es l) : v = .list sz es l := by
 cases v <;> simp only [rhoC] at h <;> first | exact Znc h | cases h
theorem ZnT {v : V} {sz : Nat} {es : List V} {l : Fl} (h : rho1 f v = .list sz es l) : v = .list sz es l := by
 cases v <;> simp only [rho1] at h <;> first | exact ZcZ h | cases h
theorem Zm2 (v : V) : (rho0 f v).flatCell = true := by
 cases v <;> simp only [rho0] <;> first | rfl | (split <;> rfl)
theorem Zee (v : V) : (rhoC f v).flatCell = true := by
 cases v <;> simp only [rhoC] <;> first | rfl | exact Zm2 _
theorem Zgk {v : V} (hv : v.flatCell = true ∨ ∃ cs, v = .agg cs) : (rho1 f v).cells = v.cells.map (rhoC f) := by
 cases v with
 | agg cs => rfl
 | tuple vs => rcases hv with h | ⟨cs, h⟩ <;> cases h
 | arr o ver off len => simp only [rho1, rhoC, rho0]; split <;> simp [V.cells, rhoC, rho0, *]
 | ptr o ver i j => simp only [rho1, rhoC, rho0]; split <;> simp [V.cells, rhoC, rho0, *]
 | _ => rfl
theorem Zh4 {v : V} (h : v.still) : (v.rho f).still := by
 refine ⟨fun sz es e hv => ?_, fun cs hv i sz es e hc => ?_⟩
 ·by_cases ht : ∃ vs, v = .tuple vs
  ·obtain ⟨vs, rfl⟩ := ht
   cases hv
  ·have : v.rho f = Go.VM.rho1 f v := by
    cases v <;> first | rfl | exact absurd ⟨_, rfl⟩ ht
   rw [this] at hv
   exact h.1 sz es e (ZnT hv)
 ·by_cases ht : ∃ vs, v = .tuple vs
  ·obtain ⟨vs, rfl⟩ := ht
   cases hv
  ·have e1 : v.rho f = Go.VM.rho1 f v := by
    cases v <;> first | rfl | exact absurd ⟨_, rfl⟩ ht
   rw [e1] at hv
   by_cases hag : ∃ cs0, v = .agg cs0
   ·obtain ⟨cs0, rfl⟩ := hag
    simp only [Go.VM.rho1, V.agg.injEq] at hv
    subst hv
    obtain ⟨c0, hc0, hc1⟩ := Zag hc
    exact h.2 cs0 rfl i sz es e (by rw [← ZcZ hc1]; exact hc0)
   ·have e2 : Go.VM.rho1 f v = Go.VM.rhoC f v := by
     cases v <;> first | rfl | exact absurd ⟨_, rfl⟩ hag
    rw [e2] at hv
    have := Zee (f := f) v
    rw [hv] at this
    cases this
theorem Zdh {v : V} (h : Zbi v = true) : rhoC f v = v := by
 cases v <;> first | rfl | (cases h; done) | skip
 rename_i k caps
 cases caps with
 | nil => rfl
 | cons => cases h
theorem Zrv {ob : Ob} (h : Zbm ob.es = true) (hf : ∀ i e, nth ob.es i = some e → e.flatCell = true ∨ ∃ cs, e = .agg cs) : ob.rho f = ob := by
 unfold Ob.rho
 have : ob.es.map (Go.VM.rho1 f) = ob.es := by
  apply List.ext_getElem?
  intro i
  rw [List.getElem?_map]
  cases he : ob.es[i]? with
  | none => rfl
  | some e =>
   have he' : nth ob.es i = some e := by rw [Zac]; exact he
   show some _ = some _
   congr 1
   rcases hf i e he' with h1 | ⟨cs, rfl⟩
   ·have hc : nth e.cells 0 = some e := by
     cases e <;> first | rfl | (cases h1; done)
    have h2 := Zb6 h i e 0 e he' hc
    have : Go.VM.rho1 f e = Go.VM.rhoC f e := by cases e <;> first | rfl | (cases h1; done)
    rw [this, Zdh h2]
   ·show V.agg _ = V.agg _
    congr 1
    apply List.ext_getElem?
    intro j
    rw [List.getElem?_map]
    cases hj : cs[j]? with
    | none => rfl
    | some c =>
     have := Zb6 h i _ j c he' (by show nth cs j = some c; rw [Zac]; exact hj)
     show some _ = some _
     rw [Zdh this]
 rw [this]
end
end Go.VM
