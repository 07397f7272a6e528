/- A call whose new objects nobody needs any more. -/
import Derived.Test.YtjbalmhcpkehnaaVmZd
set_option linter.unusedSimpArgs false
set_option linter.unusedVariables false
namespace Go.VM
open Go.RowKit Go.Lib
section
variable {P : Program} {C : Cfg}
def trimR (n : Nat) : V → V
 | .tuple l => .tuple (l.map (trimV n))
 | v => trimV n v
theorem VR.trimR {g : G} {w : World} {v : V} {rv : Value} (hs : Sub g) (n : Nat) (h : VR g w v rv) : VR (g.trim n) w (Go.VM.trimR n v) rv := by
 cases v with
 | tuple l =>
  obtain ⟨vs, rfl, hl, hc⟩ := h.tuple_inv
  refine .tuple _ vs (by simp [hl]) fun i c u h1 h2 => ?_
  obtain ⟨c0, hc0, rfl⟩ := Zag h1
  exact (hc i c0 u hc0 h2).trimV hs n
 | _ => exact h.trimV hs n
theorem Zj1 {n : Nat} {v : V} (h : v.still) : (trimR n v).still := by
 refine ⟨fun sz es e hv => ?_, fun cs hv i sz es e hc => ?_⟩
 ·cases v with
  | tuple l => cases hv
  | _ => exact h.1 sz es e (Zes (n := n) hv)
 ·cases v with
  | agg cs0 =>
   simp only [trimR, trimV] at hv
   injection hv with hv
   subst hv
   obtain ⟨c0, hc0, hc1⟩ := Zag hc
   exact h.2 cs0 rfl i sz es e (by rw [hc0, Zb8 hc1])
  | arr => simp only [trimR, trimV, trimCell] at hv; split at hv <;> cases hv
  | ptr => simp only [trimR, trimV, trimCell] at hv; split at hv <;> cases hv
  | fn f caps => cases caps <;> cases hv
  | _ => cases hv
theorem Za4.trim {f : FuncId} {as : List V} {s s' : S} {v : V} (h : Za4 P C f as s v s') : Za4 P C f as s (trimR s.length v) (Zfr s.length s') := by
 obtain ⟨hst, hsl, hcall⟩ := h
 have hlen : (Zfr s.length s').length = s.length := by simp [Zfr]; omega
 refine ⟨Zj1 hst, by rw [hlen]; exact Nat.le_refl _, fun g w rvs keep hk hs hrl hargs => ?_⟩
 refine (hcall g w rvs keep hk hs hrl hargs).mono fun rv w' ⟨g', hle, hs', hv⟩ => ⟨g'.trim s.length, ?_, ?_, hv.trimR hs'.sub _⟩
 ·have hol := hs'.olen
  exact {
   keeps := ⟨hle.keeps.imm, hle.keeps.safe, hle.keeps.cell⟩
   size := hle.size
   os := hle.os
   tape := hle.tape
   output := hle.output
   base := hle.base
   susp := hle.susp
   low := hle.low
   sus := hle.sus
   klen := by simp only [G.trim, List.length_take]; omega
   obs := fun o ho x' hx => by
    refine hle.obs o ho x' ?_
    simp only [G.trim] at hx
    exact (Zbz hx).1 }
 ·have := hs'.trim s.length
  exact this
end
end Go.VM
