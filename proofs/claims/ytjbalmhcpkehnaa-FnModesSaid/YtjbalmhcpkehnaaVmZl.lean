/- A function that lays empty slices as objects: its machine knows the same callees. -/
import Derived.Test.YtjbalmhcpkehnaaVmZk
set_option linter.unusedSimpArgs false
set_option linter.unusedVariables false
namespace Go.VM
open Go.RowKit
section
variable {P : Program} {C D : Cfg}
theorem OwnOk.cfg (hD : D.ty = C.ty) {g : G} {w : World} {v : V} {rv : Value} (h : OwnOk C g w v rv) : OwnOk D g w v rv :=
 ⟨fun sz es e hv => by rw [hD]; exact h.own sz es e hv, fun cs hv i sz es e hc => by rw [hD]; exact h.agg cs hv i sz es e hc⟩
theorem ObR.cfg (hD : D.ty = C.ty) (hT : D.thaw = C.thaw) {g : G} {w : World} {ob : Ob} {x : Nat × Nat × Nat × Nat} (hr : ObR C g w ob x) : ObR D g w ob x := by
 obtain ⟨arr, cap, b1, b2, b3, b4, b5, b7, b6⟩ := hr.blk
 exact ⟨hr.ver, hr.esz, by rw [hD]; exact hr.ty, by rw [hD]; exact hr.known, ⟨arr, cap, by unfold Cfg.fz at *; rw [hT]; exact b1, b2, b3, b4, b5, b7, fun i e j c h1 h2 => by
  obtain ⟨rv, r1, r2, r3⟩ := b6 i e j c h1 h2
  exact ⟨rv, r1, r2, r3.cfg hD⟩⟩, hr.sz, hr.flat, hr.base, hr.nsusp, hr.nimm⟩
theorem Sim.cfg (hD : D.ty = C.ty) (hT : D.thaw = C.thaw) {g : G} {E : List V} {s : S} {a : Act} {w : World} (h : Sim C g E s a w) : Sim D g E s a w where
 len := h.len
 env := fun t v hv => by
  obtain ⟨rv, h1, h2, h3⟩ := h.env t v hv
  exact ⟨rv, h1, h2, h3.cfg hD⟩
 olen := h.olen
 obj := fun o ob ho => by
  obtain ⟨x, hx, hr⟩ := h.obj o ob ho
  exact ⟨x, hx, hr.cfg hD hT⟩
 gone := h.gone
 inj := h.inj
 own := h.own
 sub := h.sub
 immlt := h.immlt
 basele := h.basele
 susplt := h.susplt
theorem Za4.cfg (hD : D.ty = C.ty) (hT : D.thaw = C.thaw) {f : FuncId} {as : List V} {s s' : S} {v : V} (h : Za4 P C f as s v s') : Za4 P D f as s v s' := by
 obtain ⟨h1, h2, h3⟩ := h
 refine ⟨h1, h2, fun g w rvs keep hk hs hl ha => ?_⟩
 refine (h3 g w rvs keep hk (hs.cfg hD.symm hT.symm) hl ha).mono fun rv w' hw => ?_
 obtain ⟨g', k1, k2, k3⟩ := hw
 exact ⟨g', k1, k2.cfg hD hT, k3⟩
theorem ZgH.cfg (hD : D.ty = C.ty) {f : FuncId} {as : List V} {v : V} (h : ZgH P C f as v) : ZgH P D f as v := by
 obtain ⟨sz, es, e, h1, h2, h3, h4⟩ := h
 refine ⟨sz, es, e, h1, by rw [hD]; exact h2, by rw [hD]; exact h3, fun g w rvs q1 q2 q3 q4 => ?_⟩
 rw [hD]
 exact h4 g w rvs q1 q2 q3 q4
abbrev Cfg.thawed (C : Cfg) : Cfg := { C with thaw := true }
theorem Ok.thawed (h : Ok P C) : Ok P C.thawed :=
 ⟨fun t ht => by
  have q := h.ty t ht
  obtain ⟨i, z, k1, k2, k3, k4, k5, k6, k7, k8, k9⟩ := q.info
  exact ⟨⟨i, z, k1, k2, k3, k4, k5, k6, fun j c rv h1 h2 => by
   obtain ⟨m1, m2, m3⟩ := k7 j c rv h1 h2
   exact ⟨m1, fun g w => OwnOk.cfg (C := C) (D := C.thawed) rfl (m2 g w), m3⟩, k8, k9⟩, q.pos, q.bpos, q.zflat, q.shs, q.shl, q.elem, q.kind, q.str, q.bool, q.agg, q.allf, q.offs, q.fszs⟩, h.mixed, h.ftys⟩
end
end Go.VM
