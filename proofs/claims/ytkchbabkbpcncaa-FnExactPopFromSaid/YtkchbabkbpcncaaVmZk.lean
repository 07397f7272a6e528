/- Functions without a body, by the model's own entries. -/
import Derived.Test.YtkchbabkbpcncaaVmZj
import Derived.Lib.Bytealg
import Derived.Laws.AppendOwn
set_option linter.unusedSimpArgs false
set_option linter.unusedVariables false
namespace Go.VM
open Go.RowKit Go.Lib
section
variable {P:Program}
theorem ZoO {C : Cfg} (hC : Ok P C) {f : FuncId} {fn : Func} {e : TypeId} (hke : (C.ty e).known = true) (hf : P.funcs[f]? = some fn) (hb : fn.body.isNone = false) (hname : (fn.name == "runtime.NumGoroutine") = false)
  (h0:∀ w,Calls P f #[.slice none 0 0,.int .i64 0] w fun ev w'=>ev = .returned (.slice none 0 0) ∧ w' = w)
  (h1:∀ w (n:Nat) (i0:TypeInfo) (z:Value),0 < n → P.info? e = some i0 → i0.zero = some z → 0 < i0.size → n * i0.bytes ≤ 140737488355328 → n ≤ 4611686018427387904 →
   Calls P f #[.slice none 0 0,.int .i64 n] w fun ev w'=>ev = .returned (.slice (some ⟨w.heap.size,0,none⟩) 0 (grownCap w n 0 e)) ∧
    w' = w.drew.alloc (.cells (Builtin.zeroCells z.cells n ++ Builtin.zeroCells z.cells (grownCap w n 0 e - n)) e))
  {B sz:Nat} (hB:(C.ty e).bytes = B) (hSz:(C.ty e).size = sz) {x:Int} (hx:0 ≤ x ∧ x * (B:Nat) ≤ 140737488355328):Zfz P C f [.nils,.int .i64 x] (.list sz [] (.own e)):=by
 subst hB hSz
 refine ⟨_,_,e,rfl,hke,rfl,fun g w rvs hs hi hl hargs=>?_⟩
 obtain ⟨n,rfl⟩:∃ n:Nat,x = (n:Int):=⟨x.toNat,by omega⟩
 have hrv:rvs = #[.slice none 0 0,.int .i64 n]:=by
  apply Array.ext'
  match hq:rvs.toList,(by simpa using hl:2 = rvs.toList.length) with
  | [a,b],_ =>
   have h0:rvs[0]? = some a:=by rw [← Array.getElem?_toList,hq]; rfl
   have h1:rvs[1]? = some b:=by rw [← Array.getElem?_toList,hq]; rfl
   have e0:=(hargs 0 _ a rfl h0).1
   have e1:=(hargs 1 _ b rfl h1).1
   cases e0
   cases e1
   rfl
  | [],h=>simp at h
  | [_],h=>simp at h
  | _ :: _ :: _ :: _,h=>simp at h
 subst hrv
 have hdr:∀ rv w',DR (g.more fun _ _=>False) w' true (.list (C.ty e).size [] (.own e)) (.slice rv 0 0):=fun rv w' =>
  .list _ [] _ rv 0 0 0 0 (fun _ _=>undef) rfl (Nat.le_refl _) (fun h=>by cases h) (.inl rfl) (fun i e h=>by simp [nth] at h) (fun i e j x h=>by simp [nth] at h) (fun i e j x h=>by simp [nth] at h) (fun i e j x h=>by simp [nth] at h) (fun i e j x h=>by simp [nth] at h)
 refine Zft.of_calls hf hb hname ?_
 by_cases hn:n = 0
 ·subst hn
  refine (h0 w).mono fun ev w' ⟨h2,h3⟩=>?_
  subst h3
  exact ⟨_,h2,Nat.le_refl _,fun _ _=>rfl,rfl,rfl,rfl,fun _ _=>False,fun _ _ h=>h.elim,hdr _ _,⟨[],by rw [List.length_nil,List.length_nil,Nat.zero_mul],.inl ⟨rfl,rfl⟩⟩,fun b hb=>by cases hb⟩
 ·obtain ⟨i0,z,hi0,hsz,hby,hz0,hzs,_⟩:=(hC.ty e hke).info
  have hpos:=(hC.ty e hke).pos
  have hbp:=(hC.ty e hke).bpos
  have hb2:n * i0.bytes ≤ 140737488355328:=by
   rw [hby]
   have:=hx.2
   rw [← Int.natCast_mul] at this
   exact Int.ofNat_le.1 this
  have hn2:n ≤ 140737488355328:=by
   have h4:1 ≤ i0.bytes:=by rw [hby]; exact hbp
   have:n * 1 ≤ n * i0.bytes:=Nat.mul_le_mul_left _ h4
   rw [Nat.mul_one] at this
   exact Nat.le_trans this hb2
  refine (h1 w n i0 z (by omega) hi0 hz0 (by omega) hb2 (by omega)).mono fun ev w' ⟨h2,h3⟩=>?_
  subst h3
  have hge:=grownCap_ge w n 0 e
  have hsize:∀ ob,w.heap.size ≤ (w.drew.alloc ob).heap.size:=fun ob=>by
   show w.heap.size ≤ (w.heap.push ob).size
   rw [Array.size_push]; omega
  refine ⟨_,h2,hsize _,fun b hb'=>ZcJ w.drew _ hb',rfl,rfl,rfl,fun _ _=>False,fun _ _ h=>h.elim,?_,⟨[],by rw [List.length_nil,List.length_nil,Nat.zero_mul],.inr ⟨w.heap.size,grownCap w n 0 e,Builtin.zeroCells z.cells n ++ Builtin.zeroCells z.cells (grownCap w n 0 e - n),rfl,Nat.le_refl _,Zb5 w.drew _,Nat.zero_le _,grownCap_le_maxLen w _ 0 e (by unfold maxLen; omega),?_,by rw [List.length_nil,Nat.zero_mul,List.take_zero]⟩⟩,fun b hb i _ h=>h⟩
  ·exact .list _ [] _ _ 0 _ 0 0 (fun _ _=>undef) rfl (by omega) (fun h=>by cases h) (.inl rfl) (fun i e h=>by simp [nth] at h) (fun i e j x h=>by simp [nth] at h) (fun i e j x h=>by simp [nth] at h) (fun i e j x h=>by simp [nth] at h) (fun i e j x h=>by simp [nth] at h)
  ·rw [Array.size_append,size_zeroCells,size_zeroCells,hzs,← Nat.add_mul]
   congr 1
   omega
end
end Go.VM
set_option linter.unusedSimpArgs false
set_option linter.unusedVariables false
namespace Go.VM
open Go.RowKit
abbrev Cfg.objs (C:Cfg):Cfg:={ C with objAll:=true }
section
variable {P:Program} {C D:Cfg}
theorem UniOk.cfg (hD:D.ty = C.ty) (hT:D.thaw = C.thaw) {g:G} {w:World} {t:TypeId} {sz:Nat} {es:List V} {rv:Value} (h:UniOk C g w t sz es rv):UniOk D g w t sz es rv where
 known:=by rw [hD]; exact h.known
 size:=by rw [hD]; exact h.size
 esz:=h.esz
 scal:=h.scal
 row:=by
  have hz:∀ v n,D.fz v n = C.fz v n:=fun v n=>by unfold Cfg.fz; rw [hT]
  rcases h.row with h1 | ⟨blk,bo,cap,c,cur,q1,q2,q3,q4⟩
  ·exact .inl h1
  ·exact .inr ⟨blk,bo,cap,c,cur,q1,q2,by rw [hz]; exact q3,q4⟩
 blk:=h.blk
theorem OwnOk.cfg (hD:D.ty = C.ty) (hT:D.thaw = C.thaw) {g:G} {w:World} {v:V} {rv:Value} (h:OwnOk C g w v rv):OwnOk D g w v rv :=
 ⟨fun sz es e hv=>by rw [hD]; exact h.own sz es e hv,fun cs hv i sz es e hc=>by rw [hD]; exact h.agg cs hv i sz es e hc,fun t sz es hv=>(h.uni t sz es hv).cfg hD hT⟩
theorem ObR.cfg (hD:D.ty = C.ty) (hT:D.thaw = C.thaw) {g:G} {w:World} {ob:Ob} {x:OX} (hr:ObR C g w ob x):ObR D g w ob x:=by
 obtain ⟨arr,cap,b1,b2,b3,b4,b5,b7,b6⟩:=hr.blk
 exact ⟨hr.ver,hr.esz,by rw [hD]; exact hr.ty,by rw [hD]; exact hr.known,⟨arr,cap,by unfold Cfg.fz at *; rw [hT]; exact b1,b2,b3,b4,b5,b7,fun i e j c h1 h2=>by
  obtain ⟨rv,r1,r2,r3⟩:=b6 i e j c h1 h2
  exact ⟨rv,r1,r2,r3.cfg hD hT⟩⟩,hr.sz,hr.flat,hr.base,hr.nsusp,hr.nimm⟩
theorem Sim.cfg (hD:D.ty = C.ty) (hT:D.thaw = C.thaw) {g:G} {E:List V} {s:S} {a:Act} {w:World} (h:Sim C g E s a w):Sim D g E s a w where
 len:=h.len
 env:=fun t v hv=>by
  obtain ⟨rv,h1,h2,h3⟩:=h.env t v hv
  exact ⟨rv,h1,h2,h3.cfg hD hT⟩
 olen:=h.olen
 obj:=fun o ob ho=>by
  obtain ⟨x,hx,hr⟩:=h.obj o ob ho
  exact ⟨x,hx,hr.cfg hD hT⟩
 gone:=h.gone
 inj:=h.inj
 own:=h.own
 sub:=h.sub
 immlt:=h.immlt
 basele:=h.basele
 susplt:=h.susplt
theorem ZaW.cfg (hD:D.ty = C.ty) (hT:D.thaw = C.thaw) {f:FuncId} {as:List V} {s s':S} {v:V} (h:ZaW P C f as s v s'):ZaW P D f as s v s':=by
 obtain ⟨h1,h2,h3⟩:=h
 refine ⟨h1,h2,fun g w rvs keep hk hs hl ha=>?_⟩
 refine (h3 g w rvs keep hk (hs.cfg hD.symm hT.symm) hl ha).mono fun rv w' hw=>?_
 obtain ⟨g',k1,k2,k3⟩:=hw
 exact ⟨g',k1,k2.cfg hD hT,k3⟩
theorem Zfz.cfg (hD:D.ty = C.ty) {f:FuncId} {as:List V} {v:V} (h:Zfz P C f as v):Zfz P D f as v:=by
 obtain ⟨sz,es,e,h1,h2,h3,h4⟩:=h
 refine ⟨sz,es,e,h1,by rw [hD]; exact h2,by rw [hD]; exact h3,fun g w rvs q1 q2 q3 q4=>?_⟩
 rw [hD]
 exact h4 g w rvs q1 q2 q3 q4
theorem ZcK.cfg (hD:D.ty = C.ty) (hT:D.thaw = C.thaw) (hr:D.rl = C.rl) {f:FuncId} {as:List V} {s':S} {v:V} (h:ZcK P C f as v s'):ZcK P D f as v s' :=
 ⟨h.1,fun o ob ho=>⟨(h.2.1 o ob ho).1,fun k=>(h.2.1 o ob ho).2 (by rw [← hr]; exact k)⟩,h.2.2.cfg hD hT⟩
theorem Zab.cfg (hD:D.ty = C.ty) (hT:D.thaw = C.thaw) (hr:D.rl = C.rl) (hmo:D.mode = C.mode) {Φ:Zat} (h:Zab P C Φ):Zab P D Φ:=by
 intro R f as s K r hr'
 have h1:=h R f as s K r hr'
 rw [hmo]
 cases hm:C.mode f with
 | pure=>rw [hm] at h1; exact h1
 | shared =>
  rw [hm] at h1
  obtain ⟨v,s',q1,q2⟩:=h1
  exact ⟨v,s',q1,q2.cfg hD hT⟩
 | own =>
  rw [hm] at h1
  intro hs
  obtain ⟨v,q1,q2⟩:=h1 hs
  exact ⟨v,q1,q2.cfg hD⟩
 | fresh =>
  rw [hm] at h1
  intro hs
  obtain ⟨v,s',q1,q2⟩:=h1 hs
  exact ⟨v,s',q1,q2.cfg hD hT hr⟩
theorem Ok.cfg (hD:D.ty = C.ty) (h:Ok P C):Ok P D :=
 ⟨(fun t ht=>by
  rw [hD] at ht
  have q:=h.ty t ht
  obtain ⟨i,z,k1,k2,k3,k4,k5,k6,k7,k8,k9⟩:=q.info
  refine ⟨⟨i,z,k1,by rw [hD]; exact k2,by rw [hD]; exact k3,k4,by rw [hD]; exact k5,by rw [hD]; exact k6,fun j c rv h1 h2=>?_,by rw [hD]; exact k8,by rw [hD]; exact k9⟩,by rw [hD]; exact q.pos,by rw [hD]; exact q.bpos,by rw [hD]; exact q.zflat,by rw [hD]; exact q.shs,by rw [hD]; exact q.shl,by rw [hD]; exact q.elem,by rw [hD]; exact q.kind,by rw [hD]; exact q.str,by rw [hD]; exact q.bool,by rw [hD]; exact q.agg,q.allf,by rw [hD]; exact q.offs,by rw [hD]; exact q.fszs⟩
  rw [hD] at h1
  obtain ⟨m1,m2,m3⟩:=k7 j c rv h1 h2
  refine ⟨m1,fun g w=>?_,m3⟩
  have m:=m2 g w
  refine ⟨fun sz es e hv=>by rw [hD]; exact m.own sz es e hv,fun cs hv i sz es e hc=>by rw [hD]; exact m.agg cs hv i sz es e hc,fun t' sz es hv=>?_⟩
  subst hv
  have:=m1 g w false
  cases this),h.mixed,by rw [hD]; exact h.ftys⟩
theorem Zab.objs {Φ:Zat} (h:Zab P C Φ):Zab P C.objs Φ:=h.cfg (C:=C) (D:=C.objs) rfl rfl rfl rfl
theorem Ok.objs (h:Ok P C):Ok P C.objs:=h.cfg (C:=C) (D:=C.objs) rfl
abbrev Cfg.rowed (C:Cfg) (objs rows:Bool) (kp:Option Nat) (inl:TypeId → Option (Nat × TypeId)) (keep raw lay:List Nat) (tri:List (Nat × Nat × Nat):=[]):Cfg:={ C with objAll:=objs,rows:=rows,kp:=kp,inl:=inl,keep:=keep,raw:=raw,lay:=lay,tri:=tri }
theorem Zab.rowed {Φ:Zat} (h:Zab P C Φ) (objs rows:Bool) (kp:Option Nat) (inl:TypeId → Option (Nat × TypeId)) (keep raw lay:List Nat) (tri:List (Nat × Nat × Nat):=[]):Zab P (C.rowed objs rows kp inl keep raw lay tri) Φ:=h.cfg (C:=C) (D:=C.rowed objs rows kp inl keep raw lay tri) rfl rfl rfl rfl
theorem Ok.rowed (h:Ok P C) (objs rows:Bool) (kp:Option Nat) (inl:TypeId → Option (Nat × TypeId)) (keep raw lay:List Nat) (tri:List (Nat × Nat × Nat):=[]):Ok P (C.rowed objs rows kp inl keep raw lay tri):=h.cfg (C:=C) (D:=C.rowed objs rows kp inl keep raw lay tri) rfl
end
end Go.VM
