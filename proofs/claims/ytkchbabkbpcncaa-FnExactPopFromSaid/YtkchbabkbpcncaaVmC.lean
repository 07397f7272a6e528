/- A frame of plain values and objects stands for a frame of the machine in a world; what keeps that so. -/
import Derived.Test.YtkchbabkbpcncaaVmB
namespace Go.VM
open Go.RowKit
def Za0:Value → Option Nat
 | .slice (some a) _ (_ + 1)=>some a.block
 | _=>none
structure UniOk (C:Cfg) (g:G) (w:World) (t:TypeId) (sz:Nat) (es:List V) (rv:Value):Prop where
 known:(C.ty t).known = true
 size:sz = (C.ty t).size
 esz:∀ i e,nth es i = some e → e.cells.length = sz
 scal:∀ i e j c,nth es i = some e → nth e.cells j = some c → c.scal = true
 row:(∃ A,rv = .slice A 0 0 ∧ es = []) ∨ ∃ blk bo cap c cur,rv = .slice (some ⟨blk,bo * sz,none⟩) es.length (c + 1) ∧ g.base ≤ blk ∧ w.heap[blk]? = some (.cells cur t (C.fz 0 cur.size)) ∧ es.length ≤ c + 1 ∧ c + 1 ≤ cap ∧ cap ≤ maxLen ∧ 0 < sz ∧ cur.size = (bo + cap) * sz ∧
  (∀ (k:Nat) (v:Value),cur[k]? = some v → v.oneCell' = true) ∧ ∀ i e j c,nth es i = some e → nth e.cells j = some c → ∃ x,cur[(bo + i) * sz + j]? = some x ∧ ∀ g w l,DR g w l c x
 blk:∀ b,Za0 rv = some b → ¬ g.susp b ∧ (∀ i,¬ g.imm b i) ∧ ∀ o x,nth g.obs o = some (some x) → 0 < x.2.2.2.1 → x.2.1 ≠ b
theorem UniOk.lt {C:Cfg} {g:G} {w:World} {t:TypeId} {sz:Nat} {es:List V} {rv:Value} (h:UniOk C g w t sz es rv) {b:Nat} (hb:Za0 rv = some b):b < w.heap.size ∧ g.base ≤ b:=by
 rcases h.row with ⟨A,rfl,_⟩ | ⟨blk,bo,cap,c,cur,rfl,h1,h2,_⟩
 ·cases A <;> simp [Za0] at hb
 ·simp [Za0] at hb
  subst hb
  exact ⟨(Array.getElem?_eq_some_iff.1 h2).1,h1⟩
theorem UniOk.move {C:Cfg} {g g':G} {w w':World} {t:TypeId} {sz:Nat} {es:List V} {rv:Value} (h:UniOk C g w t sz es rv) (hbase:g'.base = g.base) (hb:∀ b,Za0 rv = some b → w'.heap[b]? = w.heap[b]?)
  (hs:∀ b,Za0 rv = some b → ¬ g'.susp b ∧ (∀ i,¬ g'.imm b i) ∧ ∀ o x,nth g'.obs o = some (some x) → 0 < x.2.2.2.1 → x.2.1 ≠ b):UniOk C g' w' t sz es rv where
 known:=h.known
 size:=h.size
 esz:=h.esz
 scal:=h.scal
 row:=by
  rcases h.row with h1 | ⟨blk,bo,cap,c,cur,q1,q2,q3,q4⟩
  ·exact .inl h1
  ·exact .inr ⟨blk,bo,cap,c,cur,q1,by rw [hbase]; exact q2,by rw [hb blk (by rw [q1]; rfl)]; exact q3,q4⟩
 blk:=hs
structure OwnOk (C:Cfg) (g:G) (w:World) (v:V) (rv:Value):Prop where
 own:∀ sz es e,v = .list sz es (.own e) → (C.ty e).known = true ∧ (∃ xs:List Value,w.ownsRow g.base e (C.ty e).size rv es.length xs) ∧
  (∀ b,rv.ownBlock = some b → ¬ g.susp b ∧ (∀ i,es.length * (C.ty e).size ≤ i → ¬ g.imm b i) ∧ ∀ o x,nth g.obs o = some (some x) → 0 < x.2.2.2.1 → x.2.1 ≠ b) ∧
  sz = (C.ty e).size
 agg:∀ cs,v = .agg cs → ∀ i sz es e,nth cs i = some (.list sz es (.own e)) → (C.ty e).known = true ∧ sz = (C.ty e).size ∧ es = [] ∧ ∃ vs:List Value,rv = .agg vs.toArray ∧ nth vs i = some (.slice none 0 0)
 uni:∀ t sz es,v = .uni t sz es → UniOk C g w t sz es rv
structure OwnSide (g g':G) (w w':World) (b:Nat):Prop where
 heap:w'.heap[b]? = w.heap[b]?
 susp:g'.susp b → g.susp b
 imm:∀ i,g'.imm b i → g.imm b i
 obs:∀ o x,nth g'.obs o = some (some x) → 0 < x.2.2.2.1 → x.2.1 = b → ∃ o',nth g.obs o' = some (some x)
def V.still (v:V):Prop:=(∀ sz es e,v ≠ .list sz es (.own e)) ∧ (∀ cs,v = .agg cs → ∀ i sz es e,nth cs i ≠ some (.list sz es (.own e))) ∧ ∀ t sz es,v ≠ .uni t sz es
def V.owns (c:V):Prop:=(∃ sz es e,c = .list sz es (.own e)) ∨ ∃ t sz es,c = .uni t sz es
def V.blockOf:V → Value → Option Nat
 | .uni ..,rv=>Za0 rv
 | _,rv=>rv.ownBlock
theorem V.still.owns {c:V} (h:c.still):¬ c.owns:=fun q=>by
 rcases q with ⟨_,_,_,q⟩ | ⟨_,_,_,q⟩
 ·exact h.1 _ _ _ q
 ·exact h.2.2 _ _ _ q
theorem OwnOk.of_not {C:Cfg} {g:G} {w:World} {v:V} {rv:Value} (h:v.still):OwnOk C g w v rv :=
 ⟨fun sz es e hv=>absurd hv (h.1 sz es e),fun cs hv i sz es e hc=>absurd hc (h.2.1 cs hv i sz es e),fun t sz es hv=>absurd hv (h.2.2 t sz es)⟩
theorem ZbY (v:V):∀ sz es e,v.noOwnCell ≠ .list sz es (.own e):=by
 intro sz es e h
 cases v <;> simp [V.noOwnCell] at h
 rename_i sz' es' f
 cases f <;> simp [Fl.noOwn] at h
theorem ZdK (v:V):∀ t sz es,v.noOwnCell ≠ .uni t sz es:=by
 intro t sz es h
 cases v <;> simp [V.noOwnCell] at h
theorem ZaA (v:V):v.noOwn.still:=by
 refine ⟨fun sz es e h=>?_,fun cs hv i sz es e hc=>?_,fun t sz es h=>by cases v <;> simp [V.noOwn] at h⟩
 ·cases v <;> simp [V.noOwn] at h
  rename_i sz' es' f
  cases f <;> simp [Fl.noOwn] at h
 ·cases v <;> simp [V.noOwn] at hv
  subst hv
  obtain ⟨y,_,hy⟩:=Zac hc
  exact ZbY y sz es e hy
inductive Loc where
 | slot (t:Nat)
 | cell (o i j:Nat)
def Zan (E:List V) (s:S) (a:Act) (w:World) (g:G):Loc → Nat → Prop
 | .slot t,b=>∃ c rv,nth E t = some c ∧ c.owns ∧ a.tmps[t]? = some rv ∧ c.blockOf rv = some b
 | .cell o i j,b=>∃ ob x el c rv,nth s o = some (some ob) ∧ nth g.obs o = some (some x) ∧ nth ob.es i = some el ∧ nth el.cells j = some c ∧ c.owns ∧
   w.cell? ⟨x.2.1,(x.2.2.2.2 + i) * ob.esz + j,none⟩ = some rv ∧ c.blockOf rv = some b
structure ObR (C:Cfg) (g:G) (w:World) (ob:Ob) (x:OX):Prop where
 ver:x.1 = ob.ver
 esz:x.2.2.1 = ob.esz
 ty:ob.esz = (C.ty ob.elem).size
 known:(C.ty ob.elem).known = true
 blk:∃ arr cap,(0 < x.2.2.2.1 → w.heap[x.2.1]? = some (.cells arr ob.elem (C.fz ob.ver arr.size))) ∧ arr.size = x.2.2.2.1 ∧ arr.size = (x.2.2.2.2 + cap) * ob.esz ∧ cap ≤ maxLen ∧ ob.es.length ≤ cap ∧
   (∀ (k:Nat) (v:Value),arr[k]? = some v → v.oneCell' = true) ∧ ∀ i e j c,nth ob.es i = some e → nth e.cells j = some c → ∃ rv,arr[(x.2.2.2.2 + i) * ob.esz + j]? = some rv ∧ VR g w c rv ∧ OwnOk C g w c rv
 sz:∀ i e,nth ob.es i = some e → e.cells.length = ob.esz
 flat:∀ i e j c,nth ob.es i = some e → nth e.cells j = some c → c.flatCell = true
 base:0 < x.2.2.2.1 → g.base ≤ x.2.1
 nsusp:0 < x.2.2.2.1 → ¬ g.susp x.2.1
 nimm:0 < x.2.2.2.1 → ∀ i,¬ g.imm x.2.1 i
theorem ObR.real {C:Cfg} {g:G} {w:World} {ob:Ob} {x:OX} (hr:ObR C g w ob x) {i j:Nat} {e c:V} (h1:nth ob.es i = some e) (h2:nth e.cells j = some c):0 < x.2.2.2.1:=by
 obtain ⟨arr,cap,_,b2,b3,_,b5,_⟩:=hr.blk
 have hi:i < ob.es.length:=by rw [Zad] at h1; exact (List.getElem?_eq_some_iff.1 h1).1
 have hj:j < e.cells.length:=by rw [Zad] at h2; exact (List.getElem?_eq_some_iff.1 h2).1
 rw [hr.sz i e h1] at hj
 rw [← b2,b3]
 exact Nat.mul_pos (by omega) (by omega)
theorem ObR.real2 {C:Cfg} {g:G} {w:World} {ob:Ob} {x:OX} (hr:ObR C g w ob x) (hpos:0 < ob.esz) {i:Nat} {e:V} (h1:nth ob.es i = some e):0 < x.2.2.2.1:=by
 obtain ⟨arr,cap,_,b2,b3,_,b5,_⟩:=hr.blk
 have hi:i < ob.es.length:=by rw [Zad] at h1; exact (List.getElem?_eq_some_iff.1 h1).1
 rw [← b2,b3]
 exact Nat.mul_pos (by omega) hpos
structure Sim (C:Cfg) (g:G) (E:List V) (s:S) (a:Act) (w:World):Prop where
 len:E.length = a.tmps.size
 env:∀ t v,nth E t = some v → ∃ rv,a.tmps[t]? = some rv ∧ VR g w v rv ∧ OwnOk C g w v rv
 olen:g.obs.length = s.length
 obj:∀ o ob,nth s o = some (some ob) → ∃ x,nth g.obs o = some (some x) ∧ ObR C g w ob x
 gone:∀ o x,nth g.obs o = some (some x) → ∃ ob,nth s o = some (some ob)
 inj:∀ o o' x x',nth g.obs o = some (some x) → nth g.obs o' = some (some x') → 0 < x.2.2.2.1 → 0 < x'.2.2.2.1 → x.2.1 = x'.2.1 → o = o'
 own:∀ p q b,Zan E s a w g p b → Zan E s a w g q b → p = q
 sub:Sub g
 immlt:∀ b i,g.imm b i → b < w.heap.size
 basele:g.base ≤ w.heap.size
 susplt:∀ b,g.susp b → b < w.heap.size
structure Le (keep:Nat) (g:G) (w:World) (g':G) (w':World):Prop where
 keeps:Keeps g w g' w'
 size:w.heap.size ≤ w'.heap.size
 os:w'.os = w.os
 tape:w'.tape = w.tape
 output:w'.output = w.output
 base:g'.base = g.base
 susp:∀ b,g'.susp b ↔ g.susp b
 low:∀ b,b < g.base → w'.heap[b]? = w.heap[b]?
 sus:∀ b,g.susp b → w'.heap[b]? = w.heap[b]? ∧ (∀ i,g'.imm b i → g.imm b i) ∧ ∀ i,g'.safe b i → g.safe b i
 klen:keep ≤ g'.obs.length
 obs:∀ o,o < keep → ∀ x',nth g'.obs o = some (some x') → ∃ x,nth g.obs o = some (some x) ∧ x.1 ≤ x'.1 ∧ (x.1 = x'.1 → x = x')
theorem Le.refl {keep:Nat} {g:G} {w:World} (h:keep ≤ g.obs.length):Le keep g w g w :=
 ⟨Keeps.refl g w,Nat.le_refl _,rfl,rfl,rfl,rfl,fun _=>Iff.rfl,fun _ _=>rfl,fun _ _=>⟨rfl,fun _ h=>h,fun _ h=>h⟩,h,fun _ _ x' hx=>⟨x',hx,Nat.le_refl _,fun _=>rfl⟩⟩
theorem Le.trans {keep:Nat} {g1 g2 g3:G} {w1 w2 w3:World} (h:Le keep g1 w1 g2 w2) (k:Le keep g2 w2 g3 w3):Le keep g1 w1 g3 w3 where
 keeps:=h.keeps.trans k.keeps
 size:=Nat.le_trans h.size k.size
 os:=k.os.trans h.os
 tape:=k.tape.trans h.tape
 output:=k.output.trans h.output
 base:=k.base.trans h.base
 susp:=fun b=>(k.susp b).trans (h.susp b)
 low:=fun b hb=>(k.low b (by rw [h.base]; exact hb)).trans (h.low b hb)
 sus:=fun b hb=>by
  obtain ⟨h1,h2⟩:=h.sus b hb
  obtain ⟨k1,k2⟩:=k.sus b ((h.susp b).2 hb)
  exact ⟨k1.trans h1,fun i hi=>h2.1 i (k2.1 i hi),fun i hi=>h2.2 i (k2.2 i hi)⟩
 klen:=k.klen
 obs:=fun o ho x' hx=>by
  obtain ⟨y,hy,h1,h2⟩:=k.obs o ho x' hx
  obtain ⟨x,hx2,h3,h4⟩:=h.obs o ho y hy
  refine ⟨x,hx2,Nat.le_trans h3 h1,fun e=>?_⟩
  have e1:x.1 = y.1:=Nat.le_antisymm h3 (by omega)
  have e2:y.1 = x'.1:=by omega
  rw [h4 e1,h2 e2]
theorem ZfW {w w':World} {base:Nat} {e:TypeId} {size n:Nat} {v:Value} {xs:List Value} (h:w.ownsRow base e size v n xs)
  (hb:∀ b,v.ownBlock = some b → w'.heap[b]? = w.heap[b]?):w'.ownsRow base e size v n xs:=by
 obtain ⟨h1,h2⟩:=h
 refine ⟨h1,?_⟩
 rcases h2 with h2 | ⟨gb,cap,cur,hv,hg,hh,r⟩
 ·exact .inl h2
 ·exact .inr ⟨gb,cap,cur,hv,hg,by rw [hb gb (by rw [hv]; rfl)]; exact hh,r⟩
theorem ZdY {w:World} {base:Nat} {e:TypeId} {size n:Nat} {v:Value} {xs:List Value} (h:w.ownsRow base e size v n xs) {b:Nat} (hb:v.ownBlock = some b) :
  b < w.heap.size ∧ base ≤ b:=by
 rcases h.2 with ⟨rfl,_⟩ | ⟨gb,cap,cur,hv,hg,hh,r⟩
 ·simp [Value.ownBlock] at hb
 ·subst hv
  simp [Value.ownBlock] at hb
  subst hb
  exact ⟨(Array.getElem?_eq_some_iff.1 hh).1,hg⟩
theorem OwnOk.same {C:Cfg} {g:G} {w w':World} {v:V} {rv:Value} (h:OwnOk C g w v rv) (hb:∀ b,b < w.heap.size → w'.heap[b]? = w.heap[b]?):OwnOk C g w' v rv:=by
 refine ⟨fun sz es e hv=>?_,h.agg,fun t sz es hv=>(h.uni t sz es hv).move rfl (fun b hb'=>hb b ((h.uni t sz es hv).lt hb').1) (h.uni t sz es hv).blk⟩
 obtain ⟨hk,⟨xs,hx⟩,h2,h3⟩:=h.own sz es e hv
 exact ⟨hk,⟨xs,ZfW hx fun b hb'=>hb b (ZdY hx hb').1⟩,h2,h3⟩
theorem OwnOk.side {C:Cfg} {g g':G} {w w':World} {v:V} {rv:Value} (h:OwnOk C g w v rv) (hbase:g'.base = g.base) (hb:v.owns → ∀ b,v.blockOf rv = some b → OwnSide g g' w w' b):OwnOk C g' w' v rv:=by
 refine ⟨fun sz es e hv=>?_,h.agg,fun t sz es hv=>?_⟩
 ·obtain ⟨h1,⟨xs,h2⟩,h3,h4⟩:=h.own sz es e hv
  have hb:=hb (.inl ⟨sz,es,e,hv⟩)
  subst hv
  refine ⟨h1,⟨xs,by rw [hbase]; exact ZfW h2 fun b hb'=>(hb b hb').heap⟩,fun b hb'=>?_,h4⟩
  obtain ⟨q1,q2,q3⟩:=h3 b hb'
  refine ⟨fun hc=>q1 ((hb b hb').susp hc),fun i hi hc=>q2 i hi ((hb b hb').imm i hc),fun o x hx hp hc=>?_⟩
  obtain ⟨o',ho'⟩:=(hb b hb').obs o x hx hp hc
  exact q3 o' x ho' hp hc
 ·have hb:=hb (.inr ⟨t,sz,es,hv⟩)
  have h1:=h.uni t sz es hv
  subst hv
  refine h1.move hbase (fun b hb'=>(hb b hb').heap) fun b hb'=>?_
  obtain ⟨q1,q2,q3⟩:=h1.blk b hb'
  refine ⟨fun hc=>q1 ((hb b hb').susp hc),fun i hc=>q2 i ((hb b hb').imm i hc),fun o x hx hp hc=>?_⟩
  obtain ⟨o',ho'⟩:=(hb b hb').obs o x hx hp hc
  exact q3 o' x ho' hp hc
theorem OwnOk.row {C:Cfg} {g:G} {w:World} {v:V} {rv:Value} (h:OwnOk C g w v rv) (ho:v.owns) {b:Nat} (hb:v.blockOf rv = some b):b < w.heap.size ∧ g.base ≤ b ∧ ¬ g.susp b ∧ ∀ o x,nth g.obs o = some (some x) → 0 < x.2.2.2.1 → x.2.1 ≠ b:=by
 rcases ho with ⟨sz,es,e,hv⟩ | ⟨t,sz,es,hv⟩
 ·obtain ⟨h1,⟨xs,h2⟩,h3,h4⟩:=h.own sz es e hv
  subst hv
  exact ⟨(ZdY h2 hb).1,(ZdY h2 hb).2,(h3 b hb).1,(h3 b hb).2.2⟩
 ·have h1:=h.uni t sz es hv
  subst hv
  exact ⟨(h1.lt hb).1,(h1.lt hb).2,(h1.blk b hb).1,(h1.blk b hb).2.2⟩
theorem V.blockOf_own {v:V} {rv:Value} {b:Nat} (h:v.blockOf rv = some b):rv.ownBlock = some b:=by
 cases v <;> first | exact h | skip
 cases rv <;> first | (cases h; done) | skip
 rename_i A n c
 cases A <;> cases c <;> simp_all [V.blockOf,Za0,Value.ownBlock]
theorem V.blockOf_none {v:V} {rv:Value} (h:rv.ownBlock = none):v.blockOf rv = none:=by
 cases hb:v.blockOf rv with
 | none=>rfl
 | some b=>rw [V.blockOf_own hb] at h; cases h
theorem Za2 {w w':World} {b:Nat} (h:w'.heap[b]? = w.heap[b]?) (i:Nat):w'.cell? ⟨b,i,none⟩ = w.cell? ⟨b,i,none⟩:=World.cell?_of_block (a:=⟨b,i,none⟩) h
theorem ZaO {w:World} {b:Nat} {o:Obj} (h:w.heap[b]? = some o):b < w.heap.size:=(Array.getElem?_eq_some_iff.1 h).1
theorem Sim.keeps_ext {C:Cfg} {g:G} {E:List V} {s:S} {a:Act} {w w':World} (h:Sim C g E s a w) (hb:∀ b,b < w.heap.size → w'.heap[b]? = w.heap[b]?):Keeps g w g w' :=
 ⟨fun _ _ h=>h,fun _ _ h=>h,fun b i hi=>Za2 (hb b (h.immlt b i hi)) i⟩
theorem Sim.ext {C:Cfg} {g:G} {E:List V} {s:S} {a:Act} {w w':World} (h:Sim C g E s a w) (hs:w.heap.size ≤ w'.heap.size)
  (hb:∀ b,b < w.heap.size → w'.heap[b]? = w.heap[b]?):Sim C g E s a w' where
 len:=h.len
 env:=fun t v hv=>by
  obtain ⟨rv,h1,h2,h3⟩:=h.env t v hv
  exact ⟨rv,h1,h2.keeps h.sub (h.keeps_ext hb) (ObsLe.refl g),h3.same hb⟩
 olen:=h.olen
 obj:=fun o ob ho=>by
  obtain ⟨x,hx,hr⟩:=h.obj o ob ho
  obtain ⟨arr,cap,b1,b2,b3,b4,b5,b7,b6⟩:=hr.blk
  refine ⟨x,hx,hr.ver,hr.esz,hr.ty,hr.known,⟨arr,cap,fun hp=>by rw [hb _ (ZaO (b1 hp))]; exact b1 hp,b2,b3,b4,b5,b7,fun i e j c h1 h2=>?_⟩,hr.sz,hr.flat,hr.base,hr.nsusp,hr.nimm⟩
  obtain ⟨rv,r1,r2,r3⟩:=b6 i e j c h1 h2
  exact ⟨rv,r1,r2.keeps h.sub (h.keeps_ext hb) (ObsLe.refl g),r3.same hb⟩
 gone:=h.gone
 inj:=h.inj
 own:=by
  have key:∀ p b,Zan E s a w' g p b → Zan E s a w g p b:=by
   intro p b hp
   cases p with
   | slot t=>exact hp
   | cell o i j =>
    obtain ⟨ob,x,el,c,rv,h1,h2,h3,h4,h0,h5,h6⟩:=hp
    obtain ⟨y,hy,hr⟩:=h.obj o ob h1
    obtain ⟨arr,cap,b1,_⟩:=hr.blk
    have:y = x:=Option.some.inj (Option.some.inj (hy.symm.trans h2))
    subst this
    exact ⟨ob,y,el,c,rv,h1,h2,h3,h4,h0,by rw [← Za2 (hb _ (ZaO (b1 (hr.real h3 h4))))]; exact h5,h6⟩
  exact fun p q b hp hq=>h.own p q b (key p b hp) (key q b hq)
 sub:=h.sub
 immlt:=fun b i hi=>Nat.lt_of_lt_of_le (h.immlt b i hi) hs
 basele:=Nat.le_trans h.basele hs
 susplt:=fun b hb'=>Nat.lt_of_lt_of_le (h.susplt b hb') hs
theorem Zau {α:Type} {l:List α} {n:Nat} {a:α} (h:nth l n = some a):n < l.length:=by
 rw [Zad] at h; exact (List.getElem?_eq_some_iff.1 h).1
theorem Zar {α:Type} {l:List α} {n:Nat} {a b:α} (h:nth (Zai l n a) n = some b):b = a:=by
 rw [Zad,ZaM] at h
 by_cases hn:n < l.length
 ·rw [List.getElem?_set_self hn] at h; exact (Option.some.inj h).symm
 ·rw [List.getElem?_eq_none (by simp; omega)] at h; cases h
theorem Zaj {α:Type} {l:List α} {n m:Nat} {a:α} (h:n ≠ m):nth (Zai l n a) m = nth l m:=by
 rw [Zad,Zad,ZaM,List.getElem?_set_ne h]
theorem Zak {α:Type} (l:List α) (n:Nat) (a:α):(Zai l n a).length = l.length:=by rw [ZaM,List.length_set]
theorem ZbI (E:List V) (d:Option Tmp) (v:V):(Zcy E d v).length = E.length:=by
 cases d <;> simp [Zcy,Zak]
theorem Zdi (a:Act) (d:Option Tmp) (rv:Value):(a.put d rv).tmps.size = a.tmps.size:=by
 cases d <;> simp [Act.put]
theorem Zea {a:Act} {d t:Nat} {rv:Value} (h:t < a.tmps.size) (hd:d = t):(a.put (some d) rv).tmps[t]? = some rv:=by
 subst hd
 simp [Act.put,h]
theorem ZcB {a:Act} {d t:Nat} {rv:Value} (hd:d ≠ t):(a.put (some d) rv).tmps[t]? = a.tmps[t]?:=by
 simp [Act.put,Array.getElem?_setIfInBounds_ne hd]
theorem Sim.put {C:Cfg} {g:G} {E:List V} {s:S} {a:Act} {w:World} (h:Sim C g E s a w) (d:Option Tmp) {v:V} {rv:Value} (hv:VR g w v rv) (ho:OwnOk C g w v rv)
  (hf:∀ b,v.owns → v.blockOf rv = some b → ∀ p,(∀ t,d = some t → p ≠ .slot t) → ¬ Zan E s a w g p b):Sim C g (Zcy E d v) s (a.put d rv) w:=by
 cases d with
 | none=>exact h
 | some d =>
  have key:∀ p b,Zan (Zcy E (some d) v) s (a.put (some d) rv) w g p b → (p ≠ .slot d ∧ Zan E s a w g p b) ∨ (p = .slot d ∧ v.owns ∧ v.blockOf rv = some b):=by
   intro p b hp
   cases p with
   | cell o i j=>exact .inl ⟨by simp,hp⟩
   | slot t =>
    obtain ⟨c,rv',h1,h0,h2,h3⟩:=hp
    by_cases ht:d = t
    ·subst ht
     have hl:d < a.tmps.size:=by have:=Zau h1; rw [ZbI,h.len] at this; exact this
     rw [Zea hl rfl] at h2
     obtain rfl:=Option.some.inj h2
     obtain rfl:=Zar h1
     exact .inr ⟨rfl,h0,h3⟩
    ·refine .inl ⟨fun hc=>ht (by injection hc with hc; exact hc.symm),c,rv',?_,h0,?_,h3⟩
     ·rw [Zcy,Zaj ht] at h1; exact h1
     ·rw [ZcB ht] at h2; exact h2
  exact {
   len:=by rw [ZbI,Zdi]; exact h.len
   env:=fun t v' hv'=>by
    by_cases ht:d = t
    ·subst ht
     have hl:d < a.tmps.size:=by have:=Zau hv'; rw [ZbI,h.len] at this; exact this
     obtain rfl:=Zar hv'
     exact ⟨rv,Zea hl rfl,hv,ho⟩
    ·rw [Zcy,Zaj ht] at hv'
     obtain ⟨rv',h1,h2,h3⟩:=h.env t v' hv'
     exact ⟨rv',by rw [ZcB ht]; exact h1,h2,h3⟩
   olen:=h.olen
   obj:=h.obj
   gone:=h.gone
   inj:=h.inj
   own:=fun p q b hp hq=>by
    rcases key p b hp with ⟨hp1,hp2⟩ | ⟨rfl,hv1,hb1⟩ <;> rcases key q b hq with ⟨hq1,hq2⟩ | ⟨rfl,hv2,hb2⟩
    ·exact h.own p q b hp2 hq2
    ·exact absurd hp2 (hf b hv2 hb2 p (fun t ht=>by cases ht; exact hp1))
    ·exact absurd hq2 (hf b hv1 hb1 q (fun t ht=>by cases ht; exact hq1))
    ·rfl
   sub:=h.sub
   immlt:=h.immlt
   basele:=h.basele
   susplt:=h.susplt }
theorem Sim.put0 {C:Cfg} {g:G} {E:List V} {s:S} {a:Act} {w:World} (h:Sim C g E s a w) (d:Option Tmp) {v:V} {rv:Value} (hv:VR g w v rv)
  (hn:v.still):Sim C g (Zcy E d v) s (a.put d rv) w :=
 h.put d hv (OwnOk.of_not hn) fun _ hv _=>absurd hv hn.owns
theorem Sim.less {C:Cfg} {g:G} {E:List V} {s:S} {a:Act} {w:World} (h:Sim C g E s a w) (t:Nat) (u:V)
  (hu:∀ v rv,nth E t = some v → VR g w v rv → VR g w u rv) (hn:u.still):Sim C g (Zai E t u) s a w:=by
 have key:∀ p b,Zan (Zai E t u) s a w g p b → Zan E s a w g p b:=by
  intro p b hp
  cases p with
  | cell o i j=>exact hp
  | slot t' =>
   obtain ⟨c,rv',h1,h0,h2,h3⟩:=hp
   by_cases ht:t = t'
   ·subst ht; obtain rfl:=Zar h1; exact absurd h0 hn.owns
   ·exact ⟨c,rv',by rw [Zaj ht] at h1; exact h1,h0,h2,h3⟩
 exact {
  len:=by rw [Zak]; exact h.len
  env:=fun t' v' hv'=>by
   by_cases ht:t = t'
   ·subst ht
    obtain rfl:=Zar hv'
    have hl:t < E.length:=by have:=Zau hv'; rw [Zak] at this; exact this
    obtain ⟨v,hv⟩:∃ v,nth E t = some v:=⟨E[t],by rw [Zad,List.getElem?_eq_getElem hl]⟩
    obtain ⟨rv,h1,h2,_⟩:=h.env t v hv
    exact ⟨rv,h1,hu v rv hv h2,OwnOk.of_not hn⟩
   ·rw [Zaj ht] at hv'
    exact h.env t' v' hv'
  olen:=h.olen
  obj:=h.obj
  gone:=h.gone
  inj:=h.inj
  own:=fun p q b hp hq=>h.own p q b (key p b hp) (key q b hq)
  sub:=h.sub
  immlt:=h.immlt
  basele:=h.basele
  susplt:=h.susplt }
theorem Sim.dead {C:Cfg} {g:G} {E:List V} {s:S} {a:Act} {w:World} (h:Sim C g E s a w) (t:Nat):Sim C g (Zai E t .dead) s a w :=
 h.less t .dead (fun _ rv _ _=>.dead rv) (by simp [V.still])
theorem Sim.kill {C:Cfg} {g:G} {s:S} {a:Act} {w:World}:∀ (l:List Nat) {E:List V},Sim C g E s a w → Sim C g (Za7 l E) s a w
 | [],_,h=>h
 | t :: l,_,h=>Sim.kill l (h.dead t)
theorem Sim.strip {C:Cfg} {g:G} {E:List V} {s:S} {a:Act} {w:World} (h:Sim C g E s a w) (x:Operand):Sim C g (Zb4 E x) s a w:=by
 cases x with
 | tmp t =>
  simp only [Zb4]
  cases hv:nth E t with
  | none=>exact h
  | some v=>exact h.less t v.noOwn (fun v' rv hv' hr=>by rw [hv] at hv'; obtain rfl:=Option.some.inj hv'; exact hr.noOwn) (ZaA v)
 | _=>exact h
def Zwt:List V → Nat → List V → Prop
 | _,_,[]=>True
 | E,k,v :: l=>(v = .dead ∨ nth E k = some v) ∧ Zwt E (k + 1) l
theorem Zwt.at_ {E:List V}:∀ {l:List V} {k:Nat},Zwt E k l → ∀ t v,nth l t = some v → v = .dead ∨ nth E (k + t) = some v
 | [],_,_,t,v,h=>by cases t <;> simp [nth] at h
 | u :: l,k,⟨h1,h2⟩,t,v,h=>by
  cases t with
  | zero=>simp [nth] at h; subst h; simpa using h1
  | succ t=>rw [show k + (t + 1) = (k + 1) + t by omega]; exact Zwt.at_ h2 t v h
end Go.VM
