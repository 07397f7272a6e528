/- Rows that lie in cells, as lists that are only read. -/
import Derived.Test.YtkchbabkbpcncaaVmP
set_option linter.unusedSimpArgs false
set_option linter.unusedVariables false
namespace Go.VM
open Go.RowKit
section
variable {C:Cfg} {E:List V} {s:S}
theorem ZgP {c:V} (h:c.scal = true):c.flatCell = true:=by cases c <;> first | rfl | cases h
theorem UniOk.list {g g':G} {w:World} {t:TypeId} {sz:Nat} {es:List V} {rv:Value} (h:UniOk C g w t sz es rv) (hi:∀ b i,Za0 rv = some b → g'.imm b i):DR g' w false (.list sz es .bor) rv:=by
 rcases h.row with ⟨A,rfl,rfl⟩ | ⟨blk,bo,cap,c,cur,rfl,h1,h2,h3,h4,h5,h6,h7,h8,h9⟩
 ·exact .list sz [] .bor A 0 0 0 0 (fun _ _=>undef) rfl (Nat.le_refl _) (fun _=>rfl) (.inl rfl) (fun i e h=>by simp [nth] at h) (fun i e j x h=>by simp [nth] at h) (fun i e j x h=>by simp [nth] at h) (fun i e j x h=>by simp [nth] at h) (fun i e j x h=>by simp [nth] at h)
 ·refine .list sz es .bor _ _ _ blk (bo * sz) (fun i j=>(cur[(bo + i) * sz + j]?).getD undef) rfl h3 (fun _=>rfl) (.inr rfl) h.esz (fun i e j x h1 h2=>ZgP (h.scal i e j x h1 h2)) (fun i e j x _ _=>hi _ _ rfl) (fun i e j x k1 k2=>?_) (fun i e j x k1 k2=>?_)
  ·obtain ⟨y,y1,y2⟩:=h9 i e j x k1 k2
   rw [show bo * sz + i * sz + j = (bo + i) * sz + j by rw [Nat.add_mul],y1]
   exact Zap h2 y1
  ·obtain ⟨y,y1,y2⟩:=h9 i e j x k1 k2
   rw [y1]
   exact y2 _ _ _
def ZoZ (s:S) (w:World) (g:G) (b:Nat):Prop:=∃ o i j ob x el t sz es rv,nth s o = some (some ob) ∧ nth g.obs o = some (some x) ∧ nth ob.es i = some el ∧ nth el.cells j = some (.uni t sz es) ∧
 w.cell? ⟨x.2.1,(x.2.2.2.2 + i) * ob.esz + j,none⟩ = some rv ∧ Za0 rv = some b
theorem ZoZ.owns {g:G} {a:Act} {w:World} {b:Nat} (h:ZoZ s w g b):∃ o i j,Zan E s a w g (.cell o i j) b ∧ ∃ ob el t sz es,nth s o = some (some ob) ∧ nth ob.es i = some el ∧ nth el.cells j = some (.uni t sz es):=by
 obtain ⟨o,i,j,ob,x,el,t,sz,es,rv,h1,h2,h3,h4,h5,h6⟩:=h
 exact ⟨o,i,j,⟨ob,x,el,_,rv,h1,h2,h3,h4,.inr ⟨t,sz,es,rfl⟩,h5,h6⟩,ob,el,t,sz,es,h1,h3,h4⟩
theorem Zho (e:V):e.unil.cells = e.cells.map Zmu:=by
 cases e <;> rfl
theorem Zjf {ob:Ob} {i j:Nat} {e c:V} (h1:nth ob.unil.es i = some e) (h2:nth e.cells j = some c):∃ e0 c0,nth ob.es i = some e0 ∧ nth e0.cells j = some c0 ∧ c = Zmu c0:=by
 obtain ⟨e0,he0,rfl⟩:=Zac h1
 rw [Zho] at h2
 obtain ⟨c0,hc0,rfl⟩:=Zac h2
 exact ⟨e0,c0,he0,hc0,rfl⟩
theorem ZkW {s:S} {o:Nat} {ob:Ob} (h:nth (s.map (Option.map Ob.unil)) o = some (some ob)):∃ ob0,nth s o = some (some ob0) ∧ ob = ob0.unil:=by
 obtain ⟨y,hy,h2⟩:=Zac h
 cases y with
 | none=>cases h2
 | some ob0=>exact ⟨ob0,hy,(Option.some.inj h2).symm⟩
theorem Sim.view {g:G} {a:Act} {w:World} (hs:Sim C g E s a w):∃ gu,Sim C gu E (ZcA C s) a w ∧ Keeps g w gu w ∧ gu.safe = g.safe ∧ gu.obs = g.obs ∧ gu.susp = g.susp ∧ gu.base = g.base:=by
 cases hr:C.rows with
 | false=>exact ⟨g,by simp only [ZcA,hr]; exact hs,Keeps.refl g w,rfl,rfl,rfl,rfl⟩
 | true =>
  let gu:G:={ g with imm:=fun b i=>g.imm b i ∨ ZoZ s w g b }
  have hk:Keeps g w gu w:=⟨fun _ _ h=>.inl h,fun _ _ h=>h,fun _ _ _=>rfl⟩
  have hol:ObsLe g gu:=⟨Nat.le_refl _,fun _ _ x' h=>⟨x',h,Nat.le_refl _,fun _=>rfl⟩⟩
  have side:∀ p b,Zan E s a w g p b → (∀ o i j,p = .cell o i j → ∀ ob el t sz es,nth s o = some (some ob) → nth ob.es i = some el → nth el.cells j ≠ some (.uni t sz es)) → OwnSide g gu w w b:=by
   intro p b hp hn
   refine ⟨rfl,fun h=>h,fun i hc=>?_,fun o x hx _ _=>⟨o,hx⟩⟩
   rcases hc with hc | hc
   ·exact hc
   ·obtain ⟨o,i,j,h1,ob,el,t,sz,es,h2,h3,h4⟩:=hc.owns (E:=E) (a:=a)
    have:=hs.own _ _ b hp h1
    exact absurd h4 (hn o i j this ob el t sz es h2 h3)
  refine ⟨gu,?_,hk,rfl,rfl,rfl,rfl⟩
  simp only [ZcA,hr]
  exact {
   len:=hs.len
   env:=fun t v hv=>by
    obtain ⟨rv,h1,h2,h3⟩:=hs.env t v hv
    exact ⟨rv,h1,h2.keeps hs.sub hk hol,h3.side rfl fun h0 b hb=>side (.slot t) b ⟨v,rv,hv,h0,h1,hb⟩ fun _ _ _ h=>by cases h⟩
   olen:=by rw [List.length_map]; exact hs.olen
   obj:=fun o ob ho=>by
    obtain ⟨ob0,ho0,rfl⟩:=ZkW ho
    obtain ⟨x,hx,hr⟩:=hs.obj o ob0 ho0
    obtain ⟨arr,cap,b1,b2,b3,b4,b5,b7,b6⟩:=hr.blk
    refine ⟨x,hx,hr.ver,hr.esz,hr.ty,hr.known,⟨arr,cap,b1,b2,b3,b4,by simpa [Ob.unil] using b5,b7,fun i e j c h1 h2=>?_⟩,fun i e h=>?_,fun i e j c h1 h2=>?_,hr.base,hr.nsusp,fun hp i hc=>?_⟩
    ·obtain ⟨e0,c0,q1,q2,rfl⟩:=Zjf h1 h2
     obtain ⟨rv,r1,r2,r3⟩:=b6 i e0 j c0 q1 q2
     refine ⟨rv,r1,?_⟩
     by_cases hu:∃ t sz es,c0 = .uni t sz es
     ·obtain ⟨t,sz,es,rfl⟩:=hu
      exact ⟨.data ((r3.uni t sz es rfl).list fun b i' hb=>.inr ⟨o,i,j,ob0,x,e0,t,sz,es,rv,ho0,hx,q1,q2,Zap (b1 (hr.real q1 q2)) r1,hb⟩),OwnOk.of_not (by simp [V.still,Zmu])⟩
     ·have hc:Zmu c0 = c0:=by cases c0 <;> first | rfl | exact absurd ⟨_,_,_,rfl⟩ hu
      rw [hc]
      refine ⟨r2.keeps hs.sub hk hol,r3.side rfl fun h0 b hb=>side (.cell o i j) b ⟨ob0,x,e0,c0,rv,ho0,hx,q1,q2,h0,Zap (b1 (hr.real q1 q2)) r1,hb⟩ fun o' i' j' h ob el t sz es h1 h2 h3=>?_⟩
      injection h with e1 e2 e3
      subst e1 e2 e3
      rw [ho0] at h1
      obtain rfl:=Option.some.inj (Option.some.inj h1)
      rw [q1] at h2
      obtain rfl:=Option.some.inj h2
      rw [q2] at h3
      exact hu ⟨_,_,_,Option.some.inj h3⟩
    ·obtain ⟨e0,he0,rfl⟩:=Zac h
     rw [Zho,List.length_map]
     exact hr.sz i e0 he0
    ·obtain ⟨e0,c0,q1,q2,rfl⟩:=Zjf h1 h2
     have:=hr.flat i e0 j c0 q1 q2
     cases c0 <;> first | rfl | cases this
    ·rcases hc with hc | hc
     ·exact hr.nimm hp i hc
     ·obtain ⟨o',i',j',h1,_⟩:=hc.owns (E:=E) (a:=a)
      exact (ZcQ hs h1).2.2.2 o x hx hp rfl
   gone:=fun o x hx=>by
    obtain ⟨ob,hob⟩:=hs.gone o x hx
    exact ⟨ob.unil,by rw [ZbF hob]; rfl⟩
   inj:=hs.inj
   own:=by
    have key:∀ p b,Zan E (s.map (Option.map Ob.unil)) a w gu p b → Zan E s a w g p b:=by
     intro p b hp
     cases p with
     | slot t=>exact hp
     | cell o i j =>
      obtain ⟨ob,x,el,c,rv,h1,h2,h3,h4,h0,h5,h6⟩:=hp
      obtain ⟨ob0,ho0,rfl⟩:=ZkW h1
      obtain ⟨e0,c0,q1,q2,rfl⟩:=Zjf h3 h4
      have hc:Zmu c0 = c0:=by
       cases c0 <;> first | rfl | skip
       rcases h0 with ⟨_,_,_,h0⟩ | ⟨_,_,_,h0⟩ <;> cases h0
      rw [hc] at h0 h6
      exact ⟨ob0,x,e0,c0,rv,ho0,h2,q1,q2,h0,h5,h6⟩
    exact fun p q b hp hq=>hs.own p q b (key p b hp) (key q b hq)
   sub:=fun b i h=>.inl (hs.sub b i h)
   immlt:=fun b i hi=>by
    rcases hi with hi | hi
    ·exact hs.immlt b i hi
    ·obtain ⟨o',i',j',h1,_⟩:=hi.owns (E:=E) (a:=a)
     exact Zek hs h1
   basele:=hs.basele
   susplt:=hs.susplt }
theorem UniOk.listS {g g':G} {w:World} {t:TypeId} {sz:Nat} {es:List V} {rv:Value} (h:UniOk C g w t sz es rv) (hi:∀ b i,Za0 rv = some b → g'.safe b i):DR g' w false (.list sz es .sh) rv:=by
 rcases h.row with ⟨A,rfl,rfl⟩ | ⟨blk,bo,cap,c,cur,rfl,h1,h2,h3,h4,h5,h6,h7,h8,h9⟩
 ·exact .list sz [] .sh A 0 0 0 0 (fun _ _=>undef) rfl (Nat.le_refl _) (by simp) (.inl rfl) (fun i e h=>by simp [nth] at h) (fun i e j x h=>by simp [nth] at h) (fun i e j x h=>by simp [nth] at h) (fun i e j x h=>by simp [nth] at h) (fun i e j x h=>by simp [nth] at h)
 ·refine .list sz es .sh _ _ _ blk (bo * sz) (fun i j=>(cur[(bo + i) * sz + j]?).getD undef) rfl h3 (by simp) (.inr rfl) h.esz (fun i e j x h1 h2=>ZgP (h.scal i e j x h1 h2)) (fun i e j x _ _=>hi _ _ rfl) (fun i e j x k1 k2=>?_) (fun i e j x k1 k2=>?_)
  ·obtain ⟨y,y1,y2⟩:=h9 i e j x k1 k2
   rw [show bo * sz + i * sz + j = (bo + i) * sz + j by rw [Nat.add_mul],y1]
   exact Zap h2 y1
  ·obtain ⟨y,y1,y2⟩:=h9 i e j x k1 k2
   rw [y1]
   exact y2 _ _ _
theorem Zhn (e:V):e.unis.cells = e.cells.map Zl9:=by
 cases e <;> rfl
theorem ZiM {ob:Ob} {i j:Nat} {e c:V} (h1:nth ob.unis.es i = some e) (h2:nth e.cells j = some c):∃ e0 c0,nth ob.es i = some e0 ∧ nth e0.cells j = some c0 ∧ c = Zl9 c0:=by
 obtain ⟨e0,he0,rfl⟩:=Zac h1
 rw [Zhn] at h2
 obtain ⟨c0,hc0,rfl⟩:=Zac h2
 exact ⟨e0,c0,he0,hc0,rfl⟩
theorem ZkE {s:S} {o:Nat} {ob:Ob} (h:nth (s.map (Option.map Ob.unis)) o = some (some ob)):∃ ob0,nth s o = some (some ob0) ∧ ob = ob0.unis:=by
 obtain ⟨y,hy,h2⟩:=Zac h
 cases y with
 | none=>cases h2
 | some ob0=>exact ⟨ob0,hy,(Option.some.inj h2).symm⟩
theorem Sim.ripe {g:G} {a:Act} {w:World} (hs:Sim C g E s a w):∃ gu,Sim C gu E (Zto s) a w ∧ Keeps g w gu w ∧ (∀ b i,gu.safe b i ↔ g.safe b i ∨ ZoZ s w g b) ∧ gu.obs = g.obs ∧ gu.susp = g.susp ∧ gu.base = g.base:=by
  let gu:G:={ g with imm:=fun b i=>g.imm b i ∨ ZoZ s w g b,safe:=fun b i=>g.safe b i ∨ ZoZ s w g b }
  have hk:Keeps g w gu w:=⟨fun _ _ h=>.inl h,fun _ _ h=>.inl h,fun _ _ _=>rfl⟩
  have hol:ObsLe g gu:=⟨Nat.le_refl _,fun _ _ x' h=>⟨x',h,Nat.le_refl _,fun _=>rfl⟩⟩
  have side:∀ p b,Zan E s a w g p b → (∀ o i j,p = .cell o i j → ∀ ob el t sz es,nth s o = some (some ob) → nth ob.es i = some el → nth el.cells j ≠ some (.uni t sz es)) → OwnSide g gu w w b:=by
   intro p b hp hn
   refine ⟨rfl,fun h=>h,fun i hc=>?_,fun o x hx _ _=>⟨o,hx⟩⟩
   rcases hc with hc | hc
   ·exact hc
   ·obtain ⟨o,i,j,h1,ob,el,t,sz,es,h2,h3,h4⟩:=hc.owns (E:=E) (a:=a)
    have:=hs.own _ _ b hp h1
    exact absurd h4 (hn o i j this ob el t sz es h2 h3)
  refine ⟨gu,?_,hk,fun _ _=>Iff.rfl,rfl,rfl,rfl⟩
  simp only [Zto]
  exact {
   len:=hs.len
   env:=fun t v hv=>by
    obtain ⟨rv,h1,h2,h3⟩:=hs.env t v hv
    exact ⟨rv,h1,h2.keeps hs.sub hk hol,h3.side rfl fun h0 b hb=>side (.slot t) b ⟨v,rv,hv,h0,h1,hb⟩ fun _ _ _ h=>by cases h⟩
   olen:=by rw [List.length_map]; exact hs.olen
   obj:=fun o ob ho=>by
    obtain ⟨ob0,ho0,rfl⟩:=ZkE ho
    obtain ⟨x,hx,hr⟩:=hs.obj o ob0 ho0
    obtain ⟨arr,cap,b1,b2,b3,b4,b5,b7,b6⟩:=hr.blk
    refine ⟨x,hx,hr.ver,hr.esz,hr.ty,hr.known,⟨arr,cap,b1,b2,b3,b4,by simpa [Ob.unis] using b5,b7,fun i e j c h1 h2=>?_⟩,fun i e h=>?_,fun i e j c h1 h2=>?_,hr.base,hr.nsusp,fun hp i hc=>?_⟩
    ·obtain ⟨e0,c0,q1,q2,rfl⟩:=ZiM h1 h2
     obtain ⟨rv,r1,r2,r3⟩:=b6 i e0 j c0 q1 q2
     refine ⟨rv,r1,?_⟩
     by_cases hu:∃ t sz es,c0 = .uni t sz es
     ·obtain ⟨t,sz,es,rfl⟩:=hu
      exact ⟨.data ((r3.uni t sz es rfl).listS fun b i' hb=>.inr ⟨o,i,j,ob0,x,e0,t,sz,es,rv,ho0,hx,q1,q2,Zap (b1 (hr.real q1 q2)) r1,hb⟩),OwnOk.of_not (by simp [V.still,Zl9])⟩
     ·have hc:Zl9 c0 = c0:=by cases c0 <;> first | rfl | exact absurd ⟨_,_,_,rfl⟩ hu
      rw [hc]
      refine ⟨r2.keeps hs.sub hk hol,r3.side rfl fun h0 b hb=>side (.cell o i j) b ⟨ob0,x,e0,c0,rv,ho0,hx,q1,q2,h0,Zap (b1 (hr.real q1 q2)) r1,hb⟩ fun o' i' j' h ob el t sz es h1 h2 h3=>?_⟩
      injection h with e1 e2 e3
      subst e1 e2 e3
      rw [ho0] at h1
      obtain rfl:=Option.some.inj (Option.some.inj h1)
      rw [q1] at h2
      obtain rfl:=Option.some.inj h2
      rw [q2] at h3
      exact hu ⟨_,_,_,Option.some.inj h3⟩
    ·obtain ⟨e0,he0,rfl⟩:=Zac h
     rw [Zhn,List.length_map]
     exact hr.sz i e0 he0
    ·obtain ⟨e0,c0,q1,q2,rfl⟩:=ZiM h1 h2
     have:=hr.flat i e0 j c0 q1 q2
     cases c0 <;> first | rfl | cases this
    ·rcases hc with hc | hc
     ·exact hr.nimm hp i hc
     ·obtain ⟨o',i',j',h1,_⟩:=hc.owns (E:=E) (a:=a)
      exact (ZcQ hs h1).2.2.2 o x hx hp rfl
   gone:=fun o x hx=>by
    obtain ⟨ob,hob⟩:=hs.gone o x hx
    exact ⟨ob.unis,by rw [ZbF hob]; rfl⟩
   inj:=hs.inj
   own:=by
    have key:∀ p b,Zan E (s.map (Option.map Ob.unis)) a w gu p b → Zan E s a w g p b:=by
     intro p b hp
     cases p with
     | slot t=>exact hp
     | cell o i j =>
      obtain ⟨ob,x,el,c,rv,h1,h2,h3,h4,h0,h5,h6⟩:=hp
      obtain ⟨ob0,ho0,rfl⟩:=ZkE h1
      obtain ⟨e0,c0,q1,q2,rfl⟩:=ZiM h3 h4
      have hc:Zl9 c0 = c0:=by
       cases c0 <;> first | rfl | skip
       rcases h0 with ⟨_,_,_,h0⟩ | ⟨_,_,_,h0⟩ <;> cases h0
      rw [hc] at h0 h6
      exact ⟨ob0,x,e0,c0,rv,ho0,h2,q1,q2,h0,h5,h6⟩
    exact fun p q b hp hq=>hs.own p q b (key p b hp) (key q b hq)
   sub:=fun b i h=>h.imp (hs.sub b i) id
   immlt:=fun b i hi=>by
    rcases hi with hi | hi
    ·exact hs.immlt b i hi
    ·obtain ⟨o',i',j',h1,_⟩:=hi.owns (E:=E) (a:=a)
     exact Zek hs h1
   basele:=hs.basele
   susplt:=hs.susplt }
end
end Go.VM
