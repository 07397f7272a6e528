/- Rows that lie in cells: out of them, and back. -/
import Derived.Test.YtkchbabkbpcncaaVmRf
set_option linter.unusedSimpArgs false
set_option linter.unusedVariables false
namespace Go.VM
open Go.RowKit Go.Lib
section
variable {P:Program} {C:Cfg} {o:Oper} {E:List V} {s:S} {R:Type}
theorem Zun {g:G} {w:World} {c:V} {x:Value} (h:VR g w c x) (hc:c.scal = true):∀ g w l,DR g w l c x:=by
 intro g' w' l
 cases c <;> first | (cases hc; done) | skip
 ·rw [h.bool_inv]; exact .bool _
 ·rw [h.int_inv]; exact .int _ _
 ·rw [h.str_inv]; exact .str _
theorem Sim.ghost {g g':G} {s':S} {a:Act} {w:World} (hs:Sim C g E s a w) (hbase:g'.base = g.base) (himm:g'.imm = g.imm) (hsafe:g'.safe = g.safe) (hsusp:g'.susp = g.susp) (hol:ObsLe g g')
  (hlen:g'.obs.length = s'.length)
  (hnew:∀ t b,Zan E s a w g (.slot t) b → ∀ o x,nth g'.obs o = some (some x) → 0 < x.2.2.2.1 → x.2.1 = b → ∃ o',nth g.obs o' = some (some x))
  (hobj:∀ o ob,nth s' o = some (some ob) → ∃ x,nth g'.obs o = some (some x) ∧ ObR C g' w ob x)
  (hgone:∀ o x,nth g'.obs o = some (some x) → ∃ ob,nth s' o = some (some ob))
  (hinj:∀ o o' x x',nth g'.obs o = some (some x) → nth g'.obs o' = some (some x') → 0 < x.2.2.2.1 → 0 < x'.2.2.2.1 → x.2.1 = x'.2.1 → o = o')
  (hown:∀ p q b,Zan E s' a w g' p b → Zan E s' a w g' q b → p = q):Sim C g' E s' a w ∧ ∀ keep,keep ≤ s.length → Le keep g w g' w:=by
 have hk:Keeps g w g' w:=⟨fun b i h=>by rw [himm]; exact h,fun b i h=>by rw [hsafe]; exact h,fun _ _ _=>rfl⟩
 refine ⟨{
  len:=hs.len
  env:=fun t v hv=>by
   obtain ⟨rv,h1,h2,h3⟩:=hs.env t v hv
   exact ⟨rv,h1,h2.keeps hs.sub hk hol,h3.side hbase fun h0 b hb=>⟨rfl,fun h=>by rw [← hsusp]; exact h,fun i h=>by rw [← himm]; exact h,fun o x hx hp hxb=>hnew t b ⟨v,rv,hv,h0,h1,hb⟩ o x hx hp hxb⟩⟩
  olen:=hlen
  obj:=hobj
  gone:=hgone
  inj:=hinj
  own:=hown
  sub:=fun b i h=>by rw [himm]; rw [hsafe] at h; exact hs.sub b i h
  immlt:=fun b i h=>by rw [himm] at h; exact hs.immlt b i h
  basele:=by rw [hbase]; exact hs.basele
  susplt:=fun b h=>by rw [hsusp] at h; exact hs.susplt b h },fun keep hkp=>{
  keeps:=hk
  size:=Nat.le_refl _
  os:=rfl
  tape:=rfl
  output:=rfl
  base:=hbase
  susp:=fun b=>by rw [hsusp]
  low:=fun _ _=>rfl
  sus:=fun b _=>⟨rfl,fun i h=>by rw [← himm]; exact h,fun i h=>by rw [← hsafe]; exact h⟩
  klen:=by have:=hol.len; rw [hs.olen] at this; omega
  obs:=fun o ho x' hx=>hol.at_ o (by rw [hs.olen]; omega) x' hx }⟩
theorem ObR.recell {g g':G} {w:World} {ob:Ob} {x:OX} (hr:ObR C g w ob x) (es':List V) (hbase:g'.base = g.base) (himm:g'.imm = g.imm) (hsusp:g'.susp = g.susp) (hlen:es'.length ≤ ob.es.length)
  (hsz:∀ i e,nth es' i = some e → e.cells.length = ob.esz) (hfl:∀ i e j c,nth es' i = some e → nth e.cells j = some c → c.flatCell = true)
  (hc:∀ i e j c,nth es' i = some e → nth e.cells j = some c → ∃ e0 c0,nth ob.es i = some e0 ∧ nth e0.cells j = some c0 ∧
   ∀ rv,w.cell? ⟨x.2.1,(x.2.2.2.2 + i) * ob.esz + j,none⟩ = some rv → VR g w c0 rv → OwnOk C g w c0 rv → VR g' w c rv ∧ OwnOk C g' w c rv):ObR C g' w { ob with es:=es' } x:=by
 obtain ⟨arr,cap,b1,b2,b3,b4,b5,b7,b6⟩:=hr.blk
 refine ⟨hr.ver,hr.esz,hr.ty,hr.known,⟨arr,cap,b1,b2,b3,b4,Nat.le_trans hlen b5,b7,fun i e j c h1 h2=>?_⟩,hsz,hfl,fun h=>by rw [hbase]; exact hr.base h,fun h=>by rw [hsusp]; exact hr.nsusp h,fun h i=>by rw [himm]; exact hr.nimm h i⟩
 obtain ⟨e0,c0,q1,q2,q3⟩:=hc i e j c h1 h2
 obtain ⟨rv,r1,r2,r3⟩:=b6 i e0 j c0 q1 q2
 exact ⟨rv,r1,q3 rv (Zap (b1 (hr.real q1 q2)) r1) r2 r3⟩
theorem ZeA {es:List V} {i j:Nat} {el el' u:V} (hi:nth es i = some el) (hp:putCells el j [u] = some el') (hu:u.flatCell = true) {i2 j2:Nat} {e2 c:V} (h1:nth (Zai es i el') i2 = some e2)
  (h2:nth e2.cells j2 = some c):(i2 = i ∧ j2 = j ∧ c = u) ∨ (¬ (i2 = i ∧ j2 = j) ∧ ∃ e3,nth es i2 = some e3 ∧ nth e3.cells j2 = some c):=by
 obtain ⟨q1,q2⟩:=Zcd hp (fun c hc cs h=>by
  rw [List.mem_singleton] at hc
  subst hc; subst h; cases hu)
 by_cases hii:i = i2
 ·subst hii
  obtain rfl:=Zar h1
  rw [q1] at h2
  rcases ZcC q2 h2 with ⟨m1,m2,m3⟩ | ⟨m1,m2⟩
  ·simp only [List.length_singleton] at m2
   have hj:j2 = j:=by omega
   subst hj
   rw [Nat.sub_self] at m3
   exact .inl ⟨rfl,rfl,(Option.some.inj m3).symm⟩
  ·simp only [List.length_singleton] at m1
   exact .inr ⟨fun h=>by omega,el,hi,m2⟩
 ·rw [Zaj hii] at h1
  exact .inr ⟨fun h=>hii h.1.symm,e2,h1,h2⟩
theorem Zmx {es:List V} {i j n:Nat} {el el' u:V} (hi:nth es i = some el) (hp:putCells el j [u] = some el') (hu:u.flatCell = true) (hsz:∀ i e,nth es i = some e → e.cells.length = n) {i2:Nat} {e2:V}
  (h1:nth (Zai es i el') i2 = some e2):e2.cells.length = n:=by
 obtain ⟨q1,q2⟩:=Zcd hp (fun c hc cs h=>by
  rw [List.mem_singleton] at hc
  subst hc; subst h; cases hu)
 by_cases hii:i = i2
 ·subst hii
  obtain rfl:=Zar h1
  have:=hsz i el hi
  rw [q1]; simp at q2 ⊢; omega
 ·rw [Zaj hii] at h1
  exact hsz i2 e2 h1
theorem Zjs {l:List V} (h:l.all V.scalE = true) {i j:Nat} {e c:V} (h1:nth l i = some e) (h2:nth e.cells j = some c):c.scal = true:=by
 rw [Zad] at h1 h2
 have:=List.all_eq_true.1 h e (List.mem_of_getElem? h1)
 exact List.all_eq_true.1 this c (List.mem_of_getElem? h2)
theorem Sim.inl {g:G} {a:Act} {w:World} (hs:Sim C g E s a w) {oo n i j ver off len:Nat} {ob rb:Ob} {el el':V} (h1:nth s oo = some (some ob)) (h2:nth ob.es i = some el) (h3:nth el.cells j = some (.arr n ver off len))
  (h4:Zbs s n ver = some rb) (hne:n ≠ oo) (hth:C.thaw = false) (hp:0 < rb.esz) (hle:off + len ≤ rb.es.length) (hsc:((rb.es.drop off).take len).all V.scalE = true)
  (hput:putCells el j [.uni rb.elem rb.esz ((rb.es.drop off).take len)] = some el') :
  Sim C { g with obs:=Zai g.obs n none } E (Zai (Zai s oo (some { ob with es:=Zai ob.es i el' })) n none) a w ∧ ∀ keep,keep ≤ s.length → Le keep g w { g with obs:=Zai g.obs n none } w:=by
 obtain ⟨h4,hver⟩:=ZaY h4
 obtain ⟨x,hx,hr⟩:=hs.obj oo ob h1
 obtain ⟨xn,hxn,hrn⟩:=hs.obj n rb h4
 have hS:∀ o ob2,nth (Zai (Zai s oo (some { ob with es:=Zai ob.es i el' })) n none) o = some (some ob2) → o ≠ n ∧ ((o = oo ∧ ob2 = { ob with es:=Zai ob.es i el' }) ∨ (o ≠ oo ∧ nth s o = some (some ob2))):=by
  intro o ob2 h
  by_cases hn:n = o
  ·subst hn; cases Zar h
  ·rw [Zaj hn] at h
   refine ⟨fun hc=>hn hc.symm,?_⟩
   by_cases ho:oo = o
   ·subst ho; exact .inl ⟨rfl,Option.some.inj (Zar h)⟩
   ·rw [Zaj ho] at h; exact .inr ⟨fun hc=>ho hc.symm,h⟩
 have hG:∀ o y,nth (Zai g.obs n none) o = some (some y) → o ≠ n ∧ nth g.obs o = some (some y):=by
  intro o y h
  by_cases hn:n = o
  ·subst hn; cases Zar h
  ·rw [Zaj hn] at h; exact ⟨fun hc=>hn hc.symm,h⟩
 have hu:V.flatCell (.uni rb.elem rb.esz ((rb.es.drop off).take len)) = true:=rfl
 have hol:ObsLe g { g with obs:=Zai g.obs n none }:=⟨by rw [Zak]; exact Nat.le_refl _,fun o _ x' h=>⟨x',(hG o x' h).2,Nat.le_refl _,fun _=>rfl⟩⟩
 have hk:Keeps g w { g with obs:=Zai g.obs n none } w:=⟨fun _ _ h=>h,fun _ _ h=>h,fun _ _ _=>rfl⟩
 have own2:∀ v rv,OwnOk C g w v rv → OwnOk C { g with obs:=Zai g.obs n none } w v rv:=fun v rv h=>h.side rfl fun h0 b hb=>⟨rfl,fun h=>h,fun _ h=>h,fun o x hx _ _=>⟨o,(hG o x hx).2⟩⟩
 have hcell:∀ rv,w.cell? ⟨x.2.1,(x.2.2.2.2 + i) * ob.esz + j,none⟩ = some rv → VR g w (.arr n ver off len) rv →
   UniOk C { g with obs:=Zai g.obs n none } w rb.elem rb.esz ((rb.es.drop off).take len) rv ∧ ∀ b,Za0 rv = some b → 0 < xn.2.2.2.1 ∧ b = xn.2.1:=by
  intro rv _ hvr
  have hll:((rb.es.drop off).take len).length = len:=by simp; omega
  have hesz:∀ i e,nth ((rb.es.drop off).take len) i = some e → nth rb.es (off + i) = some e:=fun i e h=>ZbQ (ZbP h).1
  cases hvr with
  | data h=>cases h
  | arr _ _ _ _ A c hc ho h =>
   obtain ⟨q1,q2⟩:=h xn hxn
   obtain ⟨q3,q4⟩:=q2 (by rw [hrn.ver,hver])
   obtain ⟨arr,cap,b1,b2,b3,b4,b5,b7,b6⟩:=hrn.blk
   cases c with
   | zero =>
    obtain rfl:len = 0:=by omega
    exact ⟨⟨hrn.known,hrn.ty,fun i e h=>by simp [nth] at h,fun i e j c h=>by simp [nth] at h,.inl ⟨A,rfl,by simp⟩,fun b hb=>by cases A <;> simp [Za0] at hb⟩,fun b hb=>by cases A <;> simp [Za0] at hb⟩
   | succ c =>
    have hA:=q3.resolve_left (by omega)
    rw [hrn.esz] at hA q4
    subst hA
    have hpos:0 < xn.2.2.2.1:=by
     refine Nat.lt_of_lt_of_le ?_ q4
     exact Nat.mul_pos (by omega) hp
    have hcap:xn.2.2.2.2 + off + (c + 1) ≤ xn.2.2.2.2 + cap:=by
     rw [← b2,b3] at q4
     exact Nat.le_of_mul_le_mul_right q4 hp
    refine ⟨⟨hrn.known,hrn.ty,fun i e h=>hrn.sz _ e (hesz i e h),fun i e j c h h'=>Zjs hsc h h',.inr ⟨xn.2.1,xn.2.2.2.2 + off,cap - off,c,arr,by rw [hll],hrn.base hpos,?_,by rw [hll]; exact hc,by omega,by omega,hp,?_,b7,fun i e j c k1 k2=>?_⟩,fun b hb=>?_⟩,fun b hb=>?_⟩
    ·rw [b1 hpos]
     unfold Cfg.fz; rw [hth]
    ·rw [b3]; congr 1; omega
    ·obtain ⟨y,y1,y2,_⟩:=b6 (off + i) e j c (hesz i e k1) k2
     exact ⟨y,by rw [show xn.2.2.2.2 + off + i = xn.2.2.2.2 + (off + i) by omega]; exact y1,Zun y2 (Zjs hsc k1 k2)⟩
    ·simp only [Za0,Option.some.injEq] at hb
     subst hb
     exact ⟨hrn.nsusp hpos,hrn.nimm hpos,fun o y hy hyp hyb=>(hG o y hy).1 (hs.inj o n y xn (hG o y hy).2 hxn hyp hpos hyb)⟩
    ·simp only [Za0,Option.some.injEq] at hb
     exact ⟨hpos,hb.symm⟩
 obtain ⟨rv0,hrv0,hvr0,_⟩:∃ rv,w.cell? ⟨x.2.1,(x.2.2.2.2 + i) * ob.esz + j,none⟩ = some rv ∧ VR g w (.arr n ver off len) rv ∧ True:=by
  obtain ⟨arr,cap,b1,b2,b3,b4,b5,b7,b6⟩:=hr.blk
  obtain ⟨rv,r1,r2,_⟩:=b6 i el j _ h2 h3
  exact ⟨rv,Zap (b1 (hr.real h2 h3)) r1,r2,trivial⟩
 have key:∀ p b,Zan E (Zai (Zai s oo (some { ob with es:=Zai ob.es i el' })) n none) a w { g with obs:=Zai g.obs n none } p b → (p = .cell oo i j ∧ 0 < xn.2.2.2.1 ∧ b = xn.2.1) ∨ Zan E s a w g p b:=by
  intro p b hp
  cases p with
  | slot t=>exact .inr hp
  | cell o' i' j' =>
   obtain ⟨ob2,x2,el2,c,rv,k1,k2,k3,k4,k0,k5,k6⟩:=hp
   have k2':=(hG o' x2 k2).2
   rcases (hS o' ob2 k1).2 with ⟨rfl,rfl⟩ | ⟨k7,k8⟩
   ·obtain rfl:x2 = x:=Option.some.inj (Option.some.inj (k2'.symm.trans hx))
    rcases ZeA h2 hput hu k3 k4 with ⟨rfl,rfl,rfl⟩ | ⟨_,e3,m1,m2⟩
    ·left
     rw [show ({ ob with es:=Zai ob.es i' el' }:Ob).esz = ob.esz from rfl] at k5
     obtain ⟨q1,q2⟩:=hcell rv k5 (by rw [hrv0] at k5; obtain rfl:=Option.some.inj k5; exact hvr0)
     exact ⟨rfl,q2 b k6⟩
    ·exact .inr ⟨ob,x2,e3,c,rv,h1,hx,m1,m2,k0,k5,k6⟩
   ·exact .inr ⟨ob2,x2,el2,c,rv,k8,k2',k3,k4,k0,k5,k6⟩
 have nown:∀ q,0 < xn.2.2.2.1 → ¬ Zan E s a w g q xn.2.1:=fun q hpos hq=>(ZcQ hs hq).2.2.2 n xn hxn hpos rfl
 refine hs.ghost rfl rfl rfl rfl hol (by simp only [Zak]; exact hs.olen) (fun t b _ o y hy _ _=>⟨o,(hG o y hy).2⟩) (fun o' ob2 ho=>?_) (fun o' y hy=>?_) (fun o1 o2 y y' k1 k2=>hs.inj o1 o2 y y' (hG o1 y k1).2 (hG o2 y' k2).2) (fun p q b hp hq=>?_)
 ·obtain ⟨hn',k⟩:=hS o' ob2 ho
  rcases k with ⟨rfl,rfl⟩ | ⟨k7,k8⟩
  ·refine ⟨x,by rw [Zaj hne]; exact hx,hr.recell _ rfl rfl rfl (by rw [Zak]; exact Nat.le_refl _) (fun i2 e2 k=>Zmx h2 hput hu hr.sz k) (fun i2 e2 j2 c k k'=>?_) fun i2 e2 j2 c k k'=>?_⟩
   ·rcases ZeA h2 hput hu k k' with ⟨_,_,rfl⟩ | ⟨_,e3,m1,m2⟩
    ·rfl
    ·exact hr.flat i2 e3 j2 c m1 m2
   ·rcases ZeA h2 hput hu k k' with ⟨rfl,rfl,rfl⟩ | ⟨_,e3,m1,m2⟩
    ·refine ⟨el,_,h2,h3,fun rv q1 q2 _=>?_⟩
     have hu2:=(hcell rv q1 q2).1
     refine ⟨?_,fun sz es e h=>by (cases h),fun cs h=>by (cases h),fun t sz es h=>by injection h with e1 e2 e3; subst e1 e2 e3; exact hu2⟩
     rcases hu2.row with ⟨A,rfl,_⟩ | ⟨_,_,_,_,_,rfl,_⟩ <;> exact .uni ..
    ·exact ⟨e3,c,m1,m2,fun rv _ q2 q3=>⟨q2.keeps hs.sub hk hol,own2 c rv q3⟩⟩
  ·obtain ⟨y,hy,hry⟩:=hs.obj o' ob2 k8
   exact ⟨y,by show nth (Zai g.obs n none) o' = _; rw [Zaj (Ne.symm hn')]; exact hy,hry.recell ob2.es rfl rfl rfl (Nat.le_refl _) hry.sz hry.flat fun i2 e2 j2 c k k'=>⟨e2,c,k,k',fun rv _ q2 q3=>⟨q2.keeps hs.sub hk hol,own2 c rv q3⟩⟩⟩
 ·obtain ⟨k1,k2⟩:=hG o' y hy
  obtain ⟨ob2,hob2⟩:=hs.gone o' y k2
  by_cases hoo:oo = o'
  ·subst hoo
   exact ⟨_,by rw [Zaj (Ne.symm k1),Za3 h1]⟩
  ·exact ⟨ob2,by rw [Zaj (Ne.symm k1),Zaj hoo]; exact hob2⟩
 ·rcases key p b hp with ⟨rfl,hpos,hb0⟩ | hp2 <;> rcases key q b hq with ⟨rfl,hpos',hb⟩ | hq2
  ·rfl
  ·rw [hb0] at hq2; exact absurd hq2 (nown q hpos)
  ·rw [hb] at hp2; exact absurd hp2 (nown p hpos')
  ·exact hs.own p q b hp2 hq2
theorem Sim.outl {g:G} {a:Act} {w:World} (hs:Sim C g E s a w) {oo i j t sz:Nat} {ob:Ob} {el el':V} {es:List V} (h1:nth s oo = some (some ob)) (h2:nth ob.es i = some el) (h3:nth el.cells j = some (.uni t sz es))
  (hput:putCells el j [.arr s.length 0 0 es.length] = some el') :
  ∃ x rv,nth g.obs oo = some (some x) ∧ w.cell? ⟨x.2.1,(x.2.2.2.2 + i) * ob.esz + j,none⟩ = some rv ∧ 0 < x.2.2.2.1 ∧ ∃ y,VR (g.add y) w (.arr s.length 0 0 es.length) rv ∧
   Sim C (g.add y) E (Zai s oo (some { ob with es:=Zai ob.es i el' }) ++ [some { es:=es,esz:=sz,elem:=t,ver:=0 }]) a w ∧ ∀ keep,keep ≤ s.length → Le keep g w (g.add y) w:=by
 obtain ⟨x,hx,hr⟩:=hs.obj oo ob h1
 obtain ⟨arr,cap,b1,b2,b3,b4,b5,b7,b6⟩:=hr.blk
 obtain ⟨rv,r1,r2,r3⟩:=b6 i el j _ h2 h3
 have hpx:=hr.real h2 h3
 have r1':=Zap (b1 hpx) r1
 have hun:=r3.uni t sz es rfl
 refine ⟨x,rv,hx,r1',hpx,?_⟩
 have hu:V.flatCell (.arr s.length 0 0 es.length) = true:=rfl
 obtain ⟨y,hy0,hy1,hyb,hvr,hyr⟩:∃ y:OX,y.1 = 0 ∧ y.2.2.1 = sz ∧ (0 < y.2.2.2.1 → Za0 rv = some y.2.1) ∧ VR (g.add y) w (.arr s.length 0 0 es.length) rv ∧
   ObR C (g.add y) w { es:=es,esz:=sz,elem:=t,ver:=0 } y:=by
  rcases hun.row with ⟨A,rfl,rfl⟩ | ⟨blk,bo,cp,c,cur,rfl,k1,k2,k3,k4,k5,k6,k7,k8,k9⟩
  ·refine ⟨(0,0,sz,0,0),rfl,rfl,fun h=>absurd h (Nat.lt_irrefl 0),.arr _ _ _ _ _ _ (Nat.le_refl 0) (by simp [G.add,hs.olen]) fun z hz=>?_,?_⟩
   ·simp only [G.add] at hz
    rw [← hs.olen,Zaz] at hz
    obtain rfl:=Option.some.inj (Option.some.inj hz)
    exact ⟨Nat.le_refl _,fun _=>⟨.inl rfl,by simp⟩⟩
   ·exact ⟨rfl,rfl,hun.size,hun.known,⟨#[],0,fun hp=>absurd hp (Nat.lt_irrefl 0),rfl,by simp,Nat.zero_le _,Nat.le_refl _,fun k v hv=>by simp at hv,fun i el j c h1=>by simp [nth] at h1⟩,
     fun i el h1=>by simp [nth] at h1,fun i el j c h1=>by simp [nth] at h1,fun hp=>absurd hp (Nat.lt_irrefl 0),fun hp=>absurd hp (Nat.lt_irrefl 0),fun hp=>absurd hp (Nat.lt_irrefl 0)⟩
  ·obtain ⟨u1,u2,u3⟩:=hun.blk blk rfl
   refine ⟨(0,blk,sz,cur.size,bo),rfl,rfl,fun _=>rfl,.arr _ _ _ _ _ _ k3 (by simp [G.add,hs.olen]) fun z hz=>?_,?_⟩
   ·simp only [G.add] at hz
    rw [← hs.olen,Zaz] at hz
    obtain rfl:=Option.some.inj (Option.some.inj hz)
    refine ⟨Nat.le_refl _,fun _=>⟨.inr (by simp),?_⟩⟩
    simp only [Nat.add_zero]
    rw [k7]
    exact Nat.mul_le_mul_right _ (by omega)
   ·refine ⟨rfl,rfl,hun.size,hun.known,⟨cur,cp,fun _=>k2,rfl,k7,k5,by show es.length ≤ cp; omega,k8,fun i e j c h1 h2=>?_⟩,hun.esz,fun i e j c h1 h2=>ZgP (hun.scal i e j c h1 h2),fun _=>k1,fun _=>u1,fun _=>u2⟩
    obtain ⟨z,z1,z2⟩:=k9 i e j c h1 h2
    refine ⟨z,z1,.data (z2 _ _ _),OwnOk.of_not ?_⟩
    have:=hun.scal i e j c h1 h2
    cases c <;> first | (cases this; done) | simp [V.still]
 refine ⟨y,hvr,?_⟩
 have hS:∀ o ob2,nth (Zai s oo (some { ob with es:=Zai ob.es i el' }) ++ [some ({ es:=es,esz:=sz,elem:=t,ver:=0 }:Ob)]) o = some (some ob2) →
   (o = s.length ∧ ob2 = { es:=es,esz:=sz,elem:=t,ver:=0 }) ∨ (o < s.length ∧ ((o = oo ∧ ob2 = { ob with es:=Zai ob.es i el' }) ∨ (o ≠ oo ∧ nth s o = some (some ob2)))):=by
  intro o ob2 h
  rcases Zax h with ⟨k1,k2⟩ | ⟨k1,k2⟩
  ·rw [Zak] at k1
   refine .inr ⟨k1,?_⟩
   by_cases ho:oo = o
   ·subst ho; exact .inl ⟨rfl,Option.some.inj (Zar k2)⟩
   ·rw [Zaj ho] at k2; exact .inr ⟨fun hc=>ho hc.symm,k2⟩
  ·rw [Zak] at k1
   exact .inl ⟨k1,Option.some.inj k2⟩
 have hG:∀ o z,nth (g.add y).obs o = some (some z) → (o < s.length ∧ nth g.obs o = some (some z)) ∨ (o = s.length ∧ z = y):=by
  intro o z h
  rcases Zax h with ⟨k1,k2⟩ | ⟨k1,k2⟩
  ·exact .inl ⟨by rw [← hs.olen]; exact k1,k2⟩
  ·exact .inr ⟨by rw [← hs.olen]; exact k1,Option.some.inj k2⟩
 have hGlt:∀ o,o < s.length → nth (g.add y).obs o = nth g.obs o:=fun o ho=>Zal (by rw [hs.olen]; exact ho)
 have hoolt:oo < s.length:=Zau h1
 have hol:ObsLe g (g.add y):=ObsLe.add g y
 have hk:Keeps g w (g.add y) w:=Keeps.add g w y fun _ _ _=>rfl
 have hcellown:∀ b,Za0 rv = some b → Zan E s a w g (.cell oo i j) b:=fun b hb=>⟨ob,x,el,_,rv,h1,hx,h2,h3,.inr ⟨t,sz,es,rfl⟩,r1',hb⟩
 have own2:∀ p c rv',(∀ b,c.owns → c.blockOf rv' = some b → Zan E s a w g p b) → p ≠ .cell oo i j → OwnOk C g w c rv' → OwnOk C (g.add y) w c rv':=fun p c rv' hp hne h=>h.side rfl fun h0 b hb=>⟨rfl,fun h=>h,fun _ h=>h,fun o z hz hpz hzb=>by
  rcases hG o z hz with ⟨_,k⟩ | ⟨_,rfl⟩
  ·exact ⟨o,k⟩
  ·have:=hyb hpz
   rw [hzb] at this
   exact absurd (hs.own _ _ b (hp b h0 hb) (hcellown b this)) hne⟩
 have key:∀ p b,Zan E (Zai s oo (some { ob with es:=Zai ob.es i el' }) ++ [some ({ es:=es,esz:=sz,elem:=t,ver:=0 }:Ob)]) a w (g.add y) p b → Zan E s a w g p b:=by
  intro p b hp
  cases p with
  | slot t=>exact hp
  | cell o' i' j' =>
   obtain ⟨ob2,x2,el2,c,rv',k1,k2,k3,k4,k0,k5,k6⟩:=hp
   rcases hS o' ob2 k1 with ⟨k7,rfl⟩ | ⟨k7,k8⟩
   ·have:=hun.scal i' el2 j' c k3 k4
    rcases k0 with ⟨_,_,_,rfl⟩ | ⟨_,_,_,rfl⟩ <;> cases this
   ·rw [hGlt o' k7] at k2
    rcases k8 with ⟨rfl,rfl⟩ | ⟨k9,k10⟩
    ·obtain rfl:x2 = x:=Option.some.inj (Option.some.inj (k2.symm.trans hx))
     rcases ZeA h2 hput hu k3 k4 with ⟨rfl,rfl,rfl⟩ | ⟨_,e3,m1,m2⟩
     ·rcases k0 with ⟨_,_,_,k0⟩ | ⟨_,_,_,k0⟩ <;> cases k0
     ·exact ⟨ob,x2,e3,c,rv',h1,hx,m1,m2,k0,k5,k6⟩
    ·exact ⟨ob2,x2,el2,c,rv',k10,k2,k3,k4,k0,k5,k6⟩
 refine hs.ghost rfl rfl rfl rfl hol (by simp [G.add,Zak,hs.olen]) (fun t' b hb o z hz hpz hzb=>?_) (fun o' ob2 ho=>?_) (fun o' z hz=>?_) (fun o1 o2 z z' k1 k2 hp1 hp2 hb=>?_) (fun p q b hp hq=>hs.own p q b (key p b hp) (key q b hq))
 ·rcases hG o z hz with ⟨_,k⟩ | ⟨_,rfl⟩
  ·exact ⟨o,k⟩
  ·have:=hyb hpz
   rw [hzb] at this
   cases hs.own _ _ b hb (hcellown b this)
 ·rcases hS o' ob2 ho with ⟨rfl,rfl⟩ | ⟨k7,k8⟩
  ·exact ⟨y,by simp only [G.add]; rw [← hs.olen,Zaz],hyr⟩
  ·rcases k8 with ⟨rfl,rfl⟩ | ⟨k9,k10⟩
   ·refine ⟨x,by rw [hGlt _ k7]; exact hx,hr.recell _ rfl rfl rfl (by rw [Zak]; exact Nat.le_refl _) (fun i2 e2 k=>Zmx h2 hput hu hr.sz k) (fun i2 e2 j2 c k k'=>?_) fun i2 e2 j2 c k k'=>?_⟩
    ·rcases ZeA h2 hput hu k k' with ⟨_,_,rfl⟩ | ⟨_,e3,m1,m2⟩
     ·rfl
     ·exact hr.flat i2 e3 j2 c m1 m2
    ·rcases ZeA h2 hput hu k k' with ⟨rfl,rfl,rfl⟩ | ⟨m0,e3,m1,m2⟩
     ·refine ⟨el,_,h2,h3,fun rv' q1 _ _=>?_⟩
      rw [r1'] at q1
      obtain rfl:=Option.some.inj q1
      exact ⟨hvr,OwnOk.of_not (by simp [V.still])⟩
     ·refine ⟨e3,c,m1,m2,fun rv' q1 q2 q3=>⟨q2.keeps hs.sub hk hol,own2 (.cell o' i2 j2) c rv' (fun b h0 hb=>⟨ob,x,e3,c,rv',h1,hx,m1,m2,h0,q1,hb⟩) (fun h=>?_) q3⟩⟩
      injection h with _ e2 e3
      exact m0 ⟨e2,e3⟩
   ·obtain ⟨z,hz,hrz⟩:=hs.obj o' ob2 k10
    refine ⟨z,by rw [hGlt _ k7]; exact hz,hrz.recell ob2.es rfl rfl rfl (Nat.le_refl _) hrz.sz hrz.flat fun i2 e2 j2 c k k'=>⟨e2,c,k,k',fun rv' q1 q2 q3=>⟨q2.keeps hs.sub hk hol,own2 (.cell o' i2 j2) c rv' (fun b h0 hb=>⟨ob2,z,e2,c,rv',k10,hz,k,k',h0,q1,hb⟩) (fun h=>?_) q3⟩⟩⟩
    injection h with e1
    exact k9 e1
 ·rcases hG o' z hz with ⟨k1,k2⟩ | ⟨rfl,rfl⟩
  ·obtain ⟨ob2,hob2⟩:=hs.gone o' z k2
   by_cases hoo:oo = o'
   ·subst hoo
    exact ⟨_,by rw [Zal (by rw [Zak]; exact k1),Za3 h1]⟩
   ·exact ⟨ob2,by rw [Zal (by rw [Zak]; exact k1),Zaj hoo]; exact hob2⟩
  ·refine ⟨{ es:=es,esz:=sz,elem:=t,ver:=0 },?_⟩
   have:(Zai s oo (some { ob with es:=Zai ob.es i el' })).length = s.length:=Zak ..
   rw [← this]; exact Zaz
 ·have hnb:∀ o z,o < s.length → nth g.obs o = some (some z) → 0 < z.2.2.2.1 → 0 < y.2.2.2.1 → z.2.1 ≠ y.2.1:=fun o z _ hz hpz hpy hzy=>by
   exact (hun.blk _ (hyb hpy)).2.2 o z hz hpz hzy
  rcases hG o1 z k1 with ⟨m1,m2⟩ | ⟨rfl,rfl⟩ <;> rcases hG o2 z' k2 with ⟨n1,n2⟩ | ⟨rfl,rfl⟩
  ·exact hs.inj o1 o2 z z' m2 n2 hp1 hp2 hb
  ·exact absurd hb (hnb o1 z m1 m2 hp1 hp2)
  ·exact absurd hb.symm (hnb o2 z' n1 n2 hp2 hp1)
  ·rfl
end
end Go.VM
