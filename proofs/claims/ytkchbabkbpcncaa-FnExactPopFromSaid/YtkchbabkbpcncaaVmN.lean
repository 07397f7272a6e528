/- Appending to an object. -/
import Derived.Test.YtkchbabkbpcncaaVmM
set_option linter.unusedSimpArgs false
set_option linter.unusedVariables false
namespace Go.VM
open Go.RowKit Go.Lib
section
variable {P:Program} {C:Cfg} {o:Oper} {E:List V} {s:S}
def G.again (g:G) (oo:Nat) (x:OX):G:={ g with obs:=Zai g.obs oo (some x) }
theorem Za3 {α:Type} {l:List α} {n:Nat} {a b:α} (h:nth l n = some b):nth (Zai l n a) n = some a:=by
 have:=Zau h
 rw [Zad,ZaM,List.getElem?_set_self this]
theorem Sim.regrow {g:G} {a:Act} {w w':World} (hs:Sim C g E s a w) {oo:Nat} {ob:Ob} {x:OX} (h1:nth s oo = some (some ob)) (h2:nth g.obs oo = some (some x))
  (blk bo2:Nat) (arr2:Array Value) (cap:Nat) (es2:List V) (hblk:(blk = x.2.1 ∧ 0 < x.2.2.2.1) ∨ w.heap.size ≤ blk) (hsize:w.heap.size ≤ w'.heap.size) (hb:∀ b,b < w.heap.size → (0 < x.2.2.2.1 → b ≠ x.2.1) → w'.heap[b]? = w.heap[b]?)
  (hnew:w'.heap[blk]? = some (.cells arr2 ob.elem (C.fz (ob.ver + 1) arr2.size))) (hcap:arr2.size = (bo2 + cap) * ob.esz) (hm:cap ≤ maxLen) (hle:es2.length ≤ cap)
  (hone:∀ (k:Nat) (v:Value),arr2[k]? = some v → v.oneCell' = true)
  (hsz:∀ i e,nth es2 i = some e → e.cells.length = ob.esz) (hflat:∀ i e j c,nth es2 i = some e → nth e.cells j = some c → c.flatCell = true)
  (hc:∀ i e j c,nth es2 i = some e → nth e.cells j = some c → ∃ rv,arr2[(bo2 + i) * ob.esz + j]? = some rv ∧ VR g w c rv ∧ OwnOk C g w c rv)
  (hown:∀ i e j c rv b,nth es2 i = some e → nth e.cells j = some c → c.owns → arr2[(bo2 + i) * ob.esz + j]? = some rv → c.blockOf rv = some b → Zan E s a w g (.cell oo i j) b)
  (hos:w'.os = w.os) (htape:w'.tape = w.tape) (hout:w'.output = w.output) :
  Sim C (g.again oo (ob.ver + 1,blk,ob.esz,arr2.size,bo2)) E (Zai s oo (some { es:=es2,esz:=ob.esz,elem:=ob.elem,ver:=ob.ver + 1 })) a w' ∧
   ∀ keep,keep ≤ s.length → Le keep g w (g.again oo (ob.ver + 1,blk,ob.esz,arr2.size,bo2)) w':=by
 have hr:=hs.at_obj h1 h2
 obtain ⟨arr,cap0,b1,b2,b3,b4,b5,b7,b6⟩:=hr.blk
 have hkeep:Keeps g w (g.again oo (ob.ver + 1,blk,ob.esz,arr2.size,bo2)) w':=⟨fun _ _ h=>h,fun _ _ h=>h,fun b i hi=>Za2 (hb b (hs.immlt b i hi) fun hpx hbb=>by subst hbb; exact hr.nimm hpx i hi) i⟩
 have gobs:∀ o x',nth (g.again oo (ob.ver + 1,blk,ob.esz,arr2.size,bo2)).obs o = some (some x') → (o = oo ∧ x' = (ob.ver + 1,blk,ob.esz,arr2.size,bo2)) ∨ (o ≠ oo ∧ nth g.obs o = some (some x')):=by
  intro o x' h
  by_cases ho:oo = o
  ·subst ho
   have:=Zar h
   exact .inl ⟨rfl,Option.some.inj this⟩
  ·have h':nth (Zai g.obs oo (some (ob.ver + 1,blk,ob.esz,arr2.size,bo2))) o = some (some x'):=h
   rw [Zaj ho] at h'
   exact .inr ⟨fun hc=>ho hc.symm,h'⟩
 have hat:∀ o x',nth (g.again oo (ob.ver + 1,blk,ob.esz,arr2.size,bo2)).obs o = some (some x') → ∃ x,nth g.obs o = some (some x) ∧ x.1 ≤ x'.1 ∧ (x.1 = x'.1 → x = x'):=by
  intro o x' h
  rcases gobs o x' h with ⟨rfl,rfl⟩ | ⟨_,h'⟩
  ·refine ⟨x,h2,by rw [hr.ver]; simp,fun hv=>?_⟩
   rw [hr.ver] at hv
   simp at hv
  ·exact ⟨x',h',Nat.le_refl _,fun _=>rfl⟩
 have hol:ObsLe g (g.again oo (ob.ver + 1,blk,ob.esz,arr2.size,bo2)):=⟨by simp [G.again,Zak],fun o _ x' h=>hat o x' h⟩
 have vr2:∀ {v rv},VR g w v rv → VR (g.again oo (ob.ver + 1,blk,ob.esz,arr2.size,bo2)) w' v rv:=fun h=>h.keeps hs.sub hkeep hol
 have own2:∀ {v rv},OwnOk C g w v rv → OwnOk C (g.again oo (ob.ver + 1,blk,ob.esz,arr2.size,bo2)) w' v rv:=by
  intro v rv h
  refine h.side rfl fun ho b hb'=>⟨hb b (h.row ho hb').1 fun hpx hbb=>(h.row ho hb').2.2.2 oo x h2 hpx hbb.symm,fun h=>h,fun _ h=>h,fun o x' hx' hp' hxb=>?_⟩
  rcases gobs o x' hx' with ⟨rfl,rfl⟩ | ⟨_,h'⟩
  ·rcases hblk with ⟨hblk,hpx⟩ | hblk
   ·exact absurd (hblk.symm.trans hxb) ((h.row ho hb').2.2.2 o x h2 hpx)
   ·have:=(h.row ho hb').1
    simp only at hxb; omega
  ·exact ⟨o,h'⟩
 have hset:∀ o' ob',nth (Zai s oo (some ({ es:=es2,esz:=ob.esz,elem:=ob.elem,ver:=ob.ver + 1 }:Ob))) o' = some (some ob') → (o' = oo ∧ ob' = { es:=es2,esz:=ob.esz,elem:=ob.elem,ver:=ob.ver + 1 }) ∨ (o' ≠ oo ∧ nth s o' = some (some ob')):=by
  intro o' ob' h
  by_cases ho:oo = o'
  ·subst ho
   have:=Zar h
   exact .inl ⟨rfl,Option.some.inj this⟩
  ·rw [Zaj ho] at h
   exact .inr ⟨fun hc=>ho hc.symm,h⟩
 have nobs:nth (g.again oo (ob.ver + 1,blk,ob.esz,arr2.size,bo2)).obs oo = some (some (ob.ver + 1,blk,ob.esz,arr2.size,bo2)):=Za3 h2
 have hother:∀ o' x',o' ≠ oo → nth g.obs o' = some (some x') → 0 < x'.2.2.2.1 → x'.2.1 < w.heap.size ∧ (0 < x.2.2.2.1 → x'.2.1 ≠ x.2.1):=by
  intro o' x' hne hx' hp'
  obtain ⟨ob',hob'⟩:=hs.gone o' x' hx'
  obtain ⟨arr',cap',c1,_⟩:=(hs.at_obj hob' hx').blk
  exact ⟨ZaO (c1 hp'),fun hpx hb=>hne (hs.inj o' oo x' x hx' h2 hp' hpx hb)⟩
 have key:∀ p b,Zan E (Zai s oo (some { es:=es2,esz:=ob.esz,elem:=ob.elem,ver:=ob.ver + 1 })) a w' (g.again oo (ob.ver + 1,blk,ob.esz,arr2.size,bo2)) p b → Zan E s a w g p b:=by
  intro p b hp
  cases p with
  | slot t=>exact hp
  | cell o' i j =>
   obtain ⟨ob',x',el,c,rv,k1,k2,k3,k4,k0,k5,k6⟩:=hp
   rcases hset o' ob' k1 with ⟨rfl,rfl⟩ | ⟨ho,k1'⟩
   ·obtain rfl:x' = (ob.ver + 1,blk,ob.esz,arr2.size,bo2):=Option.some.inj (Option.some.inj (k2.symm.trans nobs))
    obtain ⟨rv',r1,_⟩:=hc i el j _ k3 k4
    obtain rfl:=Option.some.inj ((Zap hnew r1).symm.trans k5)
    exact hown i el j c rv' b k3 k4 k0 r1 k6
   ·rcases gobs o' x' k2 with ⟨h,_⟩ | ⟨_,k2'⟩
    ·exact absurd h ho
    ·obtain ⟨q1,q2⟩:=hother o' x' ho k2' ((hs.at_obj k1' k2').real k3 k4)
     exact ⟨ob',x',el,c,rv,k1',k2',k3,k4,k0,by rw [← k5]; exact (Za2 (hb _ q1 q2) _).symm,k6⟩
 refine ⟨{
  len:=hs.len
  env:=fun t v hv=>by
   obtain ⟨rv,r1,r2,r3⟩:=hs.env t v hv
   exact ⟨rv,r1,vr2 r2,own2 r3⟩
  olen:=by simp [G.again,Zak,hs.olen]
  obj:=fun o' ob' ho'=>by
   rcases hset o' ob' ho' with ⟨rfl,rfl⟩ | ⟨hne,ho2⟩
   ·refine ⟨_,nobs,rfl,rfl,hr.ty,hr.known,⟨arr2,cap,fun _=>hnew,rfl,hcap,hm,hle,hone,fun i e j c hi hj=>?_⟩,hsz,hflat,fun hp2=>?_,fun hp2 hsp=>?_,fun hp2 i hi=>?_⟩
    ·obtain ⟨rv,r1,r2,r3⟩:=hc i e j c hi hj
     exact ⟨rv,r1,vr2 r2,own2 r3⟩
    ·rcases hblk with ⟨rfl,hpx⟩ | hblk
     ·exact hr.base hpx
     ·exact Nat.le_trans hs.basele hblk
    ·rcases hblk with ⟨rfl,hpx⟩ | hblk
     ·exact hr.nsusp hpx hsp
     ·exact absurd (hs.susplt _ hsp) (Nat.not_lt.2 hblk)
    ·rcases hblk with ⟨rfl,hpx⟩ | hblk
     ·exact hr.nimm hpx i hi
     ·exact absurd (hs.immlt _ i hi) (Nat.not_lt.2 hblk)
   ·obtain ⟨x',hx',hr'⟩:=hs.obj o' ob' ho2
    obtain ⟨arr',cap',c1,c2,c3,c4,c5,c7,c6⟩:=hr'.blk
    refine ⟨x',by show nth (Zai g.obs oo _) o' = _; rw [Zaj (fun h=>hne h.symm)]; exact hx',hr'.ver,hr'.esz,hr'.ty,hr'.known,⟨arr',cap',fun hp'=>by obtain ⟨q1,q2⟩:=hother o' x' hne hx' hp'; rw [hb _ q1 q2]; exact c1 hp',c2,c3,c4,c5,c7,fun i e j c hi hj=>?_⟩,hr'.sz,hr'.flat,hr'.base,hr'.nsusp,hr'.nimm⟩
    obtain ⟨rv,r1,r2,r3⟩:=c6 i e j c hi hj
    exact ⟨rv,r1,vr2 r2,own2 r3⟩
  gone:=fun o' x' hx'=>by
   rcases gobs o' x' hx' with ⟨rfl,_⟩ | ⟨hne,h'⟩
   ·exact ⟨_,Za3 h1⟩
   ·obtain ⟨ob',hob'⟩:=hs.gone o' x' h'
    exact ⟨ob',by rw [Zaj (fun h=>hne h.symm)]; exact hob'⟩
  inj:=fun o' o'' x' x'' hx' hx'' hp' hp'' hbb=>by
   have bad:∀ o' x',o' ≠ oo → nth g.obs o' = some (some x') → 0 < x'.2.2.2.1 → x'.2.1 = blk → False:=by
    intro o' x' hne hx' hp hq
    obtain ⟨q1,q2⟩:=hother o' x' hne hx' hp
    rcases hblk with ⟨hblk,hpx⟩ | hblk
    ·rw [hblk] at hq; exact q2 hpx hq
    ·omega
   rcases gobs o' x' hx' with ⟨rfl,rfl⟩ | ⟨hne,k1⟩ <;> rcases gobs o'' x'' hx'' with ⟨rfl,rfl⟩ | ⟨hne',k2⟩
   ·rfl
   ·exact (bad o'' x'' hne' k2 hp'' hbb.symm).elim
   ·exact (bad o' x' hne k1 hp' hbb).elim
   ·exact hs.inj o' o'' x' x'' k1 k2 hp' hp'' hbb
  own:=fun p q b hp hq=>hs.own p q b (key p b hp) (key q b hq)
  sub:=hs.sub
  immlt:=fun b i hi=>Nat.lt_of_lt_of_le (hs.immlt b i hi) hsize
  basele:=Nat.le_trans hs.basele hsize
  susplt:=fun b hb=>Nat.lt_of_lt_of_le (hs.susplt b hb) hsize },fun keep hk=>{
  keeps:=hkeep
  size:=hsize
  os:=hos
  tape:=htape
  output:=hout
  base:=rfl
  susp:=fun _=>Iff.rfl
  low:=fun b hbl=>hb b (Nat.lt_of_lt_of_le hbl hs.basele) fun hpx hbb=>by subst hbb; have:=hr.base hpx; omega
  sus:=fun b hbs=>⟨hb b (hs.susplt b hbs) fun hpx hbb=>by subst hbb; exact hr.nsusp hpx hbs,fun i hi=>hi,fun i hi=>hi⟩
  klen:=by simp [G.again,Zak,hs.olen]; exact hk
  obs:=fun o _ x' h=>hat o x' h }⟩
theorem Zk3 (hC:Ok P C) (hth:C.thaw = false) {t u e:TypeId} {x y:Operand} {c:Call} {oo ver len:Nat} {ob:Ob} {ys:List V} {vy:V} (ho:o.op = .call c) (hcal:c.callee = .builtin .append) (hargs:c.args.toList = [x,y])
  (hty:c.argTypes.toList = [t,u]) (hk:(C.ty t).known = true) (he:(C.ty t).elem = some e) (hke:(C.ty e).known = true) (hku:(C.ty u).known = true) (hu:(C.ty u).str = true ∨ (C.ty u).elem.isSome = true)
  (hx:evt C t E x = some (.arr oo ver 0 len)) (hy:evt C u E y = some vy) (hob:Zbs s oo ver = some ob) (hel:ob.elem = e) (hlen:len = ob.es.length)
  (hsrc:∀ g a w ry,Sim C g E s a w → VR g w vy ry → ∃ l news,Src P g w (C.ty e).size ys ry l news)
  (hbytes:(len + ys.length) * (C.ty e).bytes ≤ 140737488355328) (h63:len + ys.length ≤ maxLen) (hm0:0 < ys.length) :
  Zbi P C o E s (.arr oo (ver + 1) 0 (len + ys.length)) (Zb4 E x) (Zai s oo (some { es:=ob.es ++ ys.map V.noOwn,esz:=ob.esz,elem:=ob.elem,ver:=ver + 1 })):=by
 have hut:=(hC.ty t hk).elem e he
 have hud:∃ d,P.underlying u = some d ∧ ∀ k,d ≠ .int k:=by
  rcases hu with hu | hu
  ·exact ⟨_,(hC.ty u hku).str hu,by simp⟩
  ·cases hue:(C.ty u).elem with
   | none=>rw [hue] at hu; cases hu
   | some e'=>exact ⟨_,(hC.ty u hku).elem e' hue,by simp⟩
 have hte:=hC.ty e hke
 obtain ⟨i,z',hi,_⟩:=hte.info
 obtain ⟨z,hz,zo,hsz,hby⟩:=hte.zero hi
 have hpos:=hte.pos
 obtain ⟨hob1,hver⟩:=ZaY hob
 refine ⟨by rw [Zak]; exact Nat.le_refl _,fun g a w keep hkp hs0 next Q hnext=>?_⟩
 obtain ⟨x1,x2,x3⟩:=hs0.evt hx
 obtain ⟨y1,_,_⟩:=hs0.evt hy
 obtain ⟨l,news,hsr⟩:=hsrc g a w _ hs0 y1
 have hs:=hs0.strip x
 obtain ⟨xx,hxx,hr⟩:=hs.obj oo ob hob1
 obtain ⟨arr,cap0,b1,b2,b3,b4,b5,b7,b6⟩:=hr.blk
 have hfz:∀ v n,C.fz v n = (0,0):=fun v n=>by simp [Cfg.fz,hth]
 have hesz:ob.esz = (C.ty e).size:=by rw [hr.ty,hel]
 have hargs':c.args = #[x,y]:=by apply Array.ext'; simpa using hargs
 have htys':c.argTypes = #[t,u]:=by apply Array.ext'; simpa using hty
 obtain ⟨A,cc,hrx,hclen,hca,hcs⟩:∃ A cc,a.eval x = .slice A len cc ∧ len ≤ cc ∧ (cc = 0 ∨ A = some ⟨xx.2.1,xx.2.2.2.2 * (C.ty e).size,none⟩) ∧ xx.2.2.2.2 * (C.ty e).size + cc * (C.ty e).size ≤ arr.size:=by
  generalize a.eval x = rx at x1
  cases x1 with
  | data h=>cases h
  | arr _ _ _ _ A c hc ho h =>
   obtain ⟨q1,q2⟩:=h xx hxx
   obtain ⟨q3,q4⟩:=q2 (by rw [hver,hr.ver])
   rw [hr.esz,hesz,Nat.add_zero,← b2,Nat.add_mul] at q4
   rw [hr.esz,hesz,Nat.add_zero] at q3
   exact ⟨A,c,rfl,hc,q3,q4⟩
 have hlenfit:xx.2.2.2.2 * (C.ty e).size + len * (C.ty e).size ≤ arr.size:=by
  rw [b3,hesz,hlen,Nat.add_mul]; exact Nat.add_le_add_left (Nat.mul_le_mul_right _ b5) _
 have holdlen:((arr.toList.drop (xx.2.2.2.2 * (C.ty e).size)).take (len * (C.ty e).size)).length = len * (C.ty e).size:=by simp; omega
 obtain ⟨v',w',hrun,happ⟩:=Zd0 (g:=g) (ty:=o.type) hut hud hi hz hsz zo.size zo.one hpos hsr (v:=.slice A len cc) (n:=len) (olds:=(arr.toList.drop (xx.2.2.2.2 * (C.ty e).size)).take (len * (C.ty e).size))
  (by
   rcases hca with rfl | rfl
   ·obtain rfl:len = 0:=by omega
    exact .inl ⟨⟨A,rfl⟩,rfl,by simp⟩
   ·by_cases hcc:cc = 0
    ·subst hcc
     obtain rfl:len = 0:=by omega
     exact .inl ⟨⟨_,rfl⟩,rfl,by simp⟩
    ·exact .inr ⟨xx.2.1,_,cc,arr,rfl,by rw [b1 (by rw [← b2]; exact Nat.lt_of_lt_of_le (Nat.mul_pos (by omega) hpos) (Nat.le_trans (Nat.le_add_left _ _) hcs)),hfz,hel],hclen,hcs,rfl⟩) (fun v hv=>by
   obtain ⟨k,hkv⟩:=List.getElem?_of_mem (List.mem_of_mem_drop (List.mem_of_mem_take hv))
   exact b7 k v (by rw [← Array.getElem?_toList]; exact hkv)) (by rw [hby]; exact hbytes) h63
 have hexec:(execOp a.eval o).run P w = .ok (.value v') w':=by
  unfold execOp
  simp only [ho,resolve,hcal,hargs',htys',invoke,builtin,Sem.run_bind,Sem.run_pure,Result.andThen_ok,List.map_toArray,List.map_cons,List.map_nil,hrx,hrun]
 unfold Oper.wp
 rw [hexec]
 have hes2:∀ i el,nth (ob.es ++ ys.map V.noOwn) i = some el → (i < len ∧ nth ob.es i = some el) ∨ (len ≤ i ∧ ∃ e0,nth ys (i - len) = some e0 ∧ e0.noOwn = el):=by
  intro i el hi
  by_cases hlt:i < ob.es.length
  ·rw [Zal hlt] at hi
   exact .inl ⟨by omega,hi⟩
  ·rw [ZaL (by omega)] at hi
   obtain ⟨e0,he0,hq⟩:=Zac hi
   exact .inr ⟨by omega,e0,by rw [hlen]; exact he0,hq⟩
 have hsize2:∀ i el,nth (ob.es ++ ys.map V.noOwn) i = some el → el.cells.length = ob.esz:=by
  intro i el hi
  rcases hes2 i el hi with ⟨_,h⟩ | ⟨_,e0,h,rfl⟩
  ·exact hr.sz i el h
  ·rw [Zdl,List.length_map,hsr.esz _ e0 h,hesz]
 have hcell2:∀ i el j c,nth (ob.es ++ ys.map V.noOwn) i = some el → nth el.cells j = some c →
   (i < len ∧ nth ob.es i = some el ∧ i * ob.esz + j < len * (C.ty e).size) ∨
   (¬ c.owns ∧ c.flatCell = true ∧ len * (C.ty e).size ≤ i * ob.esz + j ∧ ∃ rv,nth news (i * ob.esz + j - len * (C.ty e).size) = some rv ∧ VR g w c rv ∧ OwnOk C g w c rv):=by
  intro i el j c hi hj
  have hjl:j < (C.ty e).size:=by rw [← hesz,← hsize2 i el hi]; exact Zau hj
  rcases hes2 i el hi with ⟨h1,h2⟩ | ⟨h1,e0,h2,rfl⟩
  ·refine .inl ⟨h1,h2,?_⟩
   rw [hesz]
   have:(i + 1) * (C.ty e).size ≤ len * (C.ty e).size:=Nat.mul_le_mul_right _ h1
   rw [Nat.add_mul] at this; omega
  ·rw [Zdl] at hj
   obtain ⟨c0,hc0,rfl⟩:=Zac hj
   obtain ⟨k1,rv,k2,k3,_⟩:=hsr.cell _ e0 j c0 h2 hc0
   have hno:¬ c0.noOwnCell.owns:=fun h=>by
    rcases h with ⟨_,_,_,h⟩ | ⟨_,_,_,h⟩
    ·exact ZbY c0 _ _ _ h
    ·exact ZdK c0 _ _ _ h
   have hle2:=Nat.mul_le_mul_right (C.ty e).size h1
   refine .inr ⟨hno,by cases c0 <;> first | rfl | (cases k1; done),by rw [hesz]; omega,rv,?_,k3.noOwnCell,OwnOk.of_not ⟨ZbY c0,fun cs hcs=>?_,ZdK c0⟩⟩
   ·rw [← k2]
    congr 1
    rw [hesz,Nat.sub_mul]
    omega
   ·cases c0 <;> first | (cases hcs; done) | (cases k1; done)
 have both:∀ (blk bo2 cap':Nat) (arr':Array Value),((blk = xx.2.1 ∧ 0 < xx.2.2.2.1) ∨ w.heap.size ≤ blk) → w.heap.size ≤ w'.heap.size → (∀ b,b < w.heap.size → (0 < xx.2.2.2.1 → b ≠ xx.2.1) → w'.heap[b]? = w.heap[b]?) →
   w'.heap[blk]? = some (.cells arr' ob.elem (0,0)) → arr'.size = (bo2 + cap') * ob.esz → cap' ≤ maxLen → len + ys.length ≤ cap' → (∀ (k:Nat) (v:Value),arr'[k]? = some v → v.oneCell' = true) →
   (∀ k,k < len * (C.ty e).size → arr'[bo2 * (C.ty e).size + k]? = arr[xx.2.2.2.2 * (C.ty e).size + k]?) → (∀ k rv,nth news k = some rv → arr'[bo2 * (C.ty e).size + (len * (C.ty e).size + k)]? = some rv) →
   (∃ c',v' = .slice (some ⟨blk,bo2 * (C.ty e).size,none⟩) (len + ys.length) c' ∧ len + ys.length ≤ c' ∧ (bo2 + c') * ob.esz ≤ arr'.size) → next (a.put o.dst v') w':=by
  intro blk bo2 cap' arr' hblk hsize hb hnew hcap hm hle hone hold hnw hv'
  obtain ⟨c',rfl,hc',hc2⟩:=hv'
  have hc:∀ i e_1 j c,nth (ob.es ++ ys.map V.noOwn) i = some e_1 → nth e_1.cells j = some c → c.flatCell = true ∧ (∃ rv,arr'[(bo2 + i) * ob.esz + j]? = some rv ∧ VR g w c rv ∧ OwnOk C g w c rv) ∧
    (c.owns → nth ob.es i = some e_1 ∧ i * ob.esz + j < len * (C.ty e).size):=by
   intro i el j c hi hj
   rcases hcell2 i el j c hi hj with ⟨h1,h2,h3⟩ | ⟨h1,h2,h3,rv,h4,h5,h6⟩
   ·obtain ⟨rv,r1,r2⟩:=b6 i el j c h2 hj
    exact ⟨hr.flat i el j c h2 hj,⟨rv,by rw [Nat.add_mul,Nat.add_assoc,hesz,hold _ (by rw [hesz] at h3; exact h3)]; rw [Nat.add_mul,Nat.add_assoc,hesz] at r1; exact r1,r2⟩,fun _=>⟨h2,h3⟩⟩
   ·refine ⟨h2,⟨rv,?_,h5,h6⟩,fun hq=>absurd hq h1⟩
    rw [← hnw _ rv h4]
    congr 1
    rw [Nat.add_mul,hesz] at *
    omega
  obtain ⟨k1,k2⟩:=hs.regrow hob1 hxx blk bo2 arr' cap' (ob.es ++ ys.map V.noOwn) hblk hsize hb (by rw [hfz]; exact hnew) hcap hm (by simp; omega) hone hsize2 (fun i el j c hi hj=>(hc i el j c hi hj).1) (fun i el j c hi hj=>(hc i el j c hi hj).2.1)
   (fun i el j c rv b hi hj h0 hrv hbk=>by
    obtain ⟨_,_,h3⟩:=hc i el j _ hi hj
    obtain ⟨h4,h5⟩:=h3 h0
    rw [Nat.add_mul,Nat.add_assoc,hesz,hold _ (by rw [hesz] at h5; exact h5)] at hrv
    exact ⟨ob,xx,el,c,rv,hob1,hxx,h4,hj,h0,Zap (b1 (hr.real h4 hj)) (by rw [Nat.add_mul,Nat.add_assoc,hesz]; exact hrv),hbk⟩) happ.os happ.tape happ.output
  subst hver
  refine hnext _ _ _ (k2 keep hkp) ?_
  refine k1.put0 o.dst (.arr _ _ _ _ _ _ hc' (by simp [G.again,Zak]; exact Zau hxx) fun x' hx'=>?_) (by simp [V.still])
  have hx'':nth (Zai g.obs oo (some (ob.ver + 1,blk,ob.esz,arr'.size,bo2))) oo = some (some x'):=hx'
  have:=Zar hx''
  obtain rfl:=Option.some.inj this
  exact ⟨Nat.le_refl _,fun _=>⟨.inr (by simp [hesz]),by simp only [Nat.add_zero]; exact hc2⟩⟩
 have hnl:=hsr.nlen
 rcases happ.form with ⟨_,_,_,hm1,_⟩ | ⟨gb,o0,cap,cur,hv,hg,hroom,hcs',htake,hv',hw'⟩ | ⟨cap',arr',hv',hcap,hmax,hsz',hheap,htake,hone'⟩
 ·omega
 ·injection hv with hv1 _ hv3
  have hcc0:cc ≠ 0:=by omega
  rw [hca.resolve_left hcc0] at hv1
  injection hv1 with hv1
  injection hv1 with hv1 hv4
  subst hv1 hv3 hv4
  have hpx:0 < xx.2.2.2.1:=by rw [← b2]; exact Nat.lt_of_lt_of_le (Nat.mul_pos (by omega) hpos) (Nat.le_trans (Nat.le_add_left _ _) hcs)
  have hcur:cur = arr:=by
   have:=hg.symm.trans (b1 hpx)
   injection this with this
   injection this
  subst hcur
  have hfit:xx.2.2.2.2 * (C.ty e).size + len * (C.ty e).size + news.length ≤ cur.size:=by
   rw [hnl,Nat.add_assoc,← Nat.add_mul len]
   exact Nat.le_trans (Nat.add_le_add_left (Nat.mul_le_mul_right _ hroom) _) hcs'
  refine both xx.2.1 xx.2.2.2.2 cap0 _ (.inl ⟨rfl,hpx⟩) (by rw [hw',setRow_size]; exact Nat.le_refl _) (fun b _ hb=>by rw [hw']; exact setRow_other w _ b _ (hb hpx)) (by rw [hw',hel]; exact setRow_heap w _ cur _ _ _ hg) (by rw [ZcE hfit]; exact b3) b4 ?_ ?_ ?_ ?_
   ⟨cc,hv',hroom,by rw [ZcE hfit,hesz,Nat.add_mul]; exact hcs'⟩
  ·have:cc * (C.ty e).size ≤ cap0 * (C.ty e).size:=by rw [b3,hesz,Nat.add_mul] at hcs'; omega
   exact Nat.le_trans hroom (Nat.le_of_mul_le_mul_right this hpos)
  ·intro k v hk
   by_cases hk2:xx.2.2.2.2 * (C.ty e).size + len * (C.ty e).size ≤ k ∧ k < xx.2.2.2.2 * (C.ty e).size + len * (C.ty e).size + news.length
   ·rw [Zb0 hfit hk2.1 hk2.2,Zad] at hk
    exact hsr.one v (List.mem_of_getElem? hk)
   ·rw [Zbr hfit (by omega)] at hk
    exact b7 k v hk
  ·intro k hk
   exact Zbr hfit (.inl (by omega))
  ·intro k rv hk
   have:=Zau hk
   rw [Zb0 hfit (by omega) (by omega)]
   rw [← hk]
   congr 1
   omega
 ·have hlen2:∀ k,k < (len + ys.length) * (C.ty e).size → arr'[k]? = nth ((arr.toList.drop (xx.2.2.2.2 * (C.ty e).size)).take (len * (C.ty e).size) ++ news) k:=by
   intro k hk
   rw [← htake,Zad,List.getElem?_take,if_pos hk,Array.getElem?_toList]
  have hadd:(len + ys.length) * (C.ty e).size = len * (C.ty e).size + news.length:=by rw [Nat.add_mul,hnl]
  refine both w.heap.size 0 cap' arr' (.inr (Nat.le_refl _)) (by rw [hheap]; simp) (fun b hb _=>by rw [hheap]; exact ZcJ w _ hb) (by rw [hheap,hel]; exact Zb5 w _) (by rw [hesz,Nat.zero_add]; exact hsz') hmax hcap hone' ?_ ?_
   ⟨cap',by rw [hv',Nat.zero_mul],hcap,by rw [hesz,hsz',Nat.zero_add]; exact Nat.le_refl _⟩
  ·intro k hk
   rw [Nat.zero_mul,Nat.zero_add,hlen2 k (by omega),Zal (by rw [holdlen]; exact hk),Zad,List.getElem?_take,if_pos hk,List.getElem?_drop,Array.getElem?_toList]
  ·intro k rv hk
   have:=Zau hk
   rw [Nat.zero_mul,Nat.zero_add,hlen2 _ (by omega),ZaL (by rw [holdlen]; omega),holdlen,← hk]
   congr 1
   omega
end
end Go.VM
