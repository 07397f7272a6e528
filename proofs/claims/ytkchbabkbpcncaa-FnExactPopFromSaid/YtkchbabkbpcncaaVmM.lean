/- Appending to a list of one's own. -/
import Derived.Test.YtkchbabkbpcncaaVmLa
set_option linter.unusedSimpArgs false
set_option linter.unusedVariables false
namespace Go.VM
open Go.RowKit Go.Lib
section
variable {P:Program} {C:Cfg} {o:Oper} {E:List V} {s:S}
theorem Sim.ground {g:G} {a:Act} {w w':World} (hs:Sim C g E s a w) (gb:Nat) (hsize:w.heap.size ≤ w'.heap.size) (hb:∀ b,b < w.heap.size → b ≠ gb → w'.heap[b]? = w.heap[b]?)
  (hcell:∀ i,g.imm gb i → w'.cell? ⟨gb,i,none⟩ = w.cell? ⟨gb,i,none⟩) (hnobj:∀ o x,nth g.obs o = some (some x) → 0 < x.2.2.2.1 → x.2.1 ≠ gb) (hnown:∀ p,¬ Zan E s a w g p gb)
  (hbase:g.base ≤ gb) (hnsusp:¬ g.susp gb) (N:Nat → Nat → Prop) (hN:∀ b i,N b i → b < w'.heap.size ∧ (b = gb ∨ w.heap.size ≤ b)) (hos:w'.os = w.os) (htape:w'.tape = w.tape) (hout:w'.output = w.output) :
  Sim C (g.more N) E s a w' ∧ Keeps g w (g.more N) w' ∧ (∀ keep,keep ≤ s.length → Le keep g w (g.more N) w') ∧ ∀ p b,Zan E s a w' (g.more N) p b → Zan E s a w g p b:=by
 have hk:Keeps g w (g.more N) w':=⟨fun _ _ h=>.inl h,fun _ _ h=>.inl h,fun b i hi=>by
  by_cases hbg:b = gb
  ·subst hbg; exact hcell i hi
  ·exact Za2 (hb b (hs.immlt b i hi) hbg) i⟩
 have hol:ObsLe g (g.more N):=⟨Nat.le_refl _,fun _ _ x' h=>⟨x',h,Nat.le_refl _,fun _=>rfl⟩⟩
 have own2:∀ v rv,OwnOk C g w v rv → (∀ b,v.owns → v.blockOf rv = some b → b ≠ gb) → OwnOk C (g.more N) w' v rv:=by
  intro v rv h hne
  refine h.side rfl fun ho b hb'=>⟨hb b (h.row ho hb').1 (hne b ho hb'),fun h=>h,fun i hc=>?_,fun o x hx _ _=>⟨o,hx⟩⟩
  rcases hc with hc | hc
  ·exact hc
  ·rcases (hN b i hc).2 with h2 | h2
   ·exact absurd h2 (hne b ho hb')
   ·have:=(h.row ho hb').1
    omega
 have hblk:∀ o x,nth g.obs o = some (some x) → 0 < x.2.2.2.1 → x.2.1 < w.heap.size → w'.heap[x.2.1]? = w.heap[x.2.1]?:=fun o x hx hp hl=>hb _ hl (hnobj o x hx hp)
 have key:∀ p b,Zan E s a w' (g.more N) p b → Zan E s a w g p b:=by
  intro p b h
  cases p with
  | slot t=>exact h
  | cell o i j =>
   obtain ⟨ob,x,el,c,rv,h1,h2,h3,h4,h0,h5,h6⟩:=h
   have h2':nth g.obs o = some (some x):=h2
   obtain ⟨arr,cap,b1,_⟩:=(hs.at_obj h1 h2').blk
   exact ⟨ob,x,el,c,rv,h1,h2',h3,h4,h0,by have hp:=(hs.at_obj h1 h2').real h3 h4; rw [← Za2 (hblk o x h2' hp (ZaO (b1 hp)))]; exact h5,h6⟩
 refine ⟨{
  len:=hs.len
  env:=fun t v hv=>by
   obtain ⟨rv,h1,h2,h3⟩:=hs.env t v hv
   exact ⟨rv,h1,h2.keeps hs.sub hk hol,own2 v rv h3 fun b h0 hb' hbg=>hnown (.slot t) ⟨v,rv,hv,h0,h1,by rw [hb',hbg]⟩⟩
  olen:=hs.olen
  obj:=fun o ob ho=>by
   obtain ⟨x,hx,hr⟩:=hs.obj o ob ho
   obtain ⟨arr,cap,b1,b2,b3,b4,b5,b7,b6⟩:=hr.blk
   refine ⟨x,hx,hr.ver,hr.esz,hr.ty,hr.known,⟨arr,cap,fun hp=>by rw [hblk o x hx hp (ZaO (b1 hp))]; exact b1 hp,b2,b3,b4,b5,b7,fun i e j c h1 h2=>?_⟩,hr.sz,hr.flat,hr.base,hr.nsusp,fun hp i hc=>?_⟩
   ·obtain ⟨rv,r1,r2,r3⟩:=b6 i e j c h1 h2
    exact ⟨rv,r1,r2.keeps hs.sub hk hol,own2 c rv r3 fun b h0 hb' hbg=>hnown (.cell o i j) ⟨ob,x,e,c,rv,ho,hx,h1,h2,h0,Zap (b1 (hr.real h1 h2)) r1,by rw [hb',hbg]⟩⟩
   ·rcases hc with hc | hc
    ·exact hr.nimm hp i hc
    ·rcases (hN _ i hc).2 with h | h
     ·exact hnobj o x hx hp h
     ·have:=ZaO (b1 hp)
      omega
  gone:=hs.gone
  inj:=hs.inj
  own:=fun p q b hp hq=>hs.own p q b (key p b hp) (key q b hq)
  sub:=fun b i h=>h.imp (hs.sub b i) id
  immlt:=fun b i h=>by
   rcases h with h | h
   ·exact Nat.lt_of_lt_of_le (hs.immlt b i h) hsize
   ·exact (hN b i h).1
  basele:=Nat.le_trans hs.basele hsize
  susplt:=fun b h=>Nat.lt_of_lt_of_le (hs.susplt b h) hsize },hk,fun keep hkp=>{
  keeps:=hk
  size:=hsize
  os:=hos
  tape:=htape
  output:=hout
  base:=rfl
  susp:=fun _=>Iff.rfl
  low:=fun b h=>hb b (Nat.lt_of_lt_of_le h hs.basele) (by omega)
  sus:=fun b h=>by
   have hne:b ≠ gb:=fun hbg=>hnsusp (hbg ▸ h)
   refine ⟨hb b (hs.susplt b h) hne,fun i hi=>?_,fun i hi=>?_⟩
   ·rcases hi with hi | hi
    ·exact hi
    ·rcases (hN b i hi).2 with h2 | h2
     ·exact absurd h2 hne
     ·have:=hs.susplt b h
      omega
   ·rcases hi with hi | hi
    ·exact hi
    ·rcases (hN b i hi).2 with h2 | h2
     ·exact absurd h2 hne
     ·have:=hs.susplt b h
      omega
  klen:=by show keep ≤ g.obs.length; rw [hs.olen]; exact hkp
  obs:=fun o _ x' hx=>⟨x',hx,Nat.le_refl _,fun _=>rfl⟩ },key⟩
theorem ZpN {g:G} {a:Act} {w:World} (hs:Sim C g E s a w) (d:Option Tmp) {e:TypeId} {es:List V} {blk n cap:Nat} {arr:Array Value} (hke:(C.ty e).known = true)
  (hb:w.heap[blk]? = some (.cells arr e (0,0))) (hn:es.length = n) (hcap:n ≤ cap) (hm:cap ≤ maxLen) (hsz:arr.size = cap * (C.ty e).size) (hbase:g.base ≤ blk) (hnsusp:¬ g.susp blk)
  (hnobj:∀ o x,nth g.obs o = some (some x) → 0 < x.2.2.2.1 → x.2.1 ≠ blk) (himm:∀ i,n * (C.ty e).size ≤ i → ¬ g.imm blk i) (hsafe:∀ i,i < n * (C.ty e).size → g.safe blk i)
  (hesz:∀ i el,nth es i = some el → el.cells.length = (C.ty e).size)
  (hcells:∀ i el j c,nth es i = some el → nth el.cells j = some c → c.flatCell = true ∧ ∃ rv,arr[i * (C.ty e).size + j]? = some rv ∧ DR g w true c rv)
  (hnown:∀ p,¬ Zan E s a w g p blk) :
  Sim C g (Zcy E d (.list (C.ty e).size es (.own e))) s (a.put d (.slice (some ⟨blk,0,none⟩) n cap)) w:=by
 have cellpos:∀ i el j c,nth es i = some el → nth el.cells j = some c → i * (C.ty e).size + j < n * (C.ty e).size:=by
  intro i el j c hi hj
  have hjl:j < (C.ty e).size:=by rw [← hesz i el hi]; exact Zau hj
  have hil:i < n:=by rw [← hn]; exact Zau hi
  have:(i + 1) * (C.ty e).size ≤ n * (C.ty e).size:=Nat.mul_le_mul_right _ hil
  rw [Nat.add_mul] at this; omega
 refine hs.put d (.data ?_) ⟨fun sz es' e' hv=>?_,by simp,by simp⟩ fun b _ hb2 p hp howns=>?_
 ·refine .list _ es (.own e) _ n cap blk 0 (fun i j=>(arr[i * (C.ty e).size + j]?).getD undef) hn.symm hcap (by simp) (.inr rfl) hesz (fun i el j c hi hj=>(hcells i el j c hi hj).1) ?_ ?_ ?_
  ·intro i el j c hi hj
   show g.safe _ _
   rw [Nat.zero_add]
   exact hsafe _ (cellpos i el j c hi hj)
  ·intro i el j c hi hj
   obtain ⟨_,x,x1,x2⟩:=hcells i el j c hi hj
   rw [Nat.zero_add,x1]
   exact Zap hb x1
  ·intro i el j c hi hj
   obtain ⟨_,x,x1,x2⟩:=hcells i el j c hi hj
   rw [x1]
   exact x2
 ·injection hv with hv1 hv2 hv3
  injection hv3 with hv3
  subst hv1 hv2 hv3
  refine ⟨hke,⟨arr.toList.take (n * (C.ty e).size),?_,.inr ⟨blk,cap,arr,by rw [hn],hbase,hb,by omega,hm,hsz,by rw [hn]⟩⟩,fun b hb=>?_,rfl⟩
  ·have:n * (C.ty e).size ≤ cap * (C.ty e).size:=Nat.mul_le_mul_right _ hcap
   rw [hn]
   simp; omega
  ·simp [Value.ownBlock] at hb
   subst hb
   exact ⟨hnsusp,fun i hi=>himm i (by rw [← hn]; exact hi),hnobj⟩
 ·simp [V.blockOf,Value.ownBlock] at hb2
  subst hb2
  exact hnown p howns
theorem Zdl (e:V):e.noOwn.cells = e.cells.map V.noOwnCell:=by
 cases e <;> rfl
theorem ZaL {α:Type} {l m:List α} {n:Nat} (h:l.length ≤ n):nth (l ++ m) n = nth m (n - l.length):=by
 rw [Zad,Zad,List.getElem?_append_right h]
theorem Zji (hC:Ok P C) {t u e:TypeId} {x y:Operand} {c:Call} {sz:Nat} {es ys:List V} {vy:V} (ho:o.op = .call c) (hcal:c.callee = .builtin .append) (hargs:c.args.toList = [x,y])
  (hty:c.argTypes.toList = [t,u]) (hk:(C.ty t).known = true) (he:(C.ty t).elem = some e) (hke:(C.ty e).known = true) (hku:(C.ty u).known = true) (hu:(C.ty u).str = true ∨ (C.ty u).elem.isSome = true)
  (hx:evt C t E x = some (.list sz es (.own e))) (hy:evt C u E y = some vy)
  (hsrc:∀ g a w ry,Sim C g E s a w → VR g w vy ry → ∃ news,Src P g w (C.ty e).size ys ry true news)
  (hbytes:(es.length + ys.length) * (C.ty e).bytes ≤ 140737488355328) (h63:es.length + ys.length ≤ maxLen) :
  Zbi P C o E s (.list (C.ty e).size (es ++ ys.map V.noOwn) (.own e)) (Zb4 E x) s:=by
 have hut:=(hC.ty t hk).elem e he
 have hud:∃ d,P.underlying u = some d ∧ ∀ k,d ≠ .int k:=by
  rcases hu with hu | hu
  ·exact ⟨_,(hC.ty u hku).str hu,by simp⟩
  ·cases hue:(C.ty u).elem with
   | none=>rw [hue] at hu; cases hu
   | some e'=>exact ⟨_,(hC.ty u hku).elem e' hue,by simp⟩
 have hte:=hC.ty e hke
 obtain ⟨i,z',hi,_⟩:=hte.info
 obtain ⟨z,hz,zo,hsz,hby⟩:=hte.zero hi
 have hpos:=hte.pos
 refine ⟨Nat.le_refl _,fun g a w keep hkp hs next Q hnext=>?_⟩
 obtain ⟨x1,x2,x3⟩:=hs.evt hx
 obtain ⟨y1,_,_⟩:=hs.evt hy
 obtain ⟨news,hsr⟩:=hsrc g a w _ hs y1
 obtain ⟨_,⟨xs,hown⟩,hblk,hsze⟩:=x2.own sz es e rfl
 subst hsze
 have hargs':c.args = #[x,y]:=by apply Array.ext'; simpa using hargs
 have htys':c.argTypes = #[t,u]:=by apply Array.ext'; simpa using hty
 generalize hrx:a.eval x = rx at x1 x2 x3 hown hblk
 have hxs:∀ k,k < es.length * (C.ty e).size → ∃ i el j cc rv,nth es i = some el ∧ nth el.cells j = some cc ∧ k = i * (C.ty e).size + j ∧ nth xs k = some rv ∧ cc.flatCell = true ∧ DR g w true cc rv:=by
  intro k hkl
  obtain ⟨d1,d2,d3⟩:=ZgW hpos hkl
  have h2:=x1.list_inv
  cases h2 with
  | list esz es f A n c b off cv hn hc hl hA hs2 hf hoc hw hd =>
   have hel:nth es (k / (C.ty e).size) = some es[k / (C.ty e).size]:=by rw [Zad,List.getElem?_eq_getElem d1]
   have hlen:=hs2 _ _ hel
   have hcc:nth es[k / (C.ty e).size].cells (k % (C.ty e).size) = some (es[k / (C.ty e).size].cells[k % (C.ty e).size]'(by rw [hlen]; exact d2)):=by
    rw [Zad,List.getElem?_eq_getElem (by rw [hlen]; exact d2)]
   refine ⟨_,_,_,_,cv (k / (C.ty e).size) (k % (C.ty e).size),hel,hcc,d3.symm,?_,hf _ _ _ _ hel hcc,hd _ _ _ _ hel hcc⟩
   have hne:es ≠ []:=fun h=>by subst h; simp at d1
   obtain rfl:=hA.resolve_left hne
   rcases hown.2 with ⟨hv,_⟩ | ⟨gb,cap,cur,hv,hg,hh,r1,r2,r3,r4⟩
   ·cases hv
   ·injection hv with hv1 hv2 hv3
    injection hv1 with hv1
    injection hv1 with hv4 hv5
    subst hv4 hv5
    have hcell:=hw _ _ _ _ hel hcc
    rw [Nat.zero_add,d3] at hcell
    have hcur:cur[k]? = some (cv (k / (C.ty e).size) (k % (C.ty e).size)):=by
     have:w.cell? ⟨b,k,none⟩ = cur[k]?:=by
      simp only [World.cell?,hh,Option.isSome_none,Bool.false_eq_true,if_false]
     rw [← this]; exact hcell
    rw [Zad,← r4,List.getElem?_take,if_pos hkl,Array.getElem?_toList]
    exact hcur
 have hone:∀ v ∈ xs,v.oneCell' = true:=by
  intro v hv
  obtain ⟨k,hkv⟩:=List.getElem?_of_mem hv
  have hkl:k < es.length * (C.ty e).size:=by rw [← hown.1]; exact (List.getElem?_eq_some_iff.1 hkv).1
  obtain ⟨_,_,_,cc,rv,_,_,_,h4,h5,h6⟩:=hxs k hkl
  rw [Zad] at h4
  obtain rfl:=Option.some.inj (h4.symm.trans hkv)
  refine ((VR.data h6.weak).oneCell ?_).1
  cases cc <;> first | rfl | (cases h5; done) | (cases h6; done)
 obtain ⟨v',w',hrun,happ⟩:=Zd0 (g:=g) (ty:=o.type) hut hud hi hz hsz zo.size zo.one hpos hsr (v:=rx) (n:=es.length) (olds:=xs)
  (by
   rcases hown.2 with ⟨hv,hn⟩ | ⟨gb,cap,cur,hv,hg,hh,r1,r2,r3,r4⟩
   ·exact .inl ⟨⟨none,hv⟩,hn,List.eq_nil_of_length_eq_zero (by rw [hown.1,hn,Nat.zero_mul])⟩
   ·exact .inr ⟨gb,0,cap,cur,hv,hh,r1,by omega,by rw [List.drop_zero]; exact r4⟩) hone (by rw [hby]; exact hbytes) h63
 have hexec:(execOp a.eval o).run P w = .ok (.value v') w':=by
  unfold execOp
  simp only [ho,resolve,hcal,hargs',htys',invoke,builtin,Sem.run_bind,Sem.run_pure,Result.andThen_ok,List.map_toArray,List.map_cons,List.map_nil,hrx,hrun]
 unfold Oper.wp
 rw [hexec]
 have hlen:(es ++ ys.map V.noOwn).length = es.length + ys.length:=by simp
 have hesz:∀ i el,nth (es ++ ys.map V.noOwn) i = some el → el.cells.length = (C.ty e).size:=by
  intro i el hi
  by_cases hlt:i < es.length
  ·rw [Zal hlt] at hi
   have h2:=x1.list_inv
   cases h2 with
   | list esz es f A n c b off cv hn hc hl hA hs2 hf hoc hw hd=>exact hs2 i el hi
  ·rw [ZaL (by omega)] at hi
   obtain ⟨e0,he0,rfl⟩:=Zac hi
   rw [Zdl,List.length_map]
   exact hsr.esz _ e0 he0
 have hcont:∀ i el j cc,nth (es ++ ys.map V.noOwn) i = some el → nth el.cells j = some cc → cc.flatCell = true ∧ ∃ rv,nth (xs ++ news) (i * (C.ty e).size + j) = some rv ∧ DR g w true cc rv:=by
  intro i el j cc hi hj
  have hjl:j < (C.ty e).size:=by rw [← hesz i el hi]; exact Zau hj
  by_cases hlt:i < es.length
  ·rw [Zal hlt] at hi
   have hk:i * (C.ty e).size + j < es.length * (C.ty e).size:=by
    have:(i + 1) * (C.ty e).size ≤ es.length * (C.ty e).size:=Nat.mul_le_mul_right _ hlt
    rw [Nat.add_mul] at this; omega
   obtain ⟨i2,el2,j2,cc2,rv,h1,h2,h3,h4,h5,h6⟩:=hxs _ hk
   have hj2:j2 < (C.ty e).size:=by
    rw [← hesz i2 el2 (by rw [Zal (Zau h1)]; exact h1)]; exact Zau h2
   have hij:i = i2 ∧ j = j2:=by
    have q1:(i * (C.ty e).size + j) / (C.ty e).size = i:=by rw [Nat.mul_comm,Nat.mul_add_div hpos,Nat.div_eq_of_lt hjl,Nat.add_zero]
    have q2:(i2 * (C.ty e).size + j2) / (C.ty e).size = i2:=by rw [Nat.mul_comm,Nat.mul_add_div hpos,Nat.div_eq_of_lt hj2,Nat.add_zero]
    have q3:i = i2:=by rw [← q1,h3,q2]
    subst q3
    exact ⟨rfl,by omega⟩
   obtain ⟨rfl,rfl⟩:=hij
   obtain rfl:=Option.some.inj (h1.symm.trans hi)
   obtain rfl:=Option.some.inj (h2.symm.trans hj)
   exact ⟨h5,rv,by rw [Zal (Zau h4)]; exact h4,h6⟩
  ·rw [ZaL (by omega)] at hi
   obtain ⟨e0,he0,rfl⟩:=Zac hi
   rw [Zdl] at hj
   obtain ⟨c0,hc0,rfl⟩:=Zac hj
   obtain ⟨k1,rv,k2,_,k3⟩:=hsr.cell _ e0 j c0 he0 hc0
   refine ⟨by cases c0 <;> first | rfl | (cases k1; done),rv,?_,(k3 rfl).noOwnCell⟩
   have:xs.length ≤ i * (C.ty e).size + j:=by
    rw [hown.1]
    have:=Nat.mul_le_mul_right (C.ty e).size (show es.length ≤ i by omega)
    omega
   rw [ZaL this,hown.1]
   rw [← k2]
   congr 1
   rw [Nat.sub_mul]
   have:=Nat.mul_le_mul_right (C.ty e).size (show es.length ≤ i by omega)
   omega
 rcases happ.form with ⟨rfl,rfl,hn0,hm0,A,hA⟩ | ⟨gb,o0,cap,cur,hv,hg,hroom,hcs,htake,rfl,rfl⟩ | ⟨cap',arr',rfl,hcap,hmax,hsz',hheap,htake,hone'⟩
 ·have hys:ys = []:=List.eq_nil_of_length_eq_zero hm0
  subst hys
  have:=hs.hand hx o.dst
  rw [hrx] at this
  exact hnext g _ _ (Le.refl (by rw [hs.olen]; exact hkp)) (by rw [List.map_nil,List.append_nil]; exact this)
 ·-- there is room
  rcases hown.2 with ⟨hv2,_⟩ | ⟨gb2,cap2,cur2,hv2,hg2,hh2,r1,r2,r3,r4⟩
  ·rw [hv] at hv2; cases hv2
  rw [hv] at hv2
  injection hv2 with hv3 _ hv5
  injection hv3 with hv3
  injection hv3 with hv6 hv7
  subst hv5 hv6 hv7
  simp only [Nat.zero_add,List.drop_zero] at hcs htake hnext ⊢
  have hcur:cur2 = cur:=by
   have:=hh2.symm.trans hg
   injection this with this
   injection this
  subst hcur
  obtain ⟨q1,q2,q3⟩:=hblk gb (by rw [hv]; rfl)
  have hnl:=hsr.nlen
  have hfit:es.length * (C.ty e).size + news.length ≤ cur2.size:=by
   rw [hnl,← Nat.add_mul]
   exact Nat.le_trans (Nat.mul_le_mul_right _ hroom) hcs
  have hxlen:=hown.1
  have hnown:∀ p,¬ Zan (Zb4 E x) s a w g p gb:=by
   intro p hp
   rcases x3 with ⟨t',rfl,hn⟩ | h3 | h3
   ·obtain ⟨h4,h5⟩:=ZfI hp
    obtain ⟨rv,r1',_,_⟩:=hs.env t' _ hn
    have hev:a.eval (.tmp t') = rv:=by simp [Act.eval,r1']
    rw [hrx] at hev
    exact h5 (hs.own p (.slot t') gb h4 ⟨_,rv,hn,.inl ⟨_,_,_,rfl⟩,r1',by rw [← hev,hv]; rfl⟩)
   ·rw [hv] at h3; cases h3
   ·exact h3.1 _ es e rfl
  have hnew:=setRow_heap w gb cur2 (cur2.toList.take (es.length * (C.ty e).size) ++ news ++ cur2.toList.drop (es.length * (C.ty e).size + news.length)).toArray _ _ hg
  have himm:∀ i,g.imm gb i → i < es.length * (C.ty e).size:=fun i hi=>Nat.lt_of_not_le fun h=>q2 i h hi
  have hglt:gb < w.heap.size:=ZaO hg
  obtain ⟨k1,k2,k3,k4⟩:=(hs.strip x).ground gb (w':=w.setRow gb (cur2.toList.take (es.length * (C.ty e).size) ++ news ++ cur2.toList.drop (es.length * (C.ty e).size + news.length)).toArray) (by rw [setRow_size]; exact Nat.le_refl _) (fun b _ hb=>setRow_other w gb b _ hb)
   (fun i hi=>by
    have hlt:=himm i hi
    have e1:w.cell? ⟨gb,i,none⟩ = cur2[i]?:=by simp only [World.cell?,hg,Option.isSome_none,Bool.false_eq_true,if_false]
    have e2:(w.setRow gb (cur2.toList.take (es.length * (C.ty e).size) ++ news ++ cur2.toList.drop (es.length * (C.ty e).size + news.length)).toArray).cell? ⟨gb,i,none⟩ = (cur2.toList.take (es.length * (C.ty e).size) ++ news ++ cur2.toList.drop (es.length * (C.ty e).size + news.length)).toArray[i]?:=by
     simp only [World.cell?,hnew,Option.isSome_none,Bool.false_eq_true,if_false]
    rw [e1,e2,Zbr hfit (.inl hlt)])
   q3 hnown (hg2) q1 (fun b i=>b = gb ∧ i < (es.length + ys.length) * (C.ty e).size) (fun b i h=>⟨by rw [setRow_size,h.1]; exact hglt,.inl h.1⟩) rfl rfl rfl
  have hm1:(es.length + ys.length) * (C.ty e).size = es.length * (C.ty e).size + news.length:=by rw [Nat.add_mul,hnl]
  refine hnext _ _ _ (k3 keep hkp) (ZpN k1 o.dst hke hnew hlen hroom r2 (by rw [ZcE hfit]; exact r3) hg2 q1 q3 (fun i hi hc=>?_) (fun i hi=>.inr ⟨rfl,hi⟩) hesz (fun i el j cc h1 h2=>?_) (fun p hp=>hnown p (k4 p gb hp)))
  ·rcases hc with hc | hc
   ·have:=himm i hc
    omega
   ·omega
  ·obtain ⟨f1,rv,f2,f3⟩:=hcont i el j cc h1 h2
   refine ⟨f1,rv,?_,f3.keeps hs.sub k2⟩
   by_cases hlt:i * (C.ty e).size + j < es.length * (C.ty e).size
   ·rw [Zbr hfit (.inl hlt)]
    rw [Zal (by rw [hxlen]; exact hlt),Zad,← htake,List.getElem?_take,if_pos hlt,Array.getElem?_toList] at f2
    exact f2
   ·have hl2:=Zau f2
    rw [List.length_append,hxlen] at hl2
    rw [Zb0 hfit (by omega) (by omega)]
    rw [ZaL (by rw [hxlen]; omega),hxlen] at f2
    exact f2
 ·-- a new row
  have hlow:∀ b,b < w.heap.size → w'.heap[b]? = w.heap[b]?:=fun b hb=>by rw [hheap]; exact ZcJ w _ hb
  have hnew:w'.heap[w.heap.size]? = some (.cells arr' e (0,0)):=by rw [hheap]; exact Zb5 w _
  have hsize':w.heap.size ≤ w'.heap.size:=by rw [hheap]; simp
  have hs2:=hs.strip x
  have hN:∀ b i,(b = w.heap.size ∧ i < (es.length + ys.length) * (C.ty e).size) → w.heap.size ≤ b ∧ b < w'.heap.size:=fun b i h=>by
   obtain ⟨rfl,_⟩:=h
   exact ⟨Nat.le_refl _,ZaO hnew⟩
  obtain ⟨k1,kk⟩:=hs2.more hsize' hlow (fun b i=>b = w.heap.size ∧ i < (es.length + ys.length) * (C.ty e).size) hN
  have k2:=Le.more hs2 hsize' hlow happ.os happ.tape happ.output (fun b i=>b = w.heap.size ∧ i < (es.length + ys.length) * (C.ty e).size) hN hkp
  refine hnext _ _ _ k2 (ZpN k1 o.dst hke hnew hlen hcap hmax hsz' hs.basele (fun hb=>Nat.lt_irrefl _ (hs.susplt _ hb)) (fun oo xx hx' hp hb=>?_) (fun i hi hc=>?_) (fun i hi=>.inr ⟨rfl,hi⟩) hesz (fun i el j cc h1 h2=>?_)
   (fun p hp=>Nat.lt_irrefl _ (Zek hs2 (ZiC hs2 hlow rfl hp))))
  ·obtain ⟨ob,hob⟩:=hs.gone oo xx hx'
   obtain ⟨arr,cap,b1,_⟩:=(hs.at_obj hob hx').blk
   have:=ZaO (b1 hp)
   omega
  ·rcases hc with hc | hc
   ·exact Nat.lt_irrefl _ (hs.immlt _ _ hc)
   ·have:=hc.2
    omega
  ·obtain ⟨f1,rv,f2,f3⟩:=hcont i el j cc h1 h2
   refine ⟨f1,rv,?_,f3.keeps hs.sub kk⟩
   rw [Zad,← htake,List.getElem?_take] at f2
   split at f2
   ·rw [Array.getElem?_toList] at f2; exact f2
   ·cases f2
end
end Go.VM
