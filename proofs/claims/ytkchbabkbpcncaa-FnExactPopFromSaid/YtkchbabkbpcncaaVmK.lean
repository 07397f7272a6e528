/- Stores into objects. -/
import Derived.Test.YtkchbabkbpcncaaVmJ
set_option linter.unusedSimpArgs false
set_option linter.unusedVariables false
namespace Go.VM
open Go.RowKit
section
variable {P:Program} {C:Cfg} {o:Oper} {E:List V} {s:S}
theorem ZdX (P:Program) (g o:Nat) (t:TypeId) (fz:Nat × Nat):∀ (vs:List Value) (i:Nat) (cur:Array Value) (w:World),w.heap[g]? = some (.cells cur t fz) → (∀ j,j < cur.size → ¬ (fz.1 ≤ j ∧ j < fz.2)) → o + i + vs.length ≤ cur.size → (∀ v ∈ vs,v.oneCell' = true) →
  (storeCells ⟨g,o,none⟩ vs i).run P w = .ok () (w.setRow g (cur.toList.take (o + i) ++ vs ++ cur.toList.drop (o + i + vs.length)).toArray)
 | [],i,cur,w,hg,_,_,_=>by
  simp only [storeCells,List.append_nil,List.length_nil,Nat.add_zero,List.take_append_drop,Array.toArray_toList]
  rw [setRow_self w g cur t fz hg]
  rfl
 | v :: rest,i,cur,w,hg,hz,hl,h1=>by
  have hi:o + i < cur.size:=by simp at hl; omega
  have hadd:(⟨g,o,none⟩:Addr).add i = ⟨g,o + i,none⟩:=by unfold Addr.add; split <;> simp_all
  have hcell:w.cell? ⟨g,o + i,none⟩ = some cur[o + i]:=by simp [World.cell?,hg,hi]
  have hfro:w.frozen? ⟨g,o + i,none⟩ = false:=by
   obtain ⟨lo,hi'⟩:=fz
   have:=hz (o + i) hi
   simp only at this
   simp only [World.frozen?,hg,Bool.and_eq_false_iff,decide_eq_false_iff_not]
   omega
  have hst:(store ((⟨g,o,none⟩:Addr).add i) v).run P w = .ok () (w.setRow g (cur.setIfInBounds (o + i) v)):=by
   rw [hadd,run_store P w _ v _ (h1 v (by simp)),hcell]
   simp [hfro,setCell_eq_setRow w g (o + i) cur t fz v hg]
  have ih:=ZdX P g o t fz rest (i + 1) (cur.setIfInBounds (o + i) v) (w.setRow g (cur.setIfInBounds (o + i) v)) (setRow_heap w g cur _ t _ hg) (by simpa using hz) (by simp at hl ⊢; omega) (fun x hx=>h1 x (by simp [hx]))
  simp only [storeCells,Sem.run_bind,hst,Result.andThen_ok,ih,setRow_setRow]
  congr 3
  have e:=list_seg_step cur.toList (o + i) v rest (by simp at hl ⊢; omega)
  simpa [Array.toList_setIfInBounds,Nat.add_assoc] using e
theorem Cfg.fz_free (C:Cfg) (ver n:Nat):∀ j,j < n → ¬ ((C.fz ver n).1 ≤ j ∧ j < (C.fz ver n).2):=by
 intro j hj
 unfold Cfg.fz
 split
 ·simp only; omega
 ·simp only; omega
theorem Sim.row {g:G} {a:Act} {w:World} (hs:Sim C g E s a w) {o:Nat} {ob:Ob} {x:OX} (h1:nth s o = some (some ob)) (h2:nth g.obs o = some (some x))
  (hpx:0 < x.2.2.2.1) (arr2:Array Value) (es2:List V) (hsize:arr2.size = x.2.2.2.1) (hle:es2.length ≤ ob.es.length)
  (hone:∀ (k:Nat) (v:Value),arr2[k]? = some v → v.oneCell' = true)
  (hsz:∀ i e,nth es2 i = some e → e.cells.length = ob.esz) (hflat:∀ i e j c,nth es2 i = some e → nth e.cells j = some c → c.flatCell = true)
  (hc:∀ i e j c,nth es2 i = some e → nth e.cells j = some c → ∃ rv,arr2[(x.2.2.2.2 + i) * ob.esz + j]? = some rv ∧ VR g w c rv ∧ OwnOk C g w c rv)
  (i0 j0:Nat) (hown:∀ i e j c rv b,nth es2 i = some e → nth e.cells j = some c → c.owns → arr2[(x.2.2.2.2 + i) * ob.esz + j]? = some rv → c.blockOf rv = some b →
   Zan E s a w g (.cell o i j) b ∨ (i = i0 ∧ j = j0 ∧ ∀ p,¬ Zan E s a w g p b)) :
  Sim C g E (Zai s o (some { ob with es:=es2 })) a (w.setRow x.2.1 arr2) ∧ ∀ keep,keep ≤ s.length → Le keep g w g (w.setRow x.2.1 arr2):=by
 have hr:=hs.at_obj h1 h2
 obtain ⟨arr,cap,b1,b2,b3,b4,b5,b7,b6⟩:=hr.blk
 have hoth:∀ b,b ≠ x.2.1 → (w.setRow x.2.1 arr2).heap[b]? = w.heap[b]?:=fun b hb=>setRow_other w x.2.1 b arr2 hb
 have hnew:(w.setRow x.2.1 arr2).heap[x.2.1]? = some (.cells arr2 ob.elem (C.fz ob.ver arr2.size)):=by
  have:=setRow_heap w x.2.1 arr arr2 _ _ (b1 hpx)
  rw [b2,← hsize] at this
  exact this
 have hkeep:Keeps g w g (w.setRow x.2.1 arr2):=⟨fun _ _ h=>h,fun _ _ h=>h,fun b i hi=>Za2 (hoth b fun hb=>by subst hb; exact hr.nimm hpx i hi) i⟩
 have vr2:∀ {v rv},VR g w v rv → VR g (w.setRow x.2.1 arr2) v rv:=fun h=>h.keeps hs.sub hkeep (ObsLe.refl g)
 have own2:∀ {v rv},OwnOk C g w v rv → OwnOk C g (w.setRow x.2.1 arr2) v rv:=by
  intro v rv h
  exact h.side rfl fun ho b hb=>⟨hoth b fun hbb=>(h.row ho hb).2.2.2 o x h2 hpx hbb.symm,fun h=>h,fun _ h=>h,fun o x hx _ _=>⟨o,hx⟩⟩
 have hset:∀ o' ob',nth (Zai s o (some { ob with es:=es2 })) o' = some (some ob') → (o' = o ∧ ob' = { ob with es:=es2 }) ∨ (o' ≠ o ∧ nth s o' = some (some ob')):=by
  intro o' ob' h
  by_cases ho:o = o'
  ·subst ho
   have:=Zar h
   exact .inl ⟨rfl,Option.some.inj this⟩
  ·rw [Zaj ho] at h
   exact .inr ⟨fun hc=>ho hc.symm,h⟩
 have key:∀ p b,Zan E (Zai s o (some { ob with es:=es2 })) a (w.setRow x.2.1 arr2) g p b → Zan E s a w g p b ∨ (p = .cell o i0 j0 ∧ ∀ q,¬ Zan E s a w g q b):=by
  intro p b hp
  cases p with
  | slot t=>exact .inl hp
  | cell o' i j =>
   obtain ⟨ob',x',el,c,rv,k1,k2,k3,k4,k0,k5,k6⟩:=hp
   rcases hset o' ob' k1 with ⟨rfl,rfl⟩ | ⟨ho,k1'⟩
   ·obtain rfl:x' = x:=Option.some.inj (Option.some.inj (k2.symm.trans h2))
    obtain ⟨rv',r1,_⟩:=hc i el j _ k3 k4
    obtain rfl:=Option.some.inj ((Zap hnew r1).symm.trans k5)
    rcases hown i el j c rv' b k3 k4 k0 r1 k6 with h | ⟨rfl,rfl,h⟩
    ·exact .inl h
    ·exact .inr ⟨rfl,h⟩
   ·refine .inl ⟨ob',x',el,c,rv,k1',k2,k3,k4,k0,?_,k6⟩
    rw [← k5]
    exact (Za2 (hoth _ fun hb=>ho (hs.inj o' o x' x k2 h2 ((hs.at_obj k1' k2).real k3 k4) hpx hb)) _).symm
 refine ⟨{
  len:=hs.len
  env:=fun t v hv=>by
   obtain ⟨rv,r1,r2,r3⟩:=hs.env t v hv
   exact ⟨rv,r1,vr2 r2,own2 r3⟩
  olen:=by rw [Zak]; exact hs.olen
  obj:=fun o' ob' ho'=>by
   rcases hset o' ob' ho' with ⟨rfl,rfl⟩ | ⟨hne,ho2⟩
   ·refine ⟨x,h2,hr.ver,hr.esz,hr.ty,hr.known,⟨arr2,cap,fun _=>hnew,hsize,by rw [hsize,← b2,b3],b4,Nat.le_trans hle b5,hone,fun i e j c hi hj=>?_⟩,hsz,hflat,hr.base,hr.nsusp,hr.nimm⟩
    obtain ⟨rv,r1,r2,r3⟩:=hc i e j c hi hj
    exact ⟨rv,r1,vr2 r2,own2 r3⟩
   ·obtain ⟨x',hx',hr'⟩:=hs.obj o' ob' ho2
    obtain ⟨arr',cap',c1,c2,c3,c4,c5,c7,c6⟩:=hr'.blk
    refine ⟨x',hx',hr'.ver,hr'.esz,hr'.ty,hr'.known,⟨arr',cap',fun hp=>by rw [hoth _ fun hb=>hne (hs.inj o' o x' x hx' h2 hp hpx hb)]; exact c1 hp,c2,c3,c4,c5,c7,fun i e j c hi hj=>?_⟩,hr'.sz,hr'.flat,hr'.base,hr'.nsusp,hr'.nimm⟩
    obtain ⟨rv,r1,r2,r3⟩:=c6 i e j c hi hj
    exact ⟨rv,r1,vr2 r2,own2 r3⟩
  gone:=fun o' x' hx'=>by
   by_cases ho:o = o'
   ·subst ho
    have hl:=Zau h1
    exact ⟨{ ob with es:=es2 },by rw [Zad,ZaM,List.getElem?_set_self hl]⟩
   ·obtain ⟨ob',hob'⟩:=hs.gone o' x' hx'
    exact ⟨ob',by rw [Zaj ho]; exact hob'⟩
  inj:=hs.inj
  own:=fun p q b hp hq=>by
   rcases key p b hp with hp1 | ⟨rfl,hp1⟩ <;> rcases key q b hq with hq1 | ⟨rfl,hq1⟩
   ·exact hs.own p q b hp1 hq1
   ·exact absurd hp1 (hq1 p)
   ·exact absurd hq1 (hp1 q)
   ·rfl
  sub:=hs.sub
  immlt:=fun b i hi=>by rw [setRow_size]; exact hs.immlt b i hi
  basele:=by rw [setRow_size]; exact hs.basele
  susplt:=fun b hb=>by rw [setRow_size]; exact hs.susplt b hb },fun keep hk=>{
  keeps:=hkeep
  size:=by rw [setRow_size]; exact Nat.le_refl _
  os:=rfl
  tape:=rfl
  output:=rfl
  base:=rfl
  susp:=fun _=>Iff.rfl
  low:=fun b hb=>hoth b fun hbb=>by subst hbb; have:=hr.base hpx; omega
  sus:=fun b hb=>⟨hoth b fun hbb=>by subst hbb; exact hr.nsusp hpx hb,fun i hi=>hi,fun i hi=>hi⟩
  klen:=by rw [hs.olen]; exact hk
  obs:=fun o _ x' hx=>⟨x',hx,Nat.le_refl _,fun _=>rfl⟩ }⟩
theorem ZaH {v:V} (h:∀ cs,v ≠ .agg cs):v.cells = [v]:=by
 cases v <;> first | rfl | exact absurd rfl (h _)
theorem Zcd {e e':V} {j:Nat} {vs:List V} (h:putCells e j vs = some e') (hn:∀ c ∈ vs,∀ cs,c ≠ .agg cs) :
  e'.cells = e.cells.take j ++ vs ++ e.cells.drop (j + vs.length) ∧ j + vs.length ≤ e.cells.length:=by
 unfold putCells at h
 split at h
 ·rename_i cs
  split at h <;> first | (cases h; done) | skip
  rename_i hl
  obtain rfl:=Option.some.inj h
  exact ⟨rfl,hl⟩
 ·rename_i hna
  have hc:e.cells = [e]:=ZaH (fun cs hc=>hna cs hc)
  split at h <;> first | (cases h; done) | skip
  rename_i v
  split at h <;> first | (cases h; done) | skip
  rename_i hj
  obtain rfl:=Option.some.inj h
  subst hj
  rw [hc,ZaH (hn v (by simp))]
  exact ⟨by simp,by simp⟩
theorem Zb0 {arr:Array Value} {ws:List Value} {o k:Nat} (hl:o + ws.length ≤ arr.size) (h1:o ≤ k) (h2:k < o + ws.length) :
  (arr.toList.take o ++ ws ++ arr.toList.drop (o + ws.length)).toArray[k]? = nth ws (k - o):=by
 rw [Za6,Zad,List.append_assoc,List.getElem?_append_right (by simp; omega),List.getElem?_append_left (by simp; omega),Zad]
 congr 1
 simp; omega
theorem Zbr {arr:Array Value} {ws:List Value} {o k:Nat} (hl:o + ws.length ≤ arr.size) (h:k < o ∨ o + ws.length ≤ k) :
  (arr.toList.take o ++ ws ++ arr.toList.drop (o + ws.length)).toArray[k]? = arr[k]?:=by
 rw [Za6,Zad]
 rcases h with h | h
 ·rw [List.append_assoc,List.getElem?_append_left (by simp; omega),List.getElem?_take,if_pos h,Array.getElem?_toList]
 ·rw [List.getElem?_append_right (by simp; omega),List.getElem?_drop,Array.getElem?_toList]
  congr 1
  simp; omega
theorem ZcE {arr:Array Value} {ws:List Value} {o:Nat} (hl:o + ws.length ≤ arr.size):(arr.toList.take o ++ ws ++ arr.toList.drop (o + ws.length)).toArray.size = arr.size:=by
 simp; omega
theorem ZpB {i i' j j' n sz:Nat} (hne:i ≠ i') (h:j + n ≤ sz) (h':j' < sz):i' * sz + j' < i * sz + j ∨ i * sz + j + n ≤ i' * sz + j':=by
 rcases Nat.lt_or_gt_of_ne hne with hlt | hlt
 ·right
  have:(i + 1) * sz ≤ i' * sz:=Nat.mul_le_mul_right _ hlt
  rw [Nat.add_mul] at this; omega
 ·left
  have:(i' + 1) * sz ≤ i * sz:=Nat.mul_le_mul_right _ hlt
  rw [Nat.add_mul] at this; omega
theorem Sim.poke {g:G} {a:Act} {w:World} (hs:Sim C g E s a w) {o:Nat} {ob:Ob} {x:OX} (h1:nth s o = some (some ob)) (h2:nth g.obs o = some (some x))
  {i j:Nat} {e e':V} {vs:List V} {ws:List Value} (hi:nth ob.es i = some e) (hp:putCells e j vs = some e') (hlen:ws.length = vs.length) (hone:∀ v ∈ ws,v.oneCell' = true)
  (hv:∀ k c,nth vs k = some c → c.flatCell = true ∧ ∃ x,nth ws k = some x ∧ VR g w c x ∧ OwnOk C g w c x)
  (hown:∀ k c rv b,nth vs k = some c → c.owns → nth ws k = some rv → c.blockOf rv = some b → k = 0 ∧ ∀ p,¬ Zan E s a w g p b)
  (hpx:0 < x.2.2.2.1) (arr:Array Value) (hb:w.heap[x.2.1]? = some (.cells arr ob.elem (C.fz ob.ver arr.size))) :
  (x.2.2.2.2 + i) * ob.esz + j + ws.length ≤ arr.size ∧
  Sim C g E (Zai s o (some { ob with es:=Zai ob.es i e' })) a (w.setRow x.2.1 (arr.toList.take ((x.2.2.2.2 + i) * ob.esz + j) ++ ws ++ arr.toList.drop ((x.2.2.2.2 + i) * ob.esz + j + ws.length)).toArray) ∧
   ∀ keep,keep ≤ s.length → Le keep g w g (w.setRow x.2.1 (arr.toList.take ((x.2.2.2.2 + i) * ob.esz + j) ++ ws ++ arr.toList.drop ((x.2.2.2.2 + i) * ob.esz + j + ws.length)).toArray):=by
 have hr:=hs.at_obj h1 h2
 obtain ⟨arr',cap,b1,b2,b3,b4,b5,b7,b6⟩:=hr.blk
 obtain rfl:arr' = arr:=by
  have:=(b1 hpx).symm.trans hb
  injection this with this
  injection this
 have hna:∀ c ∈ vs,∀ cs,c ≠ .agg cs:=by
  intro c hc cs he
  obtain ⟨k,hk⟩:=List.getElem?_of_mem hc
  have:=(hv k c (by rw [Zad]; exact hk)).1
  rw [he] at this; cases this
 obtain ⟨q1,q2⟩:=Zcd hp hna
 have hesz:e.cells.length = ob.esz:=hr.sz i e hi
 have hil:i < ob.es.length:=Zau hi
 have hcap:(x.2.2.2.2 + i + 1) * ob.esz ≤ arr'.size:=by rw [b3]; exact Nat.mul_le_mul_right _ (by omega)
 rw [Nat.add_mul,Nat.one_mul] at hcap
 have hfit:(x.2.2.2.2 + i) * ob.esz + j + ws.length ≤ arr'.size:=by rw [hlen]; omega
 refine ⟨hfit,?_⟩
 have hcell:∀ i2 e2 j2 c,nth (Zai ob.es i e') i2 = some e2 → nth e2.cells j2 = some c →
   (i2 = i ∧ j ≤ j2 ∧ j2 < j + vs.length ∧ nth vs (j2 - j) = some c ∧ (arr'.toList.take ((x.2.2.2.2 + i) * ob.esz + j) ++ ws ++ arr'.toList.drop ((x.2.2.2.2 + i) * ob.esz + j + ws.length)).toArray[(x.2.2.2.2 + i2) * ob.esz + j2]? = nth ws (j2 - j)) ∨
   (∃ e3,nth ob.es i2 = some e3 ∧ nth e3.cells j2 = some c ∧ (arr'.toList.take ((x.2.2.2.2 + i) * ob.esz + j) ++ ws ++ arr'.toList.drop ((x.2.2.2.2 + i) * ob.esz + j + ws.length)).toArray[(x.2.2.2.2 + i2) * ob.esz + j2]? = arr'[(x.2.2.2.2 + i2) * ob.esz + j2]?):=by
  intro i2 e2 j2 c k1 k2
  by_cases hii:i = i2
  ·subst hii
   obtain rfl:=Zar k1
   rw [q1] at k2
   rcases ZcC q2 k2 with ⟨m1,m2,m3⟩ | ⟨m1,m2⟩
   ·refine .inl ⟨rfl,m1,m2,m3,?_⟩
    rw [Zb0 hfit (by omega) (by omega)]
    congr 1
    omega
   ·exact .inr ⟨e,hi,m2,Zbr hfit (by omega)⟩
  ·rw [Zaj hii] at k1
   refine .inr ⟨e2,k1,k2,Zbr hfit ?_⟩
   have:=Zau k2
   rw [hr.sz i2 e2 k1] at this
   exact ZpB (by omega) (by omega) this
 refine hs.row h1 h2 hpx _ (Zai ob.es i e') (by rw [ZcE hfit,b2]) (by rw [Zak]; exact Nat.le_refl _) (fun k v hk=>?_) (fun i2 e2 hi2=>?_) (fun i2 e2 j2 c hi2 hj2=>?_) (fun i2 e2 j2 c hi2 hj2=>?_) i j
  (fun i2 e2 j2 c rv b hi2 hj2 h0 hrv hb2=>?_)
 ·by_cases hk2:(x.2.2.2.2 + i) * ob.esz + j ≤ k ∧ k < (x.2.2.2.2 + i) * ob.esz + j + ws.length
  ·rw [Zb0 hfit hk2.1 hk2.2,Zad] at hk
   exact hone v (List.mem_of_getElem? hk)
  ·rw [Zbr hfit (by omega)] at hk
   exact b7 k v hk
 ·by_cases hii:i = i2
  ·subst hii
   obtain rfl:=Zar hi2
   rw [q1]; simp; omega
  ·rw [Zaj hii] at hi2
   exact hr.sz i2 e2 hi2
 ·rcases hcell i2 e2 j2 c hi2 hj2 with ⟨_,_,_,m3,_⟩ | ⟨e3,m1,m2,_⟩
  ·exact (hv _ c m3).1
  ·exact hr.flat i2 e3 j2 c m1 m2
 ·rcases hcell i2 e2 j2 c hi2 hj2 with ⟨_,_,_,m3,m4⟩ | ⟨e3,m1,m2,m4⟩
  ·obtain ⟨_,rv,r1,r2⟩:=hv _ c m3
   exact ⟨rv,by rw [m4]; exact r1,r2⟩
  ·obtain ⟨rv,r1,r2⟩:=b6 i2 e3 j2 c m1 m2
   exact ⟨rv,by rw [m4]; exact r1,r2⟩
 ·rcases hcell i2 e2 j2 _ hi2 hj2 with ⟨m0,m1,m2,m3,m4⟩ | ⟨e3,m1,m2,m4⟩
  ·rw [m4] at hrv
   obtain ⟨k0,k1⟩:=hown _ c rv b m3 h0 hrv hb2
   exact .inr ⟨m0,by omega,k1⟩
  ·rw [m4] at hrv
   exact .inl ⟨ob,x,e3,c,rv,h1,h2,m1,m2,h0,Zap (b1 hpx) hrv,hb2⟩
theorem ZdS {g:G} {w:World}:VR g w (.tuple []) undef:=.data (.tuple [] [] rfl fun i c v h=>by simp [nth] at h)
theorem Zhb {g:G} {w:World} {v:V} {rv:Value} (h:VR g w v rv) (ho:OwnOk C g w v rv) (hf:v.flat = true) :
  ∃ vs:List Value,rv.cells = vs.toArray ∧ vs.length = v.cells.length ∧ (∀ x ∈ vs,x.oneCell' = true) ∧
   (∀ j c,nth v.cells j = some c → c.flatCell = true ∧ ∃ x,nth vs j = some x ∧ VR g w c x ∧ OwnOk C g w c x) ∧
   (∀ j c x b,nth v.cells j = some c → c.owns → nth vs j = some x → c.blockOf x = some b → j = 0 ∧ v = c ∧ x = rv):=by
 by_cases hag:∃ cs,v = .agg cs
 ·obtain ⟨cs,rfl⟩:=hag
  obtain ⟨vs,h1,h2,h3,h4,h5,h6⟩:=Zgb h ho hf
  refine ⟨vs,h1,h2,h4,fun j c hj=>?_,fun j c x b hj h0 hx hb=>?_⟩
  ·obtain ⟨k1,x,k2,k3,k4,_⟩:=h5 j c hj
   exact ⟨k1,x,k2,k3,k4⟩
  ·obtain ⟨k1,x',k2,k3,k4,k5⟩:=h5 j _ hj
   obtain rfl:=Option.some.inj (k2.symm.trans hx)
   rw [k5 h0] at hb; cases hb
 ·have hc1:v.cells = [v]:=ZaH fun cs hc=>hag ⟨cs,hc⟩
  have hsol:v.solid = true:=by cases v <;> first | rfl | (cases hf; done) | exact absurd ⟨_,rfl⟩ hag
  obtain ⟨h1,h2⟩:=h.oneCell hsol
  refine ⟨[rv],by rw [h2],by rw [hc1]; rfl,by simpa using h1,fun j c hj=>?_,fun j c x b hj h0 hx hb=>?_⟩
  ·rw [hc1] at hj
   cases j with
   | succ j=>simp [nth] at hj
   | zero =>
    simp only [nth] at hj
    obtain rfl:=Option.some.inj hj
    exact ⟨by cases v <;> first | rfl | (cases hsol; done),rv,rfl,h,ho⟩
  ·rw [hc1] at hj
   cases j with
   | succ j=>simp [nth] at hj
   | zero =>
    simp only [nth] at hj hx
    exact ⟨rfl,Option.some.inj hj,(Option.some.inj hx).symm⟩
theorem Zgz (hC:Ok P C) {t:TypeId} {x y:Operand} {p v:V} {s':S} (hk:(C.ty t).known = true) (ho:o.op = .store t x y) (hx:ev E x = some p)
  (hy:∀ g a w,Sim C g E s a w → VR g w v (a.eval y) ∧ OwnOk C g w v (a.eval y) ∧ ((∃ t',y = .tmp t' ∧ nth E t' = some v) ∨ (a.eval y).ownBlock = none ∨ v.still))
  (h:Zhx (C.ty t) s p v = some s'):Zbi P C o E s (.tuple []) (Zb4 E y) s':=by
 unfold Zhx at h
 split at h <;> first | (cases h; done) | skip
 rename_i ob ver i j
 split at h <;> first | (cases h; done) | skip
 rename_i b hb
 split at h <;> first | (cases h; done) | skip
 rename_i hcond
 split at h <;> first | (cases h; done) | skip
 rename_i e he
 split at h <;> first | (cases h; done) | skip
 rename_i e' he'
 obtain rfl:=Option.some.inj h
 obtain ⟨hsz,hfl⟩:=hcond
 obtain ⟨hob,hver⟩:=ZaY hb
 obtain ⟨i',z,hi',hsize,_⟩:=(hC.ty t hk).info
 refine ⟨by rw [Zak]; exact Nat.le_refl _,fun g a w keep hkp hs next Q hnext=>?_⟩
 obtain ⟨y1,y2,y3⟩:=hy g a w hs
 have px:=(hs.ev hx).1
 obtain ⟨x',hx',hr⟩:=hs.obj ob b hob
 obtain ⟨ad,hea⟩:∃ ad:Addr,a.eval x = .pointer (some ad) ∧ ad = ⟨x'.2.1,(x'.2.2.2.2 + i) * b.esz + j,none⟩:=by
  generalize a.eval x = rx at px
  cases px with
  | data h=>cases h
  | ptr _ _ _ _ ad ho2 h =>
   refine ⟨ad,rfl,?_⟩
   obtain ⟨q1,q2⟩:=h x' hx'
   rw [q2 (by rw [hver,hr.ver]),hr.esz]
 obtain ⟨hea,rfl⟩:=hea
 obtain ⟨vs,c1,c2,c3,c4,c5⟩:=Zhb y1 y2 hfl
 obtain ⟨arr,cap,b0,_⟩:=hr.blk
 have hpx:0 < x'.2.2.2.1:=hr.real2 (by rw [hr.ty]; exact (hC.ty b.elem hr.known).pos) he
 have b1:=b0 hpx
 obtain ⟨hfit,k1,k2⟩:=(hs.strip y).poke hob hx' he he' (ws:=vs) c2 c3 (fun k c hk=>c4 k c hk) (fun k c rv b' hv h0 hw hbk=>by
  obtain ⟨q1,q2,q3⟩:=c5 k c rv b' hv h0 hw hbk
  refine ⟨q1,fun p hp=>?_⟩
  subst q3
  rcases y3 with ⟨t',rfl,hn⟩ | h3 | h3
  ·obtain ⟨h4,h5⟩:=ZfI hp
   obtain ⟨rv',r1,_,_⟩:=hs.env t' v hn
   have hev:a.eval (.tmp t') = rv':=by simp [Act.eval,r1]
   rw [hev] at hbk
   exact h5 (hs.own p (.slot t') b' h4 ⟨c,rv',by rw [hn,q2],h0,r1,hbk⟩)
  ·have hbk:=V.blockOf_own hbk; rw [h3] at hbk; cases hbk
  ·rw [q2] at h3; exact h3.owns h0) hpx arr b1
 have hrun:(execOp a.eval o).run P w = .ok .skip (w.setRow x'.2.1 (arr.toList.take ((x'.2.2.2.2 + i) * b.esz + j) ++ vs ++ arr.toList.drop ((x'.2.2.2.2 + i) * b.esz + j + vs.length)).toArray):=by
  have hst:=ZdX P x'.2.1 ((x'.2.2.2.2 + i) * b.esz + j) b.elem _ vs 0 arr w b1 (C.fz_free _ _) (by simpa using hfit) c3
  simp only [Nat.add_zero] at hst
  have hsz2:vs.length = i'.size:=by omega
  simp [execOp,ho,Instr.storeAt,hea,Instr.sureAddr,storeVar,ZaG hi',hsz2,c1,hst]
 unfold Oper.wp
 rw [hrun]
 exact hnext g undef _ (k2 keep hkp) (k1.put0 o.dst ZdS (by simp [V.still]))
theorem Ztw (hC:Ok P C) {t:TypeId} {x y:Operand} {p v:V} {s':S} (hk:(C.ty t).known = true) (ho:o.op = .store t x y) (hx:ev E x = some p) (hy:evt C t E y = some v)
  (h:Zhx (C.ty t) s p v = some s'):Zbi P C o E s (.tuple []) (Zb4 E y) s':=Zgz hC hk ho hx (fun g a w hs=>hs.evt hy) h
theorem ZuL (hC:Ok P C) {t:TypeId} {x:Operand} {p v:V} {s':S} (hk:(C.ty t).known = true) (hag:(C.ty t).agg = false) (hsz1:(C.ty t).size = 1) (ho:o.op = .load t x) (hx:ev E x = some p)
  (h:Zh5 s p = some (v,s')):Zbi P C o E s v E s':=by
 unfold Zh5 at h
 split at h <;> first | (cases h; done) | skip
 rename_i ob ver i j
 split at h <;> first | (cases h; done) | skip
 rename_i b hb
 split at h <;> first | (cases h; done) | skip
 rename_i e he
 split at h <;> first | (cases h; done) | skip
 rename_i c hc
 split at h <;> first | (cases h; done) | skip
 rename_i e' he'
 have h2:=Option.some.inj h
 injection h2 with h3 h4
 subst h3 h4
 obtain ⟨hob,hver⟩:=ZaY hb
 obtain ⟨i',z,hi',hsize,_⟩:=(hC.ty t hk).info
 refine ⟨by rw [Zak]; exact Nat.le_refl _,fun g a w keep hkp hs next Q hnext=>?_⟩
 have px:=(hs.ev hx).1
 obtain ⟨x',hx',hr⟩:=hs.obj ob b hob
 obtain ⟨ad,hea⟩:∃ ad:Addr,a.eval x = .pointer (some ad) ∧ ad = ⟨x'.2.1,(x'.2.2.2.2 + i) * b.esz + j,none⟩:=by
  generalize a.eval x = rx at px
  cases px with
  | data h=>cases h
  | ptr _ _ _ _ ad ho2 h =>
   refine ⟨ad,rfl,?_⟩
   obtain ⟨q1,q2⟩:=h x' hx'
   rw [q2 (by rw [hver,hr.ver]),hr.esz]
 obtain ⟨hea,rfl⟩:=hea
 obtain ⟨arr,cap,b0,b2,b3,b4,b5,b7,b6⟩:=hr.blk
 have hpx:0 < x'.2.2.2.1:=hr.real he hc
 have b1:=b0 hpx
 obtain ⟨rv,r1,r2,r3⟩:=b6 i e j c he hc
 have hflat:=hr.flat i e j c he hc
 have hnf:c.noOwn.flatCell = true:=by cases c <;> first | rfl | (cases hflat; done)
 obtain ⟨hfit,k1,k2⟩:=hs.poke hob hx' he he' (ws:=[rv]) rfl (by simpa using b7 _ rv r1) (fun k c' hk=>by
   cases k with
   | zero =>
    simp only [nth] at hk
    obtain rfl:=Option.some.inj hk
    exact ⟨hnf,rv,rfl,r2.noOwn,OwnOk.of_not (ZaA c)⟩
   | succ k=>simp [nth] at hk) (fun k c' rv' b' hv h0 hw hbk=>by
   cases k with
   | zero=>simp only [nth] at hv; obtain rfl:=Option.some.inj hv; exact absurd h0 (ZaA c).owns
   | succ k=>simp [nth] at hv) hpx arr b1
 have hself:w.setRow x'.2.1 (arr.toList.take ((x'.2.2.2.2 + i) * b.esz + j) ++ [rv] ++ arr.toList.drop ((x'.2.2.2.2 + i) * b.esz + j + [rv].length)).toArray = w:=by
  have:(arr.toList.take ((x'.2.2.2.2 + i) * b.esz + j) ++ [rv] ++ arr.toList.drop ((x'.2.2.2.2 + i) * b.esz + j + [rv].length)).toArray = arr:=by
   apply Array.ext'
   apply List.ext_getElem?
   intro k
   have e1:(arr.toList.take ((x'.2.2.2.2 + i) * b.esz + j) ++ [rv] ++ arr.toList.drop ((x'.2.2.2.2 + i) * b.esz + j + [rv].length)).toArray.toList[k]? = (arr.toList.take ((x'.2.2.2.2 + i) * b.esz + j) ++ [rv] ++ arr.toList.drop ((x'.2.2.2.2 + i) * b.esz + j + [rv].length)).toArray[k]?:=by rw [Array.getElem?_toList]
   rw [e1,Array.getElem?_toList]
   by_cases hk:k = (x'.2.2.2.2 + i) * b.esz + j
   ·subst hk
    rw [Zb0 hfit (Nat.le_refl _) (by simp),Nat.sub_self,r1]
    rfl
   ·exact Zbr hfit (by simp; omega)
  rw [this]
  exact setRow_self w _ arr _ _ b1
 rw [hself] at k1 k2
 have hrun:(execOp a.eval o).run P w = .ok (.value rv) w:=by
  have hcell:=Zap b1 r1
  simp [execOp,ho,Instr.loadAt,hea,Instr.sureAddr,loadVar,ZaG hi',hsize,hsz1,hcell,loadCells,loadCellsFrom,Zdf hC hk hag]
 unfold Oper.wp
 rw [hrun]
 refine hnext g rv w (Le.refl (by rw [hs.olen]; exact hkp)) (k1.put o.dst r2 r3 fun b' hw0 hbk p hp hown=>?_)
 have hold:Zan E s a w g (.cell ob i j) b':=⟨b,x',e,c,rv,hob,hx',he,hc,hw0,Zap b1 r1,hbk⟩
 cases p with
 | slot t'=>have:=hs.own (.slot t') (.cell ob i j) b' hown hold; cases this
 | cell o2 i2 j2 =>
  obtain ⟨ob2,x2,el,c2,rv2,q1,q2,q3,q4,q0,q5,q6⟩:=hown
  by_cases hoo:ob = o2
  ·subst hoo
   obtain rfl:x2 = x':=Option.some.inj (Option.some.inj (q2.symm.trans hx'))
   obtain rfl:=Option.some.inj (Zar q1)
   simp only at q3 q5
   have hna:∀ c' ∈ [c.noOwn],∀ cs,c' ≠ V.agg cs:=by
    intro c' hc' cs hcs
    simp at hc'; subst hc'
    rw [hcs] at hnf; cases hnf
   obtain ⟨m1,m2⟩:=Zcd he' hna
   by_cases hii:i = i2
   ·subst hii
    obtain rfl:=Zar q3
    rw [m1] at q4
    rcases ZcC m2 q4 with ⟨n1,n2,n3⟩ | ⟨n1,n2⟩
    ·simp at n2
     have:j2 - j = 0:=by omega
     rw [this] at n3
     simp only [nth] at n3
     obtain rfl:=Option.some.inj n3
     exact (ZaA c).owns q0
    ·have hold2:Zan E s a w g (.cell ob i j2) b':=⟨b,x2,e,c2,rv2,hob,hx',he,n2,q0,q5,q6⟩
     have:=hs.own _ _ b' hold2 hold
     injection this with t1 t2 t3
     subst t3
     simp at n1
     omega
   ·rw [Zaj hii] at q3
    have hold2:Zan E s a w g (.cell ob i2 j2) b':=⟨b,x2,el,c2,rv2,hob,hx',q3,q4,q0,q5,q6⟩
    have:=hs.own _ _ b' hold2 hold
    injection this with t1 t2 t3
    exact hii t2.symm
  ·rw [Zaj hoo] at q1
   have hold2:Zan E s a w g (.cell o2 i2 j2) b':=⟨ob2,x2,el,c2,rv2,q1,q2,q3,q4,q0,q5,q6⟩
   have:=hs.own _ _ b' hold2 hold
   injection this with t1 t2 t3
   exact hoo t1.symm
end
end Go.VM
