/- Slices that are written down: as lists of one's own, and as objects. -/
import Derived.Test.YtkchbabkbpcncaaVmI
set_option linter.unusedSimpArgs false
set_option linter.unusedVariables false
namespace Go.VM
open Go.RowKit
section
variable {P:Program} {C:Cfg} {o:Oper} {E:List V} {s:S}
theorem Zap {w:World} {b:Nat} {arr:Array Value} {e:TypeId} {fz:Nat × Nat} {i:Nat} {rv:Value} (h:w.heap[b]? = some (.cells arr e fz)) (hr:arr[i]? = some rv) :
  w.cell? ⟨b,i,none⟩ = some rv:=by
 simp only [World.cell?,h,Option.isSome_none,Bool.false_eq_true,if_false]
 exact hr
theorem Sim.at_obj {g:G} {a:Act} {w:World} (hs:Sim C g E s a w) {o:Nat} {ob:Ob} {x:OX} (h1:nth s o = some (some ob)) (h2:nth g.obs o = some (some x)):ObR C g w ob x:=by
 obtain ⟨y,hy,hr⟩:=hs.obj o ob h1
 have:y = x:=Option.some.inj (Option.some.inj (hy.symm.trans h2))
 exact this ▸ hr
theorem Ztj {g:G} {a:Act} {w:World} (hs:Sim C g E s a w) {p:Loc} {b:Nat} (h:Zan E s a w g p b) :
  ∃ c rv,c.owns ∧ OwnOk C g w c rv ∧ c.blockOf rv = some b:=by
 cases p with
 | slot t =>
  obtain ⟨c,rv,h1,h0,h2,h3⟩:=h
  obtain ⟨rv',r1,r2,r3⟩:=hs.env t _ h1
  obtain rfl:=Option.some.inj (r1.symm.trans h2)
  exact ⟨c,_,h0,r3,h3⟩
 | cell o i j =>
  obtain ⟨ob,x,el,c,rv,h1,h2,h3,h4,h0,h5,h6⟩:=h
  have hr:=hs.at_obj h1 h2
  obtain ⟨arr,cap,b1,b2,b3,b4,b5,b7,b6⟩:=hr.blk
  obtain ⟨rv',r1,r2,r3⟩:=b6 i el j _ h3 h4
  obtain rfl:=Option.some.inj ((Zap (b1 (hr.real h3 h4)) r1).symm.trans h5)
  exact ⟨c,_,h0,r3,h6⟩
theorem ZcQ {g:G} {a:Act} {w:World} (hs:Sim C g E s a w) {p:Loc} {b:Nat} (h:Zan E s a w g p b) :
  b < w.heap.size ∧ g.base ≤ b ∧ ¬ g.susp b ∧ ∀ o x,nth g.obs o = some (some x) → 0 < x.2.2.2.1 → x.2.1 ≠ b:=by
 obtain ⟨c,rv,h0,h1,h2⟩:=Ztj hs h
 exact h1.row h0 h2
theorem Zek {g:G} {a:Act} {w:World} (hs:Sim C g E s a w) {p:Loc} {b:Nat} (h:Zan E s a w g p b):b < w.heap.size:=(ZcQ hs h).1
theorem ZiC {g g':G} {a:Act} {w w':World} (hs:Sim C g E s a w) (hb:∀ b,b < w.heap.size → w'.heap[b]? = w.heap[b]?) (hg:g'.obs = g.obs) {p:Loc} {b:Nat}
  (h:Zan E s a w' g' p b):Zan E s a w g p b:=by
 cases p with
 | slot t=>exact h
 | cell o i j =>
  obtain ⟨ob,x,el,c,rv,h1,h2,h3,h4,h0,h5,h6⟩:=h
  rw [hg] at h2
  obtain ⟨arr,cap,b1,_⟩:=(hs.at_obj h1 h2).blk
  exact ⟨ob,x,el,c,rv,h1,h2,h3,h4,h0,by rw [← Za2 (hb _ (ZaO (b1 ((hs.at_obj h1 h2).real h3 h4))))]; exact h5,h6⟩
theorem ZfL:∀ {l:List (Nat × Operand)} {m:List (Nat × V)},Zb6 E l = some m → ∀ i p,nth m i = some p → p.2.still
 | [],m,h=>by
  simp only [Zb6] at h
  obtain rfl:=Option.some.inj h
  intro i p hi; simp [nth] at hi
 | (qi,qx) :: l,m,h=>by
  simp only [Zb6] at h
  split at h <;> first | (cases h; done) | skip
  rename_i v hv
  split at h <;> first | (cases h; done) | skip
  rename_i l' hl'
  obtain rfl:=Option.some.inj h
  intro i p hi
  cases i with
  | zero=>simp [nth] at hi; subst hi; exact ZaA v
  | succ i=>exact ZfL hl' i p hi
theorem ZcW (hC:Ok P C) {t e:TypeId} {len:Nat} {parts:Array (Nat × Operand)} {ps:List (Nat × V)} {es:List V} (hk:(C.ty t).known = true) (he:(C.ty t).elem = some e)
  (hke:(C.ty e).known = true) (ho:o.op = .buildSlice t len parts) (hp:Zb6 E parts.toList = some ps)
  (hall:ps.all (fun p=>Nat.beq p.2.cells.length (C.ty e).size && p.2.flat) = true) (hm:len * (C.ty e).size ≤ 16777216) (h:ZdN (List.replicate len (C.ty e).zero) ps = some es)
  {g:G} {a:Act} {w:World} (hs:Sim C g E s a w) :
  ∃ vs:List Value,(execOp a.eval o).run P w = .ok (.value (.slice (some ⟨w.heap.size,0,none⟩) len len)) (w.alloc (.cells vs.toArray e (0,0))) ∧ ElR C g w (C.ty e).size es vs ∧ es.length = len:=by
 have hu:=(hC.ty t hk).elem e he
 have hte:=hC.ty e hke
 obtain ⟨i,z',hi,_⟩:=hte.info
 obtain ⟨z,hz,zo,hsz,hby⟩:=hte.zero hi
 have hpos:=hte.pos
 obtain ⟨rs,p1,p2,p3⟩:=ZgC hs hp
 have hzs:z.cells.size = (C.ty e).size:=zo.size
 have hE:ElR C g w (C.ty e).size (List.replicate len (C.ty e).zero) ((Array.range (len * z.cells.size)).map (z.cells[· % z.cells.size]!)).toList:=by
  refine ⟨by simp [hzs],fun k el hk=>?_,fun x hx=>?_,fun k el j c hk hj=>?_⟩
  ·obtain ⟨rfl,_⟩:=ZaU hk
   exact zo.len
  ·obtain ⟨k,hk⟩:=List.getElem?_of_mem hx
   have hk':((Array.range (len * z.cells.size)).map (z.cells[· % z.cells.size]!))[k]? = some x:=by rw [← Array.getElem?_toList]; exact hk
   obtain ⟨h1,_⟩:=ZbW (by rw [hzs]; exact hpos) hk'
   exact zo.one _ x h1
  ·obtain ⟨rfl,hlt⟩:=ZaU hk
   obtain ⟨k0,rv,k1,k2,k3,k4⟩:=zo.cell j c hj
   refine ⟨by cases c <;> first | rfl | (cases k0; done),rv,?_,.data (k2 g w false),k3 g w,fun _=>V.blockOf_none k4⟩
   rw [Zad,Array.getElem?_toList]
   have:=Zf7 (n:=len) hlt k1
   rw [hzs] at this
   rw [hzs]
   exact this
 obtain ⟨vs,f1,f2,f3⟩:=ZjE (g:=g) (w:=w) hpos p2 (fun k p hkp=>by
  obtain ⟨r,r1,r2,r3,r4⟩:=p3 k p hkp
  have hpp:(Nat.beq p.2.cells.length (C.ty e).size && p.2.flat) = true:=List.all_eq_true.1 hall p (List.mem_of_getElem? (by rw [← Zad]; exact hkp))
  have hpp':Nat.beq p.2.cells.length (C.ty e).size = true ∧ p.2.flat = true:=by simpa using hpp
  exact ⟨r,r1,r2,r3,r4,hpp'.2,Nat.eq_of_beq_eq_true hpp'.1,ZfL hp k p hkp⟩) hE h
 refine ⟨vs,?_,f2,by rw [f3]; simp⟩
 simp only [execOp,ho]
 refine ZbJ ?_
 have hparts:(parts.map fun (x:Nat × Operand)=>match x with | (i,x)=>(i,a.eval x)).toList = rs:=by
  rw [← p1]; simp
 have hmm:¬ (len * (C.ty e).size > 2 ^ 24):=by omega
 have f1':Instr.fill (fun i=>some (i * (C.ty e).size,(C.ty e).size)) ((Array.range (len * (C.ty e).size)).map (z.cells[· % z.cells.size]!)) rs = some vs.toArray:=by
  rw [← f1]
  congr 1
  apply Array.ext'
  simp [hzs]
 by_cases h0:len * (C.ty e).size = 0
 ·have e0:∀ f:Nat → Value,(Array.range (len * (C.ty e).size)).map f = #[]:=fun f=>by rw [h0]; apply Array.ext'; simp
  rw [e0] at f1'
  simp [Instr.buildSlice,Zag hu,ZaG hi,hsz,hmm,h0,hparts,newRow]
  have e1:∀ f:Nat → Value,(Array.range 0).map f = #[]:=fun f=>by apply Array.ext'; simp
  rw [e1,p1,f1']
  rfl
 ·simp [Instr.buildSlice,Zag hu,ZaG hi,hsz,hmm,h0,hparts,newRow,zeroValue,typeInfo,hi,hz]
  rw [p1,f1']
  rfl
theorem Zes (hC:Ok P C) {t e:TypeId} {len:Nat} {parts:Array (Nat × Operand)} {ps:List (Nat × V)} {es:List V} (hk:(C.ty t).known = true) (he:(C.ty t).elem = some e)
  (hke:(C.ty e).known = true) (ho:o.op = .buildSlice t len parts) (hp:Zb6 E parts.toList = some ps)
  (hall:ps.all (fun p=>Nat.beq p.2.cells.length (C.ty e).size && p.2.flat) = true) (hm:len * (C.ty e).size ≤ 16777216) (h:ZdN (List.replicate len (C.ty e).zero) ps = some es) :
  Zbi P C o E s (.arr s.length 0 0 len) E (s ++ [some { es:=es,esz:=(C.ty e).size,elem:=e,ver:=0 }]):=by
 have hpos:=(hC.ty e hke).pos
 refine Zbi.fresh (by simp [V.still]) fun g a w hs=>?_
 obtain ⟨vs,h1,⟨e1,e2,e3,e4⟩,h3⟩:=ZcW hC hk he hke ho hp hall hm h hs
 have hfz:∀ n,C.fz 0 n = (0,0):=fun n=>by unfold Cfg.fz; cases C.thaw <;> rfl
 refine ⟨_,vs.toArray,len,by rw [hfz]; exact h1,hke,by simp [e1,h3],?_,by omega,e2,fun i el j c hi hj=>(e4 i el j c hi hj).1,fun k v hv=>?_,fun i el j c hi hj=>?_,fun g' hl hn=>?_⟩
 ·have:len * 1 ≤ len * (C.ty e).size:=Nat.mul_le_mul_left _ hpos
  unfold maxLen; omega
 ·rw [Za6,Zad] at hv
  exact e3 v (List.mem_of_getElem? hv)
 ·obtain ⟨_,x,x1,x2,x3,x4⟩:=e4 i el j c hi hj
  exact ⟨x,by rw [Za6]; exact x1,x2,x3,x4⟩
 ·refine .arr _ _ _ _ _ _ (Nat.le_refl _) (by omega) fun y hy=>?_
  rw [hn] at hy
  obtain rfl:=Option.some.inj (Option.some.inj hy)
  exact ⟨Nat.le_refl _,fun _=>⟨.inr (by simp),by simp [e1,h3]⟩⟩
theorem ZfV (hC:Ok P C) {t e:TypeId} {len:Nat} {parts:Array (Nat × Operand)} {ps:List (Nat × V)} {es:List V} (hk:(C.ty t).known = true) (he:(C.ty t).elem = some e)
  (hke:(C.ty e).known = true) (ho:o.op = .buildSlice t len parts) (hp:Zb6 E parts.toList = some ps)
  (hall:ps.all (fun p=>Nat.beq p.2.cells.length (C.ty e).size && p.2.flat) = true) (hm:len * (C.ty e).size ≤ 16777216) (h:ZdN (List.replicate len (C.ty e).zero) ps = some es)
  (hpl:es.all V.plain = true) :
  Zbi P C o E s (.list (C.ty e).size es (.own e)) E s:=by
 have hpos:=(hC.ty e hke).pos
 refine ⟨Nat.le_refl _,fun g a w keep hkeep hs next Q hnext=>?_⟩
 obtain ⟨vs,h1,⟨e1,e2,e3,e4⟩,h3⟩:=ZcW hC hk he hke ho hp hall hm h hs
 unfold Oper.wp
 rw [h1]
 generalize hw':w.alloc (.cells vs.toArray e (0,0)) = w'
 have hsize:w.heap.size ≤ w'.heap.size:=by subst hw'; simp
 have hlow:∀ b,b < w.heap.size → w'.heap[b]? = w.heap[b]?:=fun b hb=>by subst hw'; exact ZcJ w _ hb
 have hnew:w'.heap[w.heap.size]? = some (.cells vs.toArray e (0,0)):=by subst hw'; exact Zb5 w _
 have hN:∀ b i,(b = w.heap.size ∧ i < len * (C.ty e).size) → w.heap.size ≤ b ∧ b < w'.heap.size:=fun b i h=>by
  obtain ⟨rfl,_⟩:=h
  exact ⟨Nat.le_refl _,ZaO hnew⟩
 obtain ⟨k1,kk⟩:=hs.more hsize hlow (fun b i=>b = w.heap.size ∧ i < len * (C.ty e).size) hN
 have k2:=Le.more hs hsize hlow (by subst hw'; rfl) (by subst hw'; rfl) (by subst hw'; rfl) (fun b i=>b = w.heap.size ∧ i < len * (C.ty e).size) hN hkeep
 have cellpos:∀ i el j c,nth es i = some el → nth el.cells j = some c → i * (C.ty e).size + j < len * (C.ty e).size:=by
  intro i el j c hi hj
  have hjl:j < (C.ty e).size:=by rw [← e2 i el hi]; exact Zau hj
  have hil:i < len:=by rw [← h3]; exact Zau hi
  have:(i + 1) * (C.ty e).size ≤ len * (C.ty e).size:=Nat.mul_le_mul_right _ hil
  rw [Nat.add_mul] at this; omega
 refine hnext _ _ _ k2 (k1.put o.dst (.data ?_) ⟨fun sz es' e' hv=>?_,by simp,by simp⟩ fun b _ hb p hp' howns=>?_)
 ·refine .list _ es (.own e) _ len len w.heap.size 0 (fun i j=>(nth vs (i * (C.ty e).size + j)).getD undef) h3.symm (Nat.le_refl _) (by simp) (.inr rfl) e2 (fun i el j c hi hj=>(e4 i el j c hi hj).1) ?_ ?_ ?_
  ·intro i el j c hi hj
   show (_ ∨ _)
   exact .inr ⟨rfl,by rw [Nat.zero_add]; exact cellpos i el j c hi hj⟩
  ·intro i el j c hi hj
   obtain ⟨_,x,x1,x2,x3,x4⟩:=e4 i el j c hi hj
   rw [Nat.zero_add,x1]
   exact Zap hnew (by rw [Za6]; exact x1)
  ·intro i el j c hi hj
   obtain ⟨_,x,x1,x2,x3,x4⟩:=e4 i el j c hi hj
   rw [x1]
   have hpe:el.plain = true:=List.all_eq_true.1 hpl el (List.mem_of_getElem? (by rw [← Zad]; exact hi))
   exact (Ziv x2 (Zd9 hpe hj)).keeps hs.sub kk
 ·injection hv with hv1 hv2 hv3
  injection hv3 with hv3
  subst hv1 hv2 hv3
  refine ⟨hke,⟨vs,by rw [e1],.inr ⟨w.heap.size,len,vs.toArray,by rw [h3],hs.basele,hnew,by omega,?_,by simp [e1,h3],?_⟩⟩,fun b hb=>?_,rfl⟩
  ·have:len * 1 ≤ len * (C.ty e).size:=Nat.mul_le_mul_left _ hpos
   unfold maxLen; omega
  ·rw [List.take_of_length_le]
   simp [e1]
  ·simp [Value.ownBlock] at hb
   subst hb
   refine ⟨fun hb=>Nat.lt_irrefl _ (hs.susplt _ hb),fun i hi hc=>?_,fun o x hx hp hb=>?_⟩
   ·rcases hc with hc | hc
    ·exact Nat.lt_irrefl _ (hs.immlt _ _ hc)
    ·have:=hc.2
     rw [h3] at hi; omega
   ·obtain ⟨ob,hob⟩:=hs.gone o x hx
    obtain ⟨arr,cap,b1,_⟩:=(hs.at_obj hob hx).blk
    have:=ZaO (b1 hp)
    omega
 ·simp [V.blockOf,Value.ownBlock] at hb
  subst hb
  exact Nat.lt_irrefl _ (Zek hs (ZiC hs hlow rfl howns))
end
end Go.VM
