/- Structs and slices that are written down; stores. -/
import Derived.Test.YtkchbabkbpcncaaVmG
set_option linter.unusedSimpArgs false
set_option linter.unusedVariables false
namespace Go.VM
open Go.RowKit
section
variable {P:Program} {C:Cfg} {o:Oper} {E:List V} {s:S}
theorem ZgC {g:G} {a:Act} {w:World} (hs:Sim C g E s a w):∀ {l:List (Nat × Operand)} {m:List (Nat × V)},Zb6 E l = some m →
  ∃ rs:List (Nat × Value),l.map (fun p=>(p.1,a.eval p.2)) = rs ∧ m.length = rs.length ∧
   ∀ i p,nth m i = some p → ∃ r,nth rs i = some r ∧ r.1 = p.1 ∧ VR g w p.2 r.2 ∧ OwnOk C g w p.2 r.2
 | [],m,h=>by
  simp only [Zb6] at h
  obtain rfl:=Option.some.inj h
  exact ⟨[],rfl,rfl,fun i p h=>by simp [nth] at h⟩
 | (i,x) :: l,m,h=>by
  simp only [Zb6] at h
  split at h <;> first | (cases h; done) | skip
  rename_i v hv
  split at h <;> first | (cases h; done) | skip
  rename_i l' hl'
  obtain rfl:=Option.some.inj h
  obtain ⟨rs,h1,h2,h3⟩:=ZgC hs hl'
  refine ⟨(i,a.eval x) :: rs,by simp [h1],by simp [h2],fun j p hp=>?_⟩
  cases j with
  | zero=>simp [nth] at hp; subst hp; exact ⟨_,rfl,rfl,(hs.ev hv).1.noOwn,OwnOk.of_not (ZaA v)⟩
  | succ j=>exact h3 j p hp
theorem ZgB (off:Nat):∀ (vs:List Value) (cs:Array Value) (k:Nat),off + k + vs.length ≤ cs.size →
  ((vs.zipIdx k).foldl (fun cs (p:Value × Nat)=>cs.setIfInBounds (off + p.2) p.1) cs).toList = cs.toList.take (off + k) ++ vs ++ cs.toList.drop (off + k + vs.length)
 | [],cs,k,_=>by simp
 | v :: vs,cs,k,h=>by
  simp only [List.length_cons] at h
  simp only [List.zipIdx_cons,List.foldl_cons]
  rw [ZgB off vs _ (k + 1) (by simp; omega)]
  have e1:(cs.setIfInBounds (off + k) v).toList = cs.toList.set (off + k) v:=by simp
  rw [e1,show off + (k + 1) = (off + k) + 1 by omega]
  rw [List.take_succ_eq_append_getElem (by simp; omega),List.take_set_of_le (Nat.le_refl _),List.getElem_set_self,List.drop_set_of_lt (by omega)]
  simp only [List.append_assoc,List.singleton_append,List.cons_append,List.length_cons]
  rw [show off + k + 1 + vs.length = off + k + (vs.length + 1) by omega]
  rfl
theorem ZcC {α:Type} {cs xs:List α} {off j:Nat} {c:α} (h:off + xs.length ≤ cs.length) (hn:nth (cs.take off ++ xs ++ cs.drop (off + xs.length)) j = some c) :
  (off ≤ j ∧ j < off + xs.length ∧ nth xs (j - off) = some c) ∨ ((j < off ∨ off + xs.length ≤ j) ∧ nth cs j = some c):=by
 rw [Zad] at hn
 by_cases h1:j < off
 ·refine .inr ⟨.inl h1,?_⟩
  rw [List.append_assoc,List.getElem?_append_left (by simp; omega),List.getElem?_take,if_pos h1] at hn
  rw [Zad]; exact hn
 ·by_cases h2:j < off + xs.length
  ·refine .inl ⟨by omega,h2,?_⟩
   rw [List.append_assoc,List.getElem?_append_right (by simp; omega),List.getElem?_append_left (by simp; omega)] at hn
   rw [Zad]
   rw [← hn]
   congr 1
   simp; omega
  ·refine .inr ⟨.inr (by omega),?_⟩
   rw [List.getElem?_append_right (by simp; omega),List.getElem?_drop] at hn
   rw [Zad,← hn]
   congr 1
   simp; omega
theorem ZnO {P:Program} {t:TypeId} {fs:Array Field} (hu:P.underlying t = some (.struct fs)) (hty:TyOk P C t) {g:G} {w:World} (place:Nat → Option (Nat × Nat))
  (hplace:∀ i off n,nth (C.ty t).offs i = some off → nth (C.ty t).fszs i = some n → place i = some (off,n)) :
  ∀ {m:List (Nat × V)} {rs:List (Nat × Value)} {cs:List V} {vs:List Value} {cs':List V},m.length = rs.length →
   (∀ i p,nth m i = some p → ∃ r,nth rs i = some r ∧ r.1 = p.1 ∧ VR g w p.2 r.2 ∧ OwnOk C g w p.2 r.2 ∧ p.2.flat = true ∧ (∀ sz es e,p.2 ≠ .list sz es (.own e))  ∧ p.2.still) →
   cs.length = vs.length → (∀ i c v,nth cs i = some c → nth vs i = some v → VR g w c v ∧ (∀ sz es e,c = .list sz es (.own e) → (C.ty e).known = true ∧ sz = (C.ty e).size ∧ es = [] ∧ v = .slice none 0 0)) →
   Zop (C.ty t).offs (C.ty t).fszs cs m = some cs' →
   ∃ vs':List Value,Instr.fill place vs.toArray rs = some vs'.toArray ∧ cs'.length = vs'.length ∧
    ∀ i c v,nth cs' i = some c → nth vs' i = some v → VR g w c v ∧ (∀ sz es e,c = .list sz es (.own e) → (C.ty e).known = true ∧ sz = (C.ty e).size ∧ es = [] ∧ v = .slice none 0 0)
 | [],rs,cs,vs,cs',hl,_,hcv,hv,h=>by
  have:rs = []:=List.eq_nil_of_length_eq_zero (by simpa using hl.symm)
  subst this
  simp only [Zop] at h
  obtain rfl:=Option.some.inj h
  exact ⟨vs,rfl,hcv,hv⟩
 | (i,v) :: m,rs,cs,vs,cs',hl,hm,hcv,hv,h=>by
  cases rs with
  | nil=>simp at hl
  | cons r rs =>
   obtain ⟨r',hr,h1,h2,h3,h4,_,h5⟩:=hm 0 (i,v) rfl
   simp only [nth] at hr
   obtain rfl:=Option.some.inj hr
   obtain ⟨ri,rv⟩:=r
   simp only at h1 h2 h3 h4 h5
   subst h1
   simp only [Zop] at h
   split at h <;> first | (cases h; done) | skip
   rename_i off n ho hn
   split at h <;> first | (cases h; done) | skip
   rename_i hcond
   obtain ⟨hsz,hle⟩:=hcond
   obtain ⟨ws,c1,c2,c3,c4,_,c6⟩:=Zgb h2 h3 h4
   have hwl:ws.length = n:=by rw [c2,c3,hsz]
   have hfold:(rv.cells.zipIdx.foldl (fun cs (x:Value × Nat)=>cs.setIfInBounds (off + x.2) x.1) vs.toArray) = (vs.take off ++ ws ++ vs.drop (off + ws.length)).toArray:=by
    apply Array.ext'
    have:=ZgB off ws vs.toArray 0 (by simp; omega)
    rw [c1]
    simpa using this
   have step:Instr.fill place vs.toArray ((ri,rv) :: rs) = Instr.fill place (vs.take off ++ ws ++ vs.drop (off + ws.length)).toArray rs:=by
    simp only [Instr.fill,hplace ri off n ho hn]
    rw [if_neg (by rw [c1]; simp; omega)]
    rw [← hfold]
   rw [step]
   have hvl:v.cells.length = ws.length:=by rw [hsz,hwl]
   refine ZnO hu hty place hplace (m:=m) (rs:=rs) (cs:=cs.take off ++ v.cells ++ cs.drop (off + n)) (by simpa using hl) (fun j p hp=>hm (j + 1) p hp) (by simp; omega) (fun j c u hj hu=>?_) h
   rw [← hsz] at hj
   rcases ZcC (by omega) hj with ⟨k1,k2,k3⟩ | ⟨k1,k2⟩
   ·rcases ZcC (by omega) hu with ⟨q1,q2,q3⟩ | ⟨q1,q2⟩
    ·obtain ⟨x,x1,x2⟩:=c6 _ c k3
     obtain rfl:=Option.some.inj (x1.symm.trans q3)
     refine ⟨x2,fun sz es e he=>?_⟩
     subst he
     exfalso
     by_cases hag:∃ cs,v = .agg cs
     ·obtain ⟨cs,rfl⟩:=hag
      exact h5.2.1 cs rfl _ sz es e k3
     ·have hc1:v.cells = [v]:=by cases v <;> first | rfl | exact absurd ⟨_,rfl⟩ hag
      rw [hc1] at k3
      cases hjj:j - off with
      | zero=>rw [hjj] at k3; simp only [nth] at k3; exact h5.1 sz es e (Option.some.inj k3)
      | succ q=>rw [hjj] at k3; simp [nth] at k3
    ·omega
   ·rcases ZcC (by omega) hu with ⟨q1,q2,q3⟩ | ⟨q1,q2⟩
    ·omega
    ·exact hv j c u k2 q2
theorem Znj {P:Program} {w:World} {α β:Type} (f:α → Sem β) (g:α → β):∀ (l:List α),(∀ a ∈ l,(f a).run P w = .ok (g a) w) → (l.mapM f).run P w = .ok (l.map g) w
 | [],_=>by simp
 | a :: l,h=>by
  simp only [List.mapM_cons,Sem.run_bind,h a (by simp),Result.andThen_ok,Znj f g l (fun b hb=>h b (by simp [hb])),Sem.run_pure,List.map_cons]
theorem Zpp {P:Program} {w:World} (fs:Array Field) (hf:∀ fl ∈ fs.toList,∃ j,P.info? fl.type = some j) :
  (fs.mapM fun f=>(do pure (f.offset,← sizeOf f.type):Sem (Nat × Nat))).run P w = .ok (fs.map fun f=>(f.offset,((P.info? f.type).map (·.size)).getD 0)) w:=by
 have:=Znj (P:=P) (w:=w) (fun f:Field=>(do pure (f.offset,← sizeOf f.type):Sem (Nat × Nat))) (fun f=>(f.offset,((P.info? f.type).map (·.size)).getD 0)) fs.toList fun fl h=>by
  obtain ⟨j,hj⟩:=hf fl h
  simp [ZaG hj,hj]
 rw [Array.mapM_eq_mapM_toList,Sem.run_map,this]
 simp only [Result.andThen_ok]
 congr 1
 apply Array.ext'
 simp
theorem Znw (hC:Ok P C) {t:TypeId} {parts:Array (Nat × Operand)} {ps:List (Nat × V)} {cs:List V} (hk:(C.ty t).known = true) (ha:(C.ty t).agg = true) (ho:o.op = .build t parts)
  (hp:Zb6 E parts.toList = some ps) (hf:(ps.all fun p=>p.2.flat) = true) (h:Zop (C.ty t).offs (C.ty t).fszs (C.ty t).zero.cells ps = some cs):Zbi P C o E s (.agg cs) E s:=by
 have hty:=hC.ty t hk
 have hag:=hty.agg
 rw [if_pos ha] at hag
 obtain ⟨fs,hu⟩:=hag
 obtain ⟨i,z',hi,_⟩:=hty.info
 obtain ⟨z,hz,zo,hsz,hby⟩:=hty.zero hi
 obtain ⟨i2,z2,q1,q2,q3,q4,q5,q6,q7,q8,q9⟩:=hty.info
 have ei:i2 = i:=Option.some.inj (q1.symm.trans hi)
 subst ei
 have ez:z2 = z:=Option.some.inj (q4.symm.trans hz)
 subst ez
 obtain ⟨zc,hzc⟩:=q9 ha
 obtain ⟨zr,hzr⟩:=q8 ha
 have still:∀ i p,nth ps i = some p → p.2.flat = true:=by
  intro i p h
  rw [Zad] at h
  exact List.all_eq_true.1 hf p (List.mem_of_getElem? h)
 refine ⟨Nat.le_refl _,fun g ac w keep hkp hs next Q hnext=>?_⟩
 obtain ⟨rs,p1,p2,p3⟩:=ZgC hs hp
 have hpn:∀ i p,nth ps i = some p → p.2.still:=by
  have:∀ (l:List (Nat × Operand)) (m:List (Nat × V)),Zb6 E l = some m → ∀ i p,nth m i = some p → p.2.still:=by
   intro l
   induction l with
   | nil=>intro m h i p hi; simp only [Zb6] at h; obtain rfl:=Option.some.inj h; simp [nth] at hi
   | cons q l ih =>
    intro m h i p hi
    obtain ⟨qi,qx⟩:=q
    simp only [Zb6] at h
    split at h <;> first | (cases h; done) | skip
    rename_i v hv
    split at h <;> first | (cases h; done) | skip
    rename_i l' hl'
    obtain rfl:=Option.some.inj h
    cases i with
    | zero=>simp [nth] at hi; subst hi; exact ZaA v
    | succ i=>exact ih l' hl' i p hi
  exact this _ _ hp
 have hfill:=ZnO (P:=P) (C:=C) (t:=t) hu hty (g:=g) (w:=w) (fun k=>(fs.map fun f=>(f.offset,((P.info? f.type).map (·.size)).getD 0))[k]?)
  (fun k off n h1 h2=>by
   obtain ⟨fs1,fl1,j1,a1,a2,a3,a4,_⟩:=hty.offs k off h1
   obtain ⟨fs2,fl2,j2,b1,b2,b3,b4⟩:=hty.fszs k n h2
   have e1:fs1 = fs:=by rw [hu] at a1; injection a1 with a1; injection a1 with a1; exact a1.symm
   have e2:fs2 = fs:=by rw [hu] at b1; injection b1 with b1; injection b1 with b1; exact b1.symm
   subst e1 e2
   have e3:fl1 = fl2:=Option.some.inj (a2.symm.trans b2)
   subst e3
   have e4:j1 = j2:=Option.some.inj (a4.symm.trans b3)
   subst e4
   rw [Array.getElem?_map,a2]
   simp [a3,a4,b4])
  (m:=ps) (rs:=rs) (cs:=(C.ty t).zero.cells) (vs:=z2.cells.toList) (cs':=cs) p2
  (fun k p hk2=>by
   obtain ⟨r,r1,r2,r3,r4⟩:=p3 k p hk2
   exact ⟨r,r1,r2,r3,r4,still k p hk2,(hpn k p hk2).1,hpn k p hk2⟩)
  (by rw [zo.len]; simp [zo.size])
  (fun k c v h1 h2=>by
   rw [Zad] at h2
   have h2':z2.cells[k]? = some v:=by simpa using h2
   obtain ⟨_,rv,k1,k2,k3,k4⟩:=zo.cell k c h1
   obtain rfl:=Option.some.inj (k1.symm.trans h2')
   refine ⟨.data (k2 g w false),fun sz es e he=>?_⟩
   subst he
   obtain ⟨o1,⟨xs,o2⟩,o3,o4⟩:=(k3 g w).own sz es e rfl
   refine ⟨o1,o4,?_⟩
   rcases o2.2 with ⟨h5,h6⟩ | ⟨gb,cap,cur,h5,_⟩
   ·exact ⟨List.eq_nil_of_length_eq_zero h6,h5⟩
   ·rw [h5] at k4; simp [Value.ownBlock] at k4)
  h
 obtain ⟨vs',f1,f2,f3⟩:=hfill
 have hrun:(execOp ac.eval o).run P w = .ok (.value (.agg vs'.toArray)) w:=by
  simp only [execOp,ho]
  refine ZbJ ?_
  have hpl:=Zpp (P:=P) (w:=w) fs (hty.allf fs hu)
  have hparts:(parts.map fun (x:Nat × Operand)=>match x with | (i,x)=>(i,ac.eval x)).toList = rs:=by
   rw [← p1]; simp
  simp only [Instr.build,Sem.run_bind,zeroValue,typeInfo,run_program,Result.andThen_ok,hi,Sem.run_pure,hz,Zag hu,hpl,hparts]
  have e0:z2.cells.toList.toArray = z2.cells:=by simp
  rw [e0] at f1
  simp only [Array.getElem?_map] at f1 ⊢
  rw [f1]
  rfl
 unfold Oper.wp
 rw [hrun]
 refine hnext g _ w (Le.refl (by rw [hs.olen]; exact hkp)) (hs.put o.dst (.agg cs vs' f2 fun k c v h1 h2=>(f3 k c v h1 h2).1) ⟨by simp,fun cs' hcs k sz es e hc=>?_,by simp⟩ (by simp [V.owns]))
 injection hcs with hcs
 subst hcs
 have hlt:k < vs'.length:=by rw [← f2]; exact Zau hc
 obtain ⟨h1,h2⟩:=f3 k _ vs'[k] hc (by rw [Zad,List.getElem?_eq_getElem hlt])
 obtain ⟨a1,a2,a3,a4⟩:=h2 sz es e rfl
 exact ⟨a1,a2,a3,vs',rfl,by rw [Zad,List.getElem?_eq_getElem hlt,a4]⟩
end
end Go.VM
