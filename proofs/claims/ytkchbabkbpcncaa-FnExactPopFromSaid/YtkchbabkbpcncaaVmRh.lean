/- Operations where rows lie in cells. -/
import Derived.Test.YtkchbabkbpcncaaVmRg
set_option linter.unusedSimpArgs false
set_option linter.unusedVariables false
namespace Go.VM
open Go.RowKit Go.Lib
section
variable {P:Program} {C:Cfg} {o:Oper} {E:List V} {s:S} {R:Type}
theorem ZcG {α:Type} (l:List α) (n:Nat) (a b:α):Zai (Zai l n a) n b = Zai l n b:=by
 simp [ZaM]
theorem ZoC {α:Type} (l:List α) (a b:α):Zai (l ++ [a]) l.length b = l ++ [b]:=by
 simp [ZaM]
theorem Sim.nilrow {g:G} {a:Act} {w:World} (hs:Sim C g E s a w) {oo i j:Nat} {e:TypeId} {ob:Ob} {el el':V} (h1:nth s oo = some (some ob)) (h2:nth ob.es i = some el) (h3:nth el.cells j = some .nils)
  (hk:(C.ty e).known = true) (hput:putCells el j [.uni e (C.ty e).size []] = some el') :
  Sim C g E (Zai s oo (some { ob with es:=Zai ob.es i el' })) a w ∧ ∀ keep,keep ≤ s.length → Le keep g w g w:=by
 obtain ⟨x,hx,hr⟩:=hs.obj oo ob h1
 have hu:V.flatCell (.uni e (C.ty e).size []) = true:=rfl
 have hS:∀ o ob2,nth (Zai s oo (some { ob with es:=Zai ob.es i el' })) o = some (some ob2) → (o = oo ∧ ob2 = { ob with es:=Zai ob.es i el' }) ∨ (o ≠ oo ∧ nth s o = some (some ob2)):=by
  intro o ob2 h
  by_cases ho:oo = o
  ·subst ho; exact .inl ⟨rfl,Option.some.inj (Zar h)⟩
  ·rw [Zaj ho] at h; exact .inr ⟨fun hc=>ho hc.symm,h⟩
 have hnil:∀ rv,VR g w .nils rv → rv = .slice none 0 0:=fun rv h=>by
  cases h with | data h=>cases h; rfl
 obtain ⟨rv0,hrv0,hvr0⟩:∃ rv,w.cell? ⟨x.2.1,(x.2.2.2.2 + i) * ob.esz + j,none⟩ = some rv ∧ VR g w .nils rv:=by
  obtain ⟨arr,cap,b1,b2,b3,b4,b5,b7,b6⟩:=hr.blk
  obtain ⟨rv,r1,r2,_⟩:=b6 i el j _ h2 h3
  exact ⟨rv,Zap (b1 (hr.real h2 h3)) r1,r2⟩
 have key:∀ p b,Zan E (Zai s oo (some { ob with es:=Zai ob.es i el' })) a w g p b → Zan E s a w g p b:=by
  intro p b hp
  cases p with
  | slot t=>exact hp
  | cell o' i' j' =>
   obtain ⟨ob2,x2,el2,c,rv,k1,k2,k3,k4,k0,k5,k6⟩:=hp
   rcases hS o' ob2 k1 with ⟨rfl,rfl⟩ | ⟨k7,k8⟩
   ·obtain rfl:x2 = x:=Option.some.inj (Option.some.inj (k2.symm.trans hx))
    rcases ZeA h2 hput hu k3 k4 with ⟨rfl,rfl,rfl⟩ | ⟨_,e3,m1,m2⟩
    ·exfalso
     have hc:w.cell? ⟨x2.2.1,(x2.2.2.2.2 + i') * ob.esz + j',none⟩ = some rv:=k5
     rw [hrv0] at hc
     obtain rfl:=Option.some.inj hc
     rw [hnil _ hvr0] at k6
     simp [V.blockOf,Za0] at k6
    ·exact ⟨ob,x2,e3,c,rv,h1,hx,m1,m2,k0,k5,k6⟩
   ·exact ⟨ob2,x2,el2,c,rv,k8,k2,k3,k4,k0,k5,k6⟩
 refine hs.ghost rfl rfl rfl rfl (ObsLe.refl g) (by rw [Zak]; exact hs.olen) (fun t b _ o y hy _ _=>⟨o,hy⟩) (fun o' ob2 ho=>?_) (fun o' y hy=>?_) hs.inj (fun p q b hp hq=>hs.own p q b (key p b hp) (key q b hq))
 ·rcases hS o' ob2 ho with ⟨rfl,rfl⟩ | ⟨k7,k8⟩
  ·refine ⟨x,hx,hr.recell _ rfl rfl rfl (by rw [Zak]; exact Nat.le_refl _) (fun i2 e2 k=>Zmx h2 hput hu hr.sz k) (fun i2 e2 j2 c k k'=>?_) fun i2 e2 j2 c k k'=>?_⟩
   ·rcases ZeA h2 hput hu k k' with ⟨_,_,rfl⟩ | ⟨_,e3,m1,m2⟩
    ·rfl
    ·exact hr.flat i2 e3 j2 c m1 m2
   ·rcases ZeA h2 hput hu k k' with ⟨rfl,rfl,rfl⟩ | ⟨_,e3,m1,m2⟩
    ·refine ⟨el,_,h2,h3,fun rv q1 q2 _=>?_⟩
     rw [hnil _ q2]
     refine ⟨.uni _ _ _ _ _ _,fun sz es e h=>by (cases h),fun cs h=>by (cases h),fun t sz es h=>?_⟩
     injection h with e1 e2 e3
     subst e1 e2 e3
     exact ⟨hk,rfl,fun i e h=>by simp [nth] at h,fun i e j c h=>by simp [nth] at h,.inl ⟨none,rfl,rfl⟩,fun b hb=>by simp [Za0] at hb⟩
    ·exact ⟨e3,c,m1,m2,fun rv _ q2 q3=>⟨q2,q3⟩⟩
  ·obtain ⟨y,hy,hry⟩:=hs.obj o' ob2 k8
   exact ⟨y,hy,hry⟩
 ·obtain ⟨ob2,hob2⟩:=hs.gone o' y hy
  by_cases hoo:oo = o'
  ·subst hoo
   exact ⟨_,Za3 h1⟩
  ·exact ⟨ob2,by rw [Zaj hoo]; exact hob2⟩
theorem Zbi.then {v:V} {E':List V} {s1 s2:S} (h:Zbi P C o E s v E' s1) (hl:s1.length = s2.length) (hg:∀ g E a w,Sim C g E s1 a w → ∃ g',Sim C g' E s2 a w ∧ ∀ keep,keep ≤ s1.length → Le keep g w g' w):Zbi P C o E s v E' s2:=by
 refine ⟨by rw [← hl]; exact h.1,fun g a w keep hk hs next Q hn=>h.2 g a w keep hk hs next Q fun g' rv w' hle hs'=>?_⟩
 obtain ⟨g2,k1,k2⟩:=hg g' _ _ w' hs'
 exact hn g2 rv w' (hle.trans (k2 keep (Nat.le_trans hk h.1))) k1
theorem ZbT {v:V} {f:Nat → Nat → Nat → Nat → Option R} {r:R} (h:Zhl v f = some r):∃ o ver off len,v = .arr o ver off len ∧ f o ver off len = some r:=by
 unfold Zhl at h
 split at h
 ·exact ⟨_,_,_,_,rfl,h⟩
 ·cases h
theorem Zmi {t sz:Nat} {v:V} {f:List V → Option R} {r:R} (h:Zdy t sz v f = some r):∃ es,v = .uni t sz es ∧ f es = some r:=by
 unfold Zdy at h
 split at h
 ·obtain ⟨h1,h2⟩:=Zaa h
  simp only [Bool.and_eq_true] at h1
  obtain rfl:=Nat.eq_of_beq_eq_true h1.1
  obtain rfl:=Nat.eq_of_beq_eq_true h1.2
  exact ⟨_,rfl,h2⟩
 ·cases h
theorem Zhq {oo n ver off len:Nat} {K:V → Option R} {r:R} (h:Zse C s oo n ver off len K = some r):∃ ob,Zbs s n ver = some ob ∧ C.thaw = false ∧ n ≠ oo ∧ 0 < ob.esz ∧ off + len ≤ ob.es.length ∧
  ((ob.es.drop off).take len).all V.scalE = true ∧ K (.uni ob.elem ob.esz ((ob.es.drop off).take len)) = some r:=by
 unfold Zse at h
 split at h <;> first | (cases h; done) | skip
 rename_i ob hob
 obtain ⟨h1,h2⟩:=Zaa h
 obtain ⟨h3,h4⟩:=Zaa h2
 simp only [Bool.and_eq_true,Bool.not_eq_true',decide_eq_true_iff] at h1
 obtain ⟨⟨⟨q1,q2⟩,q3⟩,q4⟩:=h1
 refine ⟨ob,hob,q1,fun hc=>?_,q3,q4,h3,h4⟩
 rw [hc,Nat.beq_refl] at q2
 cases q2
theorem Zos {n len:Nat} {c:V} (h:Zdg n len c = true):c = .arr n 0 0 len:=by
 unfold Zdg at h
 split at h
 ·simp only [Bool.and_eq_true] at h
  obtain ⟨⟨⟨h1,h2⟩,h3⟩,h4⟩:=h
  rw [Nat.eq_of_beq_eq_true h1,Nat.eq_of_beq_eq_true h2,Nat.eq_of_beq_eq_true h3,Nat.eq_of_beq_eq_true h4]
 ·cases h
theorem ZsR {n oo ver i j len:Nat} {K:S → Option R} {r:R} (h:Zt4 C s n oo ver i j len K = some r):∃ s',K s' = some r ∧ s'.length = s.length ∧ ∀ g E a w,Sim C g E s a w → ∃ g',Sim C g' E s' a w ∧ ∀ keep,keep ≤ s.length → Le keep g w g' w:=by
 unfold Zt4 at h
 split at h <;> first | (cases h; done) | skip
 rename_i ob hob
 split at h <;> first | (cases h; done) | skip
 rename_i el hel
 obtain ⟨c,m,hcm,h2⟩:=ZcF h
 obtain ⟨hn,h4⟩:=Zaa h2
 obtain rfl:=Zos hn
 obtain ⟨rb,q1,q2,q3,q4,q5,q6,h5⟩:=Zhq h4
 split at h5 <;> first | (cases h5; done) | skip
 rename_i el' hput
 have hcell:nth el.cells j = some (.arr n 0 0 len):=by
  have:nth (el.cells.drop j) 0 = some (.arr n 0 0 len):=by rw [hcm]; rfl
  have:=ZbQ this
  rwa [Nat.add_zero] at this
 exact ⟨_,h5,by simp only [Zak],fun g E a w hs=>⟨_,hs.inl (ZaY hob).1 hel hcell q1 q3 q2 q4 q5 q6 hput⟩⟩
theorem Zsm {wb:Option (Nat × Nat × Nat × Nat × Nat × Nat)} {K:S → Option R} {r:R} (h:ZuC C wb s K = some r):∃ s',K s' = some r ∧ s'.length = s.length ∧ ∀ g E a w,Sim C g E s a w → ∃ g',Sim C g' E s' a w ∧ ∀ keep,keep ≤ s.length → Le keep g w g' w:=by
 unfold ZuC at h
 split at h
 ·exact ⟨s,h,rfl,fun g E a w hs=>⟨g,hs,fun keep hk=>Le.refl (by rw [hs.olen]; exact hk)⟩⟩
 ·exact ZsR h
theorem ZuI (hC:Ok P C) {t e:TypeId} {x:Operand} {oo ver i j:Nat} {K:V → S → Option R} {r:R} (hk:(C.ty t).known = true) (hag:(C.ty t).agg = false) (ho:o.op = .load t x) (hx:ev E x = some (.ptr oo ver i j))
  (h:Zw0 C s e oo ver i j K = some r):∃ v s',K v s' = some r ∧ Zbi P C o E s v E s':=by
 unfold Zw0 at h
 split at h <;> first | (cases h; done) | skip
 rename_i ob hob
 split at h <;> first | (cases h; done) | skip
 rename_i el hel
 obtain ⟨c,m,hcm,h2⟩:=ZcF h
 obtain ⟨es,rfl,h3⟩:=Zmi h2
 split at h3 <;> first | (cases h3; done) | skip
 rename_i el' hput
 have hcell:nth el.cells j = some (.uni e (C.ty e).size es):=by
  have:nth (el.cells.drop j) 0 = some (.uni e (C.ty e).size es):=by rw [hcm]; rfl
  have:=ZbQ this
  rwa [Nat.add_zero] at this
 obtain ⟨hob1,hver⟩:=ZaY hob
 refine ⟨_,_,h3,by simp [Zak],fun g a w keep hkp hs next Q hnext=>?_⟩
 obtain ⟨xx,rv,hxx,hrv,hpx,y,hvr,k1,k2⟩:=hs.outl hob1 hel hcell hput
 have px:=(hs.ev hx).1
 have hr:=hs.at_obj hob1 hxx
 obtain ⟨ad,hea,had⟩:∃ ad:Addr,a.eval x = .pointer (some ad) ∧ ad = ⟨xx.2.1,(xx.2.2.2.2 + i) * ob.esz + j,none⟩:=by
  generalize a.eval x = rx at px
  cases px with
  | data h=>cases h
  | ptr _ _ _ _ ad ho2 h =>
   refine ⟨ad,rfl,?_⟩
   obtain ⟨q1,q2⟩:=h xx hxx
   rw [q2 (by rw [hver,hr.ver]),hr.esz]
 subst had
 have hrun:(execOp a.eval o).run P w = .ok (.value rv) w:=by
  simp only [execOp,ho,Instr.loadAt]
  refine ZbJ ?_
  simp [hea,Instr.sureAddr,loadVar,Zdf hC hk hag,hrv]
 unfold Oper.wp
 rw [hrun]
 exact hnext _ rv w (k2 keep hkp) (k1.put0 o.dst hvr (by simp [V.still]))
theorem ZuU {el el' u:V} {j k:Nat} {vs:List V} (hk:k < vs.length) (hna:∀ c ∈ vs,∀ cs,c ≠ .agg cs) (h:putCells el j (Zai vs k u) = some el') :
  ∃ el1,putCells el j vs = some el1 ∧ nth el1.cells (j + k) = nth vs k ∧ putCells el1 (j + k) [u] = some el':=by
 by_cases hag:∃ cs,el = .agg cs
 ·obtain ⟨cs,rfl⟩:=hag
  simp only [putCells,Zak] at h
  split at h <;> first | (cases h; done) | skip
  rename_i hle
  obtain rfl:=Option.some.inj h
  refine ⟨.agg (cs.take j ++ vs ++ cs.drop (j + vs.length)),by simp only [putCells,if_pos hle],?_,?_⟩
  ·show nth (cs.take j ++ vs ++ cs.drop (j + vs.length)) (j + k) = nth vs k
   rw [Zad,Zad,List.append_assoc,List.getElem?_append_right (by simp; omega),List.getElem?_append_left (by simp; omega)]
   congr 1
   simp; omega
  ·have hl:j + k < (cs.take j ++ vs ++ cs.drop (j + vs.length)).length:=by simp; omega
   simp only [putCells,List.length_singleton]
   rw [if_pos (Nat.succ_le_of_lt hl)]
   congr 2
   have e:(cs.take j ++ vs ++ cs.drop (j + vs.length)).take (j + k) ++ [u] ++ (cs.take j ++ vs ++ cs.drop (j + vs.length)).drop (j + k + 1) = (cs.take j ++ vs ++ cs.drop (j + vs.length)).set (j + k) u:=by
    rw [List.set_eq_take_append_cons_drop,if_pos hl]
    simp
   rw [e,ZaM,List.append_assoc,List.append_assoc,List.set_append_right _ _ (by simp; omega),List.set_append_left _ _ (by simp; omega)]
   congr 3
   simp; omega
 ·have hf:∀ ws,putCells el j ws = (match ws with
   | [v]=>if j = 0 then some v else none
   | _=>none):=fun ws=>by cases el <;> first | rfl | exact absurd ⟨_,rfl⟩ hag
  rw [hf] at h
  rcases vs with _ | ⟨v,_ | ⟨v2,vt⟩⟩
  ·cases hk
  ·have hk0:k = 0:=by simpa using hk
   subst hk0
   have h':(if j = 0 then some u else none) = some el':=h
   split at h' <;> first | (cases h'; done) | skip
   rename_i hj
   subst hj
   obtain rfl:=Option.some.inj h'
   have hnv:∀ cs,v ≠ .agg cs:=hna v (by simp)
   refine ⟨v,by rw [hf]; rfl,by rw [ZaH hnv],?_⟩
   cases v <;> first | rfl | exact absurd rfl (hnv _)
  ·exfalso
   cases k with
   | zero=>cases h
   | succ k=>cases k <;> cases h
theorem ZcP {oo:Nat} {e:TypeId} {c:V} {K:V → Option Nat → Option R} {r:R} (h:Zgt C s oo e c K = some r) :
  (∃ n ver off len rb,c = .arr n ver off len ∧ Zbs s n ver = some rb ∧ C.thaw = false ∧ n ≠ oo ∧ 0 < rb.esz ∧ off + len ≤ rb.es.length ∧ ((rb.es.drop off).take len).all V.scalE = true ∧ K (.uni rb.elem rb.esz ((rb.es.drop off).take len)) (some n) = some r) ∨
  (c = .nils ∧ (C.ty e).known = true ∧ K (.uni e (C.ty e).size []) none = some r):=by
 unfold Zgt at h
 split at h
 ·obtain ⟨rb,q1,q2,q3,q4,q5,q6,h5⟩:=Zhq h
  exact .inl ⟨_,_,_,_,rb,rfl,q1,q2,q3,q4,q5,q6,h5⟩
 ·obtain ⟨h1,h2⟩:=Zaa h
  exact .inr ⟨rfl,h1,h2⟩
 ·cases h
theorem ZnD {g:G} {a:Act} {w:World} {cs:List V} {rv:Value} (h:VR g w (.agg cs) rv) (ho:OwnOk C g w (.agg cs) rv):VR g w (.agg (cs.map Zg1)) rv:=by
 obtain ⟨vs,rfl,hl,hc⟩:=h.agg_inv
 refine .agg _ vs (by simp [hl]) fun i c u q1 q2=>?_
 obtain ⟨c0,hc0,rfl⟩:=Zac q1
 by_cases hown:∃ sz es e,c0 = .list sz es (.own e)
 ·obtain ⟨sz,es,e,rfl⟩:=hown
  obtain ⟨_,_,_,vs',hv,hn⟩:=ho.agg cs rfl i sz es e hc0
  have hvs:vs = vs':=by
   injection hv with hv
   have:=congrArg Array.toList hv
   simpa using this
  subst hvs
  rw [q2] at hn
  obtain rfl:=Option.some.inj hn
  exact .data .nils
 ·have:Zg1 c0 = c0:=by
   cases c0 <;> first | rfl | skip
   rename_i sz es f
   cases f <;> first | rfl | exact absurd ⟨_,_,_,rfl⟩ hown
  rw [this]
  exact hc i c0 u hc0 q2
theorem Zkk {c:V}:∀ sz es e,Zg1 c ≠ .list sz es (.own e):=by
 intro sz es e h
 cases c <;> simp [Zg1] at h
 rename_i sz' es' f
 cases f <;> simp at h
theorem Zep {x:Operand} {v:V} (h:∀ cs,v ≠ .agg cs):Zc3 x v = cond (Zdk x) .nils v:=by
 cases v <;> first | (unfold Zc3; cases Zdk x <;> rfl) | exact absurd rfl (h _)
theorem ZjA {x:Operand} {cs:List V}:Zc3 x (.agg cs) = .agg (cs.map Zg1):=rfl
theorem ZsH {g:G} {a:Act} {w:World} (hs:Sim C g E s a w) {t:TypeId} {x:Operand} {v:V} (hv:evt C t E x = some v):VR g w (Zc3 x v) (a.eval x):=by
 obtain ⟨h1,h2,_⟩:=hs.evt hv
 by_cases hag:∃ cs,v = .agg cs
 ·obtain ⟨cs,rfl⟩:=hag
  exact ZnD (a:=a) h1 h2
 ·have e:=Zep (x:=x) (v:=v) fun cs hc=>hag ⟨cs,hc⟩
  rw [e]
  cases hb:Zdk x with
  | true =>
   rw [ZhP hb]
   exact .data .nils
  | false=>exact h1
theorem Zgr {x:Operand} {v c:V} {k:Nat} (hc:nth (Zc3 x v).cells k = some c) (hcr:(∃ n ver off len,c = .arr n ver off len) ∨ c = .nils):(Zc3 x v).still:=by
 by_cases hag:∃ cs,v = .agg cs
 ·obtain ⟨cs,rfl⟩:=hag
  rw [ZjA]
  refine ⟨fun _ _ _ h=>by (cases h),fun cs' h i sz es e hi=>?_,fun _ _ _ h=>by (cases h)⟩
  injection h with h
  subst h
  obtain ⟨c0,_,h0⟩:=Zac hi
  exact Zkk sz es e h0
 ·have hna:∀ cs,Zc3 x v ≠ .agg cs:=by
   intro cs h
   have e:=Zep (x:=x) (v:=v) fun cs hc=>hag ⟨cs,hc⟩
   rw [e] at h
   cases hb:Zdk x with
   | true=>rw [hb] at h; cases h
   | false=>rw [hb] at h; exact hag ⟨cs,h⟩
  rw [ZaH hna] at hc
  cases k with
  | succ k=>simp [nth] at hc
  | zero =>
   simp only [nth] at hc
   obtain rfl:=Option.some.inj hc
   rcases hcr with ⟨n,ver,off,len,h⟩ | h <;> rw [h] <;> simp [V.still]
theorem Zqb (hC:Ok P C) {t:TypeId} {x y:Operand} {oo ver i j jr:Nat} {v c:V} {e:TypeId} {K:V → Option Nat → Option R} {r:R} {ob:Ob} {el:V} (hk:(C.ty t).known = true) (ho:o.op = .store t x y) (hx:ev E x = some (.ptr oo ver i j)) (hy:evt C t E y = some v)
  (hob:Zbs s oo ver = some ob) (hel:nth ob.es i = some el) (hlen:(Zc3 y v).cells.length = (C.ty t).size) (hfl:(Zc3 y v).flat = true) (hjr:jr < (Zc3 y v).cells.length) (hc:nth (Zc3 y v).cells jr = some c)
  (h:Zgt C s oo e c K = some r):∃ u rm,K u rm = some r ∧ ∀ el',putCells el j (Zai (Zc3 y v).cells jr u) = some el' → Zbi P C o E s (.tuple []) (Zb4 E y) (rmS rm (Zai s oo (some { ob with es:=Zai ob.es i el' }))):=by
 obtain ⟨hob1,hver⟩:=ZaY hob
 have hna:∀ c ∈ (Zc3 y v).cells,∀ cs,c ≠ .agg cs:=by
  intro c hc cs hcs
  subst hcs
  by_cases hag:∃ cs,Zc3 y v = .agg cs
  ·obtain ⟨cs',hcs'⟩:=hag
   rw [hcs'] at hc hfl
   have:=List.all_eq_true.1 hfl _ hc
   cases this
  ·rw [ZaH fun cs hc=>hag ⟨cs,hc⟩] at hc
   rw [List.mem_singleton] at hc
   exact hag ⟨cs,hc.symm⟩
 have main:(∃ n ver off len,c = .arr n ver off len) ∨ c = .nils → ∀ u el',putCells el j (Zai (Zc3 y v).cells jr u) = some el' →
   ∃ el1,Zbi P C o E s (.tuple []) (Zb4 E y) (Zai s oo (some { ob with es:=Zai ob.es i el1 })) ∧ nth el1.cells (j + jr) = some c ∧ putCells el1 (j + jr) [u] = some el':=by
  intro hcr u el' hput
  obtain ⟨el1,q1,q2,q3⟩:=ZuU hjr hna hput
  refine ⟨el1,Zgz hC hk ho hx (v:=Zc3 y v) (fun g a w hs=>⟨ZsH hs hy,OwnOk.of_not (Zgr hc hcr),.inr (.inr (Zgr hc hcr))⟩) ?_,by rw [q2,hc],q3⟩
  unfold Zhx
  simp only [hob,hlen,hfl,and_self,if_true,hel,q1]
 rcases ZcP h with ⟨n,v',off,len,rb,rfl,q1,q2,q3,q4,q5,q6,h2⟩ | ⟨rfl,hke,h2⟩
 ·refine ⟨_,_,h2,fun el' hput=>?_⟩
  obtain ⟨el1,m1,m2,m3⟩:=main (.inl ⟨_,_,_,_,rfl⟩) _ el' hput
  refine m1.then (by simp only [rmS,Zak]) fun g E a w hs=>?_
  obtain ⟨k1,k2⟩:=hs.inl (Za3 hob1) (Za3 hel) m2 (rb:=rb) (by
   unfold Zbs at q1 ⊢
   rw [Zaj (Ne.symm q3)]
   exact q1) q3 q2 q4 q5 q6 m3
  simp only [ZcG] at k1
  exact ⟨_,k1,fun keep hk=>k2 keep hk⟩
 ·refine ⟨_,_,h2,fun el' hput=>?_⟩
  obtain ⟨el1,m1,m2,m3⟩:=main (.inr rfl) _ el' hput
  refine m1.then (by simp only [rmS,Zak]) fun g E a w hs=>?_
  obtain ⟨k1,k2⟩:=hs.nilrow (Za3 hob1) (Za3 hel) m2 hke m3
  simp only [ZcG] at k1
  exact ⟨_,k1,fun keep hk=>k2 keep hk⟩
theorem ZmV {v:V} (h:∀ c ∈ v.cells,c.solid = true):v.relab.cells = v.cells.map Zv0:=by
 cases v <;> first | rfl | skip
 rename_i sz es f
 cases es with
 | cons=>rfl
 | nil=>cases f <;> rfl
theorem Zh6 (hC:Ok P C) (hth:C.thaw = false) {t e:TypeId} {x y:Operand} {k k':IntKind} {n:Int} (hk:(C.ty t).known = true) (he:(C.ty t).elem = some e) (hke:(C.ty e).known = true)
  (ho:o.op = .makeSlice t x y) (hx:ev E x = some (.int k n)) (hy:ev E y = some (.int k' n)) (h0:0 ≤ n) (hb:n * (C.ty e).bytes ≤ 140737488355328) (hn:n ≤ 4611686018427387904) :
  Zbi P C o E s (.arr s.length 0 0 n.toNat) E (s ++ [some { es:=List.replicate n.toNat (C.ty e).zero.relab,esz:=(C.ty e).size,elem:=e,ver:=0 }]):=by
 have hu:=(hC.ty t hk).elem e he
 have hte:=hC.ty e hke
 obtain ⟨i,z',hi,_⟩:=hte.info
 obtain ⟨z,hz,zo,hsz,hby⟩:=hte.zero hi
 have hpos:=hte.pos
 have hrc:(C.ty e).zero.relab.cells = (C.ty e).zero.cells.map Zv0:=ZmV fun c hc=>by
  obtain ⟨j,hj⟩:=List.getElem?_of_mem hc
  exact (zo.cell j c (by rw [Zad]; exact hj)).1
 refine Zbi.fresh (by simp [V.still]) fun g a w hs=>?_
 have e1:=(hs.ev hx).1.int_inv
 have e2:=(hs.ev hy).1.int_inv
 have hw:IntKind.i64.wrap n = n:=by
  unfold IntKind.wrap
  have:IntKind.i64.bits = 64:=rfl
  simp only [this,IntKind.signed]
  have h1:n % (2:Int) ^ 64 = n:=by
   apply Int.emod_eq_of_lt h0
   omega
  simp only [h1]
  rw [if_neg (by simp; omega)]
 have hmul:(n.toNat:Int) = n:=Int.toNat_of_nonneg h0
 refine ⟨.slice (some ⟨w.heap.size,0,none⟩) n.toNat n.toNat,(Array.range (n.toNat * z.cells.size)).map (z.cells[· % z.cells.size]!),n.toNat,?_,hke,by simp [zo.size],by unfold maxLen; omega,by simp,?_,?_,?_,?_,?_⟩
 ·have hbb:¬ ((281474976710656:Int) < (i.bytes:Int) * n):=by
   rw [hby,Int.mul_comm]
   omega
  have h00:¬ (n < 0):=by omega
  simp only [execOp,ho,e1,e2]
  refine ZbJ ?_
  by_cases hz0:n.toNat * (C.ty e).size = 0
  ·have hn0:n.toNat = 0:=by
    rcases Nat.mul_eq_zero.1 hz0 with h | h
    ·exact h
    ·omega
   simp [Instr.makeSlice,Zag hu,Go.asInt,asIntOf,typeInfo,hi,hw,hbb,h00,sizeOf,hsz,hz0,hn0,newRow,Cfg.fz,hth]
   have h0':∀ f:Nat → Value,(Array.range 0).map f = #[]:=fun f=>by apply Array.ext'; simp
   rw [h0',h0']
  ·simp [Instr.makeSlice,Zag hu,Go.asInt,asIntOf,typeInfo,hi,hw,hbb,h00,sizeOf,hsz,hz0,newRow,zeroValue,hz,zo.size,Cfg.fz,hth]
 ·intro i' el hi'
  obtain ⟨rfl,_⟩:=ZaU hi'
  rw [hrc,List.length_map]
  exact zo.len
 ·intro i' el j c hi' hj
  obtain ⟨rfl,_⟩:=ZaU hi'
  rw [hrc] at hj
  obtain ⟨c0,hc0,rfl⟩:=Zac hj
  have:=(zo.cell j c0 hc0).1
  cases c0 <;> first | rfl | (cases this; done) | skip
  rename_i sz es f
  cases es <;> cases f <;> rfl
 ·intro k v hv
  obtain ⟨h1,_⟩:=ZbW (by rw [zo.size]; exact hpos) hv
  exact zo.one _ v h1
 ·intro i' el j c hi' hj
  obtain ⟨rfl,hlt⟩:=ZaU hi'
  rw [hrc] at hj
  obtain ⟨c0,hc0,rfl⟩:=Zac hj
  obtain ⟨_,rv,k1,k2,k3,k4⟩:=zo.cell j c0 hc0
  refine ⟨rv,by rw [← zo.size]; exact Zf7 hlt k1,?_⟩
  by_cases hown:∃ sz e',c0 = .list sz [] (.own e')
  ·obtain ⟨sz,e',rfl⟩:=hown
   obtain ⟨m1,⟨xs,m2⟩,_,m4⟩:=(k3 g w).own sz [] e' rfl
   have hrv:rv = .slice none 0 0:=by
    rcases m2.2 with ⟨q,_⟩ | ⟨gb,cap,cur,q,_⟩
    ·exact q
    ·rw [q] at k4; simp [Value.ownBlock] at k4
   subst hrv
   refine ⟨.uni _ _ _ _ _ _,⟨fun sz es e h=>by (cases h),fun cs h=>by (cases h),fun t sz es h=>?_⟩,fun _=>rfl⟩
   injection h with e1 e2 e3
   subst e1 e2 e3
   exact ⟨m1,m4,fun i e h=>by simp [nth] at h,fun i e j c h=>by simp [nth] at h,.inl ⟨none,rfl,rfl⟩,fun b hb=>by simp [Za0] at hb⟩
  ·have:Zv0 c0 = c0:=by
    cases c0 with
    | list sz es f =>
     cases es with
     | cons=>rfl
     | nil=>cases f <;> first | rfl | exact absurd ⟨_,_,rfl⟩ hown
    | _=>rfl
   rw [this]
   exact ⟨.data (k2 g w false),k3 g w,fun _=>V.blockOf_none k4⟩
 ·intro g' hl hnn
  refine .arr _ _ _ _ _ _ (Nat.le_refl _) (by omega) fun y hy=>?_
  rw [hnn] at hy
  obtain rfl:=Option.some.inj (Option.some.inj hy)
  refine ⟨Nat.le_refl _,fun _=>⟨.inr (by simp),?_⟩⟩
  simp [zo.size]
theorem Zd6 {e:TypeId} {sz:Nat} (v:V):(v.toUni e sz).cells = v.cells.map (Zn1 e sz):=by
 cases v <;> rfl
theorem ZkH (hC:Ok P C) {t e er:TypeId} {len:Nat} {parts:Array (Nat × Operand)} {ps:List (Nat × V)} {es:List V} (hk:(C.ty t).known = true) (he:(C.ty t).elem = some e)
  (hke:(C.ty e).known = true) (hker:(C.ty er).known = true) (ho:o.op = .buildSlice t len parts) (hp:Zb6 E parts.toList = some ps)
  (hall:ps.all (fun p=>Nat.beq p.2.cells.length (C.ty e).size && p.2.flat) = true) (hm:len * (C.ty e).size ≤ 16777216) (h:ZdN (List.replicate len (C.ty e).zero) ps = some es) :
  Zbi P C o E s (.arr s.length 0 0 len) E (s ++ [some { es:=es.map (V.toUni er (C.ty er).size),esz:=(C.ty e).size,elem:=e,ver:=0 }]):=by
 have hpos:=(hC.ty e hke).pos
 refine Zbi.fresh (by simp [V.still]) fun g a w hs=>?_
 obtain ⟨vs,h1,⟨e1,e2,e3,e4⟩,h3⟩:=ZcW hC hk he hke ho hp hall hm h hs
 have hfz:∀ n,C.fz 0 n = (0,0):=fun n=>by unfold Cfg.fz; cases C.thaw <;> rfl
 refine ⟨_,vs.toArray,len,by rw [hfz]; exact h1,hke,by simp [e1,h3],?_,by simp; omega,fun i el hi=>?_,fun i el j c hi hj=>?_,fun k v hv=>?_,fun i el j c hi hj=>?_,fun g' hl hn=>?_⟩
 ·have:len * 1 ≤ len * (C.ty e).size:=Nat.mul_le_mul_left _ hpos
  unfold maxLen; omega
 ·obtain ⟨el0,hel0,rfl⟩:=Zac hi
  rw [Zd6,List.length_map]
  exact e2 i el0 hel0
 ·obtain ⟨el0,hel0,rfl⟩:=Zac hi
  rw [Zd6] at hj
  obtain ⟨c0,hc0,rfl⟩:=Zac hj
  have:=(e4 i el0 j c0 hel0 hc0).1
  cases c0 <;> first | rfl | (cases this; done)
 ·rw [Za6,Zad] at hv
  exact e3 v (List.mem_of_getElem? hv)
 ·obtain ⟨el0,hel0,rfl⟩:=Zac hi
  rw [Zd6] at hj
  obtain ⟨c0,hc0,rfl⟩:=Zac hj
  obtain ⟨_,x,x1,x2,x3,x4⟩:=e4 i el0 j c0 hel0 hc0
  refine ⟨x,by rw [Za6]; exact x1,?_⟩
  by_cases hn:c0 = .nils
  ·subst hn
   have hx:x = .slice none 0 0:=by
    cases x2 with | data h=>cases h; rfl
   subst hx
   refine ⟨.uni _ _ _ _ _ _,⟨fun sz es e h=>by (cases h),fun cs h=>by (cases h),fun t sz es h=>?_⟩,fun _=>rfl⟩
   injection h with e1 e2 e3
   subst e1 e2 e3
   exact ⟨hker,rfl,fun i e h=>by simp [nth] at h,fun i e j c h=>by simp [nth] at h,.inl ⟨none,rfl,rfl⟩,fun b hb=>by simp [Za0] at hb⟩
  ·have:Zn1 er (C.ty er).size c0 = c0:=by cases c0 <;> first | rfl | exact absurd rfl hn
   rw [this]
   exact ⟨x2,x3,x4⟩
 ·refine .arr _ _ _ _ _ _ (Nat.le_refl _) (by omega) fun y hy=>?_
  rw [hn] at hy
  obtain rfl:=Option.some.inj (Option.some.inj hy)
  exact ⟨Nat.le_refl _,fun _=>⟨.inr (by simp),by simp [e1,h3]⟩⟩
theorem Zl6 {sz:Nat} {y:V} {K:List V → Option R} {r:R} (h:ZcM sz s y K = some r):∃ ys,K ys = some r ∧ ∀ {R':Type} (K':List V → Option R'),ZcM sz s y K' = K' ys:=by
 unfold ZcM at h
 split at h <;> first | (cases h; done) | skip
 ·obtain ⟨h1,h2⟩:=Zaa h
  exact ⟨_,h2,fun K'=>by simp only [ZcM,h1,Zaf]⟩
 ·rename_i oo ver off len
  split at h <;> first | (cases h; done) | skip
  rename_i ob hob
  obtain ⟨h1,h2⟩:=Zaa h
  exact ⟨_,h2,fun K'=>by simp only [ZcM,hob,h1,Zaf]⟩
theorem Zbi.nilz {v:List V} {E':List V} {s':S} (h:Zbi P C o E s (.agg v) E' s'):Zbi P C o E s (.agg (v.map Zg1)) E' s':=by
 refine ⟨h.1,fun g a w keep hk hs next Q hn=>h.2 g a w keep hk hs next Q fun g' rv w' hle hs'=>hn g' rv w' hle ?_⟩
 have hst:V.still (.agg (v.map Zg1)):=by
  refine ⟨fun _ _ _ h=>by (cases h),fun cs' h i sz es e hi=>?_,fun _ _ _ h=>by (cases h)⟩
  injection h with h
  subst h
  obtain ⟨c0,_,h0⟩:=Zac hi
  exact Zkk sz es e h0
 cases hd:o.dst with
 | none=>rw [hd] at hs'; exact hs'
 | some d =>
  rw [hd] at hs'
  by_cases hlt:d < E'.length
  ·have hv:nth (Zcy E' (some d) (.agg v)) d = some (.agg v):=by
    show nth (Zai E' d _) d = _
    rw [Zad,ZaM,List.getElem?_set_self hlt]
   obtain ⟨rv',r1,r2,r3⟩:=hs'.env d _ hv
   have hsz:d < a.tmps.size:=by
    have:=hs'.len
    rw [ZbI,Zdi] at this
    exact Nat.lt_of_lt_of_eq hlt this
   rw [Zea hsz rfl] at r1
   obtain rfl:=Option.some.inj r1
   have:=hs'.put0 (some d) (ZnD (a:=a) r2 r3) hst
   have e1:Zcy (Zcy E' (some d) (.agg v)) (some d) (.agg (v.map Zg1)) = Zcy E' (some d) (.agg (v.map Zg1)):=ZcG _ _ _ _
   have e2:(a.put (some d) rv).put (some d) rv = a.put (some d) rv:=by simp [Act.put,Array.setIfInBounds_setIfInBounds]
   rw [e1,e2] at this
   exact this
  ·have e1:∀ u,Zcy E' (some d) u = E':=fun u=>by
    show Zai E' d u = E'
    rw [ZaM,List.set_eq_of_length_le (Nat.le_of_not_lt hlt)]
   rw [e1] at hs' ⊢
   exact hs'
theorem Zwf (hC:Ok P C) {Φ:Zat} (hΦ:Zab P C Φ) {ops l:List Oper} {K:V → List V → S → Option (Nat × Nat × Nat × Nat × Nat × Nat) → Option R} {r:R} (h:opR C Φ ops l o E s K = some r) :
  ∃ v E' s' wb,K v E' s' wb = some r ∧ Zbi P C o E s v E' s':=by
 have base:opX C Φ ops o E s (fun v E s=>K v E s none) = some r → ∃ v E' s' wb,K v E' s' wb = some r ∧ Zbi P C o E s v E' s':=fun h=>by
  obtain ⟨v,E',s',h1,h2⟩:=Zqm hC hΦ h
  exact ⟨v,E',s',none,h1,h2⟩
 unfold opR at h
 simp only at h
 split at h
 ·-- load
  rename_i t x ho
  split at h
  ·rename_i oo ver i j hx
   split at h
   ·rename_i jr e hin hraw
    split at h
    ·obtain ⟨hg,h2⟩:=Zaa h
     simp only [Bool.and_eq_true,Bool.not_eq_true'] at hg
     obtain ⟨v,s',h3,h4⟩:=ZuI hC hg.1.1 hg.2 ho hx h2
     exact ⟨v,E,s',_,h3,h4⟩
    ·obtain ⟨hk,h2⟩:=Zaa h
     obtain ⟨v,h3,h4⟩:=Zlo (E:=E) hC (.loose C t) hk ho hx h2
     exact ⟨v,E,s,none,h3,h4⟩
   ·exact base h
  ·exact base h
 ·-- store
  rename_i t x y ho
  split at h
  ·rename_i oo ver i j v hx hy
   split at h
   ·rename_i jr e hin
    split at h
    ·rename_i hj
     obtain ⟨hg,h2⟩:=Zaa h
     simp only [Bool.and_eq_true] at hg hj
     split at h2 <;> first | (cases h2; done) | skip
     rename_i c hc
     cases hob:Zbs s oo ver with
     | none =>
      rcases ZcP h2 with ⟨_,_,_,_,_,_,_,_,_,_,_,_,h3⟩ | ⟨_,_,h3⟩ <;> (rw [hob] at h3; cases h3)
     | some ob =>
     cases hel:nth ob.es i with
     | none =>
      rcases ZcP h2 with ⟨_,_,_,_,_,_,_,_,_,_,_,_,h3⟩ | ⟨_,_,h3⟩ <;> (rw [hob] at h3; simp only [hel] at h3; cases h3)
     | some el =>
     have hlen:(Zc3 y v).cells.length = v.cells.length:=by
      by_cases hag:∃ cs,v = .agg cs
      ·obtain ⟨cs,rfl⟩:=hag
       simp [ZjA,V.cells]
      ·rw [Zep fun cs hc=>hag ⟨cs,hc⟩,ZaH fun cs hc=>hag ⟨cs,hc⟩]
       cases Zdk y with
       | true=>rfl
       | false=>rw [show cond false V.nils v = v from rfl,ZaH fun cs hc=>hag ⟨cs,hc⟩]
     obtain ⟨u,rm,h3,h4⟩:=Zqb (e:=e) hC hg.1.1 ho hx hy hob hel (by rw [hlen]; exact Nat.eq_of_beq_eq_true hg.1.2) hg.2 (Zau hc) hc h2
     rw [hob] at h3
     simp only [hel] at h3
     split at h3 <;> first | (cases h3; done) | skip
     rename_i el' hput
     exact ⟨_,_,_,none,h3,h4 el' hput⟩
    ·exact base h
   ·exact base h
  ·exact base h
 ·-- makeSlice
  rename_i t len cap ho
  split at h
  ·rename_i e he
   split at h
   ·obtain ⟨hg,h2⟩:=Zaa h
    simp only [Bool.and_eq_true,Bool.not_eq_true'] at hg
    obtain ⟨n,hn,h3⟩:=Zae h2
    obtain ⟨m,hm,h4⟩:=Zae h3
    split at h4 <;> first | (cases h4; done) | skip
    split at h4 <;> first | (cases h4; done) | skip
    rename_i hcond
    obtain ⟨q1,q2,q3⟩:=hcond
    subst q2
    have hb:=(hC.ty e hg.1.2).bpos
    have hnn:∀ n:Int,0 ≤ n → n * (C.ty e).bytes ≤ 140737488355328 → n ≤ 4611686018427387904:=fun n q1 q3=>by
     have:n * 1 ≤ n * ((C.ty e).bytes:Int):=Int.mul_le_mul_of_nonneg_left (by omega) q1
     omega
    exact ⟨_,_,_,none,h4,Zh6 hC hg.2 hg.1.1 he hg.1.2 ho hn hm q1 q3 (hnn _ q1 q3)⟩
   ·exact base h
  ·exact base h
 ·-- buildSlice
  rename_i t len parts ho
  split at h
  ·rename_i e he
   split at h
   ·rename_i jr er hin
    split at h
    ·exact base h
    ·obtain ⟨hg,h2⟩:=Zaa h
     simp only [Bool.and_eq_true,Bool.not_eq_true'] at hg
     split at h2 <;> first | (cases h2; done) | skip
     rename_i ps hps
     split at h2 <;> first | (cases h2; done) | skip
     rename_i es hes
     split at h2 <;> first | (cases h2; done) | skip
     rename_i hcond
     exact ⟨_,_,_,none,h2,ZkH hC hg.1.1.1 he hg.1.1.2 hg.1.2 ho hps hcond.2 hcond.1 hes⟩
   ·exact base h
  ·exact base h
 ·-- build
  rename_i t parts ho
  split at h
  ·obtain ⟨v,E',s',h1,h2⟩:=Zqm hC hΦ h
   obtain ⟨cs,rfl,h3⟩:=Zdc h1
   exact ⟨_,E',s',none,h3,h2.nilz⟩
  ·exact base h
 ·-- call
  rename_i c ho
  split at h
  ·rename_i oo ver off len y hcal ha
   split at h
   ·rename_i jr er t u hin hts
    obtain ⟨hg,h2⟩:=Zaa h
    split at h2 <;> first | (cases h2; done) | skip
    rename_i e he
    obtain ⟨hg2,h3⟩:=Zaa h2
    split at h3 <;> first | (cases h3; done) | skip
    rename_i ob hob
    obtain ⟨hbe,h4⟩:=Zaa h3
    obtain ⟨ys,h5,hys⟩:=Zl6 h4
    split at h5 <;> first | (cases h5; done) | skip
    rename_i z
    split at h5 <;> first | (cases h5; done) | skip
    rename_i hcond
    obtain ⟨q1,q2,q3⟩:=hcond
    subst q1
    obtain ⟨hob1,hver⟩:=ZaY hob
    split at h5 <;> first | (cases h5; done) | skip
    rename_i c1 hc1
    have hb:Zfi C .append c.argTypes.toList [.arr oo ver 0 len,y] s (fun v s'=>some (v,s')) = some (.arr oo (ver + 1) 0 (len + 1),Zai s oo (some { ob with es:=ob.es ++ [z.noOwn],ver:=ver + 1 })):=by
     unfold Zfi
     simp only [hts,hg,Zaf,he,hg2,ZmY,hob,hbe]
     rw [hys]
     simp only [List.length_singleton,List.map_cons,List.map_nil]
     exact if_pos (by refine ⟨?_,q2,q3,?_⟩ <;> simp)
    obtain ⟨v,s1,h6,_,hop,_⟩:=Zdn hC ho hcal ha hb
    have h6:=Option.some.inj h6
    injection h6 with e1 e2
    subst e1 e2
    have hlen:len = ob.es.length:=q2
    subst hlen
    have fin:∀ u z',putCells z.noOwn jr [u] = some z' → Zai (ob.es ++ [z.noOwn]) ob.es.length z' = ob.es ++ [z']:=fun u z' _=>ZoC _ _ _
    have hel:nth (ob.es ++ [z.noOwn]) ob.es.length = some z.noOwn:=Zaz
    rcases ZcP h5 with ⟨n,v',off',len',rb,rfl,m1,m2,m3,m4,m5,m6,h7⟩ | ⟨rfl,hke,h7⟩
    ·split at h7 <;> first | (cases h7; done) | skip
     rename_i z' hz'
     refine ⟨_,_,_,none,h7,hop.then (by simp only [rmS,Zak]) fun g E a w hs=>?_⟩
     obtain ⟨k1,k2⟩:=hs.inl (Za3 hob1) hel hc1 (rb:=rb) (by
      unfold Zbs at m1 ⊢
      rw [Zaj (Ne.symm m3)]
      exact m1) m3 m2 m4 m5 m6 hz'
     simp only [ZcG,fin _ _ hz'] at k1
     exact ⟨_,k1,fun keep hk=>k2 keep hk⟩
    ·split at h7 <;> first | (cases h7; done) | skip
     rename_i z' hz'
     refine ⟨_,_,_,none,h7,hop.then (by simp only [rmS,Zak]) fun g E a w hs=>?_⟩
     obtain ⟨k1,k2⟩:=hs.nilrow (Za3 hob1) hel hc1 hke hz'
     simp only [ZcG,fin _ _ hz'] at k1
     exact ⟨_,k1,fun keep hk=>k2 keep hk⟩
   ·exact base h
  ·exact base h
 ·exact base h
end
end Go.VM
