/- Calls, within a frame. -/
import Derived.Test.YtkchbabkbpcncaaVmPb
set_option linter.unusedSimpArgs false
set_option linter.unusedVariables false
namespace Go.VM
open Go.RowKit Go.Lib
section
variable {P:Program} {C:Cfg} {o:Oper} {E:List V} {s:S} {R:Type}
def Zbk (C:Cfg) (E:List V) (s:S) (c:Call) (args:List V):Prop :=
 args.length = c.args.toList.length ∧ ∀ g a w,Sim C g E s a w → ∀ i v,nth args i = some v → ∃ x,nth c.args.toList i = some x ∧ VR g w v (a.eval x)
theorem Zbk.of {c:Call} {args:List V} (h:ZeH C E c.argTypes.toList c.args.toList = some args):Zbk C E s c args :=
 ⟨(Zfn h).1,fun g a w hs i v hv=>(ZgM hs h).2 i v hv⟩
theorem ZhP {x:Operand} (h:Zdk x = true):x = .const (.slice none 0 0):=by
 unfold Zdk at h
 split at h
 ·rfl
 ·cases h
theorem Zkd:∀ {xs:List Operand} {vs:List V},(ZdM xs vs).length = vs.length ∧ ∀ i v,nth (ZdM xs vs) i = some v → nth vs i = some v ∨ (v = .nils ∧ nth xs i = some (.const (.slice none 0 0)))
 | [],vs=>⟨by simp [ZdM],fun i v h=>.inl (by simpa [ZdM] using h)⟩
 | x :: xs,[]=>⟨by simp [ZdM],fun i v h=>.inl (by simpa [ZdM] using h)⟩
 | x :: xs,v :: vs=>by
  obtain ⟨h1,h2⟩:=Zkd (xs:=xs) (vs:=vs)
  refine ⟨by simp [ZdM,h1],fun i u hu=>?_⟩
  cases i with
  | zero =>
   simp only [ZdM,nth] at hu ⊢
   split at hu
   ·rename_i hb
    exact .inr ⟨(Option.some.inj hu).symm,by rw [ZhP hb]⟩
   ·exact .inl hu
  | succ i=>exact h2 i u hu
theorem Zbk.nils {c:Call} {args:List V} (h:Zbk C E s c args):Zbk C E s c (ZdM c.args.toList args):=by
 obtain ⟨h1,h2⟩:=Zkd (xs:=c.args.toList) (vs:=args)
 refine ⟨h1.trans h.1,fun g a w hs i v hv=>?_⟩
 rcases h2 i v hv with h3 | ⟨rfl,h3⟩
 ·exact h.2 g a w hs i v h3
 ·exact ⟨_,h3,.data .nils⟩
theorem Zbk.argsN {b:Bool} {c:Call} {args:List V} (h:ZeH C E c.argTypes.toList c.args.toList = some args):Zbk C E s c (Go.VM.argsN b c.args.toList args):=by
 unfold Go.VM.argsN
 split
 ·exact (Zbk.of h).nils
 ·exact Zbk.of h
theorem Zg7 {g:G} {a:Act} {w:World} (hs:Sim C g E s a w) {c:Call} {args caps:List V} {cv:List Value} (ha:Zbk C E s c args)
  (hl:caps.length = cv.length) (hc:∀ i c v,nth caps i = some c → nth cv i = some v → VR g w c v) :
  (args ++ caps).length = (c.args.map a.eval ++ cv.toArray).size ∧
   ∀ (i:Nat) (u:V) (rv:Value),nth (args ++ caps) i = some u → (c.args.map a.eval ++ cv.toArray)[i]? = some rv → VR g w u rv:=by
 obtain ⟨h1,h2'⟩:=ha
 have h2:=h2' g a w hs
 have hsz:args.length = (c.args.map a.eval).size:=by rw [h1]; simp
 refine ⟨by simp [h1,hl],fun i u rv hu hr=>?_⟩
 by_cases hlt:i < args.length
 ·rw [Zal hlt] at hu
  obtain ⟨x,hx,hv⟩:=h2 i u hu
  rw [Array.getElem?_append_left (by rw [← hsz]; exact hlt),Array.getElem?_map] at hr
  have:c.args[i]? = some x:=by rw [← Array.getElem?_toList,← Zad]; exact hx
  rw [this] at hr
  obtain rfl:=Option.some.inj hr
  exact hv
 ·rw [ZaL (by omega)] at hu
  rw [Array.getElem?_append_right (by omega),← hsz,Za6] at hr
  exact hc _ u rv hu hr
theorem Zdw {a:Act} {w:World} {c:Call} {x:Operand} {f:FuncId} {cv:List Value} (ho:o.op = .call c) (hcal:c.callee = .value x) (hx:a.eval x = .func (.func f) #[] cv.toArray) :
  (execOp a.eval o).run P w = (callFunc f (c.args.map a.eval ++ cv.toArray)).run P w:=by
 unfold execOp
 simp [ho,resolve,hcal,hx,Deferred.ofValue,invoke]
theorem Zj4 {t:TypeId} {v:V} {K:V → Option R} {r:R} (h:Zwq C t v K = some r):K v = some r:=by
 unfold Zwq at h
 split at h
 ·obtain ⟨es,f,rfl,h2⟩:=Zas h
  exact h2
 ·split at h
  ·obtain ⟨cs,rfl,h2⟩:=Zdc h
   exact (ZdV h2).2
  ·split at h <;> first | (cases h; done) | skip
   exact ZeT h
theorem ZgZ:∀ {ts:List TypeId} {l:List V} {K:List V → Option R} {r:R},ZrJ C ts l K = some r → K l = some r
 | [],l,K,r,h=>by
  obtain ⟨rfl,h2⟩:=ZhC h
  exact h2
 | t :: ts,l,K,r,h=>by
  obtain ⟨a,m,rfl,h2⟩:=ZcF h
  have h3:=Zj4 h2
  exact ZgZ (K:=fun l=>K (a :: l)) h3
theorem ZdW {ts:List TypeId} {v:V} {K:V → Option R} {r:R} (h:Zic C ts v K = some r):K v = some r:=by
 unfold Zic at h
 split at h
 ·exact Zj4 h
 ·split at h <;> first | (cases h; done) | skip
  exact ZgZ (K:=fun l=>K (.tuple l)) h
theorem Zg4 {Φ:Zat} (hΦ:Zab P C Φ) {c:Call} {x:Operand} {f:FuncId} {args caps as:List V} {K:V → S → Option R} {r:R} (ho:o.op = .call c) (hcal:c.callee = .value x) (hx:ev E x = some (.fn f caps))
  (ha:Zbk C E s c args) (hm:C.mode f = .pure) (hfr:ZaK (freeze true (ZcA C s) 12) (args ++ caps) = some as) (h:(Φ R f as [] fun v _=>Zic C (C.res f) v fun v=>K v s) = some r) :
  ∃ v,K v s = some r ∧ Zbi P C o E s v E s:=by
 have h2:=hΦ R f as [] _ r h
 rw [hm] at h2
 obtain ⟨v,h3',hst,h4⟩:=h2 rfl
 have h3:=ZdW h3'
 refine ⟨v,h3,Nat.le_refl _,fun g a w keep hkp hs next Q hnext=>?_⟩
 obtain ⟨cv,hrx,hl,hc⟩:=(hs.ev hx).1.fn_inv
 obtain ⟨q1,q2⟩:=Zg7 hs ha hl hc
 obtain ⟨m1,m2⟩:=Zbb hfr
 unfold Oper.wp
 rw [Zdw ho hcal hrx]
 obtain ⟨gu,hsu,hku,u1,u2,u3,u4⟩:=hs.view
 have hou:ObsLe g gu:=⟨by rw [u2]; exact Nat.le_refl _,fun _ _ x' h=>⟨x',by rw [← u2]; exact h,Nat.le_refl _,fun _=>rfl⟩⟩
 let gv:G:={ gu with imm:=fun b i=>gu.imm b i ∨ ∃ o x,nth gu.obs o = some (some x) ∧ 0 < x.2.2.2.1 ∧ x.2.1 = b }
 have hkv:Keeps gu w gv w:=⟨fun _ _ h=>.inl h,fun _ _ h=>h,fun _ _ _=>rfl⟩
 refine h4 gv w _ (fun b i hb=>.inl (hsu.sub b i hb)) (fun b i hb=>?_) (by rw [← m1,q1]) (fun i u rv hu hr=>?_) o a next Q fun rv w' hw=>?_
 ·rcases hb with hb | ⟨oo,xx,hxx,hp,rfl⟩
  ·exact hsu.immlt b i hb
  ·obtain ⟨ob,hob⟩:=hsu.gone oo xx hxx
   obtain ⟨arr,cap,b1,_⟩:=(hsu.at_obj hob hxx).blk
   exact ZaO (b1 hp)
 ·obtain ⟨v0,hv0,hf0⟩:=m2 i u hu
  exact ⟨Zc9 (g':=gv) hsu (fun _ b i hb=>Or.inl (hsu.sub b i hb)) hkv (fun oo xx i hxx hp=>by show gv.imm _ _; exact .inr ⟨oo,xx,hxx,hp,rfl⟩) 12 hf0 ((q2 i v0 rv hv0 hr).keeps hs.sub hku hou),ZbX hf0⟩
 ·obtain ⟨w1,w2,w3,w4,w5,N,w6,w7⟩:=hw
  obtain ⟨k1,_⟩:=hs.more w1 w2 N w6
  have k2:=Le.more hs w1 w2 w3 w4 w5 N w6 hkp
  have w8:DR (g.more N) w' true v rv:=DR.safely (g:=gv.more N) (g':=g.more N) (fun b i hb=>hb.imp (fun h=>by rw [← u1]; exact h) id) (fun _ _ _=>rfl) w7
  exact hnext _ rv w' k2 (k1.put0 o.dst (.data w8.weak) hst)
theorem ZhA {Φ:Zat} (hΦ:Zab P C Φ) {c:Call} {x:Operand} {f:FuncId} {args caps as:List V} {K:V → S → Option R} {r:R} (ho:o.op = .call c) (hcal:c.callee = .value x) (hx:ev E x = some (.fn f caps))
  (ha:Zbk C E s c args) (hm:C.mode f = .own) (hfr:ZaK (freeze true (ZcA C s) 12) (args ++ caps) = some as) (h:(Φ R f as [] fun v _=>Zic C (C.res f) v fun v=>K v s) = some r) :
  ∃ v,K v s = some r ∧ Zbi P C o E s v E s:=by
 have h2:=hΦ R f as [] _ r h
 rw [hm] at h2
 obtain ⟨v,h3',sz,es,e,rfl,hke,hsz,h4⟩:=h2 rfl
 have h3:=ZdW h3'
 refine ⟨_,h3,Nat.le_refl _,fun g a w keep hkp hs next Q hnext=>?_⟩
 obtain ⟨cv,hrx,hl,hc⟩:=(hs.ev hx).1.fn_inv
 obtain ⟨q1,q2⟩:=Zg7 hs ha hl hc
 obtain ⟨m1,m2⟩:=Zbb hfr
 unfold Oper.wp
 rw [Zdw ho hcal hrx]
 obtain ⟨gu,hsu,hku,u1,u2,u3,u4⟩:=hs.view
 have hou:ObsLe g gu:=⟨by rw [u2]; exact Nat.le_refl _,fun _ _ x' h=>⟨x',by rw [← u2]; exact h,Nat.le_refl _,fun _=>rfl⟩⟩
 let gv:G:={ gu with imm:=fun b i=>gu.imm b i ∨ ∃ o x,nth gu.obs o = some (some x) ∧ 0 < x.2.2.2.1 ∧ x.2.1 = b }
 have hkv:Keeps gu w gv w:=⟨fun _ _ h=>.inl h,fun _ _ h=>h,fun _ _ _=>rfl⟩
 refine h4 gv w _ (fun b i hb=>.inl (hsu.sub b i hb)) (fun b i hb=>?_) (by rw [← m1,q1]) (fun i u rv hu hr=>?_) o a next Q fun rv w' hw=>?_
 ·rcases hb with hb | ⟨oo,xx,hxx,hp,rfl⟩
  ·exact hsu.immlt b i hb
  ·obtain ⟨ob,hob⟩:=hsu.gone oo xx hxx
   obtain ⟨arr,cap,b1,_⟩:=(hsu.at_obj hob hxx).blk
   exact ZaO (b1 hp)
 ·obtain ⟨v0,hv0,hf0⟩:=m2 i u hu
  exact ⟨Zc9 (g':=gv) hsu (fun _ b i hb=>Or.inl (hsu.sub b i hb)) hkv (fun oo xx i hxx hp=>by show gv.imm _ _; exact .inr ⟨oo,xx,hxx,hp,rfl⟩) 12 hf0 ((q2 i v0 rv hv0 hr).keeps hs.sub hku hou),ZbX hf0⟩
 ·obtain ⟨w1,w2,w3,w4,w5,N,w6,w7,⟨xs,w8⟩,w9⟩:=hw
  obtain ⟨k1,_⟩:=hs.more w1 w2 N w6
  have k2:=Le.more hs w1 w2 w3 w4 w5 N w6 hkp
  have hdr:DR (g.more N) w' true (.list sz es (.own e)) rv:=DR.safely (g:=gv.more N) (g':=g.more N) (fun b i hb=>hb.imp (fun h=>by rw [← u1]; exact h) id) (fun _ _ _=>rfl) w7
  have hnew:∀ b,rv.ownBlock = some b → w.heap.size ≤ b:=fun b hb=>(ZdY w8 hb).2
  refine hnext _ rv w' k2 (k1.put o.dst (.data hdr.weak) ⟨fun sz' es' e' hv=>?_,fun cs hv=>(by cases hv),fun t sz es hv=>(by cases hv)⟩ fun b _ hb p _ hp=>?_)
  ·injection hv with h1 h2 h3
   injection h3 with h3
   subst h1 h2 h3
   refine ⟨hke,⟨xs,?_⟩,fun b hb=>⟨fun hsus=>?_,fun i hi him=>?_,fun oo xx hxx hp hxb=>?_⟩,hsz⟩
   ·obtain ⟨z1,z2⟩:=w8
    refine ⟨z1,?_⟩
    rcases z2 with z2 | ⟨gb,cap,cur,z3,z4,z5⟩
    ·exact .inl z2
    ·exact .inr ⟨gb,cap,cur,z3,Nat.le_trans hs.basele z4,z5⟩
   ·have:=hs.susplt b hsus
    have:=hnew b hb
    omega
   ·rcases him with him | him
    ·have:=hs.immlt b i him
     have:=hnew b hb
     omega
    ·exact w9 b hb i hi him
   ·obtain ⟨ob,hob⟩:=hs.gone oo xx hxx
    obtain ⟨arr,cap,b1,_⟩:=(hs.at_obj hob hxx).blk
    have:=ZaO (b1 hp)
    have:=hnew b hb
    omega
  ·have:=Zek hs (ZiC hs w2 rfl hp)
   have:=hnew b hb
   omega
theorem Sim.news {g g0 g':G} {a:Act} {w w':World} {s1:S} (hs:Sim C g E s a w) (hb0:g0.base = w.heap.size) (hsu0:∀ b,g0.susp b ↔ b < w.heap.size) (hi0:∀ b i,g.imm b i → g0.imm b i) (hsf0:∀ b i,g0.safe b i → g.safe b i)
  (hle:Le 0 g0 w g' w') (hs':Sim C g' [] s1 ZaI w') (hfm:∀ o ob,nth s1 o = some (some ob) → ∀ i e,nth ob.es i = some e → firm1 e = true) :
  ∃ g2,Sim C g2 E (s ++ s1.map (Option.map (Ob.rho (Za5 [] s.length)))) a w' ∧ (∀ keep,keep ≤ s.length → Le keep g w g2 w') ∧ Firms g' g2 (Za5 [] s.length):=by
 let g2:G:={ base:=g.base,imm:=fun b i=>g.imm b i ∨ (w.heap.size ≤ b ∧ g'.imm b i),safe:=fun b i=>g.safe b i ∨ (w.heap.size ≤ b ∧ g'.safe b i),susp:=g.susp,obs:=g.obs ++ g'.obs }
 have hlow:∀ b,b < w.heap.size → w'.heap[b]? = w.heap[b]?:=fun b hb=>hle.low b (by rw [hb0]; exact hb)
 have hsize:=hle.size
 have hk:Keeps g w g2 w':=⟨fun _ _ h=>.inl h,fun _ _ h=>.inl h,fun b i hi=>Za2 (hlow b (hs.immlt b i hi)) i⟩
 have hol:ObsLe g g2:=⟨by simp [g2],fun o ho x' hx=>⟨x',by rw [← hx]; exact (Zal ho).symm,Nat.le_refl _,fun _=>rfl⟩⟩
 have hbase':∀ o x,nth g'.obs o = some (some x) → 0 < x.2.2.2.1 → w.heap.size ≤ x.2.1:=fun o x hx hp=>by
  obtain ⟨ob,hob⟩:=hs'.gone o x hx
  have:=(hs'.at_obj hob hx).base hp
  rw [hle.base,hb0] at this
  exact this
 have hlt:∀ o x,nth g.obs o = some (some x) → 0 < x.2.2.2.1 → x.2.1 < w.heap.size:=fun o x hx hp=>by
  obtain ⟨ob,hob⟩:=hs.gone o x hx
  obtain ⟨arr,cap,b1,_⟩:=(hs.at_obj hob hx).blk
  exact ZaO (b1 hp)
 have hG:∀ o x,nth g2.obs o = some (some x) → (o < s.length ∧ nth g.obs o = some (some x)) ∨ (s.length ≤ o ∧ nth g'.obs (o - s.length) = some (some x)):=by
  intro o x h
  by_cases ho:o < g.obs.length
  ·exact .inl ⟨by rw [← hs.olen]; exact ho,by rw [← h]; exact (Zal ho).symm⟩
  ·refine .inr ⟨by rw [← hs.olen]; omega,?_⟩
   have h':nth (g.obs ++ g'.obs) o = some (some x):=h
   rw [ZaL (by omega),hs.olen] at h'
   exact h'
 have hG1:∀ o,o < s.length → nth g2.obs o = nth g.obs o:=fun o ho=>Zal (by rw [hs.olen]; exact ho)
 have hG2:∀ o,nth g2.obs (s.length + o) = nth g'.obs o:=fun o=>by
  show nth (g.obs ++ g'.obs) _ = _
  rw [ZaL (by rw [hs.olen]; omega),hs.olen]
  congr 1; omega
 have hS:∀ o ob,nth (s ++ s1.map (Option.map (Ob.rho (Za5 [] s.length)))) o = some (some ob) → (o < s.length ∧ nth s o = some (some ob)) ∨ ∃ k ob0,o = s.length + k ∧ nth s1 k = some (some ob0) ∧ ob = ob0.rho (Za5 [] s.length):=by
  intro o ob h
  by_cases ho:o < s.length
  ·exact .inl ⟨ho,by rw [← h]; exact (Zal ho).symm⟩
  ·rw [ZaL (by omega)] at h
   obtain ⟨y,hy,h2⟩:=Zac h
   cases y with
   | none=>cases h2
   | some ob0=>exact .inr ⟨o - s.length,ob0,by omega,hy,(Option.some.inj h2).symm⟩
 have hfi:Firms g' g2 (Za5 [] s.length):=by
  refine ⟨fun b i h=>?_,fun i i' hi he=>?_⟩
  ·by_cases hb:b < w.heap.size
   ·exact .inl (hsf0 _ _ ((hle.sus b ((hsu0 b).2 hb)).2.2 i h))
   ·exact .inr ⟨by omega,h⟩
  ·have:i' = s.length + i:=by
    simp only [Za5,nth,List.length_nil,Nat.sub_zero,Option.some.injEq] at he
    exact he.symm
   subst this
   exact ⟨by show _ < (g.obs ++ g'.obs).length; rw [List.length_append,hs.olen]; omega,hG2 i⟩
 have own1:∀ v rv,OwnOk C g w v rv → OwnOk C g2 w' v rv:=fun v rv h=>h.side rfl fun h0 b hb=>by
  have hlt':=(h.row h0 hb).1
  refine ⟨hlow b hlt',fun h=>h,fun i hi=>?_,fun o x hx hp hxb=>?_⟩
  ·rcases hi with hi | ⟨hi,_⟩
   ·exact hi
   ·omega
  ·rcases hG o x hx with ⟨_,hx⟩ | ⟨_,hx⟩
   ·exact ⟨o,hx⟩
   ·have:=hbase' _ x hx hp
    omega
 have own2:∀ v rv,OwnOk C g' w' v rv → OwnOk C g2 w' v rv:=fun v rv h=>h.down (by show g.base ≤ g'.base; rw [hle.base,hb0]; exact hs.basele) fun h0 b hb=>by
  obtain ⟨q1,q2,_⟩:=h.row h0 hb
  rw [hle.base,hb0] at q2
  refine ⟨rfl,fun hc=>(hle.susp b).2 ((hsu0 b).2 (hs.susplt b hc)),fun i hi=>?_,fun o x hx hp hxb=>?_⟩
  ·rcases hi with hi | ⟨_,hi⟩
   ·exact hle.keeps.imm _ _ (hi0 _ _ hi)
   ·exact hi
  ·rcases hG o x hx with ⟨_,hx⟩ | ⟨_,hx⟩
   ·have:=hlt o x hx hp
    omega
   ·exact ⟨_,hx⟩
 have key:∀ p b,Zan E (s ++ s1.map (Option.map (Ob.rho (Za5 [] s.length)))) a w' g2 p b → (b < w.heap.size ∧ Zan E s a w g p b) ∨ (w.heap.size ≤ b ∧ ∃ o i j,p = .cell (s.length + o) i j ∧ Zan [] s1 ZaI w' g' (.cell o i j) b):=by
  intro p b hp
  cases p with
  | slot t =>
   have hp':Zan E s a w g (.slot t) b:=hp
   exact .inl ⟨Zek hs hp',hp'⟩
  | cell o i j =>
   obtain ⟨ob,x,el,c,rv,k1,k2,k3,k4,k0,k5,k6⟩:=hp
   rcases hS o ob k1 with ⟨ho,k7⟩ | ⟨k,ob0,rfl,k7,rfl⟩
   ·rw [hG1 o ho] at k2
    obtain ⟨arr,cap,b1,_⟩:=(hs.at_obj k7 k2).blk
    have hx0:=(hs.at_obj k7 k2).real k3 k4
    rw [Za2 (hlow _ (ZaO (b1 hx0)))] at k5
    have hown:Zan E s a w g (.cell o i j) b:=⟨ob,x,el,c,rv,k7,k2,k3,k4,k0,k5,k6⟩
    exact .inl ⟨Zek hs hown,hown⟩
   ·rw [hG2 k] at k2
    have hr:=hs'.at_obj k7 k2
    obtain ⟨e0,c0,q1,q2,rfl,_⟩:=Zd5 hr k3 k4
    obtain ⟨q3,q4⟩:=Zdx k0
    rw [q4] at k6
    have hown:Zan [] s1 ZaI w' g' (.cell k i j) b:=⟨ob0,x,e0,c0,rv,k7,k2,q1,q2,q3,k5,k6⟩
    refine .inr ⟨?_,k,i,j,rfl,hown⟩
    have:=(ZcQ hs' hown).2.1
    rw [hle.base,hb0] at this
    exact this
 refine ⟨g2,{
  len:=hs.len
  env:=fun t v hv=>by
   obtain ⟨rv,h1,h2,h3⟩:=hs.env t v hv
   exact ⟨rv,h1,h2.keeps hs.sub hk hol,own1 v rv h3⟩
  olen:=by simp [g2,hs.olen,hs'.olen]
  obj:=fun o ob ho=>by
   rcases hS o ob ho with ⟨hlo,ho'⟩ | ⟨k,ob0,rfl,ho',rfl⟩
   ·obtain ⟨x,hx,hr⟩:=hs.obj o ob ho'
    obtain ⟨arr,cap,b1,b2,b3,b4,b5,b7,b6⟩:=hr.blk
    refine ⟨x,by rw [hG1 o hlo]; exact hx,hr.ver,hr.esz,hr.ty,hr.known,⟨arr,cap,fun hp=>by rw [hlow _ (ZaO (b1 hp))]; exact b1 hp,b2,b3,b4,b5,b7,fun i e j c h1 h2=>?_⟩,hr.sz,hr.flat,hr.base,hr.nsusp,fun hp i hi=>?_⟩
    ·obtain ⟨rv,r1,r2,r3⟩:=b6 i e j c h1 h2
     exact ⟨rv,r1,r2.keeps hs.sub hk hol,own1 c rv r3⟩
    ·rcases hi with hi | ⟨hi,_⟩
     ·exact hr.nimm hp i hi
     ·have:=hlt o x hx hp
      omega
   ·obtain ⟨x,hx,hr⟩:=hs'.obj k ob0 ho'
    obtain ⟨arr,cap,b1,b2,b3,b4,b5,b7,b6⟩:=hr.blk
    refine ⟨x,by rw [hG2 k]; exact hx,hr.ver,hr.esz,hr.ty,hr.known,⟨arr,cap,b1,b2,b3,b4,by simpa [Ob.rho] using b5,b7,fun i e j c h1 h2=>?_⟩,fun i e he=>?_,fun i e j c h1 h2=>?_,fun hp=>?_,fun hp hc=>?_,fun hp i hi=>?_⟩
    ·obtain ⟨e0,c0,q1,q2,rfl,q4⟩:=Zd5 hr h1 h2
     obtain ⟨rv,r1,r2,r3⟩:=b6 i e0 j c0 q1 q2
     refine ⟨rv,r1,r2.firmC hfi (Zpu (hfm k ob0 ho' i e0 q1) q2),?_⟩
     by_cases hc:(rhoC (Za5 [] s.length) c0).owns
     ·obtain ⟨_,q6⟩:=Zdx hc
      rw [q6]
      exact own2 c0 rv r3
     ·refine ⟨fun sz es e hv=>absurd (.inl ⟨sz,es,e,hv⟩) hc,fun cs hv=>?_,fun t sz es hv=>absurd (.inr ⟨t,sz,es,hv⟩) hc⟩
      have:=Zc5 (f:=Za5 [] s.length) c0
      rw [hv] at this
      cases this
    ·obtain ⟨e0,he0,rfl⟩:=Zac he
     rw [Zfx (hr.cells_flat he0),List.length_map]
     exact hr.sz i e0 he0
    ·obtain ⟨e0,c0,q1,q2,rfl,q4⟩:=Zd5 hr h1 h2
     exact Zc5 c0
    ·have:=hbase' k x hx hp
     exact Nat.le_trans hs.basele this
    ·have:=hbase' k x hx hp
     have:=hs.susplt _ hc
     omega
    ·rcases hi with hi | ⟨_,hi⟩
     ·have:=hbase' k x hx hp
      have:=hs.immlt _ i hi
      omega
     ·exact hr.nimm hp i hi
  gone:=fun o x hx=>by
   rcases hG o x hx with ⟨h1,h2⟩ | ⟨h1,h2⟩
   ·obtain ⟨ob,hob⟩:=hs.gone o x h2
    exact ⟨ob,by rw [Zal h1]; exact hob⟩
   ·obtain ⟨ob,hob⟩:=hs'.gone _ x h2
    exact ⟨_,by rw [ZaL h1,ZbF hob]; rfl⟩
  inj:=fun o o' x x' hx hx' hp hp' hb=>by
   rcases hG o x hx with ⟨h1,h2⟩ | ⟨h1,h2⟩ <;> rcases hG o' x' hx' with ⟨h3,h4⟩ | ⟨h3,h4⟩
   ·exact hs.inj o o' x x' h2 h4 hp hp' hb
   ·have:=hlt o x h2 hp
    have:=hbase' _ x' h4 hp'
    omega
   ·have:=hlt o' x' h4 hp'
    have:=hbase' _ x h2 hp
    omega
   ·have:=hs'.inj _ _ x x' h2 h4 hp hp' hb
    omega
  own:=fun p q b hp hq=>by
   rcases key p b hp with ⟨h1,h2⟩ | ⟨h1,o,i,j,rfl,h2⟩ <;> rcases key q b hq with ⟨h3,h4⟩ | ⟨h3,o',i',j',rfl,h4⟩
   ·exact hs.own p q b h2 h4
   ·omega
   ·omega
   ·have:=hs'.own _ _ b h2 h4
    injection this with e1 e2 e3
    rw [e1,e2,e3]
  sub:=fun b i h=>h.imp (hs.sub b i) fun h=>⟨h.1,hs'.sub b i h.2⟩
  immlt:=fun b i hi=>by
   rcases hi with hi | ⟨_,hi⟩
   ·exact Nat.lt_of_lt_of_le (hs.immlt b i hi) hsize
   ·exact hs'.immlt b i hi
  basele:=Nat.le_trans hs.basele hsize
  susplt:=fun b hb=>Nat.lt_of_lt_of_le (hs.susplt b hb) hsize },fun keep hkp=>{
  keeps:=hk
  size:=hsize
  os:=hle.os
  tape:=hle.tape
  output:=hle.output
  base:=rfl
  susp:=fun _=>Iff.rfl
  low:=fun b hb=>hlow b (Nat.lt_of_lt_of_le hb hs.basele)
  sus:=fun b hb=>by
   have:=hs.susplt b hb
   refine ⟨hlow b this,fun i hi=>?_,fun i hi=>?_⟩
   ·rcases hi with hi | ⟨hi,_⟩
    ·exact hi
    ·omega
   ·rcases hi with hi | ⟨hi,_⟩
    ·exact hi
    ·omega
  klen:=by simp [g2,hs.olen]; omega
  obs:=fun o ho x' hx=>by
   rw [hG1 o (by omega)] at hx
   exact ⟨x',hx,Nat.le_refl _,fun _=>rfl⟩ },hfi⟩
theorem Sim.blank {g:G} {w:World} (hsub:Sub g) (himm:∀ b i,g.imm b i → b < w.heap.size):Sim C { base:=w.heap.size,imm:=g.imm,safe:=g.safe,susp:=fun b=>b < w.heap.size,obs:=[] } [] [] ZaI w where
 len:=rfl
 env:=fun t v hv=>by simp [nth] at hv
 olen:=rfl
 obj:=fun o ob ho=>by simp [nth] at ho
 gone:=fun o x hx=>by simp [nth] at hx
 inj:=fun o o' x x' hx=>by simp [nth] at hx
 own:=fun p q b hp=>by
  cases p with
  | slot t=>obtain ⟨c,rv,h1,_⟩:=hp; simp [nth] at h1
  | cell o i j=>obtain ⟨ob,x,el,c,rv,h1,_⟩:=hp; simp [nth] at h1
 sub:=hsub
 immlt:=himm
 basele:=Nat.le_refl _
 susplt:=fun b hb=>hb
theorem ZkZ {Φ:Zat} (hΦ:Zab P C Φ) {c:Call} {x:Operand} {f:FuncId} {args caps as:List V} {K:V → S → Option R} {r:R} (ho:o.op = .call c) (hcal:c.callee = .value x) (hx:ev E x = some (.fn f caps))
  (ha:Zbk C E s c args) (hm:C.mode f = .fresh) (hfr:ZaK (freeze true (ZcA C s) 12) (args ++ caps) = some as)
  (h:(Φ R f as [] fun v s'=>K (v.rho (Za5 [] s.length)) (s ++ ZtL (Za5 [] s.length) s' (Zg5 C.rl s'))) = some r):∃ v s',K v s' = some r ∧ Zbi P C o E s v E s':=by
 have h2:=hΦ R f as [] _ r h
 rw [hm] at h2
 obtain ⟨v,s1,h3,hfv,hfs,hst,_,h4⟩:=h2 rfl
 rw [Zkn fun o ob ho hr=>(hfs o ob ho).2 hr] at h3
 refine ⟨_,_,h3,by simp,fun g a w keep hkp hs next Q hnext=>?_⟩
 obtain ⟨cv,hrx,hl,hc⟩:=(hs.ev hx).1.fn_inv
 obtain ⟨q1,q2⟩:=Zg7 hs ha hl hc
 obtain ⟨m1,m2⟩:=Zbb hfr
 unfold Oper.wp
 rw [Zdw ho hcal hrx]
 obtain ⟨gu,hsu,hku,u1,u2,u3,u4⟩:=hs.view
 have hou:ObsLe g gu:=⟨by rw [u2]; exact Nat.le_refl _,fun _ _ x' h=>⟨x',by rw [← u2]; exact h,Nat.le_refl _,fun _=>rfl⟩⟩
 let gv:G:={ gu with imm:=fun b i=>gu.imm b i ∨ ∃ o x,nth gu.obs o = some (some x) ∧ 0 < x.2.2.2.1 ∧ x.2.1 = b }
 have hkv:Keeps gu w gv w:=⟨fun _ _ h=>.inl h,fun _ _ h=>h,fun _ _ _=>rfl⟩
 have hsubv:Sub gv:=fun b i hb=>.inl (hsu.sub b i hb)
 have himv:∀ b i,gv.imm b i → b < w.heap.size:=fun b i hb=>by
  rcases hb with hb | ⟨oo,xx,hxx,hp,rfl⟩
  ·exact hsu.immlt b i hb
  ·obtain ⟨ob,hob⟩:=hsu.gone oo xx hxx
   obtain ⟨arr,cap,b1,_⟩:=(hsu.at_obj hob hxx).blk
   exact ZaO (b1 hp)
 refine h4 _ w _ 0 (Nat.zero_le _) (Sim.blank (C:=C) hsubv himv) (by rw [← m1,q1]) (fun i u rv hu hr=>?_) o a next Q fun rv w' hw=>?_
 ·obtain ⟨v0,hv0,hf0⟩:=m2 i u hu
  have hd:DR gv w false u rv:=Zc9 (g':=gv) hsu (fun _=>hsubv) hkv (fun oo xx i hxx hp=>by show gv.imm _ _; exact .inr ⟨oo,xx,hxx,hp,rfl⟩) 12 hf0 ((q2 i v0 rv hv0 hr).keeps hs.sub hku hou)
  exact ⟨.data (DR.keeps (g':={ base:=w.heap.size,imm:=gv.imm,safe:=gv.safe,susp:=fun b=>b < w.heap.size,obs:=[] }) hsubv ⟨fun _ _ h=>h,fun _ _ h=>h,fun _ _ _=>rfl⟩ hd),ZbX hf0⟩
 ·obtain ⟨g',hle,hs',hv⟩:=hw
  obtain ⟨g2,k1,k2,k3⟩:=hs.news (g0:={ base:=w.heap.size,imm:=gv.imm,safe:=gv.safe,susp:=fun b=>b < w.heap.size,obs:=[] }) rfl (fun _=>Iff.rfl) (fun b i h=>Or.inl (hku.imm b i h)) (fun b i h=>by rw [← u1]; exact h) hle hs' fun o ob ho i e he=>(hfs o ob ho).1 i e he
  exact hnext g2 rv w' (k2 keep hkp) (k1.put0 o.dst (hv.firm k3 hfv) (ZgA hst))
def G.away (g:G) (E:List V) (s:S) (a:Act) (w:World):G:={ g with susp:=fun b=>g.susp b ∨ ∃ t,Zan E s a w g (.slot t) b }
theorem VR.same {g g':G} {w:World} {v:V} {rv:Value} (hs:Sub g) (h:VR g w v rv) (h1:g'.imm = g.imm) (h2:g'.safe = g.safe) (h3:g'.obs = g.obs):VR g' w v rv :=
 h.keeps hs ⟨fun _ _ h=>by rw [h1]; exact h,fun _ _ h=>by rw [h2]; exact h,fun _ _ _=>rfl⟩ ⟨by rw [h3]; exact Nat.le_refl _,fun _ _ x' h=>⟨x',by rw [← h3]; exact h,Nat.le_refl _,fun _=>rfl⟩⟩
theorem Znt {g:G} {a:Act} {w:World} (hs:Sim C g E s a w) {t b:Nat} (h:Zan E s a w g (.slot t) b) :
  b < w.heap.size ∧ ¬ g.susp b ∧ ∀ o x,nth g.obs o = some (some x) → 0 < x.2.2.2.1 → x.2.1 ≠ b :=
 have k:=ZcQ hs h
 ⟨k.1,k.2.2.1,k.2.2.2⟩
theorem ZgS {s:S} {a:Act} {w:World} {g:G} {t b:Nat} (h:Zan [] s a w g (.slot t) b):False:=by
 obtain ⟨c,rv,h1,_⟩:=h
 simp [nth] at h1
theorem Sim.leave {g:G} {a:Act} {w:World} (hs:Sim C g E s a w):Sim C (g.away E s a w) [] s ZaI w:=by
 exact {
  len:=rfl
  env:=fun t v hv=>by simp [nth] at hv
  olen:=hs.olen
  obj:=fun o ob ho=>by
   obtain ⟨x,hx,hr⟩:=hs.obj o ob ho
   obtain ⟨arr,cap,b1,b2,b3,b4,b5,b7,b6⟩:=hr.blk
   refine ⟨x,hx,hr.ver,hr.esz,hr.ty,hr.known,⟨arr,cap,b1,b2,b3,b4,b5,b7,fun i e j c h1 h2=>?_⟩,hr.sz,hr.flat,hr.base,fun hp hc=>?_,hr.nimm⟩
   ·obtain ⟨rv,r1,r2,r3⟩:=b6 i e j c h1 h2
    refine ⟨rv,r1,r2.same hs.sub rfl rfl rfl,r3.side rfl fun h0 b hb=>⟨rfl,fun hc=>?_,fun _ h=>h,fun o x hx _ _=>⟨o,hx⟩⟩⟩
    rcases hc with hc | ⟨t,ht⟩
    ·exact hc
    ·have:=hs.own (.slot t) (.cell o i j) b ht ⟨ob,x,e,c,rv,ho,hx,h1,h2,h0,Zap (b1 (hr.real h1 h2)) r1,hb⟩
     cases this
   ·rcases hc with hc | ⟨t,ht⟩
    ·exact hr.nsusp hp hc
    ·exact (Znt hs ht).2.2 o x hx hp rfl
  gone:=hs.gone
  inj:=hs.inj
  own:=fun p q b hp hq=>by
   cases p with
   | slot t=>exact (ZgS hp).elim
   | cell o i j=>cases q with
    | slot t=>exact (ZgS hq).elim
    | cell o' i' j'=>exact hs.own _ _ b hp hq
  sub:=hs.sub
  immlt:=hs.immlt
  basele:=hs.basele
  susplt:=fun b hb=>by
   rcases hb with hb | ⟨t,ht⟩
   ·exact hs.susplt b hb
   ·exact (Znt hs ht).1 }
theorem Sim.quit {g:G} {a:Act} {w:World} (hs:Sim C g E s a w):Sim C g [] s ZaI w where
 len:=rfl
 env:=fun t v hv=>by simp [nth] at hv
 olen:=hs.olen
 obj:=hs.obj
 gone:=hs.gone
 inj:=hs.inj
 own:=fun p q b hp hq=>by
  cases p with
  | slot t=>exact (ZgS hp).elim
  | cell o i j=>cases q with
   | slot t=>exact (ZgS hq).elim
   | cell o' i' j'=>exact hs.own _ _ b hp hq
 sub:=hs.sub
 immlt:=hs.immlt
 basele:=hs.basele
 susplt:=hs.susplt
theorem Sim.back {g g':G} {a:Act} {w w':World} {s':S} (hs:Sim C g E s a w) (hle:Le s.length (g.away E s a w) w g' w') (hs':Sim C g' [] s' ZaI w') :
  Sim C { g' with susp:=g.susp } E s' a w' ∧ ∀ keep,keep ≤ s.length → Le keep g w { g' with susp:=g.susp } w':=by
 have hk:Keeps g w { g' with susp:=g.susp } w':=⟨hle.keeps.imm,hle.keeps.safe,hle.keeps.cell⟩
 have hol:ObsLe g { g' with susp:=g.susp }:=⟨by rw [hs.olen]; exact hle.klen,fun o ho x' hx=>hle.obs o (by rw [← hs.olen]; exact ho) x' hx⟩
 have hslot:∀ t b,Zan E s a w g (.slot t) b → g'.susp b:=fun t b h=>(hle.susp b).2 (.inr ⟨t,h⟩)
 have cellns:∀ o i j b,Zan [] s' ZaI w' g' (.cell o i j) b → ¬ g'.susp b:=fun o i j b h=>(ZcQ hs' h).2.2.1
 refine ⟨{
  len:=hs.len
  env:=fun t v hv=>by
   obtain ⟨rv,h1,h2,h3⟩:=hs.env t v hv
   refine ⟨rv,h1,h2.keeps hs.sub hk hol,h3.side hle.base fun h0 b hb=>?_⟩
   have hsb:(g.away E s a w).susp b:=.inr ⟨t,v,rv,hv,h0,h1,hb⟩
   refine ⟨(hle.sus b hsb).1,fun h=>h,(hle.sus b hsb).2.1,fun o x hx hp hq=>?_⟩
   obtain ⟨ob,hob⟩:=hs'.gone o x hx
   have:=(hs'.at_obj hob hx).nsusp hp
   rw [hq] at this
   exact absurd ((hle.susp b).2 hsb) this
  olen:=hs'.olen
  obj:=fun o ob ho=>by
   obtain ⟨x,hx,hr⟩:=hs'.obj o ob ho
   obtain ⟨arr,cap,b1,b2,b3,b4,b5,b7,b6⟩:=hr.blk
   refine ⟨x,hx,hr.ver,hr.esz,hr.ty,hr.known,⟨arr,cap,b1,b2,b3,b4,b5,b7,fun i e j c h1 h2=>?_⟩,hr.sz,hr.flat,hr.base,fun hp hc=>hr.nsusp hp ((hle.susp _).2 (.inl hc)),hr.nimm⟩
   obtain ⟨rv,r1,r2,r3⟩:=b6 i e j c h1 h2
   exact ⟨rv,r1,r2.same hs'.sub rfl rfl rfl,r3.side rfl fun h0 b hb=>⟨rfl,fun hc=>(hle.susp b).2 (.inl hc),fun _ h=>h,fun o x hx _ _=>⟨o,hx⟩⟩⟩
  gone:=hs'.gone
  inj:=hs'.inj
  own:=fun p q b hp hq=>by
   cases p with
   | slot t=>cases q with
    | slot t'=>exact hs.own (.slot t) (.slot t') b hp hq
    | cell o i j=>exact absurd (hslot t b hp) (cellns o i j b hq)
   | cell o i j=>cases q with
    | slot t=>exact absurd (hslot t b hq) (cellns o i j b hp)
    | cell o' i' j'=>exact hs'.own _ _ b hp hq
  sub:=hs'.sub
  immlt:=hs'.immlt
  basele:=hs'.basele
  susplt:=fun b hb=>Nat.lt_of_lt_of_le (hs.susplt b hb) hle.size },fun keep hkp=>{
  keeps:=hk
  size:=hle.size
  os:=hle.os
  tape:=hle.tape
  output:=hle.output
  base:=hle.base
  susp:=fun _=>Iff.rfl
  low:=hle.low
  sus:=fun b hb=>hle.sus b (.inl hb)
  klen:=Nat.le_trans hkp hle.klen
  obs:=fun o ho x' hx=>hle.obs o (Nat.lt_of_lt_of_le ho hkp) x' hx }⟩
theorem Zig {Φ:Zat} (hΦ:Zab P C Φ) {c:Call} {x:Operand} {f:FuncId} {args caps:List V} {K:V → S → Option R} {r:R} (ho:o.op = .call c) (hcal:c.callee = .value x) (hx:ev E x = some (.fn f caps))
  (ha:Zbk C E s c args) (hm:C.mode f = .shared) (h:Φ R f ((args ++ caps).map V.noOwn) s K = some r) :
  ∃ v s',K v s' = some r ∧ Zbi P C o E s v E s':=by
 have h2:=hΦ R f _ s K r h
 rw [hm] at h2
 obtain ⟨v,s',h3,hst,hsl,h4⟩:=h2
 refine ⟨v,s',h3,hsl,fun g a w keep hkp hs next Q hnext=>?_⟩
 obtain ⟨cv,hrx,hl,hc⟩:=(hs.ev hx).1.fn_inv
 obtain ⟨q1,q2⟩:=Zg7 hs ha hl hc
 unfold Oper.wp
 rw [Zdw ho hcal hrx]
 refine h4 (g.away E s a w) w _ s.length (Nat.le_refl _) hs.leave (by rw [List.length_map]; exact q1) (fun i u rv hu hr=>?_) o a next Q fun rv w' hw=>?_
 ·obtain ⟨u0,hu0,rfl⟩:=Zac hu
  exact ⟨((q2 i u0 rv hu0 hr).noOwn).same hs.sub rfl rfl rfl,ZaA u0⟩
 ·obtain ⟨g',hle,hs',hv⟩:=hw
  obtain ⟨k1,k2⟩:=hs.back hle hs'
  exact hnext _ rv w' (k2 keep hkp) (k1.put0 o.dst (hv.same hs'.sub rfl rfl rfl) hst)
theorem ZhD (hC:Ok P C) {Φ:Zat} (hΦ:Zab P C Φ) {ops:List Oper} {K:V → List V → S → Option R} {r:R} (h:opV C Φ ops o E s K = some r) :
  ∃ v E' s',K v E' s' = some r ∧ Zbi P C o E s v E' s':=by
 unfold opV at h
 split at h
 ·rename_i c ho
  split at h <;> first | (cases h; done) | skip
  rename_i args ha
  split at h
  ·rename_i b hcal
   obtain ⟨v,s',h1,_,h2,_⟩:=Zdn hC ho hcal ha h
   exact ⟨v,_,s',h1,h2⟩
  ·rename_i x hcal
   obtain ⟨fv,hf,h2⟩:=Zae h
   split at h2 <;> first | (cases h2; done) | skip
   rename_i f caps
   unfold Zte at h2
   split at h2
   ·rename_i hm
    obtain ⟨as,hfr,h2⟩:=ZbZ (f:=Zbg true (ZcA C s) 12) (g:=freeze true (ZcA C s) 12) (fun a K r h=>Zbu h) h2
    obtain ⟨v,h3,h4⟩:=Zg4 hΦ (K:=fun v s'=>K v E s') ho hcal hf (Zbk.argsN ha) hm hfr h2
    exact ⟨v,E,s,h3,h4⟩
   ·rename_i hm
    obtain ⟨v,s',h3,h4⟩:=Zig hΦ (K:=fun v s'=>K v E s') ho hcal hf (Zbk.argsN ha) hm h2
    exact ⟨v,E,s',h3,h4⟩
   ·rename_i hm
    obtain ⟨as,hfr,h2⟩:=ZbZ (f:=Zbg true (ZcA C s) 12) (g:=freeze true (ZcA C s) 12) (fun a K r h=>Zbu h) h2
    obtain ⟨v,h3,h4⟩:=ZhA hΦ (K:=fun v s'=>K v E s') ho hcal hf (Zbk.argsN ha) hm hfr h2
    exact ⟨v,E,s,h3,h4⟩
   ·rename_i hm
    obtain ⟨as,hfr,h2⟩:=ZbZ (f:=Zbg true (ZcA C s) 12) (g:=freeze true (ZcA C s) 12) (fun a K r h=>Zbu h) h2
    obtain ⟨v,s',h3,h4⟩:=ZkZ hΦ (K:=fun v s'=>K v E s') ho hcal hf (Zbk.argsN ha) hm hfr h2
    exact ⟨v,E,s',h3,h4⟩
  ·cases h
 ·exact Zsp hC h
theorem Sim.void {g:G} {a:Act} {w:World} (hs:Sim C g E s a w) {e:TypeId} (hk:(C.ty e).known = true) :
  Sim C (g.add (0,0,(C.ty e).size,0,0)) E (s ++ [some { es:=[],esz:=(C.ty e).size,elem:=e,ver:=0 }]) a w ∧ ∀ keep,keep ≤ s.length → Le keep g w (g.add (0,0,(C.ty e).size,0,0)) w:=by
 have hkeep:Keeps g w (g.add (0,0,(C.ty e).size,0,0)) w:=Keeps.add g w _ fun _ _ _=>rfl
 have own2:∀ v rv,OwnOk C g w v rv → OwnOk C (g.add (0,0,(C.ty e).size,0,0)) w v rv:=by
  intro v rv h
  refine h.side rfl fun h0 b hb=>⟨rfl,fun h=>h,fun _ h=>h,fun o x hx hp _=>?_⟩
  rcases Zax hx with ⟨_,hx⟩ | ⟨_,hx⟩
  ·exact ⟨o,hx⟩
  ·obtain rfl:=Option.some.inj hx
   exact absurd hp (Nat.lt_irrefl 0)
 have key:∀ p b,Zan E (s ++ [some { es:=[],esz:=(C.ty e).size,elem:=e,ver:=0 }]) a w (g.add (0,0,(C.ty e).size,0,0)) p b → Zan E s a w g p b:=by
  intro p b hp
  cases p with
  | slot t=>exact hp
  | cell o i j =>
   obtain ⟨ob,x,el,c,rv,h1,h2,h3,h4,h0,h5,h6⟩:=hp
   rcases Zax h1 with ⟨hlt,h1'⟩ | ⟨_,h1'⟩
   ·simp only [G.add,Zal (by rw [hs.olen]; exact hlt:o < g.obs.length)] at h2
    exact ⟨ob,x,el,c,rv,h1',h2,h3,h4,h0,h5,h6⟩
   ·obtain rfl:=Option.some.inj h1'
    simp [nth] at h3
 refine ⟨{
  len:=hs.len
  env:=fun t v hv=>by
   obtain ⟨rv,h1,h2,h3⟩:=hs.env t v hv
   exact ⟨rv,h1,h2.keeps hs.sub hkeep (ObsLe.add g _),own2 v rv h3⟩
  olen:=by simp [G.add,hs.olen]
  obj:=fun o ob ho=>by
   rcases Zax ho with ⟨hlt,ho'⟩ | ⟨rfl,ho'⟩
   ·obtain ⟨x,hx,hr⟩:=hs.obj o ob ho'
    obtain ⟨arr,cap,b1,b2,b3,b4,b5,b7,b6⟩:=hr.blk
    refine ⟨x,by simp only [G.add]; rw [Zal (by rw [hs.olen]; exact hlt)]; exact hx,hr.ver,hr.esz,hr.ty,hr.known,⟨arr,cap,b1,b2,b3,b4,b5,b7,fun i el j c h1 h2=>?_⟩,hr.sz,hr.flat,hr.base,hr.nsusp,hr.nimm⟩
    obtain ⟨rv,r1,r2,r3⟩:=b6 i el j c h1 h2
    exact ⟨rv,r1,r2.keeps hs.sub hkeep (ObsLe.add g _),own2 c rv r3⟩
   ·obtain rfl:=Option.some.inj ho'
    exact ⟨(0,0,(C.ty e).size,0,0),by simp only [G.add]; rw [← hs.olen,Zaz],rfl,rfl,rfl,hk,⟨#[],0,fun hp=>absurd hp (Nat.lt_irrefl 0),rfl,by simp,Nat.zero_le _,Nat.le_refl _,fun k v hv=>by simp at hv,fun i el j c h1=>by simp [nth] at h1⟩,
     fun i el h1=>by simp [nth] at h1,fun i el j c h1=>by simp [nth] at h1,fun hp=>absurd hp (Nat.lt_irrefl 0),fun hp=>absurd hp (Nat.lt_irrefl 0),fun hp=>absurd hp (Nat.lt_irrefl 0)⟩
  gone:=fun o x hx=>by
   rcases Zax hx with ⟨hlt,hx'⟩ | ⟨rfl,hx'⟩
   ·obtain ⟨ob,hob⟩:=hs.gone o x hx'
    exact ⟨ob,by rw [Zal (by rw [← hs.olen]; exact hlt)]; exact hob⟩
   ·exact ⟨_,by rw [hs.olen,Zaz]⟩
  inj:=fun o o' x x' hx hx' hp hp' hb=>by
   rcases Zax hx with ⟨_,k1⟩ | ⟨_,k1⟩ <;> rcases Zax hx' with ⟨_,k2⟩ | ⟨_,k2⟩
   ·exact hs.inj o o' x x' k1 k2 hp hp' hb
   ·obtain rfl:=Option.some.inj k2; exact absurd hp' (Nat.lt_irrefl 0)
   ·obtain rfl:=Option.some.inj k1; exact absurd hp (Nat.lt_irrefl 0)
   ·obtain rfl:=Option.some.inj k1; exact absurd hp (Nat.lt_irrefl 0)
  own:=fun p q b hp hq=>hs.own p q b (key p b hp) (key q b hq)
  sub:=hs.sub
  immlt:=hs.immlt
  basele:=hs.basele
  susplt:=hs.susplt },fun keep hk=>{
  keeps:=hkeep
  size:=Nat.le_refl _
  os:=rfl
  tape:=rfl
  output:=rfl
  base:=rfl
  susp:=fun _=>Iff.rfl
  low:=fun _ _=>rfl
  sus:=fun _ _=>⟨rfl,fun _ h=>h,fun _ h=>h⟩
  klen:=by simp [G.add,hs.olen]; omega
  obs:=fun o ho x' hx=>(ObsLe.add g _).at_ o (by rw [hs.olen]; omega) x' hx }⟩
theorem Zt3 {e:TypeId} (hke:(C.ty e).known = true) (hrun:∀ g a w,Sim C g E s a w → (execOp a.eval o).run P w = .ok (.value (.slice none 0 0)) w) :
  Zbi P C o E s (.arr s.length 0 0 0) E (newOb C s [] e):=by
 refine ⟨by simp [newOb],fun g a w keep hkp hs next Q hnext=>?_⟩
 obtain ⟨k1,k2⟩:=hs.void (E:=E) hke
 unfold Oper.wp
 rw [hrun g a w hs]
 refine hnext _ _ w (k2 keep hkp) (k1.put0 o.dst (.arr _ _ _ _ _ _ (Nat.le_refl 0) (by simp [G.add,hs.olen]) fun x hx=>?_) (by simp [V.still]))
 simp only [G.add] at hx
 rw [← hs.olen,Zaz] at hx
 obtain rfl:=Option.some.inj (Option.some.inj hx)
 exact ⟨Nat.le_refl _,fun _=>⟨.inl rfl,by simp⟩⟩
theorem Sim.trunc {g:G} {a:Act} {w:World} (hs:Sim C g E s a w) {oo n:Nat} {ob:Ob} (ho:nth s oo = some (some ob)):Sim C g E (Zai s oo (some { ob with es:=ob.es.take n })) a w:=by
 have hset:∀ o' ob',nth (Zai s oo (some { ob with es:=ob.es.take n })) o' = some (some ob') → (o' = oo ∧ ob' = { ob with es:=ob.es.take n }) ∨ (o' ≠ oo ∧ nth s o' = some (some ob')):=by
  intro o' ob' h
  by_cases hoo:oo = o'
  ·subst hoo
   have:=Zar h
   exact .inl ⟨rfl,Option.some.inj this⟩
  ·rw [Zaj hoo] at h
   exact .inr ⟨fun hc=>hoo hc.symm,h⟩
 have key:∀ p b,Zan E (Zai s oo (some { ob with es:=ob.es.take n })) a w g p b → Zan E s a w g p b:=by
  intro p b hp
  cases p with
  | slot t=>exact hp
  | cell o' i j =>
   obtain ⟨ob',x,el,c,rv,h1,h2,h3,h4,h0,h5,h6⟩:=hp
   rcases hset o' ob' h1 with ⟨rfl,rfl⟩ | ⟨_,h1'⟩
   ·exact ⟨ob,x,el,c,rv,ho,h2,(ZbP h3).1,h4,h0,h5,h6⟩
   ·exact ⟨ob',x,el,c,rv,h1',h2,h3,h4,h0,h5,h6⟩
 exact {
  len:=hs.len
  env:=hs.env
  olen:=by rw [Zak]; exact hs.olen
  obj:=fun o' ob' ho'=>by
   rcases hset o' ob' ho' with ⟨rfl,rfl⟩ | ⟨_,ho2⟩
   ·obtain ⟨x,hx,hr⟩:=hs.obj o' ob ho
    obtain ⟨arr,cap,b1,b2,b3,b4,b5,b7,b6⟩:=hr.blk
    exact ⟨x,hx,hr.ver,hr.esz,hr.ty,hr.known,⟨arr,cap,b1,b2,b3,b4,by simp; omega,b7,fun i el j c h1 h2=>b6 i el j c (ZbP h1).1 h2⟩,fun i el h1=>hr.sz i el (ZbP h1).1,fun i el j c h1 h2=>hr.flat i el j c (ZbP h1).1 h2,hr.base,hr.nsusp,hr.nimm⟩
   ·exact hs.obj o' ob' ho2
  gone:=fun o' x hx=>by
   obtain ⟨ob',hob'⟩:=hs.gone o' x hx
   by_cases hoo:oo = o'
   ·subst hoo
    exact ⟨_,Za3 ho⟩
   ·exact ⟨ob',by rw [Zaj hoo]; exact hob'⟩
  inj:=hs.inj
  own:=fun p q b hp hq=>hs.own p q b (key p b hp) (key q b hq)
  sub:=hs.sub
  immlt:=hs.immlt
  basele:=hs.basele
  susplt:=hs.susplt }
theorem ZuG (hC:Ok P C) (hth:C.thaw = true) {src e:TypeId} {x:Operand} {oo len:Nat} {ob:Ob} (hs:P.underlying src = some (.slice e)) (he:P.underlying e = some (.int .u8)) (ho:o.op = .convert src src x)
  (hx:ev E x = some (.arr oo 0 0 len)) (hob:Zbs s oo 0 = some ob) (hl0:0 < len) (hl:len ≤ ob.es.length):Zbi P C o E s (.arr oo 1 0 len) E (Zai s oo (some { ob with ver:=1 })):=by
 obtain ⟨hob1,hver0⟩:=ZaY hob
 have hver:ob.ver = 0:=by omega
 refine ⟨by rw [Zak]; exact Nat.le_refl _,fun g a w keep hkeep hsim next Q hnext=>?_⟩
 obtain ⟨xx,hxx,hr⟩:=hsim.obj oo ob hob1
 obtain ⟨arr,cap,b1,b2,b3,b4,b5,b7,b6⟩:=hr.blk
 have hel:∃ el,nth ob.es 0 = some el:=⟨_,by rw [Zad]; exact List.getElem?_eq_getElem (by omega)⟩
 obtain ⟨el,hel⟩:=hel
 have hpos:=(hC.ty ob.elem hr.known).pos
 have hpx:0 < xx.2.2.2.1:=hr.real2 (by rw [hr.ty]; exact hpos) hel
 have b0:=b1 hpx
 have hfz0:C.fz ob.ver arr.size = (0,0):=by rw [hver]; unfold Cfg.fz; rw [hth]
 rw [hfz0] at b0
 obtain ⟨A,c,hrx,hcl,hA,hcs⟩:∃ A c,a.eval x = .slice A len c ∧ len ≤ c ∧ A = some ⟨xx.2.1,xx.2.2.2.2 * xx.2.2.1,none⟩ ∧ (xx.2.2.2.2 + c) * xx.2.2.1 ≤ xx.2.2.2.1:=by
  have x1:=(hsim.ev hx).1
  generalize a.eval x = rx at x1
  cases x1 with
  | data h=>cases h
  | arr _ _ _ _ A c hc ho h =>
   obtain ⟨q1,q2⟩:=h xx hxx
   obtain ⟨q3,q4⟩:=q2 (by rw [hr.ver,hver])
   rw [Nat.add_zero] at q4
   rw [Nat.add_zero] at q3
   exact ⟨A,c,rfl,hc,q3.resolve_left (by omega),q4⟩
 subst hA
 have hsh:w.shape? xx.2.1 = some (ob.elem,arr.size):=by simp [World.shape?,b0]
 have hrun:(execOp a.eval o).run P w = .ok (.value (.slice (some ⟨xx.2.1,xx.2.2.2.2 * xx.2.2.1,none⟩) len c)) (w.freeze ⟨xx.2.1,arr.size,none⟩ 1):=by
  simp [execOp,ho,hrx,convert,Zag hs,Zag he,markStringish,hsh,Result.andThen]
 generalize hw':w.freeze ⟨xx.2.1,arr.size,none⟩ 1 = w' at hrun
 obtain ⟨F,hheap,hF⟩:∃ F,w'.heap = w.heap.modify xx.2.1 F ∧ F (.cells arr ob.elem (0,0)) = .cells arr ob.elem (arr.size,arr.size + 1):=by
  subst hw'
  unfold World.freeze
  rw [if_neg (by omega)]
  exact ⟨fun ob=>match ob with
   | .cells c elem (lo,hi)=>.cells c elem (if lo == hi then (arr.size,arr.size + 1) else (min lo arr.size,max hi (arr.size + 1)))
   | o=>o,rfl,rfl⟩
 have hlt:xx.2.1 < w.heap.size:=ZaO b0
 have hoth:∀ b,b ≠ xx.2.1 → w'.heap[b]? = w.heap[b]?:=fun b hb=>by
  rw [hheap,Array.getElem?_modify,if_neg (Ne.symm hb)]
 have hnew:w'.heap[xx.2.1]? = some (.cells arr ob.elem (arr.size,arr.size + 1)):=by
  rw [hheap,Array.getElem?_modify,if_pos rfl,b0,Option.map_some,hF]
 have hfz1:C.fz (ob.ver + 1) arr.size = (arr.size,arr.size + 1):=by unfold Cfg.fz; rw [hth]
 obtain ⟨k1,k2⟩:=hsim.regrow hob1 hxx (w':=w') xx.2.1 xx.2.2.2.2 arr cap ob.es (.inl ⟨rfl,hpx⟩) (by rw [hheap]; simp) (fun b _ hb=>hoth b (hb hpx)) (by rw [hfz1]; exact hnew) b3 b4 b5 b7 hr.sz hr.flat b6
  (fun i e j c rv b hi hj h0 hrv hbk=>⟨ob,xx,e,c,rv,hob1,hxx,hi,hj,h0,Zap b0 hrv,hbk⟩) (by subst hw'; simp [World.freeze]) (by subst hw'; simp [World.freeze]) (by subst hw'; simp [World.freeze])
 have hob':({ es:=ob.es,esz:=ob.esz,elem:=ob.elem,ver:=ob.ver + 1 }:Ob) = { ob with ver:=1 }:=by rw [hver]
 rw [hob'] at k1
 unfold Oper.wp
 rw [hrun]
 refine hnext _ _ _ (k2 keep hkeep) (k1.put0 o.dst (.arr _ _ _ _ _ _ hcl (by simp [G.again,Zak]; have:=hsim.olen; have:=Zau hob1; omega) fun y hy=>?_) (by simp [V.still]))
 have hy2:y = (ob.ver + 1,xx.2.1,ob.esz,arr.size,xx.2.2.2.2):=by
  have:=Zar (l:=g.obs) hy
  exact Option.some.inj this
 subst hy2
 refine ⟨by omega,fun _=>⟨.inr (by simp [hr.esz]),?_⟩⟩
 show (xx.2.2.2.2 + 0 + c) * ob.esz ≤ arr.size
 rw [← hr.esz,b2,Nat.add_zero]
 exact hcs
theorem Zvc (hC:Ok P C) (hth:C.thaw = true) {Φ:Zat} (hΦ:Zab P C Φ) {ops:List Oper} {K:V → List V → S → Option R} {r:R} (h:opT C Φ ops o E s K = some r) :
  ∃ v E' s',K v E' s' = some r ∧ Zbi P C o E s v E' s':=by
 unfold opT at h
 split at h
 ·rename_i t len parts ho
  obtain ⟨hk,h2⟩:=Zaa h
  split at h2 <;> first | (cases h2; done) | skip
  rename_i e ps he hps
  obtain ⟨hke,h3⟩:=Zaa h2
  split at h3 <;> first | (cases h3; done) | skip
  rename_i es hes
  split at h3 <;> first | (cases h3; done) | skip
  rename_i hcond
  exact ⟨_,_,_,h3,Zes hC hk he hke ho hps hcond.2 hcond.1 hes⟩
 ·rename_i src dst x ho
  cases hsd:Nat.beq src dst with
  | false=>rw [hsd] at h; exact ZhD hC hΦ h
  | true =>
  rw [hsd] at h
  obtain ⟨hks,h2⟩:=Zaa h
  obtain rfl:=Nat.eq_of_beq_eq_true hsd
  split at h2 <;> first | (cases h2; done) | skip
  rename_i e he
  obtain ⟨hke,h3⟩:=Zaa h2
  rw [Bool.and_eq_true] at hke
  obtain ⟨a,ha,h4⟩:=Zae h3
  split at h4 <;> first | (cases h4; done) | skip
  rename_i oo len
  split at h4 <;> first | (cases h4; done) | skip
  rename_i ob hob
  obtain ⟨hl,h5⟩:=Zaa h4
  rw [Bool.and_eq_true,decide_eq_true_iff,decide_eq_true_iff] at hl
  exact ⟨_,_,_,h5,ZuG hC hth ((hC.ty src hks).elem e he) ((hC.ty e hke.1).kind _ (ZjL hke.2)) ho ha hob hl.1 hl.2⟩
 ·exact ZhD hC hΦ h
theorem Zqm (hC:Ok P C) {Φ:Zat} (hΦ:Zab P C Φ) {ops:List Oper} {K:V → List V → S → Option R} {r:R} (h:opX C Φ ops o E s K = some r) :
  ∃ v E' s',K v E' s' = some r ∧ Zbi P C o E s v E' s':=by
 unfold opX at h
 cases hth:C.thaw with
 | true=>rw [hth] at h; exact Zvc hC hth hΦ h
 | false =>
  rw [hth] at h
  simp only at h
  split at h
  ·exact ZhD hC hΦ h
  ·split at h
   ·rename_i ho
    split at h <;> first | (cases h; done) | skip
    rename_i e he
    obtain ⟨hg,h2⟩:=Zaa h
    simp only [Bool.and_eq_true] at hg
    exact ⟨_,_,_,h2,Zt3 hg.2 fun g a w hs=>by simp [execOp,ho,Act.eval]⟩
   ·rename_i t ho
    split at h <;> first | (cases h; done) | skip
    rename_i e he
    obtain ⟨hg,h2⟩:=Zaa h
    simp only [Bool.and_eq_true] at hg
    exact ⟨_,_,_,h2,Zes (ps:=[]) hC hg.1 he hg.2 ho rfl rfl (by simp) rfl⟩
   ·rename_i c ho
    split at h
    ·rename_i oo ver len l hcal ha
     unfold ZtW at h
     split at h <;> first | (cases h; done) | skip
     rename_i ob hob
     split at h <;> first | (cases h; done) | skip
     obtain ⟨v,E',s',h2,h3,h4⟩:=ZhD hC hΦ h
     obtain ⟨hob1,_⟩:=ZaY hob
     rw [Zak] at h3
     exact ⟨v,E',s',h2,h3,fun g a w keep hk hs next Q hn=>h4 g a w keep (by rw [Zak]; exact hk) (hs.trunc hob1) next Q hn⟩
    ·exact ZhD hC hΦ h
   ·exact ZhD hC hΦ h
end
end Go.VM
