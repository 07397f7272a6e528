/- Functions: from their bodies to what calls of them come to. -/
import Derived.Test.YtkchbabkbpcncaaVmR
set_option linter.unusedSimpArgs false
set_option linter.unusedVariables false
namespace Go.VM
open Go.RowKit Go.Lib
section
variable {P:Program} {C:Cfg} {o:Oper} {E:List V} {s:S} {R:Type}
def Zso (a:Act):ResultVar → Sem Value
 | .tmp t=>pure (a.tmps.getD t undef)
 | .cell x t=>do loadVar t (← asAddr (a.tmps.getD x undef))
theorem Zen (hC:Ok P C):∀ {l:List ResultVar} {K:List V → Option R} {r:R},Zcz C s E l K = some r → ∃ vs,K vs = some r ∧ ∀ g a w,Sim C g E s a w → ∃ rvs:List Value,vs.length = rvs.length ∧
  (l.mapM (Zso a)).run P w = .ok rvs w ∧
  ∀ i v rv,nth vs i = some v → nth rvs i = some rv → VR g w v rv
 | [],K,r,h=>by
  simp only [Zcz] at h
  exact ⟨[],h,fun g a w hs=>⟨[],rfl,by simp,fun i v rv h=>by simp [nth] at h⟩⟩
 | .tmp t :: l,K,r,h=>by
  simp only [Zcz] at h
  obtain ⟨v,hv,h2⟩:=Zae h
  obtain ⟨vs,h3,h4⟩:=Zen hC h2
  refine ⟨v :: vs,h3,fun g a w hs=>?_⟩
  obtain ⟨rvs,r1,r2,r3⟩:=h4 g a w hs
  obtain ⟨rv,e1,e2,_⟩:=hs.env t v hv
  refine ⟨rv :: rvs,by simp [r1],?_,fun i v' rv' hv' hrv'=>?_⟩
  ·have:a.tmps.getD t undef = rv:=by simp [Array.getD_eq_getD_getElem?,e1]
   simp only [List.mapM_cons,Zso,Sem.run_bind,Sem.run_pure,Result.andThen_ok,r2,this]
  ·cases i with
   | zero=>simp only [nth] at hv' hrv'; obtain rfl:=Option.some.inj hv'; obtain rfl:=Option.some.inj hrv'; exact e2
   | succ i=>exact r3 i v' rv' hv' hrv'
 | .cell x t :: l,K,r,h=>by
  simp only [Zcz] at h
  obtain ⟨hk,h2⟩:=Zaa h
  obtain ⟨p,hp,h3⟩:=Zae h2
  obtain ⟨v,h4,h5,h6⟩:=ZnT (P:=P) hC (.lty C s p t) hk h3
  obtain ⟨vs,h7,h8⟩:=Zen hC h4
  refine ⟨v :: vs,h7,fun g a w hs=>?_⟩
  obtain ⟨rvs,r1,r2,r3⟩:=h8 g a w hs
  obtain ⟨rp,e1,e2,_⟩:=hs.env x p hp
  obtain ⟨rv,_,e4,ad,e5,e6⟩:=h6 g E a w rp hs e2
  refine ⟨rv :: rvs,by simp [r1],?_,fun i v' rv' hv' hrv'=>?_⟩
  ·have:a.tmps.getD x undef = .pointer (some ad):=by simp [Array.getD_eq_getD_getElem?,e1,e5]
   simp only [List.mapM_cons,Zso,Sem.run_bind,Sem.run_pure,Result.andThen_ok,r2,this,asAddr,e6]
  ·cases i with
   | zero=>simp only [nth] at hv' hrv'; obtain rfl:=Option.some.inj hv'; obtain rfl:=Option.some.inj hrv'; exact e4
   | succ i=>exact r3 i v' rv' hv' hrv'
theorem ZhR (hC:Ok P C) {fn:Func} {K:List V → Option R} {r:R} (h:Zcz C s E fn.results.toList K = some r):∃ vs,K vs = some r ∧ ∀ g a w,Sim C g E s a w →
  ∃ rv,(results fn a.tmps).run P w = .ok rv w ∧ VR g w (ZhJ vs) rv ∧ ∀ l,ZhJ vs = .tuple l → VR g w (.tuple (l.map V.noOwn)) rv:=by
 obtain ⟨vs,h1,h2⟩:=Zen (P:=P) hC h
 refine ⟨vs,h1,fun g a w hs=>?_⟩
 obtain ⟨rvs,r1,r2,r3⟩:=h2 g a w hs
 refine ⟨if h:rvs.toArray.size = 1 then rvs.toArray[0] else .tuple rvs.toArray,?_,?_⟩
 ·have e0:results fn a.tmps = (do
    let vs ← fn.results.mapM (Zso a)
    pure (if h:vs.size = 1 then vs[0] else .tuple vs)):=by
   unfold results
   rfl
  rw [e0,Array.mapM_eq_mapM_toList]
  simp only [Sem.run_bind,Sem.run_map,r2]
  simp
 ·have tup:∀ l:List V,l.length = rvs.length → (∀ i v rv,nth l i = some v → nth rvs i = some rv → VR g w v rv) → VR g w (.tuple l) (.tuple rvs.toArray):=fun l hl hv=>.tuple l rvs hl hv
  have tup2:VR g w (.tuple (vs.map V.noOwn)) (.tuple rvs.toArray):=tup _ (by simp [r1]) fun i v rv hv hrv=>by
   obtain ⟨v0,hv0,rfl⟩:=Zac hv
   exact (r3 i v0 rv hv0 hrv).noOwn
  rcases vs with _ | ⟨v,_ | ⟨v2,vt⟩⟩ <;> rcases rvs with _ | ⟨u,_ | ⟨u2,ut⟩⟩ <;> first | (exfalso; simp at r1; done) | skip
  ·exact ⟨tup [] rfl r3,fun l hl=>by injection hl with hl; subst hl; exact tup2⟩
  ·have:=r3 0 v u rfl rfl
   refine ⟨this,fun l hl=>?_⟩
   have hl':v = .tuple l:=hl
   subst hl'
   obtain ⟨us,hu,hul,hu2⟩:=this.tuple_inv
   have e:(if h:[u].toArray.size = 1 then [u].toArray[0] else Value.tuple [u].toArray) = u:=by simp
   rw [e,hu]
   exact .tuple _ us (by simp [hul]) fun i c v hc hv=>by
    obtain ⟨c0,hc0,rfl⟩:=Zac hc
    exact (hu2 i c0 v hc0 hv).noOwn
  ·exact ⟨tup _ r1 r3,fun l hl=>by injection hl with hl; subst hl; exact tup2⟩
theorem Sim.enter {g:G} {w:World} (hs:Sim C g [] s ZaI w) {as:List V} {rvs:Array Value} (n:Nat) (hl:as.length = rvs.size)
  (h:∀ (i:Nat) (c:V) (rv:Value),nth as i = some c → rvs[i]? = some rv → VR g w c rv ∧ c.still) :
  Sim C g (as ++ List.replicate (n - as.length) .dead) s { tmps:=rvs ++ Array.replicate (n - rvs.size) undef,defers:=[] } w:=by
 have hcell:∀ t b,¬ Zan (as ++ List.replicate (n - as.length) V.dead) s { tmps:=rvs ++ Array.replicate (n - rvs.size) undef,defers:=[] } w g (.slot t) b:=by
  rintro t b ⟨c,rv,h1,h0,_⟩
  by_cases hlt:t < as.length
  ·rw [Zal hlt] at h1
   have hr:rvs[t]? = some (rvs[t]'(by omega)):=Array.getElem?_eq_getElem (by omega)
   exact (h t _ _ h1 hr).2.owns h0
  ·rw [ZaL (by omega)] at h1
   obtain ⟨h2,_⟩:=ZaU h1
   subst h2
   exact (by simp [V.still]:V.still .dead).owns h0
 exact {
  len:=by simp [hl]
  env:=fun t v hv=>by
   by_cases hlt:t < as.length
   ·rw [Zal hlt] at hv
    have hr:rvs[t]? = some (rvs[t]'(by omega)):=Array.getElem?_eq_getElem (by omega)
    obtain ⟨h1,h2⟩:=h t v _ hv hr
    exact ⟨_,by show (rvs ++ Array.replicate (n - rvs.size) undef)[t]? = _; rw [Array.getElem?_append_left (by omega)]; exact hr,h1,OwnOk.of_not h2⟩
   ·have hlt2:=Zau hv
    rw [ZaL (by omega)] at hv
    obtain ⟨rfl,_⟩:=ZaU hv
    simp at hlt2
    refine ⟨(rvs ++ Array.replicate (n - rvs.size) undef)[t]'(by simp; omega),by show (rvs ++ Array.replicate (n - rvs.size) undef)[t]? = _; exact Array.getElem?_eq_getElem _,.dead _,OwnOk.of_not (by simp [V.still])⟩
  olen:=hs.olen
  obj:=hs.obj
  gone:=hs.gone
  inj:=hs.inj
  own:=fun p q b hp hq=>by
   cases p with
   | slot t=>exact absurd hp (hcell t b)
   | cell o i j=>cases q with
    | slot t=>exact absurd hq (hcell t b)
    | cell o' i' j'=>exact hs.own _ _ b hp hq
  sub:=hs.sub
  immlt:=hs.immlt
  basele:=hs.basele
  susplt:=hs.susplt }
theorem Zre {f : FuncId} {fn : Func} {c : Code} {rvs : Array Value} {w : World} {T : Value → World → Prop} (hf : P.funcs[f]? = some fn) (hb : fn.body = some c) (hn : (fn.name == "runtime.NumGoroutine") = false)
  (h:c.wp P (bodyPost P fn fun e w'=>∃ v,e = .returned v ∧ T v w') { tmps:=rvs ++ Array.replicate (fn.ntmps - rvs.size) undef,defers:=[] } w):Zft P f rvs w T :=
 Zft.of_calls hf (by rw [hb]; rfl) hn (calls_of_wp hf hb h)
theorem Zj9 {Φ:Zat} {Λ:ZaB} {f:FuncId} {fn:Func} {c:Code} {as:List V} {K:V → S → Option R} {r:R} (hC:Ok P C) (hΦ:Zab P C Φ) (hb:fn.body = some c) (hl:ZaR P C Λ c [])
  (h:Zbw C Φ Λ f fn as s K = some r):∃ x E' s' vs,(x = .norm ∨ x = .ret) ∧ ZqR P C c (as ++ List.replicate (fn.ntmps - as.length) .dead) s x E' s' ∧
   (∀ g a w,Sim C g E' s' a w → ∃ rv,(results fn a.tmps).run P w = .ok rv w ∧ VR g w (ZhJ vs) rv ∧ ∀ l,ZhJ vs = .tuple l → VR g w (.tuple (l.map V.noOwn)) rv) ∧
   (match C.mode f with
    | .pure=>Zbg false s' 12 (ZhJ vs) fun v=>Zq0 C f (Zld (C.ownRet f) (ZhJ vs) v) fun v=>K v []
    | .shared | .fresh=>K (match ZhJ vs with | .tuple l=>.tuple (l.map V.noOwn) | v=>v.noOwn) s'
    | .own=>Zlp vs fun sz es e=>Zaf ((C.ty e).known && Nat.beq sz (C.ty e).size) (K (.list sz es (.own e)) [])) = some r:=by
 unfold Zbw at h
 rw [hb] at h
 simp only at h
 obtain ⟨x,E',s',h1,h2⟩:=Zp7 hC hΦ hl h
 cases x with
 | exit id=>cases h1
 | norm =>
  simp only at h1
  obtain ⟨vs,h3,h4⟩:=ZhR (P:=P) hC h1
  exact ⟨_,E',s',vs,.inl rfl,h2,h4,h3⟩
 | ret =>
  simp only at h1
  obtain ⟨vs,h3,h4⟩:=ZhR (P:=P) hC h1
  exact ⟨_,E',s',vs,.inr rfl,h2,h4,h3⟩
theorem Zpy {f:FuncId} {v:V} {K:V → Option R} {r:R} (h:Zq0 C f v K = some r):K v = some r:=by
 unfold Zq0 at h
 split at h
 ·exact ZdW h
 ·exact h
theorem ZaX {Φ:Zat} {Λ:ZaB} {f:FuncId} {fn:Func} {c:Code} {as:List V} {K:V → S → Option R} {r:R} (hC:Ok P C) (hΦ:Zab P C Φ) (hf:P.funcs[f]? = some fn) (hb:fn.body = some c)
  (hn : (fn.name == "runtime.NumGoroutine") = false) (hl : ZaR P C Λ c []) (hm : C.mode f = .pure) (ho : C.ownRet f = false) (h : Zbw C Φ Λ f fn as [] K = some r) : ∃ v, K v [] = some r ∧ ZqH P f as v := by
 obtain ⟨x,E',s',vs,hx,h2,h3,h4⟩:=Zj9 hC hΦ hb hl h
 rw [hm] at h4
 simp only at h4
 obtain ⟨v,hv,h4⟩:=Zbu h4
 rw [ho] at h4
 replace h4:=Zpy h4
 refine ⟨v,h4,ZbX hv,fun g w rvs hsub himm hlen hargs=>?_⟩
 let g0:G:={ base:=w.heap.size,imm:=g.imm,safe:=g.safe,susp:=fun b=>b < w.heap.size,obs:=[] }
 have hs0:Sim C g0 [] [] ZaI w:={
  len:=rfl
  env:=fun t v hv=>by simp [nth] at hv
  olen:=rfl
  obj:=fun o ob ho=>by simp [nth] at ho
  gone:=fun o x hx=>by simp [g0,nth] at hx
  inj:=fun o o' x x' hx=>by simp [g0,nth] at hx
  own:=fun p q b hp=>by
   cases p with
   | slot t=>obtain ⟨c,rv,h1,_⟩:=hp; simp [nth] at h1
   | cell o i j=>obtain ⟨ob,x,el,c,rv,h1,_⟩:=hp; simp [nth] at h1
  sub:=hsub
  immlt:=himm
  basele:=Nat.le_refl _
  susplt:=fun b hb=>hb }
 have hs:=hs0.enter fn.ntmps hlen fun i c rv hc hr=>by
  obtain ⟨h1,h2⟩:=hargs i c rv hc hr
  exact ⟨.data (DR.keeps (g':=g0) hsub ⟨fun _ _ h=>h,fun _ _ h=>h,fun _ _ _=>rfl⟩ h1),h2⟩
 refine Zre hf hb hn (h2.2 g0 _ w 0 (Nat.zero_le _) (fun _ _=>Nat.zero_le _) hs _ fun g' a' w' hle hs' hd=>?_)
 obtain ⟨rv,r1,r2,_⟩:=h3 g' a' w' hs'
 have hfin:bodyPost P fn (fun e w'=>∃ v_1,e = .returned v_1 ∧ (w.heap.size ≤ w'.heap.size ∧ (∀ b,b < w.heap.size → w'.heap[b]? = w.heap[b]?) ∧ w'.os = w.os ∧ w'.tape = w.tape ∧ w'.output = w.output ∧
   ∃ N:Nat → Nat → Prop,(∀ b i,N b i → w.heap.size ≤ b ∧ b < w'.heap.size) ∧ DR (g.more N) w' true v v_1)) .normal a' w':=by
  refine ⟨hd,rv,r1,rv,rfl,hle.size,hle.low,hle.os,hle.tape,hle.output,fun b i=>w.heap.size ≤ b ∧ b < w'.heap.size,fun _ _ h=>h,?_⟩
  let g2:G:={ g' with imm:=fun b i=>g'.imm b i ∨ ∃ o x,nth g'.obs o = some (some x) ∧ 0 < x.2.2.2.1 ∧ x.2.1 = b,safe:=fun b i=>g'.safe b i ∨ ∃ o x,nth g'.obs o = some (some x) ∧ 0 < x.2.2.2.1 ∧ x.2.1 = b }
  have hk2:Keeps g' w' g2 w':=⟨fun _ _ h=>.inl h,fun _ _ h=>.inl h,fun _ _ _=>rfl⟩
  have hdr:DR g2 w' true v rv:=Zc9 (view:=false) hs' (fun h=>by cases h) hk2 (fun oo xx i hxx hp=>by show g2.safe _ _; exact .inr ⟨oo,xx,hxx,hp,rfl⟩) 12 hv r2
  refine DR.safely (g:=g2) (fun b i hb=>?_) (fun _ _ _=>rfl) hdr
  by_cases hlt:b < w.heap.size
  ·left
   rcases hb with hb | ⟨oo,xx,hxx,hp,rfl⟩
   ·exact (hle.sus b hlt).2.2 i hb
   ·obtain ⟨ob,hob⟩:=hs'.gone oo xx hxx
    have:=(hs'.at_obj hob hxx).base hp
    have hbase:g'.base = w.heap.size:=hle.base
    omega
  ·right
   refine ⟨by omega,?_⟩
   rcases hb with hb | ⟨oo,xx,hxx,hp,rfl⟩
   ·exact hs'.immlt b i (hs'.sub b i hb)
   ·obtain ⟨ob,hob⟩:=hs'.gone oo xx hxx
    obtain ⟨arr,cap,b1,_⟩:=(hs'.at_obj hob hxx).blk
    exact ZaO (b1 hp)
 rcases hx with rfl | rfl
 ·exact hfin
 ·exact hfin
theorem ZfS {Φ:Zat} {Λ:ZaB} {f:FuncId} {fn:Func} {c:Code} {as:List V} {K:V → S → Option R} {r:R} (hC:Ok P C) (hΦ:Zab P C Φ) (hf:P.funcs[f]? = some fn) (hb:fn.body = some c)
  (hn : (fn.name == "runtime.NumGoroutine") = false) (hl : ZaR P C Λ c []) (hm : C.mode f = .shared ∨ C.mode f = .fresh) (hkp : ∀ n, C.kp = some n → s.length ≤ n) (h : Zbw C Φ Λ f fn as s K = some r) : ∃ v s', K v s' = some r ∧ ZaW P C f as s v s' := by
 obtain ⟨x,E',s',vs,hx,h2,h3,h4⟩:=Zj9 hC hΦ hb hl h
 replace h4:K (match ZhJ vs with | .tuple l=>.tuple (l.map V.noOwn) | v=>v.noOwn) s' = some r:=by
  rcases hm with hm | hm <;> (rw [hm] at h4; exact h4)
 refine ⟨_,s',h4,?_,h2.1,fun g w rvs keep hk hs0 hlen hargs=>?_⟩
 ·generalize ZhJ vs = u
  split
  ·simp [V.still]
  ·exact ZaA u
 have hs:=hs0.enter fn.ntmps hlen hargs
 refine Zre hf hb hn (h2.2 g _ w keep hk (fun n hn=>Nat.le_trans hk (hkp n hn)) hs _ fun g' a' w' hle hs' hd=>?_)
 obtain ⟨rv,r1,r2,r3⟩:=h3 g' a' w' hs'
 have hv:VR g' w' (match ZhJ vs with | .tuple l=>.tuple (l.map V.noOwn) | v=>v.noOwn) rv:=by
  generalize ZhJ vs = u at r2 r3
  split
  ·rename_i l
   exact r3 l rfl
  ·exact r2.noOwn
 rcases hx with rfl | rfl
 ·exact ⟨hd,rv,r1,rv,rfl,g',hle,hs'.quit,hv⟩
 ·exact ⟨hd,rv,r1,rv,rfl,g',hle,hs'.quit,hv⟩
theorem ZlJ {Φ:Zat} {Λ:ZaB} {f:FuncId} {fn:Func} {c:Code} {as:List V} {K:V → S → Option R} {r:R} (hC:Ok P C) (hΦ:Zab P C Φ) (hf:P.funcs[f]? = some fn) (hb:fn.body = some c)
  (hn : (fn.name == "runtime.NumGoroutine") = false) (hl : ZaR P C Λ c []) (hm : C.mode f = .shared) (hkp : ∀ n, C.kp = some n → s.length ≤ n) (h : Zbw C Φ Λ f fn as s K = some r) : ∃ v s', K v s' = some r ∧ ZaW P C f as s v s' :=
 ZfS hC hΦ hf hb hn hl (.inl hm) hkp h
end
end Go.VM
