/- Regions whose operations may be done in any order. -/
import Derived.Test.YtkchbabkbpcncaaVmQ
import Derived.Control
import Derived.Scope
set_option linter.unusedSimpArgs false
set_option linter.unusedVariables false
namespace Go.VM
open Go.RowKit Go.Lib
section
variable {P:Program} {C:Cfg} {o:Oper} {E:List V} {s:S} {R:Type}
def Zby (ops:List Oper) (o:Oper):Option Tmp :=
 match o.guard with
 | none=>none
 | some (j,_)=>(nth ops j).bind (·.dst)
theorem Zeb {ops:List Oper} {E:List V} {o:Oper} {K:Bool → List V → Option R} {r:R} (h:Zg9 ops E o K = some r):∃ b,K b E = some r ∧
  ∀ (g:G) (a:Act) (w:World) (F:List V),Sim C g F s a w → (∀ d,Zby ops o = some d → nth F d = nth E d) → Region.wanted o (yielded ops.toArray a.tmps) = b:=by
 unfold Zg9 at h
 unfold Zby Region.wanted
 cases hg:o.guard with
 | none =>
  rw [hg] at h
  exact ⟨true,h,fun _ _ _ _ _ _=>rfl⟩
 | some jw =>
  obtain ⟨j,want⟩:=jw
  rw [hg] at h
  simp only at h ⊢
  simp only [yielded]
  have e1:ops.toArray[j]? = nth ops j:=by rw [Zad]; simp
  rw [e1]
  cases hd:(nth ops j).bind (·.dst) with
  | none =>
   rw [hd] at h
   simp only at h
   exact ⟨false,h,fun _ _ _ _ _ _=>by simp⟩
  | some d =>
   rw [hd] at h
   simp only at h
   simp only [Option.bind_some]
   cases hv:nth E d with
   | none =>
    rw [hv] at h
    simp only at h
    refine ⟨false,h,fun g a w F hs hF=>?_⟩
    have hFd:=hF d rfl
    rw [hv] at hFd
    have:a.tmps[d]? = none:=by
     apply Array.getElem?_eq_none
     rw [← hs.len]
     apply Nat.le_of_not_lt
     intro hlt
     rw [Zad,List.getElem?_eq_getElem hlt] at hFd
     cases hFd
    rw [this]
    simp
   | some v =>
    rw [hv] at h
    by_cases hb:∃ bb,v = .bool bb
    ·obtain ⟨bb,rfl⟩:=hb
     cases bb with
     | true =>
      simp only at h
      rw [ZfH hv] at h
      refine ⟨want,h,fun g a w F hs hF=>?_⟩
      obtain ⟨rv,h1,h2,_⟩:=hs.env d _ ((hF d rfl).trans hv)
      rw [h1,h2.bool_inv]
      cases want <;> rfl
     | false =>
      simp only at h
      rw [ZfH hv] at h
      refine ⟨!want,h,fun g a w F hs hF=>?_⟩
      obtain ⟨rv,h1,h2,_⟩:=hs.env d _ ((hF d rfl).trans hv)
      rw [h1,h2.bool_inv]
      cases want <;> rfl
    ·have hnd:v ≠ .dead:=by rintro rfl; cases h
     have h':K false E = some r:=by
      cases v <;> first | exact absurd ⟨_,rfl⟩ hb | exact absurd rfl hnd | exact h
     refine ⟨false,h',fun g a w F hs hF=>?_⟩
     obtain ⟨rv,h1,h2,_⟩:=hs.env d _ ((hF d rfl).trans hv)
     rw [h1]
     have hrv:∀ bb,rv ≠ .bool bb:=by
      rintro bb rfl
      rcases h2.not_bool with h3 | h3
      ·exact hb ⟨bb,h3⟩
      ·exact hnd h3
     cases rv <;> first | exact absurd rfl (hrv _) | (cases want <;> rfl)
theorem ZbG (a:Act) (d:Option Tmp) (v:Value):(a.put d v).defers = a.defers:=by cases d <;> rfl
theorem Zq1 (hC:Ok P C) {ops:List Oper} {K:V → List V → S → Option R} {r:R} (hcalm:Zbc C ops o = true) (h:ZgN C ops o E s K = some r):∃ v E' s',K v E' s' = some r ∧ Zbi P C o E s v E s:=by
 unfold ZgN at h
 split at h
 ·-- move
  rename_i x ho
  obtain ⟨v,hv,h2⟩:=Zae h
  have hf:Zq4 ops o.dst = false:=by simpa [Zbc,ho] using hcalm
  rw [hf] at h2
  exact ⟨_,_,_,h2,ZqP ho hv⟩
 ·rename_i x ho
  simp [Zbc,ho] at hcalm
 ·-- pick
  rename_i c x y ho
  obtain ⟨cv,hc,h2⟩:=Zae h
  obtain ⟨v,h4,h5⟩:=ZqF (P:=P) (C:=C) (s:=s) (K:=fun v=>K v E s) ho hc h2
  exact ⟨_,_,_,h4,h5⟩
 ·-- load
  rename_i t x ho
  obtain ⟨hk,h2⟩:=Zaa h
  obtain ⟨p,hp,h3⟩:=Zae h2
  have hf:Zq4 ops o.dst = false:=by simpa [Zbc,ho] using hcalm
  rw [hf] at h3
  obtain ⟨v,h4,h5⟩:=Zlo (E:=E) hC (.lty C s p t) hk ho hp h3
  exact ⟨_,_,_,h4,h5⟩
 ·-- store
  rename_i t x y ho
  simp [Zbc,ho] at hcalm
 ·-- fieldAddr
  rename_i t x f ho
  obtain ⟨hk,h2⟩:=Zaa h
  obtain ⟨p,hp,h3⟩:=Zae h2
  obtain ⟨v,hv,h4⟩:=Zae h3
  exact ⟨_,_,_,h4,ZeE hC hk ho hp hv⟩
 ·-- indexAddr
  rename_i t x i ho
  obtain ⟨hk,h2⟩:=Zaa h
  obtain ⟨p,hp,h3⟩:=Zae h2
  obtain ⟨v,hv,h4⟩:=Zae h3
  obtain ⟨v',h5,h6⟩:=ZeP hC hk ho hp hv h4
  exact ⟨_,_,_,h5,h6⟩
 ·-- index
  rename_i t x i ho
  obtain ⟨hk,h2⟩:=Zaa h
  have hk':(C.ty t).known = true ∧ (C.ty t).str = true:=by simpa using hk
  obtain ⟨p,hp,h3⟩:=Zae h2
  obtain ⟨v,hv,h4⟩:=Zae h3
  obtain ⟨v',h5,h6⟩:=Zks hC hk'.1 hk'.2 ho hp hv h4
  exact ⟨_,_,_,h5,h6⟩
 ·-- slice
  rename_i t x lo hi mx ho
  split at h <;> first | (cases h; done) | skip
  obtain ⟨hk,h2⟩:=Zaa h
  obtain ⟨p,hp,h3⟩:=Zae h2
  split at h3 <;> first | (cases h3; done) | skip
  rename_i l hh hl' hh'
  split at h3
  ·rename_i e he
   obtain ⟨hke,h4⟩:=Zaa h3
   obtain ⟨v,hv,h5⟩:=ZjI h4
   exact ⟨_,_,_,h5,ZqV hC hk he hke ho hp hl' hh' hv⟩
  ·obtain ⟨hst,h4⟩:=Zaa h3
   obtain ⟨v,hv,h5⟩:=ZfT h4
   exact ⟨_,_,_,h5,Zk0 hC hk hst ho hp hl' hh' hv⟩
 ·-- binOp
  rename_i op t x y yt ho
  obtain ⟨a,ha,h2⟩:=Zae h
  obtain ⟨b,hb,h3⟩:=Zae h2
  obtain ⟨v,hv,h4⟩:=Zkt h3
  exact ⟨_,_,_,h4,Zqx hC ho ha hb hv⟩
 ·rename_i op t x ho
  obtain ⟨a,ha,h2⟩:=Zae h
  obtain ⟨v,hv,h4⟩:=Zae h2
  exact ⟨_,_,_,h4,ZtP ho ha hv⟩
 ·-- convert
  rename_i src dst x ho
  obtain ⟨hk,h2⟩:=Zaa h
  have hk':(C.ty src).known = true ∧ (C.ty dst).known = true:=by simpa using hk
  obtain ⟨a,ha,h3⟩:=Zae h2
  obtain ⟨v,h4,h5⟩:=Zok hC hk'.1 hk'.2 ho ha h3
  exact ⟨_,_,_,h4,h5⟩
 ·-- nilCheck
  rename_i x ho
  obtain ⟨a,ha,h2⟩:=Zae h
  split at h2 <;> first | (cases h2; done) | skip
  ·exact ⟨_,_,_,h2,Zb8 ho ha (.inl ⟨_,_,_,_,rfl⟩)⟩
  ·exact ⟨_,_,_,h2,Zb8 ho ha (.inr (.inl ⟨_,rfl⟩))⟩
  ·exact ⟨_,_,_,h2,Zb8 ho ha (.inr (.inr ⟨_,_,rfl⟩))⟩
 ·-- field
  rename_i t x i ho
  obtain ⟨hg,h2⟩:=Zaa h
  obtain ⟨v,hv,h3⟩:=Zae h2
  obtain ⟨cs,rfl,h4⟩:=Zdc h3
  split at h4 <;> first | (cases h4; done) | skip
  rename_i ft off hft hoff
  obtain ⟨hg2,h5⟩:=Zaa h4
  obtain ⟨c,hc,h6⟩:=Zae h5
  simp only [Bool.and_eq_true,Bool.not_eq_true'] at hg hg2
  exact ⟨_,_,_,h6,Zoc hC hg.1 hg2.1 hg2.2 ho hv hft hoff hc⟩
 ·-- extract
  rename_i x i ho
  obtain ⟨a,ha,h2⟩:=Zae h
  split at h2 <;> first | (cases h2; done) | skip
  obtain ⟨v,hv,h3⟩:=Zae h2
  exact ⟨_,_,_,h3,Zh0 ho ha hv⟩
 ·-- makeFunc
  rename_i fn first caps ho
  simp [Zbc,ho] at hcalm
 ·-- box
  rename_i t x ho
  simp [Zbc,ho] at hcalm
 ·-- alloc
  rename_i t ho
  simp [Zbc,ho] at hcalm
 ·-- build
  rename_i t parts ho
  obtain ⟨hk,h2⟩:=Zaa h
  split at h2 <;> first | (cases h2; done) | skip
  rename_i ps hps
  obtain ⟨hg,h3⟩:=Zaa h2
  have hg':(C.ty t).agg = true ∧ (ps.all fun p=>p.2.flat) = true:=by
   rw [Bool.and_eq_true] at hg; exact hg
  split at h3 <;> first | (cases h3; done) | skip
  rename_i cs hcs
  exact ⟨_,_,_,h3,Znw hC hk hg'.1 ho hps hg'.2 hcs⟩
 ·-- buildSlice
  rename_i t len parts ho
  simp [Zbc,ho] at hcalm
 ·-- makeSlice
  rename_i t x y ho
  simp [Zbc,ho] at hcalm
 ·cases h
theorem Zj0 {Φ:Zat} (hΦ:Zab P C Φ) {c:Call} {x:Operand} {f:FuncId} {args as:List V} {K:V → S → Option R} {r:R} (ho:o.op = .call c) (hcal:c.callee = .value x) (hx:ev E x = some (.fn f []))
  (ha:Zbk C E s c args) (hm:C.mode f = .fresh) (hfr:ZaK (freeze true (ZcA C s) 12) args = some as)
  (h:(Φ R f as [] fun v s'=>Zbg false (Zto s') 12 v fun v=>Zic C (C.res f) v fun v=>K v s) = some r):∃ v,K v s = some r ∧ Zbi P C o E s v E s:=by
 have h2:=hΦ R f as [] _ r h
 rw [hm] at h2
 obtain ⟨v1,s1,h3',hfv,hfs,hst,_,h4⟩:=h2 rfl
 obtain ⟨v,hv,h3''⟩:=Zbu h3'
 have h3:=ZdW h3''
 refine ⟨v,h3,Nat.le_refl _,fun g a w keep hkp hs next Q hnext=>?_⟩
 obtain ⟨cv,hrx,hl,hc⟩:=(hs.ev hx).1.fn_inv
 have hfr':ZaK (freeze true (ZcA C s) 12) (args ++ []) = some as:=by rw [List.append_nil]; exact hfr
 obtain ⟨q1,q2⟩:=Zg7 hs ha hl hc
 obtain ⟨m1,m2⟩:=Zbb hfr'
 unfold Oper.wp
 rw [Zdw ho hcal hrx]
 obtain ⟨gu,hsu,hku,u1,u2,u3,u4⟩:=hs.view
 have hou:ObsLe g gu:=⟨by rw [u2]; exact Nat.le_refl _,fun _ _ x' h=>⟨x',by rw [← u2]; exact h,Nat.le_refl _,fun _=>rfl⟩⟩
 let gv:G:={ gu with imm:=fun b i=>gu.imm b i ∨ ∃ o x,nth gu.obs o = some (some x) ∧ 0 < x.2.2.2.1 ∧ x.2.1 = b }
 have hkv:Keeps gu w gv w:=⟨fun _ _ h=>.inl h,fun _ _ h=>h,fun _ _ _=>rfl⟩
 have hsubv:Sub gv:=fun b i hb=>.inl (hsu.sub b i hb)
 have himv:∀ b i,gv.imm b i → b < w.heap.size:=fun b i hb=>by
  rcases hb with hb | ⟨oo,xx,hxx,hp,rfl⟩
  ·exact hsu.immlt b i hb
  ·obtain ⟨ob,hob⟩:=hsu.gone oo xx hxx
   obtain ⟨arr,cap,b1,_⟩:=(hsu.at_obj hob hxx).blk
   exact ZaO (b1 hp)
 refine h4 _ w _ 0 (Nat.zero_le _) (Sim.blank (C:=C) hsubv himv) (by rw [← m1,q1]) (fun i u rv hu hr=>?_) o a next Q fun rv w' hw=>?_
 ·obtain ⟨v0,hv0,hf0⟩:=m2 i u hu
  have hd:DR gv w false u rv:=Zc9 (g':=gv) hsu (fun _=>hsubv) hkv (fun oo xx i hxx hp=>by show gv.imm _ _; exact .inr ⟨oo,xx,hxx,hp,rfl⟩) 12 hf0 ((q2 i v0 rv hv0 hr).keeps hs.sub hku hou)
  exact ⟨.data (DR.keeps (g':={ base:=w.heap.size,imm:=gv.imm,safe:=gv.safe,susp:=fun b=>b < w.heap.size,obs:=[] }) hsubv ⟨fun _ _ h=>h,fun _ _ h=>h,fun _ _ _=>rfl⟩ hd),ZbX hf0⟩
 ·obtain ⟨g',hle,hs',hvr⟩:=hw
  have hlow:∀ b,b < w.heap.size → w'.heap[b]? = w.heap[b]?:=fun b hb=>hle.low b hb
  have hN:∀ b i,(fun b (_:Nat)=>w.heap.size ≤ b ∧ b < w'.heap.size) b i → w.heap.size ≤ b ∧ b < w'.heap.size:=fun _ _ h=>h
  obtain ⟨k1,_⟩:=hs.more hle.size hlow (fun b _=>w.heap.size ≤ b ∧ b < w'.heap.size) hN
  have k2:=Le.more hs hle.size hlow hle.os hle.tape hle.output (fun b _=>w.heap.size ≤ b ∧ b < w'.heap.size) hN hkp
  obtain ⟨gr,hsr,hkr,r1,r2,r3,r4⟩:=hs'.ripe
  have hor:ObsLe g' gr:=⟨by rw [r2]; exact Nat.le_refl _,fun _ _ x' h=>⟨x',by rw [← r2]; exact h,Nat.le_refl _,fun _=>rfl⟩⟩
  let g2:G:={ gr with imm:=fun b i=>gr.imm b i ∨ ∃ o x,nth gr.obs o = some (some x) ∧ 0 < x.2.2.2.1 ∧ x.2.1 = b,safe:=fun b i=>gr.safe b i ∨ ∃ o x,nth gr.obs o = some (some x) ∧ 0 < x.2.2.2.1 ∧ x.2.1 = b }
  have hk2:Keeps gr w' g2 w':=⟨fun _ _ h=>.inl h,fun _ _ h=>.inl h,fun _ _ _=>rfl⟩
  have hdr:DR g2 w' true v rv:=Zc9 (view:=false) hsr (fun h=>by cases h) hk2 (fun oo xx i hxx hp=>by show g2.safe _ _; exact .inr ⟨oo,xx,hxx,hp,rfl⟩) 12 hv (hvr.keeps hs'.sub hkr hor)
  have hbase':g'.base = w.heap.size:=hle.base
  have hdr2:DR (g.more fun b _=>w.heap.size ≤ b ∧ b < w'.heap.size) w' true v rv:=by
   refine DR.safely (g:=g2) (fun b i hb=>?_) (fun _ _ _=>rfl) hdr
   by_cases hlt:b < w.heap.size
   ·left
    rcases hb with hb | ⟨oo,xx,hxx,hp,rfl⟩
    ·rcases (r1 b i).1 hb with hb | hb
     ·have:=(hle.sus b hlt).2.2 i hb
      show g.safe b i
      rw [← u1]; exact this
     ·obtain ⟨o',i',j',q1,_⟩:=hb.owns (E:=[]) (a:=ZaI)
      have:=(ZcQ hs' q1).2.1
      omega
    ·obtain ⟨ob,hob⟩:=hsr.gone oo xx hxx
     have:=(hsr.at_obj hob hxx).base hp
     omega
   ·right
    refine ⟨by omega,?_⟩
    rcases hb with hb | ⟨oo,xx,hxx,hp,rfl⟩
    ·exact hsr.immlt b i (hsr.sub b i hb)
    ·obtain ⟨ob,hob⟩:=hsr.gone oo xx hxx
     obtain ⟨arr,cap,b1,_⟩:=(hsr.at_obj hob hxx).blk
     exact ZaO (b1 hp)
  exact hnext _ rv w' k2 (k1.put0 o.dst (.data hdr2.weak) (ZbX hv))
theorem ZsZ (hC:Ok P C) {Φ:Zat} (hΦ:Zab P C Φ) {ops:List Oper} {K:V → List V → S → Option R} {r:R} (hcalm:Zbc C ops o = true) (h:opC C Φ ops o E s K = some r) :
  ∃ v E' s',K v E' s' = some r ∧ Zbi P C o E s v E s:=by
 by_cases hfr:∃ c g,o.op = .call c ∧ c.callee = .value (.func g) ∧ C.mode g = .fresh
 ·obtain ⟨c,g,ho,hcal,hm⟩:=hfr
  unfold opC at h
  rw [ho] at h
  simp only [hcal,hm] at h
  split at h <;> first | (cases h; done) | skip
  rename_i args ha
  unfold Zv1 at h
  obtain ⟨as,hfr,h2⟩:=ZbZ (f:=Zbg true (ZcA C s) 12) (g:=freeze true (ZcA C s) 12) (fun a K r h=>Zbu h) h
  obtain ⟨v,h3,h4⟩:=Zj0 hΦ (K:=fun v s=>K v E s) ho hcal rfl (Zbk.argsN ha) hm hfr h2
  exact ⟨v,E,s,h3,h4⟩
 replace h:opV C Φ ops o E s K = some r:=by
  unfold opC at h
  split at h
  ·rename_i c ho
   split at h
   ·rename_i g hcal
    split at h
    ·rename_i hm
     exact absurd ⟨c,g,ho,hcal,hm⟩ hfr
    ·exact h
   ·exact h
  ·exact h
 unfold opV at h
 split at h
 ·rename_i c ho
  split at h <;> first | (cases h; done) | skip
  rename_i args ha
  split at h
  ·rename_i b hcal
   obtain ⟨v,s',h1,hs',h2,_⟩:=Zdn (P:=P) (K:=fun v s'=>K v (ZcR b E c.args.toList) s') hC ho hcal ha h
   have hb:b = .len ∨ b = .min ∨ b = .max:=by
    cases b <;> simp [Zbc,ho,hcal] at hcalm <;> simp
   have hstrip:ZcR b E c.args.toList = E:=by
    rcases hb with rfl | rfl | rfl <;> (unfold ZcR; split <;> first | rfl | (rename_i h _; cases h) | rfl)
   have hs2:s' = s:=by
    rcases hs' with h | h | h
    ·rw [h] at hb; simp at hb
    ·rw [h] at hb; simp at hb
    ·exact h
   subst hs2
   rw [hstrip] at h2
   exact ⟨v,_,_,h1,h2⟩
  ·rename_i x hcal
   obtain ⟨fv,hf,h2⟩:=Zae h
   split at h2 <;> first | (cases h2; done) | skip
   rename_i f caps
   have hm:C.mode f = .pure:=by
    cases x with
    | func g =>
     simp only [ev] at hf
     have:=Option.some.inj hf
     injection this with h3 h4
     subst h3
     simp only [Zbc,ho,hcal] at hcalm
     cases hmode:C.mode g with
     | pure=>rfl
     | shared=>rw [hmode] at hcalm; cases hcalm
     | own=>rw [hmode] at hcalm; cases hcalm
     | fresh=>exact absurd ⟨c,g,ho,hcal,hmode⟩ hfr
    | _=>simp [Zbc,ho,hcal] at hcalm
   unfold Zte at h2
   rw [hm] at h2
   simp only at h2
   obtain ⟨as,hfr,h2⟩:=ZbZ (f:=Zbg true (ZcA C s) 12) (g:=freeze true (ZcA C s) 12) (fun a K r h=>Zbu h) h2
   obtain ⟨v,h3,h4⟩:=Zg4 hΦ (K:=fun v s'=>K v E s') ho hcal hf (Zbk.argsN ha) hm hfr h2
   exact ⟨v,E,s,h3,h4⟩
  ·cases h
 ·exact Zq1 hC hcalm h
theorem Zg6 (v:V):v.noOwnCell.noOwnCell = v.noOwnCell:=by
 cases v <;> first | rfl | skip
 rename_i sz es f
 cases f <;> rfl
theorem ZlM (v:V):v.noOwn.noOwn = v.noOwn:=by
 cases v with
 | list sz es f=>cases f <;> rfl
 | agg cs=>simp [V.noOwn,Zg6]
 | _=>rfl
theorem Zq8 (hC:Ok P C) {Φ:Zat} (hΦ:Zab P C Φ) {ops:List Oper} {K:V → List V → S → Option R} {r:R} (hcalm:ZbB C ops o = true) (h:opC C Φ ops o E s K = some r) :
  ∃ v E' s' v',K v E' s' = some r ∧ v'.noOwn = v.noOwn ∧ Zbi P C o E s v' E s:=by
 by_cases ha:∃ x,o.op = .assign x
 ·obtain ⟨x,ho⟩:=ha
  unfold opC at h
  rw [ho] at h
  simp only at h
  unfold opV at h
  rw [ho] at h
  simp only at h
  unfold ZgN at h
  rw [ho] at h
  simp only at h
  obtain ⟨v,hv,h2⟩:=Zae h
  exact ⟨v,_,_,v.noOwn,h2,ZlM v,Zbi.calm (ZaA v) fun g a w hs=>⟨_,by simp [execOp,ho],(hs.evt hv).1.noOwn⟩⟩
 ·have h0:Zbc C ops o = true:=by
   unfold ZbB at hcalm
   split at hcalm
   ·rename_i x ho; exact absurd ⟨x,ho⟩ ha
   ·exact hcalm
  obtain ⟨v,E',s',h1,h2⟩:=ZsZ hC hΦ h0 h
  exact ⟨v,E',s',v,h1,rfl,h2⟩
theorem ZdJ (ts:List Nat):∀ (E:List V) (k:Nat),(Zeu ts k E).length = E.length
 | [],_=>rfl
 | v :: l,k=>by simp [Zeu,ZdJ ts l (k + 1)]
theorem Zfm (ts:List Nat):∀ (E:List V) (k t:Nat) (v:V),nth (Zeu ts k E) t = some v → v = .dead ∨ (k + t ∈ ts ∧ ∃ u,nth E t = some u ∧ v = u.noOwn)
 | [],_,t,v,h=>by cases t <;> simp [Zeu,nth] at h
 | u :: l,k,t,v,h=>by
  cases t with
  | zero =>
   simp only [Zeu,nth] at h
   split at h
   ·rename_i hm
    obtain ⟨x,hx,hb⟩:=List.any_eq_true.1 hm
    have:=Nat.eq_of_beq_eq_true hb
    exact .inr ⟨by rw [Nat.add_zero,this]; exact hx,u,rfl,(Option.some.inj h).symm⟩
   ·exact .inl (Option.some.inj h).symm
  | succ t =>
   rcases Zfm ts l (k + 1) t v h with h1 | ⟨h1,h2⟩
   ·exact .inl h1
   ·exact .inr ⟨by rw [show k + (t + 1) = k + 1 + t by omega]; exact h1,h2⟩
theorem Sim.mask {g:G} {a:Act} {w:World} (hs:Sim C g E s a w) {M:List V} (hl:M.length = E.length) (hM:∀ t v,nth M t = some v → v = .dead ∨ ∃ u,nth E t = some u ∧ v = u.noOwn) :
  Sim C (g.away E s a w) M s a w:=by
 have h0:=hs.leave
 have hst:∀ t v,nth M t = some v → v.still:=fun t v hv=>by
  rcases hM t v hv with rfl | ⟨u,_,rfl⟩
  ·simp [V.still]
  ·exact ZaA u
 exact {
  len:=by rw [hl]; exact hs.len
  env:=fun t v hv=>by
   rcases hM t v hv with rfl | ⟨u,hu,rfl⟩
   ·have hlt:t < E.length:=by rw [← hl]; exact Zau hv
    obtain ⟨rv,h1,_,_⟩:=hs.env t E[t] (by rw [Zad,List.getElem?_eq_getElem hlt])
    exact ⟨rv,h1,.dead rv,OwnOk.of_not (by simp [V.still])⟩
   ·obtain ⟨rv,h1,h2,_⟩:=hs.env t u hu
    exact ⟨rv,h1,h2.noOwn.same hs.sub rfl rfl rfl,OwnOk.of_not (ZaA u)⟩
  olen:=h0.olen
  obj:=h0.obj
  gone:=h0.gone
  inj:=h0.inj
  own:=fun p q b hp hq=>by
   have ns:∀ t,¬ Zan M s a w (g.away E s a w) (.slot t) b:=by
    rintro t ⟨c,rv,h1,h0,_⟩
    exact (hst t _ h1).owns h0
   cases p with
   | slot t=>exact absurd hp (ns t)
   | cell o i j=>cases q with
    | slot t=>exact absurd hq (ns t)
    | cell o' i' j'=>exact h0.own _ _ b hp hq
  sub:=h0.sub
  immlt:=h0.immlt
  basele:=h0.basele
  susplt:=h0.susplt }
theorem Zgu {g:G} {a:Act} {w:World} (hs:Sim C g E s a w) {M:List V} (hl:M.length = E.length) (hM:∀ t v,nth M t = some v → v = .dead ∨ ∃ u,nth E t = some u ∧ v = u.noOwn)
  {v:V} (hop:Zbi P C o M s v M s) (keep:Nat) (hk:keep ≤ s.length) (next:Act → World → Prop) (Q:Exit → Act → World → Prop)
  (hn:∀ g' rv w',Le keep g w g' w' → Sim C g' (Zcy E o.dst v.noOwn) s (a.put o.dst rv) w' → next (a.put o.dst rv) w'):o.wp P a w next Q:=by
 refine hop.2 (g.away E s a w) a w s.length (Nat.le_refl _) (hs.mask hl hM) next Q fun g' rv w' hle hs'=>?_
 obtain ⟨k1,k2⟩:=hs.back hle hs'.quit
 refine hn _ rv w' (k2 keep hk) ?_
 cases hd:o.dst with
 | none=>exact k1
 | some d =>
  by_cases hlt:d < E.length
  ·have hv:nth (Zcy M o.dst v) d = some v:=by
    rw [hd]
    have:nth M d = some (M[d]'(hl ▸ hlt)):=by rw [Zad,List.getElem?_eq_getElem (hl ▸ hlt)]
    show nth (Zai M d v) d = some v
    rw [Zad,ZaM,List.getElem?_set_self (hl ▸ hlt)]
   obtain ⟨rv',h1,h2,_⟩:=hs'.env d v hv
   have hrv:rv' = rv:=by
    rw [hd,Zea (by rw [← hs.len]; exact hlt) rfl] at h1
    exact (Option.some.inj h1).symm
   subst hrv
   exact k1.put0 (some d) (h2.noOwn.same hs'.sub rfl rfl rfl) (ZaA v)
  ·have e1:Zcy E (some d) v.noOwn = E:=by
    show Zai E d v.noOwn = E
    rw [ZaM,List.set_eq_of_length_le (Nat.le_of_not_lt hlt)]
   have e2:a.put (some d) rv = a:=by
    have:a.tmps.setIfInBounds d rv = a.tmps:=by
     apply Array.ext'
     rw [Array.toList_setIfInBounds,List.set_eq_of_length_le (by rw [Array.length_toList,← hs.len]; exact Nat.le_of_not_lt hlt)]
    simp [Act.put,this]
   rw [e1,e2]
   exact k1
end
end Go.VM
