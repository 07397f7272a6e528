/- One operation. -/
import Derived.Test.YtkchbabkbpcncaaVmN
set_option linter.unusedSimpArgs false
set_option linter.unusedVariables false
namespace Go.VM
open Go.RowKit Go.Lib
section
variable {P:Program} {C:Cfg} {o:Oper} {E:List V} {s:S} {R:Type}
theorem Zsp (hC:Ok P C) {ops:List Oper} {K:V → List V → S → Option R} {r:R} (h:ZgN C ops o E s K = some r):∃ v E' s',K v E' s' = some r ∧ Zbi P C o E s v E' s':=by
 unfold ZgN at h
 split at h
 ·-- move
  rename_i x ho
  obtain ⟨v,hv,h2⟩:=Zae h
  split at h2
  ·exact ⟨_,_,_,h2,Zqu (.inl ho) hv⟩
  ·exact ⟨_,_,_,h2,ZqP ho hv⟩
 ·rename_i x ho
  obtain ⟨v,hv,h2⟩:=Zae h
  exact ⟨_,_,_,h2,Zqu (.inr ho) hv⟩
 ·-- pick
  rename_i c x y ho
  obtain ⟨cv,hc,h2⟩:=Zae h
  obtain ⟨v,h4,h5⟩:=ZqF (P:=P) (C:=C) (s:=s) (K:=fun v=>K v E s) ho hc h2
  exact ⟨_,_,_,h4,h5⟩
 ·-- load
  rename_i t x ho
  obtain ⟨hk,h2⟩:=Zaa h
  obtain ⟨p,hp,h3⟩:=Zae h2
  split at h3
  ·obtain ⟨hg,h4⟩:=Zaa h3
   split at h4 <;> first | (cases h4; done) | skip
   rename_i v s' htk
   have hg':(C.ty t).agg = false ∧ Nat.beq (C.ty t).size 1 = true:=by simpa using hg
   exact ⟨_,_,_,h4,ZuL hC hk hg'.1 (Nat.eq_of_beq_eq_true hg'.2) ho hp htk⟩
  ·obtain ⟨v,h4,h5⟩:=Zlo (E:=E) hC (.lty C s p t) hk ho hp h3
   exact ⟨_,_,_,h4,h5⟩
 ·-- store
  rename_i t x y ho
  obtain ⟨hk,h2⟩:=Zaa h
  obtain ⟨p,hp,h3⟩:=Zae h2
  obtain ⟨v,hv,h4⟩:=Zae h3
  obtain ⟨s',hst,h4⟩:=ZlZ h4
  exact ⟨_,_,_,h4,Ztw hC hk ho hp hv hst⟩
 ·-- fieldAddr
  rename_i t x f ho
  obtain ⟨hk,h2⟩:=Zaa h
  obtain ⟨p,hp,h3⟩:=Zae h2
  obtain ⟨v,hv,h4⟩:=Zae h3
  exact ⟨_,_,_,h4,ZeE hC hk ho hp hv⟩
 ·-- indexAddr
  rename_i t x i ho
  obtain ⟨hk,h2⟩:=Zaa h
  obtain ⟨p,hp,h3⟩:=Zae h2
  obtain ⟨v,hv,h4⟩:=Zae h3
  obtain ⟨v',h5,h6⟩:=ZeP hC hk ho hp hv h4
  exact ⟨_,_,_,h5,h6⟩
 ·-- index
  rename_i t x i ho
  obtain ⟨hk,h2⟩:=Zaa h
  have hk':(C.ty t).known = true ∧ (C.ty t).str = true:=by simpa using hk
  obtain ⟨p,hp,h3⟩:=Zae h2
  obtain ⟨v,hv,h4⟩:=Zae h3
  obtain ⟨v',h5,h6⟩:=Zks hC hk'.1 hk'.2 ho hp hv h4
  exact ⟨_,_,_,h5,h6⟩
 ·-- slice
  rename_i t x lo hi mx ho
  split at h <;> first | (cases h; done) | skip
  obtain ⟨hk,h2⟩:=Zaa h
  obtain ⟨p,hp,h3⟩:=Zae h2
  split at h3 <;> first | (cases h3; done) | skip
  rename_i l hh hl' hh'
  split at h3
  ·rename_i e he
   obtain ⟨hke,h4⟩:=Zaa h3
   obtain ⟨v,hv,h5⟩:=ZjI h4
   exact ⟨_,_,_,h5,ZqV hC hk he hke ho hp hl' hh' hv⟩
  ·obtain ⟨hst,h4⟩:=Zaa h3
   obtain ⟨v,hv,h5⟩:=ZfT h4
   exact ⟨_,_,_,h5,Zk0 hC hk hst ho hp hl' hh' hv⟩
 ·-- binOp
  rename_i op t x y yt ho
  obtain ⟨a,ha,h2⟩:=Zae h
  obtain ⟨b,hb,h3⟩:=Zae h2
  obtain ⟨v,hv,h4⟩:=Zkt h3
  exact ⟨_,_,_,h4,Zqx hC ho ha hb hv⟩
 ·rename_i op t x ho
  obtain ⟨a,ha,h2⟩:=Zae h
  obtain ⟨v,hv,h4⟩:=Zae h2
  exact ⟨_,_,_,h4,ZtP ho ha hv⟩
 ·-- convert
  rename_i src dst x ho
  obtain ⟨hk,h2⟩:=Zaa h
  have hk':(C.ty src).known = true ∧ (C.ty dst).known = true:=by simpa using hk
  obtain ⟨a,ha,h3⟩:=Zae h2
  obtain ⟨v,h4,h5⟩:=Zok hC hk'.1 hk'.2 ho ha h3
  exact ⟨_,_,_,h4,h5⟩
 ·-- nilCheck
  rename_i x ho
  obtain ⟨a,ha,h2⟩:=Zae h
  split at h2 <;> first | (cases h2; done) | skip
  ·exact ⟨_,_,_,h2,Zb8 ho ha (.inl ⟨_,_,_,_,rfl⟩)⟩
  ·exact ⟨_,_,_,h2,Zb8 ho ha (.inr (.inl ⟨_,rfl⟩))⟩
  ·exact ⟨_,_,_,h2,Zb8 ho ha (.inr (.inr ⟨_,_,rfl⟩))⟩
 ·-- field
  rename_i t x i ho
  obtain ⟨hg,h2⟩:=Zaa h
  obtain ⟨v,hv,h3⟩:=Zae h2
  obtain ⟨cs,rfl,h4⟩:=Zdc h3
  split at h4 <;> first | (cases h4; done) | skip
  rename_i ft off hft hoff
  obtain ⟨hg2,h5⟩:=Zaa h4
  obtain ⟨c,hc,h6⟩:=Zae h5
  simp only [Bool.and_eq_true,Bool.not_eq_true'] at hg hg2
  exact ⟨_,_,_,h6,Zoc hC hg.1 hg2.1 hg2.2 ho hv hft hoff hc⟩
 ·-- extract
  rename_i x i ho
  obtain ⟨a,ha,h2⟩:=Zae h
  split at h2 <;> first | (cases h2; done) | skip
  obtain ⟨v,hv,h3⟩:=Zae h2
  exact ⟨_,_,_,h3,Zh0 ho ha hv⟩
 ·-- makeFunc
  rename_i fn first caps ho
  split at h <;> first | (cases h; done) | skip
  rename_i f hfirst
  split at h <;> first | (cases h; done) | skip
  rename_i vs hvs
  exact ⟨_,_,_,h,Zlx ho hfirst hvs⟩
 ·-- box
  rename_i t x ho
  obtain ⟨hk,h2⟩:=Zaa h
  obtain ⟨v,hv,h3⟩:=Zae h2
  obtain ⟨hf,h4⟩:=Zaa h3
  split at h4 <;> first | (cases h4; done) | skip
  rename_i hsz
  obtain ⟨hth,h4⟩:=Zaa h4
  exact ⟨_,_,_,h4,Zwd hC (by simpa using hth) hk hf hsz ho hv⟩
 ·-- alloc
  rename_i t ho
  obtain ⟨hk,h2⟩:=Zaa h
  split at h2 <;> first | (cases h2; done) | skip
  obtain ⟨hth,h2⟩:=Zaa h2
  exact ⟨_,_,_,h2,Ztt hC (by simpa using hth) hk ho⟩
 ·-- build
  rename_i t parts ho
  obtain ⟨hk,h2⟩:=Zaa h
  split at h2 <;> first | (cases h2; done) | skip
  rename_i ps hps
  obtain ⟨hg,h3⟩:=Zaa h2
  have hg':(C.ty t).agg = true ∧ (ps.all fun p=>p.2.flat) = true:=by
   rw [Bool.and_eq_true] at hg; exact hg
  split at h3 <;> first | (cases h3; done) | skip
  rename_i cs hcs
  exact ⟨_,_,_,h3,Znw hC hk hg'.1 ho hps hg'.2 hcs⟩
 ·-- buildSlice
  rename_i t len parts ho
  obtain ⟨hk,h2⟩:=Zaa h
  split at h2 <;> first | (cases h2; done) | skip
  rename_i e ps he hps
  obtain ⟨hke,h3⟩:=Zaa h2
  split at h3 <;> first | (cases h3; done) | skip
  rename_i es hes
  split at h3 <;> first | (cases h3; done) | skip
  rename_i hcond
  split at h3
  ·rename_i hpl
   exact ⟨_,_,_,h3,ZfV hC hk he hke ho hps hcond.2 hcond.1 hes hpl⟩
  ·obtain ⟨hth,h3⟩:=Zaa h3
   exact ⟨_,_,_,h3,Zes hC hk he hke ho hps hcond.2 hcond.1 hes⟩
 ·-- makeSlice
  rename_i t x y ho
  obtain ⟨hk,h2⟩:=Zaa h
  split at h2 <;> first | (cases h2; done) | skip
  rename_i e he
  obtain ⟨hke,h3⟩:=Zaa h2
  obtain ⟨n,hn,h4⟩:=Zae h3
  obtain ⟨m,hm,h5⟩:=Zae h4
  split at h5 <;> first | (cases h5; done) | skip
  rename_i k1 n' k2 m'
  split at h5 <;> first | (cases h5; done) | skip
  rename_i hcond
  obtain ⟨h0,rfl,hb⟩:=hcond
  have hbp:=(hC.ty e hke).bpos
  obtain ⟨hth,h5⟩:=Zaa h5
  refine ⟨_,_,_,h5,ZkR hC (by simpa using hth) hk he hke ho hn hm h0 hb ?_⟩
  have:n' * 1 ≤ n' * ((C.ty e).bytes:Int):=Int.mul_le_mul_of_nonneg_left (by omega) h0
  omega
 ·cases h
theorem ZdC {b:Builtin} {c:Call} {v:V} (ho:o.op = .call c) (hcal:c.callee = .builtin b) (hn:v.still)
  (h:∀ g a w,Sim C g E s a w → ∃ rv,(Go.builtin b c.argTypes o.type (c.args.map fun | .const _=>true | _=>false) (c.args.map a.eval)).run P w = .ok (.value rv) w ∧ VR g w v rv):Zbi P C o E s v E s :=
 Zbi.calm hn fun g a w hs=>by
  obtain ⟨rv,h1,h2⟩:=h g a w hs
  refine ⟨rv,?_,h2⟩
  unfold execOp
  simp only [ho,resolve,hcal,invoke,Sem.run_bind,Sem.run_pure,Result.andThen_ok]
  exact h1
theorem Zfn:∀ {ts:List TypeId} {l:List Operand} {vs:List V},ZeH C E ts l = some vs →
  vs.length = l.length ∧ ∀ i v,nth vs i = some v → ∃ x,nth l i = some x ∧ ((∃ t,nth ts i = some t ∧ evt C t E x = some v) ∨ ev E x = some v)
 | ts,[],vs,h=>by
  simp only [ZeH] at h
  obtain rfl:=Option.some.inj h
  exact ⟨rfl,fun i v h=>by simp [nth] at h⟩
 | ts,x :: l,vs,h=>by
  simp only [ZeH] at h
  split at h <;> first | (cases h; done) | skip
  rename_i v hv
  split at h <;> first | (cases h; done) | skip
  rename_i l' hl'
  obtain rfl:=Option.some.inj h
  obtain ⟨h1,h2⟩:=Zfn hl'
  refine ⟨by simp [h1],fun i u hu=>?_⟩
  cases i with
  | zero =>
   simp only [nth] at hu
   obtain rfl:=Option.some.inj hu
   refine ⟨x,rfl,?_⟩
   cases ts with
   | nil=>exact .inr hv
   | cons t ts=>exact .inl ⟨t,rfl,hv⟩
  | succ i =>
   obtain ⟨y,hy,h3⟩:=h2 i u hu
   refine ⟨y,hy,?_⟩
   rcases h3 with ⟨t,ht,h3⟩ | h3
   ·cases ts with
    | nil=>simp [nth] at ht
    | cons t' ts=>exact .inl ⟨t,ht,h3⟩
   ·exact .inr h3
theorem ZgM {g:G} {a:Act} {w:World} (hs:Sim C g E s a w) {ts:List TypeId} {l:List Operand} {vs:List V} (h:ZeH C E ts l = some vs) :
  vs.length = l.length ∧ ∀ i v,nth vs i = some v → ∃ x,nth l i = some x ∧ VR g w v (a.eval x):=by
 obtain ⟨h1,h2⟩:=Zfn h
 refine ⟨h1,fun i v hv=>?_⟩
 obtain ⟨x,hx,h3⟩:=h2 i v hv
 refine ⟨x,hx,?_⟩
 rcases h3 with ⟨t,_,h3⟩ | h3
 ·exact (hs.evt h3).1
 ·exact (hs.ev h3).1
theorem ZfH {α:Type} {l:List α} {n:Nat} {a:α} (h:nth l n = some a):Zai l n a = l:=by
 rw [Zad] at h
 rw [ZaM]
 apply List.ext_getElem?
 intro i
 by_cases hi:n = i
 ·subst hi
  rw [List.getElem?_set_self (List.getElem?_eq_some_iff.1 h).1,h]
 ·rw [List.getElem?_set_ne hi]
theorem ZeY {es:List V} {off len:Nat} {z:V} (h:off + len ≤ es.length) {i:Nat} {e:V} (he:nth (ZiS es off len z) i = some e) :
  (off ≤ i ∧ i < off + len ∧ e = z) ∨ ((i < off ∨ off + len ≤ i) ∧ nth es i = some e):=by
 unfold ZiS at he
 rw [Zad] at he ⊢
 by_cases h1:i < off
 ·rw [List.append_assoc,List.getElem?_append_left (by simp; omega),List.getElem?_take,if_pos h1] at he
  exact .inr ⟨.inl h1,he⟩
 ·by_cases h2:i < off + len
  ·rw [List.append_assoc,List.getElem?_append_right (by simp; omega),List.getElem?_append_left (by simp; omega)] at he
   have:=List.mem_of_getElem? he
   exact .inl ⟨by omega,h2,List.eq_of_mem_replicate this⟩
  ·rw [List.getElem?_append_right (by simp; omega),List.getElem?_drop] at he
   refine .inr ⟨.inr (by omega),?_⟩
   rw [← he]
   congr 1
   simp; omega
theorem Zsb (hC:Ok P C) {c:Call} {t e:TypeId} {p:Operand} {oo ver off len:Nat} {ob:Ob} (hk:(C.ty t).known = true) (he:(C.ty t).elem = some e) (hke:(C.ty e).known = true) (h1:(C.ty e).size = 1) (hzf:(C.ty e).zero.flatCell = true)
  (ho:o.op = .call c) (hcal:c.callee = .builtin .clear) (hargs:c.args = #[p]) (htys:c.argTypes[0]? = some t) (hp:∀ g a w,Sim C g E s a w → VR g w (.arr oo ver off len) (a.eval p))
  (hob:Zbs s oo ver = some ob) (hel:ob.elem = e) (hfit:off + len ≤ ob.es.length):Zbi P C o E s (.tuple []) E (Zai s oo (some { ob with es:=ZiS ob.es off len (C.ty e).zero })):=by
 refine ⟨by rw [Zak]; exact Nat.le_refl _,fun g a w keep hkp hs next Q hnext=>?_⟩
 obtain ⟨q1,q2⟩:=ZaY hob
 obtain ⟨x,hx,hr⟩:=hs.obj oo ob q1
 obtain ⟨arr,cap,b1,b2,b3,b4,b5,b7,b6⟩:=hr.blk
 obtain ⟨i',z,hi',hsz,hby,hz,hzs,hzl,hzc,_,_⟩:=(hC.ty e hke).info
 rw [h1] at hzs hzl
 have hzone:(C.ty e).zero.cells = [(C.ty e).zero]:=ZaH fun cs hc=>by rw [hc] at hzf; cases hzf
 obtain ⟨zc,hzc0⟩:∃ zc,z.cells[0]? = some zc:=⟨z.cells[0]'(by omega),Array.getElem?_eq_getElem _⟩
 have hza:z.cells = #[zc]:=by
  apply Array.ext'
  have:z.cells.toList.length = 1:=by simp [hzs]
  match hq:z.cells.toList,this with
  | [u],_ =>
   have:z.cells.toList[0]? = some zc:=by rw [Array.getElem?_toList]; exact hzc0
   rw [hq] at this
   simp at this
   rw [this]
 obtain ⟨hzd,hzo,hzn⟩:=hzc 0 (C.ty e).zero zc (by rw [hzone]; rfl) hzc0
 have hzsol:(C.ty e).zero.solid = true:=(hC.ty e hke).zflat 0 _ (by rw [hzone]; rfl)
 have hz1:zc.oneCell' = true:=((VR.data (hzd g w false)).oneCell hzsol).1
 have hesz:ob.esz = 1:=by rw [hr.ty,hel,h1]
 have hpv:=hp g a w hs
 generalize hrp:a.eval p = rp at hpv
 have key:∀ w',(Builtin.clear_ c.argTypes o.type #[a.eval p]).run P w = .ok (.tuple #[]) w' → (∀ keep,keep ≤ s.length → Le keep g w g w') →
   Sim C g E (Zai s oo (some { ob with es:=ZiS ob.es off len (C.ty e).zero })) a w' → o.wp P a w next Q:=by
  intro w' hrun hle hsim
  unfold Oper.wp
  have:(execOp a.eval o).run P w = .ok (.value (.tuple #[])) w':=by
   unfold execOp
   simp only [ho,resolve,hcal,invoke,Sem.run_bind,Sem.run_pure,Result.andThen_ok]
   simp [Go.builtin,hargs,hrun]
  rw [this]
  exact hnext g _ w' (hle keep hkp) (hsim.put0 o.dst ZdS (by simp [V.still]))
 have hu:=(hC.ty t hk).elem e he
 have htys':c.argTypes[0]? = some t:=htys
 cases hpv with
 | data h=>cases h
 | arr _ _ _ _ A cc hcc hlt hh =>
  obtain ⟨_,hh2⟩:=hh x hx
  obtain ⟨hA,hcap⟩:=hh2 (by rw [hr.ver]; exact q2)
  by_cases hl0:len = 0
  ·subst hl0
   have hsame:ZiS ob.es off 0 (C.ty e).zero = ob.es:=by simp [ZiS]
   refine key w ?_ (fun keep hk=>Le.refl (by rw [hs.olen]; exact hk)) ?_
   ·rw [hrp]
    cases A <;> simp [Builtin.clear_,htys',Zag hu]
   ·rw [hsame,ZfH q1]
    exact hs
  ·have hpx:0 < x.2.2.2.1:=by rw [← b2,b3,hesz]; omega
   have b1:=b1 hpx
   have hAeq:A = some ⟨x.2.1,x.2.2.2.2 + off,none⟩:=by
    rcases hA with h | h
    ·omega
    ·rw [h,hr.esz,hesz,Nat.mul_one]
   subst hAeq
   have hsz2:x.2.2.2.2 + off + 0 + (List.replicate len zc).length ≤ arr.size:=by
    simp only [List.length_replicate]
    rw [b3,hesz]
    omega
   have hst:=ZdX P x.2.1 (x.2.2.2.2 + off) ob.elem _ (List.replicate len zc) 0 arr w b1 (C.fz_free _ _) hsz2 (fun v hv=>by rw [List.eq_of_mem_replicate hv]; exact hz1)
   simp only [Nat.add_zero] at hst hsz2
   obtain ⟨m,hm⟩:∃ m,len = m + 1:=⟨len - 1,by omega⟩
   have hzcells:(Builtin.zeroCells z.cells len).toList = List.replicate len zc:=by
    rw [hza]
    simp [Builtin.zeroCells]
    apply List.ext_getElem
    ·simp
    ·intro i h1 h2
     simp [Nat.mod_one]
   have hrow:=hs.row q1 hx hpx (arr.toList.take (x.2.2.2.2 + off) ++ List.replicate len zc ++ arr.toList.drop (x.2.2.2.2 + off + (List.replicate len zc).length)).toArray (ZiS ob.es off len (C.ty e).zero)
    (by rw [ZcE hsz2,b2]) (by simp [ZiS]; omega) (fun k v hk=>by
     by_cases hk2:x.2.2.2.2 + off ≤ k ∧ k < x.2.2.2.2 + off + (List.replicate len zc).length
     ·rw [Zb0 hsz2 hk2.1 hk2.2,Zad] at hk
      rw [List.eq_of_mem_replicate (List.mem_of_getElem? hk)]
      exact hz1
     ·rw [Zbr hsz2 (by omega)] at hk
      exact b7 k v hk)
    (fun i e2 hi=>by
     rcases ZeY hfit hi with ⟨_,_,rfl⟩ | ⟨_,h⟩
     ·rw [hzone,hesz]; rfl
     ·exact hr.sz i e2 h)
    (fun i e2 j c2 hi hj=>by
     rcases ZeY hfit hi with ⟨_,_,rfl⟩ | ⟨_,h⟩
     ·rw [hzone] at hj
      cases j with
      | zero=>simp only [nth] at hj; rw [← Option.some.inj hj]; exact hzf
      | succ j=>simp [nth] at hj
     ·exact hr.flat i e2 j c2 h hj)
    (fun i e2 j c2 hi hj=>by
     rcases ZeY hfit hi with ⟨l1,l2,rfl⟩ | ⟨l1,h⟩
     ·rw [hzone] at hj
      cases j with
      | zero =>
       simp only [nth] at hj
       rw [← Option.some.inj hj]
       refine ⟨zc,?_,.data (hzd g w false),hzo g w⟩
       rw [hesz,Zb0 hsz2 (by omega) (by simp; omega),Zad,List.getElem?_replicate,if_pos (by omega)]
      | succ j=>simp [nth] at hj
     ·obtain ⟨rv,r1,r2⟩:=b6 i e2 j c2 h hj
      have hj0:j = 0:=by
       have:=Zau hj
       rw [hr.sz i e2 h,hesz] at this
       omega
      refine ⟨rv,?_,r2⟩
      rw [Zbr hsz2 (by rw [hesz,hj0]; simp; omega)]
      exact r1)
    0 0 (fun i e2 j c rv b hi hj h0 hrv hb=>by
     rcases ZeY hfit hi with ⟨l1,l2,rfl⟩ | ⟨l1,h⟩
     ·exfalso
      rw [hzone] at hj
      cases j with
      | zero =>
       simp only [nth] at hj
       have hzz:rv = zc:=by
        rw [hesz,Zb0 hsz2 (by omega) (by simp; omega),Zad,List.getElem?_replicate,if_pos (by omega)] at hrv
        exact (Option.some.inj hrv).symm
       have hb:=V.blockOf_own hb
       rw [hzz,hzn] at hb
       cases hb
      | succ j=>simp [nth] at hj
     ·left
      have hj0:j = 0:=by
       have:=Zau hj
       rw [hr.sz i e2 h,hesz] at this
       omega
      rw [Zbr hsz2 (by rw [hesz,hj0]; simp; omega)] at hrv
      exact ⟨ob,x,e2,c,rv,q1,hx,h,hj,h0,Zap b1 hrv,hb⟩)
   refine key _ ?_ hrow.2 hrow.1
   rw [hrp]
   have hzv:(zeroValue e).run P w = .ok z w:=by simp [zeroValue,typeInfo,hi',hz]
   subst hm
   simp [Builtin.clear_,htys',Zag hu,hzv,hzcells,hst]
theorem Zdn (hC:Ok P C) {b:Builtin} {c:Call} {args:List V} {K:V → S → Option R} {r:R} (ho:o.op = .call c) (hcal:c.callee = .builtin b) (ha:ZeH C E c.argTypes.toList c.args.toList = some args)
  (h:Zfi C b c.argTypes.toList args s K = some r):∃ v s',K v s' = some r ∧ (b = .append ∨ b = .clear ∨ s' = s) ∧ Zbi P C o E s v (ZcR b E c.args.toList) s' ∧ ((∃ sz es f,v = .list sz es f) → s' = s):=by
 unfold Zfi at h
 have two:∀ (x y:V),args = [x,y] → ∃ p q,c.args.toList = [p,q]:=by
  intro x y hxy
  have hl:=(Zfn ha).1
  rw [hxy] at hl
  match hc:c.args.toList,hl with
  | [p,q],_=>exact ⟨p,q,rfl⟩
  | [],hl=>simp at hl
  | [_],hl=>simp at hl
  | _ :: _ :: _ :: _,hl=>simp at hl
 split at h
 ·-- len
  rename_i x
  split at h <;> first | (cases h; done) | skip
  rename_i t ts hts
  obtain ⟨hk,h2⟩:=Zaa h
  split at h2 <;> first | (cases h2; done) | skip
  rename_i n hn
  refine ⟨_,_,h2,.inr (.inr rfl),ZdC ho hcal (by simp [V.still]) fun g a w hs=>?_,fun _=>rfl⟩
  obtain ⟨hl,hv⟩:=ZgM hs ha
  obtain ⟨p,hp,hx⟩:=hv 0 x rfl
  have hargs:c.args = #[p]:=by
   apply Array.ext'
   match hc:c.args.toList,hl,hp with
   | [q],_,hp=>simp [nth] at hp; rw [hp]
   | [],hl,_=>simp at hl
   | _ :: _ :: _,hl,_=>simp at hl
  have htys:c.argTypes[0]? = some t:=by rw [← Array.getElem?_toList,hts]; rfl
  have hval:∃ rv,(Builtin.len_ c.argTypes o.type #[a.eval p]).run P w = .ok rv w ∧ rv = .int .i64 n:=by
   unfold Zxj at hn
   split at hn <;> first | (cases hn; done) | skip
   ·rename_i sv
    obtain ⟨hst,hn2⟩:=Zaa hn
    obtain rfl:=Option.some.inj hn2
    refine ⟨_,?_,rfl⟩
    simp [Builtin.len_,htys,hx.str_inv,Zag ((hC.ty t hk).str hst),goInt]
   ·rename_i sz es f
    obtain ⟨hst,hn2⟩:=Zaa hn
    obtain rfl:=Option.some.inj hn2
    cases he:(C.ty t).elem with
    | none=>rw [he] at hst; cases hst
    | some e =>
     have h3:=hx.list_inv
     generalize a.eval p = rp at h3
     cases h3 with
     | list esz es f A n c' b off cv hn' hc hl hA hs2 hf hoc hw hd =>
      refine ⟨_,?_,rfl⟩
      simp [Builtin.len_,htys,Zag ((hC.ty t hk).elem e he),goInt,hn']
   ·rename_i oo ver off len
    obtain ⟨hst,hn2⟩:=Zaa hn
    obtain rfl:=Option.some.inj hn2
    cases he:(C.ty t).elem with
    | none=>rw [he] at hst; cases hst
    | some e =>
     generalize a.eval p = rp at hx
     cases hx with
     | data h=>cases h
     | arr _ _ _ _ A c' hc ho h =>
      refine ⟨_,?_,rfl⟩
      simp [Builtin.len_,htys,Zag ((hC.ty t hk).elem e he),goInt]
  obtain ⟨rv,h5,rfl⟩:=hval
  refine ⟨_,?_,.data (.int .i64 n)⟩
  simp [Go.builtin,hargs,h5]
 ·-- append
  rename_i x y
  split at h <;> first | (cases h; done) | skip
  rename_i t u hts
  obtain ⟨hg,h2⟩:=Zaa h
  have hg':((C.ty t).known = true ∧ (C.ty u).known = true) ∧ ((C.ty u).str = true ∨ (C.ty u).elem.isSome = true):=by simpa using hg
  obtain ⟨⟨hk,hku⟩,hu⟩:=hg'
  split at h2 <;> first | (cases h2; done) | skip
  rename_i e he
  obtain ⟨hke,h3⟩:=Zaa h2
  obtain ⟨hth,hke⟩:C.thaw = false ∧ (C.ty e).known = true:=by simpa using hke
  obtain ⟨p,q,hpq⟩:=two x y rfl
  have hpos:=(hC.ty e hke).pos
  have hbpos:=(hC.ty e hke).bpos
  have hstrip:ZcR .append E c.args.toList = Zb4 E p:=by rw [hpq]; rfl
  rw [hstrip]
  have hx:evt C t E p = some x:=by
   have:=ha
   rw [hts,hpq] at this
   simp only [ZeH] at this
   split at this <;> first | (cases this; done) | skip
   rename_i v hv
   split at this <;> first | (cases this; done) | skip
   have:=Option.some.inj this
   injection this with h1 h2
   rw [← h1]; exact hv
  have hy:evt C u E q = some y:=by
   have:=ha
   rw [hts,hpq] at this
   simp only [ZeH,List.tail_cons] at this
   split at this <;> first | (cases this; done) | skip
   rename_i v hv
   split at this <;> first | (cases this; done) | skip
   rename_i l' hl'
   have:=Option.some.inj this
   injection this with h1 h2
   subst h2
   split at hl' <;> first | (cases hl'; done) | skip
   rename_i v' hv'
   have:=Option.some.inj hl'
   injection this with h1 h2
   rw [← h1]; exact hv'
  have bound:∀ m:Nat,m * (C.ty e).bytes ≤ 140737488355328 → m ≤ maxLen:=by
   intro m hm
   have:m * 1 ≤ m * (C.ty e).bytes:=Nat.mul_le_mul_left _ hbpos
   unfold maxLen; omega
  unfold ZmY at h3
  split at h3 <;> first | (cases h3; done) | skip
  ·rename_i sz es f
   split at h3 <;> first | (cases h3; done) | skip
   rename_i e'
   obtain ⟨hb,h4⟩:=Zaa h3
   have:=Nat.eq_of_beq_eq_true hb
   subst this
   obtain ⟨ys,h5,hsrc⟩:=Zqt (P:=P) hpos h4
   split at h5 <;> first | (cases h5; done) | skip
   rename_i hbd
   exact ⟨_,_,h5,.inl rfl,Zji hC ho hcal hpq hts hk he hke hku hu hx hy (fun g a w ry hs hv=>hsrc C g E a w ry hs hv) hbd (bound _ hbd),fun _=>rfl⟩
  ·rename_i oo ver off len
   split at h3 <;> first | (cases h3; done) | skip
   rename_i ob hob
   obtain ⟨hb,h4⟩:=Zaa h3
   have hel:=Nat.eq_of_beq_eq_true hb
   obtain ⟨ys,h5,hsrc⟩:=Zhp (P:=P) hpos h4
   split at h5 <;> first | (cases h5; done) | skip
   rename_i hbd
   obtain ⟨rfl,hlen,hbd,hm0⟩:=hbd
   exact ⟨_,_,h5,.inl rfl,Zk3 hC hth ho hcal hpq hts hk he hke hku hu hx hy hob hel hlen (fun g a w ry hs hv=>hsrc C g E a w ry hs hv) hbd (bound _ hbd) hm0,fun ⟨_,_,_,h⟩=>by cases h⟩
 ·-- clear
  rename_i oo ver off len
  split at h <;> first | (cases h; done) | skip
  rename_i t hts
  obtain ⟨hk,h2⟩:=Zaa h
  split at h2 <;> first | (cases h2; done) | skip
  rename_i e he
  obtain ⟨hg,h3⟩:=Zaa h2
  have hg':((C.ty e).known = true ∧ (C.ty e).size = 1) ∧ (C.ty e).zero.flatCell = true:=by
   simp only [Bool.and_eq_true] at hg
   exact ⟨⟨hg.1.1,Nat.eq_of_beq_eq_true hg.1.2⟩,hg.2⟩
  split at h3 <;> first | (cases h3; done) | skip
  rename_i ob hob
  obtain ⟨hc,h4⟩:=Zaa h3
  have hc':ob.elem = e ∧ off + len ≤ ob.es.length:=by
   simp only [Bool.and_eq_true,decide_eq_true_eq] at hc
   exact ⟨Nat.eq_of_beq_eq_true hc.1,hc.2⟩
  have hone:∃ p,c.args = #[p]:=by
   have hl:=(Zfn ha).1
   match hc:c.args.toList,hl with
   | [p],_=>exact ⟨p,by apply Array.ext'; simpa using hc⟩
   | [],hl=>simp at hl
   | _ :: _ :: _,hl=>simp at hl
  obtain ⟨p,hargs⟩:=hone
  have htys:c.argTypes[0]? = some t:=by rw [← Array.getElem?_toList,hts]; rfl
  refine ⟨_,_,h4,.inr (.inl rfl),Zsb hC hk he hg'.1.1 hg'.1.2 hg'.2 ho hcal hargs htys (fun g a w hs=>?_) hob hc'.1 hc'.2,fun ⟨_,_,_,h⟩=>by cases h⟩
  obtain ⟨hl,hv⟩:=ZgM hs ha
  obtain ⟨p',hp,hx⟩:=hv 0 _ rfl
  rw [hargs] at hp
  simp only [nth] at hp
  obtain rfl:=Option.some.inj hp
  exact hx
 ·-- min
  rename_i k a k' b
  split at h <;> first | (cases h; done) | skip
  rename_i hkk
  subst hkk
  refine ⟨_,_,h,.inr (.inr rfl),ZdC ho hcal (by simp [V.still]) fun g ac w hs=>?_,fun _=>rfl⟩
  obtain ⟨p,q,hpq⟩:=two _ _ rfl
  obtain ⟨hl,hv⟩:=ZgM hs ha
  obtain ⟨p',hp,hx⟩:=hv 0 _ rfl
  obtain ⟨q',hq,hy⟩:=hv 1 _ rfl
  rw [hpq] at hp hq
  simp only [nth] at hp hq
  obtain rfl:=Option.some.inj hp
  obtain rfl:=Option.some.inj hq
  have hargs:c.args = #[p,q]:=by apply Array.ext'; simpa using hpq
  refine ⟨_,?_,.data (.int k _)⟩
  simp [Go.builtin,hargs,hx.int_inv,hy.int_inv,run_min_int2]
 ·rename_i k a k' b
  split at h <;> first | (cases h; done) | skip
  rename_i hkk
  subst hkk
  refine ⟨_,_,h,.inr (.inr rfl),ZdC ho hcal (by simp [V.still]) fun g ac w hs=>?_,fun _=>rfl⟩
  obtain ⟨p,q,hpq⟩:=two _ _ rfl
  obtain ⟨hl,hv⟩:=ZgM hs ha
  obtain ⟨p',hp,hx⟩:=hv 0 _ rfl
  obtain ⟨q',hq,hy⟩:=hv 1 _ rfl
  rw [hpq] at hp hq
  simp only [nth] at hp hq
  obtain rfl:=Option.some.inj hp
  obtain rfl:=Option.some.inj hq
  have hargs:c.args = #[p,q]:=by apply Array.ext'; simpa using hpq
  refine ⟨_,?_,.data (.int k _)⟩
  simp [Go.builtin,hargs,hx.int_inv,hy.int_inv,run_max_int2]
 ·cases h
end
end Go.VM
