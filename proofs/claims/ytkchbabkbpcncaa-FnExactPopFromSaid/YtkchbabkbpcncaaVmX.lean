/- Loops by their own code, with so many rounds at most. -/
import Derived.Test.YtkchbabkbpcncaaVmU
set_option linter.unusedSimpArgs false
set_option linter.unusedVariables false
namespace Go.VM
open Go.RowKit Go.Lib
def Zsd (tr:Bool) (n:Nat) (ks:List Nat) (E:List V):List V :=
 match tr with
 | true=>(Za7 ks E).map (trimV n)
 | false=>Za7 ks E
def ZoR (tr:Bool) (n:Nat) (s:S):S :=
 match tr with
 | true=>Zkj n s
 | false=>s
def rz0 (p:Nat) (s:S):V → V
 | .arr o ver off len=>(match Nat.blt o p with
  | true=>.arr o ver off len
  | false=>(match nth s o with
   | some (some ob)=>(match Nat.beq ver ob.ver with
    | true=>.arr o 0 off len
    | false=>.dead)
   | _=>.dead))
 | .ptr o ver i j=>(match Nat.blt o p with
  | true=>.ptr o ver i j
  | false=>(match nth s o with
   | some (some ob)=>(match Nat.beq ver ob.ver with
    | true=>.ptr o 0 i j
    | false=>.dead)
   | _=>.dead))
 | .fn g caps=>(match caps with
  | []=>.fn g []
  | _ :: _=>.dead)
 | .agg _=>.dead
 | .tuple _=>.dead
 | v=>v
def rzC (p:Nat) (s:S):V → V
 | .fn g caps=>.fn g (caps.map (rz0 p s))
 | v=>rz0 p s v
def rz1 (p:Nat) (s:S):V → V
 | .agg cs=>.agg (cs.map (rzC p s))
 | v=>rzC p s v
def V.rz (p:Nat) (s:S):V → V
 | .tuple vs=>.tuple (vs.map (rz1 p s))
 | v=>rz1 p s v
def ZwT (rl:TypeId → Bool) (p:Nat) (s:S) (i:Nat) (ob:Ob):Ob :=
 match rl ob.elem with
 | true=>{ ob with ver:=(match Nat.blt i p with | true=>ob.ver | false=>0) }
 | false=>{ ob with ver:=(match Nat.blt i p with | true=>ob.ver | false=>0),es:=ob.es.map (rz1 p s) }
def rzS (rl:TypeId → Bool) (p:Nat) (s:S):Nat → S → S
 | _,[]=>[]
 | i,x :: l=>(match x with
  | some ob=>some (ZwT rl p s i ob)
  | none=>none) :: rzS rl p s (i + 1) l
def rzG (rl:TypeId → Bool):S → Bool
 | []=>true
 | some ob :: l=>(match rl ob.elem with
  | true=>Zaw ob.es && rzG rl l
  | false=>rzG rl l)
 | none :: l=>rzG rl l
def Zdb (C:Cfg) {R:Type} (E:List V) (s:S) (K:List V → S → Option R):Option R :=
 match C.kp with
 | none=>K E s
 | some p=>match C.thaw with
  | true=>none
  | false=>Zaf (rzG C.rl s) (K (E.map (V.rz p s)) (rzS C.rl p s 0 s))
def Zha (C:Cfg) (Φ:Zat) (Λ:ZaB) (b:Code) (path:List Nat) (tr:Bool) (ks kx:List Nat):Nat → (R:Type) → List V → S → (X → List V → S → Option R) → Option R
 | 0,_,_,_,_=>none
 | n + 1,R,E,s,K=>Zh2 C Φ Λ b (0 :: path) E s fun x E' s' =>
  match x with
  | .norm=>Zdb C (Zsd tr s.length ks E') (ZoR tr s.length s') fun E s=>Zha C Φ Λ b path tr ks kx n R E s K
  | .ret=>Zdb C (Zsd tr s.length kx E') (ZoR tr s.length s') fun E s=>K .ret E s
  | .exit i=>Zdb C (Zsd tr s.length kx E') (ZoR tr s.length s') fun E s=>K (.exit i) E s
def G.trim (n:Nat) (g:G):G:={ g with obs:=g.obs.take n }
theorem Zbx {α:Type} {l:List α} {n i:Nat} {x:α} (h:nth (l.take n) i = some x):i < n ∧ nth l i = some x:=by
 rw [Zad,List.getElem?_take] at h
 rw [Zad]
 split at h
 ·exact ⟨by assumption,h⟩
 ·cases h
theorem Zde {n:Nat} {v:V} {sz:Nat} {es:List V} {f:Fl} (h:trimCell n v = .list sz es f):v = .list sz es f:=by
 cases v <;> simp only [trimCell] at h <;> first | exact h | (cases h; done) | (split at h <;> cases h)
theorem ZhU {n:Nat} {v:V} {sz:Nat} {es:List V} {f:Fl} (h:trimV n v = .list sz es f):v = .list sz es f:=by
 cases v <;> simp only [trimV] at h <;> first | exact Zde h | cases h
theorem Zjp {n:Nat} {v:V} {t:TypeId} {sz:Nat} {es:List V} (h:trimV n v = .uni t sz es):v = .uni t sz es:=by
 cases v <;> simp only [trimV,trimCell] at h <;> first | exact h | (cases h; done) | (split at h <;> cases h)
theorem Zjz {n:Nat} {v:V} {t:TypeId} {sz:Nat} {es:List V} (h:trimCell n v = .uni t sz es):v = .uni t sz es:=by
 cases v <;> simp only [trimCell] at h <;> first | exact h | (cases h; done) | (split at h <;> cases h)
theorem ZiP {n:Nat} {c:V} (h:(trimCell n c).owns):trimCell n c = c:=by
 rcases h with ⟨sz,es,e,h⟩ | ⟨t,sz,es,h⟩
 ·rw [h,Zde h]
 ·rw [h,Zjz h]
theorem ZoB {n:Nat} {c:V} (h:(trimV n c).owns):trimV n c = c:=by
 rcases h with ⟨sz,es,e,h⟩ | ⟨t,sz,es,h⟩
 ·rw [h,ZhU h]
 ·rw [h,Zjp h]
theorem Zg3 {n:Nat} {v:V} (hv:v.flatCell = true ∨ ∃ cs,v = .agg cs):(trimV n v).cells = v.cells.map (trimCell n):=by
 cases v with
 | arr o ver off len=>simp only [trimV,trimCell]; split <;> simp_all [V.cells,trimCell]
 | ptr o ver i j=>simp only [trimV,trimCell]; split <;> simp_all [V.cells,trimCell]
 | tuple vs=>rcases hv with h | ⟨cs,h⟩ <;> cases h
 | fn f caps=>cases caps <;> rfl
 | _=>rfl
theorem Zjj (n:Nat) (v:V):(trimCell n v).flatCell = true:=by
 cases v <;> simp only [trimCell] <;> first | rfl | skip
 ·split <;> rfl
 ·split <;> rfl
 ·rename_i f caps; cases caps <;> rfl
section trim
variable {C:Cfg} {g:G} {w:World}
theorem DR.trim {l:Bool} {v:V} {rv:Value} (hs:Sub g) (n:Nat) (h:DR g w l v rv):DR (g.trim n) w l v rv:=h.keeps (g':=g.trim n) hs ⟨fun _ _ h=>h,fun _ _ h=>h,fun _ _ _=>rfl⟩
theorem VR.trimCell {v:V} {rv:Value} (hs:Sub g) (n:Nat) (h:VR g w v rv):VR (g.trim n) w (Go.VM.trimCell n v) rv:=by
 have dat:∀ v rv,DR g w false v rv → VR (g.trim n) w (Go.VM.trimCell n v) rv:=by
  intro v rv h
  cases h with
  | bool b=>exact .data (.bool b)
  | int k m=>exact .data (.int k m)
  | str s=>exact .data (.str s)
  | nilp=>exact .data .nilp
  | nilf=>exact .data .nilf
  | nili=>exact .data .nili
  | nils=>exact .data .nils
  | fn f=>exact .data (.fn f)
  | agg cs vs hl h=>exact .dead _
  | tuple cs vs hl h=>exact .dead _
  | list esz es f A m c b off cv hn hc hl hA hsz hf ho hw hd=>exact .data ((DR.list esz es f A m c b off cv hn hc hl hA hsz hf ho hw hd).trim hs n)
 have take:∀ o x,nth (g.trim n).obs o = some x → nth g.obs o = some x:=fun o x h=>(Zbx h).2
 cases h with
 | data h=>exact dat _ _ h
 | ptr o ver i j a ho h =>
  show VR _ w (if o < n then _ else _) _
  split
  ·rename_i hlt
   exact .ptr o ver i j a (by simp only [G.trim,List.length_take]; omega) fun x hx=>h x (take o _ hx)
  ·exact .dead _
 | arr o ver off len A c hc ho h =>
  show VR _ w (if o < n then _ else _) _
  split
  ·rename_i hlt
   exact .arr o ver off len A c hc (by simp only [G.trim,List.length_take]; omega) fun x hx=>h x (take o _ hx)
  ·exact .dead _
 | cptr cs b off cv ho hw hd=>exact .dead _
 | agg cs vs hl h=>exact .dead _
 | tuple cs vs hl h=>exact .dead _
 | fn f cs vs hl h =>
  cases cs with
  | nil =>
   obtain rfl:vs = []:=List.eq_nil_of_length_eq_zero (by simpa using hl.symm)
   exact .fn f [] [] rfl fun i c v h1=>by simp [nth] at h1
  | cons=>exact .dead _
 | uni t sz es A n c=>exact .uni t sz es A n c
 | dead rv=>exact .dead _
theorem VR.trimV {v:V} {rv:Value} (hs:Sub g) (n:Nat) (h:VR g w v rv):VR (g.trim n) w (Go.VM.trimV n v) rv:=by
 by_cases hag:∃ cs,v = .agg cs
 ·obtain ⟨cs,rfl⟩:=hag
  obtain ⟨vs,rfl,hl,hc⟩:=h.agg_inv
  refine .agg _ vs (by simp [hl]) fun i c u h1 h2=>?_
  obtain ⟨c0,hc0,rfl⟩:=Zac h1
  exact (hc i c0 u hc0 h2).trimCell hs n
 ·have:Go.VM.trimV n v = Go.VM.trimCell n v:=by
   cases v <;> first | rfl | exact absurd ⟨_,rfl⟩ hag
  rw [this]
  exact h.trimCell hs n
theorem OwnOk.trim {v:V} {rv:Value} (n:Nat) (h:OwnOk C g w v rv):OwnOk C (g.trim n) w (Go.VM.trimV n v) rv:=by
 refine ⟨fun sz es e hv=>?_,fun cs hv i sz es e hc=>?_,fun t sz es hv=>?_⟩
 rotate_right
 ·have h1:=h.uni t sz es (Zjp hv)
  exact h1.move rfl (fun _ _=>rfl) fun b hb=>⟨(h1.blk b hb).1,(h1.blk b hb).2.1,fun o x hx=>(h1.blk b hb).2.2 o x (Zbx hx).2⟩
 ·obtain ⟨h1,h2,h3,h4⟩:=h.own sz es e (ZhU hv)
  exact ⟨h1,h2,fun b hb=>⟨(h3 b hb).1,(h3 b hb).2.1,fun o x hx=>(h3 b hb).2.2 o x (Zbx hx).2⟩,h4⟩
 ·obtain ⟨cs0,rfl,hv2⟩:∃ cs0,v = .agg cs0 ∧ cs = cs0.map (Go.VM.trimCell n):=by
   cases v with
   | agg cs0=>simp only [Go.VM.trimV] at hv; injection hv with hv; exact ⟨cs0,rfl,hv.symm⟩
   | arr o ver off len=>simp only [Go.VM.trimV,Go.VM.trimCell] at hv; split at hv <;> cases hv
   | ptr o ver i j=>simp only [Go.VM.trimV,Go.VM.trimCell] at hv; split at hv <;> cases hv
   | fn f caps=>cases caps <;> cases hv
   | _=>cases hv
  clear hv
  subst hv2
  obtain ⟨c0,hc0,he⟩:=Zac hc
  have:=Zde he
  subst this
  exact h.agg cs0 rfl i sz es e hc0
theorem OwnOk.trimCell {v:V} {rv:Value} (n:Nat) (hf:v.flatCell = true) (h:OwnOk C g w v rv):OwnOk C (g.trim n) w (Go.VM.trimCell n v) rv:=by
 have:Go.VM.trimV n v = Go.VM.trimCell n v:=by cases v <;> first | rfl | cases hf
 rw [← this]
 exact h.trim n
theorem ZnI {n:Nat} {s:S} {o:Nat} {ob':Ob} (h:nth (Zkj n s) o = some (some ob')):o < n ∧ ∃ ob,nth s o = some (some ob) ∧ ob' = { ob with es:=ob.es.map (Go.VM.trimV n) }:=by
 unfold Zkj at h
 obtain ⟨y,hy,he⟩:=Zac h
 obtain ⟨h1,h2⟩:=Zbx hy
 cases y with
 | none=>cases he
 | some ob=>exact ⟨h1,ob,h2,(Option.some.inj he).symm⟩
theorem Sim.trim {E:List V} {s:S} {a:Act} (h:Sim C g E s a w) (n:Nat):Sim C (g.trim n) (E.map (Go.VM.trimV n)) (Zkj n s) a w:=by
 have cellback:∀ {o:Nat} {ob:Ob} {i j:Nat} {el c:V},nth s o = some (some ob) → nth (ob.es.map (Go.VM.trimV n)) i = some el → nth el.cells j = some c → ∃ e c0,nth ob.es i = some e ∧ nth e.cells j = some c0 ∧ c = Go.VM.trimCell n c0 ∧ c0.flatCell = true:=by
  intro o ob i j el c hob hel hc
  obtain ⟨x,hx,hr⟩:=h.obj o ob hob
  obtain ⟨e,he,rfl⟩:=Zac hel
  have hfl:e.flatCell = true ∨ ∃ cs,e = .agg cs:=by
   by_cases hag:∃ cs,e = .agg cs
   ·exact .inr hag
   ·have hce:e.cells = [e]:=ZaH fun cs hc=>hag ⟨cs,hc⟩
    exact .inl (hr.flat i e 0 e he (by rw [hce]; rfl))
  rw [Zg3 hfl] at hc
  obtain ⟨c0,hc0,rfl⟩:=Zac hc
  exact ⟨e,c0,he,hc0,rfl,hr.flat i e j c0 he hc0⟩
 have key:∀ p b,Zan (E.map (Go.VM.trimV n)) (Zkj n s) a w (g.trim n) p b → Zan E s a w g p b:=by
  intro p b hp
  cases p with
  | slot t =>
   obtain ⟨c,rv,h1,h0,h2,h3⟩:=hp
   obtain ⟨v,hv,he⟩:=Zac h1
   subst he
   have e1:=ZoB h0
   rw [e1] at h0 h3
   exact ⟨v,rv,hv,h0,h2,h3⟩
  | cell o i j =>
   obtain ⟨ob',x,el,c,rv,h1,h2,h3,h4,h0,h5,h6⟩:=hp
   obtain ⟨hlt,ob,hob,rfl⟩:=ZnI h1
   obtain ⟨e0,c0,q1,q2,q3,_⟩:=cellback hob h3 h4
   subst q3
   have e1:=ZiP h0
   rw [e1] at h0 h6
   exact ⟨ob,x,e0,c0,rv,hob,(Zbx h2).2,q1,q2,h0,h5,h6⟩
 refine { len:=by rw [List.length_map]; exact h.len,env:=fun t v hv=>?_,olen:=?_,obj:=fun o ob' ho=>?_,gone:=fun o x hx=>?_,inj:=fun o o' x x' h1 h2=>h.inj o o' x x' (Zbx h1).2 (Zbx h2).2,own:=fun p q b h1 h2=>h.own p q b (key p b h1) (key q b h2),sub:=h.sub,immlt:=h.immlt,basele:=h.basele,susplt:=h.susplt }
 ·obtain ⟨u,hu,rfl⟩:=Zac hv
  obtain ⟨rv,r1,r2,r3⟩:=h.env t u hu
  exact ⟨rv,r1,r2.trimV h.sub n,r3.trim n⟩
 ·simp only [G.trim,Zkj,List.length_take,List.length_map,h.olen]
 ·obtain ⟨hlt,ob,hob,rfl⟩:=ZnI ho
  obtain ⟨x,hx,hr⟩:=h.obj o ob hob
  obtain ⟨arr,cap,b1,b2,b3,b4,b5,b7,b6⟩:=hr.blk
  refine ⟨x,by rw [Zad]; show (g.obs.take n)[o]? = _; rw [List.getElem?_take,if_pos hlt,← Zad]; exact hx,?_⟩
  refine { ver:=hr.ver,esz:=hr.esz,ty:=hr.ty,known:=hr.known,blk:=⟨arr,cap,b1,b2,b3,b4,by simpa using b5,b7,fun i e j c he hc=>?_⟩,sz:=fun i e he=>?_,flat:=fun i e j c he hc=>?_,base:=hr.base,nsusp:=hr.nsusp,nimm:=hr.nimm }
  ·obtain ⟨e0,c0,q1,q2,q3,q4⟩:=cellback hob he hc
   obtain ⟨rv,r1,r2,r3⟩:=b6 i e0 j c0 q1 q2
   subst q3
   exact ⟨rv,r1,r2.trimCell h.sub n,r3.trimCell n q4⟩
  ·obtain ⟨e0,he0,rfl⟩:=Zac he
   have hfl:e0.flatCell = true ∨ ∃ cs,e0 = .agg cs:=by
    by_cases hag:∃ cs,e0 = .agg cs
    ·exact .inr hag
    ·have hce:e0.cells = [e0]:=ZaH fun cs hc=>hag ⟨cs,hc⟩
     exact .inl (hr.flat i e0 0 e0 he0 (by rw [hce]; rfl))
   rw [Zg3 hfl,List.length_map]
   exact hr.sz i e0 he0
  ·obtain ⟨e0,c0,q1,q2,q3,q4⟩:=cellback hob he hc
   subst q3
   exact Zjj n c0
 ·obtain ⟨h1,h2⟩:=Zbx hx
  obtain ⟨ob,hob⟩:=h.gone o x h2
  refine ⟨{ ob with es:=ob.es.map (Go.VM.trimV n) },?_⟩
  rw [Zad] at hob ⊢
  unfold Zkj
  rw [List.getElem?_map,List.getElem?_take,if_pos h1,hob]
  rfl
theorem Le.trim {keep:Nat} {g g':G} {w w':World} (h:Le keep g w g' w') {n:Nat} (hn:keep ≤ n):Le keep g w (g'.trim n) w' where
 keeps:=⟨h.keeps.imm,h.keeps.safe,h.keeps.cell⟩
 size:=h.size
 os:=h.os
 tape:=h.tape
 output:=h.output
 base:=h.base
 susp:=h.susp
 low:=h.low
 sus:=h.sus
 klen:=by simp only [G.trim,List.length_take]; exact Nat.le_min.2 ⟨hn,h.klen⟩
 obs:=fun o ho x' hx=>h.obs o ho x' (Zbx hx).2
theorem Sim.tidy {keep:Nat} {g0:G} {w0:World} {E:List V} {s:S} {a:Act} (tr:Bool) (n:Nat) (ks:List Nat) (hle:Le keep g0 w0 g w) (hn:keep ≤ n) (h:Sim C g E s a w) :
  ∃ g',Le keep g0 w0 g' w ∧ Sim C g' (Zsd tr n ks E) (ZoR tr n s) a w:=by
 cases tr with
 | true=>exact ⟨g.trim n,hle.trim hn,(h.kill ks).trim n⟩
 | false=>exact ⟨g,hle,h.kill ks⟩
theorem Zp5 {tr:Bool} {n:Nat} {s:S} (h:n ≤ s.length):n ≤ (ZoR tr n s).length:=by
 cases tr with
 | true=>simp only [ZoR,Zkj,List.length_map,List.length_take]; exact Nat.le_min.2 ⟨Nat.le_refl _,h⟩
 | false=>exact h
end trim
def Zk4:List Nat → List Nat → Bool
 | [],[]=>true
 | a :: l,b :: m=>match Nat.beq a b with
  | true=>Zk4 l m
  | false=>false
 | _,_=>false
def Zam:ZaB:=fun _ _ _ _ _=>none
def ZaB.add (Λ:ZaB) (p:List Nat) (f:(R:Type) → List V → S → (X → List V → S → Option R) → Option R):ZaB:=fun R w E s K =>
 match Zk4 w p with
 | true=>f R E s K
 | false=>Λ R w E s K
def Za8:Code → List Nat → List (List Nat × Code)
 | .seq a b,w=>Za8 a (0 :: w) ++ Za8 b (1 :: w)
 | .cond _ a b,w=>Za8 a (0 :: w) ++ Za8 b (1 :: w)
 | .block _ b,w=>Za8 b (0 :: w)
 | .scope b,w=>Za8 b (0 :: w)
 | .loop b,w=>[(w,b)]
 | _,_=>[]
def Zbp (fn:Func):Code:=fn.body.getD .skip
def Zb3 (c:Code) (w:List Nat) (i:Nat):List Nat × Code:=(nth (Za8 c w) i).getD ([],.skip)
section
variable {P:Program} {C:Cfg} {Φ:Zat} {Λ:ZaB}
theorem ZaT:∀ (c:Code) (w:List Nat),(∀ p ∈ Za8 c w,Zbt P C Λ p.2 p.1) → ZaR P C Λ c w:=by
 intro c
 induction c with
 | seq a b iha ihb=>exact fun w h=>⟨iha _ fun p hp=>h p (List.mem_append_left _ hp),ihb _ fun p hp=>h p (List.mem_append_right _ hp)⟩
 | cond c a b iha ihb=>exact fun w h=>⟨iha _ fun p hp=>h p (List.mem_append_left _ hp),ihb _ fun p hp=>h p (List.mem_append_right _ hp)⟩
 | block id b ih=>exact fun w h=>ih _ h
 | scope b ih=>exact fun w h=>ih _ h
 | loop b ih=>exact fun w h=>h (w,b) (List.mem_singleton.2 rfl)
 | _=>exact fun w h=>trivial
end
theorem Zs3 (p:Nat) (s:S) (v:V):(rz0 p s v).flatCell = true:=by
 cases v with
 | arr o ver off len=>simp only [rz0]; split; rfl; split; split <;> rfl; rfl
 | ptr o ver i j=>simp only [rz0]; split; rfl; split; split <;> rfl; rfl
 | fn f caps=>cases caps <;> rfl
 | _=>rfl
theorem ZgR {p:Nat} {s:S} {v:V} (h:∀ f cs,v ≠ .fn f cs):rzC p s v = rz0 p s v:=by
 cases v <;> first | rfl | exact absurd rfl (h _ _)
theorem ZiQ (p:Nat) (s:S) (v:V):(rzC p s v).flatCell = true:=by
 by_cases hf:∃ f cs,v = .fn f cs
 ·obtain ⟨f,cs,rfl⟩:=hf; rfl
 ·rw [ZgR fun f cs h=>hf ⟨f,cs,h⟩]; exact Zs3 p s v
theorem ZsY {p:Nat} {s:S} {v:V} {sz:Nat} {es:List V} {f:Fl} (h:rz0 p s v = .list sz es f):v = .list sz es f:=by
 cases v with
 | arr o ver off len=>simp only [rz0] at h; split at h; cases h; split at h; split at h <;> cases h; cases h
 | ptr o ver i j=>simp only [rz0] at h; split at h; cases h; split at h; split at h <;> cases h; cases h
 | fn f caps=>cases caps <;> cases h
 | _=>first | exact h | (cases h; done)
theorem Zm5 {p:Nat} {s:S} {v:V} {sz:Nat} {es:List V} {f:Fl} (h:rzC p s v = .list sz es f):v = .list sz es f:=by
 by_cases hf:∃ f cs,v = .fn f cs
 ·obtain ⟨f,cs,rfl⟩:=hf; cases h
 ·rw [ZgR fun f cs h=>hf ⟨f,cs,h⟩] at h; exact ZsY h
theorem Zuo {p:Nat} {s:S} {v:V} {t:TypeId} {sz:Nat} {es:List V} (h:rz0 p s v = .uni t sz es):v = .uni t sz es:=by
 cases v with
 | arr o ver off len=>simp only [rz0] at h; split at h; cases h; split at h; split at h <;> cases h; cases h
 | ptr o ver i j=>simp only [rz0] at h; split at h; cases h; split at h; split at h <;> cases h; cases h
 | fn f caps=>cases caps <;> cases h
 | _=>first | exact h | (cases h; done)
theorem Zu1 {p:Nat} {s:S} {v:V} {t:TypeId} {sz:Nat} {es:List V} (h:rzC p s v = .uni t sz es):v = .uni t sz es:=by
 by_cases hf:∃ f cs,v = .fn f cs
 ·obtain ⟨f,cs,rfl⟩:=hf; cases h
 ·rw [ZgR fun f cs h=>hf ⟨f,cs,h⟩] at h; exact Zuo h
theorem ZiG {p:Nat} {s:S} {c:V} (h:(rzC p s c).owns):rzC p s c = c:=by
 rcases h with ⟨sz,es,e,h⟩ | ⟨t,sz,es,h⟩
 ·rw [h,Zm5 h]
 ·rw [h,Zu1 h]
theorem Zk6 {p:Nat} {s:S} {v:V} (hv:v.flatCell = true ∨ ∃ cs,v = .agg cs):(rz1 p s v).cells = v.cells.map (rzC p s):=by
 rcases hv with hv | ⟨cs,rfl⟩
 ·have e1:rz1 p s v = rzC p s v:=by cases v <;> first | rfl | cases hv
  have hf:=ZiQ p s v
  have h1:(rzC p s v).cells = [rzC p s v]:=ZaH fun cs hc=>(by rw [hc] at hf; cases hf)
  have h2:v.cells = [v]:=ZaH fun cs hc=>(by rw [hc] at hv; cases hv)
  rw [e1,h1,h2]
  rfl
 ·rfl
theorem ZtT {p:Nat} {s:S} {v:V} (h:ZbK v = true):rzC p s v = v:=by
 cases v with
 | fn f caps=>cases caps with
  | nil=>rfl
  | cons=>cases h
 | _=>first | rfl | (cases h; done)
theorem Zv7 {p:Nat} {s:S} {e:V} (hf:e.flatCell = true ∨ ∃ cs,e = .agg cs) (h:∀ j c,nth e.cells j = some c → ZbK c = true):rz1 p s e = e:=by
 rcases hf with hf | ⟨cs,rfl⟩
 ·have hc:nth e.cells 0 = some e:=by cases e <;> first | rfl | (cases hf; done)
  have e1:rz1 p s e = rzC p s e:=by cases e <;> first | rfl | cases hf
  rw [e1]
  exact ZtT (h 0 e hc)
 ·show V.agg _ = V.agg _
  congr 1
  apply List.ext_getElem?
  intro j
  rw [List.getElem?_map]
  cases hj:cs[j]? with
  | none=>rfl
  | some c =>
   show some _ = some _
   rw [ZtT (h j c (by show nth cs j = some c; rw [Zad]; exact hj))]
def ZtM (p:Nat):Nat → List (Option OX) → List (Option OX)
 | _,[]=>[]
 | i,x :: l=>(match x with
  | some x=>some (match Nat.blt i p with | true=>x | false=>(0,x.2))
  | none=>none) :: ZtM p (i + 1) l
def G.ren (p:Nat) (g:G):G:={ g with obs:=ZtM p 0 g.obs }
theorem Zgp (p:Nat):∀ (l:List (Option OX)) (i:Nat),(ZtM p i l).length = l.length
 | [],_=>rfl
 | x :: l,i=>by simp [ZtM,Zgp p l (i + 1)]
theorem Zik (p:Nat):∀ (l:List (Option OX)) (i o:Nat),nth (ZtM p i l) o = (nth l o).map (fun x=>match x with
  | some x=>some (match Nat.blt (i + o) p with | true=>x | false=>(0,x.2))
  | none=>none)
 | [],_,o=>by cases o <;> rfl
 | x :: l,i,o=>by
  cases o with
  | zero=>rfl
  | succ o =>
   show nth (ZtM p (i + 1) l) o = _
   rw [Zik p l (i + 1) o,show i + 1 + o = i + (o + 1) by omega]
   rfl
theorem ZcH {g:G} {p o:Nat} {x:OX} (h:nth (g.ren p).obs o = some (some x)):∃ y,nth g.obs o = some (some y) ∧ x = (match Nat.blt o p with | true=>y | false=>(0,y.2)):=by
 have h':nth (ZtM p 0 g.obs) o = some (some x):=h
 rw [Zik] at h'
 cases hz:nth g.obs o with
 | none=>rw [hz] at h'; cases h'
 | some z =>
  rw [hz] at h'
  cases z with
  | none=>cases h'
  | some y =>
   rw [Nat.zero_add] at h'
   exact ⟨y,rfl,(Option.some.inj (Option.some.inj h')).symm⟩
theorem Zdm {g:G} {p o:Nat} {x y:OX} (h:nth (g.ren p).obs o = some (some x)) (hy:nth g.obs o = some (some y)):x.2 = y.2 ∧ (o < p → x = y):=by
 obtain ⟨y',h1,h2⟩:=ZcH h
 rw [hy] at h1
 obtain rfl:=Option.some.inj (Option.some.inj h1)
 cases hb:Nat.blt o p with
 | true=>rw [hb] at h2; exact ⟨by rw [h2],fun _=>h2⟩
 | false =>
  rw [hb] at h2
  refine ⟨by rw [h2],fun hlt=>?_⟩
  have:Nat.blt o p = true:=by simp [Nat.blt]; omega
  rw [hb] at this; cases this
theorem Zwg {g:G} {p o:Nat} {y:OX} (hy:nth g.obs o = some (some y)):nth (g.ren p).obs o = some (some (match Nat.blt o p with | true=>y | false=>(0,y.2))):=by
 show nth (ZtM p 0 g.obs) o = _
 rw [Zik,hy,Nat.zero_add]
 rfl
theorem Zoa {o p:Nat} (h:Nat.blt o p = true):o < p:=by simp [Nat.blt] at h; omega
section ren
variable {C:Cfg} {g:G} {w:World} {s:S} {p:Nat}
theorem VR.rz0 (hob:∀ o ob,nth s o = some (some ob) → ∃ x,nth g.obs o = some (some x) ∧ x.1 = ob.ver) (hsub:Sub g) {c:V} {rv:Value} (h:VR g w c rv):VR (g.ren p) w (Go.VM.rz0 p s c) rv:=by
 have hl:(g.ren p).obs.length = g.obs.length:=Zgp p g.obs 0
 have hk:∀ {l v rv},DR g w l v rv → DR (g.ren p) w l v rv:=fun h=>h.keeps (g':=g.ren p) hsub ⟨fun _ _ h=>h,fun _ _ h=>h,fun _ _ _=>rfl⟩
 cases h with
 | data h =>
  have h':=hk h
  cases c <;> first | exact .data h' | (cases h; done) | exact .dead _ | skip
  cases h; exact .data (.fn _)
 | ptr o ver i j a ho h =>
  simp only [Go.VM.rz0]
  cases hb:Nat.blt o p with
  | true =>
   refine .ptr o ver i j a (by rw [hl]; exact ho) fun x hx=>?_
   obtain ⟨y,hy,_⟩:=ZcH hx
   rw [(Zdm hx hy).2 (Zoa hb)]
   exact h y hy
  | false =>
   simp only
   split
   ·rename_i ob hob1
    split
    ·rename_i hv
     refine .ptr o 0 i j a (by rw [hl]; exact ho) fun x hx=>?_
     obtain ⟨y,hy,hxe⟩:=ZcH hx
     rw [hb] at hxe
     subst hxe
     obtain ⟨x1,hx1,hx2⟩:=hob o ob hob1
     rw [hy] at hx1
     obtain rfl:=Option.some.inj (Option.some.inj hx1)
     exact ⟨Nat.le_refl _,fun _=>(h y hy).2 (by rw [hx2]; exact Nat.eq_of_beq_eq_true hv)⟩
    ·exact .dead _
   ·exact .dead _
 | arr o ver off len A c' hcc ho h =>
  simp only [Go.VM.rz0]
  cases hb:Nat.blt o p with
  | true =>
   refine .arr o ver off len A c' hcc (by rw [hl]; exact ho) fun x hx=>?_
   obtain ⟨y,hy,_⟩:=ZcH hx
   rw [(Zdm hx hy).2 (Zoa hb)]
   exact h y hy
  | false =>
   simp only
   split
   ·rename_i ob hob1
    split
    ·rename_i hv
     refine .arr o 0 off len A c' hcc (by rw [hl]; exact ho) fun x hx=>?_
     obtain ⟨y,hy,hxe⟩:=ZcH hx
     rw [hb] at hxe
     subst hxe
     obtain ⟨x1,hx1,hx2⟩:=hob o ob hob1
     rw [hy] at hx1
     obtain rfl:=Option.some.inj (Option.some.inj hx1)
     exact ⟨Nat.le_refl _,fun _=>(h y hy).2 (by rw [hx2]; exact Nat.eq_of_beq_eq_true hv)⟩
    ·exact .dead _
   ·exact .dead _
 | cptr cs b off cv ho hw hd=>exact .cptr cs b off cv ho hw fun j x hj=>hk (hd j x hj)
 | agg cs vs hl h=>exact .dead _
 | tuple cs vs hl h=>exact .dead _
 | fn f cs vs hl h =>
  cases cs with
  | nil =>
   obtain rfl:vs = []:=List.eq_nil_of_length_eq_zero (by simpa using hl.symm)
   exact .fn f [] [] rfl fun i c v h1=>by simp [nth] at h1
  | cons=>exact .dead _
 | uni t sz es A n c=>exact .uni t sz es A n c
 | dead rv=>exact .dead _
theorem VR.rzC (hob:∀ o ob,nth s o = some (some ob) → ∃ x,nth g.obs o = some (some x) ∧ x.1 = ob.ver) (hsub:Sub g) {c:V} {rv:Value} (h:VR g w c rv):VR (g.ren p) w (Go.VM.rzC p s c) rv:=by
 by_cases hf:∃ f cs,c = .fn f cs
 ·obtain ⟨f,cs,rfl⟩:=hf
  obtain ⟨vs,rfl,hl,hc⟩:=h.fn_inv
  refine .fn f _ vs (by simp [hl]) fun i c v h1 h2=>?_
  obtain ⟨c0,hc0,rfl⟩:=Zac h1
  exact (hc i c0 v hc0 h2).rz0 hob hsub
 ·have e1:Go.VM.rzC p s c = Go.VM.rz0 p s c:=by cases c <;> first | rfl | exact absurd ⟨_,_,rfl⟩ hf
  rw [e1]
  exact h.rz0 hob hsub
theorem VR.rz1 (hob:∀ o ob,nth s o = some (some ob) → ∃ x,nth g.obs o = some (some x) ∧ x.1 = ob.ver) (hsub:Sub g) {v:V} {rv:Value} (h:VR g w v rv):VR (g.ren p) w (Go.VM.rz1 p s v) rv:=by
 by_cases hag:∃ cs,v = .agg cs
 ·obtain ⟨cs,rfl⟩:=hag
  obtain ⟨vs,rfl,hl,hc⟩:=h.agg_inv
  refine .agg _ vs (by simp [hl]) fun i c u h1 h2=>?_
  obtain ⟨c0,hc0,rfl⟩:=Zac h1
  exact (hc i c0 u hc0 h2).rzC hob hsub
 ·have e1:Go.VM.rz1 p s v = Go.VM.rzC p s v:=by cases v <;> first | rfl | exact absurd ⟨_,rfl⟩ hag
  rw [e1]
  exact h.rzC hob hsub
theorem VR.rz (hob:∀ o ob,nth s o = some (some ob) → ∃ x,nth g.obs o = some (some x) ∧ x.1 = ob.ver) (hsub:Sub g) {v:V} {rv:Value} (h:VR g w v rv):VR (g.ren p) w (v.rz p s) rv:=by
 by_cases ht:∃ vs,v = .tuple vs
 ·obtain ⟨cs,rfl⟩:=ht
  obtain ⟨vs,rfl,hl,hc⟩:=h.tuple_inv
  refine .tuple _ vs (by simp [hl]) fun i c u h1 h2=>?_
  obtain ⟨c0,hc0,rfl⟩:=Zac h1
  exact (hc i c0 u hc0 h2).rz1 hob hsub
 ·have e1:v.rz p s = Go.VM.rz1 p s v:=by cases v <;> first | rfl | exact absurd ⟨_,rfl⟩ ht
  rw [e1]
  exact h.rz1 hob hsub
theorem OwnOk.renG {v:V} {rv:Value} (h:OwnOk C g w v rv):OwnOk C (g.ren p) w v rv:=by
 have hx2:∀ o x,nth (g.ren p).obs o = some (some x) → ∃ y,nth g.obs o = some (some y) ∧ x.2 = y.2:=fun o x hx=>by
  obtain ⟨y,hy,_⟩:=ZcH hx
  exact ⟨y,hy,(Zdm hx hy).1⟩
 refine ⟨fun sz es e hv=>?_,h.agg,fun t sz es hv=>?_⟩
 ·obtain ⟨h1,h2,h3,h4⟩:=h.own sz es e hv
  refine ⟨h1,h2,fun b hb=>⟨(h3 b hb).1,(h3 b hb).2.1,fun o x hx hp=>?_⟩,h4⟩
  obtain ⟨y,hy,he⟩:=hx2 o x hx
  rw [he] at hp ⊢
  exact (h3 b hb).2.2 o y hy hp
 ·have h1:=h.uni t sz es hv
  refine h1.move rfl (fun _ _=>rfl) fun b hb=>⟨(h1.blk b hb).1,(h1.blk b hb).2.1,fun o x hx hp=>?_⟩
  obtain ⟨y,hy,he⟩:=hx2 o x hx
  rw [he] at hp ⊢
  exact (h1.blk b hb).2.2 o y hy hp
theorem OwnOk.rzC {c:V} {rv:Value} (h:OwnOk C g w c rv):OwnOk C (g.ren p) w (Go.VM.rzC p s c) rv:=by
 by_cases ho:(Go.VM.rzC p s c).owns
 ·rw [ZiG ho]
  exact h.renG
 ·refine ⟨fun sz es e hv=>absurd (.inl ⟨sz,es,e,hv⟩) ho,fun cs hv=>?_,fun t sz es hv=>absurd (.inr ⟨t,sz,es,hv⟩) ho⟩
  have:=ZiQ p s c
  rw [hv] at this
  cases this
theorem OwnOk.rz {v:V} {rv:Value} (h:OwnOk C g w v rv):OwnOk C (g.ren p) w (v.rz p s) rv:=by
 by_cases ht:∃ vs,v = .tuple vs
 ·obtain ⟨cs,rfl⟩:=ht
  exact ⟨fun _ _ _ h=>(by cases h),fun _ h=>(by cases h),fun _ _ _ h=>(by cases h)⟩
 by_cases hag:∃ cs,v = .agg cs
 ·obtain ⟨cs,rfl⟩:=hag
  refine ⟨fun _ _ _ h=>(by cases h),fun cs' hv i sz es e hc=>?_,fun _ _ _ h=>(by cases h)⟩
  have hcs:cs.map (Go.VM.rzC p s) = cs':=by injection hv
  subst hcs
  obtain ⟨c0,hc0,he⟩:=Zac hc
  have:=Zm5 he
  subst this
  exact h.agg cs rfl i sz es e hc0
 ·have e1:v.rz p s = Go.VM.rzC p s v:=by cases v <;> first | rfl | exact absurd ⟨_,rfl⟩ ht | exact absurd ⟨_,rfl⟩ hag
  rw [e1]
  exact h.rzC
theorem Zlu (rl:TypeId → Bool) (p:Nat) (s0:S):∀ (l:S) (i:Nat),(rzS rl p s0 i l).length = l.length
 | [],_=>rfl
 | x :: l,i=>by simp [rzS,Zlu rl p s0 l (i + 1)]
theorem ZlS (rl:TypeId → Bool) (p:Nat) (s0:S):∀ (l:S) (i o:Nat),nth (rzS rl p s0 i l) o = (nth l o).map (fun x=>match x with
  | some ob=>some (ZwT rl p s0 (i + o) ob)
  | none=>none)
 | [],_,o=>by cases o <;> rfl
 | x :: l,i,o=>by
  cases o with
  | zero=>rfl
  | succ o =>
   show nth (rzS rl p s0 (i + 1) l) o = _
   rw [ZlS rl p s0 l (i + 1) o,show i + 1 + o = i + (o + 1) by omega]
   rfl
theorem Zoh {rl:TypeId → Bool}:∀ {l:S},rzG rl l = true → ∀ o ob,nth l o = some (some ob) → rl ob.elem = true → Zaw ob.es = true
 | [],_,o,ob,h,_=>by simp [nth] at h
 | none :: l,hg,o,ob,h,hr=>by
  cases o with
  | zero=>simp [nth] at h
  | succ o=>exact Zoh (l:=l) hg o ob h hr
 | some ob0 :: l,hg,o,ob,h,hr=>by
  unfold rzG at hg
  cases hr0:rl ob0.elem with
  | true =>
   rw [hr0] at hg
   simp only [Bool.and_eq_true] at hg
   cases o with
   | zero=>simp only [nth] at h; obtain rfl:=Option.some.inj (Option.some.inj h); exact hg.1
   | succ o=>exact Zoh (l:=l) hg.2 o ob h hr
  | false =>
   rw [hr0] at hg
   cases o with
   | zero=>simp only [nth] at h; obtain rfl:=Option.some.inj (Option.some.inj h); rw [hr0] at hr; cases hr
   | succ o=>exact Zoh (l:=l) hg o ob h hr
theorem Sim.renum (hth:C.thaw = false) {E:List V} {a:Act} (hs:Sim C g E s a w) (hg:rzG C.rl s = true):Sim C (g.ren p) (E.map (V.rz p s)) (rzS C.rl p s 0 s) a w:=by
 have hob:∀ o ob,nth s o = some (some ob) → ∃ x,nth g.obs o = some (some x) ∧ x.1 = ob.ver:=fun o ob ho=>by
  obtain ⟨x,hx,hr⟩:=hs.obj o ob ho
  exact ⟨x,hx,hr.ver⟩
 have hS:∀ o ob,nth (rzS C.rl p s 0 s) o = some (some ob) → ∃ ob0,nth s o = some (some ob0) ∧ ob = { ob0 with ver:=(match Nat.blt o p with | true=>ob0.ver | false=>0),es:=ob0.es.map (Go.VM.rz1 p s) }:=by
  intro o ob h
  rw [ZlS,Nat.zero_add] at h
  cases hz:nth s o with
  | none=>rw [hz] at h; cases h
  | some z =>
   rw [hz] at h
   cases z with
   | none=>cases h
   | some y =>
    refine ⟨y,rfl,?_⟩
    have h:=(Option.some.inj (Option.some.inj h)).symm
    rw [h]
    unfold ZwT
    cases hr:C.rl y.elem with
    | false=>rfl
    | true =>
     obtain ⟨x,hx,hrr⟩:=hs.obj o y hz
     have:y.es.map (Go.VM.rz1 p s) = y.es:=by
      apply List.ext_getElem?
      intro i
      rw [List.getElem?_map]
      cases he:y.es[i]? with
      | none=>rfl
      | some e =>
       have he':nth y.es i = some e:=by rw [Zad]; exact he
       have hfl:e.flatCell = true ∨ ∃ cs,e = .agg cs:=hrr.cells_flat he'
       show some _ = some _
       rw [Zv7 hfl fun j c hc=>Zbz (Zoh hg o y hz hr) i e j c he' hc]
     rw [this]
 have cellback:∀ {o:Nat} {ob:Ob} {i j:Nat} {el c:V},nth s o = some (some ob) → nth (ob.es.map (Go.VM.rz1 p s)) i = some el → nth el.cells j = some c → ∃ e c0,nth ob.es i = some e ∧ nth e.cells j = some c0 ∧ c = Go.VM.rzC p s c0 ∧ c0.flatCell = true:=by
  intro o ob i j el c hob hel hc
  obtain ⟨x,hx,hr⟩:=hs.obj o ob hob
  obtain ⟨e,he,rfl⟩:=Zac hel
  rw [Zk6 (hr.cells_flat he)] at hc
  obtain ⟨c0,hc0,rfl⟩:=Zac hc
  exact ⟨e,c0,he,hc0,rfl,hr.flat i e j c0 he hc0⟩
 have key:∀ q b,Zan (E.map (V.rz p s)) (rzS C.rl p s 0 s) a w (g.ren p) q b → Zan E s a w g q b:=by
  intro q b hp
  cases q with
  | slot t =>
   obtain ⟨c,rv,h1,h0,h2,h3⟩:=hp
   obtain ⟨v,hv,he⟩:=Zac h1
   have e1:c = v:=by
    by_cases ht:∃ vs,v = .tuple vs
    ·obtain ⟨vs,rfl⟩:=ht
     rw [← he] at h0
     rcases h0 with ⟨_,_,_,h0⟩ | ⟨_,_,_,h0⟩ <;> cases h0
    by_cases hag:∃ cs,v = .agg cs
    ·obtain ⟨cs,rfl⟩:=hag
     rw [← he] at h0
     rcases h0 with ⟨_,_,_,h0⟩ | ⟨_,_,_,h0⟩ <;> cases h0
    ·have e1:v.rz p s = Go.VM.rzC p s v:=by cases v <;> first | rfl | exact absurd ⟨_,rfl⟩ ht | exact absurd ⟨_,rfl⟩ hag
     rw [e1] at he
     rw [← he] at h0
     rw [← he,ZiG h0]
   subst e1
   exact ⟨c,rv,hv,h0,h2,h3⟩
  | cell o i j =>
   obtain ⟨ob',x,el,c,rv,h1,h2,h3,h4,h0,h5,h6⟩:=hp
   obtain ⟨ob,hob2,rfl⟩:=hS o ob' h1
   obtain ⟨y,hy,_⟩:=ZcH h2
   have hxy:=(Zdm h2 hy).1
   obtain ⟨e0,c0,q1,q2,q3,_⟩:=cellback hob2 h3 h4
   subst q3
   have e1:=ZiG h0
   rw [e1] at h0 h6
   rw [hxy] at h5
   exact ⟨ob,y,e0,c0,rv,hob2,hy,q1,q2,h0,h5,h6⟩
 exact {
  len:=by rw [List.length_map]; exact hs.len
  env:=fun t v hv=>by
   obtain ⟨u,hu,rfl⟩:=Zac hv
   obtain ⟨rv,r1,r2,r3⟩:=hs.env t u hu
   exact ⟨rv,r1,r2.rz hob hs.sub,r3.rz⟩
  olen:=by rw [Zlu]; exact (Zgp p g.obs 0).trans hs.olen
  obj:=fun o ob' ho=>by
   obtain ⟨ob,hob2,rfl⟩:=hS o ob' ho
   obtain ⟨x,hx,hr⟩:=hs.obj o ob hob2
   obtain ⟨arr,cap,b1,b2,b3,b4,b5,b7,b6⟩:=hr.blk
   have hfz:∀ v n,C.fz v n = (0,0):=fun v n=>by simp [Cfg.fz,hth]
   have h2:∀ z:OX,(match Nat.blt o p with | true=>z | false=>(0,z.2)).2 = z.2:=fun z=>by cases Nat.blt o p <;> rfl
   refine ⟨_,Zwg hx,?_,by rw [h2]; exact hr.esz,hr.ty,hr.known,⟨arr,cap,fun hp=>?_,by rw [h2]; exact b2,by rw [h2]; exact b3,b4,by simpa using b5,b7,fun i e j c he hc=>?_⟩,fun i e he=>?_,fun i e j c he hc=>?_,by rw [h2]; exact hr.base,by rw [h2]; exact hr.nsusp,by rw [h2]; exact hr.nimm⟩
   ·cases Nat.blt o p with
    | true=>exact hr.ver
    | false=>rfl
   ·rw [h2] at hp ⊢
    rw [hfz]
    have:=b1 hp
    rw [hfz] at this
    exact this
   ·obtain ⟨e0,c0,q1,q2,q3,q4⟩:=cellback hob2 he hc
    obtain ⟨rv,r1,r2,r3⟩:=b6 i e0 j c0 q1 q2
    subst q3
    exact ⟨rv,by rw [h2]; exact r1,r2.rzC hob hs.sub,r3.rzC⟩
   ·obtain ⟨e0,he0,rfl⟩:=Zac he
    rw [Zk6 (hr.cells_flat he0),List.length_map]
    exact hr.sz i e0 he0
   ·obtain ⟨e0,c0,q1,q2,q3,q4⟩:=cellback hob2 he hc
    subst q3
    exact ZiQ p s c0
  gone:=fun o x hx=>by
   obtain ⟨y,hy,_⟩:=ZcH hx
   obtain ⟨ob,hob2⟩:=hs.gone o y hy
   exact ⟨_,by rw [ZlS,hob2]; rfl⟩
  inj:=fun o o' x x' hx hx' hp hp' hb=>by
   obtain ⟨y,hy,_⟩:=ZcH hx
   obtain ⟨y',hy',_⟩:=ZcH hx'
   rw [(Zdm hx hy).1] at hp hb
   rw [(Zdm hx' hy').1] at hp' hb
   exact hs.inj o o' y y' hy hy' hp hp' hb
  own:=fun q1 q2 b hp hq=>hs.own q1 q2 b (key q1 b hp) (key q2 b hq)
  sub:=hs.sub
  immlt:=hs.immlt
  basele:=hs.basele
  susplt:=hs.susplt }
theorem Le.ren {keep:Nat} {g0:G} {w0:World} (h:Le keep g0 w0 g w) (hk:keep ≤ p):Le keep g0 w0 (g.ren p) w where
 keeps:=⟨h.keeps.imm,h.keeps.safe,h.keeps.cell⟩
 size:=h.size
 os:=h.os
 tape:=h.tape
 output:=h.output
 base:=h.base
 susp:=h.susp
 low:=h.low
 sus:=h.sus
 klen:=by rw [show (g.ren p).obs.length = g.obs.length from Zgp p g.obs 0]; exact h.klen
 obs:=fun o ho x' hx=>by
  obtain ⟨y,hy,_⟩:=ZcH hx
  rw [(Zdm hx hy).2 (Nat.lt_of_lt_of_le ho hk)]
  exact h.obs o ho y hy
end ren
theorem ZeD {C:Cfg} {R:Type} {E:List V} {s:S} {K:List V → S → Option R} {r:R} (h:Zdb C E s K = some r):∃ E' s',K E' s' = some r ∧ s'.length = s.length ∧
  ∀ keep g0 w0 g a w,ZrE C keep → Le keep g0 w0 g w → Sim C g E s a w → ∃ g',Le keep g0 w0 g' w ∧ Sim C g' E' s' a w:=by
 unfold Zdb at h
 split at h
 ·exact ⟨E,s,h,rfl,fun keep g0 w0 g a w _ hle hs=>⟨g,hle,hs⟩⟩
 ·rename_i p hp
  split at h <;> first | (cases h; done) | skip
  rename_i hth
  obtain ⟨hg,h2⟩:=Zaa h
  exact ⟨_,_,h2,Zlu _ _ _ _ _,fun keep g0 w0 g a w hk hle hs=>⟨g.ren p,hle.ren (hk p hp),hs.renum hth hg⟩⟩
section
variable {P:Program} {C:Cfg} {Φ:Zat} {Λ:ZaB}
theorem Zbv (hC:Ok P C) (hΦ:Zab P C Φ) {Λi:ZaB} {b:Code} {path ks kx:List Nat} {tr:Bool} {N:Nat} (hl:ZaR P C Λi b (0 :: path))
  (hD:∀ (R:Type) E s (K:X → List V → S → Option R) r,Λ R path E s K = some r → Zdb C (Za7 ks E) s (fun E s=>Zha C Φ Λi b path tr ks kx N R E s K) = some r):Zbt P C Λ b path:=by
 intro R E s K r h
 have key:∀ n E s,Zha C Φ Λi b path tr ks kx n R E s K = some r → ∃ x E' s',K x E' s' = some r ∧ s.length ≤ s'.length ∧ ∀ g a w keep,keep ≤ s.length → ZrE C keep → Sim C g E s a w → ∀ Q:Exit → Act → World → Prop,
   (∀ g' a' w',Le keep g w g' w' → Sim C g' E' s' a' w' → a'.defers = a.defers → Q x.exit' a' w') → ZfP P b Q a w:=by
  intro n
  induction n with
  | zero=>intro E s h; cases h
  | succ n ih =>
   intro E s h
   simp only [Zha] at h
   obtain ⟨x,E1,s1,h2,hl1,h3⟩:=Zp7 hC hΦ hl h
   have hl3:=Zp5 (tr:=tr) hl1
   cases x with
   | norm =>
    simp only at h2
    obtain ⟨E3,s3,h6,hl4,h7⟩:=ZeD h2
    obtain ⟨x2,E2,s2,h4,hl2,h5⟩:=ih _ _ h6
    refine ⟨x2,E2,s2,h4,Nat.le_trans (by rw [hl4]; exact hl3) hl2,fun g a w keep hk hkp hs Q hQ=>ZfP.round (h3 g a w keep hk hkp hs _ fun g' a' w' hle hs' hd=>?_)⟩
    obtain ⟨g1,hle1,hs1⟩:=hs'.tidy tr s.length ks hle hk
    obtain ⟨g2,hle2,hs2⟩:=h7 keep g w g1 a' w' hkp hle1 hs1
    exact h5 g2 a' w' keep (by rw [hl4]; exact Nat.le_trans hk hl3) hkp hs2 Q fun g'' a'' w'' hle' hs'' hd'=>hQ g'' a'' w'' (hle2.trans hle') hs'' (hd'.trans hd)
   | ret =>
    simp only at h2
    obtain ⟨E3,s3,h6,hl4,h7⟩:=ZeD h2
    exact ⟨_,_,_,h6,by rw [hl4]; exact hl3,fun g a w keep hk hkp hs Q hQ=>ZfP.round (h3 g a w keep hk hkp hs _ fun g' a' w' hle hs' hd=>by
     obtain ⟨g1,hle1,hs1⟩:=hs'.tidy tr s.length kx hle hk
     obtain ⟨g2,hle2,hs2⟩:=h7 keep g w g1 a' w' hkp hle1 hs1
     exact hQ g2 a' w' hle2 hs2 hd)⟩
   | exit id =>
    simp only at h2
    obtain ⟨E3,s3,h6,hl4,h7⟩:=ZeD h2
    exact ⟨_,_,_,h6,by rw [hl4]; exact hl3,fun g a w keep hk hkp hs Q hQ=>ZfP.round (h3 g a w keep hk hkp hs _ fun g' a' w' hle hs' hd=>by
     obtain ⟨g1,hle1,hs1⟩:=hs'.tidy tr s.length kx hle hk
     obtain ⟨g2,hle2,hs2⟩:=h7 keep g w g1 a' w' hkp hle1 hs1
     exact hQ g2 a' w' hle2 hs2 hd)⟩
 obtain ⟨E0,s0,q1,q2,q3⟩:=ZeD (hD R E s K r h)
 obtain ⟨x,E',s',h1,h2,h3⟩:=key N _ _ q1
 refine ⟨x,E',s',h1,by rw [← q2]; exact h2,fun g a w keep hk hkp hs Q hQ=>ZqA ?_⟩
 obtain ⟨g1,hle1,hs1⟩:=q3 keep g w g a w hkp (Le.refl (by rw [hs.olen]; exact hk)) (hs.kill ks)
 exact h3 g1 a w keep (by rw [q2]; exact hk) hkp hs1 Q fun g' a' w' hle hs' hd=>hQ g' a' w' (hle1.trans hle) hs' hd
theorem ZaS {R:Type} {E:List V} {s:S} {K:List V → S → Option R} (h:C.kp = none):Zdb C E s K = K E s:=by
 unfold Zdb; rw [h]
theorem ZgT {R:Type} {E:List V} {s:S} {F G:List V → S → Option R} {r:R} (h:∀ E s,F E s = some r → G E s = some r) (hF:Zdb C E s F = some r):Zdb C E s G = some r:=by
 unfold Zdb at hF ⊢
 split at hF
 ·exact h _ _ hF
 ·split at hF <;> first | (cases hF; done) | skip
  obtain ⟨h1,h2⟩:=Zaa hF
  simp only [h1,Zaf]
  exact h _ _ h2
theorem Zp2 {k:Nat} (h:C.kp = none):∀ n,C.kp = some n → k ≤ n:=fun n hn=>by rw [h] at hn; cases hn
end
end Go.VM
