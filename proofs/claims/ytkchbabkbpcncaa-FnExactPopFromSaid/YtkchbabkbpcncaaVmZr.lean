/- Functions that lay objects, by their bodies. -/
import Derived.Test.YtkchbabkbpcncaaVmZk
set_option linter.unusedSimpArgs false
set_option linter.unusedVariables false
namespace Go.VM
open Go.RowKit Go.Lib
def Zi0:V → Bool
 | .arr ..=>false
 | .ptr ..=>false
 | .agg _=>false
 | .tuple _=>false
 | .cptr _=>false
 | .fn _ caps=>caps.isEmpty
 | .list _ _ .bor=>false
 | _=>true
def Zbj (es:List V):Bool:=es.all fun e=>e.cells.all Zi0
def okF (s:S):List Nat → List Bool → Bool
 | j :: ks,b :: bs=>(match b with
  | true=>(match nth s j with
   | some (some ob)=>(match ob.es.all firm1 with
    | true=>okF s ks bs
    | false=>false)
   | _=>okF s ks bs)
  | false=>(match nth s j with
   | some (some ob)=>Zbj ob.es && okF s ks bs
   | _=>okF s ks bs))
 | [],[]=>true
 | _,_=>false
section
variable {R:Type}
def ZrH (s:S) (v:V) (x:Option R):Option R :=
 match v with
 | .arr o ver _ _=>(match nth s o with
  | some (some ob)=>Zaf (Nat.beq ver ob.ver) x
  | _=>none)
 | .ptr o ver _ _=>(match nth s o with
  | some (some ob)=>Zaf (Nat.beq ver ob.ver) x
  | _=>none)
 | _=>x
def ZtY (s:S):List V → Option R → Option R
 | [],x=>x
 | c :: l,x=>ZrH s c (ZtY s l x)
def ZrW (s:S) (v:V) (x:Option R):Option R :=
 match v with
 | .agg cs=>ZtY s cs x
 | v=>ZrH s v x
def Zqp (s:S):List V → Option R → Option R
 | [],x=>x
 | e :: l,x=>ZrW s e (Zqp s l x)
def Zty (s:S) (v:V) (x:Option R):Option R :=
 match v with
 | .tuple vs=>Zqp s vs x
 | v=>ZrW s v x
def Zhh (rl:TypeId → Bool) (s:S):S → Option R → Option R
 | [],x=>x
 | some ob :: l,x=>(match rl ob.elem with
  | true=>Zhh rl s l x
  | false=>Zqp s ob.es (Zhh rl s l x))
 | none :: l,x=>Zhh rl s l x
end
def zeroC:V → V
 | .arr o _ off len=>.arr o 0 off len
 | .ptr o _ i j=>.ptr o 0 i j
 | .fn f caps=>(match caps with
  | []=>.fn f []
  | _ :: _=>.dead)
 | .agg _=>.dead
 | .tuple _=>.dead
 | .cptr _=>.dead
 | v=>v
def zero1:V → V
 | .agg cs=>.agg (cs.map zeroC)
 | v=>zeroC v
def V.zero:V → V
 | .tuple vs=>.tuple (vs.map zero1)
 | v=>zero1 v
def ZsK (rl:TypeId → Bool) (s:S):S:=s.map fun x=>match x with
 | some ob=>(match rl ob.elem with
  | true=>some { ob with ver:=0 }
  | false=>some { ob with ver:=0,es:=ob.es.map zero1 })
 | none=>none
def GF {R:Type} (rl:TypeId → Bool) (K:V → S → Option R):V → S → Option R:=fun v s' =>
 (fun ks=>(fun bs=>match v.firm with
  | true=>Zaf (okF s' ks bs) ((fun v1 s1=>Zty s1 v1 (Zhh rl s1 s1 (K v1.zero (ZsK rl s1)))) (v.rho fun j=>Zc2 ks j 0) (ZvC (fun j=>Zc2 ks j 0) s' ks bs))
  | false=>none) (ZgE rl s' ks)) (gcL rl 0 v s')
theorem Zhi {c:V} (h:Zi0 c = true):ZbK c = true:=by
 cases c with
 | list sz es f=>rfl
 | _=>first | exact h | rfl | (cases h; done)
theorem Zfj {c:V} (h:Zi0 c = true):firmC c = true:=by
 cases c with
 | list sz es f=>cases f <;> first | rfl | (cases h; done)
 | _=>first | exact h | rfl | (cases h; done)
theorem ZgJ {es:List V} (h:Zbj es = true):Zaw es = true:=by
 refine List.all_eq_true.2 fun e he=>List.all_eq_true.2 fun c hc=>Zhi (List.all_eq_true.1 (List.all_eq_true.1 h e he) c hc)
theorem Zhg {es:List V} (h:Zbj es = true):es.all firm1 = true:=by
 refine List.all_eq_true.2 fun e he=>?_
 have h1:=List.all_eq_true.1 h e he
 by_cases hag:∃ cs,e = .agg cs
 ·obtain ⟨cs,rfl⟩:=hag
  exact List.all_eq_true.2 fun c hc=>Zfj (List.all_eq_true.1 h1 c hc)
 ·have e1:e.cells = [e]:=ZaH fun cs hc=>hag ⟨cs,hc⟩
  have e2:firm1 e = firmC e:=by cases e <;> first | rfl | exact absurd ⟨_,rfl⟩ hag
  rw [e1] at h1
  rw [e2]
  exact Zfj (by simpa using h1)
theorem Zrp {s:S}:∀ {ks:List Nat} {bs:List Bool},okF s ks bs = true → okS s ks bs = true ∧ ∀ i j b ob,nth ks i = some j → nth bs i = some b → nth s j = some (some ob) → ob.es.all firm1 = true ∧ (b = false → Zaw ob.es = true)
 | [],[],_=>⟨rfl,fun i j b ob h=>by simp [nth] at h⟩
 | [],_ :: _,h=>by cases h
 | _ :: _,[],h=>by cases h
 | j :: ks,b :: bs,h=>by
  have key:okF s ks bs = true ∧ ∀ ob,nth s j = some (some ob) → ob.es.all firm1 = true ∧ (b = false → Zaw ob.es = true):=by
   cases b with
   | true =>
    simp only [okF] at h
    split at h
    ·rename_i ob hob
     split at h
     ·rename_i hf
      exact ⟨h,fun ob' ho=>by rw [hob] at ho; obtain rfl:=Option.some.inj (Option.some.inj ho); exact ⟨hf,fun hb=>by cases hb⟩⟩
     ·cases h
    ·rename_i hn
     exact ⟨h,fun ob ho=>absurd ho (hn ob)⟩
   | false =>
    simp only [okF] at h
    split at h
    ·rename_i ob hob
     simp only [Bool.and_eq_true] at h
     exact ⟨h.2,fun ob' ho=>by rw [hob] at ho; obtain rfl:=Option.some.inj (Option.some.inj ho); exact ⟨Zhg h.1,fun _=>ZgJ h.1⟩⟩
    ·rename_i hn
     exact ⟨h,fun ob ho=>absurd ho (hn ob)⟩
  obtain ⟨h1,h2⟩:=Zrp key.1
  refine ⟨?_,fun i j' b' ob hj hb ho=>?_⟩
  ·unfold okS
   cases b with
   | true=>exact h1
   | false =>
    simp only
    split
    ·rename_i ob hob
     rw [(key.2 ob hob).2 rfl,h1]; rfl
    ·exact h1
  ·cases i with
   | zero =>
    simp only [nth] at hj hb
    obtain rfl:=Option.some.inj hj
    obtain rfl:=Option.some.inj hb
    exact key.2 ob ho
   | succ i=>exact h2 i j' b' ob hj hb ho
theorem Zr3 {f:Nat → Option Nat} {v:V} (h:firmC v = true):firmC (rho0 f v) = true:=by
 cases v with
 | arr o ver off len=>simp only [rho0]; split <;> rfl
 | ptr o ver i j=>simp only [rho0]; split <;> rfl
 | fn g caps=>cases caps <;> rfl
 | _=>first | exact h | rfl
theorem ZkN {f:Nat → Option Nat} {v:V} (h:firmC v = true):firmC (rhoC f v) = true:=by
 cases v with
 | fn g caps =>
  cases caps with
  | nil=>rfl
  | cons=>cases h
 | _=>first | exact h | exact Zr3 (f:=f) h
theorem Zgs {f:Nat → Option Nat} {v:V} (h:firm1 v = true):firm1 (rho1 f v) = true:=by
 by_cases hag:∃ cs,v = .agg cs
 ·obtain ⟨cs,rfl⟩:=hag
  show (cs.map (rhoC f)).all firmC = true
  rw [List.all_map]
  exact List.all_eq_true.2 fun c hc=>ZkN (List.all_eq_true.1 h c hc)
 ·have e2:firm1 v = firmC v:=by cases v <;> first | rfl | exact absurd ⟨_,rfl⟩ hag
  have e1:rho1 f v = rhoC f v:=by cases v <;> first | rfl | exact absurd ⟨_,rfl⟩ hag
  rw [e2] at h
  rw [e1]
  have h3:=ZkN (f:=f) h
  generalize rhoC f v = u at h3
  cases u <;> first | exact h3 | (cases h3; done)
theorem Zs1 {f:Nat → Option Nat} {v:V} (h:v.firm = true):(v.rho f).firm = true:=by
 by_cases hag:∃ vs,v = .tuple vs
 ·obtain ⟨cs,rfl⟩:=hag
  show (cs.map (rho1 f)).all firm1 = true
  rw [List.all_map]
  exact List.all_eq_true.2 fun c hc=>Zgs (List.all_eq_true.1 h c hc)
 ·have e2:v.firm = firm1 v:=by cases v <;> first | rfl | exact absurd ⟨_,rfl⟩ hag
  have e1:v.rho f = rho1 f v:=by cases v <;> first | rfl | exact absurd ⟨_,rfl⟩ hag
  rw [e2] at h
  rw [e1]
  have h3:=Zgs (f:=f) h
  generalize rho1 f v = u at h3
  cases u <;> first | exact h3 | (cases h3; done)
def Zq6 (s:S) (c:V):Prop:=(∀ o ver off len,c = .arr o ver off len → ∃ ob,nth s o = some (some ob) ∧ ver = ob.ver) ∧ ∀ o ver i j,c = .ptr o ver i j → ∃ ob,nth s o = some (some ob) ∧ ver = ob.ver
theorem ZhY {R:Type} {s:S} {v:V} {x:Option R} {r:R} (h:ZrH s v x = some r):Zq6 s v ∧ x = some r:=by
 unfold ZrH at h
 split at h
 ·split at h <;> first | (cases h; done) | skip
  rename_i ob hob
  obtain ⟨h1,h2⟩:=Zaa h
  exact ⟨⟨fun o ver off len he=>(by injection he with e1 e2; subst e1 e2; exact ⟨ob,hob,Nat.eq_of_beq_eq_true h1⟩),fun _ _ _ _ he=>(by cases he)⟩,h2⟩
 ·split at h <;> first | (cases h; done) | skip
  rename_i ob hob
  obtain ⟨h1,h2⟩:=Zaa h
  exact ⟨⟨fun _ _ _ _ he=>(by cases he),fun o ver i j he=>by injection he with e1 e2; subst e1 e2; exact ⟨ob,hob,Nat.eq_of_beq_eq_true h1⟩⟩,h2⟩
 ·rename_i h1 h2
  exact ⟨⟨fun o ver off len he=>absurd he (h1 o ver off len),fun o ver i j he=>absurd he (h2 o ver i j)⟩,h⟩
theorem ZhZ {R:Type} {s:S}:∀ {l:List V} {x:Option R} {r:R},ZtY s l x = some r → (∀ j c,nth l j = some c → Zq6 s c) ∧ x = some r
 | [],x,r,h=>⟨fun j c h=>by simp [nth] at h,h⟩
 | c :: l,x,r,h=>by
  obtain ⟨h1,h2⟩:=ZhY h
  obtain ⟨h3,h4⟩:=ZhZ h2
  refine ⟨fun j c' hc=>?_,h4⟩
  cases j with
  | zero=>simp only [nth] at hc; obtain rfl:=Option.some.inj hc; exact h1
  | succ j=>exact h3 j c' hc
theorem ZhW {R:Type} {s:S} {v:V} {x:Option R} {r:R} (h:ZrW s v x = some r):(∀ j c,nth v.cells j = some c → Zq6 s c) ∧ x = some r:=by
 by_cases hag:∃ cs,v = .agg cs
 ·obtain ⟨cs,rfl⟩:=hag
  exact ZhZ h
 ·have e1:v.cells = [v]:=ZaH fun cs hc=>hag ⟨cs,hc⟩
  have e2:ZrW s v x = ZrH s v x:=by cases v <;> first | rfl | exact absurd ⟨_,rfl⟩ hag
  rw [e2] at h
  obtain ⟨h1,h2⟩:=ZhY h
  refine ⟨fun j c hc=>?_,h2⟩
  rw [e1] at hc
  cases j with
  | zero=>simp only [nth] at hc; obtain rfl:=Option.some.inj hc; exact h1
  | succ j=>simp [nth] at hc
theorem ZfD {R:Type} {s:S}:∀ {l:List V} {x:Option R} {r:R},Zqp s l x = some r → (∀ i e j c,nth l i = some e → nth e.cells j = some c → Zq6 s c) ∧ x = some r
 | [],x,r,h=>⟨fun i e j c h=>by simp [nth] at h,h⟩
 | e :: l,x,r,h=>by
  obtain ⟨h1,h2⟩:=ZhW h
  obtain ⟨h3,h4⟩:=ZfD h2
  refine ⟨fun i e' j c he hc=>?_,h4⟩
  cases i with
  | zero=>simp only [nth] at he; obtain rfl:=Option.some.inj he; exact h1 j c hc
  | succ i=>exact h3 i e' j c he hc
theorem Zc4 {R:Type} {rl:TypeId → Bool} {s:S}:∀ {l:S} {x:Option R} {r:R},Zhh rl s l x = some r → (∀ o ob i e j c,nth l o = some (some ob) → rl ob.elem = false → nth ob.es i = some e → nth e.cells j = some c → Zq6 s c) ∧ x = some r
 | [],x,r,h=>⟨fun o ob i e j c h=>by simp [nth] at h,h⟩
 | none :: l,x,r,h=>by
  obtain ⟨h1,h2⟩:=Zc4 (l:=l) h
  refine ⟨fun o ob i e j c ho=>?_,h2⟩
  cases o with
  | zero=>simp [nth] at ho
  | succ o=>exact h1 o ob i e j c ho
 | some ob :: l,x,r,h=>by
  cases hr:rl ob.elem with
  | true =>
   have h':Zhh rl s l x = some r:=by simpa only [Zhh,hr] using h
   obtain ⟨h1,h2⟩:=Zc4 h'
   refine ⟨fun o ob' i e j c ho hrl=>?_,h2⟩
   cases o with
   | zero=>simp only [nth] at ho; obtain rfl:=Option.some.inj (Option.some.inj ho); rw [hr] at hrl; cases hrl
   | succ o=>exact h1 o ob' i e j c ho hrl
  | false =>
   have h':Zqp s ob.es (Zhh rl s l x) = some r:=by simpa only [Zhh,hr] using h
   obtain ⟨h3,h4⟩:=ZfD h'
   obtain ⟨h1,h2⟩:=Zc4 h4
   refine ⟨fun o ob' i e j c ho hrl=>?_,h2⟩
   cases o with
   | zero=>simp only [nth] at ho; obtain rfl:=Option.some.inj (Option.some.inj ho); exact h3 i e j c
   | succ o=>exact h1 o ob' i e j c ho hrl
theorem ZfF (v:V):(zeroC v).flatCell = true:=by
 cases v with
 | fn f caps=>cases caps <;> rfl
 | _=>rfl
theorem Znu {v:V} (h:ZbK v = true):zeroC v = v:=by
 cases v with
 | fn f caps=>cases caps with
  | nil=>rfl
  | cons=>cases h
 | _=>first | rfl | (cases h; done)
theorem Zgx {v:V} (hv:v.flatCell = true ∨ ∃ cs,v = .agg cs):(zero1 v).cells = v.cells.map zeroC:=by
 cases v with
 | agg cs=>rfl
 | tuple vs=>rcases hv with h | ⟨cs,h⟩ <;> cases h
 | fn f caps=>cases caps <;> rfl
 | _=>rfl
theorem Zr6 {e:V} (hf:e.flatCell = true ∨ ∃ cs,e = .agg cs) (h:∀ j c,nth e.cells j = some c → ZbK c = true):zero1 e = e:=by
 rcases hf with hf | ⟨cs,rfl⟩
 ·have hc:nth e.cells 0 = some e:=by cases e <;> first | rfl | (cases hf; done)
  have:=Znu (h 0 e hc)
  cases e <;> first | exact this | (cases hf; done)
 ·show V.agg _ = V.agg _
  congr 1
  apply List.ext_getElem?
  intro j
  rw [List.getElem?_map]
  cases hj:cs[j]? with
  | none=>rfl
  | some c =>
   show some _ = some _
   rw [Znu (h j c (by show nth cs j = some c; rw [Zad]; exact hj))]
theorem ZhS {c:V} (h:(zeroC c).owns):zeroC c = c:=by
 rcases h with ⟨sz,es,e,h⟩ | ⟨t,sz,es,h⟩
 all_goals
  cases c with
  | fn f caps=>cases caps <;> cases h
  | _=>first | rfl | (cases h; done)
section
variable {P:Program} {C D:Cfg}
def G.zero (g:G):G:={ g with obs:=g.obs.map (Option.map fun x=>(0,x.2)) }
theorem ZcT {g:G} {o:Nat} {x:OX} (h:nth g.zero.obs o = some (some x)):∃ y,nth g.obs o = some (some y) ∧ x = (0,y.2):=by
 obtain ⟨z,hz,h2⟩:=Zac h
 cases z with
 | none=>cases h2
 | some y=>exact ⟨y,hz,(Option.some.inj h2).symm⟩
theorem VR.zeroC {g:G} {w:World} {s:S} (hob:∀ o ob,nth s o = some (some ob) → ∃ x,nth g.obs o = some (some x) ∧ x.1 = ob.ver) (hsub:Sub g) {c:V} {rv:Value} (hc:Zq6 s c) (h:VR g w c rv):VR g.zero w (Go.VM.zeroC c) rv:=by
 have hl:g.zero.obs.length = g.obs.length:=by simp [G.zero]
 have dat:∀ v rv,DR g w false v rv → VR g.zero w (Go.VM.zeroC v) rv:=by
  intro v rv h
  have h':DR g.zero w false v rv:=h.keeps (g':=g.zero) hsub ⟨fun _ _ h=>h,fun _ _ h=>h,fun _ _ _=>rfl⟩
  cases v <;> first | exact .data h' | (cases h; done) | exact .dead _ | skip
  cases h; exact .data (.fn _)
 cases h with
 | data h=>exact dat _ _ h
 | ptr o ver i j a ho h =>
  refine .ptr o 0 i j a (by rw [hl]; exact ho) fun x hx=>?_
  obtain ⟨y,hy,rfl⟩:=ZcT hx
  obtain ⟨ob,hob1,rfl⟩:=hc.2 o ver i j rfl
  obtain ⟨x,hx1,hx2⟩:=hob o ob hob1
  rw [hy] at hx1
  obtain rfl:=Option.some.inj (Option.some.inj hx1)
  exact ⟨Nat.le_refl _,fun _=>(h y hy).2 hx2.symm⟩
 | arr o ver off len A c' hcc ho h =>
  refine .arr o 0 off len A c' hcc (by rw [hl]; exact ho) fun x hx=>?_
  obtain ⟨y,hy,rfl⟩:=ZcT hx
  obtain ⟨ob,hob1,rfl⟩:=hc.1 o ver off len rfl
  obtain ⟨x,hx1,hx2⟩:=hob o ob hob1
  rw [hy] at hx1
  obtain rfl:=Option.some.inj (Option.some.inj hx1)
  exact ⟨Nat.le_refl _,fun _=>(h y hy).2 hx2.symm⟩
 | cptr cs b off cv ho hw hd=>exact .dead _
 | agg cs vs hl h=>exact .dead _
 | tuple cs vs hl h=>exact .dead _
 | fn f cs vs hl h =>
  cases cs with
  | nil =>
   obtain rfl:vs = []:=List.eq_nil_of_length_eq_zero (by simpa using hl.symm)
   exact .fn f [] [] rfl fun i c v h1=>by simp [nth] at h1
  | cons=>exact .dead _
 | uni t sz es A n c=>exact .uni t sz es A n c
 | dead rv=>exact .dead _
theorem VR.zero1 {g:G} {w:World} {s:S} (hob:∀ o ob,nth s o = some (some ob) → ∃ x,nth g.obs o = some (some x) ∧ x.1 = ob.ver) (hsub:Sub g) {v:V} {rv:Value} (hc:∀ j c,nth v.cells j = some c → Zq6 s c) (h:VR g w v rv):VR g.zero w (Go.VM.zero1 v) rv:=by
 by_cases hag:∃ cs,v = .agg cs
 ·obtain ⟨cs,rfl⟩:=hag
  obtain ⟨vs,rfl,hl,hh⟩:=h.agg_inv
  refine .agg _ vs (by simp [hl]) fun i c u q1 q2=>?_
  obtain ⟨c0,hc0,rfl⟩:=Zac q1
  exact (hh i c0 u hc0 q2).zeroC hob hsub (hc i c0 hc0)
 ·have e1:Go.VM.zero1 v = Go.VM.zeroC v:=by cases v <;> first | rfl | exact absurd ⟨_,rfl⟩ hag
  rw [e1]
  exact h.zeroC hob hsub (hc 0 v (by rw [ZaH fun cs hc=>hag ⟨cs,hc⟩]; rfl))
theorem OwnOk.zeroC {g:G} {w:World} {c:V} {rv:Value} (hflat:c.flatCell = true) (h:OwnOk C g w c rv):OwnOk C g.zero w (Go.VM.zeroC c) rv:=by
 by_cases ho:(Go.VM.zeroC c).owns
 ·rw [ZhS ho]
  refine ⟨fun sz es e hv=>?_,h.agg,fun t sz es hv=>?_⟩
  ·obtain ⟨h1,h2,h3,h4⟩:=h.own sz es e hv
   refine ⟨h1,h2,fun b hb=>⟨(h3 b hb).1,(h3 b hb).2.1,fun o x hx hp=>?_⟩,h4⟩
   obtain ⟨y,hy,rfl⟩:=ZcT hx
   exact (h3 b hb).2.2 o y hy hp
  ·have h1:=h.uni t sz es hv
   refine h1.move rfl (fun _ _=>rfl) fun b hb=>⟨(h1.blk b hb).1,(h1.blk b hb).2.1,fun o x hx hp=>?_⟩
   obtain ⟨y,hy,rfl⟩:=ZcT hx
   exact (h1.blk b hb).2.2 o y hy hp
 ·refine ⟨fun sz es e hv=>absurd (.inl ⟨sz,es,e,hv⟩) ho,fun cs hv=>?_,fun t sz es hv=>absurd (.inr ⟨t,sz,es,hv⟩) ho⟩
  have:=ZfF c
  rw [hv] at this
  cases this
theorem Sim.zero (hth:C.thaw = false) {g:G} {w:World} {s:S} (hs:Sim C g [] s ZaI w) (hcur:∀ o ob i e j c,nth s o = some (some ob) → nth ob.es i = some e → nth e.cells j = some c → Zq6 s c) :
  Sim C g.zero [] (s.map (Option.map fun ob=>{ ob with ver:=0,es:=ob.es.map Go.VM.zero1 })) ZaI w:=by
 have hob:∀ o ob,nth s o = some (some ob) → ∃ x,nth g.obs o = some (some x) ∧ x.1 = ob.ver:=fun o ob ho=>by
  obtain ⟨x,hx,hr⟩:=hs.obj o ob ho
  exact ⟨x,hx,hr.ver⟩
 have hS:∀ o ob,nth (s.map (Option.map fun ob:Ob=>{ ob with ver:=0,es:=ob.es.map Go.VM.zero1 })) o = some (some ob) → ∃ ob0,nth s o = some (some ob0) ∧ ob = { ob0 with ver:=0,es:=ob0.es.map Go.VM.zero1 }:=by
  intro o ob h
  obtain ⟨z,hz,h2⟩:=Zac h
  cases z with
  | none=>cases h2
  | some y=>exact ⟨y,hz,(Option.some.inj h2).symm⟩
 have cellback:∀ {o:Nat} {ob:Ob} {i j:Nat} {el c:V},nth s o = some (some ob) → nth (ob.es.map Go.VM.zero1) i = some el → nth el.cells j = some c → ∃ e c0,nth ob.es i = some e ∧ nth e.cells j = some c0 ∧ c = Go.VM.zeroC c0 ∧ c0.flatCell = true:=by
  intro o ob i j el c hob hel hc
  obtain ⟨x,hx,hr⟩:=hs.obj o ob hob
  obtain ⟨e,he,rfl⟩:=Zac hel
  rw [Zgx (hr.cells_flat he)] at hc
  obtain ⟨c0,hc0,rfl⟩:=Zac hc
  exact ⟨e,c0,he,hc0,rfl,hr.flat i e j c0 he hc0⟩
 have key:∀ p b,Zan [] (s.map (Option.map fun ob:Ob=>{ ob with ver:=0,es:=ob.es.map Go.VM.zero1 })) ZaI w g.zero p b → Zan [] s ZaI w g p b:=by
  intro p b hp
  cases p with
  | slot t=>exact (ZgS hp).elim
  | cell o i j =>
   obtain ⟨ob',x,el,c,rv,h1,h2,h3,h4,h0,h5,h6⟩:=hp
   obtain ⟨ob,hob2,rfl⟩:=hS o ob' h1
   obtain ⟨y,hy,rfl⟩:=ZcT h2
   obtain ⟨e0,c0,q1,q2,q3,_⟩:=cellback hob2 h3 h4
   subst q3
   have e1:=ZhS h0
   rw [e1] at h0 h6
   exact ⟨ob,y,e0,c0,rv,hob2,hy,q1,q2,h0,h5,h6⟩
 exact {
  len:=rfl
  env:=fun t v hv=>by simp [nth] at hv
  olen:=by simp [G.zero,hs.olen]
  obj:=fun o ob' ho=>by
   obtain ⟨ob,hob2,rfl⟩:=hS o ob' ho
   obtain ⟨x,hx,hr⟩:=hs.obj o ob hob2
   obtain ⟨arr,cap,b1,b2,b3,b4,b5,b7,b6⟩:=hr.blk
   have hfz:∀ v n,C.fz v n = (0,0):=fun v n=>by simp [Cfg.fz,hth]
   refine ⟨(0,x.2),by simp only [G.zero]; rw [ZbF hx]; rfl,rfl,hr.esz,hr.ty,hr.known,⟨arr,cap,fun hp=>by rw [hfz]; have:=b1 hp; rw [hfz] at this; exact this,b2,b3,b4,by simpa using b5,b7,fun i e j c he hc=>?_⟩,fun i e he=>?_,fun i e j c he hc=>?_,hr.base,hr.nsusp,hr.nimm⟩
   ·obtain ⟨e0,c0,q1,q2,q3,q4⟩:=cellback hob2 he hc
    obtain ⟨rv,r1,r2,r3⟩:=b6 i e0 j c0 q1 q2
    subst q3
    exact ⟨rv,r1,r2.zeroC hob hs.sub (hcur o ob i e0 j c0 hob2 q1 q2),r3.zeroC q4⟩
   ·obtain ⟨e0,he0,rfl⟩:=Zac he
    rw [Zgx (hr.cells_flat he0),List.length_map]
    exact hr.sz i e0 he0
   ·obtain ⟨e0,c0,q1,q2,q3,q4⟩:=cellback hob2 he hc
    subst q3
    exact ZfF c0
  gone:=fun o x hx=>by
   obtain ⟨y,hy,_⟩:=ZcT hx
   obtain ⟨ob,hob2⟩:=hs.gone o y hy
   exact ⟨_,by rw [ZbF hob2]; rfl⟩
  inj:=fun o o' x x' hx hx' hp hp' hb=>by
   obtain ⟨y,hy,rfl⟩:=ZcT hx
   obtain ⟨y',hy',rfl⟩:=ZcT hx'
   exact hs.inj o o' y y' hy hy' hp hp' hb
  own:=fun p q b hp hq=>hs.own p q b (key p b hp) (key q b hq)
  sub:=hs.sub
  immlt:=hs.immlt
  basele:=hs.basele
  susplt:=hs.susplt }
theorem ZoL {v:V} (h:v.still):v.zero.still:=by
 have hc:∀ c:V,(∀ sz es e,c ≠ .list sz es (.own e)) → ∀ sz es e,zeroC c ≠ .list sz es (.own e):=by
  intro c h0 sz es e hv
  cases c with
  | fn f caps=>cases caps <;> cases hv
  | _=>first | exact h0 sz es e hv | (cases hv; done)
 have hu:∀ c:V,(∀ t sz es,c ≠ .uni t sz es) → ∀ t sz es,zeroC c ≠ .uni t sz es:=by
  intro c h0 sz es e hv
  cases c with
  | fn f caps=>cases caps <;> cases hv
  | _=>first | exact h0 sz es e hv | (cases hv; done)
 by_cases ht:∃ vs,v = .tuple vs
 ·obtain ⟨vs,rfl⟩:=ht
  exact ⟨fun _ _ _ h=>(by cases h),fun _ h=>(by cases h),fun _ _ _ h=>(by cases h)⟩
 by_cases hag:∃ cs,v = .agg cs
 ·obtain ⟨cs,rfl⟩:=hag
  refine ⟨fun _ _ _ h=>by (cases h),fun cs' hcs i sz es e hi=>?_,fun _ _ _ h=>by (cases h)⟩
  injection hcs with hcs
  subst hcs
  obtain ⟨c0,hc0,he⟩:=Zac hi
  exact hc c0 (fun sz es e hv=>h.2.1 cs rfl i sz es e (by rw [hc0,hv])) sz es e he
 ·have e1:v.zero = zeroC v:=by cases v <;> first | rfl | exact absurd ⟨_,rfl⟩ ht | exact absurd ⟨_,rfl⟩ hag
  rw [e1]
  refine ⟨hc v h.1,fun cs hcs=>?_,hu v h.2.2⟩
  have:=ZfF v
  rw [hcs] at this
  cases this
theorem ZhV {R:Type} {s:S} {v:V} {x:Option R} {r:R} (h:Zty s v x = some r):((∃ vs,v = .tuple vs ∧ ∀ i e j c,nth vs i = some e → nth e.cells j = some c → Zq6 s c) ∨ ((∀ vs,v ≠ .tuple vs) ∧ ∀ j c,nth v.cells j = some c → Zq6 s c)) ∧ x = some r:=by
 by_cases ht:∃ vs,v = .tuple vs
 ·obtain ⟨vs,rfl⟩:=ht
  obtain ⟨h1,h2⟩:=ZfD (l:=vs) h
  exact ⟨.inl ⟨vs,rfl,h1⟩,h2⟩
 ·have e1:Zty s v x = ZrW s v x:=by cases v <;> first | rfl | exact absurd ⟨_,rfl⟩ ht
  rw [e1] at h
  obtain ⟨h1,h2⟩:=ZhW h
  exact ⟨.inr ⟨fun vs hv=>ht ⟨vs,hv⟩,h1⟩,h2⟩
theorem ZaW.zero (hth:C.thaw = false) {f:FuncId} {as:List V} {v:V} {s':S} {rl:TypeId → Bool} (hrl:∀ o ob,nth s' o = some (some ob) → rl ob.elem = true → Zaw ob.es = true)
  {R:Type} {x:Option R} {r:R} (hcur:Zty s' v (Zhh rl s' s' x) = some r) (h:ZaW P C f as [] v s'):ZaW P C f as [] v.zero (ZsK rl s'):=by
 obtain ⟨hv,h2⟩:=ZhV hcur
 obtain ⟨hsc,_⟩:=Zc4 h2
 obtain ⟨q1,q2,q3⟩:=h
 refine ⟨ZoL q1,Nat.zero_le _,fun g w rvs keep hk hs hl ha=>?_⟩
 refine (q3 g w rvs keep hk hs hl ha).mono fun rv w' hw=>?_
 obtain ⟨g',k1,k2,k3⟩:=hw
 have hk0:keep = 0:=by simpa using hk
 subst hk0
 have hcur':∀ o ob i e j c,nth s' o = some (some ob) → nth ob.es i = some e → nth e.cells j = some c → Zq6 s' c:=fun o ob i e j c ho he hc=>by
  cases hr:rl ob.elem with
  | false=>exact hsc o ob i e j c ho hr he hc
  | true =>
   have:=Zbz (hrl o ob ho hr) i e j c he hc
   exact ⟨fun _ _ _ _ hcc=>(by rw [hcc] at this; cases this),fun _ _ _ _ hcc=>(by rw [hcc] at this; cases this)⟩
 have hob:∀ o ob,nth s' o = some (some ob) → ∃ x,nth g'.obs o = some (some x) ∧ x.1 = ob.ver:=fun o ob ho=>by
  obtain ⟨x,hx,hr⟩:=k2.obj o ob ho
  exact ⟨x,hx,hr.ver⟩
 have hz:ZsK rl s' = s'.map (Option.map fun ob=>{ ob with ver:=0,es:=ob.es.map Go.VM.zero1 }):=by
  unfold ZsK
  apply List.ext_getElem?
  intro o
  rw [List.getElem?_map,List.getElem?_map]
  cases ho:s'[o]? with
  | none=>rfl
  | some y =>
   cases y with
   | none=>rfl
   | some ob =>
    show some _ = some _
    have ho':nth s' o = some (some ob):=by rw [Zad]; exact ho
    simp only [Option.map_some]
    cases hr:rl ob.elem with
    | false=>rfl
    | true =>
     obtain ⟨x,hx,hrr⟩:=k2.obj o ob ho'
     have:ob.es.map Go.VM.zero1 = ob.es:=by
      apply List.ext_getElem?
      intro i
      rw [List.getElem?_map]
      cases he:ob.es[i]? with
      | none=>rfl
      | some e =>
       have he':nth ob.es i = some e:=by rw [Zad]; exact he
       show some _ = some _
       rw [Zr6 (hrr.cells_flat he') fun j c hc=>Zbz (hrl o ob ho' hr) i e j c he' hc]
     rw [this]
 rw [hz]
 refine ⟨g'.zero,⟨⟨k1.keeps.imm,k1.keeps.safe,k1.keeps.cell⟩,k1.size,k1.os,k1.tape,k1.output,k1.base,k1.susp,k1.low,k1.sus,Nat.zero_le _,fun o ho=>absurd ho (Nat.not_lt_zero o)⟩,k2.zero hth hcur',?_⟩
 rcases hv with ⟨vs,rfl,hvc⟩ | ⟨hnt,hvc⟩
 ·obtain ⟨us,rfl,hl2,hu⟩:=k3.tuple_inv
  refine .tuple _ us (by simp [hl2]) fun i c u p1 p2=>?_
  obtain ⟨c0,hc0,rfl⟩:=Zac p1
  exact (hu i c0 u hc0 p2).zero1 hob k2.sub fun j c hc=>hvc i c0 j c hc0 hc
 ·have e1:v.zero = Go.VM.zero1 v:=by cases v <;> first | rfl | exact absurd rfl (hnt _)
  rw [e1]
  exact k3.zero1 hob k2.sub hvc
theorem ZhG {v:V} (h:firmC v = true):firmC (zeroC v) = true:=by
 cases v with
 | fn g caps=>cases caps <;> rfl
 | _=>first | exact h | rfl
theorem ZfE {v:V} (h:firm1 v = true):firm1 (zero1 v) = true:=by
 by_cases hag:∃ cs,v = .agg cs
 ·obtain ⟨cs,rfl⟩:=hag
  show (cs.map zeroC).all firmC = true
  rw [List.all_map]
  exact List.all_eq_true.2 fun c hc=>ZhG (List.all_eq_true.1 h c hc)
 ·have e2:firm1 v = firmC v:=by cases v <;> first | rfl | exact absurd ⟨_,rfl⟩ hag
  have e1:zero1 v = zeroC v:=by cases v <;> first | rfl | exact absurd ⟨_,rfl⟩ hag
  rw [e2] at h
  rw [e1]
  have h3:=ZhG h
  generalize zeroC v = u at h3
  cases u <;> first | exact h3 | (cases h3; done)
theorem Zrm {v:V} (h:v.firm = true):v.zero.firm = true:=by
 by_cases hag:∃ vs,v = .tuple vs
 ·obtain ⟨cs,rfl⟩:=hag
  show (cs.map zero1).all firm1 = true
  rw [List.all_map]
  exact List.all_eq_true.2 fun c hc=>ZfE (List.all_eq_true.1 h c hc)
 ·have e2:v.firm = firm1 v:=by cases v <;> first | rfl | exact absurd ⟨_,rfl⟩ hag
  have e1:v.zero = zero1 v:=by cases v <;> first | rfl | exact absurd ⟨_,rfl⟩ hag
  rw [e2] at h
  rw [e1]
  have h3:=ZfE h
  generalize zero1 v = u at h3
  cases u <;> first | exact h3 | (cases h3; done)
theorem Zb9 (hC:Ok P C) {Φ:Zat} (hΦ:Zab P C Φ) {Λ:ZaB} {f:FuncId} {fn:Func} {c:Code} (hf:P.funcs[f]? = some fn) (hb:fn.body = some c)
  (hn : (fn.name == "runtime.NumGoroutine") = false) (hl : ZaR P C Λ c []) (hm : C.mode f = .fresh) (hth : C.thaw = false) {R : Type} {as : List V} {K : V → S → Option R} {r : R}
  (h:Zbw C Φ Λ f fn as [] (GF C.rl K) = some r):∃ v s',K v s' = some r ∧ ZcK P C f as v s':=by
 obtain ⟨v,s',h1,h2⟩:=ZfS hC hΦ hf hb hn hl (.inr hm) (fun _ _=>Nat.zero_le _) h
 unfold GF at h1
 generalize hks:gcL C.rl 0 v s' = ks at h1
 simp only at h1
 split at h1 <;> first | (cases h1; done) | skip
 rename_i hfv
 obtain ⟨hok,h3⟩:=Zaa h1
 obtain ⟨ho1,ho2⟩:=Zrp hok
 have hkd:Zbq ks = true:=by rw [← hks]; exact Zcx _ _
 obtain ⟨e1,e2⟩:=ZmT (f:=fun j=>Zc2 ks j 0) ho1
 have h4:=h2.gc hkd (fun i hi=>by simp at hi)
 rw [e1] at h3
 have hnr:∀ o ob,nth (ZhM ks (fun j=>Zc2 ks j 0) s') o = some (some ob) → (∀ i e,nth ob.es i = some e → firm1 e = true) ∧ (C.rl ob.elem = true → Zaw ob.es = true):=by
  intro o ob ho
  obtain ⟨j,ob0,hj,hs0,rfl⟩:=Zi7 ho
  have hbl:o < (ZgE C.rl s' ks).length:=by rw [e2]; exact Zau hj
  have hbo:nth (ZgE C.rl s' ks) o = some (!C.rl ob0.elem):=by
   unfold ZgE
   rw [ZbF hj,hs0]
  obtain ⟨q1,q2⟩:=ho2 o j _ ob0 hj hbo hs0
  refine ⟨fun i e he=>?_,fun hr=>?_⟩
  ·obtain ⟨e0,he0,rfl⟩:=Zac he
   exact Zgs (List.all_eq_true.1 q1 e0 (List.mem_of_getElem? (by rw [← Zad]; exact he0)))
  ·have hr':C.rl ob0.elem = true:=hr
   have:=q2 (by rw [hr']; rfl)
   rw [Zi4 this]
   exact this
 have h5:=ZaW.zero hth (fun o ob ho hr=>(hnr o ob ho).2 hr) h3 h4
 have h6:=(Zc4 (ZhV h3).2).2
 refine ⟨_,_,h6,Zrm (Zs1 hfv),fun o ob ho=>?_,h5⟩
 obtain ⟨z,hz,h7⟩:=Zac ho
 cases z with
 | none=>cases h7
 | some ob0 =>
  obtain ⟨q1,q2⟩:=hnr o ob0 hz
  simp only at h7
  cases hr:C.rl ob0.elem with
  | true =>
   rw [hr] at h7
   obtain rfl:=Option.some.inj h7
   exact ⟨q1,fun _=>q2 hr⟩
  | false =>
   rw [hr] at h7
   obtain rfl:=Option.some.inj h7
   refine ⟨fun i e he=>?_,fun hc=>?_⟩
   ·obtain ⟨e0,he0,rfl⟩:=Zac he
    exact ZfE (q1 i e0 he0)
   ·have hc':C.rl ob0.elem = true:=hc
    rw [hr] at hc'; cases hc'
theorem Zab.add_fresh {Φ:Zat} (hΦ:Zab P C Φ) {g:FuncId} {f:(R:Type) → List V → S → (V → S → Option R) → Option R} (hm:C.mode g = .fresh)
  (h:∀ (R:Type) (as:List V) (K:V → S → Option R) (r:R),f R as [] K = some r → ∃ v s',K v s' = some r ∧ ZcK P C g as v s'):Zab P C (Φ.add g f):=by
 intro R f' as s K r hr
 unfold Zat.add at hr
 split at hr
 ·rename_i hb
  obtain rfl:=Nat.eq_of_beq_eq_true hb
  rw [hm]
  intro hs
  subst hs
  exact h R as K r hr
 ·exact hΦ R f' as s K r hr
theorem Zjw {f:FuncId} {as:List V} {s:S} {R:Type} {K:V → S → Option R} {r:R} (hD:C.ty = D.ty) (hT:C.thaw = D.thaw) (h:∃ v s',K v s' = some r ∧ ZaW P D f as s v s'):∃ v s',K v s' = some r ∧ ZaW P C f as s v s':=by
 obtain ⟨v,s',h1,h2⟩:=h
 exact ⟨v,s',h1,h2.cfg hD hT⟩
theorem ZmW {f:FuncId} {as:List V} {R:Type} {K:V → S → Option R} {r:R} (hD:C.ty = D.ty) (hT:C.thaw = D.thaw) (hr:C.rl = D.rl) (h:∃ v s',K v s' = some r ∧ ZcK P D f as v s'):∃ v s',K v s' = some r ∧ ZcK P C f as v s':=by
 obtain ⟨v,s',h1,h2⟩:=h
 exact ⟨v,s',h1,h2.cfg hD hT hr⟩
theorem Zio {f:FuncId} {as:List V} {s:S} {R:Type} {K:V → S → Option R} {r:R} (objs rows:Bool) (kp:Option Nat) (inl:TypeId → Option (Nat × TypeId)) (keep raw lay:List Nat) (tri:List (Nat × Nat × Nat))
  (h:∃ v s',K v s' = some r ∧ ZaW P (C.rowed objs rows kp inl keep raw lay tri) f as s v s'):∃ v s',K v s' = some r ∧ ZaW P C f as s v s':=Zjw (D:=C.rowed objs rows kp inl keep raw lay tri) rfl rfl h
theorem ZbV {f:FuncId} {as:List V} {R:Type} {K:V → S → Option R} {r:R} (objs rows:Bool) (kp:Option Nat) (inl:TypeId → Option (Nat × TypeId)) (keep raw lay:List Nat) (tri:List (Nat × Nat × Nat))
  (h:∃ v s',K v s' = some r ∧ ZcK P (C.rowed objs rows kp inl keep raw lay tri) f as v s'):∃ v s',K v s' = some r ∧ ZcK P C f as v s':=ZmW (D:=C.rowed objs rows kp inl keep raw lay tri) rfl rfl rfl h
end
end Go.VM
