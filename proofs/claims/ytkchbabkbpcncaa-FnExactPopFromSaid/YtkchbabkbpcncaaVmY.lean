/- Frames that are known whole. -/
import Derived.Test.YtkchbabkbpcncaaVmX
import Derived.Carry
import Derived.WideShapes
set_option linter.unusedSimpArgs false
set_option linter.unusedVariables false
namespace Go.VM
open Go.RowKit Go.Lib
def Zma (k:Nat):List (Nat × V) → V
 | []=>.dead
 | (j,v) :: l=>match Nat.beq k j with
  | true=>v
  | false=>Zma k l
def mkF:Nat → Nat → List (Nat × V) → List V
 | _,0,_=>[]
 | k,n + 1,l=>Zma k l :: mkF (k + 1) n l
def ZdU (keep:List Nat):Nat → List V → Bool
 | _,[]=>true
 | k,v :: F=>match keep.any (Nat.beq k) with
  | true=>ZdU keep (k + 1) F
  | false=>match v with
   | .dead=>ZdU keep (k + 1) F
   | _=>false
theorem Zjt {k:Nat}:∀ {l:List (Nat × V)},(l.map (·.1)).any (Nat.beq k) = true → (k,Zma k l) ∈ l
 | [],h=>by simp at h
 | (j,v) :: l,h=>by
  unfold Zma
  cases hb:Nat.beq k j with
  | true =>
   have:=Nat.eq_of_beq_eq_true hb
   subst this
   simp
  | false =>
   simp only [List.map_cons,List.any_cons,hb,Bool.false_or] at h
   exact List.mem_cons_of_mem _ (Zjt h)
theorem ZhK {k:Nat}:∀ {l:List (Nat × V)},(l.map (·.1)).any (Nat.beq k) = false → Zma k l = .dead
 | [],_=>rfl
 | (j,v) :: l,h=>by
  simp only [List.map_cons,List.any_cons,Bool.or_eq_false_iff] at h
  unfold Zma
  rw [h.1]
  exact ZhK h.2
theorem Zfy {slots:List (Nat × V)}:∀ (F:List V) (k:Nat),ZdU (slots.map (·.1)) k F = true → (∀ j v,(j,v) ∈ slots → k ≤ j → nth F (j - k) = some v) → F = mkF k F.length slots
 | [],_,_,_=>rfl
 | v :: F,k,hr,hs=>by
  have rest:∀ j u,(j,u) ∈ slots → k + 1 ≤ j → nth F (j - (k + 1)) = some u:=fun j u hm hj=>by
   have:=hs j u hm (by omega)
   rw [show j - k = (j - (k + 1)) + 1 by omega] at this
   exact this
  show v :: F = Zma k slots :: mkF (k + 1) F.length slots
  simp only [ZdU] at hr
  cases hk:(slots.map (·.1)).any (Nat.beq k) with
  | true =>
   rw [hk] at hr
   have h0:=hs k _ (Zjt hk) (Nat.le_refl k)
   rw [Nat.sub_self] at h0
   simp only [nth] at h0
   rw [← Option.some.inj h0,← Zfy F (k + 1) hr rest]
  | false =>
   rw [hk] at hr
   rw [ZhK hk]
   cases v <;> first | (cases hr; done) | skip
   rw [← Zfy F (k + 1) hr rest]
theorem ZtE {slots:List (Nat × V)} {F:List V} {n:Nat} (hl:F.length = n) (hr:ZdU (slots.map (·.1)) 0 F = true) (hs:∀ j v,(j,v) ∈ slots → nth F j = some v):F = mkF 0 n slots:=by
 rw [← hl]
 exact Zfy F 0 hr fun j v hm _=>by rw [Nat.sub_zero]; exact hs j v hm
end Go.VM
set_option linter.unusedSimpArgs false
set_option linter.unusedVariables false
namespace Go.VM
open Go.RowKit Go.Lib
section
variable {R:Type}
def isN (a b:Nat) (K:Option R):Option R :=
 match Nat.beq a b with
 | true=>K
 | false=>none
def ZuA (e:TypeId) (f:Fl) (K:Option R):Option R :=
 match f with
 | .own e'=>isN e' e K
 | _=>none
def Zws (f:Fl) (K:Option R):Option R :=
 match f with
 | .sh=>K
 | _=>none
def Zr5 (s:S) (K:Ob → S → Option R):Option R :=
 match s with
 | some ob :: s=>K ob s
 | _=>none
def Zbd (s:S) (K:Option R):Option R :=
 match s with
 | []=>K
 | _=>none
def ZpK (ob:Ob) (esz:Nat) (elem:TypeId) (K:List V → Nat → Option R):Option R :=
 isN ob.esz esz (isN ob.elem elem (K ob.es ob.ver))
variable {r:R}
theorem ZaJ {a b:Nat} {K:Option R} (h:isN a b K = some r):a = b ∧ K = some r:=by
 unfold isN at h
 split at h <;> first | (cases h; done) | skip
 rename_i hh
 exact ⟨Nat.eq_of_beq_eq_true hh,h⟩
theorem Zow {e:TypeId} {f:Fl} {K:Option R} (h:ZuA e f K = some r):f = .own e ∧ K = some r:=by
 unfold ZuA at h
 split at h <;> first | (cases h; done) | skip
 have h2:=ZaJ h
 exact ⟨by rw [h2.1],h2.2⟩
theorem Zjy {f:Fl} {K:Option R} (h:Zws f K = some r):f = .sh ∧ K = some r:=by
 unfold Zws at h
 split at h <;> first | (cases h; done) | exact ⟨rfl,h⟩
theorem Zco {s:S} {K:Ob → S → Option R} (h:Zr5 s K = some r):∃ ob s',s = some ob :: s' ∧ K ob s' = some r:=by
 unfold Zr5 at h
 split at h <;> first | (cases h; done) | exact ⟨_,_,rfl,h⟩
theorem Zao {s:S} {K:Option R} (h:Zbd s K = some r):s = [] ∧ K = some r:=by
 unfold Zbd at h
 split at h <;> first | (cases h; done) | exact ⟨rfl,h⟩
theorem ZbN {ob:Ob} {esz:Nat} {elem:TypeId} {K:List V → Nat → Option R} (h:ZpK ob esz elem K = some r):∃ es ver,ob = ⟨es,esz,elem,ver⟩ ∧ K es ver = some r:=by
 unfold ZpK at h
 obtain ⟨h1,h3⟩:=ZaJ h
 obtain ⟨h2,h4⟩:=ZaJ h3
 obtain ⟨es,a,b,ver⟩:=ob
 simp only at h1 h2
 subst h1 h2
 exact ⟨_,_,rfl,h4⟩
end
theorem Zbt.add {P:Program} {C:Cfg} {Λ:ZaB} {b:Code} {q p:List Nat} {f:(R:Type) → List V → S → (X → List V → S → Option R) → Option R} (h:Zbt P C Λ b q) (hq:Zk4 q p = false):Zbt P C (Λ.add p f) b q:=by
 intro R E s K r hr
 unfold ZaB.add at hr
 rw [hq] at hr
 exact h R E s K r hr
theorem Zg0:∀ p:List Nat,Zk4 p p = true
 | []=>rfl
 | a :: l=>by simp only [Zk4,Nat.beq_refl,Zg0 l]
theorem ZaB.add_self {Λ:ZaB} {p:List Nat} {f:(R:Type) → List V → S → (X → List V → S → Option R) → Option R} {R:Type} {E:List V} {s:S} {K:X → List V → S → Option R}:(Λ.add p f) R p E s K = f R E s K:=by
 unfold ZaB.add
 rw [Zg0]
def Zbn (n:Nat) (keep:List Nat) (E:List V):Bool:=Nat.beq E.length n && ZdU keep 0 E
theorem Zbe {slots:List (Nat × V)} {keep:List Nat} {E:List V} {n:Nat} (h:Zbn n keep E = true) (hk:slots.map (·.1) = keep) (hs:∀ j v,(j,v) ∈ slots → nth E j = some v):E = mkF 0 n slots:=by
 unfold Zbn at h
 rw [Bool.and_eq_true] at h
 exact ZtE (Nat.eq_of_beq_eq_true h.1) (by rw [hk]; exact h.2) hs
theorem Za1 {E:List V}:∀ j v,(j,v) ∈ ([]:List (Nat × V)) → nth E j = some v:=fun j v h=>by cases h
theorem Zah {E:List V} {k:Nat} {u:V} {l:List (Nat × V)} (h:nth E k = some u) (hl:∀ j v,(j,v) ∈ l → nth E j = some v):∀ j v,(j,v) ∈ (k,u) :: l → nth E j = some v:=fun j v hm=>by
 rcases List.mem_cons.1 hm with he | hm
 ·injection he with h1 h2
  subst h1 h2
  exact h
 ·exact hl j v hm
end Go.VM
set_option linter.unusedSimpArgs false
set_option linter.unusedVariables false
namespace Go.VM
open Go.RowKit Go.Lib
theorem Zft.mono {P:Program} {f:FuncId} {rvs:Array Value} {w:World} {T T':Value → World → Prop} (h:Zft P f rvs w T) (ht:∀ v w',T v w' → T' v w'):Zft P f rvs w T' :=
 fun o a next Q hn=>h o a next Q fun v w' hv=>hn v w' (ht v w' hv)
section
variable {P:Program} {C:Cfg} {g g1:G} {w:World}
theorem Zk7 {α:Type} {l:List α} {k:Nat} {a:α} (h:k < l.length):nth (Zai l k a) k = some a:=by
 rw [Zad,ZaM,List.getElem?_set]; simp [h]
def Zwp {R:Type} (s:S) (o ver:Nat) (K:Ob → Option R):Option R :=
 match Zbs s o ver with
 | some ob=>K ob
 | none=>none
theorem Zkc {R:Type} {s:S} {o ver:Nat} {K:Ob → Option R} {r:R} (h:Zwp s o ver K = some r):∃ ob,nth s o = some (some ob) ∧ K ob = some r:=by
 unfold Zwp at h
 split at h <;> first | (cases h; done) | skip
 rename_i ob hob
 exact ⟨ob,(ZaY hob).1,h⟩
end
end Go.VM
namespace Go.VM
universe u
theorem Zjn {α:Sort u} (a:α):∃ b,b = a:=⟨a,rfl⟩
noncomputable def Zbh {α:Sort u} (a:α):α:=Classical.choose (Zjn a)
theorem ZaF {α:Sort u} (a:α):Zbh a = a:=Classical.choose_spec (Zjn a)
end Go.VM
set_option linter.unusedSimpArgs false
set_option linter.unusedVariables false
namespace Go.VM
open Go.RowKit Go.Lib
def ZuP (W:World) (c:V) (v:Value):Prop:=(∀ g:G,(∀ b i,b < W.heap.size → g.safe b i) → DR g W true c v) ∧ c.still
theorem Zny {P:Program} {W:World} {n:Nat} {t:TypeId} {v:Value} {H:Type} {enc:TypeId × Value → H} {base:Nat} {spare:Nat → Bool} {held:Bool} {d:DataW H} {ps:List MemPlace}
  (hc:v.cells.toList = [v]) (ho:ZlX P n t = true) (h:DataW.Trod enc P W base spare held t v d ps):∃ c,Zjm P n t [c] ∧ ZuP W c v:=by
 obtain ⟨fuel,hf⟩:=h
 obtain ⟨cs,h1,h2⟩:=ZrM n t v.cells.toList ho ⟨H,enc,base,spare,held,fuel,_,hf⟩
 rw [hc] at h2
 obtain ⟨hl,ha⟩:=h2
 match cs,hl,h1,ha with
 | [c],_,h1,ha =>
  obtain ⟨_,q2,q3⟩:=ha 0 c v rfl rfl
  exact ⟨c,h1,q3,q2⟩
def Zi6 (W:World):List V → List Value → Prop
 | [],[]=>True
 | c :: cs,v :: vs=>ZuP W c v ∧ Zi6 W cs vs
 | _,_=>False
theorem Zhy {W:World}:∀ {cs:List V} {vs:List Value},Zi6 W cs vs → cs.length = vs.length ∧ ∀ i c v,nth cs i = some c → nth vs i = some v → ZuP W c v
 | [],[],_=>⟨rfl,fun i c v h=>by simp [nth] at h⟩
 | c :: cs,v :: vs,h=>by
  obtain ⟨h1,h2⟩:=Zhy h.2
  refine ⟨by simp [h1],fun i c' v' hc hv=>?_⟩
  cases i with
  | zero=>simp only [nth] at hc hv; obtain rfl:=Option.some.inj hc; obtain rfl:=Option.some.inj hv; exact h.1
  | succ i=>exact h2 i c' v' hc hv
 | [],_ :: _,h=>h.elim
 | _ :: _,[],h=>h.elim
theorem Zut {P:Program} {C:Cfg} {Φ:Zat} {Λ:ZaB} (hC:Ok P C) (hΦ:Zab P C Φ) {g:FuncId} {fn:Func} {c:Code} (hf:P.funcs[g]? = some fn) (hb:fn.body = some c)
  (hn : (fn.name == "runtime.NumGoroutine") = false) (hl : ZaR P C Λ c []) (hm : C.mode g = .pure) (ho : C.ownRet g = false) {cs : List V} {rvs : List Value} {w : World}
  (h:Zbw C Φ Λ g fn cs [] (fun v _=>some v) = some (.bool true)) (ha:Zi6 w cs rvs) :
  Calls P g rvs.toArray w fun e w'=>e = .returned (.bool true) ∧ Below w.heap.size w w':=by
 obtain ⟨h1,h2⟩:=Zhy ha
 refine (ZrC hC hΦ hf hb hn hl hm ho h (rvs:=rvs.toArray) (by simpa using h1) fun i c rv hc hr=>?_).mono fun e w' he=>?_
 ·have hr':nth rvs i = some rv:=by rw [Zad]; simpa using hr
  exact h2 i c rv hc hr'
 ·obtain ⟨q1,q2,q3,q4,q5,q6⟩:=he
  exact ⟨q1,q4,q5,q6,q2,fun k hk=>q3 k hk⟩
theorem Zhr {P:Program} {n:Nat} {t e:TypeId} {c:V} (ht:P.underlying t = some (.slice e)) (h:Zjm P (n + 1) t [c]) :
  ∃ es,c = .list (P.cellsOf e) es .sh ∧ es.length ≤ maxLen ∧ ∀ el ∈ es,∃ ds,el = ZtV P e ds ∧ Zjm P n e ds:=by
 unfold Zjm at h
 rw [ht] at h
 obtain ⟨es,h1,h2,h3⟩:=h
 injection h1 with h1 _
 exact ⟨es,h1,h2,h3⟩
theorem Znx {P:Program} {n:Nat} {t:TypeId} {k:IntKind} {cs:List V} (ht:P.underlying t = some (.int k)) (h:Zjm P (n + 1) t cs):∃ z,cs = [.int k z] ∧ (Lit.int k z).wf = true:=by
 unfold Zjm at h
 rw [ht] at h
 exact h
theorem Zp0 {P:Program} {n:Nat} {t e:TypeId} {k:IntKind} {c:V} (ht:P.underlying t = some (.slice e)) (he:P.underlying e = some (.int k)) (h1:P.cellsOf e = 1) (h:Zjm P (n + 2) t [c]) :
  ∃ xs:List Int,c = .list 1 (xs.map (V.int k)) .sh ∧ xs.length ≤ maxLen ∧ ∀ x ∈ xs,(Lit.int k x).wf = true:=by
 obtain ⟨es,rfl,hl,hel⟩:=Zhr ht h
 rw [h1]
 have each:∀ el ∈ es,∃ z,el = V.int k z ∧ (Lit.int k z).wf = true:=fun el hm=>by
  obtain ⟨ds,rfl,hd⟩:=hel el hm
  obtain ⟨z,rfl,hz⟩:=Znx he hd
  exact ⟨z,by simp [ZtV,he,ZhJ],hz⟩
 clear hel h
 suffices ∃ xs:List Int,es = xs.map (V.int k) ∧ ∀ x ∈ xs,(Lit.int k x).wf = true by
  obtain ⟨xs,rfl,hx⟩:=this
  exact ⟨xs,rfl,by simpa using hl,hx⟩
 clear hl
 induction es with
 | nil=>exact ⟨[],rfl,by simp⟩
 | cons el es ih =>
  obtain ⟨z,rfl,hz⟩:=each el (by simp)
  obtain ⟨xs,rfl,hx⟩:=ih fun el hm=>each el (by simp [hm])
  exact ⟨z :: xs,rfl,by intro x hm; rcases List.mem_cons.1 hm with rfl | hm; exact hz; exact hx x hm⟩
end Go.VM
set_option linter.unusedSimpArgs false
set_option linter.unusedVariables false
namespace Go.VM
open Go.RowKit Go.Lib
theorem Zj8 {α:Type} {f:α → V} {q:α → Prop}:∀ {es:List V},(∀ el ∈ es,∃ a,el = f a ∧ q a) → ∃ l:List α,es = l.map f ∧ ∀ a ∈ l,q a
 | [],_=>⟨[],rfl,by simp⟩
 | el :: es,h=>by
  obtain ⟨a,rfl,ha⟩:=h el (by simp)
  obtain ⟨l,rfl,hl⟩:=Zj8 (es:=es) fun el hm=>h el (by simp [hm])
  exact ⟨a :: l,rfl,by intro x hm; rcases List.mem_cons.1 hm with rfl | hm; exact ha; exact hl x hm⟩
end Go.VM
set_option linter.unusedSimpArgs false
set_option linter.unusedVariables false
namespace Go.VM
open Go.RowKit Go.Lib
def ZkK {α:Type} (o:Option (Option α)):Option α:=match o with | some (some a)=>some a | _=>none
theorem Zhu {α:Type} {o:Option (Option α)} {a:α} (h:ZkK o = some a):o = some (some a):=by
 unfold ZkK at h
 split at h
 ·rw [Option.some.inj h]
 ·cases h
def ZhM (ks:List Nat) (f:Nat → Option Nat) (s:S):S:=ks.map fun j=>(ZkK (nth s j)).map (Ob.rho f)
def ZpJ (ks:List Nat) (l:List (Option (OX))):List (Option (OX)):=ks.map fun j=>ZkK (nth l j)
def Zc2:List Nat → Nat → Nat → Option Nat
 | [],_,_=>none
 | k :: l,j,i=>match Nat.beq k j with
  | true=>some i
  | false=>Zc2 l j (i + 1)
theorem Zf4:∀ {l:List Nat} {j i p:Nat},Zc2 l j i = some p → i ≤ p ∧ nth l (p - i) = some j
 | [],j,i,p,h=>by cases h
 | k :: l,j,i,p,h=>by
  simp only [Zc2] at h
  split at h
  ·rename_i hb
   obtain rfl:=Option.some.inj h
   exact ⟨Nat.le_refl _,by rw [Nat.sub_self,Nat.eq_of_beq_eq_true hb]; rfl⟩
  ·obtain ⟨h1,h2⟩:=Zf4 h
   refine ⟨by omega,?_⟩
   rw [show p - i = (p - (i + 1)) + 1 by omega]
   exact h2
def Zbq:List Nat → Bool
 | []=>true
 | k :: l=>!(l.any (Nat.beq k)) && Zbq l
theorem Zb7:∀ {l:List Nat},Zbq l = true → ∀ {a b j:Nat},nth l a = some j → nth l b = some j → a = b
 | [],_,a,b,j,ha,_=>by cases a <;> simp [nth] at ha
 | k :: l,h,a,b,j,ha,hb=>by
  simp only [Zbq,Bool.and_eq_true,Bool.not_eq_true'] at h
  have no:∀ n,nth l n = some k → False:=fun n hn=>by
   have:l.any (Nat.beq k) = true:=List.any_eq_true.2 ⟨k,List.mem_of_getElem? (by rw [← Zad]; exact hn),Nat.beq_refl k⟩
   rw [h.1] at this
   cases this
  cases a with
  | zero =>
   cases b with
   | zero=>rfl
   | succ b=>simp only [nth] at ha hb; obtain rfl:=Option.some.inj ha; exact (no b hb).elim
  | succ a =>
   cases b with
   | zero=>simp only [nth] at ha hb; obtain rfl:=Option.some.inj hb; exact (no a ha).elim
   | succ b=>simp only [nth] at ha hb; rw [Zb7 h.2 ha hb]
section
variable {P:Program} {C:Cfg} {g g':G} {w w':World} {f:Nat → Option Nat}
theorem Zan.cell_ok {s:S} (hs:Sim C g [] s ZaI w) {o i j b:Nat} (h:Zan [] s ZaI w g (.cell o i j) b):∃ ob x el c rv arr cap,nth s o = some (some ob) ∧ nth g.obs o = some (some x) ∧ ObR C g w ob x ∧ nth ob.es i = some el ∧ nth el.cells j = some c ∧ c.owns ∧
  w.heap[x.2.1]? = some (.cells arr ob.elem (C.fz ob.ver arr.size)) ∧ arr.size = (x.2.2.2.2 + cap) * ob.esz ∧ arr[(x.2.2.2.2 + i) * ob.esz + j]? = some rv ∧ c.blockOf rv = some b ∧ VR g w c rv ∧ OwnOk C g w c rv:=by
 obtain ⟨ob,x,el,c,rv,h1,h2,h3,h4,h0,h5,h6⟩:=h
 have hr:=hs.at_obj h1 h2
 obtain ⟨arr,cap,c1,_,c3,_,_,_,c6⟩:=hr.blk
 obtain ⟨rv2,r1,r2,r3⟩:=c6 i el j _ h3 h4
 have hrv:rv2 = rv:=by
  have:=Zap (c1 (hr.real h3 h4)) r1
  rw [this] at h5
  exact Option.some.inj h5
 subst hrv
 exact ⟨ob,x,el,_,rv2,arr,cap,h1,h2,hr,h3,h4,h0,c1 (hr.real h3 h4),c3,r1,h6,r2,r3⟩
theorem Zan.of_cell {s:S} {o i j b:Nat} {ob:Ob} {x:OX} {el c:V} {rv:Value} (h1:nth s o = some (some ob)) (h2:nth g.obs o = some (some x)) (h3:nth ob.es i = some el) (h4:nth el.cells j = some c) (h5:c.owns)
  {E:List V} {a:Act} (h6:w.cell? ⟨x.2.1,(x.2.2.2.2 + i) * ob.esz + j,none⟩ = some rv) (h7:c.blockOf rv = some b):Zan E s a w g (.cell o i j) b :=
 ⟨ob,x,el,c,rv,h1,h2,h3,h4,h5,h6,h7⟩
theorem Zi7 {ks:List Nat} {s:S} {i:Nat} {ob':Ob} (h:nth (ZhM ks f s) i = some (some ob')):∃ j ob,nth ks i = some j ∧ nth s j = some (some ob) ∧ ob' = ob.rho f:=by
 obtain ⟨j,hj,h2⟩:=Zac h
 cases hq:ZkK (nth s j) with
 | none=>rw [hq] at h2; cases h2
 | some ob =>
  rw [hq] at h2
  exact ⟨j,ob,hj,Zhu hq,(Option.some.inj h2).symm⟩
theorem Zdj {ks:List Nat} {l:List (Option (OX))} {i:Nat} {x:OX} (h:nth (ZpJ ks l) i = some (some x)):∃ j,nth ks i = some j ∧ nth l j = some (some x):=by
 obtain ⟨j,hj,h2⟩:=Zac h
 exact ⟨j,hj,Zhu h2⟩
theorem Zhd {ks:List Nat} {s:S} {i j:Nat} {ob:Ob} (hj:nth ks i = some j) (ho:nth s j = some (some ob)):nth (ZhM ks f s) i = some (some (ob.rho f)):=by
 show nth (ks.map _) i = _
 rw [ZbF hj,ho]
 rfl
theorem ZgX {ks:List Nat} {l:List (Option (OX))} {i j:Nat} (hj:nth ks i = some j) (hl:j < l.length):nth (ZpJ ks l) i = nth l j:=by
 show nth (ks.map _) i = _
 rw [ZbF hj]
 have:nth l j = some l[j]:=by rw [Zad,List.getElem?_eq_getElem hl]
 rw [this]
 cases l[j] <;> rfl
theorem Sim.select {s:S} (hs:Sim C g [] s ZaI w) {ks:List Nat} (hd:Zbq ks = true) (hf:∀ j i,f j = some i → nth ks i = some j) (M:Nat → Prop)
  (hM:∀ b,M b → b < w.heap.size) (hMo:∀ i j x,nth ks i = some j → nth g.obs j = some (some x) → 0 < x.2.2.2.1 → ¬ M x.2.1) (hMr:∀ i j a c b,nth ks i = some j → Zan [] s ZaI w g (.cell j a c) b → ¬ M b) :
  Sim C { g with obs:=ZpJ ks g.obs,susp:=fun b=>g.susp b ∨ M b } [] (ZhM ks f s) ZaI w ∧ StandsF g { g with obs:=ZpJ ks g.obs,susp:=fun b=>g.susp b ∨ M b } f:=by
 have hst:StandsF g { g with obs:=ZpJ ks g.obs,susp:=fun b=>g.susp b ∨ M b } f:=by
  refine ⟨fun _ _ h=>h,fun _ _ h=>h,fun i i' hi h=>?_⟩
  have hk:=hf i i' h
  exact ⟨by show _ < (ZpJ ks g.obs).length; simp only [ZpJ,List.length_map]; exact Zau hk,ZgX hk hi⟩
 refine ⟨{ len:=rfl,env:=fun t v hv=>by simp [nth] at hv,olen:=by simp [ZpJ,ZhM],obj:=fun i ob' ho=>?_,gone:=fun i x hx=>?_,inj:=fun i i' x x' hx hx' hp hp' he=>?_,own:=fun p q b hp hq=>?_,sub:=hs.sub,immlt:=hs.immlt,basele:=hs.basele,susplt:=fun b hb=>?_ },hst⟩
 ·obtain ⟨j,ob,hj,ho2,rfl⟩:=Zi7 ho
  obtain ⟨x,hx,hr⟩:=hs.obj j ob ho2
  refine ⟨x,(ZgX hj (Zau hx)).trans hx,hr.rho hs.sub hst rfl ?_ hr.nimm fun i e k c rv b q1 q2 q3 q4 q5=>?_⟩
  ·rintro hp (h | h)
   ·exact hr.nsusp hp h
   ·exact hMo i j x hj hx hp h
  ·refine ⟨rfl,fun h=>?_,fun _ h=>h,fun o' x' hx' _ _=>?_⟩
   ·rcases h with h | h
    ·exact h
    ·exact absurd h (hMr _ j i k b hj (Zan.of_cell ho2 hx q1 q2 q3 q4 q5))
   ·obtain ⟨j',_,hj'⟩:=Zdj hx'
    exact ⟨j',hj'⟩
 ·obtain ⟨j,hj,hx2⟩:=Zdj hx
  obtain ⟨ob,hob⟩:=hs.gone j x hx2
  exact ⟨_,Zhd hj hob⟩
 ·obtain ⟨j,hj,hx2⟩:=Zdj hx
  obtain ⟨j',hj',hx2'⟩:=Zdj hx'
  have:=hs.inj j j' x x' hx2 hx2' hp hp' he
  subst this
  exact Zb7 hd hj hj'
 ·have key:∀ {i a c b},Zan [] (ZhM ks f s) ZaI w { g with obs:=ZpJ ks g.obs,susp:=fun b=>g.susp b ∨ M b } (.cell i a c) b → ∃ j,nth ks i = some j ∧ Zan [] s ZaI w g (.cell j a c) b:=by
   intro i a c b hp
   obtain ⟨ob',x,el,c,rv,h1,h2,h3,h4,h0,h5,h6⟩:=hp
   obtain ⟨j,ob,hj,ho2,rfl⟩:=Zi7 h1
   obtain ⟨j',hj',hx2⟩:=Zdj h2
   obtain rfl:=Option.some.inj (hj.symm.trans hj')
   have hr:=hs.at_obj ho2 hx2
   obtain ⟨e0,c0,q1,q2,q3,q4⟩:=Zd5 hr h3 h4
   subst q3
   obtain ⟨m1,m2⟩:=Zdx h0
   rw [m2] at h6
   exact ⟨j,hj,ob,x,e0,c0,rv,ho2,hx2,q1,q2,m1,h5,h6⟩
  cases p with
  | slot t=>obtain ⟨c,rv,h1,_⟩:=hp; simp [nth] at h1
  | cell i1 a1 c1 =>
   cases q with
   | slot t=>obtain ⟨c,rv,h1,_⟩:=hq; simp [nth] at h1
   | cell i2 a2 c2 =>
    obtain ⟨j1,hj1,o1⟩:=key hp
    obtain ⟨j2,hj2,o2⟩:=key hq
    have:=hs.own _ _ b o1 o2
    injection this with e1 e2 e3
    subst e1 e2 e3
    rw [Zb7 hd hj1 hj2]
 ·rcases hb with h | h
  ·exact hs.susplt b h
  ·exact hM b h
end
end Go.VM
