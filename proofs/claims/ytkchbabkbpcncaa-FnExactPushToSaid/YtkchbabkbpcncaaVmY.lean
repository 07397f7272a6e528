/- Frames that are known whole. -/
import Derived.Test.YtkchbabkbpcncaaVmX
import Derived.Carry
import Derived.WideShapes
set_option linter.unusedSimpArgs false
set_option linter.unusedVariables false
namespace Go.VM
open Go.RowKit Go.Lib
def ZnA (k:Nat):List (Nat × V) → V
 | []=>.dead
 | (j,v) :: l=>match Nat.beq k j with
  | true=>v
  | false=>ZnA k l
def mkF:Nat → Nat → List (Nat × V) → List V
 | _,0,_=>[]
 | k,n + 1,l=>ZnA k l :: mkF (k + 1) n l
def ZdY (keep:List Nat):Nat → List V → Bool
 | _,[]=>true
 | k,v :: F=>match keep.any (Nat.beq k) with
  | true=>ZdY keep (k + 1) F
  | false=>match v with
   | .dead=>ZdY keep (k + 1) F
   | _=>false
theorem Zlr {k:Nat}:∀ {l:List (Nat × V)},(l.map (·.1)).any (Nat.beq k) = true → (k,ZnA k l) ∈ l
 | [],h=>by simp at h
 | (j,v) :: l,h=>by
  unfold ZnA
  cases hb:Nat.beq k j with
  | true =>
   have:=Nat.eq_of_beq_eq_true hb
   subst this
   simp
  | false =>
   simp only [List.map_cons,List.any_cons,hb,Bool.false_or] at h
   exact List.mem_cons_of_mem _ (Zlr h)
theorem Zig {k:Nat}:∀ {l:List (Nat × V)},(l.map (·.1)).any (Nat.beq k) = false → ZnA k l = .dead
 | [],_=>rfl
 | (j,v) :: l,h=>by
  simp only [List.map_cons,List.any_cons,Bool.or_eq_false_iff] at h
  unfold ZnA
  rw [h.1]
  exact Zig h.2
theorem ZfF {slots:List (Nat × V)}:∀ (F:List V) (k:Nat),ZdY (slots.map (·.1)) k F = true → (∀ j v,(j,v) ∈ slots → k ≤ j → nth F (j - k) = some v) → F = mkF k F.length slots
 | [],_,_,_=>rfl
 | v :: F,k,hr,hs=>by
  have rest:∀ j u,(j,u) ∈ slots → k + 1 ≤ j → nth F (j - (k + 1)) = some u:=fun j u hm hj=>by
   have:=hs j u hm (by omega)
   rw [show j - k = (j - (k + 1)) + 1 by omega] at this
   exact this
  show v :: F = ZnA k slots :: mkF (k + 1) F.length slots
  simp only [ZdY] at hr
  cases hk:(slots.map (·.1)).any (Nat.beq k) with
  | true =>
   rw [hk] at hr
   have h0:=hs k _ (Zlr hk) (Nat.le_refl k)
   rw [Nat.sub_self] at h0
   simp only [nth] at h0
   rw [← Option.some.inj h0,← ZfF F (k + 1) hr rest]
  | false =>
   rw [hk] at hr
   rw [Zig hk]
   cases v <;> first | (cases hr; done) | skip
   rw [← ZfF F (k + 1) hr rest]
theorem ZtR {slots:List (Nat × V)} {F:List V} {n:Nat} (hl:F.length = n) (hr:ZdY (slots.map (·.1)) 0 F = true) (hs:∀ j v,(j,v) ∈ slots → nth F j = some v):F = mkF 0 n slots:=by
 rw [← hl]
 exact ZfF F 0 hr fun j v hm _=>by rw [Nat.sub_zero]; exact hs j v hm
end Go.VM
set_option linter.unusedSimpArgs false
set_option linter.unusedVariables false
namespace Go.VM
open Go.RowKit Go.Lib
section
variable {R:Type}
def isN (a b:Nat) (K:Option R):Option R :=
 match Nat.beq a b with
 | true=>K
 | false=>none
def ZvI (e:TypeId) (f:Fl) (K:Option R):Option R :=
 match f with
 | .own e'=>isN e' e K
 | _=>none
def Zxd (f:Fl) (K:Option R):Option R :=
 match f with
 | .sh=>K
 | _=>none
def ZsY (s:S) (K:Ob → S → Option R):Option R :=
 match s with
 | some ob :: s=>K ob s
 | _=>none
def Zbb (s:S) (K:Option R):Option R :=
 match s with
 | []=>K
 | _=>none
def Zqw (ob:Ob) (esz:Nat) (elem:TypeId) (K:List V → Nat → Option R):Option R :=
 isN ob.esz esz (isN ob.elem elem (K ob.es ob.ver))
variable {r:R}
theorem ZaL {a b:Nat} {K:Option R} (h:isN a b K = some r):a = b ∧ K = some r:=by
 unfold isN at h
 split at h <;> first | (cases h; done) | skip
 rename_i hh
 exact ⟨Nat.eq_of_beq_eq_true hh,h⟩
theorem ZpL {e:TypeId} {f:Fl} {K:Option R} (h:ZvI e f K = some r):f = .own e ∧ K = some r:=by
 unfold ZvI at h
 split at h <;> first | (cases h; done) | skip
 have h2:=ZaL h
 exact ⟨by rw [h2.1],h2.2⟩
theorem Zj6 {f:Fl} {K:Option R} (h:Zxd f K = some r):f = .sh ∧ K = some r:=by
 unfold Zxd at h
 split at h <;> first | (cases h; done) | exact ⟨rfl,h⟩
theorem Zce {s:S} {K:Ob → S → Option R} (h:ZsY s K = some r):∃ ob s',s = some ob :: s' ∧ K ob s' = some r:=by
 unfold ZsY at h
 split at h <;> first | (cases h; done) | exact ⟨_,_,rfl,h⟩
theorem Zam {s:S} {K:Option R} (h:Zbb s K = some r):s = [] ∧ K = some r:=by
 unfold Zbb at h
 split at h <;> first | (cases h; done) | exact ⟨rfl,h⟩
theorem ZbP {ob:Ob} {esz:Nat} {elem:TypeId} {K:List V → Nat → Option R} (h:Zqw ob esz elem K = some r):∃ es ver,ob = ⟨es,esz,elem,ver⟩ ∧ K es ver = some r:=by
 unfold Zqw at h
 obtain ⟨h1,h3⟩:=ZaL h
 obtain ⟨h2,h4⟩:=ZaL h3
 obtain ⟨es,a,b,ver⟩:=ob
 simp only at h1 h2
 subst h1 h2
 exact ⟨_,_,rfl,h4⟩
end
theorem Zbs.add {P:Program} {C:Cfg} {Λ:ZaB} {b:Code} {q p:List Nat} {f:(R:Type) → List V → S → (X → List V → S → Option R) → Option R} (h:Zbs P C Λ b q) (hq:Zlg q p = false):Zbs P C (Λ.add p f) b q:=by
 intro R E s K r hr
 unfold ZaB.add at hr
 rw [hq] at hr
 exact h R E s K r hr
theorem Zhs:∀ p:List Nat,Zlg p p = true
 | []=>rfl
 | a :: l=>by simp only [Zlg,Nat.beq_refl,Zhs l]
theorem ZaB.add_self {Λ:ZaB} {p:List Nat} {f:(R:Type) → List V → S → (X → List V → S → Option R) → Option R} {R:Type} {E:List V} {s:S} {K:X → List V → S → Option R}:(Λ.add p f) R p E s K = f R E s K:=by
 unfold ZaB.add
 rw [Zhs]
def Zbi (n:Nat) (keep:List Nat) (E:List V):Bool:=Nat.beq E.length n && ZdY keep 0 E
theorem Za8 {slots:List (Nat × V)} {keep:List Nat} {E:List V} {n:Nat} (h:Zbi n keep E = true) (hk:slots.map (·.1) = keep) (hs:∀ j v,(j,v) ∈ slots → nth E j = some v):E = mkF 0 n slots:=by
 unfold Zbi at h
 rw [Bool.and_eq_true] at h
 exact ZtR (Nat.eq_of_beq_eq_true h.1) (by rw [hk]; exact h.2) hs
theorem ZaY {E:List V}:∀ j v,(j,v) ∈ ([]:List (Nat × V)) → nth E j = some v:=fun j v h=>by cases h
theorem Zae {E:List V} {k:Nat} {u:V} {l:List (Nat × V)} (h:nth E k = some u) (hl:∀ j v,(j,v) ∈ l → nth E j = some v):∀ j v,(j,v) ∈ (k,u) :: l → nth E j = some v:=fun j v hm=>by
 rcases List.mem_cons.1 hm with he | hm
 ·injection he with h1 h2
  subst h1 h2
  exact h
 ·exact hl j v hm
end Go.VM
set_option linter.unusedSimpArgs false
set_option linter.unusedVariables false
namespace Go.VM
open Go.RowKit Go.Lib
theorem Zgc.mono {P:Program} {f:FuncId} {rvs:Array Value} {w:World} {T T':Value → World → Prop} (h:Zgc P f rvs w T) (ht:∀ v w',T v w' → T' v w'):Zgc P f rvs w T' :=
 fun o a next Q hn=>h o a next Q fun v w' hv=>hn v w' (ht v w' hv)
section
variable {P:Program} {C:Cfg} {g g1:G} {w:World}
theorem Zke {α:Type} {l:List α} {k:Nat} {a:α} (h:k < l.length):nth (Zao l k a) k = some a:=by
 rw [Zad,ZaM,List.getElem?_set]; simp [h]
def Zxh {R:Type} (s:S) (o ver:Nat) (K:Ob → Option R):Option R :=
 match ZbH s o ver with
 | some ob=>K ob
 | none=>none
theorem Zj9 {R:Type} {s:S} {o ver:Nat} {K:Ob → Option R} {r:R} (h:Zxh s o ver K = some r):∃ ob,nth s o = some (some ob) ∧ K ob = some r:=by
 unfold Zxh at h
 split at h <;> first | (cases h; done) | skip
 rename_i ob hob
 exact ⟨ob,(Za5 hob).1,h⟩
end
end Go.VM
namespace Go.VM
universe u
theorem Zkt {α:Sort u} (a:α):∃ b,b = a:=⟨a,rfl⟩
noncomputable def Zbf {α:Sort u} (a:α):α:=Classical.choose (Zkt a)
theorem ZaE {α:Sort u} (a:α):Zbf a = a:=Classical.choose_spec (Zkt a)
end Go.VM
set_option linter.unusedSimpArgs false
set_option linter.unusedVariables false
namespace Go.VM
open Go.RowKit Go.Lib
def ZuV (W:World) (c:V) (v:Value):Prop:=(∀ g:G,(∀ b i,b < W.heap.size → g.safe b i) → DR g W true c v) ∧ c.still
theorem Zjn {P:Program} {W:World} {n:Nat} {t:TypeId} {v:Value} {H:Type} {enc:TypeId × Value → H} {base:Nat} {spare:Nat → Bool} {held:Bool} {d:DataW H} {ps:List MemPlace}
  (hc:v.cells.toList = [v]) (ho:Zmg P n t = true) (h:DataW.Trod enc P W base spare held t v d ps):∃ c,ZjS P n t [c] ∧ ZuV W c v:=by
 obtain ⟨fuel,hf⟩:=h
 obtain ⟨cs,h1,h2⟩:=ZrK n t v.cells.toList ho ⟨H,enc,base,spare,held,fuel,_,hf⟩
 rw [hc] at h2
 obtain ⟨hl,ha⟩:=h2
 match cs,hl,h1,ha with
 | [c],_,h1,ha =>
  obtain ⟨_,q2,q3⟩:=ha 0 c v rfl rfl
  exact ⟨c,h1,q3,q2⟩
def Zi5 (W:World):List V → List Value → Prop
 | [],[]=>True
 | c :: cs,v :: vs=>ZuV W c v ∧ Zi5 W cs vs
 | _,_=>False
theorem Zh1 {W:World}:∀ {cs:List V} {vs:List Value},Zi5 W cs vs → cs.length = vs.length ∧ ∀ i c v,nth cs i = some c → nth vs i = some v → ZuV W c v
 | [],[],_=>⟨rfl,fun i c v h=>by simp [nth] at h⟩
 | c :: cs,v :: vs,h=>by
  obtain ⟨h1,h2⟩:=Zh1 h.2
  refine ⟨by simp [h1],fun i c' v' hc hv=>?_⟩
  cases i with
  | zero=>simp only [nth] at hc hv; obtain rfl:=Option.some.inj hc; obtain rfl:=Option.some.inj hv; exact h.1
  | succ i=>exact h2 i c' v' hc hv
 | [],_ :: _,h=>h.elim
 | _ :: _,[],h=>h.elim
theorem ZuR {P:Program} {C:Cfg} {Φ:Zat} {Λ:ZaB} (hC:Ok P C) (hΦ:Zab P C Φ) {g:FuncId} {fn:Func} {c:Code} (hf:P.funcs[g]? = some fn) (hb:fn.body = some c)
  (hn : (fn.name == "runtime.NumGoroutine") = false) (hl : ZaU P C Λ c []) (hm : C.mode g = .pure) (ho : C.ownRet g = false) {cs : List V} {rvs : List Value} {w : World}
  (h:Zbw C Φ Λ g fn cs [] (fun v _=>some v) = some (.bool true)) (ha:Zi5 w cs rvs) :
  Calls P g rvs.toArray w fun e w'=>e = .returned (.bool true) ∧ Below w.heap.size w w':=by
 obtain ⟨h1,h2⟩:=Zh1 ha
 refine (Zr5 hC hΦ hf hb hn hl hm ho h (rvs:=rvs.toArray) (by simpa using h1) fun i c rv hc hr=>?_).mono fun e w' he=>?_
 ·have hr':nth rvs i = some rv:=by rw [Zad]; simpa using hr
  exact h2 i c rv hc hr'
 ·obtain ⟨q1,q2,q3,q4,q5,q6⟩:=he
  exact ⟨q1,q4,q5,q6,q2,fun k hk=>q3 k hk⟩
theorem ZhO {P:Program} {n:Nat} {t e:TypeId} {c:V} (ht:P.underlying t = some (.slice e)) (h:ZjS P (n + 1) t [c]) :
  ∃ es,c = .list (P.cellsOf e) es .sh ∧ es.length ≤ maxLen ∧ ∀ el ∈ es,∃ ds,el = ZuC P e ds ∧ ZjS P n e ds:=by
 unfold ZjS at h
 rw [ht] at h
 obtain ⟨es,h1,h2,h3⟩:=h
 injection h1 with h1 _
 exact ⟨es,h1,h2,h3⟩
theorem Zjr {P:Program} {n:Nat} {t:TypeId} {k:IntKind} {cs:List V} (ht:P.underlying t = some (.int k)) (h:ZjS P (n + 1) t cs):∃ z,cs = [.int k z] ∧ (Lit.int k z).wf = true:=by
 unfold ZjS at h
 rw [ht] at h
 exact h
theorem ZrQ {P:Program} {n:Nat} {t e:TypeId} {k:IntKind} {c:V} (ht:P.underlying t = some (.slice e)) (he:P.underlying e = some (.int k)) (h1:P.cellsOf e = 1) (h:ZjS P (n + 2) t [c]) :
  ∃ xs:List Int,c = .list 1 (xs.map (V.int k)) .sh ∧ xs.length ≤ maxLen ∧ ∀ x ∈ xs,(Lit.int k x).wf = true:=by
 obtain ⟨es,rfl,hl,hel⟩:=ZhO ht h
 rw [h1]
 have each:∀ el ∈ es,∃ z,el = V.int k z ∧ (Lit.int k z).wf = true:=fun el hm=>by
  obtain ⟨ds,rfl,hd⟩:=hel el hm
  obtain ⟨z,rfl,hz⟩:=Zjr he hd
  exact ⟨z,by simp [ZuC,he,ZhS],hz⟩
 clear hel h
 suffices ∃ xs:List Int,es = xs.map (V.int k) ∧ ∀ x ∈ xs,(Lit.int k x).wf = true by
  obtain ⟨xs,rfl,hx⟩:=this
  exact ⟨xs,rfl,by simpa using hl,hx⟩
 clear hl
 induction es with
 | nil=>exact ⟨[],rfl,by simp⟩
 | cons el es ih =>
  obtain ⟨z,rfl,hz⟩:=each el (by simp)
  obtain ⟨xs,rfl,hx⟩:=ih fun el hm=>each el (by simp [hm])
  exact ⟨z :: xs,rfl,by intro x hm; rcases List.mem_cons.1 hm with rfl | hm; exact hz; exact hx x hm⟩
end Go.VM
set_option linter.unusedSimpArgs false
set_option linter.unusedVariables false
namespace Go.VM
open Go.RowKit Go.Lib
theorem ZkF {α:Type} {f:α → V} {q:α → Prop}:∀ {es:List V},(∀ el ∈ es,∃ a,el = f a ∧ q a) → ∃ l:List α,es = l.map f ∧ ∀ a ∈ l,q a
 | [],_=>⟨[],rfl,by simp⟩
 | el :: es,h=>by
  obtain ⟨a,rfl,ha⟩:=h el (by simp)
  obtain ⟨l,rfl,hl⟩:=ZkF (es:=es) fun el hm=>h el (by simp [hm])
  exact ⟨a :: l,rfl,by intro x hm; rcases List.mem_cons.1 hm with rfl | hm; exact ha; exact hl x hm⟩
end Go.VM
set_option linter.unusedSimpArgs false
set_option linter.unusedVariables false
namespace Go.VM
open Go.RowKit Go.Lib
def Zln {α:Type} (o:Option (Option α)):Option α:=match o with | some (some a)=>some a | _=>none
theorem ZhJ {α:Type} {o:Option (Option α)} {a:α} (h:Zln o = some a):o = some (some a):=by
 unfold Zln at h
 split at h
 ·rw [Option.some.inj h]
 ·cases h
def Zh2 (ks:List Nat) (f:Nat → Option Nat) (s:S):S:=ks.map fun j=>(Zln (nth s j)).map (Ob.rho f)
def Zqv (ks:List Nat) (l:List (Option (OX))):List (Option (OX)):=ks.map fun j=>Zln (nth l j)
def Zdg:List Nat → Nat → Nat → Option Nat
 | [],_,_=>none
 | k :: l,j,i=>match Nat.beq k j with
  | true=>some i
  | false=>Zdg l j (i + 1)
theorem Zgv:∀ {l:List Nat} {j i p:Nat},Zdg l j i = some p → i ≤ p ∧ nth l (p - i) = some j
 | [],j,i,p,h=>by cases h
 | k :: l,j,i,p,h=>by
  simp only [Zdg] at h
  split at h
  ·rename_i hb
   obtain rfl:=Option.some.inj h
   exact ⟨Nat.le_refl _,by rw [Nat.sub_self,Nat.eq_of_beq_eq_true hb]; rfl⟩
  ·obtain ⟨h1,h2⟩:=Zgv h
   refine ⟨by omega,?_⟩
   rw [show p - i = (p - (i + 1)) + 1 by omega]
   exact h2
def Zbt:List Nat → Bool
 | []=>true
 | k :: l=>!(l.any (Nat.beq k)) && Zbt l
theorem Zb6:∀ {l:List Nat},Zbt l = true → ∀ {a b j:Nat},nth l a = some j → nth l b = some j → a = b
 | [],_,a,b,j,ha,_=>by cases a <;> simp [nth] at ha
 | k :: l,h,a,b,j,ha,hb=>by
  simp only [Zbt,Bool.and_eq_true,Bool.not_eq_true'] at h
  have no:∀ n,nth l n = some k → False:=fun n hn=>by
   have:l.any (Nat.beq k) = true:=List.any_eq_true.2 ⟨k,List.mem_of_getElem? (by rw [← Zad]; exact hn),Nat.beq_refl k⟩
   rw [h.1] at this
   cases this
  cases a with
  | zero =>
   cases b with
   | zero=>rfl
   | succ b=>simp only [nth] at ha hb; obtain rfl:=Option.some.inj ha; exact (no b hb).elim
  | succ a =>
   cases b with
   | zero=>simp only [nth] at ha hb; obtain rfl:=Option.some.inj hb; exact (no a ha).elim
   | succ b=>simp only [nth] at ha hb; rw [Zb6 h.2 ha hb]
section
variable {P:Program} {C:Cfg} {g g':G} {w w':World} {f:Nat → Option Nat}
theorem Zap.cell_ok {s:S} (hs:Sim C g [] s ZaK w) {o i j b:Nat} (h:Zap [] s ZaK w g (.cell o i j) b):∃ ob x el c rv arr cap,nth s o = some (some ob) ∧ nth g.obs o = some (some x) ∧ ObR C g w ob x ∧ nth ob.es i = some el ∧ nth el.cells j = some c ∧ c.owns ∧
  w.heap[x.2.1]? = some (.cells arr ob.elem (C.fz ob.ver arr.size)) ∧ arr.size = (x.2.2.2.2 + cap) * ob.esz ∧ arr[(x.2.2.2.2 + i) * ob.esz + j]? = some rv ∧ c.blockOf rv = some b ∧ VR g w c rv ∧ OwnOk C g w c rv:=by
 obtain ⟨ob,x,el,c,rv,h1,h2,h3,h4,h0,h5,h6⟩:=h
 have hr:=hs.at_obj h1 h2
 obtain ⟨arr,cap,c1,_,c3,_,_,_,c6⟩:=hr.blk
 obtain ⟨rv2,r1,r2,r3⟩:=c6 i el j _ h3 h4
 have hrv:rv2 = rv:=by
  have:=Zaq (c1 (hr.real h3 h4)) r1
  rw [this] at h5
  exact Option.some.inj h5
 subst hrv
 exact ⟨ob,x,el,_,rv2,arr,cap,h1,h2,hr,h3,h4,h0,c1 (hr.real h3 h4),c3,r1,h6,r2,r3⟩
theorem Zap.of_cell {s:S} {o i j b:Nat} {ob:Ob} {x:OX} {el c:V} {rv:Value} (h1:nth s o = some (some ob)) (h2:nth g.obs o = some (some x)) (h3:nth ob.es i = some el) (h4:nth el.cells j = some c) (h5:c.owns)
  {E:List V} {a:Act} (h6:w.cell? ⟨x.2.1,(x.2.2.2.2 + i) * ob.esz + j,none⟩ = some rv) (h7:c.blockOf rv = some b):Zap E s a w g (.cell o i j) b :=
 ⟨ob,x,el,c,rv,h1,h2,h3,h4,h5,h6,h7⟩
theorem Zi4 {ks:List Nat} {s:S} {i:Nat} {ob':Ob} (h:nth (Zh2 ks f s) i = some (some ob')):∃ j ob,nth ks i = some j ∧ nth s j = some (some ob) ∧ ob' = ob.rho f:=by
 obtain ⟨j,hj,h2⟩:=Zac h
 cases hq:Zln (nth s j) with
 | none=>rw [hq] at h2; cases h2
 | some ob =>
  rw [hq] at h2
  exact ⟨j,ob,hj,ZhJ hq,(Option.some.inj h2).symm⟩
theorem Zdq {ks:List Nat} {l:List (Option (OX))} {i:Nat} {x:OX} (h:nth (Zqv ks l) i = some (some x)):∃ j,nth ks i = some j ∧ nth l j = some (some x):=by
 obtain ⟨j,hj,h2⟩:=Zac h
 exact ⟨j,hj,ZhJ h2⟩
theorem Zhv {ks:List Nat} {s:S} {i j:Nat} {ob:Ob} (hj:nth ks i = some j) (ho:nth s j = some (some ob)):nth (Zh2 ks f s) i = some (some (ob.rho f)):=by
 show nth (ks.map _) i = _
 rw [ZbE hj,ho]
 rfl
theorem ZgY {ks:List Nat} {l:List (Option (OX))} {i j:Nat} (hj:nth ks i = some j) (hl:j < l.length):nth (Zqv ks l) i = nth l j:=by
 show nth (ks.map _) i = _
 rw [ZbE hj]
 have:nth l j = some l[j]:=by rw [Zad,List.getElem?_eq_getElem hl]
 rw [this]
 cases l[j] <;> rfl
theorem Sim.select {s:S} (hs:Sim C g [] s ZaK w) {ks:List Nat} (hd:Zbt ks = true) (hf:∀ j i,f j = some i → nth ks i = some j) (M:Nat → Prop)
  (hM:∀ b,M b → b < w.heap.size) (hMo:∀ i j x,nth ks i = some j → nth g.obs j = some (some x) → 0 < x.2.2.2.1 → ¬ M x.2.1) (hMr:∀ i j a c b,nth ks i = some j → Zap [] s ZaK w g (.cell j a c) b → ¬ M b) :
  Sim C { g with obs:=Zqv ks g.obs,susp:=fun b=>g.susp b ∨ M b } [] (Zh2 ks f s) ZaK w ∧ StandsF g { g with obs:=Zqv ks g.obs,susp:=fun b=>g.susp b ∨ M b } f:=by
 have hst:StandsF g { g with obs:=Zqv ks g.obs,susp:=fun b=>g.susp b ∨ M b } f:=by
  refine ⟨fun _ _ h=>h,fun _ _ h=>h,fun i i' hi h=>?_⟩
  have hk:=hf i i' h
  exact ⟨by show _ < (Zqv ks g.obs).length; simp only [Zqv,List.length_map]; exact Zav hk,ZgY hk hi⟩
 refine ⟨{ len:=rfl,env:=fun t v hv=>by simp [nth] at hv,olen:=by simp [Zqv,Zh2],obj:=fun i ob' ho=>?_,gone:=fun i x hx=>?_,inj:=fun i i' x x' hx hx' hp hp' he=>?_,own:=fun p q b hp hq=>?_,sub:=hs.sub,immlt:=hs.immlt,basele:=hs.basele,susplt:=fun b hb=>?_ },hst⟩
 ·obtain ⟨j,ob,hj,ho2,rfl⟩:=Zi4 ho
  obtain ⟨x,hx,hr⟩:=hs.obj j ob ho2
  refine ⟨x,(ZgY hj (Zav hx)).trans hx,hr.rho hs.sub hst rfl ?_ hr.nimm fun i e k c rv b q1 q2 q3 q4 q5=>?_⟩
  ·rintro hp (h | h)
   ·exact hr.nsusp hp h
   ·exact hMo i j x hj hx hp h
  ·refine ⟨rfl,fun h=>?_,fun _ h=>h,fun o' x' hx' _ _=>?_⟩
   ·rcases h with h | h
    ·exact h
    ·exact absurd h (hMr _ j i k b hj (Zap.of_cell ho2 hx q1 q2 q3 q4 q5))
   ·obtain ⟨j',_,hj'⟩:=Zdq hx'
    exact ⟨j',hj'⟩
 ·obtain ⟨j,hj,hx2⟩:=Zdq hx
  obtain ⟨ob,hob⟩:=hs.gone j x hx2
  exact ⟨_,Zhv hj hob⟩
 ·obtain ⟨j,hj,hx2⟩:=Zdq hx
  obtain ⟨j',hj',hx2'⟩:=Zdq hx'
  have:=hs.inj j j' x x' hx2 hx2' hp hp' he
  subst this
  exact Zb6 hd hj hj'
 ·have key:∀ {i a c b},Zap [] (Zh2 ks f s) ZaK w { g with obs:=Zqv ks g.obs,susp:=fun b=>g.susp b ∨ M b } (.cell i a c) b → ∃ j,nth ks i = some j ∧ Zap [] s ZaK w g (.cell j a c) b:=by
   intro i a c b hp
   obtain ⟨ob',x,el,c,rv,h1,h2,h3,h4,h0,h5,h6⟩:=hp
   obtain ⟨j,ob,hj,ho2,rfl⟩:=Zi4 h1
   obtain ⟨j',hj',hx2⟩:=Zdq h2
   obtain rfl:=Option.some.inj (hj.symm.trans hj')
   have hr:=hs.at_obj ho2 hx2
   obtain ⟨e0,c0,q1,q2,q3,q4⟩:=ZeB hr h3 h4
   subst q3
   obtain ⟨m1,m2⟩:=ZdI h0
   rw [m2] at h6
   exact ⟨j,hj,ob,x,e0,c0,rv,ho2,hx2,q1,q2,m1,h5,h6⟩
  cases p with
  | slot t=>obtain ⟨c,rv,h1,_⟩:=hp; simp [nth] at h1
  | cell i1 a1 c1 =>
   cases q with
   | slot t=>obtain ⟨c,rv,h1,_⟩:=hq; simp [nth] at h1
   | cell i2 a2 c2 =>
    obtain ⟨j1,hj1,o1⟩:=key hp
    obtain ⟨j2,hj2,o2⟩:=key hq
    have:=hs.own _ _ b o1 o2
    injection this with e1 e2 e3
    subst e1 e2 e3
    rw [Zb6 hd hj1 hj2]
 ·rcases hb with h | h
  ·exact hs.susplt b h
  ·exact hM b h
end
end Go.VM
