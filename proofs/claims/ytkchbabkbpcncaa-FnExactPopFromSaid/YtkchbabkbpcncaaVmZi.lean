/- A call that sees some objects alone: what it does stands in any state with those objects; and a call of whose new objects some are told. -/
import Derived.Test.YtkchbabkbpcncaaVmY
set_option linter.unusedSimpArgs false
set_option linter.unusedVariables false
namespace Go.VM
open Go.RowKit Go.Lib
def Zu3 (k:Nat):V → Bool
 | .arr o _ _ _=>Nat.blt o k
 | .ptr o _ _ _=>Nat.blt o k
 | .fn _ caps=>caps.isEmpty
 | .agg _=>false
 | .tuple _=>false
 | .cptr _=>false
 | _=>true
def Zv5 (k:Nat):V → Bool
 | .fn _ caps=>caps.all (Zu3 k)
 | v=>Zu3 k v
def Zwo (k:Nat):V → Bool
 | .agg cs=>cs.all (Zv5 k)
 | v=>Zv5 k v
def Ob.inR (k:Nat) (ob:Ob):Bool:=ob.es.all (Zwo k)
def Zbf {α:Type}:List α → List Nat → List α → List α
 | S,o :: os,x :: s'=>Zbf (Zai S o x) os s'
 | S,_,_=>S
def ZtJ (f:Nat → Option Nat) (s:S):S:=s.map (Option.map (Ob.rho f))
def ZcX (S:S) (os:List Nat) (s':Go.VM.S):Go.VM.S:=Zbf S os ((ZtJ (Za5 os S.length) s').take os.length) ++ (ZtJ (Za5 os S.length) s').drop os.length
section back
variable {α:Type}
theorem ZaE:∀ (S:List α) (os:List Nat) (r:List α),(Zbf S os r).length = S.length
 | S,[],r=>by unfold Zbf; rfl
 | S,o :: os,[]=>by unfold Zbf; rfl
 | S,o :: os,x :: r=>by unfold Zbf; rw [ZaE,Zak]
theorem ZdP:∀ {S:List α} {os:List Nat} {r:List α} {q:Nat},(∀ i,nth os i ≠ some q) → nth (Zbf S os r) q = nth S q
 | S,[],r,q,h=>by unfold Zbf; rfl
 | S,o :: os,[],q,h=>by unfold Zbf; rfl
 | S,o :: os,x :: r,q,h=>by
  unfold Zbf
  rw [ZdP (fun i=>h (i + 1)),Zaj]
  intro e
  exact h 0 (by rw [← e]; rfl)
theorem Zfo:∀ {S:List α} {os:List Nat} {r:List α} {i q:Nat},Zbq os = true → nth os i = some q → i < r.length → q < S.length → nth (Zbf S os r) q = nth r i
 | S,[],r,i,q,_,h,_,_=>by cases i <;> simp [nth] at h
 | S,o :: os,[],i,q,_,_,h,_=>by simp at h
 | S,o :: os,x :: r,i,q,hd,h,hi,hq=>by
  unfold Zbf
  cases i with
  | zero =>
   simp only [nth] at h
   obtain rfl:=Option.some.inj h
   rw [ZdP (fun i hc=>by have:=Zb7 hd (a:=0) (b:=i + 1) (j:=o) rfl hc; omega),Zk7 hq]
   rfl
  | succ i =>
   simp only [Zbq,Bool.and_eq_true] at hd
   exact Zfo hd.2 h (by simpa using hi) (by rw [Zak]; exact hq)
end back
section
variable {P:Program} {C:Cfg}
theorem Znc {f h:Nat → Option Nat} {k:Nat} (hh:∀ i,i < k → ∃ o,h i = some o ∧ f o = some i) {v:V} (hv:Zu3 k v = true):rho0 f (rho0 h v) = v:=by
 cases v <;> first | rfl | (cases hv; done) | skip
 ·rename_i o ver off len
  have hlt:o + 1 ≤ k:=by simpa [Zu3,Nat.blt] using hv
  obtain ⟨o',h1,h2⟩:=hh o (by omega)
  simp only [rho0,h1,h2]
 ·rename_i o ver i j
  have hlt:o + 1 ≤ k:=by simpa [Zu3,Nat.blt] using hv
  obtain ⟨o',h1,h2⟩:=hh o (by omega)
  simp only [rho0,h1,h2]
 ·rename_i q caps
  cases caps with
  | nil=>rfl
  | cons=>cases hv
theorem Zm1 {α:Type} {f:α → α} {l:List α} (h:∀ a ∈ l,f a = a):l.map f = l:=by
 induction l with
 | nil=>rfl
 | cons a l ih=>rw [List.map_cons,h a (by simp),ih fun b hb=>h b (by simp [hb])]
theorem Zm3 {f h:Nat → Option Nat} {k:Nat} (hh:∀ i,i < k → ∃ o,h i = some o ∧ f o = some i) {v:V} (hv:Zv5 k v = true):rhoC f (rhoC h v) = v:=by
 by_cases hfn:∃ q caps,v = .fn q caps
 ·obtain ⟨q,caps,rfl⟩:=hfn
  simp only [rhoC,List.map_map]
  congr 1
  exact Zm1 fun a ha=>Znc hh (List.all_eq_true.1 hv a ha)
 ·have e1:∀ u:V,(∀ q caps,u ≠ .fn q caps) → ∀ f,rhoC f u = rho0 f u:=fun u hu f=>by cases u <;> first | rfl | exact absurd rfl (hu _ _)
  have hv2:Zu3 k v = true:=by cases v <;> first | exact hv | exact absurd ⟨_,_,rfl⟩ hfn
  rw [e1 v (fun q caps e=>hfn ⟨q,caps,e⟩),e1 _ (fun q caps e=>?_)]
  ·exact Znc hh hv2
  ·cases v <;> simp only [rho0] at e <;> first | (cases e; done) | exact absurd ⟨_,_,rfl⟩ hfn | (split at e <;> cases e)
theorem Zoe {f h:Nat → Option Nat} {k:Nat} (hh:∀ i,i < k → ∃ o,h i = some o ∧ f o = some i) {v:V} (hv:Zwo k v = true):rho1 f (rho1 h v) = v:=by
 by_cases hag:∃ cs,v = .agg cs
 ·obtain ⟨cs,rfl⟩:=hag
  simp only [rho1,List.map_map]
  congr 1
  exact Zm1 fun a ha=>Zm3 hh (List.all_eq_true.1 hv a ha)
 ·have e1:∀ u:V,(∀ cs,u ≠ .agg cs) → ∀ f,rho1 f u = rhoC f u:=fun u hu f=>by cases u <;> first | rfl | exact absurd rfl (hu _)
  have hv2:Zv5 k v = true:=by cases v <;> first | exact hv | exact absurd ⟨_,rfl⟩ hag
  rw [e1 v (fun cs e=>hag ⟨cs,e⟩),e1 _ (fun cs e=>?_)]
  ·exact Zm3 hh hv2
  ·have:=Zc5 (f:=h) v
   rw [e] at this
   cases this
theorem Ob.rho_inv {f h:Nat → Option Nat} {k:Nat} (hh:∀ i,i < k → ∃ o,h i = some o ∧ f o = some i) {ob:Ob} (hv:ob.inR k = true):(ob.rho h).rho f = ob:=by
 unfold Ob.rho
 simp only [List.map_map]
 have:ob.es.map (Go.VM.rho1 f ∘ Go.VM.rho1 h) = ob.es:=Zm1 fun a ha=>Zoe hh (List.all_eq_true.1 hv a ha)
 rw [this]
theorem ZaW.gc {f:FuncId} {as:List V} {s s':S} {v:V} {ks:List Nat} (hd:Zbq ks = true) (hk:∀ i,i < s.length → nth ks i = some i) (h:ZaW P C f as s v s') :
  ZaW P C f as s (v.rho fun j=>Zc2 ks j 0) (ZhM ks (fun j=>Zc2 ks j 0) s'):=by
 obtain ⟨hst,hsl,hcall⟩:=h
 have hlen:s.length ≤ (ZhM ks (fun j=>Zc2 ks j 0) s').length:=by
  simp only [ZhM,List.length_map]
  by_cases h0:s.length = 0
  ·omega
  ·have:=Zau (hk (s.length - 1) (by omega))
   omega
 refine ⟨ZgA hst,hlen,fun g w rvs keep hkp hs hrl hargs=>?_⟩
 refine (hcall g w rvs keep hkp hs hrl hargs).mono fun rv w' ⟨g',hle,hs',hv⟩=>?_
 obtain ⟨h1,h2⟩:=hs'.select hd (f:=fun j=>Zc2 ks j 0) (fun j i hi=>by simpa using (Zf4 hi).2) (fun _=>False) (fun _ h=>h.elim) (fun _ _ _ _ _ _ h=>h) (fun _ _ _ _ _ _ _ h=>h)
 have hsu:(fun b=>g'.susp b ∨ False) = g'.susp:=by funext b; simp
 rw [hsu] at h1 h2
 refine ⟨_,?_,h1,hv.rho hs'.sub h2⟩
 exact {
  keeps:=⟨hle.keeps.imm,hle.keeps.safe,hle.keeps.cell⟩
  size:=hle.size
  os:=hle.os
  tape:=hle.tape
  output:=hle.output
  base:=hle.base
  susp:=hle.susp
  low:=hle.low
  sus:=hle.sus
  klen:=by
   show keep ≤ (ZpJ ks g'.obs).length
   simp only [ZpJ,List.length_map]
   simp only [ZhM,List.length_map] at hlen
   omega
  obs:=fun o ho x' hx=>by
   obtain ⟨j,hj,hx2⟩:=Zdj hx
   have:j = o:=by
    have:=hk o (by omega)
    rw [hj] at this
    exact Option.some.inj this
   subst this
   exact hle.obs j ho x' hx2 }
theorem ZaW.frames {f:FuncId} {S s0 s':Go.VM.S} {os:List Nat} (hd:Zbq os = true) (hl:s0.length = os.length)
  (hS:∀ i o,nth os i = some o → ∃ ob0,nth s0 i = some (some ob0) ∧ nth S o = some (some (ob0.rho (nth os))) ∧ ob0.inR os.length = true)
  {as0 as:List V} {v:V} (hlen:as0.length = as.length) (has:∀ (i:Nat) (a0 a:V),nth as0 i = some a0 → nth as i = some a → a = rho1 (nth os) a0 ∧ Zwo os.length a0 = true)
  (h:ZaW P C f as0 s0 v s'):ZaW P C f as S (v.rho (Za5 os S.length)) (ZcX S os s'):=by
 obtain ⟨hst,hsl,hcall⟩:=h
 have hinv:∀ i,i < os.length → ∃ o,nth os i = some o ∧ Zc2 os o 0 = some i:=by
  intro i hi
  obtain ⟨o,ho⟩:∃ o,nth os i = some o:=⟨os[i],by rw [Zad,List.getElem?_eq_getElem hi]⟩
  refine ⟨o,ho,?_⟩
  cases hp:Zc2 os o 0 with
  | some p =>
   have:=(Zf4 hp).2
   rw [Zb7 hd ho (by simpa using this)]
  | none =>
   exfalso
   have key:∀ {l:List Nat} {i m:Nat},nth l i = some o → Zc2 l o m ≠ none:=by
    intro l
    induction l with
    | nil=>intro i m h; cases i <;> simp [nth] at h
    | cons k l ih =>
     intro i m h
     simp only [Zc2]
     split
     ·simp
     ·rename_i hb
      cases i with
      | zero=>simp only [nth] at h; obtain rfl:=Option.some.inj h; simp at hb
      | succ i=>exact ih h
   exact key ho hp
 have hsel:ZhM os (fun j=>Zc2 os j 0) S = s0:=by
  apply List.ext_getElem?
  intro i
  by_cases hi:i < os.length
  ·obtain ⟨o,ho,_⟩:=hinv i hi
   obtain ⟨ob0,h1,h2,h3⟩:=hS i o ho
   rw [← Zad,← Zad,Zhd ho h2,Ob.rho_inv hinv h3,h1]
  ·rw [List.getElem?_eq_none (by simp [ZhM]; omega),List.getElem?_eq_none (by omega)]
 have hosS:∀ i o,nth os i = some o → o < S.length:=fun i o ho=>by
  obtain ⟨ob0,_,h2,_⟩:=hS i o ho
  exact Zau h2
 have hsl':os.length ≤ s'.length:=by omega
 have hrl2:(ZtJ (Za5 os S.length) s').length = s'.length:=by simp [ZtJ]
 have hSl:(ZcX S os s').length = S.length + (s'.length - os.length):=by simp [ZcX,ZaE,hrl2]
 refine ⟨ZgA hst,by rw [hSl]; omega,fun g w rvs keep hk hs hrl hargs=>?_⟩
 let fr:Nat → Prop:=fun b=>(∃ o' x,(∀ i,nth os i ≠ some o') ∧ nth g.obs o' = some (some x) ∧ 0 < x.2.2.2.1 ∧ x.2.1 = b) ∨ ∃ o' i j,(∀ i,nth os i ≠ some o') ∧ Zan [] S ZaI w g (.cell o' i j) b
 have hfrlt:∀ b,fr b → b < w.heap.size:=by
  rintro b (⟨o',x,_,hx,hp,rfl⟩ | ⟨o',i',j',_,hown⟩)
  ·obtain ⟨ob2,hob2⟩:=hs.gone o' x hx
   obtain ⟨arr,cap,b1,_⟩:=(hs.at_obj hob2 hx).blk
   exact ZaO (b1 hp)
  ·obtain ⟨_,_,_,c,rv,_,_,_,_,_,_,_,ho,_,_,_,hb,_,hok⟩:=Zan.cell_ok hs hown
   exact (hok.row ho hb).1
 obtain ⟨hsmall,hst1⟩:=hs.select hd (f:=fun j=>Zc2 os j 0) (fun j i hi=>by simpa using (Zf4 hi).2) fr hfrlt
  (fun i j x hj hx hpx hf=>by
   rcases hf with ⟨o',x',hne,hx',hp',he⟩ | ⟨o',i',j',hne,hown⟩
   ·have:=hs.inj o' j x' x hx' hx hp' hpx he
    subst this
    exact hne i hj
   ·obtain ⟨_,_,_,c,rv,_,_,_,_,_,_,_,ho,_,_,_,hb,_,hok⟩:=Zan.cell_ok hs hown
    exact (hok.row ho hb).2.2.2 j x hx hpx rfl)
  (fun i j a c b hj hown hf=>by
   rcases hf with ⟨o',x',hne,hx',hp',he⟩ | ⟨o',i',j',hne,hown'⟩
   ·obtain ⟨_,_,_,c,rv,_,_,_,_,_,_,_,ho,_,_,_,hb,_,hok⟩:=Zan.cell_ok hs hown
    exact (hok.row ho hb).2.2.2 o' x' hx' hp' he
   ·have:=hs.own _ _ b hown hown'
    injection this with e1
    subst e1
    exact hne i hj)
 rw [hsel] at hsmall
 let g1:G:={ g with obs:=ZpJ os g.obs,susp:=fun b=>g.susp b ∨ fr b }
 have hargs1:∀ (i:Nat) (c:V) (rv:Value),nth as0 i = some c → rvs[i]? = some rv → VR g1 w c rv ∧ c.still:=by
  intro i c rv hc hr
  have hia:i < as.length:=by rw [← hlen]; exact Zau hc
  have ha:nth as i = some as[i]:=by rw [Zad,List.getElem?_eq_getElem hia]
  obtain ⟨h1,h2⟩:=hargs i _ rv ha hr
  obtain ⟨e1,e2⟩:=has i c _ hc ha
  have h3:=h1.rho1 hs.sub hst1
  rw [e1,Zoe hinv e2] at h3
  refine ⟨h3,?_⟩
  rw [e1] at h2
  refine ⟨fun sz es e hv=>?_,fun cs hv i sz es e hcs=>?_,fun t sz es hv=>?_⟩
  rotate_right
  ·subst hv
   exact h2.2.2 t sz es rfl
  ·subst hv
   exact h2.1 sz es e rfl
  ·subst hv
   refine h2.2.1 _ rfl i sz es e ?_
   rw [ZbF hcs]
   rfl
 refine (hcall g1 w rvs os.length (by omega) hsmall (by rw [hlen]; exact hrl) hargs1).mono fun rv w' hw=>?_
 obtain ⟨g1',hle,hs',hv⟩:=hw
 have hol:=hs'.olen
 have hog:g.obs.length = S.length:=hs.olen
 let g':G:={ base:=g.base,imm:=g1'.imm,safe:=g1'.safe,susp:=g.susp,obs:=Zbf g.obs os (g1'.obs.take os.length) ++ g1'.obs.drop os.length }
 have hfr:∀ b,fr b → w'.heap[b]? = w.heap[b]? ∧ (∀ i,g1'.imm b i → g.imm b i) ∧ ∀ i,g1'.safe b i → g.safe b i:=fun b hb=>hle.sus b (.inr hb)
 have hsusp:∀ b,g1'.susp b ↔ g.susp b ∨ fr b:=fun b=>hle.susp b
 have htk:(g1'.obs.take os.length).length = os.length:=by rw [List.length_take]; omega
 have atfr:∀ q,q < S.length → (∀ i,nth os i ≠ some q) → nth g'.obs q = nth g.obs q:=by
  intro q hq hne
  show nth (Zbf _ _ _ ++ _) q = _
  rw [Zal (by rw [ZaE,hog]; exact hq),ZdP hne]
 have ato:∀ i o,nth os i = some o → nth g'.obs o = nth g1'.obs i:=by
  intro i o ho
  have hi:=Zau ho
  show nth (Zbf _ _ _ ++ _) o = _
  rw [Zal (by rw [ZaE,hog]; exact hosS i o ho),Zfo hd ho (by rw [htk]; exact hi) (by rw [hog]; exact hosS i o ho),Zad,List.getElem?_take_of_lt hi,← Zad]
 have atnew:∀ i,os.length ≤ i → nth g'.obs (S.length + (i - os.length)) = nth g1'.obs i:=by
  intro i hi
  show nth (Zbf _ _ _ ++ _) _ = _
  rw [ZaL (by rw [ZaE,hog]; omega),ZaE,hog,Zad,List.getElem?_drop,← Zad]
  congr 1
  omega
 have atrho:∀ i i',Za5 os S.length i = some i' → i < g1'.obs.length → i' < g'.obs.length ∧ nth g'.obs i' = nth g1'.obs i:=by
  intro i i' h hi
  unfold Za5 at h
  cases ho:nth os i with
  | some o =>
   rw [ho] at h
   obtain rfl:=Option.some.inj h
   refine ⟨?_,ato i o ho⟩
   show _ < (Zbf _ _ _ ++ _).length
   rw [List.length_append,ZaE,hog]
   have:=hosS i o ho
   omega
  | none =>
   rw [ho] at h
   obtain rfl:=Option.some.inj h
   have hge:os.length ≤ i:=by
    by_cases hlt:i < os.length
    ·exfalso
     rw [Zad,List.getElem?_eq_getElem hlt] at ho
     cases ho
    ·omega
   refine ⟨?_,atnew i hge⟩
   show _ < (Zbf _ _ _ ++ _).length
   rw [List.length_append,ZaE,hog,List.length_drop]
   omega
 have stands:StandsF g1' g' (Za5 os S.length):=⟨fun _ _ h=>h,fun _ _ h=>h,fun i i' hi h=>atrho i i' h hi⟩
 have cases_q:∀ q,q < g'.obs.length → (q < S.length ∧ (∀ i,nth os i ≠ some q)) ∨ ∃ i,i < g1'.obs.length ∧ Za5 os S.length i = some q:=by
  intro q hq
  have hgl:g'.obs.length = S.length + (g1'.obs.length - os.length):=by
   show (Zbf _ _ _ ++ _).length = _
   rw [List.length_append,ZaE,hog,List.length_drop]
  by_cases hlt:q < S.length
  ·by_cases hin:∃ i,nth os i = some q
   ·obtain ⟨i,hi⟩:=hin
    exact .inr ⟨i,by have:=Zau hi; omega,by simp [Za5,hi]⟩
   ·exact .inl ⟨hlt,fun i hi=>hin ⟨i,hi⟩⟩
  ·refine .inr ⟨os.length + (q - S.length),by omega,?_⟩
   have:nth os (os.length + (q - S.length)) = none:=by rw [Zad,List.getElem?_eq_none (by omega)]
   simp only [Za5,this]
   congr 1
   omega
 have atS:∀ q,q < S.length → (∀ i,nth os i ≠ some q) → nth (ZcX S os s') q = nth S q:=fun q h1 h2=>by
  simp only [ZcX]
  rw [Zal (by rw [ZaE]; exact h1),ZdP h2]
 have nthren:∀ i,nth (ZtJ (Za5 os S.length) s') i = (nth s' i).map (Option.map (Ob.rho (Za5 os S.length))):=fun i=>by rw [Zad,Zad]; simp [ZtJ]
 have atSo:∀ i i',Za5 os S.length i = some i' → i < s'.length → nth (ZcX S os s') i' = (nth s' i).map (Option.map (Ob.rho (Za5 os S.length))):=by
  intro i i' h hi
  simp only [ZcX]
  unfold Za5 at h
  cases ho:nth os i with
  | some o =>
   rw [ho] at h
   obtain rfl:=Option.some.inj h
   have hio:=Zau ho
   rw [Zal (by rw [ZaE]; exact hosS i o ho),Zfo hd ho (by rw [List.length_take,hrl2]; omega) (hosS i o ho),Zad,List.getElem?_take_of_lt hio,← Zad,nthren]
  | none =>
   rw [ho] at h
   obtain rfl:=Option.some.inj h
   have hge:os.length ≤ i:=by
    by_cases hlt:i < os.length
    ·exfalso
     rw [Zad,List.getElem?_eq_getElem hlt] at ho
     cases ho
    ·omega
   rw [ZaL (by rw [ZaE]; omega),ZaE,Zad,List.getElem?_drop,← Zad,← nthren]
   congr 1
   omega
 have cases_obs:∀ q x,nth g'.obs q = some (some x) → (q < S.length ∧ (∀ i,nth os i ≠ some q) ∧ nth g.obs q = some (some x)) ∨ ∃ i,Za5 os S.length i = some q ∧ nth g1'.obs i = some (some x):=by
  intro q x hx
  rcases cases_q q (Zau hx) with ⟨h1,h2⟩ | ⟨i,h1,h2⟩
  ·exact .inl ⟨h1,h2,by rw [← atfr q h1 h2]; exact hx⟩
  ·exact .inr ⟨i,h2,by rw [← (atrho i q h2 h1).2]; exact hx⟩
 have cases_S:∀ q ob2,nth (ZcX S os s') q = some (some ob2) → (q < S.length ∧ (∀ i,nth os i ≠ some q) ∧ nth S q = some (some ob2)) ∨ ∃ i ob1,Za5 os S.length i = some q ∧ nth s' i = some (some ob1) ∧ ob2 = ob1.rho (Za5 os S.length):=by
  intro q ob2 hx
  have hq:q < g'.obs.length:=by
   have:=Zau hx
   rw [hSl] at this
   show _ < (Zbf _ _ _ ++ _).length
   rw [List.length_append,ZaE,hog,List.length_drop]
   omega
  rcases cases_q q hq with ⟨h1,h2⟩ | ⟨i,h1,h2⟩
  ·exact .inl ⟨h1,h2,by rw [← atS q h1 h2]; exact hx⟩
  ·rw [atSo i q h2 (by omega)] at hx
   cases hn:nth s' i with
   | none=>rw [hn] at hx; cases hx
   | some y =>
    rw [hn] at hx
    cases y with
    | none=>cases hx
    | some ob1=>exact .inr ⟨i,ob1,h2,hn,(Option.some.inj (Option.some.inj hx)).symm⟩
 have keeps:Keeps g w g' w':=⟨hle.keeps.imm,hle.keeps.safe,hle.keeps.cell⟩
 have obsle:ObsLe g g':=by
  refine ⟨by show _ ≤ (Zbf _ _ _ ++ _).length; rw [List.length_append,ZaE]; omega,fun q hq x' hx'=>?_⟩
  rw [hog] at hq
  by_cases hin:∃ i,nth os i = some q
  ·obtain ⟨i,hi⟩:=hin
   rw [ato i q hi] at hx'
   obtain ⟨x,hx,h1,h2⟩:=hle.obs i (Zau hi) x' hx'
   obtain ⟨j,hj,hx2⟩:=Zdj hx
   obtain rfl:=Option.some.inj (hi.symm.trans hj)
   exact ⟨x,hx2,h1,h2⟩
  ·rw [atfr q hq fun i hi=>hin ⟨i,hi⟩] at hx'
   exact ⟨x',hx',Nat.le_refl _,fun _=>rfl⟩
 have le:Le keep g w g' w':={
  keeps:=keeps
  size:=hle.size
  os:=hle.os
  tape:=hle.tape
  output:=hle.output
  base:=rfl
  susp:=fun _=>Iff.rfl
  low:=fun b hb=>hle.low b hb
  sus:=fun b hb=>hle.sus b (.inl hb)
  klen:=by show _ ≤ (Zbf _ _ _ ++ _).length; rw [List.length_append,ZaE]; omega
  obs:=fun q hq x' hx'=>obsle.at_ q (by omega) x' hx' }
 have frblk:∀ q x,(∀ i,nth os i ≠ some q) → nth g.obs q = some (some x) → 0 < x.2.2.2.1 → fr x.2.1:=fun q x hne hx hp=>.inl ⟨q,x,hne,hx,hp,rfl⟩
 have newns:∀ i x,nth g1'.obs i = some (some x) → 0 < x.2.2.2.1 → ¬ fr x.2.1:=by
  intro i x hx hp hf
  obtain ⟨ob1,hob1⟩:=hs'.gone i x hx
  exact (hs'.at_obj hob1 hx).nsusp hp ((hsusp _).2 (.inr hf))
 have ownfr:∀ q i j b,(∀ i,nth os i ≠ some q) → Zan [] S ZaI w g (.cell q i j) b → fr b:=fun q i j b hne h=>.inr ⟨q,i,j,hne,h⟩
 have newown:∀ i k j b,Zan [] s' ZaI w' g1' (.cell i k j) b → ¬ fr b:=by
  intro i k j b hp hf
  obtain ⟨_,_,_,c,rv,_,_,_,_,_,_,_,ho,_,_,_,hb,_,hok⟩:=Zan.cell_ok hs' hp
  exact (hok.row ho hb).2.2.1 ((hsusp _).2 (.inr hf))
 have sideOld:∀ b,fr b → OwnSide g g' w w' b:=fun b hb=>⟨(hfr b hb).1,fun h=>h,(hfr b hb).2.1,fun o x hx hp he=>by
  rcases cases_obs o x hx with ⟨_,_,h⟩ | ⟨i,_,h⟩
  ·exact ⟨o,h⟩
  ·exact absurd (he ▸ hb) (newns i x h hp)⟩
 have sideNew:∀ b,¬ g1'.susp b → OwnSide g1' g' w' w' b:=fun b hb=>⟨rfl,fun h=>(hsusp b).2 (.inl h),fun _ h=>h,fun o x hx hp he=>by
  rcases cases_obs o x hx with ⟨h1,h2,h⟩ | ⟨i,_,h⟩
  ·exact absurd ((hsusp b).2 (.inr (he ▸ frblk o x h2 h hp))) hb
  ·exact ⟨i,h⟩⟩
 refine ⟨g',le,?_,hv.rho hs'.sub stands⟩
 have objR:∀ q ob2,nth (ZcX S os s') q = some (some ob2) → ∃ x,nth g'.obs q = some (some x) ∧ ObR C g' w' ob2 x:=by
  intro q ob2 ho2
  rcases cases_S q ob2 ho2 with ⟨hq,hqo,hq2⟩ | ⟨i,ob1,hi,h1,rfl⟩
  ·obtain ⟨x,hx,hr⟩:=hs.obj q ob2 hq2
   refine ⟨x,by rw [atfr q hq hqo]; exact hx,?_⟩
   have hb:=fun hp=>hfr _ (frblk q x hqo hx hp)
   obtain ⟨arr,cap,b1,b2,b3,b4,b5,b7,b6⟩:=hr.blk
   refine { ver:=hr.ver,esz:=hr.esz,ty:=hr.ty,known:=hr.known,blk:=⟨arr,cap,fun hp=>by rw [(hb hp).1]; exact b1 hp,b2,b3,b4,b5,b7,fun i e j c he hc=>?_⟩,sz:=hr.sz,flat:=hr.flat,base:=hr.base,nsusp:=hr.nsusp,nimm:=fun hp i hi=>hr.nimm hp i ((hb hp).2.1 i hi) }
   obtain ⟨rv,r1,r2,r3⟩:=b6 i e j c he hc
   refine ⟨rv,r1,r2.keeps hs.sub keeps obsle,r3.side rfl fun ho b hb'=>sideOld b (ownfr q i j b hqo (Zan.of_cell hq2 hx he hc ho (Zap (b1 (hr.real he hc)) r1) hb'))⟩
  ·obtain ⟨x,hx,hr⟩:=hs'.obj i ob1 h1
   refine ⟨x,by rw [(atrho i q hi (Zau hx)).2]; exact hx,?_⟩
   refine hr.rho hs'.sub stands (by show g.base = _; rw [hle.base]) (fun hp h=>hr.nsusp hp ((hsusp _).2 (.inl h))) hr.nimm fun i2 e k c rv b q1 q2 q3 q4 q5=>sideNew b ?_
   have:=Zan.of_cell (E:=[]) (a:=ZaI) h1 hx q1 q2 q3 q4 q5
   obtain ⟨_,_,_,c,rv,_,_,_,_,_,_,_,ho,_,_,_,hb,_,hok⟩:=Zan.cell_ok hs' this
   exact (hok.row ho hb).2.2.1
 have ownR:∀ q k j b,Zan [] (ZcX S os s') ZaI w' g' (.cell q k j) b → ((∀ i,nth os i ≠ some q) ∧ Zan [] S ZaI w g (.cell q k j) b) ∨ ∃ i,Za5 os S.length i = some q ∧ i < g1'.obs.length ∧ Zan [] s' ZaI w' g1' (.cell i k j) b:=by
  intro q k j b hp
  obtain ⟨ob2,x,el,c,rv,h1,h2,h3,h4,h0,h5,h6⟩:=hp
  rcases cases_S q ob2 h1 with ⟨hq,hqo,hq2⟩ | ⟨i,ob1,hi,hi2,rfl⟩
  ·rw [atfr q hq hqo] at h2
   refine .inl ⟨hqo,ob2,x,el,c,rv,hq2,h2,h3,h4,h0,?_,h6⟩
   rw [← h5]
   exact (Za2 (hfr _ (frblk q x hqo h2 ((hs.at_obj hq2 h2).real h3 h4))).1 _).symm
  ·obtain ⟨x1,hx1,hr⟩:=hs'.obj i ob1 hi2
   rw [(atrho i q hi (Zau hx1)).2] at h2
   obtain ⟨e0,c0,q1,q2,q3,q4⟩:=Zd5 hr h3 h4
   subst q3
   obtain ⟨m1,m2⟩:=Zdx h0
   rw [m2] at h6
   exact .inr ⟨i,hi,Zau hx1,ob1,x,e0,c0,rv,hi2,h2,q1,q2,m1,h5,h6⟩
 have rho_inj:∀ i i' q,i < g1'.obs.length → i' < g1'.obs.length → Za5 os S.length i = some q → Za5 os S.length i' = some q → i = i':=by
  intro i i' q hi hi' h h'
  unfold Za5 at h h'
  cases ho:nth os i with
  | some o =>
   rw [ho] at h
   obtain rfl:=Option.some.inj h
   cases ho':nth os i' with
   | some o' =>
    rw [ho'] at h'
    obtain rfl:=Option.some.inj h'
    exact Zb7 hd ho ho'
   | none =>
    rw [ho'] at h'
    have:=Option.some.inj h'
    have:=hosS i o ho
    omega
  | none =>
   rw [ho] at h
   have h1:=Option.some.inj h
   have hge:os.length ≤ i:=by
    by_cases hlt:i < os.length
    ·exfalso
     rw [Zad,List.getElem?_eq_getElem hlt] at ho
     cases ho
    ·omega
   cases ho':nth os i' with
   | some o' =>
    rw [ho'] at h'
    obtain rfl:=Option.some.inj h'
    have:=hosS i' o' ho'
    omega
   | none =>
    rw [ho'] at h'
    have h2:=Option.some.inj h'
    have hge':os.length ≤ i':=by
     by_cases hlt:i' < os.length
     ·exfalso
      rw [Zad,List.getElem?_eq_getElem hlt] at ho'
      cases ho'
     ·omega
    omega
 refine { len:=rfl,env:=fun t v hv=>by simp [nth] at hv,olen:=?_,obj:=objR,gone:=fun q x hx=>?_,inj:=fun q q' x x' hx hx' hp hp' he=>?_,own:=fun p q b hp hq=>?_,sub:=hs'.sub,immlt:=hs'.immlt,basele:=by have:=hs'.basele; rw [hle.base] at this; exact this,susplt:=fun b hb=>Nat.lt_of_lt_of_le (hs.susplt b hb) hle.size }
 ·rw [hSl]
  show (Zbf _ _ _ ++ _).length = _
  rw [List.length_append,ZaE,hog,List.length_drop,hol]
 ·rcases cases_obs q x hx with ⟨hq,hqo,hx2⟩ | ⟨i,hi,hx2⟩
  ·obtain ⟨ob2,hob2⟩:=hs.gone q x hx2
   exact ⟨ob2,by rw [atS q hq hqo]; exact hob2⟩
  ·obtain ⟨ob1,hob1⟩:=hs'.gone i x hx2
   exact ⟨_,by rw [atSo i q hi (Zau hob1),hob1]; rfl⟩
 ·rcases cases_obs q x hx with ⟨hq,hqo,hx2⟩ | ⟨i,hi,hx2⟩
  ·rcases cases_obs q' x' hx' with ⟨hq',hqo',hx2'⟩ | ⟨i',hi',hx2'⟩
   ·exact hs.inj q q' x x' hx2 hx2' hp hp' he
   ·exact absurd (he ▸ frblk q x hqo hx2 hp) (newns i' x' hx2' hp')
  ·rcases cases_obs q' x' hx' with ⟨hq',hqo',hx2'⟩ | ⟨i',hi',hx2'⟩
   ·exact absurd (he ▸ frblk q' x' hqo' hx2' hp') (newns i x hx2 hp)
   ·have:=hs'.inj i i' x x' hx2 hx2' hp hp' he
    subst this
    rw [hi] at hi'
    exact Option.some.inj hi'
 ·cases p with
  | slot t=>obtain ⟨c,rv,h1,_⟩:=hp; simp [nth] at h1
  | cell q1 k1 j1 =>
   cases q with
   | slot t=>obtain ⟨c,rv,h1,_⟩:=hq; simp [nth] at h1
   | cell q2 k2 j2 =>
    rcases ownR _ _ _ _ hp with ⟨a1,a2⟩ | ⟨i,ai,ai2,a2⟩
    ·rcases ownR _ _ _ _ hq with ⟨b1,b2⟩ | ⟨i',bi,bi2,b2⟩
     ·exact hs.own _ _ b a2 b2
     ·exact absurd (ownfr _ _ _ b a1 a2) (newown _ _ _ _ b2)
    ·rcases ownR _ _ _ _ hq with ⟨b1,b2⟩ | ⟨i',bi,bi2,b2⟩
     ·exact absurd (ownfr _ _ _ b b1 b2) (newown _ _ _ _ a2)
     ·have:=hs'.own _ _ b a2 b2
      injection this with h1 h2 h3
      subst h1 h2 h3
      rw [ai] at bi
      rw [Option.some.inj bi]
end
end Go.VM
