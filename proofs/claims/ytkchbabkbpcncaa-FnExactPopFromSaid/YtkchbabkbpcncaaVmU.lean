/- Tables of callees; a law's call. -/
import Derived.Test.YtkchbabkbpcncaaVmT
import Derived.ChangeArms
import GoSem.ClaimChange
set_option linter.unusedSimpArgs false
set_option linter.unusedVariables false
namespace Go.VM
open Go.RowKit Go.Lib
def Zf0:Zat:=fun _ _ _ _ _=>none
def Zat.add (Φ:Zat) (g:FuncId) (f:(R:Type) → List V → S → (V → S → Option R) → Option R):Zat:=fun R h as s K =>
 match Nat.beq h g with
 | true=>f R as s K
 | false=>Φ R h as s K
theorem ZlA (P:Program) (C:Cfg):Zab P C Zf0:=fun R f as s K r h=>by cases h
section
variable {P:Program} {C:Cfg} {Φ:Zat} {Λ:ZaB}
theorem Zab.add_pure (hΦ:Zab P C Φ) {g:FuncId} {f:(R:Type) → List V → S → (V → S → Option R) → Option R} (hm:C.mode g = .pure)
  (h:∀ (R:Type) (as:List V) (K:V → S → Option R) (r:R),f R as [] K = some r → ∃ v,K v [] = some r ∧ ZqH P g as v):Zab P C (Φ.add g f):=by
 intro R f' as s K r hr
 unfold Zat.add at hr
 split at hr
 ·rename_i hb
  obtain rfl:=Nat.eq_of_beq_eq_true hb
  rw [hm]
  intro hs
  subst hs
  exact h R as K r hr
 ·exact hΦ R f' as s K r hr
theorem Zab.add_own (hΦ:Zab P C Φ) {g:FuncId} {f:(R:Type) → List V → S → (V → S → Option R) → Option R} (hm:C.mode g = .own)
  (h:∀ (R:Type) (as:List V) (K:V → S → Option R) (r:R),f R as [] K = some r → ∃ v,K v [] = some r ∧ Zfz P C g as v):Zab P C (Φ.add g f):=by
 intro R f' as s K r hr
 unfold Zat.add at hr
 split at hr
 ·rename_i hb
  obtain rfl:=Nat.eq_of_beq_eq_true hb
  rw [hm]
  intro hs
  subst hs
  exact h R as K r hr
 ·exact hΦ R f' as s K r hr
theorem Zab.add_shared (hΦ:Zab P C Φ) {g:FuncId} {f:(R:Type) → List V → S → (V → S → Option R) → Option R} (hm:C.mode g = .shared)
  (h:∀ (R:Type) (as:List V) (s:S) (K:V → S → Option R) (r:R),f R as s K = some r → ∃ v s',K v s' = some r ∧ ZaW P C g as s v s'):Zab P C (Φ.add g f):=by
 intro R f' as s K r hr
 unfold Zat.add at hr
 split at hr
 ·rename_i hb
  obtain rfl:=Nat.eq_of_beq_eq_true hb
  rw [hm]
  exact h R as s K r hr
 ·exact hΦ R f' as s K r hr
theorem ZrC (hC:Ok P C) (hΦ:Zab P C Φ) {g:FuncId} {fn:Func} {c:Code} (hf:P.funcs[g]? = some fn) (hb:fn.body = some c)
  (hn : (fn.name == "runtime.NumGoroutine") = false) (hl : ZaR P C Λ c []) (hm : C.mode g = .pure) (ho : C.ownRet g = false) {as : List V}
  (h:Zbw C Φ Λ g fn as [] (fun v _=>some v) = some (.bool true)) {rvs:Array Value} {w:World} (hlen:as.length = rvs.size)
  (hargs:∀ (i:Nat) (c:V) (rv:Value),nth as i = some c → rvs[i]? = some rv → (∀ g:G,(∀ b i,b < w.heap.size → g.safe b i) → DR g w true c rv) ∧ c.still) :
  Calls P g rvs w fun e w'=>e = .returned (.bool true) ∧ w.heap.size ≤ w'.heap.size ∧ (∀ b,b < w.heap.size → w'.heap[b]? = w.heap[b]?) ∧ w'.os = w.os ∧ w'.tape = w.tape ∧ w'.output = w.output:=by
 obtain ⟨v,h1,hst,h2⟩:=ZaX hC hΦ hf hb hn hl hm ho h
 have hv:=Option.some.inj h1
 subst hv
 let gg:G:={ base:=0,imm:=fun b _=>b < w.heap.size,safe:=fun b _=>b < w.heap.size,susp:=fun _=>False,obs:=[] }
 have h3:=h2 gg w rvs (fun _ _ h=>h) (fun _ _ h=>h) hlen fun i c rv hc hr=>by
  obtain ⟨q1,q2⟩:=hargs i c rv hc hr
  exact ⟨(q1 gg fun _ _ h=>h).lower,q2⟩
 have hcall:(callFunc g rvs).run P w = .ok (.enter g rvs) w:=by
  have hn' : ¬ fn.name = "runtime.NumGoroutine" := by simpa using hn
  simp [callFunc,hf,hb,hn']
 have h4:=h3 { (default:Oper) with dst:=some 0 } { tmps:=#[undef],defers:=[] } (fun a' w'=>∃ rv,a'.tmps[0]? = some rv ∧ (rv = .bool true ∧ w.heap.size ≤ w'.heap.size ∧ (∀ b,b < w.heap.size → w'.heap[b]? = w.heap[b]?) ∧ w'.os = w.os ∧ w'.tape = w.tape ∧ w'.output = w.output)) (fun _ _ _=>False)
  fun rv w' hw=>by
   obtain ⟨k1,k2,k3,k4,k5,N,_,k7⟩:=hw
   refine ⟨rv,by simp [Act.put],?_,k1,k2,k3,k4,k5⟩
   cases k7
   rfl
 rw [hcall,Oper.upon_enter] at h4
 refine h4.mono fun e w' he=>?_
 cases e with
 | returned rv =>
  simp only at he
  obtain ⟨rv',e1,e2,rest⟩:=he
  simp [Act.put] at e1
  subst e1
  exact ⟨by rw [e2],rest⟩
 | panicked chain=>exact he.elim
 | outgrown =>
  exfalso
  simp only at he
  revert he
  unfold LetsOut
  intro he
  first | exact he | (obtain ⟨a,w,h⟩:=he; exact h) | (exact (he default w).elim) | (exact (he { tmps:=#[],defers:=[] } w).elim)
end
end Go.VM
set_option linter.unusedSimpArgs false
set_option linter.unusedVariables false
namespace Go.VM
open Go.RowKit Go.Lib
def Zn0 (P:Program):Nat → List Field → Nat → Bool
 | k,[],n=>Nat.beq k n
 | k,f :: fs,n=>Nat.beq f.offset k && Zn0 P (k + P.cellsOf f.type) fs n
def ZlX (P:Program):Nat → TypeId → Bool
 | 0,_=>false
 | n + 1,t=>match P.underlying t with
  | some (.int _)=>true
  | some .bool=>true
  | some .string=>true
  | some (.slice e)=>Nat.ble 1 (P.cellsOf e) && ZlX P n e
  | some (.struct fs)=>Zn0 P 0 fs.toList (P.cellsOf t) && fs.toList.all fun f=>ZlX P n f.type
  | _=>false
def ZtV (P:Program) (e:TypeId) (cs:List V):V :=
 match P.underlying e with
 | some (.struct _)=>.agg cs
 | _=>ZhJ cs
def Zjm (P:Program):Nat → TypeId → List V → Prop
 | 0,_,_=>False
 | n + 1,t,cs=>match P.underlying t with
  | some (.int k)=>∃ z,cs = [.int k z] ∧ (Lit.int k z).wf = true
  | some .bool=>∃ b,cs = [.bool b]
  | some .string=>∃ s,cs = [.str s] ∧ s.size ≤ maxLen
  | some (.slice e)=>∃ es,cs = [.list (P.cellsOf e) es .sh] ∧ es.length ≤ maxLen ∧ ∀ el ∈ es,∃ ds,el = ZtV P e ds ∧ Zjm P n e ds
  | some (.struct fs)=>cs.length = P.cellsOf t ∧ ∀ f ∈ fs.toList,Zjm P n f.type ((cs.drop f.offset).take (P.cellsOf f.type))
  | _=>False
theorem ZgO {α β:Type} {f:α → Option β}:∀ {l:List α} {ys:List β},l.mapM f = some ys → ys.length = l.length ∧ ∀ (j:Nat) (y:β),nth ys j = some y → ∃ x,nth l j = some x ∧ f x = some y
 | [],ys,h=>by
  simp at h; subst h
  exact ⟨rfl,fun j y h=>by simp [nth] at h⟩
 | a :: l,ys,h=>by
  rw [List.mapM_cons] at h
  simp only [Option.bind_eq_bind,Option.bind_eq_some_iff] at h
  obtain ⟨b,hb,ys',hy,h2⟩:=h
  have h3:b :: ys' = ys:=by simpa using h2
  subst h3
  obtain ⟨h4,h5⟩:=ZgO hy
  refine ⟨by simp [h4],fun j y hj=>?_⟩
  cases j with
  | zero=>simp only [nth] at hj; obtain rfl:=Option.some.inj hj; exact ⟨a,rfl,hb⟩
  | succ j=>exact h5 j y hj
theorem ZrN {α:Type} {p:Nat → α → Prop}:∀ (n:Nat),(∀ i,i < n → ∃ y,p i y) → ∃ l:List α,l.length = n ∧ ∀ i y,nth l i = some y → p i y
 | 0,_=>⟨[],rfl,fun i y h=>by simp [nth] at h⟩
 | n + 1,h=>by
  obtain ⟨l,h1,h2⟩:=ZrN n fun i hi=>h i (by omega)
  obtain ⟨y,hy⟩:=h n (by omega)
  refine ⟨l ++ [y],by simp [h1],fun i u hu=>?_⟩
  rcases Zax hu with ⟨_,h3⟩ | ⟨h3,h4⟩
  ·exact h2 i u h3
  ·subst h4; rw [h3,h1]; exact hy
def Zhs (W:World) (cs:List V) (rcs:List Value):Prop :=
 cs.length = rcs.length ∧ ∀ i c rv,nth cs i = some c → nth rcs i = some rv → c.solid = true ∧ c.still ∧ ∀ g:G,(∀ b i,b < W.heap.size → g.safe b i) → DR g W true c rv
theorem Zc1 {W:World} {c:V} {rv:Value} (hs:c.solid = true) (hst:c.still) (h:∀ g:G,(∀ b i,b < W.heap.size → g.safe b i) → DR g W true c rv):Zhs W [c] [rv] :=
 ⟨rfl,fun i c' rv' h1 h2=>by
  cases i with
  | zero=>simp only [nth] at h1 h2; obtain rfl:=Option.some.inj h1; obtain rfl:=Option.some.inj h2; exact ⟨hs,hst,h⟩
  | succ i=>simp [nth] at h1⟩
theorem Zoq {P:Program} {n:Nat} {e:TypeId} {ds:List V} (h:Zjm P n e ds) (hs:∀ i c,nth ds i = some c → c.solid = true):(ZtV P e ds).cells = ds:=by
 cases n with
 | zero=>exact h.elim
 | succ n =>
  unfold ZtV
  unfold Zjm at h
  split
  ·rfl
  ·rename_i hns
   have one:∃ c,ds = [c]:=by
    split at h
    ·obtain ⟨z,rfl,_⟩:=h; exact ⟨_,rfl⟩
    ·obtain ⟨z,rfl⟩:=h; exact ⟨_,rfl⟩
    ·obtain ⟨z,rfl,_⟩:=h; exact ⟨_,rfl⟩
    ·obtain ⟨z,rfl,_⟩:=h; exact ⟨_,rfl⟩
    ·rename_i fs hfs; exact absurd hfs (hns fs)
    ·exact h.elim
   obtain ⟨c,rfl⟩:=one
   have:=hs 0 c rfl
   show c.cells = [c]
   cases c <;> first | rfl | (cases this; done)
theorem Zg8 {P:Program} {W:World} (n:Nat) (rcs:List Value) (ih:∀ (t:TypeId) (r:List Value),ZlX P n t = true → (∃ H enc base spare held fuel,∃ x,@DataW.trod H enc P W base spare held fuel t r = some x) → ∃ cs,Zjm P n t cs ∧ Zhs W cs r) :
  ∀ (fs:List Field) (k m:Nat),Zn0 P k fs m = true → m = rcs.length → (∀ f ∈ fs,ZlX P n f.type = true) →
   (∀ f ∈ fs,∃ H enc base spare held fuel,∃ x,@DataW.trod H enc P W base spare held fuel f.type ((rcs.drop f.offset).take (P.cellsOf f.type)) = some x) →
   ∃ cs:List V,k + cs.length = m ∧ Zhs W cs (rcs.drop k) ∧ ∀ f ∈ fs,k ≤ f.offset ∧ Zjm P n f.type ((cs.drop (f.offset - k)).take (P.cellsOf f.type))
 | [],k,m,hc,hm,_,_=>by
  have:=Nat.eq_of_beq_eq_true hc
  subst this
  refine ⟨[],rfl,⟨by simp [hm],fun i c rv h=>by simp [nth] at h⟩,by simp⟩
 | f :: fs,k,m,hc,hm,ho,ht=>by
  simp only [Zn0,Bool.and_eq_true] at hc
  have hoff:=Nat.eq_of_beq_eq_true hc.1
  obtain ⟨ds,h1,h2⟩:=ih f.type _ (ho f (by simp)) (ht f (by simp))
  obtain ⟨cs,h3,h4,h5⟩:=Zg8 n rcs ih fs (k + P.cellsOf f.type) m hc.2 hm (fun g hg=>ho g (by simp [hg])) (fun g hg=>ht g (by simp [hg]))
  have hdl:ds.length = P.cellsOf f.type:=by
   rw [h2.1,hoff]; simp; omega
  refine ⟨ds ++ cs,by simp [hdl]; omega,⟨by simp [hdl]; omega,fun i c rv hi hr=>?_⟩,fun g hg=>?_⟩
  ·have hr':nth rcs (k + i) = some rv:=ZbQ hr
   by_cases hlt:i < ds.length
   ·rw [Zal hlt] at hi
    refine h2.2 i c rv hi ?_
    rw [hoff,Zad,List.getElem?_take,if_pos (by omega),List.getElem?_drop,← Zad]
    exact hr'
   ·rw [ZaL (by omega)] at hi
    refine h4.2 _ c rv hi ?_
    rw [Zad,List.getElem?_drop,← Zad,← hr']
    congr 1
    omega
  ·rcases List.mem_cons.1 hg with rfl | hg
   ·refine ⟨by omega,?_⟩
    rw [hoff,Nat.sub_self,List.drop_zero,← hdl,List.take_left]
    exact h1
   ·obtain ⟨q1,q2⟩:=h5 g hg
    refine ⟨by omega,?_⟩
    have e1:(ds ++ cs).drop (g.offset - k) = cs.drop (g.offset - (k + P.cellsOf f.type)):=by
     rw [List.drop_append,List.drop_eq_nil_of_le (by omega),List.nil_append]
     congr 1
     omega
    rw [e1]
    exact q2
theorem ZrM {P:Program} {W:World}:∀ (n:Nat) (t:TypeId) (r:List Value),ZlX P n t = true → (∃ H enc base spare held fuel,∃ x,@DataW.trod H enc P W base spare held fuel t r = some x) → ∃ cs,Zjm P n t cs ∧ Zhs W cs r
 | 0,t,r,h,_=>by cases h
 | n + 1,t,r,h,hx=>by
  obtain ⟨H,enc,base,spare,held,fuel,x,hx⟩:=hx
  unfold ZlX at h
  unfold Zjm
  split at h
  ·rename_i k hu
   cases fuel with
   | zero=>simp [DataW.trod] at hx
   | succ fuel =>
    unfold DataW.trod at hx
    rw [hu] at hx
    split at hx <;> simp_all
    rename_i z _ _
    exact ⟨_,⟨_,rfl,hx.1.2⟩,Zc1 rfl (by simp [V.still]) fun g _=>.int _ _⟩
  ·rename_i hu
   cases fuel with
   | zero=>simp [DataW.trod] at hx
   | succ fuel =>
    unfold DataW.trod at hx
    rw [hu] at hx
    split at hx <;> simp_all
    have hb:∀ b:Bool,Zhs W [V.bool b] [Value.bool b]:=fun b=>Zc1 rfl (by simp [V.still]) fun g _=>.bool b
    first
     | (rename_i b _ _; cases b <;> simp [hb])
     | (rename_i b _; cases b <;> simp [hb])
     | (rename_i b; cases b <;> simp [hb])
  ·rename_i hu
   cases fuel with
   | zero=>simp [DataW.trod] at hx
   | succ fuel =>
    unfold DataW.trod at hx
    rw [hu] at hx
    split at hx <;> simp_all
    exact ⟨_,⟨_,rfl,hx.1⟩,Zc1 rfl (by simp [V.still]) fun g _=>.str _⟩
  ·rename_i e hu
   rw [Bool.and_eq_true] at h
   have hce:=Nat.le_of_ble_eq_true h.1
   rcases DataW.trod_slice hu hx with ⟨rfl,_⟩ | ⟨a,len,cap,elems,rest,m,_,rfl,_,hb,hl,hm,hlen,hel,_,_⟩
   ·refine ⟨_,⟨[],rfl,Nat.zero_le _,by simp⟩,Zc1 rfl (by simp [V.still]) fun g _=>DR.nil _ _ (by simp)⟩
   ·obtain ⟨es,e1,e2⟩:=ZrN (p:=fun i (el:V)=>∃ ds rcs,el = ZtV P e ds ∧ el.cells = ds ∧ Zjm P n e ds ∧ Zhs W ds rcs ∧ rcs.length = P.cellsOf e ∧ ∀ j rv,nth rcs j = some rv → W.cell? ((a.add (i * P.cellsOf e)).add j) = some rv) len fun i hi=>by
     have hi2:=hel i hi
     rw [List.getElem?_eq_getElem (by omega)] at hi2
     rw [Option.bind_eq_some_iff] at hi2
     obtain ⟨rcs,hr1,hr2⟩:=hi2
     obtain ⟨ds,d1,d2⟩:=ZrM n e rcs h.2 ⟨H,enc,base,spare,held,m,_,hr2⟩
     unfold World.cells? at hr1
     split at hr1 <;> first | (cases hr1; done) | skip
     obtain ⟨m1,m2⟩:=ZgO hr1
     have hsol:∀ i c,nth ds i = some c → c.solid = true:=fun i c hc=>by
      have hlt:i < rcs.length:=by rw [← d2.1]; exact Zau hc
      exact (d2.2 i c rcs[i] hc (by rw [Zad,List.getElem?_eq_getElem hlt])).1
     refine ⟨ZtV P e ds,ds,rcs,rfl,Zoq d1 hsol,d1,d2,by simpa using m1,fun j rv hj=>?_⟩
     obtain ⟨y,hy,hc⟩:=m2 j rv hj
     rw [Zad] at hy
     have hjl:j < P.cellsOf e:=by have:=Zau hj; rw [m1] at this; simpa using this
     rw [List.getElem?_range hjl] at hy
     obtain rfl:=Option.some.inj hy
     exact hc
    have hA:es = [] ∨ ∃ b off,a = ⟨b,off,none⟩ ∧ b < W.heap.size:=by
     cases hes:es with
     | nil=>exact .inl rfl
     | cons el es' =>
      right
      obtain ⟨ds,rcs,_,_,_,_,q5,q6⟩:=e2 0 el (by rw [hes]; rfl)
      have hr0:nth rcs 0 = some (rcs[0]'(by omega)):=by rw [Zad,List.getElem?_eq_getElem]
      have:=q6 0 _ hr0
      have e0:(a.add (0 * P.cellsOf e)).add 0 = a:=by simp [Addr.add]
      rw [e0] at this
      have hlt:=World.block_lt_of_cell? W a this
      obtain ⟨b,off,sp⟩:=a
      cases sp with
      | none=>exact ⟨b,off,rfl,hlt⟩
      | some q =>
       exfalso
       unfold World.cell? at this
       split at this <;> simp at this
    refine ⟨_,⟨es,rfl,by omega,fun el hel2=>?_⟩,Zc1 rfl (by simp [V.still]) fun g hg=>?_⟩
    ·obtain ⟨i,hi⟩:=List.getElem?_of_mem hel2
     obtain ⟨ds,rcs,q1,q2,q3,_⟩:=e2 i el (by rw [Zad]; exact hi)
     exact ⟨ds,q1,q3⟩
    ·have cellsof:∀ i el j c,nth es i = some el → nth el.cells j = some c → ∃ rv,W.cell? ((a.add (i * P.cellsOf e)).add j) = some rv ∧ c.solid = true ∧ DR g W true c rv:=by
      intro i el j c hi hj
      obtain ⟨ds,rcs,q1,q2,q3,q4,q5,q6⟩:=e2 i el hi
      rw [q2] at hj
      have hlt:j < rcs.length:=by rw [← q4.1]; exact Zau hj
      have hr:nth rcs j = some rcs[j]:=by rw [Zad,List.getElem?_eq_getElem hlt]
      obtain ⟨s1,_,s3⟩:=q4.2 j c _ hj hr
      exact ⟨_,q6 j _ hr,s1,s3 g hg⟩
     have szs:∀ i el,nth es i = some el → el.cells.length = P.cellsOf e:=by
      intro i el hi
      obtain ⟨ds,rcs,q1,q2,q3,q4,q5,q6⟩:=e2 i el hi
      rw [q2,q4.1,q5]
     rcases hA with rfl | ⟨b,off,rfl,hlt⟩
     ·exact .list _ [] .sh _ len cap 0 0 (fun _ _=>undef) (by rw [← e1]) hl (by simp) (.inl rfl) (fun i el hi=>by simp [nth] at hi) (fun i el j c hi=>by simp [nth] at hi) (fun i el j c hi=>by simp [nth] at hi) (fun i el j c hi=>by simp [nth] at hi) (fun i el j c hi=>by simp [nth] at hi)
     ·refine .list _ es .sh _ len cap b off (fun i j=>(W.cell? ⟨b,off + i * P.cellsOf e + j,none⟩).getD undef) e1.symm hl (by simp) (.inr rfl) szs (fun i el j c hi hj=>?_) (fun i el j c hi hj=>hg _ _ hlt) (fun i el j c hi hj=>?_) (fun i el j c hi hj=>?_)
      ·obtain ⟨_,_,s,_⟩:=cellsof i el j c hi hj
       cases c <;> first | rfl | (cases s; done)
      ·obtain ⟨rv,s1,_,_⟩:=cellsof i el j c hi hj
       rw [ZbL,ZbL] at s1
       rw [s1]; rfl
      ·obtain ⟨rv,s1,_,s3⟩:=cellsof i el j c hi hj
       rw [ZbL,ZbL] at s1
       rw [s1]
       exact s3
  ·rename_i fs hu
   rw [Bool.and_eq_true] at h
   cases fuel with
   | zero=>simp [DataW.trod] at hx
   | succ fuel =>
    unfold DataW.trod at hx
    rw [hu] at hx
    simp only at hx
    split at hx <;> first | (cases hx; done) | skip
    rename_i hlen
    rw [Option.map_eq_some_iff] at hx
    obtain ⟨ys,hys,_⟩:=hx
    obtain ⟨m1,m2⟩:=ZgO hys
    obtain ⟨cs,c1,c2,c3⟩:=Zg8 n r (fun t r=>ZrM n t r) fs.toList 0 (P.cellsOf t) h.1 hlen.symm (fun f hf=>List.all_eq_true.1 h.2 f hf) fun f hf=>by
     obtain ⟨j,hj⟩:=List.getElem?_of_mem hf
     have hjl:j < ys.length:=by rw [m1]; exact (List.getElem?_eq_some_iff.1 hj).1
     obtain ⟨f',hf',hy⟩:=m2 j ys[j] (by rw [Zad,List.getElem?_eq_getElem hjl])
     rw [Zad] at hf'
     obtain rfl:=Option.some.inj (hj.symm.trans hf')
     exact ⟨H,enc,base,spare,held,fuel,_,hy⟩
    rw [List.drop_zero] at c2
    refine ⟨cs,⟨by omega,fun f hf=>?_⟩,c2⟩
    have:=(c3 f hf).2
    rwa [Nat.sub_zero] at this
  ·cases h
end Go.VM
