/- The first operations of a region in any order, to the end. -/
import Derived.Test.YtkchbabkbpcncaaVmRe
set_option linter.unusedSimpArgs false
set_option linter.unusedVariables false
namespace Go.VM
open Go.RowKit Go.Lib
section
variable {P:Program} {C:Cfg} {o:Oper} {E:List V} {s:S} {R:Type}
structure BInv (C:Cfg) (ops:List Oper) (us:List V) (kl:List (List Nat)) (ps:ZtX) (as:List (Nat × Nat × Nat)) (pus:List (Nat × Nat × Nat × V)) (m:Nat) (E0:List V) (s:S) (keep:Nat) (g0:G) (a0:Act) (w0:World) (H:Nat → Nat) (listed:Array Bool) (g:G) (a:Act) (w:World) (F:List V):Prop where
 size:listed.size = ops.length
 lt:∀ j,listed.getD j false = true → j < m
 closed:∀ i o e,listed.getD i false = true → nth ops i = some o → e ∈ o.after → Region.binds .any e = true → listed.getD e.on false = true
 le:Le keep g0 w0 { g with susp:=g0.susp } w
 sim:Sim C g F s a w
 defers:a.defers = a0.defers
 done:BDone ops us kl E0 (fun j=>listed.getD j false = true) F
 susp:∀ b,g.susp b ↔ (g0.susp b ∨ ∃ i x,(i,x) ∈ ps ∧ listed.getD i false = true ∧ H i = b)
 held:∀ i d ob v,(i,(d,ob,v)) ∈ ps → listed.getD i false = true → (∃ pl,Zhf C g a w d ob v (H i) pl ∧ ∀ x,pl = some x ↔ ∃ j u,(j,(d,x,u)) ∈ pus ∧ listed.getD j false = true) ∧ w0.heap.size ≤ H i
 inj:∀ i j x y,(i,x) ∈ ps → (j,y) ∈ ps → listed.getD i false = true → listed.getD j false = true → H i = H j → i = j
 ali:∀ i d x,(i,(d,x)) ∈ as → listed.getD i false = true → (d < a.tmps.size → x < a.tmps.size → a.tmps[d]? = a.tmps[x]?)
theorem Ztv {a:Act} {d:Nat} {rv:Value} (h:a.tmps[d]? = some rv):a.put (some d) rv = a:=by
 have hlt:d < a.tmps.size:=(Array.getElem?_eq_some_iff.1 h).1
 have h2:a.tmps.setIfInBounds d rv = a.tmps:=by
  apply Array.ext'
  rw [Array.toList_setIfInBounds]
  apply List.ext_getElem?
  intro k
  by_cases hk:d = k
  ·subst hk
   rw [List.getElem?_set_self (by simpa using hlt),Array.getElem?_toList,h]
  ·rw [List.getElem?_set_ne hk]
 simp [Act.put,h2]
theorem ZjS {g:G} {a:Act} {w:World}:∀ (as:List (Nat × Nat)) {E:List V},Sim C g E s a w → (∀ q ∈ as,q.1 < a.tmps.size → q.2 < a.tmps.size → a.tmps[q.1]? = a.tmps[q.2]?) → Sim C g (Zkx as E) s a w
 | [],E,hs,_=>hs
 | (d,x) :: as,E,hs,h=>by
  refine ZjS as ?_ fun q hq=>h q (by simp [hq])
  by_cases hd:d < a.tmps.size
  ·cases hx:nth E x with
   | none=>exact hs.dead d
   | some v =>
    obtain ⟨rv,h1,h2,_⟩:=hs.env x v hx
    have hxl:x < a.tmps.size:=(Array.getElem?_eq_some_iff.1 h1).1
    have h3:=h (d,x) (by simp) hd hxl
    have h4:=hs.put0 (some d) h2.noOwn (ZaA v)
    rw [Ztv (by rw [h3]; exact h1)] at h4
    exact h4
  ·rw [ZaM,List.set_eq_of_length_le (by rw [hs.len]; exact Nat.le_of_not_lt hd)]
   exact hs
theorem ZeM {ops:List Oper} {listed:Array Bool} {i:Nat} (hi:∀ o e,nth ops i = some o → e ∈ o.after → Region.binds .any e = true → listed.getD e.on false = true):∀ j ∈ ZfN ops i,listed.getD j false = true:=by
 intro j hj
 unfold ZfN at hj
 split at hj
 ·cases hj
 ·rename_i o ho
  obtain ⟨e,he,rfl⟩:=List.mem_map.1 hj
  obtain ⟨h1,h2⟩:=List.mem_filter.1 he
  exact hi o e ho (by simpa using h1) h2
theorem ZdL {ops:List Oper} {listed:Array Bool} (hc:∀ i o e,listed.getD i false = true → nth ops i = some o → e ∈ o.after → Region.binds .any e = true → listed.getD e.on false = true) :
  ∀ n l,(∀ j ∈ l,listed.getD j false = true) → ∀ j ∈ ZhQ ops n l,listed.getD j false = true
 | 0,l,h=>h
 | i + 1,l,h=>by
  unfold ZhQ
  split
  ·rename_i hi
   obtain ⟨x,hx,hb⟩:=List.any_eq_true.1 hi
   have hli:listed.getD i false = true:=by rw [Nat.eq_of_beq_eq_true hb]; exact h x hx
   refine ZdL hc i _ fun j hj=>?_
   rcases List.mem_append.1 hj with hj | hj
   ·exact h j hj
   ·exact ZeM (fun o e ho he hb=>hc i o e hli ho he hb) j hj
  ·exact ZdL hc i l h
theorem Zcb {listed:Array Bool} {i:Nat} (hlt:i < listed.size) (h1:listed.getD i true = false) {fuel:Nat} (hcnt:listed.toList.count false ≤ fuel + 1):(listed.setIfInBounds i true).toList.count false ≤ fuel:=by
 have hv:listed.toList[i]'(by simpa using hlt) = false:=by
  simp only [Array.getD,hlt,dite_true] at h1
  simpa using h1
 rw [Array.toList_setIfInBounds,List.count_set (by simpa using hlt)]
 rw [hv]
 have hpos:0 < listed.toList.count false:=List.count_pos_iff.2 (by rw [← hv]; exact List.getElem_mem _)
 have e1:(if (false == false) = true then 1 else 0) = 1:=rfl
 have e2:(if (true == false) = true then 1 else 0) = 0:=rfl
 rw [e1,e2]
 omega
theorem ZdF {listed:Array Bool} {i:Nat} (hlt:i < listed.size) (h:¬ listed.getD i false = true):0 < listed.toList.count false:=by
 apply List.count_pos_iff.2
 have hv:listed.toList[i]'(by simpa using hlt) = false:=by
  simp only [Array.getD,hlt,dite_true] at h
  simpa using h
 rw [← hv]
 exact List.getElem_mem _
theorem ZaN {listed:Array Bool} {i:Nat} (hlt:i < listed.size) (j:Nat):(listed.setIfInBounds i true).getD j false = true ↔ (listed.getD j false = true ∨ j = i):=by
 by_cases hji:j = i
 ·subst hji
  simp [Array.getD,hlt]
 ·rw [getD_set_ne false (Ne.symm hji)]
  simp [hji]
theorem ZhF {ops:List Oper} {m:Nat} (hB:Blocked C ops m) (hch:Zgw ops ops.length m) {Q:Exit → Act → World → Prop}:∀ (l:List Oper) (k fuel:Nat) (listed:Array Bool) (a:Act) (w:World),m ≤ k → k + l.length = ops.length → (∀ j,nth l j = nth ops (k + j)) →
  listed.size = ops.length → (∀ j,listed.getD j false = true ↔ j < k) → listed.toList.count false ≤ fuel → wpList P ops.toArray Q l a w → wpAny P .any ops.toArray Q fuel listed a w
 | [],k,fuel,listed,a,w,hmk,hk,hl,hls,hall,hcnt,h=>by
  have hr:Region.ready .any ops.toArray listed = []:=by
   apply List.eq_nil_iff_forall_not_mem.2
   intro i hi
   obtain ⟨h1,o,ho,_⟩:=mem_ready.1 hi
   have hlt:i < ops.length:=by
    have:=(Array.getElem?_eq_some_iff.1 ho).1
    simpa using this
   have:=(hall i).2 (by simp at hk; omega)
   simp only [Array.getD,hls,hlt,dite_true] at h1 this
   rw [h1] at this; cases this
  cases fuel with
  | zero=>exact ⟨hr,h⟩
  | succ fuel=>exact ⟨fun _=>h,fun i hi=>by rw [hr] at hi; cases hi⟩
 | o :: l,k,fuel,listed,a,w,hmk,hk,hl,hls,hall,hcnt,h=>by
  rw [List.length_cons] at hk
  have ho:nth ops k = some o:=by have:=hl 0; simpa [nth] using this.symm
  have hklt:k < listed.size:=by rw [hls]; omega
  have hkn:¬ listed.getD k false = true:=fun hc=>by have:=(hall k).1 hc; omega
  have hedge:∀ e ∈ o.after,Region.binds .any e = true → e.on < k:=by
   by_cases hmk':m = k
   ·subst hmk'; exact (hB.mid o ho).1
   ·exact (hB.tail k o (by omega) ho).1
  have hkr:k ∈ Region.ready .any ops.toArray listed:=by
   rw [mem_ready]
   refine ⟨by simpa [Array.getD,hklt] using hkn,o,by rw [Zad] at ho; simpa using ho,fun e he hbe=>(hall _).2 (hedge e he hbe)⟩
  have honly:∀ i ∈ Region.ready .any ops.toArray listed,i = k:=by
   intro i hi
   obtain ⟨h1,o',ho',hall'⟩:=mem_ready.1 hi
   have ho2:nth ops i = some o':=by rw [Zad]; simpa using ho'
   have hilt:i < listed.size:=by rw [hls]; exact Zau ho2
   have hik:¬ i < k:=fun hc=>by
    have:=(hall i).2 hc
    simp only [Array.getD,hilt,dite_true] at h1 this
    rw [h1] at this; cases this
   apply Nat.le_antisymm _ (by omega)
   apply Nat.le_of_not_lt
   intro hgt
   obtain ⟨e,he,hb,hon⟩:=(hch i o' (by omega) (Zau ho2) ho2).2
   have:=(hall e.on).1 (hall' e he hb)
   omega
  cases fuel with
  | zero =>
   have:=ZdF hklt hkn
   omega
  | succ fuel =>
   refine ⟨fun hr=>(by rw [hr] at hkr; cases hkr),fun i hi=>?_⟩
   obtain rfl:=honly i hi
   have hcnt':=Zcb hklt (by simpa [Array.getD,hklt] using hkn) hcnt
   have rec':∀ a w,wpList P ops.toArray Q l a w → wpAny P .any ops.toArray Q fuel (listed.setIfInBounds i true) a w:=fun a w h =>
    ZhF hB hch l (i + 1) fuel _ a w (by omega) (by omega) (fun j=>by have:=hl (j + 1); simp only [nth] at this; rw [this]; congr 1; omega) (by simpa using hls)
     (fun j=>by rw [ZaN hklt,hall j]; omega) hcnt' h
   unfold wpOp
   have ho3:ops.toArray[i]? = some o:=by rw [Zad] at ho; simpa using ho
   rw [ho3]
   simp only
   unfold wpList at h
   split
   ·rename_i hw
    rw [if_pos hw] at h
    exact h.imp (Oper.wp_mono rec') id
   ·rename_i hw
    rw [if_neg hw] at h
    exact rec' _ _ h
theorem ZgK {α:Type} {f:α → Nat}:∀ {l:List α},l.Pairwise (fun a b=>f a ≠ f b) → ∀ {a b},a ∈ l → b ∈ l → f a = f b → a = b
 | [],_,a,b,ha,_,_=>by cases ha
 | x :: l,hp,a,b,ha,hb,e=>by
  obtain ⟨h1,h2⟩:=List.pairwise_cons.1 hp
  rcases List.mem_cons.1 ha with rfl | ha' <;> rcases List.mem_cons.1 hb with rfl | hb'
  ·rfl
  ·exact absurd e (h1 _ hb')
  ·exact absurd e.symm (h1 _ ha')
  ·exact ZgK h2 ha' hb' e
theorem Zng {d x:Nat} {v:V} {ob:Ob}:∀ {pu:ZrV},pu.Pairwise (fun a b=>a.1 ≠ b.1) → (d,x,v) ∈ pu → Zh3 ob d pu = { ob with es:=[v] }
 | [],_,h=>by cases h
 | (d',x',v') :: pu,hp,h=>by
  obtain ⟨h1,h2⟩:=List.pairwise_cons.1 hp
  unfold Zh3
  rcases List.mem_cons.1 h with h | h
  ·injection h with h3 h4
   injection h4 with h4 h5
   subst h3 h5
   simp
  ·have hne:d' ≠ d:=h1 _ h
   have:Nat.beq d' d = false:=by
    cases hb:Nat.beq d' d with
    | false=>rfl
    | true=>exact absurd (Nat.eq_of_beq_eq_true hb) hne
   rw [this]
   exact Zng h2 h
theorem ZjZ {d:Nat} {ob:Ob}:∀ {pu:ZrV},(∀ q ∈ pu,q.1 ≠ d) → Zh3 ob d pu = ob
 | [],_=>rfl
 | (d',x',v') :: pu,h=>by
  have hne:d' ≠ d:=h (d',x',v') (by simp)
  have:Nat.beq d' d = false:=by
   cases hb:Nat.beq d' d with
   | false=>rfl
   | true=>exact absurd (Nat.eq_of_beq_eq_true hb) hne
  unfold Zh3
  rw [this]
  exact ZjZ fun q hq=>h q (by simp [hq])
theorem ZhI {q:Nat × Ob × V} {d sz:Nat} (h:ZoS q d sz = true):q.1 = d ∧ q.2.1.esz = sz ∧ q.2.1.es.length = 1 ∧ q.2.2 = .ptr 0 0 0 0:=by
 unfold ZoS at h
 simp only [Bool.and_eq_true] at h
 obtain ⟨⟨⟨h1,h2⟩,h3⟩,h4⟩:=h
 refine ⟨Nat.eq_of_beq_eq_true h1,Nat.eq_of_beq_eq_true h2,Nat.eq_of_beq_eq_true h3,?_⟩
 split at h4
 ·assumption
 ·cases h4
theorem Zqn (hC:Ok P C) {ops:List Oper} {m:Nat} (hB:Blocked C ops m) {us E0 En E':List V} {s':S} {kl:List (List Nat)} {ps:ZtX} {as:List (Nat × Nat × Nat)} {pus:List (Nat × Nat × Nat × V)} (hul:us.length = m)
  (hfacts:∀ i o,i < m → nth ops i = some o → ∃ Ei u ks q al pq,nth us i = some u ∧ nth kl i = some ks ∧ BFact P C ops s i o Ei u ks q al pq ∧ BDone ops us kl E0 (· < i) Ei ∧ (∀ x,(i,x) ∈ ps ↔ q = some x) ∧ (∀ x,(i,x) ∈ as ↔ al = some x) ∧ (∀ x,(i,x) ∈ pus ↔ pq = some x))
  (hEn:BDone ops us kl E0 (· < m) En) (hps:∀ p ∈ ps,p.1 < m) (has:∀ p ∈ as,p.1 < m) (hpus:∀ p ∈ pus,p.1 < m) (hpud:(pus.map (·.2)).Pairwise (fun a b=>a.1 ≠ b.1)) (hpuv:∀ q ∈ pus,∃ r ∈ ps.map (·.2),ZoS r q.2.1 q.2.2.2.cells.length = true) (hpw:ps.Pairwise (fun p q=>p.1 < q.1)) (hE':E' = Zkx (as.map (·.2)) (Zkb (ZpP (pus.map (·.2)) (ps.map (·.2))) En s)) (hs':s' = Zfd (ZpP (pus.map (·.2)) (ps.map (·.2))) s)
  (keep:Nat) (hkeep:keep ≤ s.length) (Q:Exit → Act → World → Prop) (g0:G) (a0:Act) (w0:World) (h0:∀ b,g0.susp b → b < w0.heap.size) (h0i:∀ b i,g0.imm b i → b < w0.heap.size) (h0b:g0.base ≤ w0.heap.size)
  (hT:∀ g' a' w' listed fuel,listed.size = ops.length → (∀ j,listed.getD j false = true ↔ j < m) → listed.toList.count false ≤ fuel → Le keep g0 w0 g' w' → Sim C g' E' s' a' w' → a'.defers = a0.defers → wpAny P .any ops.toArray Q fuel listed a' w') :
  ∀ (fuel:Nat) (H:Nat → Nat) (listed:Array Bool) (g:G) (a:Act) (w:World) (F:List V),listed.toList.count false ≤ fuel → BInv C ops us kl ps as pus m E0 s keep g0 a0 w0 H listed g a w F → wpAny P .any ops.toArray Q fuel listed a w:=by
 have hat:∀ {i:Nat},i < m → ∃ o,nth ops i = some o:=fun {i} hi=>⟨ops[i]'(Nat.lt_of_lt_of_le hi hB.le),by rw [Zad,List.getElem?_eq_getElem]⟩
 have hpsd:∀ i d ob v,(i,(d,ob,v)) ∈ ps → ∃ o,nth ops i = some o ∧ o.dst = some d:=by
  intro i d ob v hm'
  obtain ⟨o,ho⟩:=hat (hps _ hm')
  obtain ⟨_,_,_,q',_,_,_,_,q3,_,q4,_⟩:=hfacts i o (hps _ hm') ho
  have:=(q4 _).1 hm'
  subst this
  cases q3 with
  | lay _ _ _ _ hd' _=>exact ⟨o,ho,hd'⟩
 have hpsu:∀ i d ob v,(i,(d,ob,v)) ∈ ps → nth us i = some .dead:=by
  intro i d ob v hm'
  obtain ⟨o,ho⟩:=hat (hps _ hm')
  obtain ⟨_,_,_,q',_,_,q1,_,q3,_,q4,_⟩:=hfacts i o (hps _ hm') ho
  have:=(q4 _).1 hm'
  subst this
  cases q3 with
  | lay _ _ _ _ hd' _=>exact q1
 have hpuf:∀ j d x u,(j,(d,x,u)) ∈ pus → ∃ o Ej ks v,nth ops j = some o ∧ nth kl j = some ks ∧ ks = [] ∧ BDone ops us kl E0 (· < j) Ej ∧ nth Ej x = some v ∧ u = v.noOwn ∧ v.noOwn.flat = true ∧
   (∃ j' p,nth ops j' = some p ∧ p.dst = some d ∧ ∃ e ∈ o.after,Region.binds .any e = true ∧ e.on = j') ∧ (∃ j' p,nth ops j' = some p ∧ p.dst = some x ∧ ∃ e ∈ o.after,Region.binds .any e = true ∧ e.on = j') ∧ x ∈ ZaZ ops o:=by
  intro j d x u hm'
  obtain ⟨o,ho⟩:=hat (hpus _ hm')
  obtain ⟨Ej,_,_,_,_,_,_,q2,q3,qE,_,_,q4⟩:=hfacts j o (hpus _ hm') ho
  have:=(q4 _).1 hm'
  subst this
  cases q3 with
  | put t _ _ v dv hw hd h hk hx hdv hsz hfl fd fx=>exact ⟨o,Ej,[],v,ho,q2,rfl,qE,hx,rfl,hfl,fd,fx,by simp [ZaZ,Oper.looksAt,h,Op.operands]⟩
 have hpu1:∀ j j' d x x' u u',(j,(d,x,u)) ∈ pus → (j',(d,x',u')) ∈ pus → j = j' ∧ x = x' ∧ u = u':=by
  intro j j' d x x' u u' h1 h2
  have h3:pus.Pairwise (fun a b=>a.2.1 ≠ b.2.1):=by rw [List.pairwise_map] at hpud; exact hpud
  have:=ZgK (f:=fun a:Nat × Nat × Nat × V=>a.2.1) h3 h1 h2 rfl
  injection this with e1 e2
  injection e2 with e2 e3
  injection e3 with e3 e4
  exact ⟨e1,e3,e4⟩
 have hnk:∀ i o t,i < m → nth ops i = some o → t ∈ ZaZ ops o → ∀ i' ks',i' ≠ i → i' < m → nth kl i' = some ks' → t ∉ ks':=by
  intro i o t him ho ht i' ks' hne hi'm hk' hm'
  obtain ⟨o',hoi'⟩:=hat hi'm
  obtain ⟨_,_,ks2,_,_,_,_,q2,q3,_,_,_⟩:=hfacts i' o' hi'm hoi'
  obtain rfl:=Option.some.inj (hk'.symm.trans q2)
  rcases q3.kills with e | e
  ·rw [e] at hm'; cases hm'
  ·rw [e] at hm'
   exact (ZdQ hm').2.2 i o (Ne.symm hne) ho ht
 intro fuel
 induction fuel using Nat.strongRecOn with
 | ind fuel ih =>
 intro H listed g a w F hcnt hI
 by_cases hall:∀ j,j < m → listed.getD j false = true
 ·-- all are done: what was laid becomes objects
  have hF:F = En:=BDone.same hB.le hul (hI.done.iff (L':=(· < m)) fun j=>⟨hI.lt j,hall j⟩) hEn
  subst hF
  have hfull:∀ q ∈ ps,Zwn C g F a w (pus.map (·.2)) q.2.1 q.2.2.1 q.2.2.2 (H q.1):=by
   intro q hq
   obtain ⟨⟨pl,h1,h2⟩,_⟩:=hI.held q.1 q.2.1 q.2.2.1 q.2.2.2 hq (hall _ (hps q hq))
   cases pl with
   | none =>
    refine .inl ⟨ZjZ fun p hp e=>?_,h1⟩
    obtain ⟨q',hq',rfl⟩:=List.mem_map.1 hp
    have:=(h2 q'.2.2.1).2 ⟨q'.1,q'.2.2.2,by rw [← e]; exact hq',hall _ (hpus _ hq')⟩
    cases this
   | some x =>
    obtain ⟨j,u,h3,h4⟩:=(h2 x).1 rfl
    obtain ⟨o,Ej,ks,v,ho,hk,hks,hEj,hx,rfl,hfl,_,⟨jx,px,hpx,hpxd,e,he,heb,heo⟩,hlk⟩:=hpuf j _ x u h3
    have hjm:j < m:=hpus _ h3
    have hjx:jx < j:=by rw [← heo]; exact hB.after j o hjm ho e he heb
    have hux:∃ ux,nth us jx = some ux:=⟨us[jx]'(by omega),by rw [Zad,List.getElem?_eq_getElem]⟩
    obtain ⟨ux,hux⟩:=hux
    have hxlt:x < E0.length:=by rw [← hEj.len]; exact Zau hx
    have hnk':∀ i' ks',i' < m → nth kl i' = some ks' → x ∉ ks':=by
     intro i' ks' hi' hk'
     by_cases hij:i' = j
     ·subst hij
      rw [hk'] at hk
      obtain rfl:=Option.some.inj hk
      rw [hks]; simp
     ·exact hnk j o x hjm ho hlk i' ks' hij hi' hk'
    have hFx:nth F x = nth Ej x:=by
     rw [hEn.new jx px ux x (by omega) hpx hux hpxd hxlt fun i' ks' hi'=>hnk' i' ks' hi',hEj.new jx px ux x hjx hpx hux hpxd hxlt fun i' ks' hi'=>hnk' i' ks' (Nat.lt_trans hi' hjm)]
    obtain ⟨r,hr,hrv⟩:=hpuv _ h3
    obtain ⟨q',hq',rfl⟩:=List.mem_map.1 hr
    obtain ⟨r1,r2,r3,_⟩:=ZhI hrv
    obtain ⟨o1,ho1,hd1⟩:=hpsd q.1 q.2.1 q.2.2.1 q.2.2.2 hq
    obtain ⟨o2,ho2,hd2⟩:=hpsd q'.1 q'.2.1 q'.2.2.1 q'.2.2.2 hq'
    have hqq:q = q':=by
     have he:=hB.apart q.1 q'.1 o1 o2 q.2.1 (hps _ hq) (hps _ hq') ho1 ho2 hd1 (by rw [hd2]; exact congrArg _ r1)
     have hp2:ps.Pairwise (fun a b=>a.1 ≠ b.1):=List.Pairwise.imp (fun h=>by omega) hpw
     exact ZgK (f:=fun a:Nat × Nat × Ob × V=>a.1) hp2 hq hq' he
    subst hqq
    refine .inr ⟨q.2.1,x,v,h1,List.mem_map.2 ⟨_,h3,rfl⟩,Zng hpud (List.mem_map.2 ⟨_,h3,rfl⟩),by rw [hFx]; exact hx,?_,hfl,r3⟩
    rw [← h1.esz]; exact r2.symm
  obtain ⟨hl,g',xs,k1,k2,k3,k4,k5,k6⟩:=ZnC (H:=H) ps hI.sim hfull
   (fun q hq p hp e=>by
    obtain ⟨q',hq',rfl⟩:=List.mem_map.1 hp
    obtain ⟨o,Ej,ks,v,ho,hk,hks,hEj,hx,_,hfl,_,⟨jx,px,hpx,hpxd,e',he,heb,heo⟩,hlk⟩:=hpuf q'.1 q'.2.1 q'.2.2.1 q'.2.2.2 hq'
    have hjm:q'.1 < m:=hpus _ hq'
    have hjx:jx < q'.1:=by rw [← heo]; exact hB.after q'.1 o hjm ho e' he heb
    obtain ⟨o1,ho1,hd1⟩:=hpsd q.1 q.2.1 q.2.2.1 q.2.2.2 hq
    have hje:jx = q.1:=hB.apart jx q.1 px o1 _ (by omega) (hps _ hq) hpx ho1 hpxd (by rw [hd1]; exact congrArg _ e.symm)
    have hux:=hpsu q.1 q.2.1 q.2.2.1 q.2.2.2 hq
    rw [← hje] at hux
    have h1:=hEj.new jx px .dead _ hjx hpx hux hpxd (by rw [← hEj.len]; exact Zau hx) fun i' ks' hi' hk'=>hnk q'.1 o _ hjm ho hlk i' ks' (by omega) (by omega) hk'
    rw [hx] at h1
    obtain rfl:=Option.some.inj h1
    simp [V.noOwn,V.flat] at hfl)
   (List.Pairwise.imp_of_mem (fun {p q} hp hq hlt e=>by have:=hI.inj p.1 q.1 p.2 q.2 hp hq (hall _ (hps p hp)) (hall _ (hps q hq)) e; omega) hpw)
  subst hE' hs'
  refine hT g' a w listed fuel hI.size (fun j=>⟨hI.lt j,hall j⟩) hcnt ?_ (ZjS _ k1 fun q hq=>by
   obtain ⟨q',hq',rfl⟩:=List.mem_map.1 hq
   exact hI.ali q'.1 q'.2.1 q'.2.2 hq' (hall _ (has q' hq'))) hI.defers
  have hle:=hI.le
  have hsus:∀ b,g'.susp b ↔ g0.susp b:=by
   intro b
   rw [k6,hI.susp]
   constructor
   ·rintro ⟨h1 | ⟨i,x,h1,_,h3⟩,h2⟩
    ·exact h1
    ·exact absurd h3 (h2 (i,x) h1)
   ·intro hb
    refine ⟨.inl hb,fun q hq e=>?_⟩
    have h1:=(hI.held q.1 q.2.1 q.2.2.1 q.2.2.2 hq (hall _ (hps q hq))).2
    have h2:=h0 b hb
    omega
  have hko:keep ≤ g.obs.length:=hle.klen
  exact {
   keeps:=⟨fun b i h=>by rw [k3]; exact hle.keeps.imm b i h,fun b i h=>by rw [k4]; exact hle.keeps.safe b i h,hle.keeps.cell⟩
   size:=hle.size
   os:=hle.os
   tape:=hle.tape
   output:=hle.output
   base:=by rw [k2]; exact hle.base
   susp:=hsus
   low:=hle.low
   sus:=fun b hb=>⟨(hle.sus b hb).1,fun i hi=>(hle.sus b hb).2.1 i (by rw [k3] at hi; exact hi),fun i hi=>(hle.sus b hb).2.2 i (by rw [k4] at hi; exact hi)⟩
   klen:=by rw [k5]; simp; omega
   obs:=fun o ho x' hx=>hle.obs o ho x' (by rw [k5,Zal (by omega)] at hx; exact hx) }
 ·-- some operation is not done
  obtain ⟨j0,hj0⟩:=Classical.not_forall.1 hall
  obtain ⟨hj0m,hj0n⟩:=Classical.not_imp.1 hj0
  have hleast:∃ i,i < m ∧ ¬ listed.getD i false = true ∧ ∀ j,j < i → listed.getD j false = true:=by
   clear hj0
   induction j0 using Nat.strongRecOn with
   | ind j ihj =>
    by_cases h:∀ j',j' < j → listed.getD j' false = true
    ·exact ⟨j,hj0m,hj0n,h⟩
    ·obtain ⟨j1,hj1⟩:=Classical.not_forall.1 h
     obtain ⟨h1,h2⟩:=Classical.not_imp.1 hj1
     exact ihj j1 h1 (by omega) h2
  obtain ⟨i0,hi0m,hi0n,hi0⟩:=hleast
  have hi0l:i0 < ops.length:=Nat.lt_of_lt_of_le hi0m hB.le
  have hi0s:i0 < listed.size:=by rw [hI.size]; exact hi0l
  have hnr:Region.ready .any ops.toArray listed ≠ []:=by
   intro hr
   have hmem:i0 ∈ Region.ready .any ops.toArray listed:=by
    rw [mem_ready]
    refine ⟨by simpa [Array.getD,hi0s] using hi0n,ops[i0],by simp [hi0l],fun e he hbe=>?_⟩
    exact hi0 _ (hB.after i0 ops[i0] hi0m (by rw [Zad,List.getElem?_eq_getElem hi0l]) e he hbe)
   rw [hr] at hmem
   cases hmem
  cases fuel with
  | zero =>
   have:=ZdF hi0s hi0n
   omega
  | succ fuel =>
   refine ⟨fun hr=>absurd hr hnr,fun i hi=>?_⟩
   obtain ⟨hr1,o,ho,hall'⟩:=mem_ready.1 hi
   have ho':nth ops i = some o:=by rw [Zad]; simpa using ho
   have hlt:i < listed.size:=by rw [hI.size]; exact Zau ho'
   have hni:¬ listed.getD i false = true:=fun hc=>by
    simp only [Array.getD,hlt,dite_true] at hr1 hc
    rw [hr1] at hc; cases hc
   have him:i < m:=by
    apply Nat.lt_of_not_le
    intro hge
    have key:∀ d j o,j = m + d → nth ops j = some o → (∀ e ∈ o.after,Region.binds .any e = true → listed.getD e.on false = true) → False:=by
     intro d
     induction d with
     | zero =>
      intro j o hj hoj hr
      subst hj
      exact hi0n (ZdL hI.closed _ _ (ZeM fun o' e' ho2 he2 hb2=>by
       obtain rfl:=Option.some.inj (hoj.symm.trans ho2)
       exact hr e' he2 hb2) i0 ((hB.mid o hoj).2 i0 hi0m))
     | succ d ihd =>
      intro j o hj hoj hr
      obtain ⟨e,he,hb,hon⟩:=(hB.tail j o (by omega) hoj).2
      have:=hI.lt _ (hr e he hb)
      exact absurd this (by omega)
    exact key (i - m) i o (by omega) ho' hall'
   obtain ⟨Ei,u,ks,q,al,pq,hu,hk,hfact,hEi,hq,hqa,hqp⟩:=hfacts i o him ho'
   have hlook:∀ t,t ∈ ZaZ ops o → nth F t = nth Ei t:=by
    intro t ht
    by_cases hex:∃ j p,j < m ∧ nth ops j = some p ∧ p.dst = some t
    ·obtain ⟨j,p,hjm,hp,hpd⟩:=hex
     obtain ⟨e,he,hb,hon⟩:=hB.deps i o j p t him hjm ho' hp hpd ht
     have hj:listed.getD j false = true:=by rw [← hon]; exact hall' e he hb
     have hji:j < i:=by rw [← hon]; exact hB.after i o him ho' e he hb
     have hju:nth us j = some (us[j]'(by omega)):=by rw [Zad,List.getElem?_eq_getElem]
     have nk:∀ i' ks',i' ≠ i → i' < m → nth kl i' = some ks' → t ∉ ks':=hnk i o t him ho' ht
     by_cases hlt2:t < E0.length
     ·rw [hI.done.new j p _ t hj hp hju hpd hlt2 fun i' ks' hi' hk'=>nk i' ks' (fun e=>hni (by rw [← e]; exact hi')) (hI.lt i' hi') hk',
       hEi.new j p _ t hji hp hju hpd hlt2 fun i' ks' hi' hk'=>nk i' ks' (by omega) (by omega) hk']
     ·rw [Zad,Zad,List.getElem?_eq_none (by rw [hI.done.len]; exact Nat.le_of_not_lt hlt2),List.getElem?_eq_none (by rw [hEi.len]; exact Nat.le_of_not_lt hlt2)]
    ·rw [hI.done.old t fun j p hj hp hpd=>hex ⟨j,p,hI.lt j hj,hp,hpd⟩,hEi.old t fun j p hj hp hpd=>hex ⟨j,p,Nat.lt_trans hj him,hp,hpd⟩]
   have hguard:∀ d,Zby ops o = some d → nth F d = nth Ei d:=fun d hd=>hlook d (ZcZ hd)
   have hcnt':=Zcb hlt hr1 hcnt
   have hks:∀ t ∈ ks,∃ j p,listed.getD j false = true ∧ nth ops j = some p ∧ p.dst = some t:=by
    intro t ht
    rcases hfact.kills with e | e
    ·rw [e] at ht; cases ht
    ·rw [e] at ht
     obtain ⟨k1,⟨j,p,k2,k3,e,he,hb,hon⟩,k4⟩:=ZdQ ht
     exact ⟨j,p,by rw [← hon]; exact hall' e he hb,k2,k3⟩
   have hdone':BDone ops us kl E0 (fun j=>(listed.setIfInBounds i true).getD j false = true) (Zcy (Za7 ks F) o.dst u) :=
    (hI.done.put hB hI.lt him ho' hu hk hni hks).iff fun j=>(ZaN hlt j).symm
   have hclosed':∀ i' o' e,(listed.setIfInBounds i true).getD i' false = true → nth ops i' = some o' → e ∈ o'.after → Region.binds .any e = true → (listed.setIfInBounds i true).getD e.on false = true:=by
    intro i' o' e hi' ho2 he hb
    rw [ZaN hlt] at hi' ⊢
    rcases hi' with hi' | rfl
    ·exact .inl (hI.closed i' o' e hi' ho2 he hb)
    ·obtain rfl:=Option.some.inj (ho'.symm.trans ho2)
     exact .inl (hall' e he hb)
   have hlt':∀ j,(listed.setIfInBounds i true).getD j false = true → j < m:=by
    intro j hj
    rw [ZaN hlt] at hj
    rcases hj with hj | rfl
    ·exact hI.lt j hj
    ·exact him
   have hsub:∀ b,g0.susp b → g.susp b:=fun b hb=>(hI.susp b).2 (.inl hb)
   have hfed:∀ j oj x,listed.getD j false = true → nth ops j = some oj → (∃ j' p,nth ops j' = some p ∧ p.dst = some x ∧ ∃ e ∈ oj.after,Region.binds .any e = true ∧ e.on = j') → o.dst ≠ some x:=by
    rintro j oj x hl hoj ⟨j',p,hp,hpd,e,he,hb,hon⟩ hd
    have h1:=hI.closed j oj e hl hoj he hb
    have h2:=hB.apart i j' o p x him (hI.lt j' (by rw [← hon]; exact h1)) ho' hp hd hpd
    rw [hon,← h2] at h1
    exact hni h1
   have hstay:∀ g' rv w',Le keep g w g' w' → ∀ i' d ob v,(i',(d,ob,v)) ∈ ps → listed.getD i' false = true → (∃ pl,Zhf C g' (a.put o.dst rv) w' d ob v (H i') pl ∧ ∀ x,pl = some x ↔ ∃ j u,(j,(d,x,u)) ∈ pus ∧ listed.getD j false = true) ∧ w0.heap.size ≤ H i':=by
    intro g' rv w' hle i' d ob v hm' hl'
    obtain ⟨⟨pl,q1,q5⟩,q2⟩:=hI.held i' d ob v hm' hl'
    refine ⟨⟨pl,q1.step hle rv (fun hd=>?_) (fun x hx=>?_),q5⟩,q2⟩
    ·obtain ⟨o',hoi',hd'⟩:=hpsd i' d ob v hm'
     have:=hB.apart i i' o o' d him (hps _ hm') ho' hoi' hd hd'
     exact hni (by rw [this]; exact hl')
    ·obtain ⟨j,u',h3,h4⟩:=(q5 x).1 hx
     obtain ⟨oj,_,_,_,hoj,_,_,_,_,_,_,_,fx,_⟩:=hpuf j d x u' h3
     exact hfed j oj x h4 hoj fx
   have hpls:pq = none → ∀ d x,(∃ j u,(j,(d,x,u)) ∈ pus ∧ (listed.setIfInBounds i true).getD j false = true) ↔ ∃ j u,(j,(d,x,u)) ∈ pus ∧ listed.getD j false = true:=by
    intro hpn d x
    constructor
    ·rintro ⟨j,u',h1,h2⟩
     refine ⟨j,u',h1,((ZaN hlt _).1 h2).resolve_right fun e=>?_⟩
     rw [e] at h1
     have:=(hqp _).1 h1
     rw [hpn] at this; cases this
    ·rintro ⟨j,u',h1,h2⟩
     exact ⟨j,u',h1,(ZaN hlt _).2 (.inl h2)⟩
   have hastay:∀ rv i' d x,(i',(d,x)) ∈ as → listed.getD i' false = true → (d < (a.put o.dst rv).tmps.size → x < (a.put o.dst rv).tmps.size → (a.put o.dst rv).tmps[d]? = (a.put o.dst rv).tmps[x]?):=by
    intro rv i' d x hm' hl' hd1 hx1
    rw [Zdi] at hd1 hx1
    have hi'm:=has _ hm'
    have hoi':nth ops i' = some (ops[i']'(Nat.lt_of_lt_of_le hi'm hB.le)):=by rw [Zad,List.getElem?_eq_getElem]
    obtain ⟨_,_,_,_,al',_,_,_,q3,_,_,q4,_⟩:=hfacts i' _ hi'm hoi'
    have:=(q4 _).1 hm'
    subst this
    have hne:o.dst ≠ some d ∧ o.dst ≠ some x:=by
     cases q3 with
     | ali _ _ _ hd' hop hx' =>
      refine ⟨fun hd=>?_,fun hd=>?_⟩
      ·have:=hB.apart i i' o _ d him hi'm ho' hoi' hd hd'
       exact hni (by rw [this]; exact hl')
      ·obtain ⟨j,p,hp,hpd,e,he,hb,hon⟩:=hx'
       have:=hI.closed i' _ e hl' hoi' he hb
       have hij:=hB.apart i j o p x him (hI.lt j (by rw [← hon]; exact this)) ho' hp hd hpd
       rw [hon,← hij] at this
       exact hni this
    have hget:∀ k,o.dst ≠ some k → (a.put o.dst rv).tmps[k]? = a.tmps[k]?:=by
     intro k hk
     cases hdd:o.dst with
     | none=>rfl
     | some d'=>exact ZcB fun e=>hk (by rw [hdd,e])
    rw [hget d hne.1,hget x hne.2]
    exact hI.ali i' d x hm' hl' hd1 hx1
   have hnext:q = none → al = none → pq = none → ∀ g' rv w',Le keep g w g' w' → Sim C g' (Zcy (Za7 ks F) o.dst u) s (a.put o.dst rv) w' → wpAny P .any ops.toArray Q fuel (listed.setIfInBounds i true) (a.put o.dst rv) w':=by
    intro hqn haln hpn g' rv w' hle hs
    have hnas:∀ i' x,(i',x) ∈ as → i' ≠ i:=by
     rintro i' x hx rfl
     have:=(hqa x).1 hx
     rw [haln] at this; cases this
    have hnps:∀ i' x,(i',x) ∈ ps → i' ≠ i:=by
     rintro i' x hx rfl
     have:=(hq x).1 hx
     rw [hqn] at this; cases this
    refine ih fuel (Nat.lt_succ_self _) H _ g' _ w' _ hcnt' {
     size:=by simpa using hI.size
     lt:=hlt'
     closed:=hclosed'
     le:=hI.le.rest hsub hle
     sim:=hs
     defers:=by rw [ZbG]; exact hI.defers
     done:=hdone'
     susp:=fun b=>by
      rw [hle.susp b,hI.susp b]
      constructor
      ·rintro (h | ⟨i',x,h1,h2,h3⟩)
       ·exact .inl h
       ·exact .inr ⟨i',x,h1,(ZaN hlt _).2 (.inl h2),h3⟩
      ·rintro (h | ⟨i',x,h1,h2,h3⟩)
       ·exact .inl h
       ·exact .inr ⟨i',x,h1,((ZaN hlt _).1 h2).resolve_right (hnps i' x h1),h3⟩
     held:=fun i' d ob v h1 h2=>by
      obtain ⟨⟨pl,q1,q5⟩,q2⟩:=hstay g' rv w' hle i' d ob v h1 (((ZaN hlt _).1 h2).resolve_right (hnps i' _ h1))
      exact ⟨⟨pl,q1,fun x=>by rw [hpls hpn d x]; exact q5 x⟩,q2⟩
     inj:=fun i' j' x y h1 h2 h3 h4=>hI.inj i' j' x y h1 h2 (((ZaN hlt _).1 h3).resolve_right (hnps i' _ h1)) (((ZaN hlt _).1 h4).resolve_right (hnps j' _ h2))
     ali:=fun i' d x h1 h2=>hastay rv i' d x h1 (((ZaN hlt _).1 h2).resolve_right (hnas i' _ h1)) }
   unfold wpOp
   rw [ho]
   simp only
   cases hfact with
   | skip hw =>
    rw [hw g a w F hI.sim hguard,if_neg (by simp)]
    exact hnext rfl rfl rfl g undef w (Le.refl (by rw [hI.sim.olen]; exact hkeep)) (hI.sim.put0 o.dst ZdS (by simp [V.still]))
   | calm v hw hop =>
    rw [hw g a w F hI.sim hguard,if_pos rfl]
    refine .inl (Zgu hI.sim (by rw [ZdJ,hEi.len,hI.done.len]) (fun t v hv=>?_) hop keep hkeep _ Q fun g' rv w' hle' hs2=>hnext rfl rfl rfl g' rv w' hle' hs2)
    rcases Zfm _ _ _ t v hv with h | ⟨hm,x,hx,hvx⟩
    ·exact .inl h
    ·rw [Nat.zero_add] at hm
     exact .inr ⟨x,by rw [hlook t hm]; exact hx,hvx⟩
   | hand v M' hw hop =>
    rw [hw g a w F hI.sim hguard,if_pos rfl]
    refine .inl (ZuN (ks:=ZjY ops i o) hI.sim (by rw [Zk5,hEi.len,hI.done.len]) (fun t v hv=>?_) hop keep hkeep _ Q fun g' rv w' hle' hs2=>hnext rfl rfl rfl g' rv w' hle' hs2)
    rcases Zm9 _ _ _ _ t v hv with h | ⟨hm,x,hx,hvx⟩ | ⟨hm,hx⟩
    ·exact .inl h
    ·rw [Nat.zero_add] at hm
     exact .inr (.inl ⟨x,by rw [hlook t hm]; exact hx,hvx⟩)
    ·rw [Nat.zero_add] at hm
     exact .inr (.inr ⟨hm,by rw [hlook t (ZdQ hm).1]; exact hx⟩)
   | lay d ob v hw hd hop =>
    rw [hw g a w F hI.sim hguard,if_pos rfl]
    refine .inl ?_
    obtain ⟨hst,hv0,hesz,hkn,hlay⟩:=hop
    have hmask:=hI.sim.mask (M:=Zeu (ZaZ ops o) 0 Ei) (by rw [ZdJ,hEi.len,hI.done.len]) (fun t v hv=>by
     rcases Zfm _ _ _ t v hv with h | ⟨hm,x,hx,hvx⟩
     ·exact .inl h
     ·rw [Nat.zero_add] at hm
      exact .inr ⟨x,by rw [hlook t hm]; exact hx,hvx⟩)
    obtain ⟨rv,arr,cap,l1,l2,l3,l4,l5,l6,l7,l8,l9⟩:=hlay _ s a w hmask
    unfold Oper.wp
    rw [l1]
    show wpAny P .any ops.toArray Q fuel (listed.setIfInBounds i true) (a.put o.dst rv) (w.alloc (.cells arr ob.elem (C.fz ob.ver arr.size)))
    rw [hd] at hdone' hstay hastay ⊢
    have hlow:∀ b,b < w.heap.size → (w.alloc (.cells arr ob.elem (C.fz ob.ver arr.size))).heap[b]? = w.heap[b]?:=fun b hb=>ZcJ w _ hb
    have hle1:Le keep g w g (w.alloc (.cells arr ob.elem (C.fz ob.ver arr.size))):={
     keeps:=hI.sim.keeps_ext hlow
     size:=by simp
     os:=rfl
     tape:=rfl
     output:=rfl
     base:=rfl
     susp:=fun _=>Iff.rfl
     low:=fun b hb=>hlow b (Nat.lt_of_lt_of_le hb hI.sim.basele)
     sus:=fun b hb=>⟨hlow b (hI.sim.susplt b hb),fun _ h=>h,fun _ h=>h⟩
     klen:=by rw [hI.sim.olen]; exact hkeep
     obs:=fun o ho x' hx=>⟨x',hx,Nat.le_refl _,fun _=>rfl⟩ }
    have hold:=hI.sim.hold (.cells arr ob.elem (C.fz ob.ver arr.size)) d rv
    have hips:∀ x,(i,x) ∈ ps → x = (d,ob,v):=fun x hx=>(Option.some.inj ((hq x).1 hx)).symm
    have hmemi:(i,(d,ob,v)) ∈ ps:=(hq _).2 rfl
    have hHlt:∀ i' x,(i',x) ∈ ps → listed.getD i' false = true → H i' < w.heap.size:=fun i' x h1 h2=>by obtain ⟨⟨_,q1,_⟩,_⟩:=hI.held i' x.1 x.2.1 x.2.2 h1 h2; exact q1.lt
    let H':Nat → Nat:=fun j=>if j = i then w.heap.size else H j
    have hHi:H' i = w.heap.size:=by simp [H']
    have hHn:∀ j,j ≠ i → H' j = H j:=fun j hj=>by simp [H',hj]
    have hle0:Le keep g0 w0 { g with susp:=g0.susp } (w.alloc (.cells arr ob.elem (C.fz ob.ver arr.size))):=hI.le.rest hsub hle1
    refine ih fuel (Nat.lt_succ_self _) H' _ { g with susp:=fun b=>g.susp b ∨ b = w.heap.size } _ _ (Zai F d .dead) hcnt' {
     size:=by simpa using hI.size
     lt:=hlt'
     closed:=hclosed'
     le:=hle0
     sim:=hold
     defers:=by rw [ZbG]; exact hI.defers
     done:=hdone'
     susp:=fun b=>by
      show (g.susp b ∨ b = w.heap.size) ↔ _
      rw [hI.susp b]
      constructor
      ·rintro ((h | ⟨i',x,h1,h2,h3⟩) | h)
       ·exact .inl h
       ·have hne:i' ≠ i:=fun e=>hni (by rw [← e]; exact h2)
        exact .inr ⟨i',x,h1,(ZaN hlt _).2 (.inl h2),by rw [hHn i' hne]; exact h3⟩
       ·exact .inr ⟨i,_,hmemi,(ZaN hlt _).2 (.inr rfl),by rw [hHi,h]⟩
      ·rintro (h | ⟨i',x,h1,h2,h3⟩)
       ·exact .inl (.inl h)
       ·by_cases hne:i' = i
        ·subst hne; rw [hHi] at h3; exact .inr h3.symm
        ·rw [hHn i' hne] at h3
         exact .inl (.inr ⟨i',x,h1,((ZaN hlt _).1 h2).resolve_right hne,h3⟩)
     held:=fun i' d' ob' v' h1 h2=>by
      by_cases hne:i' = i
      ·subst hne
       have:=hips _ h1
       injection this with e1 e2
       injection e2 with e2 e3
       subst e1 e2 e3
       rw [hHi]
       refine ⟨⟨none,{
        susp:=.inr rfl
        low:=hI.sim.basele
        lt:=by simp
        nimm:=fun j hj=>Nat.lt_irrefl _ (hI.sim.immlt _ j hj)
        still:=hst
        ver:=hv0
        esz:=hesz
        known:=hkn
        sz:=l5
        flat:=l6
        blk:=⟨rv,arr,cap,Zb5 w _,l2,l3,l4,l7,l8,fun hlt3=>by rw [Zdi] at hlt3; exact Zea hlt3 rfl,l9⟩ },fun x=>?_⟩,hI.le.size⟩
       rw [hpls rfl _ x]
       constructor
       ·intro h; cases h
       ·rintro ⟨j,u',h3,h4⟩
        obtain ⟨oj,_,_,_,hoj,_,_,_,_,_,_,fd,_⟩:=hpuf j _ x u' h3
        exact absurd hd (hfed j oj _ h4 hoj fd)
      ·have hl2:=((ZaN hlt _).1 h2).resolve_right hne
       rw [hHn i' hne]
       obtain ⟨⟨pl,q1,q5⟩,q2⟩:=hstay g rv _ hle1 i' d' ob' v' h1 hl2
       exact ⟨⟨pl,q1.with (.inl q1.susp) rfl rfl,fun x=>by rw [hpls rfl d' x]; exact q5 x⟩,q2⟩
     inj:=fun i' j' x y h1 h2 h3 h4 h5=>by
      by_cases hi':i' = i <;> by_cases hj':j' = i
      ·rw [hi',hj']
      ·subst hi'
       rw [hHi,hHn j' hj'] at h5
       have:=hHlt j' y h2 (((ZaN hlt _).1 h4).resolve_right hj')
       omega
      ·subst hj'
       rw [hHi,hHn i' hi'] at h5
       have:=hHlt i' x h1 (((ZaN hlt _).1 h3).resolve_right hi')
       omega
      ·rw [hHn i' hi',hHn j' hj'] at h5
       exact hI.inj i' j' x y h1 h2 (((ZaN hlt _).1 h3).resolve_right hi') (((ZaN hlt _).1 h4).resolve_right hj') h5
     ali:=fun i' d' x' h1 h2=>hastay rv i' d' x' h1 (((ZaN hlt _).1 h2).resolve_right fun e=>by
      rw [e] at h1
      have:=(hqa _).1 h1
      cases this) }
   | ali d x hw hd hop hx =>
    rw [hw g a w F hI.sim hguard,if_pos rfl]
    refine .inl ?_
    have hrun:(execOp a.eval o).run P w = .ok (.value (a.eval (.tmp x))) w:=by simp [execOp,hop]
    unfold Oper.wp
    rw [hrun]
    show wpAny P .any ops.toArray Q fuel (listed.setIfInBounds i true) (a.put o.dst (a.eval (.tmp x))) w
    have hle1:Le keep g w g w:=Le.refl (by rw [hI.sim.olen]; exact hkeep)
    have hnps:∀ i' x,(i',x) ∈ ps → i' ≠ i:=by
     rintro i' x hx rfl
     have:=(hq x).1 hx
     cases this
    have hst:=hstay g (a.eval (.tmp x)) w hle1
    have hat:=hastay (a.eval (.tmp x))
    rw [hd] at hdone' hst hat ⊢
    refine ih fuel (Nat.lt_succ_self _) H _ g _ w (Zai F d .dead) hcnt' {
     size:=by simpa using hI.size
     lt:=hlt'
     closed:=hclosed'
     le:=hI.le
     sim:=hI.sim.put0 (some d) (.dead _) (by simp [V.still])
     defers:=by rw [ZbG]; exact hI.defers
     done:=hdone'
     susp:=fun b=>by
      rw [hI.susp b]
      constructor
      ·rintro (h | ⟨i',x,h1,h2,h3⟩)
       ·exact .inl h
       ·exact .inr ⟨i',x,h1,(ZaN hlt _).2 (.inl h2),h3⟩
      ·rintro (h | ⟨i',x,h1,h2,h3⟩)
       ·exact .inl h
       ·exact .inr ⟨i',x,h1,((ZaN hlt _).1 h2).resolve_right (hnps i' x h1),h3⟩
     held:=fun i' d ob v h1 h2=>by
      obtain ⟨⟨pl,q1,q5⟩,q2⟩:=hst i' d ob v h1 (((ZaN hlt _).1 h2).resolve_right (hnps i' _ h1))
      exact ⟨⟨pl,q1,fun x=>by rw [hpls rfl d x]; exact q5 x⟩,q2⟩
     inj:=fun i' j' x y h1 h2 h3 h4=>hI.inj i' j' x y h1 h2 (((ZaN hlt _).1 h3).resolve_right (hnps i' _ h1)) (((ZaN hlt _).1 h4).resolve_right (hnps j' _ h2))
     ali:=fun i' d' x' h1 h2=>by
      by_cases hne:i' = i
      ·rw [hne] at h1
       have:=(hqa _).1 h1
       injection this with e0
       injection e0 with e1 e2
       rw [← e1,← e2]
       intro hd1 hx1
       rw [Zdi] at hd1 hx1
       have hxd:d ≠ x:=by
        rintro rfl
        obtain ⟨j,p,hp,hpd,e,he,hb,hon⟩:=hx
        have:=hB.after i o him ho' e he hb
        have hij:=hB.apart i j o p d him (by omega) ho' hp hd hpd
        omega
       rw [Zea hd1 rfl,ZcB hxd]
       simp [Act.eval,hx1]
      ·exact hat i' d' x' h1 (((ZaN hlt _).1 h2).resolve_right hne) }
   | put t d x v dv hw hd hop hk' hx hdv hsz hfl fd fx =>
    rw [hw g a w F hI.sim hguard,if_pos rfl]
    refine .inl ?_
    have hmemi:(i,(d,x,v.noOwn)) ∈ pus:=(hqp _).2 rfl
    obtain ⟨r,hr,hrv⟩:=hpuv _ hmemi
    obtain ⟨⟨jl,dl,ob,vl⟩,hql,rfl⟩:=List.mem_map.1 hr
    obtain ⟨r1,r2,r3,r4⟩:=ZhI hrv
    simp only at r1 r2 r3 r4
    subst r1 r4
    obtain ⟨ol,hol,hdl⟩:=hpsd jl dl ob _ hql
    obtain ⟨jd,pd,hpd,hpdd,e,he,heb,heo⟩:=fd
    have hjd:listed.getD jd false = true:=by rw [← heo]; exact hall' e he heb
    have hjj:jd = jl:=hB.apart jd jl pd ol dl (hI.lt _ hjd) (hps _ hql) hpd hol hpdd hdl
    subst hjj
    obtain ⟨⟨pl,q1,q5⟩,q2⟩:=hI.held jd dl ob _ hql hjd
    have hpl:pl = none:=by
     cases pl with
     | none=>rfl
     | some x2 =>
      obtain ⟨j2,u2,h3,h4⟩:=(q5 x2).1 rfl
      obtain ⟨e1,_,_⟩:=hpu1 _ _ _ _ _ _ _ h3 hmemi
      rw [e1] at h4
      exact absurd h4 hni
    subst hpl
    have hlkx:x ∈ ZaZ ops o:=by simp [ZaZ,Oper.looksAt,hop,Op.operands]
    have hlkd:dl ∈ ZaZ ops o:=by simp [ZaZ,Oper.looksAt,hop,Op.operands]
    obtain ⟨arr2,hrun,hheld⟩:=q1.put (P:=P) (o:=o) hC hI.sim hk' hop (by rw [hlook dl hlkd]; exact hdv) (by rw [hlook x hlkx]; exact hx) hsz hfl (by rw [r2,hsz]) r3
    unfold Oper.wp
    rw [hrun]
    show wpAny P .any ops.toArray Q fuel (listed.setIfInBounds i true) (a.put o.dst undef) (w.setRow (H jd) arr2)
    rw [hd] at hdone' ⊢
    have hoth:∀ b',b' ≠ H jd → (w.setRow (H jd) arr2).heap[b']? = w.heap[b']?:=fun b' hb'=>setRow_other w (H jd) b' arr2 hb'
    have hsize:(w.setRow (H jd) arr2).heap.size = w.heap.size:=setRow_size w (H jd) arr2
    have hle0:=hI.le
    have hleN:Le keep g0 w0 { g with susp:=g0.susp } (w.setRow (H jd) arr2):={
     keeps:=⟨hle0.keeps.imm,hle0.keeps.safe,fun b j hb=>(Za2 (hoth b (by have:=h0i b j hb; omega)) j).trans (hle0.keeps.cell b j hb)⟩
     size:=by rw [hsize]; exact hle0.size
     os:=hle0.os
     tape:=hle0.tape
     output:=hle0.output
     base:=hle0.base
     susp:=hle0.susp
     low:=fun b hb=>(hoth b (by omega)).trans (hle0.low b hb)
     sus:=fun b hb=>⟨(hoth b (by have:=h0 b hb; omega)).trans (hle0.sus b hb).1,(hle0.sus b hb).2⟩
     klen:=hle0.klen
     obs:=hle0.obs }
    have hnps:∀ i' x,(i',x) ∈ ps → i' ≠ i:=by
     rintro i' x hx rfl
     have:=(hq x).1 hx
     cases this
    have hnas:∀ i' x,(i',x) ∈ as → i' ≠ i:=by
     rintro i' x hx rfl
     have:=(hqa x).1 hx
     cases this
    refine ih fuel (Nat.lt_succ_self _) H _ g a (w.setRow (H jd) arr2) F hcnt' {
     size:=by simpa using hI.size
     lt:=hlt'
     closed:=hclosed'
     le:=hleN
     sim:=hI.sim.poke_susp q1.susp q1.nimm arr2
     defers:=hI.defers
     done:=hdone'
     susp:=fun b=>by
      rw [hI.susp b]
      constructor
      ·rintro (h | ⟨i',x,h1,h2,h3⟩)
       ·exact .inl h
       ·exact .inr ⟨i',x,h1,(ZaN hlt _).2 (.inl h2),h3⟩
      ·rintro (h | ⟨i',x,h1,h2,h3⟩)
       ·exact .inl h
       ·exact .inr ⟨i',x,h1,((ZaN hlt _).1 h2).resolve_right (hnps i' x h1),h3⟩
     held:=fun i' d' ob' v' h1 h2=>by
      have hl2:=((ZaN hlt _).1 h2).resolve_right (hnps i' _ h1)
      by_cases hij:i' = jd
      ·subst hij
       obtain ⟨_,_,_,q',_,_,_,_,_,_,q4,_⟩:=hfacts i' ol (hps _ hql) hol
       have e1:=(q4 _).1 h1
       have e2:=(q4 _).1 hql
       rw [e1] at e2
       have e3:=Option.some.inj e2
       injection e3 with e3 e4
       injection e4 with e4 e5
       subst e3 e4 e5
       refine ⟨⟨some x,hheld,fun x2=>⟨fun h=>?_,fun ⟨j2,u2,h3,h4⟩=>?_⟩⟩,q2⟩
       ·obtain rfl:=Option.some.inj h
        exact ⟨i,_,hmemi,(ZaN hlt _).2 (.inr rfl)⟩
       ·obtain ⟨_,e2,_⟩:=hpu1 _ _ _ _ _ _ _ h3 hmemi
        rw [e2]
      ·obtain ⟨⟨pl,p1,p5⟩,p2⟩:=hI.held i' d' ob' v' h1 hl2
       refine ⟨⟨pl,p1.other (by rw [hsize]; exact Nat.le_refl _) (hoth _ fun e=>hij (hI.inj i' jd _ _ h1 hql hl2 hjd e)),fun x2=>?_⟩,p2⟩
       rw [p5 x2]
       constructor
       ·rintro ⟨j2,u2,h3,h4⟩
        exact ⟨j2,u2,h3,(ZaN hlt _).2 (.inl h4)⟩
       ·rintro ⟨j2,u2,h3,h4⟩
        refine ⟨j2,u2,h3,((ZaN hlt _).1 h4).resolve_right fun e=>hij ?_⟩
        subst e
        have e1:=(hqp _).1 h3
        have e3:=Option.some.inj e1
        injection e3 with e3 e4
        obtain ⟨o2,ho2,hd2⟩:=hpsd i' d' ob' v' h1
        exact hB.apart i' jd o2 ol d' (hps _ h1) (hps _ hql) ho2 hol hd2 (hdl.trans (congrArg some (by first | exact e3 | exact e3.symm)))
     inj:=fun i' j' x y h1 h2 h3 h4=>hI.inj i' j' x y h1 h2 (((ZaN hlt _).1 h3).resolve_right (hnps i' _ h1)) (((ZaN hlt _).1 h4).resolve_right (hnps j' _ h2))
     ali:=fun i' d' x' h1 h2=>hI.ali i' d' x' h1 (((ZaN hlt _).1 h2).resolve_right (hnas i' _ h1)) }
theorem Zke (hC:Ok P C) {Φ:Zat} (hΦ:Zab P C Φ) {id m:Nat} {ops:Array Oper} {K:List V → S → Option R} {r:R} (hB:Blocked C ops.toList m) (h:ZcV C Φ ops.toList 0 (ops.toList.take m) E s [] [] [] K = some r) :
  ∃ E' s',K E' s' = some r ∧ s.length ≤ s'.length ∧ ∀ g a w keep,keep ≤ s.length → Sim C g E s a w → ∀ Q:Exit → Act → World → Prop,
   (∀ g' a' w' (listed:Array Bool) (fuel:Nat),listed.size = ops.toList.length → (∀ j,listed.getD j false = true ↔ j < m) → listed.toList.count false ≤ fuel → Le keep g w g' w' → Sim C g' E' s' a' w' → a'.defers = a.defers → wpAny P .any ops.toList.toArray Q fuel listed a' w') → (Code.region id ops true).wp P Q a w:=by
 have hlen:(ops.toList.take m).length = m:=by rw [List.length_take]; exact Nat.min_eq_left hB.le
 obtain ⟨En,us,kl,ps,as,pus,h1,h2,hpw,hpv⟩:=ZbS hC hΦ (fun o ho=>by
  obtain ⟨i,hi⟩:=List.getElem?_of_mem ho
  rw [List.getElem?_take] at hi
  split at hi
  ·rename_i him
   exact hB.kind i o him (by rw [Zad]; exact hi)
  ·cases hi) .nil h
 rw [List.nil_append,List.nil_append,List.nil_append] at h1
 rw [List.nil_append] at hpw
 simp only [List.nil_append] at hpv
 have hln:=h2.length
 rw [hlen] at hln
 have hfl:∀ (p:Zp3) (s:S),s.length ≤ (Zfd p s).length:=by
  intro p
  induction p with
  | nil=>intro s; exact Nat.le_refl _
  | cons q p ih=>intro s; obtain ⟨d,ob,v⟩:=q; have:=ih (s ++ [some ob]); simp only [Zfd]; simp at this; omega
 refine ⟨_,_,h1,hfl _ _,fun g a w keep hk hs Q hQ=>?_⟩
 have h0:BDone ops.toList us kl E (· < 0) E:=⟨rfl,fun i _ _ hi=>absurd hi (Nat.not_lt_zero i),fun _ _=>rfl,fun j _ _ _ hj=>absurd hj (Nat.not_lt_zero j),fun i _ _ hi=>absurd hi (Nat.not_lt_zero i)⟩
 obtain ⟨k1,k2,k3,k3a,k3b,k4⟩:=h2.facts (us0:=us) (kl0:=kl) (E0:=E) hB (by omega) (fun j hj=>by
   rw [hlen] at hj
   rw [Zad,Zad,List.getElem?_take,if_pos hj,Nat.zero_add]) (fun j=>by rw [Nat.zero_add]) (fun j=>by rw [Nat.zero_add]) h0
 refine wp_region_any hC.mixed ?_
 have hs':Sim C g E s a { w with drawn:=w.drawn + 1 }:=hs.ext (Nat.le_refl _) fun _ _=>rfl
 have hnone:∀ j,¬ (Array.replicate ops.size false).getD j false = true:=by
  intro j hj
  simp only [Array.getD] at hj
  split at hj
  ·simp at hj
  ·cases hj
 have:=Zqn (P:=P) (s:=s) hC hB hln.1 (fun i o hi ho=>k1 i o (Nat.zero_le i) hi ho) k2 (fun p hp=>(k3 p hp).2) (fun p hp=>(k3a p hp).2) (fun p hp=>(k3b p hp).2) hpw hpv k4 rfl rfl keep hk Q g a { w with drawn:=w.drawn + 1 } hs'.susplt hs'.immlt hs'.basele
  (fun g' a' w' listed fuel hls hall hcnt hle hsim hd=>hQ g' a' w' listed fuel hls hall hcnt ⟨⟨hle.keeps.imm,hle.keeps.safe,hle.keeps.cell⟩,hle.size,hle.os,hle.tape,hle.output,hle.base,hle.susp,hle.low,hle.sus,hle.klen,hle.obs⟩ hsim hd)
  ops.size (fun _=>0) (Array.replicate ops.size false) g a { w with drawn:=w.drawn + 1 } E (by simp) {
   size:=by simp
   lt:=fun j hj=>absurd hj (hnone j)
   closed:=fun i _ _ hi=>absurd hi (hnone i)
   le:=(Le.refl (by rw [hs.olen]; exact hk):Le keep g { w with drawn:=w.drawn + 1 } g { w with drawn:=w.drawn + 1 })
   sim:=hs'
   defers:=rfl
   done:=h0.iff fun j=>⟨fun h=>absurd h (Nat.not_lt_zero j),fun h=>absurd h (hnone j)⟩
   susp:=fun b=>⟨.inl,fun h=>h.elim (fun h=>h) fun ⟨i,_,_,hl,_⟩=>absurd hl (hnone i)⟩
   held:=fun i _ _ _ _ hl=>absurd hl (hnone i)
   inj:=fun i _ _ _ _ _ hl=>absurd hl (hnone i)
   ali:=fun i _ _ _ hl=>absurd hl (hnone i) }
 rwa [Array.toArray_toList] at this
theorem ZrO (hC:Ok P C) {Φ:Zat} (hΦ:Zab P C Φ) {id m:Nat} {ops:Array Oper} {K:List V → S → Option R} {r:R} (hb:ZeF C ops.toList m = true) (h:ZcV C Φ ops.toList 0 (ops.toList.take m) E s [] [] [] K = some r) :
  ∃ E' s',K E' s' = some r ∧ s.length ≤ s'.length ∧ ∀ g a w keep,keep ≤ s.length → Sim C g E s a w → ∀ Q:Exit → Act → World → Prop,
   (∀ g' a' w',Le keep g w g' w' → Sim C g' E' s' a' w' → a'.defers = a.defers → wpList P ops Q (ops.toList.drop m) a' w') → (Code.region id ops true).wp P Q a w:=by
 obtain ⟨hB,hch⟩:=Zhk hb
 obtain ⟨E',s',h1,h2,h3⟩:=Zke (id:=id) hC hΦ hB h
 have hdrop:∀ j,nth (ops.toList.drop m) j = nth ops.toList (m + j):=fun j=>by rw [Zad,Zad,List.getElem?_drop]
 refine ⟨E',s',h1,h2,fun g a w keep hk hs Q hQ=>h3 g a w keep hk hs Q fun g' a' w' listed fuel hls hall hcnt hle hsim hd=>?_⟩
 exact ZhF hB hch (ops.toList.drop m) m fuel listed a' w' (Nat.le_refl _) (by rw [List.length_drop]; have:=hB.le; omega) hdrop hls hall hcnt (by
  have:=hQ g' a' w' hle hsim hd
  rwa [Array.toArray_toList])
end
end Go.VM
