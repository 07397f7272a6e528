/- Regions that begin with operations in any order and go on in the order of the text. -/
import Derived.Test.YtkchbabkbpcncaaVmRd
set_option linter.unusedSimpArgs false
set_option linter.unusedVariables false
namespace Go.VM
open Go.RowKit Go.Lib
section
variable {P:Program} {C:Cfg} {o:Oper} {E:List V} {s:S} {R:Type}
inductive BFact (P:Program) (C:Cfg) (ops:List Oper) (s:S) (i:Nat) (o:Oper) (E:List V):V → List Nat → Option (Nat × Ob × V) → Option (Nat × Nat) → Option (Nat × Nat × V) → Prop
 | calm (v:V) (hw:∀ (g:G) (a:Act) (w:World) (F:List V),Sim C g F s a w → (∀ d,Zby ops o = some d → nth F d = nth E d) → Region.wanted o (yielded ops.toArray a.tmps) = true)
   (h:Zbi P C o (Zeu (ZaZ ops o) 0 E) s v (Zeu (ZaZ ops o) 0 E) s):BFact P C ops s i o E v.noOwn [] none none none
 | hand (v:V) (M':List V) (hw:∀ (g:G) (a:Act) (w:World) (F:List V),Sim C g F s a w → (∀ d,Zby ops o = some d → nth F d = nth E d) → Region.wanted o (yielded ops.toArray a.tmps) = true)
   (h:Zbi P C o (ZjM (ZjY ops i o) (ZaZ ops o) 0 E) s v M' s):BFact P C ops s i o E v (ZjY ops i o) none none none
 | lay (d:Nat) (ob:Ob) (v:V) (hw:∀ (g:G) (a:Act) (w:World) (F:List V),Sim C g F s a w → (∀ d,Zby ops o = some d → nth F d = nth E d) → Region.wanted o (yielded ops.toArray a.tmps) = true)
   (hd:o.dst = some d) (h:ZsW P C o (Zeu (ZaZ ops o) 0 E) ob v):BFact P C ops s i o E .dead [] (some (d,ob,v)) none none
 | skip (hw:∀ (g:G) (a:Act) (w:World) (F:List V),Sim C g F s a w → (∀ d,Zby ops o = some d → nth F d = nth E d) → Region.wanted o (yielded ops.toArray a.tmps) = false):BFact P C ops s i o E (.tuple []) [] none none none
 | ali (d x:Nat) (hw:∀ (g:G) (a:Act) (w:World) (F:List V),Sim C g F s a w → (∀ d,Zby ops o = some d → nth F d = nth E d) → Region.wanted o (yielded ops.toArray a.tmps) = true)
   (hd:o.dst = some d) (h:o.op = .assign (.tmp x)) (hx:∃ j p,nth ops j = some p ∧ p.dst = some x ∧ ∃ e ∈ o.after,Region.binds .any e = true ∧ e.on = j):BFact P C ops s i o E .dead [] none (some (d,x)) none
 | put (t:TypeId) (d x:Nat) (v dv:V) (hw:∀ (g:G) (a:Act) (w:World) (F:List V),Sim C g F s a w → (∀ d,Zby ops o = some d → nth F d = nth E d) → Region.wanted o (yielded ops.toArray a.tmps) = true)
   (hd:o.dst = none) (h:o.op = .store t (.tmp d) (.tmp x)) (hk:(C.ty t).known = true) (hx:nth E x = some v) (hdv:nth E d = some dv) (hsz:v.noOwn.cells.length = (C.ty t).size) (hfl:v.noOwn.flat = true)
   (fd:∃ j p,nth ops j = some p ∧ p.dst = some d ∧ ∃ e ∈ o.after,Region.binds .any e = true ∧ e.on = j)
   (fx:∃ j p,nth ops j = some p ∧ p.dst = some x ∧ ∃ e ∈ o.after,Region.binds .any e = true ∧ e.on = j):BFact P C ops s i o E .dead [] none none (some (d,x,v.noOwn))
def ZdB (i:Nat):Option (Nat × Ob × V) → ZtX
 | none=>[]
 | some q=>[(i,q)]
def ZeC (i:Nat):Option (Nat × Nat) → List (Nat × Nat × Nat)
 | none=>[]
 | some q=>[(i,q)]
def ZdZ (i:Nat):Option (Nat × Nat × V) → List (Nat × Nat × Nat × V)
 | none=>[]
 | some q=>[(i,q)]
inductive BPlan (P:Program) (C:Cfg) (ops:List Oper) (s:S):Nat → List Oper → List V → List V → List V → List (List Nat) → ZtX → List (Nat × Nat × Nat) → List (Nat × Nat × Nat × V) → Prop
 | nil (i:Nat) (E:List V):BPlan P C ops s i [] E E [] [] [] [] []
 | cons (i:Nat) (o:Oper) (l:List Oper) (E En:List V) (u:V) (us:List V) (ks:List Nat) (kl:List (List Nat)) (q:Option (Nat × Ob × V)) (ps:ZtX) (al:Option (Nat × Nat)) (as:List (Nat × Nat × Nat)) (pq:Option (Nat × Nat × V)) (pus:List (Nat × Nat × Nat × V)) (hf:BFact P C ops s i o E u ks q al pq)
   (h:BPlan P C ops s (i + 1) l (Zcy (Za7 ks E) o.dst u) En us kl ps as pus):BPlan P C ops s i (o :: l) E En (u :: us) (ks :: kl) (ZdB i q ++ ps) (ZeC i al ++ as) (ZdZ i pq ++ pus)
theorem ZdO {ops:List Oper} {t:Nat} (h:ZoF ops o t = true):∃ j p,nth ops j = some p ∧ p.dst = some t ∧ ∃ e ∈ o.after,Region.binds .any e = true ∧ e.on = j:=by
 unfold ZoF at h
 obtain ⟨j,_,hj⟩:=List.any_eq_true.1 h
 split at hj <;> first | (cases hj; done) | skip
 rename_i p hp
 simp only [Bool.and_eq_true,Array.any_eq_true',beq_iff_eq] at hj
 obtain ⟨h5,e,he,hb,hon⟩:=hj
 cases hd:p.dst with
 | none=>rw [hd] at h5; cases h5
 | some d =>
  rw [hd] at h5
  have:d = t:=Nat.eq_of_beq_eq_true h5
  exact ⟨j,p,hp,by rw [hd,this],e,he,hb,hon⟩
theorem Zpv {ops:List Oper} {p:Zp3} {al:List (Nat × Nat)} {x:Nat} (h:ZlR ops p al o = some x):o.op = .assign (.tmp x) ∧ ∃ j p,nth ops j = some p ∧ p.dst = some x ∧ ∃ e ∈ o.after,Region.binds .any e = true ∧ e.on = j:=by
 unfold ZlR at h
 split at h <;> first | (cases h; done) | skip
 rename_i y ho
 split at h <;> first | (cases h; done) | skip
 rename_i hb
 obtain rfl:=Option.some.inj h
 refine ⟨ho,?_⟩
 simp only [Bool.and_eq_true] at hb
 exact ZdO hb.2
theorem ZsJ {ops:List Oper} {p:Zp3} {pu:ZrV} {t:TypeId} {d x:Nat} (h:Zt7 C ops p pu o = some (t,d,x)):o.op = .store t (.tmp d) (.tmp x) ∧ o.dst = none ∧ (C.ty t).known = true ∧ (∃ q ∈ p,ZoS q d (C.ty t).size = true) ∧ (∀ q ∈ pu,q.1 ≠ d) ∧
  (∃ j p,nth ops j = some p ∧ p.dst = some d ∧ ∃ e ∈ o.after,Region.binds .any e = true ∧ e.on = j) ∧ ∃ j p,nth ops j = some p ∧ p.dst = some x ∧ ∃ e ∈ o.after,Region.binds .any e = true ∧ e.on = j:=by
 unfold Zt7 at h
 split at h <;> first | (cases h; done) | skip
 rename_i t' d' x' ho hd
 split at h <;> first | (cases h; done) | skip
 rename_i hb
 have h2:=Option.some.inj h
 injection h2 with h3 h4
 injection h4 with h4 h5
 subst h3 h4 h5
 simp only [Bool.and_eq_true,Bool.not_eq_true'] at hb
 obtain ⟨⟨⟨⟨b1,b2⟩,b3⟩,b4⟩,b5⟩:=hb
 obtain ⟨q,hq,hv⟩:=List.any_eq_true.1 b1
 refine ⟨ho,hd,b5,⟨q,hq,hv⟩,fun q hq e=>?_,ZdO b3,ZdO b4⟩
 have:pu.any (fun q=>Nat.beq q.1 d') = true:=List.any_eq_true.2 ⟨q,hq,by simp [e]⟩
 rw [b2] at this; cases this
theorem ZbS (hC:Ok P C) {Φ:Zat} (hΦ:Zab P C Φ) {ops:List Oper}:∀ {l:List Oper} {i:Nat} {E:List V} {p:Zp3} {al:List (Nat × Nat)} {pu:ZrV} {K:List V → S → Option R} {r:R},
  (∀ o ∈ l,(Zdh o = true ∨ Zcc C o = true ∨ ZbB C ops o = true ∨ Zfq o = true)) → pu.Pairwise (fun a b=>a.1 ≠ b.1) → ZcV C Φ ops i l E s p al pu K = some r →
  ∃ En us kl ps as pus,K (Zkx (al ++ as.map (·.2)) (Zkb (ZpP (pu ++ pus.map (·.2)) (p ++ ps.map (·.2))) En s)) (Zfd (ZpP (pu ++ pus.map (·.2)) (p ++ ps.map (·.2))) s) = some r ∧ BPlan P C ops s i l E En us kl ps as pus ∧
   (pu ++ pus.map (·.2)).Pairwise (fun a b=>a.1 ≠ b.1) ∧ ∀ q ∈ pus,∃ r ∈ p ++ ps.map (·.2),ZoS r q.2.1 q.2.2.2.cells.length = true
 | [],i,E,p,al,pu,K,r,_,hpw,h=>by
  simp only [ZcV] at h
  exact ⟨E,[],[],[],[],[],by simpa using h,.nil i E,by simpa using hpw,by simp⟩
 | o :: l,i,E,p,al,pu,K,r,hc,hpw,h=>by
  simp only [ZcV] at h
  obtain ⟨b,h,hb⟩:=Zeb (C:=C) (s:=s) h
  have hc':∀ o ∈ l,(Zdh o = true ∨ Zcc C o = true ∨ ZbB C ops o = true ∨ Zfq o = true):=fun o ho=>hc o (by simp [ho])
  cases b with
  | false =>
   simp only at h
   obtain ⟨En,us,kl,ps,as,pus,h3,h4,h5,h6⟩:=ZbS hC hΦ hc' hpw h
   exact ⟨En,_ :: us,[] :: kl,ZdB i none ++ ps,ZeC i none ++ as,ZdZ i none ++ pus,h3,.cons i o l E En _ us [] kl none ps none as none pus (.skip hb) h4,h5,h6⟩
  | true =>
   simp only at h
   split at h
   ·rename_i t d x hput
    obtain ⟨k1,k2,k3,k4,k5,k6,k7⟩:=ZsJ hput
    obtain ⟨v,hv,h⟩:=Zae h
    obtain ⟨dv,hdv,h⟩:=Zae h
    obtain ⟨hg,h⟩:=Zaa h
    simp only [Bool.and_eq_true] at hg
    have hlen:v.noOwn.cells.length = (C.ty t).size:=Nat.eq_of_beq_eq_true hg.1
    obtain ⟨En,us,kl,ps,as,pus,h3,h4,h5,h6⟩:=ZbS hC hΦ hc' (by
     rw [List.pairwise_append]
     exact ⟨hpw,by simp,fun a ha b hb=>by simp only [List.mem_singleton] at hb; subst hb; exact k5 a ha⟩) h
    refine ⟨En,_ :: us,[] :: kl,ZdB i none ++ ps,ZeC i none ++ as,ZdZ i (some (d,x,v.noOwn)) ++ pus,?_,.cons i o l E En .dead us [] kl none ps none as (some (d,x,v.noOwn)) pus (.put t d x v dv hb k2 k1 k3 hv hdv hlen hg.2 k6 k7) (by rw [k2]; exact h4),?_,fun q hq=>?_⟩
    ·simpa [ZdZ,ZeC,ZdB] using h3
    ·simpa [ZdZ] using h5
    ·rcases List.mem_append.1 hq with hq | hq
     ·simp only [ZdZ,List.mem_singleton] at hq
      subst hq
      obtain ⟨r,hr,hrv⟩:=k4
      exact ⟨r,by simp [hr],by rw [hlen]; exact hrv⟩
     ·exact h6 q hq
   split at h <;> first | (cases h; done) | skip
   rename_i hnput
   split at h
   ·rename_i x d hx hd
    obtain ⟨En,us,kl,ps,as,pus,h3,h4,h5,h6⟩:=ZbS hC hΦ hc' hpw h
    obtain ⟨k1,k2⟩:=Zpv hx
    refine ⟨En,_ :: us,[] :: kl,ZdB i none ++ ps,ZeC i (some (d,x)) ++ as,ZdZ i none ++ pus,?_,.cons i o l E En .dead us [] kl none ps (some (d,x)) as none pus (.ali d x hb hd k1 k2) (by rw [hd]; exact h4),h5,h6⟩
    simpa [ZeC,ZdB,ZdZ] using h3
   split at h
   ·rename_i hlay
    obtain ⟨ob,v,E',h1,h2⟩:=ZvZ (P:=P) hC hlay h
    split at h1 <;> first | (cases h1; done) | skip
    rename_i ob' d hob hd
    have hob':ob = ob':=by
     have:=List.cons.inj hob
     exact Option.some.inj this.1
    subst hob'
    obtain ⟨En,us,kl,ps,as,pus,h3,h4,h5,h6⟩:=ZbS hC hΦ hc' hpw h1
    refine ⟨En,_ :: us,[] :: kl,ZdB i (some (d,ob,v)) ++ ps,ZeC i none ++ as,ZdZ i none ++ pus,?_,.cons i o l E En .dead us [] kl (some (d,ob,v)) ps none as none pus (.lay d ob v hb hd h2) (by rw [hd]; exact h4),h5,fun q hq=>?_⟩
    ·simpa [ZdB,ZeC,ZdZ] using h3
    ·obtain ⟨r,hr,hrv⟩:=h6 q hq
     exact ⟨r,by simpa [ZdB] using hr,hrv⟩
   ·rename_i hlay
    split at h
    ·rename_i hh
     obtain ⟨v,E',s',h1,h2⟩:=ZuE (P:=P) hC hΦ hh h
     split at h1 <;> first | (cases h1; done) | skip
     rename_i sz es f
     obtain ⟨En,us,kl,ps,as,pus,h3,h4,h5,h6⟩:=ZbS hC hΦ hc' hpw h1
     exact ⟨En,_ :: us,_ :: kl,ZdB i none ++ ps,ZeC i none ++ as,ZdZ i none ++ pus,h3,.cons i o l E En _ us _ kl none ps none as none pus (.hand _ E' hb (h2 ⟨_,_,_,rfl⟩)) h4,h5,h6⟩
    ·rename_i hh
     have hcalm:ZbB C ops o = true:=by
      rcases hc o (by simp) with hk | hk | hk | hk
      ·exact absurd hk (by simp [hlay])
      ·exact absurd hk (by simp [hh])
      ·exact hk
      ·exact absurd hk (by simp [hnput])
     obtain ⟨v,_,_,v',h1,hv',h2⟩:=Zq8 (P:=P) hC hΦ hcalm h
     obtain ⟨En,us,kl,ps,as,pus,h3,h4,h5,h6⟩:=ZbS hC hΦ hc' hpw h1
     refine ⟨En,v.noOwn :: us,[] :: kl,ZdB i none ++ ps,ZeC i none ++ as,ZdZ i none ++ pus,h3,.cons i o l E En _ us [] kl none ps none as none pus ?_ h4,h5,h6⟩
     rw [← hv']
     exact .calm v' hb h2
structure BDone (ops:List Oper) (us:List V) (kl:List (List Nat)) (E0:List V) (L:Nat → Prop) (F:List V):Prop where
 len:F.length = E0.length
 dead:∀ i ks t,L i → nth kl i = some ks → t ∈ ks → t < E0.length → nth F t = some .dead
 old:∀ t,(∀ j o,L j → nth ops j = some o → o.dst ≠ some t) → nth F t = nth E0 t
 new:∀ j o u t,L j → nth ops j = some o → nth us j = some u → o.dst = some t → t < E0.length → (∀ i ks,L i → nth kl i = some ks → t ∉ ks) → nth F t = some u
 closed:∀ i ks t,L i → nth kl i = some ks → t ∈ ks → ∃ j o,L j ∧ nth ops j = some o ∧ o.dst = some t
structure Blocked (C:Cfg) (ops:List Oper) (m:Nat):Prop where
 le:m ≤ ops.length
 after:∀ i o,i < m → nth ops i = some o → ∀ e ∈ o.after,Region.binds .any e = true → e.on < i
 kind:∀ i o,i < m → nth ops i = some o → (Zdh o = true ∨ Zcc C o = true ∨ ZbB C ops o = true ∨ Zfq o = true)
 deps:∀ i o j p d,i < m → j < m → nth ops i = some o → nth ops j = some p → p.dst = some d → d ∈ ZaZ ops o → ∃ e ∈ o.after,Region.binds .any e = true ∧ e.on = j
 apart:∀ i j o p d,i < m → j < m → nth ops i = some o → nth ops j = some p → o.dst = some d → p.dst = some d → i = j
 mid:∀ o,nth ops m = some o → (∀ e ∈ o.after,Region.binds .any e = true → e.on < m) ∧ ∀ j,j < m → j ∈ ZhQ ops m (ZfN ops m)
 tail:∀ j o,m < j → nth ops j = some o → (∀ e ∈ o.after,Region.binds .any e = true → e.on < j) ∧ ∃ e ∈ o.after,Region.binds .any e = true ∧ m ≤ e.on
def Zgw (ops:List Oper) (n m:Nat):Prop :=
 ∀ j o,m < j → j < n → nth ops j = some o → (∀ e ∈ o.after,Region.binds .any e = true → e.on < j) ∧ ∃ e ∈ o.after,Region.binds .any e = true ∧ e.on + 1 = j
theorem ZdE {ops:List Oper} {n m:Nat} (h:ZdR C ops n m = true)
  (htl:∀ j o,n ≤ j → nth ops j = some o → (∀ e ∈ o.after,Region.binds .any e = true → e.on < j) ∧ ∃ e ∈ o.after,Region.binds .any e = true ∧ m ≤ e.on):Blocked C ops m ∧ Zgw ops n m:=by
 unfold ZdR at h
 simp only [Bool.and_eq_true] at h
 obtain ⟨⟨⟨h1,h2⟩,h3⟩,h4⟩:=h
 have hle:m ≤ ops.length:=of_decide_eq_true h1
 have key:∀ i o,i < m → nth ops i = some o → ((o.after.all fun e=>!Region.binds .any e || decide (e.on < i)) = true ∧ (Zdh o = true ∨ Zcc C o = true ∨ ZbB C ops o = true ∨ Zfq o = true)) ∧ ∀ j p d,j < m → nth ops j = some p → p.dst = some d →
   (d ∈ ZaZ ops o → ∃ e ∈ o.after,Region.binds .any e = true ∧ e.on = j) ∧ (o.dst = some d → i = j):=by
  intro i o hi ho
  have k1:=List.all_eq_true.1 h2 i (List.mem_range.2 hi)
  rw [ho] at k1
  simp only [Bool.and_eq_true,Bool.or_eq_true] at k1
  obtain ⟨⟨⟨k2,k3⟩,_⟩,k4⟩:=k1
  refine ⟨⟨k2,?_⟩,fun j p d hjm hj hd=>?_⟩
  ·rcases k3 with ((h | h) | h) | h
   ·exact .inl h
   ·exact .inr (.inl h)
   ·exact .inr (.inr (.inl h))
   ·exact .inr (.inr (.inr h))
  have k5:=List.all_eq_true.1 k4 j (List.mem_range.2 hjm)
  rw [hj] at k5
  simp only [hd,Bool.and_eq_true,Bool.or_eq_true,Bool.not_eq_true'] at k5
  refine ⟨fun hm=>?_,fun hdi=>?_⟩
  ·rcases k5.1 with h3 | h3
   ·have:(ZaZ ops o).any (Nat.beq d) = true:=List.any_eq_true.2 ⟨d,hm,Nat.beq_refl d⟩
    rw [h3] at this; cases this
   ·rw [Array.any_eq_true'] at h3
    obtain ⟨e,he,h4⟩:=h3
    simp only [Bool.and_eq_true,beq_iff_eq] at h4
    exact ⟨e,he,h4.1,h4.2⟩
  ·rcases k5.2 with h3 | h3
   ·simpa using h3
   ·rw [hdi] at h3
    simp only at h3
    have:Nat.beq d d = true:=Nat.beq_refl d
    rw [h3] at this; cases this
 have hch:Zgw ops n m:=by
  intro j o hj hjn ho
  have k:=List.all_eq_true.1 h4 j (List.mem_range.2 hjn)
  rw [ho] at k
  simp only [Bool.or_eq_true,decide_eq_true_eq,Bool.and_eq_true] at k
  rcases k with k | k
  ·omega
  ·refine ⟨fun e he hbe=>?_,?_⟩
   ·have:=k.1
    rw [Array.all_eq_true'] at this
    simpa [hbe] using this e he
   ·have:=k.2
    rw [Array.any_eq_true'] at this
    obtain ⟨e,he,h4⟩:=this
    simp only [Bool.and_eq_true,beq_iff_eq] at h4
    exact ⟨e,he,h4.1,h4.2⟩
 refine ⟨⟨hle,fun i o hi ho e he hbe=>?_,fun i o hi ho=>(key i o hi ho).1.2,fun i o j p d hi hj ho hp hd hm=>((key i o hi ho).2 j p d hj hp hd).1 hm,fun i j o p d hi hj ho hp hdo hdp=>((key i o hi ho).2 j p d hj hp hdp).2 hdo,fun o ho=>?_,fun j o hj ho=>?_⟩,hch⟩
 ·have:=(key i o hi ho).1.1
  rw [Array.all_eq_true'] at this
  simpa [hbe] using this e he
 ·rw [ho] at h3
  simp only [Bool.and_eq_true] at h3
  refine ⟨fun e he hbe=>?_,fun j hj=>?_⟩
  rotate_left
  ·obtain ⟨x,hx,hb⟩:=List.any_eq_true.1 (List.all_eq_true.1 h3.2 j (List.mem_range.2 hj))
   rw [Nat.eq_of_beq_eq_true hb]; exact hx
  have:=h3.1
  rw [Array.all_eq_true'] at this
  simpa [hbe] using this e he
 ·by_cases hjn:j < n
  ·obtain ⟨k1,e,k2,k3,k4⟩:=hch j o hj hjn ho
   exact ⟨k1,e,k2,k3,by omega⟩
  ·exact htl j o (Nat.le_of_not_lt hjn) ho
theorem Zhk {ops:List Oper} {m:Nat} (h:ZeF C ops m = true):Blocked C ops m ∧ Zgw ops ops.length m :=
 ZdE h fun j o hj ho=>absurd (Zau ho) (by omega)
theorem ZdQ {ops:List Oper} {i t:Nat} {o:Oper} (h:t ∈ ZjY ops i o):t ∈ ZaZ ops o ∧ (∃ j p,nth ops j = some p ∧ p.dst = some t ∧ ∃ e ∈ o.after,Region.binds .any e = true ∧ e.on = j) ∧ ∀ j p,j ≠ i → nth ops j = some p → t ∉ ZaZ ops p:=by
 unfold ZjY at h
 obtain ⟨h1,h2⟩:=List.mem_filter.1 h
 simp only [Bool.and_eq_true] at h2
 obtain ⟨h3,h4⟩:=h2
 refine ⟨h1,ZdO h3,fun j p hj hp hm=>?_⟩
 have:=List.all_eq_true.1 h4 j (List.mem_range.2 (Zau hp))
 rw [hp] at this
 simp only [Bool.or_eq_true,Bool.not_eq_true'] at this
 rcases this with h | h
 ·exact hj (Nat.eq_of_beq_eq_true h)
 ·have:(ZaZ ops p).any (Nat.beq t) = true:=List.any_eq_true.2 ⟨t,hm,Nat.beq_refl t⟩
  rw [h] at this; cases this
theorem BDone.put {ops:List Oper} {us E0:List V} {kl:List (List Nat)} {m:Nat} {L:Nat → Prop} {F:List V} (h:BDone ops us kl E0 L F) (hB:Blocked C ops m) (hL:∀ j,L j → j < m) {i:Nat} {o:Oper} {u:V} {ks:List Nat} (him:i < m) (hi:nth ops i = some o) (hu:nth us i = some u) (hk:nth kl i = some ks)
  (hni:¬ L i) (hks:∀ t ∈ ks,∃ j p,L j ∧ nth ops j = some p ∧ p.dst = some t) :
  BDone ops us kl E0 (fun j=>L j ∨ j = i) (Zcy (Za7 ks F) o.dst u) where
 len:=by rw [ZbI,Zfp]; exact h.len
 dead:=fun i' ks' t hi' hk' ht hlt=>by
  have hne:o.dst ≠ some t:=by
   intro hd
   have:∃ j p,L j ∧ nth ops j = some p ∧ p.dst = some t:=by
    rcases hi' with hi' | rfl
    ·exact h.closed i' ks' t hi' hk' ht
    ·obtain rfl:=Option.some.inj (hk.symm.trans hk')
     exact hks t ht
   obtain ⟨j,p,hj,hp,hpd⟩:=this
   have:=hB.apart i j o p t him (hL j hj) hi hp hd hpd
   subst this
   exact hni hj
  have h1:nth (Zcy (Za7 ks F) o.dst u) t = nth (Za7 ks F) t:=by
   cases hd:o.dst with
   | none=>rfl
   | some d=>exact Zaj fun e=>hne (by rw [hd,e])
  rw [h1]
  by_cases htk:t ∈ ks
  ·exact Zki htk (by rw [h.len]; exact hlt)
  ·rw [ZeB htk]
   rcases hi' with hi' | rfl
   ·exact h.dead i' ks' t hi' hk' ht hlt
   ·obtain rfl:=Option.some.inj (hk.symm.trans hk')
    exact absurd ht htk
 old:=fun t ht=>by
  have hne:o.dst ≠ some t:=ht i o (.inr rfl) hi
  have h1:nth (Zcy (Za7 ks F) o.dst u) t = nth (Za7 ks F) t:=by
   cases hd:o.dst with
   | none=>rfl
   | some d=>exact Zaj fun e=>hne (by rw [hd,e])
  have htk:t ∉ ks:=fun hm=>by
   obtain ⟨j,p,hj,hp,hpd⟩:=hks t hm
   exact ht j p (.inl hj) hp hpd
  rw [h1,ZeB htk]
  exact h.old t fun j o' hj ho'=>ht j o' (.inl hj) ho'
 new:=fun j o' u' t hj ho' hu' hd' hlt hnk=>by
  have htk:t ∉ ks:=hnk i ks (.inr rfl) hk
  have same:∀ (j:Nat),j = i → nth ops j = some o' → nth us j = some u' → nth (Zcy (Za7 ks F) o.dst u) t = some u':=by
   rintro j rfl ho' hu'
   obtain rfl:=Option.some.inj (hi.symm.trans ho')
   obtain rfl:=Option.some.inj (hu.symm.trans hu')
   rw [hd']
   show nth (Zai (Za7 ks F) t u) t = some u
   rw [Zad,ZaM,List.getElem?_set_self (by rw [Zfp,h.len]; exact hlt)]
  by_cases hji:j = i
  ·exact same j hji ho' hu'
  ·have hdt:o.dst ≠ some t:=fun hd=>hji (hB.apart i j o o' t him (hL j (hj.resolve_right hji)) hi ho' hd hd').symm
   have h1:nth (Zcy (Za7 ks F) o.dst u) t = nth (Za7 ks F) t:=by
    cases hd:o.dst with
    | none=>rfl
    | some d=>exact Zaj fun e=>hdt (by rw [hd,e])
   rw [h1,ZeB htk]
   exact h.new j o' u' t (hj.resolve_right hji) ho' hu' hd' hlt fun i' ks' hi' hk'=>hnk i' ks' (.inl hi') hk'
 closed:=fun i' ks' t hi' hk' ht=>by
  rcases hi' with hi' | rfl
  ·obtain ⟨j,p,hj,hp⟩:=h.closed i' ks' t hi' hk' ht
   exact ⟨j,p,.inl hj,hp⟩
  ·obtain rfl:=Option.some.inj (hk.symm.trans hk')
   obtain ⟨j,p,hj,hp⟩:=hks t ht
   exact ⟨j,p,.inl hj,hp⟩
theorem BDone.iff {ops:List Oper} {us E0:List V} {kl:List (List Nat)} {L L':Nat → Prop} {F:List V} (h:BDone ops us kl E0 L F) (hl:∀ j,L j ↔ L' j):BDone ops us kl E0 L' F:=by
 have:L = L':=funext fun j=>propext (hl j)
 subst this; exact h
theorem BDone.same {ops:List Oper} {us E0:List V} {kl:List (List Nat)} {m:Nat} {F F':List V} (hm:m ≤ ops.length) (hul:us.length = m) (h:BDone ops us kl E0 (· < m) F) (h':BDone ops us kl E0 (· < m) F'):F = F':=by
 apply List.ext_getElem?
 intro t
 rw [← Zad,← Zad]
 by_cases hlt:t < E0.length
 ·by_cases hk:∃ i ks,i < m ∧ nth kl i = some ks ∧ t ∈ ks
  ·obtain ⟨i,ks,hi,hk,ht⟩:=hk
   rw [h.dead i ks t hi hk ht hlt,h'.dead i ks t hi hk ht hlt]
  ·have hnk:∀ i ks,i < m → nth kl i = some ks → t ∉ ks:=fun i ks hi hk' ht=>hk ⟨i,ks,hi,hk',ht⟩
   by_cases hex:∃ j o,j < m ∧ nth ops j = some o ∧ o.dst = some t
   ·obtain ⟨j,o,hj,ho,hd⟩:=hex
    have hu:nth us j = some us[j]:=by rw [Zad,List.getElem?_eq_getElem]
    rw [h.new j o _ t hj ho hu hd hlt hnk,h'.new j o _ t hj ho hu hd hlt hnk]
   ·have hn:∀ j o,j < m → nth ops j = some o → o.dst ≠ some t:=fun j o hj ho hd=>hex ⟨j,o,hj,ho,hd⟩
    rw [h.old t hn,h'.old t hn]
 ·rw [Zad,Zad,List.getElem?_eq_none (by rw [h.len]; omega),List.getElem?_eq_none (by rw [h'.len]; omega)]
theorem BPlan.length {ops:List Oper} {i:Nat} {l:List Oper} {E En us:List V} {kl:List (List Nat)} {ps:ZtX} {as:List (Nat × Nat × Nat)} {pus:List (Nat × Nat × Nat × V)} (h:BPlan P C ops s i l E En us kl ps as pus):us.length = l.length ∧ kl.length = l.length:=by
 induction h with
 | nil=>exact ⟨rfl,rfl⟩
 | cons i o l E En u us ks kl q ps al as pq pus hf h ih=>simp [ih]
theorem BFact.kills {ops:List Oper} {i:Nat} {u:V} {ks:List Nat} {q:Option (Nat × Ob × V)} {al:Option (Nat × Nat)} {pq:Option (Nat × Nat × V)} (h:BFact P C ops s i o E u ks q al pq):ks = [] ∨ ks = ZjY ops i o:=by
 cases h with
 | calm=>exact .inl rfl
 | hand=>exact .inr rfl
 | lay=>exact .inl rfl
 | skip=>exact .inl rfl
 | ali=>exact .inl rfl
 | put=>exact .inl rfl
theorem BPlan.facts {ops:List Oper} {us0 E0:List V} {kl0:List (List Nat)} {m:Nat} (hB:Blocked C ops m):∀ {k:Nat} {l:List Oper} {E En us:List V} {kl:List (List Nat)} {ps:ZtX} {as:List (Nat × Nat × Nat)} {pus:List (Nat × Nat × Nat × V)},BPlan P C ops s k l E En us kl ps as pus → k + l.length = m →
  (∀ j,j < l.length → nth l j = nth ops (k + j)) → (∀ j,nth us j = nth us0 (k + j)) → (∀ j,nth kl j = nth kl0 (k + j)) → BDone ops us0 kl0 E0 (· < k) E →
  (∀ i o,k ≤ i → i < m → nth ops i = some o → ∃ Ei u ks q al pq,nth us0 i = some u ∧ nth kl0 i = some ks ∧ BFact P C ops s i o Ei u ks q al pq ∧ BDone ops us0 kl0 E0 (· < i) Ei ∧ (∀ x,(i,x) ∈ ps ↔ q = some x) ∧ (∀ x,(i,x) ∈ as ↔ al = some x) ∧ (∀ x,(i,x) ∈ pus ↔ pq = some x)) ∧ BDone ops us0 kl0 E0 (· < m) En ∧
   (∀ p ∈ ps,k ≤ p.1 ∧ p.1 < m) ∧ (∀ p ∈ as,k ≤ p.1 ∧ p.1 < m) ∧ (∀ p ∈ pus,k ≤ p.1 ∧ p.1 < m) ∧ ps.Pairwise (fun p q=>p.1 < q.1):=by
 intro k l E En us kl ps as pus h
 induction h with
 | nil i E =>
  intro hm hl _ _ hd
  simp at hm
  subst hm
  exact ⟨fun i' o hi hi'=>absurd hi' (by omega),hd,by simp,by simp,by simp,.nil⟩
 | cons i o l E En u us ks kl q ps al as pq pus hf h ih =>
  intro hm hl hu hk hd
  have him:i < m:=by rw [List.length_cons] at hm; omega
  have ho:nth ops i = some o:=by have:=hl 0 (by simp); simpa [nth] using this.symm
  have hui:nth us0 i = some u:=by have:=hu 0; simpa [nth] using this.symm
  have hki:nth kl0 i = some ks:=by have:=hk 0; simpa [nth] using this.symm
  have hks:∀ t ∈ ks,∃ j p,j < i ∧ nth ops j = some p ∧ p.dst = some t:=by
   intro t ht
   rcases hf.kills with e | e
   ·rw [e] at ht; cases ht
   ·rw [e] at ht
    obtain ⟨k1,⟨j,p,k2,k3,e,he,hbe,hon⟩,k4⟩:=ZdQ ht
    exact ⟨j,p,by rw [← hon]; exact hB.after i o him ho e he hbe,k2,k3⟩
  have hd':BDone ops us0 kl0 E0 (· < i + 1) (Zcy (Za7 ks E) o.dst u):=(hd.put hB (fun j hj=>by omega) him ho hui hki (by omega) hks).iff fun j=>by omega
  obtain ⟨h1,h2,h3,h3a,h3b,h4⟩:=ih (by rw [List.length_cons] at hm; omega) (fun j hj=>by have:=hl (j + 1) (by simp; omega); simp only [nth] at this; rw [this]; congr 1; omega)
   (fun j=>by have:=hu (j + 1); simp only [nth] at this; rw [this]; congr 1; omega) (fun j=>by have:=hk (j + 1); simp only [nth] at this; rw [this]; congr 1; omega) hd'
  refine ⟨fun i' o' hi hi' ho'=>?_,h2,fun p hp=>?_,fun p hp=>?_,fun p hp=>?_,?_⟩
  ·by_cases hik:i' = i
   ·subst hik
    obtain rfl:=Option.some.inj (ho.symm.trans ho')
    refine ⟨E,u,ks,q,al,pq,hui,hki,hf,hd,fun x=>?_,fun x=>?_,fun x=>?_⟩
    rotate_left
    rotate_left
    ·rw [List.mem_append]
     constructor
     ·rintro (hx | hx)
      ·cases pq with
       | none=>cases hx
       | some pq=>simp only [ZdZ,List.mem_singleton,Prod.mk.injEq] at hx; rw [hx.2]
      ·have:=(h3b _ hx).1
       simp only at this
       omega
     ·rintro rfl
      exact .inl (by simp [ZdZ])
    rotate_left
    ·rw [List.mem_append]
     constructor
     ·rintro (hx | hx)
      ·cases al with
       | none=>cases hx
       | some al=>simp only [ZeC,List.mem_singleton,Prod.mk.injEq] at hx; rw [hx.2]
      ·have:=(h3a _ hx).1
       simp only at this
       omega
     ·rintro rfl
      exact .inl (by simp [ZeC])
    rw [List.mem_append]
    constructor
    ·rintro (hx | hx)
     ·cases q with
      | none=>cases hx
      | some q=>simp only [ZdB,List.mem_singleton,Prod.mk.injEq] at hx; rw [hx.2]
     ·have:=(h3 _ hx).1
      simp only at this
      omega
    ·rintro rfl
     exact .inl (by simp [ZdB])
   ·obtain ⟨Ei,u',ks',q',al',pq',k1,k2,k3,k4,k5,k6,k7⟩:=h1 i' o' (by omega) hi' ho'
    refine ⟨Ei,u',ks',q',al',pq',k1,k2,k3,k4,fun x=>?_,fun x=>?_,fun x=>?_⟩
    rotate_left
    rotate_left
    ·rw [← k7 x,List.mem_append]
     constructor
     ·rintro (hx | hx)
      ·cases pq with
       | none=>cases hx
       | some pq=>simp only [ZdZ,List.mem_singleton,Prod.mk.injEq] at hx; exact absurd hx.1 hik
      ·exact hx
     ·exact .inr
    rotate_left
    ·rw [← k6 x,List.mem_append]
     constructor
     ·rintro (hx | hx)
      ·cases al with
       | none=>cases hx
       | some al=>simp only [ZeC,List.mem_singleton,Prod.mk.injEq] at hx; exact absurd hx.1 hik
      ·exact hx
     ·exact .inr
    rw [← k5 x,List.mem_append]
    constructor
    ·rintro (hx | hx)
     ·cases q with
      | none=>cases hx
      | some q=>simp only [ZdB,List.mem_singleton,Prod.mk.injEq] at hx; exact absurd hx.1 hik
     ·exact hx
    ·exact .inr
  ·rcases List.mem_append.1 hp with hx | hx
   ·cases q with
    | none=>cases hx
    | some q=>simp only [ZdB,List.mem_singleton] at hx; subst hx; exact ⟨Nat.le_refl _,him⟩
   ·exact ⟨by have:=(h3 p hx).1; omega,(h3 p hx).2⟩
  ·rcases List.mem_append.1 hp with hx | hx
   ·cases al with
    | none=>cases hx
    | some al=>simp only [ZeC,List.mem_singleton] at hx; subst hx; exact ⟨Nat.le_refl _,him⟩
   ·exact ⟨by have:=(h3a p hx).1; omega,(h3a p hx).2⟩
  ·rcases List.mem_append.1 hp with hx | hx
   ·cases pq with
    | none=>cases hx
    | some pq=>simp only [ZdZ,List.mem_singleton] at hx; subst hx; exact ⟨Nat.le_refl _,him⟩
   ·exact ⟨by have:=(h3b p hx).1; omega,(h3b p hx).2⟩
  ·rw [List.pairwise_append]
   refine ⟨?_,h4,fun a ha b hb=>?_⟩
   ·cases q <;> simp [ZdB]
   ·cases q with
    | none=>cases ha
    | some q =>
     simp only [ZdB,List.mem_singleton] at ha
     subst ha
     have:=(h3 b hb).1
     simp only
     omega
end
end Go.VM
