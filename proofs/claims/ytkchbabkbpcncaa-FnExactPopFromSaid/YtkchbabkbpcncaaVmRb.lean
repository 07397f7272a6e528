/- Regions whose operations may be done in any order: any order comes to the same. -/
import Derived.Test.YtkchbabkbpcncaaVmRa
set_option linter.unusedSimpArgs false
set_option linter.unusedVariables false
namespace Go.VM
open Go.RowKit Go.Lib
section
variable {P:Program} {C:Cfg} {o:Oper} {E:List V} {s:S} {R:Type}
def Zwi (P:Program) (C:Cfg) (ops:List Oper) (s:S) (o:Oper) (E:List V) (u:V):Prop :=
 ((∀ (g:G) (a:Act) (w:World) (F:List V),Sim C g F s a w → (∀ d,Zby ops o = some d → nth F d = nth E d) → Region.wanted o (yielded ops.toArray a.tmps) = true) ∧
  ∃ v,u = v.noOwn ∧ Zbi P C o (Zeu (ZaZ ops o) 0 E) s v (Zeu (ZaZ ops o) 0 E) s) ∨
 ((∀ (g:G) (a:Act) (w:World) (F:List V),Sim C g F s a w → (∀ d,Zby ops o = some d → nth F d = nth E d) → Region.wanted o (yielded ops.toArray a.tmps) = false) ∧ u = .tuple [])
inductive Plan (P:Program) (C:Cfg) (ops:List Oper) (s:S):List Oper → List V → List V → List V → Prop
 | nil (E:List V):Plan P C ops s [] E E []
 | cons (o:Oper) (l:List Oper) (E En:List V) (u:V) (us:List V) (hf:Zwi P C ops s o E u) (h:Plan P C ops s l (Zcy E o.dst u) En us):Plan P C ops s (o :: l) E En (u :: us)
theorem ZdT (hC:Ok P C) {Φ:Zat} (hΦ:Zab P C Φ) {ops:List Oper}:∀ {l:List Oper} {E:List V} {K:List V → S → Option R} {r:R},(∀ o ∈ l,ZbB C ops o = true) → ZiV C Φ ops l E s K = some r →
  ∃ En us,K En s = some r ∧ Plan P C ops s l E En us
 | [],E,K,r,_,h=>by
  simp only [ZiV] at h
  exact ⟨E,[],h,.nil E⟩
 | o :: l,E,K,r,hc,h=>by
  simp only [ZiV] at h
  obtain ⟨b,h,hb⟩:=Zeb (C:=C) (s:=s) h
  cases b with
  | true =>
   simp only at h
   obtain ⟨v,_,_,v',h1,hv',h2⟩:=Zq8 (P:=P) hC hΦ (hc o (by simp)) h
   obtain ⟨En,us,h3,h4⟩:=ZdT hC hΦ (fun o ho=>hc o (by simp [ho])) h1
   exact ⟨En,v.noOwn :: us,h3,.cons o l E En _ us (.inl ⟨hb,v',hv'.symm,h2⟩) h4⟩
  | false =>
   simp only at h
   obtain ⟨En,us,h3,h4⟩:=ZdT hC hΦ (fun o ho=>hc o (by simp [ho])) h
   exact ⟨En,.tuple [] :: us,h3,.cons o l E En _ us (.inr ⟨hb,rfl⟩) h4⟩
structure Done (ops:List Oper) (us E0:List V) (L:Nat → Prop) (F:List V):Prop where
 len:F.length = E0.length
 old:∀ t,(∀ j o,L j → nth ops j = some o → o.dst ≠ some t) → nth F t = nth E0 t
 new:∀ j o u t,L j → nth ops j = some o → nth us j = some u → o.dst = some t → t < E0.length → nth F t = some u
def Zuv (ops:List Oper):Prop:=∀ i j o p d,nth ops i = some o → nth ops j = some p → o.dst = some d → p.dst = some d → i = j
theorem Done.put {ops:List Oper} {us E0:List V} {L:Nat → Prop} {F:List V} (h:Done ops us E0 L F) (hap:Zuv ops) {i:Nat} {o:Oper} {u:V} (hi:nth ops i = some o) (hu:nth us i = some u) :
  Done ops us E0 (fun j=>L j ∨ j = i) (Zcy F o.dst u) where
 len:=by rw [ZbI]; exact h.len
 old:=fun t ht=>by
  have hne:o.dst ≠ some t:=ht i o (.inr rfl) hi
  have h1:nth (Zcy F o.dst u) t = nth F t:=by
   cases hd:o.dst with
   | none=>rfl
   | some d=>exact Zaj fun e=>hne (by rw [hd,e])
  rw [h1]
  exact h.old t fun j o' hj ho'=>ht j o' (.inl hj) ho'
 new:=fun j o' u' t hj ho' hu' hd' hlt=>by
  rcases hj with hj | rfl
  ·by_cases hdt:o.dst = some t
   ·have hij:=hap i j o o' t hi ho' hdt hd'
    subst hij
    obtain rfl:=Option.some.inj (hi.symm.trans ho')
    obtain rfl:=Option.some.inj (hu.symm.trans hu')
    rw [hdt]
    show nth (Zai F t u) t = some u
    rw [Zad,ZaM,List.getElem?_set_self (by rw [h.len]; exact hlt)]
   ·have h1:nth (Zcy F o.dst u) t = nth F t:=by
     cases hd:o.dst with
     | none=>rfl
     | some d=>exact Zaj fun e=>hdt (by rw [hd,e])
    rw [h1]
    exact h.new j o' u' t hj ho' hu' hd' hlt
  ·obtain rfl:=Option.some.inj (hi.symm.trans ho')
   obtain rfl:=Option.some.inj (hu.symm.trans hu')
   rw [hd']
   show nth (Zai F t u) t = some u
   rw [Zad,ZaM,List.getElem?_set_self (by rw [h.len]; exact hlt)]
theorem Done.iff {ops:List Oper} {us E0:List V} {L L':Nat → Prop} {F:List V} (h:Done ops us E0 L F) (hl:∀ j,j < ops.length → (L j ↔ L' j)):Done ops us E0 L' F where
 len:=h.len
 old:=fun t ht=>h.old t fun j o hj ho=>ht j o ((hl j (Zau ho)).1 hj) ho
 new:=fun j o u t hj ho=>h.new j o u t ((hl j (Zau ho)).2 hj) ho
theorem Plan.facts {ops:List Oper} {us0 E0:List V} (hap:Zuv ops):∀ {l:List Oper} {E En us:List V},Plan P C ops s l E En us → ∀ k,(∀ j,nth l j = nth ops (k + j)) → (∀ j,nth us j = nth us0 (k + j)) → Done ops us0 E0 (· < k) E →
  (∀ i o,k ≤ i → nth ops i = some o → ∃ Ei u,nth us0 i = some u ∧ Zwi P C ops s o Ei u ∧ Done ops us0 E0 (· < i) Ei) ∧ Done ops us0 E0 (· < k + l.length) En:=by
 intro l E En us h
 induction h with
 | nil E =>
  intro k hl _ hd
  refine ⟨fun i o hi ho=>?_,by simpa using hd⟩
  have:=hl (i - k)
  rw [show k + (i - k) = i by omega,ho] at this
  simp [nth] at this
 | cons o l E En u us hf h ih =>
  intro k hl hu hd
  have ho:nth ops k = some o:=by have:=hl 0; simpa [nth] using this.symm
  have huk:nth us0 k = some u:=by have:=hu 0; simpa [nth] using this.symm
  have hd':Done ops us0 E0 (· < k + 1) (Zcy E o.dst u):=(hd.put hap ho huk).iff fun j _=>by omega
  obtain ⟨h1,h2⟩:=ih (k + 1) (fun j=>by have:=hl (j + 1); simp only [nth] at this; rw [this]; congr 1; omega) (fun j=>by have:=hu (j + 1); simp only [nth] at this; rw [this]; congr 1; omega) hd'
  refine ⟨fun i o' hi ho'=>?_,by rw [show k + (o :: l).length = k + 1 + l.length by simp; omega]; exact h2⟩
  by_cases hik:i = k
  ·subst hik
   obtain rfl:=Option.some.inj (ho.symm.trans ho')
   exact ⟨E,u,huk,hf,hd⟩
  ·exact h1 i o' (by omega) ho'
theorem Done.same {ops:List Oper} {us E0:List V} {L:Nat → Prop} {F F':List V} (hul:us.length = ops.length) (h:Done ops us E0 L F) (h':Done ops us E0 L F'):F = F':=by
 apply List.ext_getElem?
 intro t
 rw [← Zad,← Zad]
 by_cases hlt:t < E0.length
 ·by_cases hex:∃ j o,L j ∧ nth ops j = some o ∧ o.dst = some t
  ·obtain ⟨j,o,hj,ho,hd⟩:=hex
   have hj2:j < us.length:=by rw [hul]; exact Zau ho
   have hu:nth us j = some us[j]:=by rw [Zad,List.getElem?_eq_getElem hj2]
   rw [h.new j o _ t hj ho hu hd hlt,h'.new j o _ t hj ho hu hd hlt]
  ·have hn:∀ j o,L j → nth ops j = some o → o.dst ≠ some t:=fun j o hj ho hd=>hex ⟨j,o,hj,ho,hd⟩
   rw [h.old t hn,h'.old t hn]
 ·rw [Zad,Zad,List.getElem?_eq_none (by rw [h.len]; omega),List.getElem?_eq_none (by rw [h'.len]; omega)]
theorem Plan.length {ops:List Oper} {l:List Oper} {E En us:List V} (h:Plan P C ops s l E En us):us.length = l.length:=by
 induction h with
 | nil=>rfl
 | cons o l E En u us hf h ih=>simp [ih]
structure Drawn (ops:List Oper):Prop where
 after:∀ i o,nth ops i = some o → ∀ e ∈ o.after,Region.binds .any e = true → e.on < i
 deps:∀ i o j p d,nth ops i = some o → nth ops j = some p → p.dst = some d → d ∈ ZaZ ops o → ∃ e ∈ o.after,Region.binds .any e = true ∧ e.on = j
 apart:Zuv ops
theorem ZiB {ops:List Oper} (h:ZiZ C ops = true):Drawn ops ∧ ∀ o ∈ ops,ZbB C ops o = true:=by
 have key:∀ i o,nth ops i = some o → ((o.after.all fun e=>!Region.binds .any e || decide (e.on < i)) = true ∧ ZbB C ops o = true) ∧ ∀ j p d,nth ops j = some p → p.dst = some d →
   (d ∈ ZaZ ops o → ∃ e ∈ o.after,Region.binds .any e = true ∧ e.on = j) ∧ (o.dst = some d → i = j):=by
  intro i o ho
  have h1:=List.all_eq_true.1 h i (List.mem_range.2 (Zau ho))
  rw [ho] at h1
  simp only [Bool.and_eq_true] at h1
  refine ⟨h1.1,fun j p d hj hd=>?_⟩
  have h2:=List.all_eq_true.1 h1.2 j (List.mem_range.2 (Zau hj))
  rw [hj] at h2
  simp only [hd,Bool.and_eq_true,Bool.or_eq_true,Bool.not_eq_true'] at h2
  refine ⟨fun hm=>?_,fun hdi=>?_⟩
  ·rcases h2.1 with h3 | h3
   ·have:(ZaZ ops o).any (Nat.beq d) = true:=List.any_eq_true.2 ⟨d,hm,Nat.beq_refl d⟩
    rw [h3] at this; cases this
   ·rw [Array.any_eq_true'] at h3
    obtain ⟨e,he,h4⟩:=h3
    simp only [Bool.and_eq_true,beq_iff_eq] at h4
    exact ⟨e,he,h4.1,h4.2⟩
  ·rcases h2.2 with h3 | h3
   ·simpa using h3
   ·rw [hdi] at h3
    simp only at h3
    have:Nat.beq d d = true:=Nat.beq_refl d
    rw [h3] at this; cases this
 refine ⟨⟨fun i o ho e he hbe=>?_,fun i o j p d ho hp hd hm=>((key i o ho).2 j p d hp hd).1 hm,fun i j o p d ho hp hdo hdp=>((key i o ho).2 j p d hp hdp).2 hdo⟩,fun o ho=>?_⟩
 ·have:=(key i o ho).1.1
  rw [Array.all_eq_true'] at this
  simpa [hbe] using this e he
 ·obtain ⟨i,hi⟩:=List.getElem?_of_mem ho
  exact (key i o (by rw [Zad]; exact hi)).1.2
theorem ZcZ {ops:List Oper} {o:Oper} {d:Tmp} (h:Zby ops o = some d):d ∈ ZaZ ops o:=by
 unfold Zby at h
 unfold ZaZ Oper.looksAt
 cases hg:o.guard with
 | none=>rw [hg] at h; cases h
 | some jw =>
  obtain ⟨j,want⟩:=jw
  rw [hg] at h
  simp only at h
  apply List.mem_append_right
  simp only
  have:ops.toArray[j]? = nth ops j:=by rw [Zad]; simp
  rw [this,h]
  simp
theorem Zr8 {ops:List Oper} (hdr:Drawn ops) {us E0 En:List V} (hul:us.length = ops.length) (hfacts:∀ i o,nth ops i = some o → ∃ Ei u,nth us i = some u ∧ Zwi P C ops s o Ei u ∧ Done ops us E0 (· < i) Ei)
  (hEn:Done ops us E0 (· < ops.length) En) (keep:Nat) (hkeep:keep ≤ s.length) (Q:Exit → Act → World → Prop) (g0:G) (a0:Act) (w0:World)
  (hQ:∀ g' a' w',Le keep g0 w0 g' w' → Sim C g' En s a' w' → a'.defers = a0.defers → Q .normal a' w') :
  ∀ (fuel:Nat) (listed:Array Bool) (g:G) (a:Act) (w:World) (F:List V),listed.size = ops.length → listed.toList.count false ≤ fuel → Le keep g0 w0 g w → Sim C g F s a w → a.defers = a0.defers →
   Done ops us E0 (fun j=>listed.getD j false = true) F → wpAny P .any ops.toArray Q fuel listed a w:=by
 have hend:∀ (listed:Array Bool) (g:G) (a:Act) (w:World) (F:List V),listed.size = ops.length → Le keep g0 w0 g w → Sim C g F s a w → a.defers = a0.defers → Done ops us E0 (fun j=>listed.getD j false = true) F →
   Region.ready .any ops.toArray listed = [] → Q .normal a w:=by
  intro listed g a w F hls hle hs hd hdone hr
  have all:∀ i,i < ops.length → listed.getD i false = true:=by
   intro i
   induction i using Nat.strongRecOn with
   | ind i ih =>
    intro hi
    cases hl:listed.getD i false with
    | true=>rfl
    | false =>
     exfalso
     have hlt:i < listed.size:=by omega
     have hmem:i ∈ Region.ready .any ops.toArray listed:=by
      rw [mem_ready]
      refine ⟨by rw [← hl]; simp [Array.getD,hlt],ops[i],by simp [hi],fun e he hbe=>?_⟩
      have:=hdr.after i ops[i] (by rw [Zad,List.getElem?_eq_getElem hi]) e he hbe
      exact ih e.on this (by omega)
     rw [hr] at hmem
     cases hmem
  have:F = En:=Done.same hul (hdone.iff (L':=(· < ops.length)) fun j hj=>⟨fun _=>hj,fun _=>all j hj⟩) hEn
  subst this
  exact hQ g a w hle hs hd
 intro fuel
 induction fuel with
 | zero =>
  intro listed g a w F hls hcnt hle hs hd hdone
  have hr:Region.ready .any ops.toArray listed = []:=by
   apply List.eq_nil_iff_forall_not_mem.2
   intro i hi
   obtain ⟨h1,_⟩:=mem_ready.1 hi
   have hlt:i < listed.size:=by
    apply Nat.lt_of_not_le
    intro hge
    simp [Array.getD,Nat.not_lt.2 hge] at h1
   have hmem:false ∈ listed.toList:=by
    simp only [Array.getD,hlt,dite_true] at h1
    rw [← h1]
    simp
   have:=List.count_pos_iff.2 hmem
   omega
  exact ⟨hr,hend listed g a w F hls hle hs hd hdone hr⟩
 | succ fuel ih =>
  intro listed g a w F hls hcnt hle hs hd hdone
  refine ⟨hend listed g a w F hls hle hs hd hdone,fun i hi=>?_⟩
  obtain ⟨h1,o,ho,hall⟩:=mem_ready.1 hi
  have ho':nth ops i = some o:=by rw [Zad]; simpa using ho
  have hlt:i < listed.size:=by rw [hls]; exact Zau ho'
  obtain ⟨Ei,u,hu,hfact,hEi⟩:=hfacts i o ho'
  have hlook:∀ t,t ∈ ZaZ ops o → nth F t = nth Ei t:=by
   intro t ht
   by_cases hex:∃ j p,nth ops j = some p ∧ p.dst = some t
   ·obtain ⟨j,p,hp,hpd⟩:=hex
    obtain ⟨e,he,hb,hon⟩:=hdr.deps i o j p t ho' hp hpd ht
    have hj:listed.getD j false = true:=by rw [← hon]; exact hall e he hb
    have hji:j < i:=by rw [← hon]; exact hdr.after i o ho' e he hb
    have hju:nth us j = some (us[j]'(by rw [hul]; exact Zau hp)):=by rw [Zad,List.getElem?_eq_getElem]
    by_cases hlt2:t < E0.length
    ·rw [hdone.new j p _ t hj hp hju hpd hlt2,hEi.new j p _ t hji hp hju hpd hlt2]
    ·rw [Zad,Zad,List.getElem?_eq_none (by rw [hdone.len]; exact Nat.le_of_not_lt hlt2),List.getElem?_eq_none (by rw [hEi.len]; exact Nat.le_of_not_lt hlt2)]
   ·rw [hdone.old t fun j p _ hp hpd=>hex ⟨j,p,hp,hpd⟩,hEi.old t fun j p _ hp hpd=>hex ⟨j,p,hp,hpd⟩]
  have hguard:∀ d,Zby ops o = some d → nth F d = nth Ei d:=fun d hd=>hlook d (ZcZ hd)
  have hcnt':(listed.setIfInBounds i true).toList.count false ≤ fuel:=by
   have hv:listed.toList[i]'(by simpa using hlt) = false:=by
    simp only [Array.getD,hlt,dite_true] at h1
    simpa using h1
   rw [Array.toList_setIfInBounds,List.count_set (by simpa using hlt)]
   rw [hv]
   have hpos:0 < listed.toList.count false:=List.count_pos_iff.2 (by rw [← hv]; exact List.getElem_mem _)
   have e1:(if (false == false) = true then 1 else 0) = 1:=rfl
   have e2:(if (true == false) = true then 1 else 0) = 0:=rfl
   rw [e1,e2]
   omega
  have hdone':Done ops us E0 (fun j=>(listed.setIfInBounds i true).getD j false = true) (Zcy F o.dst u):=by
   refine (hdone.put hdr.apart ho' hu).iff fun j hj=>?_
   by_cases hji:j = i
   ·subst hji
    simp [Array.getD,hlt]
   ·rw [getD_set_ne false (Ne.symm hji)]
    simp [hji]
  unfold wpOp
  rw [ho]
  simp only
  rcases hfact with ⟨hwant,v,rfl,hop⟩ | ⟨hwant,rfl⟩
  ·rw [hwant g a w F hs hguard,if_pos rfl]
   refine .inl (Zgu hs (by rw [ZdJ,hEi.len,hdone.len]) (fun t v hv=>?_) hop keep hkeep _ Q fun g' rv w' hle' hs'=>?_)
   ·rcases Zfm _ _ _ t v hv with h | ⟨hm,x,hx,hvx⟩
    ·exact .inl h
    ·rw [Nat.zero_add] at hm
     exact .inr ⟨x,by rw [hlook t hm]; exact hx,hvx⟩
   ·exact ih _ g' _ w' _ (by simpa using hls) hcnt' (hle.trans hle') hs' (by rw [ZbG]; exact hd) hdone'
  ·rw [hwant g a w F hs hguard,if_neg (by simp)]
   exact ih _ g _ w _ (by simpa using hls) hcnt' hle (hs.put0 o.dst ZdS (by simp [V.still])) (by rw [ZbG]; exact hd) hdone'
theorem Zth (hC:Ok P C) {Φ:Zat} (hΦ:Zab P C Φ) {id:Nat} {ops:Array Oper} {K:List V → S → Option R} {r:R} (hd:ZiZ C ops.toList = true) (h:ZiV C Φ ops.toList ops.toList E s K = some r) :
  ∃ E',K E' s = some r ∧ ∀ g a w keep,keep ≤ s.length → Sim C g E s a w → ∀ Q:Exit → Act → World → Prop,
   (∀ g' a' w',Le keep g w g' w' → Sim C g' E' s a' w' → a'.defers = a.defers → Q .normal a' w') → (Code.region id ops true).wp P Q a w:=by
 obtain ⟨hdr,hcalm⟩:=ZiB hd
 obtain ⟨En,us,h1,h2⟩:=ZdT hC hΦ hcalm h
 refine ⟨En,h1,fun g a w keep hk hs Q hQ=>?_⟩
 obtain ⟨h3,h4⟩:=h2.facts (us0:=us) (E0:=E) hdr.apart 0 (fun j=>by rw [Nat.zero_add]) (fun j=>by rw [Nat.zero_add]) ⟨rfl,fun _ _=>rfl,fun j _ _ _ hj=>absurd hj (Nat.not_lt_zero j)⟩
 rw [Nat.zero_add] at h4
 refine wp_region_any hC.mixed ?_
 have hs':Sim C g E s a { w with drawn:=w.drawn + 1 }:=hs.ext (Nat.le_refl _) fun _ _=>rfl
 have:=Zr8 (P:=P) hdr h2.length (fun i o ho=>h3 i o (Nat.zero_le i) ho) h4 keep hk Q g a { w with drawn:=w.drawn + 1 }
  (fun g' a' w' hle hs'' hd'=>hQ g' a' w' ⟨⟨hle.keeps.imm,hle.keeps.safe,hle.keeps.cell⟩,hle.size,hle.os,hle.tape,hle.output,hle.base,hle.susp,hle.low,hle.sus,hle.klen,hle.obs⟩ hs'' hd')
  ops.size (Array.replicate ops.size false) g a { w with drawn:=w.drawn + 1 } E (by simp) (by simp) (Le.refl (by rw [hs.olen]; exact hk)) hs' rfl
  ⟨rfl,fun _ _=>rfl,fun j _ _ _ hj=>by
   simp only [Array.getD] at hj
   split at hj
   ·simp at hj
   ·cases hj⟩
 rwa [Array.toArray_toList] at this
end
end Go.VM
