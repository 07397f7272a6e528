/- Regions in three parts: any order, the order of the text, any order. -/
import Derived.Test.YtkchbabkbpcncaaVmRh
set_option linter.unusedSimpArgs false
set_option linter.unusedVariables false
namespace Go.VM
open Go.RowKit Go.Lib
section
variable {P:Program} {C:Cfg} {o:Oper} {E:List V} {s:S} {R:Type}
def ZgF (P:Program) (ops:Array Oper) (Q:Exit → Act → World → Prop) (T:Act → World → Prop):List Oper → Act → World → Prop
 | [],a,w=>T a w
 | o :: rest,a,w =>
  if Region.wanted o (yielded ops a.tmps) then o.wp P a w (ZgF P ops Q T rest) Q ∨ (o.asks P a w ∧ LetsOut Q) else ZgF P ops Q T rest (a.put o.dst undef) w
theorem Zhv {ops:Array Oper} {Q:Exit → Act → World → Prop}:∀ l,ZgF P ops Q (Q .normal) l = wpList P ops Q l
 | []=>rfl
 | o :: rest=>by
  funext a w
  unfold ZgF wpList
  rw [Zhv rest]
theorem Ze1 (hC:Ok P C) {Φ:Zat} (hΦ:Zab P C Φ) {ops:List Oper}:∀ {l:List Oper} {E:List V} {s:S} {K:List V → S → Option R} {r:R},Zrg C Φ ops l E s K = some r →
  ∃ E' s',K E' s' = some r ∧ s.length ≤ s'.length ∧ ∀ g a w keep,keep ≤ s.length → Sim C g E s a w → ∀ (Q:Exit → Act → World → Prop) (T:Act → World → Prop),
   (∀ g' a' w',Le keep g w g' w' → Sim C g' E' s' a' w' → a'.defers = a.defers → T a' w') → ZgF P ops.toArray Q T l a w
 | [],E,s,K,r,h=>by
  simp only [Zrg] at h
  exact ⟨E,s,h,Nat.le_refl _,fun g a w keep hk hs Q T hQ=>hQ g a w (Le.refl (by rw [hs.olen]; exact hk)) hs rfl⟩
 | o :: l,E,s,K,r,h=>by
  simp only [Zrg] at h
  obtain ⟨b,h,hb⟩:=Zeb (C:=C) (s:=s) h
  cases b with
  | true =>
   simp only at h
   split at h
   ·obtain ⟨v,E1,s1,h1,hl1,h2⟩:=Zqm hC hΦ h
    obtain ⟨E',s',h3,hl2,h4⟩:=Ze1 hC hΦ h1
    refine ⟨E',s',h3,Nat.le_trans hl1 hl2,fun g a w keep hk hs Q T hQ=>?_⟩
    unfold ZgF
    rw [hb g a w E hs (fun _ _=>rfl),if_pos rfl]
    refine .inl (h2 g a w keep hk hs _ Q fun g' rv w' hle hs'=>?_)
    refine h4 g' _ w' keep (Nat.le_trans hk hl1) hs' Q T fun g'' a'' w'' hle' hs'' hd=>?_
    exact hQ g'' a'' w'' (hle.trans hle') hs'' (by rw [hd,ZbG])
   ·obtain ⟨v,E1,s1,wb,h1,hl1,h2⟩:=Zwf hC hΦ h
    obtain ⟨E',s',h3,hl2,h4⟩:=Ze1 hC hΦ h1
    obtain ⟨s2,h5,hl3,h6⟩:=Zsm h3
    refine ⟨E',s2,h5,by rw [hl3]; exact Nat.le_trans hl1 hl2,fun g a w keep hk hs Q T hQ=>?_⟩
    unfold ZgF
    rw [hb g a w E hs (fun _ _=>rfl),if_pos rfl]
    refine .inl (h2 g a w keep hk hs _ Q fun g' rv w' hle hs'=>?_)
    refine h4 g' _ w' keep (Nat.le_trans hk hl1) hs' Q T fun g'' a'' w'' hle' hs'' hd=>?_
    obtain ⟨g3,k1,k2⟩:=h6 g'' _ _ w'' hs''
    exact hQ g3 a'' w'' ((hle.trans hle').trans (k2 keep (Nat.le_trans hk (Nat.le_trans hl1 hl2)))) k1 (by rw [hd,ZbG])
  | false =>
   simp only at h
   obtain ⟨E',s',h3,hl2,h4⟩:=Ze1 hC hΦ h
   refine ⟨E',s',h3,hl2,fun g a w keep hk hs Q T hQ=>?_⟩
   unfold ZgF
   rw [hb g a w E hs (fun _ _=>rfl),if_neg (by simp)]
   refine h4 g _ w keep hk (hs.put0 o.dst ZdS (by simp [V.still])) Q T fun g'' a'' w'' hle' hs'' hd=>?_
   exact hQ g'' a'' w'' hle' hs'' (by rw [hd,ZbG])
theorem Zrt (hC:Ok P C) {Φ:Zat} (hΦ:Zab P C Φ) {ops:List Oper} {l:List Oper} {E:List V} {s:S} {K:List V → S → Option R} {r:R} (h:Zrg C Φ ops l E s K = some r) :
  ∃ E' s',K E' s' = some r ∧ s.length ≤ s'.length ∧ ∀ g a w keep,keep ≤ s.length → Sim C g E s a w → ∀ Q:Exit → Act → World → Prop,
   (∀ g' a' w',Le keep g w g' w' → Sim C g' E' s' a' w' → a'.defers = a.defers → Q .normal a' w') → wpList P ops.toArray Q l a w:=by
 obtain ⟨E',s',h1,h2,h3⟩:=Ze1 hC hΦ h
 refine ⟨E',s',h1,h2,fun g a w keep hk hs Q hQ=>?_⟩
 rw [← Zhv]
 exact h3 g a w keep hk hs Q (Q .normal) hQ
theorem ZkX {ops:List Oper} {m q:Nat} (hmid:∀ o,nth ops m = some o → ∀ e ∈ o.after,Region.binds .any e = true → e.on < m) (hch:Zgw ops q m) (hlast:∀ j o,q ≤ j → nth ops j = some o → ∃ e ∈ o.after,Region.binds .any e = true ∧ q ≤ e.on + 1) (hq:q ≤ ops.length)
  {Q:Exit → Act → World → Prop} {T:Act → World → Prop}:∀ (l:List Oper) (k fuel:Nat) (listed:Array Bool) (a:Act) (w:World),m ≤ k → k + l.length = q → (∀ j,j < l.length → nth l j = nth ops (k + j)) →
  listed.size = ops.length → (∀ j,listed.getD j false = true ↔ j < k) → listed.toList.count false ≤ fuel →
  (∀ (listed:Array Bool) (fuel:Nat) a w,listed.size = ops.length → (∀ j,listed.getD j false = true ↔ j < q) → listed.toList.count false ≤ fuel → T a w → wpAny P .any ops.toArray Q fuel listed a w) →
  ZgF P ops.toArray Q T l a w → wpAny P .any ops.toArray Q fuel listed a w
 | [],k,fuel,listed,a,w,hmk,hk,hl,hls,hall,hcnt,hT,h=>by
  simp at hk
  subst hk
  exact hT listed fuel a w hls hall hcnt h
 | o :: l,k,fuel,listed,a,w,hmk,hk,hl,hls,hall,hcnt,hT,h=>by
  rw [List.length_cons] at hk
  have ho:nth ops k = some o:=by have:=hl 0 (by simp); simpa [nth] using this.symm
  have hklt:k < listed.size:=by rw [hls]; omega
  have hkn:¬ listed.getD k false = true:=fun hc=>by have:=(hall k).1 hc; omega
  have hedge:∀ e ∈ o.after,Region.binds .any e = true → e.on < k:=by
   by_cases hmk':m = k
   ·subst hmk'; exact hmid o ho
   ·exact (hch k o (by omega) (by omega) ho).1
  have hkr:k ∈ Region.ready .any ops.toArray listed:=by
   rw [mem_ready]
   refine ⟨by simpa [Array.getD,hklt] using hkn,o,by rw [Zad] at ho; simpa using ho,fun e he hbe=>(hall _).2 (hedge e he hbe)⟩
  have honly:∀ i ∈ Region.ready .any ops.toArray listed,i = k:=by
   intro i hi
   obtain ⟨h1,o',ho',hall'⟩:=mem_ready.1 hi
   have ho2:nth ops i = some o':=by rw [Zad]; simpa using ho'
   have hilt:i < listed.size:=by rw [hls]; exact Zau ho2
   have hik:¬ i < k:=fun hc=>by
    have:=(hall i).2 hc
    simp only [Array.getD,hilt,dite_true] at h1 this
    rw [h1] at this; cases this
   apply Nat.le_antisymm _ (by omega)
   apply Nat.le_of_not_lt
   intro hgt
   by_cases hiq:i < q
   ·obtain ⟨e,he,hb,hon⟩:=(hch i o' (by omega) hiq ho2).2
    have:=(hall e.on).1 (hall' e he hb)
    omega
   ·obtain ⟨e,he,hb,hon⟩:=hlast i o' (by omega) ho2
    have:=(hall e.on).1 (hall' e he hb)
    omega
  cases fuel with
  | zero =>
   have:=ZdF hklt hkn
   omega
  | succ fuel =>
   refine ⟨fun hr=>(by rw [hr] at hkr; cases hkr),fun i hi=>?_⟩
   obtain rfl:=honly i hi
   have hcnt':=Zcb hklt (by simpa [Array.getD,hklt] using hkn) hcnt
   have rec':∀ a w,ZgF P ops.toArray Q T l a w → wpAny P .any ops.toArray Q fuel (listed.setIfInBounds i true) a w:=fun a w h =>
    ZkX hmid hch hlast hq l (i + 1) fuel _ a w (by omega) (by omega) (fun j hj=>by have:=hl (j + 1) (by simp; omega); simp only [nth] at this; rw [this]; congr 1; omega) (by simpa using hls)
     (fun j=>by rw [ZaN hklt,hall j]; omega) hcnt' hT h
   unfold wpOp
   have ho3:ops.toArray[i]? = some o:=by rw [Zad] at ho; simpa using ho
   rw [ho3]
   simp only
   unfold ZgF at h
   split
   ·rename_i hw
    rw [if_pos hw] at h
    exact h.imp (Oper.wp_mono rec') id
   ·rename_i hw
    rw [if_neg hw] at h
    exact rec' _ _ h
structure DrawnQ (C:Cfg) (ops:List Oper) (q:Nat):Prop where
 after:∀ i o,q ≤ i → nth ops i = some o → ∀ e ∈ o.after,Region.binds .any e = true → e.on < i
 last:∀ i o,q ≤ i → nth ops i = some o → ∃ e ∈ o.after,Region.binds .any e = true ∧ q ≤ e.on + 1
 calm:∀ i o,q ≤ i → nth ops i = some o → ZbB C ops o = true
 deps:∀ i o j p d,q ≤ i → q ≤ j → nth ops i = some o → nth ops j = some p → p.dst = some d → d ∈ ZaZ ops o → ∃ e ∈ o.after,Region.binds .any e = true ∧ e.on = j
 apart:∀ i j o p d,q ≤ i → q ≤ j → nth ops i = some o → nth ops j = some p → o.dst = some d → p.dst = some d → i = j
theorem ZfA {ops:List Oper} {q:Nat} (h:ZfM C ops q = true):DrawnQ C ops q:=by
 have key:∀ i o,q ≤ i → nth ops i = some o → (((o.after.all fun e=>!Region.binds .any e || decide (e.on < i)) = true ∧ (o.after.any fun e=>Region.binds .any e && decide (q ≤ e.on + 1)) = true) ∧ ZbB C ops o = true) ∧ ∀ j p d,q ≤ j → nth ops j = some p → p.dst = some d →
   (d ∈ ZaZ ops o → ∃ e ∈ o.after,Region.binds .any e = true ∧ e.on = j) ∧ (o.dst = some d → i = j):=by
  intro i o hi ho
  have h1:=List.all_eq_true.1 h i (List.mem_range.2 (Zau ho))
  rw [ho] at h1
  simp only [Bool.or_eq_true,decide_eq_true_eq,Bool.and_eq_true] at h1
  obtain h1:=h1.resolve_left (by omega)
  refine ⟨h1.1,fun j p d hjq hj hd=>?_⟩
  have h2:=List.all_eq_true.1 h1.2 j (List.mem_range.2 (Zau hj))
  rw [hj] at h2
  simp only [hd,Bool.and_eq_true,Bool.or_eq_true,Bool.not_eq_true',decide_eq_true_eq] at h2
  obtain h2:=h2.resolve_left (by omega)
  refine ⟨fun hm=>?_,fun hdi=>?_⟩
  ·rcases h2.1 with h3 | h3
   ·have:(ZaZ ops o).any (Nat.beq d) = true:=List.any_eq_true.2 ⟨d,hm,Nat.beq_refl d⟩
    rw [h3] at this; cases this
   ·rw [Array.any_eq_true'] at h3
    obtain ⟨e,he,h4⟩:=h3
    simp only [Bool.and_eq_true,beq_iff_eq] at h4
    exact ⟨e,he,h4.1,h4.2⟩
  ·rcases h2.2 with h3 | h3
   ·simpa using h3
   ·rw [hdi] at h3
    simp only at h3
    have:Nat.beq d d = true:=Nat.beq_refl d
    rw [h3] at this; cases this
 refine ⟨fun i o hi ho e he hbe=>?_,fun i o hi ho=>?_,fun i o hi ho=>(key i o hi ho).1.2,fun i o j p d hi hj ho hp hd hm=>((key i o hi ho).2 j p d hj hp hd).1 hm,fun i j o p d hi hj ho hp hdo hdp=>((key i o hi ho).2 j p d hj hp hdp).2 hdo⟩
 ·have:=(key i o hi ho).1.1.1
  rw [Array.all_eq_true'] at this
  simpa [hbe] using this e he
 ·have:=(key i o hi ho).1.1.2
  rw [Array.any_eq_true'] at this
  obtain ⟨e,he,h4⟩:=this
  simp only [Bool.and_eq_true,decide_eq_true_eq] at h4
  exact ⟨e,he,h4.1,h4.2⟩
theorem Done.putQ {ops:List Oper} {q:Nat} {us E0:List V} {L:Nat → Prop} {F:List V} (h:Done ops us E0 L F) (hdr:DrawnQ C ops q) (hL:∀ j,L j → q ≤ j) {i:Nat} {o:Oper} {u:V} (hiq:q ≤ i) (hi:nth ops i = some o) (hu:nth us i = some u) :
  Done ops us E0 (fun j=>L j ∨ j = i) (Zcy F o.dst u) where
 len:=by rw [ZbI]; exact h.len
 old:=fun t ht=>by
  have hne:o.dst ≠ some t:=ht i o (.inr rfl) hi
  have h1:nth (Zcy F o.dst u) t = nth F t:=by
   cases hd:o.dst with
   | none=>rfl
   | some d=>exact Zaj fun e=>hne (by rw [hd,e])
  rw [h1]
  exact h.old t fun j o' hj ho'=>ht j o' (.inl hj) ho'
 new:=fun j o' u' t hj ho' hu' hd' hlt=>by
  rcases hj with hj | rfl
  ·by_cases hdt:o.dst = some t
   ·have hij:=hdr.apart i j o o' t hiq (hL j hj) hi ho' hdt hd'
    subst hij
    obtain rfl:=Option.some.inj (hi.symm.trans ho')
    obtain rfl:=Option.some.inj (hu.symm.trans hu')
    rw [hdt]
    show nth (Zai F t u) t = some u
    rw [Zad,ZaM,List.getElem?_set_self (by rw [h.len]; exact hlt)]
   ·have h1:nth (Zcy F o.dst u) t = nth F t:=by
     cases hd:o.dst with
     | none=>rfl
     | some d=>exact Zaj fun e=>hdt (by rw [hd,e])
    rw [h1]
    exact h.new j o' u' t hj ho' hu' hd' hlt
  ·obtain rfl:=Option.some.inj (hi.symm.trans ho')
   obtain rfl:=Option.some.inj (hu.symm.trans hu')
   rw [hd']
   show nth (Zai F t u) t = some u
   rw [Zad,ZaM,List.getElem?_set_self (by rw [h.len]; exact hlt)]
theorem Plan.factsQ {ops:List Oper} {q:Nat} {us0 E0:List V} (hdr:DrawnQ C ops q):∀ {l:List Oper} {E En us:List V},Plan P C ops s l E En us → ∀ k,q ≤ k → (∀ j,nth l j = nth ops (k + j)) → (∀ j,nth us j = nth us0 (k + j)) → Done ops us0 E0 (fun j=>q ≤ j ∧ j < k) E →
  (∀ i o,k ≤ i → nth ops i = some o → ∃ Ei u,nth us0 i = some u ∧ Zwi P C ops s o Ei u ∧ Done ops us0 E0 (fun j=>q ≤ j ∧ j < i) Ei) ∧ Done ops us0 E0 (fun j=>q ≤ j ∧ j < k + l.length) En:=by
 intro l E En us h
 induction h with
 | nil E =>
  intro k _ hl _ hd
  refine ⟨fun i o hi ho=>?_,by simpa using hd⟩
  have:=hl (i - k)
  rw [show k + (i - k) = i by omega,ho] at this
  simp [nth] at this
 | cons o l E En u us hf h ih =>
  intro k hqk hl hu hd
  have ho:nth ops k = some o:=by have:=hl 0; simpa [nth] using this.symm
  have huk:nth us0 k = some u:=by have:=hu 0; simpa [nth] using this.symm
  have hd':Done ops us0 E0 (fun j=>q ≤ j ∧ j < k + 1) (Zcy E o.dst u):=(hd.putQ hdr (fun j hj=>hj.1) hqk ho huk).iff fun j _=>by omega
  obtain ⟨h1,h2⟩:=ih (k + 1) (by omega) (fun j=>by have:=hl (j + 1); simp only [nth] at this; rw [this]; congr 1; omega) (fun j=>by have:=hu (j + 1); simp only [nth] at this; rw [this]; congr 1; omega) hd'
  refine ⟨fun i o' hi ho'=>?_,by rw [show k + (o :: l).length = k + 1 + l.length by simp; omega]; exact h2⟩
  by_cases hik:i = k
  ·subst hik
   obtain rfl:=Option.some.inj (ho.symm.trans ho')
   exact ⟨E,u,huk,hf,hd⟩
  ·exact h1 i o' (by omega) ho'
theorem Done.sameQ {ops:List Oper} {us E0:List V} {L:Nat → Prop} {F F':List V} (hul:∀ j o,L j → nth ops j = some o → ∃ u,nth us j = some u) (h:Done ops us E0 L F) (h':Done ops us E0 L F'):F = F':=by
 apply List.ext_getElem?
 intro t
 rw [← Zad,← Zad]
 by_cases hlt:t < E0.length
 ·by_cases hex:∃ j o,L j ∧ nth ops j = some o ∧ o.dst = some t
  ·obtain ⟨j,o,hj,ho,hd⟩:=hex
   obtain ⟨u,hu⟩:=hul j o hj ho
   rw [h.new j o _ t hj ho hu hd hlt,h'.new j o _ t hj ho hu hd hlt]
  ·have hn:∀ j o,L j → nth ops j = some o → o.dst ≠ some t:=fun j o hj ho hd=>hex ⟨j,o,hj,ho,hd⟩
   rw [h.old t hn,h'.old t hn]
 ·rw [Zad,Zad,List.getElem?_eq_none (by rw [h.len]; omega),List.getElem?_eq_none (by rw [h'.len]; omega)]
theorem ZrR {ops:List Oper} {q:Nat} (hq:q ≤ ops.length) (hdr:DrawnQ C ops q) {us E0 En:List V} (hfacts:∀ i o,q ≤ i → nth ops i = some o → ∃ Ei u,nth us i = some u ∧ Zwi P C ops s o Ei u ∧ Done ops us E0 (fun j=>q ≤ j ∧ j < i) Ei)
  (hEn:Done ops us E0 (fun j=>q ≤ j ∧ j < ops.length) En) (keep:Nat) (hkeep:keep ≤ s.length) (Q:Exit → Act → World → Prop) (g0:G) (a0:Act) (w0:World)
  (hQ:∀ g' a' w',Le keep g0 w0 g' w' → Sim C g' En s a' w' → a'.defers = a0.defers → Q .normal a' w') :
  ∀ (fuel:Nat) (listed:Array Bool) (g:G) (a:Act) (w:World) (F:List V),listed.size = ops.length → (∀ j,j < q → listed.getD j false = true) → listed.toList.count false ≤ fuel → Le keep g0 w0 g w → Sim C g F s a w → a.defers = a0.defers →
   Done ops us E0 (fun j=>q ≤ j ∧ listed.getD j false = true) F → wpAny P .any ops.toArray Q fuel listed a w:=by
 have hus:∀ j o,q ≤ j → nth ops j = some o → ∃ u,nth us j = some u:=fun j o hj ho=>by
  obtain ⟨_,u,h,_⟩:=hfacts j o hj ho
  exact ⟨u,h⟩
 have hend:∀ (listed:Array Bool) (g:G) (a:Act) (w:World) (F:List V),listed.size = ops.length → (∀ j,j < q → listed.getD j false = true) → Le keep g0 w0 g w → Sim C g F s a w → a.defers = a0.defers → Done ops us E0 (fun j=>q ≤ j ∧ listed.getD j false = true) F →
   Region.ready .any ops.toArray listed = [] → Q .normal a w:=by
  intro listed g a w F hls hlo hle hs hd hdone hr
  have all:∀ i,i < ops.length → listed.getD i false = true:=by
   intro i
   induction i using Nat.strongRecOn with
   | ind i ih =>
    intro hi
    cases hl:listed.getD i false with
    | true=>rfl
    | false =>
     exfalso
     have hqi:q ≤ i:=Nat.le_of_not_lt fun hc=>by rw [hlo i hc] at hl; cases hl
     have hlt:i < listed.size:=by omega
     have hmem:i ∈ Region.ready .any ops.toArray listed:=by
      rw [mem_ready]
      refine ⟨by rw [← hl]; simp [Array.getD,hlt],ops[i],by simp [hi],fun e he hbe=>?_⟩
      have:=hdr.after i ops[i] hqi (by rw [Zad,List.getElem?_eq_getElem hi]) e he hbe
      exact ih e.on this (by omega)
     rw [hr] at hmem
     cases hmem
  have:F = En:=Done.sameQ (fun j o hj ho=>hus j o hj.1 ho) (hdone.iff (L':=fun j=>q ≤ j ∧ j < ops.length) fun j hj=>⟨fun h=>⟨h.1,hj⟩,fun h=>⟨h.1,all j hj⟩⟩) hEn
  subst this
  exact hQ g a w hle hs hd
 intro fuel
 induction fuel with
 | zero =>
  intro listed g a w F hls hlo hcnt hle hs hd hdone
  have hr:Region.ready .any ops.toArray listed = []:=by
   apply List.eq_nil_iff_forall_not_mem.2
   intro i hi
   obtain ⟨h1,_⟩:=mem_ready.1 hi
   have hlt:i < listed.size:=by
    apply Nat.lt_of_not_le
    intro hge
    simp [Array.getD,Nat.not_lt.2 hge] at h1
   have hmem:false ∈ listed.toList:=by
    simp only [Array.getD,hlt,dite_true] at h1
    rw [← h1]
    simp
   have:=List.count_pos_iff.2 hmem
   omega
  exact ⟨hr,hend listed g a w F hls hlo hle hs hd hdone hr⟩
 | succ fuel ih =>
  intro listed g a w F hls hlo hcnt hle hs hd hdone
  refine ⟨hend listed g a w F hls hlo hle hs hd hdone,fun i hi=>?_⟩
  obtain ⟨h1,o,ho,hall⟩:=mem_ready.1 hi
  have ho':nth ops i = some o:=by rw [Zad]; simpa using ho
  have hlt:i < listed.size:=by rw [hls]; exact Zau ho'
  have hqi:q ≤ i:=Nat.le_of_not_lt fun hc=>by
   have:=hlo i hc
   simp only [Array.getD,hlt,dite_true] at h1 this
   rw [h1] at this; cases this
  obtain ⟨Ei,u,hu,hfact,hEi⟩:=hfacts i o hqi ho'
  have hlook:∀ t,t ∈ ZaZ ops o → nth F t = nth Ei t:=by
   intro t ht
   by_cases hex:∃ j p,q ≤ j ∧ nth ops j = some p ∧ p.dst = some t
   ·obtain ⟨j,p,hqj,hp,hpd⟩:=hex
    obtain ⟨e,he,hb,hon⟩:=hdr.deps i o j p t hqi hqj ho' hp hpd ht
    have hj:listed.getD j false = true:=by rw [← hon]; exact hall e he hb
    have hji:j < i:=by rw [← hon]; exact hdr.after i o hqi ho' e he hb
    obtain ⟨uj,hju⟩:=hus j p hqj hp
    by_cases hlt2:t < E0.length
    ·rw [hdone.new j p _ t ⟨hqj,hj⟩ hp hju hpd hlt2,hEi.new j p _ t ⟨hqj,hji⟩ hp hju hpd hlt2]
    ·rw [Zad,Zad,List.getElem?_eq_none (by rw [hdone.len]; exact Nat.le_of_not_lt hlt2),List.getElem?_eq_none (by rw [hEi.len]; exact Nat.le_of_not_lt hlt2)]
   ·rw [hdone.old t fun j p hj hp hpd=>hex ⟨j,p,hj.1,hp,hpd⟩,hEi.old t fun j p hj hp hpd=>hex ⟨j,p,hj.1,hp,hpd⟩]
  have hguard:∀ d,Zby ops o = some d → nth F d = nth Ei d:=fun d hd=>hlook d (ZcZ hd)
  have hcnt':=Zcb hlt h1 hcnt
  have hlo':∀ j,j < q → (listed.setIfInBounds i true).getD j false = true:=fun j hj=>(ZaN hlt j).2 (.inl (hlo j hj))
  have hdone':Done ops us E0 (fun j=>q ≤ j ∧ (listed.setIfInBounds i true).getD j false = true) (Zcy F o.dst u):=by
   refine (hdone.putQ hdr (fun j hj=>hj.1) hqi ho' hu).iff fun j hj=>?_
   rw [ZaN hlt]
   constructor
   ·rintro (⟨h1,h2⟩ | rfl)
    ·exact ⟨h1,.inl h2⟩
    ·exact ⟨hqi,.inr rfl⟩
   ·rintro ⟨h1,h2 | rfl⟩
    ·exact .inl ⟨h1,h2⟩
    ·exact .inr rfl
  unfold wpOp
  rw [ho]
  simp only
  rcases hfact with ⟨hwant,v,rfl,hop⟩ | ⟨hwant,rfl⟩
  ·rw [hwant g a w F hs hguard,if_pos rfl]
   refine .inl (Zgu hs (by rw [ZdJ,hEi.len,hdone.len]) (fun t v hv=>?_) hop keep hkeep _ Q fun g' rv w' hle' hs'=>?_)
   ·rcases Zfm _ _ _ t v hv with h | ⟨hm,x,hx,hvx⟩
    ·exact .inl h
    ·rw [Nat.zero_add] at hm
     exact .inr ⟨x,by rw [hlook t hm]; exact hx,hvx⟩
   ·exact ih _ g' _ w' _ (by simpa using hls) hlo' hcnt' (hle.trans hle') hs' (by rw [ZbG]; exact hd) hdone'
  ·rw [hwant g a w F hs hguard,if_neg (by simp)]
   exact ih _ g _ w _ (by simpa using hls) hlo' hcnt' hle (hs.put0 o.dst ZdS (by simp [V.still])) (by rw [ZbG]; exact hd) hdone'
theorem Zq7 (hC:Ok P C) {Φ:Zat} (hΦ:Zab P C Φ) {id m q:Nat} {ops:Array Oper} {K:List V → S → Option R} {r:R} (hb:ZfJ C ops.toList m q = true)
  (h:ZcV C Φ ops.toList 0 (ops.toList.take m) E s [] [] [] (fun E' s'=>Zrg C Φ ops.toList ((ops.toList.drop m).take (q - m)) E' s' fun E' s'=>ZiV C Φ ops.toList (ops.toList.drop q) E' s' K) = some r) :
  ∃ E' s',K E' s' = some r ∧ s.length ≤ s'.length ∧ ∀ g a w keep,keep ≤ s.length → Sim C g E s a w → ∀ Q:Exit → Act → World → Prop,
   (∀ g' a' w',Le keep g w g' w' → Sim C g' E' s' a' w' → a'.defers = a.defers → Q .normal a' w') → (Code.region id ops true).wp P Q a w:=by
 unfold ZfJ at hb
 simp only [Bool.and_eq_true,decide_eq_true_eq] at hb
 obtain ⟨hmq,hql,hb,hd⟩:=hb
 have hdr:=ZfA hd
 obtain ⟨hB,hch⟩:=ZdE hb fun j o hj ho=>⟨hdr.after j o hj ho,by
  obtain ⟨e,he,hbe,hon⟩:=hdr.last j o hj ho
  exact ⟨e,he,hbe,by omega⟩⟩
 obtain ⟨E1,s1,h1,hl1,h2⟩:=Zke (id:=id) hC hΦ hB h
 obtain ⟨E2,s2,h3,hl2,h4⟩:=Ze1 hC hΦ h1
 obtain ⟨En,us,h5,h6⟩:=ZdT hC hΦ (fun o ho=>by
  obtain ⟨i,hi⟩:=List.getElem?_of_mem ho
  rw [List.getElem?_drop] at hi
  exact hdr.calm (q + i) o (Nat.le_add_right _ _) (by rw [Zad]; exact hi)) h3
 refine ⟨En,s2,h5,Nat.le_trans hl1 hl2,fun g a w keep hk hs Q hQ=>h2 g a w keep hk hs Q fun g1 a1 w1 listed fuel hls hall hcnt hle1 hs1 hd1=>?_⟩
 have hk2:keep ≤ s2.length:=Nat.le_trans hk (Nat.le_trans hl1 hl2)
 obtain ⟨f1,f2⟩:=h6.factsQ (us0:=List.replicate q .dead ++ us) (E0:=E2) hdr q (Nat.le_refl _) (fun j=>by rw [Zad,Zad,List.getElem?_drop])
  (fun j=>by rw [Zad,Zad,List.getElem?_append_right (by simp)]; simp) ⟨rfl,fun _ _=>rfl,fun j _ _ _ hj=>absurd hj.2 (by omega)⟩
 refine ZkX (T:=fun a2 w2=>∃ g2,Le keep g w g2 w2 ∧ Sim C g2 E2 s2 a2 w2 ∧ a2.defers = a.defers) (m:=m) (q:=q) (fun o ho=>(hB.mid o ho).1) hch hdr.last hql ((ops.toList.drop m).take (q - m)) m fuel listed a1 w1 (Nat.le_refl _) ?_ ?_ hls hall hcnt ?_ ?_
 ·rw [List.length_take,List.length_drop]; omega
 ·intro j hj
  rw [List.length_take] at hj
  rw [Zad,Zad,List.getElem?_take,if_pos (by omega),List.getElem?_drop]
 ·rintro listed2 fuel2 a2 w2 hls2 hall2 hcnt2 ⟨g2,hle2,hs2,hd2⟩
  refine ZrR (P:=P) (s:=s2) hql hdr f1 (f2.iff fun j hj=>?_) keep hk2 Q g a w hQ fuel2 listed2 g2 a2 w2 E2 hls2 (fun j hj=>(hall2 j).2 hj) hcnt2 hle2 hs2 hd2 ⟨rfl,fun _ _=>rfl,fun j _ _ _ hj=>?_⟩
  ·rw [List.length_drop]; omega
  ·have:=(hall2 j).1 hj.2
   exact absurd this (by omega)
 ·exact h4 g1 a1 w1 keep (Nat.le_trans hk hl1) hs1 Q _ fun g' a' w' hle' hs' hd'=>⟨g',hle1.trans hle',hs',hd'.trans hd1⟩
end
end Go.VM
