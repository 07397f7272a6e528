/- Slices that are written down. -/
import Derived.Test.YtkchbabkbpcncaaVmH
set_option linter.unusedSimpArgs false
set_option linter.unusedVariables false
namespace Go.VM
open Go.RowKit
section
variable {P:Program} {C:Cfg} {o:Oper} {E:List V} {s:S}
def G.more (g:G) (N:Nat → Nat → Prop):G:={ g with imm:=fun b i=>g.imm b i ∨ N b i,safe:=fun b i=>g.safe b i ∨ N b i }
theorem Sim.more {g:G} {a:Act} {w w':World} (hs:Sim C g E s a w) (hsize:w.heap.size ≤ w'.heap.size) (hb:∀ b,b < w.heap.size → w'.heap[b]? = w.heap[b]?)
  (N:Nat → Nat → Prop) (hN:∀ b i,N b i → w.heap.size ≤ b ∧ b < w'.heap.size):Sim C (g.more N) E s a w' ∧ Keeps g w (g.more N) w':=by
 have hk:Keeps g w (g.more N) w':=⟨fun _ _ h=>.inl h,fun _ _ h=>.inl h,fun b i hi=>Za2 (hb b (hs.immlt b i hi)) i⟩
 have hx:=hs.ext hsize hb
 have own2:∀ v rv,OwnOk C g w v rv → OwnOk C (g.more N) w' v rv:=by
  intro v rv h
  refine h.side rfl fun ho b hb'=>⟨hb b (h.row ho hb').1,fun h=>h,fun i hc=>?_,fun o x hx _ _=>⟨o,hx⟩⟩
  rcases hc with hc | hc
  ·exact hc
  ·have:=(hN b i hc).1
   have:=(h.row ho hb').1
   omega
 refine ⟨{
  len:=hs.len
  env:=fun t v hv=>by
   obtain ⟨rv,h1,h2,h3⟩:=hs.env t v hv
   exact ⟨rv,h1,h2.keeps hs.sub hk ⟨Nat.le_refl _,fun _ _ x' h=>⟨x',h,Nat.le_refl _,fun _=>rfl⟩⟩,own2 v rv h3⟩
  olen:=hs.olen
  obj:=fun o ob ho=>by
   obtain ⟨x,hx',hr⟩:=hs.obj o ob ho
   obtain ⟨arr,cap,b1,b2,b3,b4,b5,b7,b6⟩:=hr.blk
   refine ⟨x,hx',hr.ver,hr.esz,hr.ty,hr.known,⟨arr,cap,fun hp=>by rw [hb _ (ZaO (b1 hp))]; exact b1 hp,b2,b3,b4,b5,b7,fun i e j c h1 h2=>?_⟩,hr.sz,hr.flat,hr.base,hr.nsusp,fun hp i hc=>?_⟩
   ·obtain ⟨rv,r1,r2,r3⟩:=b6 i e j c h1 h2
    exact ⟨rv,r1,r2.keeps hs.sub hk ⟨Nat.le_refl _,fun _ _ x' h=>⟨x',h,Nat.le_refl _,fun _=>rfl⟩⟩,own2 c rv r3⟩
   ·rcases hc with hc | hc
    ·exact hr.nimm hp i hc
    ·have:=(hN _ i hc).1
     have:=ZaO (b1 hp)
     omega
  gone:=hs.gone
  inj:=hs.inj
  own:=hx.own
  sub:=fun b i h=>h.imp (hs.sub b i) id
  immlt:=fun b i h=>by
   rcases h with h | h
   ·exact Nat.lt_of_lt_of_le (hs.immlt b i h) hsize
   ·exact (hN b i h).2
  basele:=hx.basele
  susplt:=hx.susplt },hk⟩
theorem Le.more {g:G} {a:Act} {w w':World} (hs:Sim C g E s a w) (hsize:w.heap.size ≤ w'.heap.size) (hb:∀ b,b < w.heap.size → w'.heap[b]? = w.heap[b]?)
  (hos:w'.os = w.os) (htape:w'.tape = w.tape) (hout:w'.output = w.output)
  (N:Nat → Nat → Prop) (hN:∀ b i,N b i → w.heap.size ≤ b ∧ b < w'.heap.size) {keep:Nat} (hk:keep ≤ s.length):Le keep g w (g.more N) w' where
 keeps:=(hs.more hsize hb N hN).2
 size:=hsize
 os:=hos
 tape:=htape
 output:=hout
 base:=rfl
 susp:=fun _=>Iff.rfl
 low:=fun b h=>hb b (Nat.lt_of_lt_of_le h hs.basele)
 sus:=fun b h=>⟨hb b (hs.susplt b h),fun i hi=>by
  rcases hi with hi | hi
  ·exact hi
  ·have:=(hN b i hi).1
   have:=hs.susplt b h
   omega,fun i hi=>by
  rcases hi with hi | hi
  ·exact hi
  ·have:=(hN b i hi).1
   have:=hs.susplt b h
   omega⟩
 klen:=by show keep ≤ g.obs.length; rw [hs.olen]; exact hk
 obs:=fun o _ x' hx=>⟨x',hx,Nat.le_refl _,fun _=>rfl⟩
theorem Ziv {g:G} {w:World} {c:V} {x:Value} (h:VR g w c x) (hp:c.plainCell = true):DR g w true c x:=by
 cases h with
 | data h =>
  cases h with
  | bool b=>exact .bool b
  | int k n=>exact .int k n
  | str s=>exact .str s
  | nilp=>exact .nilp
  | nilf=>exact .nilf
  | nili=>exact .nili
  | nils=>exact .nils
  | fn f=>cases hp
  | agg=>cases hp
  | tuple=>cases hp
  | list esz es f A n c b off cv hn hc hl hA hsz hf ho hw hd =>
   exact .list esz es f A n c b off cv hn hc (fun h=>by subst h; cases hp) hA hsz hf ho hw hd
 | uni=>cases hp
 | ptr=>cases hp
 | arr=>cases hp
 | cptr=>cases hp
 | agg=>cases hp
 | tuple=>cases hp
 | fn=>cases hp
 | dead=>cases hp
theorem Zd9 {e:V} (h:e.plain = true) {j:Nat} {c:V} (hc:nth e.cells j = some c):c.plainCell = true:=by
 by_cases hag:∃ cs,e = .agg cs
 ·obtain ⟨cs,rfl⟩:=hag
  have hc':nth cs j = some c:=hc
  rw [Zad] at hc'
  exact List.all_eq_true.1 h c (List.mem_of_getElem? hc')
 ·have hc1:e.cells = [e]:=by cases e <;> first | rfl | exact absurd ⟨_,rfl⟩ hag
  rw [hc1] at hc
  cases j with
  | zero =>
   simp only [nth] at hc
   obtain rfl:=Option.some.inj hc
   cases e <;> first | exact h | exact absurd ⟨_,rfl⟩ hag
  | succ j=>simp [nth] at hc
def ElR (C:Cfg) (g:G) (w:World) (sz:Nat) (es:List V) (vs:List Value):Prop :=
 vs.length = es.length * sz ∧ (∀ i e,nth es i = some e → e.cells.length = sz) ∧ (∀ x ∈ vs,x.oneCell' = true) ∧
 ∀ i e j c,nth es i = some e → nth e.cells j = some c → c.flatCell = true ∧ ∃ x,nth vs (i * sz + j) = some x ∧ VR g w c x ∧ OwnOk C g w c x ∧ (c.owns → c.blockOf x = none)
theorem ZjE {g:G} {w:World} {sz:Nat} (hpos:0 < sz):∀ {m:List (Nat × V)} {rs:List (Nat × Value)} {es es':List V} {vs:List Value},m.length = rs.length →
  (∀ i p,nth m i = some p → ∃ r,nth rs i = some r ∧ r.1 = p.1 ∧ VR g w p.2 r.2 ∧ OwnOk C g w p.2 r.2 ∧ p.2.flat = true ∧ p.2.cells.length = sz ∧ p.2.still) →
  ElR C g w sz es vs → ZdN es m = some es' →
  ∃ vs':List Value,Instr.fill (fun i=>some (i * sz,sz)) vs.toArray rs = some vs'.toArray ∧ ElR C g w sz es' vs' ∧ es'.length = es.length
 | [],rs,es,es',vs,hl,_,he,h=>by
  have:rs = []:=List.eq_nil_of_length_eq_zero (by simpa using hl.symm)
  subst this
  simp only [ZdN] at h
  obtain rfl:=Option.some.inj h
  exact ⟨vs,rfl,he,rfl⟩
 | (i,v) :: m,rs,es,es',vs,hl,hm,he,h=>by
  cases rs with
  | nil=>simp at hl
  | cons r rs =>
   obtain ⟨r',hr,h1,h2,h3,h4,h5,h6⟩:=hm 0 (i,v) rfl
   simp only [nth] at hr
   obtain rfl:=Option.some.inj hr
   obtain ⟨ri,rv⟩:=r
   simp only at h1 h2 h3 h4 h5 h6
   subst h1
   simp only [ZdN] at h
   split at h <;> first | (cases h; done) | skip
   rename_i hi
   obtain ⟨ws,c1,c2,c3,c4,c5,c6⟩:=Zgb h2 h3 h4
   have hwl:ws.length = sz:=by rw [c2,c3,h5]
   obtain ⟨e1,e2,e3,e4⟩:=he
   have hle:ri * sz + sz ≤ vs.length:=by
    rw [e1]
    have:(ri + 1) * sz ≤ es.length * sz:=Nat.mul_le_mul_right _ hi
    rw [Nat.add_mul] at this; omega
   have hfold:(rv.cells.zipIdx.foldl (fun cs (x:Value × Nat)=>cs.setIfInBounds (ri * sz + x.2) x.1) vs.toArray) = (vs.take (ri * sz) ++ ws ++ vs.drop (ri * sz + ws.length)).toArray:=by
    apply Array.ext'
    have:=ZgB (ri * sz) ws vs.toArray 0 (by simp; omega)
    rw [c1]
    simpa using this
   have step:Instr.fill (fun i=>some (i * sz,sz)) vs.toArray ((ri,rv) :: rs) = Instr.fill (fun i=>some (i * sz,sz)) (vs.take (ri * sz) ++ ws ++ vs.drop (ri * sz + ws.length)).toArray rs:=by
    simp only [Instr.fill]
    rw [if_neg (by rw [c1]; simp; omega)]
    rw [← hfold]
   rw [step]
   have hE:ElR C g w sz (Zai es ri v) (vs.take (ri * sz) ++ ws ++ vs.drop (ri * sz + ws.length)):=by
    refine ⟨by rw [Zak]; simp; omega,fun k e hk=>?_,fun x hx=>?_,fun k e j c hk hj=>?_⟩
    ·by_cases hkr:ri = k
     ·subst hkr
      rw [Zar hk]; exact h5
     ·rw [Zaj hkr] at hk; exact e2 k e hk
    ·simp only [List.mem_append] at hx
     rcases hx with (hx | hx) | hx
     ·exact e3 x (List.mem_of_mem_take hx)
     ·exact c4 x hx
     ·exact e3 x (List.mem_of_mem_drop hx)
    ·by_cases hkr:ri = k
     ·subst hkr
      obtain rfl:=Zar hk
      have hjl:j < ws.length:=by rw [hwl,← h5]; exact Zau hj
      obtain ⟨x,x1,x2⟩:=c6 j c hj
      have hsol:c.flatCell = true ∧ ¬ c.owns:=by
       by_cases hag:∃ cs,e = .agg cs
       ·obtain ⟨cs,rfl⟩:=hag
        have:=Zdu h4 (show nth cs j = some c from hj)
        refine ⟨by cases c <;> first | rfl | (cases this; done),fun how=>?_⟩
        rcases how with ⟨sz,es,e',he'⟩ | ⟨_,_,_,he'⟩
        ·exact h6.2.1 cs rfl j sz es e' (by rw [← he']; exact hj)
        ·rw [he'] at this; cases this
       ·have hc1:e.cells = [e]:=by cases e <;> first | rfl | exact absurd ⟨_,rfl⟩ hag
        rw [hc1] at hj
        cases j with
        | zero =>
         simp only [nth] at hj
         obtain rfl:=Option.some.inj hj
         exact ⟨by cases e <;> first | rfl | (cases h4; done) | exact absurd ⟨_,rfl⟩ hag,h6.owns⟩
        | succ j=>simp [nth] at hj
      refine ⟨hsol.1,x,?_,x2,⟨fun sz es e' he'=>absurd (.inl ⟨sz,es,e',he'⟩) hsol.2,fun cs he'=>(by rw [he'] at hsol; cases hsol.1),fun t sz es he'=>absurd (.inr ⟨t,sz,es,he'⟩) hsol.2⟩,fun how=>absurd how hsol.2⟩
      rw [Zad,List.append_assoc,List.getElem?_append_right (by simp; omega),List.getElem?_append_left (by simp; omega)]
      rw [Zad] at x1
      rw [← x1]
      congr 1
      simp; omega
     ·rw [Zaj hkr] at hk
      obtain ⟨f1,x,f2,f3,f4,f5⟩:=e4 k e j c hk hj
      refine ⟨f1,x,?_,f3,f4,f5⟩
      have hjs:j < sz:=by rw [← e2 k e hk]; exact Zau hj
      have hne:k * sz + j < ri * sz ∨ ri * sz + sz ≤ k * sz + j:=by
       rcases Nat.lt_or_gt_of_ne (Ne.symm hkr) with h | h
       ·left
        have:(k + 1) * sz ≤ ri * sz:=Nat.mul_le_mul_right _ h
        rw [Nat.add_mul] at this; omega
       ·right
        have:(ri + 1) * sz ≤ k * sz:=Nat.mul_le_mul_right _ h
        rw [Nat.add_mul] at this; omega
      rw [Zad] at f2 ⊢
      rcases hne with hne | hne
      ·rw [List.append_assoc,List.getElem?_append_left (by simp; omega),List.getElem?_take,if_pos hne]; exact f2
      ·rw [List.getElem?_append_right (by simp; omega),List.getElem?_drop]
       rw [← f2]
       congr 1
       simp; omega
   obtain ⟨vs',g1,g2,g3⟩:=ZjE hpos (m:=m) (rs:=rs) (es:=Zai es ri v) (by simpa using hl) (fun j p hp=>hm (j + 1) p hp) hE h
   exact ⟨vs',g1,g2,by rw [g3,Zak]⟩
end
end Go.VM
