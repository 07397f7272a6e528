/- Operations that lay new memory: variables, structs, slices. -/
import Derived.Test.YtkchbabkbpcncaaVmF
set_option linter.unusedSimpArgs false
set_option linter.unusedVariables false
namespace Go.VM
open Go.RowKit
section
variable {P:Program} {C:Cfg} {o:Oper} {E:List V} {s:S}
theorem VR.oneCell {g:G} {w:World} {v:V} {rv:Value} (h:VR g w v rv) (hs:v.solid = true):rv.oneCell' = true ∧ rv.cells = #[rv]:=by
 cases h with
 | data h=>cases h <;> first | (cases hs; done) | exact ⟨rfl,rfl⟩
 | ptr=>exact ⟨rfl,rfl⟩
 | arr=>exact ⟨rfl,rfl⟩
 | cptr=>exact ⟨rfl,rfl⟩
 | agg=>cases hs
 | tuple=>cases hs
 | fn=>exact ⟨rfl,rfl⟩
 | dead=>cases hs
 | uni=>cases hs
theorem Zdu {cs:List V} (h:cs.all V.solid = true) {i:Nat} {c:V} (hc:nth cs i = some c):c.solid = true:=by
 rw [Zad] at hc
 exact List.all_eq_true.1 h c (List.mem_of_getElem? hc)
theorem Za6 {α:Type} (l:List α) (j:Nat):l.toArray[j]? = nth l j:=by rw [Zad]; simp
theorem Zgb {g:G} {w:World} {v:V} {rv:Value} (h:VR g w v rv) (ho:OwnOk C g w v rv) (hf:v.flat = true) :
  ∃ vs:List Value,rv.cells = vs.toArray ∧ vs.length = v.boxed.cells.length ∧ v.boxed.cells.length = v.cells.length ∧ (∀ x ∈ vs,x.oneCell' = true) ∧
   (∀ j c,nth v.boxed.cells j = some c → c.flatCell = true ∧ ∃ x,nth vs j = some x ∧ VR g w c x ∧ OwnOk C g w c x ∧ (c.owns → c.blockOf x = none)) ∧
   (∀ j c,nth v.cells j = some c → ∃ x,nth vs j = some x ∧ VR g w c x):=by
 by_cases hag:∃ cs,v = .agg cs
 ·obtain ⟨cs,rfl⟩:=hag
  obtain ⟨vs,rfl,hl,hc⟩:=h.agg_inv
  have hx:∀ j c,nth cs j = some c → ∃ x,nth vs j = some x ∧ VR g w c x:=by
   intro j c hj
   have hlt:j < vs.length:=by rw [← hl]; exact Zau hj
   exact ⟨vs[j],by rw [Zad,List.getElem?_eq_getElem hlt],hc j c _ hj (by rw [Zad,List.getElem?_eq_getElem hlt])⟩
  refine ⟨vs,rfl,hl.symm,rfl,fun x hm=>?_,fun j c hj=>?_,hx⟩
  ·obtain ⟨j,hj⟩:=List.getElem?_of_mem hm
   have hlt:j < cs.length:=by rw [hl]; exact (List.getElem?_eq_some_iff.1 hj).1
   have hcj:nth cs j = some cs[j]:=by rw [Zad,List.getElem?_eq_getElem hlt]
   exact ((hc j _ x hcj (by rw [Zad]; exact hj)).oneCell (Zdu hf hcj)).1
  ·have hsol:c.solid = true:=Zdu hf hj
   obtain ⟨x,hx1,hx2⟩:=hx j c hj
   refine ⟨by cases c <;> first | rfl | (cases hsol; done),x,hx1,hx2,?_,fun how=>?_⟩
   ·refine ⟨fun sz es e he=>?_,fun cs' he=>(by rw [he] at hsol; cases hsol),fun t sz es he=>(by rw [he] at hsol; cases hsol)⟩
    obtain ⟨h1,h2,h3,vs',h4,h5⟩:=ho.agg cs rfl j sz es e (by rw [← he]; exact hj)
    have hvs:vs' = vs:=by injection h4 with h4; exact (List.toArray_inj h4).symm
    rw [hvs] at h5
    obtain rfl:=Option.some.inj (hx1.symm.trans h5)
    subst h3
    subst h2
    exact (OwnOk.nil h1).own _ _ _ rfl
   ·obtain ⟨sz,es,e,he⟩:∃ sz es e,c = .list sz es (.own e):=by
     rcases how with how | ⟨_,_,_,he⟩
     ·exact how
     ·rw [he] at hsol; cases hsol
    obtain ⟨h1,h2,h3,vs',h4,h5⟩:=ho.agg cs rfl j sz es e (by rw [← he]; exact hj)
    have hvs:vs' = vs:=by injection h4 with h4; exact (List.toArray_inj h4).symm
    rw [hvs] at h5
    obtain rfl:=Option.some.inj (hx1.symm.trans h5)
    exact V.blockOf_none rfl
 ·have hsol:v.solid = true:=by
   cases v <;> first | rfl | (cases hf; done) | exact absurd ⟨_,rfl⟩ hag
  obtain ⟨h1,h2⟩:=h.oneCell hsol
  have hb:v.boxed = v.noOwn:=by cases v <;> first | rfl | exact absurd ⟨_,rfl⟩ hag
  have hc1:v.cells = [v]:=by cases v <;> first | rfl | exact absurd ⟨_,rfl⟩ hag
  have hn:∀ cs,v.noOwn ≠ .agg cs:=by intro cs hc; cases v <;> simp [V.noOwn] at hc; exact hag ⟨_,rfl⟩
  have hc2:v.noOwn.cells = [v.noOwn]:=by cases hv:v.noOwn <;> first | rfl | exact absurd hv (hn _)
  refine ⟨[rv],by rw [h2],by rw [hb,hc2]; rfl,by rw [hb,hc1,hc2]; rfl,by simpa using h1,fun j c hj=>?_,fun j c hj=>?_⟩
  ·rw [hb,hc2] at hj
   cases j with
   | succ j=>simp [nth] at hj
   | zero =>
    simp only [nth] at hj
    obtain rfl:=Option.some.inj hj
    refine ⟨by cases v <;> first | rfl | (cases hsol; done),rv,rfl,h.noOwn,OwnOk.of_not (ZaA v),fun he=>absurd he (ZaA v).owns⟩
  ·rw [hc1] at hj
   cases j with
   | succ j=>simp [nth] at hj
   | zero=>simp only [nth] at hj; obtain rfl:=Option.some.inj hj; exact ⟨rv,rfl,h⟩
theorem Zbi.fresh {t:TypeId} {es:List V} {v:V} (hv:v.still)
  (h:∀ g a w,Sim C g E s a w → ∃ rv arr cap,(execOp a.eval o).run P w = .ok (.value rv) (w.alloc (.cells arr t (C.fz 0 arr.size))) ∧
   (C.ty t).known = true ∧ arr.size = cap * (C.ty t).size ∧ cap ≤ maxLen ∧ es.length ≤ cap ∧ (∀ i e,nth es i = some e → e.cells.length = (C.ty t).size) ∧
   (∀ i e j c,nth es i = some e → nth e.cells j = some c → c.flatCell = true) ∧ (∀ (k:Nat) (v:Value),arr[k]? = some v → v.oneCell' = true) ∧
   (∀ i e j c,nth es i = some e → nth e.cells j = some c → ∃ rv,arr[i * (C.ty t).size + j]? = some rv ∧ VR g w c rv ∧ OwnOk C g w c rv ∧ (c.owns → c.blockOf rv = none)) ∧
   ∀ g',g'.obs.length = s.length + 1 → nth g'.obs s.length = some (some (0,w.heap.size,(C.ty t).size,arr.size,0)) → VR g' (w.alloc (.cells arr t (C.fz 0 arr.size))) v rv) :
  Zbi P C o E s v E (s ++ [some { es:=es,esz:=(C.ty t).size,elem:=t,ver:=0 }]):=by
 refine ⟨by simp,fun g a w keep hk hs next Q hnext=>?_⟩
 obtain ⟨rv,arr,cap,h1,h2,h3,h4,h5,h6,h7,h8,h9,h10⟩:=h g a w hs
 obtain ⟨k1,k2⟩:=hs.newOb t es arr cap h2 h3 h4 h5 h6 h7 h8 h9
 unfold Oper.wp
 rw [h1]
 refine hnext _ rv _ (k2 keep hk) (k1.put0 o.dst (h10 _ (by simp [G.add,hs.olen]) (by simp only [G.add]; rw [← hs.olen,Zaz])) hv)
theorem Zwd (hC:Ok P C) (hth:C.thaw = false) {t:TypeId} {x:Operand} {v:V} (hk:(C.ty t).known = true) (hf:v.flat = true) (hsz:v.cells.length = (C.ty t).size) (ho:o.op = .box t x) (hx:ev E x = some v) :
  Zbi P C o E s (.ptr s.length 0 0 0) E (s ++ [some { es:=[v.boxed],esz:=(C.ty t).size,elem:=t,ver:=0 }]):=by
 refine Zbi.fresh (by simp [V.still]) fun g a w hs=>?_
 obtain ⟨h1,h2⟩:=hs.ev hx
 obtain ⟨vs,c1,c2,c3,c4,c5,_⟩:=Zgb h1 h2 hf
 have hlen:vs.length = (C.ty t).size:=by rw [c2,c3,hsz]
 refine ⟨.pointer (some ⟨w.heap.size,0,none⟩),vs.toArray,1,?_,hk,by simp [hlen],by unfold maxLen; omega,by simp,?_,?_,?_,?_,?_⟩
 ·simp [execOp,ho,Instr.box,newVar,newRow,c1,Cfg.fz,hth]
 ·intro i e hi
  cases i with
  | zero=>simp [nth] at hi; subst hi; rw [c3,hsz]
  | succ i=>simp [nth] at hi
 ·intro i e j c hi hj
  cases i with
  | zero=>simp [nth] at hi; subst hi; exact (c5 j c hj).1
  | succ i=>simp [nth] at hi
 ·intro k u hu
  exact c4 u (by rw [Za6,Zad] at hu; exact List.mem_of_getElem? hu)
 ·intro i e j c hi hj
  cases i with
  | zero =>
   simp [nth] at hi; subst hi
   obtain ⟨_,x,k1,k2,k3,k4⟩:=c5 j c hj
   exact ⟨x,by rw [Nat.zero_mul,Nat.zero_add,Za6]; exact k1,k2,k3,k4⟩
  | succ i=>simp [nth] at hi
 ·intro g' hl hn
  refine .ptr _ _ _ _ _ (by omega) fun y hy=>?_
  rw [hn] at hy
  obtain rfl:=Option.some.inj (Option.some.inj hy)
  exact ⟨Nat.le_refl _,fun _=>by simp⟩
theorem ZaU {α:Type} {n i:Nat} {a b:α} (h:nth (List.replicate n a) i = some b):b = a ∧ i < n:=by
 rw [Zad,List.getElem?_replicate] at h
 split at h
 ·exact ⟨(Option.some.inj h).symm,by assumption⟩
 ·cases h
structure ZeroOk (P:Program) (C:Cfg) (t:TypeId) (z:Value):Prop where
 size:z.cells.size = (C.ty t).size
 len:(C.ty t).zero.cells.length = (C.ty t).size
 cell:∀ j c,nth (C.ty t).zero.cells j = some c → c.solid = true ∧ ∃ rv,z.cells[j]? = some rv ∧ (∀ g w l,DR g w l c rv) ∧ (∀ g w,OwnOk C g w c rv) ∧ rv.ownBlock = none
theorem TyOk.zero {t:TypeId} (h:TyOk P C t) {i:TypeInfo} (hi:P.info? t = some i):∃ z,i.zero = some z ∧ ZeroOk P C t z ∧ i.size = (C.ty t).size ∧ i.bytes = (C.ty t).bytes:=by
 obtain ⟨i',z,h1,h2,h3,h4,h5,h6,h7,_⟩:=h.info
 have e:i' = i:=Option.some.inj (h1.symm.trans hi)
 subst e
 refine ⟨z,h4,⟨h5,h6,fun j c hj=>?_⟩,h2,h3⟩
 have hlt:j < z.cells.size:=by rw [h5,← h6]; exact Zau hj
 refine ⟨h.zflat j c hj,z.cells[j],by rw [Array.getElem?_eq_getElem hlt],?_⟩
 exact h7 j c _ hj (by rw [Array.getElem?_eq_getElem hlt])
theorem ZeroOk.one {t:TypeId} {z:Value} (h:ZeroOk P C t z):∀ (k:Nat) (v:Value),z.cells[k]? = some v → v.oneCell' = true:=by
 intro k v hv
 have hlt:k < z.cells.size:=(Array.getElem?_eq_some_iff.1 hv).1
 have hlt':k < (C.ty t).zero.cells.length:=by rw [h.len,← h.size]; exact hlt
 obtain ⟨h1,rv,h2,h3,_⟩:=h.cell k _ (by rw [Zad,List.getElem?_eq_getElem hlt'])
 rw [h2] at hv
 obtain rfl:=Option.some.inj hv
 exact ((VR.data (h3 ⟨0,fun _ _=>True,fun _ _=>True,fun _=>False,[]⟩ default false)).oneCell h1).1
theorem Ztt (hC:Ok P C) (hth:C.thaw = false) {t:TypeId} (hk:(C.ty t).known = true) (ho:o.op = .alloc t) :
  Zbi P C o E s (.ptr s.length 0 0 0) E (s ++ [some { es:=[(C.ty t).zero],esz:=(C.ty t).size,elem:=t,ver:=0 }]):=by
 have hty:=hC.ty t hk
 obtain ⟨i,z',hi,_⟩:=hty.info
 obtain ⟨z,hz,zo,hsz,_⟩:=hty.zero hi
 refine Zbi.fresh (by simp [V.still]) fun g a w hs=>?_
 refine ⟨.pointer (some ⟨w.heap.size,0,none⟩),z.cells,1,?_,hk,by simp [zo.size],by unfold maxLen; omega,by simp,?_,?_,zo.one,?_,?_⟩
 ·simp [execOp,ho,Instr.alloc,newVar,newRow,zeroValue,typeInfo,hi,hz,Cfg.fz,hth]
 ·intro i e hi
  cases i with
  | zero=>simp [nth] at hi; subst hi; exact zo.len
  | succ i=>simp [nth] at hi
 ·intro i e j c hi hj
  cases i with
  | zero =>
   simp [nth] at hi; subst hi
   have:=(zo.cell j c hj).1
   cases c <;> first | rfl | (cases this; done)
  | succ i=>simp [nth] at hi
 ·intro i e j c hi hj
  cases i with
  | zero =>
   simp [nth] at hi; subst hi
   obtain ⟨_,rv,k1,k2,k3,k4⟩:=zo.cell j c hj
   exact ⟨rv,by rw [Nat.zero_mul,Nat.zero_add]; exact k1,.data (k2 g w false),k3 g w,fun _=>V.blockOf_none k4⟩
  | succ i=>simp [nth] at hi
 ·intro g' hl hn
  refine .ptr _ _ _ _ _ (by omega) fun y hy=>?_
  rw [hn] at hy
  obtain rfl:=Option.some.inj (Option.some.inj hy)
  exact ⟨Nat.le_refl _,fun _=>by simp⟩
theorem ZbW {zero:Array Value} {n k:Nat} {v:Value} (hz:0 < zero.size) (h:((Array.range (n * zero.size)).map (zero[· % zero.size]!))[k]? = some v) :
  zero[k % zero.size]? = some v ∧ k < n * zero.size:=by
 rw [Array.getElem?_map] at h
 by_cases hk:k < n * zero.size
 ·rw [Array.getElem?_range,if_pos hk] at h
  have hlt:k % zero.size < zero.size:=Nat.mod_lt _ hz
  have h':=Option.some.inj h
  refine ⟨?_,hk⟩
  rw [Array.getElem?_eq_getElem hlt]
  rw [← h']
  simp [hlt]
 ·rw [Array.getElem?_eq_none (by simp; omega)] at h
  cases h
theorem Zf7 {zero:Array Value} {n i j:Nat} {v:Value} (hi:i < n) (hj:zero[j]? = some v) :
  ((Array.range (n * zero.size)).map (zero[· % zero.size]!))[i * zero.size + j]? = some v:=by
 have hlt:j < zero.size:=(Array.getElem?_eq_some_iff.1 hj).1
 have hk:i * zero.size + j < n * zero.size:=by
  have:(i + 1) * zero.size ≤ n * zero.size:=Nat.mul_le_mul_right _ hi
  rw [Nat.add_mul] at this; omega
 rw [Array.getElem?_map,Array.getElem?_range,if_pos hk]
 have hm:(i * zero.size + j) % zero.size = j:=by rw [Nat.mul_comm,Nat.mul_add_mod,Nat.mod_eq_of_lt hlt]
 simp only [Option.map_some,hm]
 rw [Array.getElem?_eq_getElem hlt] at hj
 simp [hlt,Option.some.inj hj]
theorem ZkR (hC:Ok P C) (hth:C.thaw = false) {t e:TypeId} {x y:Operand} {k k':IntKind} {n:Int} (hk:(C.ty t).known = true) (he:(C.ty t).elem = some e) (hke:(C.ty e).known = true)
  (ho:o.op = .makeSlice t x y) (hx:ev E x = some (.int k n)) (hy:ev E y = some (.int k' n)) (h0:0 ≤ n) (hb:n * (C.ty e).bytes ≤ 140737488355328) (hn:n ≤ 4611686018427387904) :
  Zbi P C o E s (.arr s.length 0 0 n.toNat) E (s ++ [some { es:=List.replicate n.toNat (C.ty e).zero,esz:=(C.ty e).size,elem:=e,ver:=0 }]):=by
 have hu:=(hC.ty t hk).elem e he
 have hte:=hC.ty e hke
 obtain ⟨i,z',hi,_⟩:=hte.info
 obtain ⟨z,hz,zo,hsz,hby⟩:=hte.zero hi
 have hpos:=hte.pos
 refine Zbi.fresh (by simp [V.still]) fun g a w hs=>?_
 have e1:=(hs.ev hx).1.int_inv
 have e2:=(hs.ev hy).1.int_inv
 have hw:IntKind.i64.wrap n = n:=by
  unfold IntKind.wrap
  have:IntKind.i64.bits = 64:=rfl
  simp only [this,IntKind.signed]
  have h1:n % (2:Int) ^ 64 = n:=by
   apply Int.emod_eq_of_lt h0
   omega
  simp only [h1]
  rw [if_neg (by simp; omega)]
 have hmul:(n.toNat:Int) = n:=Int.toNat_of_nonneg h0
 refine ⟨.slice (some ⟨w.heap.size,0,none⟩) n.toNat n.toNat,(Array.range (n.toNat * z.cells.size)).map (z.cells[· % z.cells.size]!),n.toNat,?_,hke,by simp [zo.size],by unfold maxLen; omega,by simp,?_,?_,?_,?_,?_⟩
 ·have hbb:¬ ((281474976710656:Int) < (i.bytes:Int) * n):=by
   rw [hby,Int.mul_comm]
   omega
  have h00:¬ (n < 0):=by omega
  simp only [execOp,ho,e1,e2]
  refine ZbJ ?_
  by_cases hz0:n.toNat * (C.ty e).size = 0
  ·have hn0:n.toNat = 0:=by
    rcases Nat.mul_eq_zero.1 hz0 with h | h
    ·exact h
    ·omega
   simp [Instr.makeSlice,Zag hu,Go.asInt,asIntOf,typeInfo,hi,hw,hbb,h00,sizeOf,hsz,hz0,hn0,newRow,Cfg.fz,hth]
   have h0':∀ f:Nat → Value,(Array.range 0).map f = #[]:=fun f=>by apply Array.ext'; simp
   rw [h0',h0']
  ·simp [Instr.makeSlice,Zag hu,Go.asInt,asIntOf,typeInfo,hi,hw,hbb,h00,sizeOf,hsz,hz0,newRow,zeroValue,hz,zo.size,Cfg.fz,hth]
 ·intro i' el hi'
  obtain ⟨rfl,_⟩:=ZaU hi'
  exact zo.len
 ·intro i' el j c hi' hj
  obtain ⟨rfl,_⟩:=ZaU hi'
  have:=(zo.cell j c hj).1
  cases c <;> first | rfl | (cases this; done)
 ·intro k v hv
  obtain ⟨h1,_⟩:=ZbW (by rw [zo.size]; exact hpos) hv
  exact zo.one _ v h1
 ·intro i' el j c hi' hj
  obtain ⟨rfl,hlt⟩:=ZaU hi'
  obtain ⟨_,rv,k1,k2,k3,k4⟩:=zo.cell j c hj
  exact ⟨rv,by rw [← zo.size]; exact Zf7 hlt k1,.data (k2 g w false),k3 g w,fun _=>V.blockOf_none k4⟩
 ·intro g' hl hnn
  refine .arr _ _ _ _ _ _ (Nat.le_refl _) (by omega) fun y hy=>?_
  rw [hnn] at hy
  obtain rfl:=Option.some.inj (Option.some.inj hy)
  refine ⟨Nat.le_refl _,fun _=>⟨.inr (by simp),?_⟩⟩
  simp [zo.size]
end
end Go.VM
