/- Operations that hand a list over, and those that lay new memory. -/
import Derived.Test.YtkchbabkbpcncaaVmE
import Derived.Laws.MakeOwn
set_option linter.unusedSimpArgs false
set_option linter.unusedVariables false
namespace Go.VM
open Go.RowKit
section
variable {P:Program} {C:Cfg} {o:Oper} {E:List V} {s:S}
theorem OwnOk.nil {C:Cfg} {g:G} {w:World} {e:TypeId} (hk:(C.ty e).known = true):OwnOk C g w (.list (C.ty e).size [] (.own e)) (.slice none 0 0) :=
 ⟨fun sz es e' h=>by
  injection h with h1 h2 h3
  injection h3 with h3
  subst h1 h2 h3
  exact ⟨hk,⟨[],World.ownsRow_nil w g.base e (C.ty e).size⟩,fun b hb=>by simp [Value.ownBlock] at hb,rfl⟩,by simp,by simp⟩
theorem Sim.evt {g:G} {a:Act} {w:World} (hs:Sim C g E s a w) {t:TypeId} {x:Operand} {v:V} (hv:VM.evt C t E x = some v) :
  VR g w v (a.eval x) ∧ OwnOk C g w v (a.eval x) ∧ ((∃ t',x = .tmp t' ∧ nth E t' = some v) ∨ (a.eval x).ownBlock = none ∨ v.still):=by
 unfold VM.evt at hv
 split at hv
 ·split at hv <;> first | (cases hv; done) | skip
  rename_i e he
  obtain ⟨hk,hv2⟩:=Zaa hv
  clear hv
  obtain rfl:=Option.some.inj hv2
  have hk':(C.ty t).known = true ∧ (C.ty e).known = true:=by simpa using hk
  exact ⟨.data (DR.nil _ _ (by simp)),OwnOk.nil hk'.2,.inr (.inl rfl)⟩
 ·obtain ⟨h1,h2⟩:=hs.ev hv
  refine ⟨h1,h2,?_⟩
  cases x with
  | tmp t'=>exact .inl ⟨t',rfl,hv⟩
  | func f=>simp only [VM.ev] at hv; obtain rfl:=Option.some.inj hv; exact .inr (.inr (by simp [V.still]))
  | global n=>cases hv
  | const c =>
   refine .inr (.inr ?_)
   simp only [VM.ev,Zq3] at hv
   split at hv <;> first | (cases hv; done) | skip
   all_goals (obtain rfl:=Option.some.inj hv; simp [V.still])
theorem ZfI {g:G} {a:Act} {w:World} {t:Nat} {p:Loc} {b:Nat} (h:Zan (Zb4 E (.tmp t)) s a w g p b):Zan E s a w g p b ∧ p ≠ .slot t:=by
 simp only [Zb4] at h
 cases hv:nth E t with
 | none =>
  rw [hv] at h
  refine ⟨h,fun hp=>?_⟩
  subst hp
  obtain ⟨c,rv,h1,_⟩:=h
  rw [hv] at h1; cases h1
 | some v =>
  rw [hv] at h
  cases p with
  | cell o i j=>exact ⟨h,by simp⟩
  | slot t' =>
   obtain ⟨c,rv,h1,h0,h2,h3⟩:=h
   by_cases ht:t = t'
   ·subst ht
    obtain rfl:=Zar h1
    exact absurd h0 (ZaA v).owns
   ·rw [Zaj ht] at h1
    exact ⟨⟨c,rv,h1,h0,h2,h3⟩,fun hc=>ht (by injection hc with hc; exact hc.symm)⟩
theorem Sim.hand {g:G} {a:Act} {w:World} (hs:Sim C g E s a w) {t:TypeId} {x:Operand} {v:V} (hv:VM.evt C t E x = some v) (d:Option Tmp) :
  Sim C g (Zcy (Zb4 E x) d v) s (a.put d (a.eval x)) w:=by
 obtain ⟨h1,h2,h3⟩:=hs.evt hv
 refine (hs.strip x).put d h1 h2 fun b he hb p hp ho=>?_
 rcases h3 with ⟨t',rfl,hn⟩ | h3 | h3
 ·obtain ⟨h4,h5⟩:=ZfI ho
  obtain ⟨rv,r1,_,_⟩:=hs.env t' v hn
  have hev:a.eval (.tmp t') = rv:=by simp [Act.eval,r1]
  rw [hev] at hb
  exact h5 (hs.own p (.slot t') b h4 ⟨v,rv,hn,he,r1,hb⟩)
 ·have hb:=V.blockOf_own hb; rw [h3] at hb; cases hb
 ·exact h3.owns he
theorem Zqu {x:Operand} {t:TypeId} {v:V} (ho:o.op = .move x ∨ o.op = .assign x) (hv:evt C t E x = some v):Zbi P C o E s v (Zb4 E x) s:=by
 refine ⟨Nat.le_refl _,fun g a w keep hk hs next Q hnext=>?_⟩
 unfold Oper.wp
 have:(execOp a.eval o).run P w = .ok (.value (a.eval x)) w:=by
  rcases ho with ho | ho <;> simp [execOp,ho]
 rw [this]
 exact hnext g _ w (Le.refl (by rw [hs.olen]; exact hk)) (hs.hand hv o.dst)
theorem ZqP {x:Operand} {t:TypeId} {v:V} (ho:o.op = .move x) (hv:evt C t E x = some v):Zbi P C o E s v.noOwn E s :=
 Zbi.calm (ZaA v) fun g a w hs=>⟨_,by simp [execOp,ho],(hs.evt hv).1.noOwn⟩
theorem Sim.low {g:G} {a:Act} {w:World} (hs:Sim C g E s a w):True:=trivial
def G.add (g:G) (x:OX):G:={ g with obs:=g.obs ++ [some x] }
theorem Zal {α:Type} {l m:List α} {n:Nat} (h:n < l.length):nth (l ++ m) n = nth l n:=by
 rw [Zad,Zad,List.getElem?_append_left h]
theorem Zaz {α:Type} {l:List α} {a:α}:nth (l ++ [a]) l.length = some a:=by
 rw [Zad]; simp
theorem Zax {α:Type} {l:List α} {a b:α} {n:Nat} (h:nth (l ++ [a]) n = some b):(n < l.length ∧ nth l n = some b) ∨ (n = l.length ∧ b = a):=by
 by_cases hn:n < l.length
 ·rw [Zal hn] at h; exact .inl ⟨hn,h⟩
 ·have:=Zau h
  simp at this
  obtain rfl:n = l.length:=by omega
  rw [Zaz] at h
  exact .inr ⟨rfl,(Option.some.inj h).symm⟩
theorem ObsLe.add (g:G) (x:OX):ObsLe g (g.add x) :=
 ⟨by simp [G.add],fun o ho x' hx=>by
  simp only [G.add,Zal ho] at hx
  exact ⟨x',hx,Nat.le_refl _,fun _=>rfl⟩⟩
theorem Keeps.add (g:G) (w:World) (x:OX) {w':World} (h:∀ b i,g.imm b i → w'.cell? ⟨b,i,none⟩ = w.cell? ⟨b,i,none⟩):Keeps g w (g.add x) w' :=
 ⟨fun _ _ h=>h,fun _ _ h=>h,h⟩
theorem ZcJ (w:World) (ob:Obj) {b:Nat} (h:b < w.heap.size):(w.alloc ob).heap[b]? = w.heap[b]?:=Below.heap_alloc w ob b h
theorem Zb5 (w:World) (ob:Obj):(w.alloc ob).heap[w.heap.size]? = some ob:=by
 show (w.heap.push ob)[w.heap.size]? = _
 simp
theorem Sim.newOb {g:G} {a:Act} {w:World} (hs:Sim C g E s a w) (t:TypeId) (es:List V) (arr:Array Value) (cap:Nat) (hk:(C.ty t).known = true)
  (hcap:arr.size = cap * (C.ty t).size) (hm:cap ≤ maxLen) (hl:es.length ≤ cap) (hsz:∀ i e,nth es i = some e → e.cells.length = (C.ty t).size)
  (hflat:∀ i e j c,nth es i = some e → nth e.cells j = some c → c.flatCell = true) (hone:∀ (k:Nat) (v:Value),arr[k]? = some v → v.oneCell' = true)
  (hc:∀ i e j c,nth es i = some e → nth e.cells j = some c → ∃ rv,arr[i * (C.ty t).size + j]? = some rv ∧ VR g w c rv ∧ OwnOk C g w c rv ∧ (c.owns → c.blockOf rv = none)) :
  let w':=w.alloc (.cells arr t (C.fz 0 arr.size))
  Sim C (g.add (0,w.heap.size,(C.ty t).size,arr.size,0)) E (s ++ [some { es:=es,esz:=(C.ty t).size,elem:=t,ver:=0 }]) a w' ∧
   ∀ keep,keep ≤ s.length → Le keep g w (g.add (0,w.heap.size,(C.ty t).size,arr.size,0)) w':=by
 intro w'
 have hlow:∀ b,b < w.heap.size → w'.heap[b]? = w.heap[b]?:=fun b hb=>ZcJ w _ hb
 have hext:Sim C g E s a w':=hs.ext (by simp [w']) hlow
 have hkeep:Keeps g w (g.add (0,w.heap.size,(C.ty t).size,arr.size,0)) w':=Keeps.add g w _ fun b i hi=>Za2 (hlow b (hs.immlt b i hi)) i
 have own2:∀ v rv,OwnOk C g w v rv → OwnOk C (g.add (0,w.heap.size,(C.ty t).size,arr.size,0)) w' v rv:=by
  intro v rv h
  refine h.side rfl fun ho b hb=>⟨hlow b (h.row ho hb).1,fun h=>h,fun _ h=>h,fun o x hx hp hxb=>?_⟩
  rcases Zax hx with ⟨_,hx⟩ | ⟨_,hx⟩
  ·exact ⟨o,hx⟩
  ·obtain rfl:=Option.some.inj hx
   have:=(h.row ho hb).1
   simp only at hxb; omega
 have ownsAt:∀ p b,Zan E (s ++ [some { es:=es,esz:=(C.ty t).size,elem:=t,ver:=0 }]) a w' (g.add (0,w.heap.size,(C.ty t).size,arr.size,0)) p b → Zan E s a w g p b:=by
  intro p b hp
  cases p with
  | slot t=>exact hp
  | cell o i j =>
   obtain ⟨ob,x,el,c,rv,h1,h2,h3,h4,h0,h5,h6⟩:=hp
   rcases Zax h1 with ⟨hlt,h1'⟩ | ⟨rfl,h1'⟩
   ·have h2':nth g.obs o = some (some x):=by
     simp only [G.add,Zal (by rw [hs.olen]; exact hlt:o < g.obs.length)] at h2; exact h2
    obtain ⟨y,hy,hr⟩:=hs.obj o ob h1'
    have hyx:y = x:=Option.some.inj (Option.some.inj (hy.symm.trans h2'))
    subst hyx
    obtain ⟨arr',cap',b1,_⟩:=hr.blk
    exact ⟨ob,y,el,c,rv,h1',h2',h3,h4,h0,by rw [← Za2 (hlow _ (ZaO (b1 (hr.real h3 h4))))]; exact h5,h6⟩
   ·obtain rfl:=Option.some.inj h1'
    have hx:x = (0,w.heap.size,(C.ty t).size,arr.size,0):=by
     have:=h2
     simp only [G.add] at this
     rw [← hs.olen,Zaz] at this
     exact (Option.some.inj (Option.some.inj this)).symm
    subst hx
    obtain ⟨rv',r1,_,_,r4⟩:=hc i el j _ h3 h4
    have:w'.cell? ⟨w.heap.size,(0 + i) * (C.ty t).size + j,none⟩ = some rv':=by
     simp only [World.cell?,w',Zb5,Option.isSome_none,Bool.false_eq_true,if_false,Nat.zero_add]
     exact r1
    have hrv:rv = rv':=by
     have h5':w'.cell? ⟨w.heap.size,(0 + i) * (C.ty t).size + j,none⟩ = some rv:=h5
     rw [this] at h5'; exact (Option.some.inj h5').symm
    subst hrv
    rw [r4 h0] at h6; cases h6
 refine ⟨{
   len:=hs.len
   env:=fun t' v hv=>by
    obtain ⟨rv,h1,h2,h3⟩:=hs.env t' v hv
    exact ⟨rv,h1,h2.keeps hs.sub hkeep (ObsLe.add g _),own2 v rv h3⟩
   olen:=by simp [G.add,hs.olen]
   obj:=fun o ob ho=>by
    rcases Zax ho with ⟨hlt,ho'⟩ | ⟨rfl,ho'⟩
    ·obtain ⟨x,hx,hr⟩:=hs.obj o ob ho'
     obtain ⟨arr',cap',b1,b2,b3,b4,b5,b7,b6⟩:=hr.blk
     refine ⟨x,by simp only [G.add]; rw [Zal (by rw [hs.olen]; exact hlt)]; exact hx,hr.ver,hr.esz,hr.ty,hr.known,
      ⟨arr',cap',fun hp=>by rw [hlow _ (ZaO (b1 hp))]; exact b1 hp,b2,b3,b4,b5,b7,fun i e j c h1 h2=>?_⟩,hr.sz,hr.flat,hr.base,hr.nsusp,hr.nimm⟩
     obtain ⟨rv,r1,r2,r3⟩:=b6 i e j c h1 h2
     exact ⟨rv,r1,r2.keeps hs.sub hkeep (ObsLe.add g _),own2 c rv r3⟩
    ·obtain rfl:=Option.some.inj ho'
     refine ⟨(0,w.heap.size,(C.ty t).size,arr.size,0),by simp only [G.add]; rw [← hs.olen,Zaz],rfl,rfl,rfl,hk,
      ⟨arr,cap,fun _=>Zb5 w _,rfl,by show arr.size = (0 + cap) * (C.ty t).size; rw [Nat.zero_add]; exact hcap,hm,hl,hone,fun i e j c h1 h2=>?_⟩,hsz,hflat,fun _=>hs.basele,fun _ hb=>Nat.lt_irrefl _ (hs.susplt _ hb),fun _ i hi=>Nat.lt_irrefl _ (hs.immlt _ i hi)⟩
     obtain ⟨rv,r1,r2,r3,_⟩:=hc i e j c h1 h2
     exact ⟨rv,by show arr[(0 + i) * (C.ty t).size + j]? = some rv; rw [Nat.zero_add]; exact r1,r2.keeps hs.sub hkeep (ObsLe.add g _),own2 c rv r3⟩
   gone:=fun o x hx=>by
    rcases Zax hx with ⟨hlt,hx'⟩ | ⟨rfl,hx'⟩
    ·obtain ⟨ob,hob⟩:=hs.gone o x hx'
     exact ⟨ob,by rw [Zal (by rw [← hs.olen]; exact hlt)]; exact hob⟩
    ·exact ⟨_,by rw [hs.olen,Zaz]⟩
   inj:=fun o o' x x' hx hx' hp hp' hb=>by
    have blt:∀ o x,nth g.obs o = some (some x) → 0 < x.2.2.2.1 → x.2.1 < w.heap.size:=by
     intro o x hx hp
     obtain ⟨ob,hob⟩:=hs.gone o x hx
     obtain ⟨y,hy,hr⟩:=hs.obj o ob hob
     have hyx:y = x:=Option.some.inj (Option.some.inj (hy.symm.trans hx))
     subst hyx
     obtain ⟨arr',cap',b1,_⟩:=hr.blk
     exact ZaO (b1 hp)
    rcases Zax hx with ⟨hlt,k1⟩ | ⟨rfl,k1⟩ <;> rcases Zax hx' with ⟨hlt',k2⟩ | ⟨rfl,k2⟩
    ·exact hs.inj o o' x x' k1 k2 hp hp' hb
    ·obtain rfl:=Option.some.inj k2
     have:=blt o x k1 hp
     simp only at hb; omega
    ·obtain rfl:=Option.some.inj k1
     have:=blt o' x' k2 hp'
     simp only at hb; omega
    ·rfl
   own:=fun p q b hp hq=>hs.own p q b (ownsAt p b hp) (ownsAt q b hq)
   sub:=hs.sub
   immlt:=fun b i hi=>Nat.lt_of_lt_of_le (hs.immlt b i hi) (by simp [w'])
   basele:=Nat.le_trans hs.basele (by simp [w'])
   susplt:=fun b hb=>Nat.lt_of_lt_of_le (hs.susplt b hb) (by simp [w']) },fun keep hkp=>{
   keeps:=hkeep
   size:=by simp [w']
   os:=rfl
   tape:=rfl
   output:=rfl
   base:=rfl
   susp:=fun _=>Iff.rfl
   low:=fun b hb=>hlow b (Nat.lt_of_lt_of_le hb hs.basele)
   sus:=fun b hb=>⟨hlow b (hs.susplt b hb),fun i hi=>hi,fun i hi=>hi⟩
   klen:=by simp [G.add,hs.olen]; omega
   obs:=fun o ho x' hx=>by
    simp only [G.add,Zal (by rw [hs.olen]; omega:o < g.obs.length)] at hx
    exact ⟨x',hx,Nat.le_refl _,fun _=>rfl⟩ }⟩
end
end Go.VM
