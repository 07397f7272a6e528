/- Blocks that are laid in any order become objects in the order of the text. -/
import Derived.Test.YtkchbabkbpcncaaVmRc
set_option linter.unusedSimpArgs false
set_option linter.unusedVariables false
namespace Go.VM
open Go.RowKit Go.Lib
section
variable {P:Program} {C:Cfg} {o:Oper} {E:List V} {s:S} {R:Type}
def ZnJ (C:Cfg) (ob:Ob) (a:Act) (arr:Array Value):Option Nat → Prop
 | none=>∀ i e j c,nth ob.es i = some e → nth e.cells j = some c → ∃ rv,arr[i * (C.ty ob.elem).size + j]? = some rv ∧ (∀ g w,VR g w c rv) ∧ (∀ g w,OwnOk C g w c rv) ∧ rv.ownBlock = none
 | some x=>∃ rv,a.tmps[x]? = some rv ∧ ∀ (j:Nat) (v:Value),rv.cells[j]? = some v → arr[j]? = some v
structure Zhf (C:Cfg) (g:G) (a:Act) (w:World) (d:Nat) (ob:Ob) (v:V) (b:Nat) (pl:Option Nat):Prop where
 susp:g.susp b
 low:g.base ≤ b
 lt:b < w.heap.size
 nimm:∀ i,¬ g.imm b i
 still:v.still
 ver:ob.ver = 0
 esz:ob.esz = (C.ty ob.elem).size
 known:(C.ty ob.elem).known = true
 sz:∀ i e,nth ob.es i = some e → e.cells.length = (C.ty ob.elem).size
 flat:∀ i e j c,nth ob.es i = some e → nth e.cells j = some c → c.flatCell = true
 blk:∃ rv arr cap,w.heap[b]? = some (.cells arr ob.elem (C.fz ob.ver arr.size)) ∧ arr.size = cap * (C.ty ob.elem).size ∧ cap ≤ maxLen ∧ ob.es.length ≤ cap ∧ (∀ (k:Nat) (v:Value),arr[k]? = some v → v.oneCell' = true) ∧
   ZnJ C ob a arr pl ∧
   (d < a.tmps.size → a.tmps[d]? = some rv) ∧ ∀ g' w1 N,N < g'.obs.length → nth g'.obs N = some (some (0,b,(C.ty ob.elem).size,arr.size,0)) → VR g' w1 (Zh4 N v) rv
theorem ZmP {v:V} (n:Nat) (h:v.still):(Zh4 n v).still:=by
 cases v <;> first | exact h | simp [Zh4,V.still]
theorem ZnJ.put {ob:Ob} {a:Act} {arr:Array Value} {pl:Option Nat} (h:ZnJ C ob a arr pl) {d':Option Tmp} (rv':Value) (hx:∀ x,pl = some x → d' ≠ some x):ZnJ C ob (a.put d' rv') arr pl:=by
 cases pl with
 | none=>exact h
 | some x =>
  obtain ⟨rv,h1,h2⟩:=h
  refine ⟨rv,?_,h2⟩
  cases d' with
  | none=>exact h1
  | some d'=>rw [ZcB (fun e=>hx x rfl (by rw [e]))]; exact h1
theorem Zhf.step {g g':G} {a:Act} {w w':World} {d b keep:Nat} {ob:Ob} {v:V} {pl:Option Nat} (h:Zhf C g a w d ob v b pl) (hle:Le keep g w g' w') {d':Option Tmp} (rv':Value) (hd:d' ≠ some d) (hx:∀ x,pl = some x → d' ≠ some x):Zhf C g' (a.put d' rv') w' d ob v b pl where
 susp:=(hle.susp b).2 h.susp
 low:=by rw [hle.base]; exact h.low
 lt:=Nat.lt_of_lt_of_le h.lt hle.size
 nimm:=fun i hi=>h.nimm i ((hle.sus b h.susp).2.1 i hi)
 still:=h.still
 ver:=h.ver
 esz:=h.esz
 known:=h.known
 sz:=h.sz
 flat:=h.flat
 blk:=by
  obtain ⟨rv,arr,cap,h1,h2,h3,h4,h5,h6,h7,h8⟩:=h.blk
  refine ⟨rv,arr,cap,by rw [(hle.sus b h.susp).1]; exact h1,h2,h3,h4,h5,h6.put rv' hx,fun hlt=>?_,h8⟩
  rw [Zdi] at hlt
  cases d' with
  | none=>exact h7 hlt
  | some d'=>rw [ZcB (fun e=>hd (by rw [e]))]; exact h7 hlt
theorem Zhf.with {g g':G} {a:Act} {w:World} {d b:Nat} {ob:Ob} {v:V} {pl:Option Nat} (h:Zhf C g a w d ob v b pl) (hs:g'.susp b) (hb:g'.base = g.base) (hi:g'.imm = g.imm):Zhf C g' a w d ob v b pl :=
 { h with susp:=hs,low:=by rw [hb]; exact h.low,nimm:=by rw [hi]; exact h.nimm }
theorem Zhf.other {g:G} {a:Act} {w w':World} {d b:Nat} {ob:Ob} {v:V} {pl:Option Nat} (h:Zhf C g a w d ob v b pl) (hsz:w.heap.size ≤ w'.heap.size) (hb:w'.heap[b]? = w.heap[b]?):Zhf C g a w' d ob v b pl :=
 { h with
  lt:=Nat.lt_of_lt_of_le h.lt hsz
  blk:=by
   obtain ⟨rv,arr,cap,h1,h2⟩:=h.blk
   exact ⟨rv,arr,cap,by rw [hb]; exact h1,h2⟩ }
structure HeldAt (C:Cfg) (g:G) (a:Act) (w:World) (d:Nat) (ob:Ob) (v:V) (b:Nat):Prop where
 susp:g.susp b
 low:g.base ≤ b
 lt:b < w.heap.size
 nimm:∀ i,¬ g.imm b i
 still:v.still
 ver:ob.ver = 0
 esz:ob.esz = (C.ty ob.elem).size
 known:(C.ty ob.elem).known = true
 sz:∀ i e,nth ob.es i = some e → e.cells.length = (C.ty ob.elem).size
 flat:∀ i e j c,nth ob.es i = some e → nth e.cells j = some c → c.flatCell = true
 blk:∃ rv arr cap,w.heap[b]? = some (.cells arr ob.elem (C.fz ob.ver arr.size)) ∧ arr.size = cap * (C.ty ob.elem).size ∧ cap ≤ maxLen ∧ ob.es.length ≤ cap ∧ (∀ (k:Nat) (v:Value),arr[k]? = some v → v.oneCell' = true) ∧
   (∀ i e j c,nth ob.es i = some e → nth e.cells j = some c → ∃ rv,arr[i * (C.ty ob.elem).size + j]? = some rv ∧ VR g w c rv ∧ OwnOk C g w c rv ∧ (c.owns → c.blockOf rv = none)) ∧
   (d < a.tmps.size → a.tmps[d]? = some rv) ∧ ∀ g' w1 N,N < g'.obs.length → nth g'.obs N = some (some (0,b,(C.ty ob.elem).size,arr.size,0)) → VR g' w1 (Zh4 N v) rv
def Zwn (C:Cfg) (g:G) (E:List V) (a:Act) (w:World) (pu:ZrV) (d:Nat) (ob:Ob) (v:V) (b:Nat):Prop :=
 (Zh3 ob d pu = ob ∧ Zhf C g a w d ob v b none) ∨
 ∃ d' x u,Zhf C g a w d ob v b (some x) ∧ (d',x,u.noOwn) ∈ pu ∧ Zh3 ob d pu = { ob with es:=[u.noOwn] } ∧ nth E x = some u ∧ u.noOwn.cells.length = (C.ty ob.elem).size ∧ u.noOwn.flat = true ∧ ob.es.length = 1
theorem OwnOk.noOwn {g:G} {w:World} {v:V} {rv:Value}:OwnOk C g w v.noOwn rv:=OwnOk.of_not (ZaA v)
theorem Zwn.now {g:G} {a:Act} {w:World} {pu:ZrV} {d b:Nat} {ob:Ob} {v:V} (h:Zwn C g E a w pu d ob v b) (hs:Sim C g E s a w):HeldAt C g a w d (Zh3 ob d pu) v b:=by
 rcases h with ⟨h1,h⟩ | ⟨d',x,u,h,_,h1,h2,h3,h4,h5⟩
 ·rw [h1]
  obtain ⟨rv,arr,cap,k1,k2,k3,k4,k5,k6,k7⟩:=h.blk
  exact ⟨h.susp,h.low,h.lt,h.nimm,h.still,h.ver,h.esz,h.known,h.sz,h.flat,rv,arr,cap,k1,k2,k3,k4,k5,fun i e j c q1 q2=>by
   obtain ⟨r,r1,r2,r3,r4⟩:=k6 i e j c q1 q2
   exact ⟨r,r1,r2 g w,r3 g w,fun _=>V.blockOf_none r4⟩,k7⟩
 ·rw [h1]
  obtain ⟨rv,arr,cap,k1,k2,k3,k4,k5,⟨ru,k6,k8⟩,k7⟩:=h.blk
  obtain ⟨ru',q1,q2,_⟩:=hs.env x u h2
  obtain rfl:=Option.some.inj (k6.symm.trans q1)
  obtain ⟨vs,c1,c2,c3,c4,c5⟩:=Zhb q2.noOwn (OwnOk.noOwn (C:=C)) h4
  have one:∀ i e,nth [u.noOwn] i = some e → i = 0 ∧ e = u.noOwn:=fun i e hi=>by
   cases i with
   | zero=>simp [nth] at hi; exact ⟨rfl,hi.symm⟩
   | succ i=>simp [nth] at hi
  refine ⟨h.susp,h.low,h.lt,h.nimm,h.still,h.ver,h.esz,h.known,fun i e hi=>?_,fun i e j c hi hj=>?_,rv,arr,cap,k1,k2,k3,by simp; omega,k5,fun i e j c hi hj=>?_,k7⟩
  ·obtain ⟨_,rfl⟩:=one i e hi; exact h3
  ·obtain ⟨_,rfl⟩:=one i e hi; exact (c4 j c hj).1
  ·obtain ⟨rfl,rfl⟩:=one i e hi
   obtain ⟨_,r,r1,r2,r3⟩:=c4 j c hj
   refine ⟨r,?_,r2,r3,fun h0=>?_⟩
   ·rw [Nat.zero_mul,Nat.zero_add]
    apply k8
    rw [c1]
    rw [Zad] at r1
    simpa using r1
   ·cases hb:c.blockOf r with
    | none=>rfl
    | some b' =>
     obtain ⟨_,h6,_⟩:=c5 j c r b' hj h0 r1 hb
     rw [← h6] at h0
     exact absurd h0 (ZaA u).owns
theorem Sim.adopt {g:G} {a:Act} {w:World} (hs:Sim C g E s a w) {d b:Nat} {ob:Ob} {v:V} (hh:HeldAt C g a w d ob v b) :
  ∃ x,Sim C { g with obs:=g.obs ++ [some x],susp:=fun b'=>g.susp b' ∧ b' ≠ b } (Zai E d (Zh4 s.length v)) (s ++ [some ob]) a w:=by
 obtain ⟨rv,arr,cap,hb,hcap,hm,hl,hone,hc,hd,hvr⟩:=hh.blk
 let x:OX:=(0,b,(C.ty ob.elem).size,arr.size,0)
 let g':G:={ g with obs:=g.obs ++ [some x],susp:=fun b'=>g.susp b' ∧ b' ≠ b }
 have hkeep:Keeps g w g' w:=⟨fun _ _ h=>h,fun _ _ h=>h,fun _ _ _=>rfl⟩
 have hol:ObsLe g g':=⟨by simp [g'],fun o ho x' hx=>by
  simp only [g',Zal ho] at hx
  exact ⟨x',hx,Nat.le_refl _,fun _=>rfl⟩⟩
 have own2:∀ v rv,OwnOk C g w v rv → OwnOk C g' w v rv:=by
  intro v rv h
  refine h.side rfl fun h0 b' hb'=>⟨rfl,fun h=>h.1,fun _ h=>h,fun o x' hx hp hxb=>?_⟩
  rcases Zax hx with ⟨_,hx⟩ | ⟨_,hx⟩
  ·exact ⟨o,hx⟩
  ·obtain rfl:=Option.some.inj hx
   have e':b = b':=hxb
   exact absurd (by rw [← e']; exact hh.susp) (h.row h0 hb').2.2.1
 have ownsAt:∀ p b',Zan E (s ++ [some ob]) a w g' p b' → Zan E s a w g p b':=by
  intro p b' hp
  cases p with
  | slot t=>exact hp
  | cell o i j =>
   obtain ⟨ob',x',el,c,rv',h1,h2,h3,h4,h0,h5,h6⟩:=hp
   rcases Zax h1 with ⟨hlt,h1'⟩ | ⟨rfl,h1'⟩
   ·have h2':nth g.obs o = some (some x'):=by
     simp only [g',Zal (by rw [hs.olen]; exact hlt:o < g.obs.length)] at h2; exact h2
    exact ⟨ob',x',el,c,rv',h1',h2',h3,h4,h0,h5,h6⟩
   ·obtain rfl:=Option.some.inj h1'
    have hx:x' = x:=by
     have:=h2
     simp only [g'] at this
     rw [← hs.olen,Zaz] at this
     exact (Option.some.inj (Option.some.inj this)).symm
    subst hx
    obtain ⟨rv2,r1,_,_,r4⟩:=hc i el j _ h3 h4
    have h7:w.cell? ⟨b,i * (C.ty ob'.elem).size + j,none⟩ = some rv2:=by
     simp only [World.cell?,hb,Option.isSome_none,Bool.false_eq_true,if_false]
     exact r1
    have h5':w.cell? ⟨b,i * (C.ty ob'.elem).size + j,none⟩ = some rv':=by rw [← hh.esz]; have:=h5; simp only [x,Nat.zero_add] at this; exact this
    rw [h7] at h5'
    obtain rfl:=Option.some.inj h5'
    rw [r4 h0] at h6; cases h6
 have hsim:Sim C g' E (s ++ [some ob]) a w:={
   len:=hs.len
   env:=fun t' v hv=>by
    obtain ⟨rv,h1,h2,h3⟩:=hs.env t' v hv
    exact ⟨rv,h1,h2.keeps hs.sub hkeep hol,own2 v rv h3⟩
   olen:=by simp [g',hs.olen]
   obj:=fun o ob' ho=>by
    rcases Zax ho with ⟨hlt,ho'⟩ | ⟨rfl,ho'⟩
    ·obtain ⟨x',hx,hr⟩:=hs.obj o ob' ho'
     obtain ⟨arr',cap',b1,b2,b3,b4,b5,b7,b6⟩:=hr.blk
     refine ⟨x',by simp only [g']; rw [Zal (by rw [hs.olen]; exact hlt)]; exact hx,hr.ver,hr.esz,hr.ty,hr.known,
      ⟨arr',cap',b1,b2,b3,b4,b5,b7,fun i e j c h1 h2=>?_⟩,hr.sz,hr.flat,hr.base,fun hp hc=>hr.nsusp hp hc.1,hr.nimm⟩
     obtain ⟨rv,r1,r2,r3⟩:=b6 i e j c h1 h2
     exact ⟨rv,r1,r2.keeps hs.sub hkeep hol,own2 c rv r3⟩
    ·obtain rfl:=Option.some.inj ho'
     refine ⟨x,by simp only [g']; rw [← hs.olen,Zaz],hh.ver.symm,hh.esz.symm,hh.esz,hh.known,
      ⟨arr,cap,fun _=>hb,rfl,by rw [hh.esz]; show arr.size = (0 + cap) * _; rw [Nat.zero_add]; exact hcap,hm,hl,hone,fun i e j c h1 h2=>?_⟩,fun i e hi=>by rw [hh.esz]; exact hh.sz i e hi,hh.flat,fun _=>hh.low,fun _ hb=>hb.2 rfl,fun _=>hh.nimm⟩
     obtain ⟨rv,r1,r2,r3,_⟩:=hc i e j c h1 h2
     exact ⟨rv,by rw [hh.esz]; show arr[(0 + i) * _ + j]? = some rv; rw [Nat.zero_add]; exact r1,r2.keeps hs.sub hkeep hol,own2 c rv r3⟩
   gone:=fun o x' hx=>by
    rcases Zax hx with ⟨hlt,hx'⟩ | ⟨rfl,hx'⟩
    ·obtain ⟨ob',hob⟩:=hs.gone o x' hx'
     exact ⟨ob',by rw [Zal (by rw [← hs.olen]; exact hlt)]; exact hob⟩
    ·exact ⟨_,by rw [hs.olen,Zaz]⟩
   inj:=fun o o' x1 x2 hx hx' hp1 hp2 hbb=>by
    have nsus:∀ o x',nth g.obs o = some (some x') → 0 < x'.2.2.2.1 → x'.2.1 ≠ b:=by
     intro o x' hx hp e
     obtain ⟨ob',hob⟩:=hs.gone o x' hx
     exact (hs.at_obj hob hx).nsusp hp (by rw [e]; exact hh.susp)
    rcases Zax hx with ⟨hlt,k1⟩ | ⟨rfl,k1⟩ <;> rcases Zax hx' with ⟨hlt',k2⟩ | ⟨rfl,k2⟩
    ·exact hs.inj o o' x1 x2 k1 k2 hp1 hp2 hbb
    ·obtain rfl:=Option.some.inj k2
     exact absurd hbb (nsus o x1 k1 hp1)
    ·obtain rfl:=Option.some.inj k1
     exact absurd hbb.symm (nsus o' x2 k2 hp2)
    ·rfl
   own:=fun p q b hp hq=>hs.own p q b (ownsAt p b hp) (ownsAt q b hq)
   sub:=hs.sub
   immlt:=hs.immlt
   basele:=hs.basele
   susplt:=fun b' hb'=>hs.susplt b' hb'.1 }
 refine ⟨x,?_⟩
 show Sim C g' (Zai E d (Zh4 s.length v)) (s ++ [some ob]) a w
 by_cases hlt:d < a.tmps.size
 ·have h1:VR g' w (Zh4 s.length v) rv:=hvr g' w s.length (by simp [g',hs.olen]) (by simp only [g']; rw [← hs.olen,Zaz])
  have:=hsim.put0 (some d) h1 (ZmP _ hh.still)
  have e2:a.put (some d) rv = a:=by
   have h2:a.tmps.setIfInBounds d rv = a.tmps:=by
    apply Array.ext'
    rw [Array.toList_setIfInBounds]
    apply List.ext_getElem?
    intro k
    by_cases hk:d = k
    ·subst hk
     rw [List.getElem?_set_self (by simpa using hlt),Array.getElem?_toList,hd hlt]
    ·rw [List.getElem?_set_ne hk]
   simp [Act.put,h2]
  rw [e2] at this
  exact this
 ·rw [ZaM,List.set_eq_of_length_le (by rw [hs.len]; exact Nat.le_of_not_lt hlt)]
  exact hsim
abbrev ZtX:=List (Nat × Nat × Ob × V)
theorem ZnC {pu:ZrV} {a:Act} {w:World} {H:Nat → Nat}:∀ (ps:ZtX) {E:List V} {s:S} {g:G},Sim C g E s a w → (∀ q ∈ ps,Zwn C g E a w pu q.2.1 q.2.2.1 q.2.2.2 (H q.1)) → (∀ q ∈ ps,∀ p ∈ pu,p.2.1 ≠ q.2.1) → ps.Pairwise (fun p q=>H p.1 ≠ H q.1) →
  s.length ≤ (Zfd (ZpP pu (ps.map (·.2))) s).length ∧ ∃ g' xs,Sim C g' (Zkb (ZpP pu (ps.map (·.2))) E s) (Zfd (ZpP pu (ps.map (·.2))) s) a w ∧ g'.base = g.base ∧ g'.imm = g.imm ∧ g'.safe = g.safe ∧ g'.obs = g.obs ++ xs ∧ ∀ b,g'.susp b ↔ (g.susp b ∧ ∀ q ∈ ps,H q.1 ≠ b)
 | [],E,s,g,hs,_,_,_=>⟨Nat.le_refl _,g,[],hs,rfl,rfl,rfl,by simp,fun b=>by simp⟩
 | (i,d,ob,v) :: ps,E,s,g,hs,hh,hx,hp=>by
  obtain ⟨x,h1⟩:=hs.adopt ((hh (i,d,ob,v) (by simp)).now hs)
  obtain ⟨hp1,hp2⟩:=List.pairwise_cons.1 hp
  obtain ⟨hl,g',xs,k1,k2,k3,k4,k5,k6⟩:=ZnC ps h1 (fun q hq=>by
   have hne:H q.1 ≠ H i:=fun e=>hp1 q hq e.symm
   rcases hh q (by simp [hq]) with ⟨q1,q2⟩ | ⟨d',x',u,q1,q2,q3,q4,q5⟩
   ·exact .inl ⟨q1,q2.with ⟨q2.susp,hne⟩ rfl rfl⟩
   ·refine .inr ⟨d',x',u,q1.with ⟨q1.susp,hne⟩ rfl rfl,q2,q3,?_,q5⟩
    rw [Zaj (fun e=>hx (i,d,ob,v) (by simp) _ q2 e.symm)]
    exact q4) (fun q hq=>hx q (by simp [hq])) hp2
  refine ⟨?_,g',some x :: xs,k1,k2,k3,k4,by rw [k5]; simp,fun b=>?_⟩
  ·simp only [List.map_cons,Zfd,ZpP]
   simp at hl
   omega
  ·rw [k6]
   simp only [List.mem_cons]
   constructor
   ·rintro ⟨⟨h2,h3⟩,h4⟩
    refine ⟨h2,fun q hq=>?_⟩
    rcases hq with rfl | hq
    ·exact fun e=>h3 e.symm
    ·exact h4 q hq
   ·rintro ⟨h2,h3⟩
    exact ⟨⟨h2,fun e=>h3 _ (.inl rfl) e.symm⟩,fun q hq=>h3 q (.inr hq)⟩
theorem Sim.poke_susp {g:G} {a:Act} {w:World} (hs:Sim C g E s a w) {b:Nat} (hb:g.susp b) (hni:∀ i,¬ g.imm b i) (arr2:Array Value):Sim C g E s a (w.setRow b arr2):=by
 have hoth:∀ b',b' ≠ b → (w.setRow b arr2).heap[b']? = w.heap[b']?:=fun b' hb'=>setRow_other w b b' arr2 hb'
 have hsize:(w.setRow b arr2).heap.size = w.heap.size:=setRow_size w b arr2
 have hkeep:Keeps g w g (w.setRow b arr2):=⟨fun _ _ h=>h,fun _ _ h=>h,fun b' i hi=>Za2 (hoth b' fun e=>by subst e; exact hni i hi) i⟩
 have own2:∀ {v rv},OwnOk C g w v rv → OwnOk C g (w.setRow b arr2) v rv:=by
  intro v rv h
  exact h.side rfl fun h0 b' hb'=>⟨hoth b' fun e=>(h.row h0 hb').2.2.1 (by rw [e]; exact hb),fun h=>h,fun _ h=>h,fun o x hx _ _=>⟨o,hx⟩⟩
 have key:∀ p b',Zan E s a (w.setRow b arr2) g p b' → Zan E s a w g p b':=by
  intro p b' hp
  cases p with
  | slot t=>exact hp
  | cell o i j =>
   obtain ⟨ob,x,el,c,rv,h1,h2,h3,h4,h0,h5,h6⟩:=hp
   have hr:=hs.at_obj h1 h2
   refine ⟨ob,x,el,c,rv,h1,h2,h3,h4,h0,?_,h6⟩
   rw [← Za2 (hoth x.2.1 fun e=>hr.nsusp (hr.real h3 h4) (by rw [e]; exact hb))]
   exact h5
 exact {
  len:=hs.len
  env:=fun t v hv=>by
   obtain ⟨rv,h1,h2,h3⟩:=hs.env t v hv
   exact ⟨rv,h1,h2.keeps hs.sub hkeep (ObsLe.refl g),own2 h3⟩
  olen:=hs.olen
  obj:=fun o ob ho=>by
   obtain ⟨x,hx,hr⟩:=hs.obj o ob ho
   obtain ⟨arr,cap,b1,b2,b3,b4,b5,b7,b6⟩:=hr.blk
   refine ⟨x,hx,hr.ver,hr.esz,hr.ty,hr.known,⟨arr,cap,fun hp=>by rw [hoth _ fun e=>hr.nsusp hp (by rw [e]; exact hb)]; exact b1 hp,b2,b3,b4,b5,b7,fun i e j c h1 h2=>?_⟩,hr.sz,hr.flat,hr.base,hr.nsusp,hr.nimm⟩
   obtain ⟨rv,r1,r2,r3⟩:=b6 i e j c h1 h2
   exact ⟨rv,r1,r2.keeps hs.sub hkeep (ObsLe.refl g),own2 r3⟩
  gone:=hs.gone
  inj:=hs.inj
  own:=fun p q b' hp hq=>hs.own p q b' (key p b' hp) (key q b' hq)
  sub:=hs.sub
  immlt:=fun b' i hi=>by rw [hsize]; exact hs.immlt b' i hi
  basele:=by rw [hsize]; exact hs.basele
  susplt:=fun b' hb'=>by rw [hsize]; exact hs.susplt b' hb' }
theorem Zhf.put {g:G} {a:Act} {w:World} (hC:Ok P C) (hs:Sim C g E s a w) {d b x:Nat} {ob:Ob} {t:TypeId} {u dv:V} (h:Zhf C g a w d ob (.ptr 0 0 0 0) b none) (hk:(C.ty t).known = true) (ho:o.op = .store t (.tmp d) (.tmp x))
  (hd:nth E d = some dv) (hx:nth E x = some u) (hsz:u.noOwn.cells.length = (C.ty t).size) (hfl:u.noOwn.flat = true) (hob:ob.esz = (C.ty t).size) (h1:ob.es.length = 1) :
  ∃ arr2,(execOp a.eval o).run P w = .ok .skip (w.setRow b arr2) ∧ Zhf C g a (w.setRow b arr2) d ob (.ptr 0 0 0 0) b (some x):=by
 obtain ⟨rv,arr,cap,k1,k2,k3,k4,k5,_,k7,k8⟩:=h.blk
 obtain ⟨ru,q1,q2,_⟩:=hs.env x u hx
 obtain ⟨vs,c1,c2,c3,c4,c5⟩:=Zhb q2.noOwn (OwnOk.noOwn (C:=C)) hfl
 obtain ⟨i',z,hi',hsize,_⟩:=(hC.ty t hk).info
 have hdlt:d < a.tmps.size:=by rw [← hs.len]; exact Zau hd
 have hrv:rv = .pointer (some ⟨b,0,none⟩):=by
  have:=k8 { g with obs:=[some (0,b,(C.ty ob.elem).size,arr.size,0)] } w 0 (by simp) rfl
  cases this with
  | data h=>cases h
  | ptr _ _ _ _ ad _ hh =>
   have:=(hh _ rfl).2 rfl
   simp at this
   rw [this]
 have hea:a.eval (.tmp d) = .pointer (some ⟨b,0,none⟩):=by simp [Act.eval,k7 hdlt,hrv]
 have hev:a.eval (.tmp x) = ru:=by simp [Act.eval,q1]
 have hvl:vs.length = (C.ty t).size:=by rw [c2,hsz]
 have hfit:0 + vs.length ≤ arr.size:=by
  have h2:(C.ty ob.elem).size = (C.ty t).size:=by rw [← h.esz,hob]
  rw [k2,h2,hvl,Nat.zero_add]
  exact Nat.le_mul_of_pos_left _ (by omega)
 have hst:=ZdX P b 0 ob.elem _ vs 0 arr w k1 (C.fz_free _ _) (by simpa using hfit) c3
 refine ⟨(arr.toList.take 0 ++ vs ++ arr.toList.drop (0 + vs.length)).toArray,?_,?_⟩
 ·have hsz2:vs.length = i'.size:=by omega
  simp only [Nat.add_zero] at hst
  simp [execOp,ho,Instr.storeAt,hea,hev,Instr.sureAddr,storeVar,ZaG hi',hsz2,c1] at hst ⊢
  simp [hst]
 ·have hsize2:((arr.toList.take 0 ++ vs ++ arr.toList.drop (0 + vs.length)).toArray).size = arr.size:=by simp at hfit ⊢; omega
  refine { h with lt:=by rw [setRow_size]; exact h.lt,blk:=⟨rv,(arr.toList.take 0 ++ vs ++ arr.toList.drop (0 + vs.length)).toArray,cap,by rw [hsize2]; exact setRow_heap w b arr _ _ _ k1,by rw [hsize2]; exact k2,k3,k4,fun k v hv=>?_,⟨ru,q1,fun j v hj=>?_⟩,k7,fun g' w1 N hN hn=>k8 g' w1 N hN (by rw [hsize2] at hn; exact hn)⟩ }
  ·have hv':(vs ++ arr.toList.drop vs.length)[k]? = some v:=by simpa using hv
   by_cases hkl:k < vs.length
   ·rw [List.getElem?_append_left hkl] at hv'
    exact c3 v (List.mem_of_getElem? hv')
   ·rw [List.getElem?_append_right (by omega),List.getElem?_drop] at hv'
    exact k5 _ v (by rw [← Array.getElem?_toList]; exact hv')
  ·have hj':vs[j]? = some v:=by rw [c1] at hj; simpa using hj
   have hjl:j < vs.length:=(List.getElem?_eq_some_iff.1 hj').1
   simp only [List.take_zero,List.nil_append,List.getElem?_toArray]
   rw [List.getElem?_append_left hjl]
   exact hj'
theorem Sim.hold {g:G} {a:Act} {w:World} (hs:Sim C g E s a w) (blk:Obj) (d:Nat) (rv:Value) :
  Sim C { g with susp:=fun b=>g.susp b ∨ b = w.heap.size } (Zai E d .dead) s (a.put (some d) rv) (w.alloc blk):=by
 have hlow:∀ b,b < w.heap.size → (w.alloc blk).heap[b]? = w.heap[b]?:=fun b hb=>ZcJ w _ hb
 have h1:=hs.ext (w':=w.alloc blk) (by simp) hlow
 let g':G:={ g with susp:=fun b=>g.susp b ∨ b = w.heap.size }
 have own2:∀ v rv,OwnOk C g w v rv → OwnOk C g' (w.alloc blk) v rv:=by
  intro v rv h
  refine h.side rfl fun h0 b hb=>⟨hlow b (h.row h0 hb).1,fun hc=>?_,fun _ h=>h,fun o x hx _ _=>⟨o,hx⟩⟩
  rcases hc with hc | hc
  ·exact hc
  ·have:=(h.row h0 hb).1
   omega
 have h2:Sim C g' E s a (w.alloc blk):={
  len:=h1.len
  env:=fun t v hv=>by
   obtain ⟨rv,r1,r2,r3⟩:=hs.env t v hv
   obtain ⟨rv',r1',r2',_⟩:=h1.env t v hv
   rw [r1] at r1'
   obtain rfl:=Option.some.inj r1'
   exact ⟨rv,r1,r2'.same h1.sub rfl rfl rfl,own2 v rv r3⟩
  olen:=h1.olen
  obj:=fun o ob ho=>by
   obtain ⟨x,hx,hr⟩:=hs.obj o ob ho
   obtain ⟨arr,cap,b1,b2,b3,b4,b5,b7,b6⟩:=hr.blk
   refine ⟨x,hx,hr.ver,hr.esz,hr.ty,hr.known,⟨arr,cap,fun hp=>by rw [hlow _ (ZaO (b1 hp))]; exact b1 hp,b2,b3,b4,b5,b7,fun i e j c h1' h2'=>?_⟩,hr.sz,hr.flat,hr.base,fun hp hc=>?_,hr.nimm⟩
   ·obtain ⟨rv,r1,r2,r3⟩:=b6 i e j c h1' h2'
    exact ⟨rv,r1,(r2.keeps hs.sub (hs.keeps_ext hlow) (ObsLe.refl g)).same h1.sub rfl rfl rfl,own2 c rv r3⟩
   ·rcases hc with hc | hc
    ·exact hr.nsusp hp hc
    ·have:=ZaO (b1 hp)
     omega
  gone:=h1.gone
  inj:=h1.inj
  own:=h1.own
  sub:=h1.sub
  immlt:=h1.immlt
  basele:=h1.basele
  susplt:=fun b hb=>by
   rcases hb with hb | hb
   ·exact h1.susplt b hb
   ·subst hb; simp }
 exact h2.put0 (some d) (.dead rv) (by simp [V.still])
theorem Le.rest {keep:Nat} {g0 g g':G} {w0 w w':World} (h:Le keep g0 w0 { g with susp:=g0.susp } w) (hsub:∀ b,g0.susp b → g.susp b) (k:Le keep g w g' w'):Le keep g0 w0 { g' with susp:=g0.susp } w' :=
 h.trans { keeps:=⟨k.keeps.imm,k.keeps.safe,k.keeps.cell⟩,size:=k.size,os:=k.os,tape:=k.tape,output:=k.output,base:=k.base,susp:=fun _=>Iff.rfl,low:=k.low,sus:=fun b hb=>k.sus b (hsub b hb),klen:=k.klen,obs:=k.obs }
end
end Go.VM
