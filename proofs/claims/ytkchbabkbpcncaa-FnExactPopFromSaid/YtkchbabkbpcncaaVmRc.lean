/- Regions whose first operations may be done in any order, also where they lay blocks or make lists of their own. -/
import Derived.Test.YtkchbabkbpcncaaVmRb
set_option linter.unusedSimpArgs false
set_option linter.unusedVariables false
namespace Go.VM
open Go.RowKit Go.Lib
section
variable {P:Program} {C:Cfg} {o:Oper} {E:List V} {s:S} {R:Type}
theorem Zr0 (ks:List Nat) (E:List V) {t:Nat} {v:V} (h:nth (Za7 ks E) t = some v):v = .dead ∨ nth E t = some v:=by
 induction ks generalizing E with
 | nil=>exact .inr h
 | cons k ks ih =>
  rcases ih _ h with h1 | h1
  ·exact .inl h1
  ·by_cases hk:k = t
   ·subst hk; exact .inl (Zar h1)
   ·rw [Zaj hk] at h1; exact .inr h1
theorem Zfp (ks:List Nat) (E:List V):(Za7 ks E).length = E.length:=by
 induction ks generalizing E with
 | nil=>rfl
 | cons k ks ih=>show (Za7 ks (Zai E k .dead)).length = _; rw [ih,Zak]
theorem ZeB {ks:List Nat} {E:List V} {t:Nat} (h:t ∉ ks):nth (Za7 ks E) t = nth E t:=by
 induction ks generalizing E with
 | nil=>rfl
 | cons k ks ih =>
  show nth (Za7 ks (Zai E k .dead)) t = _
  rw [ih (fun hm=>h (List.mem_cons_of_mem _ hm)),Zaj (fun e=>h (by rw [e]; exact List.mem_cons_self))]
theorem Zki {ks:List Nat} {E:List V} {t:Nat} (h:t ∈ ks) (hl:t < E.length):nth (Za7 ks E) t = some .dead:=by
 induction ks generalizing E with
 | nil=>cases h
 | cons k ks ih =>
  show nth (Za7 ks (Zai E k .dead)) t = _
  by_cases hk:t ∈ ks
  ·exact ih hk (by rw [Zak]; exact hl)
  ·rcases List.mem_cons.1 h with rfl | h
   ·rw [ZeB hk,Zad,ZaM,List.getElem?_set_self hl]
   ·exact absurd h hk
theorem Zk5 (ks ts:List Nat):∀ (E:List V) (k:Nat),(ZjM ks ts k E).length = E.length
 | [],_=>rfl
 | v :: l,k=>by simp [ZjM,Zk5 ks ts l (k + 1)]
theorem Zm9 (ks ts:List Nat):∀ (E:List V) (k t:Nat) (v:V),nth (ZjM ks ts k E) t = some v → v = .dead ∨ (k + t ∈ ts ∧ ∃ u,nth E t = some u ∧ v = u.noOwn) ∨ (k + t ∈ ks ∧ nth E t = some v)
 | [],_,t,v,h=>by cases t <;> simp [ZjM,nth] at h
 | u :: l,k,t,v,h=>by
  cases t with
  | zero =>
   simp only [ZjM,nth] at h
   split at h
   ·rename_i hm
    obtain ⟨x,hx,hb⟩:=List.any_eq_true.1 hm
    have:=Nat.eq_of_beq_eq_true hb
    exact .inr (.inr ⟨by rw [Nat.add_zero,this]; exact hx,h⟩)
   ·split at h
    ·rename_i hm
     obtain ⟨x,hx,hb⟩:=List.any_eq_true.1 hm
     have:=Nat.eq_of_beq_eq_true hb
     exact .inr (.inl ⟨by rw [Nat.add_zero,this]; exact hx,u,rfl,(Option.some.inj h).symm⟩)
    ·exact .inl (Option.some.inj h).symm
  | succ t =>
   have:=Zm9 ks ts l (k + 1) t v h
   rw [show k + 1 + t = k + (t + 1) by omega] at this
   exact this
theorem ZuN {g:G} {a:Act} {w:World} (hs:Sim C g E s a w) {ks:List Nat} {M:List V} (hl:M.length = E.length)
  (hM:∀ t v,nth M t = some v → v = .dead ∨ (∃ u,nth E t = some u ∧ v = u.noOwn) ∨ (t ∈ ks ∧ nth E t = some v))
  {v:V} {M':List V} {s':S} (hop:Zbi P C o M s v M' s') (keep:Nat) (hk:keep ≤ s.length) (next:Act → World → Prop) (Q:Exit → Act → World → Prop)
  (hn:∀ g' rv w',Le keep g w g' w' → Sim C g' (Zcy (Za7 ks E) o.dst v) s' (a.put o.dst rv) w' → next (a.put o.dst rv) w'):o.wp P a w next Q:=by
 have hR:=hs.kill ks
 have h0:=hR.leave
 have sub:∀ t v,nth (Za7 ks E) t = some v → v = .dead ∨ nth E t = some v:=fun t v h=>Zr0 ks E h
 have Rown:∀ t b,Zan (Za7 ks E) s a w g (.slot t) b → Zan E s a w g (.slot t) b:=by
  rintro t b ⟨c,rv,h1,h0,h2⟩
  rcases sub t _ h1 with h | h
  ·subst h; rcases h0 with ⟨_,_,_,h0⟩ | ⟨_,_,_,h0⟩ <;> cases h0
  ·exact ⟨c,rv,h,h0,h2⟩
 have Mown:∀ t b,Zan M s a w g (.slot t) b → t ∈ ks ∧ Zan E s a w g (.slot t) b:=by
  rintro t b ⟨c,rv,h1,h0,h2⟩
  rcases hM t _ h1 with h | ⟨u,_,h⟩ | ⟨h,h3⟩
  ·subst h; rcases h0 with ⟨_,_,_,h0⟩ | ⟨_,_,_,h0⟩ <;> cases h0
  ·subst h; exact absurd h0 (ZaA u).owns
  ·exact ⟨h,c,rv,h3,h0,h2⟩
 have hmask:Sim C (g.away (Za7 ks E) s a w) M s a w:={
  len:=by rw [hl]; exact hs.len
  env:=fun t v hv=>by
   have hlt:t < E.length:=by rw [← hl]; exact Zau hv
   rcases hM t v hv with rfl | ⟨u,hu,rfl⟩ | ⟨hk,hu⟩
   ·obtain ⟨rv,h1,_,_⟩:=hs.env t E[t] (by rw [Zad,List.getElem?_eq_getElem hlt])
    exact ⟨rv,h1,.dead rv,OwnOk.of_not (by simp [V.still])⟩
   ·obtain ⟨rv,h1,h2,_⟩:=hs.env t u hu
    exact ⟨rv,h1,h2.noOwn.same hs.sub rfl rfl rfl,OwnOk.of_not (ZaA u)⟩
   ·obtain ⟨rv,h1,h2,h3⟩:=hs.env t v hu
    refine ⟨rv,h1,h2.same hs.sub rfl rfl rfl,h3.side rfl fun h0 b hb=>⟨rfl,?_,fun _ h=>h,fun o x hx _ _=>⟨o,hx⟩⟩⟩
    rintro (hc | ⟨t',ht'⟩)
    ·exact hc
    ·have h4:Zan E s a w g (.slot t) b:=⟨v,rv,hu,h0,h1,hb⟩
     have:=hs.own _ _ b (Rown t' b ht') h4
     injection this with h5
     subst h5
     obtain ⟨c',rv',h6,h7,_⟩:=ht'
     rw [Zki hk hlt] at h6
     obtain rfl:=Option.some.inj h6
     rcases h7 with ⟨_,_,_,h7⟩ | ⟨_,_,_,h7⟩ <;> cases h7
  olen:=h0.olen
  obj:=h0.obj
  gone:=h0.gone
  inj:=h0.inj
  own:=fun p q b hp hq=>by
   cases p with
   | slot t=>cases q with
    | slot t'=>exact hs.own _ _ b (Mown t b hp).2 (Mown t' b hq).2
    | cell o' i' j'=>exact hs.own _ _ b (Mown t b hp).2 hq
   | cell o' i' j'=>cases q with
    | slot t=>exact hs.own _ _ b hp (Mown t b hq).2
    | cell o2 i2 j2=>exact h0.own _ _ b hp hq
  sub:=h0.sub
  immlt:=h0.immlt
  basele:=h0.basele
  susplt:=h0.susplt }
 refine hop.2 (g.away (Za7 ks E) s a w) a w s.length (Nat.le_refl _) hmask next Q fun g' rv w' hle hs'=>?_
 obtain ⟨k1,k2⟩:=hR.back hle hs'.quit
 refine hn _ rv w' (k2 keep hk) ?_
 have hslot:∀ t b,Zan (Za7 ks E) s a w g (.slot t) b → g'.susp b:=fun t b h=>(hle.susp b).2 (.inr ⟨t,h⟩)
 cases hd:o.dst with
 | none=>exact k1
 | some d =>
  have hRl:(Za7 ks E).length = E.length:=Zfp ks E
  by_cases hlt:d < E.length
  ·have hM'l:M'.length = E.length:=by
    have h1:=hs'.len
    have h2:=k1.len
    rw [ZbI,Zdi] at h1
    rw [hRl] at h2
    omega
   have hv:nth (Zcy M' o.dst v) d = some v:=by
    rw [hd]
    show nth (Zai M' d v) d = some v
    rw [Zad,ZaM,List.getElem?_set_self (by rw [hM'l]; exact hlt)]
   obtain ⟨rv',h1,h2,h3⟩:=hs'.env d v hv
   have hrv:rv' = rv:=by
    rw [hd,Zea (by rw [← hs.len]; exact hlt) rfl] at h1
    exact (Option.some.inj h1).symm
   subst hrv
   refine k1.put (some d) (h2.same hs'.sub rfl rfl rfl) (h3.side rfl fun h0 b hb=>⟨rfl,fun hc=>(hle.susp b).2 (.inl hc),fun _ h=>h,fun o x hx _ _=>⟨o,hx⟩⟩) fun b h0 hb p hp hpo=>?_
   cases p with
   | slot t =>
    have h4:Zan (Za7 ks E) s a w g (.slot t) b:=hpo
    exact (h3.row h0 hb).2.2.1 (hslot t b h4)
   | cell o' i' j' =>
    have h4:Zan (Zcy M' o.dst v) s' (a.put o.dst rv') w' g' (.slot d) b:=⟨v,rv',hv,h0,h1,hb⟩
    have h5:Zan (Zcy M' o.dst v) s' (a.put o.dst rv') w' g' (.cell o' i' j') b:=hpo
    have:=hs'.own _ _ b h4 h5
    cases this
  ·have e1:Zcy (Za7 ks E) (some d) v = Za7 ks E:=by
    show Zai _ d v = _
    rw [ZaM,List.set_eq_of_length_le (by rw [hRl]; exact Nat.le_of_not_lt hlt)]
   have e2:a.put (some d) rv = a:=by
    have:a.tmps.setIfInBounds d rv = a.tmps:=by
     apply Array.ext'
     rw [Array.toList_setIfInBounds,List.set_eq_of_length_le (by rw [Array.length_toList,← hs.len]; exact Nat.le_of_not_lt hlt)]
    simp [Act.put,this]
   rw [e1,e2]
   exact k1
theorem ZuE (hC:Ok P C) {Φ:Zat} (hΦ:Zab P C Φ) {ops:List Oper} {K:V → List V → S → Option R} {r:R} (hh:Zcc C o = true) (h:opV C Φ ops o E s K = some r) :
  ∃ v E' s',K v E' s' = some r ∧ ((∃ sz es f,v = .list sz es f) → Zbi P C o E s v E' s):=by
 unfold opV at h
 split at h
 ·rename_i c ho
  split at h <;> first | (cases h; done) | skip
  rename_i args ha
  split at h
  ·rename_i b hcal
   obtain ⟨v,s',h1,_,h2,h3⟩:=Zdn (P:=P) (K:=fun v s'=>K v (ZcR b E c.args.toList) s') hC ho hcal ha h
   exact ⟨v,_,s',h1,fun hl=>by rw [h3 hl] at h2; exact h2⟩
  ·rename_i x hcal
   obtain ⟨fv,hf,h2⟩:=Zae h
   split at h2 <;> first | (cases h2; done) | skip
   rename_i f caps
   have hm:C.mode f = .own:=by
    cases x with
    | func g =>
     simp only [ev] at hf
     have:=Option.some.inj hf
     injection this with h3 h4
     subst h3
     simp only [Zcc,ho,hcal] at hh
     cases hmode:C.mode g with
     | own=>rfl
     | shared=>rw [hmode] at hh; cases hh
     | pure=>rw [hmode] at hh; cases hh
     | fresh=>rw [hmode] at hh; cases hh
    | _=>simp [Zcc,ho,hcal] at hh
   unfold Zte at h2
   rw [hm] at h2
   simp only at h2
   obtain ⟨as,hfr,h2⟩:=ZbZ (f:=Zbg true (ZcA C s) 12) (g:=freeze true (ZcA C s) 12) (fun a K r h=>Zbu h) h2
   obtain ⟨v,h3,h4⟩:=ZhA hΦ (K:=fun v s'=>K v E s') ho hcal hf (Zbk.argsN ha) hm hfr h2
   exact ⟨v,E,s,h3,fun _=>h4⟩
  ·cases h
 ·rename_i hnc
  have:∃ t len parts,o.op = .buildSlice t len parts:=by
   unfold Zcc at hh
   split at hh
   ·rename_i c ho; exact absurd ho (hnc c)
   ·rename_i t len parts ho; exact ⟨t,len,parts,ho⟩
   ·cases hh
  obtain ⟨t,len,parts,ho⟩:=this
  unfold ZgN at h
  rw [ho] at h
  simp only at h
  obtain ⟨hk,h2⟩:=Zaa h
  split at h2 <;> first | (cases h2; done) | skip
  rename_i e ps he hps
  obtain ⟨hke,h3⟩:=Zaa h2
  split at h3 <;> first | (cases h3; done) | skip
  rename_i es hes
  split at h3 <;> first | (cases h3; done) | skip
  rename_i hcond
  split at h3
  ·rename_i hpl
   exact ⟨_,_,_,h3,fun _=>ZfV hC hk he hke ho hps hcond.2 hcond.1 hes hpl⟩
  ·obtain ⟨_,h3⟩:=Zaa h3
   exact ⟨_,_,_,h3,fun ⟨_,_,_,h⟩=>by cases h⟩
def ZsW (P:Program) (C:Cfg) (o:Oper) (E:List V) (ob:Ob) (v:V):Prop :=
 v.still ∧ ob.ver = 0 ∧ ob.esz = (C.ty ob.elem).size ∧ (C.ty ob.elem).known = true ∧ ∀ (g:G) (s:S) (a:Act) (w:World),Sim C g E s a w → ∃ rv arr cap,(execOp a.eval o).run P w = .ok (.value rv) (w.alloc (.cells arr ob.elem (C.fz ob.ver arr.size))) ∧
   arr.size = cap * (C.ty ob.elem).size ∧ cap ≤ maxLen ∧ ob.es.length ≤ cap ∧ (∀ i e,nth ob.es i = some e → e.cells.length = (C.ty ob.elem).size) ∧
   (∀ i e j c,nth ob.es i = some e → nth e.cells j = some c → c.flatCell = true) ∧ (∀ (k:Nat) (v:Value),arr[k]? = some v → v.oneCell' = true) ∧
   (∀ i e j c,nth ob.es i = some e → nth e.cells j = some c → ∃ rv,arr[i * (C.ty ob.elem).size + j]? = some rv ∧ (∀ g w,VR g w c rv) ∧ (∀ g w,OwnOk C g w c rv) ∧ rv.ownBlock = none) ∧
   ∀ g' w1 N,N < g'.obs.length → nth g'.obs N = some (some (0,w.heap.size,(C.ty ob.elem).size,arr.size,0)) → VR g' w1 (Zh4 N v) rv
theorem Zrv (hC:Ok P C) (hth:C.thaw = false) {t:TypeId} (hk:(C.ty t).known = true) (ho:o.op = .alloc t) :
  ZsW P C o E { es:=[(C.ty t).zero],esz:=(C.ty t).size,elem:=t,ver:=0 } (.ptr 0 0 0 0):=by
 have hty:=hC.ty t hk
 obtain ⟨i,z',hi,_⟩:=hty.info
 obtain ⟨z,hz,zo,hsz,_⟩:=hty.zero hi
 refine ⟨by simp [V.still],rfl,rfl,hk,fun g s a w hs=>?_⟩
 refine ⟨.pointer (some ⟨w.heap.size,0,none⟩),z.cells,1,?_,by simp [zo.size],by unfold maxLen; omega,by simp,?_,?_,zo.one,?_,?_⟩
 ·simp [execOp,ho,Instr.alloc,newVar,newRow,zeroValue,typeInfo,hi,hz,Cfg.fz,hth]
 ·intro i e hi
  cases i with
  | zero=>simp [nth] at hi; subst hi; exact zo.len
  | succ i=>simp [nth] at hi
 ·intro i e j c hi hj
  cases i with
  | zero =>
   simp [nth] at hi; subst hi
   have:=(zo.cell j c hj).1
   cases c <;> first | rfl | (cases this; done)
  | succ i=>simp [nth] at hi
 ·intro i e j c hi hj
  cases i with
  | zero =>
   simp [nth] at hi; subst hi
   obtain ⟨_,rv,k1,k2,k3,k4⟩:=zo.cell j c hj
   exact ⟨rv,by rw [Nat.zero_mul,Nat.zero_add]; exact k1,fun g w=>.data (k2 g w false),k3,k4⟩
  | succ i=>simp [nth] at hi
 ·intro g' w1 N hN hn
  refine .ptr _ _ _ _ _ hN fun y hy=>?_
  rw [hn] at hy
  obtain rfl:=Option.some.inj (Option.some.inj hy)
  exact ⟨Nat.le_refl _,fun _=>by simp⟩
theorem ZiA (hC:Ok P C) (hth:C.thaw = false) {t e:TypeId} {x y:Operand} {k k':IntKind} {n:Int} (hk:(C.ty t).known = true) (he:(C.ty t).elem = some e) (hke:(C.ty e).known = true)
  (ho:o.op = .makeSlice t x y) (hx:ev E x = some (.int k n)) (hy:ev E y = some (.int k' n)) (h0:0 ≤ n) (hb:n * (C.ty e).bytes ≤ 140737488355328) (hn:n ≤ 4611686018427387904) :
  ZsW P C o E { es:=List.replicate n.toNat (C.ty e).zero,esz:=(C.ty e).size,elem:=e,ver:=0 } (.arr 0 0 0 n.toNat):=by
 have hu:=(hC.ty t hk).elem e he
 have hte:=hC.ty e hke
 obtain ⟨i,z',hi,_⟩:=hte.info
 obtain ⟨z,hz,zo,hsz,hby⟩:=hte.zero hi
 have hpos:=hte.pos
 refine ⟨by simp [V.still],rfl,rfl,hke,fun g s a w hs=>?_⟩
 have e1:=(hs.ev hx).1.int_inv
 have e2:=(hs.ev hy).1.int_inv
 have hw:IntKind.i64.wrap n = n:=by
  unfold IntKind.wrap
  have:IntKind.i64.bits = 64:=rfl
  simp only [this,IntKind.signed]
  have h1:n % (2:Int) ^ 64 = n:=by
   apply Int.emod_eq_of_lt h0
   omega
  simp only [h1]
  rw [if_neg (by simp; omega)]
 have hmul:(n.toNat:Int) = n:=Int.toNat_of_nonneg h0
 refine ⟨.slice (some ⟨w.heap.size,0,none⟩) n.toNat n.toNat,(Array.range (n.toNat * z.cells.size)).map (z.cells[· % z.cells.size]!),n.toNat,?_,by simp [zo.size],by unfold maxLen; omega,by simp,?_,?_,?_,?_,?_⟩
 ·have hbb:¬ ((281474976710656:Int) < (i.bytes:Int) * n):=by
   rw [hby,Int.mul_comm]
   omega
  have h00:¬ (n < 0):=by omega
  simp only [execOp,ho,e1,e2]
  refine ZbJ ?_
  by_cases hz0:n.toNat * (C.ty e).size = 0
  ·have hn0:n.toNat = 0:=by
    rcases Nat.mul_eq_zero.1 hz0 with h | h
    ·exact h
    ·omega
   simp [Instr.makeSlice,Zag hu,Go.asInt,asIntOf,typeInfo,hi,hw,hbb,h00,sizeOf,hsz,hz0,hn0,newRow,Cfg.fz,hth]
   have h0':∀ f:Nat → Value,(Array.range 0).map f = #[]:=fun f=>by apply Array.ext'; simp
   rw [h0',h0']
  ·simp [Instr.makeSlice,Zag hu,Go.asInt,asIntOf,typeInfo,hi,hw,hbb,h00,sizeOf,hsz,hz0,newRow,zeroValue,hz,zo.size,Cfg.fz,hth]
 ·intro i' el hi'
  obtain ⟨rfl,_⟩:=ZaU hi'
  exact zo.len
 ·intro i' el j c hi' hj
  obtain ⟨rfl,_⟩:=ZaU hi'
  have:=(zo.cell j c hj).1
  cases c <;> first | rfl | (cases this; done)
 ·intro k v hv
  obtain ⟨h1,_⟩:=ZbW (by rw [zo.size]; exact hpos) hv
  exact zo.one _ v h1
 ·intro i' el j c hi' hj
  obtain ⟨rfl,hlt⟩:=ZaU hi'
  obtain ⟨_,rv,k1,k2,k3,k4⟩:=zo.cell j c hj
  refine ⟨rv,?_,fun g w=>.data (k2 g w false),k3,k4⟩
  rw [← zo.size]
  exact Zf7 hlt k1
 ·intro g' w1 N hN hn
  refine .arr _ _ _ _ _ _ (Nat.le_refl _) hN fun y hy=>?_
  rw [hn] at hy
  obtain rfl:=Option.some.inj (Option.some.inj hy)
  exact ⟨Nat.le_refl _,fun _=>⟨.inr (by simp),by simp [zo.size]⟩⟩
theorem ZvZ (hC:Ok P C) {ops:List Oper} {K:V → List V → S → Option R} {r:R} (hh:Zdh o = true) (h:ZgN C ops o E [] K = some r):∃ ob v E',K v E' [some ob] = some r ∧ ZsW P C o E ob v:=by
 have:(∃ t,o.op = .alloc t) ∨ ∃ t x y,o.op = .makeSlice t x y:=by
  unfold Zdh at hh
  split at hh
  ·rename_i t ho; exact .inl ⟨t,ho⟩
  ·rename_i t x y ho; exact .inr ⟨t,x,y,ho⟩
  ·cases hh
 rcases this with ⟨t,ho⟩ | ⟨t,x,y,ho⟩
 ·unfold ZgN at h
  rw [ho] at h
  simp only at h
  obtain ⟨hk,h2⟩:=Zaa h
  split at h2 <;> first | (cases h2; done) | skip
  obtain ⟨hth,h2⟩:=Zaa h2
  exact ⟨_,_,_,h2,Zrv hC (by simpa using hth) hk ho⟩
 ·unfold ZgN at h
  rw [ho] at h
  simp only at h
  obtain ⟨hk,h2⟩:=Zaa h
  split at h2 <;> first | (cases h2; done) | skip
  rename_i e he
  obtain ⟨hke,h3⟩:=Zaa h2
  obtain ⟨n,hn,h4⟩:=Zae h3
  obtain ⟨m,hm,h5⟩:=Zae h4
  split at h5 <;> first | (cases h5; done) | skip
  rename_i k1 n' k2 m'
  split at h5 <;> first | (cases h5; done) | skip
  rename_i hcond
  obtain ⟨c1,c2,c3⟩:=hcond
  subst c2
  obtain ⟨hth,h5⟩:=Zaa h5
  refine ⟨_,_,_,h5,ZiA hC (by simpa using hth) hk he hke ho hn hm c1 c3 ?_⟩
  have:=(hC.ty e hke).bpos
  have h1:n' * 1 ≤ n' * ((C.ty e).bytes:Int):=Int.mul_le_mul_of_nonneg_left (by omega) c1
  omega
end
end Go.VM
