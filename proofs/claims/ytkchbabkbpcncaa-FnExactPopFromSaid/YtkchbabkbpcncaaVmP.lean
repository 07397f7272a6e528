/- Values told for good, or for a reader; what calls come to. -/
import Derived.Test.YtkchbabkbpcncaaVmO
set_option linter.unusedSimpArgs false
set_option linter.unusedVariables false
namespace Go.VM
open Go.RowKit Go.Lib
section
variable {P:Program} {C:Cfg} {o:Oper} {E:List V} {s:S} {R:Type}
theorem ZgD {view:Bool} {n:Nat} {v v':V} (h:freeze view s n v = some v') (hf:v.flatCell = true):v'.flatCell = true:=by
 cases n with
 | zero=>cases h
 | succ n =>
  cases v <;> simp only [freeze] at h <;> first | (cases h; done) | (cases hf; done) | (obtain rfl:=Option.some.inj h; rfl) | skip
  ·rename_i sz es f
   cases view <;> simp only at h
   ·cases f <;> simp only at h <;> first | (cases h; done) | (obtain rfl:=Option.some.inj h; rfl)
   ·obtain rfl:=Option.some.inj h; rfl
  ·rename_i oo ver off len
   split at h <;> first | (cases h; done) | skip
   split at h <;> first | (cases h; done) | skip
   obtain ⟨_,h2⟩:=Zaa h
   cases view <;> simp only at h2
   ·obtain ⟨_,h3⟩:=Zaa h2
    obtain rfl:=Option.some.inj h3; rfl
   ·obtain rfl:=Option.some.inj h2; rfl
  ·rename_i f caps
   cases caps <;> simp only at h
   ·obtain rfl:=Option.some.inj h; rfl
   ·cases h
theorem Zda {view:Bool} {n:Nat} {v v':V} (h:freeze view s n v = some v') (sz:Nat) (es:List V) (e:TypeId):v' ≠ .list sz es (.own e):=by
 rintro rfl
 cases n with
 | zero=>cases h
 | succ n =>
  cases v <;> simp only [freeze] at h <;> first | (cases h; done) | skip
  ·rename_i sz es f
   cases view <;> cases f <;> simp only [Fl.noOwn] at h <;> first | (cases h; done) | cases Option.some.inj h
  ·rename_i oo ver off len
   split at h <;> first | (cases h; done) | skip
   split at h <;> first | (cases h; done) | skip
   obtain ⟨_,h2⟩:=Zaa h
   cases view <;> simp only at h2
   ·obtain ⟨_,h3⟩:=Zaa h2
    cases Option.some.inj h3
   ·cases Option.some.inj h2
  ·split at h <;> cases h
  ·split at h <;> cases h
  ·rename_i f caps
   cases caps <;> simp only at h
   ·cases Option.some.inj h
   ·cases h
theorem Zhj {view:Bool} {n:Nat} {v v':V} (h:freeze view s n v = some v') (t:TypeId) (sz:Nat) (es:List V):v' ≠ .uni t sz es:=by
 rintro rfl
 cases n with
 | zero=>cases h
 | succ n =>
  cases v <;> simp only [freeze] at h <;> first | (cases h; done) | skip
  ·rename_i sz es f
   cases view <;> cases f <;> simp only [Fl.noOwn] at h <;> first | (cases h; done) | cases Option.some.inj h
  ·rename_i oo ver off len
   split at h <;> first | (cases h; done) | skip
   split at h <;> first | (cases h; done) | skip
   obtain ⟨_,h2⟩:=Zaa h
   cases view <;> simp only at h2
   ·obtain ⟨_,h3⟩:=Zaa h2
    cases Option.some.inj h3
   ·cases Option.some.inj h2
  ·split at h <;> cases h
  ·split at h <;> cases h
  ·rename_i f caps
   cases caps <;> simp only at h
   ·cases Option.some.inj h
   ·cases h
theorem ZbX {view:Bool} {n:Nat} {v v':V} (h:freeze view s n v = some v'):v'.still:=by
 refine ⟨Zda h,fun cs hcs i sz es e hi=>?_,Zhj h⟩
 subst hcs
 cases n with
 | zero=>cases h
 | succ n =>
  cases v <;> simp only [freeze] at h <;> first | (cases h; done) | skip
  ·rename_i sz es f
   cases view <;> cases f <;> simp only [Fl.noOwn] at h <;> first | (cases h; done) | cases Option.some.inj h
  ·rename_i oo ver off len
   split at h <;> first | (cases h; done) | skip
   split at h <;> first | (cases h; done) | skip
   obtain ⟨_,h2⟩:=Zaa h
   cases view <;> simp only at h2
   ·obtain ⟨_,h3⟩:=Zaa h2
    cases Option.some.inj h3
   ·cases Option.some.inj h2
  ·split at h <;> first | (cases h; done) | skip
   rename_i cs' hcs'
   have:=Option.some.inj h
   injection this with this
   subst this
   obtain ⟨c0,_,hf⟩:=(Zbb hcs').2 i _ hi
   exact Zda hf sz es e rfl
  ·split at h <;> cases h
  ·rename_i f caps
   cases caps <;> simp only at h
   ·cases Option.some.inj h
   ·cases h
theorem ZfQ {view:Bool} {n:Nat} {e e':V} (h:freeze view s n e = some e') (hf:∀ j c,nth e.cells j = some c → c.flatCell = true):∃ m,m ≤ n ∧ ZaK (freeze view s m) e.cells = some e'.cells:=by
 by_cases hag:∃ cs,e = .agg cs
 ·obtain ⟨cs,rfl⟩:=hag
  cases n with
  | zero=>cases h
  | succ n =>
   simp only [freeze] at h
   split at h <;> first | (cases h; done) | skip
   rename_i cs' hcs
   obtain rfl:=Option.some.inj h
   exact ⟨n,Nat.le_succ n,hcs⟩
 ·have hc:e.cells = [e]:=ZaH fun cs hc=>hag ⟨cs,hc⟩
  have hfl:e.flatCell = true:=hf 0 e (by rw [hc]; rfl)
  have hfl':=ZgD h hfl
  have hc':e'.cells = [e']:=ZaH fun cs hcs=>by rw [hcs] at hfl'; cases hfl'
  refine ⟨n,Nat.le_refl n,?_⟩
  rw [hc,hc']
  simp [ZaK,h]
theorem DR.borCell {g:G} {w:World} (hs:Sub g) {l:Bool} {v:V} {rv:Value} (h0:DR g w l v rv):DR g w false (borCell v) rv:=by
 have lo:DR g w false v rv:=by
  cases l with
  | true=>exact h0.lower
  | false=>exact h0
 clear h0
 cases lo with
 | list esz es f A n c b off cv hn hc hl hA hsz hf ho hw hd =>
  refine .list esz es .bor A n c b off cv hn hc (fun _=>rfl) hA hsz hf (fun i e j x h1 h2=>?_) hw (fun i e j x h1 h2=>?_)
  ·have:=ho i e j x h1 h2
   exact Zlg hs this
  ·have:=hd i e j x h1 h2
   revert this
   generalize f.lv = q
   intro this
   cases q with
   | true=>exact this.lower
   | false=>exact this
 | bool b=>exact .bool b
 | int k n=>exact .int k n
 | str s=>exact .str s
 | nilp=>exact .nilp
 | nilf=>exact .nilf
 | nili=>exact .nili
 | nils=>exact .nils
 | fn f=>exact .fn f
 | agg cs vs hl h=>exact .agg cs vs hl h
 | tuple cs vs hl h=>exact .tuple cs vs hl h
theorem Zju {v:V}:(borCell v).flatCell = v.flatCell:=by cases v <;> rfl
theorem ZbF {α β:Type} {f:α → β} {l:List α} {i:Nat} {y:α} (h:nth l i = some y):nth (l.map f) i = some (f y):=by
 rw [Zad] at h ⊢
 rw [List.getElem?_map,h]; rfl
theorem Zhz {e:V} (hf:∀ j c,nth e.cells j = some c → c.flatCell = true):e.lent.cells = e.cells.map Go.VM.borCell:=by
 cases e <;> first | rfl | skip
theorem DR.lentEs {g:G} {w:World} (hs:Sub g) {esz:Nat} {es:List V} {rv:Value} (h:DR g w false (.list esz es .bor) rv):DR g w false (.list esz (es.map V.lent) .bor) rv:=by
 cases h with
 | list esz es f A n c b off cv hn hc hl hA hsz hf ho hw hd =>
  have back:∀ i e j x,nth (es.map V.lent) i = some e → nth e.cells j = some x → ∃ e0 x0,nth es i = some e0 ∧ nth e0.cells j = some x0 ∧ Go.VM.borCell x0 = x:=by
   intro i e j x h1 h2
   obtain ⟨e0,he0,rfl⟩:=Zac h1
   rw [Zhz fun j c hj=>hf i e0 j c he0 hj] at h2
   obtain ⟨x0,hx0,rfl⟩:=Zac h2
   exact ⟨e0,x0,he0,hx0,rfl⟩
  refine .list esz _ .bor A n c b off cv (by simpa using hn) hc (fun _=>rfl) ?_ (fun i e h1=>?_) (fun i e j x h1 h2=>?_) (fun i e j x h1 h2=>?_) (fun i e j x h1 h2=>?_) (fun i e j x h1 h2=>?_)
  ·rcases hA with rfl | hA
   ·exact .inl rfl
   ·exact .inr hA
  ·obtain ⟨e0,he0,rfl⟩:=Zac h1
   rw [Zhz fun j c hj=>hf i e0 j c he0 hj,List.length_map]
   exact hsz i e0 he0
  ·obtain ⟨e0,x0,q1,q2,rfl⟩:=back i e j x h1 h2
   rw [Zju]
   exact hf i e0 j x0 q1 q2
  ·obtain ⟨e0,x0,q1,q2,rfl⟩:=back i e j x h1 h2
   exact ho i e0 j x0 q1 q2
  ·obtain ⟨e0,x0,q1,q2,rfl⟩:=back i e j x h1 h2
   exact hw i e0 j x0 q1 q2
  ·obtain ⟨e0,x0,q1,q2,rfl⟩:=back i e j x h1 h2
   exact (hd i e0 j x0 q1 q2).borCell hs
theorem Zc9 {view:Bool} {g g':G} {a:Act} {w:World} (hs:Sim C g E s a w) (hsub':view = true → Sub g') (hk:Keeps g w g' w) (hobj:∀ o x i,nth g.obs o = some (some x) → 0 < x.2.2.2.1 → okc g' (!view) x.2.1 i) :
  ∀ (n:Nat) {v v':V} {rv:Value},freeze view s n v = some v' → VR g w v rv → DR g' w (!view) v' rv:=by
 intro n
 induction n using Nat.strongRecOn with
 | ind n ih =>
  intro v v' rv h hv
  cases n with
  | zero=>cases h
  | succ n =>
   have data:∀ {v rv},VR g w v rv → (∀ l,DR g w false v rv → DR g' w l v rv) → (∀ x,v ≠ x → True) → True:=fun _ _ _=>trivial
   cases v with
   | bool b=>simp only [freeze] at h; obtain rfl:=Option.some.inj h; rw [hv.bool_inv]; exact .bool b
   | int k m=>simp only [freeze] at h; obtain rfl:=Option.some.inj h; rw [hv.int_inv]; exact .int k m
   | str b=>simp only [freeze] at h; obtain rfl:=Option.some.inj h; rw [hv.str_inv]; exact .str b
   | nilp=>simp only [freeze] at h; obtain rfl:=Option.some.inj h; cases hv with | data hv=>cases hv; exact .nilp
   | nilf=>simp only [freeze] at h; obtain rfl:=Option.some.inj h; cases hv with | data hv=>cases hv; exact .nilf
   | nili=>simp only [freeze] at h; obtain rfl:=Option.some.inj h; cases hv with | data hv=>cases hv; exact .nili
   | nils=>simp only [freeze] at h; obtain rfl:=Option.some.inj h; cases hv with | data hv=>cases hv; exact .nils
   | dead=>cases h
   | uni=>cases h
   | ptr=>cases h
   | cptr=>cases h
   | fn f caps =>
    simp only [freeze] at h
    split at h <;> first | (cases h; done) | skip
    obtain rfl:=Option.some.inj h
    obtain ⟨vs,rfl,hl,_⟩:=hv.fn_inv
    have:vs = []:=List.eq_nil_of_length_eq_zero (by simpa using hl.symm)
    subst this
    exact .fn f
   | list sz es f =>
    have h2:=(hv.list_inv).keeps hs.sub hk
    simp only [freeze] at h
    cases h2 with
    | list esz es f A n c b off cv hn hc hl hA hsz hf ho hw hd =>
     cases view with
     | true =>
      simp only at h
      obtain rfl:=Option.some.inj h
      have e:f.noOwn.lv = f.lv:=by cases f <;> rfl
      exact .list _ es f.noOwn A n c b off cv hn hc (fun _=>rfl) hA hsz hf (by rw [e]; exact ho) hw (by rw [e]; exact hd)
     | false =>
     cases f with
     | bor=>cases h
     | own e=>simp only at h; obtain rfl:=Option.some.inj h; exact .list _ es .sh A n c b off cv hn hc (by simp) hA hsz hf ho hw hd
     | sh=>simp only at h; obtain rfl:=Option.some.inj h; exact .list _ es .sh A n c b off cv hn hc (by simp) hA hsz hf ho hw hd
   | agg cs =>
    obtain ⟨vs,rfl,hl,hc⟩:=hv.agg_inv
    simp only [freeze] at h
    split at h <;> first | (cases h; done) | skip
    rename_i cs' hcs
    obtain rfl:=Option.some.inj h
    obtain ⟨q1,q2⟩:=Zbb hcs
    refine .agg cs' vs (by rw [← q1,hl]) fun i c u h1 h2=>?_
    obtain ⟨c0,h3,h4⟩:=q2 i c h1
    exact ih n (Nat.lt_succ_self n) h4 (hc i c0 u h3 h2)
   | tuple cs =>
    obtain ⟨vs,rfl,hl,hc⟩:=hv.tuple_inv
    simp only [freeze] at h
    split at h <;> first | (cases h; done) | skip
    rename_i cs' hcs
    obtain rfl:=Option.some.inj h
    obtain ⟨q1,q2⟩:=Zbb hcs
    refine .tuple cs' vs (by rw [← q1,hl]) fun i c u h1 h2=>?_
    obtain ⟨c0,h3,h4⟩:=q2 i c h1
    exact ih n (Nat.lt_succ_self n) h4 (hc i c0 u h3 h2)
   | arr oo ver off len =>
    simp only [freeze] at h
    split at h <;> first | (cases h; done) | skip
    rename_i ob hob
    split at h <;> first | (cases h; done) | skip
    rename_i es' hes
    obtain ⟨hle,h2⟩:=Zaa h
    have hle':off + len ≤ ob.es.length:=by simpa using hle
    obtain ⟨hob1,hver⟩:=ZaY hob
    obtain ⟨x,hx,hr⟩:=hs.obj oo ob hob1
    obtain ⟨arr,cap,b1,b2,b3,b4,b5,b7,b6⟩:=hr.blk
    obtain ⟨q1,q2⟩:=Zbb hes
    have hyl:((ob.es.drop off).take len).length = len:=by simp; omega
    cases hv with
    | data hv=>cases hv
    | arr _ _ _ _ A c hc ho hh =>
     obtain ⟨p1,p2⟩:=hh x hx
     obtain ⟨p3,p4⟩:=p2 (by rw [hver,hr.ver])
     have elem:∀ i e',nth es' i = some e' → ∃ e,nth ob.es (off + i) = some e ∧ freeze view s n e = some e' ∧ i < len:=by
      intro i e' hi
      obtain ⟨e,he,hfr⟩:=q2 i e' hi
      obtain ⟨h3,h4⟩:=ZbP he
      exact ⟨e,ZbQ h3,hfr,h4⟩
     have cellsok:∀ i e' j c',nth es' i = some e' → nth e'.cells j = some c' → c'.flatCell = true ∧ ∃ rv,arr[(x.2.2.2.2 + (off + i)) * ob.esz + j]? = some rv ∧ DR g' w (!view) c' rv:=by
      intro i e' j c' hi hj
      obtain ⟨e,he,hfr,hlt⟩:=elem i e' hi
      obtain ⟨m,hm,hmc⟩:=ZfQ hfr (fun j c hj=>hr.flat _ e j c he hj)
      obtain ⟨m1,m2⟩:=Zbb hmc
      obtain ⟨c0,hc0,hfc⟩:=m2 j c' hj
      obtain ⟨rv,r1,r2,_⟩:=b6 _ e j c0 he hc0
      exact ⟨ZgD hfc (hr.flat _ e j c0 he hc0),rv,r1,ih m (by omega) hfc r2⟩
     have szok:∀ i e',nth es' i = some e' → e'.cells.length = ob.esz:=by
      intro i e' hi
      obtain ⟨e,he,hfr,hlt⟩:=elem i e' hi
      obtain ⟨m,hm,hmc⟩:=ZfQ hfr (fun j c hj=>hr.flat _ e j c he hj)
      rw [← (Zbb hmc).1]
      exact hr.sz _ e he
     have hA:es' = [] ∨ A = some ⟨x.2.1,(x.2.2.2.2 + off) * ob.esz,none⟩:=by
      rcases p3 with rfl | rfl
      ·left
       have:len = 0:=by omega
       apply List.eq_nil_of_length_eq_zero
       rw [← q1,hyl,this]
      ·right; rw [hr.esz]
     have mk:∀ f:Fl,f.lv = (!view) → (f = .bor → (!view) = false) → DR g' w (!view) (.list ob.esz es' f) (.slice A len c):=by
      intro f hlv hfb
      refine .list ob.esz es' f A len c x.2.1 ((x.2.2.2.2 + off) * ob.esz) (fun i j=>(arr[(x.2.2.2.2 + (off + i)) * ob.esz + j]?).getD undef) (by rw [← q1,hyl]) hc hfb hA szok (fun i e j c h1 h2=>(cellsok i e j c h1 h2).1) ?_ ?_ ?_
      ·intro i e j c h1 h2
       obtain ⟨_,rv,r1,_⟩:=cellsok i e j c h1 h2
       rw [hlv]; exact hobj oo x _ hx (by rw [← b2]; have:=(Array.getElem?_eq_some_iff.1 r1).1; omega)
      ·intro i e j c h1 h2
       obtain ⟨_,rv,r1,r2⟩:=cellsok i e j c h1 h2
       rw [r1]
       have:(x.2.2.2.2 + off) * ob.esz + i * ob.esz + j = (x.2.2.2.2 + (off + i)) * ob.esz + j:=by simp only [Nat.add_mul]; omega
       rw [this]
       exact Zap (b1 (by rw [← b2]; have:=(Array.getElem?_eq_some_iff.1 r1).1; omega)) r1
      ·intro i e j c h1 h2
       obtain ⟨_,rv,r1,r2⟩:=cellsok i e j c h1 h2
       rw [r1,hlv]
       exact r2
     cases view with
     | true =>
      simp only at h2
      obtain rfl:=Option.some.inj h2
      have hm:=mk .bor rfl (fun _=>rfl)
      exact hm.lentEs (hsub' rfl)
     | false =>
      simp only at h2
      obtain ⟨_,h3⟩:=Zaa h2
      obtain rfl:=Option.some.inj h3
      exact mk .sh rfl (by simp)
def Zft (P:Program) (f:FuncId) (rvs:Array Value) (w:World) (T:Value → World → Prop):Prop :=
 ∀ (o:Oper) (a:Act) (next:Act → World → Prop) (Q:Exit → Act → World → Prop),(∀ v w',T v w' → next (a.put o.dst v) w') → o.upon P a next Q ((callFunc f rvs).run P w)
theorem Zft.of_calls {f : FuncId} {fn : Func} {rvs : Array Value} {w : World} {T : Value → World → Prop} (hf : P.funcs[f]? = some fn) (hb : fn.body.isNone = false) (hn : (fn.name == "runtime.NumGoroutine") = false)
  (h:Calls P f rvs w fun e w'=>∃ v,e = .returned v ∧ T v w'):Zft P f rvs w T:=by
 intro o a next Q hnext
 have:(callFunc f rvs).run P w = .ok (.enter f rvs) w:=by
  have hn' : ¬ fn.name = "runtime.NumGoroutine" := by simpa using hn
  have hb':¬ fn.body = none:=by intro h; rw [h] at hb; cases hb
  simp [callFunc,hf,hb',hn']
 rw [this,Oper.upon_enter]
 refine h.mono fun e w' he=>?_
 obtain ⟨v,rfl,hv⟩:=he
 exact hnext v w' hv
def ZqH (P:Program) (f:FuncId) (as:List V) (v:V):Prop :=
 v.still ∧ ∀ (g:G) (w:World) (rvs:Array Value),Sub g → (∀ b i,g.imm b i → b < w.heap.size) → as.length = rvs.size → (∀ (i:Nat) (c:V) (rv:Value),nth as i = some c → rvs[i]? = some rv → DR g w false c rv ∧ c.still) →
  Zft P f rvs w fun rv w'=>w.heap.size ≤ w'.heap.size ∧ (∀ b,b < w.heap.size → w'.heap[b]? = w.heap[b]?) ∧ w'.os = w.os ∧ w'.tape = w.tape ∧ w'.output = w.output ∧
   ∃ N:Nat → Nat → Prop,(∀ b i,N b i → w.heap.size ≤ b ∧ b < w'.heap.size) ∧ DR (g.more N) w' true v rv
def Zfz (P:Program) (C:Cfg) (f:FuncId) (as:List V) (v:V):Prop :=
 ∃ sz es e,v = .list sz es (.own e) ∧ (C.ty e).known = true ∧ sz = (C.ty e).size ∧
 ∀ (g:G) (w:World) (rvs:Array Value),Sub g → (∀ b i,g.imm b i → b < w.heap.size) → as.length = rvs.size → (∀ (i:Nat) (c:V) (rv:Value),nth as i = some c → rvs[i]? = some rv → DR g w false c rv ∧ c.still) →
  Zft P f rvs w fun rv w'=>w.heap.size ≤ w'.heap.size ∧ (∀ b,b < w.heap.size → w'.heap[b]? = w.heap[b]?) ∧ w'.os = w.os ∧ w'.tape = w.tape ∧ w'.output = w.output ∧
   ∃ N:Nat → Nat → Prop,(∀ b i,N b i → w.heap.size ≤ b ∧ b < w'.heap.size) ∧ DR (g.more N) w' true v rv ∧ (∃ xs,w'.ownsRow w.heap.size e (C.ty e).size rv es.length xs) ∧
    ∀ b,rv.ownBlock = some b → ∀ i,es.length * (C.ty e).size ≤ i → ¬ N b i
def ZaI:Act:={ tmps:=#[],defers:=[] }
def ZaW (P:Program) (C:Cfg) (f:FuncId) (as:List V) (s:S) (v:V) (s':S):Prop :=
 v.still ∧ s.length ≤ s'.length ∧ ∀ (g:G) (w:World) (rvs:Array Value) (keep:Nat),keep ≤ s.length → Sim C g [] s ZaI w → as.length = rvs.size →
  (∀ (i:Nat) (c:V) (rv:Value),nth as i = some c → rvs[i]? = some rv → VR g w c rv ∧ c.still) →
  Zft P f rvs w fun rv w'=>∃ g',Le keep g w g' w' ∧ Sim C g' [] s' ZaI w' ∧ VR g' w' v rv
def firmC:V → Bool
 | .list _ _ .bor=>false
 | .agg _=>false
 | .tuple _=>false
 | .cptr _=>false
 | .fn _ caps=>caps.isEmpty
 | _=>true
def firm1:V → Bool
 | .agg cs=>cs.all firmC
 | v=>firmC v
def V.firm:V → Bool
 | .tuple vs=>vs.all firm1
 | v=>firm1 v
def ZbK:V → Bool
 | .arr ..=>false
 | .ptr ..=>false
 | .agg _=>false
 | .tuple _=>false
 | .cptr _=>false
 | .fn _ caps=>caps.isEmpty
 | _=>true
def Zaw (es:List V):Bool:=es.all fun e=>e.cells.all ZbK
def ZcK (P:Program) (C:Cfg) (f:FuncId) (as:List V) (v:V) (s':S):Prop :=
 v.firm = true ∧ (∀ o ob,nth s' o = some (some ob) → (∀ i e,nth ob.es i = some e → firm1 e = true) ∧ (C.rl ob.elem = true → Zaw ob.es = true)) ∧ ZaW P C f as [] v s'
def Zab (P:Program) (C:Cfg) (Φ:Zat):Prop:=∀ (R:Type) (f:FuncId) (as:List V) (s:S) (K:V → S → Option R) (r:R),Φ R f as s K = some r →
 match C.mode f with
 | .pure=>s = [] → ∃ v,K v [] = some r ∧ ZqH P f as v
 | .shared=>∃ v s',K v s' = some r ∧ ZaW P C f as s v s'
 | .own=>s = [] → ∃ v,K v [] = some r ∧ Zfz P C f as v
 | .fresh=>s = [] → ∃ v s',K v s' = some r ∧ ZcK P C f as v s'
end
end Go.VM
