/- More operations that write nothing: loads, cuts, moves, structs. -/
import Derived.Test.YtkchbabkbpcncaaVmD
set_option linter.unusedSimpArgs false
set_option linter.unusedVariables false
namespace Go.VM
open Go.RowKit
section
variable {P:Program} {C:Cfg} {o:Oper} {E:List V} {s:S}
theorem ZaY {s:S} {o ver:Nat} {ob:Ob} (h:Zbs s o ver = some ob):nth s o = some (some ob) ∧ ver = ob.ver:=by
 unfold Zbs at h
 split at h <;> first | (cases h; done) | skip
 rename_i ob' hob'
 split at h <;> first | (cases h; done) | skip
 rename_i hver
 obtain rfl:=Option.some.inj h
 exact ⟨hob',hver⟩
theorem ZbQ {α:Type} {l:List α} {k j:Nat} {x:α} (h:nth (l.drop k) j = some x):nth l (k + j) = some x:=by
 rw [Zad] at h ⊢; rwa [List.getElem?_drop] at h
theorem ZbP {α:Type} {l:List α} {k j:Nat} {x:α} (h:nth (l.take k) j = some x):nth l j = some x ∧ j < k:=by
 rw [Zad] at h ⊢
 rw [List.getElem?_take] at h
 split at h
 ·exact ⟨h,by assumption⟩
 ·cases h
theorem ZlO {α β:Type} {l:List α} {f:α → β} {j:Nat} {x:β} (h:nth (l.map f) j = some x):∃ y,nth l j = some y ∧ f y = x:=by
 rw [Zad,List.getElem?_map] at h
 rw [Zad]
 cases hl:l[j]? with
 | none=>rw [hl] at h; cases h
 | some y=>rw [hl] at h; exact ⟨y,rfl,Option.some.inj h⟩
theorem ZoI {R:Type} {p:V} {K:List V → Option R} {r:R} (h:ZlU s p K = some r):∃ cs,K cs = some r ∧
  ∀ (C:Cfg) g E a w rv,Sim C g E s a w → VR g w p rv → ∃ (b off:Nat),rv = .pointer (some ⟨b,off,none⟩) ∧ ∀ j x,nth cs j = some x → ∃ cv,w.cell? ⟨b,off + j,none⟩ = some cv ∧ VR g w x cv:=by
 unfold ZlU at h
 split at h
 ·rename_i o ver i j
  split at h <;> first | (cases h; done) | skip
  rename_i ob hob
  split at h <;> first | (cases h; done) | skip
  rename_i e he
  refine ⟨_,h,fun C g E a w rv hs hp=>?_⟩
  obtain ⟨h1,h2⟩:=ZaY hob
  obtain ⟨x,hx,hr⟩:=hs.obj o ob h1
  obtain ⟨arr,cap,b1,b2,b3,b4,b5,b7,b6⟩:=hr.blk
  cases hp with
  | data h=>cases h
  | ptr _ _ _ _ a' hlt hh =>
   have ha:=(hh x hx).2 (by rw [hr.ver]; exact h2)
   refine ⟨x.2.1,(x.2.2.2.2 + i) * x.2.2.1 + j,by rw [ha],fun jj y hy=>?_⟩
   obtain ⟨rv,r1,r2,_⟩:=b6 i e (j + jj) y he (ZbQ hy)
   refine ⟨rv,?_,r2⟩
   simp only [World.cell?,b1 (hr.real he (ZbQ hy)),Option.isSome_none,Bool.false_eq_true,if_false]
   rw [← r1,hr.esz,Nat.add_assoc]
 ·rename_i cs
  refine ⟨cs,h,fun C g E a w rv hs hp=>?_⟩
  cases hp with
  | data h=>cases h
  | cptr cs b off cv hi hw hd=>exact ⟨b,off,rfl,fun j x hx=>⟨cv j,hw j x hx,.data (hd j x hx)⟩⟩
 ·cases h
theorem ZkD {P:Program} {t:TypeId} {d:TypeDesc} (h:P.underlying t = some d) (w:World):(isAgg t).run P w = .ok (match d with | .struct _ | .array _ _=>true | _=>false) w:=by
 simp only [isAgg,Sem.run_bind,Zag h,Result.andThen_ok]
 cases d <;> rfl
theorem Zpz (hC:Ok P C) {t:TypeId} (hk:(C.ty t).known = true) (ha:(C.ty t).agg = true) (w:World):(isAgg t).run P w = .ok true w:=by
 have:=(hC.ty t hk).agg
 rw [if_pos ha] at this
 obtain ⟨fs,hf⟩:=this
 rw [ZkD hf]
theorem Zdf (hC:Ok P C) {t:TypeId} (hk:(C.ty t).known = true) (ha:(C.ty t).agg = false) (w:World):(isAgg t).run P w = .ok false w:=by
 have:=(hC.ty t hk).agg
 rw [if_neg (by simp [ha])] at this
 obtain ⟨d,hd,h1,h2⟩:=this
 rw [ZkD hd]
 cases d <;> first | rfl | exact absurd rfl (h1 _) | exact absurd rfl (h2 _ _)
def Zky (C:Cfg) (t:TypeId) (T:Ty):Prop:=T.agg = (C.ty t).agg ∧ T.size = (C.ty t).size ∧ T.shs.length = (C.ty t).shs.length
theorem Zky.refl (C:Cfg) (t:TypeId):Zky C t (C.ty t):=⟨rfl,rfl,rfl⟩
theorem Zky.loose (C:Cfg) (t:TypeId):Zky C t (C.ty t).loose:=⟨rfl,rfl,by simp [Ty.loose]⟩
theorem Zky.lty (C:Cfg) (s:S) (p:V) (t:TypeId):Zky C t (C.lty s p t):=by
 unfold Cfg.lty
 split
 ·exact .refl C t
 ·split
  ·split
   ·exact .loose C t
   ·exact .refl C t
  ·exact .refl C t
theorem ZnT {R:Type} (hC:Ok P C) {t:TypeId} {T:Ty} (hT:Zky C t T) {p:V} {K:V → Option R} {r:R} (hk:(C.ty t).known = true) (h:ZoD T s p K = some r) :
  ∃ v,K v = some r ∧ v.still ∧ ∀ g E a w rv,Sim C g E s a w → VR g w p rv → ∃ rv',(do loadVar t (← Instr.sureAddr rv):Sem Value).run P w = .ok rv' w ∧ VR g w v rv' ∧
   (∃ ad,rv = .pointer (some ad) ∧ (loadVar t ad).run P w = .ok rv' w):=by
 unfold ZoD at h
 obtain ⟨cs,h1,h2⟩:=ZoI h
 rw [hT.1,hT.2.1] at h1
 have hty:=hC.ty t hk
 obtain ⟨i,z,hi,hsz,_⟩:=hty.info
 cases hag:(C.ty t).agg with
 | true =>
  rw [hag] at h1
  obtain ⟨h3,h4⟩:=ZdV h1
  rw [hT.2.2,hty.shs,List.length_take] at h3
  refine ⟨_,h4,⟨by simp,fun cs' hv i sz es e hc=>?_,by simp⟩,fun g E a w rv hs hp=>?_⟩
  ·cases hv
   obtain ⟨y,_,hy⟩:=Zac hc
   exact ZbY y sz es e hy
  obtain ⟨b,off,rfl,h5⟩:=h2 C g E a w rv hs hp
  let f:Nat → Value:=fun j=>(w.cell? ⟨b,off + j,none⟩).getD undef
  have hc:∀ j,j < (C.ty t).size → w.cell? ((⟨b,off,none⟩:Addr).add j) = some (f j):=by
   intro j hj
   obtain ⟨x,hx⟩:∃ x,nth cs j = some x:=⟨cs[j]'(by omega),by rw [Zad,List.getElem?_eq_getElem]⟩
   obtain ⟨cv,h6,_⟩:=h5 j x hx
   rw [ZbL]
   show _ = some ((w.cell? ⟨b,off + j,none⟩).getD undef)
   rw [h6]; rfl
  have hl:=run_loadCells (P:=P) w ⟨b,off,none⟩ (C.ty t).size f hc
  have hv:VR g w (.agg ((cs.take (C.ty t).size).map V.noOwnCell)) (.agg ((List.range (C.ty t).size).map f).toArray):=by
   refine .agg _ _ (by simp; omega) fun j c v hj hv=>?_
   obtain ⟨y,hy,rfl⟩:=ZlO hj
   obtain ⟨hy1,hy2⟩:=ZbP hy
   obtain ⟨cv,h6,h7⟩:=h5 j y hy1
   have:v = f j:=by
    rw [Zad] at hv
    simp at hv
    obtain ⟨j',hj',rfl⟩:=hv
    simp [List.getElem?_range hy2] at hj'
    rw [hj']
   rw [this]
   show VR g w _ ((w.cell? ⟨b,off + j,none⟩).getD undef)
   rw [h6]; exact h7.noOwnCell
  have hld:(loadVar t ⟨b,off,none⟩).run P w = .ok (.agg ((List.range (C.ty t).size).map f).toArray) w:=by
   simp [loadVar,Zpz hC hk hag,ZaG hi,hsz,hl]
  exact ⟨_,by simp [Instr.sureAddr,hld],hv,_,rfl,hld⟩
 | false =>
  rw [hag] at h1
  obtain ⟨c,m,rfl,h3⟩:=ZcF h1
  split at h3 <;> first | (cases h3; done) | skip
  have h4:=ZeT h3
  refine ⟨_,h4,⟨ZbY c,fun cs' hv i sz es e hc=>?_,ZdK c⟩,fun g E a w rv hs hp=>?_⟩
  ·cases c <;> simp [V.noOwnCell] at hv
   exact absurd rfl (ZgU h3 _)
  obtain ⟨b,off,rfl,h5⟩:=h2 C g E a w rv hs hp
  obtain ⟨cv,h6,h7⟩:=h5 0 c rfl
  have hld:(loadVar t ⟨b,off,none⟩).run P w = .ok cv w:=by
   simp only [Nat.add_zero] at h6
   simp [loadVar,Zdf hC hk hag,h6]
  exact ⟨cv,by simp [Instr.sureAddr,hld],h7.noOwnCell,_,rfl,hld⟩
theorem Zlo {R:Type} (hC:Ok P C) {t:TypeId} {T:Ty} (hT:Zky C t T) {x:Operand} {p:V} {K:V → Option R} {r:R} (hk:(C.ty t).known = true) (ho:o.op = .load t x) (hx:ev E x = some p)
  (h:ZoD T s p K = some r):∃ v,K v = some r ∧ Zbi P C o E s v E s:=by
 obtain ⟨v,h1,h2,h3⟩:=ZnT hC hT hk h
 refine ⟨v,h1,Zbi.calm h2 fun g a w hs=>?_⟩
 obtain ⟨rv',h4,h5,_⟩:=h3 g E a w _ hs (hs.ev hx).1
 refine ⟨rv',?_,h5⟩
 simp only [execOp,ho,Instr.loadAt]
 exact ZbJ h4
theorem ZqF {R:Type} {c x y:Operand} {cv:V} {K:V → Option R} {r:R} (ho:o.op = .pick c x y) (hc:ev E c = some cv)
  (h:(asBool cv fun t=>match t with | true=>ZbA (ev E x) fun v=>K v.noOwn | false=>ZbA (ev E y) fun v=>K v.noOwn) = some r):∃ v,K v = some r ∧ Zbi P C o E s v E s:=by
 obtain ⟨t,rfl,h2⟩:=ZcN h
 cases t with
 | true =>
  obtain ⟨v,hv,h3⟩:=Zae h2
  refine ⟨_,h3,Zbi.calm (ZaA v) fun g a w hs=>?_⟩
  have e1:=(hs.ev hc).1.bool_inv
  exact ⟨_,by simp [execOp,ho,e1,Go.asBool],(hs.ev hv).1.noOwn⟩
 | false =>
  obtain ⟨v,hv,h3⟩:=Zae h2
  refine ⟨_,h3,Zbi.calm (ZaA v) fun g a w hs=>?_⟩
  have e1:=(hs.ev hc).1.bool_inv
  exact ⟨_,by simp [execOp,ho,e1,Go.asBool],(hs.ev hv).1.noOwn⟩
theorem Zb8 {x:Operand} {v:V} (ho:o.op = .nilCheck x) (hx:ev E x = some v) (hv:(∃ a b c d,v = .ptr a b c d) ∨ (∃ cs,v = .cptr cs) ∨ ∃ f cs,v = .fn f cs):Zbi P C o E s v E s:=by
 refine Zbi.calm (by rcases hv with ⟨a,b,c,d,rfl⟩ | ⟨cs,rfl⟩ | ⟨f,cs,rfl⟩ <;> simp [V.still]) fun g a w hs=>?_
 have hp:=(hs.ev hx).1
 generalize hr:a.eval x = rv at hp
 refine ⟨rv,?_,hp⟩
 rcases hv with ⟨a,b,c,d,rfl⟩ | ⟨cs,rfl⟩ | ⟨f,cs,rfl⟩
 ·cases hp with
  | data h=>cases h
  | ptr _ _ _ _ ad h1 h2=>simp [execOp,ho,hr]
 ·cases hp with
  | data h=>cases h
  | cptr cs b off cv h1 h2 h3=>simp [execOp,ho,hr]
 ·obtain ⟨vs,rfl,_,_⟩:=hp.fn_inv
  simp [execOp,ho,hr]
theorem Zoc (hC:Ok P C) {t ft:TypeId} {x:Operand} {i off:Nat} {cs:List V} {c:V} (hk:(C.ty t).known = true) (hkf:(C.ty ft).known = true) (haf:(C.ty ft).agg = false) (ho:o.op = .field t x i)
  (hx:ev E x = some (.agg cs)) (hft:nth (C.ty t).ftys i = some ft) (hoff:nth (C.ty t).offs i = some off) (hc:nth cs off = some c):Zbi P C o E s c.noOwn E s:=by
 refine Zbi.calm (ZaA c) fun g a w hs=>?_
 obtain ⟨rs,h1,h2,h3⟩:=(hs.ev hx).1.agg_inv
 have hi:off < rs.length:=by rw [← h2]; exact Zau hc
 obtain ⟨fs,fl,q1,q2,q3⟩:=hC.ftys t i ft hft
 obtain ⟨fs',fl',j,p1,p2,p3,p4,p5⟩:=(hC.ty t hk).offs i off hoff
 rw [q1] at p1
 injection p1 with p1
 injection p1 with p1
 subst p1
 rw [q2] at p2
 obtain rfl:=Option.some.inj p2
 refine ⟨rs[off],?_,(h3 off c _ hc (by rw [Zad,List.getElem?_eq_getElem hi])).noOwn⟩
 have hag:=Zdf hC hkf haf w
 rw [← q3] at hag
 simp only [execOp,ho]
 refine ZbJ ?_
 simp [h1,Instr.field,Zag q1,q2,Go.asAgg,part,hag,p3,hi]
theorem Zh0 {x:Operand} {i:Nat} {vs:List V} {v:V} (ho:o.op = .extract x i) (hx:ev E x = some (.tuple vs)) (hv:nth vs i = some v):Zbi P C o E s v.noOwn E s:=by
 refine Zbi.calm (ZaA v) fun g a w hs=>?_
 obtain ⟨rs,h1,h2,h3⟩:=(hs.ev hx).1.tuple_inv
 have hi:i < rs.length:=by rw [← h2]; exact Zau hv
 refine ⟨rs[i],?_,(h3 i v _ hv (by rw [Zad,List.getElem?_eq_getElem hi])).noOwn⟩
 simp [execOp,ho,h1,Instr.extract,hi]
theorem Zbb {α β:Type} {f:α → Option β}:∀ {l:List α} {m:List β},ZaK f l = some m → l.length = m.length ∧ ∀ (i:Nat) (b:β),nth m i = some b → ∃ a,nth l i = some a ∧ f a = some b
 | [],m,h=>by
  simp only [ZaK] at h
  obtain rfl:=Option.some.inj h
  exact ⟨rfl,fun i b h=>by cases i <;> simp [nth] at h⟩
 | a :: l,m,h=>by
  simp only [ZaK] at h
  split at h <;> first | (cases h; done) | skip
  rename_i b hb
  split at h <;> first | (cases h; done) | skip
  rename_i l' hl'
  obtain rfl:=Option.some.inj h
  obtain ⟨h1,h2⟩:=Zbb hl'
  refine ⟨by simp [h1],fun i c hc=>?_⟩
  cases i with
  | zero=>simp [nth] at hc; subst hc; exact ⟨a,rfl,hb⟩
  | succ i=>exact h2 i c hc
theorem Zlx {f:FuncId} {first caps:Array Operand} {vs:List V} (ho:o.op = .makeFunc (.func f) first caps) (hf:first.toList = []) (hv:ZaK (ev E) caps.toList = some vs) :
  Zbi P C o E s (.fn f (vs.map V.noOwn)) E s:=by
 refine Zbi.calm (by simp [V.still]) fun g a w hs=>?_
 obtain ⟨h1,h2⟩:=Zbb hv
 have hf':first = #[]:=by simpa using hf
 refine ⟨.func (.func f) #[] (caps.toList.map a.eval).toArray,?_,.fn f _ _ (by simp [h1]) fun i c v hc hv'=>?_⟩
 ·have e:(caps.toList.map a.eval).toArray = caps.map a.eval:=by apply Array.ext'; simp
  simp [execOp,ho,Instr.makeFunc,hf',e]
 ·obtain ⟨y,hy,rfl⟩:=ZlO hc
  obtain ⟨x,hx,hev⟩:=h2 i y hy
  obtain ⟨x',hx',rfl⟩:=ZlO hv'
  have:x' = x:=by rw [hx] at hx'; exact (Option.some.inj hx').symm
  subst this
  exact (hs.ev hev).1.noOwn
theorem ZqM {P:Program} {w:World} {o:Option V} {ro:Option Value} {d m M b:Nat} {code:BoundsCode} (hb:ZoN o d m = some b) (hM:m ≤ M)
  (hr:(o = none ∧ ro = none) ∨ ∃ v rv,o = some v ∧ ro = some rv ∧ ∀ k n,v = .int k n → rv = .int k n) :
  (match ro with | some v=>Instr.sliceBound v M code | none=>pure d).run P w = .ok b w ∧ (o = none → b = d) ∧ (d ≤ m → b ≤ m):=by
 rcases hr with ⟨rfl,rfl⟩ | ⟨v,rv,rfl,rfl,h⟩
 ·simp only [ZoN] at hb
  obtain rfl:=Option.some.inj hb
  exact ⟨rfl,fun _=>rfl,fun h=>h⟩
 ·unfold ZoN at hb
  split at hb <;> first | (cases hb; done) | skip
  ·rename_i heq
   cases heq
  ·rename_i k n heq
   obtain rfl:=Option.some.inj heq
   split at hb <;> first | (cases hb; done) | skip
   rename_i hn
   obtain rfl:=Option.some.inj hb
   obtain rfl:=h k n rfl
   exact ⟨run_sliceBound w k n M code hn.1 (by omega),(fun h=>by cases h),(fun _=>by omega)⟩
theorem ZhO {g:G} {a:Act} {w:World} (hs:Sim C g E s a w) {lo:Option Operand} {l:List V} (h:ZaK (ev E) lo.toList = some l) :
  (nth l 0 = none ∧ lo.map a.eval = none) ∨ ∃ v rv,nth l 0 = some v ∧ lo.map a.eval = some rv ∧ ∀ k n,v = .int k n → rv = .int k n:=by
 cases lo with
 | none=>simp [ZaK] at h; subst h; exact .inl ⟨rfl,rfl⟩
 | some x =>
  simp only [Option.toList,ZaK] at h
  cases he:ev E x with
  | none=>rw [he] at h; cases h
  | some v =>
   rw [he] at h
   obtain rfl:=Option.some.inj h
   refine .inr ⟨v,a.eval x,rfl,rfl,fun k n hv=>?_⟩
   subst hv
   exact (hs.ev he).1.int_inv
theorem ZcO {P:Program} {w:World} {lo hi:Option V} {rlo rhi:Option Value} {isS:Bool} {len cap l h:Nat} (hh:ZoN hi len len = some h) (hl:ZoN lo 0 h = some l) (hc:len ≤ cap)
  (r1:(hi = none ∧ rhi = none) ∨ ∃ v rv,hi = some v ∧ rhi = some rv ∧ ∀ k n,v = .int k n → rv = .int k n)
  (r2:(lo = none ∧ rlo = none) ∨ ∃ v rv,lo = some v ∧ rlo = some rv ∧ ∀ k n,v = .int k n → rv = .int k n) :
  (Instr.sliceBounds isS len cap rlo rhi none).run P w = .ok (l,h,cap) w ∧ l ≤ h ∧ h ≤ len:=by
 obtain ⟨a1,_,a3⟩:=ZqM (P:=P) (w:=w) (code:=if isS then .sliceAcap else .sliceAlen) hh hc r1
 obtain ⟨b1,_,b3⟩:=ZqM (P:=P) (w:=w) (code:=if (none:Option Value).isSome then .slice3C else .sliceB) hl (Nat.le_refl h) r2
 refine ⟨?_,b3 (Nat.zero_le _),a3 (Nat.le_refl _)⟩
 unfold Instr.sliceBounds
 cases rhi with
 | none =>
  cases rlo with
  | none=>simp at a1 b1; simp [a1,b1]
  | some y=>simp at a1 b1; simp [a1,b1]
 | some x =>
  cases rlo with
  | none=>simp at a1 b1; simp [a1,b1]
  | some y=>simp at a1 b1; simp [a1,b1]
theorem Zd4 {P:Program} {w:World} {t:TypeId} {x:Value} {lo hi mx:Option Value} {d:TypeDesc} (h:P.underlying t = some d) (hd:∀ n e,d ≠ .array n e) :
  (Instr.sliceAt t x lo hi mx).run P w = (Instr.slice t x lo hi mx).run P w:=by
 cases d <;> first | (simp [Instr.sliceAt,Zag h]; done) | exact absurd rfl (hd _ _)
theorem Zk0 (hC:Ok P C) {t:TypeId} {x:Operand} {lo hi:Option Operand} {l h:List V} {a v:V} (hk:(C.ty t).known = true) (hst:(C.ty t).str = true) (ho:o.op = .slice t x lo hi none)
  (hx:ev E x = some a) (hl:ZaK (ev E) lo.toList = some l) (hh:ZaK (ev E) hi.toList = some h) (hv:Zn5 a (nth l 0) (nth h 0) = some v):Zbi P C o E s v E s:=by
 unfold Zn5 at hv
 split at hv <;> first | (cases hv; done) | skip
 rename_i sv
 split at hv <;> first | (cases hv; done) | skip
 rename_i hb hhb
 split at hv <;> first | (cases hv; done) | skip
 rename_i lb hlb
 obtain rfl:=Option.some.inj hv
 refine Zbi.calm (by simp [V.still]) fun g ac w hs=>?_
 have e1:=(hs.ev hx).1.str_inv
 have hu:=(hC.ty t hk).str hst
 obtain ⟨r,_,_⟩:=ZcO (P:=P) (w:=w) (isS:=false) hhb hlb (Nat.le_refl _) (ZhO hs hh) (ZhO hs hl)
 refine ⟨.string (sv.extract lb hb),?_,.data (.str _)⟩
 simp only [execOp,ho,e1]
 refine ZbJ ?_
 simp only [Option.map_none]
 rw [Zd4 hu (by simp)]
 simp [Instr.slice,Zag hu,r]
theorem ZqV (hC:Ok P C) {t te:TypeId} {x:Operand} {lo hi:Option Operand} {l h:List V} {a v:V} (hk:(C.ty t).known = true) (hte:(C.ty t).elem = some te) (hke:(C.ty te).known = true)
  (ho:o.op = .slice t x lo hi none) (hx:ev E x = some a) (hl:ZaK (ev E) lo.toList = some l) (hh:ZaK (ev E) hi.toList = some h)
  (hv:ZvF (C.ty te).size s a (nth l 0) (nth h 0) = some v):Zbi P C o E s v E s:=by
 have hu:=(hC.ty t hk).elem te hte
 obtain ⟨i,z,hi',hsz,_⟩:=(hC.ty te hke).info
 have run:∀ (w:World) (A:Option Addr) (n c lb hb:Nat) (rl rh:Option Value),(Instr.sliceBounds true n c rl rh none).run P w = .ok (lb,hb,c) w →
   (Instr.sliceAt t (.slice A n c) rl rh none).run P w = .ok (.slice (if c = lb then A else A.map (·.add (lb * (C.ty te).size))) (hb - lb) (c - lb)) w:=by
  intro w A n c lb hb rl rh hr
  rw [Zd4 hu (by simp)]
  simp [Instr.slice,Zag hu,hr,ZaG hi',hsz]
 unfold ZvF at hv
 split at hv <;> first | (cases hv; done) | skip
 ·rename_i sz es f
  split at hv <;> first | (cases hv; done) | skip
  rename_i hb hhb
  split at hv <;> first | (cases hv; done) | skip
  rename_i lb hlb
  obtain ⟨hbz,hv2⟩:=Zaa hv
  clear hv
  obtain rfl:=Option.some.inj hv2
  have hez:sz = (C.ty te).size:=Nat.eq_of_beq_eq_true hbz
  refine Zbi.calm ⟨fun sz' es' e h=>?_,by simp⟩ fun g ac w hs=>?_
  ·cases f <;> simp [Fl.noOwn] at h
  obtain ⟨A,n,c,b,off,cv,e1,hn,hc,hA,hs1,hf1,ho1,hw1,hd1⟩:=Znb (hs.ev hx).1.list_inv
  obtain ⟨r,h1,h2⟩:=ZcO (P:=P) (w:=w) (isS:=true) hhb hlb (by omega:es.length ≤ c) (ZhO hs hh) (ZhO hs hl)
  rw [← hn] at r
  refine ⟨_,by simp only [execOp,ho,e1]; exact ZbJ (run w A n c lb hb _ _ r),.data ?_⟩
  have hg:∀ i e,nth ((es.take hb).drop lb) i = some e → nth es (lb + i) = some e:=fun i e h=>(ZbP (ZbQ h)).1
  have hlv:f.noOwn.lv = f.lv:=by cases f <;> rfl
  refine .list sz _ f.noOwn _ _ _ b (off + lb * sz) (fun i j=>cv (lb + i) j) (by simp; omega) (by omega) (fun _=>rfl) ?_ (fun i e h=>hs1 _ e (hg i e h)) (fun i e j x h h'=>hf1 _ e j x (hg i e h) h') ?_ ?_ ?_
  ·by_cases hz:(es.take hb).drop lb = []
   ·exact .inl hz
   ·have:lb < hb:=by
     rcases Nat.lt_or_ge lb hb with h | h
     ·exact h
     ·exact absurd (List.drop_of_length_le (by simp; omega)) hz
    have hne:es ≠ []:=by intro h; subst h; simp at hz
    rw [hA.resolve_left hne,if_neg (by omega),hez]
    exact .inr (by simp [ZbL])
  ·intro i e j x' h3 h4
   rw [hlv,show off + lb * sz + i * sz + j = off + (lb + i) * sz + j by rw [Nat.add_mul]; omega]
   exact ho1 _ e j x' (hg i e h3) h4
  ·intro i e j x' h3 h4
   rw [show off + lb * sz + i * sz + j = off + (lb + i) * sz + j by rw [Nat.add_mul]; omega]
   exact hw1 _ e j x' (hg i e h3) h4
  ·intro i e j x' h3 h4
   rw [hlv]
   exact hd1 _ e j x' (hg i e h3) h4
 ·rename_i o' ver off len
  split at hv <;> first | (cases hv; done) | skip
  rename_i ob hob
  split at hv <;> first | (cases hv; done) | skip
  rename_i hb hhb
  split at hv <;> first | (cases hv; done) | skip
  rename_i lb hlb
  obtain ⟨hbz,hv2⟩:=Zaa hv
  clear hv
  obtain rfl:=Option.some.inj hv2
  have hez:ob.esz = (C.ty te).size:=Nat.eq_of_beq_eq_true hbz
  obtain ⟨h8,h9⟩:=ZaY hob
  refine Zbi.calm (by simp [V.still]) fun g ac w hs=>?_
  have hp:=(hs.ev hx).1
  generalize hr:ac.eval x = rv at hp
  cases hp with
  | data h=>cases h
  | arr _ _ _ _ A c hc hlt hh' =>
   obtain ⟨r,h1,h2⟩:=ZcO (P:=P) (w:=w) (isS:=true) hhb hlb hc (ZhO hs hh) (ZhO hs hl)
   obtain ⟨xx,hxx,hr2⟩:=hs.obj o' ob h8
   refine ⟨_,by simp only [execOp,ho,hr]; exact ZbJ (run w A len c lb hb _ _ r),.arr _ _ _ _ _ _ (by omega) hlt fun y hy=>⟨(hh' y hy).1,fun e=>?_⟩⟩
   have hyx:y = xx:=Option.some.inj (Option.some.inj (hy.symm.trans hxx))
   obtain ⟨h6,h7⟩:=(hh' y hy).2 e
   have hsz2:y.2.2.1 = (C.ty te).size:=by rw [hyx,hr2.esz,hez]
   refine ⟨?_,by rw [show y.2.2.2.2 + (off + lb) + (c - lb) = y.2.2.2.2 + off + c by omega]; exact h7⟩
   by_cases hcl:c = lb
   ·exact .inl (by omega)
   ·rw [if_neg hcl]
    rcases h6 with h6 | h6
    ·omega
    ·rw [h6,← hsz2]
     exact .inr (by simp [ZbL,Nat.add_mul,Nat.add_assoc])
end
end Go.VM
