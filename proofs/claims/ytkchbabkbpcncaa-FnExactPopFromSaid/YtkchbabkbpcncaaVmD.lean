/- Each operation that writes no memory of the program's: what it comes to over plain values, it comes to in the machine. -/
import Derived.Test.YtkchbabkbpcncaaVmC
import Derived.Laws.Slices
import Derived.Laws.Small
import Derived.Laws.Cells
set_option linter.unusedSimpArgs false
set_option linter.unusedVariables false
namespace Go.VM
open Go.RowKit
structure TyOk (P:Program) (C:Cfg) (t:TypeId):Prop where
 info:∃ i z,P.info? t = some i ∧ i.size = (C.ty t).size ∧ i.bytes = (C.ty t).bytes ∧ i.zero = some z ∧ z.cells.size = (C.ty t).size ∧ (C.ty t).zero.cells.length = (C.ty t).size ∧
  (∀ j c rv,nth (C.ty t).zero.cells j = some c → z.cells[j]? = some rv → (∀ g w l,DR g w l c rv) ∧ (∀ g w,OwnOk C g w c rv) ∧ rv.ownBlock = none) ∧
  ((C.ty t).agg = true → ∃ cs,z = .agg cs) ∧ ((C.ty t).agg = true → ∃ cs,(C.ty t).zero = .agg cs)
 pos:0 < (C.ty t).size
 bpos:0 < (C.ty t).bytes
 zflat:∀ j c,nth (C.ty t).zero.cells j = some c → c.solid = true
 shs:(C.ty t).shs.length = (C.ty t).size
 shl:(C.ty t).shl.length = (C.ty t).size
 elem:∀ e,(C.ty t).elem = some e → P.underlying t = some (.slice e)
 kind:∀ k,(C.ty t).kind = some k → P.underlying t = some (.int k)
 str:(C.ty t).str = true → P.underlying t = some .string
 bool:(C.ty t).bool = true → P.underlying t = some .bool
 agg:if (C.ty t).agg = true then ∃ fs,P.underlying t = some (.struct fs) else ∃ d,P.underlying t = some d ∧ (∀ fs,d ≠ .struct fs) ∧ ∀ n e,d ≠ .array n e
 allf:∀ fs,P.underlying t = some (.struct fs) → ∀ fl ∈ fs.toList,∃ j,P.info? fl.type = some j
 offs:∀ f off,nth (C.ty t).offs f = some off → ∃ fs fl j,P.underlying t = some (.struct fs) ∧ fs[f]? = some fl ∧ fl.offset = off ∧ P.info? fl.type = some j ∧ j.size ≠ 0
 fszs:∀ f n,nth (C.ty t).fszs f = some n → ∃ fs fl j,P.underlying t = some (.struct fs) ∧ fs[f]? = some fl ∧ P.info? fl.type = some j ∧ j.size = n
structure Ok (P:Program) (C:Cfg):Prop where
 ty:∀ t,(C.ty t).known = true → TyOk P C t
 mixed:P.follows .mixedOrders = true
 ftys:∀ t i ft,nth (C.ty t).ftys i = some ft → ∃ fs fl,P.underlying t = some (.struct fs) ∧ fs[i]? = some fl ∧ fl.type = ft
theorem Zae {R:Type} {o:Option V} {K:V → Option R} {r:R} (h:ZbA o K = some r):∃ v,o = some v ∧ K v = some r:=by
 cases o with
 | none=>cases h
 | some v=>exact ⟨v,rfl,h⟩
theorem Zaa {R:Type} {b:Bool} {x:Option R} {r:R} (h:Zaf b x = some r):b = true ∧ x = some r:=by
 cases b with
 | false=>cases h
 | true=>exact ⟨rfl,h⟩
theorem Zay {R:Type} {k:IntKind} {v:V} {f:Int → Option R} {r:R} (h:asInt k v f = some r):∃ n,v = .int k n ∧ f n = some r:=by
 cases v <;> simp only [asInt] at h <;> first | (cases h; done) | skip
 rename_i k' n
 by_cases e:k' = k
 ·rw [if_pos e] at h; subst e; exact ⟨n,rfl,h⟩
 ·rw [if_neg e] at h; cases h
theorem ZcN {R:Type} {v:V} {f:Bool → Option R} {r:R} (h:asBool v f = some r):∃ n,v = .bool n ∧ f n = some r:=by
 cases v <;> simp only [asBool] at h <;> first | (cases h; done) | exact ⟨_,rfl,h⟩
theorem Zhw {R:Type} {v:V} {f:ByteArray → Option R} {r:R} (h:Zru v f = some r):∃ n,v = .str n ∧ f n = some r:=by
 cases v <;> simp only [Zru] at h <;> first | (cases h; done) | exact ⟨_,rfl,h⟩
theorem Zas {R:Type} {sz:Nat} {v:V} {f:List V → Fl → Option R} {r:R} (h:ZaP sz v f = some r):∃ es g,v = .list sz es g ∧ f es g = some r:=by
 cases v <;> simp only [ZaP] at h <;> first | (cases h; done) | skip
 rename_i sz' es g
 split at h <;> first | (cases h; done) | skip
 rename_i hb
 rw [Nat.eq_of_beq_eq_true hb]
 exact ⟨es,g,rfl,h⟩
theorem Zdc {R:Type} {v:V} {f:List V → Option R} {r:R} (h:asAgg v f = some r):∃ n,v = .agg n ∧ f n = some r:=by
 cases v <;> simp only [asAgg] at h <;> first | (cases h; done) | exact ⟨_,rfl,h⟩
theorem ZcF {R:Type} {l:List V} {f:V → List V → Option R} {r:R} (h:ZbE l f = some r):∃ a m,l = a :: m ∧ f a m = some r:=by
 cases l with
 | nil=>cases h
 | cons a m=>exact ⟨a,m,rfl,h⟩
theorem ZhC {R:Type} {l:List V} {f:Option R} {r:R} (h:ZuR l f = some r):l = [] ∧ f = some r:=by
 cases l with
 | nil=>exact ⟨rfl,h⟩
 | cons a m=>cases h
theorem ZeT {R:Type} {sh:Sh} {v:V} {K:V → Option R} {r:R} (h:Zu4 sh v K = some r):K v = some r:=by
 cases sh with
 | int k=>obtain ⟨n,rfl,h2⟩:=Zay h; exact h2
 | bool=>obtain ⟨n,rfl,h2⟩:=ZcN h; exact h2
 | str=>obtain ⟨n,rfl,h2⟩:=Zhw h; exact h2
 | list sz=>obtain ⟨n,f,rfl,h2⟩:=Zas h; exact h2
 | any=>cases v <;> first | exact h | (cases h; done)
theorem ZgU {R:Type} {sh:Sh} {v:V} {K:V → Option R} {r:R} (h:Zu4 sh v K = some r) (cs:List V):v ≠ .agg cs:=by
 intro e
 subst e
 cases sh <;> cases h
theorem ZdV {R:Type}:∀ {shs:List Sh} {l:List V} {K:List V → Option R} {r:R},Zry shs l K = some r → l.length = shs.length ∧ K l = some r
 | [],l,K,r,h=>by
  obtain ⟨rfl,h2⟩:=ZhC h
  exact ⟨rfl,h2⟩
 | sh :: shs,l,K,r,h=>by
  obtain ⟨a,m,rfl,h2⟩:=ZcF h
  have h3:=ZeT h2
  obtain ⟨h4,h5⟩:=ZdV h3
  exact ⟨by simp [h4],h5⟩
theorem Sim.ev {C:Cfg} {g:G} {E:List V} {s:S} {a:Act} {w:World} (h:Sim C g E s a w) {x:Operand} {v:V} (hv:VM.ev E x = some v) :
  VR g w v (a.eval x) ∧ OwnOk C g w v (a.eval x):=by
 cases x with
 | tmp t =>
  obtain ⟨rv,h1,h2,h3⟩:=h.env t v hv
  have:a.eval (.tmp t) = rv:=by simp [Act.eval,h1]
  rw [this]; exact ⟨h2,h3⟩
 | func f =>
  simp only [VM.ev] at hv
  obtain rfl:=Option.some.inj hv
  exact ⟨.data (.fn f),OwnOk.of_not (by simp [V.still])⟩
 | global n=>cases hv
 | const c =>
  simp only [VM.ev,Zq3] at hv
  split at hv <;> first | (cases hv; done) | skip
  all_goals obtain rfl:=Option.some.inj hv
  ·exact ⟨.data (.bool _),OwnOk.of_not (by simp [V.still])⟩
  ·exact ⟨.data (.int _ _),OwnOk.of_not (by simp [V.still])⟩
  ·exact ⟨.data (.str _),OwnOk.of_not (by simp [V.still])⟩
  ·exact ⟨.data .nilp,OwnOk.of_not (by simp [V.still])⟩
  ·exact ⟨.data .nilf,OwnOk.of_not (by simp [V.still])⟩
  ·exact ⟨.data .nili,OwnOk.of_not (by simp [V.still])⟩
theorem DR.nil {g:G} {w:World} {l:Bool} (sz:Nat) (f:Fl) (hf:f ≠ .bor):DR g w l (.list sz [] f) (.slice none 0 0) :=
 .list sz [] f none 0 0 0 0 (fun _ _=>undef) rfl (Nat.le_refl _) (fun h=>absurd h hf) (.inl rfl) (fun i e h=>by simp [nth] at h) (fun i e j x h=>by simp [nth] at h) (fun i e j x h=>by simp [nth] at h) (fun i e j x h=>by simp [nth] at h) (fun i e j x h=>by simp [nth] at h)
def Zbi (P:Program) (C:Cfg) (o:Oper) (E:List V) (s:S) (v:V) (E':List V) (s':S):Prop :=
 s.length ≤ s'.length ∧ ∀ g a w keep,keep ≤ s.length → Sim C g E s a w → ∀ (next:Act → World → Prop) (Q:Exit → Act → World → Prop),
  (∀ g' rv w',Le keep g w g' w' → Sim C g' (Zcy E' o.dst v) s' (a.put o.dst rv) w' → next (a.put o.dst rv) w') → o.wp P a w next Q
theorem Zbi.calm {P:Program} {C:Cfg} {o:Oper} {E:List V} {s:S} {v:V} (hn:v.still)
  (h:∀ g a w,Sim C g E s a w → ∃ rv,(execOp a.eval o).run P w = .ok (.value rv) w ∧ VR g w v rv):Zbi P C o E s v E s:=by
 refine ⟨Nat.le_refl _,fun g a w keep hk hs next Q hnext=>?_⟩
 obtain ⟨rv,h1,h2⟩:=h g a w hs
 unfold Oper.wp
 rw [h1]
 exact hnext g rv w (Le.refl (by rw [hs.olen]; exact hk)) (hs.put0 o.dst h2 hn)
theorem ZbJ {P:Program} {w w':World} {s:Sem Value} {v:Value} (h:s.run P w = .ok v w'):(do pure (Next.value (← s)):Sem Next).run P w = .ok (.value v) w':=by
 simp [h]
section
variable {P:Program} {C:Cfg} {o:Oper} {E:List V} {s:S}
theorem Zqx (hC:Ok P C) {op:BinOp} {t yt:TypeId} {x y:Operand} {a b v:V} (ho:o.op = .binOp op t x y yt) (hx:ev E x = some a) (hy:ev E y = some b)
  (hv:ZqO (C.ty t) op a b = some v):Zbi P C o E s v E s:=by
 have hn:v.still:=by
  have key:(∃ b,v = .bool b) ∨ (∃ k n,v = .int k n) ∨ ∃ x,v = .str x:=by
   unfold ZqO at hv
   split at hv
   ·cases op <;> simp only [ZoW] at hv <;> (repeat' split at hv) <;> first | (cases hv; done) | skip
    all_goals (obtain rfl:=Option.some.inj hv; first | exact .inl ⟨_,rfl⟩ | exact .inr (.inl ⟨_,_,rfl⟩))
   ·cases op <;> simp only [Zsn] at hv <;> (repeat' split at hv) <;> first | (cases hv; done) | skip
    all_goals (obtain rfl:=Option.some.inj hv; first | exact .inl ⟨_,rfl⟩ | exact .inr (.inr ⟨_,rfl⟩))
   ·obtain ⟨_,hv2⟩:=Zaa hv
    cases op <;> first | (cases hv2; done) | exact .inl ⟨_,(Option.some.inj hv2).symm⟩
   ·cases hv
  rcases key with ⟨b,rfl⟩ | ⟨k,n,rfl⟩ | ⟨x,rfl⟩ <;> simp [V.still]
 refine Zbi.calm hn fun g ac w hs=>?_
 have ha:=(hs.ev hx).1
 have hb:=(hs.ev hy).1
 unfold ZqO at hv
 split at hv
 ·rename_i k i k' j
  have e1:=ha.int_inv
  have e2:=hb.int_inv
  simp only [execOp,ho,e1,e2]
  cases op <;> simp only [ZoW] at hv <;> (repeat' split at hv) <;> first | (cases hv; done) | skip
  all_goals obtain rfl:=Option.some.inj hv
  all_goals (try subst k')
  all_goals first
   | exact ⟨_,by simp [eqGuard,binOp,Op.intArith,Op.intDiv,Op.intBits,Op.intCmp,Op.shift, *],.data (.int _ _)⟩
   | exact ⟨_,by simp [eqGuard,binOp,Op.intArith,Op.intDiv,Op.intBits,Op.intCmp,Op.shift, *],.data (.bool _)⟩
 ·rename_i x' y'
  have e1:=ha.str_inv
  have e2:=hb.str_inv
  simp only [execOp,ho,e1,e2]
  cases op <;> simp only [Zsn] at hv <;> (repeat' split at hv) <;> first | (cases hv; done) | skip
  all_goals obtain rfl:=Option.some.inj hv
  ·refine ⟨.string (x' ++ y'),?_,.data (.str _)⟩
   have hm:¬ (((x'.size + y'.size:Nat):Int) > IntKind.i64.max):=by
    have:IntKind.i64.max = 9223372036854775807:=by decide
    omega
   simp only [eqGuard,binOp,Op.stringOp,if_neg hm]
   simp
  all_goals exact ⟨_,by simp [eqGuard,binOp,Op.stringOp],.data (.bool _)⟩
 ·rename_i x' y'
  obtain ⟨hk,hv⟩:=Zaa hv
  have hk':(C.ty t).known = true ∧ (C.ty t).bool = true:=by simpa using hk
  have hu:=(hC.ty t hk'.1).bool hk'.2
  have e1:=ha.bool_inv
  have e2:=hb.bool_inv
  simp only [execOp,ho,e1,e2]
  cases op <;> simp at hv
  all_goals subst hv
  ·exact ⟨_,by simp [eqGuard,run_eql_bool w t x' y' hu],.data (.bool _)⟩
  ·exact ⟨_,by simp [eqGuard,run_neq_bool w t x' y' hu],.data (.bool _)⟩
 ·cases hv
theorem ZtP {op:UnOp} {t:TypeId} {x:Operand} {a v:V} (ho:o.op = .unOp op t x) (hx:ev E x = some a) (hv:unV op a = some v):Zbi P C o E s v E s:=by
 unfold unV at hv
 split at hv <;> first | (cases hv; done) | skip
 all_goals obtain rfl:=Option.some.inj hv
 ·refine Zbi.calm (by simp [V.still]) fun g ac w hs=>?_
  have e1:=(hs.ev hx).1.bool_inv
  exact ⟨_,by simp [execOp,ho,e1,Op.unary],.data (.bool _)⟩
 ·refine Zbi.calm (by simp [V.still]) fun g ac w hs=>?_
  have e1:=(hs.ev hx).1.int_inv
  exact ⟨_,by simp [execOp,ho,e1,Op.unary,Op.intArith],.data (.int _ _)⟩
theorem Zag {P:Program} {t:TypeId} {d:TypeDesc} (h:P.underlying t = some d) (w:World):(underlying t).run P w = .ok d w:=by
 simp [underlying,h]
theorem ZaG {P:Program} {t:TypeId} {i:TypeInfo} (h:P.info? t = some i) (w:World):(sizeOf t).run P w = .ok i.size w:=by
 simp [sizeOf,typeInfo,h]
theorem Ztg (hC:Ok P C) {src dst:TypeId} {x:Operand} {a v:V} (hk:(C.ty dst).known = true) (hsrc:∃ d,P.underlying src = some d) (ho:o.op = .convert src dst x) (hx:ev E x = some a)
  (hv:Zuu (C.ty dst) a = some v):Zbi P C o E s v E s:=by
 unfold Zuu at hv
 split at hv <;> first | (cases hv; done) | skip
 rename_i k k' n hkd
 obtain rfl:=Option.some.inj hv
 obtain ⟨d,hd⟩:=hsrc
 have hu:=(hC.ty dst hk).kind k hkd
 refine Zbi.calm (by simp [V.still]) fun g ac w hs=>?_
 have e1:=(hs.ev hx).1.int_inv
 exact ⟨_,by simp [execOp,ho,e1,convert,Zag hu,Zag hd,Conv.intToInt],.data (.int _ _)⟩
theorem ZeE (hC:Ok P C) {t:TypeId} {x:Operand} {f:Nat} {p v:V} (hk:(C.ty t).known = true) (ho:o.op = .fieldAddr t x f) (hx:ev E x = some p)
  (hv:Zfs (C.ty t) p f = some v):Zbi P C o E s v E s:=by
 unfold Zfs at hv
 split at hv <;> first | (cases hv; done) | skip
 all_goals (rename_i hoff; obtain rfl:=Option.some.inj hv; obtain ⟨fs,fl,j,h1,h2,h3,h4,h5⟩:=(hC.ty t hk).offs f _ hoff)
 ·rename_i off o' ver i jj
  refine Zbi.calm (by simp [V.still]) fun g ac w hs=>?_
  have hp:=(hs.ev hx).1
  generalize hr:ac.eval x = rv at hp
  cases hp with
  | data h=>cases h
  | ptr o'' ver' i' j' a hlt hh =>
   refine ⟨.pointer (some (a.add off)),?_,.ptr _ _ _ _ _ hlt fun y hy=>⟨(hh y hy).1,fun e=>?_⟩⟩
   ·simp [execOp,ho,hr,Instr.fieldAt,Zag h1,h2,Instr.sureAddr,fieldPlace,ZaG h4,h5,h3]
   ·have:=(hh y hy).2 e
    subst this
    simp only [Addr.add]
    split
    ·rename_i h0; subst h0; rfl
    ·simp; omega
 ·rename_i off cs
  refine Zbi.calm (by simp [V.still]) fun g ac w hs=>?_
  have hp:=(hs.ev hx).1
  generalize hr:ac.eval x = rv at hp
  cases hp with
  | data h=>cases h
  | cptr cs' b o2 cv hi hw hd =>
   have ea:(⟨b,o2,none⟩:Addr).add off = ⟨b,o2 + off,none⟩:=by
    simp only [Addr.add]
    split
    ·rename_i h0; subst h0; rfl
    ·rfl
   have hn:∀ j y,nth (cs.drop off) j = some y → nth cs (off + j) = some y:=by
    intro j y hy
    rw [Zad] at hy ⊢
    rwa [List.getElem?_drop] at hy
   refine ⟨.pointer (some ⟨b,o2 + off,none⟩),?_,.cptr _ b (o2 + off) (fun j=>cv (off + j)) (fun j y hy=>?_) (fun j y hy=>?_) (fun j y hy=>hd _ _ (hn j y hy))⟩
   ·simp [execOp,ho,hr,Instr.fieldAt,Zag h1,h2,Instr.sureAddr,fieldPlace,ZaG h4,h5,h3,ea]
   ·rw [Nat.add_assoc]; exact hi _ _ (hn j y hy)
   ·rw [Nat.add_assoc]; exact hw _ _ (hn j y hy)
theorem Znb {g:G} {w:World} {esz:Nat} {es:List V} {f:Fl} {rv:Value} (h:DR g w false (.list esz es f) rv) :
  ∃ (A:Option Addr) (n c b off:Nat) (cv:Nat → Nat → Value),rv = .slice A n c ∧ n = es.length ∧ n ≤ c ∧ (es = [] ∨ A = some ⟨b,off,none⟩) ∧ (∀ i e,nth es i = some e → e.cells.length = esz) ∧ (∀ i e j x,nth es i = some e → nth e.cells j = some x → x.flatCell = true) ∧
   (∀ i e j x,nth es i = some e → nth e.cells j = some x → okc g f.lv b (off + i * esz + j)) ∧
   (∀ i e j x,nth es i = some e → nth e.cells j = some x → w.cell? ⟨b,off + i * esz + j,none⟩ = some (cv i j)) ∧
   (∀ i e j x,nth es i = some e → nth e.cells j = some x → DR g w f.lv x (cv i j)):=by
 cases h with
 | list esz es f A n c b off cv hn hc hl hA hs hf ho hw hd=>exact ⟨A,n,c,b,off,cv,rfl,hn,hc,hA,hs,hf,ho,hw,hd⟩
theorem DR.weak {g:G} {w:World} {l:Bool} {v:V} {rv:Value} (h:DR g w l v rv):DR g w false v rv:=by
 cases l with
 | true=>exact h.lower
 | false=>exact h
theorem ZbL (b o n:Nat):(⟨b,o,none⟩:Addr).add n = ⟨b,o + n,none⟩:=by
 simp only [Addr.add]
 split
 ·rename_i h0; subst h0; rfl
 ·rfl
theorem Zqc {R:Type} {t:Ty} {e:V} {K:V → Option R} {r:R} (h:ZwS t e K = some r) (hs:t.shl.length = t.size):e.cells.length = t.size ∧ K e = some r:=by
 unfold ZwS at h
 split at h
 ·obtain ⟨cs,rfl,h2⟩:=Zdc h
  obtain ⟨h3,h4⟩:=ZdV h2
  exact ⟨by rw [← hs]; exact h3,h4⟩
 ·split at h <;> first | (cases h; done) | skip
  rename_i sh hsh
  rw [hsh] at hs
  refine ⟨?_,ZeT h⟩
  rw [← hs]
  cases sh with
  | any=>cases e <;> first | rfl | exact absurd rfl (ZgU h _)
  | int k=>obtain ⟨n,rfl,_⟩:=Zay h; rfl
  | bool=>obtain ⟨n,rfl,_⟩:=ZcN h; rfl
  | str=>obtain ⟨n,rfl,_⟩:=Zhw h; rfl
  | list sz=>obtain ⟨n,f,rfl,_⟩:=Zas h; rfl
theorem ZeP {R:Type} (hC:Ok P C) {t:TypeId} {x y:Operand} {a b:V} {K:V → Option R} {r:R} (hk:(C.ty t).known = true) (ho:o.op = .indexAddr t x y)
  (hx:ev E x = some a) (hy:ev E y = some b) (h:Zfu C (C.ty t) s a b K = some r):∃ v,K v = some r ∧ Zbi P C o E s v E s:=by
 unfold Zfu at h
 split at h <;> first | (cases h; done) | skip
 rename_i te hte
 obtain ⟨hkn,h'⟩:=Zaa h
 clear h
 have h:=h'
 clear h'
 have hte':=hC.ty te hkn
 have hel:=(hC.ty t hk).elem te hte
 obtain ⟨i,z,hi,hsz,_⟩:=hte'.info
 split at h <;> first | (cases h; done) | skip
 ·rename_i esz es f k n
  obtain ⟨hbz,h'⟩:=Zaa h
  clear h
  have h:=h'
  clear h'
  have hez:esz = (C.ty te).size:=Nat.eq_of_beq_eq_true hbz
  unfold Zqw at h
  split at h <;> first | (cases h; done) | skip
  rename_i h0
  obtain ⟨e,he,h⟩:=Zae h
  obtain ⟨hcl,h⟩:=Zqc h hte'.shl
  refine ⟨_,h,Zbi.calm (by simp [V.still]) fun g ac w hs=>?_⟩
  have e2:=(hs.ev hy).1.int_inv
  obtain ⟨A,m,c,bb,off,cv,e1,hm,hc,hA,hs1,hf1,ho1,hw1,hd1⟩:=Znb (hs.ev hx).1.list_inv
  have hlt:=Zau he
  have hes:es ≠ []:=by intro h; rw [h] at hlt; simp at hlt
  have hA':A = some ⟨bb,off,none⟩:=hA.resolve_left hes
  have hn':n < (m:Int):=by omega
  refine ⟨.pointer (some ⟨bb,off + n.toNat * esz,none⟩),?_,.cptr _ bb (off + n.toNat * esz) (cv n.toNat) (fun j y hy'=>Zlg hs.sub (ho1 _ _ _ _ he hy')) (fun j y hy'=>hw1 _ _ _ _ he hy') (fun j y hy'=>(hd1 _ _ _ _ he hy').weak)⟩
  simp [execOp,ho,e1,e2,Instr.indexAt,asIntOf,Zag hel,hA',h0,hn',ZaG hi,hsz,← hez,ZbL]
 ·rename_i o' ver off len k n
  split at h <;> first | (cases h; done) | skip
  rename_i ob hob
  obtain ⟨hbe,h'⟩:=Zaa h
  clear h
  have h:=h'
  clear h'
  split at h <;> first | (cases h; done) | skip
  rename_i hn
  refine ⟨_,h,Zbi.calm (by simp [V.still]) fun g ac w hs=>?_⟩
  have e2:=(hs.ev hy).1.int_inv
  have hp:=(hs.ev hx).1
  generalize hr:ac.eval x = rv at hp
  cases hp with
  | data h=>cases h
  | arr _ _ _ _ A c hc hlt hh =>
   have hgo:∃ ob',nth s o' = some (some ob') ∧ ver = ob'.ver ∧ ob' = ob:=by
    unfold Zbs at hob
    split at hob <;> first | (cases hob; done) | skip
    rename_i ob' hob'
    split at hob <;> first | (cases hob; done) | skip
    rename_i hver
    exact ⟨ob',hob',hver,Option.some.inj hob⟩
   obtain ⟨ob',h1,h2,h3⟩:=hgo
   subst h3
   obtain ⟨xx,hxx,hr2⟩:=hs.obj o' ob' h1
   obtain ⟨_,h5⟩:=hh xx hxx
   obtain ⟨h6,h7⟩:=h5 (by rw [hr2.ver]; exact h2)
   have hez:xx.2.2.1 = (C.ty te).size:=by rw [hr2.esz,hr2.ty]; rw [Nat.eq_of_beq_eq_true hbe]
   have hc0:c ≠ 0:=by omega
   have hA':=h6.resolve_left hc0
   refine ⟨.pointer (some ⟨xx.2.1,(xx.2.2.2.2 + (off + n.toNat)) * xx.2.2.1 + 0,none⟩),?_,.ptr _ _ _ _ _ hlt fun y hy'=>⟨(hh y hy').1,fun e=>?_⟩⟩
   ·simp [execOp,ho,hr,e2,Instr.indexAt,asIntOf,Zag hel,hA',hn,ZaG hi,hsz,← hez,ZbL,Nat.add_mul,Nat.add_assoc]
   ·have:y = xx:=Option.some.inj (Option.some.inj (hy'.symm.trans hxx))
    rw [this]
theorem Zks {R:Type} (hC:Ok P C) {t:TypeId} {x y:Operand} {a b:V} {K:V → Option R} {r:R} (hk:(C.ty t).known = true) (hst:(C.ty t).str = true) (ho:o.op = .index t x y)
  (hx:ev E x = some a) (hy:ev E y = some b) (h:ZqY a b K = some r):∃ v,K v = some r ∧ Zbi P C o E s v E s:=by
 unfold ZqY at h
 split at h <;> first | (cases h; done) | skip
 rename_i sv k n
 unfold ZtN at h
 split at h <;> first | (cases h; done) | skip
 rename_i h0
 split at h <;> first | (cases h; done) | skip
 rename_i bt hbt
 refine ⟨_,h,Zbi.calm (by simp [V.still]) fun g ac w hs=>?_⟩
 have e1:=(hs.ev hx).1.str_inv
 have e2:=(hs.ev hy).1.int_inv
 have hu:=(hC.ty t hk).str hst
 refine ⟨_,?_,.data (.int _ _)⟩
 have:sv[n.toNat]? = some bt:=by
  rw [← hbt]; rfl
 simp [execOp,ho,e1,e2,Instr.index,asIntOf,Zag hu,h0,this]
end
end Go.VM
