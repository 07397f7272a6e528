/- The program's types as tables: a table that passes a check is the program's. -/
import Derived.Test.YtkchbabkbpcncaaVmS
set_option linter.unusedSimpArgs false
set_option linter.unusedVariables false
namespace Go.VM
open Go.RowKit Go.Lib
def Zgl (ty:TypeId → Ty):V → Value → Bool
 | .int k n,.int k' n'=>decide (k = k') && decide (n = n')
 | .bool b,.bool b'=>b == b'
 | .str s,.string s'=>decide (s = s')
 | .list sz [] (.own e),.slice none 0 0=>(ty e).known && Nat.beq sz (ty e).size
 | .list _ [] .sh,.slice none 0 0=>true
 | .nilp,.pointer none=>true
 | .nilf,.nilFunc=>true
 | .nili,.nilIface=>true
 | _,_=>false
def Zgn (ty:TypeId → Ty):List V → List Value → Bool
 | [],[]=>true
 | c :: cs,v :: vs=>Zgl ty c v && Zgn ty cs vs
 | _,_=>false
def ZvR:V → Bool
 | .agg _=>true
 | _=>false
def Zvn:Value → Bool
 | .agg _=>true
 | _=>false
def ZcU (P:Program) (fs:List Field) (offs fszs:List Nat):Bool :=
 match fs,offs,fszs with
 | [],[],[]=>true
 | f :: fs,o :: offs,n :: fszs=>(match P.info? f.type with
  | some j=>Nat.beq f.offset o && Nat.beq j.size n && !Nat.beq n 0
  | none=>false) && ZcU P fs offs fszs
 | _,_,_=>false
def Zsz (P:Program) (ty:TypeId → Ty) (t:TypeId):Bool :=
 match P.info? t,P.underlying t with
 | some i,some d=>match i.zero with
  | none=>false
  | some z =>
   Nat.beq i.size (ty t).size && Nat.beq i.bytes (ty t).bytes && Nat.ble 1 (ty t).size && Nat.ble 1 (ty t).bytes && Nat.beq z.cells.size (ty t).size &&
   Zgn ty (ty t).zero.cells z.cells.toList && Nat.beq (ty t).shs.length (ty t).size && Nat.beq (ty t).shl.length (ty t).size &&
   (match d with
    | .struct fs=>(ty t).agg && ZvR (ty t).zero && Zvn z && ZcU P fs.toList (ty t).offs (ty t).fszs && (ty t).elem.isNone && (ty t).kind.isNone && !(ty t).str && !(ty t).bool
    | .array _ _=>false
    | .slice e=>!(ty t).agg && (match (ty t).elem with | some e'=>decide (e = e') | none=>true) && (ty t).kind.isNone && !(ty t).str && !(ty t).bool && (ty t).offs.isEmpty && (ty t).fszs.isEmpty
    | .int k=>!(ty t).agg && (ty t).elem.isNone && (match (ty t).kind with | some k'=>decide (k = k') | none=>true) && !(ty t).str && !(ty t).bool && (ty t).offs.isEmpty && (ty t).fszs.isEmpty
    | .string=>!(ty t).agg && (ty t).elem.isNone && (ty t).kind.isNone && !(ty t).bool && (ty t).offs.isEmpty && (ty t).fszs.isEmpty
    | .bool=>!(ty t).agg && (ty t).elem.isNone && (ty t).kind.isNone && !(ty t).str && (ty t).offs.isEmpty && (ty t).fszs.isEmpty
    | _=>!(ty t).agg && (ty t).elem.isNone && (ty t).kind.isNone && !(ty t).str && !(ty t).bool && (ty t).offs.isEmpty && (ty t).fszs.isEmpty)
 | _,_=>false
theorem Zez {C:Cfg} {c:V} {v:Value} (h:Zgl C.ty c v = true):c.solid = true ∧ (∀ g w l,DR g w l c v) ∧ (∀ g w,OwnOk C g w c v) ∧ v.ownBlock = none:=by
 unfold Zgl at h
 split at h
 ·simp at h; obtain ⟨rfl,rfl⟩:=h
  exact ⟨rfl,fun g w l=>.int _ _,fun g w=>OwnOk.of_not (by simp [V.still]),rfl⟩
 ·simp at h; subst h
  exact ⟨rfl,fun g w l=>.bool _,fun g w=>OwnOk.of_not (by simp [V.still]),rfl⟩
 ·simp at h; subst h
  exact ⟨rfl,fun g w l=>.str _,fun g w=>OwnOk.of_not (by simp [V.still]),rfl⟩
 ·simp at h
  obtain ⟨h1,h2⟩:=h
  have h2:=h2
  subst h2
  exact ⟨rfl,fun g w l=>DR.nil _ _ (by simp),fun g w=>OwnOk.nil h1,rfl⟩
 ·exact ⟨rfl,fun g w l=>DR.nil _ _ (by simp),fun g w=>OwnOk.of_not (by simp [V.still]),rfl⟩
 ·exact ⟨rfl,fun g w l=>.nilp,fun g w=>OwnOk.of_not (by simp [V.still]),rfl⟩
 ·exact ⟨rfl,fun g w l=>.nilf,fun g w=>OwnOk.of_not (by simp [V.still]),rfl⟩
 ·exact ⟨rfl,fun g w l=>.nili,fun g w=>OwnOk.of_not (by simp [V.still]),rfl⟩
 ·cases h
theorem ZeU {ty:TypeId → Ty}:∀ {cs:List V} {vs:List Value},Zgn ty cs vs = true → cs.length = vs.length ∧ ∀ j c v,nth cs j = some c → nth vs j = some v → Zgl ty c v = true
 | [],[],_=>⟨rfl,fun j c v h=>by simp [nth] at h⟩
 | c :: cs,v :: vs,h=>by
  simp only [Zgn,Bool.and_eq_true] at h
  obtain ⟨h1,h2⟩:=ZeU h.2
  refine ⟨by simp [h1],fun j c' v' hc hv=>?_⟩
  cases j with
  | zero=>simp only [nth] at hc hv; obtain rfl:=Option.some.inj hc; obtain rfl:=Option.some.inj hv; exact h.1
  | succ j=>exact h2 j c' v' hc hv
 | [],_ :: _,h=>by cases h
 | _ :: _,[],h=>by cases h
theorem Ze9 {P:Program}:∀ {fs:List Field} {offs fszs:List Nat},ZcU P fs offs fszs = true → (∀ fl ∈ fs,∃ j,P.info? fl.type = some j) ∧
  (∀ (f off:Nat),nth offs f = some off → ∃ fl j,nth fs f = some fl ∧ fl.offset = off ∧ P.info? fl.type = some j ∧ j.size ≠ 0) ∧ (∀ (f n:Nat),nth fszs f = some n → ∃ fl j,nth fs f = some fl ∧ P.info? fl.type = some j ∧ j.size = n)
 | [],[],[],_=>⟨by simp,fun f off h=>by simp [nth] at h,fun f n h=>by simp [nth] at h⟩
 | fl :: fs,o :: offs,n :: fszs,h=>by
  simp only [ZcU,Bool.and_eq_true] at h
  obtain ⟨h1,h2⟩:=h
  split at h1 <;> first | (cases h1; done) | skip
  rename_i j hj
  simp only [Bool.and_eq_true,Bool.not_eq_true'] at h1
  obtain ⟨⟨a1,a2⟩,a3⟩:=h1
  have e1:=Nat.eq_of_beq_eq_true a1
  have e2:=Nat.eq_of_beq_eq_true a2
  have e3:n ≠ 0:=by rintro rfl; cases a3
  obtain ⟨b1,b2,b3⟩:=Ze9 h2
  refine ⟨fun fl' hm=>?_,fun f off hf=>?_,fun f m hf=>?_⟩
  ·rcases List.mem_cons.1 hm with rfl | hm
   ·exact ⟨j,hj⟩
   ·exact b1 fl' hm
  ·cases f with
   | zero=>simp only [nth] at hf; obtain rfl:=Option.some.inj hf; exact ⟨fl,j,rfl,e1,hj,by rw [e2]; exact e3⟩
   | succ f=>exact b2 f off hf
  ·cases f with
   | zero=>simp only [nth] at hf; obtain rfl:=Option.some.inj hf; exact ⟨fl,j,rfl,hj,e2⟩
   | succ f=>exact b3 f m hf
 | [],_ :: _,_,h=>by simp [ZcU] at h
 | [],[],_ :: _,h=>by simp [ZcU] at h
 | _ :: _,[],_,h=>by simp [ZcU] at h
 | _ :: _,_ :: _,[],h=>by simp [ZcU] at h
theorem ZsI {P:Program} {C:Cfg} {t:TypeId} (h:Zsz P C.ty t = true):TyOk P C t:=by
 unfold Zsz at h
 split at h <;> first | (cases h; done) | skip
 rename_i i d hi hd
 split at h <;> first | (cases h; done) | skip
 rename_i z hz
 simp only [Bool.and_eq_true] at h
 obtain ⟨⟨⟨⟨⟨⟨⟨⟨h1,h2⟩,h3⟩,h4⟩,h5⟩,h6⟩,h7⟩,h7'⟩,h8⟩:=h
 have e1:=Nat.eq_of_beq_eq_true h1
 have e2:=Nat.eq_of_beq_eq_true h2
 have e3:=Nat.le_of_ble_eq_true h3
 have e4:=Nat.le_of_ble_eq_true h4
 have e5:=Nat.eq_of_beq_eq_true h5
 have e7:=Nat.eq_of_beq_eq_true h7
 have e7':=Nat.eq_of_beq_eq_true h7'
 obtain ⟨c1,c2⟩:=ZeU h6
 have zc:∀ (j:Nat) (rv:Value),z.cells[j]? = some rv → nth z.cells.toList j = some rv:=fun j rv h=>by rw [Zad,Array.getElem?_toList]; exact h
 have info:∀ (hag:(C.ty t).agg = true → (∃ cs,z = .agg cs) ∧ ∃ cs,(C.ty t).zero = .agg cs),∃ i z,P.info? t = some i ∧ i.size = (C.ty t).size ∧ i.bytes = (C.ty t).bytes ∧ i.zero = some z ∧ z.cells.size = (C.ty t).size ∧ (C.ty t).zero.cells.length = (C.ty t).size ∧
  (∀ j c rv,nth (C.ty t).zero.cells j = some c → z.cells[j]? = some rv → (∀ g w l,DR g w l c rv) ∧ (∀ g w,OwnOk C g w c rv) ∧ rv.ownBlock = none) ∧
  ((C.ty t).agg = true → ∃ cs,z = .agg cs) ∧ ((C.ty t).agg = true → ∃ cs,(C.ty t).zero = .agg cs):=fun hag =>
  ⟨i,z,hi,e1,e2,hz,e5,by rw [c1]; simpa using e5,fun j c rv hc hr=>(Zez (c2 j c rv hc (zc j rv hr))).2,fun h=>(hag h).1,fun h=>(hag h).2⟩
 have zflat:∀ j c,nth (C.ty t).zero.cells j = some c → c.solid = true:=fun j c hc=>by
  have hlt:j < z.cells.toList.length:=by rw [← c1]; exact Zau hc
  exact (Zez (c2 j c z.cells.toList[j] hc (by rw [Zad,List.getElem?_eq_getElem hlt]))).1
 by_cases hst:∃ fs,d = .struct fs
 ·obtain ⟨fs,rfl⟩:=hst
  simp only [Bool.and_eq_true,Bool.not_eq_true',Option.isNone_iff_eq_none] at h8
  obtain ⟨⟨⟨⟨⟨⟨⟨a1,a2⟩,a3⟩,a4⟩,a5⟩,a6⟩,a7⟩,a8⟩:=h8
  obtain ⟨b1,b2,b3⟩:=Ze9 a4
  refine { info:=info fun _=>⟨?_,?_⟩,pos:=e3,bpos:=e4,zflat:=zflat,shs:=e7,shl:=e7',elem:=fun e he=>?_,kind:=fun k hk=>?_,str:=fun hs=>?_,bool:=fun hs=>?_,agg:=?_,allf:=fun fs' hf fl hm=>?_,offs:=fun f off hf=>?_,fszs:=fun f n hf=>?_ }
  ·cases z <;> first | exact ⟨_,rfl⟩ | (cases a3; done)
  ·generalize (C.ty t).zero = u at a2
   cases u <;> first | exact ⟨_,rfl⟩ | (cases a2; done)
  ·rw [a5] at he; cases he
  ·rw [a6] at hk; cases hk
  ·rw [a7] at hs; cases hs
  ·rw [a8] at hs; cases hs
  ·rw [if_pos a1]; exact ⟨fs,hd⟩
  ·rw [hd] at hf
   injection hf with hf; injection hf with hf; subst hf
   exact b1 fl hm
  ·obtain ⟨fl,j,q1,q2,q3,q4⟩:=b2 f off hf
   exact ⟨fs,fl,j,hd,by rw [← Array.getElem?_toList,← Zad]; exact q1,q2,q3,q4⟩
  ·obtain ⟨fl,j,q1,q2,q3⟩:=b3 f n hf
   exact ⟨fs,fl,j,hd,by rw [← Array.getElem?_toList,← Zad]; exact q1,q2,q3⟩
 ·have noarr:∀ n e,d ≠ .array n e:=by
   rintro n e rfl
   simp at h8
  have rest:(C.ty t).agg = false ∧ (∀ e,(C.ty t).elem = some e → d = .slice e) ∧ (∀ k,(C.ty t).kind = some k → d = .int k) ∧ ((C.ty t).str = true → d = .string) ∧ ((C.ty t).bool = true → d = .bool) ∧ (C.ty t).offs = [] ∧ (C.ty t).fszs = []:=by
   split at h8
   ·exact absurd ⟨_,rfl⟩ hst
   ·cases h8
   ·simp only [Bool.and_eq_true,Bool.not_eq_true',Option.isNone_iff_eq_none,List.isEmpty_iff] at h8
    obtain ⟨⟨⟨⟨⟨⟨a1,a2⟩,a3⟩,a4⟩,a5⟩,a6⟩,a7⟩:=h8
    refine ⟨a1,fun e he=>?_,fun k hk=>(by rw [a3] at hk; cases hk),fun h=>(by rw [a4] at h; cases h),fun h=>(by rw [a5] at h; cases h),a6,a7⟩
    rw [he] at a2
    simp at a2
    rw [a2]
   ·simp only [Bool.and_eq_true,Bool.not_eq_true',Option.isNone_iff_eq_none,List.isEmpty_iff] at h8
    obtain ⟨⟨⟨⟨⟨⟨a1,a2⟩,a3⟩,a4⟩,a5⟩,a6⟩,a7⟩:=h8
    refine ⟨a1,fun e he=>(by rw [a2] at he; cases he),fun k hk=>?_,fun h=>(by rw [a4] at h; cases h),fun h=>(by rw [a5] at h; cases h),a6,a7⟩
    rw [hk] at a3
    simp at a3
    rw [a3]
   ·simp only [Bool.and_eq_true,Bool.not_eq_true',Option.isNone_iff_eq_none,List.isEmpty_iff] at h8
    obtain ⟨⟨⟨⟨⟨a1,a2⟩,a3⟩,a5⟩,a6⟩,a7⟩:=h8
    exact ⟨a1,fun e he=>(by rw [a2] at he; cases he),fun k hk=>(by rw [a3] at hk; cases hk),fun _=>rfl,fun h=>(by rw [a5] at h; cases h),a6,a7⟩
   ·simp only [Bool.and_eq_true,Bool.not_eq_true',Option.isNone_iff_eq_none,List.isEmpty_iff] at h8
    obtain ⟨⟨⟨⟨⟨a1,a2⟩,a3⟩,a5⟩,a6⟩,a7⟩:=h8
    exact ⟨a1,fun e he=>(by rw [a2] at he; cases he),fun k hk=>(by rw [a3] at hk; cases hk),fun h=>(by rw [a5] at h; cases h),fun _=>rfl,a6,a7⟩
   ·simp only [Bool.and_eq_true,Bool.not_eq_true',Option.isNone_iff_eq_none,List.isEmpty_iff] at h8
    obtain ⟨⟨⟨⟨⟨⟨a1,a2⟩,a3⟩,a4⟩,a5⟩,a6⟩,a7⟩:=h8
    exact ⟨a1,fun e he=>(by rw [a2] at he; cases he),fun k hk=>(by rw [a3] at hk; cases hk),fun h=>(by rw [a4] at h; cases h),fun h=>(by rw [a5] at h; cases h),a6,a7⟩
  obtain ⟨a1,a2,a3,a4,a5,a6,a7⟩:=rest
  refine { info:=info fun h=>(by rw [a1] at h; cases h),pos:=e3,bpos:=e4,zflat:=zflat,shs:=e7,shl:=e7',elem:=fun e he=>by rw [hd,a2 e he],kind:=fun k hk=>by rw [hd,a3 k hk],str:=fun hs=>by rw [hd,a4 hs],bool:=fun hs=>by rw [hd,a5 hs],agg:=?_,allf:=fun fs hf=>?_,offs:=fun f off hf=>(by rw [a6] at hf; simp [nth] at hf),fszs:=fun f n hf=>(by rw [a7] at hf; simp [nth] at hf) }
  ·rw [if_neg (by rw [a1]; simp)]
   exact ⟨d,hd,fun fs h=>hst ⟨fs,h⟩,noarr⟩
  ·rw [hd] at hf
   injection hf with hf
   exact absurd ⟨fs,hf⟩ hst
def ZpL (P:Program):Nat → TypeId → Ty
 | 0,_=>{}
 | n + 1,t=>match P.info? t,P.underlying t with
  | some i,some d=>(match d with
   | .int k=>{ known:=true,kind:=some k,size:=i.size,bytes:=i.bytes,shs:=[.int k],shl:=[.int k],zero:=.int k 0 }
   | .bool=>{ known:=true,size:=i.size,bytes:=i.bytes,shs:=[.bool],shl:=[.bool],zero:=.bool false,bool:=true }
   | .string=>{ known:=true,size:=i.size,bytes:=i.bytes,shs:=[.str],shl:=[.str],zero:=.str ⟨#[]⟩,str:=true }
   | .pointer _=>{ known:=true,size:=i.size,bytes:=i.bytes,shs:=[.any],zero:=.nilp }
   | .func ..=>{ known:=true,size:=i.size,bytes:=i.bytes,shs:=[.any],zero:=.nilf }
   | .interface _=>{ known:=true,size:=i.size,bytes:=i.bytes,shs:=[.any],zero:=.nili }
   | .slice e=>(match (ZpL P n e).known with
    | true=>{ known:=true,size:=i.size,bytes:=i.bytes,shs:=[.any],shl:=[.list (ZpL P n e).size],zero:=.list (ZpL P n e).size [] (.own e),elem:=some e }
    | false=>{})
   | .struct fs=>(match fs.toList.all fun f=>(ZpL P n f.type).known with
    | true=>{ known:=true,size:=i.size,bytes:=i.bytes,agg:=true,shs:=fs.toList.flatMap fun f=>(ZpL P n f.type).shs,shl:=fs.toList.flatMap fun f=>(ZpL P n f.type).shl,zero:=.agg (fs.toList.flatMap fun f=>(ZpL P n f.type).zero.cells),offs:=fs.toList.map (·.offset),fszs:=fs.toList.map fun f=>(ZpL P n f.type).size,ftys:=fs.toList.map (·.type) }
    | false=>{})
   | _=>{})
  | _,_=>{}
def Zu2 (P:Program) (n:Nat) (t:TypeId):Ty :=
 match Nat.blt t P.types.size with
 | true=>ZpL P n t
 | false=>{}
theorem Zp9 {P:Program} {n:Nat} {t:TypeId} {i:Nat} {ft:TypeId} (h:nth (ZpL P n t).ftys i = some ft):∃ fs fl,P.underlying t = some (.struct fs) ∧ fs[i]? = some fl ∧ fl.type = ft:=by
 cases n with
 | zero=>simp [ZpL,nth] at h
 | succ n =>
  unfold ZpL at h
  split at h
  ·rename_i i' d hi hd
   cases d <;> simp only at h <;> first | (simp [nth] at h; done) | skip
   ·split at h <;> simp [nth] at h
   ·rename_i fs
    split at h
    ·obtain ⟨fl,hfl,rfl⟩:=Zac h
     exact ⟨fs,fl,hd,by rw [Zad] at hfl; simpa using hfl,rfl⟩
    ·simp [nth] at h
  ·simp [nth] at h
theorem ZjN {P:Program} {C:Cfg} {n:Nat} (hty:C.ty = Zu2 P n) (h:((List.range P.types.size).all fun t=>!(C.ty t).known || Zsz P C.ty t) = true) (hm:P.follows .mixedOrders = true):Ok P C where
 ty:=fun t hk=>by
  by_cases hlt:t < P.types.size
  ·have:=List.all_eq_true.1 h t (List.mem_range.2 hlt)
   rw [hk] at this
   exact ZsI (by simpa using this)
  ·rw [hty] at hk
   unfold Zu2 at hk
   have:Nat.blt t P.types.size = false:=by
    cases hb:Nat.blt t P.types.size with
    | false=>rfl
    | true=>exact absurd (by rw [Nat.blt_eq] at hb; exact hb) hlt
   rw [this] at hk
   cases hk
 mixed:=hm
 ftys:=fun t i ft h=>by
  rw [hty] at h
  unfold Zu2 at h
  split at h
  ·exact Zp9 h
  ·simp [nth] at h
def Cfg.of (P:Program) (n:Nat) (mode:FuncId → Mode) (nil:FuncId → Bool:=fun _=>false):Cfg:={ ty:=Zu2 P n,mode,nilArg:=nil,ownRet:=fun _=>false,res:=fun g=>((P.funcs[g]?).map (·.resultTypes.toList)).getD [] }
def ZtF (P:Program) (n:Nat):Bool:=(List.range P.types.size).all fun t=>!(Zu2 P n t).known || Zsz P (Zu2 P n) t
theorem Ok.of {P:Program} {n:Nat} {mode:FuncId → Mode} {nil:FuncId → Bool} (h:ZtF P n = true) (hm:P.follows .mixedOrders = true):Ok P (Cfg.of P n mode nil):=ZjN (n:=n) rfl h hm
end Go.VM
