/- A machine over plain values: what a function of the program computes, told without memory addresses. Definitions alone; the texts ZfN it show that the model's machine does the same. -/
import Derived.Calls
import Derived.Orders
import Derived.Laws.BytesArg
namespace Go.VM
inductive Fl where
 | own (e:TypeId) | sh | bor
 deriving DecidableEq
def Fl.noOwn:Fl → Fl
 | .own _=>.sh
 | .sh=>.sh
 | .bor=>.bor
inductive V where
 | bool (b:Bool)
 | int (k:IntKind) (n:Int)
 | str (s:ByteArray)
 | list (sz:Nat) (es:List V) (f:Fl)
 | arr (o ver off len:Nat)
 | ptr (o ver i j:Nat)
 | cptr (cells:List V)
 | agg (cells:List V)
 | tuple (vs:List V)
 | fn (f:FuncId) (caps:List V)
 | nilp | nilf | nili | nils
 | dead
 | uni (t:TypeId) (sz:Nat) (es:List V)
 deriving Inhabited
structure Ob where
 es:List V
 esz:Nat
 elem:TypeId
 ver:Nat
abbrev S:=List (Option Ob)
def nth {α:Type}:List α → Nat → Option α
 | [],_=>none
 | a :: _,0=>some a
 | _ :: l,n + 1=>nth l n
def Zai {α:Type}:List α → Nat → α → List α
 | [],_,_=>[]
 | _ :: l,0,v=>v :: l
 | a :: l,n + 1,v=>a :: Zai l n v
def V.cells:V → List V
 | .agg cs=>cs
 | v=>[v]
def V.noOwnCell:V → V
 | .list sz es f=>.list sz es f.noOwn
 | .uni ..=>.dead
 | v=>v
def V.noOwn:V → V
 | .list sz es f=>.list sz es f.noOwn
 | .agg cs=>.agg (cs.map V.noOwnCell)
 | .uni ..=>.dead
 | v=>v
def V.boxed:V → V
 | .agg cs=>.agg cs
 | v=>v.noOwn
def V.flatCell:V → Bool
 | .agg _=>false
 | .tuple _=>false
 | _=>true
def V.solid:V → Bool
 | .agg _=>false
 | .tuple _=>false
 | .dead=>false
 | .uni ..=>false
 | _=>true
def V.flat:V → Bool
 | .agg cs=>cs.all V.solid
 | .tuple _=>false
 | .dead=>false
 | .uni ..=>false
 | _=>true
inductive Sh where
 | int (k:IntKind) | bool | str | list (sz:Nat) | any
 deriving DecidableEq
structure Ty where
 known:Bool:=false
 elem:Option TypeId:=none
 kind:Option IntKind:=none
 size:Nat:=1
 bytes:Nat:=8
 agg:Bool:=false
 str:Bool:=false
 bool:Bool:=false
 shs:List Sh:=[.any]
 shl:List Sh:=[.any]
 zero:V:=.dead
 offs:List Nat:=[]
 fszs:List Nat:=[]
 ftys:List TypeId:=[]
def Sh.loose:Sh → Sh
 | .list _=>.any
 | sh=>sh
def Ty.loose (t:Ty):Ty:={ t with shs:=t.shs.map Sh.loose }
inductive Mode where
 | pure | shared | own | fresh
 deriving DecidableEq
structure Cfg where
 ty:TypeId → Ty
 mode:FuncId → Mode
 ownRet:FuncId → Bool
 res:FuncId → List TypeId:=fun _=>[]
 nilArg:FuncId → Bool:=fun _=>false
 objAll:Bool:=false
 thaw:Bool:=false
 rows:Bool:=false
 inl:TypeId → Option (Nat × TypeId):=fun _=>none
 keep:List Nat:=[]
 raw:List Nat:=[]
 rl:TypeId → Bool:=fun _=>false
 kp:Option Nat:=none
 lay:List Nat:=[]
 /-- Regions whose first m operations,and those from q on,go in any order: (id,m,q). -/
 tri:List (Nat × Nat × Nat):=[]
def Cfg.fz (C:Cfg) (ver n:Nat):Nat × Nat :=
 match C.thaw,ver with
 | true,_ + 1=>(n,n + 1)
 | _,_=>(0,0)
section cps
variable {R:Type}
def asInt (k:IntKind) (v:V) (f:Int → Option R):Option R :=
 match v with
 | .int k' n=>if k' = k then f n else none
 | _=>none
def asBool (v:V) (f:Bool → Option R):Option R :=
 match v with
 | .bool b=>f b
 | _=>none
def Zru (v:V) (f:ByteArray → Option R):Option R :=
 match v with
 | .str b=>f b
 | _=>none
def ZaP (sz:Nat) (v:V) (f:List V → Fl → Option R):Option R :=
 match v with
 | .list sz' es g=>match Nat.beq sz' sz with
  | true=>f es g
  | false=>none
 | _=>none
def asAgg (v:V) (f:List V → Option R):Option R :=
 match v with
 | .agg cs=>f cs
 | _=>none
def ZbE (l:List V) (f:V → List V → Option R):Option R :=
 match l with
 | a :: l=>f a l
 | []=>none
def ZuR (l:List V) (f:Option R):Option R :=
 match l with
 | []=>f
 | _=>none
def Zu4 (sh:Sh) (v:V) (K:V → Option R):Option R :=
 match sh with
 | .int k=>asInt k v fun n=>K (.int k n)
 | .bool=>asBool v fun b=>K (.bool b)
 | .str=>Zru v fun b=>K (.str b)
 | .list sz=>ZaP sz v fun es f=>K (.list sz es f)
 | .any=>match v with
  | .agg _=>none
  | v=>K v
def Zry (shs:List Sh) (l:List V) (K:List V → Option R):Option R :=
 match shs with
 | []=>ZuR l (K [])
 | sh :: shs=>ZbE l fun v l=>Zu4 sh v fun v=>Zry shs l fun l=>K (v :: l)
def ZbA (o:Option V) (K:V → Option R):Option R :=
 match o with
 | some v=>K v
 | none=>none
def Zaf (b:Bool) (x:Option R):Option R :=
 match b with
 | true=>x
 | false=>none
end cps
def Zq3:Value → Option V
 | .bool b=>some (.bool b)
 | .int k n=>some (.int k n)
 | .string s=>some (.str s)
 | .pointer none=>some .nilp
 | .nilFunc=>some .nilf
 | .nilIface=>some .nili
 | _=>none
def ev (E:List V):Operand → Option V
 | .tmp t=>nth E t
 | .const v=>Zq3 v
 | .func f=>some (.fn f [])
 | .global _=>none
def evt (C:Cfg) (t:TypeId) (E:List V) (x:Operand):Option V :=
 match x with
 | .const (.slice none 0 0)=>match (C.ty t).elem with
  | some e=>Zaf ((C.ty t).known && (C.ty e).known) (some (.list (C.ty e).size [] (.own e)))
  | none=>none
 | x=>ev E x
def Zbs (s:S) (o ver:Nat):Option Ob :=
 match nth s o with
 | some (some ob)=>if ver = ob.ver then some ob else none
 | _=>none
def putCells (e:V) (j:Nat) (vs:List V):Option V :=
 match e with
 | .agg cs=>if j + vs.length ≤ cs.length then some (.agg (cs.take j ++ vs ++ cs.drop (j + vs.length))) else none
 | _=>match vs with
  | [v]=>if j = 0 then some v else none
  | _=>none
def V.plainCell:V → Bool
 | .arr .. | .ptr .. | .cptr _ | .dead | .fn .. | .tuple _ | .agg _ | .uni ..=>false
 | .list _ _ f=>match f with
  | .bor=>false
  | _=>true
 | _=>true
def V.plain:V → Bool
 | .agg cs=>cs.all V.plainCell
 | v=>v.plainCell
def Zhx (t:Ty) (s:S) (p v:V):Option S :=
 match p with
 | .ptr o ver i j =>
  match Zbs s o ver with
  | some ob =>
   if v.cells.length = t.size ∧ v.flat = true then
    match nth ob.es i with
    | some e=>match putCells e j v.cells with
     | some e'=>some (Zai s o (some { ob with es:=Zai ob.es i e' }))
     | none=>none
    | none=>none
   else none
  | none=>none
 | _=>none
def Zra {R:Type} (t:Ty) (s:S) (p v:V) (K:S → Option R):Option R :=
 match p with
 | .ptr o ver i j =>
  match Zbs s o ver with
  | some ob =>
   if v.cells.length = t.size ∧ v.flat = true then
    match nth ob.es i with
    | some e=>match putCells e j v.cells with
     | some e'=>K (Zai s o (some { ob with es:=Zai ob.es i e' }))
     | none=>none
    | none=>none
   else none
  | none=>none
 | _=>none
set_option linter.unusedSimpArgs false in
theorem ZlZ {R:Type} {t:Ty} {s:S} {p v:V} {K:S → Option R} {r:R} (h:Zra t s p v K = some r):∃ s',Zhx t s p v = some s' ∧ K s' = some r:=by
 unfold Zra at h
 unfold Zhx
 split at h <;> first | (cases h; done) | skip
 split at h <;> first | (cases h; done) | skip
 rename_i hob
 split at h <;> first | (cases h; done) | skip
 rename_i hc
 split at h <;> first | (cases h; done) | skip
 rename_i he
 split at h <;> first | (cases h; done) | skip
 rename_i hp
 exact ⟨_,by simp only [hob,if_pos hc,he,hp],h⟩
def Zfs (t:Ty) (p:V) (f:Nat):Option V :=
 match nth t.offs f,p with
 | some off,.ptr o ver i j=>some (.ptr o ver i (j + off))
 | some off,.cptr cs=>some (.cptr (cs.drop off))
 | _,_=>none
def ZoN (o:Option V) (d m:Nat):Option Nat :=
 match o with
 | none=>some d
 | some (.int _ n)=>if 0 ≤ n ∧ n ≤ m then some n.toNat else none
 | _=>none
def Zn5 (x:V) (lo hi:Option V):Option V :=
 match x with
 | .str s =>
  match ZoN hi s.size s.size with
  | some h=>match ZoN lo 0 h with
   | some l=>some (.str (s.extract l h))
   | none=>none
  | none=>none
 | _=>none
def ZvF (esz:Nat) (s:S) (x:V) (lo hi:Option V):Option V :=
 match x with
 | .list sz es f =>
  match ZoN hi es.length es.length with
  | some h=>match ZoN lo 0 h with
   | some l=>Zaf (Nat.beq sz esz) (some (.list sz ((es.take h).drop l) f.noOwn))
   | none=>none
  | none=>none
 | .arr o ver off len =>
  match Zbs s o ver with
  | none=>none
  | some ob =>
   match ZoN hi len len with
   | some h=>match ZoN lo 0 h with
    | some l=>Zaf (Nat.beq ob.esz esz) (some (.arr o ver (off + l) (h - l)))
    | none=>none
   | none=>none
 | _=>none
def ZtG {R:Type} (o:Option V) (d m:Nat) (K:Nat → Option R):Option R :=
 match o with
 | none=>K d
 | some (.int _ n)=>if 0 ≤ n ∧ n ≤ m then K n.toNat else none
 | _=>none
def Zmn {R:Type} (x:V) (lo hi:Option V) (K:V → Option R):Option R :=
 match x with
 | .str s=>ZtG hi s.size s.size fun h=>ZtG lo 0 h fun l=>K (.str (s.extract l h))
 | _=>none
def Zw5 {R:Type} (esz:Nat) (s:S) (x:V) (lo hi:Option V) (K:V → Option R):Option R :=
 match x with
 | .list sz es f=>(match Nat.beq sz esz with
  | true=>ZtG hi es.length es.length fun h=>ZtG lo 0 h fun l=>K (.list sz ((es.take h).drop l) f.noOwn)
  | false=>none)
 | .arr o ver off len=>(match Zbs s o ver with
  | none=>none
  | some ob=>match Nat.beq ob.esz esz with
   | true=>ZtG hi len len fun h=>ZtG lo 0 h fun l=>K (.arr o ver (off + l) (h - l))
   | false=>none)
 | _=>none
theorem Zc8 {R:Type} {o:Option V} {d m:Nat} {K:Nat → Option R} {r:R} (h:ZtG o d m K = some r):∃ n,ZoN o d m = some n ∧ K n = some r:=by
 unfold ZtG at h
 split at h
 ·exact ⟨_,rfl,h⟩
 ·split at h <;> first | (cases h; done) | skip
  rename_i hb
  exact ⟨_,by simp only [ZoN,if_pos hb],h⟩
 ·cases h
theorem ZfT {R:Type} {x:V} {lo hi:Option V} {K:V → Option R} {r:R} (h:Zmn x lo hi K = some r):∃ v,Zn5 x lo hi = some v ∧ K v = some r:=by
 unfold Zmn at h
 split at h <;> first | (cases h; done) | skip
 obtain ⟨n,hn,h2⟩:=Zc8 h
 obtain ⟨m,hm,h3⟩:=Zc8 h2
 exact ⟨_,by simp only [Zn5,hn,hm],h3⟩
theorem ZjI {R:Type} {esz:Nat} {s:S} {x:V} {lo hi:Option V} {K:V → Option R} {r:R} (h:Zw5 esz s x lo hi K = some r):∃ v,ZvF esz s x lo hi = some v ∧ K v = some r:=by
 unfold Zw5 at h
 split at h <;> first | (cases h; done) | skip
 ·split at h <;> first | (cases h; done) | skip
  rename_i hb
  obtain ⟨n,hn,h2⟩:=Zc8 h
  obtain ⟨m,hm,h3⟩:=Zc8 h2
  exact ⟨_,by simp only [ZvF,hn,hm,hb,Zaf],h3⟩
 ·split at h <;> first | (cases h; done) | skip
  rename_i ob hob
  split at h <;> first | (cases h; done) | skip
  rename_i hb
  obtain ⟨n,hn,h2⟩:=Zc8 h
  obtain ⟨m,hm,h3⟩:=Zc8 h2
  exact ⟨_,by simp only [ZvF,hob,hn,hm,hb,Zaf],h3⟩
def ZoW (op:BinOp) (k:IntKind) (x y:Int):Option V :=
 match op with
 | .add=>some (.int k (k.wrap (x + y)))
 | .sub=>some (.int k (k.wrap (x - y)))
 | .mul=>some (.int k (k.wrap (x * y)))
 | .quo=>if y = 0 then none else some (.int k (k.wrap (x.tdiv y)))
 | .rem=>if y = 0 then none else some (.int k (x.tmod y))
 | .and=>some (.int k (k.wrap (BitVec.ofInt k.bits x &&& BitVec.ofInt k.bits y).toNat))
 | .or=>some (.int k (k.wrap (BitVec.ofInt k.bits x ||| BitVec.ofInt k.bits y).toNat))
 | .xor=>some (.int k (k.wrap (BitVec.ofInt k.bits x ^^^ BitVec.ofInt k.bits y).toNat))
 | .andNot=>some (.int k (k.wrap (BitVec.ofInt k.bits x &&& ~~~ (BitVec.ofInt k.bits y)).toNat))
 | .eql=>some (.bool (x == y))
 | .neq=>some (.bool (x != y))
 | .lss=>some (.bool (decide (x < y)))
 | .leq=>some (.bool (decide (x ≤ y)))
 | .gtr=>some (.bool (decide (x > y)))
 | .geq=>some (.bool (decide (x ≥ y)))
 | _=>none
def Zsn (op:BinOp) (x y:ByteArray):Option V :=
 match op with
 | .add=>if x.size + y.size ≤ 4611686018427387904 then some (.str (x ++ y)) else none
 | .eql=>some (.bool (x.toList == y.toList))
 | .neq=>some (.bool (!(x.toList == y.toList)))
 | .lss=>some (.bool (Op.bytesLess x.toList y.toList))
 | .leq=>some (.bool (Op.bytesLess x.toList y.toList || x.toList == y.toList))
 | .gtr=>some (.bool (!(Op.bytesLess x.toList y.toList || x.toList == y.toList)))
 | .geq=>some (.bool (!Op.bytesLess x.toList y.toList))
 | _=>none
def ZqO (t:Ty) (op:BinOp) (x y:V):Option V :=
 match x,y with
 | .int k a,.int k' b =>
  match op with
  | .shl=>if b < 0 then none else some (.int k (k.wrap (a * 2 ^ (min b.toNat k.bits))))
  | .shr=>if b < 0 then none else some (.int k (a.fdiv (2 ^ (min b.toNat k.bits))))
  | op=>if k = k' then ZoW op k a b else none
 | .str a,.str b=>Zsn op a b
 | .bool a,.bool b=>Zaf (t.known && t.bool) (match op with
  | .eql=>some (.bool (a == b))
  | .neq=>some (.bool (!(a == b)))
  | _=>none)
 | _,_=>none
def ZwW {R:Type} (t:Ty) (op:BinOp) (x y:V) (K:V → Option R):Option R :=
 match op with
 | .shl=>(match x,y with
  | .int k a,.int _ b=>if b < 0 then none else K (.int k (k.wrap (a * 2 ^ (min b.toNat k.bits))))
  | _,_=>none)
 | .shr=>(match x,y with
  | .int k a,.int _ b=>if b < 0 then none else K (.int k (a.fdiv (2 ^ (min b.toNat k.bits))))
  | _,_=>none)
 | .quo=>(match x,y with
  | .int k a,.int k' b=>if k = k' then (if b = 0 then none else K (.int k (k.wrap (a.tdiv b)))) else none
  | _,_=>none)
 | .rem=>(match x,y with
  | .int k a,.int k' b=>if k = k' then (if b = 0 then none else K (.int k (a.tmod b))) else none
  | _,_=>none)
 | .add=>(match x,y with
  | .int k a,.int k' b=>if k = k' then K (.int k (k.wrap (a + b))) else none
  | .str a,.str b=>if a.size + b.size ≤ 4611686018427387904 then K (.str (a ++ b)) else none
  | _,_=>none)
 | op=>match ZqO t op x y with
  | some v=>K v
  | none=>none
theorem Zkt {R:Type} {t:Ty} {op:BinOp} {x y:V} {K:V → Option R} {r:R} (h:ZwW t op x y K = some r):∃ v,ZqO t op x y = some v ∧ K v = some r:=by
 unfold ZwW at h
 split at h
 ·split at h <;> first | (cases h; done) | skip
  split at h <;> first | (cases h; done) | skip
  rename_i hb
  exact ⟨_,by simp only [ZqO,if_neg hb],h⟩
 ·split at h <;> first | (cases h; done) | skip
  split at h <;> first | (cases h; done) | skip
  rename_i hb
  exact ⟨_,by simp only [ZqO,if_neg hb],h⟩
 ·split at h <;> first | (cases h; done) | skip
  split at h <;> first | (cases h; done) | skip
  rename_i hk
  split at h <;> first | (cases h; done) | skip
  rename_i hb
  exact ⟨_,by simp only [ZqO,ZoW,if_pos hk,if_neg hb],h⟩
 ·split at h <;> first | (cases h; done) | skip
  split at h <;> first | (cases h; done) | skip
  rename_i hk
  split at h <;> first | (cases h; done) | skip
  rename_i hb
  exact ⟨_,by simp only [ZqO,ZoW,if_pos hk,if_neg hb],h⟩
 ·split at h <;> first | (cases h; done) | skip
  ·split at h <;> first | (cases h; done) | skip
   rename_i hk
   exact ⟨_,by simp only [ZqO,ZoW,if_pos hk],h⟩
  ·split at h <;> first | (cases h; done) | skip
   rename_i hk
   exact ⟨_,by simp only [ZqO,Zsn,if_pos hk],h⟩
 ·split at h <;> first | (cases h; done) | skip
  rename_i v hv
  exact ⟨v,hv,h⟩
def unV (op:UnOp) (x:V):Option V :=
 match op,x with
 | .not,.bool b=>some (.bool !b)
 | .neg,.int k n=>some (.int k (k.wrap (0 - n)))
 | _,_=>none
def Zuu (dst:Ty) (x:V):Option V :=
 match dst.kind,x with
 | some k,.int _ n=>some (.int k (k.wrap n))
 | _,_=>none
def Zop (offs fszs:List Nat):List V → List (Nat × V) → Option (List V)
 | cs,[]=>some cs
 | cs,(i,v) :: rest =>
  match nth offs i,nth fszs i with
  | some off,some n=>if v.cells.length = n ∧ off + n ≤ cs.length then Zop offs fszs (cs.take off ++ v.cells ++ cs.drop (off + n)) rest else none
  | _,_=>none
def ZdN:List V → List (Nat × V) → Option (List V)
 | es,[]=>some es
 | es,(i,v) :: rest=>if i < es.length then ZdN (Zai es i v) rest else none
def Zdr (s:ByteArray):List V:=s.data.toList.map fun b=>.int .u8 b.toNat
def Zxj (t:Ty):V → Option Nat
 | .str x=>Zaf t.str (some x.size)
 | .list _ es _=>Zaf t.elem.isSome (some es.length)
 | .arr _ _ _ len=>Zaf t.elem.isSome (some len)
 | _=>none
def ZaK {α β:Type} (f:α → Option β):List α → Option (List β)
 | []=>some []
 | a :: l=>match f a with
  | none=>none
  | some b=>match ZaK f l with
   | none=>none
   | some l'=>some (b :: l')
def borCell:V → V
 | .list sz es _=>.list sz es .bor
 | .uni ..=>.dead
 | v=>v
def V.lent:V → V
 | .list sz es _=>.list sz es .bor
 | .agg cs=>.agg (cs.map borCell)
 | .uni ..=>.dead
 | v=>v
def freeze (view:Bool) (s:S):Nat → V → Option V
 | 0,_=>none
 | n + 1,v =>
  match v with
  | .list sz es g=>(match view with
   | true=>some (.list sz es g.noOwn)
   | false=>(match g with
    | .bor=>none
    | _=>some (.list sz es .sh)))
  | .arr o ver off len =>
   match Zbs s o ver with
   | some ob=>match ZaK (freeze view s n) ((ob.es.drop off).take len) with
    | some es'=>Zaf (decide (off + len ≤ ob.es.length)) (match view with
     | true=>some (.list ob.esz (es'.map V.lent) .bor)
     | false=>Zaf (es'.all V.plain) (some (.list ob.esz es' .sh)))
    | none=>none
   | none=>none
  | .agg cs=>match ZaK (freeze view s n) cs with
   | some cs'=>some (.agg cs')
   | none=>none
  | .tuple cs=>match ZaK (freeze view s n) cs with
   | some cs'=>some (.tuple cs')
   | none=>none
  | .fn g caps=>(match caps with
   | []=>some (.fn g [])
   | _ :: _=>none)
  | .ptr ..=>none
  | .cptr _=>none
  | .dead=>none
  | .uni ..=>none
  | v=>some v
def ZtQ {α β R:Type} (f:α → (β → Option R) → Option R):List α → (List β → Option R) → Option R
 | [],K=>K []
 | a :: l,K=>f a fun b=>ZtQ f l fun l'=>K (b :: l')
def Zbg {R:Type} (view:Bool) (s:S):Nat → V → (V → Option R) → Option R
 | 0,_,_=>none
 | n + 1,v,K =>
  match v with
  | .list sz es g=>(match view with
   | true=>K (.list sz es g.noOwn)
   | false=>(match g with
    | .bor=>none
    | _=>K (.list sz es .sh)))
  | .arr o ver off len =>
   match Zbs s o ver with
   | some ob=>match ZaK (freeze view s n) ((ob.es.drop off).take len) with
    | some es'=>Zaf (decide (off + len ≤ ob.es.length)) (match view with
     | true=>K (.list ob.esz (es'.map V.lent) .bor)
     | false=>Zaf (es'.all V.plain) (K (.list ob.esz es' .sh)))
    | none=>none
   | none=>none
  | .agg cs=>ZtQ (Zbg view s n) cs fun cs'=>K (.agg cs')
  | .tuple cs=>ZtQ (Zbg view s n) cs fun cs'=>K (.tuple cs')
  | .fn g caps=>(match caps with
   | []=>K (.fn g [])
   | _ :: _=>none)
  | .ptr ..=>none
  | .cptr _=>none
  | .dead=>none
  | .uni ..=>none
  | v=>K v
theorem ZbZ {α β R:Type} {f:α → (β → Option R) → Option R} {g:α → Option β} (hf:∀ a K r,f a K = some r → ∃ b,g a = some b ∧ K b = some r) :
  ∀ {l:List α} {K:List β → Option R} {r:R},ZtQ f l K = some r → ∃ l',ZaK g l = some l' ∧ K l' = some r
 | [],K,r,h=>⟨[],rfl,h⟩
 | a :: l,K,r,h=>by
  obtain ⟨b,hb,h2⟩:=hf a _ r h
  obtain ⟨l',hl,h3⟩:=ZbZ hf h2
  exact ⟨b :: l',by simp only [ZaK,hb,hl],h3⟩
theorem Zbu {R:Type} {view:Bool} {s:S}:∀ {n:Nat} {v:V} {K:V → Option R} {r:R},Zbg view s n v K = some r → ∃ v',freeze view s n v = some v' ∧ K v' = some r:=by
 intro n
 induction n with
 | zero=>intro v K r h; cases h
 | succ n ih =>
  intro v K r h
  cases v with
  | list sz es g =>
   simp only [Zbg] at h
   cases view with
   | true=>exact ⟨_,rfl,h⟩
   | false=>cases g <;> first | (cases h; done) | exact ⟨_,rfl,h⟩
  | arr o ver off len =>
   simp only [Zbg] at h
   split at h <;> first | (cases h; done) | skip
   rename_i ob hob
   split at h <;> first | (cases h; done) | skip
   rename_i es' hes
   unfold Zaf at h
   split at h <;> first | (cases h; done) | skip
   rename_i hg
   cases view with
   | true=>exact ⟨_,by simp only [freeze,hob,hes,Zaf,hg],h⟩
   | false =>
    simp only at h
    split at h <;> first | (cases h; done) | skip
    rename_i hp
    exact ⟨_,by simp only [freeze,hob,hes,Zaf,hg,hp],h⟩
  | agg cs =>
   simp only [Zbg] at h
   obtain ⟨cs',h1,h2⟩:=ZbZ (f:=Zbg view s n) (g:=freeze view s n) (fun a K r h=>ih h) h
   exact ⟨_,by simp only [freeze,h1],h2⟩
  | tuple cs =>
   simp only [Zbg] at h
   obtain ⟨cs',h1,h2⟩:=ZbZ (f:=Zbg view s n) (g:=freeze view s n) (fun a K r h=>ih h) h
   exact ⟨_,by simp only [freeze,h1],h2⟩
  | fn f caps =>
   cases caps with
   | nil=>exact ⟨_,rfl,h⟩
   | cons=>cases h
  | ptr=>cases h
  | cptr=>cases h
  | dead=>cases h
  | uni=>cases h
  | bool b=>exact ⟨_,rfl,h⟩
  | int k m=>exact ⟨_,rfl,h⟩
  | str b=>exact ⟨_,rfl,h⟩
  | nilp=>exact ⟨_,rfl,h⟩
  | nilf=>exact ⟨_,rfl,h⟩
  | nili=>exact ⟨_,rfl,h⟩
  | nils=>exact ⟨_,rfl,h⟩
def Zmu:V → V
 | .uni _ sz es=>.list sz es .bor
 | v=>v
def V.unil:V → V
 | .agg cs=>.agg (cs.map Zmu)
 | v=>Zmu v
def Ob.unil (ob:Ob):Ob:={ ob with es:=ob.es.map V.unil }
def ZcA (C:Cfg) (s:S):S :=
 match C.rows with
 | false=>s
 | true=>s.map (Option.map Ob.unil)
def Zl9:V → V
 | .uni _ sz es=>.list sz es .sh
 | v=>v
def V.unis:V → V
 | .agg cs=>.agg (cs.map Zl9)
 | v=>Zl9 v
def Ob.unis (ob:Ob):Ob:={ ob with es:=ob.es.map V.unis }
def Zto (s:S):S:=s.map (Option.map Ob.unis)
def rho0 (f:Nat → Option Nat):V → V
 | .arr o ver off len=>(match f o with | some o'=>.arr o' ver off len | none=>.dead)
 | .ptr o ver i j=>(match f o with | some o'=>.ptr o' ver i j | none=>.dead)
 | .fn g caps=>(match caps with
  | []=>.fn g []
  | _ :: _=>.dead)
 | .agg _=>.dead
 | .tuple _=>.dead
 | .cptr _=>.dead
 | v=>v
def rhoC (f:Nat → Option Nat):V → V
 | .fn g caps=>.fn g (caps.map (rho0 f))
 | v=>rho0 f v
def rho1 (f:Nat → Option Nat):V → V
 | .agg cs=>.agg (cs.map (rhoC f))
 | v=>rhoC f v
def V.rho (f:Nat → Option Nat):V → V
 | .tuple vs=>.tuple (vs.map (rho1 f))
 | v=>rho1 f v
def Ob.rho (f:Nat → Option Nat) (ob:Ob):Ob:={ ob with es:=ob.es.map (rho1 f) }
def Za5 (os:List Nat) (n i:Nat):Option Nat :=
 match nth os i with
 | some o=>some o
 | none=>some (n + (i - os.length))
def Ob.rhoB (b:Bool) (f:Nat → Option Nat) (ob:Ob):Ob :=
 match b with
 | true=>ob.rho f
 | false=>ob
def ZtL (f:Nat → Option Nat):S → List Bool → S
 | x :: s,b :: bs=>x.map (Ob.rhoB b f) :: ZtL f s bs
 | _,_=>[]
def Zg5 (rl:TypeId → Bool) (s:S):List Bool:=s.map fun x=>match x with
 | some ob=>!rl ob.elem
 | none=>true
def trimCell (n:Nat):V → V
 | .arr o ver off len=>if o < n then .arr o ver off len else .dead
 | .ptr o ver i j=>if o < n then .ptr o ver i j else .dead
 | .fn f caps=>(match caps with
  | []=>.fn f []
  | _ :: _=>.dead)
 | .tuple _=>.dead
 | .agg _=>.dead
 | .cptr _=>.dead
 | v=>v
def trimV (n:Nat):V → V
 | .agg cs=>.agg (cs.map (trimCell n))
 | v=>trimCell n v
def Zkj (n:Nat) (s:S):S:=(s.take n).map fun
 | some ob=>some { ob with es:=ob.es.map (trimV n) }
 | none=>none
def Za7:List Nat → List V → List V
 | [],E=>E
 | t :: l,E=>Za7 l (Zai E t .dead)
def Zcy (E:List V) (dst:Option Tmp) (v:V):List V :=
 match dst with
 | some d=>Zai E d v
 | none=>E
def Zg9 {R:Type} (ops:List Oper) (E:List V) (o:Oper) (K:Bool → List V → Option R):Option R :=
 match o.guard with
 | none=>K true E
 | some (j,want) =>
  match (nth ops j).bind (·.dst) with
  | none=>K false E
  | some d=>match nth E d with
   | some (.bool b)=>(match b with
    | true=>K want (Zai E d (.bool true))
    | false=>K (!want) (Zai E d (.bool false)))
   | some .dead=>none
   | _=>K false E
def Zmj (ops:List Oper) (d:Option Tmp):Bool :=
 match d with
 | none=>false
 | some d=>ops.any fun o=>match o.op with
  | .call c=>match c.callee with
   | .builtin .append=>match c.args.toList with
    | .tmp t :: _=>Nat.beq t d
    | _=>false
   | _=>false
  | _=>false
def ZuT (ops:List Oper) (d:Option Tmp):Bool :=
 match d with
 | none=>false
 | some t=>(ops.all fun q=>match q.op with
  | .move _=>true
  | .assign _=>true
  | _=>false) && ops.any fun q=>match q.op with
  | .assign (.tmp u)=>Nat.beq u t
  | _=>false
def Zq4 (ops:List Oper) (d:Option Tmp):Bool:=Zmj ops d || ZuT ops d
def Zb4 (E:List V):Operand → List V
 | .tmp t=>match nth E t with
  | some v=>Zai E t v.noOwn
  | none=>E
 | _=>E
def Zh5 (s:S):V → Option (V × S)
 | .ptr o ver i j =>
  match Zbs s o ver with
  | some ob =>
   match nth ob.es i with
   | some e=>match nth e.cells j with
    | some c=>match putCells e j [c.noOwn] with
     | some e'=>some (c,Zai s o (some { ob with es:=Zai ob.es i e' }))
     | none=>none
    | none=>none
   | none=>none
  | none=>none
 | _=>none
def Zb6 (E:List V):List (Nat × Operand) → Option (List (Nat × V))
 | []=>some []
 | (i,x) :: l=>match ev E x with
  | none=>none
  | some v=>match Zb6 E l with
   | some l'=>some ((i,v.noOwn) :: l')
   | none=>none
inductive X where
 | norm | ret | exit (id:Nat)
abbrev Zat:=(R:Type) → FuncId → List V → S → (V → S → Option R) → Option R
abbrev ZaB:=(R:Type) → List Nat → List V → S → (X → List V → S → Option R) → Option R
section run
variable (C:Cfg) {R:Type}
def ZiS (es:List V) (off len:Nat) (z:V):List V:=es.take off ++ List.replicate len z ++ es.drop (off + len)
def Zts (s:S) (p:V):Option (Nat × TypeId) :=
 match p with
 | .ptr o ver _ _=>match Zbs s o ver with
  | some ob=>C.inl ob.elem
  | none=>none
 | .arr o ver _ _=>match Zbs s o ver with
  | some ob=>C.inl ob.elem
  | none=>none
 | _=>none
def Cfg.lty (s:S) (p:V) (t:TypeId):Ty :=
 match C.rows with
 | false=>C.ty t
 | true=>match p with
  | .ptr o ver i j=>match Zts C s (.ptr o ver i j) with
   | none=>(C.ty t).loose
   | some _=>C.ty t
  | _=>C.ty t
def ZlU (s:S) (p:V) (K:List V → Option R):Option R :=
 match p with
 | .ptr o ver i j =>
  match Zbs s o ver with
  | some ob=>match nth ob.es i with
   | some e=>K (e.cells.drop j)
   | none=>none
  | none=>none
 | .cptr cs=>K cs
 | _=>none
def ZoD (t:Ty) (s:S) (p:V) (K:V → Option R):Option R :=
 ZlU s p fun cs =>
  match t.agg with
  | true=>Zry t.shs (cs.take t.size) fun cs=>K (.agg (cs.map V.noOwnCell))
  | false=>ZbE cs fun c _=>match t.shs with
   | [sh]=>Zu4 sh c fun c=>K c.noOwnCell
   | _=>none
def Zqw (es:List V) (n:Int) (K:V → Option R):Option R :=
 if 0 ≤ n then ZbA (nth es n.toNat) K else none
def ZwS (t:Ty) (e:V) (K:V → Option R):Option R :=
 match t.agg with
 | true=>asAgg e fun cs=>Zry t.shl cs fun cs=>K (.agg cs)
 | false=>match t.shl with
  | [sh]=>Zu4 sh e K
  | _=>none
def Zfu (t:Ty) (s:S) (x i:V) (K:V → Option R):Option R :=
 match t.elem with
 | none=>none
 | some te=>Zaf (C.ty te).known <|
  match x,i with
  | .list sz es _,.int _ n=>Zaf (Nat.beq sz (C.ty te).size) (Zqw es n fun e=>ZwS (C.ty te) e fun e=>K (.cptr e.cells))
  | .arr o ver off len,.int _ n =>
   match Zbs s o ver with
   | some ob=>Zaf (Nat.beq ob.elem te) (if 0 ≤ n ∧ n < len then K (.ptr o ver (off + n.toNat) 0) else none)
   | none=>none
  | _,_=>none
def ZtN (s:ByteArray) (n:Int) (K:Int → Option R):Option R :=
 if 0 ≤ n then (match s.data[n.toNat]? with
  | some b=>K b.toNat
  | none=>none) else none
def ZqY (x i:V) (K:V → Option R):Option R :=
 match x,i with
 | .str s,.int _ n=>ZtN s n fun b=>K (.int .u8 b)
 | _,_=>none
def Zjd (f:Fl) (ys:List V):Bool :=
 match f with
 | .bor=>ys.all V.plain
 | _=>true
def Zqr (sz:Nat) (s:S) (y:V) (K:List V → Option R):Option R :=
 match y with
 | .str b=>Zaf (Nat.beq sz 1) (K (Zdr b))
 | .list sz' ys f=>Zaf (Nat.beq sz' sz) (Zaf (Zjd f ys) (K ys))
 | .arr o ver off len =>
  match Zbs s o ver with
  | some ob=>Zaf (Nat.beq ob.esz sz && decide (off + len ≤ ob.es.length)) (Zaf (((ob.es.drop off).take len).all V.plain) (K ((ob.es.drop off).take len)))
  | none=>none
 | _=>none
def ZcM (sz:Nat) (s:S) (y:V) (K:List V → Option R):Option R :=
 match y with
 | .list sz' ys _=>Zaf (Nat.beq sz' sz) (K ys)
 | .arr o ver off len =>
  match Zbs s o ver with
  | some ob=>Zaf (Nat.beq ob.esz sz && decide (off + len ≤ ob.es.length)) (K ((ob.es.drop off).take len))
  | none=>none
 | _=>none
def Zvx:List V → Option (List Int)
 | []=>some []
 | .int .u8 n :: l=>match Zvx l with
  | some xs=>some (n :: xs)
  | none=>none
 | _=>none
def Zu5 (k:Option IntKind):Bool :=
 match k with
 | some .u8=>true
 | _=>false
def ZmY (e:TypeId) (t:Ty) (s:S) (x y:V) (K:V → S → Option R):Option R :=
 match x with
 | .list _ es f =>
  match f with
  | .own e'=>Zaf (Nat.beq e e') (Zqr t.size s y fun ys =>
   if (es.length + ys.length) * t.bytes ≤ 140737488355328 then K (.list t.size (es ++ ys.map V.noOwn) (.own e)) s else none)
  | _=>none
 | .arr o ver off len =>
  match Zbs s o ver with
  | some ob=>Zaf (Nat.beq ob.elem e) (ZcM t.size s y fun ys =>
   if off = 0 ∧ len = ob.es.length ∧ (len + ys.length) * t.bytes ≤ 140737488355328 ∧ 0 < ys.length then
    K (.arr o (ver + 1) 0 (len + ys.length)) (Zai s o (some { ob with es:=ob.es ++ ys.map V.noOwn,ver:=ver + 1 }))
   else none)
  | none=>none
 | _=>none
def newOb (s:S) (es:List V) (t:TypeId):S:=s ++ [some { es:=es,esz:=(C.ty t).size,elem:=t,ver:=0 }]
def ZuO (src dst:TypeId) (s:S) (a:V) (K:V → Option R):Option R :=
 match (C.ty src).elem with
 | some e=>Zaf ((C.ty e).known && (C.ty dst).str && Zu5 (C.ty e).kind) <| ZcM 1 s a fun ys=>match Zvx ys with
  | some xs=>K (.str (strOfNums xs))
  | none=>none
 | none=>match (C.ty dst).elem with
  | some e=>Zaf ((C.ty e).known && (C.ty src).str && Zu5 (C.ty e).kind) <| Zru a fun b=>K (.list 1 (Zdr b) .sh)
  | none=>ZbA (Zuu (C.ty dst) a) K
def ZgN (ops:List Oper) (o:Oper) (E:List V) (s:S) (K:V → List V → S → Option R):Option R :=
 match o.op with
 | .move x=>ZbA (evt C o.type E x) fun v =>
  match Zq4 ops o.dst with
  | true=>K v (Zb4 E x) s
  | false=>K v.noOwn E s
 | .assign x=>ZbA (evt C o.type E x) fun v=>K v (Zb4 E x) s
 | .pick c a b=>ZbA (ev E c) fun c=>asBool c fun t =>
  match t with
  | true=>ZbA (ev E a) fun v=>K v.noOwn E s
  | false=>ZbA (ev E b) fun v=>K v.noOwn E s
 | .load t a=>Zaf (C.ty t).known <| ZbA (ev E a) fun p =>
  match Zq4 ops o.dst with
  | true=>Zaf (!(C.ty t).agg && Nat.beq (C.ty t).size 1) <| match Zh5 s p with
    | some (v,s')=>K v E s'
    | none=>none
  | false=>ZoD (C.lty s p t) s p fun v=>K v E s
 | .store t a x=>Zaf (C.ty t).known <| ZbA (ev E a) fun p=>ZbA (evt C t E x) fun v =>
  Zra (C.ty t) s p v fun s'=>K (.tuple []) (Zb4 E x) s'
 | .fieldAddr t x f=>Zaf (C.ty t).known <| ZbA (ev E x) fun p=>ZbA (Zfs (C.ty t) p f) fun v=>K v E s
 | .indexAddr t x i=>Zaf (C.ty t).known <| ZbA (ev E x) fun v=>ZbA (ev E i) fun n=>Zfu C (C.ty t) s v n fun v=>K v E s
 | .index t x i=>Zaf ((C.ty t).known && (C.ty t).str) (ZbA (ev E x) fun v=>ZbA (ev E i) fun n=>ZqY v n fun v=>K v E s)
 | .slice t x lo hi mx =>
  match mx with
  | some _=>none
  | none=>Zaf (C.ty t).known <| ZbA (ev E x) fun v =>
   match ZaK (ev E) lo.toList,ZaK (ev E) hi.toList with
   | some l,some h=>(match (C.ty t).elem with
    | some e=>Zaf (C.ty e).known <| Zw5 (C.ty e).size s v (nth l 0) (nth h 0) fun v=>K v E s
    | none=>Zaf (C.ty t).str <| Zmn v (nth l 0) (nth h 0) fun v=>K v E s)
   | _,_=>none
 | .binOp op t x y _=>ZbA (ev E x) fun a=>ZbA (ev E y) fun b=>ZwW (C.ty t) op a b fun v=>K v E s
 | .unOp op _ x=>ZbA (ev E x) fun a=>ZbA (unV op a) fun v=>K v E s
 | .convert src dst x=>Zaf ((C.ty src).known && (C.ty dst).known) <| ZbA (ev E x) fun a=>ZuO C src dst s a fun v=>K v E s
 | .nilCheck x=>ZbA (ev E x) fun v =>
  match v with
  | .ptr o ver i j=>K (.ptr o ver i j) E s
  | .cptr cs=>K (.cptr cs) E s
  | .fn f cs=>K (.fn f cs) E s
  | _=>none
 | .field t x i=>Zaf ((C.ty t).known && (C.ty t).agg) <| ZbA (ev E x) fun v=>asAgg v fun cs =>
  match nth (C.ty t).ftys i,nth (C.ty t).offs i with
  | some ft,some off=>Zaf ((C.ty ft).known && !(C.ty ft).agg) <| ZbA (nth cs off) fun c=>K c.noOwn E s
  | _,_=>none
 | .extract x i=>ZbA (ev E x) fun v =>
  match v with
  | .tuple vs=>ZbA (nth vs i) fun v=>K v.noOwn E s
  | _=>none
 | .makeFunc fn first caps =>
  match fn,first.toList with
  | .func f,[]=>match ZaK (ev E) caps.toList with
   | some vs=>K (.fn f (vs.map V.noOwn)) E s
   | none=>none
  | _,_=>none
 | .box t x=>Zaf (C.ty t).known <| ZbA (ev E x) fun v=>Zaf v.flat <|
  if v.cells.length = (C.ty t).size then Zaf (!C.thaw) (K (.ptr s.length 0 0 0) E (newOb C s [v.boxed] t)) else none
 | .alloc t=>Zaf (C.ty t).known <|
  if (C.ty t).zero.cells.length = (C.ty t).size then Zaf (!C.thaw) (K (.ptr s.length 0 0 0) E (newOb C s [(C.ty t).zero] t)) else none
 | .build t parts=>Zaf (C.ty t).known <|
  match Zb6 E parts.toList with
  | some ps=>Zaf ((C.ty t).agg && ps.all fun p=>p.2.flat) <| match Zop (C.ty t).offs (C.ty t).fszs (C.ty t).zero.cells ps with
   | some cs=>K (.agg cs) E s
   | none=>none
  | none=>none
 | .buildSlice t len parts=>Zaf (C.ty t).known <|
  match (C.ty t).elem,Zb6 E parts.toList with
  | some e,some ps=>Zaf (C.ty e).known <| match ZdN (List.replicate len (C.ty e).zero) ps with
   | some es =>
    if len * (C.ty e).size ≤ 16777216 ∧ ps.all (fun p=>Nat.beq p.2.cells.length (C.ty e).size && p.2.flat) = true then
     match es.all V.plain with
     | true=>K (.list (C.ty e).size es (.own e)) E s
     | false=>Zaf (!C.thaw) <| K (.arr s.length 0 0 len) E (newOb C s es e)
    else none
   | none=>none
  | _,_=>none
 | .makeSlice t len cap=>Zaf (C.ty t).known <|
  match (C.ty t).elem with
  | some e=>Zaf (C.ty e).known <| ZbA (ev E len) fun n=>ZbA (ev E cap) fun m =>
   match n,m with
   | .int _ n,.int _ m =>
    if 0 ≤ n ∧ n = m ∧ n * (C.ty e).bytes ≤ 140737488355328 then
     Zaf (!C.thaw) (K (.arr s.length 0 0 n.toNat) E (newOb C s (List.replicate n.toNat (C.ty e).zero) e))
    else none
   | _,_=>none
  | none=>none
 | _=>none
def Zfi (b:Builtin) (argTypes:List TypeId) (args:List V) (s:S) (K:V → S → Option R):Option R :=
 match b,args with
 | .len,[x]=>match argTypes with
  | t :: _=>Zaf (C.ty t).known <| match Zxj (C.ty t) x with
   | some n=>K (.int .i64 n) s
   | none=>none
  | []=>none
 | .append,[x,y]=>match argTypes with
  | [t,u]=>Zaf ((C.ty t).known && (C.ty u).known && ((C.ty u).str || (C.ty u).elem.isSome)) <| match (C.ty t).elem with
   | some e=>Zaf (!C.thaw && (C.ty e).known) <| ZmY e (C.ty e) s x y K
   | none=>none
  | _=>none
 | .clear,[.arr o ver off len]=>match argTypes with
  | [t]=>Zaf (C.ty t).known <| match (C.ty t).elem with
   | some e=>Zaf ((C.ty e).known && Nat.beq (C.ty e).size 1 && (C.ty e).zero.flatCell) <| match Zbs s o ver with
    | some ob=>Zaf (Nat.beq ob.elem e && decide (off + len ≤ ob.es.length)) <| K (.tuple []) (Zai s o (some { ob with es:=ZiS ob.es off len (C.ty e).zero }))
    | none=>none
   | none=>none
  | _=>none
 | .min,[.int k a,.int k' b]=>if k = k' then K (.int k (if b < a then b else a)) s else none
 | .max,[.int k a,.int k' b]=>if k = k' then K (.int k (if a < b then b else a)) s else none
 | _,_=>none
def Zwq (t:TypeId) (v:V) (K:V → Option R):Option R :=
 match (C.ty t).elem with
 | some e=>ZaP (C.ty e).size v fun es f=>K (.list (C.ty e).size es f)
 | none=>match (C.ty t).agg with
  | true=>asAgg v fun cs=>Zry (C.ty t).shl cs fun cs=>K (.agg cs)
  | false=>match (C.ty t).shl with
   | [sh]=>Zu4 sh v K
   | _=>none
def ZrJ:List TypeId → List V → (List V → Option R) → Option R
 | [],l,K=>ZuR l (K [])
 | t :: ts,l,K=>ZbE l fun v l=>Zwq C t v fun v=>ZrJ ts l fun l=>K (v :: l)
def Zic (ts:List TypeId) (v:V) (K:V → Option R):Option R :=
 match ts with
 | [t]=>Zwq C t v K
 | ts=>match v with
  | .tuple l=>ZrJ C ts l fun l=>K (.tuple l)
  | _=>none
def Zte (Φ:Zat) (g:FuncId) (args:List V) (s:S) (K:V → S → Option R):Option R :=
 match C.mode g with
 | .pure=>ZtQ (Zbg true (ZcA C s) 12) args fun as=>Φ R g as [] fun v _=>Zic C (C.res g) v fun v=>K v s
 | .shared=>Φ R g (args.map V.noOwn) s K
 | .own=>ZtQ (Zbg true (ZcA C s) 12) args fun as=>Φ R g as [] fun v _=>Zic C (C.res g) v fun v=>K v s
 | .fresh=>ZtQ (Zbg true (ZcA C s) 12) args fun as=>Φ R g as [] fun v s'=>K (v.rho (Za5 [] s.length)) (s ++ ZtL (Za5 [] s.length) s' (Zg5 C.rl s'))
def Zv1 (Φ:Zat) (g:FuncId) (args:List V) (s:S) (K:V → S → Option R):Option R :=
 ZtQ (Zbg true (ZcA C s) 12) args fun as=>Φ R g as [] fun v s'=>Zbg false (Zto s') 12 v fun v=>Zic C (C.res g) v fun v=>K v s
def ZeH (E:List V):List TypeId → List Operand → Option (List V)
 | _,[]=>some []
 | ts,x :: l=>match (match ts with | t :: _=>evt C t E x | []=>ev E x) with
  | none=>none
  | some v=>match ZeH E ts.tail l with
   | some l'=>some (v :: l')
   | none=>none
def Zdk:Operand → Bool
 | .const (.slice none 0 0)=>true
 | _=>false
def ZdM:List Operand → List V → List V
 | x :: xs,v :: vs=>(match Zdk x with
  | true=>.nils
  | false=>v) :: ZdM xs vs
 | _,vs=>vs
def argsN (b:Bool) (xs:List Operand) (vs:List V):List V :=
 match b with
 | true=>ZdM xs vs
 | false=>vs
def ZcR (b:Builtin) (E:List V) (args:List Operand):List V :=
 match b,args with
 | .append,x :: _=>Zb4 E x
 | _,_=>E
def opV (Φ:Zat) (ops:List Oper) (o:Oper) (E:List V) (s:S) (K:V → List V → S → Option R):Option R :=
 match o.op with
 | .call c =>
  match ZeH C E c.argTypes.toList c.args.toList with
  | none=>none
  | some args =>
   match c.callee with
   | .builtin b=>Zfi C b c.argTypes.toList args s fun v s'=>K v (ZcR b E c.args.toList) s'
   | .value x=>ZbA (ev E x) fun f =>
    match f with
    | .fn g caps=>Zte C Φ g (argsN (C.nilArg g) c.args.toList args ++ caps) s fun v s'=>K v E s'
    | _=>none
   | .invoke ..=>none
 | _=>ZgN C ops o E s K
def opC (Φ:Zat) (ops:List Oper) (o:Oper) (E:List V) (s:S) (K:V → List V → S → Option R):Option R :=
 match o.op with
 | .call c=>match c.callee with
  | .value (.func g)=>match C.mode g with
   | .fresh=>match ZeH C E c.argTypes.toList c.args.toList with
    | some args=>Zv1 C Φ g (argsN (C.nilArg g) c.args.toList args) s fun v s=>K v E s
    | none=>none
   | _=>opV C Φ ops o E s K
  | _=>opV C Φ ops o E s K
 | _=>opV C Φ ops o E s K
def ZtW (s:S) (o ver len:Nat) (K:S → Option R):Option R :=
 match Zbs s o ver with
 | some ob=>if len ≤ ob.es.length then K (Zai s o (some { ob with es:=ob.es.take len })) else none
 | none=>none
def opT (Φ:Zat) (ops:List Oper) (o:Oper) (E:List V) (s:S) (K:V → List V → S → Option R):Option R :=
 match o.op with
 | .buildSlice t len parts=>Zaf (C.ty t).known <|
  match (C.ty t).elem,Zb6 E parts.toList with
  | some e,some ps=>Zaf (C.ty e).known <| match ZdN (List.replicate len (C.ty e).zero) ps with
   | some es =>
    if len * (C.ty e).size ≤ 16777216 ∧ ps.all (fun p=>Nat.beq p.2.cells.length (C.ty e).size && p.2.flat) = true then
     K (.arr s.length 0 0 len) E (newOb C s es e)
    else none
   | none=>none
  | _,_=>none
 | .convert src dst x=>match Nat.beq src dst with
  | false=>opV C Φ ops o E s K
  | true=>Zaf (C.ty src).known <| match (C.ty src).elem with
   | some e=>Zaf ((C.ty e).known && Zu5 (C.ty e).kind) <| ZbA (ev E x) fun a=>match a with
    | .arr oo 0 0 len=>(match Zbs s oo 0 with
     | some ob=>Zaf (decide (0 < len) && decide (len ≤ ob.es.length)) <| K (.arr oo 1 0 len) E (Zai s oo (some { ob with ver:=1 }))
     | none=>none)
    | _=>none
   | none=>none
 | _=>opV C Φ ops o E s K
def opX (Φ:Zat) (ops:List Oper) (o:Oper) (E:List V) (s:S) (K:V → List V → S → Option R):Option R :=
 match C.thaw with
 | true=>opT C Φ ops o E s K
 | false=>match C.objAll with
  | false=>opV C Φ ops o E s K
  | true=>match o.op with
   | .assign (.const (.slice none 0 0))=>(match (C.ty o.type).elem with
    | some e=>Zaf ((C.ty o.type).known && (C.ty e).known) <| K (.arr s.length 0 0 0) E (newOb C s [] e)
    | none=>none)
   | .buildSlice t 0 ⟨[]⟩=>(match (C.ty t).elem with
    | some e=>Zaf ((C.ty t).known && (C.ty e).known) <| K (.arr s.length 0 0 0) E (newOb C s [] e)
    | none=>none)
   | .call c=>(match c.callee,ZeH C E c.argTypes.toList c.args.toList with
    | .builtin .append,some (.arr oo ver 0 len :: _)=>ZtW s oo ver len fun s2=>opV C Φ ops o E s2 K
    | _,_=>opV C Φ ops o E s K)
   | _=>opV C Φ ops o E s K
def Zhl (v:V) (f:Nat → Nat → Nat → Nat → Option R):Option R :=
 match v with
 | .arr o ver off len=>f o ver off len
 | _=>none
def Zdy (t sz:Nat) (v:V) (f:List V → Option R):Option R :=
 match v with
 | .uni t' sz' es=>Zaf (Nat.beq t' t && Nat.beq sz' sz) (f es)
 | _=>none
def V.scal:V → Bool
 | .bool _ | .int .. | .str _=>true
 | _=>false
def V.scalE (v:V):Bool:=v.cells.all V.scal
def Zw0 (s:S) (e:TypeId) (oo ver i j:Nat) (K:V → S → Option R):Option R :=
 match Zbs s oo ver with
 | some ob=>match nth ob.es i with
  | some el=>ZbE (el.cells.drop j) fun c _=>Zdy e (C.ty e).size c fun es=>match putCells el j [.arr s.length 0 0 es.length] with
   | some el'=>K (.arr s.length 0 0 es.length) (Zai s oo (some { ob with es:=Zai ob.es i el' }) ++ [some { es:=es,esz:=(C.ty e).size,elem:=e,ver:=0 }])
   | none=>none
  | none=>none
 | none=>none
def Zse (s:S) (oo n ver off len:Nat) (K:V → Option R):Option R :=
 match Zbs s n ver with
 | some ob=>Zaf (!C.thaw && !(Nat.beq n oo) && decide (0 < ob.esz) && decide (off + len ≤ ob.es.length)) <| Zaf (((ob.es.drop off).take len).all V.scalE) <|
   K (.uni ob.elem ob.esz ((ob.es.drop off).take len))
 | none=>none
def Zdg (n len:Nat):V → Bool
 | .arr o ver off l=>Nat.beq o n && Nat.beq ver 0 && Nat.beq off 0 && Nat.beq l len
 | _=>false
def Zt4 (s:S) (n oo ver i j len:Nat) (K:S → Option R):Option R :=
 match Zbs s oo ver with
 | some ob=>match nth ob.es i with
  | some el=>ZbE (el.cells.drop j) fun c _=>Zaf (Zdg n len c) <| Zse C s oo n 0 0 len fun u=>match putCells el j [u] with
   | some el'=>K (Zai (Zai s oo (some { ob with es:=Zai ob.es i el' })) n none)
   | none=>none
  | none=>none
 | none=>none
def Zgt (s:S) (oo:Nat) (e:TypeId) (c:V) (K:V → Option Nat → Option R):Option R :=
 match c with
 | .arr n ver off len=>Zse C s oo n ver off len fun u=>K u (some n)
 | .nils=>Zaf (C.ty e).known <| K (.uni e (C.ty e).size []) none
 | _=>none
def rmS (n:Option Nat) (s:S):S :=
 match n with
 | some n=>Zai s n none
 | none=>s
def Zv0:V → V
 | .list sz [] (.own e)=>.uni e sz []
 | v=>v
def Zg1:V → V
 | .list _ _ (.own _)=>.nils
 | v=>v
def Zc3 (x:Operand) (v:V):V :=
 match v with
 | .agg cs=>.agg (cs.map Zg1)
 | v=>match Zdk x with
  | true=>.nils
  | false=>v
def V.relab:V → V
 | .agg cs=>.agg (cs.map Zv0)
 | v=>Zv0 v
def Zn1 (e:TypeId) (sz:Nat):V → V
 | .nils=>.uni e sz []
 | v=>v
def V.toUni (e:TypeId) (sz:Nat):V → V
 | .agg cs=>.agg (cs.map (Zn1 e sz))
 | v=>Zn1 e sz v
def ZvQ (d:Option Tmp):Bool :=
 match d with
 | some d=>!C.raw.any (Nat.beq d)
 | none=>true
def ZwP (l:List Oper) (d:Option Tmp):Bool :=
 (match d with
  | some d=>C.keep.any (Nat.beq d)
  | none=>true) || l.any fun o=>match o.op with
  | .store t _ _=>(C.ty t).elem.isSome
  | _=>false
def Zve (ops:List Oper) (d:Option Tmp):Bool :=
 match d with
 | none=>false
 | some d=>ops.any fun o=>match o.op with
  | .call c=>match c.callee with
   | .builtin .append=>match c.args.toList with
    | _ :: .tmp t :: _=>Nat.beq t d
    | _=>false
   | _=>false
  | _=>false
def opR (Φ:Zat) (ops l:List Oper) (o:Oper) (E:List V) (s:S) (K:V → List V → S → Option (Nat × Nat × Nat × Nat × Nat × Nat) → Option R):Option R :=
 let base:=opX C Φ ops o E s fun v E s=>K v E s none
 match o.op with
 | .load t a=>(match ev E a with
  | some (.ptr oo ver i j)=>(match Zts C s (.ptr oo ver i j),ZvQ C o.dst with
   | some (jr,e),true=>(match Nat.beq j jr && (C.ty t).elem.isSome with
    | true=>Zaf ((C.ty t).known && Nat.beq (C.ty t).size 1 && !(C.ty t).agg) <| Zw0 C s e oo ver i j fun v s'=>K v E s' (match ZwP C l o.dst with | true=>none | false=>some (s.length,oo,ver,i,j,match v with | .arr _ _ _ len=>len | _=>0))
    | false=>Zaf (C.ty t).known <| ZoD (C.ty t).loose s (.ptr oo ver i j) fun v=>K v E s none)
   | _,_=>base)
  | _=>base)
 | .store t a x=>(match ev E a,evt C t E x with
  | some (.ptr oo ver i j),some v=>(match Zts C s (.ptr oo ver i j) with
   | some (jr,e)=>(match Nat.ble j jr && Nat.blt (jr - j) (C.ty t).size with
    | true=>Zaf ((C.ty t).known && Nat.beq v.cells.length (C.ty t).size && (Zc3 x v).flat) <| (match nth (Zc3 x v).cells (jr - j) with
     | some c=>Zgt C s oo e c fun u rm=>(match Zbs s oo ver with
      | some ob=>(match nth ob.es i with
       | some el=>(match putCells el j (Zai (Zc3 x v).cells (jr - j) u) with
        | some el'=>K (.tuple []) (Zb4 E x) (rmS rm (Zai s oo (some { ob with es:=Zai ob.es i el' }))) none
        | none=>none)
       | none=>none)
      | none=>none)
     | none=>none)
    | false=>base)
   | none=>base)
  | _,_=>base)
 | .makeSlice t len cap=>(match (C.ty t).elem with
  | some e=>(match C.inl e with
   | some _=>Zaf ((C.ty t).known && (C.ty e).known && !C.thaw) <| ZbA (ev E len) fun n=>ZbA (ev E cap) fun m=>(match n,m with
    | .int _ n,.int _ m=>if 0 ≤ n ∧ n = m ∧ n * (C.ty e).bytes ≤ 140737488355328 then K (.arr s.length 0 0 n.toNat) E (newOb C s (List.replicate n.toNat (C.ty e).zero.relab) e) none else none
    | _,_=>none)
   | none=>base)
  | none=>base)
 | .buildSlice t len parts=>(match (C.ty t).elem with
  | some e=>(match C.inl e with
   | some (_,er)=>(match Zve ops o.dst with
    | true=>base
    | false=>Zaf ((C.ty t).known && (C.ty e).known && (C.ty er).known && !C.thaw) <| (match Zb6 E parts.toList with
     | some ps=>(match ZdN (List.replicate len (C.ty e).zero) ps with
      | some es=>if len * (C.ty e).size ≤ 16777216 ∧ ps.all (fun p=>Nat.beq p.2.cells.length (C.ty e).size && p.2.flat) = true then
        K (.arr s.length 0 0 len) E (newOb C s (es.map (V.toUni er (C.ty er).size)) e) none
       else none
      | none=>none)
     | none=>none))
   | none=>base)
  | none=>base)
 | .build t _=>(match C.inl t with
  | some _=>opX C Φ ops o E s fun v E s=>asAgg v fun cs=>K (.agg (cs.map Zg1)) E s none
  | none=>base)
 | .call c=>(match c.callee,ZeH C E c.argTypes.toList c.args.toList with
  | .builtin .append,some [.arr oo ver off len,y]=>(match Zts C s (.arr oo ver off len),c.argTypes.toList with
   | some (jr,er),[t,u]=>Zaf ((C.ty t).known && (C.ty u).known && ((C.ty u).str || (C.ty u).elem.isSome)) <| (match (C.ty t).elem with
    | some e=>Zaf (!C.thaw && (C.ty e).known) <| (match Zbs s oo ver with
     | some ob=>Zaf (Nat.beq ob.elem e) <| ZcM (C.ty e).size s y fun ys=>(match ys with
      | [z]=>if off = 0 ∧ len = ob.es.length ∧ (len + 1) * (C.ty e).bytes ≤ 140737488355328 then
        (match nth z.noOwn.cells jr with
        | some c1=>Zgt C s oo er c1 fun u rm=>(match putCells z.noOwn jr [u] with
         | some z'=>K (.arr oo (ver + 1) 0 (len + 1)) (ZcR .append E c.args.toList) (rmS rm (Zai s oo (some { ob with es:=ob.es ++ [z'],ver:=ver + 1 }))) none
         | none=>none)
        | none=>none)
       else none
      | _=>none)
     | none=>none)
    | none=>none)
   | _,_=>base)
  | _,_=>base)
 | _=>base
def ZuC (wb:Option (Nat × Nat × Nat × Nat × Nat × Nat)) (s:S) (K:S → Option R):Option R :=
 match wb with
 | none=>K s
 | some (n,oo,ver,i,j,len)=>Zt4 C s n oo ver i j len K
def Zrg (Φ:Zat) (ops:List Oper):List Oper → List V → S → (List V → S → Option R) → Option R
 | [],E,s,K=>K E s
 | o :: l,E,s,K=>Zg9 ops E o fun b E =>
  match b with
  | true=>match C.rows with
   | false=>opX C Φ ops o E s fun v E' s'=>Zrg Φ ops l (Zcy E' o.dst v) s' K
   | true=>opR C Φ ops l o E s fun v E' s' wb=>Zrg Φ ops l (Zcy E' o.dst v) s' fun E2 s2=>ZuC C wb s2 fun s2=>K E2 s2
  | false=>Zrg Φ ops l (Zcy E o.dst (.tuple [])) s K
def Zbc (ops:List Oper) (o:Oper):Bool :=
 match o.op with
 | .move _ | .load ..=>!Zq4 ops o.dst
 | .pick .. | .fieldAddr .. | .indexAddr .. | .index .. | .slice .. | .binOp .. | .unOp .. | .convert .. | .nilCheck _ | .extract .. | .field .. | .build ..=>true
 | .call c=>match c.callee with
  | .builtin .len | .builtin .min | .builtin .max=>true
  | .value (.func g)=>match C.mode g with
   | .pure=>true
   | .fresh=>(match o.dst with
    | some d=>!C.lay.any (Nat.beq d)
    | none=>true)
   | _=>false
  | _=>false
 | _=>false
def ZbB (ops:List Oper) (o:Oper):Bool :=
 match o.op with
 | .assign _=>true
 | _=>Zbc C ops o
def Zeu (ts:List Nat):Nat → List V → List V
 | _,[]=>[]
 | k,v :: l=>(match ts.any (Nat.beq k) with | true=>v.noOwn | false=>.dead) :: Zeu ts (k + 1) l
def ZaZ (ops:List Oper) (o:Oper):List Nat:=o.looksAt ops.toArray
def ZiZ (ops:List Oper):Bool :=
 (List.range ops.length).all fun i=>match nth ops i with
  | none=>false
  | some o=>o.after.all (fun e=>!Region.binds .any e || decide (e.on < i)) && ZbB C ops o &&
   (List.range ops.length).all fun j=>match nth ops j with
    | none=>true
    | some p=>match p.dst with
     | none=>true
     | some d=>(!((ZaZ ops o).any (Nat.beq d)) || o.after.any (fun e=>Region.binds .any e && e.on == j)) &&
      (i == j || !(match o.dst with | some d'=>Nat.beq d d' | none=>false))
def ZiV (Φ:Zat) (ops:List Oper):List Oper → List V → S → (List V → S → Option R) → Option R
 | [],E,s,K=>K E s
 | o :: l,E,s,K=>Zg9 ops E o fun b E =>
  match b with
  | true=>opC C Φ ops o (Zeu (ZaZ ops o) 0 E) s fun v _ _=>ZiV Φ ops l (Zcy E o.dst v.noOwn) s K
  | false=>ZiV Φ ops l (Zcy E o.dst (.tuple [])) s K
def ZfN (ops:List Oper) (i:Nat):List Nat :=
 match nth ops i with
 | none=>[]
 | some o=>(o.after.toList.filter (Region.binds .any)).map (·.on)
def ZhQ (ops:List Oper):Nat → List Nat → List Nat
 | 0,l=>l
 | i + 1,l=>match l.any (Nat.beq i) with
  | true=>ZhQ ops i (l ++ ZfN ops i)
  | false=>ZhQ ops i l
def Zdh (o:Oper):Bool :=
 match o.op with
 | .alloc _=>true
 | .makeSlice ..=>true
 | _=>false
def Zcc (o:Oper):Bool :=
 match o.op with
 | .call c=>match c.callee with
  | .builtin .append=>true
  | .value (.func g)=>match C.mode g with
   | .own=>true
   | _=>false
  | _=>false
 | .buildSlice ..=>true
 | _=>false
def ZoF (ops:List Oper) (o:Oper) (t:Nat):Bool :=
 (List.range ops.length).any fun j=>match nth ops j with
  | some p=>(match p.dst with | some d=>Nat.beq d t | none=>false) && o.after.any (fun e=>Region.binds .any e && e.on == j)
  | none=>false
def ZjY (ops:List Oper) (i:Nat) (o:Oper):List Nat :=
 (ZaZ ops o).filter fun t=>ZoF ops o t &&
  (List.range ops.length).all fun j=>Nat.beq j i || match nth ops j with
   | some p=>!(ZaZ ops p).any (Nat.beq t)
   | none=>true
def ZjM (ks ts:List Nat):Nat → List V → List V
 | _,[]=>[]
 | k,v :: l=>(match ks.any (Nat.beq k) with
  | true=>v
  | false=>match ts.any (Nat.beq k) with
   | true=>v.noOwn
   | false=>.dead) :: ZjM ks ts (k + 1) l
def Zh4 (n:Nat):V → V
 | .ptr _ ver i j=>.ptr n ver i j
 | .arr _ ver off len=>.arr n ver off len
 | v=>v
abbrev Zp3:=List (Nat × Ob × V)
def Zkb:Zp3 → List V → S → List V
 | [],E,_=>E
 | (d,ob,v) :: l,E,s=>Zkb l (Zai E d (Zh4 s.length v)) (s ++ [some ob])
def Zfd:Zp3 → S → S
 | [],s=>s
 | (_,ob,_) :: l,s=>Zfd l (s ++ [some ob])
def Zkx:List (Nat × Nat) → List V → List V
 | [],E=>E
 | (d,x) :: l,E=>Zkx l (Zai E d (match nth E x with | some v=>v.noOwn | none=>.dead))
def ZlR (ops:List Oper) (p:Zp3) (al:List (Nat × Nat)) (o:Oper):Option Nat :=
 match o.op with
 | .assign (.tmp x)=>match (p.any (fun q=>Nat.beq q.1 x) || al.any (fun q=>Nat.beq q.1 x)) && ZoF ops o x with
  | true=>some x
  | false=>none
 | _=>none
abbrev ZrV:=List (Nat × Nat × V)
def Zh3 (ob:Ob) (d:Nat):ZrV → Ob
 | []=>ob
 | (d',_,v) :: l=>match Nat.beq d' d with
  | true=>{ ob with es:=[v] }
  | false=>Zh3 ob d l
def ZpP (pu:ZrV):Zp3 → Zp3
 | []=>[]
 | (d,ob,v) :: l=>(d,Zh3 ob d pu,v) :: ZpP pu l
def Zfq (o:Oper):Bool :=
 match o.op,o.dst with
 | .store _ (.tmp _) (.tmp _),none=>true
 | _,_=>false
def ZoS (q:Nat × Ob × V) (d sz:Nat):Bool :=
 Nat.beq q.1 d && Nat.beq q.2.1.esz sz && Nat.beq q.2.1.es.length 1 && (match q.2.2 with
  | .ptr 0 0 0 0=>true
  | _=>false)
def Zt7 (ops:List Oper) (p:Zp3) (pu:ZrV) (o:Oper):Option (TypeId × Nat × Nat) :=
 match o.op,o.dst with
 | .store t (.tmp d) (.tmp x),none=>match p.any (fun q=>ZoS q d (C.ty t).size) && !(pu.any (fun q=>Nat.beq q.1 d)) && ZoF ops o d && ZoF ops o x && (C.ty t).known with
  | true=>some (t,d,x)
  | false=>none
 | _,_=>none
def ZcV (Φ:Zat) (ops:List Oper):Nat → List Oper → List V → S → Zp3 → List (Nat × Nat) → ZrV → (List V → S → Option R) → Option R
 | _,[],E,s,p,al,pu,K=>K (Zkx al (Zkb (ZpP pu p) E s)) (Zfd (ZpP pu p) s)
 | i,o :: l,E,s,p,al,pu,K=>Zg9 ops E o fun b E =>
  match b with
  | true=>match Zt7 C ops p pu o with
   | some (t,d,x)=>ZbA (nth E x) fun v=>ZbA (nth E d) fun _=>Zaf (Nat.beq v.noOwn.cells.length (C.ty t).size && v.noOwn.flat) <|
    ZcV Φ ops (i + 1) l E s p al (pu ++ [(d,x,v.noOwn)]) K
   | none=>match Zfq o with
    | true=>none
    | false=>match ZlR ops p al o,o.dst with
     | some x,some d=>ZcV Φ ops (i + 1) l (Zai E d .dead) s p (al ++ [(d,x)]) pu K
     | _,_=>match Zdh o with
      | true=>ZgN C ops o (Zeu (ZaZ ops o) 0 E) [] fun v _ s1=>match s1,o.dst with
       | [some ob],some d=>ZcV Φ ops (i + 1) l (Zai E d .dead) s (p ++ [(d,ob,v)]) al pu K
       | _,_=>none
      | false=>match Zcc C o with
       | true=>opV C Φ ops o (ZjM (ZjY ops i o) (ZaZ ops o) 0 E) s fun v _ _=>match v with
        | .list sz es f=>ZcV Φ ops (i + 1) l (Zcy (Za7 (ZjY ops i o) E) o.dst (.list sz es f)) s p al pu K
        | _=>none
       | false=>opC C Φ ops o (Zeu (ZaZ ops o) 0 E) s fun v _ _=>ZcV Φ ops (i + 1) l (Zcy E o.dst v.noOwn) s p al pu K
  | false=>ZcV Φ ops (i + 1) l (Zcy E o.dst (.tuple [])) s p al pu K
def ZdR (ops:List Oper) (n m:Nat):Bool :=
 decide (m ≤ ops.length) &&
 ((List.range m).all fun i=>match nth ops i with
  | none=>false
  | some o=>o.after.all (fun e=>!Region.binds .any e || decide (e.on < i)) && (Zdh o || Zcc C o || ZbB C ops o || Zfq o) && (!(Zdh o) || match o.dst with | some _=>true | none=>false) &&
   (List.range m).all fun j=>match nth ops j with
    | none=>true
    | some p=>match p.dst with
     | none=>true
     | some d=>(!((ZaZ ops o).any (Nat.beq d)) || o.after.any (fun e=>Region.binds .any e && e.on == j)) &&
      (i == j || !(match o.dst with | some d'=>Nat.beq d d' | none=>false))) &&
 (match nth ops m with
  | none=>true
  | some o=>o.after.all (fun e=>!Region.binds .any e || decide (e.on < m)) && (fun l=>(List.range m).all fun j=>l.any (Nat.beq j)) (ZhQ ops m (ZfN ops m))) &&
 (List.range n).all fun j=>decide (j ≤ m) || match nth ops j with
  | none=>true
  | some o=>o.after.all (fun e=>!Region.binds .any e || decide (e.on < j)) && o.after.any (fun e=>Region.binds .any e && (e.on + 1 == j))
def ZeF (ops:List Oper) (m:Nat):Bool:=ZdR C ops ops.length m
def ZfM (ops:List Oper) (q:Nat):Bool :=
 (List.range ops.length).all fun i=>decide (i < q) || match nth ops i with
  | none=>false
  | some o=>o.after.all (fun e=>!Region.binds .any e || decide (e.on < i)) && o.after.any (fun e=>Region.binds .any e && decide (q ≤ e.on + 1)) && ZbB C ops o &&
   (List.range ops.length).all fun j=>decide (j < q) || match nth ops j with
    | none=>true
    | some p=>match p.dst with
     | none=>true
     | some d=>(!((ZaZ ops o).any (Nat.beq d)) || o.after.any (fun e=>Region.binds .any e && e.on == j)) &&
      (i == j || !(match o.dst with | some d'=>Nat.beq d d' | none=>false))
def ZfJ (ops:List Oper) (m q:Nat):Bool :=
 decide (m < q) && (decide (q ≤ ops.length) && (ZdR C ops q m && ZfM C ops q))
def Zwa (id:Nat):List (Nat × Nat × Nat) → Option (Nat × Nat)
 | []=>none
 | (i,m,q) :: l=>match Nat.beq i id with
  | true=>some (m,q)
  | false=>Zwa id l
def Zge (ops:List Oper):Nat → Nat → Nat
 | 0,m=>m
 | n + 1,m=>match ZeF C ops m with
  | true=>m
  | false=>Zge ops n (m + 1)
def Zh2 (Φ:Zat) (Λ:ZaB):Code → List Nat → List V → S → (X → List V → S → Option R) → Option R
 | .skip,_,E,s,K=>K .norm E s
 | .seq a b,w,E,s,K=>Zh2 Φ Λ a (0 :: w) E s fun x E' s' =>
  match x with
  | .norm=>Zh2 Φ Λ b (1 :: w) E' s' K
  | x=>K x E' s'
 | .cond c a b,w,E,s,K=>ZbA (ev E c) fun v=>asBool v fun t =>
  match t with
  | true=>Zh2 Φ Λ a (0 :: w) E s K
  | false=>Zh2 Φ Λ b (1 :: w) E s K
 | .block id b,w,E,s,K=>Zh2 Φ Λ b (0 :: w) E s fun x E' s' =>
  match x with
  | .exit i=>if i = id then K .norm E' s' else K (.exit i) E' s'
  | x=>K x E' s'
 | .loop _,w,E,s,K=>Λ R w E s K
 | .scope b,w,E,s,K=>Zh2 Φ Λ b (0 :: w) E s K
 | .exit id,_,E,s,K=>K (.exit id) E s
 | .ret,_,E,s,K=>K .ret E s
 | .region id ops draw,_,E,s,K =>
  match draw with
  | true=>Zaf (!C.thaw) <| match ZiZ C ops.toList,Zwa id C.tri with
   | true,_=>ZiV C Φ ops.toList ops.toList E s fun E' s'=>K .norm E' s'
   | false,some (m,q)=>Zaf (ZfJ C ops.toList m q) <|
    ZcV C Φ ops.toList 0 (ops.toList.take m) E s [] [] [] fun E' s'=>Zrg C Φ ops.toList ((ops.toList.drop m).take (q - m)) E' s' fun E' s' =>
     ZiV C Φ ops.toList (ops.toList.drop q) E' s' fun E' s'=>K .norm E' s'
   | false,none=>Zaf (ZeF C ops.toList (Zge C ops.toList ops.size 0)) <|
    ZcV C Φ ops.toList 0 (ops.toList.take (Zge C ops.toList ops.size 0)) E s [] [] [] fun E' s'=>Zrg C Φ ops.toList (ops.toList.drop (Zge C ops.toList ops.size 0)) E' s' fun E' s'=>K .norm E' s'
  | false=>Zrg C Φ ops.toList ops.toList E s fun E' s'=>K .norm E' s'
 | _,_,_,_,_=>none
def Zcz (s:S) (E:List V):List ResultVar → (List V → Option R) → Option R
 | [],K=>K []
 | .tmp t :: l,K=>ZbA (nth E t) fun v=>Zcz s E l fun vs=>K (v :: vs)
 | .cell a t :: l,K=>Zaf (C.ty t).known <| ZbA (nth E a) fun p=>ZoD (C.lty s p t) s p fun v=>Zcz s E l fun vs=>K (v :: vs)
def ZhJ:List V → V
 | [v]=>v
 | vs=>.tuple vs
def Zld (b:Bool) (raw v:V):V :=
 match b with
 | false=>v
 | true=>match raw,v with
  | .list _ _ (.own e),.list sz es _=>.list sz es (.own e)
  | _,v=>v
def Zlp (vs:List V) (K:Nat → List V → TypeId → Option R):Option R :=
 match vs with
 | [.list sz es (.own e)]=>K sz es e
 | _=>none
def Zq0 (g:FuncId) (v:V) (K:V → Option R):Option R :=
 match C.objAll with
 | true=>Zic C (C.res g) v K
 | false=>K v
def Zbw (Φ:Zat) (Λ:ZaB) (g:FuncId) (fn:Func) (args:List V) (s:S) (K:V → S → Option R):Option R :=
 match fn.body with
 | none=>none
 | some c =>
  Zh2 C Φ Λ c [] (args ++ List.replicate (fn.ntmps - args.length) .dead) s fun x E' s' =>
   match x with
   | .exit _=>none
   | _=>Zcz C s' E' fn.results.toList fun vs =>
    match C.mode g with
    | .pure=>Zbg false s' 12 (ZhJ vs) fun v=>Zq0 C g (Zld (C.ownRet g) (ZhJ vs) v) fun v=>K v []
    | .shared | .fresh=>K (match ZhJ vs with | .tuple l=>.tuple (l.map V.noOwn) | v=>v.noOwn) s'
    | .own=>Zlp vs fun sz es e=>Zaf ((C.ty e).known && Nat.beq sz (C.ty e).size) (K (.list sz es (.own e)) [])
end run
end Go.VM
