/- A machine over plain values: what a function of the program computes, told without memory addresses. Definitions alone; the texts Zgs it show that the model's machine does the same. -/
import Derived.Calls
import Derived.Orders
import Derived.Laws.BytesArg
namespace Go.VM
inductive Fl where
 | own (e : TypeId) | sh | bor
 deriving DecidableEq
def Fl.noOwn : Fl → Fl
 | .own _ => .sh
 | .sh => .sh
 | .bor => .bor
inductive V where
 | bool (b : Bool)
 | int (k : IntKind) (n : Int)
 | str (s : ByteArray)
 | list (sz : Nat) (es : List V) (f : Fl)
 | arr (o ver off len : Nat)
 | ptr (o ver i j : Nat)
 | cptr (cells : List V)
 | agg (cells : List V)
 | tuple (vs : List V)
 | fn (f : FuncId) (caps : List V)
 | nilp | nilf | nili | nils
 | dead
 deriving Inhabited
structure Ob where
 es : List V
 esz : Nat
 elem : TypeId
 ver : Nat
abbrev S := List (Option Ob)
def nth {α : Type} : List α → Nat → Option α
 | [], _ => none
 | a :: _, 0 => some a
 | _ :: l, n + 1 => nth l n
def ZaM {α : Type} : List α → Nat → α → List α
 | [], _, _ => []
 | _ :: l, 0, v => v :: l
 | a :: l, n + 1, v => a :: ZaM l n v
def V.cells : V → List V
 | .agg cs => cs
 | v => [v]
def V.noOwnCell : V → V
 | .list sz es f => .list sz es f.noOwn
 | v => v
def V.noOwn : V → V
 | .list sz es f => .list sz es f.noOwn
 | .agg cs => .agg (cs.map V.noOwnCell)
 | v => v
def V.boxed : V → V
 | .agg cs => .agg cs
 | v => v.noOwn
def V.flatCell : V → Bool
 | .agg _ => false
 | .tuple _ => false
 | _ => true
def V.solid : V → Bool
 | .agg _ => false
 | .tuple _ => false
 | .dead => false
 | _ => true
def V.flat : V → Bool
 | .agg cs => cs.all V.solid
 | .tuple _ => false
 | .dead => false
 | _ => true
inductive Sh where
 | int (k : IntKind) | bool | str | list (sz : Nat) | any
 deriving DecidableEq
structure Ty where
 known : Bool := false
 elem : Option TypeId := none
 kind : Option IntKind := none
 size : Nat := 1
 bytes : Nat := 8
 agg : Bool := false
 str : Bool := false
 bool : Bool := false
 shs : List Sh := [.any]
 shl : List Sh := [.any]
 zero : V := .dead
 offs : List Nat := []
 fszs : List Nat := []
 ftys : List TypeId := []
inductive Mode where
 | pure | shared | own
 deriving DecidableEq
structure Cfg where
 ty : TypeId → Ty
 mode : FuncId → Mode
 ownRet : FuncId → Bool
 res : FuncId → List TypeId := fun _ => []
 nilArg : FuncId → Bool := fun _ => false
 objAll : Bool := false
section cps
variable {R : Type}
def asInt (k : IntKind) (v : V) (f : Int → Option R) : Option R :=
 match v with
 | .int k' n => if k' = k then f n else none
 | _ => none
def asBool (v : V) (f : Bool → Option R) : Option R :=
 match v with
 | .bool b => f b
 | _ => none
def Za1 (v : V) (f : ByteArray → Option R) : Option R :=
 match v with
 | .str b => f b
 | _ => none
def Za6 (sz : Nat) (v : V) (f : List V → Fl → Option R) : Option R :=
 match v with
 | .list sz' es g => match Nat.beq sz' sz with
  | true => f es g
  | false => none
 | _ => none
def asAgg (v : V) (f : List V → Option R) : Option R :=
 match v with
 | .agg cs => f cs
 | _ => none
def ZdJ (l : List V) (f : V → List V → Option R) : Option R :=
 match l with
 | a :: l => f a l
 | [] => none
def ZvA (l : List V) (f : Option R) : Option R :=
 match l with
 | [] => f
 | _ => none
def ZyE (sh : Sh) (v : V) (K : V → Option R) : Option R :=
 match sh with
 | .int k => asInt k v fun n => K (.int k n)
 | .bool => asBool v fun b => K (.bool b)
 | .str => Za1 v fun b => K (.str b)
 | .list sz => Za6 sz v fun es f => K (.list sz es f)
 | .any => match v with
  | .agg _ => none
  | v => K v
def Zt8 (shs : List Sh) (l : List V) (K : List V → Option R) : Option R :=
 match shs with
 | [] => ZvA l (K [])
 | sh :: shs => ZdJ l fun v l => ZyE sh v fun v => Zt8 shs l fun l => K (v :: l)
def ZbT (o : Option V) (K : V → Option R) : Option R :=
 match o with
 | some v => K v
 | none => none
def Zaj (b : Bool) (x : Option R) : Option R :=
 match b with
 | true => x
 | false => none
end cps
def Zs7 : Value → Option V
 | .bool b => some (.bool b)
 | .int k n => some (.int k n)
 | .string s => some (.str s)
 | .pointer none => some .nilp
 | .nilFunc => some .nilf
 | .nilIface => some .nili
 | _ => none
def ev (E : List V) : Operand → Option V
 | .tmp t => nth E t
 | .const v => Zs7 v
 | .func f => some (.fn f [])
 | .global _ => none
def evt (C : Cfg) (t : TypeId) (E : List V) (x : Operand) : Option V :=
 match x with
 | .const (.slice none 0 0) => match (C.ty t).elem with
  | some e => Zaj ((C.ty t).known && (C.ty e).known) (some (.list (C.ty e).size [] (.own e)))
  | none => none
 | x => ev E x
def Za9 (s : S) (o ver : Nat) : Option Ob :=
 match nth s o with
 | some (some ob) => if ver = ob.ver then some ob else none
 | _ => none
def Zb9 (e : V) (j : Nat) (vs : List V) : Option V :=
 match e with
 | .agg cs => if j + vs.length ≤ cs.length then some (.agg (cs.take j ++ vs ++ cs.drop (j + vs.length))) else none
 | _ => match vs with
  | [v] => if j = 0 then some v else none
  | _ => none
def V.plainCell : V → Bool
 | .arr .. | .ptr .. | .cptr _ | .dead | .fn .. | .tuple _ | .agg _ => false
 | .list _ _ f => match f with
  | .bor => false
  | _ => true
 | _ => true
def V.plain : V → Bool
 | .agg cs => cs.all V.plainCell
 | v => v.plainCell
def Zpu (t : Ty) (s : S) (p v : V) : Option S :=
 match p with
 | .ptr o ver i j =>
  match Za9 s o ver with
  | some ob =>
   if v.cells.length = t.size ∧ v.flat = true then
    match nth ob.es i with
    | some e => match Zb9 e j v.cells with
     | some e' => some (ZaM s o (some { ob with es := ZaM ob.es i e' }))
     | none => none
    | none => none
   else none
  | none => none
 | _ => none
def ZsV {R : Type} (t : Ty) (s : S) (p v : V) (K : S → Option R) : Option R :=
 match p with
 | .ptr o ver i j =>
  match Za9 s o ver with
  | some ob =>
   if v.cells.length = t.size ∧ v.flat = true then
    match nth ob.es i with
    | some e => match Zb9 e j v.cells with
     | some e' => K (ZaM s o (some { ob with es := ZaM ob.es i e' }))
     | none => none
    | none => none
   else none
  | none => none
 | _ => none
set_option linter.unusedSimpArgs false in
theorem ZmP {R : Type} {t : Ty} {s : S} {p v : V} {K : S → Option R} {r : R} (h : ZsV t s p v K = some r) : ∃ s', Zpu t s p v = some s' ∧ K s' = some r := by
 unfold ZsV at h
 unfold Zpu
 split at h <;> first | (cases h; done) | skip
 split at h <;> first | (cases h; done) | skip
 rename_i hob
 split at h <;> first | (cases h; done) | skip
 rename_i hc
 split at h <;> first | (cases h; done) | skip
 rename_i he
 split at h <;> first | (cases h; done) | skip
 rename_i hp
 exact ⟨_, by simp only [hob, if_pos hc, he, hp], h⟩
def ZfW (t : Ty) (p : V) (f : Nat) : Option V :=
 match nth t.offs f, p with
 | some off, .ptr o ver i j => some (.ptr o ver i (j + off))
 | some off, .cptr cs => some (.cptr (cs.drop off))
 | _, _ => none
def Zrj (o : Option V) (d m : Nat) : Option Nat :=
 match o with
 | none => some d
 | some (.int _ n) => if 0 ≤ n ∧ n ≤ m then some n.toNat else none
 | _ => none
def Zpx (x : V) (lo hi : Option V) : Option V :=
 match x with
 | .str s =>
  match Zrj hi s.size s.size with
  | some h => match Zrj lo 0 h with
   | some l => some (.str (s.extract l h))
   | none => none
  | none => none
 | _ => none
def ZzA (esz : Nat) (s : S) (x : V) (lo hi : Option V) : Option V :=
 match x with
 | .list sz es f =>
  match Zrj hi es.length es.length with
  | some h => match Zrj lo 0 h with
   | some l => Zaj (Nat.beq sz esz) (some (.list sz ((es.take h).drop l) f.noOwn))
   | none => none
  | none => none
 | .arr o ver off len =>
  match Za9 s o ver with
  | none => none
  | some ob =>
   match Zrj hi len len with
   | some h => match Zrj lo 0 h with
    | some l => Zaj (Nat.beq ob.esz esz) (some (.arr o ver (off + l) (h - l)))
    | none => none
   | none => none
 | _ => none
def Zxh {R : Type} (o : Option V) (d m : Nat) (K : Nat → Option R) : Option R :=
 match o with
 | none => K d
 | some (.int _ n) => if 0 ≤ n ∧ n ≤ m then K n.toNat else none
 | _ => none
def Zm3 {R : Type} (x : V) (lo hi : Option V) (K : V → Option R) : Option R :=
 match x with
 | .str s => Zxh hi s.size s.size fun h => Zxh lo 0 h fun l => K (.str (s.extract l h))
 | _ => none
def ZCp {R : Type} (esz : Nat) (s : S) (x : V) (lo hi : Option V) (K : V → Option R) : Option R :=
 match x with
 | .list sz es f => (match Nat.beq sz esz with
  | true => Zxh hi es.length es.length fun h => Zxh lo 0 h fun l => K (.list sz ((es.take h).drop l) f.noOwn)
  | false => none)
 | .arr o ver off len => (match Za9 s o ver with
  | none => none
  | some ob => match Nat.beq ob.esz esz with
   | true => Zxh hi len len fun h => Zxh lo 0 h fun l => K (.arr o ver (off + l) (h - l))
   | false => none)
 | _ => none
theorem Zdx {R : Type} {o : Option V} {d m : Nat} {K : Nat → Option R} {r : R} (h : Zxh o d m K = some r) : ∃ n, Zrj o d m = some n ∧ K n = some r := by
 unfold Zxh at h
 split at h
 ·exact ⟨_, rfl, h⟩
 ·split at h <;> first | (cases h; done) | skip
  rename_i hb
  exact ⟨_, by simp only [Zrj, if_pos hb], h⟩
 ·cases h
theorem Zgu {R : Type} {x : V} {lo hi : Option V} {K : V → Option R} {r : R} (h : Zm3 x lo hi K = some r) : ∃ v, Zpx x lo hi = some v ∧ K v = some r := by
 unfold Zm3 at h
 split at h <;> first | (cases h; done) | skip
 obtain ⟨n, hn, h2⟩ := Zdx h
 obtain ⟨m, hm, h3⟩ := Zdx h2
 exact ⟨_, by simp only [Zpx, hn, hm], h3⟩
theorem ZlS {R : Type} {esz : Nat} {s : S} {x : V} {lo hi : Option V} {K : V → Option R} {r : R} (h : ZCp esz s x lo hi K = some r) : ∃ v, ZzA esz s x lo hi = some v ∧ K v = some r := by
 unfold ZCp at h
 split at h <;> first | (cases h; done) | skip
 ·split at h <;> first | (cases h; done) | skip
  rename_i hb
  obtain ⟨n, hn, h2⟩ := Zdx h
  obtain ⟨m, hm, h3⟩ := Zdx h2
  exact ⟨_, by simp only [ZzA, hn, hm, hb, Zaj], h3⟩
 ·split at h <;> first | (cases h; done) | skip
  rename_i ob hob
  split at h <;> first | (cases h; done) | skip
  rename_i hb
  obtain ⟨n, hn, h2⟩ := Zdx h
  obtain ⟨m, hm, h3⟩ := Zdx h2
  exact ⟨_, by simp only [ZzA, hob, hn, hm, hb, Zaj], h3⟩
def ZrO (op : BinOp) (k : IntKind) (x y : Int) : Option V :=
 match op with
 | .add => some (.int k (k.wrap (x + y)))
 | .sub => some (.int k (k.wrap (x - y)))
 | .mul => some (.int k (k.wrap (x * y)))
 | .quo => if y = 0 then none else some (.int k (k.wrap (x.tdiv y)))
 | .rem => if y = 0 then none else some (.int k (x.tmod y))
 | .and => some (.int k (k.wrap (BitVec.ofInt k.bits x &&& BitVec.ofInt k.bits y).toNat))
 | .or => some (.int k (k.wrap (BitVec.ofInt k.bits x ||| BitVec.ofInt k.bits y).toNat))
 | .xor => some (.int k (k.wrap (BitVec.ofInt k.bits x ^^^ BitVec.ofInt k.bits y).toNat))
 | .andNot => some (.int k (k.wrap (BitVec.ofInt k.bits x &&& ~~~ (BitVec.ofInt k.bits y)).toNat))
 | .eql => some (.bool (x == y))
 | .neq => some (.bool (x != y))
 | .lss => some (.bool (decide (x < y)))
 | .leq => some (.bool (decide (x ≤ y)))
 | .gtr => some (.bool (decide (x > y)))
 | .geq => some (.bool (decide (x ≥ y)))
 | _ => none
def Zv2 (op : BinOp) (x y : ByteArray) : Option V :=
 match op with
 | .add => if x.size + y.size ≤ 4611686018427387904 then some (.str (x ++ y)) else none
 | .eql => some (.bool (x.toList == y.toList))
 | .neq => some (.bool (!(x.toList == y.toList)))
 | .lss => some (.bool (Op.bytesLess x.toList y.toList))
 | .leq => some (.bool (Op.bytesLess x.toList y.toList || x.toList == y.toList))
 | .gtr => some (.bool (!(Op.bytesLess x.toList y.toList || x.toList == y.toList)))
 | .geq => some (.bool (!Op.bytesLess x.toList y.toList))
 | _ => none
def Zt6 (t : Ty) (op : BinOp) (x y : V) : Option V :=
 match x, y with
 | .int k a, .int k' b =>
  match op with
  | .shl => if b < 0 then none else some (.int k (k.wrap (a * 2 ^ (min b.toNat k.bits))))
  | .shr => if b < 0 then none else some (.int k (a.fdiv (2 ^ (min b.toNat k.bits))))
  | op => if k = k' then ZrO op k a b else none
 | .str a, .str b => Zv2 op a b
 | .bool a, .bool b => Zaj (t.known && t.bool) (match op with
  | .eql => some (.bool (a == b))
  | .neq => some (.bool (!(a == b)))
  | _ => none)
 | _, _ => none
def ZCk {R : Type} (t : Ty) (op : BinOp) (x y : V) (K : V → Option R) : Option R :=
 match op with
 | .shl => (match x, y with
  | .int k a, .int _ b => if b < 0 then none else K (.int k (k.wrap (a * 2 ^ (min b.toNat k.bits))))
  | _, _ => none)
 | .shr => (match x, y with
  | .int k a, .int _ b => if b < 0 then none else K (.int k (a.fdiv (2 ^ (min b.toNat k.bits))))
  | _, _ => none)
 | .quo => (match x, y with
  | .int k a, .int k' b => if k = k' then (if b = 0 then none else K (.int k (k.wrap (a.tdiv b)))) else none
  | _, _ => none)
 | .rem => (match x, y with
  | .int k a, .int k' b => if k = k' then (if b = 0 then none else K (.int k (a.tmod b))) else none
  | _, _ => none)
 | .add => (match x, y with
  | .int k a, .int k' b => if k = k' then K (.int k (k.wrap (a + b))) else none
  | .str a, .str b => if a.size + b.size ≤ 4611686018427387904 then K (.str (a ++ b)) else none
  | _, _ => none)
 | op => match Zt6 t op x y with
  | some v => K v
  | none => none
theorem ZkD {R : Type} {t : Ty} {op : BinOp} {x y : V} {K : V → Option R} {r : R} (h : ZCk t op x y K = some r) : ∃ v, Zt6 t op x y = some v ∧ K v = some r := by
 unfold ZCk at h
 split at h
 ·split at h <;> first | (cases h; done) | skip
  split at h <;> first | (cases h; done) | skip
  rename_i hb
  exact ⟨_, by simp only [Zt6, if_neg hb], h⟩
 ·split at h <;> first | (cases h; done) | skip
  split at h <;> first | (cases h; done) | skip
  rename_i hb
  exact ⟨_, by simp only [Zt6, if_neg hb], h⟩
 ·split at h <;> first | (cases h; done) | skip
  split at h <;> first | (cases h; done) | skip
  rename_i hk
  split at h <;> first | (cases h; done) | skip
  rename_i hb
  exact ⟨_, by simp only [Zt6, ZrO, if_pos hk, if_neg hb], h⟩
 ·split at h <;> first | (cases h; done) | skip
  split at h <;> first | (cases h; done) | skip
  rename_i hk
  split at h <;> first | (cases h; done) | skip
  rename_i hb
  exact ⟨_, by simp only [Zt6, ZrO, if_pos hk, if_neg hb], h⟩
 ·split at h <;> first | (cases h; done) | skip
  ·split at h <;> first | (cases h; done) | skip
   rename_i hk
   exact ⟨_, by simp only [Zt6, ZrO, if_pos hk], h⟩
  ·split at h <;> first | (cases h; done) | skip
   rename_i hk
   exact ⟨_, by simp only [Zt6, Zv2, if_pos hk], h⟩
 ·split at h <;> first | (cases h; done) | skip
  rename_i v hv
  exact ⟨v, hv, h⟩
def unV (op : UnOp) (x : V) : Option V :=
 match op, x with
 | .not, .bool b => some (.bool !b)
 | .neg, .int k n => some (.int k (k.wrap (0 - n)))
 | _, _ => none
def Zyb (dst : Ty) (x : V) : Option V :=
 match dst.kind, x with
 | some k, .int _ n => some (.int k (k.wrap n))
 | _, _ => none
def Zq3 (offs fszs : List Nat) : List V → List (Nat × V) → Option (List V)
 | cs, [] => some cs
 | cs, (i, v) :: rest =>
  match nth offs i, nth fszs i with
  | some off, some n => if v.cells.length = n ∧ off + n ≤ cs.length then Zq3 offs fszs (cs.take off ++ v.cells ++ cs.drop (off + n)) rest else none
  | _, _ => none
def Zgl : List V → List (Nat × V) → Option (List V)
 | es, [] => some es
 | es, (i, v) :: rest => if i < es.length then Zgl (ZaM es i v) rest else none
def Zct (s : ByteArray) : List V := s.data.toList.map fun b => .int .u8 b.toNat
def ZC2 (t : Ty) : V → Option Nat
 | .str x => Zaj t.str (some x.size)
 | .list _ es _ => Zaj t.elem.isSome (some es.length)
 | .arr _ _ _ len => Zaj t.elem.isSome (some len)
 | _ => none
def ZaX {α β : Type} (f : α → Option β) : List α → Option (List β)
 | [] => some []
 | a :: l => match f a with
  | none => none
  | some b => match ZaX f l with
   | none => none
   | some l' => some (b :: l')
def borCell : V → V
 | .list sz es _ => .list sz es .bor
 | v => v
def V.lent : V → V
 | .list sz es _ => .list sz es .bor
 | .agg cs => .agg (cs.map borCell)
 | v => v
def ZaY (view : Bool) (s : S) : Nat → V → Option V
 | 0, _ => none
 | n + 1, v =>
  match v with
  | .list sz es g => (match view with
   | true => some (.list sz es g.noOwn)
   | false => (match g with
    | .bor => none
    | _ => some (.list sz es .sh)))
  | .arr o ver off len =>
   match Za9 s o ver with
   | some ob => match ZaX (ZaY view s n) ((ob.es.drop off).take len) with
    | some es' => Zaj (decide (off + len ≤ ob.es.length)) (match view with
     | true => some (.list ob.esz (es'.map V.lent) .bor)
     | false => Zaj (es'.all V.plain) (some (.list ob.esz es' .sh)))
    | none => none
   | none => none
  | .agg cs => match ZaX (ZaY view s n) cs with
   | some cs' => some (.agg cs')
   | none => none
  | .tuple cs => match ZaX (ZaY view s n) cs with
   | some cs' => some (.tuple cs')
   | none => none
  | .fn g caps => (match caps with
   | [] => some (.fn g [])
   | _ :: _ => none)
  | .ptr .. => none
  | .cptr _ => none
  | .dead => none
  | v => some v
def ZyF {α β R : Type} (f : α → (β → Option R) → Option R) : List α → (List β → Option R) → Option R
 | [], K => K []
 | a :: l, K => f a fun b => ZyF f l fun l' => K (b :: l')
def ZbU {R : Type} (view : Bool) (s : S) : Nat → V → (V → Option R) → Option R
 | 0, _, _ => none
 | n + 1, v, K =>
  match v with
  | .list sz es g => (match view with
   | true => K (.list sz es g.noOwn)
   | false => (match g with
    | .bor => none
    | _ => K (.list sz es .sh)))
  | .arr o ver off len =>
   match Za9 s o ver with
   | some ob => match ZaX (ZaY view s n) ((ob.es.drop off).take len) with
    | some es' => Zaj (decide (off + len ≤ ob.es.length)) (match view with
     | true => K (.list ob.esz (es'.map V.lent) .bor)
     | false => Zaj (es'.all V.plain) (K (.list ob.esz es' .sh)))
    | none => none
   | none => none
  | .agg cs => ZyF (ZbU view s n) cs fun cs' => K (.agg cs')
  | .tuple cs => ZyF (ZbU view s n) cs fun cs' => K (.tuple cs')
  | .fn g caps => (match caps with
   | [] => K (.fn g [])
   | _ :: _ => none)
  | .ptr .. => none
  | .cptr _ => none
  | .dead => none
  | v => K v
theorem Zc5 {α β R : Type} {f : α → (β → Option R) → Option R} {g : α → Option β} (hf : ∀ a K r, f a K = some r → ∃ b, g a = some b ∧ K b = some r) :
  ∀ {l : List α} {K : List β → Option R} {r : R}, ZyF f l K = some r → ∃ l', ZaX g l = some l' ∧ K l' = some r
 | [], K, r, h => ⟨[], rfl, h⟩
 | a :: l, K, r, h => by
  obtain ⟨b, hb, h2⟩ := hf a _ r h
  obtain ⟨l', hl, h3⟩ := Zc5 hf h2
  exact ⟨b :: l', by simp only [ZaX, hb, hl], h3⟩
theorem ZcO {R : Type} {view : Bool} {s : S} : ∀ {n : Nat} {v : V} {K : V → Option R} {r : R}, ZbU view s n v K = some r → ∃ v', ZaY view s n v = some v' ∧ K v' = some r := by
 intro n
 induction n with
 | zero => intro v K r h; cases h
 | succ n ih =>
  intro v K r h
  cases v with
  | list sz es g =>
   simp only [ZbU] at h
   cases view with
   | true => exact ⟨_, rfl, h⟩
   | false => cases g <;> first | (cases h; done) | exact ⟨_, rfl, h⟩
  | arr o ver off len =>
   simp only [ZbU] at h
   split at h <;> first | (cases h; done) | skip
   rename_i ob hob
   split at h <;> first | (cases h; done) | skip
   rename_i es' hes
   unfold Zaj at h
   split at h <;> first | (cases h; done) | skip
   rename_i hg
   cases view with
   | true => exact ⟨_, by simp only [ZaY, hob, hes, Zaj, hg], h⟩
   | false =>
    simp only at h
    split at h <;> first | (cases h; done) | skip
    rename_i hp
    exact ⟨_, by simp only [ZaY, hob, hes, Zaj, hg, hp], h⟩
  | agg cs =>
   simp only [ZbU] at h
   obtain ⟨cs', h1, h2⟩ := Zc5 (f := ZbU view s n) (g := ZaY view s n) (fun a K r h => ih h) h
   exact ⟨_, by simp only [ZaY, h1], h2⟩
  | tuple cs =>
   simp only [ZbU] at h
   obtain ⟨cs', h1, h2⟩ := Zc5 (f := ZbU view s n) (g := ZaY view s n) (fun a K r h => ih h) h
   exact ⟨_, by simp only [ZaY, h1], h2⟩
  | fn f caps =>
   cases caps with
   | nil => exact ⟨_, rfl, h⟩
   | cons => cases h
  | ptr => cases h
  | cptr => cases h
  | dead => cases h
  | bool b => exact ⟨_, rfl, h⟩
  | int k m => exact ⟨_, rfl, h⟩
  | str b => exact ⟨_, rfl, h⟩
  | nilp => exact ⟨_, rfl, h⟩
  | nilf => exact ⟨_, rfl, h⟩
  | nili => exact ⟨_, rfl, h⟩
  | nils => exact ⟨_, rfl, h⟩
def trimCell (n : Nat) : V → V
 | .arr o ver off len => if o < n then .arr o ver off len else .dead
 | .ptr o ver i j => if o < n then .ptr o ver i j else .dead
 | .fn f caps => (match caps with
  | [] => .fn f []
  | _ :: _ => .dead)
 | .tuple _ => .dead
 | .agg _ => .dead
 | .cptr _ => .dead
 | v => v
def trimV (n : Nat) : V → V
 | .agg cs => .agg (cs.map (trimCell n))
 | v => trimCell n v
def ZhP (n : Nat) (s : S) : S := (s.take n).map fun
 | some ob => some { ob with es := ob.es.map (trimV n) }
 | none => none
def Zbk : List Nat → List V → List V
 | [], E => E
 | t :: l, E => Zbk l (ZaM E t .dead)
def Zdz (E : List V) (dst : Option Tmp) (v : V) : List V :=
 match dst with
 | some d => ZaM E d v
 | none => E
def Zhn {R : Type} (ops : List Oper) (E : List V) (o : Oper) (K : Bool → List V → Option R) : Option R :=
 match o.guard with
 | none => K true E
 | some (j, want) =>
  match (nth ops j).bind (·.dst) with
  | none => K false E
  | some d => match nth E d with
   | some (.bool b) => (match b with
    | true => K want (ZaM E d (.bool true))
    | false => K (!want) (ZaM E d (.bool false)))
   | some .dead => none
   | _ => K false E
def Zmt (ops : List Oper) (d : Option Tmp) : Bool :=
 match d with
 | none => false
 | some d => ops.any fun o => match o.op with
  | .call c => match c.callee with
   | .builtin .append => match c.args.toList with
    | .tmp t :: _ => Nat.beq t d
    | _ => false
   | _ => false
  | _ => false
def Zx9 (ops : List Oper) (d : Option Tmp) : Bool :=
 match d with
 | none => false
 | some t => (ops.all fun q => match q.op with
  | .move _ => true
  | .assign _ => true
  | _ => false) && ops.any fun q => match q.op with
  | .assign (.tmp u) => Nat.beq u t
  | _ => false
def ZsP (ops : List Oper) (d : Option Tmp) : Bool := Zmt ops d || Zx9 ops d
def Zda (E : List V) : Operand → List V
 | .tmp t => match nth E t with
  | some v => ZaM E t v.noOwn
  | none => E
 | _ => E
def ZjX (s : S) : V → Option (V × S)
 | .ptr o ver i j =>
  match Za9 s o ver with
  | some ob =>
   match nth ob.es i with
   | some e => match nth e.cells j with
    | some c => match Zb9 e j [c.noOwn] with
     | some e' => some (c, ZaM s o (some { ob with es := ZaM ob.es i e' }))
     | none => none
    | none => none
   | none => none
  | none => none
 | _ => none
def ZcW (E : List V) : List (Nat × Operand) → Option (List (Nat × V))
 | [] => some []
 | (i, x) :: l => match ev E x with
  | none => none
  | some v => match ZcW E l with
   | some l' => some ((i, v.noOwn) :: l')
   | none => none
inductive X where
 | norm | ret | exit (id : Nat)
abbrev Zan := (R : Type) → FuncId → List V → S → (V → S → Option R) → Option R
abbrev ZaH := (R : Type) → List Nat → List V → S → (X → List V → S → Option R) → Option R
section run
variable (C : Cfg) {R : Type}
def ZeY (es : List V) (off len : Nat) (z : V) : List V := es.take off ++ List.replicate len z ++ es.drop (off + len)
def ZmK (s : S) (p : V) (K : List V → Option R) : Option R :=
 match p with
 | .ptr o ver i j =>
  match Za9 s o ver with
  | some ob => match nth ob.es i with
   | some e => K (e.cells.drop j)
   | none => none
  | none => none
 | .cptr cs => K cs
 | _ => none
def Ztq (t : Ty) (s : S) (p : V) (K : V → Option R) : Option R :=
 ZmK s p fun cs =>
  match t.agg with
  | true => Zt8 t.shs (cs.take t.size) fun cs => K (.agg (cs.map V.noOwnCell))
  | false => ZdJ cs fun c _ => match t.shs with
   | [sh] => ZyE sh c fun c => K c.noOwnCell
   | _ => none
def ZuN (es : List V) (n : Int) (K : V → Option R) : Option R :=
 if 0 ≤ n then ZbT (nth es n.toNat) K else none
def ZBr (t : Ty) (e : V) (K : V → Option R) : Option R :=
 match t.agg with
 | true => asAgg e fun cs => Zt8 t.shl cs fun cs => K (.agg cs)
 | false => match t.shl with
  | [sh] => ZyE sh e K
  | _ => none
def Zgd (t : Ty) (s : S) (x i : V) (K : V → Option R) : Option R :=
 match t.elem with
 | none => none
 | some te => Zaj (C.ty te).known <|
  match x, i with
  | .list sz es _, .int _ n => Zaj (Nat.beq sz (C.ty te).size) (ZuN es n fun e => ZBr (C.ty te) e fun e => K (.cptr e.cells))
  | .arr o ver off len, .int _ n =>
   match Za9 s o ver with
   | some ob => Zaj (Nat.beq ob.elem te) (if 0 ≤ n ∧ n < len then K (.ptr o ver (off + n.toNat) 0) else none)
   | none => none
  | _, _ => none
def Zcd (s : ByteArray) (n : Int) (K : Int → Option R) : Option R :=
 if 0 ≤ n then (match s.data[n.toNat]? with
  | some b => K b.toNat
  | none => none) else none
def ZuC (x i : V) (K : V → Option R) : Option R :=
 match x, i with
 | .str s, .int _ n => Zcd s n fun b => K (.int .u8 b)
 | _, _ => none
def ZzD (f : Fl) (ys : List V) : Bool :=
 match f with
 | .bor => ys.all V.plain
 | _ => true
def ZuW (sz : Nat) (s : S) (y : V) (K : List V → Option R) : Option R :=
 match y with
 | .str b => Zaj (Nat.beq sz 1) (K (Zct b))
 | .list sz' ys f => Zaj (Nat.beq sz' sz) (Zaj (ZzD f ys) (K ys))
 | .arr o ver off len =>
  match Za9 s o ver with
  | some ob => Zaj (Nat.beq ob.esz sz && decide (off + len ≤ ob.es.length)) (Zaj (((ob.es.drop off).take len).all V.plain) (K ((ob.es.drop off).take len)))
  | none => none
 | _ => none
def ZhG (sz : Nat) (s : S) (y : V) (K : List V → Option R) : Option R :=
 match y with
 | .list sz' ys _ => Zaj (Nat.beq sz' sz) (K ys)
 | .arr o ver off len =>
  match Za9 s o ver with
  | some ob => Zaj (Nat.beq ob.esz sz && decide (off + len ≤ ob.es.length)) (K ((ob.es.drop off).take len))
  | none => none
 | _ => none
def ZxW : List V → Option (List Int)
 | [] => some []
 | .int .u8 n :: l => match ZxW l with
  | some xs => some (n :: xs)
  | none => none
 | _ => none
def ZzK (k : Option IntKind) : Bool :=
 match k with
 | some .u8 => true
 | _ => false
def ZuH (e : TypeId) (t : Ty) (s : S) (x y : V) (K : V → S → Option R) : Option R :=
 match x with
 | .list _ es f =>
  match f with
  | .own e' => Zaj (Nat.beq e e') (ZuW t.size s y fun ys =>
   if (es.length + ys.length) * t.bytes ≤ 140737488355328 then K (.list t.size (es ++ ys.map V.noOwn) (.own e)) s else none)
  | _ => none
 | .arr o ver off len =>
  match Za9 s o ver with
  | some ob => Zaj (Nat.beq ob.elem e) (ZhG t.size s y fun ys =>
   if off = 0 ∧ len = ob.es.length ∧ (len + ys.length) * t.bytes ≤ 140737488355328 ∧ 0 < ys.length then
    K (.arr o (ver + 1) 0 (len + ys.length)) (ZaM s o (some { ob with es := ob.es ++ ys.map V.noOwn, ver := ver + 1 }))
   else none)
  | none => none
 | _ => none
def newOb (s : S) (es : List V) (t : TypeId) : S := s ++ [some { es := es, esz := (C.ty t).size, elem := t, ver := 0 }]
def Zxx (src dst : TypeId) (s : S) (a : V) (K : V → Option R) : Option R :=
 match (C.ty src).elem with
 | some e => Zaj ((C.ty e).known && (C.ty dst).str && ZzK (C.ty e).kind) <| ZhG 1 s a fun ys => match ZxW ys with
  | some xs => K (.str (strOfNums xs))
  | none => none
 | none => match (C.ty dst).elem with
  | some e => Zaj ((C.ty e).known && (C.ty src).str && ZzK (C.ty e).kind) <| Za1 a fun b => K (.list 1 (Zct b) .sh)
  | none => ZbT (Zyb (C.ty dst) a) K
def Zg9 (ops : List Oper) (o : Oper) (E : List V) (s : S) (K : V → List V → S → Option R) : Option R :=
 match o.op with
 | .move x => ZbT (evt C o.type E x) fun v =>
  match ZsP ops o.dst with
  | true => K v (Zda E x) s
  | false => K v.noOwn E s
 | .assign x => ZbT (evt C o.type E x) fun v => K v (Zda E x) s
 | .pick c a b => ZbT (ev E c) fun c => asBool c fun t =>
  match t with
  | true => ZbT (ev E a) fun v => K v.noOwn E s
  | false => ZbT (ev E b) fun v => K v.noOwn E s
 | .load t a => Zaj (C.ty t).known <| ZbT (ev E a) fun p =>
  match ZsP ops o.dst with
  | true => Zaj (!(C.ty t).agg && Nat.beq (C.ty t).size 1) <| match ZjX s p with
    | some (v, s') => K v E s'
    | none => none
  | false => Ztq (C.ty t) s p fun v => K v E s
 | .store t a x => Zaj (C.ty t).known <| ZbT (ev E a) fun p => ZbT (evt C t E x) fun v =>
  ZsV (C.ty t) s p v fun s' => K (.tuple []) (Zda E x) s'
 | .fieldAddr t x f => Zaj (C.ty t).known <| ZbT (ev E x) fun p => ZbT (ZfW (C.ty t) p f) fun v => K v E s
 | .indexAddr t x i => Zaj (C.ty t).known <| ZbT (ev E x) fun v => ZbT (ev E i) fun n => Zgd C (C.ty t) s v n fun v => K v E s
 | .index t x i => Zaj ((C.ty t).known && (C.ty t).str) (ZbT (ev E x) fun v => ZbT (ev E i) fun n => ZuC v n fun v => K v E s)
 | .slice t x lo hi mx =>
  match mx with
  | some _ => none
  | none => Zaj (C.ty t).known <| ZbT (ev E x) fun v =>
   match ZaX (ev E) lo.toList, ZaX (ev E) hi.toList with
   | some l, some h => (match (C.ty t).elem with
    | some e => Zaj (C.ty e).known <| ZCp (C.ty e).size s v (nth l 0) (nth h 0) fun v => K v E s
    | none => Zaj (C.ty t).str <| Zm3 v (nth l 0) (nth h 0) fun v => K v E s)
   | _, _ => none
 | .binOp op t x y _ => ZbT (ev E x) fun a => ZbT (ev E y) fun b => ZCk (C.ty t) op a b fun v => K v E s
 | .unOp op _ x => ZbT (ev E x) fun a => ZbT (unV op a) fun v => K v E s
 | .convert src dst x => Zaj ((C.ty src).known && (C.ty dst).known) <| ZbT (ev E x) fun a => Zxx C src dst s a fun v => K v E s
 | .nilCheck x => ZbT (ev E x) fun v =>
  match v with
  | .ptr o ver i j => K (.ptr o ver i j) E s
  | .cptr cs => K (.cptr cs) E s
  | .fn f cs => K (.fn f cs) E s
  | _ => none
 | .field t x i => Zaj ((C.ty t).known && (C.ty t).agg) <| ZbT (ev E x) fun v => asAgg v fun cs =>
  match nth (C.ty t).ftys i, nth (C.ty t).offs i with
  | some ft, some off => Zaj ((C.ty ft).known && !(C.ty ft).agg) <| ZbT (nth cs off) fun c => K c.noOwn E s
  | _, _ => none
 | .extract x i => ZbT (ev E x) fun v =>
  match v with
  | .tuple vs => ZbT (nth vs i) fun v => K v.noOwn E s
  | _ => none
 | .makeFunc fn first caps =>
  match fn, first.toList with
  | .func f, [] => match ZaX (ev E) caps.toList with
   | some vs => K (.fn f (vs.map V.noOwn)) E s
   | none => none
  | _, _ => none
 | .box t x => Zaj (C.ty t).known <| ZbT (ev E x) fun v => Zaj v.flat <|
  if v.cells.length = (C.ty t).size then K (.ptr s.length 0 0 0) E (newOb C s [v.boxed] t) else none
 | .alloc t => Zaj (C.ty t).known <|
  if (C.ty t).zero.cells.length = (C.ty t).size then K (.ptr s.length 0 0 0) E (newOb C s [(C.ty t).zero] t) else none
 | .build t parts => Zaj (C.ty t).known <|
  match ZcW E parts.toList with
  | some ps => Zaj ((C.ty t).agg && ps.all fun p => p.2.flat) <| match Zq3 (C.ty t).offs (C.ty t).fszs (C.ty t).zero.cells ps with
   | some cs => K (.agg cs) E s
   | none => none
  | none => none
 | .buildSlice t len parts => Zaj (C.ty t).known <|
  match (C.ty t).elem, ZcW E parts.toList with
  | some e, some ps => Zaj (C.ty e).known <| match Zgl (List.replicate len (C.ty e).zero) ps with
   | some es =>
    if len * (C.ty e).size ≤ 16777216 ∧ ps.all (fun p => Nat.beq p.2.cells.length (C.ty e).size && p.2.flat) = true then
     match es.all V.plain with
     | true => K (.list (C.ty e).size es (.own e)) E s
     | false => K (.arr s.length 0 0 len) E (newOb C s es e)
    else none
   | none => none
  | _, _ => none
 | .makeSlice t len cap => Zaj (C.ty t).known <|
  match (C.ty t).elem with
  | some e => Zaj (C.ty e).known <| ZbT (ev E len) fun n => ZbT (ev E cap) fun m =>
   match n, m with
   | .int _ n, .int _ m =>
    if 0 ≤ n ∧ n = m ∧ n * (C.ty e).bytes ≤ 140737488355328 then
     K (.arr s.length 0 0 n.toNat) E (newOb C s (List.replicate n.toNat (C.ty e).zero) e)
    else none
   | _, _ => none
  | none => none
 | _ => none
def ZiB (b : Builtin) (argTypes : List TypeId) (args : List V) (s : S) (K : V → S → Option R) : Option R :=
 match b, args with
 | .len, [x] => match argTypes with
  | t :: _ => Zaj (C.ty t).known <| match ZC2 (C.ty t) x with
   | some n => K (.int .i64 n) s
   | none => none
  | [] => none
 | .append, [x, y] => match argTypes with
  | [t, u] => Zaj ((C.ty t).known && (C.ty u).known && ((C.ty u).str || (C.ty u).elem.isSome)) <| match (C.ty t).elem with
   | some e => Zaj (C.ty e).known <| ZuH e (C.ty e) s x y K
   | none => none
  | _ => none
 | .clear, [.arr o ver off len] => match argTypes with
  | [t] => Zaj (C.ty t).known <| match (C.ty t).elem with
   | some e => Zaj ((C.ty e).known && Nat.beq (C.ty e).size 1 && (C.ty e).zero.flatCell) <| match Za9 s o ver with
    | some ob => Zaj (Nat.beq ob.elem e && decide (off + len ≤ ob.es.length)) <| K (.tuple []) (ZaM s o (some { ob with es := ZeY ob.es off len (C.ty e).zero }))
    | none => none
   | none => none
  | _ => none
 | .min, [.int k a, .int k' b] => if k = k' then K (.int k (if b < a then b else a)) s else none
 | .max, [.int k a, .int k' b] => if k = k' then K (.int k (if a < b then b else a)) s else none
 | _, _ => none
def ZAL (t : TypeId) (v : V) (K : V → Option R) : Option R :=
 match (C.ty t).elem with
 | some e => Za6 (C.ty e).size v fun es f => K (.list (C.ty e).size es f)
 | none => match (C.ty t).agg with
  | true => asAgg v fun cs => Zt8 (C.ty t).shl cs fun cs => K (.agg cs)
  | false => match (C.ty t).shl with
   | [sh] => ZyE sh v K
   | _ => none
def ZuD : List TypeId → List V → (List V → Option R) → Option R
 | [], l, K => ZvA l (K [])
 | t :: ts, l, K => ZdJ l fun v l => ZAL C t v fun v => ZuD ts l fun l => K (v :: l)
def Zoo (ts : List TypeId) (v : V) (K : V → Option R) : Option R :=
 match ts with
 | [t] => ZAL C t v K
 | ts => match v with
  | .tuple l => ZuD C ts l fun l => K (.tuple l)
  | _ => none
def Zvn (Φ : Zan) (g : FuncId) (args : List V) (s : S) (K : V → S → Option R) : Option R :=
 match C.mode g with
 | .pure => ZyF (ZbU true s 12) args fun as => Φ R g as [] fun v _ => Zoo C (C.res g) v fun v => K v s
 | .shared => Φ R g (args.map V.noOwn) s K
 | .own => ZyF (ZbU true s 12) args fun as => Φ R g as [] fun v _ => Zoo C (C.res g) v fun v => K v s
def Zgy (E : List V) : List TypeId → List Operand → Option (List V)
 | _, [] => some []
 | ts, x :: l => match (match ts with | t :: _ => evt C t E x | [] => ev E x) with
  | none => none
  | some v => match Zgy E ts.tail l with
   | some l' => some (v :: l')
   | none => none
def ZnQ : Operand → Bool
 | .const (.slice none 0 0) => true
 | _ => false
def Zd7 : List Operand → List V → List V
 | x :: xs, v :: vs => (match ZnQ x with
  | true => .nils
  | false => v) :: Zd7 xs vs
 | _, vs => vs
def argsN (b : Bool) (xs : List Operand) (vs : List V) : List V :=
 match b with
 | true => Zd7 xs vs
 | false => vs
def ZdG (b : Builtin) (E : List V) (args : List Operand) : List V :=
 match b, args with
 | .append, x :: _ => Zda E x
 | _, _ => E
def opV (Φ : Zan) (ops : List Oper) (o : Oper) (E : List V) (s : S) (K : V → List V → S → Option R) : Option R :=
 match o.op with
 | .call c =>
  match Zgy C E c.argTypes.toList c.args.toList with
  | none => none
  | some args =>
   match c.callee with
   | .builtin b => ZiB C b c.argTypes.toList args s fun v s' => K v (ZdG b E c.args.toList) s'
   | .value x => ZbT (ev E x) fun f =>
    match f with
    | .fn g caps => Zvn C Φ g (argsN (C.nilArg g) c.args.toList args ++ caps) s fun v s' => K v E s'
    | _ => none
   | .invoke .. => none
 | _ => Zg9 C ops o E s K
def Zxm (s : S) (o ver len : Nat) (K : S → Option R) : Option R :=
 match Za9 s o ver with
 | some ob => if len ≤ ob.es.length then K (ZaM s o (some { ob with es := ob.es.take len })) else none
 | none => none
def opX (Φ : Zan) (ops : List Oper) (o : Oper) (E : List V) (s : S) (K : V → List V → S → Option R) : Option R :=
 match C.objAll with
 | false => opV C Φ ops o E s K
 | true => match o.op with
  | .assign (.const (.slice none 0 0)) => (match (C.ty o.type).elem with
   | some e => Zaj ((C.ty o.type).known && (C.ty e).known) <| K (.arr s.length 0 0 0) E (newOb C s [] e)
   | none => none)
  | .buildSlice t 0 ⟨[]⟩ => (match (C.ty t).elem with
   | some e => Zaj ((C.ty t).known && (C.ty e).known) <| K (.arr s.length 0 0 0) E (newOb C s [] e)
   | none => none)
  | .call c => (match c.callee, Zgy C E c.argTypes.toList c.args.toList with
   | .builtin .append, some (.arr oo ver 0 len :: _) => Zxm s oo ver len fun s2 => opV C Φ ops o E s2 K
   | _, _ => opV C Φ ops o E s K)
  | _ => opV C Φ ops o E s K
def Zyk (Φ : Zan) (ops : List Oper) : List Oper → List V → S → (List V → S → Option R) → Option R
 | [], E, s, K => K E s
 | o :: l, E, s, K => Zhn ops E o fun b E =>
  match b with
  | true => opX C Φ ops o E s fun v E' s' => Zyk Φ ops l (Zdz E' o.dst v) s' K
  | false => Zyk Φ ops l (Zdz E o.dst (.tuple [])) s K
def Zbs (ops : List Oper) (o : Oper) : Bool :=
 match o.op with
 | .move _ | .load .. => !ZsP ops o.dst
 | .pick .. | .fieldAddr .. | .indexAddr .. | .index .. | .slice .. | .binOp .. | .unOp .. | .convert .. | .nilCheck _ | .extract .. | .field .. | .build .. => true
 | .call c => match c.callee with
  | .builtin .len | .builtin .min | .builtin .max => true
  | .value (.func g) => match C.mode g with
   | .pure => true
   | _ => false
  | _ => false
 | _ => false
def Zcf (ops : List Oper) (o : Oper) : Bool :=
 match o.op with
 | .assign _ => true
 | _ => Zbs C ops o
def ZeR (ts : List Nat) : Nat → List V → List V
 | _, [] => []
 | k, v :: l => (match ts.any (Nat.beq k) with | true => v.noOwn | false => .dead) :: ZeR ts (k + 1) l
def Zbr (ops : List Oper) (o : Oper) : List Nat := o.looksAt ops.toArray
def ZiD (ops : List Oper) : Bool :=
 (List.range ops.length).all fun i => match nth ops i with
  | none => false
  | some o => o.after.all (fun e => !Region.binds .any e || decide (e.on < i)) && Zcf C ops o &&
   (List.range ops.length).all fun j => match nth ops j with
    | none => true
    | some p => match p.dst with
     | none => true
     | some d => (!((Zbr ops o).any (Nat.beq d)) || o.after.any (fun e => Region.binds .any e && e.on == j)) &&
      (i == j || !(match o.dst with | some d' => Nat.beq d d' | none => false))
def Znh (Φ : Zan) (ops : List Oper) : List Oper → List V → S → (List V → S → Option R) → Option R
 | [], E, s, K => K E s
 | o :: l, E, s, K => Zhn ops E o fun b E =>
  match b with
  | true => opV C Φ ops o (ZeR (Zbr ops o) 0 E) s fun v _ _ => Znh Φ ops l (Zdz E o.dst v.noOwn) s K
  | false => Znh Φ ops l (Zdz E o.dst (.tuple [])) s K
def Zgs (ops : List Oper) (i : Nat) : List Nat :=
 match nth ops i with
 | none => []
 | some o => (o.after.toList.filter (Region.binds .any)).map (·.on)
def Zie (ops : List Oper) : Nat → List Nat → List Nat
 | 0, l => l
 | i + 1, l => match l.any (Nat.beq i) with
  | true => Zie ops i (l ++ Zgs ops i)
  | false => Zie ops i l
def ZdE (o : Oper) : Bool :=
 match o.op with
 | .alloc _ => true
 | .makeSlice .. => true
 | _ => false
def ZcC (o : Oper) : Bool :=
 match o.op with
 | .call c => match c.callee with
  | .builtin .append => true
  | .value (.func g) => match C.mode g with
   | .own => true
   | _ => false
  | _ => false
 | .buildSlice .. => true
 | _ => false
def ZqD (ops : List Oper) (o : Oper) (t : Nat) : Bool :=
 (List.range ops.length).any fun j => match nth ops j with
  | some p => (match p.dst with | some d => Nat.beq d t | none => false) && o.after.any (fun e => Region.binds .any e && e.on == j)
  | none => false
def ZlQ (ops : List Oper) (i : Nat) (o : Oper) : List Nat :=
 (Zbr ops o).filter fun t => ZqD ops o t &&
  (List.range ops.length).all fun j => Nat.beq j i || match nth ops j with
   | some p => !(Zbr ops p).any (Nat.beq t)
   | none => true
def ZkI (ks ts : List Nat) : Nat → List V → List V
 | _, [] => []
 | k, v :: l => (match ks.any (Nat.beq k) with
  | true => v
  | false => match ts.any (Nat.beq k) with
   | true => v.noOwn
   | false => .dead) :: ZkI ks ts (k + 1) l
def Zjs (n : Nat) : V → V
 | .ptr _ ver i j => .ptr n ver i j
 | .arr _ ver off len => .arr n ver off len
 | v => v
abbrev Zss := List (Nat × Ob × V)
def Zkk : Zss → List V → S → List V
 | [], E, _ => E
 | (d, ob, v) :: l, E, s => Zkk l (ZaM E d (Zjs s.length v)) (s ++ [some ob])
def Ze5 : Zss → S → S
 | [], s => s
 | (_, ob, _) :: l, s => Ze5 l (s ++ [some ob])
def Zmd : List (Nat × Nat) → List V → List V
 | [], E => E
 | (d, x) :: l, E => Zmd l (ZaM E d (match nth E x with | some v => v.noOwn | none => .dead))
def Zoj (ops : List Oper) (p : Zss) (al : List (Nat × Nat)) (o : Oper) : Option Nat :=
 match o.op with
 | .assign (.tmp x) => match (p.any (fun q => Nat.beq q.1 x) || al.any (fun q => Nat.beq q.1 x)) && ZqD ops o x with
  | true => some x
  | false => none
 | _ => none
abbrev ZtJ := List (Nat × Nat × V)
def Zjc (ob : Ob) (d : Nat) : ZtJ → Ob
 | [] => ob
 | (d', _, v) :: l => match Nat.beq d' d with
  | true => { ob with es := [v] }
  | false => Zjc ob d l
def Zud (pu : ZtJ) : Zss → Zss
 | [] => []
 | (d, ob, v) :: l => (d, Zjc ob d pu, v) :: Zud pu l
def Zgg (o : Oper) : Bool :=
 match o.op, o.dst with
 | .store _ (.tmp _) (.tmp _), none => true
 | _, _ => false
def ZqS (q : Nat × Ob × V) (d sz : Nat) : Bool :=
 Nat.beq q.1 d && Nat.beq q.2.1.esz sz && Nat.beq q.2.1.es.length 1 && (match q.2.2 with
  | .ptr 0 0 0 0 => true
  | _ => false)
def Zyw (ops : List Oper) (p : Zss) (pu : ZtJ) (o : Oper) : Option (TypeId × Nat × Nat) :=
 match o.op, o.dst with
 | .store t (.tmp d) (.tmp x), none => match p.any (fun q => ZqS q d (C.ty t).size) && !(pu.any (fun q => Nat.beq q.1 d)) && ZqD ops o d && ZqD ops o x && (C.ty t).known with
  | true => some (t, d, x)
  | false => none
 | _, _ => none
def Zd8 (Φ : Zan) (ops : List Oper) : Nat → List Oper → List V → S → Zss → List (Nat × Nat) → ZtJ → (List V → S → Option R) → Option R
 | _, [], E, s, p, al, pu, K => K (Zmd al (Zkk (Zud pu p) E s)) (Ze5 (Zud pu p) s)
 | i, o :: l, E, s, p, al, pu, K => Zhn ops E o fun b E =>
  match b with
  | true => match Zyw C ops p pu o with
   | some (t, d, x) => ZbT (nth E x) fun v => ZbT (nth E d) fun _ => Zaj (Nat.beq v.noOwn.cells.length (C.ty t).size && v.noOwn.flat) <|
    Zd8 Φ ops (i + 1) l E s p al (pu ++ [(d, x, v.noOwn)]) K
   | none => match Zgg o with
    | true => none
    | false => match Zoj ops p al o, o.dst with
     | some x, some d => Zd8 Φ ops (i + 1) l (ZaM E d .dead) s p (al ++ [(d, x)]) pu K
     | _, _ => match ZdE o with
      | true => Zg9 C ops o (ZeR (Zbr ops o) 0 E) [] fun v _ s1 => match s1, o.dst with
       | [some ob], some d => Zd8 Φ ops (i + 1) l (ZaM E d .dead) s (p ++ [(d, ob, v)]) al pu K
       | _, _ => none
      | false => match ZcC C o with
       | true => opV C Φ ops o (ZkI (ZlQ ops i o) (Zbr ops o) 0 E) s fun v _ _ => match v with
        | .list sz es f => Zd8 Φ ops (i + 1) l (Zdz (Zbk (ZlQ ops i o) E) o.dst (.list sz es f)) s p al pu K
        | _ => none
       | false => opV C Φ ops o (ZeR (Zbr ops o) 0 E) s fun v _ _ => Zd8 Φ ops (i + 1) l (Zdz E o.dst v.noOwn) s p al pu K
  | false => Zd8 Φ ops (i + 1) l (Zdz E o.dst (.tuple [])) s p al pu K
def ZdS (ops : List Oper) (m : Nat) : Bool :=
 decide (m ≤ ops.length) &&
 ((List.range m).all fun i => match nth ops i with
  | none => false
  | some o => o.after.all (fun e => !Region.binds .any e || decide (e.on < i)) && (ZdE o || ZcC C o || Zcf C ops o || Zgg o) && (!(ZdE o) || match o.dst with | some _ => true | none => false) &&
   (List.range m).all fun j => match nth ops j with
    | none => true
    | some p => match p.dst with
     | none => true
     | some d => (!((Zbr ops o).any (Nat.beq d)) || o.after.any (fun e => Region.binds .any e && e.on == j)) &&
      (i == j || !(match o.dst with | some d' => Nat.beq d d' | none => false))) &&
 (match nth ops m with
  | none => true
  | some o => o.after.all (fun e => !Region.binds .any e || decide (e.on < m)) && (fun l => (List.range m).all fun j => l.any (Nat.beq j)) (Zie ops m (Zgs ops m))) &&
 (List.range ops.length).all fun j => decide (j ≤ m) || match nth ops j with
  | none => true
  | some o => o.after.all (fun e => !Region.binds .any e || decide (e.on < j)) && o.after.any (fun e => Region.binds .any e && (e.on + 1 == j))
def Zg7 (ops : List Oper) : Nat → Nat → Nat
 | 0, m => m
 | n + 1, m => match ZdS C ops m with
  | true => m
  | false => Zg7 ops n (m + 1)
def ZhT (Φ : Zan) (Λ : ZaH) : Code → List Nat → List V → S → (X → List V → S → Option R) → Option R
 | .skip, _, E, s, K => K .norm E s
 | .seq a b, w, E, s, K => ZhT Φ Λ a (0 :: w) E s fun x E' s' =>
  match x with
  | .norm => ZhT Φ Λ b (1 :: w) E' s' K
  | x => K x E' s'
 | .cond c a b, w, E, s, K => ZbT (ev E c) fun v => asBool v fun t =>
  match t with
  | true => ZhT Φ Λ a (0 :: w) E s K
  | false => ZhT Φ Λ b (1 :: w) E s K
 | .block id b, w, E, s, K => ZhT Φ Λ b (0 :: w) E s fun x E' s' =>
  match x with
  | .exit i => if i = id then K .norm E' s' else K (.exit i) E' s'
  | x => K x E' s'
 | .loop _, w, E, s, K => Λ R w E s K
 | .scope b, w, E, s, K => ZhT Φ Λ b (0 :: w) E s K
 | .exit id, _, E, s, K => K (.exit id) E s
 | .ret, _, E, s, K => K .ret E s
 | .region _ ops draw, _, E, s, K =>
  match draw with
  | true => match ZiD C ops.toList with
   | true => Znh C Φ ops.toList ops.toList E s fun E' s' => K .norm E' s'
   | false => Zaj (ZdS C ops.toList (Zg7 C ops.toList ops.size 0)) <|
    Zd8 C Φ ops.toList 0 (ops.toList.take (Zg7 C ops.toList ops.size 0)) E s [] [] [] fun E' s' => Zyk C Φ ops.toList (ops.toList.drop (Zg7 C ops.toList ops.size 0)) E' s' fun E' s' => K .norm E' s'
  | false => Zyk C Φ ops.toList ops.toList E s fun E' s' => K .norm E' s'
 | _, _, _, _, _ => none
def Zcm (s : S) (E : List V) : List ResultVar → (List V → Option R) → Option R
 | [], K => K []
 | .tmp t :: l, K => ZbT (nth E t) fun v => Zcm s E l fun vs => K (v :: vs)
 | .cell a t :: l, K => Zaj (C.ty t).known <| ZbT (nth E a) fun p => Ztq (C.ty t) s p fun v => Zcm s E l fun vs => K (v :: vs)
def ZhW : List V → V
 | [v] => v
 | vs => .tuple vs
def ZjF (b : Bool) (raw v : V) : V :=
 match b with
 | false => v
 | true => match raw, v with
  | .list _ _ (.own e), .list sz es _ => .list sz es (.own e)
  | _, v => v
def Zga (vs : List V) (K : Nat → List V → TypeId → Option R) : Option R :=
 match vs with
 | [.list sz es (.own e)] => K sz es e
 | _ => none
def ZqH (g : FuncId) (v : V) (K : V → Option R) : Option R :=
 match C.objAll with
 | true => Zoo C (C.res g) v K
 | false => K v
def ZaS (Φ : Zan) (Λ : ZaH) (g : FuncId) (fn : Func) (args : List V) (s : S) (K : V → S → Option R) : Option R :=
 match fn.body with
 | none => none
 | some c =>
  ZhT C Φ Λ c [] (args ++ List.replicate (fn.ntmps - args.length) .dead) s fun x E' s' =>
   match x with
   | .exit _ => none
   | _ => Zcm C s' E' fn.results.toList fun vs =>
    match C.mode g with
    | .pure => ZbU false s' 12 (ZhW vs) fun v => ZqH C g (ZjF (C.ownRet g) (ZhW vs) v) fun v => K v []
    | .shared => K (match ZhW vs with | .tuple l => .tuple (l.map V.noOwn) | v => v.noOwn) s'
    | .own => Zga vs fun sz es e => Zaj ((C.ty e).known && Nat.beq sz (C.ty e).size) (K (.list sz es (.own e)) [])
end run
end Go.VM
