/- A machine over plain values: what a function of the program computes, told without memory addresses. Definitions alone; the texts Zgb it show that the model's machine does the same. -/
import Derived.Calls
import Derived.Orders
import Derived.Laws.BytesArg
namespace Go.VM
inductive Fl where
 | own (e : TypeId) | sh | bor
 deriving DecidableEq
def Fl.noOwn : Fl → Fl
 | .own _ => .sh
 | .sh => .sh
 | .bor => .bor
inductive V where
 | bool (b : Bool)
 | int (k : IntKind) (n : Int)
 | str (s : ByteArray)
 | list (sz : Nat) (es : List V) (f : Fl)
 | arr (o ver off len : Nat)
 | ptr (o ver i j : Nat)
 | cptr (cells : List V)
 | agg (cells : List V)
 | tuple (vs : List V)
 | fn (f : FuncId) (caps : List V)
 | nilp | nilf | nili | nils
 | dead
 deriving Inhabited
structure Ob where
 es : List V
 esz : Nat
 elem : TypeId
 ver : Nat
abbrev S := List (Option Ob)
def nth {α : Type} : List α → Nat → Option α
 | [], _ => none
 | a :: _, 0 => some a
 | _ :: l, n + 1 => nth l n
def ZaO {α : Type} : List α → Nat → α → List α
 | [], _, _ => []
 | _ :: l, 0, v => v :: l
 | a :: l, n + 1, v => a :: ZaO l n v
def V.cells : V → List V
 | .agg cs => cs
 | v => [v]
def V.noOwnCell : V → V
 | .list sz es f => .list sz es f.noOwn
 | v => v
def V.noOwn : V → V
 | .list sz es f => .list sz es f.noOwn
 | .agg cs => .agg (cs.map V.noOwnCell)
 | v => v
def V.boxed : V → V
 | .agg cs => .agg cs
 | v => v.noOwn
def V.flatCell : V → Bool
 | .agg _ => false
 | .tuple _ => false
 | _ => true
def V.solid : V → Bool
 | .agg _ => false
 | .tuple _ => false
 | .dead => false
 | _ => true
def V.flat : V → Bool
 | .agg cs => cs.all V.solid
 | .tuple _ => false
 | .dead => false
 | _ => true
inductive Sh where
 | int (k : IntKind) | bool | str | list (sz : Nat) | any
 deriving DecidableEq
structure Ty where
 known : Bool := false
 elem : Option TypeId := none
 kind : Option IntKind := none
 size : Nat := 1
 bytes : Nat := 8
 agg : Bool := false
 str : Bool := false
 bool : Bool := false
 shs : List Sh := [.any]
 shl : List Sh := [.any]
 zero : V := .dead
 offs : List Nat := []
 fszs : List Nat := []
 ftys : List TypeId := []
inductive Mode where
 | pure | shared | own
 deriving DecidableEq
structure Cfg where
 ty : TypeId → Ty
 mode : FuncId → Mode
 ownRet : FuncId → Bool
 res : FuncId → List TypeId := fun _ => []
 nilArg : FuncId → Bool := fun _ => false
 objAll : Bool := false
section cps
variable {R : Type}
def asInt (k : IntKind) (v : V) (f : Int → Option R) : Option R :=
 match v with
 | .int k' n => if k' = k then f n else none
 | _ => none
def asBool (v : V) (f : Bool → Option R) : Option R :=
 match v with
 | .bool b => f b
 | _ => none
def ZaQ (v : V) (f : ByteArray → Option R) : Option R :=
 match v with
 | .str b => f b
 | _ => none
def Zbq (sz : Nat) (v : V) (f : List V → Fl → Option R) : Option R :=
 match v with
 | .list sz' es g => match Nat.beq sz' sz with
  | true => f es g
  | false => none
 | _ => none
def asAgg (v : V) (f : List V → Option R) : Option R :=
 match v with
 | .agg cs => f cs
 | _ => none
def ZdG (l : List V) (f : V → List V → Option R) : Option R :=
 match l with
 | a :: l => f a l
 | [] => none
def ZvN (l : List V) (f : Option R) : Option R :=
 match l with
 | [] => f
 | _ => none
def Zxd (sh : Sh) (v : V) (K : V → Option R) : Option R :=
 match sh with
 | .int k => asInt k v fun n => K (.int k n)
 | .bool => asBool v fun b => K (.bool b)
 | .str => ZaQ v fun b => K (.str b)
 | .list sz => Zbq sz v fun es f => K (.list sz es f)
 | .any => match v with
  | .agg _ => none
  | v => K v
def Zr7 (shs : List Sh) (l : List V) (K : List V → Option R) : Option R :=
 match shs with
 | [] => ZvN l (K [])
 | sh :: shs => ZdG l fun v l => Zxd sh v fun v => Zr7 shs l fun l => K (v :: l)
def ZbW (o : Option V) (K : V → Option R) : Option R :=
 match o with
 | some v => K v
 | none => none
def Zak (b : Bool) (x : Option R) : Option R :=
 match b with
 | true => x
 | false => none
end cps
def Zs3 : Value → Option V
 | .bool b => some (.bool b)
 | .int k n => some (.int k n)
 | .string s => some (.str s)
 | .pointer none => some .nilp
 | .nilFunc => some .nilf
 | .nilIface => some .nili
 | _ => none
def ev (E : List V) : Operand → Option V
 | .tmp t => nth E t
 | .const v => Zs3 v
 | .func f => some (.fn f [])
 | .global _ => none
def evt (C : Cfg) (t : TypeId) (E : List V) (x : Operand) : Option V :=
 match x with
 | .const (.slice none 0 0) => match (C.ty t).elem with
  | some e => Zak ((C.ty t).known && (C.ty e).known) (some (.list (C.ty e).size [] (.own e)))
  | none => none
 | x => ev E x
def Za9 (s : S) (o ver : Nat) : Option Ob :=
 match nth s o with
 | some (some ob) => if ver = ob.ver then some ob else none
 | _ => none
def Zb9 (e : V) (j : Nat) (vs : List V) : Option V :=
 match e with
 | .agg cs => if j + vs.length ≤ cs.length then some (.agg (cs.take j ++ vs ++ cs.drop (j + vs.length))) else none
 | _ => match vs with
  | [v] => if j = 0 then some v else none
  | _ => none
def V.plainCell : V → Bool
 | .arr .. | .ptr .. | .cptr _ | .dead | .fn .. | .tuple _ | .agg _ => false
 | .list _ _ f => match f with
  | .bor => false
  | _ => true
 | _ => true
def V.plain : V → Bool
 | .agg cs => cs.all V.plainCell
 | v => v.plainCell
def ZnA (t : Ty) (s : S) (p v : V) : Option S :=
 match p with
 | .ptr o ver i j =>
  match Za9 s o ver with
  | some ob =>
   if v.cells.length = t.size ∧ v.flat = true then
    match nth ob.es i with
    | some e => match Zb9 e j v.cells with
     | some e' => some (ZaO s o (some { ob with es := ZaO ob.es i e' }))
     | none => none
    | none => none
   else none
  | none => none
 | _ => none
def Zss {R : Type} (t : Ty) (s : S) (p v : V) (K : S → Option R) : Option R :=
 match p with
 | .ptr o ver i j =>
  match Za9 s o ver with
  | some ob =>
   if v.cells.length = t.size ∧ v.flat = true then
    match nth ob.es i with
    | some e => match Zb9 e j v.cells with
     | some e' => K (ZaO s o (some { ob with es := ZaO ob.es i e' }))
     | none => none
    | none => none
   else none
  | none => none
 | _ => none
set_option linter.unusedSimpArgs false in
theorem Zl7 {R : Type} {t : Ty} {s : S} {p v : V} {K : S → Option R} {r : R} (h : Zss t s p v K = some r) : ∃ s', ZnA t s p v = some s' ∧ K s' = some r := by
 unfold Zss at h
 unfold ZnA
 split at h <;> first | (cases h; done) | skip
 split at h <;> first | (cases h; done) | skip
 rename_i hob
 split at h <;> first | (cases h; done) | skip
 rename_i hc
 split at h <;> first | (cases h; done) | skip
 rename_i he
 split at h <;> first | (cases h; done) | skip
 rename_i hp
 exact ⟨_, by simp only [hob, if_pos hc, he, hp], h⟩
def ZfH (t : Ty) (p : V) (f : Nat) : Option V :=
 match nth t.offs f, p with
 | some off, .ptr o ver i j => some (.ptr o ver i (j + off))
 | some off, .cptr cs => some (.cptr (cs.drop off))
 | _, _ => none
def Zq1 (o : Option V) (d m : Nat) : Option Nat :=
 match o with
 | none => some d
 | some (.int _ n) => if 0 ≤ n ∧ n ≤ m then some n.toNat else none
 | _ => none
def Zn8 (x : V) (lo hi : Option V) : Option V :=
 match x with
 | .str s =>
  match Zq1 hi s.size s.size with
  | some h => match Zq1 lo 0 h with
   | some l => some (.str (s.extract l h))
   | none => none
  | none => none
 | _ => none
def Zx4 (esz : Nat) (s : S) (x : V) (lo hi : Option V) : Option V :=
 match x with
 | .list sz es f =>
  match Zq1 hi es.length es.length with
  | some h => match Zq1 lo 0 h with
   | some l => Zak (Nat.beq sz esz) (some (.list sz ((es.take h).drop l) f.noOwn))
   | none => none
  | none => none
 | .arr o ver off len =>
  match Za9 s o ver with
  | none => none
  | some ob =>
   match Zq1 hi len len with
   | some h => match Zq1 lo 0 h with
    | some l => Zak (Nat.beq ob.esz esz) (some (.arr o ver (off + l) (h - l)))
    | none => none
   | none => none
 | _ => none
def Zv7 {R : Type} (o : Option V) (d m : Nat) (K : Nat → Option R) : Option R :=
 match o with
 | none => K d
 | some (.int _ n) => if 0 ≤ n ∧ n ≤ m then K n.toNat else none
 | _ => none
def Zno {R : Type} (x : V) (lo hi : Option V) (K : V → Option R) : Option R :=
 match x with
 | .str s => Zv7 hi s.size s.size fun h => Zv7 lo 0 h fun l => K (.str (s.extract l h))
 | _ => none
def ZzX {R : Type} (esz : Nat) (s : S) (x : V) (lo hi : Option V) (K : V → Option R) : Option R :=
 match x with
 | .list sz es f => (match Nat.beq sz esz with
  | true => Zv7 hi es.length es.length fun h => Zv7 lo 0 h fun l => K (.list sz ((es.take h).drop l) f.noOwn)
  | false => none)
 | .arr o ver off len => (match Za9 s o ver with
  | none => none
  | some ob => match Nat.beq ob.esz esz with
   | true => Zv7 hi len len fun h => Zv7 lo 0 h fun l => K (.arr o ver (off + l) (h - l))
   | false => none)
 | _ => none
theorem Zdo {R : Type} {o : Option V} {d m : Nat} {K : Nat → Option R} {r : R} (h : Zv7 o d m K = some r) : ∃ n, Zq1 o d m = some n ∧ K n = some r := by
 unfold Zv7 at h
 split at h
 ·exact ⟨_, rfl, h⟩
 ·split at h <;> first | (cases h; done) | skip
  rename_i hb
  exact ⟨_, by simp only [Zq1, if_pos hb], h⟩
 ·cases h
theorem Zgf {R : Type} {x : V} {lo hi : Option V} {K : V → Option R} {r : R} (h : Zno x lo hi K = some r) : ∃ v, Zn8 x lo hi = some v ∧ K v = some r := by
 unfold Zno at h
 split at h <;> first | (cases h; done) | skip
 obtain ⟨n, hn, h2⟩ := Zdo h
 obtain ⟨m, hm, h3⟩ := Zdo h2
 exact ⟨_, by simp only [Zn8, hn, hm], h3⟩
theorem ZkT {R : Type} {esz : Nat} {s : S} {x : V} {lo hi : Option V} {K : V → Option R} {r : R} (h : ZzX esz s x lo hi K = some r) : ∃ v, Zx4 esz s x lo hi = some v ∧ K v = some r := by
 unfold ZzX at h
 split at h <;> first | (cases h; done) | skip
 ·split at h <;> first | (cases h; done) | skip
  rename_i hb
  obtain ⟨n, hn, h2⟩ := Zdo h
  obtain ⟨m, hm, h3⟩ := Zdo h2
  exact ⟨_, by simp only [Zx4, hn, hm, hb, Zak], h3⟩
 ·split at h <;> first | (cases h; done) | skip
  rename_i ob hob
  split at h <;> first | (cases h; done) | skip
  rename_i hb
  obtain ⟨n, hn, h2⟩ := Zdo h
  obtain ⟨m, hm, h3⟩ := Zdo h2
  exact ⟨_, by simp only [Zx4, hob, hn, hm, hb, Zak], h3⟩
def ZqC (op : BinOp) (k : IntKind) (x y : Int) : Option V :=
 match op with
 | .add => some (.int k (k.wrap (x + y)))
 | .sub => some (.int k (k.wrap (x - y)))
 | .mul => some (.int k (k.wrap (x * y)))
 | .quo => if y = 0 then none else some (.int k (k.wrap (x.tdiv y)))
 | .rem => if y = 0 then none else some (.int k (x.tmod y))
 | .and => some (.int k (k.wrap (BitVec.ofInt k.bits x &&& BitVec.ofInt k.bits y).toNat))
 | .or => some (.int k (k.wrap (BitVec.ofInt k.bits x ||| BitVec.ofInt k.bits y).toNat))
 | .xor => some (.int k (k.wrap (BitVec.ofInt k.bits x ^^^ BitVec.ofInt k.bits y).toNat))
 | .andNot => some (.int k (k.wrap (BitVec.ofInt k.bits x &&& ~~~ (BitVec.ofInt k.bits y)).toNat))
 | .eql => some (.bool (x == y))
 | .neq => some (.bool (x != y))
 | .lss => some (.bool (decide (x < y)))
 | .leq => some (.bool (decide (x ≤ y)))
 | .gtr => some (.bool (decide (x > y)))
 | .geq => some (.bool (decide (x ≥ y)))
 | _ => none
def Zvi (op : BinOp) (x y : ByteArray) : Option V :=
 match op with
 | .add => if x.size + y.size ≤ 4611686018427387904 then some (.str (x ++ y)) else none
 | .eql => some (.bool (x.toList == y.toList))
 | .neq => some (.bool (!(x.toList == y.toList)))
 | .lss => some (.bool (Op.bytesLess x.toList y.toList))
 | .leq => some (.bool (Op.bytesLess x.toList y.toList || x.toList == y.toList))
 | .gtr => some (.bool (!(Op.bytesLess x.toList y.toList || x.toList == y.toList)))
 | .geq => some (.bool (!Op.bytesLess x.toList y.toList))
 | _ => none
def Zsi (t : Ty) (op : BinOp) (x y : V) : Option V :=
 match x, y with
 | .int k a, .int k' b =>
  match op with
  | .shl => if b < 0 then none else some (.int k (k.wrap (a * 2 ^ (min b.toNat k.bits))))
  | .shr => if b < 0 then none else some (.int k (a.fdiv (2 ^ (min b.toNat k.bits))))
  | op => if k = k' then ZqC op k a b else none
 | .str a, .str b => Zvi op a b
 | .bool a, .bool b => Zak (t.known && t.bool) (match op with
  | .eql => some (.bool (a == b))
  | .neq => some (.bool (!(a == b)))
  | _ => none)
 | _, _ => none
def ZAN {R : Type} (t : Ty) (op : BinOp) (x y : V) (K : V → Option R) : Option R :=
 match op with
 | .shl => (match x, y with
  | .int k a, .int _ b => if b < 0 then none else K (.int k (k.wrap (a * 2 ^ (min b.toNat k.bits))))
  | _, _ => none)
 | .shr => (match x, y with
  | .int k a, .int _ b => if b < 0 then none else K (.int k (a.fdiv (2 ^ (min b.toNat k.bits))))
  | _, _ => none)
 | .quo => (match x, y with
  | .int k a, .int k' b => if k = k' then (if b = 0 then none else K (.int k (k.wrap (a.tdiv b)))) else none
  | _, _ => none)
 | .rem => (match x, y with
  | .int k a, .int k' b => if k = k' then (if b = 0 then none else K (.int k (a.tmod b))) else none
  | _, _ => none)
 | .add => (match x, y with
  | .int k a, .int k' b => if k = k' then K (.int k (k.wrap (a + b))) else none
  | .str a, .str b => if a.size + b.size ≤ 4611686018427387904 then K (.str (a ++ b)) else none
  | _, _ => none)
 | op => match Zsi t op x y with
  | some v => K v
  | none => none
theorem Zj3 {R : Type} {t : Ty} {op : BinOp} {x y : V} {K : V → Option R} {r : R} (h : ZAN t op x y K = some r) : ∃ v, Zsi t op x y = some v ∧ K v = some r := by
 unfold ZAN at h
 split at h
 ·split at h <;> first | (cases h; done) | skip
  split at h <;> first | (cases h; done) | skip
  rename_i hb
  exact ⟨_, by simp only [Zsi, if_neg hb], h⟩
 ·split at h <;> first | (cases h; done) | skip
  split at h <;> first | (cases h; done) | skip
  rename_i hb
  exact ⟨_, by simp only [Zsi, if_neg hb], h⟩
 ·split at h <;> first | (cases h; done) | skip
  split at h <;> first | (cases h; done) | skip
  rename_i hk
  split at h <;> first | (cases h; done) | skip
  rename_i hb
  exact ⟨_, by simp only [Zsi, ZqC, if_pos hk, if_neg hb], h⟩
 ·split at h <;> first | (cases h; done) | skip
  split at h <;> first | (cases h; done) | skip
  rename_i hk
  split at h <;> first | (cases h; done) | skip
  rename_i hb
  exact ⟨_, by simp only [Zsi, ZqC, if_pos hk, if_neg hb], h⟩
 ·split at h <;> first | (cases h; done) | skip
  ·split at h <;> first | (cases h; done) | skip
   rename_i hk
   exact ⟨_, by simp only [Zsi, ZqC, if_pos hk], h⟩
  ·split at h <;> first | (cases h; done) | skip
   rename_i hk
   exact ⟨_, by simp only [Zsi, Zvi, if_pos hk], h⟩
 ·split at h <;> first | (cases h; done) | skip
  rename_i v hv
  exact ⟨v, hv, h⟩
def unV (op : UnOp) (x : V) : Option V :=
 match op, x with
 | .not, .bool b => some (.bool !b)
 | .neg, .int k n => some (.int k (k.wrap (0 - n)))
 | _, _ => none
def Zwp (dst : Ty) (x : V) : Option V :=
 match dst.kind, x with
 | some k, .int _ n => some (.int k (k.wrap n))
 | _, _ => none
def ZqG (offs fszs : List Nat) : List V → List (Nat × V) → Option (List V)
 | cs, [] => some cs
 | cs, (i, v) :: rest =>
  match nth offs i, nth fszs i with
  | some off, some n => if v.cells.length = n ∧ off + n ≤ cs.length then ZqG offs fszs (cs.take off ++ v.cells ++ cs.drop (off + n)) rest else none
  | _, _ => none
def Zf6 : List V → List (Nat × V) → Option (List V)
 | es, [] => some es
 | es, (i, v) :: rest => if i < es.length then Zf6 (ZaO es i v) rest else none
def Zco (s : ByteArray) : List V := s.data.toList.map fun b => .int .u8 b.toNat
def ZBA (t : Ty) : V → Option Nat
 | .str x => Zak t.str (some x.size)
 | .list _ es _ => Zak t.elem.isSome (some es.length)
 | .arr _ _ _ len => Zak t.elem.isSome (some len)
 | _ => none
def ZaX {α β : Type} (f : α → Option β) : List α → Option (List β)
 | [] => some []
 | a :: l => match f a with
  | none => none
  | some b => match ZaX f l with
   | none => none
   | some l' => some (b :: l')
def borCell : V → V
 | .list sz es _ => .list sz es .bor
 | v => v
def V.lent : V → V
 | .list sz es _ => .list sz es .bor
 | .agg cs => .agg (cs.map borCell)
 | v => v
def ZaW (view : Bool) (s : S) : Nat → V → Option V
 | 0, _ => none
 | n + 1, v =>
  match v with
  | .list sz es g => (match view with
   | true => some (.list sz es g.noOwn)
   | false => (match g with
    | .bor => none
    | _ => some (.list sz es .sh)))
  | .arr o ver off len =>
   match Za9 s o ver with
   | some ob => match ZaX (ZaW view s n) ((ob.es.drop off).take len) with
    | some es' => Zak (decide (off + len ≤ ob.es.length)) (match view with
     | true => some (.list ob.esz (es'.map V.lent) .bor)
     | false => Zak (es'.all V.plain) (some (.list ob.esz es' .sh)))
    | none => none
   | none => none
  | .agg cs => match ZaX (ZaW view s n) cs with
   | some cs' => some (.agg cs')
   | none => none
  | .tuple cs => match ZaX (ZaW view s n) cs with
   | some cs' => some (.tuple cs')
   | none => none
  | .fn g caps => (match caps with
   | [] => some (.fn g [])
   | _ :: _ => none)
  | .ptr .. => none
  | .cptr _ => none
  | .dead => none
  | v => some v
def Zxg {α β R : Type} (f : α → (β → Option R) → Option R) : List α → (List β → Option R) → Option R
 | [], K => K []
 | a :: l, K => f a fun b => Zxg f l fun l' => K (b :: l')
def ZbL {R : Type} (view : Bool) (s : S) : Nat → V → (V → Option R) → Option R
 | 0, _, _ => none
 | n + 1, v, K =>
  match v with
  | .list sz es g => (match view with
   | true => K (.list sz es g.noOwn)
   | false => (match g with
    | .bor => none
    | _ => K (.list sz es .sh)))
  | .arr o ver off len =>
   match Za9 s o ver with
   | some ob => match ZaX (ZaW view s n) ((ob.es.drop off).take len) with
    | some es' => Zak (decide (off + len ≤ ob.es.length)) (match view with
     | true => K (.list ob.esz (es'.map V.lent) .bor)
     | false => Zak (es'.all V.plain) (K (.list ob.esz es' .sh)))
    | none => none
   | none => none
  | .agg cs => Zxg (ZbL view s n) cs fun cs' => K (.agg cs')
  | .tuple cs => Zxg (ZbL view s n) cs fun cs' => K (.tuple cs')
  | .fn g caps => (match caps with
   | [] => K (.fn g [])
   | _ :: _ => none)
  | .ptr .. => none
  | .cptr _ => none
  | .dead => none
  | v => K v
theorem ZcZ {α β R : Type} {f : α → (β → Option R) → Option R} {g : α → Option β} (hf : ∀ a K r, f a K = some r → ∃ b, g a = some b ∧ K b = some r) :
  ∀ {l : List α} {K : List β → Option R} {r : R}, Zxg f l K = some r → ∃ l', ZaX g l = some l' ∧ K l' = some r
 | [], K, r, h => ⟨[], rfl, h⟩
 | a :: l, K, r, h => by
  obtain ⟨b, hb, h2⟩ := hf a _ r h
  obtain ⟨l', hl, h3⟩ := ZcZ hf h2
  exact ⟨b :: l', by simp only [ZaX, hb, hl], h3⟩
theorem ZcD {R : Type} {view : Bool} {s : S} : ∀ {n : Nat} {v : V} {K : V → Option R} {r : R}, ZbL view s n v K = some r → ∃ v', ZaW view s n v = some v' ∧ K v' = some r := by
 intro n
 induction n with
 | zero => intro v K r h; cases h
 | succ n ih =>
  intro v K r h
  cases v with
  | list sz es g =>
   simp only [ZbL] at h
   cases view with
   | true => exact ⟨_, rfl, h⟩
   | false => cases g <;> first | (cases h; done) | exact ⟨_, rfl, h⟩
  | arr o ver off len =>
   simp only [ZbL] at h
   split at h <;> first | (cases h; done) | skip
   rename_i ob hob
   split at h <;> first | (cases h; done) | skip
   rename_i es' hes
   unfold Zak at h
   split at h <;> first | (cases h; done) | skip
   rename_i hg
   cases view with
   | true => exact ⟨_, by simp only [ZaW, hob, hes, Zak, hg], h⟩
   | false =>
    simp only at h
    split at h <;> first | (cases h; done) | skip
    rename_i hp
    exact ⟨_, by simp only [ZaW, hob, hes, Zak, hg, hp], h⟩
  | agg cs =>
   simp only [ZbL] at h
   obtain ⟨cs', h1, h2⟩ := ZcZ (f := ZbL view s n) (g := ZaW view s n) (fun a K r h => ih h) h
   exact ⟨_, by simp only [ZaW, h1], h2⟩
  | tuple cs =>
   simp only [ZbL] at h
   obtain ⟨cs', h1, h2⟩ := ZcZ (f := ZbL view s n) (g := ZaW view s n) (fun a K r h => ih h) h
   exact ⟨_, by simp only [ZaW, h1], h2⟩
  | fn f caps =>
   cases caps with
   | nil => exact ⟨_, rfl, h⟩
   | cons => cases h
  | ptr => cases h
  | cptr => cases h
  | dead => cases h
  | bool b => exact ⟨_, rfl, h⟩
  | int k m => exact ⟨_, rfl, h⟩
  | str b => exact ⟨_, rfl, h⟩
  | nilp => exact ⟨_, rfl, h⟩
  | nilf => exact ⟨_, rfl, h⟩
  | nili => exact ⟨_, rfl, h⟩
  | nils => exact ⟨_, rfl, h⟩
def trimCell (n : Nat) : V → V
 | .arr o ver off len => if o < n then .arr o ver off len else .dead
 | .ptr o ver i j => if o < n then .ptr o ver i j else .dead
 | .fn f caps => (match caps with
  | [] => .fn f []
  | _ :: _ => .dead)
 | .tuple _ => .dead
 | .agg _ => .dead
 | .cptr _ => .dead
 | v => v
def trimV (n : Nat) : V → V
 | .agg cs => .agg (cs.map (trimCell n))
 | v => trimCell n v
def Zhe (n : Nat) (s : S) : S := (s.take n).map fun
 | some ob => some { ob with es := ob.es.map (trimV n) }
 | none => none
def Zbk : List Nat → List V → List V
 | [], E => E
 | t :: l, E => Zbk l (ZaO E t .dead)
def Zdu (E : List V) (dst : Option Tmp) (v : V) : List V :=
 match dst with
 | some d => ZaO E d v
 | none => E
def Zho {R : Type} (ops : List Oper) (E : List V) (o : Oper) (K : Bool → List V → Option R) : Option R :=
 match o.guard with
 | none => K true E
 | some (j, want) =>
  match (nth ops j).bind (·.dst) with
  | none => K false E
  | some d => match nth E d with
   | some (.bool b) => (match b with
    | true => K want (ZaO E d (.bool true))
    | false => K (!want) (ZaO E d (.bool false)))
   | some .dead => none
   | _ => K false E
def ZlP (ops : List Oper) (d : Option Tmp) : Bool :=
 match d with
 | none => false
 | some d => ops.any fun o => match o.op with
  | .call c => match c.callee with
   | .builtin .append => match c.args.toList with
    | .tmp t :: _ => Nat.beq t d
    | _ => false
   | _ => false
  | _ => false
def ZwP (ops : List Oper) (d : Option Tmp) : Bool :=
 match d with
 | none => false
 | some t => (ops.all fun q => match q.op with
  | .move _ => true
  | .assign _ => true
  | _ => false) && ops.any fun q => match q.op with
  | .assign (.tmp u) => Nat.beq u t
  | _ => false
def Zti (ops : List Oper) (d : Option Tmp) : Bool := ZlP ops d || ZwP ops d
def Zc6 (E : List V) : Operand → List V
 | .tmp t => match nth E t with
  | some v => ZaO E t v.noOwn
  | none => E
 | _ => E
def Zif (s : S) : V → Option (V × S)
 | .ptr o ver i j =>
  match Za9 s o ver with
  | some ob =>
   match nth ob.es i with
   | some e => match nth e.cells j with
    | some c => match Zb9 e j [c.noOwn] with
     | some e' => some (c, ZaO s o (some { ob with es := ZaO ob.es i e' }))
     | none => none
    | none => none
   | none => none
  | none => none
 | _ => none
def ZcR (E : List V) : List (Nat × Operand) → Option (List (Nat × V))
 | [] => some []
 | (i, x) :: l => match ev E x with
  | none => none
  | some v => match ZcR E l with
   | some l' => some ((i, v.noOwn) :: l')
   | none => none
inductive X where
 | norm | ret | exit (id : Nat)
abbrev Zao := (R : Type) → FuncId → List V → S → (V → S → Option R) → Option R
abbrev ZaL := (R : Type) → List Nat → List V → S → (X → List V → S → Option R) → Option R
section run
variable (C : Cfg) {R : Type}
def ZeQ (es : List V) (off len : Nat) (z : V) : List V := es.take off ++ List.replicate len z ++ es.drop (off + len)
def Znm (s : S) (p : V) (K : List V → Option R) : Option R :=
 match p with
 | .ptr o ver i j =>
  match Za9 s o ver with
  | some ob => match nth ob.es i with
   | some e => K (e.cells.drop j)
   | none => none
  | none => none
 | .cptr cs => K cs
 | _ => none
def ZsI (t : Ty) (s : S) (p : V) (K : V → Option R) : Option R :=
 Znm s p fun cs =>
  match t.agg with
  | true => Zr7 t.shs (cs.take t.size) fun cs => K (.agg (cs.map V.noOwnCell))
  | false => ZdG cs fun c _ => match t.shs with
   | [sh] => Zxd sh c fun c => K c.noOwnCell
   | _ => none
def Ztr (es : List V) (n : Int) (K : V → Option R) : Option R :=
 if 0 ≤ n then ZbW (nth es n.toNat) K else none
def ZAz (t : Ty) (e : V) (K : V → Option R) : Option R :=
 match t.agg with
 | true => asAgg e fun cs => Zr7 t.shl cs fun cs => K (.agg cs)
 | false => match t.shl with
  | [sh] => Zxd sh e K
  | _ => none
def ZfU (t : Ty) (s : S) (x i : V) (K : V → Option R) : Option R :=
 match t.elem with
 | none => none
 | some te => Zak (C.ty te).known <|
  match x, i with
  | .list sz es _, .int _ n => Zak (Nat.beq sz (C.ty te).size) (Ztr es n fun e => ZAz (C.ty te) e fun e => K (.cptr e.cells))
  | .arr o ver off len, .int _ n =>
   match Za9 s o ver with
   | some ob => Zak (Nat.beq ob.elem te) (if 0 ≤ n ∧ n < len then K (.ptr o ver (off + n.toNat) 0) else none)
   | none => none
  | _, _ => none
def ZbZ (s : ByteArray) (n : Int) (K : Int → Option R) : Option R :=
 if 0 ≤ n then (match s.data[n.toNat]? with
  | some b => K b.toNat
  | none => none) else none
def Ztm (x i : V) (K : V → Option R) : Option R :=
 match x, i with
 | .str s, .int _ n => ZbZ s n fun b => K (.int .u8 b)
 | _, _ => none
def ZxP (f : Fl) (ys : List V) : Bool :=
 match f with
 | .bor => ys.all V.plain
 | _ => true
def ZrK (sz : Nat) (s : S) (y : V) (K : List V → Option R) : Option R :=
 match y with
 | .str b => Zak (Nat.beq sz 1) (K (Zco b))
 | .list sz' ys f => Zak (Nat.beq sz' sz) (Zak (ZxP f ys) (K ys))
 | .arr o ver off len =>
  match Za9 s o ver with
  | some ob => Zak (Nat.beq ob.esz sz && decide (off + len ≤ ob.es.length)) (Zak (((ob.es.drop off).take len).all V.plain) (K ((ob.es.drop off).take len)))
  | none => none
 | _ => none
def ZgU (sz : Nat) (s : S) (y : V) (K : List V → Option R) : Option R :=
 match y with
 | .list sz' ys _ => Zak (Nat.beq sz' sz) (K ys)
 | .arr o ver off len =>
  match Za9 s o ver with
  | some ob => Zak (Nat.beq ob.esz sz && decide (off + len ≤ ob.es.length)) (K ((ob.es.drop off).take len))
  | none => none
 | _ => none
def Zwz : List V → Option (List Int)
 | [] => some []
 | .int .u8 n :: l => match Zwz l with
  | some xs => some (n :: xs)
  | none => none
 | _ => none
def Zy3 (k : Option IntKind) : Bool :=
 match k with
 | some .u8 => true
 | _ => false
def Zsl (e : TypeId) (t : Ty) (s : S) (x y : V) (K : V → S → Option R) : Option R :=
 match x with
 | .list _ es f =>
  match f with
  | .own e' => Zak (Nat.beq e e') (ZrK t.size s y fun ys =>
   if (es.length + ys.length) * t.bytes ≤ 140737488355328 then K (.list t.size (es ++ ys.map V.noOwn) (.own e)) s else none)
  | _ => none
 | .arr o ver off len =>
  match Za9 s o ver with
  | some ob => Zak (Nat.beq ob.elem e) (ZgU t.size s y fun ys =>
   if off = 0 ∧ len = ob.es.length ∧ (len + ys.length) * t.bytes ≤ 140737488355328 ∧ 0 < ys.length then
    K (.arr o (ver + 1) 0 (len + ys.length)) (ZaO s o (some { ob with es := ob.es ++ ys.map V.noOwn, ver := ver + 1 }))
   else none)
  | none => none
 | _ => none
def newOb (s : S) (es : List V) (t : TypeId) : S := s ++ [some { es := es, esz := (C.ty t).size, elem := t, ver := 0 }]
def Zws (src dst : TypeId) (s : S) (a : V) (K : V → Option R) : Option R :=
 match (C.ty src).elem with
 | some e => Zak ((C.ty e).known && (C.ty dst).str && Zy3 (C.ty e).kind) <| ZgU 1 s a fun ys => match Zwz ys with
  | some xs => K (.str (strOfNums xs))
  | none => none
 | none => match (C.ty dst).elem with
  | some e => Zak ((C.ty e).known && (C.ty src).str && Zy3 (C.ty e).kind) <| ZaQ a fun b => K (.list 1 (Zco b) .sh)
  | none => ZbW (Zwp (C.ty dst) a) K
def Zg6 (ops : List Oper) (o : Oper) (E : List V) (s : S) (K : V → List V → S → Option R) : Option R :=
 match o.op with
 | .move x => ZbW (evt C o.type E x) fun v =>
  match Zti ops o.dst with
  | true => K v (Zc6 E x) s
  | false => K v.noOwn E s
 | .assign x => ZbW (evt C o.type E x) fun v => K v (Zc6 E x) s
 | .pick c a b => ZbW (ev E c) fun c => asBool c fun t =>
  match t with
  | true => ZbW (ev E a) fun v => K v.noOwn E s
  | false => ZbW (ev E b) fun v => K v.noOwn E s
 | .load t a => Zak (C.ty t).known <| ZbW (ev E a) fun p =>
  match Zti ops o.dst with
  | true => Zak (!(C.ty t).agg && Nat.beq (C.ty t).size 1) <| match Zif s p with
    | some (v, s') => K v E s'
    | none => none
  | false => ZsI (C.ty t) s p fun v => K v E s
 | .store t a x => Zak (C.ty t).known <| ZbW (ev E a) fun p => ZbW (evt C t E x) fun v =>
  Zss (C.ty t) s p v fun s' => K (.tuple []) (Zc6 E x) s'
 | .fieldAddr t x f => Zak (C.ty t).known <| ZbW (ev E x) fun p => ZbW (ZfH (C.ty t) p f) fun v => K v E s
 | .indexAddr t x i => Zak (C.ty t).known <| ZbW (ev E x) fun v => ZbW (ev E i) fun n => ZfU C (C.ty t) s v n fun v => K v E s
 | .index t x i => Zak ((C.ty t).known && (C.ty t).str) (ZbW (ev E x) fun v => ZbW (ev E i) fun n => Ztm v n fun v => K v E s)
 | .slice t x lo hi mx =>
  match mx with
  | some _ => none
  | none => Zak (C.ty t).known <| ZbW (ev E x) fun v =>
   match ZaX (ev E) lo.toList, ZaX (ev E) hi.toList with
   | some l, some h => (match (C.ty t).elem with
    | some e => Zak (C.ty e).known <| ZzX (C.ty e).size s v (nth l 0) (nth h 0) fun v => K v E s
    | none => Zak (C.ty t).str <| Zno v (nth l 0) (nth h 0) fun v => K v E s)
   | _, _ => none
 | .binOp op t x y _ => ZbW (ev E x) fun a => ZbW (ev E y) fun b => ZAN (C.ty t) op a b fun v => K v E s
 | .unOp op _ x => ZbW (ev E x) fun a => ZbW (unV op a) fun v => K v E s
 | .convert src dst x => Zak ((C.ty src).known && (C.ty dst).known) <| ZbW (ev E x) fun a => Zws C src dst s a fun v => K v E s
 | .nilCheck x => ZbW (ev E x) fun v =>
  match v with
  | .ptr o ver i j => K (.ptr o ver i j) E s
  | .cptr cs => K (.cptr cs) E s
  | .fn f cs => K (.fn f cs) E s
  | _ => none
 | .field t x i => Zak ((C.ty t).known && (C.ty t).agg) <| ZbW (ev E x) fun v => asAgg v fun cs =>
  match nth (C.ty t).ftys i, nth (C.ty t).offs i with
  | some ft, some off => Zak ((C.ty ft).known && !(C.ty ft).agg) <| ZbW (nth cs off) fun c => K c.noOwn E s
  | _, _ => none
 | .extract x i => ZbW (ev E x) fun v =>
  match v with
  | .tuple vs => ZbW (nth vs i) fun v => K v.noOwn E s
  | _ => none
 | .makeFunc fn first caps =>
  match fn, first.toList with
  | .func f, [] => match ZaX (ev E) caps.toList with
   | some vs => K (.fn f (vs.map V.noOwn)) E s
   | none => none
  | _, _ => none
 | .box t x => Zak (C.ty t).known <| ZbW (ev E x) fun v => Zak v.flat <|
  if v.cells.length = (C.ty t).size then K (.ptr s.length 0 0 0) E (newOb C s [v.boxed] t) else none
 | .alloc t => Zak (C.ty t).known <|
  if (C.ty t).zero.cells.length = (C.ty t).size then K (.ptr s.length 0 0 0) E (newOb C s [(C.ty t).zero] t) else none
 | .build t parts => Zak (C.ty t).known <|
  match ZcR E parts.toList with
  | some ps => Zak ((C.ty t).agg && ps.all fun p => p.2.flat) <| match ZqG (C.ty t).offs (C.ty t).fszs (C.ty t).zero.cells ps with
   | some cs => K (.agg cs) E s
   | none => none
  | none => none
 | .buildSlice t len parts => Zak (C.ty t).known <|
  match (C.ty t).elem, ZcR E parts.toList with
  | some e, some ps => Zak (C.ty e).known <| match Zf6 (List.replicate len (C.ty e).zero) ps with
   | some es =>
    if len * (C.ty e).size ≤ 16777216 ∧ ps.all (fun p => Nat.beq p.2.cells.length (C.ty e).size && p.2.flat) = true then
     match es.all V.plain with
     | true => K (.list (C.ty e).size es (.own e)) E s
     | false => K (.arr s.length 0 0 len) E (newOb C s es e)
    else none
   | none => none
  | _, _ => none
 | .makeSlice t len cap => Zak (C.ty t).known <|
  match (C.ty t).elem with
  | some e => Zak (C.ty e).known <| ZbW (ev E len) fun n => ZbW (ev E cap) fun m =>
   match n, m with
   | .int _ n, .int _ m =>
    if 0 ≤ n ∧ n = m ∧ n * (C.ty e).bytes ≤ 140737488355328 then
     K (.arr s.length 0 0 n.toNat) E (newOb C s (List.replicate n.toNat (C.ty e).zero) e)
    else none
   | _, _ => none
  | none => none
 | _ => none
def Zjf (b : Builtin) (argTypes : List TypeId) (args : List V) (s : S) (K : V → S → Option R) : Option R :=
 match b, args with
 | .len, [x] => match argTypes with
  | t :: _ => Zak (C.ty t).known <| match ZBA (C.ty t) x with
   | some n => K (.int .i64 n) s
   | none => none
  | [] => none
 | .append, [x, y] => match argTypes with
  | [t, u] => Zak ((C.ty t).known && (C.ty u).known && ((C.ty u).str || (C.ty u).elem.isSome)) <| match (C.ty t).elem with
   | some e => Zak (C.ty e).known <| Zsl e (C.ty e) s x y K
   | none => none
  | _ => none
 | .clear, [.arr o ver off len] => match argTypes with
  | [t] => Zak (C.ty t).known <| match (C.ty t).elem with
   | some e => Zak ((C.ty e).known && Nat.beq (C.ty e).size 1 && (C.ty e).zero.flatCell) <| match Za9 s o ver with
    | some ob => Zak (Nat.beq ob.elem e && decide (off + len ≤ ob.es.length)) <| K (.tuple []) (ZaO s o (some { ob with es := ZeQ ob.es off len (C.ty e).zero }))
    | none => none
   | none => none
  | _ => none
 | .min, [.int k a, .int k' b] => if k = k' then K (.int k (if b < a then b else a)) s else none
 | .max, [.int k a, .int k' b] => if k = k' then K (.int k (if a < b then b else a)) s else none
 | _, _ => none
def Zzh (t : TypeId) (v : V) (K : V → Option R) : Option R :=
 match (C.ty t).elem with
 | some e => Zbq (C.ty e).size v fun es f => K (.list (C.ty e).size es f)
 | none => match (C.ty t).agg with
  | true => asAgg v fun cs => Zr7 (C.ty t).shl cs fun cs => K (.agg cs)
  | false => match (C.ty t).shl with
   | [sh] => Zxd sh v K
   | _ => none
def Zrs : List TypeId → List V → (List V → Option R) → Option R
 | [], l, K => ZvN l (K [])
 | t :: ts, l, K => ZdG l fun v l => Zzh C t v fun v => Zrs ts l fun l => K (v :: l)
def ZmD (ts : List TypeId) (v : V) (K : V → Option R) : Option R :=
 match ts with
 | [t] => Zzh C t v K
 | ts => match v with
  | .tuple l => Zrs C ts l fun l => K (.tuple l)
  | _ => none
def Zvt (Φ : Zao) (g : FuncId) (args : List V) (s : S) (K : V → S → Option R) : Option R :=
 match C.mode g with
 | .pure => Zxg (ZbL true s 12) args fun as => Φ R g as [] fun v _ => ZmD C (C.res g) v fun v => K v s
 | .shared => Φ R g (args.map V.noOwn) s K
 | .own => Zxg (ZbL true s 12) args fun as => Φ R g as [] fun v _ => ZmD C (C.res g) v fun v => K v s
def Zgl (E : List V) : List TypeId → List Operand → Option (List V)
 | _, [] => some []
 | ts, x :: l => match (match ts with | t :: _ => evt C t E x | [] => ev E x) with
  | none => none
  | some v => match Zgl E ts.tail l with
   | some l' => some (v :: l')
   | none => none
def Zm2 : Operand → Bool
 | .const (.slice none 0 0) => true
 | _ => false
def ZdW : List Operand → List V → List V
 | x :: xs, v :: vs => (match Zm2 x with
  | true => .nils
  | false => v) :: ZdW xs vs
 | _, vs => vs
def argsN (b : Bool) (xs : List Operand) (vs : List V) : List V :=
 match b with
 | true => ZdW xs vs
 | false => vs
def ZdC (b : Builtin) (E : List V) (args : List Operand) : List V :=
 match b, args with
 | .append, x :: _ => Zc6 E x
 | _, _ => E
def opV (Φ : Zao) (ops : List Oper) (o : Oper) (E : List V) (s : S) (K : V → List V → S → Option R) : Option R :=
 match o.op with
 | .call c =>
  match Zgl C E c.argTypes.toList c.args.toList with
  | none => none
  | some args =>
   match c.callee with
   | .builtin b => Zjf C b c.argTypes.toList args s fun v s' => K v (ZdC b E c.args.toList) s'
   | .value x => ZbW (ev E x) fun f =>
    match f with
    | .fn g caps => Zvt C Φ g (argsN (C.nilArg g) c.args.toList args ++ caps) s fun v s' => K v E s'
    | _ => none
   | .invoke .. => none
 | _ => Zg6 C ops o E s K
def Zv5 (s : S) (o ver len : Nat) (K : S → Option R) : Option R :=
 match Za9 s o ver with
 | some ob => if len ≤ ob.es.length then K (ZaO s o (some { ob with es := ob.es.take len })) else none
 | none => none
def opX (Φ : Zao) (ops : List Oper) (o : Oper) (E : List V) (s : S) (K : V → List V → S → Option R) : Option R :=
 match C.objAll with
 | false => opV C Φ ops o E s K
 | true => match o.op with
  | .assign (.const (.slice none 0 0)) => (match (C.ty o.type).elem with
   | some e => Zak ((C.ty o.type).known && (C.ty e).known) <| K (.arr s.length 0 0 0) E (newOb C s [] e)
   | none => none)
  | .buildSlice t 0 ⟨[]⟩ => (match (C.ty t).elem with
   | some e => Zak ((C.ty t).known && (C.ty e).known) <| K (.arr s.length 0 0 0) E (newOb C s [] e)
   | none => none)
  | .call c => (match c.callee, Zgl C E c.argTypes.toList c.args.toList with
   | .builtin .append, some (.arr oo ver 0 len :: _) => Zv5 s oo ver len fun s2 => opV C Φ ops o E s2 K
   | _, _ => opV C Φ ops o E s K)
  | _ => opV C Φ ops o E s K
def Zw3 (Φ : Zao) (ops : List Oper) : List Oper → List V → S → (List V → S → Option R) → Option R
 | [], E, s, K => K E s
 | o :: l, E, s, K => Zho ops E o fun b E =>
  match b with
  | true => opX C Φ ops o E s fun v E' s' => Zw3 Φ ops l (Zdu E' o.dst v) s' K
  | false => Zw3 Φ ops l (Zdu E o.dst (.tuple [])) s K
def Zbr (ops : List Oper) (o : Oper) : Bool :=
 match o.op with
 | .move _ | .load .. => !Zti ops o.dst
 | .pick .. | .fieldAddr .. | .indexAddr .. | .index .. | .slice .. | .binOp .. | .unOp .. | .convert .. | .nilCheck _ | .extract .. | .field .. | .build .. => true
 | .call c => match c.callee with
  | .builtin .len | .builtin .min | .builtin .max => true
  | .value (.func g) => match C.mode g with
   | .pure => true
   | _ => false
  | _ => false
 | _ => false
def Zcf (ops : List Oper) (o : Oper) : Bool :=
 match o.op with
 | .assign _ => true
 | _ => Zbr C ops o
def ZeC (ts : List Nat) : Nat → List V → List V
 | _, [] => []
 | k, v :: l => (match ts.any (Nat.beq k) with | true => v.noOwn | false => .dead) :: ZeC ts (k + 1) l
def Zbl (ops : List Oper) (o : Oper) : List Nat := o.looksAt ops.toArray
def Zi6 (ops : List Oper) : Bool :=
 (List.range ops.length).all fun i => match nth ops i with
  | none => false
  | some o => o.after.all (fun e => !Region.binds .any e || decide (e.on < i)) && Zcf C ops o &&
   (List.range ops.length).all fun j => match nth ops j with
    | none => true
    | some p => match p.dst with
     | none => true
     | some d => (!((Zbl ops o).any (Nat.beq d)) || o.after.any (fun e => Region.binds .any e && e.on == j)) &&
      (i == j || !(match o.dst with | some d' => Nat.beq d d' | none => false))
def Zmi (Φ : Zao) (ops : List Oper) : List Oper → List V → S → (List V → S → Option R) → Option R
 | [], E, s, K => K E s
 | o :: l, E, s, K => Zho ops E o fun b E =>
  match b with
  | true => opV C Φ ops o (ZeC (Zbl ops o) 0 E) s fun v _ _ => Zmi Φ ops l (Zdu E o.dst v.noOwn) s K
  | false => Zmi Φ ops l (Zdu E o.dst (.tuple [])) s K
def Zgb (ops : List Oper) (i : Nat) : List Nat :=
 match nth ops i with
 | none => []
 | some o => (o.after.toList.filter (Region.binds .any)).map (·.on)
def ZhS (ops : List Oper) : Nat → List Nat → List Nat
 | 0, l => l
 | i + 1, l => match l.any (Nat.beq i) with
  | true => ZhS ops i (l ++ Zgb ops i)
  | false => ZhS ops i l
def ZdF (o : Oper) : Bool :=
 match o.op with
 | .alloc _ => true
 | .makeSlice .. => true
 | _ => false
def ZcB (o : Oper) : Bool :=
 match o.op with
 | .call c => match c.callee with
  | .builtin .append => true
  | .value (.func g) => match C.mode g with
   | .own => true
   | _ => false
  | _ => false
 | .buildSlice .. => true
 | _ => false
def ZqM (ops : List Oper) (o : Oper) (t : Nat) : Bool :=
 (List.range ops.length).any fun j => match nth ops j with
  | some p => (match p.dst with | some d => Nat.beq d t | none => false) && o.after.any (fun e => Region.binds .any e && e.on == j)
  | none => false
def Zla (ops : List Oper) (i : Nat) (o : Oper) : List Nat :=
 (Zbl ops o).filter fun t => ZqM ops o t &&
  (List.range ops.length).all fun j => Nat.beq j i || match nth ops j with
   | some p => !(Zbl ops p).any (Nat.beq t)
   | none => true
def Zlv (ks ts : List Nat) : Nat → List V → List V
 | _, [] => []
 | k, v :: l => (match ks.any (Nat.beq k) with
  | true => v
  | false => match ts.any (Nat.beq k) with
   | true => v.noOwn
   | false => .dead) :: Zlv ks ts (k + 1) l
def ZiM (n : Nat) : V → V
 | .ptr _ ver i j => .ptr n ver i j
 | .arr _ ver off len => .arr n ver off len
 | v => v
abbrev ZsF := List (Nat × Ob × V)
def Zjk : ZsF → List V → S → List V
 | [], E, _ => E
 | (d, ob, v) :: l, E, s => Zjk l (ZaO E d (ZiM s.length v)) (s ++ [some ob])
def ZeX : ZsF → S → S
 | [], s => s
 | (_, ob, _) :: l, s => ZeX l (s ++ [some ob])
def Zlr : List (Nat × Nat) → List V → List V
 | [], E => E
 | (d, x) :: l, E => Zlr l (ZaO E d (match nth E x with | some v => v.noOwn | none => .dead))
def Znk (ops : List Oper) (p : ZsF) (al : List (Nat × Nat)) (o : Oper) : Option Nat :=
 match o.op with
 | .assign (.tmp x) => match (p.any (fun q => Nat.beq q.1 x) || al.any (fun q => Nat.beq q.1 x)) && ZqM ops o x with
  | true => some x
  | false => none
 | _ => none
abbrev Zsj := List (Nat × Nat × V)
def ZiZ (ob : Ob) (d : Nat) : Zsj → Ob
 | [] => ob
 | (d', _, v) :: l => match Nat.beq d' d with
  | true => { ob with es := [v] }
  | false => ZiZ ob d l
def Zsw (pu : Zsj) : ZsF → ZsF
 | [] => []
 | (d, ob, v) :: l => (d, ZiZ ob d pu, v) :: Zsw pu l
def ZfO (o : Oper) : Bool :=
 match o.op, o.dst with
 | .store _ (.tmp _) (.tmp _), none => true
 | _, _ => false
def Zqy (q : Nat × Ob × V) (d sz : Nat) : Bool :=
 Nat.beq q.1 d && Nat.beq q.2.1.esz sz && Nat.beq q.2.1.es.length 1 && (match q.2.2 with
  | .ptr 0 0 0 0 => true
  | _ => false)
def ZwG (ops : List Oper) (p : ZsF) (pu : Zsj) (o : Oper) : Option (TypeId × Nat × Nat) :=
 match o.op, o.dst with
 | .store t (.tmp d) (.tmp x), none => match p.any (fun q => Zqy q d (C.ty t).size) && !(pu.any (fun q => Nat.beq q.1 d)) && ZqM ops o d && ZqM ops o x && (C.ty t).known with
  | true => some (t, d, x)
  | false => none
 | _, _ => none
def ZdM (Φ : Zao) (ops : List Oper) : Nat → List Oper → List V → S → ZsF → List (Nat × Nat) → Zsj → (List V → S → Option R) → Option R
 | _, [], E, s, p, al, pu, K => K (Zlr al (Zjk (Zsw pu p) E s)) (ZeX (Zsw pu p) s)
 | i, o :: l, E, s, p, al, pu, K => Zho ops E o fun b E =>
  match b with
  | true => match ZwG C ops p pu o with
   | some (t, d, x) => ZbW (nth E x) fun v => ZbW (nth E d) fun _ => Zak (Nat.beq v.noOwn.cells.length (C.ty t).size && v.noOwn.flat) <|
    ZdM Φ ops (i + 1) l E s p al (pu ++ [(d, x, v.noOwn)]) K
   | none => match ZfO o with
    | true => none
    | false => match Znk ops p al o, o.dst with
     | some x, some d => ZdM Φ ops (i + 1) l (ZaO E d .dead) s p (al ++ [(d, x)]) pu K
     | _, _ => match ZdF o with
      | true => Zg6 C ops o (ZeC (Zbl ops o) 0 E) [] fun v _ s1 => match s1, o.dst with
       | [some ob], some d => ZdM Φ ops (i + 1) l (ZaO E d .dead) s (p ++ [(d, ob, v)]) al pu K
       | _, _ => none
      | false => match ZcB C o with
       | true => opV C Φ ops o (Zlv (Zla ops i o) (Zbl ops o) 0 E) s fun v _ _ => match v with
        | .list sz es f => ZdM Φ ops (i + 1) l (Zdu (Zbk (Zla ops i o) E) o.dst (.list sz es f)) s p al pu K
        | _ => none
       | false => opV C Φ ops o (ZeC (Zbl ops o) 0 E) s fun v _ _ => ZdM Φ ops (i + 1) l (Zdu E o.dst v.noOwn) s p al pu K
  | false => ZdM Φ ops (i + 1) l (Zdu E o.dst (.tuple [])) s p al pu K
def ZdZ (ops : List Oper) (m : Nat) : Bool :=
 decide (m ≤ ops.length) &&
 ((List.range m).all fun i => match nth ops i with
  | none => false
  | some o => o.after.all (fun e => !Region.binds .any e || decide (e.on < i)) && (ZdF o || ZcB C o || Zcf C ops o || ZfO o) && (!(ZdF o) || match o.dst with | some _ => true | none => false) &&
   (List.range m).all fun j => match nth ops j with
    | none => true
    | some p => match p.dst with
     | none => true
     | some d => (!((Zbl ops o).any (Nat.beq d)) || o.after.any (fun e => Region.binds .any e && e.on == j)) &&
      (i == j || !(match o.dst with | some d' => Nat.beq d d' | none => false))) &&
 (match nth ops m with
  | none => true
  | some o => o.after.all (fun e => !Region.binds .any e || decide (e.on < m)) && (fun l => (List.range m).all fun j => l.any (Nat.beq j)) (ZhS ops m (Zgb ops m))) &&
 (List.range ops.length).all fun j => decide (j ≤ m) || match nth ops j with
  | none => true
  | some o => o.after.all (fun e => !Region.binds .any e || decide (e.on < j)) && o.after.any (fun e => Region.binds .any e && (e.on + 1 == j))
def Zgt (ops : List Oper) : Nat → Nat → Nat
 | 0, m => m
 | n + 1, m => match ZdZ C ops m with
  | true => m
  | false => Zgt ops n (m + 1)
def ZeU (Φ : Zao) (Λ : ZaL) : Code → List Nat → List V → S → (X → List V → S → Option R) → Option R
 | .skip, _, E, s, K => K .norm E s
 | .seq a b, w, E, s, K => ZeU Φ Λ a (0 :: w) E s fun x E' s' =>
  match x with
  | .norm => ZeU Φ Λ b (1 :: w) E' s' K
  | x => K x E' s'
 | .cond c a b, w, E, s, K => ZbW (ev E c) fun v => asBool v fun t =>
  match t with
  | true => ZeU Φ Λ a (0 :: w) E s K
  | false => ZeU Φ Λ b (1 :: w) E s K
 | .block id b, w, E, s, K => ZeU Φ Λ b (0 :: w) E s fun x E' s' =>
  match x with
  | .exit i => if i = id then K .norm E' s' else K (.exit i) E' s'
  | x => K x E' s'
 | .loop _, w, E, s, K => Λ R w E s K
 | .scope b, w, E, s, K => ZeU Φ Λ b (0 :: w) E s K
 | .exit id, _, E, s, K => K (.exit id) E s
 | .ret, _, E, s, K => K .ret E s
 | .region _ ops draw, _, E, s, K =>
  match draw with
  | true => match Zi6 C ops.toList with
   | true => Zmi C Φ ops.toList ops.toList E s fun E' s' => K .norm E' s'
   | false => Zak (ZdZ C ops.toList (Zgt C ops.toList ops.size 0)) <|
    ZdM C Φ ops.toList 0 (ops.toList.take (Zgt C ops.toList ops.size 0)) E s [] [] [] fun E' s' => Zw3 C Φ ops.toList (ops.toList.drop (Zgt C ops.toList ops.size 0)) E' s' fun E' s' => K .norm E' s'
  | false => Zw3 C Φ ops.toList ops.toList E s fun E' s' => K .norm E' s'
 | _, _, _, _, _ => none
def Zck (s : S) (E : List V) : List ResultVar → (List V → Option R) → Option R
 | [], K => K []
 | .tmp t :: l, K => ZbW (nth E t) fun v => Zck s E l fun vs => K (v :: vs)
 | .cell a t :: l, K => Zak (C.ty t).known <| ZbW (nth E a) fun p => ZsI (C.ty t) s p fun v => Zck s E l fun vs => K (v :: vs)
def Zhv : List V → V
 | [v] => v
 | vs => .tuple vs
def Zie (b : Bool) (raw v : V) : V :=
 match b with
 | false => v
 | true => match raw, v with
  | .list _ _ (.own e), .list sz es _ => .list sz es (.own e)
  | _, v => v
def ZfZ (vs : List V) (K : Nat → List V → TypeId → Option R) : Option R :=
 match vs with
 | [.list sz es (.own e)] => K sz es e
 | _ => none
def ZpY (g : FuncId) (v : V) (K : V → Option R) : Option R :=
 match C.objAll with
 | true => ZmD C (C.res g) v K
 | false => K v
def ZaV (Φ : Zao) (Λ : ZaL) (g : FuncId) (fn : Func) (args : List V) (s : S) (K : V → S → Option R) : Option R :=
 match fn.body with
 | none => none
 | some c =>
  ZeU C Φ Λ c [] (args ++ List.replicate (fn.ntmps - args.length) .dead) s fun x E' s' =>
   match x with
   | .exit _ => none
   | _ => Zck C s' E' fn.results.toList fun vs =>
    match C.mode g with
    | .pure => ZbL false s' 12 (Zhv vs) fun v => ZpY C g (Zie (C.ownRet g) (Zhv vs) v) fun v => K v []
    | .shared => K (match Zhv vs with | .tuple l => .tuple (l.map V.noOwn) | v => v.noOwn) s'
    | .own => ZfZ vs fun sz es e => Zak ((C.ty e).known && Nat.beq sz (C.ty e).size) (K (.list sz es (.own e)) [])
end run
end Go.VM
