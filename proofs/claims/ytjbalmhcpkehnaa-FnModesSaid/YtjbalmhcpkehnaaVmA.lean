/- A machine over plain values: what a function of the program computes, told without memory addresses. Definitions alone; the texts ZeE it show that the model's machine does the same. -/
import Derived.Calls
import Derived.Orders
import Derived.Laws.BytesArg
namespace Go.VM
inductive Fl where
 | own (e : TypeId) | sh | bor
 deriving DecidableEq
def Fl.noOwn : Fl → Fl
 | .own _ => .sh
 | .sh => .sh
 | .bor => .bor
inductive V where
 | bool (b : Bool)
 | int (k : IntKind) (n : Int)
 | str (s : ByteArray)
 | list (sz : Nat) (es : List V) (f : Fl)
 | arr (o ver off len : Nat)
 | ptr (o ver i j : Nat)
 | cptr (cells : List V)
 | agg (cells : List V)
 | tuple (vs : List V)
 | fn (f : FuncId) (caps : List V)
 | nilp | nilf | nili | nils
 | dead
 deriving Inhabited
structure Ob where
 es : List V
 esz : Nat
 elem : TypeId
 ver : Nat
abbrev S := List (Option Ob)
def nth {α : Type} : List α → Nat → Option α
 | [], _ => none
 | a :: _, 0 => some a
 | _ :: l, n + 1 => nth l n
def ZaC {α : Type} : List α → Nat → α → List α
 | [], _, _ => []
 | _ :: l, 0, v => v :: l
 | a :: l, n + 1, v => a :: ZaC l n v
def V.cells : V → List V
 | .agg cs => cs
 | v => [v]
def V.noOwnCell : V → V
 | .list sz es f => .list sz es f.noOwn
 | v => v
def V.noOwn : V → V
 | .list sz es f => .list sz es f.noOwn
 | .agg cs => .agg (cs.map V.noOwnCell)
 | v => v
def V.boxed : V → V
 | .agg cs => .agg cs
 | v => v.noOwn
def V.flatCell : V → Bool
 | .agg _ => false
 | .tuple _ => false
 | _ => true
def V.solid : V → Bool
 | .agg _ => false
 | .tuple _ => false
 | .dead => false
 | _ => true
def V.flat : V → Bool
 | .agg cs => cs.all V.solid
 | .tuple _ => false
 | .dead => false
 | _ => true
inductive Sh where
 | int (k : IntKind) | bool | str | list (sz : Nat) | any
 deriving DecidableEq
structure Ty where
 known : Bool := false
 elem : Option TypeId := none
 kind : Option IntKind := none
 size : Nat := 1
 bytes : Nat := 8
 agg : Bool := false
 str : Bool := false
 bool : Bool := false
 shs : List Sh := [.any]
 shl : List Sh := [.any]
 zero : V := .dead
 offs : List Nat := []
 fszs : List Nat := []
 ftys : List TypeId := []
inductive Mode where
 | pure | shared | own
 deriving DecidableEq
structure Cfg where
 ty : TypeId → Ty
 mode : FuncId → Mode
 ownRet : FuncId → Bool
 res : FuncId → List TypeId := fun _ => []
 nilArg : FuncId → Bool := fun _ => false
 objAll : Bool := false
 thaw : Bool := false
def Cfg.fz (C : Cfg) (ver n : Nat) : Nat × Nat :=
 match C.thaw, ver with
 | true, _ + 1 => (n, n + 1)
 | _, _ => (0, 0)
section cps
variable {R : Type}
def asInt (k : IntKind) (v : V) (f : Int → Option R) : Option R :=
 match v with
 | .int k' n => if k' = k then f n else none
 | _ => none
def asBool (v : V) (f : Bool → Option R) : Option R :=
 match v with
 | .bool b => f b
 | _ => none
def Zb2 (v : V) (f : ByteArray → Option R) : Option R :=
 match v with
 | .str b => f b
 | _ => none
def ZbD (sz : Nat) (v : V) (f : List V → Fl → Option R) : Option R :=
 match v with
 | .list sz' es g => match Nat.beq sz' sz with
  | true => f es g
  | false => none
 | _ => none
def asAgg (v : V) (f : List V → Option R) : Option R :=
 match v with
 | .agg cs => f cs
 | _ => none
def Zfs (l : List V) (f : V → List V → Option R) : Option R :=
 match l with
 | a :: l => f a l
 | [] => none
def Zpl (l : List V) (f : Option R) : Option R :=
 match l with
 | [] => f
 | _ => none
def ZqN (sh : Sh) (v : V) (K : V → Option R) : Option R :=
 match sh with
 | .int k => asInt k v fun n => K (.int k n)
 | .bool => asBool v fun b => K (.bool b)
 | .str => Zb2 v fun b => K (.str b)
 | .list sz => ZbD sz v fun es f => K (.list sz es f)
 | .any => match v with
  | .agg _ => none
  | v => K v
def ZnO (shs : List Sh) (l : List V) (K : List V → Option R) : Option R :=
 match shs with
 | [] => Zpl l (K [])
 | sh :: shs => Zfs l fun v l => ZqN sh v fun v => ZnO shs l fun l => K (v :: l)
def ZbV (o : Option V) (K : V → Option R) : Option R :=
 match o with
 | some v => K v
 | none => none
def Zal (b : Bool) (x : Option R) : Option R :=
 match b with
 | true => x
 | false => none
end cps
def Znv : Value → Option V
 | .bool b => some (.bool b)
 | .int k n => some (.int k n)
 | .string s => some (.str s)
 | .pointer none => some .nilp
 | .nilFunc => some .nilf
 | .nilIface => some .nili
 | _ => none
def ev (E : List V) : Operand → Option V
 | .tmp t => nth E t
 | .const v => Znv v
 | .func f => some (.fn f [])
 | .global _ => none
def evt (C : Cfg) (t : TypeId) (E : List V) (x : Operand) : Option V :=
 match x with
 | .const (.slice none 0 0) => match (C.ty t).elem with
  | some e => Zal ((C.ty t).known && (C.ty e).known) (some (.list (C.ty e).size [] (.own e)))
  | none => none
 | x => ev E x
def Zcf (s : S) (o ver : Nat) : Option Ob :=
 match nth s o with
 | some (some ob) => if ver = ob.ver then some ob else none
 | _ => none
def ZcD (e : V) (j : Nat) (vs : List V) : Option V :=
 match e with
 | .agg cs => if j + vs.length ≤ cs.length then some (.agg (cs.take j ++ vs ++ cs.drop (j + vs.length))) else none
 | _ => match vs with
  | [v] => if j = 0 then some v else none
  | _ => none
def V.plainCell : V → Bool
 | .arr .. | .ptr .. | .cptr _ | .dead | .fn .. | .tuple _ | .agg _ => false
 | .list _ _ f => match f with
  | .bor => false
  | _ => true
 | _ => true
def V.plain : V → Bool
 | .agg cs => cs.all V.plainCell
 | v => v.plainCell
def Zkt (t : Ty) (s : S) (p v : V) : Option S :=
 match p with
 | .ptr o ver i j =>
  match Zcf s o ver with
  | some ob =>
   if v.cells.length = t.size ∧ v.flat = true then
    match nth ob.es i with
    | some e => match ZcD e j v.cells with
     | some e' => some (ZaC s o (some { ob with es := ZaC ob.es i e' }))
     | none => none
    | none => none
   else none
  | none => none
 | _ => none
def ZmS {R : Type} (t : Ty) (s : S) (p v : V) (K : S → Option R) : Option R :=
 match p with
 | .ptr o ver i j =>
  match Zcf s o ver with
  | some ob =>
   if v.cells.length = t.size ∧ v.flat = true then
    match nth ob.es i with
    | some e => match ZcD e j v.cells with
     | some e' => K (ZaC s o (some { ob with es := ZaC ob.es i e' }))
     | none => none
    | none => none
   else none
  | none => none
 | _ => none
set_option linter.unusedSimpArgs false in
theorem Zi4 {R : Type} {t : Ty} {s : S} {p v : V} {K : S → Option R} {r : R} (h : ZmS t s p v K = some r) : ∃ s', Zkt t s p v = some s' ∧ K s' = some r := by
 unfold ZmS at h
 unfold Zkt
 split at h <;> first | (cases h; done) | skip
 split at h <;> first | (cases h; done) | skip
 rename_i hob
 split at h <;> first | (cases h; done) | skip
 rename_i hc
 split at h <;> first | (cases h; done) | skip
 rename_i he
 split at h <;> first | (cases h; done) | skip
 rename_i hp
 exact ⟨_, by simp only [hob, if_pos hc, he, hp], h⟩
def Zer (t : Ty) (p : V) (f : Nat) : Option V :=
 match nth t.offs f, p with
 | some off, .ptr o ver i j => some (.ptr o ver i (j + off))
 | some off, .cptr cs => some (.cptr (cs.drop off))
 | _, _ => none
def Zlp (o : Option V) (d m : Nat) : Option Nat :=
 match o with
 | none => some d
 | some (.int _ n) => if 0 ≤ n ∧ n ≤ m then some n.toNat else none
 | _ => none
def ZkC (x : V) (lo hi : Option V) : Option V :=
 match x with
 | .str s =>
  match Zlp hi s.size s.size with
  | some h => match Zlp lo 0 h with
   | some l => some (.str (s.extract l h))
   | none => none
  | none => none
 | _ => none
def ZrD (esz : Nat) (s : S) (x : V) (lo hi : Option V) : Option V :=
 match x with
 | .list sz es f =>
  match Zlp hi es.length es.length with
  | some h => match Zlp lo 0 h with
   | some l => Zal (Nat.beq sz esz) (some (.list sz ((es.take h).drop l) f.noOwn))
   | none => none
  | none => none
 | .arr o ver off len =>
  match Zcf s o ver with
  | none => none
  | some ob =>
   match Zlp hi len len with
   | some h => match Zlp lo 0 h with
    | some l => Zal (Nat.beq ob.esz esz) (some (.arr o ver (off + l) (h - l)))
    | none => none
   | none => none
 | _ => none
def ZpL {R : Type} (o : Option V) (d m : Nat) (K : Nat → Option R) : Option R :=
 match o with
 | none => K d
 | some (.int _ n) => if 0 ≤ n ∧ n ≤ m then K n.toNat else none
 | _ => none
def ZjA {R : Type} (x : V) (lo hi : Option V) (K : V → Option R) : Option R :=
 match x with
 | .str s => ZpL hi s.size s.size fun h => ZpL lo 0 h fun l => K (.str (s.extract l h))
 | _ => none
def Zsr {R : Type} (esz : Nat) (s : S) (x : V) (lo hi : Option V) (K : V → Option R) : Option R :=
 match x with
 | .list sz es f => (match Nat.beq sz esz with
  | true => ZpL hi es.length es.length fun h => ZpL lo 0 h fun l => K (.list sz ((es.take h).drop l) f.noOwn)
  | false => none)
 | .arr o ver off len => (match Zcf s o ver with
  | none => none
  | some ob => match Nat.beq ob.esz esz with
   | true => ZpL hi len len fun h => ZpL lo 0 h fun l => K (.arr o ver (off + l) (h - l))
   | false => none)
 | _ => none
theorem Zcv {R : Type} {o : Option V} {d m : Nat} {K : Nat → Option R} {r : R} (h : ZpL o d m K = some r) : ∃ n, Zlp o d m = some n ∧ K n = some r := by
 unfold ZpL at h
 split at h
 ·exact ⟨_, rfl, h⟩
 ·split at h <;> first | (cases h; done) | skip
  rename_i hb
  exact ⟨_, by simp only [Zlp, if_pos hb], h⟩
 ·cases h
theorem ZeG {R : Type} {x : V} {lo hi : Option V} {K : V → Option R} {r : R} (h : ZjA x lo hi K = some r) : ∃ v, ZkC x lo hi = some v ∧ K v = some r := by
 unfold ZjA at h
 split at h <;> first | (cases h; done) | skip
 obtain ⟨n, hn, h2⟩ := Zcv h
 obtain ⟨m, hm, h3⟩ := Zcv h2
 exact ⟨_, by simp only [ZkC, hn, hm], h3⟩
theorem Zia {R : Type} {esz : Nat} {s : S} {x : V} {lo hi : Option V} {K : V → Option R} {r : R} (h : Zsr esz s x lo hi K = some r) : ∃ v, ZrD esz s x lo hi = some v ∧ K v = some r := by
 unfold Zsr at h
 split at h <;> first | (cases h; done) | skip
 ·split at h <;> first | (cases h; done) | skip
  rename_i hb
  obtain ⟨n, hn, h2⟩ := Zcv h
  obtain ⟨m, hm, h3⟩ := Zcv h2
  exact ⟨_, by simp only [ZrD, hn, hm, hb, Zal], h3⟩
 ·split at h <;> first | (cases h; done) | skip
  rename_i ob hob
  split at h <;> first | (cases h; done) | skip
  rename_i hb
  obtain ⟨n, hn, h2⟩ := Zcv h
  obtain ⟨m, hm, h3⟩ := Zcv h2
  exact ⟨_, by simp only [ZrD, hob, hn, hm, hb, Zal], h3⟩
def Zlt (op : BinOp) (k : IntKind) (x y : Int) : Option V :=
 match op with
 | .add => some (.int k (k.wrap (x + y)))
 | .sub => some (.int k (k.wrap (x - y)))
 | .mul => some (.int k (k.wrap (x * y)))
 | .quo => if y = 0 then none else some (.int k (k.wrap (x.tdiv y)))
 | .rem => if y = 0 then none else some (.int k (x.tmod y))
 | .and => some (.int k (k.wrap (BitVec.ofInt k.bits x &&& BitVec.ofInt k.bits y).toNat))
 | .or => some (.int k (k.wrap (BitVec.ofInt k.bits x ||| BitVec.ofInt k.bits y).toNat))
 | .xor => some (.int k (k.wrap (BitVec.ofInt k.bits x ^^^ BitVec.ofInt k.bits y).toNat))
 | .andNot => some (.int k (k.wrap (BitVec.ofInt k.bits x &&& ~~~ (BitVec.ofInt k.bits y)).toNat))
 | .eql => some (.bool (x == y))
 | .neq => some (.bool (x != y))
 | .lss => some (.bool (decide (x < y)))
 | .leq => some (.bool (decide (x ≤ y)))
 | .gtr => some (.bool (decide (x > y)))
 | .geq => some (.bool (decide (x ≥ y)))
 | _ => none
def ZoS (op : BinOp) (x y : ByteArray) : Option V :=
 match op with
 | .add => if x.size + y.size ≤ 4611686018427387904 then some (.str (x ++ y)) else none
 | .eql => some (.bool (x.toList == y.toList))
 | .neq => some (.bool (!(x.toList == y.toList)))
 | .lss => some (.bool (Op.bytesLess x.toList y.toList))
 | .leq => some (.bool (Op.bytesLess x.toList y.toList || x.toList == y.toList))
 | .gtr => some (.bool (!(Op.bytesLess x.toList y.toList || x.toList == y.toList)))
 | .geq => some (.bool (!Op.bytesLess x.toList y.toList))
 | _ => none
def ZnH (t : Ty) (op : BinOp) (x y : V) : Option V :=
 match x, y with
 | .int k a, .int k' b =>
  match op with
  | .shl => if b < 0 then none else some (.int k (k.wrap (a * 2 ^ (min b.toNat k.bits))))
  | .shr => if b < 0 then none else some (.int k (a.fdiv (2 ^ (min b.toNat k.bits))))
  | op => if k = k' then Zlt op k a b else none
 | .str a, .str b => ZoS op a b
 | .bool a, .bool b => Zal (t.known && t.bool) (match op with
  | .eql => some (.bool (a == b))
  | .neq => some (.bool (!(a == b)))
  | _ => none)
 | _, _ => none
def ZsN {R : Type} (t : Ty) (op : BinOp) (x y : V) (K : V → Option R) : Option R :=
 match op with
 | .shl => (match x, y with
  | .int k a, .int _ b => if b < 0 then none else K (.int k (k.wrap (a * 2 ^ (min b.toNat k.bits))))
  | _, _ => none)
 | .shr => (match x, y with
  | .int k a, .int _ b => if b < 0 then none else K (.int k (a.fdiv (2 ^ (min b.toNat k.bits))))
  | _, _ => none)
 | .quo => (match x, y with
  | .int k a, .int k' b => if k = k' then (if b = 0 then none else K (.int k (k.wrap (a.tdiv b)))) else none
  | _, _ => none)
 | .rem => (match x, y with
  | .int k a, .int k' b => if k = k' then (if b = 0 then none else K (.int k (a.tmod b))) else none
  | _, _ => none)
 | .add => (match x, y with
  | .int k a, .int k' b => if k = k' then K (.int k (k.wrap (a + b))) else none
  | .str a, .str b => if a.size + b.size ≤ 4611686018427387904 then K (.str (a ++ b)) else none
  | _, _ => none)
 | op => match ZnH t op x y with
  | some v => K v
  | none => none
theorem ZhS {R : Type} {t : Ty} {op : BinOp} {x y : V} {K : V → Option R} {r : R} (h : ZsN t op x y K = some r) : ∃ v, ZnH t op x y = some v ∧ K v = some r := by
 unfold ZsN at h
 split at h
 ·split at h <;> first | (cases h; done) | skip
  split at h <;> first | (cases h; done) | skip
  rename_i hb
  exact ⟨_, by simp only [ZnH, if_neg hb], h⟩
 ·split at h <;> first | (cases h; done) | skip
  split at h <;> first | (cases h; done) | skip
  rename_i hb
  exact ⟨_, by simp only [ZnH, if_neg hb], h⟩
 ·split at h <;> first | (cases h; done) | skip
  split at h <;> first | (cases h; done) | skip
  rename_i hk
  split at h <;> first | (cases h; done) | skip
  rename_i hb
  exact ⟨_, by simp only [ZnH, Zlt, if_pos hk, if_neg hb], h⟩
 ·split at h <;> first | (cases h; done) | skip
  split at h <;> first | (cases h; done) | skip
  rename_i hk
  split at h <;> first | (cases h; done) | skip
  rename_i hb
  exact ⟨_, by simp only [ZnH, Zlt, if_pos hk, if_neg hb], h⟩
 ·split at h <;> first | (cases h; done) | skip
  ·split at h <;> first | (cases h; done) | skip
   rename_i hk
   exact ⟨_, by simp only [ZnH, Zlt, if_pos hk], h⟩
  ·split at h <;> first | (cases h; done) | skip
   rename_i hk
   exact ⟨_, by simp only [ZnH, ZoS, if_pos hk], h⟩
 ·split at h <;> first | (cases h; done) | skip
  rename_i v hv
  exact ⟨v, hv, h⟩
def unV (op : UnOp) (x : V) : Option V :=
 match op, x with
 | .not, .bool b => some (.bool !b)
 | .neg, .int k n => some (.int k (k.wrap (0 - n)))
 | _, _ => none
def Zqe (dst : Ty) (x : V) : Option V :=
 match dst.kind, x with
 | some k, .int _ n => some (.int k (k.wrap n))
 | _, _ => none
def Zln (offs fszs : List Nat) : List V → List (Nat × V) → Option (List V)
 | cs, [] => some cs
 | cs, (i, v) :: rest =>
  match nth offs i, nth fszs i with
  | some off, some n => if v.cells.length = n ∧ off + n ≤ cs.length then Zln offs fszs (cs.take off ++ v.cells ++ cs.drop (off + n)) rest else none
  | _, _ => none
def ZdP : List V → List (Nat × V) → Option (List V)
 | es, [] => some es
 | es, (i, v) :: rest => if i < es.length then ZdP (ZaC es i v) rest else none
def ZcS (s : ByteArray) : List V := s.data.toList.map fun b => .int .u8 b.toNat
def Ztv (t : Ty) : V → Option Nat
 | .str x => Zal t.str (some x.size)
 | .list _ es _ => Zal t.elem.isSome (some es.length)
 | .arr _ _ _ len => Zal t.elem.isSome (some len)
 | _ => none
def ZaV {α β : Type} (f : α → Option β) : List α → Option (List β)
 | [] => some []
 | a :: l => match f a with
  | none => none
  | some b => match ZaV f l with
   | none => none
   | some l' => some (b :: l')
def borCell : V → V
 | .list sz es _ => .list sz es .bor
 | v => v
def V.lent : V → V
 | .list sz es _ => .list sz es .bor
 | .agg cs => .agg (cs.map borCell)
 | v => v
def freeze (view : Bool) (s : S) : Nat → V → Option V
 | 0, _ => none
 | n + 1, v =>
  match v with
  | .list sz es g => (match view with
   | true => some (.list sz es g.noOwn)
   | false => (match g with
    | .bor => none
    | _ => some (.list sz es .sh)))
  | .arr o ver off len =>
   match Zcf s o ver with
   | some ob => match ZaV (freeze view s n) ((ob.es.drop off).take len) with
    | some es' => Zal (decide (off + len ≤ ob.es.length)) (match view with
     | true => some (.list ob.esz (es'.map V.lent) .bor)
     | false => Zal (es'.all V.plain) (some (.list ob.esz es' .sh)))
    | none => none
   | none => none
  | .agg cs => match ZaV (freeze view s n) cs with
   | some cs' => some (.agg cs')
   | none => none
  | .tuple cs => match ZaV (freeze view s n) cs with
   | some cs' => some (.tuple cs')
   | none => none
  | .fn g caps => (match caps with
   | [] => some (.fn g [])
   | _ :: _ => none)
  | .ptr .. => none
  | .cptr _ => none
  | .dead => none
  | v => some v
def ZqM {α β R : Type} (f : α → (β → Option R) → Option R) : List α → (List β → Option R) → Option R
 | [], K => K []
 | a :: l, K => f a fun b => ZqM f l fun l' => K (b :: l')
def Zbo {R : Type} (view : Bool) (s : S) : Nat → V → (V → Option R) → Option R
 | 0, _, _ => none
 | n + 1, v, K =>
  match v with
  | .list sz es g => (match view with
   | true => K (.list sz es g.noOwn)
   | false => (match g with
    | .bor => none
    | _ => K (.list sz es .sh)))
  | .arr o ver off len =>
   match Zcf s o ver with
   | some ob => match ZaV (freeze view s n) ((ob.es.drop off).take len) with
    | some es' => Zal (decide (off + len ≤ ob.es.length)) (match view with
     | true => K (.list ob.esz (es'.map V.lent) .bor)
     | false => Zal (es'.all V.plain) (K (.list ob.esz es' .sh)))
    | none => none
   | none => none
  | .agg cs => ZqM (Zbo view s n) cs fun cs' => K (.agg cs')
  | .tuple cs => ZqM (Zbo view s n) cs fun cs' => K (.tuple cs')
  | .fn g caps => (match caps with
   | [] => K (.fn g [])
   | _ :: _ => none)
  | .ptr .. => none
  | .cptr _ => none
  | .dead => none
  | v => K v
theorem Zcg {α β R : Type} {f : α → (β → Option R) → Option R} {g : α → Option β} (hf : ∀ a K r, f a K = some r → ∃ b, g a = some b ∧ K b = some r) :
  ∀ {l : List α} {K : List β → Option R} {r : R}, ZqM f l K = some r → ∃ l', ZaV g l = some l' ∧ K l' = some r
 | [], K, r, h => ⟨[], rfl, h⟩
 | a :: l, K, r, h => by
  obtain ⟨b, hb, h2⟩ := hf a _ r h
  obtain ⟨l', hl, h3⟩ := Zcg hf h2
  exact ⟨b :: l', by simp only [ZaV, hb, hl], h3⟩
theorem ZbR {R : Type} {view : Bool} {s : S} : ∀ {n : Nat} {v : V} {K : V → Option R} {r : R}, Zbo view s n v K = some r → ∃ v', freeze view s n v = some v' ∧ K v' = some r := by
 intro n
 induction n with
 | zero => intro v K r h; cases h
 | succ n ih =>
  intro v K r h
  cases v with
  | list sz es g =>
   simp only [Zbo] at h
   cases view with
   | true => exact ⟨_, rfl, h⟩
   | false => cases g <;> first | (cases h; done) | exact ⟨_, rfl, h⟩
  | arr o ver off len =>
   simp only [Zbo] at h
   split at h <;> first | (cases h; done) | skip
   rename_i ob hob
   split at h <;> first | (cases h; done) | skip
   rename_i es' hes
   unfold Zal at h
   split at h <;> first | (cases h; done) | skip
   rename_i hg
   cases view with
   | true => exact ⟨_, by simp only [freeze, hob, hes, Zal, hg], h⟩
   | false =>
    simp only at h
    split at h <;> first | (cases h; done) | skip
    rename_i hp
    exact ⟨_, by simp only [freeze, hob, hes, Zal, hg, hp], h⟩
  | agg cs =>
   simp only [Zbo] at h
   obtain ⟨cs', h1, h2⟩ := Zcg (f := Zbo view s n) (g := freeze view s n) (fun a K r h => ih h) h
   exact ⟨_, by simp only [freeze, h1], h2⟩
  | tuple cs =>
   simp only [Zbo] at h
   obtain ⟨cs', h1, h2⟩ := Zcg (f := Zbo view s n) (g := freeze view s n) (fun a K r h => ih h) h
   exact ⟨_, by simp only [freeze, h1], h2⟩
  | fn f caps =>
   cases caps with
   | nil => exact ⟨_, rfl, h⟩
   | cons => cases h
  | ptr => cases h
  | cptr => cases h
  | dead => cases h
  | bool b => exact ⟨_, rfl, h⟩
  | int k m => exact ⟨_, rfl, h⟩
  | str b => exact ⟨_, rfl, h⟩
  | nilp => exact ⟨_, rfl, h⟩
  | nilf => exact ⟨_, rfl, h⟩
  | nili => exact ⟨_, rfl, h⟩
  | nils => exact ⟨_, rfl, h⟩
def trimCell (n : Nat) : V → V
 | .arr o ver off len => if o < n then .arr o ver off len else .dead
 | .ptr o ver i j => if o < n then .ptr o ver i j else .dead
 | .fn f caps => (match caps with
  | [] => .fn f []
  | _ :: _ => .dead)
 | .tuple _ => .dead
 | .agg _ => .dead
 | .cptr _ => .dead
 | v => v
def trimV (n : Nat) : V → V
 | .agg cs => .agg (cs.map (trimCell n))
 | v => trimCell n v
def Zfr (n : Nat) (s : S) : S := (s.take n).map fun
 | some ob => some { ob with es := ob.es.map (trimV n) }
 | none => none
def Za7 : List Nat → List V → List V
 | [], E => E
 | t :: l, E => Za7 l (ZaC E t .dead)
def ZcC (E : List V) (dst : Option Tmp) (v : V) : List V :=
 match dst with
 | some d => ZaC E d v
 | none => E
def Zfi {R : Type} (ops : List Oper) (E : List V) (o : Oper) (K : Bool → List V → Option R) : Option R :=
 match o.guard with
 | none => K true E
 | some (j, want) =>
  match (nth ops j).bind (·.dst) with
  | none => K false E
  | some d => match nth E d with
   | some (.bool b) => (match b with
    | true => K want (ZaC E d (.bool true))
    | false => K (!want) (ZaC E d (.bool false)))
   | some .dead => none
   | _ => K false E
def Zji (ops : List Oper) (d : Option Tmp) : Bool :=
 match d with
 | none => false
 | some d => ops.any fun o => match o.op with
  | .call c => match c.callee with
   | .builtin .append => match c.args.toList with
    | .tmp t :: _ => Nat.beq t d
    | _ => false
   | _ => false
  | _ => false
def ZpU (ops : List Oper) (d : Option Tmp) : Bool :=
 match d with
 | none => false
 | some t => (ops.all fun q => match q.op with
  | .move _ => true
  | .assign _ => true
  | _ => false) && ops.any fun q => match q.op with
  | .assign (.tmp u) => Nat.beq u t
  | _ => false
def Znn (ops : List Oper) (d : Option Tmp) : Bool := Zji ops d || ZpU ops d
def Zcd (E : List V) : Operand → List V
 | .tmp t => match nth E t with
  | some v => ZaC E t v.noOwn
  | none => E
 | _ => E
def Zg5 (s : S) : V → Option (V × S)
 | .ptr o ver i j =>
  match Zcf s o ver with
  | some ob =>
   match nth ob.es i with
   | some e => match nth e.cells j with
    | some c => match ZcD e j [c.noOwn] with
     | some e' => some (c, ZaC s o (some { ob with es := ZaC ob.es i e' }))
     | none => none
    | none => none
   | none => none
  | none => none
 | _ => none
def ZbX (E : List V) : List (Nat × Operand) → Option (List (Nat × V))
 | [] => some []
 | (i, x) :: l => match ev E x with
  | none => none
  | some v => match ZbX E l with
   | some l' => some ((i, v.noOwn) :: l')
   | none => none
inductive X where
 | norm | ret | exit (id : Nat)
abbrev Zar := (R : Type) → FuncId → List V → S → (V → S → Option R) → Option R
abbrev ZaI := (R : Type) → List Nat → List V → S → (X → List V → S → Option R) → Option R
section run
variable (C : Cfg) {R : Type}
def Zhc (es : List V) (off len : Nat) (z : V) : List V := es.take off ++ List.replicate len z ++ es.drop (off + len)
def Zjb (s : S) (p : V) (K : List V → Option R) : Option R :=
 match p with
 | .ptr o ver i j =>
  match Zcf s o ver with
  | some ob => match nth ob.es i with
   | some e => K (e.cells.drop j)
   | none => none
  | none => none
 | .cptr cs => K cs
 | _ => none
def Zn6 (t : Ty) (s : S) (p : V) (K : V → Option R) : Option R :=
 Zjb s p fun cs =>
  match t.agg with
  | true => ZnO t.shs (cs.take t.size) fun cs => K (.agg (cs.map V.noOwnCell))
  | false => Zfs cs fun c _ => match t.shs with
   | [sh] => ZqN sh c fun c => K c.noOwnCell
   | _ => none
def Zn2 (es : List V) (n : Int) (K : V → Option R) : Option R :=
 if 0 ≤ n then ZbV (nth es n.toNat) K else none
def Zs4 (t : Ty) (e : V) (K : V → Option R) : Option R :=
 match t.agg with
 | true => asAgg e fun cs => ZnO t.shl cs fun cs => K (.agg cs)
 | false => match t.shl with
  | [sh] => ZqN sh e K
  | _ => none
def Zem (t : Ty) (s : S) (x i : V) (K : V → Option R) : Option R :=
 match t.elem with
 | none => none
 | some te => Zal (C.ty te).known <|
  match x, i with
  | .list sz es _, .int _ n => Zal (Nat.beq sz (C.ty te).size) (Zn2 es n fun e => Zs4 (C.ty te) e fun e => K (.cptr e.cells))
  | .arr o ver off len, .int _ n =>
   match Zcf s o ver with
   | some ob => Zal (Nat.beq ob.elem te) (if 0 ≤ n ∧ n < len then K (.ptr o ver (off + n.toNat) 0) else none)
   | none => none
  | _, _ => none
def ZbC (s : ByteArray) (n : Int) (K : Int → Option R) : Option R :=
 if 0 ≤ n then (match s.data[n.toNat]? with
  | some b => K b.toNat
  | none => none) else none
def ZmW (x i : V) (K : V → Option R) : Option R :=
 match x, i with
 | .str s, .int _ n => ZbC s n fun b => K (.int .u8 b)
 | _, _ => none
def Zrx (f : Fl) (ys : List V) : Bool :=
 match f with
 | .bor => ys.all V.plain
 | _ => true
def Zn7 (sz : Nat) (s : S) (y : V) (K : List V → Option R) : Option R :=
 match y with
 | .str b => Zal (Nat.beq sz 1) (K (ZcS b))
 | .list sz' ys f => Zal (Nat.beq sz' sz) (Zal (Zrx f ys) (K ys))
 | .arr o ver off len =>
  match Zcf s o ver with
  | some ob => Zal (Nat.beq ob.esz sz && decide (off + len ≤ ob.es.length)) (Zal (((ob.es.drop off).take len).all V.plain) (K ((ob.es.drop off).take len)))
  | none => none
 | _ => none
def Zfu (sz : Nat) (s : S) (y : V) (K : List V → Option R) : Option R :=
 match y with
 | .list sz' ys _ => Zal (Nat.beq sz' sz) (K ys)
 | .arr o ver off len =>
  match Zcf s o ver with
  | some ob => Zal (Nat.beq ob.esz sz && decide (off + len ≤ ob.es.length)) (K ((ob.es.drop off).take len))
  | none => none
 | _ => none
def Zjt : List V → Option (List Int)
 | [] => some []
 | .int .u8 n :: l => match Zjt l with
  | some xs => some (n :: xs)
  | none => none
 | _ => none
def ZqL (k : Option IntKind) : Bool :=
 match k with
 | some .u8 => true
 | _ => false
def Zm8 (e : TypeId) (t : Ty) (s : S) (x y : V) (K : V → S → Option R) : Option R :=
 match x with
 | .list _ es f =>
  match f with
  | .own e' => Zal (Nat.beq e e') (Zn7 t.size s y fun ys =>
   if (es.length + ys.length) * t.bytes ≤ 140737488355328 then K (.list t.size (es ++ ys.map V.noOwn) (.own e)) s else none)
  | _ => none
 | .arr o ver off len =>
  match Zcf s o ver with
  | some ob => Zal (Nat.beq ob.elem e) (Zfu t.size s y fun ys =>
   if off = 0 ∧ len = ob.es.length ∧ (len + ys.length) * t.bytes ≤ 140737488355328 ∧ 0 < ys.length then
    K (.arr o (ver + 1) 0 (len + ys.length)) (ZaC s o (some { ob with es := ob.es ++ ys.map V.noOwn, ver := ver + 1 }))
   else none)
  | none => none
 | _ => none
def newOb (s : S) (es : List V) (t : TypeId) : S := s ++ [some { es := es, esz := (C.ty t).size, elem := t, ver := 0 }]
def ZqH (src dst : TypeId) (s : S) (a : V) (K : V → Option R) : Option R :=
 match (C.ty src).elem with
 | some e => Zal ((C.ty e).known && (C.ty dst).str && ZqL (C.ty e).kind) <| Zfu 1 s a fun ys => match Zjt ys with
  | some xs => K (.str (strOfNums xs))
  | none => none
 | none => match (C.ty dst).elem with
  | some e => Zal ((C.ty e).known && (C.ty src).str && ZqL (C.ty e).kind) <| Zb2 a fun b => K (.list 1 (ZcS b) .sh)
  | none => ZbV (Zqe (C.ty dst) a) K
def ZfF (ops : List Oper) (o : Oper) (E : List V) (s : S) (K : V → List V → S → Option R) : Option R :=
 match o.op with
 | .move x => ZbV (evt C o.type E x) fun v =>
  match Znn ops o.dst with
  | true => K v (Zcd E x) s
  | false => K v.noOwn E s
 | .assign x => ZbV (evt C o.type E x) fun v => K v (Zcd E x) s
 | .pick c a b => ZbV (ev E c) fun c => asBool c fun t =>
  match t with
  | true => ZbV (ev E a) fun v => K v.noOwn E s
  | false => ZbV (ev E b) fun v => K v.noOwn E s
 | .load t a => Zal (C.ty t).known <| ZbV (ev E a) fun p =>
  match Znn ops o.dst with
  | true => Zal (!(C.ty t).agg && Nat.beq (C.ty t).size 1) <| match Zg5 s p with
    | some (v, s') => K v E s'
    | none => none
  | false => Zn6 (C.ty t) s p fun v => K v E s
 | .store t a x => Zal (C.ty t).known <| ZbV (ev E a) fun p => ZbV (evt C t E x) fun v =>
  ZmS (C.ty t) s p v fun s' => K (.tuple []) (Zcd E x) s'
 | .fieldAddr t x f => Zal (C.ty t).known <| ZbV (ev E x) fun p => ZbV (Zer (C.ty t) p f) fun v => K v E s
 | .indexAddr t x i => Zal (C.ty t).known <| ZbV (ev E x) fun v => ZbV (ev E i) fun n => Zem C (C.ty t) s v n fun v => K v E s
 | .index t x i => Zal ((C.ty t).known && (C.ty t).str) (ZbV (ev E x) fun v => ZbV (ev E i) fun n => ZmW v n fun v => K v E s)
 | .slice t x lo hi mx =>
  match mx with
  | some _ => none
  | none => Zal (C.ty t).known <| ZbV (ev E x) fun v =>
   match ZaV (ev E) lo.toList, ZaV (ev E) hi.toList with
   | some l, some h => (match (C.ty t).elem with
    | some e => Zal (C.ty e).known <| Zsr (C.ty e).size s v (nth l 0) (nth h 0) fun v => K v E s
    | none => Zal (C.ty t).str <| ZjA v (nth l 0) (nth h 0) fun v => K v E s)
   | _, _ => none
 | .binOp op t x y _ => ZbV (ev E x) fun a => ZbV (ev E y) fun b => ZsN (C.ty t) op a b fun v => K v E s
 | .unOp op _ x => ZbV (ev E x) fun a => ZbV (unV op a) fun v => K v E s
 | .convert src dst x => Zal ((C.ty src).known && (C.ty dst).known) <| ZbV (ev E x) fun a => ZqH C src dst s a fun v => K v E s
 | .nilCheck x => ZbV (ev E x) fun v =>
  match v with
  | .ptr o ver i j => K (.ptr o ver i j) E s
  | .cptr cs => K (.cptr cs) E s
  | .fn f cs => K (.fn f cs) E s
  | _ => none
 | .field t x i => Zal ((C.ty t).known && (C.ty t).agg) <| ZbV (ev E x) fun v => asAgg v fun cs =>
  match nth (C.ty t).ftys i, nth (C.ty t).offs i with
  | some ft, some off => Zal ((C.ty ft).known && !(C.ty ft).agg) <| ZbV (nth cs off) fun c => K c.noOwn E s
  | _, _ => none
 | .extract x i => ZbV (ev E x) fun v =>
  match v with
  | .tuple vs => ZbV (nth vs i) fun v => K v.noOwn E s
  | _ => none
 | .makeFunc fn first caps =>
  match fn, first.toList with
  | .func f, [] => match ZaV (ev E) caps.toList with
   | some vs => K (.fn f (vs.map V.noOwn)) E s
   | none => none
  | _, _ => none
 | .box t x => Zal (C.ty t).known <| ZbV (ev E x) fun v => Zal v.flat <|
  if v.cells.length = (C.ty t).size then Zal (!C.thaw) (K (.ptr s.length 0 0 0) E (newOb C s [v.boxed] t)) else none
 | .alloc t => Zal (C.ty t).known <|
  if (C.ty t).zero.cells.length = (C.ty t).size then Zal (!C.thaw) (K (.ptr s.length 0 0 0) E (newOb C s [(C.ty t).zero] t)) else none
 | .build t parts => Zal (C.ty t).known <|
  match ZbX E parts.toList with
  | some ps => Zal ((C.ty t).agg && ps.all fun p => p.2.flat) <| match Zln (C.ty t).offs (C.ty t).fszs (C.ty t).zero.cells ps with
   | some cs => K (.agg cs) E s
   | none => none
  | none => none
 | .buildSlice t len parts => Zal (C.ty t).known <|
  match (C.ty t).elem, ZbX E parts.toList with
  | some e, some ps => Zal (C.ty e).known <| match ZdP (List.replicate len (C.ty e).zero) ps with
   | some es =>
    if len * (C.ty e).size ≤ 16777216 ∧ ps.all (fun p => Nat.beq p.2.cells.length (C.ty e).size && p.2.flat) = true then
     match es.all V.plain with
     | true => K (.list (C.ty e).size es (.own e)) E s
     | false => Zal (!C.thaw) <| K (.arr s.length 0 0 len) E (newOb C s es e)
    else none
   | none => none
  | _, _ => none
 | .makeSlice t len cap => Zal (C.ty t).known <|
  match (C.ty t).elem with
  | some e => Zal (C.ty e).known <| ZbV (ev E len) fun n => ZbV (ev E cap) fun m =>
   match n, m with
   | .int _ n, .int _ m =>
    if 0 ≤ n ∧ n = m ∧ n * (C.ty e).bytes ≤ 140737488355328 then
     Zal (!C.thaw) (K (.arr s.length 0 0 n.toNat) E (newOb C s (List.replicate n.toNat (C.ty e).zero) e))
    else none
   | _, _ => none
  | none => none
 | _ => none
def Zhg (b : Builtin) (argTypes : List TypeId) (args : List V) (s : S) (K : V → S → Option R) : Option R :=
 match b, args with
 | .len, [x] => match argTypes with
  | t :: _ => Zal (C.ty t).known <| match Ztv (C.ty t) x with
   | some n => K (.int .i64 n) s
   | none => none
  | [] => none
 | .append, [x, y] => match argTypes with
  | [t, u] => Zal ((C.ty t).known && (C.ty u).known && ((C.ty u).str || (C.ty u).elem.isSome)) <| match (C.ty t).elem with
   | some e => Zal (!C.thaw && (C.ty e).known) <| Zm8 e (C.ty e) s x y K
   | none => none
  | _ => none
 | .clear, [.arr o ver off len] => match argTypes with
  | [t] => Zal (C.ty t).known <| match (C.ty t).elem with
   | some e => Zal ((C.ty e).known && Nat.beq (C.ty e).size 1 && (C.ty e).zero.flatCell) <| match Zcf s o ver with
    | some ob => Zal (Nat.beq ob.elem e && decide (off + len ≤ ob.es.length)) <| K (.tuple []) (ZaC s o (some { ob with es := Zhc ob.es off len (C.ty e).zero }))
    | none => none
   | none => none
  | _ => none
 | .min, [.int k a, .int k' b] => if k = k' then K (.int k (if b < a then b else a)) s else none
 | .max, [.int k a, .int k' b] => if k = k' then K (.int k (if a < b then b else a)) s else none
 | _, _ => none
def Zr6 (t : TypeId) (v : V) (K : V → Option R) : Option R :=
 match (C.ty t).elem with
 | some e => ZbD (C.ty e).size v fun es f => K (.list (C.ty e).size es f)
 | none => match (C.ty t).agg with
  | true => asAgg v fun cs => ZnO (C.ty t).shl cs fun cs => K (.agg cs)
  | false => match (C.ty t).shl with
   | [sh] => ZqN sh v K
   | _ => none
def Znt : List TypeId → List V → (List V → Option R) → Option R
 | [], l, K => Zpl l (K [])
 | t :: ts, l, K => Zfs l fun v l => Zr6 C t v fun v => Znt ts l fun l => K (v :: l)
def Zjh (ts : List TypeId) (v : V) (K : V → Option R) : Option R :=
 match ts with
 | [t] => Zr6 C t v K
 | ts => match v with
  | .tuple l => Znt C ts l fun l => K (.tuple l)
  | _ => none
def ZoP (Φ : Zar) (g : FuncId) (args : List V) (s : S) (K : V → S → Option R) : Option R :=
 match C.mode g with
 | .pure => ZqM (Zbo true s 12) args fun as => Φ R g as [] fun v _ => Zjh C (C.res g) v fun v => K v s
 | .shared => Φ R g (args.map V.noOwn) s K
 | .own => ZqM (Zbo true s 12) args fun as => Φ R g as [] fun v _ => Zjh C (C.res g) v fun v => K v s
def ZeI (E : List V) : List TypeId → List Operand → Option (List V)
 | _, [] => some []
 | ts, x :: l => match (match ts with | t :: _ => evt C t E x | [] => ev E x) with
  | none => none
  | some v => match ZeI E ts.tail l with
   | some l' => some (v :: l')
   | none => none
def Zju : Operand → Bool
 | .const (.slice none 0 0) => true
 | _ => false
def ZcV : List Operand → List V → List V
 | x :: xs, v :: vs => (match Zju x with
  | true => .nils
  | false => v) :: ZcV xs vs
 | _, vs => vs
def argsN (b : Bool) (xs : List Operand) (vs : List V) : List V :=
 match b with
 | true => ZcV xs vs
 | false => vs
def ZcL (b : Builtin) (E : List V) (args : List Operand) : List V :=
 match b, args with
 | .append, x :: _ => Zcd E x
 | _, _ => E
def opV (Φ : Zar) (ops : List Oper) (o : Oper) (E : List V) (s : S) (K : V → List V → S → Option R) : Option R :=
 match o.op with
 | .call c =>
  match ZeI C E c.argTypes.toList c.args.toList with
  | none => none
  | some args =>
   match c.callee with
   | .builtin b => Zhg C b c.argTypes.toList args s fun v s' => K v (ZcL b E c.args.toList) s'
   | .value x => ZbV (ev E x) fun f =>
    match f with
    | .fn g caps => ZoP C Φ g (argsN (C.nilArg g) c.args.toList args ++ caps) s fun v s' => K v E s'
    | _ => none
   | .invoke .. => none
 | _ => ZfF C ops o E s K
def ZpN (s : S) (o ver len : Nat) (K : S → Option R) : Option R :=
 match Zcf s o ver with
 | some ob => if len ≤ ob.es.length then K (ZaC s o (some { ob with es := ob.es.take len })) else none
 | none => none
def opT (Φ : Zar) (ops : List Oper) (o : Oper) (E : List V) (s : S) (K : V → List V → S → Option R) : Option R :=
 match o.op with
 | .buildSlice t len parts => Zal (C.ty t).known <|
  match (C.ty t).elem, ZbX E parts.toList with
  | some e, some ps => Zal (C.ty e).known <| match ZdP (List.replicate len (C.ty e).zero) ps with
   | some es =>
    if len * (C.ty e).size ≤ 16777216 ∧ ps.all (fun p => Nat.beq p.2.cells.length (C.ty e).size && p.2.flat) = true then
     K (.arr s.length 0 0 len) E (newOb C s es e)
    else none
   | none => none
  | _, _ => none
 | .convert src dst x => match Nat.beq src dst with
  | false => opV C Φ ops o E s K
  | true => Zal (C.ty src).known <| match (C.ty src).elem with
   | some e => Zal ((C.ty e).known && ZqL (C.ty e).kind) <| ZbV (ev E x) fun a => match a with
    | .arr oo 0 0 len => (match Zcf s oo 0 with
     | some ob => Zal (decide (0 < len) && decide (len ≤ ob.es.length)) <| K (.arr oo 1 0 len) E (ZaC s oo (some { ob with ver := 1 }))
     | none => none)
    | _ => none
   | none => none
 | _ => opV C Φ ops o E s K
def opX (Φ : Zar) (ops : List Oper) (o : Oper) (E : List V) (s : S) (K : V → List V → S → Option R) : Option R :=
 match C.thaw with
 | true => opT C Φ ops o E s K
 | false => match C.objAll with
  | false => opV C Φ ops o E s K
  | true => match o.op with
   | .assign (.const (.slice none 0 0)) => (match (C.ty o.type).elem with
    | some e => Zal ((C.ty o.type).known && (C.ty e).known) <| K (.arr s.length 0 0 0) E (newOb C s [] e)
    | none => none)
   | .buildSlice t 0 ⟨[]⟩ => (match (C.ty t).elem with
    | some e => Zal ((C.ty t).known && (C.ty e).known) <| K (.arr s.length 0 0 0) E (newOb C s [] e)
    | none => none)
   | .call c => (match c.callee, ZeI C E c.argTypes.toList c.args.toList with
    | .builtin .append, some (.arr oo ver 0 len :: _) => ZpN s oo ver len fun s2 => opV C Φ ops o E s2 K
    | _, _ => opV C Φ ops o E s K)
   | _ => opV C Φ ops o E s K
def Zp8 (Φ : Zar) (ops : List Oper) : List Oper → List V → S → (List V → S → Option R) → Option R
 | [], E, s, K => K E s
 | o :: l, E, s, K => Zfi ops E o fun b E =>
  match b with
  | true => opX C Φ ops o E s fun v E' s' => Zp8 Φ ops l (ZcC E' o.dst v) s' K
  | false => Zp8 Φ ops l (ZcC E o.dst (.tuple [])) s K
def Za3 (ops : List Oper) (o : Oper) : Bool :=
 match o.op with
 | .move _ | .load .. => !Znn ops o.dst
 | .pick .. | .fieldAddr .. | .indexAddr .. | .index .. | .slice .. | .binOp .. | .unOp .. | .convert .. | .nilCheck _ | .extract .. | .field .. | .build .. => true
 | .call c => match c.callee with
  | .builtin .len | .builtin .min | .builtin .max => true
  | .value (.func g) => match C.mode g with
   | .pure => true
   | _ => false
  | _ => false
 | _ => false
def Zbw (ops : List Oper) (o : Oper) : Bool :=
 match o.op with
 | .assign _ => true
 | _ => Za3 C ops o
def Zdv (ts : List Nat) : Nat → List V → List V
 | _, [] => []
 | k, v :: l => (match ts.any (Nat.beq k) with | true => v.noOwn | false => .dead) :: Zdv ts (k + 1) l
def ZaZ (ops : List Oper) (o : Oper) : List Nat := o.looksAt ops.toArray
def Zhk (ops : List Oper) : Bool :=
 (List.range ops.length).all fun i => match nth ops i with
  | none => false
  | some o => o.after.all (fun e => !Region.binds .any e || decide (e.on < i)) && Zbw C ops o &&
   (List.range ops.length).all fun j => match nth ops j with
    | none => true
    | some p => match p.dst with
     | none => true
     | some d => (!((ZaZ ops o).any (Nat.beq d)) || o.after.any (fun e => Region.binds .any e && e.on == j)) &&
      (i == j || !(match o.dst with | some d' => Nat.beq d d' | none => false))
def ZjY (Φ : Zar) (ops : List Oper) : List Oper → List V → S → (List V → S → Option R) → Option R
 | [], E, s, K => K E s
 | o :: l, E, s, K => Zfi ops E o fun b E =>
  match b with
  | true => opV C Φ ops o (Zdv (ZaZ ops o) 0 E) s fun v _ _ => ZjY Φ ops l (ZcC E o.dst v.noOwn) s K
  | false => ZjY Φ ops l (ZcC E o.dst (.tuple [])) s K
def ZeE (ops : List Oper) (i : Nat) : List Nat :=
 match nth ops i with
 | none => []
 | some o => (o.after.toList.filter (Region.binds .any)).map (·.on)
def Zf2 (ops : List Oper) : Nat → List Nat → List Nat
 | 0, l => l
 | i + 1, l => match l.any (Nat.beq i) with
  | true => Zf2 ops i (l ++ ZeE ops i)
  | false => Zf2 ops i l
def ZcJ (o : Oper) : Bool :=
 match o.op with
 | .alloc _ => true
 | .makeSlice .. => true
 | _ => false
def ZbQ (o : Oper) : Bool :=
 match o.op with
 | .call c => match c.callee with
  | .builtin .append => true
  | .value (.func g) => match C.mode g with
   | .own => true
   | _ => false
  | _ => false
 | .buildSlice .. => true
 | _ => false
def ZlI (ops : List Oper) (o : Oper) (t : Nat) : Bool :=
 (List.range ops.length).any fun j => match nth ops j with
  | some p => (match p.dst with | some d => Nat.beq d t | none => false) && o.after.any (fun e => Region.binds .any e && e.on == j)
  | none => false
def ZhX (ops : List Oper) (i : Nat) (o : Oper) : List Nat :=
 (ZaZ ops o).filter fun t => ZlI ops o t &&
  (List.range ops.length).all fun j => Nat.beq j i || match nth ops j with
   | some p => !(ZaZ ops p).any (Nat.beq t)
   | none => true
def ZiB (ks ts : List Nat) : Nat → List V → List V
 | _, [] => []
 | k, v :: l => (match ks.any (Nat.beq k) with
  | true => v
  | false => match ts.any (Nat.beq k) with
   | true => v.noOwn
   | false => .dead) :: ZiB ks ts (k + 1) l
def Zgs (n : Nat) : V → V
 | .ptr _ ver i j => .ptr n ver i j
 | .arr _ ver off len => .arr n ver off len
 | v => v
abbrev ZmQ := List (Nat × Ob × V)
def ZhP : ZmQ → List V → S → List V
 | [], E, _ => E
 | (d, ob, v) :: l, E, s => ZhP l (ZaC E d (Zgs s.length v)) (s ++ [some ob])
def ZdT : ZmQ → S → S
 | [], s => s
 | (_, ob, _) :: l, s => ZdT l (s ++ [some ob])
def Zh6 : List (Nat × Nat) → List V → List V
 | [], E => E
 | (d, x) :: l, E => Zh6 l (ZaC E d (match nth E x with | some v => v.noOwn | none => .dead))
def ZjR (ops : List Oper) (p : ZmQ) (al : List (Nat × Nat)) (o : Oper) : Option Nat :=
 match o.op with
 | .assign (.tmp x) => match (p.any (fun q => Nat.beq q.1 x) || al.any (fun q => Nat.beq q.1 x)) && ZlI ops o x with
  | true => some x
  | false => none
 | _ => none
abbrev Zmt := List (Nat × Nat × V)
def ZgN (ob : Ob) (d : Nat) : Zmt → Ob
 | [] => ob
 | (d', _, v) :: l => match Nat.beq d' d with
  | true => { ob with es := [v] }
  | false => ZgN ob d l
def ZnR (pu : Zmt) : ZmQ → ZmQ
 | [] => []
 | (d, ob, v) :: l => (d, ZgN ob d pu, v) :: ZnR pu l
def Zeu (o : Oper) : Bool :=
 match o.op, o.dst with
 | .store _ (.tmp _) (.tmp _), none => true
 | _, _ => false
def ZlQ (q : Nat × Ob × V) (d sz : Nat) : Bool :=
 Nat.beq q.1 d && Nat.beq q.2.1.esz sz && Nat.beq q.2.1.es.length 1 && (match q.2.2 with
  | .ptr 0 0 0 0 => true
  | _ => false)
def ZpT (ops : List Oper) (p : ZmQ) (pu : Zmt) (o : Oper) : Option (TypeId × Nat × Nat) :=
 match o.op, o.dst with
 | .store t (.tmp d) (.tmp x), none => match p.any (fun q => ZlQ q d (C.ty t).size) && !(pu.any (fun q => Nat.beq q.1 d)) && ZlI ops o d && ZlI ops o x && (C.ty t).known with
  | true => some (t, d, x)
  | false => none
 | _, _ => none
def ZcW (Φ : Zar) (ops : List Oper) : Nat → List Oper → List V → S → ZmQ → List (Nat × Nat) → Zmt → (List V → S → Option R) → Option R
 | _, [], E, s, p, al, pu, K => K (Zh6 al (ZhP (ZnR pu p) E s)) (ZdT (ZnR pu p) s)
 | i, o :: l, E, s, p, al, pu, K => Zfi ops E o fun b E =>
  match b with
  | true => match ZpT C ops p pu o with
   | some (t, d, x) => ZbV (nth E x) fun v => ZbV (nth E d) fun _ => Zal (Nat.beq v.noOwn.cells.length (C.ty t).size && v.noOwn.flat) <|
    ZcW Φ ops (i + 1) l E s p al (pu ++ [(d, x, v.noOwn)]) K
   | none => match Zeu o with
    | true => none
    | false => match ZjR ops p al o, o.dst with
     | some x, some d => ZcW Φ ops (i + 1) l (ZaC E d .dead) s p (al ++ [(d, x)]) pu K
     | _, _ => match ZcJ o with
      | true => ZfF C ops o (Zdv (ZaZ ops o) 0 E) [] fun v _ s1 => match s1, o.dst with
       | [some ob], some d => ZcW Φ ops (i + 1) l (ZaC E d .dead) s (p ++ [(d, ob, v)]) al pu K
       | _, _ => none
      | false => match ZbQ C o with
       | true => opV C Φ ops o (ZiB (ZhX ops i o) (ZaZ ops o) 0 E) s fun v _ _ => match v with
        | .list sz es f => ZcW Φ ops (i + 1) l (ZcC (Za7 (ZhX ops i o) E) o.dst (.list sz es f)) s p al pu K
        | _ => none
       | false => opV C Φ ops o (Zdv (ZaZ ops o) 0 E) s fun v _ _ => ZcW Φ ops (i + 1) l (ZcC E o.dst v.noOwn) s p al pu K
  | false => ZcW Φ ops (i + 1) l (ZcC E o.dst (.tuple [])) s p al pu K
def Zc3 (ops : List Oper) (m : Nat) : Bool :=
 decide (m ≤ ops.length) &&
 ((List.range m).all fun i => match nth ops i with
  | none => false
  | some o => o.after.all (fun e => !Region.binds .any e || decide (e.on < i)) && (ZcJ o || ZbQ C o || Zbw C ops o || Zeu o) && (!(ZcJ o) || match o.dst with | some _ => true | none => false) &&
   (List.range m).all fun j => match nth ops j with
    | none => true
    | some p => match p.dst with
     | none => true
     | some d => (!((ZaZ ops o).any (Nat.beq d)) || o.after.any (fun e => Region.binds .any e && e.on == j)) &&
      (i == j || !(match o.dst with | some d' => Nat.beq d d' | none => false))) &&
 (match nth ops m with
  | none => true
  | some o => o.after.all (fun e => !Region.binds .any e || decide (e.on < m)) && (fun l => (List.range m).all fun j => l.any (Nat.beq j)) (Zf2 ops m (ZeE ops m))) &&
 (List.range ops.length).all fun j => decide (j ≤ m) || match nth ops j with
  | none => true
  | some o => o.after.all (fun e => !Region.binds .any e || decide (e.on < j)) && o.after.any (fun e => Region.binds .any e && (e.on + 1 == j))
def ZeK (ops : List Oper) : Nat → Nat → Nat
 | 0, m => m
 | n + 1, m => match Zc3 C ops m with
  | true => m
  | false => ZeK ops n (m + 1)
def ZfL (Φ : Zar) (Λ : ZaI) : Code → List Nat → List V → S → (X → List V → S → Option R) → Option R
 | .skip, _, E, s, K => K .norm E s
 | .seq a b, w, E, s, K => ZfL Φ Λ a (0 :: w) E s fun x E' s' =>
  match x with
  | .norm => ZfL Φ Λ b (1 :: w) E' s' K
  | x => K x E' s'
 | .cond c a b, w, E, s, K => ZbV (ev E c) fun v => asBool v fun t =>
  match t with
  | true => ZfL Φ Λ a (0 :: w) E s K
  | false => ZfL Φ Λ b (1 :: w) E s K
 | .block id b, w, E, s, K => ZfL Φ Λ b (0 :: w) E s fun x E' s' =>
  match x with
  | .exit i => if i = id then K .norm E' s' else K (.exit i) E' s'
  | x => K x E' s'
 | .loop _, w, E, s, K => Λ R w E s K
 | .scope b, w, E, s, K => ZfL Φ Λ b (0 :: w) E s K
 | .exit id, _, E, s, K => K (.exit id) E s
 | .ret, _, E, s, K => K .ret E s
 | .region _ ops draw, _, E, s, K =>
  match draw with
  | true => Zal (!C.thaw) <| match Zhk C ops.toList with
   | true => ZjY C Φ ops.toList ops.toList E s fun E' s' => K .norm E' s'
   | false => Zal (Zc3 C ops.toList (ZeK C ops.toList ops.size 0)) <|
    ZcW C Φ ops.toList 0 (ops.toList.take (ZeK C ops.toList ops.size 0)) E s [] [] [] fun E' s' => Zp8 C Φ ops.toList (ops.toList.drop (ZeK C ops.toList ops.size 0)) E' s' fun E' s' => K .norm E' s'
  | false => Zp8 C Φ ops.toList ops.toList E s fun E' s' => K .norm E' s'
 | _, _, _, _, _ => none
def Zb7 (s : S) (E : List V) : List ResultVar → (List V → Option R) → Option R
 | [], K => K []
 | .tmp t :: l, K => ZbV (nth E t) fun v => Zb7 s E l fun vs => K (v :: vs)
 | .cell a t :: l, K => Zal (C.ty t).known <| ZbV (nth E a) fun p => Zn6 (C.ty t) s p fun v => Zb7 s E l fun vs => K (v :: vs)
def Zho : List V → V
 | [v] => v
 | vs => .tuple vs
def Zi9 (b : Bool) (raw v : V) : V :=
 match b with
 | false => v
 | true => match raw, v with
  | .list _ _ (.own e), .list sz es _ => .list sz es (.own e)
  | _, v => v
def Zj0 (vs : List V) (K : Nat → List V → TypeId → Option R) : Option R :=
 match vs with
 | [.list sz es (.own e)] => K sz es e
 | _ => none
def ZnJ (g : FuncId) (v : V) (K : V → Option R) : Option R :=
 match C.objAll with
 | true => Zjh C (C.res g) v K
 | false => K v
def Za9 (Φ : Zar) (Λ : ZaI) (g : FuncId) (fn : Func) (args : List V) (s : S) (K : V → S → Option R) : Option R :=
 match fn.body with
 | none => none
 | some c =>
  ZfL C Φ Λ c [] (args ++ List.replicate (fn.ntmps - args.length) .dead) s fun x E' s' =>
   match x with
   | .exit _ => none
   | _ => Zb7 C s' E' fn.results.toList fun vs =>
    match C.mode g with
    | .pure => Zbo false s' 12 (Zho vs) fun v => ZnJ C g (Zi9 (C.ownRet g) (Zho vs) v) fun v => K v []
    | .shared => K (match Zho vs with | .tuple l => .tuple (l.map V.noOwn) | v => v.noOwn) s'
    | .own => Zj0 vs fun sz es e => Zal ((C.ty e).known && Nat.beq sz (C.ty e).size) (K (.list sz es (.own e)) [])
end run
end Go.VM
