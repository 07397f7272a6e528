/- The functions of the program, told plainly: what each computes, as a function of its letters; and that the machine does the same. Printed by vgen.py, a program of this session's own. -/
import Derived.Test.YtjbalmhcpkehnaaVmZb
import Derived.Test.YtjbalmhcpkehnaaVmZl
import Derived.Test.YtjbalmhcpkehnaaVmZq
set_option linter.unusedVariables false
namespace Go.VM.VL
noncomputable section
def Za5 {R : Type} (e : V) (k : List V → Fl → Int → Int → Option R) : Option R :=
 asAgg e fun cs => Zfs cs fun v0 l0 => ZbD 1 v0 fun e_0 f_0 => Zfs l0 fun v1 l1 => asInt .i64 v1 fun x_1 => Zfs l1 fun v2 l2 => asInt .u64 v2 fun x_2 => Zpl l2 (k e_0 f_0 x_1 x_2)
theorem ZaQ {R : Type} {e : V} {k : List V → Fl → Int → Int → Option R} {r : R} (h : Za5 e k = some r) : ∃ e_0 f_0 x_1 x_2, e = .agg [.list 1 e_0 f_0, .int .i64 x_1, .int .u64 x_2] ∧ k e_0 f_0 x_1 x_2 = some r := by
 unfold Za5 at h
 obtain ⟨_, rfl, h⟩ := Zca h
 obtain ⟨_, _, rfl, h1⟩ := ZbM h
 obtain ⟨_, _, rfl, h2⟩ := ZaH h1
 obtain ⟨_, _, rfl, h3⟩ := ZbM h2
 obtain ⟨_, rfl, h4⟩ := Zas h3
 obtain ⟨_, _, rfl, h5⟩ := ZbM h4
 obtain ⟨_, rfl, h6⟩ := Zas h5
 obtain ⟨rfl, h7⟩ := Zeg h6
 exact ⟨_, _, _, _, rfl, h7⟩
def Ziy {R : Type} (N : Nat) (e_1 : List V) (f_2 : Fl) (e_3 : List V) (f_4 : Fl) (k : Bool → Option R) : Option R :=
 (match decide ((e_1.length : Int) > 1048576) with
  | true => k true
  | false => k (decide ((e_3.length : Int) > IntKind.i64.wrap (1048576 - (e_1.length : Int)))))
def Zpn := @ZaP _ @Ziy
theorem ZkS : @Zpn = @Ziy := @Zaq _ @Ziy
def ZfY {R : Type} (N : Nat) (e_1 : List V) (f_2 : Fl) (x_3 x_4 : Int) (k : Int → List V → Fl → Int → Int → Option R) : Option R :=
 (match decide (x_3 < (e_1.length : Int)) with
  | true => (if 0 ≤ x_3 then ZbV (nth e_1 x_3.toNat) fun e1 => asInt .u8 e1 fun n2 => (match decide (IntKind.i64.wrap (x_3 + 1) ≤ (e_1.length : Int)) with
   | true => k (IntKind.i64.wrap n2) e_1 f_2 (IntKind.i64.wrap (x_3 + 1)) (IntKind.u64.wrap (IntKind.u64.wrap (IntKind.u64.wrap (x_4 * 6364136223846793005) + IntKind.u64.wrap (IntKind.i64.wrap n2)) + 1442695040888963407))
   | false => k (IntKind.i64.wrap (IntKind.u64.wrap (BitVec.ofInt IntKind.u64.bits (Int.fdiv (IntKind.u64.wrap (IntKind.u64.wrap (IntKind.u64.wrap (x_4 * 6364136223846793005) + IntKind.u64.wrap (IntKind.i64.wrap n2)) + 1442695040888963407)) (2 ^ (min (40 : Int).toNat 64))) &&& BitVec.ofInt IntKind.u64.bits 255).toNat)) e_1 f_2 (IntKind.i64.wrap (x_3 + 1)) (IntKind.u64.wrap (IntKind.u64.wrap (IntKind.u64.wrap (x_4 * 6364136223846793005) + IntKind.u64.wrap (IntKind.i64.wrap n2)) + 1442695040888963407))) else none)
  | false => (match decide (IntKind.i64.wrap (x_3 + 1) ≤ (e_1.length : Int)) with
  | true => k 0 e_1 f_2 (IntKind.i64.wrap (x_3 + 1)) (IntKind.u64.wrap (IntKind.u64.wrap (IntKind.u64.wrap (x_4 * 6364136223846793005) + 0) + 1442695040888963407))
  | false => k (IntKind.i64.wrap (IntKind.u64.wrap (BitVec.ofInt IntKind.u64.bits (Int.fdiv (IntKind.u64.wrap (IntKind.u64.wrap (IntKind.u64.wrap (x_4 * 6364136223846793005) + 0) + 1442695040888963407)) (2 ^ (min (40 : Int).toNat 64))) &&& BitVec.ofInt IntKind.u64.bits 255).toNat)) e_1 f_2 (IntKind.i64.wrap (x_3 + 1)) (IntKind.u64.wrap (IntKind.u64.wrap (IntKind.u64.wrap (x_4 * 6364136223846793005) + 0) + 1442695040888963407))))
def ZlM := @ZaP _ @ZfY
theorem Zhm : @ZlM = @ZfY := @Zaq _ @ZfY
def Zfw {R : Type} (N : Nat) (x_1 : Int) (e_2 : List V) (f_3 : Fl) (x_4 x_5 : Int) (k : Int → List V → Fl → Int → Int → Option R) : Option R :=
 (match decide (x_1 ≤ 1) with
  | true => k 0 e_2 f_3 x_4 x_5
  | false => ZlM N e_2 f_3 x_4 x_5 fun x1 e2 f3 x4 x5 => (match decide (x_1 > 200) with
  | true => ZlM N e2 f3 x4 x5 fun x6 e7 f8 x9 x10 => (if x_1 = 0 then none else k (Int.tmod (IntKind.i64.wrap (IntKind.i64.wrap (x1 * 256) + x6)) x_1) e7 f8 x9 x10)
  | false => (if x_1 = 0 then none else k (Int.tmod x1 x_1) e2 f3 x4 x5)))
def ZeJ := @ZaP _ @Zfw
theorem Ze1 : @ZeJ = @Zfw := @Zaq _ @Zfw
def ZhF {R : Type} (N : Nat) (x_1 : Int) (e_2 : List V) (f_3 : Fl) (x_4 x_5 : Int) (k : Bool → List V → Fl → Int → Int → Option R) : Option R :=
 ZeJ N x_1 e_2 f_3 x_4 x_5 fun x1 e2 f3 x4 x5 => k (x1 == 0) e2 f3 x4 x5
def ZlF := @ZaP _ @ZhF
theorem Zkz : @ZlF = @ZhF := @Zaq _ @ZhF
def ZhB {R : Type} (N : Nat) (e_1 : List V) (f_2 : Fl) (e_3 : List V) (f_4 : Fl) (x_5 x_6 : Int) (k : Int → List V → Fl → Int → Int → Option R) : Option R :=
 ZeJ N (e_1.length : Int) e_3 f_4 x_5 x_6 fun x1 e2 f3 x4 x5 => (if 0 ≤ x1 then ZbV (nth e_1 x1.toNat) fun e6 => asInt .i64 e6 fun n7 => k n7 e2 f3 x4 x5 else none)
def Zor := @ZaP _ @ZhB
theorem Zk1 : @Zor = @ZhB := @Zaq _ @ZhB
def Zgd {R : Type} (N : Nat) (e_1 : List V) (f_2 : Fl) (x_3 x_4 : Int) (k : Int → List V → Fl → Int → Int → Option R) : Option R :=
 ZlF N 2 e_1 f_2 x_3 x_4 fun b1 e2 f3 x4 x5 => (match b1 with
  | true => Zor N [.int .i64 493, .int .i64 420, .int .i64 448, .int .i64 511, .int .i64 0, .int .i64 365, .int .i64 73] .sh e2 f3 x4 x5 fun x6 e7 f8 x9 x10 => k x6 e7 f8 x9 x10
  | false => ZlM N e2 f3 x4 x5 fun x11 e12 f13 x14 x15 => ZeJ N 2 e12 f13 x14 x15 fun x16 e17 f18 x19 x20 => k (Int.tmod (IntKind.i64.wrap (IntKind.i64.wrap (x11 * 2) + x16)) 512) e17 f18 x19 x20)
def Zj6 := @ZaP _ @Zgd
theorem ZgP : @Zj6 = @Zgd := @Zaq _ @Zgd
def ZhZ {R : Type} (N : Nat) (e_1 : List V) (f_2 : Fl) (k : Int → Option R) : Option R :=
 Zj6 N e_1 f_2.noOwn.noOwn 0 0 fun x1 e2 f3 x4 x5 => ZeJ N 20 e2 f3 x4 x5 fun x6 e7 f8 x9 x10 => k (IntKind.i64.wrap (x1 + IntKind.i64.wrap (IntKind.i64.wrap (Int.tdiv x6 19) * 512)))
def Zo7 := @ZaP _ @ZhZ
theorem Zk0 : @Zo7 = @ZhZ := @Zaq _ @ZhZ
def Zh0 {R : Type} (N : Nat) (x_1 x_2 x_3 : Int) (k : Bool → Option R) : Option R :=
 (match decide (x_1 ≥ x_2) with
  | true => k (decide (x_1 ≤ x_3))
  | false => k false)
def Zoi := @ZaP _ @Zh0
theorem Zkk : @Zoi = @Zh0 := @Zaq _ @Zh0
def ZiQ {R : Type} (N : Nat) (x_1 : Int) (k : Bool → Option R) : Option R :=
 Zoi N x_1 0 511 fun b1 => k b1
def Zjw := @ZaP _ @ZiQ
theorem Zk4 : @Zjw = @ZiQ := @Zaq _ @ZiQ
def Zci {R : Type} (N : Nat) (x_1 : Int) (nx : Int → List V → Option R) (x_2 : Int) (e_12 : List V) (k0 : List V → Option R) : Option R :=
 (match decide (x_2 < 9) with
  | true => (if IntKind.i64.wrap (8 - x_2) < 0 then none else (match (IntKind.i64.wrap (BitVec.ofInt IntKind.i64.bits (Int.fdiv x_1 (2 ^ (min (IntKind.i64.wrap (8 - x_2) : Int).toNat 64))) &&& BitVec.ofInt IntKind.i64.bits 1).toNat == 0) with
   | true => (if (0 : Int) ≤ x_2 ∧ x_2 < 9 then (match nth e_12 (0 + x_2.toNat) with
    | some e3 => (match ZcD e3 0 [.int .u8 45] with
    | some e4 => nx (IntKind.i64.wrap (x_2 + 1)) (ZaC e_12 (0 + x_2.toNat) e4)
    | none => none)
    | none => none) else none)
   | false => nx (IntKind.i64.wrap (x_2 + 1)) e_12))
  | false => k0 e_12)
def Zdz {R : Type} (N : Nat) (x_1 : Int) (k0 : List V → Option R) : Nat → Int → List V → Option R
 | 0, _, _ => none
 | n + 1, x_2, e_12 => Zci N x_1 (fun x_2 e_12 => Zdz N x_1 k0 n x_2 e_12) x_2 e_12 k0
def Zig {R : Type} (N : Nat) (x_1 : Int) (k : ByteArray → Option R) : Option R :=
 Zdz N x_1
   (fun e5 => Zal (Nat.beq 1 1 && decide (0 + 9 ≤ e5.length)) (match Zjt ((e5.drop 0).take 9) with
     | some w6 => k (strOfNums w6)
     | none => none))
   N 0 [.int .u8 114, .int .u8 119, .int .u8 120, .int .u8 114, .int .u8 119, .int .u8 120, .int .u8 114, .int .u8 119, .int .u8 120]
def ZjV := @ZaP _ @Zig
theorem ZkN : @ZjV = @Zig := @Zaq _ @Zig
def Zf6 {R : Type} (N : Nat) (x_1 : Int) (k : ByteArray → Bool → Option R) : Option R :=
 Zjw N x_1 fun b1 => (match (!b1) with
  | true => k (ByteArray.mk #[]) false
  | false => ZjV N x_1 fun w2 => k w2 true)
def ZoD := @ZaP _ @Zf6
theorem Zha : @ZoD = @Zf6 := @Zaq _ @Zf6
def ZhQ {R : Type} (N : Nat) (x_1 x_2 x_3 : Int) (k : Bool → Option R) : Option R :=
 (match decide (x_1 ≥ x_2) with
  | true => k (decide (x_1 ≤ x_3))
  | false => k false)
def ZoR := @ZaP _ @ZhQ
theorem Zku : @ZoR = @ZhQ := @Zaq _ @ZhQ
def ZhE {R : Type} (N : Nat) (x_1 : Int) (k : Bool → Option R) : Option R :=
 ZoR N x_1 0 511 fun b1 => k b1
def Zmj := @ZaP _ @ZhE
theorem Zkx : @Zmj = @ZhE := @Zaq _ @ZhE
def Zcn {R : Type} (N : Nat) (x_1 : Int) (nx : ByteArray → Int → Option R) (w_2 : ByteArray) (x_3 : Int) (k0 : ByteArray → Option R) : Option R :=
 (match decide (x_3 ≥ 0) with
  | true => (if IntKind.u64.wrap x_3 < 0 then none else (match (IntKind.i64.wrap (BitVec.ofInt IntKind.i64.bits (Int.fdiv x_1 (2 ^ (min (IntKind.u64.wrap x_3 : Int).toNat 64))) &&& BitVec.ofInt IntKind.i64.bits 1).toNat == 1) with
   | true => (if (0 : Int) ≤ IntKind.i64.wrap (Int.tmod x_3 3 + 1) ∧ IntKind.i64.wrap (Int.tmod x_3 3 + 1) ≤ ((ByteArray.mk #[120, 119, 114]).size : Int) then (if (0 : Int) ≤ Int.tmod x_3 3 ∧ Int.tmod x_3 3 ≤ ((IntKind.i64.wrap (Int.tmod x_3 3 + 1)).toNat : Int) then (if w_2.size + (ByteArray.extract (ByteArray.mk #[120, 119, 114]) ((Int.tmod x_3 3).toNat) ((IntKind.i64.wrap (Int.tmod x_3 3 + 1)).toNat)).size ≤ 4611686018427387904 then nx (w_2 ++ (ByteArray.extract (ByteArray.mk #[120, 119, 114]) ((Int.tmod x_3 3).toNat) ((IntKind.i64.wrap (Int.tmod x_3 3 + 1)).toNat))) (IntKind.i64.wrap (x_3 - 1)) else none) else none) else none)
   | false => (if w_2.size + (ByteArray.mk #[45]).size ≤ 4611686018427387904 then nx (w_2 ++ (ByteArray.mk #[45])) (IntKind.i64.wrap (x_3 - 1)) else none)))
  | false => k0 w_2)
def Zeo {R : Type} (N : Nat) (x_1 : Int) (k0 : ByteArray → Option R) : Nat → ByteArray → Int → Option R
 | 0, _, _ => none
 | n + 1, w_2, x_3 => Zcn N x_1 (fun w_2 x_3 => Zeo N x_1 k0 n w_2 x_3) w_2 x_3 k0
def ZhT {R : Type} (N : Nat) (x_1 : Int) (k : ByteArray → Option R) : Option R :=
 Zeo N x_1
   (fun w1 => k w1)
   N (ByteArray.mk #[]) 8
def ZlL := @ZaP _ @ZhT
theorem Zle : @ZlL = @ZhT := @Zaq _ @ZhT
def ZfX {R : Type} (N : Nat) (x_1 : Int) (k : ByteArray → Bool → Option R) : Option R :=
 Zmj N x_1 fun b1 => (match (!b1) with
  | true => k (ByteArray.mk #[]) false
  | false => ZlL N x_1 fun w2 => k w2 true)
def Zph := @ZaP _ @ZfX
theorem ZgB : @Zph = @ZfX := @Zaq _ @ZfX
def ZiI {R : Type} (N : Nat) (x_1 : Int) (k : ByteArray → Option R) : Option R :=
 (match Zjt [.int .u8 (IntKind.u8.wrap (IntKind.i64.wrap (48 + Int.fdiv x_1 (2 ^ (min (6 : Int).toNat 64))))), .int .u8 (IntKind.u8.wrap (IntKind.i64.wrap (48 + IntKind.i64.wrap (BitVec.ofInt IntKind.i64.bits (Int.fdiv x_1 (2 ^ (min (3 : Int).toNat 64))) &&& BitVec.ofInt IntKind.i64.bits 7).toNat))), .int .u8 (IntKind.u8.wrap (IntKind.i64.wrap (48 + IntKind.i64.wrap (BitVec.ofInt IntKind.i64.bits x_1 &&& BitVec.ofInt IntKind.i64.bits 7).toNat)))] with
    | some w1 => k (strOfNums w1)
    | none => none)
def ZjJ := @ZaP _ @ZiI
theorem Zlh : @ZjJ = @ZiI := @Zaq _ @ZiI
def Zf3 {R : Type} (N : Nat) (x_1 : Int) (k : ByteArray → Bool → Option R) : Option R :=
 Zjw N x_1 fun b1 => (match (!b1) with
  | true => k (ByteArray.mk #[]) false
  | false => ZjJ N x_1 fun w2 => k w2 true)
def Zpb := @ZaP _ @Zf3
theorem Zg9 : @Zpb = @Zf3 := @Zaq _ @Zf3
def Zkr {R : Type} (N : Nat) (rec_ : (R : Type) → Int → (ByteArray → Option R) → Option R) (x_1 : Int) (k : ByteArray → Option R) : Option R :=
 (match decide (x_1 < 10) with
  | true => (match Zjt [.int .u8 (IntKind.u8.wrap (IntKind.i64.wrap (48 + x_1)))] with
     | some w1 => k (strOfNums w1)
     | none => none)
  | false => rec_ R (IntKind.i64.wrap (Int.tdiv x_1 10)) fun w2 => (match Zjt [.int .u8 (IntKind.u8.wrap (IntKind.i64.wrap (48 + Int.tmod x_1 10)))] with
     | some w3 => (if w2.size + (strOfNums w3).size ≤ 4611686018427387904 then k (w2 ++ (strOfNums w3)) else none)
     | none => none))
def ZpI (N : Nat) : Nat → (R : Type) → Int → (ByteArray → Option R) → Option R
 | 0, _, _, _ => none
 | M + 1, _, x_1, k => Zkr N (ZpI N M) x_1 k
def ZfG (N : Nat) : Nat → (R : Type) → Int → (ByteArray → Option R) → Option R := ZaP ZpI N
theorem Zlo (N : Nat) (R : Type) (x_1 : Int) (k : ByteArray → Option R) : ZfG N 0 R x_1 k = none := by unfold ZfG; rw [Zaq]; rfl
theorem ZkE (N M : Nat) (R : Type) (x_1 : Int) (k : ByteArray → Option R) : ZfG N (M + 1) R x_1 k = Zkr N (ZfG N M) x_1 k := by unfold ZfG; rw [Zaq]; rfl
def Ziz {R : Type} (N : Nat) (x_1 : Int) (k : ByteArray → Option R) : Option R :=
 ZfG N N R (IntKind.i64.wrap (Int.tdiv x_1 64)) fun w1 => ZfG N N R (Int.tmod (IntKind.i64.wrap (Int.tdiv x_1 8)) 8) fun w2 => (if w1.size + w2.size ≤ 4611686018427387904 then ZfG N N R (Int.tmod x_1 8) fun w3 => (if (w1 ++ w2).size + w3.size ≤ 4611686018427387904 then k ((w1 ++ w2) ++ w3) else none) else none)
def Zlr := @ZaP _ @Ziz
theorem Zkc : @Zlr = @Ziz := @Zaq _ @Ziz
def Zgf {R : Type} (N : Nat) (x_1 : Int) (k : ByteArray → Bool → Option R) : Option R :=
 Zmj N x_1 fun b1 => (match (!b1) with
  | true => k (ByteArray.mk #[]) false
  | false => Zlr N x_1 fun w2 => k w2 true)
def ZoN := @ZaP _ @Zgf
theorem ZgZ : @ZoN = @Zgf := @Zaq _ @Zgf
def ZbU {R : Type} (N : Nat) (w_1 : ByteArray) (x_3 : Int) (nx : Int → Int → Option R) (x_2 x_4 : Int) (k0 : Int → Option R) : Option R :=
 (match decide (x_4 < x_3) with
  | true => ZbC w_1 x_4 fun n2 => (match (n2 != 45) with
  | true => nx (IntKind.i64.wrap (IntKind.i64.wrap (x_2 * 2) + 1)) (IntKind.i64.wrap (x_4 + 1))
  | false => nx (IntKind.i64.wrap (x_2 * 2)) (IntKind.i64.wrap (x_4 + 1)))
  | false => k0 x_2)
def Zdu {R : Type} (N : Nat) (w_1 : ByteArray) (x_3 : Int) (k0 : Int → Option R) : Nat → Int → Int → Option R
 | 0, _, _ => none
 | n + 1, x_2, x_4 => ZbU N w_1 x_3 (fun x_2 x_4 => Zdu N w_1 x_3 k0 n x_2 x_4) x_2 x_4 k0
def Zil {R : Type} (N : Nat) (w_1 : ByteArray) (k : Int → Bool → Option R) : Option R :=
 Zdu N w_1 (if 9 < (w_1.size : Int) then 9 else (w_1.size : Int))
   (fun x3 => ZjV N x3 fun w4 => (match (!(w4.toList == w_1.toList)) with
  | true => k 0 false
  | false => k x3 true))
   N 0 0
def ZmN := @ZaP _ @Zil
theorem Zld : @ZmN = @Zil := @Zaq _ @Zil
def ZbY {R : Type} (N : Nat) (w_1 : ByteArray) (nx : Int → Int → Option R) (x_2 x_3 : Int) (k0 : Int → Option R) : Option R :=
 (match decide (x_3 < 3) with
  | true => ZbC w_1 x_3 fun n2 => nx (IntKind.i64.wrap (IntKind.i64.wrap (x_2 * 8) + IntKind.i64.wrap (IntKind.u8.wrap (BitVec.ofInt IntKind.u8.bits n2 &&& BitVec.ofInt IntKind.u8.bits 7).toNat))) (IntKind.i64.wrap (x_3 + 1))
  | false => k0 x_2)
def Zds {R : Type} (N : Nat) (w_1 : ByteArray) (k0 : Int → Option R) : Nat → Int → Int → Option R
 | 0, _, _ => none
 | n + 1, x_2, x_3 => ZbY N w_1 (fun x_2 x_3 => Zds N w_1 k0 n x_2 x_3) x_2 x_3 k0
def Zht {R : Type} (N : Nat) (w_1 : ByteArray) (k : Int → Bool → Option R) : Option R :=
 (match ((w_1.size : Int) != 3) with
  | true => k 0 false
  | false => Zds N w_1
    (fun x3 => ZjJ N x3 fun w4 => (match (!(w4.toList == w_1.toList)) with
   | true => k 0 false
   | false => k x3 true))
    N 0 0)
def Zn3 := @ZaP _ @Zht
theorem Zki : @Zn3 = @Zht := @Zaq _ @Zht
def Zbs {R : Type} (N : Nat) (w_2 : ByteArray) (nx : ByteArray → Int → List V → Fl → Int → Int → Option R) (w_1 : ByteArray) (x_3 : Int) (e_4 : List V) (f_5 : Fl) (x_6 x_7 : Int) (k0 : ByteArray → List V → Fl → Int → Int → Option R) : Option R :=
 (match decide (x_3 > 0) with
  | true => (match decide ((w_1.size : Int) > 0) with
  | true => ZeJ N (w_1.size : Int) e_4 f_5 x_6 x_7 fun x23 e24 f25 x26 x27 => ZeJ N (w_2.size : Int) e24 f25 x26 x27 fun x28 e29 f30 x31 x32 => ZbC w_2 x28 fun n33 => (match Zjt [.int .u8 n33] with
     | some w34 => ZeJ N 3 e29 f30 x31 x32 fun x35 e36 f37 x38 x39 => (match (x35 == 0) with
   | true => (if (0 : Int) ≤ x23 ∧ x23 ≤ (w_1.size : Int) then (if (ByteArray.extract w_1 0 ((x23 : Int).toNat)).size + (strOfNums w34).size ≤ 4611686018427387904 then (if (0 : Int) ≤ x23 ∧ x23 ≤ (w_1.size : Int) then (if ((ByteArray.extract w_1 0 ((x23 : Int).toNat)) ++ (strOfNums w34)).size + (ByteArray.extract w_1 ((x23 : Int).toNat) w_1.size).size ≤ 4611686018427387904 then nx (((ByteArray.extract w_1 0 ((x23 : Int).toNat)) ++ (strOfNums w34)) ++ (ByteArray.extract w_1 ((x23 : Int).toNat) w_1.size)) (IntKind.i64.wrap (x_3 - 1)) e36 f37 x38 x39 else none) else none) else none) else none)
   | false => (match (x35 == 1) with
    | true => (if (0 : Int) ≤ x23 ∧ x23 ≤ (w_1.size : Int) then (if (ByteArray.extract w_1 0 ((x23 : Int).toNat)).size + (strOfNums w34).size ≤ 4611686018427387904 then (if (0 : Int) ≤ IntKind.i64.wrap (x23 + 1) ∧ IntKind.i64.wrap (x23 + 1) ≤ (w_1.size : Int) then (if ((ByteArray.extract w_1 0 ((x23 : Int).toNat)) ++ (strOfNums w34)).size + (ByteArray.extract w_1 ((IntKind.i64.wrap (x23 + 1)).toNat) w_1.size).size ≤ 4611686018427387904 then nx (((ByteArray.extract w_1 0 ((x23 : Int).toNat)) ++ (strOfNums w34)) ++ (ByteArray.extract w_1 ((IntKind.i64.wrap (x23 + 1)).toNat) w_1.size)) (IntKind.i64.wrap (x_3 - 1)) e36 f37 x38 x39 else none) else none) else none) else none)
    | false => (if (0 : Int) ≤ x23 ∧ x23 ≤ (w_1.size : Int) then (if (0 : Int) ≤ IntKind.i64.wrap (x23 + 1) ∧ IntKind.i64.wrap (x23 + 1) ≤ (w_1.size : Int) then (if (ByteArray.extract w_1 0 ((x23 : Int).toNat)).size + (ByteArray.extract w_1 ((IntKind.i64.wrap (x23 + 1)).toNat) w_1.size).size ≤ 4611686018427387904 then nx ((ByteArray.extract w_1 0 ((x23 : Int).toNat)) ++ (ByteArray.extract w_1 ((IntKind.i64.wrap (x23 + 1)).toNat) w_1.size)) (IntKind.i64.wrap (x_3 - 1)) e36 f37 x38 x39 else none) else none) else none)))
     | none => none)
  | false => k0 w_1 e_4 f_5 x_6 x_7)
  | false => k0 w_1 e_4 f_5 x_6 x_7)
def Zb1 {R : Type} (N : Nat) (w_2 : ByteArray) (k0 : ByteArray → List V → Fl → Int → Int → Option R) : Nat → ByteArray → Int → List V → Fl → Int → Int → Option R
 | 0, _, _, _, _, _, _ => none
 | n + 1, w_1, x_3, e_4, f_5, x_6, x_7 => Zbs N w_2 (fun w_1 x_3 e_4 f_5 x_6 x_7 => Zb1 N w_2 k0 n w_1 x_3 e_4 f_5 x_6 x_7) w_1 x_3 e_4 f_5 x_6 x_7 k0
def ZhO {R : Type} (N : Nat) (w_1 w_2 : ByteArray) (e_3 : List V) (f_4 : Fl) (x_5 x_6 : Int) (k : ByteArray → List V → Fl → Int → Int → Option R) : Option R :=
 ZeJ N 2 e_3 f_4 x_5 x_6 fun x1 e2 f3 x4 x5 => Zb1 N w_2
   (fun w40 e41 f42 x43 x44 => k w40 e41 f42 x43 x44)
   N w_1 (IntKind.i64.wrap (1 + x1)) e2 f3 x4 x5
def Znr := @ZaP _ @ZhO
theorem ZkO : @Znr = @ZhO := @Zaq _ @ZhO
def ZhH {R : Type} (N : Nat) (e_1 : List V) (f_2 : Fl) (k : ByteArray → Option R) : Option R :=
 Zj6 N e_1 f_2.noOwn.noOwn 0 0 fun x1 e2 f3 x4 x5 => ZlL N x1 fun w6 => ZlF N 3 e2 f3 x4 x5 fun b7 e8 f9 x10 x11 => (match b7 with
  | true => Znr N w6 (ByteArray.mk #[114, 119, 120, 45]) e8 f9 x10 x11 fun w12 e13 f14 x15 x16 => k w12
  | false => k w6)
def Zn9 := @ZaP _ @ZhH
theorem Zk5 : @Zn9 = @ZhH := @Zaq _ @ZhH
def Zcj {R : Type} (N : Nat) (w_1 : ByteArray) (nx : Int → Option R) (x_2 : Int) (k0 : Int → Option R) (k1 : Unit → Option R) : Option R :=
 (match decide (x_2 < 512) with
  | true => ZlL N x_2 fun w2 => (match (w2.toList == w_1.toList) with
  | true => k0 x_2
  | false => nx (IntKind.i64.wrap (x_2 + 1)))
  | false => k1 ())
def Zeh {R : Type} (N : Nat) (w_1 : ByteArray) (k0 : Int → Option R) (k1 : Unit → Option R) : Nat → Int → Option R
 | 0, _ => none
 | n + 1, x_2 => Zcj N w_1 (fun x_2 => Zeh N w_1 k0 k1 n x_2) x_2 k0 k1
def Zis {R : Type} (N : Nat) (w_1 : ByteArray) (k : Int → Bool → Option R) : Option R :=
 Zeh N w_1
   (fun x3 => k x3 true)
   (fun (_ : Unit) => k 0 false)
   N 0
def ZoE := @ZaP _ @Zis
theorem ZkL : @ZoE = @Zis := @Zaq _ @Zis
def Zin {R : Type} (N : Nat) (e_1 : List V) (f_2 : Fl) (k : ByteArray → Option R) : Option R :=
 Zj6 N e_1 f_2.noOwn.noOwn 0 0 fun x1 e2 f3 x4 x5 => Zlr N x1 fun w6 => ZlF N 3 e2 f3 x4 x5 fun b7 e8 f9 x10 x11 => (match b7 with
  | true => Znr N w6 (ByteArray.mk #[48, 55, 56, 57]) e8 f9 x10 x11 fun w12 e13 f14 x15 x16 => k w12
  | false => k w6)
def Zno := @ZaP _ @Zin
theorem Zlf : @Zno = @Zin := @Zaq _ @Zin
def Zcp {R : Type} (N : Nat) (w_1 : ByteArray) (nx : Int → Option R) (x_2 : Int) (k0 : Int → Option R) (k1 : Unit → Option R) : Option R :=
 (match decide (x_2 < 512) with
  | true => Zlr N x_2 fun w2 => (match (w2.toList == w_1.toList) with
  | true => k0 x_2
  | false => nx (IntKind.i64.wrap (x_2 + 1)))
  | false => k1 ())
def Zei {R : Type} (N : Nat) (w_1 : ByteArray) (k0 : Int → Option R) (k1 : Unit → Option R) : Nat → Int → Option R
 | 0, _ => none
 | n + 1, x_2 => Zcp N w_1 (fun x_2 => Zei N w_1 k0 k1 n x_2) x_2 k0 k1
def ZhW {R : Type} (N : Nat) (w_1 : ByteArray) (k : Int → Bool → Option R) : Option R :=
 Zei N w_1
   (fun x3 => k x3 true)
   (fun (_ : Unit) => k 0 false)
   N 0
def ZoJ := @ZaP _ @ZhW
theorem Zk9 : @ZoJ = @ZhW := @Zaq _ @ZhW
def Zhq {R : Type} (N : Nat) (e_1 : List V) (f_2 : Fl) (e_3 : List V) (f_4 : Fl) (x_5 x_6 : Int) (k : ByteArray → List V → Fl → Int → Int → Option R) : Option R :=
 ZeJ N (e_1.length : Int) e_3 f_4 x_5 x_6 fun x1 e2 f3 x4 x5 => (if 0 ≤ x1 then ZbV (nth e_1 x1.toNat) fun e6 => Zb2 e6 fun w7 => k w7 e2 f3 x4 x5 else none)
def Zlz := @ZaP _ @Zhq
theorem Zkh : @Zlz = @Zhq := @Zaq _ @Zhq
def Zim {R : Type} (N : Nat) (e_1 : List V) (f_2 : Fl) (k : Int → ByteArray → Option R) : Option R :=
 Zj6 N e_1 f_2.noOwn.noOwn 0 0 fun x1 e2 f3 x4 x5 => Zlz N [.str (ByteArray.mk #[117]), .str (ByteArray.mk #[103]), .str (ByteArray.mk #[111]), .str (ByteArray.mk #[97]), .str (ByteArray.mk #[117, 103]), .str (ByteArray.mk #[103, 111]), .str (ByteArray.mk #[117, 103, 111]), .str (ByteArray.mk #[]), .str (ByteArray.mk #[117, 117]), .str (ByteArray.mk #[120])] .sh e2 f3 x4 x5 fun w6 e7 f8 x9 x10 => Zlz N [.str (ByteArray.mk #[43]), .str (ByteArray.mk #[45]), .str (ByteArray.mk #[61]), .str (ByteArray.mk #[43]), .str (ByteArray.mk #[45]), .str (ByteArray.mk #[61])] .sh e7 f8 x9 x10 fun w11 e12 f13 x14 x15 => (if w6.size + w11.size ≤ 4611686018427387904 then Zlz N [.str (ByteArray.mk #[114]), .str (ByteArray.mk #[119]), .str (ByteArray.mk #[120]), .str (ByteArray.mk #[114, 119]), .str (ByteArray.mk #[114, 119, 120]), .str (ByteArray.mk #[]), .str (ByteArray.mk #[114, 114]), .str (ByteArray.mk #[122])] .sh e12 f13 x14 x15 fun w16 e17 f18 x19 x20 => (if (w6 ++ w11).size + w16.size ≤ 4611686018427387904 then k x1 ((w6 ++ w11) ++ w16) else none) else none)
def Zos := @ZaP _ @Zim
theorem Zk8 : @Zos = @Zim := @Zaq _ @Zim
def Zkp {R : Type} (N : Nat) (w_1 : ByteArray) (x_2 : Int) (k : Int → Option R) : Option R :=
 k (Go.Lib.indexByte w_1.data.toList x_2.toNat.toUInt8)
def Zqk := @ZaP _ @Zkp
theorem Zkq : @Zqk = @Zkp := @Zaq _ @Zkp
def Zhr {R : Type} (N : Nat) (w_1 : ByteArray) (x_2 : Int) (k : Int → Option R) : Option R :=
 Zqk N w_1 x_2 fun x1 => k x1
def Zqz := @ZaP _ @Zhr
theorem Zlj : @Zqz = @Zhr := @Zaq _ @Zhr
def Zh9 {R : Type} (N : Nat) (w_1 : ByteArray) (x_2 : Int) (k : Int → Option R) : Option R :=
 Zqz N w_1 x_2 fun x1 => k x1
def ZnN := @ZaP _ @Zh9
theorem ZkQ : @ZnN = @Zh9 := @Zaq _ @Zh9
def ZkI {R : Type} (N : Nat) (x_1 : Int) (k : Bool → Option R) : Option R :=
 (match decide (0 ≤ x_1) with
  | true => (match decide (x_1 < 55296) with
  | true => k true
  | false => (match decide (57343 < x_1) with
   | true => (match decide (x_1 ≤ 1114111) with
   | true => k true
   | false => k false)
   | false => k false))
  | false => (match decide (57343 < x_1) with
  | true => (match decide (x_1 ≤ 1114111) with
   | true => k true
   | false => k false)
  | false => k false))
def ZrS := @ZaP _ @ZkI
theorem Zpr : @ZrS = @ZkI := @Zaq _ @ZkI
def Zhz {R : Type} (N : Nat) (w_1 w_2 : ByteArray) (k : Int → Option R) : Option R :=
 Zef w_1 w_2 k
def Zqs := @ZaP _ @Zhz
theorem Zkv : @Zqs = @Zhz := @Zaq _ @Zhz
def ZbT {R : Type} (N : Nat) (w_1 w_2 : ByteArray) (e_3 : List V) (f_4 : Fl) (x_6 : Int) (nx : Int → Int → Option R) (x_5 x_7 : Int) (k0 : Int → Option R) (k1 : Int → Option R) : Option R :=
 (match decide (x_7 < x_6) with
  | true => ZbC w_1 x_7 fun n7 => ZnN N w_2 n7 fun x8 => (match decide (x8 < 0) with
  | true => k0 x_5
  | false => (if (0 : Int) ≤ x_7 ∧ x_7 ≤ (w_1.size : Int) then ZbC w_1 x_7 fun n9 => ZnN N (ByteArray.extract w_1 0 ((x_7 : Int).toNat)) n9 fun x10 => (match decide (x10 ≥ 0) with
   | true => k0 x_5
   | false => (if 0 ≤ x8 then ZbV (nth e_3 x8.toNat) fun e11 => asInt .i64 e11 fun n12 => nx (IntKind.i64.wrap (BitVec.ofInt IntKind.i64.bits x_5 ||| BitVec.ofInt IntKind.i64.bits n12).toNat) (IntKind.i64.wrap (x_7 + 1)) else none)) else none))
  | false => k1 x_5)
def Zdr {R : Type} (N : Nat) (w_1 w_2 : ByteArray) (e_3 : List V) (f_4 : Fl) (x_6 : Int) (k0 : Int → Option R) (k1 : Int → Option R) : Nat → Int → Int → Option R
 | 0, _, _ => none
 | n + 1, x_5, x_7 => ZbT N w_1 w_2 e_3 f_4 x_6 (fun x_5 x_7 => Zdr N w_1 w_2 e_3 f_4 x_6 k0 k1 n x_5 x_7) x_5 x_7 k0 k1
def ZhL {R : Type} (N : Nat) (w_1 w_2 : ByteArray) (e_3 : List V) (f_4 : Fl) (k : Int → Bool → Option R) : Option R :=
 Zdr N w_1 w_2 e_3 f_4 (w_1.size : Int)
   (fun x13 => k 0 false)
   (fun x14 => k x14 true)
   N 0 0
def ZlG := @ZaP _ @ZhL
theorem Zli : @ZlG = @ZhL := @Zaq _ @ZhL
def Zio {R : Type} (N : Nat) (x_1 : Int) (w_2 : ByteArray) (k : Int → Bool → Option R) : Option R :=
 Zqs N w_2 (ByteArray.mk #[43, 45, 61]) fun x1 => Zjw N x_1 fun b2 => (match (!b2) with
  | true => k 0 false
  | false => (match decide (x1 < 1) with
  | true => k 0 false
  | false => (if (0 : Int) ≤ x1 ∧ x1 ≤ (w_2.size : Int) then ZlG N (ByteArray.extract w_2 0 ((x1 : Int).toNat)) (ByteArray.mk #[117, 103, 111, 97]) [.int .i64 448, .int .i64 56, .int .i64 7, .int .i64 511] .sh fun x3 b4 => (if (0 : Int) ≤ IntKind.i64.wrap (x1 + 1) ∧ IntKind.i64.wrap (x1 + 1) ≤ (w_2.size : Int) then ZlG N (ByteArray.extract w_2 ((IntKind.i64.wrap (x1 + 1)).toNat) w_2.size) (ByteArray.mk #[114, 119, 120]) [.int .i64 4, .int .i64 2, .int .i64 1] .sh fun x5 b6 => (match (!b4) with
    | true => k 0 false
    | false => (match (!b6) with
    | true => k 0 false
    | false => ZbC w_2 x1 fun n7 => (match (n7 == 43) with
     | true => k (IntKind.i64.wrap (BitVec.ofInt IntKind.i64.bits x_1 ||| BitVec.ofInt IntKind.i64.bits (IntKind.i64.wrap (BitVec.ofInt IntKind.i64.bits x3 &&& BitVec.ofInt IntKind.i64.bits (IntKind.i64.wrap (BitVec.ofInt IntKind.i64.bits (IntKind.i64.wrap (BitVec.ofInt IntKind.i64.bits (IntKind.i64.wrap (x5 * 2 ^ (min (6 : Int).toNat 64))) ||| BitVec.ofInt IntKind.i64.bits (IntKind.i64.wrap (x5 * 2 ^ (min (3 : Int).toNat 64)))).toNat) ||| BitVec.ofInt IntKind.i64.bits x5).toNat)).toNat)).toNat) true
     | false => (match (n7 == 45) with
     | true => k (IntKind.i64.wrap (BitVec.ofInt IntKind.i64.bits x_1 &&& ~~~(BitVec.ofInt IntKind.i64.bits (IntKind.i64.wrap (BitVec.ofInt IntKind.i64.bits x3 &&& BitVec.ofInt IntKind.i64.bits (IntKind.i64.wrap (BitVec.ofInt IntKind.i64.bits (IntKind.i64.wrap (BitVec.ofInt IntKind.i64.bits (IntKind.i64.wrap (x5 * 2 ^ (min (6 : Int).toNat 64))) ||| BitVec.ofInt IntKind.i64.bits (IntKind.i64.wrap (x5 * 2 ^ (min (3 : Int).toNat 64)))).toNat) ||| BitVec.ofInt IntKind.i64.bits x5).toNat)).toNat))).toNat) true
     | false => k (IntKind.i64.wrap (BitVec.ofInt IntKind.i64.bits (IntKind.i64.wrap (BitVec.ofInt IntKind.i64.bits x_1 &&& ~~~(BitVec.ofInt IntKind.i64.bits x3)).toNat) ||| BitVec.ofInt IntKind.i64.bits (IntKind.i64.wrap (BitVec.ofInt IntKind.i64.bits x3 &&& BitVec.ofInt IntKind.i64.bits (IntKind.i64.wrap (BitVec.ofInt IntKind.i64.bits (IntKind.i64.wrap (BitVec.ofInt IntKind.i64.bits (IntKind.i64.wrap (x5 * 2 ^ (min (6 : Int).toNat 64))) ||| BitVec.ofInt IntKind.i64.bits (IntKind.i64.wrap (x5 * 2 ^ (min (3 : Int).toNat 64)))).toNat) ||| BitVec.ofInt IntKind.i64.bits x5).toNat)).toNat)).toNat) true)))) else none) else none)))
def ZmJ := @ZaP _ @Zio
theorem Zkg : @ZmJ = @Zio := @Zaq _ @Zio
def Zb0 {R : Type} (N : Nat) (w_1 w_2 : ByteArray) (e_3 : List V) (f_4 : Fl) (x_5 x_6 : Int) (nx : Int → Option R) (x_7 : Int) (k0 : Int → Option R) : Option R :=
 (match decide (x_7 < (w_2.size : Int)) with
  | true => ZbC w_2 x_7 fun n3 => ZbC w_1 x_6 fun n4 => (match (n3 != n4) with
  | true => nx (IntKind.i64.wrap (x_7 + 1))
  | false => k0 x_7)
  | false => k0 x_7)
def ZcY {R : Type} (N : Nat) (w_1 w_2 : ByteArray) (e_3 : List V) (f_4 : Fl) (x_5 x_6 : Int) (k0 : Int → Option R) : Nat → Int → Option R
 | 0, _ => none
 | n + 1, x_7 => Zb0 N w_1 w_2 e_3 f_4 x_5 x_6 (fun x_7 => ZcY N w_1 w_2 e_3 f_4 x_5 x_6 k0 n x_7) x_7 k0
def ZbZ {R : Type} (N : Nat) (w_1 w_2 : ByteArray) (e_3 : List V) (f_4 : Fl) (x_5 x_6 x_7 : Int) (nx : Int → Option R) (x_8 : Int) (k0 : Unit → Option R) (k1 : Unit → Option R) : Option R :=
 (match decide (x_8 < x_6) with
  | true => ZbC w_1 x_8 fun n8 => ZbC w_1 x_6 fun n9 => (match (n8 == n9) with
  | true => k0 ()
  | false => nx (IntKind.i64.wrap (x_8 + 1)))
  | false => k1 ())
def ZcT {R : Type} (N : Nat) (w_1 w_2 : ByteArray) (e_3 : List V) (f_4 : Fl) (x_5 x_6 x_7 : Int) (k0 : Unit → Option R) (k1 : Unit → Option R) : Nat → Int → Option R
 | 0, _ => none
 | n + 1, x_8 => ZbZ N w_1 w_2 e_3 f_4 x_5 x_6 x_7 (fun x_8 => ZcT N w_1 w_2 e_3 f_4 x_5 x_6 x_7 k0 k1 n x_8) x_8 k0 k1
def ZbS {R : Type} (N : Nat) (w_1 w_2 : ByteArray) (e_3 : List V) (f_4 : Fl) (nx : Int → Int → Option R) (x_5 x_6 : Int) (k0 : Int → Option R) (k1 : Int → Option R) : Option R :=
 (match decide (x_6 < (w_1.size : Int)) with
  | true => ZcY N w_1 w_2 e_3 f_4 x_5 x_6
    (fun x12 => (match (x12 == (w_2.size : Int)) with
   | true => k0 x_5
   | false => ZcT N w_1 w_2 e_3 f_4 x_5 x_6 x12
     (fun (_ : Unit) => k0 x_5)
     (fun (_ : Unit) => (if 0 ≤ x12 then ZbV (nth e_3 x12.toNat) fun e13 => asInt .i64 e13 fun n14 => nx (IntKind.i64.wrap (BitVec.ofInt IntKind.i64.bits x_5 ||| BitVec.ofInt IntKind.i64.bits n14).toNat) (IntKind.i64.wrap (x_6 + 1)) else none))
     N 0))
    N 0
  | false => k1 x_5)
def Zdw {R : Type} (N : Nat) (w_1 w_2 : ByteArray) (e_3 : List V) (f_4 : Fl) (k0 : Int → Option R) (k1 : Int → Option R) : Nat → Int → Int → Option R
 | 0, _, _ => none
 | n + 1, x_5, x_6 => ZbS N w_1 w_2 e_3 f_4 (fun x_5 x_6 => Zdw N w_1 w_2 e_3 f_4 k0 k1 n x_5 x_6) x_5 x_6 k0 k1
def Ziu {R : Type} (N : Nat) (w_1 w_2 : ByteArray) (e_3 : List V) (f_4 : Fl) (k : Int → Option R) : Option R :=
 Zdw N w_1 w_2 e_3 f_4
   (fun x15 => k (-1))
   (fun x16 => k x16)
   N 0 0
def Zlv := @ZaP _ @Ziu
theorem ZkB : @Zlv = @Ziu := @Zaq _ @Ziu
def ZbW {R : Type} (N : Nat) (x_1 : Int) (w_2 : ByteArray) (nx : Int → Option R) (x_3 : Int) (k0 : Int → Option R) : Option R :=
 (match decide (x_3 < (w_2.size : Int)) with
  | true => ZbC w_2 x_3 fun n4 => (match (n4 != 43) with
  | true => ZbC w_2 x_3 fun n5 => (match (n5 != 45) with
   | true => ZbC w_2 x_3 fun n6 => (match (n6 != 61) with
   | true => nx (IntKind.i64.wrap (x_3 + 1))
   | false => k0 x_3)
   | false => k0 x_3)
  | false => k0 x_3)
  | false => k0 x_3)
def Zc0 {R : Type} (N : Nat) (x_1 : Int) (w_2 : ByteArray) (k0 : Int → Option R) : Nat → Int → Option R
 | 0, _ => none
 | n + 1, x_3 => ZbW N x_1 w_2 (fun x_3 => Zc0 N x_1 w_2 k0 n x_3) x_3 k0
def ZiH {R : Type} (N : Nat) (x_1 : Int) (w_2 : ByteArray) (k : Int → Bool → Option R) : Option R :=
 Zc0 N x_1 w_2
   (fun x7 => Zmj N x_1 fun b8 => (match (!b8) with
  | true => k 0 false
  | false => (match (x7 == 0) with
   | true => k 0 false
   | false => (match (x7 == (w_2.size : Int)) with
   | true => k 0 false
   | false => (if (0 : Int) ≤ x7 ∧ x7 ≤ (w_2.size : Int) then Zlv N (ByteArray.extract w_2 0 ((x7 : Int).toNat)) (ByteArray.mk #[117, 103, 111, 97]) [.int .i64 448, .int .i64 56, .int .i64 7, .int .i64 511] .sh fun x9 => (if (0 : Int) ≤ IntKind.i64.wrap (x7 + 1) ∧ IntKind.i64.wrap (x7 + 1) ≤ (w_2.size : Int) then Zlv N (ByteArray.extract w_2 ((IntKind.i64.wrap (x7 + 1)).toNat) w_2.size) (ByteArray.mk #[114, 119, 120]) [.int .i64 292, .int .i64 146, .int .i64 73] .sh fun x10 => (match decide (x9 < 0) with
     | true => k 0 false
     | false => (match decide (x10 < 0) with
     | true => k 0 false
     | false => ZbC w_2 x7 fun n11 => (match (n11 == 43) with
      | true => k (IntKind.i64.wrap (BitVec.ofInt IntKind.i64.bits x_1 ||| BitVec.ofInt IntKind.i64.bits (IntKind.i64.wrap (BitVec.ofInt IntKind.i64.bits x9 &&& BitVec.ofInt IntKind.i64.bits x10).toNat)).toNat) true
      | false => (match (n11 == 45) with
      | true => k (IntKind.i64.wrap (BitVec.ofInt IntKind.i64.bits x_1 &&& ~~~(BitVec.ofInt IntKind.i64.bits (IntKind.i64.wrap (BitVec.ofInt IntKind.i64.bits x9 &&& BitVec.ofInt IntKind.i64.bits x10).toNat))).toNat) true
      | false => k (IntKind.i64.wrap (BitVec.ofInt IntKind.i64.bits (IntKind.i64.wrap (BitVec.ofInt IntKind.i64.bits x_1 &&& ~~~(BitVec.ofInt IntKind.i64.bits x9)).toNat) ||| BitVec.ofInt IntKind.i64.bits (IntKind.i64.wrap (BitVec.ofInt IntKind.i64.bits x9 &&& BitVec.ofInt IntKind.i64.bits x10).toNat)).toNat) true)))) else none) else none)))))
   N 0
def Zo1 := @ZaP _ @ZiH
theorem Zlg : @Zo1 = @ZiH := @Zaq _ @ZiH
def Zh2 {R : Type} (N : Nat) (e_1 : List V) (f_2 : Fl) (e_3 : List V) (f_4 : Fl) (j : V → V → V → V → V → V → V → V → V → V → V → V → V → V → V → V → V → V → V → V → V → V → V → V → V → V → V → V → V → V → V → V → V → V → V → V → V → V → V → V → V → V → V → V → V → V → V → V → V → V → V → V → V → V → V → V → V → V → V → V → V → V → V → V → V → V → V → V → V → V → V → V → V → V → V → V → V → V → V → V → V → Option R) (k : Bool → Option R) : Option R :=
 Zpn N e_1 f_2.noOwn.noOwn e_3 f_4.noOwn.noOwn fun b1 => (match b1 with
  | true => k true
  | false => Zo7 N e_1 f_2.noOwn.noOwn fun x2 => ZoD N x2 fun w3 b4 => Zph N x2 fun w5 b6 => Zpb N x2 fun w7 b8 => ZoN N x2 fun w9 b10 => (match (!(b4 == b6)) with
  | true => k false
  | false => (match (!(w3.toList == w5.toList)) with
   | true => k false
   | false => (match (!(b8 == b10)) with
   | true => k false
   | false => (match (!(w7.toList == w9.toList)) with
    | true => k false
    | false => (match (!(b4 == b8)) with
    | true => k false
    | false => (match b4 with
     | true => ZmN N w3 fun x11 b12 => Zn3 N w7 fun x13 b14 => (match (!b12) with
     | true => k false
     | false => (match (x11 != x2) with
      | true => k false
      | false => (match (!b14) with
      | true => k false
      | false => (match (x13 != x2) with
       | true => k false
       | false => j (.int .i64 x2) (.str w3) (.bool b4) (.str w5) (.bool b6) (.str w7) (.bool b8) (.str w9) (.bool b10) (.int .i64 x11) (.bool b12) (.int .i64 x13) (.bool b14) (.bool b1) (.int .i64 x2) (.tuple [.str w3, .bool b4]) (.int .i64 x2) (.tuple [.str w3, .bool b4]) (.str w3) (.bool b4) (.tuple [.str w5, .bool b6]) (.int .i64 x2) (.tuple [.str w5, .bool b6]) (.str w5) (.bool b6) (.tuple [.str w7, .bool b8]) (.int .i64 x2) (.tuple [.str w7, .bool b8]) (.str w7) (.bool b8) (.tuple [.str w9, .bool b10]) (.int .i64 x2) (.tuple [.str w9, .bool b10]) (.str w9) (.bool b10) (.bool b4) (.bool b6) (.bool (!(b4 == b6))) (.str w3) (.str w5) (.bool (!(w3.toList == w5.toList))) (.bool (!(w3.toList == w5.toList))) (.bool b8) (.bool b10) (.bool (!(b8 == b10))) (.bool (!(b8 == b10))) (.str w7) (.str w9) (.bool (!(w7.toList == w9.toList))) (.bool (!(w7.toList == w9.toList))) (.bool b4) (.bool b8) (.bool (!(b4 == b8))) (.bool (!(b4 == b8))) (.bool b4) (.tuple [.int .i64 x11, .bool b12]) (.str w3) (.tuple [.int .i64 x11, .bool b12]) (.int .i64 x11) (.bool b12) (.tuple [.int .i64 x13, .bool b14]) (.str w7) (.tuple [.int .i64 x13, .bool b14]) (.int .i64 x13) (.bool b14) (.bool b12) (.bool (!b12)) (.bool false) (.int .i64 x11) (.int .i64 x2) (.bool (x11 != x2)) (.bool (x11 != x2)) (.bool false) (.bool b14) (.bool (!b14)) (.bool (!b14)) (.bool false) (.int .i64 x13) (.int .i64 x2) (.bool (x13 != x2)) (.bool (x13 != x2))))))
     | false => j (.int .i64 x2) (.str w3) (.bool b4) (.str w5) (.bool b6) (.str w7) (.bool b8) (.str w9) (.bool b10) .dead .dead .dead .dead (.bool b1) (.int .i64 x2) (.tuple [.str w3, .bool b4]) (.int .i64 x2) (.tuple [.str w3, .bool b4]) (.str w3) (.bool b4) (.tuple [.str w5, .bool b6]) (.int .i64 x2) (.tuple [.str w5, .bool b6]) (.str w5) (.bool b6) (.tuple [.str w7, .bool b8]) (.int .i64 x2) (.tuple [.str w7, .bool b8]) (.str w7) (.bool b8) (.tuple [.str w9, .bool b10]) (.int .i64 x2) (.tuple [.str w9, .bool b10]) (.str w9) (.bool b10) (.bool b4) (.bool b6) (.bool (!(b4 == b6))) (.str w3) (.str w5) (.bool (!(w3.toList == w5.toList))) (.bool (!(w3.toList == w5.toList))) (.bool b8) (.bool b10) (.bool (!(b8 == b10))) (.bool (!(b8 == b10))) (.str w7) (.str w9) (.bool (!(w7.toList == w9.toList))) (.bool (!(w7.toList == w9.toList))) (.bool b4) (.bool b8) (.bool (!(b4 == b8))) (.bool (!(b4 == b8))) (.bool b4) .dead .dead .dead .dead .dead .dead .dead .dead .dead .dead .dead .dead .dead .dead .dead .dead .dead .dead .dead .dead .dead .dead .dead .dead .dead .dead)))))))
def Zky {R : Type} (N : Nat) (e_1 : List V) (f_2 : Fl) (e_3 : List V) (f_4 : Fl) (k : Bool → Option R) : Option R :=
 Zn9 N e_3 f_4.noOwn.noOwn fun w15 => ZmN N w15 fun x16 b17 => ZoE N w15 fun x18 b19 => Zno N e_3 f_4.noOwn.noOwn fun w20 => Zn3 N w20 fun x21 b22 => ZoJ N w20 fun x23 b24 => Zos N e_3 f_4.noOwn.noOwn fun x25 w26 => ZmJ N x25 w26 fun x27 b28 => Zo1 N x25 w26 fun x29 b30 => (match (!(b17 == b19)) with
  | true => k false
  | false => (match (x16 != x18) with
  | true => k false
  | false => (match (!(b22 == b24)) with
   | true => k false
   | false => (match (x21 != x23) with
   | true => k false
   | false => (match (!(b28 == b30)) with
    | true => k false
    | false => (match (x27 != x29) with
    | true => k false
    | false => (match b28 with
     | true => ZmJ N x27 w26 fun x31 b32 => (match b32 with
     | true => (match (x31 == x27) with
      | true => (match decide (x27 ≥ 0) with
      | true => k (decide (x27 < 512))
      | false => k false)
      | false => k false)
     | false => k false)
     | false => k true)))))))
def Zfv {R : Type} (N : Nat) (e_1 : List V) (f_2 : Fl) (e_3 : List V) (f_4 : Fl) (k : Bool → Option R) : Option R :=
 Zh2 N e_1 f_2 e_3 f_4 (fun _ _ _ _ _ _ _ _ _ _ _ _ _ _ _ _ _ _ _ _ _ _ _ _ _ _ _ _ _ _ _ _ _ _ _ _ _ _ _ _ _ _ _ _ _ _ _ _ _ _ _ _ _ _ _ _ _ _ _ _ _ _ _ _ _ _ _ _ _ _ _ _ _ _ _ _ _ _ _ _ _ => Zky N e_1 f_2 e_3 f_4 k) k
def ZrV := @ZaP _ @Zfv
theorem ZoM : @ZrV = @Zfv := @Zaq _ @Zfv
end
end Go.VM.VL
