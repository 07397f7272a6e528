/- The functions of the program, told plainly: what each computes, as a function of its letters; and that the machine does the same. Printed by vgen.py, a program of this session's own. -/
import Derived.Test.YtfebgjdmddegjaaDoorVmZb
import Derived.Test.YtfebgjdmddegjaaDoorVmZl
import Derived.Test.YtfebgjdmddegjaaDoorVmZp
set_option linter.unusedVariables false
namespace Go.VM.VL
noncomputable section
def Zbt {R : Type} (e : V) (k : List V → Fl → Int → Int → Option R) : Option R :=
 asAgg e fun cs => ZdJ cs fun v0 l0 => Za6 1 v0 fun e_0 f_0 => ZdJ l0 fun v1 l1 => asInt .i64 v1 fun x_1 => ZdJ l1 fun v2 l2 => asInt .u64 v2 fun x_2 => ZvA l2 (k e_0 f_0 x_1 x_2)
theorem Zbh {R : Type} {e : V} {k : List V → Fl → Int → Int → Option R} {r : R} (h : Zbt e k = some r) : ∃ e_0 f_0 x_1 x_2, e = .agg [.list 1 e_0 f_0, .int .i64 x_1, .int .u64 x_2] ∧ k e_0 f_0 x_1 x_2 = some r := by
 unfold Zbt at h
 obtain ⟨_, rfl, h⟩ := Zca h
 obtain ⟨_, _, rfl, h1⟩ := ZcB h
 obtain ⟨_, _, rfl, h2⟩ := Zar h1
 obtain ⟨_, _, rfl, h3⟩ := ZcB h2
 obtain ⟨_, rfl, h4⟩ := ZaE h3
 obtain ⟨_, _, rfl, h5⟩ := ZcB h4
 obtain ⟨_, rfl, h6⟩ := ZaE h5
 obtain ⟨rfl, h7⟩ := Zgf h6
 exact ⟨_, _, _, _, rfl, h7⟩
def Zly {R : Type} (N : Nat) (e_1 : List V) (f_2 : Fl) (e_3 : List V) (f_4 : Fl) (k : Bool → Option R) : Option R :=
 (match decide ((e_1.length : Int) > 1048576) with
  | true => k true
  | false => k (decide ((e_3.length : Int) > IntKind.i64.wrap (1048576 - (e_1.length : Int)))))
def ZvD := @ZaD _ @Zly
theorem Zp3 : @ZvD = @Zly := @Zak _ @Zly
def Zh7 {R : Type} (N : Nat) (e_1 : List V) (f_2 : Fl) (x_3 x_4 : Int) (k : Int → List V → Fl → Int → Int → Option R) : Option R :=
 (match decide (x_3 < (e_1.length : Int)) with
  | true => (if 0 ≤ x_3 then ZbT (nth e_1 x_3.toNat) fun e1 => asInt .u8 e1 fun n2 => (match decide (IntKind.i64.wrap (x_3 + 1) ≤ (e_1.length : Int)) with
   | true => k (IntKind.i64.wrap n2) e_1 f_2 (IntKind.i64.wrap (x_3 + 1)) (IntKind.u64.wrap (IntKind.u64.wrap (IntKind.u64.wrap (x_4 * 6364136223846793005) + IntKind.u64.wrap (IntKind.i64.wrap n2)) + 1442695040888963407))
   | false => k (IntKind.i64.wrap (IntKind.u64.wrap (BitVec.ofInt IntKind.u64.bits (Int.fdiv (IntKind.u64.wrap (IntKind.u64.wrap (IntKind.u64.wrap (x_4 * 6364136223846793005) + IntKind.u64.wrap (IntKind.i64.wrap n2)) + 1442695040888963407)) (2 ^ (min (40 : Int).toNat 64))) &&& BitVec.ofInt IntKind.u64.bits 255).toNat)) e_1 f_2 (IntKind.i64.wrap (x_3 + 1)) (IntKind.u64.wrap (IntKind.u64.wrap (IntKind.u64.wrap (x_4 * 6364136223846793005) + IntKind.u64.wrap (IntKind.i64.wrap n2)) + 1442695040888963407))) else none)
  | false => (match decide (IntKind.i64.wrap (x_3 + 1) ≤ (e_1.length : Int)) with
  | true => k 0 e_1 f_2 (IntKind.i64.wrap (x_3 + 1)) (IntKind.u64.wrap (IntKind.u64.wrap (IntKind.u64.wrap (x_4 * 6364136223846793005) + 0) + 1442695040888963407))
  | false => k (IntKind.i64.wrap (IntKind.u64.wrap (BitVec.ofInt IntKind.u64.bits (Int.fdiv (IntKind.u64.wrap (IntKind.u64.wrap (IntKind.u64.wrap (x_4 * 6364136223846793005) + 0) + 1442695040888963407)) (2 ^ (min (40 : Int).toNat 64))) &&& BitVec.ofInt IntKind.u64.bits 255).toNat)) e_1 f_2 (IntKind.i64.wrap (x_3 + 1)) (IntKind.u64.wrap (IntKind.u64.wrap (IntKind.u64.wrap (x_4 * 6364136223846793005) + 0) + 1442695040888963407))))
def Ztv := @ZaD _ @Zh7
theorem Zjj : @Ztv = @Zh7 := @Zak _ @Zh7
def ZhF {R : Type} (N : Nat) (x_1 : Int) (e_2 : List V) (f_3 : Fl) (x_4 x_5 : Int) (k : Int → List V → Fl → Int → Int → Option R) : Option R :=
 (match decide (x_1 ≤ 1) with
  | true => k 0 e_2 f_3 x_4 x_5
  | false => Ztv N e_2 f_3 x_4 x_5 fun x1 e2 f3 x4 x5 => (match decide (x_1 > 200) with
  | true => Ztv N e2 f3 x4 x5 fun x6 e7 f8 x9 x10 => (if x_1 = 0 then none else k (Int.tmod (IntKind.i64.wrap (IntKind.i64.wrap (x1 * 256) + x6)) x_1) e7 f8 x9 x10)
  | false => (if x_1 = 0 then none else k (Int.tmod x1 x_1) e2 f3 x4 x5)))
def Zhy := @ZaD _ @ZhF
theorem ZgQ : @Zhy = @ZhF := @Zak _ @ZhF
def Zj5 {R : Type} (N : Nat) (x_1 : Int) (e_2 : List V) (f_3 : Fl) (x_4 x_5 : Int) (k : Bool → List V → Fl → Int → Int → Option R) : Option R :=
 Zhy N x_1 e_2 f_3 x_4 x_5 fun x1 e2 f3 x4 x5 => k (x1 == 0) e2 f3 x4 x5
def Znd := @ZaD _ @Zj5
theorem ZoS : @Znd = @Zj5 := @Zak _ @Zj5
def Zkf {R : Type} (N : Nat) (e_1 : List V) (f_2 : Fl) (e_3 : List V) (f_4 : Fl) (x_5 x_6 : Int) (k : ByteArray → List V → Fl → Int → Int → Option R) : Option R :=
 Zhy N (e_1.length : Int) e_3 f_4 x_5 x_6 fun x1 e2 f3 x4 x5 => (if 0 ≤ x1 then ZbT (nth e_1 x1.toNat) fun e6 => Za1 e6 fun w7 => k w7 e2 f3 x4 x5 else none)
def ZhV := @ZaD _ @Zkf
theorem Zpl : @ZhV = @Zkf := @Zak _ @Zkf
def Zb8 {R : Type} (N : Nat) (w_2 : ByteArray) (nx : ByteArray → Int → List V → Fl → Int → Int → Option R) (w_1 : ByteArray) (x_3 : Int) (e_4 : List V) (f_5 : Fl) (x_6 x_7 : Int) (k0 : ByteArray → List V → Fl → Int → Int → Option R) : Option R :=
 (match decide (x_3 > 0) with
  | true => (match decide ((w_1.size : Int) > 0) with
  | true => Zhy N (w_1.size : Int) e_4 f_5 x_6 x_7 fun x23 e24 f25 x26 x27 => Zhy N (w_2.size : Int) e24 f25 x26 x27 fun x28 e29 f30 x31 x32 => Zcd w_2 x28 fun n33 => (match ZxW [.int .u8 n33] with
     | some w34 => Zhy N 3 e29 f30 x31 x32 fun x35 e36 f37 x38 x39 => (match (x35 == 0) with
   | true => (if (0 : Int) ≤ x23 ∧ x23 ≤ (w_1.size : Int) then (if (ByteArray.extract w_1 0 ((x23 : Int).toNat)).size + (strOfNums w34).size ≤ 4611686018427387904 then (if (0 : Int) ≤ x23 ∧ x23 ≤ (w_1.size : Int) then (if ((ByteArray.extract w_1 0 ((x23 : Int).toNat)) ++ (strOfNums w34)).size + (ByteArray.extract w_1 ((x23 : Int).toNat) w_1.size).size ≤ 4611686018427387904 then nx (((ByteArray.extract w_1 0 ((x23 : Int).toNat)) ++ (strOfNums w34)) ++ (ByteArray.extract w_1 ((x23 : Int).toNat) w_1.size)) (IntKind.i64.wrap (x_3 - 1)) e36 f37 x38 x39 else none) else none) else none) else none)
   | false => (match (x35 == 1) with
    | true => (if (0 : Int) ≤ x23 ∧ x23 ≤ (w_1.size : Int) then (if (ByteArray.extract w_1 0 ((x23 : Int).toNat)).size + (strOfNums w34).size ≤ 4611686018427387904 then (if (0 : Int) ≤ IntKind.i64.wrap (x23 + 1) ∧ IntKind.i64.wrap (x23 + 1) ≤ (w_1.size : Int) then (if ((ByteArray.extract w_1 0 ((x23 : Int).toNat)) ++ (strOfNums w34)).size + (ByteArray.extract w_1 ((IntKind.i64.wrap (x23 + 1)).toNat) w_1.size).size ≤ 4611686018427387904 then nx (((ByteArray.extract w_1 0 ((x23 : Int).toNat)) ++ (strOfNums w34)) ++ (ByteArray.extract w_1 ((IntKind.i64.wrap (x23 + 1)).toNat) w_1.size)) (IntKind.i64.wrap (x_3 - 1)) e36 f37 x38 x39 else none) else none) else none) else none)
    | false => (if (0 : Int) ≤ x23 ∧ x23 ≤ (w_1.size : Int) then (if (0 : Int) ≤ IntKind.i64.wrap (x23 + 1) ∧ IntKind.i64.wrap (x23 + 1) ≤ (w_1.size : Int) then (if (ByteArray.extract w_1 0 ((x23 : Int).toNat)).size + (ByteArray.extract w_1 ((IntKind.i64.wrap (x23 + 1)).toNat) w_1.size).size ≤ 4611686018427387904 then nx ((ByteArray.extract w_1 0 ((x23 : Int).toNat)) ++ (ByteArray.extract w_1 ((IntKind.i64.wrap (x23 + 1)).toNat) w_1.size)) (IntKind.i64.wrap (x_3 - 1)) e36 f37 x38 x39 else none) else none) else none)))
     | none => none)
  | false => k0 w_1 e_4 f_5 x_6 x_7)
  | false => k0 w_1 e_4 f_5 x_6 x_7)
def ZcU {R : Type} (N : Nat) (w_2 : ByteArray) (k0 : ByteArray → List V → Fl → Int → Int → Option R) : Nat → ByteArray → Int → List V → Fl → Int → Int → Option R
 | 0, _, _, _, _, _, _ => none
 | n + 1, w_1, x_3, e_4, f_5, x_6, x_7 => Zb8 N w_2 (fun w_1 x_3 e_4 f_5 x_6 x_7 => ZcU N w_2 k0 n w_1 x_3 e_4 f_5 x_6 x_7) w_1 x_3 e_4 f_5 x_6 x_7 k0
def Zkp {R : Type} (N : Nat) (w_1 w_2 : ByteArray) (e_3 : List V) (f_4 : Fl) (x_5 x_6 : Int) (k : ByteArray → List V → Fl → Int → Int → Option R) : Option R :=
 Zhy N 2 e_3 f_4 x_5 x_6 fun x1 e2 f3 x4 x5 => ZcU N w_2
   (fun w40 e41 f42 x43 x44 => k w40 e41 f42 x43 x44)
   N w_1 (IntKind.i64.wrap (1 + x1)) e2 f3 x4 x5
def ZwV := @ZaD _ @Zkp
theorem ZpD : @ZwV = @Zkp := @Zak _ @Zkp
def Zdh {R : Type} (N : Nat) (nx : ByteArray → Int → List V → Fl → Int → Int → Option R) (w_1 : ByteArray) (x_2 : Int) (e_3 : List V) (f_4 : Fl) (x_5 x_6 : Int) (k0 : ByteArray → List V → Fl → Int → Int → Option R) : Option R :=
 (match decide (x_2 > 0) with
  | true => ZhV N [.str (ByteArray.mk #[97]), .str (ByteArray.mk #[98]), .str (ByteArray.mk #[99]), .str (ByteArray.mk #[46]), .str (ByteArray.mk #[46, 46]), .str (ByteArray.mk #[100, 49])] .sh e_3 f_4 x_5 x_6 fun w21 e22 f23 x24 x25 => ZhV N [.str (ByteArray.mk #[47]), .str (ByteArray.mk #[47]), .str (ByteArray.mk #[47, 47])] .sh e22 f23 x24 x25 fun w26 e27 f28 x29 x30 => (if w21.size + w26.size ≤ 4611686018427387904 then (if w_1.size + (w21 ++ w26).size ≤ 4611686018427387904 then nx (w_1 ++ (w21 ++ w26)) (IntKind.i64.wrap (x_2 - 1)) e27 f28 x29 x30 else none) else none)
  | false => k0 w_1 e_3 f_4 x_5 x_6)
def Zf6 {R : Type} (N : Nat) (k0 : ByteArray → List V → Fl → Int → Int → Option R) : Nat → ByteArray → Int → List V → Fl → Int → Int → Option R
 | 0, _, _, _, _, _, _ => none
 | n + 1, w_1, x_2, e_3, f_4, x_5, x_6 => Zdh N (fun w_1 x_2 e_3 f_4 x_5 x_6 => Zf6 N k0 n w_1 x_2 e_3 f_4 x_5 x_6) w_1 x_2 e_3 f_4 x_5 x_6 k0
def Zka {R : Type} (N : Nat) (e_1 : List V) (f_2 : Fl) (x_3 x_4 : Int) (k : ByteArray → List V → Fl → Int → Int → Option R) : Option R :=
 ZhV N [.str (ByteArray.mk #[47]), .str (ByteArray.mk #[]), .str (ByteArray.mk #[47]), .str (ByteArray.mk #[47, 47])] .sh e_1 f_2 x_3 x_4 fun w1 e2 f3 x4 x5 => Zhy N 4 e2 f3 x4 x5 fun x6 e7 f8 x9 x10 => Zf6 N
   (fun w31 e32 f33 x34 x35 => ZhV N [.str (ByteArray.mk #[97]), .str (ByteArray.mk #[98]), .str (ByteArray.mk #[46]), .str (ByteArray.mk #[46, 46]), .str (ByteArray.mk #[])] .sh e32 f33 x34 x35 fun w36 e37 f38 x39 x40 => (if w31.size + w36.size ≤ 4611686018427387904 then Znd N 20 e37 f38 x39 x40 fun b41 e42 f43 x44 x45 => (match b41 with
   | true => ZwV N (w31 ++ w36) (ByteArray.mk #[47, 65, 46]) e42 f43 x44 x45 fun w46 e47 f48 x49 x50 => k w46 e47 f48 x49 x50
   | false => k (w31 ++ w36) e42 f43 x44 x45) else none))
   N w1 x6 e7 f8 x9 x10
def ZtT := @ZaD _ @Zka
theorem ZoZ : @ZtT = @Zka := @Zak _ @Zka
def Zl7 {R : Type} (N : Nat) (e_1 : List V) (f_2 : Fl) (k : ByteArray → Option R) : Option R :=
 ZtT N e_1 f_2.noOwn.noOwn 0 0 fun w1 e2 f3 x4 x5 => k w1
def Zsl := @ZaD _ @Zl7
theorem Zql : @Zsl = @Zl7 := @Zak _ @Zl7
def ZkY {R : Type} (N : Nat) (e_1 : List V) (f_2 : Fl) (k : ByteArray → Option R) : Option R :=
 Zsl N e_1 f_2.noOwn.noOwn fun w1 => k w1
def Zvp := @ZaD _ @ZkY
theorem ZoO : @Zvp = @ZkY := @Zak _ @ZkY
def Zso {R : Type} (N : Nat) (w_1 : ByteArray) (x_2 : Int) (k : Int → Option R) : Option R :=
 k (Go.Lib.indexByte w_1.data.toList x_2.toNat.toUInt8)
def Zx8 := @ZaD _ @Zso
theorem Zp1 : @Zx8 = @Zso := @Zak _ @Zso
def ZjZ {R : Type} (N : Nat) (w_1 : ByteArray) (x_2 : Int) (k : Int → Option R) : Option R :=
 Zx8 N w_1 x_2 fun x1 => k x1
def Zwk := @ZaD _ @ZjZ
theorem Zpy : @Zwk = @ZjZ := @Zak _ @ZjZ
def ZlC {R : Type} (N : Nat) (w_1 w_2 : ByteArray) (k : Int → Option R) : Option R :=
 (match ((w_2.size : Int) == 0) with
  | true => k 0
  | false => (match (w_2.toList == w_1.toList) with
  | true => k 0
  | false => (match ((w_2.size : Int) == 1) with
   | true => Zcd w_2 0 fun n1 => Zwk N w_1 n1 fun x2 => k x2
   | false => (match decide ((w_2.size : Int) ≥ (w_1.size : Int)) with
   | true => k (-1)
   | false => none))))
def Zys := @ZaD _ @ZlC
theorem Zqb : @Zys = @ZlC := @Zak _ @ZlC
def ZlH {R : Type} (N : Nat) (w_1 w_2 : ByteArray) (k : Int → Option R) : Option R :=
 Zys N w_1 w_2 fun x1 => k x1
def ZtZ := @ZaD _ @ZlH
theorem Zqm : @ZtZ = @ZlH := @Zak _ @ZlH
def Zuw {R : Type} (N : Nat) (w_1 : ByteArray) (x_2 : Int) (k : Int → Option R) : Option R :=
 k ((Go.Lib.countByte w_1.data.toList x_2.toNat.toUInt8 : Nat) : Int)
def Zw4 := @ZaD _ @Zuw
theorem Zps : @Zw4 = @Zuw := @Zak _ @Zuw
def ZdN {R : Type} (N : Nat) (w_2 : ByteArray) (nx : ByteArray → Int → Option R) (w_1 : ByteArray) (x_3 : Int) (k0 : Int → Option R) : Option R :=
 ZtZ N w_1 w_2 fun x4 => (match (x4 == (-1)) with
  | true => k0 x_3
  | false => (if (0 : Int) ≤ IntKind.i64.wrap (x4 + (w_2.size : Int)) ∧ IntKind.i64.wrap (x4 + (w_2.size : Int)) ≤ (w_1.size : Int) then nx (ByteArray.extract w_1 ((IntKind.i64.wrap (x4 + (w_2.size : Int))).toNat) w_1.size) (IntKind.i64.wrap (x_3 + 1)) else none))
def Zjt {R : Type} (N : Nat) (w_2 : ByteArray) (k0 : Int → Option R) : Nat → ByteArray → Int → Option R
 | 0, _, _ => none
 | n + 1, w_1, x_3 => ZdN N w_2 (fun w_1 x_3 => Zjt N w_2 k0 n w_1 x_3) w_1 x_3 k0
def Zkl {R : Type} (N : Nat) (w_1 w_2 : ByteArray) (k : Int → Option R) : Option R :=
 (match ((w_2.size : Int) == 0) with
  | true => none
  | false => (match ((w_2.size : Int) == 1) with
  | true => Zcd w_2 0 fun n1 => Zw4 N w_1 n1 fun x2 => k x2
  | false => Zjt N w_2
    (fun x5 => k x5)
    N w_1 0))
def Zuo := @ZaD _ @Zkl
theorem ZoY : @Zuo = @Zkl := @Zak _ @Zkl
def ZcE {R : Type} (N : Nat) (w_2 : ByteArray) (x_3 x_4 : Int) (k_5 : Nat) (nx : ByteArray → Int → List V → Option R) (w_1 : ByteArray) (x_6 : Int) (e_7 : List V) (k0 : ByteArray → Int → List V → Option R) : Option R :=
 (match decide (x_6 < x_4) with
  | true => ZtZ N w_1 w_2 fun x5 => (match decide (x5 < 0) with
  | true => k0 w_1 x_6 e_7
  | false => (if (0 : Int) ≤ IntKind.i64.wrap (x5 + x_3) ∧ IntKind.i64.wrap (x5 + x_3) ≤ (w_1.size : Int) then (if (0 : Int) ≤ x_6 ∧ x_6 < k_5 then (match nth e_7 (0 + x_6.toNat) with
    | some e6 => (match Zb9 e6 0 [.str (ByteArray.extract w_1 0 ((IntKind.i64.wrap (x5 + x_3)).toNat))] with
    | some e7 => (if (0 : Int) ≤ IntKind.i64.wrap (x5 + (w_2.size : Int)) ∧ IntKind.i64.wrap (x5 + (w_2.size : Int)) ≤ (w_1.size : Int) then nx (ByteArray.extract w_1 ((IntKind.i64.wrap (x5 + (w_2.size : Int))).toNat) w_1.size) (IntKind.i64.wrap (x_6 + 1)) (ZaM e_7 (0 + x_6.toNat) e7) else none)
    | none => none)
    | none => none) else none) else none))
  | false => k0 w_1 x_6 e_7)
def ZdO {R : Type} (N : Nat) (w_2 : ByteArray) (x_3 x_4 : Int) (k_5 : Nat) (k0 : ByteArray → Int → List V → Option R) : Nat → ByteArray → Int → List V → Option R
 | 0, _, _, _ => none
 | n + 1, w_1, x_6, e_7 => ZcE N w_2 x_3 x_4 k_5 (fun w_1 x_6 e_7 => ZdO N w_2 x_3 x_4 k_5 k0 n w_1 x_6 e_7) w_1 x_6 e_7 k0
def ZlJ {R : Type} (N : Nat) (w_1 w_2 : ByteArray) (x_3 x_4 : Int) (k0 : List V → Option R) (k1 : Nat → List V → Option R) : Option R :=
 (match (x_4 == 0) with
  | true => k0 []
  | false => (match (w_2.toList == (ByteArray.mk #[]).toList) with
  | true => none
  | false => (match decide (x_4 < 0) with
   | true => Zuo N w_1 w_2 fun x1 => (if 0 ≤ (if IntKind.i64.wrap ((w_1.size : Int) + 1) < IntKind.i64.wrap (x1 + 1) then IntKind.i64.wrap ((w_1.size : Int) + 1) else IntKind.i64.wrap (x1 + 1)) ∧ (if IntKind.i64.wrap ((w_1.size : Int) + 1) < IntKind.i64.wrap (x1 + 1) then IntKind.i64.wrap ((w_1.size : Int) + 1) else IntKind.i64.wrap (x1 + 1)) = (if IntKind.i64.wrap ((w_1.size : Int) + 1) < IntKind.i64.wrap (x1 + 1) then IntKind.i64.wrap ((w_1.size : Int) + 1) else IntKind.i64.wrap (x1 + 1)) ∧ (if IntKind.i64.wrap ((w_1.size : Int) + 1) < IntKind.i64.wrap (x1 + 1) then IntKind.i64.wrap ((w_1.size : Int) + 1) else IntKind.i64.wrap (x1 + 1)) * 16 ≤ 140737488355328 then ZdO N w_2 x_3 (IntKind.i64.wrap ((if IntKind.i64.wrap ((w_1.size : Int) + 1) < IntKind.i64.wrap (x1 + 1) then IntKind.i64.wrap ((w_1.size : Int) + 1) else IntKind.i64.wrap (x1 + 1)) - 1)) (((if IntKind.i64.wrap ((w_1.size : Int) + 1) < IntKind.i64.wrap (x1 + 1) then IntKind.i64.wrap ((w_1.size : Int) + 1) else IntKind.i64.wrap (x1 + 1))).toNat)
     (fun w8 x9 e10 => (if (0 : Int) ≤ x9 ∧ x9 < ((if IntKind.i64.wrap ((w_1.size : Int) + 1) < IntKind.i64.wrap (x1 + 1) then IntKind.i64.wrap ((w_1.size : Int) + 1) else IntKind.i64.wrap (x1 + 1))).toNat then (match nth e10 (0 + x9.toNat) with
     | some e11 => (match Zb9 e11 0 [.str w8] with
     | some e12 => (if (0 : Int) ≤ IntKind.i64.wrap (x9 + 1) ∧ IntKind.i64.wrap (x9 + 1) ≤ (((if IntKind.i64.wrap ((w_1.size : Int) + 1) < IntKind.i64.wrap (x1 + 1) then IntKind.i64.wrap ((w_1.size : Int) + 1) else IntKind.i64.wrap (x1 + 1))).toNat : Int) then Zaj (ZaN (ZaM e10 (0 + x9.toNat) e12) && true) (k1 ((IntKind.i64.wrap (x9 + 1)).toNat) (ZaM e10 (0 + x9.toNat) e12)) else none)
     | none => none)
     | none => none) else none))
     N w_1 0 (List.replicate (((if IntKind.i64.wrap ((w_1.size : Int) + 1) < IntKind.i64.wrap (x1 + 1) then IntKind.i64.wrap ((w_1.size : Int) + 1) else IntKind.i64.wrap (x1 + 1))).toNat) (.str (ByteArray.mk #[]))) else none)
   | false => (if 0 ≤ (if IntKind.i64.wrap ((w_1.size : Int) + 1) < x_4 then IntKind.i64.wrap ((w_1.size : Int) + 1) else x_4) ∧ (if IntKind.i64.wrap ((w_1.size : Int) + 1) < x_4 then IntKind.i64.wrap ((w_1.size : Int) + 1) else x_4) = (if IntKind.i64.wrap ((w_1.size : Int) + 1) < x_4 then IntKind.i64.wrap ((w_1.size : Int) + 1) else x_4) ∧ (if IntKind.i64.wrap ((w_1.size : Int) + 1) < x_4 then IntKind.i64.wrap ((w_1.size : Int) + 1) else x_4) * 16 ≤ 140737488355328 then ZdO N w_2 x_3 (IntKind.i64.wrap ((if IntKind.i64.wrap ((w_1.size : Int) + 1) < x_4 then IntKind.i64.wrap ((w_1.size : Int) + 1) else x_4) - 1)) (((if IntKind.i64.wrap ((w_1.size : Int) + 1) < x_4 then IntKind.i64.wrap ((w_1.size : Int) + 1) else x_4)).toNat)
     (fun w13 x14 e15 => (if (0 : Int) ≤ x14 ∧ x14 < ((if IntKind.i64.wrap ((w_1.size : Int) + 1) < x_4 then IntKind.i64.wrap ((w_1.size : Int) + 1) else x_4)).toNat then (match nth e15 (0 + x14.toNat) with
     | some e16 => (match Zb9 e16 0 [.str w13] with
     | some e17 => (if (0 : Int) ≤ IntKind.i64.wrap (x14 + 1) ∧ IntKind.i64.wrap (x14 + 1) ≤ (((if IntKind.i64.wrap ((w_1.size : Int) + 1) < x_4 then IntKind.i64.wrap ((w_1.size : Int) + 1) else x_4)).toNat : Int) then Zaj (ZaN (ZaM e15 (0 + x14.toNat) e17) && true) (k1 ((IntKind.i64.wrap (x14 + 1)).toNat) (ZaM e15 (0 + x14.toNat) e17)) else none)
     | none => none)
     | none => none) else none))
     N w_1 0 (List.replicate (((if IntKind.i64.wrap ((w_1.size : Int) + 1) < x_4 then IntKind.i64.wrap ((w_1.size : Int) + 1) else x_4)).toNat) (.str (ByteArray.mk #[]))) else none))))
def Zyr := @ZaD _ @ZlJ
theorem Zov : @Zyr = @ZlJ := @Zak _ @ZlJ
def Zks {R : Type} (N : Nat) (w_1 w_2 : ByteArray) (k0 : List V → Option R) (k1 : Nat → List V → Option R) : Option R :=
 Zyr N w_1 w_2 0 (-1)
   (fun e1 => k0 e1)
   (fun k2 e3 => Zaj (ZaN e3 && true) (k1 k2 e3))
def Zwc := @ZaD _ @Zks
theorem ZpU : @Zwc = @Zks := @Zak _ @Zks
def Zim {R : Type} (N : Nat) (w_1 : ByteArray) (k : Bool → Option R) : Option R :=
 k (w_1.toList == (ByteArray.mk #[]).toList)
def Zuj := @ZaD _ @Zim
theorem ZiV : @Zuj = @Zim := @Zak _ @Zim
def ZcN {R : Type} (N : Nat) (e_1 : List V) (f_2 : Fl) (x_3 : Int) (nx : Int → Option R) (x_4 : Int) (k0 : Int → Option R) (k1 : Unit → Option R) : Option R :=
 (match decide (x_4 < x_3) with
  | true => (if 0 ≤ x_4 then ZbT (nth e_1 x_4.toNat) fun e4 => Za1 e4 fun w5 => Zuj N w5 fun b6 => (match b6 with
   | true => k0 x_4
   | false => nx (IntKind.i64.wrap (x_4 + 1))) else none)
  | false => k1 ())
def ZeP {R : Type} (N : Nat) (e_1 : List V) (f_2 : Fl) (x_3 : Int) (k0 : Int → Option R) (k1 : Unit → Option R) : Nat → Int → Option R
 | 0, _ => none
 | n + 1, x_4 => ZcN N e_1 f_2 x_3 (fun x_4 => ZeP N e_1 f_2 x_3 k0 k1 n x_4) x_4 k0 k1
def Zmk {R : Type} (N : Nat) (e_1 : List V) (f_2 : Fl) (k : Int → Option R) : Option R :=
 ZeP N e_1 f_2 (e_1.length : Int)
   (fun x7 => k x7)
   (fun (_ : Unit) => k (-1))
   N 0
def ZwY := @ZaD _ @Zmk
theorem Zo0 : @ZwY = @Zmk := @Zak _ @Zmk
def ZcG {R : Type} (N : Nat) (k_1 : Nat) (nx : Int → Int → List V → Option R) (x_2 x_3 : Int) (e_4 : List V) (k0 : Int → List V → Option R) : Option R :=
 (match decide (x_3 < (k_1 : Int)) with
  | true => (if (0 : Int) ≤ x_3 ∧ x_3 < k_1 then (match nth e_4 (0 + x_3.toNat) with
   | some e10 => ZdJ (e10.cells.drop 0) fun c11 l12 => Za1 c11 fun w13 => Zuj N w13 fun b14 => (match (!b14) with
   | true => (if (0 : Int) ≤ x_2 ∧ x_2 < k_1 then (match nth e_4 (0 + x_2.toNat) with
    | some e15 => (match Zb9 e15 0 [.str w13] with
     | some e16 => nx (IntKind.i64.wrap (x_2 + 1)) (IntKind.i64.wrap (x_3 + 1)) (ZaM e_4 (0 + x_2.toNat) e16)
     | none => none)
    | none => none) else none)
   | false => nx x_2 (IntKind.i64.wrap (x_3 + 1)) e_4)
   | none => none) else none)
  | false => k0 x_2 e_4)
def ZdZ {R : Type} (N : Nat) (k_1 : Nat) (k0 : Int → List V → Option R) : Nat → Int → Int → List V → Option R
 | 0, _, _, _ => none
 | n + 1, x_2, x_3, e_4 => ZcG N k_1 (fun x_2 x_3 e_4 => ZdZ N k_1 k0 n x_2 x_3 e_4) x_2 x_3 e_4 k0
def Zlx {R : Type} (N : Nat) (k_1 : Nat) (e_2 : List V) (k : Nat → List V → Option R) : Option R :=
 (match ZaX (ZaY true [some ⟨e_2, 1, 9, 0⟩] 11) ((e_2.drop 0).take k_1) with
  | some e1 => Zaj (decide (0 + k_1 ≤ e_2.length)) (ZwY N (e1.map V.lent) .bor fun x2 => (match (x2 == (-1)) with
   | true => Zaj (ZaN e_2 && true) (k k_1 e_2)
   | false => ZdZ N k_1
     (fun x17 e18 => (if (0 : Int) ≤ x17 ∧ x17 ≤ (k_1 : Int) then Zaj (decide ((0 + (x17 : Int).toNat) + (k_1 - (x17 : Int).toNat) ≤ e18.length)) ((if (0 : Int) ≤ x17 ∧ x17 ≤ (k_1 : Int) then Zaj (ZaN (ZeY e18 (0 + (x17 : Int).toNat) (k_1 - (x17 : Int).toNat) (.str (ByteArray.mk #[]))) && true) (k ((x17 : Int).toNat) (ZeY e18 (0 + (x17 : Int).toNat) (k_1 - (x17 : Int).toNat) (.str (ByteArray.mk #[])))) else none)) else none))
     N x2 (IntKind.i64.wrap (x2 + 1)) e_2))
  | none => none)
def Zw8 := @ZaD _ @Zlx
theorem ZpY : @Zw8 = @Zlx := @Zak _ @Zlx
def Zle {R : Type} (N : Nat) (w_1 : ByteArray) (k : List V → Option R) : Option R :=
 Zwc N w_1 (ByteArray.mk #[47])
   (fun e1 => none)
   (fun k2 e3 => Zaj (ZaN e3 && true) (Zw8 N k2 e3 fun k4 e5 => (match ZaX (ZaY false [some ⟨e5, 1, 9, 0⟩] 11) ((e5.drop 0).take k4) with
   | some e6 => Zaj (decide (0 + k4 ≤ e5.length)) (Zaj (e6.all V.plain) (k e6))
   | none => none)))
def ZqJ := @ZaD _ @Zle
theorem ZpZ : @ZqJ = @Zle := @Zak _ @Zle
def Zlb {R : Type} (N : Nat) (x_1 x_2 x_3 : Int) (k : Bool → Option R) : Option R :=
 (match decide (x_1 ≥ x_2) with
  | true => k (decide (x_1 ≤ x_3))
  | false => k false)
def Zva := @ZaD _ @Zlb
theorem ZpP : @Zva = @Zlb := @Zak _ @Zlb
def Zlj {R : Type} (N : Nat) (x_1 : Int) (k : Bool → Option R) : Option R :=
 (match decide (x_1 ≥ 97) with
  | true => (match decide (x_1 ≤ 122) with
  | true => k true
  | false => (match decide (x_1 ≥ 48) with
   | true => (match decide (x_1 ≤ 57) with
   | true => k true
   | false => (match (x_1 == 46) with
    | true => k true
    | false => (match (x_1 == 95) with
    | true => k true
    | false => k (x_1 == 45))))
   | false => (match (x_1 == 46) with
   | true => k true
   | false => (match (x_1 == 95) with
    | true => k true
    | false => k (x_1 == 45)))))
  | false => (match decide (x_1 ≥ 48) with
  | true => (match decide (x_1 ≤ 57) with
   | true => k true
   | false => (match (x_1 == 46) with
   | true => k true
   | false => (match (x_1 == 95) with
    | true => k true
    | false => k (x_1 == 45))))
  | false => (match (x_1 == 46) with
   | true => k true
   | false => (match (x_1 == 95) with
   | true => k true
   | false => k (x_1 == 45)))))
def Zw2 := @ZaD _ @Zlj
theorem Zp4 : @Zw2 = @Zlj := @Zak _ @Zlj
def Zld {R : Type} (N : Nat) (x_1 : Int) (k : Bool → Option R) : Option R :=
 Zw2 N x_1 fun b1 => k (!b1)
def Zyv := @ZaD _ @Zld
theorem Zqi : @Zyv = @Zld := @Zak _ @Zld
def ZcH {R : Type} (N : Nat) (e_1 : List V) (f_2 : Fl) (x_3 : Int) (nx : Int → Option R) (x_4 : Int) (k0 : Int → Option R) (k1 : Unit → Option R) : Option R :=
 (match decide (x_4 < x_3) with
  | true => (if 0 ≤ x_4 then ZbT (nth e_1 x_4.toNat) fun e4 => asInt .u8 e4 fun n5 => Zyv N n5 fun b6 => (match b6 with
   | true => k0 x_4
   | false => nx (IntKind.i64.wrap (x_4 + 1))) else none)
  | false => k1 ())
def Ze1 {R : Type} (N : Nat) (e_1 : List V) (f_2 : Fl) (x_3 : Int) (k0 : Int → Option R) (k1 : Unit → Option R) : Nat → Int → Option R
 | 0, _ => none
 | n + 1, x_4 => ZcH N e_1 f_2 x_3 (fun x_4 => Ze1 N e_1 f_2 x_3 k0 k1 n x_4) x_4 k0 k1
def Zme {R : Type} (N : Nat) (e_1 : List V) (f_2 : Fl) (k : Int → Option R) : Option R :=
 Ze1 N e_1 f_2 (e_1.length : Int)
   (fun x7 => k x7)
   (fun (_ : Unit) => k (-1))
   N 0
def Zyn := @ZaD _ @Zme
theorem Zow : @Zyn = @Zme := @Zak _ @Zme
def Zlt {R : Type} (N : Nat) (e_1 : List V) (f_2 : Fl) (k : Bool → Option R) : Option R :=
 Zyn N e_1 f_2.noOwn.noOwn fun x1 => k (decide (x1 ≥ 0))
def ZvX := @ZaD _ @Zlt
theorem Zpn : @ZvX = @Zlt := @Zak _ @Zlt
def Zll {R : Type} (N : Nat) (w_1 : ByteArray) (k : Bool → Option R) : Option R :=
 Zva N (w_1.size : Int) 1 8 fun b1 => (match b1 with
  | true => ZvX N (Zct w_1) .sh fun b2 => k (!b2)
  | false => k false)
def ZsO := @ZaD _ @Zll
theorem Zqe : @ZsO = @Zll := @Zak _ @Zll
def Zlu {R : Type} (N : Nat) (w_1 : ByteArray) (k : Bool → Option R) : Option R :=
 ZsO N w_1 fun b1 => k (!b1)
def ZxF := @ZaD _ @Zlu
theorem ZoF : @ZxF = @Zlu := @Zak _ @Zlu
def ZcQ {R : Type} (N : Nat) (e_1 : List V) (f_2 : Fl) (x_3 : Int) (nx : Int → Option R) (x_4 : Int) (k0 : Int → Option R) (k1 : Unit → Option R) : Option R :=
 (match decide (x_4 < x_3) with
  | true => (if 0 ≤ x_4 then ZbT (nth e_1 x_4.toNat) fun e4 => Za1 e4 fun w5 => ZxF N w5 fun b6 => (match b6 with
   | true => k0 x_4
   | false => nx (IntKind.i64.wrap (x_4 + 1))) else none)
  | false => k1 ())
def ZeT {R : Type} (N : Nat) (e_1 : List V) (f_2 : Fl) (x_3 : Int) (k0 : Int → Option R) (k1 : Unit → Option R) : Nat → Int → Option R
 | 0, _ => none
 | n + 1, x_4 => ZcQ N e_1 f_2 x_3 (fun x_4 => ZeT N e_1 f_2 x_3 k0 k1 n x_4) x_4 k0 k1
def Zj1 {R : Type} (N : Nat) (e_1 : List V) (f_2 : Fl) (k : Int → Option R) : Option R :=
 ZeT N e_1 f_2 (e_1.length : Int)
   (fun x7 => k x7)
   (fun (_ : Unit) => k (-1))
   N 0
def ZxI := @ZaD _ @Zj1
theorem Zqd : @ZxI = @Zj1 := @Zak _ @Zj1
def Zj0 {R : Type} (N : Nat) (e_1 : List V) (f_2 : Fl) (k : Bool → Option R) : Option R :=
 ZxI N e_1 f_2.noOwn.noOwn fun x1 => k (decide (x1 ≥ 0))
def Zvs := @ZaD _ @Zj0
theorem ZpW : @Zvs = @Zj0 := @Zak _ @Zj0
def Zlv {R : Type} (N : Nat) (w_1 : ByteArray) (k : Bool → Option R) : Option R :=
 (match (!(w_1.toList == (ByteArray.mk #[]).toList)) with
  | true => ZqJ N w_1 fun e1 => Zvs N e1 .sh fun b2 => k (!b2)
  | false => k false)
def ZxD := @ZaD _ @Zlv
theorem Zpg : @ZxD = @Zlv := @Zak _ @Zlv
def Zj3 {R : Type} (N : Nat) (w_1 : ByteArray) (k : Bool → Option R) : Option R :=
 (match decide ((w_1.size : Int) ≤ 60) with
  | true => ZxD N w_1 fun b1 => k b1
  | false => k false)
def Zhm := @ZaD _ @Zj3
theorem ZoU : @Zhm = @Zj3 := @Zak _ @Zj3
def Zib {R : Type} (N : Nat) (e_1 : List V) (f_2 : Fl) (w_3 : ByteArray) (k : ByteArray → Option R) : Option R :=
 Zuu e_1 w_3 k
def ZvV := @ZaD _ @Zib
theorem ZjJ : @ZvV = @Zib := @Zak _ @Zib
def ZkO {R : Type} (N : Nat) (e_1 : List V) (f_2 : Fl) (k : ByteArray → Option R) : Option R :=
 ZvV N e_1 f_2.noOwn.noOwn (ByteArray.mk #[47]) fun w1 => (if (ByteArray.mk #[47]).size + w1.size ≤ 4611686018427387904 then k ((ByteArray.mk #[47]) ++ w1) else none)
def Zre := @ZaD _ @ZkO
theorem Zqh : @Zre = @ZkO := @Zak _ @ZkO
def Zcl {R : Type} (N : Nat) (b_1 : Bool) (e_2 : List V) (x_3 : Int) (nx : Nat → Nat → Int → Ob → Option R) (k_5 k_6 : Nat) (x_4 : Int) (O_9 : Ob) (k0 : Nat → Nat → Ob → Option R) : Option R :=
 (match decide (x_4 < x_3) with
  | true => (if 0 ≤ x_4 then ZbT (nth e_2 x_4.toNat) fun e18 => Za1 e18 fun w19 => (match (w19.toList == (ByteArray.mk #[46]).toList) with
   | true => nx k_5 k_6 (IntKind.i64.wrap (x_4 + 1)) O_9
   | false => (match (!(w19.toList == (ByteArray.mk #[46, 46]).toList)) with
   | true => (match Za9 [some O_9] 0 k_5 with
    | some ob20 => (if k_6 ≤ ob20.es.length then (match Za9 [some { ob20 with es := (ob20.es.take k_6) }] 0 k_5 with
     | some ob21 => Zaj (Nat.beq ob21.elem 9) ((if 0 = 0 ∧ k_6 = ob21.es.length ∧ (k_6 + 1) * 16 ≤ 140737488355328 ∧ 0 < 1 then nx (k_5 + 1) (k_6 + 1) (IntKind.i64.wrap (x_4 + 1)) ({ ob21 with es := (ob21.es ++ ([.str w19] : List V)), ver := (k_5 + 1) }) else none))
     | none => none) else none)
    | none => none)
   | false => (match decide (IntKind.i64.wrap ((k_6 : Int) - 1) ≥ 0) with
    | true => (match Za9 [some O_9] 0 k_5 with
    | some ob22 => Zaj (Nat.beq ob22.elem 9) ((if (0 : Int) ≤ IntKind.i64.wrap ((k_6 : Int) - 1) ∧ IntKind.i64.wrap ((k_6 : Int) - 1) < k_6 then (match Za9 [some O_9] 0 k_5 with
      | some ob23 => (match nth ob23.es (0 + (IntKind.i64.wrap ((k_6 : Int) - 1)).toNat) with
      | some e24 => ZdJ (e24.cells.drop 0) fun c25 l26 => Za1 c25 fun w27 => (match (!(w27.toList == (ByteArray.mk #[46, 46]).toList)) with
       | true => (match Za9 [some O_9] 0 k_5 with
       | some ob28 => (match Nat.beq ob28.esz 1 with
        | true => (if (0 : Int) ≤ IntKind.i64.wrap ((k_6 : Int) - 1) ∧ IntKind.i64.wrap ((k_6 : Int) - 1) ≤ (k_6 : Int) then nx k_5 ((IntKind.i64.wrap ((k_6 : Int) - 1)).toNat) (IntKind.i64.wrap (x_4 + 1)) O_9 else none)
        | false => none)
       | none => none)
       | false => (match (!b_1) with
       | true => (match Za9 [some O_9] 0 k_5 with
        | some ob29 => (if k_6 ≤ ob29.es.length then (match Za9 [some { ob29 with es := (ob29.es.take k_6) }] 0 k_5 with
         | some ob30 => Zaj (Nat.beq ob30.elem 9) ((if 0 = 0 ∧ k_6 = ob30.es.length ∧ (k_6 + 1) * 16 ≤ 140737488355328 ∧ 0 < 1 then nx (k_5 + 1) (k_6 + 1) (IntKind.i64.wrap (x_4 + 1)) ({ ob30 with es := (ob30.es ++ ([.str w19] : List V)), ver := (k_5 + 1) }) else none))
         | none => none) else none)
        | none => none)
       | false => nx k_5 k_6 (IntKind.i64.wrap (x_4 + 1)) O_9))
      | none => none)
      | none => none) else none))
    | none => none)
    | false => (match (!b_1) with
    | true => (match Za9 [some O_9] 0 k_5 with
     | some ob31 => (if k_6 ≤ ob31.es.length then (match Za9 [some { ob31 with es := (ob31.es.take k_6) }] 0 k_5 with
      | some ob32 => Zaj (Nat.beq ob32.elem 9) ((if 0 = 0 ∧ k_6 = ob32.es.length ∧ (k_6 + 1) * 16 ≤ 140737488355328 ∧ 0 < 1 then nx (k_5 + 1) (k_6 + 1) (IntKind.i64.wrap (x_4 + 1)) ({ ob32 with es := (ob32.es ++ ([.str w19] : List V)), ver := (k_5 + 1) }) else none))
      | none => none) else none)
     | none => none)
    | false => nx k_5 k_6 (IntKind.i64.wrap (x_4 + 1)) O_9)))) else none)
  | false => k0 k_5 k_6 O_9)
def Zdm {R : Type} (N : Nat) (b_1 : Bool) (e_2 : List V) (x_3 : Int) (k0 : Nat → Nat → Ob → Option R) : Nat → Nat → Nat → Int → Ob → Option R
 | 0, _, _, _, _ => none
 | n + 1, k_5, k_6, x_4, O_9 => Zcl N b_1 e_2 x_3 (fun k_5 k_6 x_4 O_9 => Zdm N b_1 e_2 x_3 k0 n k_5 k_6 x_4 O_9) k_5 k_6 x_4 O_9 k0
def ZkX {R : Type} (N : Nat) (w_1 : ByteArray) (k : ByteArray → Option R) : Option R :=
 Zcd w_1 0 fun n1 => ZqJ N w_1 fun e2 => Zdm N (n1 == 47) e2 (e2.length : Int)
   (fun k33 k34 O35 => (match (n1 == 47) with
  | true => (match Za9 [some O35] 0 k33 with
   | some ob36 => (match ZaX (ZaY true [some O35] 11) ((ob36.es.drop 0).take k34) with
   | some e37 => Zaj (decide (0 + k34 ≤ ob36.es.length)) ((match Nat.beq ob36.esz 1 with
    | true => Zre N (e37.map V.lent) .bor fun w38 => k w38
    | false => none))
   | none => none)
   | none => none)
  | false => (match ((k34 : Int) == 0) with
   | true => k (ByteArray.mk #[46])
   | false => (match Za9 [some O35] 0 k33 with
   | some ob39 => (match ZaX (ZaY true [some O35] 11) ((ob39.es.drop 0).take k34) with
    | some e40 => Zaj (decide (0 + k34 ≤ ob39.es.length)) ((match Nat.beq ob39.esz 1 with
     | true => ZvV N (e40.map V.lent) .bor (ByteArray.mk #[47]) fun w41 => k w41
     | false => none))
    | none => none)
   | none => none))))
   N 0 0 0 (⟨[], 1, 9, 0⟩ : Ob)
def Zsz := @ZaD _ @ZkX
theorem ZpS : @Zsz = @ZkX := @Zak _ @ZkX
def Zl2 {R : Type} (N : Nat) (w_1 : ByteArray) (k : ByteArray → Bool → Option R) : Option R :=
 Zhm N w_1 fun b1 => (match (!b1) with
  | true => k (ByteArray.mk #[]) false
  | false => Zsz N w_1 fun w2 => k w2 true)
def Zm9 := @ZaD _ @Zl2
theorem Zo4 : @Zm9 = @Zl2 := @Zak _ @Zl2
def Zl4 {R : Type} (N : Nat) (x_1 x_2 x_3 : Int) (k : Bool → Option R) : Option R :=
 (match decide (x_1 ≥ x_2) with
  | true => k (decide (x_1 ≤ x_3))
  | false => k false)
def ZuE := @ZaD _ @Zl4
theorem ZoC : @ZuE = @Zl4 := @Zak _ @Zl4
def ZcM {R : Type} (N : Nat) (w_1 : ByteArray) (nx : Int → Option R) (x_2 : Int) (k0 : Unit → Option R) (k1 : Unit → Option R) : Option R :=
 (match decide (x_2 < (w_1.size : Int)) with
  | true => Zcd w_1 x_2 fun n2 => (match decide (n2 < 97) with
  | true => (match decide (n2 < 48) with
   | true => (match (n2 != 46) with
   | true => (match (n2 != 95) with
    | true => (match (n2 != 45) with
    | true => k0 ()
    | false => nx (IntKind.i64.wrap (x_2 + 1)))
    | false => nx (IntKind.i64.wrap (x_2 + 1)))
   | false => nx (IntKind.i64.wrap (x_2 + 1)))
   | false => (match decide (n2 > 57) with
   | true => (match (n2 != 46) with
    | true => (match (n2 != 95) with
    | true => (match (n2 != 45) with
     | true => k0 ()
     | false => nx (IntKind.i64.wrap (x_2 + 1)))
    | false => nx (IntKind.i64.wrap (x_2 + 1)))
    | false => nx (IntKind.i64.wrap (x_2 + 1)))
   | false => nx (IntKind.i64.wrap (x_2 + 1))))
  | false => (match decide (n2 > 122) with
   | true => (match decide (n2 < 48) with
   | true => (match (n2 != 46) with
    | true => (match (n2 != 95) with
    | true => (match (n2 != 45) with
     | true => k0 ()
     | false => nx (IntKind.i64.wrap (x_2 + 1)))
    | false => nx (IntKind.i64.wrap (x_2 + 1)))
    | false => nx (IntKind.i64.wrap (x_2 + 1)))
   | false => (match decide (n2 > 57) with
    | true => (match (n2 != 46) with
    | true => (match (n2 != 95) with
     | true => (match (n2 != 45) with
     | true => k0 ()
     | false => nx (IntKind.i64.wrap (x_2 + 1)))
     | false => nx (IntKind.i64.wrap (x_2 + 1)))
    | false => nx (IntKind.i64.wrap (x_2 + 1)))
    | false => nx (IntKind.i64.wrap (x_2 + 1))))
   | false => nx (IntKind.i64.wrap (x_2 + 1))))
  | false => k1 ())
def ZdQ {R : Type} (N : Nat) (w_1 : ByteArray) (k0 : Unit → Option R) (k1 : Unit → Option R) : Nat → Int → Option R
 | 0, _ => none
 | n + 1, x_2 => ZcM N w_1 (fun x_2 => ZdQ N w_1 k0 k1 n x_2) x_2 k0 k1
def Zkz {R : Type} (N : Nat) (w_1 : ByteArray) (k : Bool → Option R) : Option R :=
 ZdQ N w_1
   (fun (_ : Unit) => k false)
   (fun (_ : Unit) => ZuE N (w_1.size : Int) 1 8 fun b3 => (match b3 with
  | true => (match (!(w_1.toList == (ByteArray.mk #[46]).toList)) with
   | true => k (!(w_1.toList == (ByteArray.mk #[46, 46]).toList))
   | false => k false)
  | false => k false))
   N 0
def ZrG := @ZaD _ @Zkz
theorem Zp8 : @ZrG = @Zkz := @Zak _ @Zkz
def ZcS {R : Type} (N : Nat) (w_1 : ByteArray) (x_2 : Int) (nx : List V → Int → Int → Option R) (e_3 : List V) (x_4 x_5 : Int) (k0 : List V → Int → Option R) : Option R :=
 (match decide (x_5 < (w_1.size : Int)) with
  | true => Zcd w_1 x_5 fun n2 => (match (n2 == x_2) with
  | true => (if (0 : Int) ≤ x_5 ∧ x_5 ≤ (w_1.size : Int) then (if (0 : Int) ≤ x_4 ∧ x_4 ≤ ((x_5 : Int).toNat : Int) then (if (e_3.length + 1) * 16 ≤ 140737488355328 then nx (e_3 ++ ([.str (ByteArray.extract w_1 ((x_4 : Int).toNat) ((x_5 : Int).toNat))] : List V)) (IntKind.i64.wrap (x_5 + 1)) (IntKind.i64.wrap (x_5 + 1)) else none) else none) else none)
  | false => nx e_3 x_4 (IntKind.i64.wrap (x_5 + 1)))
  | false => k0 e_3 x_4)
def ZeH {R : Type} (N : Nat) (w_1 : ByteArray) (x_2 : Int) (k0 : List V → Int → Option R) : Nat → List V → Int → Int → Option R
 | 0, _, _, _ => none
 | n + 1, e_3, x_4, x_5 => ZcS N w_1 x_2 (fun e_3 x_4 x_5 => ZeH N w_1 x_2 k0 n e_3 x_4 x_5) e_3 x_4 x_5 k0
def ZkB {R : Type} (N : Nat) (w_1 : ByteArray) (x_2 : Int) (k : List V → Option R) : Option R :=
 ZeH N w_1 x_2
   (fun e3 x4 => (if (0 : Int) ≤ x4 ∧ x4 ≤ (w_1.size : Int) then (if (e3.length + 1) * 16 ≤ 140737488355328 then k (e3 ++ ([.str (ByteArray.extract w_1 ((x4 : Int).toNat) w_1.size)] : List V)) else none) else none))
   N [] 0 0
def Zwg := @ZaD _ @ZkB
theorem ZoX : @Zwg = @ZkB := @Zak _ @ZkB
def ZcR {R : Type} (N : Nat) (e_2 : List V) (x_3 : Int) (nx : List V → Int → Option R) (e_1 : List V) (x_4 : Int) (k0 : List V → Option R) : Option R :=
 (match decide (x_4 < x_3) with
  | true => (if 0 ≤ x_4 then ZbT (nth e_2 x_4.toNat) fun e4 => Za1 e4 fun w5 => (match (!(w5.toList == (ByteArray.mk #[]).toList)) with
   | true => (if (e_1.length + 1) * 16 ≤ 140737488355328 then nx (e_1 ++ ([.str w5] : List V)) (IntKind.i64.wrap (x_4 + 1)) else none)
   | false => nx e_1 (IntKind.i64.wrap (x_4 + 1))) else none)
  | false => k0 e_1)
def ZeJ {R : Type} (N : Nat) (e_2 : List V) (x_3 : Int) (k0 : List V → Option R) : Nat → List V → Int → Option R
 | 0, _, _ => none
 | n + 1, e_1, x_4 => ZcR N e_2 x_3 (fun e_1 x_4 => ZeJ N e_2 x_3 k0 n e_1 x_4) e_1 x_4 k0
def ZkJ {R : Type} (N : Nat) (w_1 : ByteArray) (k : List V → Option R) : Option R :=
 Zwg N w_1 47 fun e1 => ZeJ N e1 (e1.length : Int)
   (fun e6 => k e6)
   N [] 0
def ZrS := @ZaD _ @ZkJ
theorem ZoG : @ZrS = @ZkJ := @Zak _ @ZkJ
def ZcP {R : Type} (N : Nat) (w_1 : ByteArray) (e_2 : List V) (x_3 : Int) (nx : Int → Option R) (x_4 : Int) (k0 : Unit → Option R) (k1 : Unit → Option R) : Option R :=
 (match decide (x_4 < x_3) with
  | true => (if 0 ≤ x_4 then ZbT (nth e_2 x_4.toNat) fun e5 => Za1 e5 fun w6 => ZrG N w6 fun b7 => (match (!b7) with
   | true => (match (!(w6.toList == (ByteArray.mk #[46]).toList)) with
   | true => (match (!(w6.toList == (ByteArray.mk #[46, 46]).toList)) with
    | true => k0 ()
    | false => nx (IntKind.i64.wrap (x_4 + 1)))
   | false => nx (IntKind.i64.wrap (x_4 + 1)))
   | false => nx (IntKind.i64.wrap (x_4 + 1))) else none)
  | false => k1 ())
def ZeO {R : Type} (N : Nat) (w_1 : ByteArray) (e_2 : List V) (x_3 : Int) (k0 : Unit → Option R) (k1 : Unit → Option R) : Nat → Int → Option R
 | 0, _ => none
 | n + 1, x_4 => ZcP N w_1 e_2 x_3 (fun x_4 => ZeO N w_1 e_2 x_3 k0 k1 n x_4) x_4 k0 k1
def ZkK {R : Type} (N : Nat) (w_1 : ByteArray) (k : Bool → Option R) : Option R :=
 ZrS N w_1 fun e1 => ZeO N w_1 e1 (e1.length : Int)
   (fun (_ : Unit) => k false)
   (fun (_ : Unit) => ZuE N (w_1.size : Int) 1 60 fun b8 => k b8)
   N 0
def ZjL := @ZaD _ @ZkK
theorem ZpF : @ZjL = @ZkK := @Zak _ @ZkK
def ZcI {R : Type} (N : Nat) (e_2 : List V) (f_3 : Fl) (x_4 : Int) (nx : ByteArray → Int → Option R) (w_1 : ByteArray) (x_5 : Int) (k0 : ByteArray → Option R) : Option R :=
 (match decide (x_5 < x_4) with
  | true => (if 0 ≤ x_5 then ZbT (nth e_2 x_5.toNat) fun e3 => Za1 e3 fun w4 => (if (ByteArray.mk #[47]).size + w4.size ≤ 4611686018427387904 then (if w_1.size + ((ByteArray.mk #[47]) ++ w4).size ≤ 4611686018427387904 then nx (w_1 ++ ((ByteArray.mk #[47]) ++ w4)) (IntKind.i64.wrap (x_5 + 1)) else none) else none) else none)
  | false => k0 w_1)
def ZeV {R : Type} (N : Nat) (e_2 : List V) (f_3 : Fl) (x_4 : Int) (k0 : ByteArray → Option R) : Nat → ByteArray → Int → Option R
 | 0, _, _ => none
 | n + 1, w_1, x_5 => ZcI N e_2 f_3 x_4 (fun w_1 x_5 => ZeV N e_2 f_3 x_4 k0 n w_1 x_5) w_1 x_5 k0
def ZkS {R : Type} (N : Nat) (e_1 : List V) (f_2 : Fl) (k : ByteArray → Option R) : Option R :=
 (match ((e_1.length : Int) == 0) with
  | true => k (ByteArray.mk #[47])
  | false => ZeV N e_1 f_2.noOwn (e_1.length : Int)
    (fun w5 => k w5)
    N (ByteArray.mk #[]) 0)
def ZhU := @ZaD _ @ZkS
theorem Zpe : @ZhU = @ZkS := @Zak _ @ZkS
def Zcj {R : Type} (N : Nat) (w_1 : ByteArray) (e_2 : List V) (x_3 : Int) (nx : Nat → Nat → Int → Ob → Option R) (k_5 k_6 : Nat) (x_4 : Int) (O_9 : Ob) (k0 : Nat → Nat → Ob → Option R) : Option R :=
 (match decide (x_4 < x_3) with
  | true => (if 0 ≤ x_4 then ZbT (nth e_2 x_4.toNat) fun e26 => Za1 e26 fun w27 => (match (w27.toList == (ByteArray.mk #[46]).toList) with
   | true => nx k_5 k_6 (IntKind.i64.wrap (x_4 + 1)) O_9
   | false => (match (w27.toList == (ByteArray.mk #[46, 46]).toList) with
   | true => (match decide ((k_6 : Int) > 0) with
    | true => (match Za9 [some ⟨[], 1, 9, 0⟩, some O_9] 1 k_5 with
    | some ob28 => Zaj (Nat.beq ob28.elem 9) ((if (0 : Int) ≤ IntKind.i64.wrap ((k_6 : Int) - 1) ∧ IntKind.i64.wrap ((k_6 : Int) - 1) < k_6 then (match Za9 [some ⟨[], 1, 9, 0⟩, some O_9] 1 k_5 with
      | some ob29 => (match nth ob29.es (0 + (IntKind.i64.wrap ((k_6 : Int) - 1)).toNat) with
      | some e30 => ZdJ (e30.cells.drop 0) fun c31 l32 => Za1 c31 fun w33 => (match (!(w33.toList == (ByteArray.mk #[46, 46]).toList)) with
       | true => (match Za9 [some ⟨[], 1, 9, 0⟩, some O_9] 1 k_5 with
       | some ob34 => (match Nat.beq ob34.esz 1 with
        | true => (if (0 : Int) ≤ IntKind.i64.wrap ((k_6 : Int) - 1) ∧ IntKind.i64.wrap ((k_6 : Int) - 1) ≤ (k_6 : Int) then nx k_5 ((IntKind.i64.wrap ((k_6 : Int) - 1)).toNat) (IntKind.i64.wrap (x_4 + 1)) O_9 else none)
        | false => none)
       | none => none)
       | false => (match (w27.toList == (ByteArray.mk #[46, 46]).toList) with
       | true => Zcd w_1 0 fun n35 => (match (n35 == 47) with
        | true => nx k_5 k_6 (IntKind.i64.wrap (x_4 + 1)) O_9
        | false => (match Za9 [some ⟨[], 1, 9, 0⟩, some O_9] 1 k_5 with
        | some ob36 => (if k_6 ≤ ob36.es.length then (match Za9 [some ⟨[], 1, 9, 0⟩, some { ob36 with es := (ob36.es.take k_6) }] 1 k_5 with
         | some ob37 => Zaj (Nat.beq ob37.elem 9) ((if 0 = 0 ∧ k_6 = ob37.es.length ∧ (k_6 + 1) * 16 ≤ 140737488355328 ∧ 0 < 1 then nx (k_5 + 1) (k_6 + 1) (IntKind.i64.wrap (x_4 + 1)) ({ ob37 with es := (ob37.es ++ ([.str w27] : List V)), ver := (k_5 + 1) }) else none))
         | none => none) else none)
        | none => none))
       | false => (match Za9 [some ⟨[], 1, 9, 0⟩, some O_9] 1 k_5 with
        | some ob38 => (if k_6 ≤ ob38.es.length then (match Za9 [some ⟨[], 1, 9, 0⟩, some { ob38 with es := (ob38.es.take k_6) }] 1 k_5 with
         | some ob39 => Zaj (Nat.beq ob39.elem 9) ((if 0 = 0 ∧ k_6 = ob39.es.length ∧ (k_6 + 1) * 16 ≤ 140737488355328 ∧ 0 < 1 then nx (k_5 + 1) (k_6 + 1) (IntKind.i64.wrap (x_4 + 1)) ({ ob39 with es := (ob39.es ++ ([.str w27] : List V)), ver := (k_5 + 1) }) else none))
         | none => none) else none)
        | none => none)))
      | none => none)
      | none => none) else none))
    | none => none)
    | false => (match (w27.toList == (ByteArray.mk #[46, 46]).toList) with
    | true => Zcd w_1 0 fun n40 => (match (n40 == 47) with
     | true => nx k_5 k_6 (IntKind.i64.wrap (x_4 + 1)) O_9
     | false => (match Za9 [some ⟨[], 1, 9, 0⟩, some O_9] 1 k_5 with
     | some ob41 => (if k_6 ≤ ob41.es.length then (match Za9 [some ⟨[], 1, 9, 0⟩, some { ob41 with es := (ob41.es.take k_6) }] 1 k_5 with
      | some ob42 => Zaj (Nat.beq ob42.elem 9) ((if 0 = 0 ∧ k_6 = ob42.es.length ∧ (k_6 + 1) * 16 ≤ 140737488355328 ∧ 0 < 1 then nx (k_5 + 1) (k_6 + 1) (IntKind.i64.wrap (x_4 + 1)) ({ ob42 with es := (ob42.es ++ ([.str w27] : List V)), ver := (k_5 + 1) }) else none))
      | none => none) else none)
     | none => none))
    | false => (match Za9 [some ⟨[], 1, 9, 0⟩, some O_9] 1 k_5 with
     | some ob43 => (if k_6 ≤ ob43.es.length then (match Za9 [some ⟨[], 1, 9, 0⟩, some { ob43 with es := (ob43.es.take k_6) }] 1 k_5 with
      | some ob44 => Zaj (Nat.beq ob44.elem 9) ((if 0 = 0 ∧ k_6 = ob44.es.length ∧ (k_6 + 1) * 16 ≤ 140737488355328 ∧ 0 < 1 then nx (k_5 + 1) (k_6 + 1) (IntKind.i64.wrap (x_4 + 1)) ({ ob44 with es := (ob44.es ++ ([.str w27] : List V)), ver := (k_5 + 1) }) else none))
      | none => none) else none)
     | none => none)))
   | false => (match (w27.toList == (ByteArray.mk #[46, 46]).toList) with
    | true => Zcd w_1 0 fun n45 => (match (n45 == 47) with
    | true => nx k_5 k_6 (IntKind.i64.wrap (x_4 + 1)) O_9
    | false => (match Za9 [some ⟨[], 1, 9, 0⟩, some O_9] 1 k_5 with
     | some ob46 => (if k_6 ≤ ob46.es.length then (match Za9 [some ⟨[], 1, 9, 0⟩, some { ob46 with es := (ob46.es.take k_6) }] 1 k_5 with
      | some ob47 => Zaj (Nat.beq ob47.elem 9) ((if 0 = 0 ∧ k_6 = ob47.es.length ∧ (k_6 + 1) * 16 ≤ 140737488355328 ∧ 0 < 1 then nx (k_5 + 1) (k_6 + 1) (IntKind.i64.wrap (x_4 + 1)) ({ ob47 with es := (ob47.es ++ ([.str w27] : List V)), ver := (k_5 + 1) }) else none))
      | none => none) else none)
     | none => none))
    | false => (match Za9 [some ⟨[], 1, 9, 0⟩, some O_9] 1 k_5 with
    | some ob48 => (if k_6 ≤ ob48.es.length then (match Za9 [some ⟨[], 1, 9, 0⟩, some { ob48 with es := (ob48.es.take k_6) }] 1 k_5 with
     | some ob49 => Zaj (Nat.beq ob49.elem 9) ((if 0 = 0 ∧ k_6 = ob49.es.length ∧ (k_6 + 1) * 16 ≤ 140737488355328 ∧ 0 < 1 then nx (k_5 + 1) (k_6 + 1) (IntKind.i64.wrap (x_4 + 1)) ({ ob49 with es := (ob49.es ++ ([.str w27] : List V)), ver := (k_5 + 1) }) else none))
     | none => none) else none)
    | none => none)))) else none)
  | false => k0 k_5 k_6 O_9)
def ZdT {R : Type} (N : Nat) (w_1 : ByteArray) (e_2 : List V) (x_3 : Int) (k0 : Nat → Nat → Ob → Option R) : Nat → Nat → Nat → Int → Ob → Option R
 | 0, _, _, _, _ => none
 | n + 1, k_5, k_6, x_4, O_9 => Zcj N w_1 e_2 x_3 (fun k_5 k_6 x_4 O_9 => ZdT N w_1 e_2 x_3 k0 n k_5 k_6 x_4 O_9) k_5 k_6 x_4 O_9 k0
def Zk1 {R : Type} (N : Nat) (w_1 : ByteArray) (k : List V → Option R) : Option R :=
 ZrS N w_1 fun e1 => ZdT N w_1 e1 (e1.length : Int)
   (fun k50 k51 O52 => (match Za9 [some ⟨[], 1, 9, 0⟩, some O52] 1 k50 with
  | some ob53 => (match ZaX (ZaY false [some ⟨[], 1, 9, 0⟩, some O52] 11) ((ob53.es.drop 0).take k51) with
   | some e54 => Zaj (decide (0 + k51 ≤ ob53.es.length)) (Zaj (e54.all V.plain) ((match Nat.beq ob53.esz 1 with
    | true => k e54
    | false => none)))
   | none => none)
  | none => none))
   N 0 0 0 (⟨[], 1, 9, 0⟩ : Ob)
def ZrH := @ZaD _ @Zk1
theorem ZoW : @ZrH = @Zk1 := @Zak _ @Zk1
def Zke {R : Type} (N : Nat) (w_1 : ByteArray) (k : ByteArray → Option R) : Option R :=
 ZrH N w_1 fun e1 => Zcd w_1 0 fun n2 => (match (n2 == 47) with
  | true => ZhU N e1 .sh fun w3 => k w3
  | false => (match ((e1.length : Int) == 0) with
  | true => k (ByteArray.mk #[46])
  | false => ZhU N e1 .sh fun w4 => (if (0 : Int) ≤ 1 ∧ 1 ≤ (w4.size : Int) then k (ByteArray.extract w4 1 w4.size) else none)))
def Zxc := @ZaD _ @Zke
theorem ZoQ : @Zxc = @Zke := @Zak _ @Zke
def Zmh {R : Type} (N : Nat) (w_1 : ByteArray) (k : ByteArray → Bool → Option R) : Option R :=
 ZjL N w_1 fun b1 => (match (!b1) with
  | true => k (ByteArray.mk #[]) false
  | false => Zxc N w_1 fun w2 => k w2 true)
def Zvb := @ZaD _ @Zmh
theorem Zox : @Zvb = @Zmh := @Zak _ @Zmh
def ZlU {R : Type} (N : Nat) (w_1 : ByteArray) (k : Bool → Option R) : Option R :=
 (match (w_1.toList == (ByteArray.mk #[46]).toList) with
  | true => k true
  | false => k (w_1.toList == (ByteArray.mk #[46, 46]).toList))
def Zyt := @ZaD _ @ZlU
theorem ZpM : @Zyt = @ZlU := @Zak _ @ZlU
def Zk5 {R : Type} (N : Nat) (w_1 : ByteArray) (k : Bool → Option R) : Option R :=
 ZsO N w_1 fun b1 => (match b1 with
  | true => Zyt N w_1 fun b2 => k (!b2)
  | false => k false)
def Zht := @ZaD _ @Zk5
theorem Zqw : @Zht = @Zk5 := @Zak _ @Zk5
def ZcF {R : Type} (N : Nat) (w_1 : ByteArray) (x_2 : Int) (nx : Int → Option R) (x_3 : Int) (k0 : Int → Option R) (k1 : Unit → Option R) : Option R :=
 (match decide (x_3 ≥ 0) with
  | true => Zcd w_1 x_3 fun n2 => (match (n2 == x_2) with
  | true => k0 x_3
  | false => nx (IntKind.i64.wrap (x_3 - 1)))
  | false => k1 ())
def ZeN {R : Type} (N : Nat) (w_1 : ByteArray) (x_2 : Int) (k0 : Int → Option R) (k1 : Unit → Option R) : Nat → Int → Option R
 | 0, _ => none
 | n + 1, x_3 => ZcF N w_1 x_2 (fun x_3 => ZeN N w_1 x_2 k0 k1 n x_3) x_3 k0 k1
def ZlG {R : Type} (N : Nat) (w_1 : ByteArray) (x_2 : Int) (k : Int → Option R) : Option R :=
 ZeN N w_1 x_2
   (fun x3 => k x3)
   (fun (_ : Unit) => k (-1))
   N (IntKind.i64.wrap ((w_1.size : Int) - 1))
def Zyl := @ZaD _ @ZlG
theorem ZpV : @Zyl = @ZlG := @Zak _ @ZlG
def Zlm {R : Type} (N : Nat) (w_1 : ByteArray) (x_2 : Int) (k : Int → Option R) : Option R :=
 Zyl N w_1 x_2 fun x1 => k x1
def Zvr := @ZaD _ @Zlm
theorem Zp9 : @Zvr = @Zlm := @Zak _ @Zlm
def Zlo {R : Type} (N : Nat) (w_1 : ByteArray) (k : ByteArray → ByteArray → Bool → Option R) : Option R :=
 Zhm N w_1 fun b1 => (match (!b1) with
  | true => k (ByteArray.mk #[]) (ByteArray.mk #[]) false
  | false => Zsz N w_1 fun w2 => Zvr N w2 47 fun x3 => (if (0 : Int) ≤ (if 0 < x3 then x3 else 0) ∧ (if 0 < x3 then x3 else 0) ≤ (w2.size : Int) then (if (0 : Int) ≤ IntKind.i64.wrap (x3 + 1) ∧ IntKind.i64.wrap (x3 + 1) ≤ (w2.size : Int) then (if (0 : Int) ≤ IntKind.i64.wrap (x3 + 1) ∧ IntKind.i64.wrap (x3 + 1) ≤ (w2.size : Int) then Zht N (ByteArray.extract w2 ((IntKind.i64.wrap (x3 + 1)).toNat) w2.size) fun b4 => k (ByteArray.extract w2 0 (((if 0 < x3 then x3 else 0)).toNat)) (ByteArray.extract w2 ((IntKind.i64.wrap (x3 + 1)).toNat) w2.size) b4 else none) else none) else none))
def ZsJ := @ZaD _ @Zlo
theorem ZpG : @ZsJ = @Zlo := @Zak _ @Zlo
def ZkM {R : Type} (N : Nat) (w_1 : ByteArray) (k : ByteArray → Bool → Option R) : Option R :=
 ZsJ N w_1 fun w1 w2 b3 => (match (!b3) with
  | true => k (ByteArray.mk #[]) false
  | false => k w2 true)
def ZwJ := @ZaD _ @ZkM
theorem Zp7 : @ZwJ = @ZkM := @Zak _ @ZkM
def ZlN {R : Type} (N : Nat) (w_1 : ByteArray) (k : ByteArray → Option R) : Option R :=
 ZrH N w_1 fun e1 => (match ((e1.length : Int) == 0) with
  | true => k (ByteArray.mk #[])
  | false => (if 0 ≤ IntKind.i64.wrap ((e1.length : Int) - 1) then ZbT (nth e1 ((IntKind.i64.wrap ((e1.length : Int) - 1)).toNat)) fun e2 => Za1 e2 fun w3 => (match (w3.toList == (ByteArray.mk #[46, 46]).toList) with
   | true => k (ByteArray.mk #[])
   | false => (if 0 ≤ IntKind.i64.wrap ((e1.length : Int) - 1) then ZbT (nth e1 ((IntKind.i64.wrap ((e1.length : Int) - 1)).toNat)) fun e4 => Za1 e4 fun w5 => k w5 else none)) else none))
def ZqR := @ZaD _ @ZlN
theorem Zp2 : @ZqR = @ZlN := @Zak _ @ZlN
def Zku {R : Type} (N : Nat) (w_1 : ByteArray) (k : ByteArray → Bool → Option R) : Option R :=
 ZjL N w_1 fun b1 => (match (!b1) with
  | true => k (ByteArray.mk #[]) false
  | false => ZqR N w_1 fun w2 => (match (w2.toList == (ByteArray.mk #[]).toList) with
  | true => k (ByteArray.mk #[]) false
  | false => ZqR N w_1 fun w3 => k w3 true))
def Zwi := @ZaD _ @Zku
theorem Zpt : @Zwi = @Zku := @Zak _ @Zku
def Zkw {R : Type} (N : Nat) (w_1 : ByteArray) (k : ByteArray → Bool → Option R) : Option R :=
 ZsJ N w_1 fun w1 w2 b3 => (match (!b3) with
  | true => k (ByteArray.mk #[]) false
  | false => (match (!(w1.toList == (ByteArray.mk #[]).toList)) with
  | true => k w1 true
  | false => Zcd w_1 0 fun n4 => (match (n4 == 47) with
   | true => k (ByteArray.mk #[47]) true
   | false => k (ByteArray.mk #[46]) true)))
def ZwH := @ZaD _ @Zkw
theorem ZpK : @ZwH = @Zkw := @Zak _ @Zkw
def ZkR {R : Type} (N : Nat) (w_1 : ByteArray) (k : ByteArray → Option R) : Option R :=
 ZrH N w_1 fun e1 => (if (0 : Int) ≤ IntKind.i64.wrap ((e1.length : Int) - 1) ∧ IntKind.i64.wrap ((e1.length : Int) - 1) ≤ (e1.length : Int) then ZhU N ((e1.take ((IntKind.i64.wrap ((e1.length : Int) - 1)).toNat)).drop 0) .sh fun w2 => Zcd w_1 0 fun n3 => (match (n3 == 47) with
  | true => k w2
  | false => (match ((e1.length : Int) == 1) with
   | true => k (ByteArray.mk #[46])
   | false => (if (0 : Int) ≤ 1 ∧ 1 ≤ (w2.size : Int) then k (ByteArray.extract w2 1 w2.size) else none))) else none)
def Zv9 := @ZaD _ @ZkR
theorem Zpk : @Zv9 = @ZkR := @Zak _ @ZkR
def ZlO {R : Type} (N : Nat) (w_1 : ByteArray) (k : ByteArray → Bool → Option R) : Option R :=
 ZjL N w_1 fun b1 => (match (!b1) with
  | true => k (ByteArray.mk #[]) false
  | false => ZqR N w_1 fun w2 => (match (w2.toList == (ByteArray.mk #[]).toList) with
  | true => k (ByteArray.mk #[]) false
  | false => Zv9 N w_1 fun w3 => k w3 true))
def Zu6 := @ZaD _ @ZlO
theorem ZpO : @Zu6 = @ZlO := @Zak _ @ZlO
def Zk3 {R : Type} (N : Nat) (w_1 : ByteArray) (k : Bool → Option R) : Option R :=
 ZjL N w_1 fun b1 => k b1
def ZvM := @ZaD _ @Zk3
theorem Zou : @ZvM = @Zk3 := @Zak _ @Zk3
def ZkV {R : Type} (N : Nat) (e_1 : List V) (f_2 : Fl) (k : List V → Option R) : Option R :=
 Zo8 e_1 k
def ZuZ := @ZaD _ @ZkV
theorem ZpE : @ZuZ = @ZkV := @Zak _ @ZkV
def ZkQ {R : Type} (N : Nat) (w_1 : ByteArray) (k : List V → Bool → Option R) : Option R :=
 Zhm N w_1 fun b1 => (match (!b1) with
  | true => k [] false
  | false => ZqJ N w_1 fun e2 => ZuZ N e2 .sh fun e3 => k e3 true)
def Zs3 := @ZaD _ @ZkQ
theorem Zqj : @Zs3 = @ZkQ := @Zak _ @ZkQ
def Zls {R : Type} (N : Nat) (w_1 : ByteArray) (k : Bool → Option R) : Option R :=
 Zht N w_1 fun b1 => k (!b1)
def ZxA := @ZaD _ @Zls
theorem ZpQ : @ZxA = @Zls := @Zak _ @Zls
def ZcT {R : Type} (N : Nat) (e_1 : List V) (f_2 : Fl) (x_3 : Int) (nx : Int → Option R) (x_4 : Int) (k0 : Int → Option R) (k1 : Unit → Option R) : Option R :=
 (match decide (x_4 < x_3) with
  | true => (if 0 ≤ x_4 then ZbT (nth e_1 x_4.toNat) fun e4 => Za1 e4 fun w5 => ZxA N w5 fun b6 => (match b6 with
   | true => k0 x_4
   | false => nx (IntKind.i64.wrap (x_4 + 1))) else none)
  | false => k1 ())
def ZeW {R : Type} (N : Nat) (e_1 : List V) (f_2 : Fl) (x_3 : Int) (k0 : Int → Option R) (k1 : Unit → Option R) : Nat → Int → Option R
 | 0, _ => none
 | n + 1, x_4 => ZcT N e_1 f_2 x_3 (fun x_4 => ZeW N e_1 f_2 x_3 k0 k1 n x_4) x_4 k0 k1
def Zj7 {R : Type} (N : Nat) (e_1 : List V) (f_2 : Fl) (k : Int → Option R) : Option R :=
 ZeW N e_1 f_2 (e_1.length : Int)
   (fun x7 => k x7)
   (fun (_ : Unit) => k (-1))
   N 0
def Zyh := @ZaD _ @Zj7
theorem ZoB : @Zyh = @Zj7 := @Zak _ @Zj7
def ZlD {R : Type} (N : Nat) (e_1 : List V) (f_2 : Fl) (k : Bool → Option R) : Option R :=
 Zyh N e_1 f_2.noOwn.noOwn fun x1 => k (decide (x1 ≥ 0))
def ZvY := @ZaD _ @ZlD
theorem ZpN : @ZvY = @ZlD := @Zak _ @ZlD
def ZlI {R : Type} (N : Nat) (e_1 : List V) (f_2 : Fl) (k : ByteArray → Bool → Option R) : Option R :=
 (match decide ((e_1.length : Int) > 20) with
  | true => k (ByteArray.mk #[]) false
  | false => ZvY N e_1 f_2.noOwn.noOwn fun b1 => (match b1 with
  | true => k (ByteArray.mk #[]) false
  | false => Zre N e_1 f_2.noOwn.noOwn fun w2 => Zhm N w2 fun b3 => (match (!b3) with
   | true => k (ByteArray.mk #[]) false
   | false => Zre N e_1 f_2.noOwn.noOwn fun w4 => k w4 true)))
def Zsr := @ZaD _ @ZlI
theorem Zpa : @Zsr = @ZlI := @Zak _ @ZlI
def Zmb {R : Type} (N : Nat) (w_1 w_2 : ByteArray) (k : ByteArray → Bool → Option R) : Option R :=
 Zhm N w_1 fun b1 => (match (!b1) with
  | true => k (ByteArray.mk #[]) false
  | false => Zhm N w_2 fun b2 => (match (!b2) with
  | true => k (ByteArray.mk #[]) false
  | false => Zcd w_2 0 fun n3 => (match (n3 != 47) with
   | true => (if w_1.size + (ByteArray.mk #[47]).size ≤ 4611686018427387904 then (if (w_1 ++ (ByteArray.mk #[47])).size + w_2.size ≤ 4611686018427387904 then Zm9 N ((w_1 ++ (ByteArray.mk #[47])) ++ w_2) fun w4 b5 => k w4 b5 else none) else none)
   | false => Zm9 N w_2 fun w6 b7 => k w6 b7)))
def Zmp := @ZaD _ @Zmb
theorem Zpd : @Zmp = @Zmb := @Zak _ @Zmb
def ZlR {R : Type} (N : Nat) (e_1 : List V) (f_2 : Fl) (x_3 x_4 : Int) (k : ByteArray → List V → Fl → Int → Int → Option R) : Option R :=
 ZhV N [.str (ByteArray.mk #[97]), .str (ByteArray.mk #[98]), .str (ByteArray.mk #[99]), .str (ByteArray.mk #[100, 49]), .str (ByteArray.mk #[120, 46, 121]), .str (ByteArray.mk #[108, 111, 110, 103, 45, 111, 110, 101])] .sh e_1 f_2 x_3 x_4 fun w1 e2 f3 x4 x5 => k w1 e2 f3 x4 x5
def Zwu := @ZaD _ @ZlR
theorem Zqs : @Zwu = @ZlR := @Zak _ @ZlR
def Zdl {R : Type} (N : Nat) (nx : List V → Int → List V → Fl → Int → Int → Option R) (e_1 : List V) (x_2 : Int) (e_3 : List V) (f_4 : Fl) (x_5 x_6 : Int) (k0 : List V → List V → Fl → Int → Int → Option R) : Option R :=
 (match decide (x_2 > 0) with
  | true => Zwu N e_3 f_4 x_5 x_6 fun w11 e12 f13 x14 x15 => (if (e_1.length + 1) * 16 ≤ 140737488355328 then nx (e_1 ++ ([.str w11] : List V)) (IntKind.i64.wrap (x_2 - 1)) e12 f13 x14 x15 else none)
  | false => k0 e_1 e_3 f_4 x_5 x_6)
def Zgi {R : Type} (N : Nat) (k0 : List V → List V → Fl → Int → Int → Option R) : Nat → List V → Int → List V → Fl → Int → Int → Option R
 | 0, _, _, _, _, _, _ => none
 | n + 1, e_1, x_2, e_3, f_4, x_5, x_6 => Zdl N (fun e_1 x_2 e_3 f_4 x_5 x_6 => Zgi N k0 n e_1 x_2 e_3 f_4 x_5 x_6) e_1 x_2 e_3 f_4 x_5 x_6 k0
def Zdf {R : Type} (N : Nat) (e_3 : List V) (f_4 : Fl) (x_5 x_6 : Int) (nx : List V → Int → Option R) (e_1 : List V) (x_2 : Int) (k0 : List V → Option R) : Option R :=
 (match decide (x_2 < 9) with
  | true => (if (e_1.length + 1) * 16 ≤ 140737488355328 then nx (e_1 ++ ([.str (ByteArray.mk #[108, 111, 110, 103, 45, 111, 110, 101])] : List V)) (IntKind.i64.wrap (x_2 + 1)) else none)
  | false => k0 e_1)
def ZeQ {R : Type} (N : Nat) (e_3 : List V) (f_4 : Fl) (x_5 x_6 : Int) (k0 : List V → Option R) : Nat → List V → Int → Option R
 | 0, _, _ => none
 | n + 1, e_1, x_2 => Zdf N e_3 f_4 x_5 x_6 (fun e_1 x_2 => ZeQ N e_3 f_4 x_5 x_6 k0 n e_1 x_2) e_1 x_2 k0
def Zlz {R : Type} (N : Nat) (e_1 : List V) (f_2 : Fl) (k : List V → Option R) : Option R :=
 Zhy N 5 e_1 f_2.noOwn.noOwn 0 0 fun x1 e2 f3 x4 x5 => Zgi N
   (fun e16 e17 f18 x19 x20 => Znd N 12 e17 f18 x19 x20 fun b21 e22 f23 x24 x25 => (match b21 with
  | true => ZhV N [.str (ByteArray.mk #[]), .str (ByteArray.mk #[46]), .str (ByteArray.mk #[46, 46]), .str (ByteArray.mk #[97, 47, 98])] .sh e22 f23 x24 x25 fun w26 e27 f28 x29 x30 => (if (e16.length + 1) * 16 ≤ 140737488355328 then Znd N 30 e27 f28 x29 x30 fun b31 e32 f33 x34 x35 => (match b31 with
   | true => ZeQ N e32 f33 x34 x35
     (fun e36 => k e36)
     N (e16 ++ ([.str w26] : List V)) 0
   | false => k (e16 ++ ([.str w26] : List V))) else none)
  | false => Znd N 30 e22 f23 x24 x25 fun b37 e38 f39 x40 x41 => (match b37 with
   | true => ZeQ N e38 f39 x40 x41
     (fun e42 => k e42)
     N e16 0
   | false => k e16)))
   N [] x1 e2 f3 x4 x5
def Zuk := @ZaD _ @Zlz
theorem Zqq : @Zuk = @Zlz := @Zak _ @Zlz
def ZcJ {R : Type} (N : Nat) (e_1 : List V) (f_2 : Fl) (e_3 : List V) (f_4 : Fl) (x_5 : Int) (nx : Int → Option R) (x_6 : Int) (k0 : Unit → Option R) (k1 : Unit → Option R) : Option R :=
 (match decide (x_6 < x_5) with
  | true => (if 0 ≤ x_6 then ZbT (nth e_3 x_6.toNat) fun e4 => Za1 e4 fun w5 => ZrG N w5 fun b6 => (match (!b6) with
   | true => k0 ()
   | false => nx (IntKind.i64.wrap (x_6 + 1))) else none)
  | false => k1 ())
def ZeS {R : Type} (N : Nat) (e_1 : List V) (f_2 : Fl) (e_3 : List V) (f_4 : Fl) (x_5 : Int) (k0 : Unit → Option R) (k1 : Unit → Option R) : Nat → Int → Option R
 | 0, _ => none
 | n + 1, x_6 => ZcJ N e_1 f_2 e_3 f_4 x_5 (fun x_6 => ZeS N e_1 f_2 e_3 f_4 x_5 k0 k1 n x_6) x_6 k0 k1
def ZlY {R : Type} (N : Nat) (e_1 : List V) (f_2 : Fl) (k : ByteArray → Bool → Option R) : Option R :=
 ZeS N e_1 f_2 e_1 f_2.noOwn (e_1.length : Int)
   (fun (_ : Unit) => k (ByteArray.mk #[]) false)
   (fun (_ : Unit) => (match decide ((e_1.length : Int) > 20) with
  | true => k (ByteArray.mk #[]) false
  | false => ZhU N e_1 f_2.noOwn.noOwn fun w7 => ZjL N w7 fun b8 => (match (!b8) with
   | true => k (ByteArray.mk #[]) false
   | false => ZhU N e_1 f_2.noOwn.noOwn fun w9 => k w9 true)))
   N 0
def Zwm := @ZaD _ @ZlY
theorem Zpw : @Zwm = @ZlY := @Zak _ @ZlY
def Zk2 {R : Type} (N : Nat) (e_1 : List V) (f_2 : Fl) (k : ByteArray → Option R) : Option R :=
 Zsl N e_1 f_2.noOwn.noOwn fun w1 => k w1
def Zwe := @ZaD _ @Zk2
theorem ZpJ : @Zwe = @Zk2 := @Zak _ @Zk2
def Zl9 {R : Type} (N : Nat) (w_1 : ByteArray) (k : List V → Bool → Option R) : Option R :=
 ZjL N w_1 fun b1 => (match (!b1) with
  | true => k [] false
  | false => ZrS N w_1 fun e2 => k e2 true)
def Zvx := @ZaD _ @Zl9
theorem Zpp : @Zvx = @Zl9 := @Zak _ @Zl9
def Zk9 {R : Type} (N : Nat) (e_1 : List V) (f_2 : Fl) (k : ByteArray → Option R) : Option R :=
 ZhV N [.str (ByteArray.mk #[]), .str (ByteArray.mk #[46]), .str (ByteArray.mk #[46, 46]), .str (ByteArray.mk #[46, 46, 46]), .str (ByteArray.mk #[97]), .str (ByteArray.mk #[97, 47, 98]), .str (ByteArray.mk #[65]), .str (ByteArray.mk #[49, 50, 51, 52, 53, 54, 55, 56]), .str (ByteArray.mk #[49, 50, 51, 52, 53, 54, 55, 56, 57]), .str (ByteArray.mk #[95, 45, 46])] .sh e_1 f_2.noOwn.noOwn 0 0 fun w1 e2 f3 x4 x5 => k w1
def Zw9 := @ZaD _ @Zk9
theorem Zpq : @Zw9 = @Zk9 := @Zak _ @Zk9
def ZcD {R : Type} (N : Nat) (e_1 : List V) (f_2 : Fl) (e_3 : List V) (f_4 : Fl) (x_5 : Int) (nx : Int → Option R) (x_6 : Int) (k0 : Unit → Option R) (k1 : Unit → Option R) : Option R :=
 (match decide (x_6 < x_5) with
  | true => (if 0 ≤ x_6 then ZbT (nth e_1 x_6.toNat) fun e5 => Za1 e5 fun w6 => (if 0 ≤ x_6 then ZbT (nth e_3 x_6.toNat) fun e7 => Za1 e7 fun w8 => (match (!(w6.toList == w8.toList)) with
   | true => k0 ()
   | false => nx (IntKind.i64.wrap (x_6 + 1))) else none) else none)
  | false => k1 ())
def ZeZ {R : Type} (N : Nat) (e_1 : List V) (f_2 : Fl) (e_3 : List V) (f_4 : Fl) (x_5 : Int) (k0 : Unit → Option R) (k1 : Unit → Option R) : Nat → Int → Option R
 | 0, _ => none
 | n + 1, x_6 => ZcD N e_1 f_2 e_3 f_4 x_5 (fun x_6 => ZeZ N e_1 f_2 e_3 f_4 x_5 k0 k1 n x_6) x_6 k0 k1
def Zkc {R : Type} (N : Nat) (e_1 : List V) (f_2 : Fl) (e_3 : List V) (f_4 : Fl) (k : Bool → Option R) : Option R :=
 (match ((e_1.length : Int) != (e_3.length : Int)) with
  | true => k false
  | false => ZeZ N e_1 f_2 e_3 f_4 (e_1.length : Int)
    (fun (_ : Unit) => k false)
    (fun (_ : Unit) => k true)
    N 0)
def Zwq := @ZaD _ @Zkc
theorem ZoD : @Zwq = @Zkc := @Zak _ @Zkc
def ZkZ {R : Type} (N : Nat) (w_1 : ByteArray) (k : Bool → Option R) : Option R :=
 ZrG N w_1 fun b1 => k b1
def ZwT := @ZaD _ @ZkZ
theorem Zpm : @ZwT = @ZkZ := @Zak _ @ZkZ
def Zkv {R : Type} (N : Nat) (e_1 : List V) (f_2 : Fl) (e_3 : List V) (f_4 : Fl) (j : V → V → V → V → V → V → V → V → V → V → V → V → V → V → V → V → V → V → V → V → V → V → V → V → V → V → V → V → V → V → V → V → V → V → V → V → V → V → V → V → V → V → V → V → V → V → V → V → V → V → V → V → V → V → V → V → V → V → V → V → V → V → V → V → V → V → V → V → V → V → V → V → V → V → V → V → V → V → V → V → V → V → V → V → V → V → V → V → V → V → V → V → V → V → V → V → V → V → V → V → V → V → V → V → V → V → V → V → V → V → V → V → V → V → V → V → V → V → V → V → V → V → V → V → V → V → V → V → V → V → V → V → V → V → V → V → V → V → V → V → V → V → V → V → V → V → V → V → V → V → V → V → Option R) (k : Bool → Option R) : Option R :=
 ZvD N e_1 f_2.noOwn.noOwn e_3 f_4.noOwn.noOwn fun b1 => (match b1 with
  | true => k true
  | false => Zvp N e_1 f_2.noOwn.noOwn fun w2 => Zm9 N w2 fun w3 b4 => Zvb N w2 fun w5 b6 => ZwJ N w2 fun w7 b8 => Zwi N w2 fun w9 b10 => ZwH N w2 fun w11 b12 => Zu6 N w2 fun w13 b14 => (match (!(b4 == b6)) with
  | true => k false
  | false => (match (!(w3.toList == w5.toList)) with
   | true => k false
   | false => (match (!(b8 == b10)) with
   | true => k false
   | false => (match (!(w7.toList == w9.toList)) with
    | true => k false
    | false => (match (!(b12 == b14)) with
    | true => k false
    | false => (match (!(w11.toList == w13.toList)) with
     | true => k false
     | false => (match (!(b8 == b12)) with
     | true => k false
     | false => Zhm N w2 fun b15 => ZvM N w2 fun b16 => (match (!(b15 == b16)) with
      | true => k false
      | false => Zhm N w2 fun b17 => (match (!(b4 == b17)) with
      | true => k false
      | false => (match b4 with
       | true => Zm9 N w3 fun w18 b19 => Zs3 N w3 fun e20 b21 => (match (!b19) with
       | true => k false
       | false => (match (!(w18.toList == w3.toList)) with
        | true => k false
        | false => (match (!b21) with
        | true => k false
        | false => Zcd w3 0 fun n22 => (match (n22 == 47) with
         | true => Zsr N e20 .sh fun w23 b24 => (match decide ((e20.length : Int) ≤ 20) with
         | true => (match (!b24) with
          | true => k false
          | false => (match (!(w23.toList == w3.toList)) with
          | true => k false
          | false => (match b8 with
           | true => Zmp N w11 w7 fun w25 b26 => Zht N w7 fun b27 => (match (!b27) with
           | true => k false
           | false => (match (!b26) with
            | true => k false
            | false => (match (!(w25.toList == w3.toList)) with
            | true => k false
            | false => j (.str w2) (.str w3) (.bool b4) (.str w5) (.bool b6) (.str w7) (.bool b8) (.str w9) (.bool b10) (.str w11) (.bool b12) (.str w13) (.bool b14) (.str w18) (.bool b19) (.list 1 e20 .sh) (.bool b21) (.str w23) (.bool b24) (.str w25) (.bool b26) (.bool b1) (.str w2) (.tuple [.str w3, .bool b4]) (.str w2) (.tuple [.str w3, .bool b4]) (.str w3) (.bool b4) (.tuple [.str w5, .bool b6]) (.str w2) (.tuple [.str w5, .bool b6]) (.str w5) (.bool b6) (.tuple [.str w7, .bool b8]) (.str w2) (.tuple [.str w7, .bool b8]) (.str w7) (.bool b8) (.tuple [.str w9, .bool b10]) (.str w2) (.tuple [.str w9, .bool b10]) (.str w9) (.bool b10) (.tuple [.str w11, .bool b12]) (.str w2) (.tuple [.str w11, .bool b12]) (.str w11) (.bool b12) (.tuple [.str w13, .bool b14]) (.str w2) (.tuple [.str w13, .bool b14]) (.str w13) (.bool b14) (.bool b4) (.bool b6) (.bool (!(b4 == b6))) (.str w3) (.str w5) (.bool (!(w3.toList == w5.toList))) (.bool (!(w3.toList == w5.toList))) (.bool b8) (.bool b10) (.bool (!(b8 == b10))) (.bool (!(b8 == b10))) (.str w7) (.str w9) (.bool (!(w7.toList == w9.toList))) (.bool (!(w7.toList == w9.toList))) (.bool b12) (.bool b14) (.bool (!(b12 == b14))) (.bool (!(b12 == b14))) (.str w11) (.str w13) (.bool (!(w11.toList == w13.toList))) (.bool (!(w11.toList == w13.toList))) (.bool b8) (.bool b12) (.bool (!(b8 == b12))) (.bool (!(b8 == b12))) (.str w2) (.bool b15) (.str w2) (.bool b16) (.bool (!(b15 == b16))) (.bool (!(b15 == b16))) (.bool b4) (.str w2) (.bool b17) (.bool (!(b4 == b17))) (.bool (!(b4 == b17))) (.bool b4) (.tuple [.str w18, .bool b19]) (.str w3) (.tuple [.str w18, .bool b19]) (.str w18) (.bool b19) (.tuple [.list 1 e20 .sh, .bool b21]) (.str w3) (.tuple [.list 1 e20 .sh, .bool b21]) (.list 1 e20 .sh) (.bool b21) (.bool b19) (.bool (!b19)) (.bool false) (.str w18) (.str w3) (.bool (!(w18.toList == w3.toList))) (.bool (!(w18.toList == w3.toList))) (.bool false) (.bool b21) (.bool (!b21)) (.bool (!b21)) (.str w3) (.int .u8 n22) (.bool (n22 == 47)) (.tuple [.str w23, .bool b24]) (.list 1 e20 .sh) (.tuple [.str w23, .bool b24]) (.str w23) (.bool b24) (.list 1 e20 .sh) (.int .i64 (e20.length : Int)) (.bool (decide ((e20.length : Int) ≤ 20))) (.bool true) (.bool b24) (.bool (!b24)) (.bool false) (.str w23) (.str w3) (.bool (!(w23.toList == w3.toList))) (.bool (!(w23.toList == w3.toList))) (.bool (!(w23.toList == w3.toList))) (.bool b8) (.tuple [.str w25, .bool b26]) (.str w11) (.str w7) (.tuple [.str w25, .bool b26]) (.str w25) (.bool b26) (.str w7) (.bool b27) (.bool (!b27)) (.bool false) (.bool b26) (.bool (!b26)) (.bool (!b26)) (.bool false) (.str w25) (.str w3) (.bool (!(w25.toList == w3.toList))) (.bool (!(w25.toList == w3.toList))))))
           | false => j (.str w2) (.str w3) (.bool b4) (.str w5) (.bool b6) (.str w7) (.bool b8) (.str w9) (.bool b10) (.str w11) (.bool b12) (.str w13) (.bool b14) (.str w18) (.bool b19) (.list 1 e20 .sh) (.bool b21) (.str w23) (.bool b24) .dead .dead (.bool b1) (.str w2) (.tuple [.str w3, .bool b4]) (.str w2) (.tuple [.str w3, .bool b4]) (.str w3) (.bool b4) (.tuple [.str w5, .bool b6]) (.str w2) (.tuple [.str w5, .bool b6]) (.str w5) (.bool b6) (.tuple [.str w7, .bool b8]) (.str w2) (.tuple [.str w7, .bool b8]) (.str w7) (.bool b8) (.tuple [.str w9, .bool b10]) (.str w2) (.tuple [.str w9, .bool b10]) (.str w9) (.bool b10) (.tuple [.str w11, .bool b12]) (.str w2) (.tuple [.str w11, .bool b12]) (.str w11) (.bool b12) (.tuple [.str w13, .bool b14]) (.str w2) (.tuple [.str w13, .bool b14]) (.str w13) (.bool b14) (.bool b4) (.bool b6) (.bool (!(b4 == b6))) (.str w3) (.str w5) (.bool (!(w3.toList == w5.toList))) (.bool (!(w3.toList == w5.toList))) (.bool b8) (.bool b10) (.bool (!(b8 == b10))) (.bool (!(b8 == b10))) (.str w7) (.str w9) (.bool (!(w7.toList == w9.toList))) (.bool (!(w7.toList == w9.toList))) (.bool b12) (.bool b14) (.bool (!(b12 == b14))) (.bool (!(b12 == b14))) (.str w11) (.str w13) (.bool (!(w11.toList == w13.toList))) (.bool (!(w11.toList == w13.toList))) (.bool b8) (.bool b12) (.bool (!(b8 == b12))) (.bool (!(b8 == b12))) (.str w2) (.bool b15) (.str w2) (.bool b16) (.bool (!(b15 == b16))) (.bool (!(b15 == b16))) (.bool b4) (.str w2) (.bool b17) (.bool (!(b4 == b17))) (.bool (!(b4 == b17))) (.bool b4) (.tuple [.str w18, .bool b19]) (.str w3) (.tuple [.str w18, .bool b19]) (.str w18) (.bool b19) (.tuple [.list 1 e20 .sh, .bool b21]) (.str w3) (.tuple [.list 1 e20 .sh, .bool b21]) (.list 1 e20 .sh) (.bool b21) (.bool b19) (.bool (!b19)) (.bool false) (.str w18) (.str w3) (.bool (!(w18.toList == w3.toList))) (.bool (!(w18.toList == w3.toList))) (.bool false) (.bool b21) (.bool (!b21)) (.bool (!b21)) (.str w3) (.int .u8 n22) (.bool (n22 == 47)) (.tuple [.str w23, .bool b24]) (.list 1 e20 .sh) (.tuple [.str w23, .bool b24]) (.str w23) (.bool b24) (.list 1 e20 .sh) (.int .i64 (e20.length : Int)) (.bool (decide ((e20.length : Int) ≤ 20))) (.bool true) (.bool b24) (.bool (!b24)) (.bool false) (.str w23) (.str w3) (.bool (!(w23.toList == w3.toList))) (.bool (!(w23.toList == w3.toList))) (.bool (!(w23.toList == w3.toList))) (.bool b8) .dead .dead .dead .dead .dead .dead .dead .dead .dead .dead .dead .dead .dead .dead .dead .dead .dead .dead)))
         | false => (match b8 with
          | true => Zmp N w11 w7 fun w28 b29 => Zht N w7 fun b30 => (match (!b30) with
          | true => k false
          | false => (match (!b29) with
           | true => k false
           | false => (match (!(w28.toList == w3.toList)) with
           | true => k false
           | false => j (.str w2) (.str w3) (.bool b4) (.str w5) (.bool b6) (.str w7) (.bool b8) (.str w9) (.bool b10) (.str w11) (.bool b12) (.str w13) (.bool b14) (.str w18) (.bool b19) (.list 1 e20 .sh) (.bool b21) (.str w23) (.bool b24) (.str w28) (.bool b29) (.bool b1) (.str w2) (.tuple [.str w3, .bool b4]) (.str w2) (.tuple [.str w3, .bool b4]) (.str w3) (.bool b4) (.tuple [.str w5, .bool b6]) (.str w2) (.tuple [.str w5, .bool b6]) (.str w5) (.bool b6) (.tuple [.str w7, .bool b8]) (.str w2) (.tuple [.str w7, .bool b8]) (.str w7) (.bool b8) (.tuple [.str w9, .bool b10]) (.str w2) (.tuple [.str w9, .bool b10]) (.str w9) (.bool b10) (.tuple [.str w11, .bool b12]) (.str w2) (.tuple [.str w11, .bool b12]) (.str w11) (.bool b12) (.tuple [.str w13, .bool b14]) (.str w2) (.tuple [.str w13, .bool b14]) (.str w13) (.bool b14) (.bool b4) (.bool b6) (.bool (!(b4 == b6))) (.str w3) (.str w5) (.bool (!(w3.toList == w5.toList))) (.bool (!(w3.toList == w5.toList))) (.bool b8) (.bool b10) (.bool (!(b8 == b10))) (.bool (!(b8 == b10))) (.str w7) (.str w9) (.bool (!(w7.toList == w9.toList))) (.bool (!(w7.toList == w9.toList))) (.bool b12) (.bool b14) (.bool (!(b12 == b14))) (.bool (!(b12 == b14))) (.str w11) (.str w13) (.bool (!(w11.toList == w13.toList))) (.bool (!(w11.toList == w13.toList))) (.bool b8) (.bool b12) (.bool (!(b8 == b12))) (.bool (!(b8 == b12))) (.str w2) (.bool b15) (.str w2) (.bool b16) (.bool (!(b15 == b16))) (.bool (!(b15 == b16))) (.bool b4) (.str w2) (.bool b17) (.bool (!(b4 == b17))) (.bool (!(b4 == b17))) (.bool b4) (.tuple [.str w18, .bool b19]) (.str w3) (.tuple [.str w18, .bool b19]) (.str w18) (.bool b19) (.tuple [.list 1 e20 .sh, .bool b21]) (.str w3) (.tuple [.list 1 e20 .sh, .bool b21]) (.list 1 e20 .sh) (.bool b21) (.bool b19) (.bool (!b19)) (.bool false) (.str w18) (.str w3) (.bool (!(w18.toList == w3.toList))) (.bool (!(w18.toList == w3.toList))) (.bool false) (.bool b21) (.bool (!b21)) (.bool (!b21)) (.str w3) (.int .u8 n22) (.bool (n22 == 47)) (.tuple [.str w23, .bool b24]) (.list 1 e20 .sh) (.tuple [.str w23, .bool b24]) (.str w23) (.bool b24) (.list 1 e20 .sh) (.int .i64 (e20.length : Int)) (.bool (decide ((e20.length : Int) ≤ 20))) (.bool false) (.tuple []) (.tuple []) (.tuple []) (.tuple []) (.tuple []) (.tuple []) (.tuple []) (.bool false) (.bool b8) (.tuple [.str w28, .bool b29]) (.str w11) (.str w7) (.tuple [.str w28, .bool b29]) (.str w28) (.bool b29) (.str w7) (.bool b30) (.bool (!b30)) (.bool false) (.bool b29) (.bool (!b29)) (.bool (!b29)) (.bool false) (.str w28) (.str w3) (.bool (!(w28.toList == w3.toList))) (.bool (!(w28.toList == w3.toList))))))
          | false => j (.str w2) (.str w3) (.bool b4) (.str w5) (.bool b6) (.str w7) (.bool b8) (.str w9) (.bool b10) (.str w11) (.bool b12) (.str w13) (.bool b14) (.str w18) (.bool b19) (.list 1 e20 .sh) (.bool b21) (.str w23) (.bool b24) .dead .dead (.bool b1) (.str w2) (.tuple [.str w3, .bool b4]) (.str w2) (.tuple [.str w3, .bool b4]) (.str w3) (.bool b4) (.tuple [.str w5, .bool b6]) (.str w2) (.tuple [.str w5, .bool b6]) (.str w5) (.bool b6) (.tuple [.str w7, .bool b8]) (.str w2) (.tuple [.str w7, .bool b8]) (.str w7) (.bool b8) (.tuple [.str w9, .bool b10]) (.str w2) (.tuple [.str w9, .bool b10]) (.str w9) (.bool b10) (.tuple [.str w11, .bool b12]) (.str w2) (.tuple [.str w11, .bool b12]) (.str w11) (.bool b12) (.tuple [.str w13, .bool b14]) (.str w2) (.tuple [.str w13, .bool b14]) (.str w13) (.bool b14) (.bool b4) (.bool b6) (.bool (!(b4 == b6))) (.str w3) (.str w5) (.bool (!(w3.toList == w5.toList))) (.bool (!(w3.toList == w5.toList))) (.bool b8) (.bool b10) (.bool (!(b8 == b10))) (.bool (!(b8 == b10))) (.str w7) (.str w9) (.bool (!(w7.toList == w9.toList))) (.bool (!(w7.toList == w9.toList))) (.bool b12) (.bool b14) (.bool (!(b12 == b14))) (.bool (!(b12 == b14))) (.str w11) (.str w13) (.bool (!(w11.toList == w13.toList))) (.bool (!(w11.toList == w13.toList))) (.bool b8) (.bool b12) (.bool (!(b8 == b12))) (.bool (!(b8 == b12))) (.str w2) (.bool b15) (.str w2) (.bool b16) (.bool (!(b15 == b16))) (.bool (!(b15 == b16))) (.bool b4) (.str w2) (.bool b17) (.bool (!(b4 == b17))) (.bool (!(b4 == b17))) (.bool b4) (.tuple [.str w18, .bool b19]) (.str w3) (.tuple [.str w18, .bool b19]) (.str w18) (.bool b19) (.tuple [.list 1 e20 .sh, .bool b21]) (.str w3) (.tuple [.list 1 e20 .sh, .bool b21]) (.list 1 e20 .sh) (.bool b21) (.bool b19) (.bool (!b19)) (.bool false) (.str w18) (.str w3) (.bool (!(w18.toList == w3.toList))) (.bool (!(w18.toList == w3.toList))) (.bool false) (.bool b21) (.bool (!b21)) (.bool (!b21)) (.str w3) (.int .u8 n22) (.bool (n22 == 47)) (.tuple [.str w23, .bool b24]) (.list 1 e20 .sh) (.tuple [.str w23, .bool b24]) (.str w23) (.bool b24) (.list 1 e20 .sh) (.int .i64 (e20.length : Int)) (.bool (decide ((e20.length : Int) ≤ 20))) (.bool false) (.tuple []) (.tuple []) (.tuple []) (.tuple []) (.tuple []) (.tuple []) (.tuple []) (.bool false) (.bool b8) .dead .dead .dead .dead .dead .dead .dead .dead .dead .dead .dead .dead .dead .dead .dead .dead .dead .dead))
         | false => (match b8 with
         | true => Zmp N w11 w7 fun w31 b32 => Zht N w7 fun b33 => (match (!b33) with
          | true => k false
          | false => (match (!b32) with
          | true => k false
          | false => (match (!(w31.toList == w3.toList)) with
           | true => k false
           | false => j (.str w2) (.str w3) (.bool b4) (.str w5) (.bool b6) (.str w7) (.bool b8) (.str w9) (.bool b10) (.str w11) (.bool b12) (.str w13) (.bool b14) (.str w18) (.bool b19) (.list 1 e20 .sh) (.bool b21) .dead .dead (.str w31) (.bool b32) (.bool b1) (.str w2) (.tuple [.str w3, .bool b4]) (.str w2) (.tuple [.str w3, .bool b4]) (.str w3) (.bool b4) (.tuple [.str w5, .bool b6]) (.str w2) (.tuple [.str w5, .bool b6]) (.str w5) (.bool b6) (.tuple [.str w7, .bool b8]) (.str w2) (.tuple [.str w7, .bool b8]) (.str w7) (.bool b8) (.tuple [.str w9, .bool b10]) (.str w2) (.tuple [.str w9, .bool b10]) (.str w9) (.bool b10) (.tuple [.str w11, .bool b12]) (.str w2) (.tuple [.str w11, .bool b12]) (.str w11) (.bool b12) (.tuple [.str w13, .bool b14]) (.str w2) (.tuple [.str w13, .bool b14]) (.str w13) (.bool b14) (.bool b4) (.bool b6) (.bool (!(b4 == b6))) (.str w3) (.str w5) (.bool (!(w3.toList == w5.toList))) (.bool (!(w3.toList == w5.toList))) (.bool b8) (.bool b10) (.bool (!(b8 == b10))) (.bool (!(b8 == b10))) (.str w7) (.str w9) (.bool (!(w7.toList == w9.toList))) (.bool (!(w7.toList == w9.toList))) (.bool b12) (.bool b14) (.bool (!(b12 == b14))) (.bool (!(b12 == b14))) (.str w11) (.str w13) (.bool (!(w11.toList == w13.toList))) (.bool (!(w11.toList == w13.toList))) (.bool b8) (.bool b12) (.bool (!(b8 == b12))) (.bool (!(b8 == b12))) (.str w2) (.bool b15) (.str w2) (.bool b16) (.bool (!(b15 == b16))) (.bool (!(b15 == b16))) (.bool b4) (.str w2) (.bool b17) (.bool (!(b4 == b17))) (.bool (!(b4 == b17))) (.bool b4) (.tuple [.str w18, .bool b19]) (.str w3) (.tuple [.str w18, .bool b19]) (.str w18) (.bool b19) (.tuple [.list 1 e20 .sh, .bool b21]) (.str w3) (.tuple [.list 1 e20 .sh, .bool b21]) (.list 1 e20 .sh) (.bool b21) (.bool b19) (.bool (!b19)) (.bool false) (.str w18) (.str w3) (.bool (!(w18.toList == w3.toList))) (.bool (!(w18.toList == w3.toList))) (.bool false) (.bool b21) (.bool (!b21)) (.bool (!b21)) (.str w3) (.int .u8 n22) (.bool (n22 == 47)) .dead .dead .dead .dead .dead .dead .dead .dead .dead .dead .dead .dead .dead .dead .dead .dead .dead (.bool b8) (.tuple [.str w31, .bool b32]) (.str w11) (.str w7) (.tuple [.str w31, .bool b32]) (.str w31) (.bool b32) (.str w7) (.bool b33) (.bool (!b33)) (.bool false) (.bool b32) (.bool (!b32)) (.bool (!b32)) (.bool false) (.str w31) (.str w3) (.bool (!(w31.toList == w3.toList))) (.bool (!(w31.toList == w3.toList))))))
         | false => j (.str w2) (.str w3) (.bool b4) (.str w5) (.bool b6) (.str w7) (.bool b8) (.str w9) (.bool b10) (.str w11) (.bool b12) (.str w13) (.bool b14) (.str w18) (.bool b19) (.list 1 e20 .sh) (.bool b21) .dead .dead .dead .dead (.bool b1) (.str w2) (.tuple [.str w3, .bool b4]) (.str w2) (.tuple [.str w3, .bool b4]) (.str w3) (.bool b4) (.tuple [.str w5, .bool b6]) (.str w2) (.tuple [.str w5, .bool b6]) (.str w5) (.bool b6) (.tuple [.str w7, .bool b8]) (.str w2) (.tuple [.str w7, .bool b8]) (.str w7) (.bool b8) (.tuple [.str w9, .bool b10]) (.str w2) (.tuple [.str w9, .bool b10]) (.str w9) (.bool b10) (.tuple [.str w11, .bool b12]) (.str w2) (.tuple [.str w11, .bool b12]) (.str w11) (.bool b12) (.tuple [.str w13, .bool b14]) (.str w2) (.tuple [.str w13, .bool b14]) (.str w13) (.bool b14) (.bool b4) (.bool b6) (.bool (!(b4 == b6))) (.str w3) (.str w5) (.bool (!(w3.toList == w5.toList))) (.bool (!(w3.toList == w5.toList))) (.bool b8) (.bool b10) (.bool (!(b8 == b10))) (.bool (!(b8 == b10))) (.str w7) (.str w9) (.bool (!(w7.toList == w9.toList))) (.bool (!(w7.toList == w9.toList))) (.bool b12) (.bool b14) (.bool (!(b12 == b14))) (.bool (!(b12 == b14))) (.str w11) (.str w13) (.bool (!(w11.toList == w13.toList))) (.bool (!(w11.toList == w13.toList))) (.bool b8) (.bool b12) (.bool (!(b8 == b12))) (.bool (!(b8 == b12))) (.str w2) (.bool b15) (.str w2) (.bool b16) (.bool (!(b15 == b16))) (.bool (!(b15 == b16))) (.bool b4) (.str w2) (.bool b17) (.bool (!(b4 == b17))) (.bool (!(b4 == b17))) (.bool b4) (.tuple [.str w18, .bool b19]) (.str w3) (.tuple [.str w18, .bool b19]) (.str w18) (.bool b19) (.tuple [.list 1 e20 .sh, .bool b21]) (.str w3) (.tuple [.list 1 e20 .sh, .bool b21]) (.list 1 e20 .sh) (.bool b21) (.bool b19) (.bool (!b19)) (.bool false) (.str w18) (.str w3) (.bool (!(w18.toList == w3.toList))) (.bool (!(w18.toList == w3.toList))) (.bool false) (.bool b21) (.bool (!b21)) (.bool (!b21)) (.str w3) (.int .u8 n22) (.bool (n22 == 47)) .dead .dead .dead .dead .dead .dead .dead .dead .dead .dead .dead .dead .dead .dead .dead .dead .dead (.bool b8) .dead .dead .dead .dead .dead .dead .dead .dead .dead .dead .dead .dead .dead .dead .dead .dead .dead .dead)))))
       | false => j (.str w2) (.str w3) (.bool b4) (.str w5) (.bool b6) (.str w7) (.bool b8) (.str w9) (.bool b10) (.str w11) (.bool b12) (.str w13) (.bool b14) .dead .dead .dead .dead .dead .dead .dead .dead (.bool b1) (.str w2) (.tuple [.str w3, .bool b4]) (.str w2) (.tuple [.str w3, .bool b4]) (.str w3) (.bool b4) (.tuple [.str w5, .bool b6]) (.str w2) (.tuple [.str w5, .bool b6]) (.str w5) (.bool b6) (.tuple [.str w7, .bool b8]) (.str w2) (.tuple [.str w7, .bool b8]) (.str w7) (.bool b8) (.tuple [.str w9, .bool b10]) (.str w2) (.tuple [.str w9, .bool b10]) (.str w9) (.bool b10) (.tuple [.str w11, .bool b12]) (.str w2) (.tuple [.str w11, .bool b12]) (.str w11) (.bool b12) (.tuple [.str w13, .bool b14]) (.str w2) (.tuple [.str w13, .bool b14]) (.str w13) (.bool b14) (.bool b4) (.bool b6) (.bool (!(b4 == b6))) (.str w3) (.str w5) (.bool (!(w3.toList == w5.toList))) (.bool (!(w3.toList == w5.toList))) (.bool b8) (.bool b10) (.bool (!(b8 == b10))) (.bool (!(b8 == b10))) (.str w7) (.str w9) (.bool (!(w7.toList == w9.toList))) (.bool (!(w7.toList == w9.toList))) (.bool b12) (.bool b14) (.bool (!(b12 == b14))) (.bool (!(b12 == b14))) (.str w11) (.str w13) (.bool (!(w11.toList == w13.toList))) (.bool (!(w11.toList == w13.toList))) (.bool b8) (.bool b12) (.bool (!(b8 == b12))) (.bool (!(b8 == b12))) (.str w2) (.bool b15) (.str w2) (.bool b16) (.bool (!(b15 == b16))) (.bool (!(b15 == b16))) (.bool b4) (.str w2) (.bool b17) (.bool (!(b4 == b17))) (.bool (!(b4 == b17))) (.bool b4) .dead .dead .dead .dead .dead .dead .dead .dead .dead .dead .dead .dead .dead .dead .dead .dead .dead .dead .dead .dead .dead .dead .dead .dead .dead .dead .dead .dead .dead .dead .dead .dead .dead .dead .dead .dead .dead .dead .dead .dead .dead .dead .dead .dead .dead .dead .dead .dead .dead .dead .dead .dead .dead .dead .dead .dead .dead .dead .dead .dead)))))))))))
def ZpL {R : Type} (N : Nat) (e_1 : List V) (f_2 : Fl) (e_3 : List V) (f_4 : Fl) (k : Bool → Option R) : Option R :=
 Zuk N e_3 f_4.noOwn.noOwn fun e34 => Zsr N e34 .sh fun w35 b36 => Zwm N e34 .sh fun w37 b38 => Zwe N e_3 f_4.noOwn.noOwn fun w39 => Zs3 N w39 fun e40 b41 => Zvx N w39 fun e42 b43 => Zw9 N e_3 f_4.noOwn.noOwn fun w44 => (match (b36 == b38) with
  | true => (match (w35.toList == w37.toList) with
  | true => (match (b41 == b43) with
   | true => Zwq N e40 .sh e42 .sh fun b45 => (match b45 with
   | true => Zht N w44 fun b46 => ZwT N w44 fun b47 => k (b46 == b47)
   | false => k false)
   | false => k false)
  | false => k false)
  | false => k false)
def ZhR {R : Type} (N : Nat) (e_1 : List V) (f_2 : Fl) (e_3 : List V) (f_4 : Fl) (k : Bool → Option R) : Option R :=
 Zkv N e_1 f_2 e_3 f_4 (fun _ _ _ _ _ _ _ _ _ _ _ _ _ _ _ _ _ _ _ _ _ _ _ _ _ _ _ _ _ _ _ _ _ _ _ _ _ _ _ _ _ _ _ _ _ _ _ _ _ _ _ _ _ _ _ _ _ _ _ _ _ _ _ _ _ _ _ _ _ _ _ _ _ _ _ _ _ _ _ _ _ _ _ _ _ _ _ _ _ _ _ _ _ _ _ _ _ _ _ _ _ _ _ _ _ _ _ _ _ _ _ _ _ _ _ _ _ _ _ _ _ _ _ _ _ _ _ _ _ _ _ _ _ _ _ _ _ _ _ _ _ _ _ _ _ _ _ _ _ _ _ _ => ZpL N e_1 f_2 e_3 f_4 k) k
def Zy7 := @ZaD _ @ZhR
theorem ZvN : @Zy7 = @ZhR := @Zak _ @ZhR
end
end Go.VM.VL
