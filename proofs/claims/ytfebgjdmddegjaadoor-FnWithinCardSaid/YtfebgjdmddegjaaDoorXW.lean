/- The functions of the program, told plainly: what each computes, as a function of its letters; and that the machine does the same. Printed by vgen.py, a program of this session's own. -/
import Derived.Test.YtfebgjdmddegjaaDoorVmZb
import Derived.Test.YtfebgjdmddegjaaDoorVmZl
import Derived.Test.YtfebgjdmddegjaaDoorVmZo
set_option linter.unusedVariables false
namespace Go.VM.VL
noncomputable section
def ZbB {R : Type} (e : V) (k : List V → Fl → Int → Int → Option R) : Option R :=
 asAgg e fun cs => ZdG cs fun v0 l0 => Zbq 1 v0 fun e_0 f_0 => ZdG l0 fun v1 l1 => asInt .i64 v1 fun x_1 => ZdG l1 fun v2 l2 => asInt .u64 v2 fun x_2 => ZvN l2 (k e_0 f_0 x_1 x_2)
theorem Zbn {R : Type} {e : V} {k : List V → Fl → Int → Int → Option R} {r : R} (h : ZbB e k = some r) : ∃ e_0 f_0 x_1 x_2, e = .agg [.list 1 e_0 f_0, .int .i64 x_1, .int .u64 x_2] ∧ k e_0 f_0 x_1 x_2 = some r := by
 unfold ZbB at h
 obtain ⟨_, rfl, h⟩ := Zcz h
 obtain ⟨_, _, rfl, h1⟩ := Zcx h
 obtain ⟨_, _, rfl, h2⟩ := Zat h1
 obtain ⟨_, _, rfl, h3⟩ := Zcx h2
 obtain ⟨_, rfl, h4⟩ := ZaI h3
 obtain ⟨_, _, rfl, h5⟩ := Zcx h4
 obtain ⟨_, rfl, h6⟩ := ZaI h5
 obtain ⟨rfl, h7⟩ := Zf3 h6
 exact ⟨_, _, _, _, rfl, h7⟩
def Zlk {R : Type} (N : Nat) (e_1 : List V) (f_2 : Fl) (e_3 : List V) (f_4 : Fl) (k : Bool → Option R) : Option R :=
 (match decide ((e_1.length : Int) > 1048576) with
  | true => k true
  | false => k (decide ((e_3.length : Int) > IntKind.i64.wrap (1048576 - (e_1.length : Int)))))
def Zt9 := @ZaB _ @Zlk
theorem Zos : @Zt9 = @Zlk := @Zal _ @Zlk
def Zsm {R : Type} (N : Nat) (w_1 : ByteArray) (x_2 : Int) (k : Int → Option R) : Option R :=
 k (Go.Lib.indexByte w_1.data.toList x_2.toNat.toUInt8)
def ZwB := @ZaB _ @Zsm
theorem Zpn : @ZwB = @Zsm := @Zal _ @Zsm
def ZjG {R : Type} (N : Nat) (w_1 : ByteArray) (x_2 : Int) (k : Int → Option R) : Option R :=
 ZwB N w_1 x_2 fun x1 => k x1
def Zt4 := @ZaB _ @ZjG
theorem Zoa : @Zt4 = @ZjG := @Zal _ @ZjG
def ZkQ {R : Type} (N : Nat) (w_1 w_2 : ByteArray) (k : Int → Option R) : Option R :=
 (match ((w_2.size : Int) == 0) with
  | true => k 0
  | false => (match (w_2.toList == w_1.toList) with
  | true => k 0
  | false => (match ((w_2.size : Int) == 1) with
   | true => ZbZ w_2 0 fun n1 => Zt4 N w_1 n1 fun x2 => k x2
   | false => (match decide ((w_2.size : Int) ≥ (w_1.size : Int)) with
   | true => k (-1)
   | false => none))))
def Zwi := @ZaB _ @ZkQ
theorem Zob : @Zwi = @ZkQ := @Zal _ @ZkQ
def Zlf {R : Type} (N : Nat) (w_1 w_2 : ByteArray) (k : Int → Option R) : Option R :=
 Zwi N w_1 w_2 fun x1 => k x1
def ZtB := @ZaB _ @Zlf
theorem Zo6 : @ZtB = @Zlf := @Zal _ @Zlf
def ZrC {R : Type} (N : Nat) (w_1 : ByteArray) (x_2 : Int) (k : Int → Option R) : Option R :=
 k ((Go.Lib.countByte w_1.data.toList x_2.toNat.toUInt8 : Nat) : Int)
def Zuf := @ZaB _ @ZrC
theorem Zox : @Zuf = @ZrC := @Zal _ @ZrC
def Zd1 {R : Type} (N : Nat) (w_2 : ByteArray) (nx : ByteArray → Int → Option R) (w_1 : ByteArray) (x_3 : Int) (k0 : Int → Option R) : Option R :=
 ZtB N w_1 w_2 fun x4 => (match (x4 == (-1)) with
  | true => k0 x_3
  | false => (if (0 : Int) ≤ IntKind.i64.wrap (x4 + (w_2.size : Int)) ∧ IntKind.i64.wrap (x4 + (w_2.size : Int)) ≤ (w_1.size : Int) then nx (ByteArray.extract w_1 ((IntKind.i64.wrap (x4 + (w_2.size : Int))).toNat) w_1.size) (IntKind.i64.wrap (x_3 + 1)) else none))
def Zin {R : Type} (N : Nat) (w_2 : ByteArray) (k0 : Int → Option R) : Nat → ByteArray → Int → Option R
 | 0, _, _ => none
 | n + 1, w_1, x_3 => Zd1 N w_2 (fun w_1 x_3 => Zin N w_2 k0 n w_1 x_3) w_1 x_3 k0
def Zkf {R : Type} (N : Nat) (w_1 w_2 : ByteArray) (k : Int → Option R) : Option R :=
 (match ((w_2.size : Int) == 0) with
  | true => none
  | false => (match ((w_2.size : Int) == 1) with
  | true => ZbZ w_2 0 fun n1 => Zuf N w_1 n1 fun x2 => k x2
  | false => Zin N w_2
    (fun x5 => k x5)
    N w_1 0))
def Zrk := @ZaB _ @Zkf
theorem Zot : @Zrk = @Zkf := @Zal _ @Zkf
def ZcK {R : Type} (N : Nat) (w_2 : ByteArray) (x_3 x_4 : Int) (k_5 : Nat) (nx : ByteArray → Int → List V → Option R) (w_1 : ByteArray) (x_6 : Int) (e_7 : List V) (k0 : ByteArray → Int → List V → Option R) : Option R :=
 (match decide (x_6 < x_4) with
  | true => ZtB N w_1 w_2 fun x5 => (match decide (x5 < 0) with
  | true => k0 w_1 x_6 e_7
  | false => (if (0 : Int) ≤ IntKind.i64.wrap (x5 + x_3) ∧ IntKind.i64.wrap (x5 + x_3) ≤ (w_1.size : Int) then (if (0 : Int) ≤ x_6 ∧ x_6 < k_5 then (match nth e_7 (0 + x_6.toNat) with
    | some e6 => (match Zb9 e6 0 [.str (ByteArray.extract w_1 0 ((IntKind.i64.wrap (x5 + x_3)).toNat))] with
    | some e7 => (if (0 : Int) ≤ IntKind.i64.wrap (x5 + (w_2.size : Int)) ∧ IntKind.i64.wrap (x5 + (w_2.size : Int)) ≤ (w_1.size : Int) then nx (ByteArray.extract w_1 ((IntKind.i64.wrap (x5 + (w_2.size : Int))).toNat) w_1.size) (IntKind.i64.wrap (x_6 + 1)) (ZaO e_7 (0 + x_6.toNat) e7) else none)
    | none => none)
    | none => none) else none) else none))
  | false => k0 w_1 x_6 e_7)
def ZdT {R : Type} (N : Nat) (w_2 : ByteArray) (x_3 x_4 : Int) (k_5 : Nat) (k0 : ByteArray → Int → List V → Option R) : Nat → ByteArray → Int → List V → Option R
 | 0, _, _, _ => none
 | n + 1, w_1, x_6, e_7 => ZcK N w_2 x_3 x_4 k_5 (fun w_1 x_6 e_7 => ZdT N w_2 x_3 x_4 k_5 k0 n w_1 x_6 e_7) w_1 x_6 e_7 k0
def ZkL {R : Type} (N : Nat) (w_1 w_2 : ByteArray) (x_3 x_4 : Int) (k0 : List V → Option R) (k1 : Nat → List V → Option R) : Option R :=
 (match (x_4 == 0) with
  | true => k0 []
  | false => (match (w_2.toList == (ByteArray.mk #[]).toList) with
  | true => none
  | false => (match decide (x_4 < 0) with
   | true => Zrk N w_1 w_2 fun x1 => (if 0 ≤ (if IntKind.i64.wrap ((w_1.size : Int) + 1) < IntKind.i64.wrap (x1 + 1) then IntKind.i64.wrap ((w_1.size : Int) + 1) else IntKind.i64.wrap (x1 + 1)) ∧ (if IntKind.i64.wrap ((w_1.size : Int) + 1) < IntKind.i64.wrap (x1 + 1) then IntKind.i64.wrap ((w_1.size : Int) + 1) else IntKind.i64.wrap (x1 + 1)) = (if IntKind.i64.wrap ((w_1.size : Int) + 1) < IntKind.i64.wrap (x1 + 1) then IntKind.i64.wrap ((w_1.size : Int) + 1) else IntKind.i64.wrap (x1 + 1)) ∧ (if IntKind.i64.wrap ((w_1.size : Int) + 1) < IntKind.i64.wrap (x1 + 1) then IntKind.i64.wrap ((w_1.size : Int) + 1) else IntKind.i64.wrap (x1 + 1)) * 16 ≤ 140737488355328 then ZdT N w_2 x_3 (IntKind.i64.wrap ((if IntKind.i64.wrap ((w_1.size : Int) + 1) < IntKind.i64.wrap (x1 + 1) then IntKind.i64.wrap ((w_1.size : Int) + 1) else IntKind.i64.wrap (x1 + 1)) - 1)) (((if IntKind.i64.wrap ((w_1.size : Int) + 1) < IntKind.i64.wrap (x1 + 1) then IntKind.i64.wrap ((w_1.size : Int) + 1) else IntKind.i64.wrap (x1 + 1))).toNat)
     (fun w8 x9 e10 => (if (0 : Int) ≤ x9 ∧ x9 < ((if IntKind.i64.wrap ((w_1.size : Int) + 1) < IntKind.i64.wrap (x1 + 1) then IntKind.i64.wrap ((w_1.size : Int) + 1) else IntKind.i64.wrap (x1 + 1))).toNat then (match nth e10 (0 + x9.toNat) with
     | some e11 => (match Zb9 e11 0 [.str w8] with
     | some e12 => (if (0 : Int) ≤ IntKind.i64.wrap (x9 + 1) ∧ IntKind.i64.wrap (x9 + 1) ≤ (((if IntKind.i64.wrap ((w_1.size : Int) + 1) < IntKind.i64.wrap (x1 + 1) then IntKind.i64.wrap ((w_1.size : Int) + 1) else IntKind.i64.wrap (x1 + 1))).toNat : Int) then Zak (ZaN (ZaO e10 (0 + x9.toNat) e12) && true) (k1 ((IntKind.i64.wrap (x9 + 1)).toNat) (ZaO e10 (0 + x9.toNat) e12)) else none)
     | none => none)
     | none => none) else none))
     N w_1 0 (List.replicate (((if IntKind.i64.wrap ((w_1.size : Int) + 1) < IntKind.i64.wrap (x1 + 1) then IntKind.i64.wrap ((w_1.size : Int) + 1) else IntKind.i64.wrap (x1 + 1))).toNat) (.str (ByteArray.mk #[]))) else none)
   | false => (if 0 ≤ (if IntKind.i64.wrap ((w_1.size : Int) + 1) < x_4 then IntKind.i64.wrap ((w_1.size : Int) + 1) else x_4) ∧ (if IntKind.i64.wrap ((w_1.size : Int) + 1) < x_4 then IntKind.i64.wrap ((w_1.size : Int) + 1) else x_4) = (if IntKind.i64.wrap ((w_1.size : Int) + 1) < x_4 then IntKind.i64.wrap ((w_1.size : Int) + 1) else x_4) ∧ (if IntKind.i64.wrap ((w_1.size : Int) + 1) < x_4 then IntKind.i64.wrap ((w_1.size : Int) + 1) else x_4) * 16 ≤ 140737488355328 then ZdT N w_2 x_3 (IntKind.i64.wrap ((if IntKind.i64.wrap ((w_1.size : Int) + 1) < x_4 then IntKind.i64.wrap ((w_1.size : Int) + 1) else x_4) - 1)) (((if IntKind.i64.wrap ((w_1.size : Int) + 1) < x_4 then IntKind.i64.wrap ((w_1.size : Int) + 1) else x_4)).toNat)
     (fun w13 x14 e15 => (if (0 : Int) ≤ x14 ∧ x14 < ((if IntKind.i64.wrap ((w_1.size : Int) + 1) < x_4 then IntKind.i64.wrap ((w_1.size : Int) + 1) else x_4)).toNat then (match nth e15 (0 + x14.toNat) with
     | some e16 => (match Zb9 e16 0 [.str w13] with
     | some e17 => (if (0 : Int) ≤ IntKind.i64.wrap (x14 + 1) ∧ IntKind.i64.wrap (x14 + 1) ≤ (((if IntKind.i64.wrap ((w_1.size : Int) + 1) < x_4 then IntKind.i64.wrap ((w_1.size : Int) + 1) else x_4)).toNat : Int) then Zak (ZaN (ZaO e15 (0 + x14.toNat) e17) && true) (k1 ((IntKind.i64.wrap (x14 + 1)).toNat) (ZaO e15 (0 + x14.toNat) e17)) else none)
     | none => none)
     | none => none) else none))
     N w_1 0 (List.replicate (((if IntKind.i64.wrap ((w_1.size : Int) + 1) < x_4 then IntKind.i64.wrap ((w_1.size : Int) + 1) else x_4)).toNat) (.str (ByteArray.mk #[]))) else none))))
def ZwC := @ZaB _ @ZkL
theorem ZoS : @ZwC = @ZkL := @Zal _ @ZkL
def Zjv {R : Type} (N : Nat) (w_1 w_2 : ByteArray) (k0 : List V → Option R) (k1 : Nat → List V → Option R) : Option R :=
 ZwC N w_1 w_2 0 (-1)
   (fun e1 => k0 e1)
   (fun k2 e3 => Zak (ZaN e3 && true) (k1 k2 e3))
def ZuM := @ZaB _ @Zjv
theorem ZnE : @ZuM = @Zjv := @Zal _ @Zjv
def ZhP {R : Type} (N : Nat) (w_1 : ByteArray) (k : Bool → Option R) : Option R :=
 k (w_1.toList == (ByteArray.mk #[]).toList)
def Zsk := @ZaB _ @ZhP
theorem Zi3 : @Zsk = @ZhP := @Zal _ @ZhP
def ZcJ {R : Type} (N : Nat) (e_1 : List V) (f_2 : Fl) (x_3 : Int) (nx : Int → Option R) (x_4 : Int) (k0 : Int → Option R) (k1 : Unit → Option R) : Option R :=
 (match decide (x_4 < x_3) with
  | true => (if 0 ≤ x_4 then ZbW (nth e_1 x_4.toNat) fun e4 => ZaQ e4 fun w5 => Zsk N w5 fun b6 => (match b6 with
   | true => k0 x_4
   | false => nx (IntKind.i64.wrap (x_4 + 1))) else none)
  | false => k1 ())
def ZeK {R : Type} (N : Nat) (e_1 : List V) (f_2 : Fl) (x_3 : Int) (k0 : Int → Option R) (k1 : Unit → Option R) : Nat → Int → Option R
 | 0, _ => none
 | n + 1, x_4 => ZcJ N e_1 f_2 x_3 (fun x_4 => ZeK N e_1 f_2 x_3 k0 k1 n x_4) x_4 k0 k1
def Zk3 {R : Type} (N : Nat) (e_1 : List V) (f_2 : Fl) (k : Int → Option R) : Option R :=
 ZeK N e_1 f_2 (e_1.length : Int)
   (fun x7 => k x7)
   (fun (_ : Unit) => k (-1))
   N 0
def Zuh := @ZaB _ @Zk3
theorem Zoy : @Zuh = @Zk3 := @Zal _ @Zk3
def ZcL {R : Type} (N : Nat) (k_1 : Nat) (nx : Int → Int → List V → Option R) (x_2 x_3 : Int) (e_4 : List V) (k0 : Int → List V → Option R) : Option R :=
 (match decide (x_3 < (k_1 : Int)) with
  | true => (if (0 : Int) ≤ x_3 ∧ x_3 < k_1 then (match nth e_4 (0 + x_3.toNat) with
   | some e10 => ZdG (e10.cells.drop 0) fun c11 l12 => ZaQ c11 fun w13 => Zsk N w13 fun b14 => (match (!b14) with
   | true => (if (0 : Int) ≤ x_2 ∧ x_2 < k_1 then (match nth e_4 (0 + x_2.toNat) with
    | some e15 => (match Zb9 e15 0 [.str w13] with
     | some e16 => nx (IntKind.i64.wrap (x_2 + 1)) (IntKind.i64.wrap (x_3 + 1)) (ZaO e_4 (0 + x_2.toNat) e16)
     | none => none)
    | none => none) else none)
   | false => nx x_2 (IntKind.i64.wrap (x_3 + 1)) e_4)
   | none => none) else none)
  | false => k0 x_2 e_4)
def ZdJ {R : Type} (N : Nat) (k_1 : Nat) (k0 : Int → List V → Option R) : Nat → Int → Int → List V → Option R
 | 0, _, _, _ => none
 | n + 1, x_2, x_3, e_4 => ZcL N k_1 (fun x_2 x_3 e_4 => ZdJ N k_1 k0 n x_2 x_3 e_4) x_2 x_3 e_4 k0
def ZjI {R : Type} (N : Nat) (k_1 : Nat) (e_2 : List V) (k : Nat → List V → Option R) : Option R :=
 (match ZaX (ZaW true [some ⟨e_2, 1, 9, 0⟩] 11) ((e_2.drop 0).take k_1) with
  | some e1 => Zak (decide (0 + k_1 ≤ e_2.length)) (Zuh N (e1.map V.lent) .bor fun x2 => (match (x2 == (-1)) with
   | true => Zak (ZaN e_2 && true) (k k_1 e_2)
   | false => ZdJ N k_1
     (fun x17 e18 => (if (0 : Int) ≤ x17 ∧ x17 ≤ (k_1 : Int) then Zak (decide ((0 + (x17 : Int).toNat) + (k_1 - (x17 : Int).toNat) ≤ e18.length)) ((if (0 : Int) ≤ x17 ∧ x17 ≤ (k_1 : Int) then Zak (ZaN (ZeQ e18 (0 + (x17 : Int).toNat) (k_1 - (x17 : Int).toNat) (.str (ByteArray.mk #[]))) && true) (k ((x17 : Int).toNat) (ZeQ e18 (0 + (x17 : Int).toNat) (k_1 - (x17 : Int).toNat) (.str (ByteArray.mk #[])))) else none)) else none))
     N x2 (IntKind.i64.wrap (x2 + 1)) e_2))
  | none => none)
def Zvu := @ZaB _ @ZjI
theorem ZnK : @Zvu = @ZjI := @Zal _ @ZjI
def ZjL {R : Type} (N : Nat) (w_1 : ByteArray) (k : List V → Option R) : Option R :=
 ZuM N w_1 (ByteArray.mk #[47])
   (fun e1 => none)
   (fun k2 e3 => Zak (ZaN e3 && true) (Zvu N k2 e3 fun k4 e5 => (match ZaX (ZaW false [some ⟨e5, 1, 9, 0⟩] 11) ((e5.drop 0).take k4) with
   | some e6 => Zak (decide (0 + k4 ≤ e5.length)) (Zak (e6.all V.plain) (k e6))
   | none => none)))
def Zsn := @ZaB _ @ZjL
theorem ZoD : @Zsn = @ZjL := @Zal _ @ZjL
def Zk1 {R : Type} (N : Nat) (x_1 x_2 x_3 : Int) (k : Bool → Option R) : Option R :=
 (match decide (x_1 ≥ x_2) with
  | true => k (decide (x_1 ≤ x_3))
  | false => k false)
def Zvl := @ZaB _ @Zk1
theorem Zop : @Zvl = @Zk1 := @Zal _ @Zk1
def Zkw {R : Type} (N : Nat) (x_1 : Int) (k : Bool → Option R) : Option R :=
 (match decide (x_1 ≥ 97) with
  | true => (match decide (x_1 ≤ 122) with
  | true => k true
  | false => (match decide (x_1 ≥ 48) with
   | true => (match decide (x_1 ≤ 57) with
   | true => k true
   | false => (match (x_1 == 46) with
    | true => k true
    | false => (match (x_1 == 95) with
    | true => k true
    | false => k (x_1 == 45))))
   | false => (match (x_1 == 46) with
   | true => k true
   | false => (match (x_1 == 95) with
    | true => k true
    | false => k (x_1 == 45)))))
  | false => (match decide (x_1 ≥ 48) with
  | true => (match decide (x_1 ≤ 57) with
   | true => k true
   | false => (match (x_1 == 46) with
   | true => k true
   | false => (match (x_1 == 95) with
    | true => k true
    | false => k (x_1 == 45))))
  | false => (match (x_1 == 46) with
   | true => k true
   | false => (match (x_1 == 95) with
   | true => k true
   | false => k (x_1 == 45)))))
def Zvm := @ZaB _ @Zkw
theorem Zpa : @Zvm = @Zkw := @Zal _ @Zkw
def ZjP {R : Type} (N : Nat) (x_1 : Int) (k : Bool → Option R) : Option R :=
 Zvm N x_1 fun b1 => k (!b1)
def ZwS := @ZaB _ @ZjP
theorem Zon : @ZwS = @ZjP := @Zal _ @ZjP
def ZcF {R : Type} (N : Nat) (e_1 : List V) (f_2 : Fl) (x_3 : Int) (nx : Int → Option R) (x_4 : Int) (k0 : Int → Option R) (k1 : Unit → Option R) : Option R :=
 (match decide (x_4 < x_3) with
  | true => (if 0 ≤ x_4 then ZbW (nth e_1 x_4.toNat) fun e4 => asInt .u8 e4 fun n5 => ZwS N n5 fun b6 => (match b6 with
   | true => k0 x_4
   | false => nx (IntKind.i64.wrap (x_4 + 1))) else none)
  | false => k1 ())
def ZeT {R : Type} (N : Nat) (e_1 : List V) (f_2 : Fl) (x_3 : Int) (k0 : Int → Option R) (k1 : Unit → Option R) : Nat → Int → Option R
 | 0, _ => none
 | n + 1, x_4 => ZcF N e_1 f_2 x_3 (fun x_4 => ZeT N e_1 f_2 x_3 k0 k1 n x_4) x_4 k0 k1
def Zkk {R : Type} (N : Nat) (e_1 : List V) (f_2 : Fl) (k : Int → Option R) : Option R :=
 ZeT N e_1 f_2 (e_1.length : Int)
   (fun x7 => k x7)
   (fun (_ : Unit) => k (-1))
   N 0
def ZwM := @ZaB _ @Zkk
theorem Znx : @ZwM = @Zkk := @Zal _ @Zkk
def Zj4 {R : Type} (N : Nat) (e_1 : List V) (f_2 : Fl) (k : Bool → Option R) : Option R :=
 ZwM N e_1 f_2.noOwn.noOwn fun x1 => k (decide (x1 ≥ 0))
def ZuB := @ZaB _ @Zj4
theorem Zo1 : @ZuB = @Zj4 := @Zal _ @Zj4
def Zke {R : Type} (N : Nat) (w_1 : ByteArray) (k : Bool → Option R) : Option R :=
 Zvl N (w_1.size : Int) 1 8 fun b1 => (match b1 with
  | true => ZuB N (Zco w_1) .sh fun b2 => k (!b2)
  | false => k false)
def Zs1 := @ZaB _ @Zke
theorem ZnT : @Zs1 = @Zke := @Zal _ @Zke
def Zj7 {R : Type} (N : Nat) (w_1 : ByteArray) (k : Bool → Option R) : Option R :=
 Zs1 N w_1 fun b1 => k (!b1)
def Zw5 := @ZaB _ @Zj7
theorem Zpl : @Zw5 = @Zj7 := @Zal _ @Zj7
def ZcI {R : Type} (N : Nat) (e_1 : List V) (f_2 : Fl) (x_3 : Int) (nx : Int → Option R) (x_4 : Int) (k0 : Int → Option R) (k1 : Unit → Option R) : Option R :=
 (match decide (x_4 < x_3) with
  | true => (if 0 ≤ x_4 then ZbW (nth e_1 x_4.toNat) fun e4 => ZaQ e4 fun w5 => Zw5 N w5 fun b6 => (match b6 with
   | true => k0 x_4
   | false => nx (IntKind.i64.wrap (x_4 + 1))) else none)
  | false => k1 ())
def ZeN {R : Type} (N : Nat) (e_1 : List V) (f_2 : Fl) (x_3 : Int) (k0 : Int → Option R) (k1 : Unit → Option R) : Nat → Int → Option R
 | 0, _ => none
 | n + 1, x_4 => ZcI N e_1 f_2 x_3 (fun x_4 => ZeN N e_1 f_2 x_3 k0 k1 n x_4) x_4 k0 k1
def Zks {R : Type} (N : Nat) (e_1 : List V) (f_2 : Fl) (k : Int → Option R) : Option R :=
 ZeN N e_1 f_2 (e_1.length : Int)
   (fun x7 => k x7)
   (fun (_ : Unit) => k (-1))
   N 0
def Zwr := @ZaB _ @Zks
theorem ZoW : @Zwr = @Zks := @Zal _ @Zks
def Zll {R : Type} (N : Nat) (e_1 : List V) (f_2 : Fl) (k : Bool → Option R) : Option R :=
 Zwr N e_1 f_2.noOwn.noOwn fun x1 => k (decide (x1 ≥ 0))
def Zvr := @ZaB _ @Zll
theorem Zph : @Zvr = @Zll := @Zal _ @Zll
def Zjm {R : Type} (N : Nat) (w_1 : ByteArray) (k : Bool → Option R) : Option R :=
 (match (!(w_1.toList == (ByteArray.mk #[]).toList)) with
  | true => Zsn N w_1 fun e1 => Zvr N e1 .sh fun b2 => k (!b2)
  | false => k false)
def ZwV := @ZaB _ @Zjm
theorem ZoI : @ZwV = @Zjm := @Zal _ @Zjm
def Zlx {R : Type} (N : Nat) (w_1 : ByteArray) (k : Bool → Option R) : Option R :=
 (match decide ((w_1.size : Int) ≤ 60) with
  | true => ZwV N w_1 fun b1 => k b1
  | false => k false)
def Zlc := @ZaB _ @Zlx
theorem Zok : @Zlc = @Zlx := @Zal _ @Zlx
def Zh2 {R : Type} (N : Nat) (e_1 : List V) (f_2 : Fl) (w_3 : ByteArray) (k : ByteArray → Option R) : Option R :=
 Ztj e_1 w_3 k
def ZvH := @ZaB _ @Zh2
theorem Zi5 : @ZvH = @Zh2 := @Zal _ @Zh2
def Zkr {R : Type} (N : Nat) (e_1 : List V) (f_2 : Fl) (k : ByteArray → Option R) : Option R :=
 ZvH N e_1 f_2.noOwn.noOwn (ByteArray.mk #[47]) fun w1 => (if (ByteArray.mk #[47]).size + w1.size ≤ 4611686018427387904 then k ((ByteArray.mk #[47]) ++ w1) else none)
def Zt8 := @ZaB _ @Zkr
theorem Zof : @Zt8 = @Zkr := @Zal _ @Zkr
def Zci {R : Type} (N : Nat) (b_1 : Bool) (e_2 : List V) (x_3 : Int) (nx : Nat → Nat → Int → Ob → Option R) (k_5 k_6 : Nat) (x_4 : Int) (O_9 : Ob) (k0 : Nat → Nat → Ob → Option R) : Option R :=
 (match decide (x_4 < x_3) with
  | true => (if 0 ≤ x_4 then ZbW (nth e_2 x_4.toNat) fun e18 => ZaQ e18 fun w19 => (match (w19.toList == (ByteArray.mk #[46]).toList) with
   | true => nx k_5 k_6 (IntKind.i64.wrap (x_4 + 1)) O_9
   | false => (match (!(w19.toList == (ByteArray.mk #[46, 46]).toList)) with
   | true => (match Za9 [some O_9] 0 k_5 with
    | some ob20 => (if k_6 ≤ ob20.es.length then (match Za9 [some { ob20 with es := (ob20.es.take k_6) }] 0 k_5 with
     | some ob21 => Zak (Nat.beq ob21.elem 9) ((if 0 = 0 ∧ k_6 = ob21.es.length ∧ (k_6 + 1) * 16 ≤ 140737488355328 ∧ 0 < 1 then nx (k_5 + 1) (k_6 + 1) (IntKind.i64.wrap (x_4 + 1)) ({ ob21 with es := (ob21.es ++ ([.str w19] : List V)), ver := (k_5 + 1) }) else none))
     | none => none) else none)
    | none => none)
   | false => (match decide (IntKind.i64.wrap ((k_6 : Int) - 1) ≥ 0) with
    | true => (match Za9 [some O_9] 0 k_5 with
    | some ob22 => Zak (Nat.beq ob22.elem 9) ((if (0 : Int) ≤ IntKind.i64.wrap ((k_6 : Int) - 1) ∧ IntKind.i64.wrap ((k_6 : Int) - 1) < k_6 then (match Za9 [some O_9] 0 k_5 with
      | some ob23 => (match nth ob23.es (0 + (IntKind.i64.wrap ((k_6 : Int) - 1)).toNat) with
      | some e24 => ZdG (e24.cells.drop 0) fun c25 l26 => ZaQ c25 fun w27 => (match (!(w27.toList == (ByteArray.mk #[46, 46]).toList)) with
       | true => (match Za9 [some O_9] 0 k_5 with
       | some ob28 => (match Nat.beq ob28.esz 1 with
        | true => (if (0 : Int) ≤ IntKind.i64.wrap ((k_6 : Int) - 1) ∧ IntKind.i64.wrap ((k_6 : Int) - 1) ≤ (k_6 : Int) then nx k_5 ((IntKind.i64.wrap ((k_6 : Int) - 1)).toNat) (IntKind.i64.wrap (x_4 + 1)) O_9 else none)
        | false => none)
       | none => none)
       | false => (match (!b_1) with
       | true => (match Za9 [some O_9] 0 k_5 with
        | some ob29 => (if k_6 ≤ ob29.es.length then (match Za9 [some { ob29 with es := (ob29.es.take k_6) }] 0 k_5 with
         | some ob30 => Zak (Nat.beq ob30.elem 9) ((if 0 = 0 ∧ k_6 = ob30.es.length ∧ (k_6 + 1) * 16 ≤ 140737488355328 ∧ 0 < 1 then nx (k_5 + 1) (k_6 + 1) (IntKind.i64.wrap (x_4 + 1)) ({ ob30 with es := (ob30.es ++ ([.str w19] : List V)), ver := (k_5 + 1) }) else none))
         | none => none) else none)
        | none => none)
       | false => nx k_5 k_6 (IntKind.i64.wrap (x_4 + 1)) O_9))
      | none => none)
      | none => none) else none))
    | none => none)
    | false => (match (!b_1) with
    | true => (match Za9 [some O_9] 0 k_5 with
     | some ob31 => (if k_6 ≤ ob31.es.length then (match Za9 [some { ob31 with es := (ob31.es.take k_6) }] 0 k_5 with
      | some ob32 => Zak (Nat.beq ob32.elem 9) ((if 0 = 0 ∧ k_6 = ob32.es.length ∧ (k_6 + 1) * 16 ≤ 140737488355328 ∧ 0 < 1 then nx (k_5 + 1) (k_6 + 1) (IntKind.i64.wrap (x_4 + 1)) ({ ob32 with es := (ob32.es ++ ([.str w19] : List V)), ver := (k_5 + 1) }) else none))
      | none => none) else none)
     | none => none)
    | false => nx k_5 k_6 (IntKind.i64.wrap (x_4 + 1)) O_9)))) else none)
  | false => k0 k_5 k_6 O_9)
def Zdk {R : Type} (N : Nat) (b_1 : Bool) (e_2 : List V) (x_3 : Int) (k0 : Nat → Nat → Ob → Option R) : Nat → Nat → Nat → Int → Ob → Option R
 | 0, _, _, _, _ => none
 | n + 1, k_5, k_6, x_4, O_9 => Zci N b_1 e_2 x_3 (fun k_5 k_6 x_4 O_9 => Zdk N b_1 e_2 x_3 k0 n k_5 k_6 x_4 O_9) k_5 k_6 x_4 O_9 k0
def Zlw {R : Type} (N : Nat) (w_1 : ByteArray) (k : ByteArray → Option R) : Option R :=
 ZbZ w_1 0 fun n1 => Zsn N w_1 fun e2 => Zdk N (n1 == 47) e2 (e2.length : Int)
   (fun k33 k34 O35 => (match (n1 == 47) with
  | true => (match Za9 [some O35] 0 k33 with
   | some ob36 => (match ZaX (ZaW true [some O35] 11) ((ob36.es.drop 0).take k34) with
   | some e37 => Zak (decide (0 + k34 ≤ ob36.es.length)) ((match Nat.beq ob36.esz 1 with
    | true => Zt8 N (e37.map V.lent) .bor fun w38 => k w38
    | false => none))
   | none => none)
   | none => none)
  | false => (match ((k34 : Int) == 0) with
   | true => k (ByteArray.mk #[46])
   | false => (match Za9 [some O35] 0 k33 with
   | some ob39 => (match ZaX (ZaW true [some O35] 11) ((ob39.es.drop 0).take k34) with
    | some e40 => Zak (decide (0 + k34 ≤ ob39.es.length)) ((match Nat.beq ob39.esz 1 with
     | true => ZvH N (e40.map V.lent) .bor (ByteArray.mk #[47]) fun w41 => k w41
     | false => none))
    | none => none)
   | none => none))))
   N 0 0 0 (⟨[], 1, 9, 0⟩ : Ob)
def ZmM := @ZaB _ @Zlw
theorem Zn7 : @ZmM = @Zlw := @Zal _ @Zlw
def Zk0 {R : Type} (N : Nat) (w_1 : ByteArray) (k : ByteArray → Bool → Option R) : Option R :=
 Zlc N w_1 fun b1 => (match (!b1) with
  | true => k (ByteArray.mk #[]) false
  | false => ZmM N w_1 fun w2 => k w2 true)
def ZkB := @ZaB _ @Zk0
theorem Zpo : @ZkB = @Zk0 := @Zal _ @Zk0
def Zka {R : Type} (N : Nat) (w_1 : ByteArray) (k : Bool → Option R) : Option R :=
 (match (w_1.toList == (ByteArray.mk #[46]).toList) with
  | true => k true
  | false => k (w_1.toList == (ByteArray.mk #[46, 46]).toList))
def Zwe := @ZaB _ @Zka
theorem ZnN : @Zwe = @Zka := @Zal _ @Zka
def ZjZ {R : Type} (N : Nat) (w_1 : ByteArray) (k : Bool → Option R) : Option R :=
 Zs1 N w_1 fun b1 => (match b1 with
  | true => Zwe N w_1 fun b2 => k (!b2)
  | false => k false)
def ZsN := @ZaB _ @ZjZ
theorem ZoO : @ZsN = @ZjZ := @Zal _ @ZjZ
def ZcG {R : Type} (N : Nat) (w_1 : ByteArray) (x_2 : Int) (nx : Int → Option R) (x_3 : Int) (k0 : Int → Option R) (k1 : Unit → Option R) : Option R :=
 (match decide (x_3 ≥ 0) with
  | true => ZbZ w_1 x_3 fun n2 => (match (n2 == x_2) with
  | true => k0 x_3
  | false => nx (IntKind.i64.wrap (x_3 - 1)))
  | false => k1 ())
def ZeA {R : Type} (N : Nat) (w_1 : ByteArray) (x_2 : Int) (k0 : Int → Option R) (k1 : Unit → Option R) : Nat → Int → Option R
 | 0, _ => none
 | n + 1, x_3 => ZcG N w_1 x_2 (fun x_3 => ZeA N w_1 x_2 k0 k1 n x_3) x_3 k0 k1
def Zj1 {R : Type} (N : Nat) (w_1 : ByteArray) (x_2 : Int) (k : Int → Option R) : Option R :=
 ZeA N w_1 x_2
   (fun x3 => k x3)
   (fun (_ : Unit) => k (-1))
   N (IntKind.i64.wrap ((w_1.size : Int) - 1))
def ZwU := @ZaB _ @Zj1
theorem Zpj : @ZwU = @Zj1 := @Zal _ @Zj1
def ZjH {R : Type} (N : Nat) (w_1 : ByteArray) (x_2 : Int) (k : Int → Option R) : Option R :=
 ZwU N w_1 x_2 fun x1 => k x1
def Zue := @ZaB _ @ZjH
theorem ZoJ : @Zue = @ZjH := @Zal _ @ZjH
def Zkz {R : Type} (N : Nat) (w_1 : ByteArray) (k : ByteArray → ByteArray → Bool → Option R) : Option R :=
 Zlc N w_1 fun b1 => (match (!b1) with
  | true => k (ByteArray.mk #[]) (ByteArray.mk #[]) false
  | false => ZmM N w_1 fun w2 => Zue N w2 47 fun x3 => (if (0 : Int) ≤ (if 0 < x3 then x3 else 0) ∧ (if 0 < x3 then x3 else 0) ≤ (w2.size : Int) then (if (0 : Int) ≤ IntKind.i64.wrap (x3 + 1) ∧ IntKind.i64.wrap (x3 + 1) ≤ (w2.size : Int) then (if (0 : Int) ≤ IntKind.i64.wrap (x3 + 1) ∧ IntKind.i64.wrap (x3 + 1) ≤ (w2.size : Int) then ZsN N (ByteArray.extract w2 ((IntKind.i64.wrap (x3 + 1)).toNat) w2.size) fun b4 => k (ByteArray.extract w2 0 (((if 0 < x3 then x3 else 0)).toNat)) (ByteArray.extract w2 ((IntKind.i64.wrap (x3 + 1)).toNat) w2.size) b4 else none) else none) else none))
def ZtP := @ZaB _ @Zkz
theorem Zpw : @ZtP = @Zkz := @Zal _ @Zkz
def ZkW {R : Type} (N : Nat) (w_1 : ByteArray) (k : ByteArray → Bool → Option R) : Option R :=
 ZtP N w_1 fun w1 w2 b3 => (match (!b3) with
  | true => k (ByteArray.mk #[]) false
  | false => (match (!(w1.toList == (ByteArray.mk #[]).toList)) with
  | true => k w1 true
  | false => ZbZ w_1 0 fun n4 => (match (n4 == 47) with
   | true => k (ByteArray.mk #[47]) true
   | false => k (ByteArray.mk #[46]) true)))
def ZuC := @ZaB _ @ZkW
theorem Zpu : @ZuC = @ZkW := @Zal _ @ZkW
def Zjz {R : Type} (N : Nat) (x_1 x_2 x_3 : Int) (k : Bool → Option R) : Option R :=
 (match decide (x_1 ≥ x_2) with
  | true => k (decide (x_1 ≤ x_3))
  | false => k false)
def Zs9 := @ZaB _ @Zjz
theorem Zpp : @Zs9 = @Zjz := @Zal _ @Zjz
def ZcE {R : Type} (N : Nat) (w_1 : ByteArray) (nx : Int → Option R) (x_2 : Int) (k0 : Unit → Option R) (k1 : Unit → Option R) : Option R :=
 (match decide (x_2 < (w_1.size : Int)) with
  | true => ZbZ w_1 x_2 fun n2 => (match decide (n2 < 97) with
  | true => (match decide (n2 < 48) with
   | true => (match (n2 != 46) with
   | true => (match (n2 != 95) with
    | true => (match (n2 != 45) with
    | true => k0 ()
    | false => nx (IntKind.i64.wrap (x_2 + 1)))
    | false => nx (IntKind.i64.wrap (x_2 + 1)))
   | false => nx (IntKind.i64.wrap (x_2 + 1)))
   | false => (match decide (n2 > 57) with
   | true => (match (n2 != 46) with
    | true => (match (n2 != 95) with
    | true => (match (n2 != 45) with
     | true => k0 ()
     | false => nx (IntKind.i64.wrap (x_2 + 1)))
    | false => nx (IntKind.i64.wrap (x_2 + 1)))
    | false => nx (IntKind.i64.wrap (x_2 + 1)))
   | false => nx (IntKind.i64.wrap (x_2 + 1))))
  | false => (match decide (n2 > 122) with
   | true => (match decide (n2 < 48) with
   | true => (match (n2 != 46) with
    | true => (match (n2 != 95) with
    | true => (match (n2 != 45) with
     | true => k0 ()
     | false => nx (IntKind.i64.wrap (x_2 + 1)))
    | false => nx (IntKind.i64.wrap (x_2 + 1)))
    | false => nx (IntKind.i64.wrap (x_2 + 1)))
   | false => (match decide (n2 > 57) with
    | true => (match (n2 != 46) with
    | true => (match (n2 != 95) with
     | true => (match (n2 != 45) with
     | true => k0 ()
     | false => nx (IntKind.i64.wrap (x_2 + 1)))
     | false => nx (IntKind.i64.wrap (x_2 + 1)))
    | false => nx (IntKind.i64.wrap (x_2 + 1)))
    | false => nx (IntKind.i64.wrap (x_2 + 1))))
   | false => nx (IntKind.i64.wrap (x_2 + 1))))
  | false => k1 ())
def ZdX {R : Type} (N : Nat) (w_1 : ByteArray) (k0 : Unit → Option R) (k1 : Unit → Option R) : Nat → Int → Option R
 | 0, _ => none
 | n + 1, x_2 => ZcE N w_1 (fun x_2 => ZdX N w_1 k0 k1 n x_2) x_2 k0 k1
def Zj2 {R : Type} (N : Nat) (w_1 : ByteArray) (k : Bool → Option R) : Option R :=
 ZdX N w_1
   (fun (_ : Unit) => k false)
   (fun (_ : Unit) => Zs9 N (w_1.size : Int) 1 8 fun b3 => (match b3 with
  | true => (match (!(w_1.toList == (ByteArray.mk #[46]).toList)) with
   | true => k (!(w_1.toList == (ByteArray.mk #[46, 46]).toList))
   | false => k false)
  | false => k false))
   N 0
def Zt3 := @ZaB _ @Zj2
theorem ZoY : @Zt3 = @Zj2 := @Zal _ @Zj2
def ZcH {R : Type} (N : Nat) (w_1 : ByteArray) (x_2 : Int) (nx : List V → Int → Int → Option R) (e_3 : List V) (x_4 x_5 : Int) (k0 : List V → Int → Option R) : Option R :=
 (match decide (x_5 < (w_1.size : Int)) with
  | true => ZbZ w_1 x_5 fun n2 => (match (n2 == x_2) with
  | true => (if (0 : Int) ≤ x_5 ∧ x_5 ≤ (w_1.size : Int) then (if (0 : Int) ≤ x_4 ∧ x_4 ≤ ((x_5 : Int).toNat : Int) then (if (e_3.length + 1) * 16 ≤ 140737488355328 then nx (e_3 ++ ([.str (ByteArray.extract w_1 ((x_4 : Int).toNat) ((x_5 : Int).toNat))] : List V)) (IntKind.i64.wrap (x_5 + 1)) (IntKind.i64.wrap (x_5 + 1)) else none) else none) else none)
  | false => nx e_3 x_4 (IntKind.i64.wrap (x_5 + 1)))
  | false => k0 e_3 x_4)
def ZeG {R : Type} (N : Nat) (w_1 : ByteArray) (x_2 : Int) (k0 : List V → Int → Option R) : Nat → List V → Int → Int → Option R
 | 0, _, _, _ => none
 | n + 1, e_3, x_4, x_5 => ZcH N w_1 x_2 (fun e_3 x_4 x_5 => ZeG N w_1 x_2 k0 n e_3 x_4 x_5) e_3 x_4 x_5 k0
def Zlq {R : Type} (N : Nat) (w_1 : ByteArray) (x_2 : Int) (k : List V → Option R) : Option R :=
 ZeG N w_1 x_2
   (fun e3 x4 => (if (0 : Int) ≤ x4 ∧ x4 ≤ (w_1.size : Int) then (if (e3.length + 1) * 16 ≤ 140737488355328 then k (e3 ++ ([.str (ByteArray.extract w_1 ((x4 : Int).toNat) w_1.size)] : List V)) else none) else none))
   N [] 0 0
def Zvh := @ZaB _ @Zlq
theorem Zpk : @Zvh = @Zlq := @Zal _ @Zlq
def ZcM {R : Type} (N : Nat) (e_2 : List V) (x_3 : Int) (nx : List V → Int → Option R) (e_1 : List V) (x_4 : Int) (k0 : List V → Option R) : Option R :=
 (match decide (x_4 < x_3) with
  | true => (if 0 ≤ x_4 then ZbW (nth e_2 x_4.toNat) fun e4 => ZaQ e4 fun w5 => (match (!(w5.toList == (ByteArray.mk #[]).toList)) with
   | true => (if (e_1.length + 1) * 16 ≤ 140737488355328 then nx (e_1 ++ ([.str w5] : List V)) (IntKind.i64.wrap (x_4 + 1)) else none)
   | false => nx e_1 (IntKind.i64.wrap (x_4 + 1))) else none)
  | false => k0 e_1)
def ZeL {R : Type} (N : Nat) (e_2 : List V) (x_3 : Int) (k0 : List V → Option R) : Nat → List V → Int → Option R
 | 0, _, _ => none
 | n + 1, e_1, x_4 => ZcM N e_2 x_3 (fun e_1 x_4 => ZeL N e_2 x_3 k0 n e_1 x_4) e_1 x_4 k0
def ZjX {R : Type} (N : Nat) (w_1 : ByteArray) (k : List V → Option R) : Option R :=
 Zvh N w_1 47 fun e1 => ZeL N e1 (e1.length : Int)
   (fun e6 => k e6)
   N [] 0
def Zs2 := @ZaB _ @ZjX
theorem ZnP : @Zs2 = @ZjX := @Zal _ @ZjX
def ZcN {R : Type} (N : Nat) (w_1 : ByteArray) (e_2 : List V) (x_3 : Int) (nx : Int → Option R) (x_4 : Int) (k0 : Unit → Option R) (k1 : Unit → Option R) : Option R :=
 (match decide (x_4 < x_3) with
  | true => (if 0 ≤ x_4 then ZbW (nth e_2 x_4.toNat) fun e5 => ZaQ e5 fun w6 => Zt3 N w6 fun b7 => (match (!b7) with
   | true => (match (!(w6.toList == (ByteArray.mk #[46]).toList)) with
   | true => (match (!(w6.toList == (ByteArray.mk #[46, 46]).toList)) with
    | true => k0 ()
    | false => nx (IntKind.i64.wrap (x_4 + 1)))
   | false => nx (IntKind.i64.wrap (x_4 + 1)))
   | false => nx (IntKind.i64.wrap (x_4 + 1))) else none)
  | false => k1 ())
def ZeP {R : Type} (N : Nat) (w_1 : ByteArray) (e_2 : List V) (x_3 : Int) (k0 : Unit → Option R) (k1 : Unit → Option R) : Nat → Int → Option R
 | 0, _ => none
 | n + 1, x_4 => ZcN N w_1 e_2 x_3 (fun x_4 => ZeP N w_1 e_2 x_3 k0 k1 n x_4) x_4 k0 k1
def Zjx {R : Type} (N : Nat) (w_1 : ByteArray) (k : Bool → Option R) : Option R :=
 Zs2 N w_1 fun e1 => ZeP N w_1 e1 (e1.length : Int)
   (fun (_ : Unit) => k false)
   (fun (_ : Unit) => Zs9 N (w_1.size : Int) 1 60 fun b8 => k b8)
   N 0
def ZjQ := @ZaB _ @Zjx
theorem ZoG : @ZjQ = @Zjx := @Zal _ @Zjx
def Zcj {R : Type} (N : Nat) (w_1 : ByteArray) (e_2 : List V) (x_3 : Int) (nx : Nat → Nat → Int → Ob → Option R) (k_5 k_6 : Nat) (x_4 : Int) (O_9 : Ob) (k0 : Nat → Nat → Ob → Option R) : Option R :=
 (match decide (x_4 < x_3) with
  | true => (if 0 ≤ x_4 then ZbW (nth e_2 x_4.toNat) fun e26 => ZaQ e26 fun w27 => (match (w27.toList == (ByteArray.mk #[46]).toList) with
   | true => nx k_5 k_6 (IntKind.i64.wrap (x_4 + 1)) O_9
   | false => (match (w27.toList == (ByteArray.mk #[46, 46]).toList) with
   | true => (match decide ((k_6 : Int) > 0) with
    | true => (match Za9 [some ⟨[], 1, 9, 0⟩, some O_9] 1 k_5 with
    | some ob28 => Zak (Nat.beq ob28.elem 9) ((if (0 : Int) ≤ IntKind.i64.wrap ((k_6 : Int) - 1) ∧ IntKind.i64.wrap ((k_6 : Int) - 1) < k_6 then (match Za9 [some ⟨[], 1, 9, 0⟩, some O_9] 1 k_5 with
      | some ob29 => (match nth ob29.es (0 + (IntKind.i64.wrap ((k_6 : Int) - 1)).toNat) with
      | some e30 => ZdG (e30.cells.drop 0) fun c31 l32 => ZaQ c31 fun w33 => (match (!(w33.toList == (ByteArray.mk #[46, 46]).toList)) with
       | true => (match Za9 [some ⟨[], 1, 9, 0⟩, some O_9] 1 k_5 with
       | some ob34 => (match Nat.beq ob34.esz 1 with
        | true => (if (0 : Int) ≤ IntKind.i64.wrap ((k_6 : Int) - 1) ∧ IntKind.i64.wrap ((k_6 : Int) - 1) ≤ (k_6 : Int) then nx k_5 ((IntKind.i64.wrap ((k_6 : Int) - 1)).toNat) (IntKind.i64.wrap (x_4 + 1)) O_9 else none)
        | false => none)
       | none => none)
       | false => (match (w27.toList == (ByteArray.mk #[46, 46]).toList) with
       | true => ZbZ w_1 0 fun n35 => (match (n35 == 47) with
        | true => nx k_5 k_6 (IntKind.i64.wrap (x_4 + 1)) O_9
        | false => (match Za9 [some ⟨[], 1, 9, 0⟩, some O_9] 1 k_5 with
        | some ob36 => (if k_6 ≤ ob36.es.length then (match Za9 [some ⟨[], 1, 9, 0⟩, some { ob36 with es := (ob36.es.take k_6) }] 1 k_5 with
         | some ob37 => Zak (Nat.beq ob37.elem 9) ((if 0 = 0 ∧ k_6 = ob37.es.length ∧ (k_6 + 1) * 16 ≤ 140737488355328 ∧ 0 < 1 then nx (k_5 + 1) (k_6 + 1) (IntKind.i64.wrap (x_4 + 1)) ({ ob37 with es := (ob37.es ++ ([.str w27] : List V)), ver := (k_5 + 1) }) else none))
         | none => none) else none)
        | none => none))
       | false => (match Za9 [some ⟨[], 1, 9, 0⟩, some O_9] 1 k_5 with
        | some ob38 => (if k_6 ≤ ob38.es.length then (match Za9 [some ⟨[], 1, 9, 0⟩, some { ob38 with es := (ob38.es.take k_6) }] 1 k_5 with
         | some ob39 => Zak (Nat.beq ob39.elem 9) ((if 0 = 0 ∧ k_6 = ob39.es.length ∧ (k_6 + 1) * 16 ≤ 140737488355328 ∧ 0 < 1 then nx (k_5 + 1) (k_6 + 1) (IntKind.i64.wrap (x_4 + 1)) ({ ob39 with es := (ob39.es ++ ([.str w27] : List V)), ver := (k_5 + 1) }) else none))
         | none => none) else none)
        | none => none)))
      | none => none)
      | none => none) else none))
    | none => none)
    | false => (match (w27.toList == (ByteArray.mk #[46, 46]).toList) with
    | true => ZbZ w_1 0 fun n40 => (match (n40 == 47) with
     | true => nx k_5 k_6 (IntKind.i64.wrap (x_4 + 1)) O_9
     | false => (match Za9 [some ⟨[], 1, 9, 0⟩, some O_9] 1 k_5 with
     | some ob41 => (if k_6 ≤ ob41.es.length then (match Za9 [some ⟨[], 1, 9, 0⟩, some { ob41 with es := (ob41.es.take k_6) }] 1 k_5 with
      | some ob42 => Zak (Nat.beq ob42.elem 9) ((if 0 = 0 ∧ k_6 = ob42.es.length ∧ (k_6 + 1) * 16 ≤ 140737488355328 ∧ 0 < 1 then nx (k_5 + 1) (k_6 + 1) (IntKind.i64.wrap (x_4 + 1)) ({ ob42 with es := (ob42.es ++ ([.str w27] : List V)), ver := (k_5 + 1) }) else none))
      | none => none) else none)
     | none => none))
    | false => (match Za9 [some ⟨[], 1, 9, 0⟩, some O_9] 1 k_5 with
     | some ob43 => (if k_6 ≤ ob43.es.length then (match Za9 [some ⟨[], 1, 9, 0⟩, some { ob43 with es := (ob43.es.take k_6) }] 1 k_5 with
      | some ob44 => Zak (Nat.beq ob44.elem 9) ((if 0 = 0 ∧ k_6 = ob44.es.length ∧ (k_6 + 1) * 16 ≤ 140737488355328 ∧ 0 < 1 then nx (k_5 + 1) (k_6 + 1) (IntKind.i64.wrap (x_4 + 1)) ({ ob44 with es := (ob44.es ++ ([.str w27] : List V)), ver := (k_5 + 1) }) else none))
      | none => none) else none)
     | none => none)))
   | false => (match (w27.toList == (ByteArray.mk #[46, 46]).toList) with
    | true => ZbZ w_1 0 fun n45 => (match (n45 == 47) with
    | true => nx k_5 k_6 (IntKind.i64.wrap (x_4 + 1)) O_9
    | false => (match Za9 [some ⟨[], 1, 9, 0⟩, some O_9] 1 k_5 with
     | some ob46 => (if k_6 ≤ ob46.es.length then (match Za9 [some ⟨[], 1, 9, 0⟩, some { ob46 with es := (ob46.es.take k_6) }] 1 k_5 with
      | some ob47 => Zak (Nat.beq ob47.elem 9) ((if 0 = 0 ∧ k_6 = ob47.es.length ∧ (k_6 + 1) * 16 ≤ 140737488355328 ∧ 0 < 1 then nx (k_5 + 1) (k_6 + 1) (IntKind.i64.wrap (x_4 + 1)) ({ ob47 with es := (ob47.es ++ ([.str w27] : List V)), ver := (k_5 + 1) }) else none))
      | none => none) else none)
     | none => none))
    | false => (match Za9 [some ⟨[], 1, 9, 0⟩, some O_9] 1 k_5 with
    | some ob48 => (if k_6 ≤ ob48.es.length then (match Za9 [some ⟨[], 1, 9, 0⟩, some { ob48 with es := (ob48.es.take k_6) }] 1 k_5 with
     | some ob49 => Zak (Nat.beq ob49.elem 9) ((if 0 = 0 ∧ k_6 = ob49.es.length ∧ (k_6 + 1) * 16 ≤ 140737488355328 ∧ 0 < 1 then nx (k_5 + 1) (k_6 + 1) (IntKind.i64.wrap (x_4 + 1)) ({ ob49 with es := (ob49.es ++ ([.str w27] : List V)), ver := (k_5 + 1) }) else none))
     | none => none) else none)
    | none => none)))) else none)
  | false => k0 k_5 k_6 O_9)
def ZdI {R : Type} (N : Nat) (w_1 : ByteArray) (e_2 : List V) (x_3 : Int) (k0 : Nat → Nat → Ob → Option R) : Nat → Nat → Nat → Int → Ob → Option R
 | 0, _, _, _, _ => none
 | n + 1, k_5, k_6, x_4, O_9 => Zcj N w_1 e_2 x_3 (fun k_5 k_6 x_4 O_9 => ZdI N w_1 e_2 x_3 k0 n k_5 k_6 x_4 O_9) k_5 k_6 x_4 O_9 k0
def Zkt {R : Type} (N : Nat) (w_1 : ByteArray) (k : List V → Option R) : Option R :=
 Zs2 N w_1 fun e1 => ZdI N w_1 e1 (e1.length : Int)
   (fun k50 k51 O52 => (match Za9 [some ⟨[], 1, 9, 0⟩, some O52] 1 k50 with
  | some ob53 => (match ZaX (ZaW false [some ⟨[], 1, 9, 0⟩, some O52] 11) ((ob53.es.drop 0).take k51) with
   | some e54 => Zak (decide (0 + k51 ≤ ob53.es.length)) (Zak (e54.all V.plain) ((match Nat.beq ob53.esz 1 with
    | true => k e54
    | false => none)))
   | none => none)
  | none => none))
   N 0 0 0 (⟨[], 1, 9, 0⟩ : Ob)
def Zhx := @ZaB _ @Zkt
theorem Zoo : @Zhx = @Zkt := @Zal _ @Zkt
def Zlg {R : Type} (N : Nat) (w_1 : ByteArray) (k : ByteArray → Option R) : Option R :=
 Zhx N w_1 fun e1 => (match ((e1.length : Int) == 0) with
  | true => k (ByteArray.mk #[])
  | false => (if 0 ≤ IntKind.i64.wrap ((e1.length : Int) - 1) then ZbW (nth e1 ((IntKind.i64.wrap ((e1.length : Int) - 1)).toNat)) fun e2 => ZaQ e2 fun w3 => (match (w3.toList == (ByteArray.mk #[46, 46]).toList) with
   | true => k (ByteArray.mk #[])
   | false => (if 0 ≤ IntKind.i64.wrap ((e1.length : Int) - 1) then ZbW (nth e1 ((IntKind.i64.wrap ((e1.length : Int) - 1)).toNat)) fun e4 => ZaQ e4 fun w5 => k w5 else none)) else none))
def Zvc := @ZaB _ @Zlg
theorem ZoM : @Zvc = @Zlg := @Zal _ @Zlg
def ZcC {R : Type} (N : Nat) (e_2 : List V) (f_3 : Fl) (x_4 : Int) (nx : ByteArray → Int → Option R) (w_1 : ByteArray) (x_5 : Int) (k0 : ByteArray → Option R) : Option R :=
 (match decide (x_5 < x_4) with
  | true => (if 0 ≤ x_5 then ZbW (nth e_2 x_5.toNat) fun e3 => ZaQ e3 fun w4 => (if (ByteArray.mk #[47]).size + w4.size ≤ 4611686018427387904 then (if w_1.size + ((ByteArray.mk #[47]) ++ w4).size ≤ 4611686018427387904 then nx (w_1 ++ ((ByteArray.mk #[47]) ++ w4)) (IntKind.i64.wrap (x_5 + 1)) else none) else none) else none)
  | false => k0 w_1)
def ZeR {R : Type} (N : Nat) (e_2 : List V) (f_3 : Fl) (x_4 : Int) (k0 : ByteArray → Option R) : Nat → ByteArray → Int → Option R
 | 0, _, _ => none
 | n + 1, w_1, x_5 => ZcC N e_2 f_3 x_4 (fun w_1 x_5 => ZeR N e_2 f_3 x_4 k0 n w_1 x_5) w_1 x_5 k0
def ZlC {R : Type} (N : Nat) (e_1 : List V) (f_2 : Fl) (k : ByteArray → Option R) : Option R :=
 (match ((e_1.length : Int) == 0) with
  | true => k (ByteArray.mk #[47])
  | false => ZeR N e_1 f_2.noOwn (e_1.length : Int)
    (fun w5 => k w5)
    N (ByteArray.mk #[]) 0)
def Zi1 := @ZaB _ @ZlC
theorem ZoK : @Zi1 = @ZlC := @Zal _ @ZlC
def ZkA {R : Type} (N : Nat) (w_1 : ByteArray) (k : ByteArray → Option R) : Option R :=
 Zhx N w_1 fun e1 => (if (0 : Int) ≤ IntKind.i64.wrap ((e1.length : Int) - 1) ∧ IntKind.i64.wrap ((e1.length : Int) - 1) ≤ (e1.length : Int) then Zi1 N ((e1.take ((IntKind.i64.wrap ((e1.length : Int) - 1)).toNat)).drop 0) .sh fun w2 => ZbZ w_1 0 fun n3 => (match (n3 == 47) with
  | true => k w2
  | false => (match ((e1.length : Int) == 1) with
   | true => k (ByteArray.mk #[46])
   | false => (if (0 : Int) ≤ 1 ∧ 1 ≤ (w2.size : Int) then k (ByteArray.extract w2 1 w2.size) else none))) else none)
def Zvg := @ZaB _ @ZkA
theorem Zpc : @Zvg = @ZkA := @Zal _ @ZkA
def Zjp {R : Type} (N : Nat) (w_1 : ByteArray) (k : ByteArray → Bool → Option R) : Option R :=
 ZjQ N w_1 fun b1 => (match (!b1) with
  | true => k (ByteArray.mk #[]) false
  | false => Zvc N w_1 fun w2 => (match (w2.toList == (ByteArray.mk #[]).toList) with
  | true => k (ByteArray.mk #[]) false
  | false => Zvg N w_1 fun w3 => k w3 true))
def Zu6 := @ZaB _ @Zjp
theorem ZoP : @Zu6 = @Zjp := @Zal _ @Zjp
def ZlA {R : Type} (N : Nat) (w_1 w_2 : ByteArray) (k : ByteArray → Bool → Option R) : Option R :=
 Zlc N w_1 fun b1 => (match (!b1) with
  | true => k (ByteArray.mk #[]) false
  | false => Zlc N w_2 fun b2 => (match (!b2) with
  | true => k (ByteArray.mk #[]) false
  | false => ZbZ w_2 0 fun n3 => (match (n3 != 47) with
   | true => (if w_1.size + (ByteArray.mk #[47]).size ≤ 4611686018427387904 then (if (w_1 ++ (ByteArray.mk #[47])).size + w_2.size ≤ 4611686018427387904 then ZkB N ((w_1 ++ (ByteArray.mk #[47])) ++ w_2) fun w4 b5 => k w4 b5 else none) else none)
   | false => ZkB N w_2 fun w6 b7 => k w6 b7)))
def ZtG := @ZaB _ @ZlA
theorem ZoN : @ZtG = @ZlA := @Zal _ @ZlA
def ZhN {R : Type} (N : Nat) (e_1 : List V) (f_2 : Fl) (x_3 x_4 : Int) (k : Int → List V → Fl → Int → Int → Option R) : Option R :=
 (match decide (x_3 < (e_1.length : Int)) with
  | true => (if 0 ≤ x_3 then ZbW (nth e_1 x_3.toNat) fun e1 => asInt .u8 e1 fun n2 => (match decide (IntKind.i64.wrap (x_3 + 1) ≤ (e_1.length : Int)) with
   | true => k (IntKind.i64.wrap n2) e_1 f_2 (IntKind.i64.wrap (x_3 + 1)) (IntKind.u64.wrap (IntKind.u64.wrap (IntKind.u64.wrap (x_4 * 6364136223846793005) + IntKind.u64.wrap (IntKind.i64.wrap n2)) + 1442695040888963407))
   | false => k (IntKind.i64.wrap (IntKind.u64.wrap (BitVec.ofInt IntKind.u64.bits (Int.fdiv (IntKind.u64.wrap (IntKind.u64.wrap (IntKind.u64.wrap (x_4 * 6364136223846793005) + IntKind.u64.wrap (IntKind.i64.wrap n2)) + 1442695040888963407)) (2 ^ (min (40 : Int).toNat 64))) &&& BitVec.ofInt IntKind.u64.bits 255).toNat)) e_1 f_2 (IntKind.i64.wrap (x_3 + 1)) (IntKind.u64.wrap (IntKind.u64.wrap (IntKind.u64.wrap (x_4 * 6364136223846793005) + IntKind.u64.wrap (IntKind.i64.wrap n2)) + 1442695040888963407))) else none)
  | false => (match decide (IntKind.i64.wrap (x_3 + 1) ≤ (e_1.length : Int)) with
  | true => k 0 e_1 f_2 (IntKind.i64.wrap (x_3 + 1)) (IntKind.u64.wrap (IntKind.u64.wrap (IntKind.u64.wrap (x_4 * 6364136223846793005) + 0) + 1442695040888963407))
  | false => k (IntKind.i64.wrap (IntKind.u64.wrap (BitVec.ofInt IntKind.u64.bits (Int.fdiv (IntKind.u64.wrap (IntKind.u64.wrap (IntKind.u64.wrap (x_4 * 6364136223846793005) + 0) + 1442695040888963407)) (2 ^ (min (40 : Int).toNat 64))) &&& BitVec.ofInt IntKind.u64.bits 255).toNat)) e_1 f_2 (IntKind.i64.wrap (x_3 + 1)) (IntKind.u64.wrap (IntKind.u64.wrap (IntKind.u64.wrap (x_4 * 6364136223846793005) + 0) + 1442695040888963407))))
def Zsq := @ZaB _ @ZhN
theorem ZiH : @Zsq = @ZhN := @Zal _ @ZhN
def Zhc {R : Type} (N : Nat) (x_1 : Int) (e_2 : List V) (f_3 : Fl) (x_4 x_5 : Int) (k : Int → List V → Fl → Int → Int → Option R) : Option R :=
 (match decide (x_1 ≤ 1) with
  | true => k 0 e_2 f_3 x_4 x_5
  | false => Zsq N e_2 f_3 x_4 x_5 fun x1 e2 f3 x4 x5 => (match decide (x_1 > 200) with
  | true => Zsq N e2 f3 x4 x5 fun x6 e7 f8 x9 x10 => (if x_1 = 0 then none else k (Int.tmod (IntKind.i64.wrap (IntKind.i64.wrap (x1 * 256) + x6)) x_1) e7 f8 x9 x10)
  | false => (if x_1 = 0 then none else k (Int.tmod x1 x_1) e2 f3 x4 x5)))
def ZhB := @ZaB _ @Zhc
theorem Zgp : @ZhB = @Zhc := @Zal _ @Zhc
def Zly {R : Type} (N : Nat) (x_1 : Int) (e_2 : List V) (f_3 : Fl) (x_4 x_5 : Int) (k : Bool → List V → Fl → Int → Int → Option R) : Option R :=
 ZhB N x_1 e_2 f_3 x_4 x_5 fun x1 e2 f3 x4 x5 => k (x1 == 0) e2 f3 x4 x5
def ZrD := @ZaB _ @Zly
theorem Znz : @ZrD = @Zly := @Zal _ @Zly
def Zkp {R : Type} (N : Nat) (e_1 : List V) (f_2 : Fl) (e_3 : List V) (f_4 : Fl) (x_5 x_6 : Int) (k : ByteArray → List V → Fl → Int → Int → Option R) : Option R :=
 ZhB N (e_1.length : Int) e_3 f_4 x_5 x_6 fun x1 e2 f3 x4 x5 => (if 0 ≤ x1 then ZbW (nth e_1 x1.toNat) fun e6 => ZaQ e6 fun w7 => k w7 e2 f3 x4 x5 else none)
def ZlX := @ZaB _ @Zkp
theorem Zpe : @ZlX = @Zkp := @Zal _ @Zkp
def Zb4 {R : Type} (N : Nat) (w_2 : ByteArray) (nx : ByteArray → Int → List V → Fl → Int → Int → Option R) (w_1 : ByteArray) (x_3 : Int) (e_4 : List V) (f_5 : Fl) (x_6 x_7 : Int) (k0 : ByteArray → List V → Fl → Int → Int → Option R) : Option R :=
 (match decide (x_3 > 0) with
  | true => (match decide ((w_1.size : Int) > 0) with
  | true => ZhB N (w_1.size : Int) e_4 f_5 x_6 x_7 fun x23 e24 f25 x26 x27 => ZhB N (w_2.size : Int) e24 f25 x26 x27 fun x28 e29 f30 x31 x32 => ZbZ w_2 x28 fun n33 => (match Zwz [.int .u8 n33] with
     | some w34 => ZhB N 3 e29 f30 x31 x32 fun x35 e36 f37 x38 x39 => (match (x35 == 0) with
   | true => (if (0 : Int) ≤ x23 ∧ x23 ≤ (w_1.size : Int) then (if (ByteArray.extract w_1 0 ((x23 : Int).toNat)).size + (strOfNums w34).size ≤ 4611686018427387904 then (if (0 : Int) ≤ x23 ∧ x23 ≤ (w_1.size : Int) then (if ((ByteArray.extract w_1 0 ((x23 : Int).toNat)) ++ (strOfNums w34)).size + (ByteArray.extract w_1 ((x23 : Int).toNat) w_1.size).size ≤ 4611686018427387904 then nx (((ByteArray.extract w_1 0 ((x23 : Int).toNat)) ++ (strOfNums w34)) ++ (ByteArray.extract w_1 ((x23 : Int).toNat) w_1.size)) (IntKind.i64.wrap (x_3 - 1)) e36 f37 x38 x39 else none) else none) else none) else none)
   | false => (match (x35 == 1) with
    | true => (if (0 : Int) ≤ x23 ∧ x23 ≤ (w_1.size : Int) then (if (ByteArray.extract w_1 0 ((x23 : Int).toNat)).size + (strOfNums w34).size ≤ 4611686018427387904 then (if (0 : Int) ≤ IntKind.i64.wrap (x23 + 1) ∧ IntKind.i64.wrap (x23 + 1) ≤ (w_1.size : Int) then (if ((ByteArray.extract w_1 0 ((x23 : Int).toNat)) ++ (strOfNums w34)).size + (ByteArray.extract w_1 ((IntKind.i64.wrap (x23 + 1)).toNat) w_1.size).size ≤ 4611686018427387904 then nx (((ByteArray.extract w_1 0 ((x23 : Int).toNat)) ++ (strOfNums w34)) ++ (ByteArray.extract w_1 ((IntKind.i64.wrap (x23 + 1)).toNat) w_1.size)) (IntKind.i64.wrap (x_3 - 1)) e36 f37 x38 x39 else none) else none) else none) else none)
    | false => (if (0 : Int) ≤ x23 ∧ x23 ≤ (w_1.size : Int) then (if (0 : Int) ≤ IntKind.i64.wrap (x23 + 1) ∧ IntKind.i64.wrap (x23 + 1) ≤ (w_1.size : Int) then (if (ByteArray.extract w_1 0 ((x23 : Int).toNat)).size + (ByteArray.extract w_1 ((IntKind.i64.wrap (x23 + 1)).toNat) w_1.size).size ≤ 4611686018427387904 then nx ((ByteArray.extract w_1 0 ((x23 : Int).toNat)) ++ (ByteArray.extract w_1 ((IntKind.i64.wrap (x23 + 1)).toNat) w_1.size)) (IntKind.i64.wrap (x_3 - 1)) e36 f37 x38 x39 else none) else none) else none)))
     | none => none)
  | false => k0 w_1 e_4 f_5 x_6 x_7)
  | false => k0 w_1 e_4 f_5 x_6 x_7)
def ZcP {R : Type} (N : Nat) (w_2 : ByteArray) (k0 : ByteArray → List V → Fl → Int → Int → Option R) : Nat → ByteArray → Int → List V → Fl → Int → Int → Option R
 | 0, _, _, _, _, _, _ => none
 | n + 1, w_1, x_3, e_4, f_5, x_6, x_7 => Zb4 N w_2 (fun w_1 x_3 e_4 f_5 x_6 x_7 => ZcP N w_2 k0 n w_1 x_3 e_4 f_5 x_6 x_7) w_1 x_3 e_4 f_5 x_6 x_7 k0
def ZjV {R : Type} (N : Nat) (w_1 w_2 : ByteArray) (e_3 : List V) (f_4 : Fl) (x_5 x_6 : Int) (k : ByteArray → List V → Fl → Int → Int → Option R) : Option R :=
 ZhB N 2 e_3 f_4 x_5 x_6 fun x1 e2 f3 x4 x5 => ZcP N w_2
   (fun w40 e41 f42 x43 x44 => k w40 e41 f42 x43 x44)
   N w_1 (IntKind.i64.wrap (1 + x1)) e2 f3 x4 x5
def Zt2 := @ZaB _ @ZjV
theorem ZnB : @Zt2 = @ZjV := @Zal _ @ZjV
def Zdf {R : Type} (N : Nat) (nx : ByteArray → Int → List V → Fl → Int → Int → Option R) (w_1 : ByteArray) (x_2 : Int) (e_3 : List V) (f_4 : Fl) (x_5 x_6 : Int) (k0 : ByteArray → List V → Fl → Int → Int → Option R) : Option R :=
 (match decide (x_2 > 0) with
  | true => ZlX N [.str (ByteArray.mk #[97]), .str (ByteArray.mk #[98]), .str (ByteArray.mk #[99]), .str (ByteArray.mk #[46]), .str (ByteArray.mk #[46, 46]), .str (ByteArray.mk #[100, 49])] .sh e_3 f_4 x_5 x_6 fun w21 e22 f23 x24 x25 => ZlX N [.str (ByteArray.mk #[47]), .str (ByteArray.mk #[47]), .str (ByteArray.mk #[47, 47])] .sh e22 f23 x24 x25 fun w26 e27 f28 x29 x30 => (if w21.size + w26.size ≤ 4611686018427387904 then (if w_1.size + (w21 ++ w26).size ≤ 4611686018427387904 then nx (w_1 ++ (w21 ++ w26)) (IntKind.i64.wrap (x_2 - 1)) e27 f28 x29 x30 else none) else none)
  | false => k0 w_1 e_3 f_4 x_5 x_6)
def ZfP {R : Type} (N : Nat) (k0 : ByteArray → List V → Fl → Int → Int → Option R) : Nat → ByteArray → Int → List V → Fl → Int → Int → Option R
 | 0, _, _, _, _, _, _ => none
 | n + 1, w_1, x_2, e_3, f_4, x_5, x_6 => Zdf N (fun w_1 x_2 e_3 f_4 x_5 x_6 => ZfP N k0 n w_1 x_2 e_3 f_4 x_5 x_6) w_1 x_2 e_3 f_4 x_5 x_6 k0
def Zkv {R : Type} (N : Nat) (e_1 : List V) (f_2 : Fl) (x_3 x_4 : Int) (k : ByteArray → List V → Fl → Int → Int → Option R) : Option R :=
 ZlX N [.str (ByteArray.mk #[47]), .str (ByteArray.mk #[]), .str (ByteArray.mk #[47]), .str (ByteArray.mk #[47, 47])] .sh e_1 f_2 x_3 x_4 fun w1 e2 f3 x4 x5 => ZhB N 4 e2 f3 x4 x5 fun x6 e7 f8 x9 x10 => ZfP N
   (fun w31 e32 f33 x34 x35 => ZlX N [.str (ByteArray.mk #[97]), .str (ByteArray.mk #[98]), .str (ByteArray.mk #[46]), .str (ByteArray.mk #[46, 46]), .str (ByteArray.mk #[])] .sh e32 f33 x34 x35 fun w36 e37 f38 x39 x40 => (if w31.size + w36.size ≤ 4611686018427387904 then ZrD N 20 e37 f38 x39 x40 fun b41 e42 f43 x44 x45 => (match b41 with
   | true => Zt2 N (w31 ++ w36) (ByteArray.mk #[47, 65, 46]) e42 f43 x44 x45 fun w46 e47 f48 x49 x50 => k w46 e47 f48 x49 x50
   | false => k (w31 ++ w36) e42 f43 x44 x45) else none))
   N w1 x6 e7 f8 x9 x10
def Zhz := @ZaB _ @Zkv
theorem Zpb : @Zhz = @Zkv := @Zal _ @Zkv
def ZkV {R : Type} (N : Nat) (e_1 : List V) (f_2 : Fl) (k : ByteArray → ByteArray → Option R) : Option R :=
 Zhz N e_1 f_2.noOwn.noOwn 0 0 fun w1 e2 f3 x4 x5 => (if (ByteArray.mk #[47]).size + w1.size ≤ 4611686018427387904 then ZrD N 2 e2 f3 x4 x5 fun b6 e7 f8 x9 x10 => (match b6 with
  | true => (if ((ByteArray.mk #[47]) ++ w1).size + (ByteArray.mk #[47]).size ≤ 4611686018427387904 then Zhz N e7 f8 x9 x10 fun w11 e12 f13 x14 x15 => (if (((ByteArray.mk #[47]) ++ w1) ++ (ByteArray.mk #[47])).size + w11.size ≤ 4611686018427387904 then k ((ByteArray.mk #[47]) ++ w1) ((((ByteArray.mk #[47]) ++ w1) ++ (ByteArray.mk #[47])) ++ w11) else none) else none)
  | false => Zhz N e7 f8 x9 x10 fun w16 e17 f18 x19 x20 => (if (ByteArray.mk #[47]).size + w16.size ≤ 4611686018427387904 then k ((ByteArray.mk #[47]) ++ w1) ((ByteArray.mk #[47]) ++ w16) else none)) else none)
def Zwd := @ZaB _ @ZkV
theorem ZnZ : @Zwd = @ZkV := @Zal _ @ZkV
def Zk4 {R : Type} (N : Nat) (e_1 : List V) (f_2 : Fl) (k : ByteArray → ByteArray → Option R) : Option R :=
 Zwd N e_1 f_2.noOwn.noOwn fun w1 w2 => k w1 w2
def ZsY := @ZaB _ @Zk4
theorem Zol : @ZsY = @Zk4 := @Zal _ @Zk4
def Zjw {R : Type} (N : Nat) (w_1 : ByteArray) (k : Bool → Option R) : Option R :=
 Zlc N w_1 fun b1 => (match b1 with
  | true => ZbZ w_1 0 fun n2 => k (n2 == 47)
  | false => k false)
def ZlQ := @ZaB _ @Zjw
theorem ZnV : @ZlQ = @Zjw := @Zal _ @Zjw
def Zjo {R : Type} (N : Nat) (w_1 w_2 : ByteArray) (k : Bool → Option R) : Option R :=
 (match decide ((w_1.size : Int) ≥ (w_2.size : Int)) with
  | true => (if (0 : Int) ≤ (w_2.size : Int) ∧ (w_2.size : Int) ≤ (w_1.size : Int) then k ((ByteArray.extract w_1 0 (((w_2.size : Int)).toNat)).toList == w_2.toList) else none)
  | false => k false)
def Zwf := @ZaB _ @Zjo
theorem Zn0 : @Zwf = @Zjo := @Zal _ @Zjo
def ZkY {R : Type} (N : Nat) (w_1 w_2 : ByteArray) (k : ByteArray → Bool → Option R) : Option R :=
 Zwf N w_1 w_2 fun b1 => (match (!b1) with
  | true => k w_1 false
  | false => (if (0 : Int) ≤ (w_2.size : Int) ∧ (w_2.size : Int) ≤ (w_1.size : Int) then k (ByteArray.extract w_1 (((w_2.size : Int)).toNat) w_1.size) true else none))
def Zw4 := @ZaB _ @ZkY
theorem ZnY : @Zw4 = @ZkY := @Zal _ @ZkY
def Zjy {R : Type} (N : Nat) (w_1 w_2 : ByteArray) (k : ByteArray → Bool → Option R) : Option R :=
 Zw4 N w_1 w_2 fun w1 b2 => k w1 b2
def ZpZ := @ZaB _ @Zjy
theorem ZoU : @ZpZ = @Zjy := @Zal _ @Zjy
def Zjl {R : Type} (N : Nat) (w_1 w_2 : ByteArray) (k : ByteArray → Bool → Option R) : Option R :=
 ZlQ N w_1 fun b1 => (match (!b1) with
  | true => k (ByteArray.mk #[]) false
  | false => ZlQ N w_2 fun b2 => (match (!b2) with
  | true => k (ByteArray.mk #[]) false
  | false => ZmM N w_1 fun w3 => ZmM N w_2 fun w4 => (match (w3.toList == w4.toList) with
   | true => k (ByteArray.mk #[46]) true
   | false => (match (!(w3.toList == (ByteArray.mk #[47]).toList)) with
   | true => (if w3.size + (ByteArray.mk #[47]).size ≤ 4611686018427387904 then ZpZ N w4 (w3 ++ (ByteArray.mk #[47])) fun w5 b6 => (match (!b6) with
    | true => k (ByteArray.mk #[]) false
    | false => k w5 true) else none)
   | false => ZpZ N w4 w3 fun w7 b8 => (match (!b8) with
    | true => k (ByteArray.mk #[]) false
    | false => k w7 true)))))
def Zsc := @ZaB _ @Zjl
theorem Zod : @Zsc = @Zjl := @Zal _ @Zjl
def ZkH {R : Type} (N : Nat) (w_1 : ByteArray) (k : Bool → Option R) : Option R :=
 ZjQ N w_1 fun b1 => (match b1 with
  | true => ZbZ w_1 0 fun n2 => k (n2 == 47)
  | false => k false)
def Zng := @ZaB _ @ZkH
theorem ZnD : @Zng = @ZkH := @Zal _ @ZkH
def Zb6 {R : Type} (N : Nat) (e_1 e_2 : List V) (x_3 : Int) (nx : Int → Option R) (x_4 : Int) (k0 : Unit → Option R) (k1 : Unit → Option R) : Option R :=
 (match decide (x_4 < x_3) with
  | true => (if 0 ≤ x_4 then ZbW (nth e_2 x_4.toNat) fun e7 => ZaQ e7 fun w8 => (if 0 ≤ x_4 then ZbW (nth e_1 x_4.toNat) fun e9 => ZaQ e9 fun w10 => (match (!(w8.toList == w10.toList)) with
   | true => k0 ()
   | false => nx (IntKind.i64.wrap (x_4 + 1))) else none) else none)
  | false => k1 ())
def Zg4 {R : Type} (N : Nat) (e_1 e_2 : List V) (x_3 : Int) (k0 : Unit → Option R) (k1 : Unit → Option R) : Nat → Int → Option R
 | 0, _ => none
 | n + 1, x_4 => Zb6 N e_1 e_2 x_3 (fun x_4 => Zg4 N e_1 e_2 x_3 k0 k1 n x_4) x_4 k0 k1
def ZkF {R : Type} (N : Nat) (w_1 w_2 : ByteArray) (k : Bool → Option R) : Option R :=
 Zhx N w_1 fun e1 => Zhx N w_2 fun e2 => (match decide ((e1.length : Int) > (e2.length : Int)) with
  | true => k false
  | false => Zg4 N e2 e1 (e1.length : Int)
    (fun (_ : Unit) => k false)
    (fun (_ : Unit) => k true)
    N 0)
def Ztz := @ZaB _ @ZkF
theorem Zou : @Ztz = @ZkF := @Zal _ @ZkF
def ZkX {R : Type} (N : Nat) (w_1 w_2 : ByteArray) (k : ByteArray → Bool → Option R) : Option R :=
 Zng N w_1 fun b1 => (match (!b1) with
  | true => k (ByteArray.mk #[]) false
  | false => Zng N w_2 fun b2 => (match (!b2) with
  | true => k (ByteArray.mk #[]) false
  | false => Ztz N w_1 w_2 fun b3 => (match (!b3) with
   | true => k (ByteArray.mk #[]) false
   | false => Zhx N w_2 fun e4 => Zhx N w_1 fun e5 => (if (0 : Int) ≤ (e5.length : Int) ∧ (e5.length : Int) ≤ (e4.length : Int) then (match ((((e4.take e4.length).drop (((e5.length : Int)).toNat)).length : Int) == 0) with
    | true => k (ByteArray.mk #[46]) true
    | false => Zi1 N ((e4.take e4.length).drop (((e5.length : Int)).toNat)) .sh fun w6 => (if (0 : Int) ≤ 1 ∧ 1 ≤ (w6.size : Int) then k (ByteArray.extract w6 1 w6.size) true else none)) else none))))
def ZvJ := @ZaB _ @ZkX
theorem Zpi : @ZvJ = @ZkX := @Zal _ @ZkX
def Zkn {R : Type} (N : Nat) (w_1 w_2 : ByteArray) (k : Bool → Bool → Option R) : Option R :=
 ZlQ N w_1 fun b1 => (match (!b1) with
  | true => k false false
  | false => ZlQ N w_2 fun b2 => (match (!b2) with
  | true => k false false
  | false => Zsc N w_1 w_2 fun w3 b4 => k b4 true))
def Zm9 := @ZaB _ @Zkn
theorem ZnF : @Zm9 = @Zkn := @Zal _ @Zkn
def ZjF {R : Type} (N : Nat) (w_1 w_2 : ByteArray) (k : Bool → Bool → Option R) : Option R :=
 Zng N w_1 fun b1 => (match (!b1) with
  | true => k false false
  | false => Zng N w_2 fun b2 => (match (!b2) with
  | true => k false false
  | false => Ztz N w_1 w_2 fun b3 => k b3 true))
def ZuP := @ZaB _ @ZjF
theorem Zn4 : @ZuP = @ZjF := @Zal _ @ZjF
def ZkC {R : Type} (N : Nat) (e_1 : List V) (f_2 : Fl) (k : ByteArray → ByteArray → Option R) : Option R :=
 Zhz N e_1 f_2.noOwn.noOwn 0 0 fun w1 e2 f3 x4 x5 => Zhz N e2 f3 x4 x5 fun w6 e7 f8 x9 x10 => k w1 w6
def Zt6 := @ZaB _ @ZkC
theorem ZnQ : @Zt6 = @ZkC := @Zal _ @ZkC
def Zkj {R : Type} (N : Nat) (w_1 : ByteArray) (k : ByteArray → Option R) : Option R :=
 Zhx N w_1 fun e1 => ZbZ w_1 0 fun n2 => (match (n2 == 47) with
  | true => Zi1 N e1 .sh fun w3 => k w3
  | false => (match ((e1.length : Int) == 0) with
  | true => k (ByteArray.mk #[46])
  | false => Zi1 N e1 .sh fun w4 => (if (0 : Int) ≤ 1 ∧ 1 ≤ (w4.size : Int) then k (ByteArray.extract w4 1 w4.size) else none)))
def Zua := @ZaB _ @Zkj
theorem Zor : @Zua = @Zkj := @Zal _ @Zkj
def Zk8 {R : Type} (N : Nat) (w_1 : ByteArray) (k : ByteArray → Bool → Option R) : Option R :=
 ZjQ N w_1 fun b1 => (match (!b1) with
  | true => k (ByteArray.mk #[]) false
  | false => Zua N w_1 fun w2 => k w2 true)
def ZrA := @ZaB _ @Zk8
theorem Zom : @ZrA = @Zk8 := @Zal _ @Zk8
def Zk7 {R : Type} (N : Nat) (w_1 w_2 : ByteArray) (k : ByteArray → Bool → Option R) : Option R :=
 ZjQ N w_1 fun b1 => (match (!b1) with
  | true => k (ByteArray.mk #[]) false
  | false => ZjQ N w_2 fun b2 => (match (!b2) with
  | true => k (ByteArray.mk #[]) false
  | false => ZbZ w_2 0 fun n3 => (match (n3 != 47) with
   | true => (if w_1.size + (ByteArray.mk #[47]).size ≤ 4611686018427387904 then (if (w_1 ++ (ByteArray.mk #[47])).size + w_2.size ≤ 4611686018427387904 then ZrA N ((w_1 ++ (ByteArray.mk #[47])) ++ w_2) fun w4 b5 => k w4 b5 else none) else none)
   | false => ZrA N w_2 fun w6 b7 => k w6 b7)))
def Zu7 := @ZaB _ @Zk7
theorem Zn9 : @Zu7 = @Zk7 := @Zal _ @Zk7
def Zjs {R : Type} (N : Nat) (e_1 : List V) (f_2 : Fl) (k : ByteArray → Option R) : Option R :=
 Zhz N e_1 f_2.noOwn.noOwn 0 0 fun w1 e2 f3 x4 x5 => k w1
def Zuj := @ZaB _ @Zjs
theorem Zps : @Zuj = @Zjs := @Zal _ @Zjs
def Zj0 {R : Type} (N : Nat) (e_1 : List V) (f_2 : Fl) (k : ByteArray → Option R) : Option R :=
 Zuj N e_1 f_2.noOwn.noOwn fun w1 => k w1
def Zul := @ZaB _ @Zj0
theorem Zow : @Zul = @Zj0 := @Zal _ @Zj0
def Zpt {R : Type} (N : Nat) (e_1 : List V) (f_2 : Fl) (e_3 : List V) (f_4 : Fl) (j : V → V → V → V → V → V → V → V → V → V → V → V → V → V → V → V → V → V → V → V → V → V → V → V → V → V → V → V → V → V → V → V → V → V → V → V → V → V → V → V → V → V → V → V → V → V → V → V → V → V → V → V → V → V → V → ByteArray → ByteArray → ByteArray → Bool → Bool → Bool → Option R) (k : Bool → Option R) : Option R :=
 Zt9 N e_1 f_2.noOwn.noOwn e_3 f_4.noOwn.noOwn fun b1 => (match b1 with
  | true => k true
  | false => ZsY N e_1 f_2.noOwn.noOwn fun w2 w3 => Zsc N w2 w3 fun w4 b5 => ZvJ N w2 w3 fun w6 b7 => Zm9 N w2 w3 fun b8 b9 => ZuP N w2 w3 fun b10 b11 => (match (!(b5 == b7)) with
  | true => k false
  | false => (match (!(w4.toList == w6.toList)) with
   | true => k false
   | false => (match (!(b9 == b11)) with
   | true => k false
   | false => (match (!(b8 == b10)) with
    | true => k false
    | false => (match b9 with
    | true => (match (!(b8 == b5)) with
     | true => k false
     | false => j (.str w6) (.bool b7) (.bool b10) (.bool b11) (.bool b1) (.tuple [.str w2, .str w3]) (.tuple [.str w2, .str w3]) (.str w2) (.str w3) (.tuple [.str w4, .bool b5]) (.str w2) (.str w3) (.tuple [.str w4, .bool b5]) (.str w4) (.bool b5) (.tuple [.str w6, .bool b7]) (.str w2) (.str w3) (.tuple [.str w6, .bool b7]) (.str w6) (.bool b7) (.tuple [.bool b8, .bool b9]) (.str w2) (.str w3) (.tuple [.bool b8, .bool b9]) (.bool b8) (.bool b9) (.tuple [.bool b10, .bool b11]) (.str w2) (.str w3) (.tuple [.bool b10, .bool b11]) (.bool b10) (.bool b11) (.bool b5) (.bool b7) (.bool (!(b5 == b7))) (.str w4) (.str w6) (.bool (!(w4.toList == w6.toList))) (.bool (!(w4.toList == w6.toList))) (.bool b9) (.bool b11) (.bool (!(b9 == b11))) (.bool (!(b9 == b11))) (.bool b8) (.bool b10) (.bool (!(b8 == b10))) (.bool (!(b8 == b10))) (.bool b9) (.bool true) (.bool b8) (.bool b5) (.bool (!(b8 == b5))) (.bool (!(b8 == b5))) (.bool (!(b8 == b5))) w2 w3 w4 b5 b8 b9)
    | false => j (.str w6) (.bool b7) (.bool b10) (.bool b11) (.bool b1) (.tuple [.str w2, .str w3]) (.tuple [.str w2, .str w3]) (.str w2) (.str w3) (.tuple [.str w4, .bool b5]) (.str w2) (.str w3) (.tuple [.str w4, .bool b5]) (.str w4) (.bool b5) (.tuple [.str w6, .bool b7]) (.str w2) (.str w3) (.tuple [.str w6, .bool b7]) (.str w6) (.bool b7) (.tuple [.bool b8, .bool b9]) (.str w2) (.str w3) (.tuple [.bool b8, .bool b9]) (.bool b8) (.bool b9) (.tuple [.bool b10, .bool b11]) (.str w2) (.str w3) (.tuple [.bool b10, .bool b11]) (.bool b10) (.bool b11) (.bool b5) (.bool b7) (.bool (!(b5 == b7))) (.str w4) (.str w6) (.bool (!(w4.toList == w6.toList))) (.bool (!(w4.toList == w6.toList))) (.bool b9) (.bool b11) (.bool (!(b9 == b11))) (.bool (!(b9 == b11))) (.bool b8) (.bool b10) (.bool (!(b8 == b10))) (.bool (!(b8 == b10))) (.bool b9) (.bool false) (.tuple []) (.tuple []) (.tuple []) (.bool false) (.bool false) w2 w3 w4 b5 b8 b9))))))
def ZhM {R : Type} (N : Nat) (e_1 : List V) (f_2 : Fl) (e_3 : List V) (f_4 : Fl) (v_1009 v_1010 v_1013 v_1014 v_1042 v_1043 v_1045 v_1046 v_1047 v_1048 v_1049 v_1050 v_1051 v_1052 v_1053 v_1054 v_1055 v_1056 v_1057 v_1058 v_1059 v_1060 v_1061 v_1062 v_1063 v_1064 v_1065 v_1066 v_1067 v_1068 v_1069 v_1070 v_1071 v_1072 v_1073 v_1074 v_1076 v_1077 v_1078 v_1079 v_1081 v_1082 v_1083 v_1084 v_1086 v_1087 v_1088 v_1089 v_1091 v_1092 v_1093 v_1094 v_1095 v_1096 v_1097 : V) (w_801 w_802 w_803 : ByteArray) (b_804 b_805 b_806 : Bool) (j : V → V → V → V → V → V → V → V → V → V → V → V → V → V → V → V → V → V → V → V → V → V → V → V → V → V → V → V → V → V → V → V → V → V → V → V → V → V → V → V → V → V → V → V → V → V → V → V → V → V → V → V → V → V → V → V → V → V → V → V → V → V → V → V → V → V → V → V → V → V → V → V → V → V → V → V → V → V → V → V → V → V → V → ByteArray → ByteArray → Bool → Bool → Option R) (k : Bool → Option R) : Option R :=
 (match b_804 with
  | true => ZtG N w_801 w_803 fun w12 b13 => ZkB N w_802 fun w14 b15 => (match (!b15) with
  | true => k false
  | false => (match b13 with
   | true => (match (!(w12.toList == w14.toList)) with
   | true => k false
   | false => j (.str w_803) (.bool b_804) v_1009 v_1010 v_1013 v_1014 (.str w12) (.bool b13) (.str w14) (.bool b15) v_1042 v_1043 v_1045 v_1046 v_1047 v_1048 v_1049 v_1050 v_1051 v_1052 v_1053 v_1054 v_1055 v_1056 v_1057 v_1058 v_1059 v_1060 v_1061 v_1062 v_1063 v_1064 v_1065 v_1066 v_1067 v_1068 v_1069 v_1070 v_1071 v_1072 v_1073 v_1074 v_1076 v_1077 v_1078 v_1079 v_1081 v_1082 v_1083 v_1084 v_1086 v_1087 v_1088 v_1089 v_1091 v_1092 v_1093 v_1094 v_1095 v_1096 v_1097 (.bool b_804) (.tuple [.str w12, .bool b13]) (.str w_801) (.str w_803) (.tuple [.str w12, .bool b13]) (.str w12) (.bool b13) (.tuple [.str w14, .bool b15]) (.str w_802) (.tuple [.str w14, .bool b15]) (.str w14) (.bool b15) (.bool b15) (.bool (!b15)) (.bool false) (.bool b13) (.bool true) (.str w12) (.str w14) (.bool (!(w12.toList == w14.toList))) (.bool (!(w12.toList == w14.toList))) (.bool (!(w12.toList == w14.toList))) w_801 w_802 b_805 b_806)
   | false => j (.str w_803) (.bool b_804) v_1009 v_1010 v_1013 v_1014 (.str w12) (.bool b13) (.str w14) (.bool b15) v_1042 v_1043 v_1045 v_1046 v_1047 v_1048 v_1049 v_1050 v_1051 v_1052 v_1053 v_1054 v_1055 v_1056 v_1057 v_1058 v_1059 v_1060 v_1061 v_1062 v_1063 v_1064 v_1065 v_1066 v_1067 v_1068 v_1069 v_1070 v_1071 v_1072 v_1073 v_1074 v_1076 v_1077 v_1078 v_1079 v_1081 v_1082 v_1083 v_1084 v_1086 v_1087 v_1088 v_1089 v_1091 v_1092 v_1093 v_1094 v_1095 v_1096 v_1097 (.bool b_804) (.tuple [.str w12, .bool b13]) (.str w_801) (.str w_803) (.tuple [.str w12, .bool b13]) (.str w12) (.bool b13) (.tuple [.str w14, .bool b15]) (.str w_802) (.tuple [.str w14, .bool b15]) (.str w14) (.bool b15) (.bool b15) (.bool (!b15)) (.bool false) (.bool b13) (.bool false) (.tuple []) (.tuple []) (.tuple []) (.bool false) (.bool false) w_801 w_802 b_805 b_806))
  | false => j (.str w_803) (.bool b_804) v_1009 v_1010 v_1013 v_1014 .dead .dead .dead .dead v_1042 v_1043 v_1045 v_1046 v_1047 v_1048 v_1049 v_1050 v_1051 v_1052 v_1053 v_1054 v_1055 v_1056 v_1057 v_1058 v_1059 v_1060 v_1061 v_1062 v_1063 v_1064 v_1065 v_1066 v_1067 v_1068 v_1069 v_1070 v_1071 v_1072 v_1073 v_1074 v_1076 v_1077 v_1078 v_1079 v_1081 v_1082 v_1083 v_1084 v_1086 v_1087 v_1088 v_1089 v_1091 v_1092 v_1093 v_1094 v_1095 v_1096 v_1097 (.bool b_804) .dead .dead .dead .dead .dead .dead .dead .dead .dead .dead .dead .dead .dead .dead .dead .dead .dead .dead .dead .dead .dead w_801 w_802 b_805 b_806)
def ZhX {R : Type} (N : Nat) (e_1 : List V) (f_2 : Fl) (e_3 : List V) (f_4 : Fl) (v_2007 v_2008 v_2009 v_2010 v_2013 v_2014 v_2015 v_2016 v_2017 v_2018 v_2042 v_2043 v_2045 v_2046 v_2047 v_2048 v_2049 v_2050 v_2051 v_2052 v_2053 v_2054 v_2055 v_2056 v_2057 v_2058 v_2059 v_2060 v_2061 v_2062 v_2063 v_2064 v_2065 v_2066 v_2067 v_2068 v_2069 v_2070 v_2071 v_2072 v_2073 v_2074 v_2076 v_2077 v_2078 v_2079 v_2081 v_2082 v_2083 v_2084 v_2086 v_2087 v_2088 v_2089 v_2091 v_2092 v_2093 v_2094 v_2095 v_2096 v_2097 v_2098 v_2099 v_2100 v_2101 v_2102 v_2103 v_2104 v_2105 v_2106 v_2107 v_2108 v_2109 v_2110 v_2111 v_2112 v_2113 v_2114 v_2115 v_2116 v_2117 v_2118 v_2119 : V) (w_901 w_902 : ByteArray) (b_903 b_904 : Bool) (j : V → V → V → V → V → V → V → V → V → V → V → V → V → V → V → V → V → V → V → V → V → V → V → V → V → V → V → V → V → V → V → V → V → V → V → V → V → V → V → V → V → V → V → V → V → V → V → V → V → V → V → V → V → V → V → V → V → V → V → V → V → V → V → V → V → V → V → V → V → V → V → V → V → V → V → V → V → V → V → V → V → V → V → V → V → V → V → V → V → V → V → V → V → V → V → V → V → V → V → V → V → V → V → V → V → V → V → V → V → V → V → V → V → V → V → V → V → V → V → V → V → V → V → V → V → V → V → V → V → V → V → V → V → V → V → V → V → V → V → V → V → V → V → V → V → V → V → V → V → V → V → V → V → V → V → V → V → Option R) (k : Bool → Option R) : Option R :=
 (match b_904 with
  | true => Zm9 N w_901 w_901 fun b16 b17 => Zm9 N (ByteArray.mk #[47]) w_902 fun b18 b19 => (match (!b17) with
  | true => k false
  | false => (match (!b16) with
   | true => k false
   | false => (match (!b19) with
   | true => k false
   | false => (match (!b18) with
    | true => k false
    | false => (match b_903 with
    | true => Zm9 N w_902 w_901 fun b20 b21 => ZkB N w_901 fun w22 b23 => ZkB N w_902 fun w24 b25 => (match (!b21) with
     | true => k false
     | false => (match (!b23) with
     | true => k false
     | false => (match (!b25) with
      | true => k false
      | false => (match (!(b20 == (w22.toList == w24.toList))) with
      | true => k false
      | false => j (.str w_901) (.str w_902) v_2007 v_2008 v_2009 v_2010 (.bool b_903) (.bool b_904) v_2013 v_2014 v_2015 v_2016 v_2017 v_2018 (.bool b16) (.bool b17) (.bool b18) (.bool b19) (.bool b20) (.bool b21) (.str w22) (.bool b23) (.str w24) (.bool b25) v_2042 v_2043 v_2045 v_2046 v_2047 v_2048 v_2049 v_2050 v_2051 v_2052 v_2053 v_2054 v_2055 v_2056 v_2057 v_2058 v_2059 v_2060 v_2061 v_2062 v_2063 v_2064 v_2065 v_2066 v_2067 v_2068 v_2069 v_2070 v_2071 v_2072 v_2073 v_2074 v_2076 v_2077 v_2078 v_2079 v_2081 v_2082 v_2083 v_2084 v_2086 v_2087 v_2088 v_2089 v_2091 v_2092 v_2093 v_2094 v_2095 v_2096 v_2097 v_2098 v_2099 v_2100 v_2101 v_2102 v_2103 v_2104 v_2105 v_2106 v_2107 v_2108 v_2109 v_2110 v_2111 v_2112 v_2113 v_2114 v_2115 v_2116 v_2117 v_2118 v_2119 (.bool b_904) (.tuple [.bool b16, .bool b17]) (.str w_901) (.str w_901) (.tuple [.bool b16, .bool b17]) (.bool b16) (.bool b17) (.tuple [.bool b18, .bool b19]) (.str w_902) (.tuple [.bool b18, .bool b19]) (.bool b18) (.bool b19) (.bool b17) (.bool (!b17)) (.bool false) (.bool b16) (.bool (!b16)) (.bool (!b16)) (.bool false) (.bool b19) (.bool (!b19)) (.bool (!b19)) (.bool false) (.bool b18) (.bool (!b18)) (.bool (!b18)) (.bool b_903) (.tuple [.bool b20, .bool b21]) (.str w_902) (.str w_901) (.tuple [.bool b20, .bool b21]) (.bool b20) (.bool b21) (.tuple [.str w22, .bool b23]) (.str w_901) (.tuple [.str w22, .bool b23]) (.str w22) (.bool b23) (.tuple [.str w24, .bool b25]) (.str w_902) (.tuple [.str w24, .bool b25]) (.str w24) (.bool b25) (.bool b21) (.bool (!b21)) (.bool false) (.bool b23) (.bool (!b23)) (.bool (!b23)) (.bool false) (.bool b25) (.bool (!b25)) (.bool (!b25)) (.bool false) (.bool b20) (.str w22) (.str w24) (.bool (w22.toList == w24.toList)) (.bool (!(b20 == (w22.toList == w24.toList)))) (.bool (!(b20 == (w22.toList == w24.toList))))))))
    | false => j (.str w_901) (.str w_902) v_2007 v_2008 v_2009 v_2010 (.bool b_903) (.bool b_904) v_2013 v_2014 v_2015 v_2016 v_2017 v_2018 (.bool b16) (.bool b17) (.bool b18) (.bool b19) .dead .dead .dead .dead .dead .dead v_2042 v_2043 v_2045 v_2046 v_2047 v_2048 v_2049 v_2050 v_2051 v_2052 v_2053 v_2054 v_2055 v_2056 v_2057 v_2058 v_2059 v_2060 v_2061 v_2062 v_2063 v_2064 v_2065 v_2066 v_2067 v_2068 v_2069 v_2070 v_2071 v_2072 v_2073 v_2074 v_2076 v_2077 v_2078 v_2079 v_2081 v_2082 v_2083 v_2084 v_2086 v_2087 v_2088 v_2089 v_2091 v_2092 v_2093 v_2094 v_2095 v_2096 v_2097 v_2098 v_2099 v_2100 v_2101 v_2102 v_2103 v_2104 v_2105 v_2106 v_2107 v_2108 v_2109 v_2110 v_2111 v_2112 v_2113 v_2114 v_2115 v_2116 v_2117 v_2118 v_2119 (.bool b_904) (.tuple [.bool b16, .bool b17]) (.str w_901) (.str w_901) (.tuple [.bool b16, .bool b17]) (.bool b16) (.bool b17) (.tuple [.bool b18, .bool b19]) (.str w_902) (.tuple [.bool b18, .bool b19]) (.bool b18) (.bool b19) (.bool b17) (.bool (!b17)) (.bool false) (.bool b16) (.bool (!b16)) (.bool (!b16)) (.bool false) (.bool b19) (.bool (!b19)) (.bool (!b19)) (.bool false) (.bool b18) (.bool (!b18)) (.bool (!b18)) (.bool b_903) .dead .dead .dead .dead .dead .dead .dead .dead .dead .dead .dead .dead .dead .dead .dead .dead .dead .dead .dead .dead .dead .dead .dead .dead .dead .dead .dead .dead .dead .dead .dead .dead .dead)))))
  | false => j (.str w_901) (.str w_902) v_2007 v_2008 v_2009 v_2010 (.bool b_903) (.bool b_904) v_2013 v_2014 v_2015 v_2016 v_2017 v_2018 .dead .dead .dead .dead .dead .dead .dead .dead .dead .dead v_2042 v_2043 v_2045 v_2046 v_2047 v_2048 v_2049 v_2050 v_2051 v_2052 v_2053 v_2054 v_2055 v_2056 v_2057 v_2058 v_2059 v_2060 v_2061 v_2062 v_2063 v_2064 v_2065 v_2066 v_2067 v_2068 v_2069 v_2070 v_2071 v_2072 v_2073 v_2074 v_2076 v_2077 v_2078 v_2079 v_2081 v_2082 v_2083 v_2084 v_2086 v_2087 v_2088 v_2089 v_2091 v_2092 v_2093 v_2094 v_2095 v_2096 v_2097 v_2098 v_2099 v_2100 v_2101 v_2102 v_2103 v_2104 v_2105 v_2106 v_2107 v_2108 v_2109 v_2110 v_2111 v_2112 v_2113 v_2114 v_2115 v_2116 v_2117 v_2118 v_2119 (.bool b_904) .dead .dead .dead .dead .dead .dead .dead .dead .dead .dead .dead .dead .dead .dead .dead .dead .dead .dead .dead .dead .dead .dead .dead .dead .dead .dead .dead .dead .dead .dead .dead .dead .dead .dead .dead .dead .dead .dead .dead .dead .dead .dead .dead .dead .dead .dead .dead .dead .dead .dead .dead .dead .dead .dead .dead .dead .dead .dead .dead)
def Zjt {R : Type} (N : Nat) (e_1 : List V) (f_2 : Fl) (e_3 : List V) (f_4 : Fl) (k : Bool → Option R) : Option R :=
 Zt6 N e_3 f_4.noOwn.noOwn fun w26 w27 => ZtG N w26 w27 fun w28 b29 => Zu7 N w26 w27 fun w30 b31 => Zul N e_3 f_4.noOwn.noOwn fun w32 => ZuC N w32 fun w33 b34 => Zu6 N w32 fun w35 b36 => (match (b29 == b31) with
  | true => (match (w28.toList == w30.toList) with
  | true => (match (b34 == b36) with
   | true => k (w33.toList == w35.toList)
   | false => k false)
  | false => k false)
  | false => k false)
def Zhn {R : Type} (N : Nat) (e_1 : List V) (f_2 : Fl) (e_3 : List V) (f_4 : Fl) (k : Bool → Option R) : Option R :=
 Zpt N e_1 f_2 e_3 f_4 (fun v_1009 v_1010 v_1013 v_1014 v_1042 v_1043 v_1045 v_1046 v_1047 v_1048 v_1049 v_1050 v_1051 v_1052 v_1053 v_1054 v_1055 v_1056 v_1057 v_1058 v_1059 v_1060 v_1061 v_1062 v_1063 v_1064 v_1065 v_1066 v_1067 v_1068 v_1069 v_1070 v_1071 v_1072 v_1073 v_1074 v_1076 v_1077 v_1078 v_1079 v_1081 v_1082 v_1083 v_1084 v_1086 v_1087 v_1088 v_1089 v_1091 v_1092 v_1093 v_1094 v_1095 v_1096 v_1097 w_801 w_802 w_803 b_804 b_805 b_806 => ZhM N e_1 f_2 e_3 f_4 v_1009 v_1010 v_1013 v_1014 v_1042 v_1043 v_1045 v_1046 v_1047 v_1048 v_1049 v_1050 v_1051 v_1052 v_1053 v_1054 v_1055 v_1056 v_1057 v_1058 v_1059 v_1060 v_1061 v_1062 v_1063 v_1064 v_1065 v_1066 v_1067 v_1068 v_1069 v_1070 v_1071 v_1072 v_1073 v_1074 v_1076 v_1077 v_1078 v_1079 v_1081 v_1082 v_1083 v_1084 v_1086 v_1087 v_1088 v_1089 v_1091 v_1092 v_1093 v_1094 v_1095 v_1096 v_1097 w_801 w_802 w_803 b_804 b_805 b_806 (fun v_2007 v_2008 v_2009 v_2010 v_2013 v_2014 v_2015 v_2016 v_2017 v_2018 v_2042 v_2043 v_2045 v_2046 v_2047 v_2048 v_2049 v_2050 v_2051 v_2052 v_2053 v_2054 v_2055 v_2056 v_2057 v_2058 v_2059 v_2060 v_2061 v_2062 v_2063 v_2064 v_2065 v_2066 v_2067 v_2068 v_2069 v_2070 v_2071 v_2072 v_2073 v_2074 v_2076 v_2077 v_2078 v_2079 v_2081 v_2082 v_2083 v_2084 v_2086 v_2087 v_2088 v_2089 v_2091 v_2092 v_2093 v_2094 v_2095 v_2096 v_2097 v_2098 v_2099 v_2100 v_2101 v_2102 v_2103 v_2104 v_2105 v_2106 v_2107 v_2108 v_2109 v_2110 v_2111 v_2112 v_2113 v_2114 v_2115 v_2116 v_2117 v_2118 v_2119 w_901 w_902 b_903 b_904 => ZhX N e_1 f_2 e_3 f_4 v_2007 v_2008 v_2009 v_2010 v_2013 v_2014 v_2015 v_2016 v_2017 v_2018 v_2042 v_2043 v_2045 v_2046 v_2047 v_2048 v_2049 v_2050 v_2051 v_2052 v_2053 v_2054 v_2055 v_2056 v_2057 v_2058 v_2059 v_2060 v_2061 v_2062 v_2063 v_2064 v_2065 v_2066 v_2067 v_2068 v_2069 v_2070 v_2071 v_2072 v_2073 v_2074 v_2076 v_2077 v_2078 v_2079 v_2081 v_2082 v_2083 v_2084 v_2086 v_2087 v_2088 v_2089 v_2091 v_2092 v_2093 v_2094 v_2095 v_2096 v_2097 v_2098 v_2099 v_2100 v_2101 v_2102 v_2103 v_2104 v_2105 v_2106 v_2107 v_2108 v_2109 v_2110 v_2111 v_2112 v_2113 v_2114 v_2115 v_2116 v_2117 v_2118 v_2119 w_901 w_902 b_903 b_904 (fun _ _ _ _ _ _ _ _ _ _ _ _ _ _ _ _ _ _ _ _ _ _ _ _ _ _ _ _ _ _ _ _ _ _ _ _ _ _ _ _ _ _ _ _ _ _ _ _ _ _ _ _ _ _ _ _ _ _ _ _ _ _ _ _ _ _ _ _ _ _ _ _ _ _ _ _ _ _ _ _ _ _ _ _ _ _ _ _ _ _ _ _ _ _ _ _ _ _ _ _ _ _ _ _ _ _ _ _ _ _ _ _ _ _ _ _ _ _ _ _ _ _ _ _ _ _ _ _ _ _ _ _ _ _ _ _ _ _ _ _ _ _ _ _ _ _ _ _ _ _ _ _ _ _ _ _ _ => Zjt N e_1 f_2 e_3 f_4 k) k) k) k
def ZyI := @ZaB _ @Zhn
theorem Zu9 : @ZyI = @Zhn := @Zal _ @Zhn
end
end Go.VM.VL
