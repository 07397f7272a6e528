/- The functions of the program, told plainly: what each computes, as a function of its letters; and that the machine does the same. Printed by vgen.py, a program of this session's own. -/
import Derived.Test.YtkchbabkbpcncaaVmY
import Derived.Test.YtkchbabkbpcncaaVmZt
import Derived.Test.YtkchbabkbpcncaaVmZo
set_option linter.unusedVariables false
namespace Go.VM.VL
noncomputable section
def ZkM {R:Type} (N:Nat) (e_1:List V) (f_2:Fl) (x_3:Int) (k:Int → Option R):Option R :=
 (match decide (IntKind.i64.wrap (x_3 - (e_1.length:Int)) < 0) with
  | true=>k (-1)
  | false=>k (IntKind.i64.wrap (x_3 - (e_1.length:Int))))
def Zta:=@Zbh _ @ZkM
theorem ZnZ:@Zta = @ZkM:=@ZaF _ @ZkM
def Zcw {R:Type} (N:Nat) (e_1:List V) (f_2:Fl) (nx:Int → Int → Option R) (x_3 x_4:Int) (k0:Int → Option R) (k1:Int → Option R):Option R :=
 (match decide (x_4 < (e_1.length:Int)) with
  | true=>(if 0 ≤ x_4 then ZbA (nth e_1 x_4.toNat) fun e5=>ZaP 1 e5 fun e6 f7=>Zta N e6 f7.noOwn.noOwn x_3 fun x8=>(match decide (x8 < 0) with
   | true=>k0 x8
   | false=>nx x8 (IntKind.i64.wrap (x_4 + 1))) else none)
  | false=>k1 x_3)
def Zdv {R:Type} (N:Nat) (e_1:List V) (f_2:Fl) (k0:Int → Option R) (k1:Int → Option R):Nat → Int → Int → Option R
 | 0,_,_=>none
 | n + 1,x_3,x_4=>Zcw N e_1 f_2 (fun x_3 x_4=>Zdv N e_1 f_2 k0 k1 n x_3 x_4) x_3 x_4 k0 k1
def Zk9 {R:Type} (N:Nat) (e_1:List V) (f_2:Fl) (x_3:Int) (k:Int → Option R):Option R :=
 (match decide (IntKind.i64.wrap (x_3 - (e_1.length:Int)) < 0) with
  | true=>k (-1)
  | false=>Zdv N e_1 f_2
    (fun x9=>k (-1))
    (fun x10=>k x10)
    N (IntKind.i64.wrap (x_3 - (e_1.length:Int))) 0)
def ZsQ:=@Zbh _ @Zk9
theorem Zoj:@ZsQ = @Zk9:=@ZaF _ @Zk9
def ZjC {R:Type} (N:Nat) (x_1 x_2 x_3:Int) (k:Bool → Option R):Option R :=
 (match decide (x_1 ≥ x_2) with
  | true=>k (decide (x_1 ≤ x_3))
  | false=>k false)
def ZoX:=@Zbh _ @ZjC
theorem Zne:@ZoX = @ZjC:=@ZaF _ @ZjC
def ZbU {R:Type} (N:Nat) (e_1:List V) (f_2:Fl) (x_3:Int) (nx:Int → Option R) (x_4:Int) (k0:Int → Option R):Option R :=
 (match decide (x_4 < (e_1.length:Int)) with
  | true=>(if 0 ≤ x_4 then ZbA (nth e_1 x_4.toNat) fun e3=>asInt .i64 e3 fun n4=>(match decide (n4 < x_3) with
   | true=>nx (IntKind.i64.wrap (x_4 + 1))
   | false=>k0 x_4) else none)
  | false=>k0 x_4)
def Zdt {R:Type} (N:Nat) (e_1:List V) (f_2:Fl) (x_3:Int) (k0:Int → Option R):Nat → Int → Option R
 | 0,_=>none
 | n + 1,x_4=>ZbU N e_1 f_2 x_3 (fun x_4=>Zdt N e_1 f_2 x_3 k0 n x_4) x_4 k0
def ZkB {R:Type} (N:Nat) (e_1:List V) (f_2:Fl) (x_3:Int) (k:List V → Option R):Option R :=
 Zdt N e_1 f_2 x_3
   (fun x5=>(match decide (x5 < (e_1.length:Int)) with
  | true=>(if 0 ≤ x5 then ZbA (nth e_1 x5.toNat) fun e6=>asInt .i64 e6 fun n7=>(match (n7 == x_3) with
   | true=>ZqJ f_2 (k e_1)
   | false=>(if (0:Int) ≤ x5 ∧ x5 ≤ (e_1.length:Int) then Zaf (Zjd f_2.noOwn.noOwn ((e_1.take ((x5:Int).toNat)).drop 0)) ((if (0 + (((e_1.take ((x5:Int).toNat)).drop 0)).length) * 8 ≤ 140737488355328 then (if ((([]:List V) ++ (((e_1.take ((x5:Int).toNat)).drop 0)).map V.noOwn).length + 1) * 8 ≤ 140737488355328 then (if (0:Int) ≤ x5 ∧ x5 ≤ (e_1.length:Int) then Zaf (Zjd f_2.noOwn.noOwn ((e_1.take e_1.length).drop ((x5:Int).toNat))) ((if (((([]:List V) ++ (((e_1.take ((x5:Int).toNat)).drop 0)).map V.noOwn) ++ ([.int .i64 x_3]:List V)).length + (((e_1.take e_1.length).drop ((x5:Int).toNat))).length) * 8 ≤ 140737488355328 then k (((([]:List V) ++ (((e_1.take ((x5:Int).toNat)).drop 0)).map V.noOwn) ++ ([.int .i64 x_3]:List V)) ++ (((e_1.take e_1.length).drop ((x5:Int).toNat))).map V.noOwn) else none)) else none) else none) else none)) else none)) else none)
  | false=>(if (0:Int) ≤ x5 ∧ x5 ≤ (e_1.length:Int) then Zaf (Zjd f_2.noOwn.noOwn ((e_1.take ((x5:Int).toNat)).drop 0)) ((if (0 + (((e_1.take ((x5:Int).toNat)).drop 0)).length) * 8 ≤ 140737488355328 then (if ((([]:List V) ++ (((e_1.take ((x5:Int).toNat)).drop 0)).map V.noOwn).length + 1) * 8 ≤ 140737488355328 then (if (0:Int) ≤ x5 ∧ x5 ≤ (e_1.length:Int) then Zaf (Zjd f_2.noOwn.noOwn ((e_1.take e_1.length).drop ((x5:Int).toNat))) ((if (((([]:List V) ++ (((e_1.take ((x5:Int).toNat)).drop 0)).map V.noOwn) ++ ([.int .i64 x_3]:List V)).length + (((e_1.take e_1.length).drop ((x5:Int).toNat))).length) * 8 ≤ 140737488355328 then k (((([]:List V) ++ (((e_1.take ((x5:Int).toNat)).drop 0)).map V.noOwn) ++ ([.int .i64 x_3]:List V)) ++ (((e_1.take e_1.length).drop ((x5:Int).toNat))).map V.noOwn) else none)) else none) else none) else none)) else none)))
   N 0
def Zs4:=@Zbh _ @ZkB
theorem Zol:@Zs4 = @ZkB:=@ZaF _ @ZkB
def Zch {R:Type} (N:Nat) (x_1 x_2:Int) (e_3:List V) (f_4:Fl) (x_5:Int) (nx:Int → Option R) (x_6:Int) (k0:Unit → Option R) (k1:Unit → Option R):Option R :=
 (match decide (x_6 < x_5) with
  | true=>(if 0 ≤ x_6 then ZbA (nth e_3 x_6.toNat) fun e4=>asInt .i64 e4 fun n5=>ZoX N n5 x_1 x_2 fun b6=>(match (!b6) with
   | true=>k0 ()
   | false=>nx (IntKind.i64.wrap (x_6 + 1))) else none)
  | false=>k1 ())
def Zev {R:Type} (N:Nat) (x_1 x_2:Int) (e_3:List V) (f_4:Fl) (x_5:Int) (k0:Unit → Option R) (k1:Unit → Option R):Nat → Int → Option R
 | 0,_=>none
 | n + 1,x_6=>Zch N x_1 x_2 e_3 f_4 x_5 (fun x_6=>Zev N x_1 x_2 e_3 f_4 x_5 k0 k1 n x_6) x_6 k0 k1
def Zkq {R:Type} (N:Nat) (e_1:List V) (f_2:Fl) (x_3 x_4:Int) (k:Bool → Option R):Option R :=
 Zev N x_3 x_4 e_1 f_2.noOwn (e_1.length:Int)
   (fun (_:Unit)=>k false)
   (fun (_:Unit)=>k true)
   N 0
def Zsf:=@Zbh _ @Zkq
theorem ZnA:@Zsf = @Zkq:=@ZaF _ @Zkq
def Zce {R:Type} (N:Nat) (e_1:List V) (f_2:Fl) (e_5:List V) (f_6:Fl) (x_7 x_8:Int) (e_9:List V) (f_10:Fl) (x_11:Int) (nx:List V → Fl → Int → Int → Option R) (e_3:List V) (f_13:Fl) (x_4 x_12:Int) (k0:List V → Fl → Int → Option R):Option R :=
 (match decide (x_12 < x_11) with
  | true=>(if 0 ≤ x_12 then ZbA (nth e_9 x_12.toNat) fun e8=>asInt .i64 e8 fun n9=>Zs4 N e_3 f_13.noOwn.noOwn n9 fun e10=>nx e10 .sh (IntKind.i64.wrap (x_4 + 1)) (IntKind.i64.wrap (x_12 + 1)) else none)
  | false=>k0 e_3 f_13 x_4)
def Zd8 {R:Type} (N:Nat) (e_1:List V) (f_2:Fl) (e_5:List V) (f_6:Fl) (x_7 x_8:Int) (e_9:List V) (f_10:Fl) (x_11:Int) (k0:List V → Fl → Int → Option R):Nat → List V → Fl → Int → Int → Option R
 | 0,_,_,_,_=>none
 | n + 1,e_3,f_13,x_4,x_12=>Zce N e_1 f_2 e_5 f_6 x_7 x_8 e_9 f_10 x_11 (fun e_3 f_13 x_4 x_12=>Zd8 N e_1 f_2 e_5 f_6 x_7 x_8 e_9 f_10 x_11 k0 n e_3 f_13 x_4 x_12) e_3 f_13 x_4 x_12 k0
def Zcg {R:Type} (N:Nat) (e_1:List V) (f_2:Fl) (e_5:List V) (f_6:Fl) (x_7:Int) (nx:List V → Fl → Int → Int → Option R) (e_3:List V) (f_9:Fl) (x_4 x_8:Int) (k0:List V → Fl → Int → Option R) (k1:List V → Fl → Int → Option R):Option R :=
 (match decide (x_8 < x_7) with
  | true=>(if 0 ≤ x_8 then ZbA (nth e_5 x_8.toNat) fun e14=>ZaP 1 e14 fun e15 f16=>Zsf N e15 f16.noOwn.noOwn.noOwn 0 999 fun b17=>(match (!b17) with
   | true=>k0 e_3 f_9 x_4
   | false=>Zd8 N e_1 f_2 e_5 f_6 x_7 x_8 e15 f16.noOwn.noOwn (e15.length:Int)
     (fun e18 f19 x20=>nx e18 f19 x20 (IntKind.i64.wrap (x_8 + 1)))
     N e_3 f_9 x_4 0) else none)
  | false=>k1 e_3 f_9 x_4)
def ZcY {R:Type} (N:Nat) (e_1:List V) (f_2:Fl) (e_5:List V) (f_6:Fl) (x_7:Int) (k0:List V → Fl → Int → Option R) (k1:List V → Fl → Int → Option R):Nat → List V → Fl → Int → Int → Option R
 | 0,_,_,_,_=>none
 | n + 1,e_3,f_9,x_4,x_8=>Zcg N e_1 f_2 e_5 f_6 x_7 (fun e_3 f_9 x_4 x_8=>ZcY N e_1 f_2 e_5 f_6 x_7 k0 k1 n e_3 f_9 x_4 x_8) e_3 f_9 x_4 x_8 k0 k1
def ZjU {R:Type} (N:Nat) (e_1:List V) (f_2:Fl) (k:Bool → Option R):Option R :=
 ZcY N e_1 f_2 e_1 f_2.noOwn (e_1.length:Int)
   (fun e21 f22 x23=>k false)
   (fun e24 f25 x26=>ZoX N (e_1.length:Int) 1 8 fun b27=>(match b27 with
  | true=>(match decide (x26 ≤ 60) with
   | true=>k ((e24.length:Int) == x26)
   | false=>k false)
  | false=>k false))
   N [] (.own 3) 0 0
def ZtB:=@Zbh _ @ZjU
theorem Zn8:@ZtB = @ZjU:=@ZaF _ @ZjU
def Zkl {R:Type} (N:Nat) (e_1:List V) (f_2:Fl) (x_3:Int) (k:Bool → Option R):Option R :=
 ZtB N e_1 f_2.noOwn.noOwn fun b1=>(match b1 with
  | true=>ZoX N x_3 0 (IntKind.i64.wrap ((e_1.length:Int) - 1)) fun b2=>k b2
  | false=>k false)
def Ztr:=@Zbh _ @Zkl
theorem Zm6:@Ztr = @Zkl:=@ZaF _ @Zkl
def Zj2 {R:Type} (N:Nat) (e_1:List V) (f_2:Fl) (k:Nat → List V → Option R):Option R :=
 ZhX 8 1 e_1 k
def Zsg:=@Zbh _ @Zj2
theorem Zob:@Zsg = @Zj2:=@ZaF _ @Zj2
def Zci {R:Type} (N:Nat) (e_1:List V) (f_2:Fl) (x_3:Int) (nx:Nat → Int → List V → Option R) (k_5:Nat) (x_4:Int) (e_6:List V) (k0:Nat → List V → Option R):Option R :=
 (match decide (x_4 < x_3) with
  | true=>(if 0 ≤ x_4 then ZbA (nth e_1 x_4.toNat) fun e6=>ZaP 1 e6 fun e7 f8=>Zsg N e7 f8.noOwn.noOwn.noOwn fun k9 e10=>(if 0 = 0 ∧ k_5 = e_6.length ∧ (k_5 + 1) * 24 ≤ 140737488355328 then Zaf (decide (0 + k9 ≤ e10.length)) <|
     Zaf (((e10.drop 0).take k9).all V.scalE) (Zaf (Zaw ((e_6 ++ ([.uni 3 1 ((e10.drop 0).take k9)]:List V)).map (trimV 2)) && true) (nx (k_5 + 1) (IntKind.i64.wrap (x_4 + 1)) ((e_6 ++ ([.uni 3 1 ((e10.drop 0).take k9)]:List V)).map (trimV 2)))) else none) else none)
  | false=>Zaf (Zaw (e_6.map (trimV 2)) && true) (k0 k_5 (e_6.map (trimV 2))))
def Zeg {R:Type} (N:Nat) (e_1:List V) (f_2:Fl) (x_3:Int) (k0:Nat → List V → Option R):Nat → Nat → Int → List V → Option R
 | 0,_,_,_=>none
 | n + 1,k_5,x_4,e_6=>Zci N e_1 f_2 x_3 (fun k_5 x_4 e_6=>Zeg N e_1 f_2 x_3 k0 n k_5 x_4 e_6) k_5 x_4 e_6 k0
def ZjW {R:Type} (N:Nat) (e_1:List V) (f_2:Fl) (k:Nat → List V → Option R):Option R :=
 Zeg N e_1 f_2.noOwn (e_1.length:Int)
   (fun k11 e12=>Zaf (Zbj e12 && true) (k k11 e12))
   N 0 0 []
def Ztm:=@Zbh _ @ZjW
theorem ZnS:@Ztm = @ZjW:=@ZaF _ @ZjW
def ZkV {R:Type} (N:Nat) (e_1:List V) (f_2:Fl) (x_3:Int) (k:Nat → Int → Bool → List V → Option R):Option R :=
 Ztr N e_1 f_2.noOwn.noOwn x_3 fun b1=>(match (!b1) with
  | true=>k 0 0 false []
  | false=>(if 0 ≤ x_3 then ZbA (nth e_1 x_3.toNat) fun e2=>ZaP 1 e2 fun e3 f4=>(match ((e3.length:Int) == 0) with
   | true=>k 0 0 false []
   | false=>Ztm N e_1 f_2.noOwn.noOwn fun k5 e6=>(if 0 ≤ x_3 then ZbA (nth e_1 x_3.toNat) fun e7=>ZaP 1 e7 fun e8 f9=>(if (0:Int) ≤ x_3 ∧ (x_3:Int) < k5 then (match nth e6 (0 + x_3.toNat) with
    | some e10=>ZbE (e10.cells.drop 0) fun c11 l12=>Zdy 3 1 c11 fun e13=>(match putCells e10 0 [.arr 2 0 0 e13.length] with
     | some e14=>(if (0:Int) ≤ IntKind.i64.wrap ((e8.length:Int) - 1) ∧ IntKind.i64.wrap ((e8.length:Int) - 1) ≤ (e13.length:Int) then (if (0:Int) ≤ x_3 ∧ (x_3:Int) < k5 then Zaf (decide (0 + (IntKind.i64.wrap ((e8.length:Int) - 1)).toNat ≤ e13.length)) <|
        Zaf (((e13.drop 0).take ((IntKind.i64.wrap ((e8.length:Int) - 1)).toNat)).all V.scalE) ((match nth (Zai e6 (0 + x_3.toNat) e14) (0 + x_3.toNat) with
       | some e15=>(match putCells e15 0 [.uni 3 1 ((e13.drop 0).take ((IntKind.i64.wrap ((e8.length:Int) - 1)).toNat))] with
       | some e16=>(if 0 ≤ x_3 then ZbA (nth e_1 x_3.toNat) fun e17=>ZaP 1 e17 fun e18 f19=>(if 0 ≤ IntKind.i64.wrap ((e8.length:Int) - 1) then ZbA (nth e18 ((IntKind.i64.wrap ((e8.length:Int) - 1)).toNat)) fun e20=>asInt .i64 e20 fun n21=>Zaf (Zbj (Zai (Zai e6 (0 + x_3.toNat) e14) (0 + x_3.toNat) e16) && true) (k k5 n21 true (Zai (Zai e6 (0 + x_3.toNat) e14) (0 + x_3.toNat) e16)) else none) else none)
       | none=>none)
       | none=>none)) else none) else none)
     | none=>none)
    | none=>none) else none) else none)) else none))
def Zsr:=@Zbh _ @ZkV
theorem Znr:@Zsr = @ZkV:=@ZaF _ @ZkV
def Zcs {R:Type} (N:Nat) (e_1:List V) (f_2:Fl) (k_3:Nat) (nx:Int → List V → Option R) (x_4:Int) (e_5:List V) (k0:List V → Option R):Option R :=
 (match decide (x_4 < (e_1.length:Int)) with
  | true=>(if 0 ≤ x_4 then ZbA (nth e_1 x_4.toNat) fun e5=>asInt .i64 e5 fun n6=>(if (0:Int) ≤ x_4 ∧ (x_4:Int) < k_3 then (match nth e_5 (0 + x_4.toNat) with
   | some e7=>(match putCells e7 0 [.int .i64 n6] with
    | some e8=>nx (IntKind.i64.wrap (x_4 + 1)) (Zai e_5 (0 + x_4.toNat) e8)
    | none=>none)
   | none=>none) else none) else none)
  | false=>k0 e_5)
def ZdA {R:Type} (N:Nat) (e_1:List V) (f_2:Fl) (k_3:Nat) (k0:List V → Option R):Nat → Int → List V → Option R
 | 0,_,_=>none
 | n + 1,x_4,e_5=>Zcs N e_1 f_2 k_3 (fun x_4 e_5=>ZdA N e_1 f_2 k_3 k0 n x_4 e_5) x_4 e_5 k0
def ZkI {R:Type} (N:Nat) (e_1:List V) (f_2:Fl) (k:Nat → List V → Option R):Option R :=
 (if 0 ≤ (e_1.length:Int) ∧ (e_1.length:Int) = (e_1.length:Int) ∧ (e_1.length:Int) * 8 ≤ 140737488355328 then ZdA N e_1 f_2 (((e_1.length:Int)).toNat)
    (fun e9=>Zaf (Zbj e9 && true) (k (((e_1.length:Int)).toNat) e9))
    N 0 (List.replicate (((e_1.length:Int)).toNat) (.int .i64 0)) else none)
def Zsv:=@Zbh _ @ZkI
theorem ZnF:@Zsv = @ZkI:=@ZaF _ @ZkI
def Zck {R:Type} (N:Nat) (e_1:List V) (f_2:Fl) (k_3:Nat) (nx:Int → List V → Option R) (x_4:Int) (e_5:List V) (k0:List V → Option R):Option R :=
 (match decide (x_4 < (e_1.length:Int)) with
  | true=>(if 0 ≤ x_4 then ZbA (nth e_1 x_4.toNat) fun e8=>ZaP 1 e8 fun e9 f10=>Zsv N e9 f10.noOwn.noOwn fun k11 e12=>(if (0:Int) ≤ x_4 ∧ (x_4:Int) < k_3 then Zaf (decide (0 + k11 ≤ e12.length)) <|
     Zaf (((e12.drop 0).take k11).all V.scalE) ((match nth e_5 (0 + x_4.toNat) with
    | some e13=>(match putCells e13 0 [.uni 3 1 ((e12.drop 0).take k11)] with
    | some e14=>nx (IntKind.i64.wrap (x_4 + 1)) ((Zai e_5 (0 + x_4.toNat) e14).map (trimV 1))
    | none=>none)
    | none=>none)) else none) else none)
  | false=>k0 (e_5.map (trimV 1)))
def Zdz {R:Type} (N:Nat) (e_1:List V) (f_2:Fl) (k_3:Nat) (k0:List V → Option R):Nat → Int → List V → Option R
 | 0,_,_=>none
 | n + 1,x_4,e_5=>Zck N e_1 f_2 k_3 (fun x_4 e_5=>Zdz N e_1 f_2 k_3 k0 n x_4 e_5) x_4 e_5 k0
def ZjP {R:Type} (N:Nat) (e_1:List V) (f_2:Fl) (k:Nat → List V → Option R):Option R :=
 (if 0 ≤ (e_1.length:Int) ∧ (e_1.length:Int) = (e_1.length:Int) ∧ (e_1.length:Int) * 24 ≤ 140737488355328 then Zdz N e_1 f_2 (((e_1.length:Int)).toNat)
    (fun e15=>Zaf (Zbj e15 && true) (k (((e_1.length:Int)).toNat) e15))
    N 0 (List.replicate (((e_1.length:Int)).toNat) (.uni 3 1 [])) else none)
def ZlW:=@Zbh _ @ZjP
theorem Zm8:@ZlW = @ZjP:=@ZaF _ @ZjP
def Zkv {R:Type} (N:Nat) (x_1 x_2 x_3:Int) (k:Bool → Option R):Option R :=
 (match decide (x_1 ≥ x_2) with
  | true=>k (decide (x_1 ≤ x_3))
  | false=>k false)
def ZpG:=@Zbh _ @Zkv
theorem ZnL:@ZpG = @Zkv:=@ZaF _ @Zkv
def ZkQ {R:Type} (N:Nat) (x_1:Int) (k:Bool → Option R):Option R :=
 ZpG N x_1 0 999 fun b1=>k b1
def ZsV:=@Zbh _ @ZkQ
theorem ZnM:@ZsV = @ZkQ:=@ZaF _ @ZkQ
def Zko {R:Type} (N:Nat) (x_1:Int) (k:List V → Option R):Option R :=
 (if 0 ≤ x_1 ∧ x_1 * (8:Nat) ≤ 140737488355328 then k [] else none)
def ZuK:=@Zbh _ @Zko
theorem Zn9:@ZuK = @Zko:=@ZaF _ @Zko
def Zcj {R:Type} (N:Nat) (e_1:List V) (f_2:Fl) (e_4:List V) (f_5:Fl) (x_6:Int) (nx:Int → Int → Option R) (x_3 x_7:Int) (k0:Int → Option R):Option R :=
 (match decide (x_7 < x_6) with
  | true=>(if 0 ≤ x_7 then ZbA (nth e_4 x_7.toNat) fun e4=>ZaP 1 e4 fun e5 f6=>(match decide (IntKind.i64.wrap (x_3 + (e5.length:Int)) < 0) with
   | true=>none
   | false=>nx (IntKind.i64.wrap (x_3 + (e5.length:Int))) (IntKind.i64.wrap (x_7 + 1))) else none)
  | false=>k0 x_3)
def Zds {R:Type} (N:Nat) (e_1:List V) (f_2:Fl) (e_4:List V) (f_5:Fl) (x_6:Int) (k0:Int → Option R):Nat → Int → Int → Option R
 | 0,_,_=>none
 | n + 1,x_3,x_7=>Zcj N e_1 f_2 e_4 f_5 x_6 (fun x_3 x_7=>Zds N e_1 f_2 e_4 f_5 x_6 k0 n x_3 x_7) x_3 x_7 k0
def Zcf {R:Type} (N:Nat) (e_2:List V) (f_3:Fl) (x_4:Int) (nx:List V → Int → Option R) (e_1:List V) (x_5:Int) (k0:List V → Option R):Option R :=
 (match decide (x_5 < x_4) with
  | true=>(if 0 ≤ x_5 then ZbA (nth e_2 x_5.toNat) fun e12=>ZaP 1 e12 fun e13 f14=>Zaf (Zjd f14.noOwn.noOwn e13) ((if (e_1.length + (e13).length) * 8 ≤ 140737488355328 then nx (e_1 ++ (e13).map V.noOwn) (IntKind.i64.wrap (x_5 + 1)) else none)) else none)
  | false=>k0 e_1)
def Zeh {R:Type} (N:Nat) (e_2:List V) (f_3:Fl) (x_4:Int) (k0:List V → Option R):Nat → List V → Int → Option R
 | 0,_,_=>none
 | n + 1,e_1,x_5=>Zcf N e_2 f_3 x_4 (fun e_1 x_5=>Zeh N e_2 f_3 x_4 k0 n e_1 x_5) e_1 x_5 k0
def ZkO {R:Type} (N:Nat) (e_1:List V) (f_2:Fl) (k:List V → Option R):Option R :=
 Zds N e_1 f_2 e_1 f_2.noOwn (e_1.length:Int)
   (fun x7=>ZuK N x7 fun e8=>Zeh N e_1 f_2.noOwn (e_1.length:Int)
    (fun e15=>k e15)
    N e8 0)
   N 0 0
def ZsX:=@Zbh _ @ZkO
theorem Zof:@ZsX = @ZkO:=@ZaF _ @ZkO
def Zcq {R:Type} (N:Nat) (e_1:List V) (f_2:Fl) (x_3 x_4:Int) (nx:Int → Option R) (x_5:Int) (k0:Int → Option R) (k1:Unit → Option R):Option R :=
 (match decide (x_5 < x_4) with
  | true=>(if 0 ≤ x_5 then ZbA (nth e_1 x_5.toNat) fun e3=>asInt .i64 e3 fun n4=>(match (x_3 == n4) with
   | true=>k0 x_5
   | false=>nx (IntKind.i64.wrap (x_5 + 1))) else none)
  | false=>k1 ())
def Zer {R:Type} (N:Nat) (e_1:List V) (f_2:Fl) (x_3 x_4:Int) (k0:Int → Option R) (k1:Unit → Option R):Nat → Int → Option R
 | 0,_=>none
 | n + 1,x_5=>Zcq N e_1 f_2 x_3 x_4 (fun x_5=>Zer N e_1 f_2 x_3 x_4 k0 k1 n x_5) x_5 k0 k1
def ZkC {R:Type} (N:Nat) (e_1:List V) (f_2:Fl) (x_3:Int) (k:Int → Option R):Option R :=
 Zer N e_1 f_2 x_3 (e_1.length:Int)
   (fun x5=>k x5)
   (fun (_:Unit)=>k (-1))
   N 0
def Zt8:=@Zbh _ @ZkC
theorem Zog:@Zt8 = @ZkC:=@ZaF _ @ZkC
def ZkA {R:Type} (N:Nat) (e_1:List V) (f_2:Fl) (x_3:Int) (k:Bool → Option R):Option R :=
 Zt8 N e_1 f_2.noOwn.noOwn x_3 fun x1=>k (decide (x1 ≥ 0))
def Zss:=@Zbh _ @ZkA
theorem ZnK:@Zss = @ZkA:=@ZaF _ @ZkA
def Zcl {R:Type} (N:Nat) (e_1 e_2:List V) (x_3:Int) (nx:Int → Option R) (x_4:Int) (k0:Unit → Option R) (k1:Unit → Option R):Option R :=
 (match decide (x_4 < x_3) with
  | true=>(if 0 ≤ x_4 then ZbA (nth e_2 x_4.toNat) fun e7=>asInt .i64 e7 fun n8=>ZsV N n8 fun b9=>(match (!b9) with
   | true=>k0 ()
   | false=>(if (0:Int) ≤ x_4 ∧ x_4 ≤ (e_1.length:Int) then Zss N ((e_1.take ((x_4:Int).toNat)).drop 0) .sh n8 fun b10=>(match b10 with
    | true=>k0 ()
    | false=>nx (IntKind.i64.wrap (x_4 + 1))) else none)) else none)
  | false=>k1 ())
def Zef {R:Type} (N:Nat) (e_1 e_2:List V) (x_3:Int) (k0:Unit → Option R) (k1:Unit → Option R):Nat → Int → Option R
 | 0,_=>none
 | n + 1,x_4=>Zcl N e_1 e_2 x_3 (fun x_4=>Zef N e_1 e_2 x_3 k0 k1 n x_4) x_4 k0 k1
def Zjv {R:Type} (N:Nat) (e_1:List V) (f_2:Fl) (k:Bool → Option R):Option R :=
 ZsX N e_1 f_2.noOwn.noOwn fun e1=>ZpG N (e_1.length:Int) 1 8 fun b2=>(match (!b2) with
  | true=>k false
  | false=>(match decide ((e1.length:Int) > 60) with
  | true=>k false
  | false=>Zef N e1 e1 (e1.length:Int)
    (fun (_:Unit)=>k false)
    (fun (_:Unit)=>k true)
    N 0))
def Ztx:=@Zbh _ @Zjv
theorem Zoi:@Ztx = @Zjv:=@ZaF _ @Zjv
def ZjO {R:Type} (N:Nat) (e_1:List V) (f_2:Fl) (x_3:Int) (k:Bool → Option R):Option R :=
 Ztx N e_1 f_2.noOwn.noOwn fun b1=>(match b1 with
  | true=>ZpG N x_3 0 (IntKind.i64.wrap ((e_1.length:Int) - 1)) fun b2=>k b2
  | false=>k false)
def ZsF:=@Zbh _ @ZjO
theorem Zon:@ZsF = @ZjO:=@ZaF _ @ZjO
def ZkT {R:Type} (N:Nat) (e_1:List V) (f_2:Fl) (k:Nat → List V → Option R):Option R :=
 ZhX 8 1 e_1 k
def Zs5:=@Zbh _ @ZkT
theorem Zm7:@Zs5 = @ZkT:=@ZaF _ @ZkT
def Zcu {R:Type} (N:Nat) (e_1:List V) (f_2:Fl) (x_3:Int) (nx:Nat → Int → List V → Option R) (k_5:Nat) (x_4:Int) (e_6:List V) (k0:Nat → List V → Option R):Option R :=
 (match decide (x_4 < x_3) with
  | true=>(if 0 ≤ x_4 then ZbA (nth e_1 x_4.toNat) fun e6=>ZaP 1 e6 fun e7 f8=>Zs5 N e7 f8.noOwn.noOwn.noOwn fun k9 e10=>(if 0 = 0 ∧ k_5 = e_6.length ∧ (k_5 + 1) * 24 ≤ 140737488355328 then Zaf (decide (0 + k9 ≤ e10.length)) <|
     Zaf (((e10.drop 0).take k9).all V.scalE) (Zaf (Zaw ((e_6 ++ ([.uni 3 1 ((e10.drop 0).take k9)]:List V)).map (trimV 2)) && true) (nx (k_5 + 1) (IntKind.i64.wrap (x_4 + 1)) ((e_6 ++ ([.uni 3 1 ((e10.drop 0).take k9)]:List V)).map (trimV 2)))) else none) else none)
  | false=>Zaf (Zaw (e_6.map (trimV 2)) && true) (k0 k_5 (e_6.map (trimV 2))))
def Zel {R:Type} (N:Nat) (e_1:List V) (f_2:Fl) (x_3:Int) (k0:Nat → List V → Option R):Nat → Nat → Int → List V → Option R
 | 0,_,_,_=>none
 | n + 1,k_5,x_4,e_6=>Zcu N e_1 f_2 x_3 (fun k_5 x_4 e_6=>Zel N e_1 f_2 x_3 k0 n k_5 x_4 e_6) k_5 x_4 e_6 k0
def ZjR {R:Type} (N:Nat) (e_1:List V) (f_2:Fl) (k:Nat → List V → Option R):Option R :=
 Zel N e_1 f_2.noOwn (e_1.length:Int)
   (fun k11 e12=>Zaf (Zbj e12 && true) (k k11 e12))
   N 0 0 []
def ZsO:=@Zbh _ @ZjR
theorem Znk:@ZsO = @ZjR:=@ZaF _ @ZjR
def ZjQ {R:Type} (N:Nat) (e_1:List V) (f_2:Fl) (x_3:Int) (b_4:Bool) (k:Nat → Int → Bool → List V → Option R):Option R :=
 ZsF N e_1 f_2.noOwn.noOwn x_3 fun b1=>(match (!b1) with
  | true=>k 0 0 false []
  | false=>(if 0 ≤ x_3 then ZbA (nth e_1 x_3.toNat) fun e2=>ZaP 1 e2 fun e3 f4=>(match ((e3.length:Int) == 0) with
   | true=>k 0 0 false []
   | false=>ZsO N e_1 f_2.noOwn.noOwn fun k5 e6=>(match b_4 with
   | true=>(if (0:Int) ≤ x_3 ∧ (x_3:Int) < k5 then (match nth e6 (0 + x_3.toNat) with
    | some e7=>ZbE (e7.cells.drop 0) fun c8 l9=>Zdy 3 1 c8 fun e10=>(match putCells e7 0 [.arr 2 0 0 e10.length] with
     | some e11=>(match nth (Zai e6 (0 + x_3.toNat) e11) (0 + x_3.toNat) with
     | some e12=>ZbE (e12.cells.drop 0) fun c13 l14=>Zaf (Zdg 2 e10.length c13) (Zaf (decide (0 + e10.length ≤ e10.length)) <|
        Zaf (((e10.drop 0).take e10.length).all V.scalE) ((match putCells e12 0 [.uni 3 1 ((e10.drop 0).take e10.length)] with
       | some e15=>(if (0:Int) ≤ x_3 ∧ (x_3:Int) < k5 then (match nth (Zai (Zai e6 (0 + x_3.toNat) e11) (0 + x_3.toNat) e15) (0 + x_3.toNat) with
        | some e16=>ZbE (e16.cells.drop 0) fun c17 l18=>Zdy 3 1 c17 fun e19=>(match putCells e16 0 [.arr 3 0 0 e19.length] with
        | some e20=>(if (0:Int) ≤ IntKind.i64.wrap ((e10.length:Int) - 1) ∧ (IntKind.i64.wrap ((e10.length:Int) - 1):Int) < e19.length then (match nth e19 (0 + (IntKind.i64.wrap ((e10.length:Int) - 1)).toNat) with
         | some e21=>ZbE (e21.cells.drop 0) fun c22 l23=>asInt .i64 c22 fun n24=>(match nth (Zai (Zai (Zai e6 (0 + x_3.toNat) e11) (0 + x_3.toNat) e15) (0 + x_3.toNat) e20) (0 + x_3.toNat) with
          | some e25=>ZbE (e25.cells.drop 0) fun c26 l27=>Zaf (Zdg 3 e19.length c26) (Zaf (decide (0 + e19.length ≤ e19.length)) <|
            Zaf (((e19.drop 0).take e19.length).all V.scalE) ((match putCells e25 0 [.uni 3 1 ((e19.drop 0).take e19.length)] with
           | some e28=>(if (0:Int) ≤ x_3 ∧ (x_3:Int) < k5 then (match nth (Zai (Zai (Zai (Zai e6 (0 + x_3.toNat) e11) (0 + x_3.toNat) e15) (0 + x_3.toNat) e20) (0 + x_3.toNat) e28) (0 + x_3.toNat) with
            | some e29=>ZbE (e29.cells.drop 0) fun c30 l31=>Zdy 3 1 c30 fun e32=>(match putCells e29 0 [.arr 4 0 0 e32.length] with
             | some e33=>(match Nat.beq 1 1 && Nat.beq 0 0 && Nat.beq e32.length e32.length && (ZdG e32).isSome && decide (0 < e32.length) && decide ((0:Int) ≤ (IntKind.i64.wrap ((e10.length:Int) - 1))) && decide ((IntKind.i64.wrap ((e10.length:Int) - 1)) ≤ (IntKind.i64.wrap (IntKind.i64.wrap ((e10.length:Int) - 1) + 1))) && decide ((IntKind.i64.wrap (IntKind.i64.wrap ((e10.length:Int) - 1) + 1)) ≤ (e32.length:Int)) with
             | true=>(if (0:Int) ≤ x_3 ∧ (x_3:Int) < k5 then Zaf (decide (0 + (e32.length - (((IntKind.i64.wrap (IntKind.i64.wrap ((e10.length:Int) - 1) + 1)):Int).toNat - ((IntKind.i64.wrap ((e10.length:Int) - 1)):Int).toNat)) ≤ (e32.take ((IntKind.i64.wrap ((e10.length:Int) - 1)):Int).toNat ++ e32.drop ((IntKind.i64.wrap (IntKind.i64.wrap ((e10.length:Int) - 1) + 1)):Int).toNat).length)) <|
                Zaf ((((e32.take ((IntKind.i64.wrap ((e10.length:Int) - 1)):Int).toNat ++ e32.drop ((IntKind.i64.wrap (IntKind.i64.wrap ((e10.length:Int) - 1) + 1)):Int).toNat).drop 0).take (e32.length - (((IntKind.i64.wrap (IntKind.i64.wrap ((e10.length:Int) - 1) + 1)):Int).toNat - ((IntKind.i64.wrap ((e10.length:Int) - 1)):Int).toNat))).all V.scalE) ((match nth (Zai (Zai (Zai (Zai (Zai e6 (0 + x_3.toNat) e11) (0 + x_3.toNat) e15) (0 + x_3.toNat) e20) (0 + x_3.toNat) e28) (0 + x_3.toNat) e33) (0 + x_3.toNat) with
               | some e34=>(match putCells e34 0 [.uni 3 1 (((e32.take ((IntKind.i64.wrap ((e10.length:Int) - 1)):Int).toNat ++ e32.drop ((IntKind.i64.wrap (IntKind.i64.wrap ((e10.length:Int) - 1) + 1)):Int).toNat).drop 0).take (e32.length - (((IntKind.i64.wrap (IntKind.i64.wrap ((e10.length:Int) - 1) + 1)):Int).toNat - ((IntKind.i64.wrap ((e10.length:Int) - 1)):Int).toNat)))] with
               | some e35=>Zaf (Zbj (Zai (Zai (Zai (Zai (Zai (Zai e6 (0 + x_3.toNat) e11) (0 + x_3.toNat) e15) (0 + x_3.toNat) e20) (0 + x_3.toNat) e28) (0 + x_3.toNat) e33) (0 + x_3.toNat) e35) && true) (k k5 n24 true (Zai (Zai (Zai (Zai (Zai (Zai e6 (0 + x_3.toNat) e11) (0 + x_3.toNat) e15) (0 + x_3.toNat) e20) (0 + x_3.toNat) e28) (0 + x_3.toNat) e33) (0 + x_3.toNat) e35))
               | none=>none)
               | none=>none)) else none)
             | false=>none)
             | none=>none)
            | none=>none) else none)
           | none=>none)))
          | none=>none)
         | none=>none) else none)
        | none=>none)
        | none=>none) else none)
       | none=>none)))
     | none=>none)
     | none=>none)
    | none=>none) else none)
   | false=>(if (0:Int) ≤ x_3 ∧ (x_3:Int) < k5 then (match nth e6 (0 + x_3.toNat) with
    | some e36=>ZbE (e36.cells.drop 0) fun c37 l38=>Zdy 3 1 c37 fun e39=>(match putCells e36 0 [.arr 2 0 0 e39.length] with
     | some e40=>(if (0:Int) ≤ 0 ∧ (0:Int) < e39.length then (match nth e39 0 with
      | some e41=>ZbE (e41.cells.drop 0) fun c42 l43=>asInt .i64 c42 fun n44=>(match nth (Zai e6 (0 + x_3.toNat) e40) (0 + x_3.toNat) with
      | some e45=>ZbE (e45.cells.drop 0) fun c46 l47=>Zaf (Zdg 2 e39.length c46) (Zaf (decide (0 + e39.length ≤ e39.length)) <|
         Zaf (((e39.drop 0).take e39.length).all V.scalE) ((match putCells e45 0 [.uni 3 1 ((e39.drop 0).take e39.length)] with
        | some e48=>(if (0:Int) ≤ x_3 ∧ (x_3:Int) < k5 then (match nth (Zai (Zai e6 (0 + x_3.toNat) e40) (0 + x_3.toNat) e48) (0 + x_3.toNat) with
         | some e49=>ZbE (e49.cells.drop 0) fun c50 l51=>Zdy 3 1 c50 fun e52=>(match putCells e49 0 [.arr 3 0 0 e52.length] with
         | some e53=>(match Nat.beq 1 1 && Nat.beq 0 0 && Nat.beq e52.length e52.length && (ZdG e52).isSome && decide (0 < e52.length) && decide ((0:Int) ≤ 0) && decide (0 ≤ 1) && decide (1 ≤ (e52.length:Int)) with
          | true=>(if (0:Int) ≤ x_3 ∧ (x_3:Int) < k5 then Zaf (decide (0 + (e52.length - ((1:Int).toNat - (0:Int).toNat)) ≤ (e52.take (0:Int).toNat ++ e52.drop (1:Int).toNat).length)) <|
            Zaf ((((e52.take (0:Int).toNat ++ e52.drop (1:Int).toNat).drop 0).take (e52.length - ((1:Int).toNat - (0:Int).toNat))).all V.scalE) ((match nth (Zai (Zai (Zai e6 (0 + x_3.toNat) e40) (0 + x_3.toNat) e48) (0 + x_3.toNat) e53) (0 + x_3.toNat) with
           | some e54=>(match putCells e54 0 [.uni 3 1 (((e52.take (0:Int).toNat ++ e52.drop (1:Int).toNat).drop 0).take (e52.length - ((1:Int).toNat - (0:Int).toNat)))] with
            | some e55=>Zaf (Zbj (Zai (Zai (Zai (Zai e6 (0 + x_3.toNat) e40) (0 + x_3.toNat) e48) (0 + x_3.toNat) e53) (0 + x_3.toNat) e55) && true) (k k5 n44 true (Zai (Zai (Zai (Zai e6 (0 + x_3.toNat) e40) (0 + x_3.toNat) e48) (0 + x_3.toNat) e53) (0 + x_3.toNat) e55))
            | none=>none)
           | none=>none)) else none)
          | false=>none)
         | none=>none)
         | none=>none) else none)
        | none=>none)))
      | none=>none)
      | none=>none) else none)
     | none=>none)
    | none=>none) else none))) else none))
def Zum:=@Zbh _ @ZjQ
theorem Zoo:@Zum = @ZjQ:=@ZaF _ @ZjQ
def Zk1 {R:Type} (N:Nat) (e_1:List V) (f_2:Fl) (x_3:Int) (k:Nat → Int → Bool → List V → Option R):Option R :=
 Zum N e_1 f_2.noOwn.noOwn x_3 true fun k1 x2 b3 e4=>Zaf (Zbj e4 && true) (k k1 x2 b3 e4)
def ZpU:=@Zbh _ @Zk1
theorem ZnH:@ZpU = @Zk1:=@ZaF _ @Zk1
def Zcr {R:Type} (N:Nat) (e_1:List V) (f_2:Fl) (e_3:List V) (f_4:Fl) (nx:Int → Option R) (x_5:Int) (k0:Unit → Option R) (k1:Unit → Option R):Option R :=
 (match decide (x_5 < (e_1.length:Int)) with
  | true=>(if 0 ≤ x_5 then ZbA (nth e_1 x_5.toNat) fun e5=>asInt .i64 e5 fun n6=>(if 0 ≤ x_5 then ZbA (nth e_3 x_5.toNat) fun e7=>asInt .i64 e7 fun n8=>(match (n6 != n8) with
   | true=>k0 ()
   | false=>nx (IntKind.i64.wrap (x_5 + 1))) else none) else none)
  | false=>k1 ())
def Zeo {R:Type} (N:Nat) (e_1:List V) (f_2:Fl) (e_3:List V) (f_4:Fl) (k0:Unit → Option R) (k1:Unit → Option R):Nat → Int → Option R
 | 0,_=>none
 | n + 1,x_5=>Zcr N e_1 f_2 e_3 f_4 (fun x_5=>Zeo N e_1 f_2 e_3 f_4 k0 k1 n x_5) x_5 k0 k1
def ZjD {R:Type} (N:Nat) (e_1:List V) (f_2:Fl) (e_3:List V) (f_4:Fl) (k:Bool → Option R):Option R :=
 (match ((e_1.length:Int) != (e_3.length:Int)) with
  | true=>k false
  | false=>Zeo N e_1 f_2 e_3 f_4
    (fun (_:Unit)=>k false)
    (fun (_:Unit)=>k true)
    N 0)
def Zsa:=@Zbh _ @ZjD
theorem Zn3:@Zsa = @ZjD:=@ZaF _ @ZjD
def Zcv {R:Type} (N:Nat) (e_1:List V) (f_2:Fl) (e_3:List V) (f_4:Fl) (nx:Int → Option R) (x_5:Int) (k0:Unit → Option R) (k1:Unit → Option R):Option R :=
 (match decide (x_5 < (e_1.length:Int)) with
  | true=>(if 0 ≤ x_5 then ZbA (nth e_1 x_5.toNat) fun e8=>ZaP 1 e8 fun e9 f10=>(if 0 ≤ x_5 then ZbA (nth e_3 x_5.toNat) fun e11=>ZaP 1 e11 fun e12 f13=>Zsa N e9 f10.noOwn.noOwn.noOwn.noOwn e12 f13.noOwn.noOwn.noOwn.noOwn fun b14=>(match (!b14) with
   | true=>k0 ()
   | false=>nx (IntKind.i64.wrap (x_5 + 1))) else none) else none)
  | false=>k1 ())
def Zei {R:Type} (N:Nat) (e_1:List V) (f_2:Fl) (e_3:List V) (f_4:Fl) (k0:Unit → Option R) (k1:Unit → Option R):Nat → Int → Option R
 | 0,_=>none
 | n + 1,x_5=>Zcv N e_1 f_2 e_3 f_4 (fun x_5=>Zei N e_1 f_2 e_3 f_4 k0 k1 n x_5) x_5 k0 k1
def ZkS {R:Type} (N:Nat) (e_1:List V) (f_2:Fl) (e_3:List V) (f_4:Fl) (k:Bool → Option R):Option R :=
 (match ((e_1.length:Int) != (e_3.length:Int)) with
  | true=>k false
  | false=>Zei N e_1 f_2 e_3 f_4
    (fun (_:Unit)=>k false)
    (fun (_:Unit)=>k true)
    N 0)
def Zmz:=@Zbh _ @ZkS
theorem Zn6:@Zmz = @ZkS:=@ZaF _ @ZkS
def Zcp {R:Type} (N:Nat) (k_1:Nat) (nx:Int → Int → List V → Option R) (x_2 x_3:Int) (e_4:List V) (k0:Int → List V → Option R):Option R :=
 (match decide (x_3 < (k_1:Int)) with
  | true=>(if (0:Int) ≤ x_3 ∧ (x_3:Int) < k_1 then (match nth e_4 (0 + x_3.toNat) with
   | some e3=>(match putCells e3 0 [.int .i64 x_2] with
   | some e4=>nx (IntKind.i64.wrap (x_2 + 1)) (IntKind.i64.wrap (x_3 + 1)) (Zai e_4 (0 + x_3.toNat) e4)
   | none=>none)
   | none=>none) else none)
  | false=>k0 x_2 e_4)
def Zet {R:Type} (N:Nat) (k_1:Nat) (k0:Int → List V → Option R):Nat → Int → Int → List V → Option R
 | 0,_,_,_=>none
 | n + 1,x_2,x_3,e_4=>Zcp N k_1 (fun x_2 x_3 e_4=>Zet N k_1 k0 n x_2 x_3 e_4) x_2 x_3 e_4 k0
def ZjX {R:Type} (N:Nat) (k_1:Nat) (x_2:Int) (e_3:List V) (k:Int → List V → Option R):Option R :=
 Zet N k_1
   (fun x5 e6=>Zaf (Zaw e6 && true) (k x5 e6))
   N x_2 0 e_3
def Ztu:=@Zbh _ @ZjX
theorem Znl:@Ztu = @ZjX:=@ZaF _ @ZjX
def Zcm {R:Type} (N:Nat) (k_1:Nat) (nx:Int → Int → List V → Option R) (x_2 x_3:Int) (e_4:List V) (k0:Int → List V → Option R):Option R :=
 (match decide (x_3 < (k_1:Int)) with
  | true=>(if (0:Int) ≤ x_3 ∧ (x_3:Int) < k_1 then (match nth e_4 (0 + x_3.toNat) with
   | some e12=>ZbE (e12.cells.drop 0) fun c13 l14=>Zdy 3 1 c13 fun e15=>(match putCells e12 0 [.arr 1 0 0 e15.length] with
   | some e16=>Zaf (Zaw e15 && true) (Ztu N e15.length x_2 e15 fun x17 e18=>(match nth (Zai e_4 (0 + x_3.toNat) e16) (0 + x_3.toNat) with
    | some e19=>ZbE (e19.cells.drop 0) fun c20 l21=>Zaf (Zdg 1 e15.length c20) (Zaf (decide (0 + e15.length ≤ e18.length)) <|
       Zaf (((e18.drop 0).take e15.length).all V.scalE) ((match putCells e19 0 [.uni 3 1 ((e18.drop 0).take e15.length)] with
      | some e22=>nx x17 (IntKind.i64.wrap (x_3 + 1)) ((Zai (Zai e_4 (0 + x_3.toNat) e16) (0 + x_3.toNat) e22).map (trimV 1))
      | none=>none)))
    | none=>none))
   | none=>none)
   | none=>none) else none)
  | false=>k0 x_2 (e_4.map (trimV 1)))
def Zeq {R:Type} (N:Nat) (k_1:Nat) (k0:Int → List V → Option R):Nat → Int → Int → List V → Option R
 | 0,_,_,_=>none
 | n + 1,x_2,x_3,e_4=>Zcm N k_1 (fun x_2 x_3 e_4=>Zeq N k_1 k0 n x_2 x_3 e_4) x_2 x_3 e_4 k0
def ZjB {R:Type} (N:Nat) (k_1:Nat) (x_2:Int) (e_3:List V) (k:Int → List V → Option R):Option R :=
 Zeq N k_1
   (fun x23 e24=>Zaf (Zaw e24 && true) (k x23 e24))
   N x_2 0 e_3
def ZmQ:=@Zbh _ @ZjB
theorem Zm4:@ZmQ = @ZjB:=@ZaF _ @ZjB
def Zct {R:Type} (N:Nat) (e_1:List V) (f_2:Fl) (nx:Int → Int → Option R) (x_3 x_4:Int) (k0:Int → Option R) (k1:Int → Option R):Option R :=
 (match decide (x_4 < (e_1.length:Int)) with
  | true=>(if 0 ≤ x_4 then ZbA (nth e_1 x_4.toNat) fun e3=>asInt .i64 e3 fun n4=>(match (n4 != x_3) with
   | true=>k0 x_3
   | false=>nx (IntKind.i64.wrap (x_3 + 1)) (IntKind.i64.wrap (x_4 + 1))) else none)
  | false=>k1 x_3)
def Zd7 {R:Type} (N:Nat) (e_1:List V) (f_2:Fl) (k0:Int → Option R) (k1:Int → Option R):Nat → Int → Int → Option R
 | 0,_,_=>none
 | n + 1,x_3,x_4=>Zct N e_1 f_2 (fun x_3 x_4=>Zd7 N e_1 f_2 k0 k1 n x_3 x_4) x_3 x_4 k0 k1
def Zku {R:Type} (N:Nat) (e_1:List V) (f_2:Fl) (x_3:Int) (k:Int → Option R):Option R :=
 Zd7 N e_1 f_2
   (fun x5=>k (-1))
   (fun x6=>k x6)
   N x_3 0
def Ztq:=@Zbh _ @Zku
theorem ZnY:@Ztq = @Zku:=@ZaF _ @Zku
def Zcn {R:Type} (N:Nat) (e_1:List V) (f_2:Fl) (nx:Int → Int → Option R) (x_3 x_4:Int) (k0:Int → Option R) (k1:Int → Option R):Option R :=
 (match decide (x_4 < (e_1.length:Int)) with
  | true=>(if 0 ≤ x_4 then ZbA (nth e_1 x_4.toNat) fun e5=>ZaP 1 e5 fun e6 f7=>Ztq N e6 f7.noOwn.noOwn x_3 fun x8=>(match decide (x8 < 0) with
   | true=>k0 x8
   | false=>nx x8 (IntKind.i64.wrap (x_4 + 1))) else none)
  | false=>k1 x_3)
def Zee {R:Type} (N:Nat) (e_1:List V) (f_2:Fl) (k0:Int → Option R) (k1:Int → Option R):Nat → Int → Int → Option R
 | 0,_,_=>none
 | n + 1,x_3,x_4=>Zcn N e_1 f_2 (fun x_3 x_4=>Zee N e_1 f_2 k0 k1 n x_3 x_4) x_3 x_4 k0 k1
def ZjG {R:Type} (N:Nat) (e_1:List V) (f_2:Fl) (x_3:Int) (k:Int → Option R):Option R :=
 Zee N e_1 f_2
   (fun x9=>k (-1))
   (fun x10=>k x10)
   N x_3 0
def Zpc:=@Zbh _ @ZjG
theorem Znp:@Zpc = @ZjG:=@ZaF _ @ZjG
def ZqT {R:Type} (N:Nat) (e_1:List V) (f_2:Fl) (x_3:Int) (k:Bool → Option R):Option R :=
 ZsQ N e_1 f_2.noOwn.noOwn 1048576 fun x1=>(match decide (x1 < 0) with
  | true=>k true
  | false=>ZlW N e_1 f_2.noOwn.noOwn fun k2 e3=>(match ZaK (freeze true [some ⟨(e3.map V.unil),1,32,0⟩] 11) (((e3.map V.unil).drop 0).take k2) with
  | some e4=>Zaf (decide (0 + k2 ≤ (e3.map V.unil).length)) (Zsr N (e4.map V.lent) .bor x_3 fun k5 x6 b7 e8=>ZlW N e_1 f_2.noOwn.noOwn fun k9 e10=>(match ZaK (freeze true [some ⟨(e3.map V.unil),1,32,0⟩,some ⟨(e8.map V.unil),1,32,0⟩,some ⟨(e10.map V.unil),1,32,0⟩] 11) (((e10.map V.unil).drop 0).take k9) with
   | some e11=>Zaf (decide (0 + k9 ≤ (e10.map V.unil).length)) (ZpU N (e11.map V.lent) .bor x_3 fun k12 x13 b14 e15=>(match ZaK (freeze true [some ⟨(e3.map V.unil),1,32,0⟩,some ⟨(e8.map V.unil),1,32,0⟩,some ⟨(e10.map V.unil),1,32,0⟩,some ⟨(e15.map V.unil),1,32,0⟩] 11) (((e15.map V.unil).drop 0).take k12) with
    | some e16=>Zaf (decide (0 + k12 ≤ (e15.map V.unil).length)) ((match ZaK (freeze true [some ⟨(e3.map V.unil),1,32,0⟩,some ⟨(e8.map V.unil),1,32,0⟩,some ⟨(e10.map V.unil),1,32,0⟩,some ⟨(e15.map V.unil),1,32,0⟩] 11) (((e8.map V.unil).drop 0).take k5) with
     | some e17=>Zaf (decide (0 + k5 ≤ (e8.map V.unil).length)) (Zmz N (e16.map V.lent) .bor (e17.map V.lent) .bor fun b18=>(match (!b18) with
      | true=>k false
      | false=>(match (x13 != x6) with
       | true=>k false
       | false=>(match (!(b14 == b7)) with
       | true=>k false
       | false=>ZlW N e_1 f_2.noOwn.noOwn fun k19 e20=>(match ZaK (freeze true [some ⟨(e3.map V.unil),1,32,0⟩,some ⟨(e8.map V.unil),1,32,0⟩,some ⟨(e10.map V.unil),1,32,0⟩,some ⟨(e15.map V.unil),1,32,0⟩,some ⟨(e20.map V.unil),1,32,0⟩] 11) (((e10.map V.unil).drop 0).take k9) with
        | some e21=>Zaf (decide (0 + k9 ≤ (e10.map V.unil).length)) ((match ZaK (freeze true [some ⟨(e3.map V.unil),1,32,0⟩,some ⟨(e8.map V.unil),1,32,0⟩,some ⟨(e10.map V.unil),1,32,0⟩,some ⟨(e15.map V.unil),1,32,0⟩,some ⟨(e20.map V.unil),1,32,0⟩] 11) (((e20.map V.unil).drop 0).take k19) with
         | some e22=>Zaf (decide (0 + k19 ≤ (e20.map V.unil).length)) (Zmz N (e21.map V.lent) .bor (e22.map V.lent) .bor fun b23=>(match (!b23) with
          | true=>k false
          | false=>Zaf (Zaw e10 && true) (ZmQ N k9 1 e10 fun x24 e25=>(match decide (x24 < 0) with
           | true=>k false
           | false=>(match ZaK (freeze true [some ⟨(e3.map V.unil),1,32,0⟩,some ⟨(e8.map V.unil),1,32,0⟩,some ⟨(e25.map V.unil),1,32,0⟩,some ⟨(e15.map V.unil),1,32,0⟩,some ⟨(e20.map V.unil),1,32,0⟩] 11) (((e15.map V.unil).drop 0).take k12) with
           | some e26=>Zaf (decide (0 + k12 ≤ (e15.map V.unil).length)) ((match ZaK (freeze true [some ⟨(e3.map V.unil),1,32,0⟩,some ⟨(e8.map V.unil),1,32,0⟩,some ⟨(e25.map V.unil),1,32,0⟩,some ⟨(e15.map V.unil),1,32,0⟩,some ⟨(e20.map V.unil),1,32,0⟩] 11) (((e8.map V.unil).drop 0).take k5) with
            | some e27=>Zaf (decide (0 + k5 ≤ (e8.map V.unil).length)) (Zmz N (e26.map V.lent) .bor (e27.map V.lent) .bor fun b28=>(match (!b28) with
             | true=>k false
             | false=>(match (x13 != x6) with
              | true=>k false
              | false=>(match (!(b14 == b7)) with
              | true=>k false
              | false=>Zaf (Zaw e15 && true) (ZmQ N k12 1 e15 fun x29 e30=>(match ZaK (freeze true [some ⟨(e3.map V.unil),1,32,0⟩,some ⟨(e8.map V.unil),1,32,0⟩,some ⟨(e25.map V.unil),1,32,0⟩,some ⟨(e30.map V.unil),1,32,0⟩,some ⟨(e20.map V.unil),1,32,0⟩] 11) (((e30.map V.unil).drop 0).take k12) with
               | some e31=>Zaf (decide (0 + k12 ≤ (e30.map V.unil).length)) (Zpc N (e31.map V.lent) .bor 1 fun x32=>(match decide (x32 < 0) with
                | true=>k false
                | false=>(match (x32 != x29) with
                 | true=>k false
                 | false=>ZlW N e_1 f_2.noOwn.noOwn fun k33 e34=>(match ZaK (freeze true [some ⟨(e3.map V.unil),1,32,0⟩,some ⟨(e8.map V.unil),1,32,0⟩,some ⟨(e25.map V.unil),1,32,0⟩,some ⟨(e30.map V.unil),1,32,0⟩,some ⟨(e20.map V.unil),1,32,0⟩,some ⟨(e34.map V.unil),1,32,0⟩] 11) (((e34.map V.unil).drop 0).take k33) with
                 | some e35=>Zaf (decide (0 + k33 ≤ (e34.map V.unil).length)) (ZpU N (e35.map V.lent) .bor x_3 fun k36 x37 b38 e39=>(match ZaK (freeze true [some ⟨(e3.map V.unil),1,32,0⟩,some ⟨(e8.map V.unil),1,32,0⟩,some ⟨(e25.map V.unil),1,32,0⟩,some ⟨(e30.map V.unil),1,32,0⟩,some ⟨(e20.map V.unil),1,32,0⟩,some ⟨(e34.map V.unil),1,32,0⟩,some ⟨(e39.map V.unil),1,32,0⟩] 11) (((e39.map V.unil).drop 0).take k36) with
                  | some e40=>Zaf (decide (0 + k36 ≤ (e39.map V.unil).length)) ((match ZaK (freeze true [some ⟨(e3.map V.unil),1,32,0⟩,some ⟨(e8.map V.unil),1,32,0⟩,some ⟨(e25.map V.unil),1,32,0⟩,some ⟨(e30.map V.unil),1,32,0⟩,some ⟨(e20.map V.unil),1,32,0⟩,some ⟨(e34.map V.unil),1,32,0⟩,some ⟨(e39.map V.unil),1,32,0⟩] 11) (((e8.map V.unil).drop 0).take k5) with
                   | some e41=>Zaf (decide (0 + k5 ≤ (e8.map V.unil).length)) (Zmz N (e40.map V.lent) .bor (e41.map V.lent) .bor fun b42=>(match (!b42) with
                    | true=>k false
                    | false=>(match (x37 != x6) with
                     | true=>k false
                     | false=>(match (!(b38 == b7)) with
                     | true=>k false
                     | false=>(match ZaK (freeze true [some ⟨(e3.map V.unil),1,32,0⟩,some ⟨(e8.map V.unil),1,32,0⟩,some ⟨(e25.map V.unil),1,32,0⟩,some ⟨(e30.map V.unil),1,32,0⟩,some ⟨(e20.map V.unil),1,32,0⟩,some ⟨(e34.map V.unil),1,32,0⟩,some ⟨(e39.map V.unil),1,32,0⟩] 11) (((e30.map V.unil).drop 0).take k12) with
                      | some e43=>Zaf (decide (0 + k12 ≤ (e30.map V.unil).length)) (Zpc N (e43.map V.lent) .bor 1 fun x44=>(match decide (x44 < 0) with
                       | true=>k false
                       | false=>(match (x44 != x29) with
                       | true=>k false
                       | false=>k true)))
                      | none=>none)))))
                   | none=>none))
                  | none=>none))
                 | none=>none))))
               | none=>none))))))
            | none=>none))
           | none=>none)))))
         | none=>none))
        | none=>none)))))
     | none=>none))
    | none=>none))
   | none=>none))
  | none=>none))
def Zg2 {R:Type} (N:Nat) (e_1:List V) (f_2:Fl) (x_3:Int) (k:Bool → Option R):Option R :=
 ZqT N e_1 f_2 x_3 k
def Zvk:=@Zbh _ @Zg2
theorem Zsi:@Zvk = @Zg2:=@ZaF _ @Zg2
end
end Go.VM.VL
