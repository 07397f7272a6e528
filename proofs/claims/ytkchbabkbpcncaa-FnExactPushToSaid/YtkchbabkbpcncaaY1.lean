/- The functions of the program, told plainly: what each computes, as a function of its letters; and that the machine does the same. Printed by vgen.py, a program of this session's own. -/
import Derived.Test.YtkchbabkbpcncaaVmY
import Derived.Test.YtkchbabkbpcncaaVmZs
import Derived.Test.YtkchbabkbpcncaaVmZo
set_option linter.unusedVariables false
namespace Go.VM.VL
noncomputable section
def Zko {R:Type} (N:Nat) (e_1:List V) (f_2:Fl) (x_3:Int) (k:Int → Option R):Option R :=
 (match decide (IntKind.i64.wrap (x_3 - (e_1.length:Int)) < 0) with
  | true=>k (-1)
  | false=>k (IntKind.i64.wrap (x_3 - (e_1.length:Int))))
def Ztq:=@Zbf _ @Zko
theorem Zn7:@Ztq = @Zko:=@ZaE _ @Zko
def Zci {R:Type} (N:Nat) (e_1:List V) (f_2:Fl) (nx:Int → Int → Option R) (x_3 x_4:Int) (k0:Int → Option R) (k1:Int → Option R):Option R :=
 (match decide (x_4 < (e_1.length:Int)) with
  | true=>(if 0 ≤ x_4 then ZbC (nth e_1 x_4.toNat) fun e5=>ZaV 1 e5 fun e6 f7=>Ztq N e6 f7.noOwn.noOwn x_3 fun x8=>(match decide (x8 < 0) with
   | true=>k0 x8
   | false=>nx x8 (IntKind.i64.wrap (x_4 + 1))) else none)
  | false=>k1 x_3)
def ZdG {R:Type} (N:Nat) (e_1:List V) (f_2:Fl) (k0:Int → Option R) (k1:Int → Option R):Nat → Int → Int → Option R
 | 0,_,_=>none
 | n + 1,x_3,x_4=>Zci N e_1 f_2 (fun x_3 x_4=>ZdG N e_1 f_2 k0 k1 n x_3 x_4) x_3 x_4 k0 k1
def ZkO {R:Type} (N:Nat) (e_1:List V) (f_2:Fl) (x_3:Int) (k:Int → Option R):Option R :=
 (match decide (IntKind.i64.wrap (x_3 - (e_1.length:Int)) < 0) with
  | true=>k (-1)
  | false=>ZdG N e_1 f_2
    (fun x9=>k (-1))
    (fun x10=>k x10)
    N (IntKind.i64.wrap (x_3 - (e_1.length:Int))) 0)
def Ztg:=@Zbf _ @ZkO
theorem Zog:@Ztg = @ZkO:=@ZaE _ @ZkO
def Zcn {R:Type} (N:Nat) (e_1:List V) (f_2:Fl) (k_3:Nat) (nx:Int → List V → Option R) (x_4:Int) (e_5:List V) (k0:List V → Option R):Option R :=
 (match decide (x_4 < (e_1.length:Int)) with
  | true=>(if 0 ≤ x_4 then ZbC (nth e_1 x_4.toNat) fun e5=>asInt .i64 e5 fun n6=>(if (0:Int) ≤ x_4 ∧ x_4 < k_3 then (match nth e_5 (0 + x_4.toNat) with
   | some e7=>(match ZaG e7 0 [.int .i64 n6] with
    | some e8=>nx (IntKind.i64.wrap (x_4 + 1)) (Zao e_5 (0 + x_4.toNat) e8)
    | none=>none)
   | none=>none) else none) else none)
  | false=>k0 e_5)
def ZdN {R:Type} (N:Nat) (e_1:List V) (f_2:Fl) (k_3:Nat) (k0:List V → Option R):Nat → Int → List V → Option R
 | 0,_,_=>none
 | n + 1,x_4,e_5=>Zcn N e_1 f_2 k_3 (fun x_4 e_5=>ZdN N e_1 f_2 k_3 k0 n x_4 e_5) x_4 e_5 k0
def ZlJ {R:Type} (N:Nat) (e_1:List V) (f_2:Fl) (k:Nat → List V → Option R):Option R :=
 (if 0 ≤ (e_1.length:Int) ∧ (e_1.length:Int) = (e_1.length:Int) ∧ (e_1.length:Int) * 8 ≤ 140737488355328 then ZdN N e_1 f_2 (((e_1.length:Int)).toNat)
    (fun e9=>Zag (Zbu e9 && true) (k (((e_1.length:Int)).toNat) e9))
    N 0 (List.replicate (((e_1.length:Int)).toNat) (.int .i64 0)) else none)
def Zti:=@Zbf _ @ZlJ
theorem Zoh:@Zti = @ZlJ:=@ZaE _ @ZlJ
def Zcv {R:Type} (N:Nat) (e_1:List V) (f_2:Fl) (k_3:Nat) (nx:Int → List V → Option R) (x_4:Int) (e_5:List V) (k0:List V → Option R):Option R :=
 (match decide (x_4 < (e_1.length:Int)) with
  | true=>(if 0 ≤ x_4 then ZbC (nth e_1 x_4.toNat) fun e8=>ZaV 1 e8 fun e9 f10=>Zti N e9 f10.noOwn.noOwn fun k11 e12=>(if (0:Int) ≤ x_4 ∧ x_4 < k_3 then Zag (decide (0 + k11 ≤ e12.length)) <|
     Zag (((e12.drop 0).take k11).all V.scalE) ((match nth e_5 (0 + x_4.toNat) with
    | some e13=>(match ZaG e13 0 [.uni 3 1 ((e12.drop 0).take k11)] with
    | some e14=>nx (IntKind.i64.wrap (x_4 + 1)) ((Zao e_5 (0 + x_4.toNat) e14).map (trimV 1))
    | none=>none)
    | none=>none)) else none) else none)
  | false=>k0 (e_5.map (trimV 1)))
def Zdx {R:Type} (N:Nat) (e_1:List V) (f_2:Fl) (k_3:Nat) (k0:List V → Option R):Nat → Int → List V → Option R
 | 0,_,_=>none
 | n + 1,x_4,e_5=>Zcv N e_1 f_2 k_3 (fun x_4 e_5=>Zdx N e_1 f_2 k_3 k0 n x_4 e_5) x_4 e_5 k0
def Zlu {R:Type} (N:Nat) (e_1:List V) (f_2:Fl) (k:Nat → List V → Option R):Option R :=
 (if 0 ≤ (e_1.length:Int) ∧ (e_1.length:Int) = (e_1.length:Int) ∧ (e_1.length:Int) * 24 ≤ 140737488355328 then Zdx N e_1 f_2 (((e_1.length:Int)).toNat)
    (fun e15=>Zag (Zbu e15 && true) (k (((e_1.length:Int)).toNat) e15))
    N 0 (List.replicate (((e_1.length:Int)).toNat) (.uni 3 1 [])) else none)
def ZlN:=@Zbf _ @Zlu
theorem ZnU:@ZlN = @Zlu:=@ZaE _ @Zlu
def Zcm {R:Type} (N:Nat) (e_1:List V) (f_2:Fl) (e_3:List V) (f_4:Fl) (nx:Int → Option R) (x_5:Int) (k0:Unit → Option R) (k1:Unit → Option R):Option R :=
 (match decide (x_5 < (e_1.length:Int)) with
  | true=>(if 0 ≤ x_5 then ZbC (nth e_1 x_5.toNat) fun e5=>asInt .i64 e5 fun n6=>(if 0 ≤ x_5 then ZbC (nth e_3 x_5.toNat) fun e7=>asInt .i64 e7 fun n8=>(match (n6 != n8) with
   | true=>k0 ()
   | false=>nx (IntKind.i64.wrap (x_5 + 1))) else none) else none)
  | false=>k1 ())
def Zet {R:Type} (N:Nat) (e_1:List V) (f_2:Fl) (e_3:List V) (f_4:Fl) (k0:Unit → Option R) (k1:Unit → Option R):Nat → Int → Option R
 | 0,_=>none
 | n + 1,x_5=>Zcm N e_1 f_2 e_3 f_4 (fun x_5=>Zet N e_1 f_2 e_3 f_4 k0 k1 n x_5) x_5 k0 k1
def ZkG {R:Type} (N:Nat) (e_1:List V) (f_2:Fl) (e_3:List V) (f_4:Fl) (k:Bool → Option R):Option R :=
 (match ((e_1.length:Int) != (e_3.length:Int)) with
  | true=>k false
  | false=>Zet N e_1 f_2 e_3 f_4
    (fun (_:Unit)=>k false)
    (fun (_:Unit)=>k true)
    N 0)
def Ztn:=@Zbf _ @ZkG
theorem Zod:@Ztn = @ZkG:=@ZaE _ @ZkG
def Zcz {R:Type} (N:Nat) (e_1:List V) (f_2:Fl) (e_3:List V) (f_4:Fl) (nx:Int → Option R) (x_5:Int) (k0:Unit → Option R) (k1:Unit → Option R):Option R :=
 (match decide (x_5 < (e_1.length:Int)) with
  | true=>(if 0 ≤ x_5 then ZbC (nth e_1 x_5.toNat) fun e8=>ZaV 1 e8 fun e9 f10=>(if 0 ≤ x_5 then ZbC (nth e_3 x_5.toNat) fun e11=>ZaV 1 e11 fun e12 f13=>Ztn N e9 f10.noOwn.noOwn.noOwn.noOwn e12 f13.noOwn.noOwn.noOwn.noOwn fun b14=>(match (!b14) with
   | true=>k0 ()
   | false=>nx (IntKind.i64.wrap (x_5 + 1))) else none) else none)
  | false=>k1 ())
def ZeA {R:Type} (N:Nat) (e_1:List V) (f_2:Fl) (e_3:List V) (f_4:Fl) (k0:Unit → Option R) (k1:Unit → Option R):Nat → Int → Option R
 | 0,_=>none
 | n + 1,x_5=>Zcz N e_1 f_2 e_3 f_4 (fun x_5=>ZeA N e_1 f_2 e_3 f_4 k0 k1 n x_5) x_5 k0 k1
def ZlB {R:Type} (N:Nat) (e_1:List V) (f_2:Fl) (e_3:List V) (f_4:Fl) (k:Bool → Option R):Option R :=
 (match ((e_1.length:Int) != (e_3.length:Int)) with
  | true=>k false
  | false=>ZeA N e_1 f_2 e_3 f_4
    (fun (_:Unit)=>k false)
    (fun (_:Unit)=>k true)
    N 0)
def ZlP:=@Zbf _ @ZlB
theorem Zo1:@ZlP = @ZlB:=@ZaE _ @ZlB
def Zcl {R:Type} (N:Nat) (k_1:Nat) (nx:Int → Int → List V → Option R) (x_2 x_3:Int) (e_4:List V) (k0:Int → List V → Option R):Option R :=
 (match decide (x_3 < (k_1:Int)) with
  | true=>(if (0:Int) ≤ x_3 ∧ x_3 < k_1 then (match nth e_4 (0 + x_3.toNat) with
   | some e3=>(match ZaG e3 0 [.int .i64 x_2] with
   | some e4=>nx (IntKind.i64.wrap (x_2 + 1)) (IntKind.i64.wrap (x_3 + 1)) (Zao e_4 (0 + x_3.toNat) e4)
   | none=>none)
   | none=>none) else none)
  | false=>k0 x_2 e_4)
def Zer {R:Type} (N:Nat) (k_1:Nat) (k0:Int → List V → Option R):Nat → Int → Int → List V → Option R
 | 0,_,_,_=>none
 | n + 1,x_2,x_3,e_4=>Zcl N k_1 (fun x_2 x_3 e_4=>Zer N k_1 k0 n x_2 x_3 e_4) x_2 x_3 e_4 k0
def Zku {R:Type} (N:Nat) (k_1:Nat) (x_2:Int) (e_3:List V) (k:Int → List V → Option R):Option R :=
 Zer N k_1
   (fun x5 e6=>Zag (Zax e6 && true) (k x5 e6))
   N x_2 0 e_3
def Zs1:=@Zbf _ @Zku
theorem ZoH:@Zs1 = @Zku:=@ZaE _ @Zku
def Zcj {R:Type} (N:Nat) (k_1:Nat) (nx:Int → Int → List V → Option R) (x_2 x_3:Int) (e_4:List V) (k0:Int → List V → Option R):Option R :=
 (match decide (x_3 < (k_1:Int)) with
  | true=>(if (0:Int) ≤ x_3 ∧ x_3 < k_1 then (match nth e_4 (0 + x_3.toNat) with
   | some e12=>Zde (e12.cells.drop 0) fun c13 l14=>Zg0 3 1 c13 fun e15=>(match ZaG e12 0 [.arr 1 0 0 e15.length] with
   | some e16=>Zag (Zax e15 && true) (Zs1 N e15.length x_2 e15 fun x17 e18=>(match nth (Zao e_4 (0 + x_3.toNat) e16) (0 + x_3.toNat) with
    | some e19=>Zde (e19.cells.drop 0) fun c20 l21=>Zag (ZfI 1 e15.length c20) (Zag (decide (0 + e15.length ≤ e18.length)) <|
       Zag (((e18.drop 0).take e15.length).all V.scalE) ((match ZaG e19 0 [.uni 3 1 ((e18.drop 0).take e15.length)] with
      | some e22=>nx x17 (IntKind.i64.wrap (x_3 + 1)) ((Zao (Zao e_4 (0 + x_3.toNat) e16) (0 + x_3.toNat) e22).map (trimV 1))
      | none=>none)))
    | none=>none))
   | none=>none)
   | none=>none) else none)
  | false=>k0 x_2 (e_4.map (trimV 1)))
def Zeq {R:Type} (N:Nat) (k_1:Nat) (k0:Int → List V → Option R):Nat → Int → Int → List V → Option R
 | 0,_,_,_=>none
 | n + 1,x_2,x_3,e_4=>Zcj N k_1 (fun x_2 x_3 e_4=>Zeq N k_1 k0 n x_2 x_3 e_4) x_2 x_3 e_4 k0
def Zlx {R:Type} (N:Nat) (k_1:Nat) (x_2:Int) (e_3:List V) (k:Int → List V → Option R):Option R :=
 Zeq N k_1
   (fun x23 e24=>Zag (Zax e24 && true) (k x23 e24))
   N x_2 0 e_3
def Znw:=@Zbf _ @Zlx
theorem Zov:@Znw = @Zlx:=@ZaE _ @Zlx
def Zcq {R:Type} (N:Nat) (e_1:List V) (f_2:Fl) (nx:Int → Int → Option R) (x_3 x_4:Int) (k0:Int → Option R) (k1:Int → Option R):Option R :=
 (match decide (x_4 < (e_1.length:Int)) with
  | true=>(if 0 ≤ x_4 then ZbC (nth e_1 x_4.toNat) fun e3=>asInt .i64 e3 fun n4=>(match (n4 != x_3) with
   | true=>k0 x_3
   | false=>nx (IntKind.i64.wrap (x_3 + 1)) (IntKind.i64.wrap (x_4 + 1))) else none)
  | false=>k1 x_3)
def Zev {R:Type} (N:Nat) (e_1:List V) (f_2:Fl) (k0:Int → Option R) (k1:Int → Option R):Nat → Int → Int → Option R
 | 0,_,_=>none
 | n + 1,x_3,x_4=>Zcq N e_1 f_2 (fun x_3 x_4=>Zev N e_1 f_2 k0 k1 n x_3 x_4) x_3 x_4 k0 k1
def Zlc {R:Type} (N:Nat) (e_1:List V) (f_2:Fl) (x_3:Int) (k:Int → Option R):Option R :=
 Zev N e_1 f_2
   (fun x5=>k (-1))
   (fun x6=>k x6)
   N x_3 0
def Zup:=@Zbf _ @Zlc
theorem Zoa:@Zup = @Zlc:=@ZaE _ @Zlc
def Zco {R:Type} (N:Nat) (e_1:List V) (f_2:Fl) (nx:Int → Int → Option R) (x_3 x_4:Int) (k0:Int → Option R) (k1:Int → Option R):Option R :=
 (match decide (x_4 < (e_1.length:Int)) with
  | true=>(if 0 ≤ x_4 then ZbC (nth e_1 x_4.toNat) fun e5=>ZaV 1 e5 fun e6 f7=>Zup N e6 f7.noOwn.noOwn x_3 fun x8=>(match decide (x8 < 0) with
   | true=>k0 x8
   | false=>nx x8 (IntKind.i64.wrap (x_4 + 1))) else none)
  | false=>k1 x_3)
def Zek {R:Type} (N:Nat) (e_1:List V) (f_2:Fl) (k0:Int → Option R) (k1:Int → Option R):Nat → Int → Int → Option R
 | 0,_,_=>none
 | n + 1,x_3,x_4=>Zco N e_1 f_2 (fun x_3 x_4=>Zek N e_1 f_2 k0 k1 n x_3 x_4) x_3 x_4 k0 k1
def Zj1 {R:Type} (N:Nat) (e_1:List V) (f_2:Fl) (x_3:Int) (k:Int → Option R):Option R :=
 Zek N e_1 f_2
   (fun x9=>k (-1))
   (fun x10=>k x10)
   N x_3 0
def ZpH:=@Zbf _ @Zj1
theorem Zo9:@ZpH = @Zj1:=@ZaE _ @Zj1
def Zk1 {R:Type} (N:Nat) (x_1 x_2 x_3:Int) (k:Bool → Option R):Option R :=
 (match decide (x_1 ≥ x_2) with
  | true=>k (decide (x_1 ≤ x_3))
  | false=>k false)
def Zl0:=@Zbf _ @Zk1
theorem ZnX:@Zl0 = @Zk1:=@ZaE _ @Zk1
def ZbT {R:Type} (N:Nat) (e_1:List V) (f_2:Fl) (x_3:Int) (nx:Int → Option R) (x_4:Int) (k0:Int → Option R):Option R :=
 (match decide (x_4 < (e_1.length:Int)) with
  | true=>(if 0 ≤ x_4 then ZbC (nth e_1 x_4.toNat) fun e3=>asInt .i64 e3 fun n4=>(match decide (n4 < x_3) with
   | true=>nx (IntKind.i64.wrap (x_4 + 1))
   | false=>k0 x_4) else none)
  | false=>k0 x_4)
def ZdH {R:Type} (N:Nat) (e_1:List V) (f_2:Fl) (x_3:Int) (k0:Int → Option R):Nat → Int → Option R
 | 0,_=>none
 | n + 1,x_4=>ZbT N e_1 f_2 x_3 (fun x_4=>ZdH N e_1 f_2 x_3 k0 n x_4) x_4 k0
def Zlv {R:Type} (N:Nat) (e_1:List V) (f_2:Fl) (x_3:Int) (k:List V → Option R):Option R :=
 ZdH N e_1 f_2 x_3
   (fun x5=>(match decide (x5 < (e_1.length:Int)) with
  | true=>(if 0 ≤ x5 then ZbC (nth e_1 x5.toNat) fun e6=>asInt .i64 e6 fun n7=>(match (n7 == x_3) with
   | true=>Zme f_2 (k e_1)
   | false=>(if (0:Int) ≤ x5 ∧ x5 ≤ (e_1.length:Int) then Zag (Ziq f_2.noOwn.noOwn ((e_1.take ((x5:Int).toNat)).drop 0)) ((if (0 + (((e_1.take ((x5:Int).toNat)).drop 0)).length) * 8 ≤ 140737488355328 then (if ((([]:List V) ++ (((e_1.take ((x5:Int).toNat)).drop 0)).map V.noOwn).length + 1) * 8 ≤ 140737488355328 then (if (0:Int) ≤ x5 ∧ x5 ≤ (e_1.length:Int) then Zag (Ziq f_2.noOwn.noOwn ((e_1.take e_1.length).drop ((x5:Int).toNat))) ((if (((([]:List V) ++ (((e_1.take ((x5:Int).toNat)).drop 0)).map V.noOwn) ++ ([.int .i64 x_3]:List V)).length + (((e_1.take e_1.length).drop ((x5:Int).toNat))).length) * 8 ≤ 140737488355328 then k (((([]:List V) ++ (((e_1.take ((x5:Int).toNat)).drop 0)).map V.noOwn) ++ ([.int .i64 x_3]:List V)) ++ (((e_1.take e_1.length).drop ((x5:Int).toNat))).map V.noOwn) else none)) else none) else none) else none)) else none)) else none)
  | false=>(if (0:Int) ≤ x5 ∧ x5 ≤ (e_1.length:Int) then Zag (Ziq f_2.noOwn.noOwn ((e_1.take ((x5:Int).toNat)).drop 0)) ((if (0 + (((e_1.take ((x5:Int).toNat)).drop 0)).length) * 8 ≤ 140737488355328 then (if ((([]:List V) ++ (((e_1.take ((x5:Int).toNat)).drop 0)).map V.noOwn).length + 1) * 8 ≤ 140737488355328 then (if (0:Int) ≤ x5 ∧ x5 ≤ (e_1.length:Int) then Zag (Ziq f_2.noOwn.noOwn ((e_1.take e_1.length).drop ((x5:Int).toNat))) ((if (((([]:List V) ++ (((e_1.take ((x5:Int).toNat)).drop 0)).map V.noOwn) ++ ([.int .i64 x_3]:List V)).length + (((e_1.take e_1.length).drop ((x5:Int).toNat))).length) * 8 ≤ 140737488355328 then k (((([]:List V) ++ (((e_1.take ((x5:Int).toNat)).drop 0)).map V.noOwn) ++ ([.int .i64 x_3]:List V)) ++ (((e_1.take e_1.length).drop ((x5:Int).toNat))).map V.noOwn) else none)) else none) else none) else none)) else none)))
   N 0
def ZsD:=@Zbf _ @Zlv
theorem ZoM:@ZsD = @Zlv:=@ZaE _ @Zlv
def Zcs {R:Type} (N:Nat) (x_1 x_2:Int) (e_3:List V) (f_4:Fl) (x_5:Int) (nx:Int → Option R) (x_6:Int) (k0:Unit → Option R) (k1:Unit → Option R):Option R :=
 (match decide (x_6 < x_5) with
  | true=>(if 0 ≤ x_6 then ZbC (nth e_3 x_6.toNat) fun e4=>asInt .i64 e4 fun n5=>Zl0 N n5 x_1 x_2 fun b6=>(match (!b6) with
   | true=>k0 ()
   | false=>nx (IntKind.i64.wrap (x_6 + 1))) else none)
  | false=>k1 ())
def Zex {R:Type} (N:Nat) (x_1 x_2:Int) (e_3:List V) (f_4:Fl) (x_5:Int) (k0:Unit → Option R) (k1:Unit → Option R):Nat → Int → Option R
 | 0,_=>none
 | n + 1,x_6=>Zcs N x_1 x_2 e_3 f_4 x_5 (fun x_6=>Zex N x_1 x_2 e_3 f_4 x_5 k0 k1 n x_6) x_6 k0 k1
def Zli {R:Type} (N:Nat) (e_1:List V) (f_2:Fl) (x_3 x_4:Int) (k:Bool → Option R):Option R :=
 Zex N x_3 x_4 e_1 f_2.noOwn (e_1.length:Int)
   (fun (_:Unit)=>k false)
   (fun (_:Unit)=>k true)
   N 0
def ZtS:=@Zbf _ @Zli
theorem ZnV:@ZtS = @Zli:=@ZaE _ @Zli
def Zck {R:Type} (N:Nat) (e_1:List V) (f_2:Fl) (e_5:List V) (f_6:Fl) (x_7 x_8:Int) (e_9:List V) (f_10:Fl) (x_11:Int) (nx:List V → Fl → Int → Int → Option R) (e_3:List V) (f_13:Fl) (x_4 x_12:Int) (k0:List V → Fl → Int → Option R):Option R :=
 (match decide (x_12 < x_11) with
  | true=>(if 0 ≤ x_12 then ZbC (nth e_9 x_12.toNat) fun e8=>asInt .i64 e8 fun n9=>ZsD N e_3 f_13.noOwn.noOwn n9 fun e10=>nx e10 .sh (IntKind.i64.wrap (x_4 + 1)) (IntKind.i64.wrap (x_12 + 1)) else none)
  | false=>k0 e_3 f_13 x_4)
def Zd8 {R:Type} (N:Nat) (e_1:List V) (f_2:Fl) (e_5:List V) (f_6:Fl) (x_7 x_8:Int) (e_9:List V) (f_10:Fl) (x_11:Int) (k0:List V → Fl → Int → Option R):Nat → List V → Fl → Int → Int → Option R
 | 0,_,_,_,_=>none
 | n + 1,e_3,f_13,x_4,x_12=>Zck N e_1 f_2 e_5 f_6 x_7 x_8 e_9 f_10 x_11 (fun e_3 f_13 x_4 x_12=>Zd8 N e_1 f_2 e_5 f_6 x_7 x_8 e_9 f_10 x_11 k0 n e_3 f_13 x_4 x_12) e_3 f_13 x_4 x_12 k0
def Zcg {R:Type} (N:Nat) (e_1:List V) (f_2:Fl) (e_5:List V) (f_6:Fl) (x_7:Int) (nx:List V → Fl → Int → Int → Option R) (e_3:List V) (f_9:Fl) (x_4 x_8:Int) (k0:List V → Fl → Int → Option R) (k1:List V → Fl → Int → Option R):Option R :=
 (match decide (x_8 < x_7) with
  | true=>(if 0 ≤ x_8 then ZbC (nth e_5 x_8.toNat) fun e14=>ZaV 1 e14 fun e15 f16=>ZtS N e15 f16.noOwn.noOwn.noOwn 0 999 fun b17=>(match (!b17) with
   | true=>k0 e_3 f_9 x_4
   | false=>Zd8 N e_1 f_2 e_5 f_6 x_7 x_8 e15 f16.noOwn.noOwn (e15.length:Int)
     (fun e18 f19 x20=>nx e18 f19 x20 (IntKind.i64.wrap (x_8 + 1)))
     N e_3 f_9 x_4 0) else none)
  | false=>k1 e_3 f_9 x_4)
def Zc1 {R:Type} (N:Nat) (e_1:List V) (f_2:Fl) (e_5:List V) (f_6:Fl) (x_7:Int) (k0:List V → Fl → Int → Option R) (k1:List V → Fl → Int → Option R):Nat → List V → Fl → Int → Int → Option R
 | 0,_,_,_,_=>none
 | n + 1,e_3,f_9,x_4,x_8=>Zcg N e_1 f_2 e_5 f_6 x_7 (fun e_3 f_9 x_4 x_8=>Zc1 N e_1 f_2 e_5 f_6 x_7 k0 k1 n e_3 f_9 x_4 x_8) e_3 f_9 x_4 x_8 k0 k1
def Zj7 {R:Type} (N:Nat) (e_1:List V) (f_2:Fl) (k:Bool → Option R):Option R :=
 Zc1 N e_1 f_2 e_1 f_2.noOwn (e_1.length:Int)
   (fun e21 f22 x23=>k false)
   (fun e24 f25 x26=>Zl0 N (e_1.length:Int) 1 8 fun b27=>(match b27 with
  | true=>(match decide (x26 ≤ 60) with
   | true=>k ((e24.length:Int) == x26)
   | false=>k false)
  | false=>k false))
   N [] (.own 3) 0 0
def Zuk:=@Zbf _ @Zj7
theorem ZoS:@Zuk = @Zj7:=@ZaE _ @Zj7
def Zlk {R:Type} (N:Nat) (e_1:List V) (f_2:Fl) (x_3:Int) (k:Bool → Option R):Option R :=
 Zuk N e_1 f_2.noOwn.noOwn fun b1=>(match b1 with
  | true=>Zl0 N x_3 0 (IntKind.i64.wrap ((e_1.length:Int) - 1)) fun b2=>k b2
  | false=>k false)
def Zs6:=@Zbf _ @Zlk
theorem Zol:@Zs6 = @Zlk:=@ZaE _ @Zlk
def Zj2 {R:Type} (N:Nat) (e_1:List V) (f_2:Fl) (k:Nat → List V → Option R):Option R :=
 ZhR 8 1 e_1 k
def Zs2:=@Zbf _ @Zj2
theorem Zn3:@Zs2 = @Zj2:=@ZaE _ @Zj2
def Zcx {R:Type} (N:Nat) (e_1:List V) (f_2:Fl) (x_3:Int) (nx:Nat → Int → List V → Option R) (k_5:Nat) (x_4:Int) (e_6:List V) (k0:Nat → List V → Option R):Option R :=
 (match decide (x_4 < x_3) with
  | true=>(if 0 ≤ x_4 then ZbC (nth e_1 x_4.toNat) fun e6=>ZaV 1 e6 fun e7 f8=>Zs2 N e7 f8.noOwn.noOwn.noOwn fun k9 e10=>(if 0 = 0 ∧ k_5 = e_6.length ∧ (k_5 + 1) * 24 ≤ 140737488355328 then Zag (decide (0 + k9 ≤ e10.length)) <|
     Zag (((e10.drop 0).take k9).all V.scalE) (Zag (Zax ((e_6 ++ ([.uni 3 1 ((e10.drop 0).take k9)]:List V)).map (trimV 2)) && true) (nx (k_5 + 1) (IntKind.i64.wrap (x_4 + 1)) ((e_6 ++ ([.uni 3 1 ((e10.drop 0).take k9)]:List V)).map (trimV 2)))) else none) else none)
  | false=>Zag (Zax (e_6.map (trimV 2)) && true) (k0 k_5 (e_6.map (trimV 2))))
def Zez {R:Type} (N:Nat) (e_1:List V) (f_2:Fl) (x_3:Int) (k0:Nat → List V → Option R):Nat → Nat → Int → List V → Option R
 | 0,_,_,_=>none
 | n + 1,k_5,x_4,e_6=>Zcx N e_1 f_2 x_3 (fun k_5 x_4 e_6=>Zez N e_1 f_2 x_3 k0 n k_5 x_4 e_6) k_5 x_4 e_6 k0
def Zkv {R:Type} (N:Nat) (e_1:List V) (f_2:Fl) (k:Nat → List V → Option R):Option R :=
 Zez N e_1 f_2.noOwn (e_1.length:Int)
   (fun k11 e12=>Zag (Zbu e12 && true) (k k11 e12))
   N 0 0 []
def Zuh:=@Zbf _ @Zkv
theorem ZoO:@Zuh = @Zkv:=@ZaE _ @Zkv
def Zcw {R:Type} (N:Nat) (x_1:Int) (e_2:List V) (f_3:Fl) (x_4:Int) (nx:Int → Option R) (x_5:Int) (k0:Unit → Option R) (k1:Unit → Option R):Option R :=
 (match decide (x_5 < x_4) with
  | true=>(if 0 ≤ x_5 then ZbC (nth e_2 x_5.toNat) fun e3=>asInt .i64 e3 fun n4=>(match (n4 == x_1) with
   | true=>k0 ()
   | false=>nx (IntKind.i64.wrap (x_5 + 1))) else none)
  | false=>k1 ())
def Zeo {R:Type} (N:Nat) (x_1:Int) (e_2:List V) (f_3:Fl) (x_4:Int) (k0:Unit → Option R) (k1:Unit → Option R):Nat → Int → Option R
 | 0,_=>none
 | n + 1,x_5=>Zcw N x_1 e_2 f_3 x_4 (fun x_5=>Zeo N x_1 e_2 f_3 x_4 k0 k1 n x_5) x_5 k0 k1
def Zj8 {R:Type} (N:Nat) (e_1:List V) (f_2:Fl) (x_3:Int) (k:Bool → Option R):Option R :=
 Zeo N x_3 e_1 f_2.noOwn (e_1.length:Int)
   (fun (_:Unit)=>k true)
   (fun (_:Unit)=>k false)
   N 0
def Zs3:=@Zbf _ @Zj8
theorem Zoy:@Zs3 = @Zj8:=@ZaE _ @Zj8
def Zcy {R:Type} (N:Nat) (e_2:List V) (f_3:Fl) (x_4 x_5:Int) (e_6:List V) (f_7:Fl) (x_8:Int) (nx:List V → Fl → Int → Option R) (e_1:List V) (f_10:Fl) (x_9:Int) (k0:List V → Fl → Option R):Option R :=
 (match decide (x_9 < x_8) with
  | true=>(if 0 ≤ x_9 then ZbC (nth e_6 x_9.toNat) fun e7=>asInt .i64 e7 fun n8=>ZsD N e_1 f_10.noOwn.noOwn n8 fun e9=>nx e9 .sh (IntKind.i64.wrap (x_9 + 1)) else none)
  | false=>k0 e_1 f_10)
def Zee {R:Type} (N:Nat) (e_2:List V) (f_3:Fl) (x_4 x_5:Int) (e_6:List V) (f_7:Fl) (x_8:Int) (k0:List V → Fl → Option R):Nat → List V → Fl → Int → Option R
 | 0,_,_,_=>none
 | n + 1,e_1,f_10,x_9=>Zcy N e_2 f_3 x_4 x_5 e_6 f_7 x_8 (fun e_1 f_10 x_9=>Zee N e_2 f_3 x_4 x_5 e_6 f_7 x_8 k0 n e_1 f_10 x_9) e_1 f_10 x_9 k0
def Zcp {R:Type} (N:Nat) (e_2:List V) (f_3:Fl) (x_4:Int) (nx:List V → Fl → Int → Option R) (e_1:List V) (f_6:Fl) (x_5:Int) (k0:List V → Fl → Option R):Option R :=
 (match decide (x_5 < x_4) with
  | true=>(if 0 ≤ x_5 then ZbC (nth e_2 x_5.toNat) fun e12=>ZaV 1 e12 fun e13 f14=>Zee N e_2 f_3 x_4 x_5 e13 f14.noOwn.noOwn (e13.length:Int)
    (fun e15 f16=>nx e15 f16 (IntKind.i64.wrap (x_5 + 1)))
    N e_1 f_6 0 else none)
  | false=>k0 e_1 f_6)
def Zes {R:Type} (N:Nat) (e_2:List V) (f_3:Fl) (x_4:Int) (k0:List V → Fl → Option R):Nat → List V → Fl → Int → Option R
 | 0,_,_,_=>none
 | n + 1,e_1,f_6,x_5=>Zcp N e_2 f_3 x_4 (fun e_1 f_6 x_5=>Zes N e_2 f_3 x_4 k0 n e_1 f_6 x_5) e_1 f_6 x_5 k0
def ZkV {R:Type} (N:Nat) (e_1:List V) (f_2:Fl) (k:List V → Option R):Option R :=
 Zes N e_1 f_2.noOwn (e_1.length:Int)
   (fun e17 f18=>Zme f18 (k e17))
   N [] (.own 3) 0
def Zru:=@Zbf _ @ZkV
theorem Zom:@Zru = @ZkV:=@ZaE _ @ZkV
def ZkZ {R:Type} (N:Nat) (e_1:List V) (f_2:Fl) (x_3 x_4:Int) (k:Nat → Bool → List V → Option R):Option R :=
 Zs6 N e_1 f_2.noOwn.noOwn x_3 fun b1=>(match (!b1) with
  | true=>k 0 false []
  | false=>Zl0 N x_4 0 999 fun b2=>(match (!b2) with
  | true=>k 0 false []
  | false=>Zru N e_1 f_2.noOwn.noOwn fun e3=>Zs3 N e3 .sh x_4 fun b4=>(match b4 with
   | true=>k 0 false []
   | false=>Zru N e_1 f_2.noOwn.noOwn fun e5=>(match ((e5.length:Int) == 60) with
   | true=>k 0 false []
   | false=>Zuh N e_1 f_2.noOwn.noOwn fun k6 e7=>(if (0:Int) ≤ x_3 ∧ x_3 < k6 then (match nth e7 (0 + x_3.toNat) with
    | some e8=>Zde (e8.cells.drop 0) fun c9 l10=>Zg0 3 1 c9 fun e11=>(match ZaG e8 0 [.arr 2 0 0 e11.length] with
     | some e12=>(if e11.length ≤ e11.length then (if 0 = 0 ∧ e11.length = (e11.take e11.length).length ∧ (e11.length + 1) * 8 ≤ 140737488355328 ∧ 0 < 1 then (if (0:Int) ≤ x_3 ∧ x_3 < k6 then Zag (decide (0 + (e11.length + 1) ≤ ((e11.take e11.length) ++ ([.int .i64 x_4]:List V)).length)) <|
        Zag (((((e11.take e11.length) ++ ([.int .i64 x_4]:List V)).drop 0).take (e11.length + 1)).all V.scalE) ((match nth (Zao e7 (0 + x_3.toNat) e12) (0 + x_3.toNat) with
       | some e13=>(match ZaG e13 0 [.uni 3 1 ((((e11.take e11.length) ++ ([.int .i64 x_4]:List V)).drop 0).take (e11.length + 1))] with
        | some e14=>Zag (Zbu (Zao (Zao e7 (0 + x_3.toNat) e12) (0 + x_3.toNat) e14) && true) (k k6 true (Zao (Zao e7 (0 + x_3.toNat) e12) (0 + x_3.toNat) e14))
        | none=>none)
       | none=>none)) else none) else none) else none)
     | none=>none)
    | none=>none) else none)))))
def ZtD:=@Zbf _ @ZkZ
theorem Zo4:@ZtD = @ZkZ:=@ZaE _ @ZkZ
def ZkM {R:Type} (N:Nat) (x_1 x_2 x_3:Int) (k:Bool → Option R):Option R :=
 (match decide (x_1 ≥ x_2) with
  | true=>k (decide (x_1 ≤ x_3))
  | false=>k false)
def Zps:=@Zbf _ @ZkM
theorem Zpb:@Zps = @ZkM:=@ZaE _ @ZkM
def Zkh {R:Type} (N:Nat) (x_1:Int) (k:Bool → Option R):Option R :=
 Zps N x_1 0 999 fun b1=>k b1
def ZqI:=@Zbf _ @Zkh
theorem ZnZ:@ZqI = @Zkh:=@ZaE _ @Zkh
def ZjW {R:Type} (N:Nat) (x_1:Int) (k:List V → Option R):Option R :=
 (if 0 ≤ x_1 ∧ x_1 * (8:Nat) ≤ 140737488355328 then k [] else none)
def Zu5:=@Zbf _ @ZjW
theorem Zo3:@Zu5 = @ZjW:=@ZaE _ @ZjW
def Zcd {R:Type} (N:Nat) (e_1:List V) (f_2:Fl) (e_4:List V) (f_5:Fl) (x_6:Int) (nx:Int → Int → Option R) (x_3 x_7:Int) (k0:Int → Option R):Option R :=
 (match decide (x_7 < x_6) with
  | true=>(if 0 ≤ x_7 then ZbC (nth e_4 x_7.toNat) fun e4=>ZaV 1 e4 fun e5 f6=>(match decide (IntKind.i64.wrap (x_3 + (e5.length:Int)) < 0) with
   | true=>none
   | false=>nx (IntKind.i64.wrap (x_3 + (e5.length:Int))) (IntKind.i64.wrap (x_7 + 1))) else none)
  | false=>k0 x_3)
def Zdz {R:Type} (N:Nat) (e_1:List V) (f_2:Fl) (e_4:List V) (f_5:Fl) (x_6:Int) (k0:Int → Option R):Nat → Int → Int → Option R
 | 0,_,_=>none
 | n + 1,x_3,x_7=>Zcd N e_1 f_2 e_4 f_5 x_6 (fun x_3 x_7=>Zdz N e_1 f_2 e_4 f_5 x_6 k0 n x_3 x_7) x_3 x_7 k0
def Zcc {R:Type} (N:Nat) (e_2:List V) (f_3:Fl) (x_4:Int) (nx:List V → Int → Option R) (e_1:List V) (x_5:Int) (k0:List V → Option R):Option R :=
 (match decide (x_5 < x_4) with
  | true=>(if 0 ≤ x_5 then ZbC (nth e_2 x_5.toNat) fun e12=>ZaV 1 e12 fun e13 f14=>Zag (Ziq f14.noOwn.noOwn e13) ((if (e_1.length + (e13).length) * 8 ≤ 140737488355328 then nx (e_1 ++ (e13).map V.noOwn) (IntKind.i64.wrap (x_5 + 1)) else none)) else none)
  | false=>k0 e_1)
def Zey {R:Type} (N:Nat) (e_2:List V) (f_3:Fl) (x_4:Int) (k0:List V → Option R):Nat → List V → Int → Option R
 | 0,_,_=>none
 | n + 1,e_1,x_5=>Zcc N e_2 f_3 x_4 (fun e_1 x_5=>Zey N e_2 f_3 x_4 k0 n e_1 x_5) e_1 x_5 k0
def Zlp {R:Type} (N:Nat) (e_1:List V) (f_2:Fl) (k:List V → Option R):Option R :=
 Zdz N e_1 f_2 e_1 f_2.noOwn (e_1.length:Int)
   (fun x7=>Zu5 N x7 fun e8=>Zey N e_1 f_2.noOwn (e_1.length:Int)
    (fun e15=>k e15)
    N e8 0)
   N 0 0
def ZtU:=@Zbf _ @Zlp
theorem Zop:@ZtU = @Zlp:=@ZaE _ @Zlp
def Zch {R:Type} (N:Nat) (e_1:List V) (f_2:Fl) (x_3 x_4:Int) (nx:Int → Option R) (x_5:Int) (k0:Int → Option R) (k1:Unit → Option R):Option R :=
 (match decide (x_5 < x_4) with
  | true=>(if 0 ≤ x_5 then ZbC (nth e_1 x_5.toNat) fun e3=>asInt .i64 e3 fun n4=>(match (x_3 == n4) with
   | true=>k0 x_5
   | false=>nx (IntKind.i64.wrap (x_5 + 1))) else none)
  | false=>k1 ())
def Zec {R:Type} (N:Nat) (e_1:List V) (f_2:Fl) (x_3 x_4:Int) (k0:Int → Option R) (k1:Unit → Option R):Nat → Int → Option R
 | 0,_=>none
 | n + 1,x_5=>Zch N e_1 f_2 x_3 x_4 (fun x_5=>Zec N e_1 f_2 x_3 x_4 k0 k1 n x_5) x_5 k0 k1
def Zle {R:Type} (N:Nat) (e_1:List V) (f_2:Fl) (x_3:Int) (k:Int → Option R):Option R :=
 Zec N e_1 f_2 x_3 (e_1.length:Int)
   (fun x5=>k x5)
   (fun (_:Unit)=>k (-1))
   N 0
def ZvQ:=@Zbf _ @Zle
theorem ZnP:@ZvQ = @Zle:=@ZaE _ @Zle
def Zk7 {R:Type} (N:Nat) (e_1:List V) (f_2:Fl) (x_3:Int) (k:Bool → Option R):Option R :=
 ZvQ N e_1 f_2.noOwn.noOwn x_3 fun x1=>k (decide (x1 ≥ 0))
def Ztd:=@Zbf _ @Zk7
theorem ZoW:@Ztd = @Zk7:=@ZaE _ @Zk7
def Zcu {R:Type} (N:Nat) (e_1 e_2:List V) (x_3:Int) (nx:Int → Option R) (x_4:Int) (k0:Unit → Option R) (k1:Unit → Option R):Option R :=
 (match decide (x_4 < x_3) with
  | true=>(if 0 ≤ x_4 then ZbC (nth e_2 x_4.toNat) fun e7=>asInt .i64 e7 fun n8=>ZqI N n8 fun b9=>(match (!b9) with
   | true=>k0 ()
   | false=>(if (0:Int) ≤ x_4 ∧ x_4 ≤ (e_1.length:Int) then Ztd N ((e_1.take ((x_4:Int).toNat)).drop 0) .sh n8 fun b10=>(match b10 with
    | true=>k0 ()
    | false=>nx (IntKind.i64.wrap (x_4 + 1))) else none)) else none)
  | false=>k1 ())
def Zen {R:Type} (N:Nat) (e_1 e_2:List V) (x_3:Int) (k0:Unit → Option R) (k1:Unit → Option R):Nat → Int → Option R
 | 0,_=>none
 | n + 1,x_4=>Zcu N e_1 e_2 x_3 (fun x_4=>Zen N e_1 e_2 x_3 k0 k1 n x_4) x_4 k0 k1
def ZlK {R:Type} (N:Nat) (e_1:List V) (f_2:Fl) (k:Bool → Option R):Option R :=
 ZtU N e_1 f_2.noOwn.noOwn fun e1=>Zps N (e_1.length:Int) 1 8 fun b2=>(match (!b2) with
  | true=>k false
  | false=>(match decide ((e1.length:Int) > 60) with
  | true=>k false
  | false=>Zen N e1 e1 (e1.length:Int)
    (fun (_:Unit)=>k false)
    (fun (_:Unit)=>k true)
    N 0))
def ZsO:=@Zbf _ @ZlK
theorem Zow:@ZsO = @ZlK:=@ZaE _ @ZlK
def Zkc {R:Type} (N:Nat) (e_1:List V) (f_2:Fl) (x_3:Int) (k:Bool → Option R):Option R :=
 ZsO N e_1 f_2.noOwn.noOwn fun b1=>(match b1 with
  | true=>Zps N x_3 0 (IntKind.i64.wrap ((e_1.length:Int) - 1)) fun b2=>k b2
  | false=>k false)
def Zus:=@Zbf _ @Zkc
theorem Zoo:@Zus = @Zkc:=@ZaE _ @Zkc
def Zkb {R:Type} (N:Nat) (e_1:List V) (f_2:Fl) (k:Nat → List V → Option R):Option R :=
 ZhR 8 1 e_1 k
def Zty:=@Zbf _ @Zkb
theorem Zon:@Zty = @Zkb:=@ZaE _ @Zkb
def Zcr {R:Type} (N:Nat) (e_1:List V) (f_2:Fl) (x_3:Int) (nx:Nat → Int → List V → Option R) (k_5:Nat) (x_4:Int) (e_6:List V) (k0:Nat → List V → Option R):Option R :=
 (match decide (x_4 < x_3) with
  | true=>(if 0 ≤ x_4 then ZbC (nth e_1 x_4.toNat) fun e6=>ZaV 1 e6 fun e7 f8=>Zty N e7 f8.noOwn.noOwn.noOwn fun k9 e10=>(if 0 = 0 ∧ k_5 = e_6.length ∧ (k_5 + 1) * 24 ≤ 140737488355328 then Zag (decide (0 + k9 ≤ e10.length)) <|
     Zag (((e10.drop 0).take k9).all V.scalE) (Zag (Zax ((e_6 ++ ([.uni 3 1 ((e10.drop 0).take k9)]:List V)).map (trimV 2)) && true) (nx (k_5 + 1) (IntKind.i64.wrap (x_4 + 1)) ((e_6 ++ ([.uni 3 1 ((e10.drop 0).take k9)]:List V)).map (trimV 2)))) else none) else none)
  | false=>Zag (Zax (e_6.map (trimV 2)) && true) (k0 k_5 (e_6.map (trimV 2))))
def Zei {R:Type} (N:Nat) (e_1:List V) (f_2:Fl) (x_3:Int) (k0:Nat → List V → Option R):Nat → Nat → Int → List V → Option R
 | 0,_,_,_=>none
 | n + 1,k_5,x_4,e_6=>Zcr N e_1 f_2 x_3 (fun k_5 x_4 e_6=>Zei N e_1 f_2 x_3 k0 n k_5 x_4 e_6) k_5 x_4 e_6 k0
def ZjT {R:Type} (N:Nat) (e_1:List V) (f_2:Fl) (k:Nat → List V → Option R):Option R :=
 Zei N e_1 f_2.noOwn (e_1.length:Int)
   (fun k11 e12=>Zag (Zbu e12 && true) (k k11 e12))
   N 0 0 []
def Zt7:=@Zbf _ @ZjT
theorem ZnW:@Zt7 = @ZjT:=@ZaE _ @ZjT
def Zkn {R:Type} (N:Nat) (e_1:List V) (f_2:Fl) (x_3 x_4:Int) (k:Nat → Bool → List V → Option R):Option R :=
 Zus N e_1 f_2.noOwn.noOwn x_3 fun b1=>(match (!b1) with
  | true=>k 0 false []
  | false=>ZqI N x_4 fun b2=>(match (!b2) with
  | true=>k 0 false []
  | false=>Zt7 N e_1 f_2.noOwn.noOwn fun k3 e4=>(if (0:Int) ≤ x_3 ∧ x_3 < k3 then (match nth e4 (0 + x_3.toNat) with
   | some e5=>Zde (e5.cells.drop 0) fun c6 l7=>Zg0 3 1 c6 fun e8=>(match ZaG e5 0 [.arr 2 0 0 e8.length] with
    | some e9=>(if e8.length ≤ e8.length then (if 0 = 0 ∧ e8.length = (e8.take e8.length).length ∧ (e8.length + 1) * 8 ≤ 140737488355328 ∧ 0 < 1 then (if (0:Int) ≤ x_3 ∧ x_3 < k3 then Zag (decide (0 + (e8.length + 1) ≤ ((e8.take e8.length) ++ ([.int .i64 x_4]:List V)).length)) <|
       Zag (((((e8.take e8.length) ++ ([.int .i64 x_4]:List V)).drop 0).take (e8.length + 1)).all V.scalE) ((match nth (Zao e4 (0 + x_3.toNat) e9) (0 + x_3.toNat) with
      | some e10=>(match ZaG e10 0 [.uni 3 1 ((((e8.take e8.length) ++ ([.int .i64 x_4]:List V)).drop 0).take (e8.length + 1))] with
       | some e11=>(match ZaJ (freeze true [some ⟨[],1,32,0⟩,some ⟨((Zao (Zao e4 (0 + x_3.toNat) e9) (0 + x_3.toNat) e11).map V.unil),1,32,0⟩,none] 11) ((((Zao (Zao e4 (0 + x_3.toNat) e9) (0 + x_3.toNat) e11).map V.unil).drop 0).take k3) with
       | some e12=>Zag (decide (0 + k3 ≤ ((Zao (Zao e4 (0 + x_3.toNat) e9) (0 + x_3.toNat) e11).map V.unil).length)) (ZsO N (e12.map V.lent) .bor fun b13=>(match (!b13) with
        | true=>k 0 false []
        | false=>Zag (Zbu (Zao (Zao e4 (0 + x_3.toNat) e9) (0 + x_3.toNat) e11) && true) (k k3 true (Zao (Zao e4 (0 + x_3.toNat) e9) (0 + x_3.toNat) e11))))
       | none=>none)
       | none=>none)
      | none=>none)) else none) else none) else none)
    | none=>none)
   | none=>none) else none)))
def ZsE:=@Zbf _ @Zkn
theorem Zor:@ZsE = @Zkn:=@ZaE _ @Zkn
def ZrF {R:Type} (N:Nat) (e_1:List V) (f_2:Fl) (x_3 x_4:Int) (k:Bool → Option R):Option R :=
 Ztg N e_1 f_2.noOwn.noOwn 1048576 fun x1=>(match decide (x1 < 0) with
  | true=>k true
  | false=>ZlN N e_1 f_2.noOwn.noOwn fun k2 e3=>(match ZaJ (freeze true [some ⟨(e3.map V.unil),1,32,0⟩] 11) (((e3.map V.unil).drop 0).take k2) with
  | some e4=>Zag (decide (0 + k2 ≤ (e3.map V.unil).length)) (ZtD N (e4.map V.lent) .bor x_3 x_4 fun k5 b6 e7=>ZlN N e_1 f_2.noOwn.noOwn fun k8 e9=>(match ZaJ (freeze true [some ⟨(e3.map V.unil),1,32,0⟩,some ⟨(e7.map V.unil),1,32,0⟩,some ⟨(e9.map V.unil),1,32,0⟩] 11) (((e9.map V.unil).drop 0).take k8) with
   | some e10=>Zag (decide (0 + k8 ≤ (e9.map V.unil).length)) (ZsE N (e10.map V.lent) .bor x_3 x_4 fun k11 b12 e13=>(match ZaJ (freeze true [some ⟨(e3.map V.unil),1,32,0⟩,some ⟨(e7.map V.unil),1,32,0⟩,some ⟨(e9.map V.unil),1,32,0⟩,some ⟨(e13.map V.unil),1,32,0⟩] 11) (((e13.map V.unil).drop 0).take k11) with
    | some e14=>Zag (decide (0 + k11 ≤ (e13.map V.unil).length)) ((match ZaJ (freeze true [some ⟨(e3.map V.unil),1,32,0⟩,some ⟨(e7.map V.unil),1,32,0⟩,some ⟨(e9.map V.unil),1,32,0⟩,some ⟨(e13.map V.unil),1,32,0⟩] 11) (((e7.map V.unil).drop 0).take k5) with
     | some e15=>Zag (decide (0 + k5 ≤ (e7.map V.unil).length)) (ZlP N (e14.map V.lent) .bor (e15.map V.lent) .bor fun b16=>(match (!b16) with
      | true=>k false
      | false=>(match (!(b12 == b6)) with
       | true=>k false
       | false=>ZlN N e_1 f_2.noOwn.noOwn fun k17 e18=>(match ZaJ (freeze true [some ⟨(e3.map V.unil),1,32,0⟩,some ⟨(e7.map V.unil),1,32,0⟩,some ⟨(e9.map V.unil),1,32,0⟩,some ⟨(e13.map V.unil),1,32,0⟩,some ⟨(e18.map V.unil),1,32,0⟩] 11) (((e9.map V.unil).drop 0).take k8) with
       | some e19=>Zag (decide (0 + k8 ≤ (e9.map V.unil).length)) ((match ZaJ (freeze true [some ⟨(e3.map V.unil),1,32,0⟩,some ⟨(e7.map V.unil),1,32,0⟩,some ⟨(e9.map V.unil),1,32,0⟩,some ⟨(e13.map V.unil),1,32,0⟩,some ⟨(e18.map V.unil),1,32,0⟩] 11) (((e18.map V.unil).drop 0).take k17) with
        | some e20=>Zag (decide (0 + k17 ≤ (e18.map V.unil).length)) (ZlP N (e19.map V.lent) .bor (e20.map V.lent) .bor fun b21=>(match (!b21) with
         | true=>k false
         | false=>Zag (Zax e9 && true) (Znw N k8 1 e9 fun x22 e23=>(match decide (x22 < 0) with
          | true=>k false
          | false=>(match ZaJ (freeze true [some ⟨(e3.map V.unil),1,32,0⟩,some ⟨(e7.map V.unil),1,32,0⟩,some ⟨(e23.map V.unil),1,32,0⟩,some ⟨(e13.map V.unil),1,32,0⟩,some ⟨(e18.map V.unil),1,32,0⟩] 11) (((e13.map V.unil).drop 0).take k11) with
           | some e24=>Zag (decide (0 + k11 ≤ (e13.map V.unil).length)) ((match ZaJ (freeze true [some ⟨(e3.map V.unil),1,32,0⟩,some ⟨(e7.map V.unil),1,32,0⟩,some ⟨(e23.map V.unil),1,32,0⟩,some ⟨(e13.map V.unil),1,32,0⟩,some ⟨(e18.map V.unil),1,32,0⟩] 11) (((e7.map V.unil).drop 0).take k5) with
            | some e25=>Zag (decide (0 + k5 ≤ (e7.map V.unil).length)) (ZlP N (e24.map V.lent) .bor (e25.map V.lent) .bor fun b26=>(match (!b26) with
             | true=>k false
             | false=>(match (!(b12 == b6)) with
             | true=>k false
             | false=>Zag (Zax e13 && true) (Znw N k11 1 e13 fun x27 e28=>(match ZaJ (freeze true [some ⟨(e3.map V.unil),1,32,0⟩,some ⟨(e7.map V.unil),1,32,0⟩,some ⟨(e23.map V.unil),1,32,0⟩,some ⟨(e28.map V.unil),1,32,0⟩,some ⟨(e18.map V.unil),1,32,0⟩] 11) (((e28.map V.unil).drop 0).take k11) with
              | some e29=>Zag (decide (0 + k11 ≤ (e28.map V.unil).length)) (ZpH N (e29.map V.lent) .bor 1 fun x30=>(match decide (x30 < 0) with
               | true=>k false
               | false=>(match (x30 != x27) with
                | true=>k false
                | false=>ZlN N e_1 f_2.noOwn.noOwn fun k31 e32=>(match ZaJ (freeze true [some ⟨(e3.map V.unil),1,32,0⟩,some ⟨(e7.map V.unil),1,32,0⟩,some ⟨(e23.map V.unil),1,32,0⟩,some ⟨(e28.map V.unil),1,32,0⟩,some ⟨(e18.map V.unil),1,32,0⟩,some ⟨(e32.map V.unil),1,32,0⟩] 11) (((e32.map V.unil).drop 0).take k31) with
                | some e33=>Zag (decide (0 + k31 ≤ (e32.map V.unil).length)) (ZsE N (e33.map V.lent) .bor x_3 x_4 fun k34 b35 e36=>(match ZaJ (freeze true [some ⟨(e3.map V.unil),1,32,0⟩,some ⟨(e7.map V.unil),1,32,0⟩,some ⟨(e23.map V.unil),1,32,0⟩,some ⟨(e28.map V.unil),1,32,0⟩,some ⟨(e18.map V.unil),1,32,0⟩,some ⟨(e32.map V.unil),1,32,0⟩,some ⟨(e36.map V.unil),1,32,0⟩] 11) (((e36.map V.unil).drop 0).take k34) with
                 | some e37=>Zag (decide (0 + k34 ≤ (e36.map V.unil).length)) ((match ZaJ (freeze true [some ⟨(e3.map V.unil),1,32,0⟩,some ⟨(e7.map V.unil),1,32,0⟩,some ⟨(e23.map V.unil),1,32,0⟩,some ⟨(e28.map V.unil),1,32,0⟩,some ⟨(e18.map V.unil),1,32,0⟩,some ⟨(e32.map V.unil),1,32,0⟩,some ⟨(e36.map V.unil),1,32,0⟩] 11) (((e7.map V.unil).drop 0).take k5) with
                  | some e38=>Zag (decide (0 + k5 ≤ (e7.map V.unil).length)) (ZlP N (e37.map V.lent) .bor (e38.map V.lent) .bor fun b39=>(match (!b39) with
                   | true=>k false
                   | false=>(match (!(b35 == b6)) with
                    | true=>k false
                    | false=>(match ZaJ (freeze true [some ⟨(e3.map V.unil),1,32,0⟩,some ⟨(e7.map V.unil),1,32,0⟩,some ⟨(e23.map V.unil),1,32,0⟩,some ⟨(e28.map V.unil),1,32,0⟩,some ⟨(e18.map V.unil),1,32,0⟩,some ⟨(e32.map V.unil),1,32,0⟩,some ⟨(e36.map V.unil),1,32,0⟩] 11) (((e28.map V.unil).drop 0).take k11) with
                    | some e40=>Zag (decide (0 + k11 ≤ (e28.map V.unil).length)) (ZpH N (e40.map V.lent) .bor 1 fun x41=>(match decide (x41 < 0) with
                     | true=>k false
                     | false=>(match (x41 != x27) with
                      | true=>k false
                      | false=>k true)))
                    | none=>none))))
                  | none=>none))
                 | none=>none))
                | none=>none))))
              | none=>none)))))
            | none=>none))
           | none=>none)))))
        | none=>none))
       | none=>none))))
     | none=>none))
    | none=>none))
   | none=>none))
  | none=>none))
def ZgV {R:Type} (N:Nat) (e_1:List V) (f_2:Fl) (x_3 x_4:Int) (k:Bool → Option R):Option R :=
 ZrF N e_1 f_2 x_3 x_4 k
def Zwq:=@Zbf _ @ZgV
theorem Zta:@Zwq = @ZgV:=@ZaE _ @ZgV
end
end Go.VM.VL
