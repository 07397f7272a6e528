/- The functions of the program, told plainly: what each computes, as a function of its letters; and that the machine does the same. Printed by vgen.py, a program of this session's own. -/
import Derived.Test.YtkchbabkbpcncaaGreatDoorVmY
import Derived.Test.YtkchbabkbpcncaaGreatDoorVmZr
import Derived.Test.YtkchbabkbpcncaaGreatDoorVmZo
set_option linter.unusedVariables false
namespace Go.VM.VL
noncomputable section
def ZeJ {R:Type} (e:V) (k:List V → Fl → Int → Option R):Option R :=
 asAgg e fun cs=>Zbl cs fun v0 l0=>ZaX 7 v0 fun e_0 f_0=>Zbl l0 fun v1 l1=>asInt .i64 v1 fun x_1=>ZiW l1 (k e_0 f_0 x_1)
theorem Zd9 {R:Type} {e:V} {k:List V → Fl → Int → Option R} {r:R} (h:ZeJ e k = some r):∃ e_0 f_0 x_1,e = .agg [.list 7 e_0 f_0,.int .i64 x_1] ∧ k e_0 f_0 x_1 = some r:=by
 unfold ZeJ at h
 obtain ⟨_,rfl,h⟩:=ZaF h
 obtain ⟨_,_,rfl,h1⟩:=ZaN h
 obtain ⟨_,_,rfl,h2⟩:=Zam h1
 obtain ⟨_,_,rfl,h3⟩:=ZaN h2
 obtain ⟨_,rfl,h4⟩:=Zaf h3
 obtain ⟨rfl,h5⟩:=Zb4 h4
 exact ⟨_,_,_,rfl,h5⟩
def Zer {R:Type} (e:V) (k:Int → Int → Option R):Option R :=
 asAgg e fun cs=>Zbl cs fun v0 l0=>asInt .i64 v0 fun x_0=>Zbl l0 fun v1 l1=>asInt .i64 v1 fun x_1=>ZiW l1 (k x_0 x_1)
theorem ZeP {R:Type} {e:V} {k:Int → Int → Option R} {r:R} (h:Zer e k = some r):∃ x_0 x_1,e = .agg [.int .i64 x_0,.int .i64 x_1] ∧ k x_0 x_1 = some r:=by
 unfold Zer at h
 obtain ⟨_,rfl,h⟩:=ZaF h
 obtain ⟨_,_,rfl,h1⟩:=ZaN h
 obtain ⟨_,rfl,h2⟩:=Zaf h1
 obtain ⟨_,_,rfl,h3⟩:=ZaN h2
 obtain ⟨_,rfl,h4⟩:=Zaf h3
 obtain ⟨rfl,h5⟩:=Zb4 h4
 exact ⟨_,_,rfl,h5⟩
def Za9 {R:Type} (e:V) (k:List V → Fl → Int → Option R):Option R :=
 asAgg e fun cs=>Zbl cs fun v0 l0=>ZaX 7 v0 fun e_0 f_0=>Zbl l0 fun v1 l1=>asInt .i64 v1 fun x_1=>ZiW l1 (k e_0 f_0 x_1)
theorem ZaH {R:Type} {e:V} {k:List V → Fl → Int → Option R} {r:R} (h:Za9 e k = some r):∃ e_0 f_0 x_1,e = .agg [.list 7 e_0 f_0,.int .i64 x_1] ∧ k e_0 f_0 x_1 = some r:=by
 unfold Za9 at h
 obtain ⟨_,rfl,h⟩:=ZaF h
 obtain ⟨_,_,rfl,h1⟩:=ZaN h
 obtain ⟨_,_,rfl,h2⟩:=Zam h1
 obtain ⟨_,_,rfl,h3⟩:=ZaN h2
 obtain ⟨_,rfl,h4⟩:=Zaf h3
 obtain ⟨rfl,h5⟩:=Zb4 h4
 exact ⟨_,_,_,rfl,h5⟩
def Zbs {R:Type} (e:V) (k:Int → Int → Option R):Option R :=
 asAgg e fun cs=>Zbl cs fun v0 l0=>asInt .i64 v0 fun x_0=>Zbl l0 fun v1 l1=>asInt .i64 v1 fun x_1=>ZiW l1 (k x_0 x_1)
theorem Za8 {R:Type} {e:V} {k:Int → Int → Option R} {r:R} (h:Zbs e k = some r):∃ x_0 x_1,e = .agg [.int .i64 x_0,.int .i64 x_1] ∧ k x_0 x_1 = some r:=by
 unfold Zbs at h
 obtain ⟨_,rfl,h⟩:=ZaF h
 obtain ⟨_,_,rfl,h1⟩:=ZaN h
 obtain ⟨_,rfl,h2⟩:=Zaf h1
 obtain ⟨_,_,rfl,h3⟩:=ZaN h2
 obtain ⟨_,rfl,h4⟩:=Zaf h3
 obtain ⟨rfl,h5⟩:=Zb4 h4
 exact ⟨_,_,rfl,h5⟩
def ZaB {R:Type} (e:V) (k:Int → Int → Int → Int → Int → ByteArray → List V → Fl → Option R):Option R :=
 asAgg e fun cs=>Zbl cs fun v0 l0=>asInt .i64 v0 fun x_0=>Zbl l0 fun v1 l1=>asInt .i64 v1 fun x_1=>Zbl l1 fun v2 l2=>asInt .i64 v2 fun x_2=>Zbl l2 fun v3 l3=>asInt .i64 v3 fun x_3=>Zbl l3 fun v4 l4=>asInt .i64 v4 fun x_4=>Zbl l4 fun v5 l5=>Zby v5 fun w_5=>Zbl l5 fun v6 l6=>ZaX 2 v6 fun e_6 f_6=>ZiW l6 (k x_0 x_1 x_2 x_3 x_4 w_5 e_6 f_6)
theorem Zb7 {R:Type} {e:V} {k:Int → Int → Int → Int → Int → ByteArray → List V → Fl → Option R} {r:R} (h:ZaB e k = some r):∃ x_0 x_1 x_2 x_3 x_4 w_5 e_6 f_6,e = .agg [.int .i64 x_0,.int .i64 x_1,.int .i64 x_2,.int .i64 x_3,.int .i64 x_4,.str w_5,.list 2 e_6 f_6] ∧ k x_0 x_1 x_2 x_3 x_4 w_5 e_6 f_6 = some r:=by
 unfold ZaB at h
 obtain ⟨_,rfl,h⟩:=ZaF h
 obtain ⟨_,_,rfl,h1⟩:=ZaN h
 obtain ⟨_,rfl,h2⟩:=Zaf h1
 obtain ⟨_,_,rfl,h3⟩:=ZaN h2
 obtain ⟨_,rfl,h4⟩:=Zaf h3
 obtain ⟨_,_,rfl,h5⟩:=ZaN h4
 obtain ⟨_,rfl,h6⟩:=Zaf h5
 obtain ⟨_,_,rfl,h7⟩:=ZaN h6
 obtain ⟨_,rfl,h8⟩:=Zaf h7
 obtain ⟨_,_,rfl,h9⟩:=ZaN h8
 obtain ⟨_,rfl,h10⟩:=Zaf h9
 obtain ⟨_,_,rfl,h11⟩:=ZaN h10
 obtain ⟨_,rfl,h12⟩:=ZaD h11
 obtain ⟨_,_,rfl,h13⟩:=ZaN h12
 obtain ⟨_,_,rfl,h14⟩:=Zam h13
 obtain ⟨rfl,h15⟩:=Zb4 h14
 exact ⟨_,_,_,_,_,_,_,_,rfl,h15⟩
def Za1 {R:Type} (e:V) (k:ByteArray → Int → Option R):Option R :=
 asAgg e fun cs=>Zbl cs fun v0 l0=>Zby v0 fun w_0=>Zbl l0 fun v1 l1=>asInt .i64 v1 fun x_1=>ZiW l1 (k w_0 x_1)
theorem Zen {R:Type} {e:V} {k:ByteArray → Int → Option R} {r:R} (h:Za1 e k = some r):∃ w_0 x_1,e = .agg [.str w_0,.int .i64 x_1] ∧ k w_0 x_1 = some r:=by
 unfold Za1 at h
 obtain ⟨_,rfl,h⟩:=ZaF h
 obtain ⟨_,_,rfl,h1⟩:=ZaN h
 obtain ⟨_,rfl,h2⟩:=ZaD h1
 obtain ⟨_,_,rfl,h3⟩:=ZaN h2
 obtain ⟨_,rfl,h4⟩:=Zaf h3
 obtain ⟨rfl,h5⟩:=Zb4 h4
 exact ⟨_,_,rfl,h5⟩
def Zcr {R:Type} (e:V) (k:Int → Int → Int → Int → Int → ByteArray → List V → Fl → Option R):Option R :=
 asAgg e fun cs=>Zbl cs fun v0 l0=>asInt .i64 v0 fun x_0=>Zbl l0 fun v1 l1=>asInt .i64 v1 fun x_1=>Zbl l1 fun v2 l2=>asInt .i64 v2 fun x_2=>Zbl l2 fun v3 l3=>asInt .i64 v3 fun x_3=>Zbl l3 fun v4 l4=>asInt .i64 v4 fun x_4=>Zbl l4 fun v5 l5=>Zby v5 fun w_5=>Zbl l5 fun v6 l6=>ZaX 2 v6 fun e_6 f_6=>ZiW l6 (k x_0 x_1 x_2 x_3 x_4 w_5 e_6 f_6)
theorem ZeL {R:Type} {e:V} {k:Int → Int → Int → Int → Int → ByteArray → List V → Fl → Option R} {r:R} (h:Zcr e k = some r):∃ x_0 x_1 x_2 x_3 x_4 w_5 e_6 f_6,e = .agg [.int .i64 x_0,.int .i64 x_1,.int .i64 x_2,.int .i64 x_3,.int .i64 x_4,.str w_5,.list 2 e_6 f_6] ∧ k x_0 x_1 x_2 x_3 x_4 w_5 e_6 f_6 = some r:=by
 unfold Zcr at h
 obtain ⟨_,rfl,h⟩:=ZaF h
 obtain ⟨_,_,rfl,h1⟩:=ZaN h
 obtain ⟨_,rfl,h2⟩:=Zaf h1
 obtain ⟨_,_,rfl,h3⟩:=ZaN h2
 obtain ⟨_,rfl,h4⟩:=Zaf h3
 obtain ⟨_,_,rfl,h5⟩:=ZaN h4
 obtain ⟨_,rfl,h6⟩:=Zaf h5
 obtain ⟨_,_,rfl,h7⟩:=ZaN h6
 obtain ⟨_,rfl,h8⟩:=Zaf h7
 obtain ⟨_,_,rfl,h9⟩:=ZaN h8
 obtain ⟨_,rfl,h10⟩:=Zaf h9
 obtain ⟨_,_,rfl,h11⟩:=ZaN h10
 obtain ⟨_,rfl,h12⟩:=ZaD h11
 obtain ⟨_,_,rfl,h13⟩:=ZaN h12
 obtain ⟨_,_,rfl,h14⟩:=Zam h13
 obtain ⟨rfl,h15⟩:=Zb4 h14
 exact ⟨_,_,_,_,_,_,_,_,rfl,h15⟩
def ZgW {R:Type} (e:V) (k:List V → Fl → Int → Int → Int → Int → List V → Fl → Int → Option R):Option R :=
 asAgg e fun cs=>Zbl cs fun v0 l0=>ZaX 7 v0 fun e_0 f_0=>Zbl l0 fun v1 l1=>asInt .i64 v1 fun x_1=>Zbl l1 fun v2 l2=>asInt .i64 v2 fun x_2=>Zbl l2 fun v3 l3=>asInt .i64 v3 fun x_3=>Zbl l3 fun v4 l4=>asInt .i64 v4 fun x_4=>Zbl l4 fun v5 l5=>ZaX 1 v5 fun e_5 f_5=>Zbl l5 fun v6 l6=>asInt .i64 v6 fun x_6=>ZiW l6 (k e_0 f_0 x_1 x_2 x_3 x_4 e_5 f_5 x_6)
theorem Zj2 {R:Type} {e:V} {k:List V → Fl → Int → Int → Int → Int → List V → Fl → Int → Option R} {r:R} (h:ZgW e k = some r):∃ e_0 f_0 x_1 x_2 x_3 x_4 e_5 f_5 x_6,e = .agg [.list 7 e_0 f_0,.int .i64 x_1,.int .i64 x_2,.int .i64 x_3,.int .i64 x_4,.list 1 e_5 f_5,.int .i64 x_6] ∧ k e_0 f_0 x_1 x_2 x_3 x_4 e_5 f_5 x_6 = some r:=by
 unfold ZgW at h
 obtain ⟨_,rfl,h⟩:=ZaF h
 obtain ⟨_,_,rfl,h1⟩:=ZaN h
 obtain ⟨_,_,rfl,h2⟩:=Zam h1
 obtain ⟨_,_,rfl,h3⟩:=ZaN h2
 obtain ⟨_,rfl,h4⟩:=Zaf h3
 obtain ⟨_,_,rfl,h5⟩:=ZaN h4
 obtain ⟨_,rfl,h6⟩:=Zaf h5
 obtain ⟨_,_,rfl,h7⟩:=ZaN h6
 obtain ⟨_,rfl,h8⟩:=Zaf h7
 obtain ⟨_,_,rfl,h9⟩:=ZaN h8
 obtain ⟨_,rfl,h10⟩:=Zaf h9
 obtain ⟨_,_,rfl,h11⟩:=ZaN h10
 obtain ⟨_,_,rfl,h12⟩:=Zam h11
 obtain ⟨_,_,rfl,h13⟩:=ZaN h12
 obtain ⟨_,rfl,h14⟩:=Zaf h13
 obtain ⟨rfl,h15⟩:=Zb4 h14
 exact ⟨_,_,_,_,_,_,_,_,_,rfl,h15⟩
def Zci {R:Type} (e:V) (k:ByteArray → Int → Option R):Option R :=
 asAgg e fun cs=>Zbl cs fun v0 l0=>Zby v0 fun w_0=>Zbl l0 fun v1 l1=>asInt .i64 v1 fun x_1=>ZiW l1 (k w_0 x_1)
theorem Zei {R:Type} {e:V} {k:ByteArray → Int → Option R} {r:R} (h:Zci e k = some r):∃ w_0 x_1,e = .agg [.str w_0,.int .i64 x_1] ∧ k w_0 x_1 = some r:=by
 unfold Zci at h
 obtain ⟨_,rfl,h⟩:=ZaF h
 obtain ⟨_,_,rfl,h1⟩:=ZaN h
 obtain ⟨_,rfl,h2⟩:=ZaD h1
 obtain ⟨_,_,rfl,h3⟩:=ZaN h2
 obtain ⟨_,rfl,h4⟩:=Zaf h3
 obtain ⟨rfl,h5⟩:=Zb4 h4
 exact ⟨_,_,rfl,h5⟩
def ZrJ {R:Type} (N:Nat) (w_1:ByteArray) (x_2 x_3:Int) (k:Int → Option R):Option R :=
 (match decide (IntKind.i64.wrap (x_3 - (w_1.size:Int)) < 0) with
  | true=>k (-1)
  | false=>k (IntKind.i64.wrap (x_3 - (w_1.size:Int))))
def ZGR:=@ZaO _ @ZrJ
theorem ZwV:@ZGR = @ZrJ:=@Zan _ @ZrJ
def ZdP {R:Type} (N:Nat) (e_1:List V) (f_2:Fl) (nx:Int → Int → Option R) (x_3 x_4:Int) (k0:Int → Option R) (k1:Int → Option R):Option R :=
 (match decide (x_4 < (e_1.length:Int)) with
  | true=>(if 0 ≤ x_4 then Zbt (nth e_1 x_4.toNat) fun e5=>Zci e5 fun w6 n7=>ZGR N w6 n7 x_3 fun x8=>(match decide (x8 < 0) with
   | true=>k0 x8
   | false=>nx x8 (IntKind.i64.wrap (x_4 + 1))) else none)
  | false=>k1 x_3)
def ZfI {R:Type} (N:Nat) (e_1:List V) (f_2:Fl) (k0:Int → Option R) (k1:Int → Option R):Nat → Int → Int → Option R
 | 0,_,_=>none
 | n + 1,x_3,x_4=>ZdP N e_1 f_2 (fun x_3 x_4=>ZfI N e_1 f_2 k0 k1 n x_3 x_4) x_3 x_4 k0 k1
def Zq6 {R:Type} (N:Nat) (e_1:List V) (f_2:Fl) (x_3:Int) (k:Int → Option R):Option R :=
 (match decide (IntKind.i64.wrap (x_3 - (e_1.length:Int)) < 0) with
  | true=>k (-1)
  | false=>ZfI N e_1 f_2
    (fun x9=>k (-1))
    (fun x10=>k x10)
    N (IntKind.i64.wrap (x_3 - (e_1.length:Int))) 0)
def ZIn:=@ZaO _ @Zq6
theorem ZyT:@ZIn = @Zq6:=@Zan _ @Zq6
def ZsZ {R:Type} (N:Nat) (x_1 x_2 x_3 x_4 x_5:Int) (w_6:ByteArray) (e_7:List V) (f_8:Fl) (x_9:Int) (k:Int → Option R):Option R :=
 (match decide (IntKind.i64.wrap (x_9 - (w_6.size:Int)) < 0) with
  | true=>k (-1)
  | false=>ZIn N e_7 f_8.noOwn.noOwn (IntKind.i64.wrap (x_9 - (w_6.size:Int))) fun x1=>(match decide (x1 < 0) with
  | true=>k (-1)
  | false=>k x1))
def ZJC:=@ZaO _ @ZsZ
theorem Zy3:@ZJC = @ZsZ:=@Zan _ @ZsZ
def ZdE {R:Type} (N:Nat) (e_1:List V) (f_2:Fl) (nx:Int → Int → Option R) (x_3 x_4:Int) (k0:Int → Option R) (k1:Int → Option R):Option R :=
 (match decide (x_4 < (e_1.length:Int)) with
  | true=>(if 0 ≤ x_4 then Zbt (nth e_1 x_4.toNat) fun e11=>Zcr e11 fun n12 n13 n14 n15 n16 w17 e18 f19=>ZJC N n12 n13 n14 n15 n16 w17 e18 f19.noOwn.noOwn x_3 fun x20=>(match decide (x20 < 0) with
   | true=>k0 x20
   | false=>nx x20 (IntKind.i64.wrap (x_4 + 1))) else none)
  | false=>k1 x_3)
def Zfo {R:Type} (N:Nat) (e_1:List V) (f_2:Fl) (k0:Int → Option R) (k1:Int → Option R):Nat → Int → Int → Option R
 | 0,_,_=>none
 | n + 1,x_3,x_4=>ZdE N e_1 f_2 (fun x_3 x_4=>Zfo N e_1 f_2 k0 k1 n x_3 x_4) x_3 x_4 k0 k1
def ZsL {R:Type} (N:Nat) (e_1:List V) (f_2:Fl) (x_3:Int) (k:Int → Option R):Option R :=
 (match decide (IntKind.i64.wrap (x_3 - (e_1.length:Int)) < 0) with
  | true=>k (-1)
  | false=>Zfo N e_1 f_2
    (fun x21=>k (-1))
    (fun x22=>k x22)
    N (IntKind.i64.wrap (x_3 - (e_1.length:Int))) 0)
def ZH7:=@ZaO _ @ZsL
theorem Zy9:@ZH7 = @ZsL:=@Zan _ @ZsL
def Zsx {R:Type} (N:Nat) (e_1:List V) (f_2:Fl) (x_3 x_4:Int) (k:Int → Option R):Option R :=
 ZH7 N e_1 f_2.noOwn.noOwn x_4 fun x1=>(match decide (x1 < 0) with
  | true=>k (-1)
  | false=>k x1)
def ZJ7:=@ZaO _ @Zsx
theorem ZyE:@ZJ7 = @Zsx:=@Zan _ @Zsx
def Zp6 {R:Type} (N:Nat) (x_1 x_2 x_3:Int) (k:Bool → Option R):Option R :=
 (match decide (x_1 ≥ x_2) with
  | true=>k (decide (x_1 ≤ x_3))
  | false=>k false)
def ZgO:=@ZaO _ @Zp6
theorem ZxP:@ZgO = @Zp6:=@Zan _ @Zp6
def ZdK {R:Type} (N:Nat) (e_2:List V) (f_3:Fl) (x_4:Int) (e_6:List V) (f_7:Fl) (x_8:Int) (nx:Int → Int → Option R) (x_1 x_5:Int) (k0:Int → Option R):Option R :=
 (match decide (x_5 < x_4) with
  | true=>(if 0 ≤ x_5 then Zbt (nth e_2 x_5.toNat) fun e10=>ZaB e10 fun n11 n12 n13 n14 n15 w16 e17 f18=>nx (IntKind.i64.wrap (x_1 + (w16.size:Int))) (IntKind.i64.wrap (x_5 + 1)) else none)
  | false=>k0 x_1)
def Zgp {R:Type} (N:Nat) (e_2:List V) (f_3:Fl) (x_4:Int) (e_6:List V) (f_7:Fl) (x_8:Int) (k0:Int → Option R):Nat → Int → Int → Option R
 | 0,_,_=>none
 | n + 1,x_1,x_5=>ZdK N e_2 f_3 x_4 e_6 f_7 x_8 (fun x_1 x_5=>Zgp N e_2 f_3 x_4 e_6 f_7 x_8 k0 n x_1 x_5) x_1 x_5 k0
def ZrF {R:Type} (N:Nat) (e_1:List V) (f_2:Fl) (x_3:Int) (k:Int → Option R):Option R :=
 Zgp N e_1 f_2.noOwn (e_1.length:Int) e_1 f_2 x_3
   (fun x19=>k x19)
   N 0 0
def ZIT:=@ZaO _ @ZrF
theorem ZxL:@ZIT = @ZrF:=@Zan _ @ZrF
def Zqa {R:Type} (N:Nat) (x_1:Int) (k:Bool → Option R):Option R :=
 ZgO N x_1 0 511 fun b1=>k b1
def ZMH:=@ZaO _ @Zqa
theorem Zzw:@ZMH = @Zqa:=@Zan _ @Zqa
def Zdn {R:Type} (N:Nat) (w_1:ByteArray) (nx:Int → Option R) (x_2:Int) (k0:Unit → Option R) (k1:Unit → Option R):Option R :=
 (match decide (x_2 < (w_1.size:Int)) with
  | true=>ZcV w_1 x_2 fun n2=>(match decide (n2 < 97) with
  | true=>(match decide (n2 < 48) with
   | true=>(match (n2 != 46) with
   | true=>(match (n2 != 95) with
    | true=>(match (n2 != 45) with
    | true=>k0 ()
    | false=>nx (IntKind.i64.wrap (x_2 + 1)))
    | false=>nx (IntKind.i64.wrap (x_2 + 1)))
   | false=>nx (IntKind.i64.wrap (x_2 + 1)))
   | false=>(match decide (n2 > 57) with
   | true=>(match (n2 != 46) with
    | true=>(match (n2 != 95) with
    | true=>(match (n2 != 45) with
     | true=>k0 ()
     | false=>nx (IntKind.i64.wrap (x_2 + 1)))
    | false=>nx (IntKind.i64.wrap (x_2 + 1)))
    | false=>nx (IntKind.i64.wrap (x_2 + 1)))
   | false=>nx (IntKind.i64.wrap (x_2 + 1))))
  | false=>(match decide (n2 > 122) with
   | true=>(match decide (n2 < 48) with
   | true=>(match (n2 != 46) with
    | true=>(match (n2 != 95) with
    | true=>(match (n2 != 45) with
     | true=>k0 ()
     | false=>nx (IntKind.i64.wrap (x_2 + 1)))
    | false=>nx (IntKind.i64.wrap (x_2 + 1)))
    | false=>nx (IntKind.i64.wrap (x_2 + 1)))
   | false=>(match decide (n2 > 57) with
    | true=>(match (n2 != 46) with
    | true=>(match (n2 != 95) with
     | true=>(match (n2 != 45) with
     | true=>k0 ()
     | false=>nx (IntKind.i64.wrap (x_2 + 1)))
     | false=>nx (IntKind.i64.wrap (x_2 + 1)))
    | false=>nx (IntKind.i64.wrap (x_2 + 1)))
    | false=>nx (IntKind.i64.wrap (x_2 + 1))))
   | false=>nx (IntKind.i64.wrap (x_2 + 1))))
  | false=>k1 ())
def ZfE {R:Type} (N:Nat) (w_1:ByteArray) (k0:Unit → Option R) (k1:Unit → Option R):Nat → Int → Option R
 | 0,_=>none
 | n + 1,x_2=>Zdn N w_1 (fun x_2=>ZfE N w_1 k0 k1 n x_2) x_2 k0 k1
def ZqV {R:Type} (N:Nat) (w_1:ByteArray) (k:Bool → Option R):Option R :=
 ZfE N w_1
   (fun (_:Unit)=>k false)
   (fun (_:Unit)=>ZgO N (w_1.size:Int) 1 8 fun b3=>(match b3 with
  | true=>(match (!(w_1.toList == (ByteArray.mk #[46]).toList)) with
   | true=>k (!(w_1.toList == (ByteArray.mk #[46,46]).toList))
   | false=>k false)
  | false=>k false))
   N 0
def ZF3:=@ZaO _ @ZqV
theorem ZyJ:@ZF3 = @ZqV:=@Zan _ @ZqV
def ZdC {R:Type} (N:Nat) (e_1:List V) (f_2:Fl) (e_3:List V) (f_4:Fl) (x_5:Int) (e_7:List V) (f_8:Fl) (x_9:Int) (nx:Int → Option R) (x_6:Int) (k0:Unit → Option R) (k1:Unit → Option R):Option R :=
 (match decide (x_6 < x_5) with
  | true=>(if 0 ≤ x_6 then Zbt (nth e_3 x_6.toNat) fun e28=>Za1 e28 fun w29 n30=>ZF3 N w29 fun b31=>(match (!b31) with
   | true=>k0 ()
   | false=>(match decide (x_6 > 0) with
   | true=>(if 0 ≤ IntKind.i64.wrap (x_6 - 1) then Zbt (nth e_1 ((IntKind.i64.wrap (x_6 - 1)).toNat)) fun e32=>Za1 e32 fun w33 n34=>(match (!Op.bytesLess w33.toList w29.toList) with
    | true=>k0 ()
    | false=>ZgO N n30 1 (IntKind.i64.wrap ((e_7.length:Int) - 1)) fun b35=>(match (!b35) with
     | true=>k0 ()
     | false=>(if 0 ≤ n30 then Zbt (nth e_7 n30.toNat) fun e36=>ZaB e36 fun n37 n38 n39 n40 n41 w42 e43 f44=>(match (n37 == 0) with
      | true=>k0 ()
      | false=>nx (IntKind.i64.wrap (x_6 + 1))) else none))) else none)
   | false=>ZgO N n30 1 (IntKind.i64.wrap ((e_7.length:Int) - 1)) fun b45=>(match (!b45) with
    | true=>k0 ()
    | false=>(if 0 ≤ n30 then Zbt (nth e_7 n30.toNat) fun e46=>ZaB e46 fun n47 n48 n49 n50 n51 w52 e53 f54=>(match (n47 == 0) with
     | true=>k0 ()
     | false=>nx (IntKind.i64.wrap (x_6 + 1))) else none)))) else none)
  | false=>k1 ())
def Zhe {R:Type} (N:Nat) (e_1:List V) (f_2:Fl) (e_3:List V) (f_4:Fl) (x_5:Int) (e_7:List V) (f_8:Fl) (x_9:Int) (k0:Unit → Option R) (k1:Unit → Option R):Nat → Int → Option R
 | 0,_=>none
 | n + 1,x_6=>ZdC N e_1 f_2 e_3 f_4 x_5 e_7 f_8 x_9 (fun x_6=>Zhe N e_1 f_2 e_3 f_4 x_5 e_7 f_8 x_9 k0 k1 n x_6) x_6 k0 k1
def Zqc {R:Type} (N:Nat) (e_1:List V) (f_2:Fl) (x_3:Int) (e_4:List V) (f_5:Fl) (k:Bool → Option R):Option R :=
 Zhe N e_4 f_5 e_4 f_5.noOwn (e_4.length:Int) e_1 f_2 x_3
   (fun (_:Unit)=>k false)
   (fun (_:Unit)=>k true)
   N 0
def ZHF:=@ZaO _ @Zqc
theorem ZyN:@ZHF = @Zqc:=@Zan _ @Zqc
def Zde {R:Type} (N:Nat) (w_1:ByteArray) (x_2:Int) (nx:List V → Int → Int → Option R) (e_3:List V) (x_4 x_5:Int) (k0:List V → Int → Option R):Option R :=
 (match decide (x_5 < (w_1.size:Int)) with
  | true=>ZcV w_1 x_5 fun n2=>(match (n2 == x_2) with
  | true=>(if (0:Int) ≤ x_5 ∧ x_5 ≤ (w_1.size:Int) then (if (0:Int) ≤ x_4 ∧ x_4 ≤ ((x_5:Int).toNat:Int) then (if (e_3.length + 1) * 16 ≤ 140737488355328 then nx (e_3 ++ ([.str (ByteArray.extract w_1 ((x_4:Int).toNat) ((x_5:Int).toNat))]:List V)) (IntKind.i64.wrap (x_5 + 1)) (IntKind.i64.wrap (x_5 + 1)) else none) else none) else none)
  | false=>nx e_3 x_4 (IntKind.i64.wrap (x_5 + 1)))
  | false=>k0 e_3 x_4)
def Zhf {R:Type} (N:Nat) (w_1:ByteArray) (x_2:Int) (k0:List V → Int → Option R):Nat → List V → Int → Int → Option R
 | 0,_,_,_=>none
 | n + 1,e_3,x_4,x_5=>Zde N w_1 x_2 (fun e_3 x_4 x_5=>Zhf N w_1 x_2 k0 n e_3 x_4 x_5) e_3 x_4 x_5 k0
def ZqW {R:Type} (N:Nat) (w_1:ByteArray) (x_2:Int) (k:List V → Option R):Option R :=
 Zhf N w_1 x_2
   (fun e3 x4=>(if (0:Int) ≤ x4 ∧ x4 ≤ (w_1.size:Int) then (if (e3.length + 1) * 16 ≤ 140737488355328 then k (e3 ++ ([.str (ByteArray.extract w_1 ((x4:Int).toNat) w_1.size)]:List V)) else none) else none))
   N [] 0 0
def ZIe:=@ZaO _ @ZqW
theorem Zx9:@ZIe = @ZqW:=@Zan _ @ZqW
def Zdt {R:Type} (N:Nat) (e_2:List V) (x_3:Int) (nx:List V → Int → Option R) (e_1:List V) (x_4:Int) (k0:List V → Option R):Option R :=
 (match decide (x_4 < x_3) with
  | true=>(if 0 ≤ x_4 then Zbt (nth e_2 x_4.toNat) fun e4=>Zby e4 fun w5=>(match (!(w5.toList == (ByteArray.mk #[]).toList)) with
   | true=>(if (e_1.length + 1) * 16 ≤ 140737488355328 then nx (e_1 ++ ([.str w5]:List V)) (IntKind.i64.wrap (x_4 + 1)) else none)
   | false=>nx e_1 (IntKind.i64.wrap (x_4 + 1))) else none)
  | false=>k0 e_1)
def ZgU {R:Type} (N:Nat) (e_2:List V) (x_3:Int) (k0:List V → Option R):Nat → List V → Int → Option R
 | 0,_,_=>none
 | n + 1,e_1,x_4=>Zdt N e_2 x_3 (fun e_1 x_4=>ZgU N e_2 x_3 k0 n e_1 x_4) e_1 x_4 k0
def Zrr {R:Type} (N:Nat) (w_1:ByteArray) (k:List V → Option R):Option R :=
 ZIe N w_1 47 fun e1=>ZgU N e1 (e1.length:Int)
   (fun e6=>k e6)
   N [] 0
def Zra:=@ZaO _ @Zrr
theorem Zxl:@Zra = @Zrr:=@Zan _ @Zrr
def ZdL {R:Type} (N:Nat) (w_1:ByteArray) (e_2:List V) (x_3:Int) (nx:Int → Option R) (x_4:Int) (k0:Unit → Option R) (k1:Unit → Option R):Option R :=
 (match decide (x_4 < x_3) with
  | true=>(if 0 ≤ x_4 then Zbt (nth e_2 x_4.toNat) fun e5=>Zby e5 fun w6=>ZF3 N w6 fun b7=>(match (!b7) with
   | true=>(match (!(w6.toList == (ByteArray.mk #[46]).toList)) with
   | true=>(match (!(w6.toList == (ByteArray.mk #[46,46]).toList)) with
    | true=>k0 ()
    | false=>nx (IntKind.i64.wrap (x_4 + 1)))
   | false=>nx (IntKind.i64.wrap (x_4 + 1)))
   | false=>nx (IntKind.i64.wrap (x_4 + 1))) else none)
  | false=>k1 ())
def ZgX {R:Type} (N:Nat) (w_1:ByteArray) (e_2:List V) (x_3:Int) (k0:Unit → Option R) (k1:Unit → Option R):Nat → Int → Option R
 | 0,_=>none
 | n + 1,x_4=>ZdL N w_1 e_2 x_3 (fun x_4=>ZgX N w_1 e_2 x_3 k0 k1 n x_4) x_4 k0 k1
def Zqp {R:Type} (N:Nat) (w_1:ByteArray) (k:Bool → Option R):Option R :=
 Zra N w_1 fun e1=>ZgX N w_1 e1 (e1.length:Int)
   (fun (_:Unit)=>k false)
   (fun (_:Unit)=>ZgO N (w_1.size:Int) 1 60 fun b8=>k b8)
   N 0
def ZEE:=@ZaO _ @Zqp
theorem Zyf:@ZEE = @Zqp:=@Zan _ @Zqp
def Zsi {R:Type} (N:Nat) (e_1:List V) (f_2:Fl) (x_3 x_4 x_5 x_6 x_7 x_8:Int) (w_9:ByteArray) (e_10:List V) (f_11:Fl) (k:Bool → Option R):Option R :=
 (match (x_4 == 0) with
  | true=>(match (x_5 == 0) with
  | true=>(match (x_6 == 0) with
   | true=>(match (x_7 == 0) with
   | true=>(match (x_8 == 0) with
    | true=>(match (w_9.toList == (ByteArray.mk #[]).toList) with
    | true=>k ((e_10.length:Int) == 0)
    | false=>k false)
    | false=>k false)
   | false=>k false)
   | false=>k false)
  | false=>k false)
  | false=>ZMH N x_5 fun b1=>(match (!b1) with
  | true=>k false
  | false=>ZgO N x_6 0 99 fun b2=>(match (!b2) with
   | true=>k false
   | false=>ZgO N x_7 0 99 fun b3=>(match (!b3) with
   | true=>k false
   | false=>ZgO N x_8 0 1000000 fun b4=>(match (!b4) with
    | true=>k false
    | false=>(match (x_4 == 1) with
    | true=>(match decide ((w_9.size:Int) ≤ 60) with
     | true=>k ((e_10.length:Int) == 0)
     | false=>k false)
    | false=>(match (x_4 == 2) with
     | true=>(match (w_9.toList == (ByteArray.mk #[]).toList) with
     | true=>ZHF N e_1 f_2.noOwn.noOwn x_3 e_10 f_11.noOwn.noOwn fun b5=>k b5
     | false=>k false)
     | false=>(match (x_4 == 3) with
     | true=>ZEE N w_9 fun b6=>(match b6 with
      | true=>k ((e_10.length:Int) == 0)
      | false=>k false)
     | false=>k false))))))))
def ZJf:=@ZaO _ @Zsi
theorem ZzL:@ZJf = @Zsi:=@Zan _ @Zsi
def Zdr {R:Type} (N:Nat) (x_1:Int) (e_2:List V) (f_3:Fl) (x_4:Int) (nx:Int → Option R) (x_5:Int) (k0:Unit → Option R) (k1:Unit → Option R):Option R :=
 (match decide (x_5 < x_4) with
  | true=>(if 0 ≤ x_5 then Zbt (nth e_2 x_5.toNat) fun e3=>asInt .i64 e3 fun n4=>(match (n4 == x_1) with
   | true=>k0 ()
   | false=>nx (IntKind.i64.wrap (x_5 + 1))) else none)
  | false=>k1 ())
def ZgG {R:Type} (N:Nat) (x_1:Int) (e_2:List V) (f_3:Fl) (x_4:Int) (k0:Unit → Option R) (k1:Unit → Option R):Nat → Int → Option R
 | 0,_=>none
 | n + 1,x_5=>Zdr N x_1 e_2 f_3 x_4 (fun x_5=>ZgG N x_1 e_2 f_3 x_4 k0 k1 n x_5) x_5 k0 k1
def Zse {R:Type} (N:Nat) (e_1:List V) (f_2:Fl) (x_3:Int) (k:Bool → Option R):Option R :=
 ZgG N x_3 e_1 f_2.noOwn (e_1.length:Int)
   (fun (_:Unit)=>k true)
   (fun (_:Unit)=>k false)
   N 0
def Zl8:=@ZaO _ @Zse
theorem Zxd:@Zl8 = @Zse:=@Zan _ @Zse
def Zdz {R:Type} (N:Nat) (e_1:List V) (f_2:Fl) (x_3:Int) (nx:Int → Option R) (x_4:Int) (k0:Int → Option R):Option R :=
 (match decide (x_4 < (e_1.length:Int)) with
  | true=>(if 0 ≤ x_4 then Zbt (nth e_1 x_4.toNat) fun e3=>asInt .i64 e3 fun n4=>(match decide (n4 < x_3) with
   | true=>nx (IntKind.i64.wrap (x_4 + 1))
   | false=>k0 x_4) else none)
  | false=>k0 x_4)
def Zgt {R:Type} (N:Nat) (e_1:List V) (f_2:Fl) (x_3:Int) (k0:Int → Option R):Nat → Int → Option R
 | 0,_=>none
 | n + 1,x_4=>Zdz N e_1 f_2 x_3 (fun x_4=>Zgt N e_1 f_2 x_3 k0 n x_4) x_4 k0
def ZpS {R:Type} (N:Nat) (e_1:List V) (f_2:Fl) (x_3:Int) (k:List V → Option R):Option R :=
 Zgt N e_1 f_2 x_3
   (fun x5=>(match decide (x5 < (e_1.length:Int)) with
  | true=>(if 0 ≤ x5 then Zbt (nth e_1 x5.toNat) fun e6=>asInt .i64 e6 fun n7=>(match (n7 == x_3) with
   | true=>ZGf f_2 (k e_1)
   | false=>(if (0:Int) ≤ x5 ∧ x5 ≤ (e_1.length:Int) then Zaj (ZjY f_2.noOwn.noOwn ((e_1.take ((x5:Int).toNat)).drop 0)) ((if (0 + (((e_1.take ((x5:Int).toNat)).drop 0)).length) * 8 ≤ 140737488355328 then (if ((([]:List V) ++ (((e_1.take ((x5:Int).toNat)).drop 0)).map V.noOwn).length + 1) * 8 ≤ 140737488355328 then (if (0:Int) ≤ x5 ∧ x5 ≤ (e_1.length:Int) then Zaj (ZjY f_2.noOwn.noOwn ((e_1.take e_1.length).drop ((x5:Int).toNat))) ((if (((([]:List V) ++ (((e_1.take ((x5:Int).toNat)).drop 0)).map V.noOwn) ++ ([.int .i64 x_3]:List V)).length + (((e_1.take e_1.length).drop ((x5:Int).toNat))).length) * 8 ≤ 140737488355328 then k (((([]:List V) ++ (((e_1.take ((x5:Int).toNat)).drop 0)).map V.noOwn) ++ ([.int .i64 x_3]:List V)) ++ (((e_1.take e_1.length).drop ((x5:Int).toNat))).map V.noOwn) else none)) else none) else none) else none)) else none)) else none)
  | false=>(if (0:Int) ≤ x5 ∧ x5 ≤ (e_1.length:Int) then Zaj (ZjY f_2.noOwn.noOwn ((e_1.take ((x5:Int).toNat)).drop 0)) ((if (0 + (((e_1.take ((x5:Int).toNat)).drop 0)).length) * 8 ≤ 140737488355328 then (if ((([]:List V) ++ (((e_1.take ((x5:Int).toNat)).drop 0)).map V.noOwn).length + 1) * 8 ≤ 140737488355328 then (if (0:Int) ≤ x5 ∧ x5 ≤ (e_1.length:Int) then Zaj (ZjY f_2.noOwn.noOwn ((e_1.take e_1.length).drop ((x5:Int).toNat))) ((if (((([]:List V) ++ (((e_1.take ((x5:Int).toNat)).drop 0)).map V.noOwn) ++ ([.int .i64 x_3]:List V)).length + (((e_1.take e_1.length).drop ((x5:Int).toNat))).length) * 8 ≤ 140737488355328 then k (((([]:List V) ++ (((e_1.take ((x5:Int).toNat)).drop 0)).map V.noOwn) ++ ([.int .i64 x_3]:List V)) ++ (((e_1.take e_1.length).drop ((x5:Int).toNat))).map V.noOwn) else none)) else none) else none) else none)) else none)))
   N 0
def ZHD:=@ZaO _ @ZpS
theorem Zzj:@ZHD = @ZpS:=@Zan _ @ZpS
def Zdb {R:Type} (N:Nat) (rec_:(R:Type) → List V → Fl → Int → Int → List V → Fl → (List V → Option R) → Option R) (e_2:List V) (f_3:Fl) (x_4:Int) (e_6:List V) (f_7:Fl) (x_8:Int) (nx:List V → Int → Option R) (e_1:List V) (x_5:Int) (k0:List V → Option R):Option R :=
 (match decide (x_5 < x_4) with
  | true=>(if 0 ≤ x_5 then Zbt (nth e_2 x_5.toNat) fun e16=>Za1 e16 fun w17 n18=>rec_ R e_6 f_7.noOwn.noOwn x_8 n18 e_1 .sh fun e19=>nx e19 (IntKind.i64.wrap (x_5 + 1)) else none)
  | false=>k0 e_1)
def Zgs {R:Type} (N:Nat) (rec_:(R:Type) → List V → Fl → Int → Int → List V → Fl → (List V → Option R) → Option R) (e_2:List V) (f_3:Fl) (x_4:Int) (e_6:List V) (f_7:Fl) (x_8:Int) (k0:List V → Option R):Nat → List V → Int → Option R
 | 0,_,_=>none
 | n + 1,e_1,x_5=>Zdb N rec_ e_2 f_3 x_4 e_6 f_7 x_8 (fun e_1 x_5=>Zgs N rec_ e_2 f_3 x_4 e_6 f_7 x_8 k0 n e_1 x_5) e_1 x_5 k0
def ZzP {R:Type} (N:Nat) (rec_:(R:Type) → List V → Fl → Int → Int → List V → Fl → (List V → Option R) → Option R) (e_1:List V) (f_2:Fl) (x_3 x_4:Int) (e_5:List V) (f_6:Fl) (k:List V → Option R):Option R :=
 Zl8 N e_5 f_6.noOwn.noOwn x_4 fun b1=>(match b1 with
  | true=>ZGf f_6 (k e_5)
  | false=>ZHD N e_5 f_6.noOwn.noOwn x_4 fun e2=>(if 0 ≤ x_4 then Zbt (nth e_1 x_4.toNat) fun e3=>ZaB e3 fun n4 n5 n6 n7 n8 w9 e10 f11=>Zgs N rec_ e10 f11.noOwn (e10.length:Int) e_1 f_2 x_3
    (fun e20=>k e20)
    N e2 0 else none))
def ZKI (N:Nat):Nat → (R:Type) → List V → Fl → Int → Int → List V → Fl → (List V → Option R) → Option R
 | 0,_,_,_,_,_,_,_,_=>none
 | M + 1,_,e_1,f_2,x_3,x_4,e_5,f_6,k=>ZzP N (ZKI N M) e_1 f_2 x_3 x_4 e_5 f_6 k
def ZhA (N:Nat):Nat → (R:Type) → List V → Fl → Int → Int → List V → Fl → (List V → Option R) → Option R:=ZaO ZKI N
theorem ZAt (N:Nat) (R:Type) (e_1:List V) (f_2:Fl) (x_3 x_4:Int) (e_5:List V) (f_6:Fl) (k:List V → Option R):ZhA N 0 R e_1 f_2 x_3 x_4 e_5 f_6 k = none:=by unfold ZhA; rw [Zan]; rfl
theorem ZyC (N M:Nat) (R:Type) (e_1:List V) (f_2:Fl) (x_3 x_4:Int) (e_5:List V) (f_6:Fl) (k:List V → Option R):ZhA N (M + 1) R e_1 f_2 x_3 x_4 e_5 f_6 k = ZzP N (ZhA N M) e_1 f_2 x_3 x_4 e_5 f_6 k:=by unfold ZhA; rw [Zan]; rfl
def Zc5 {R:Type} (N:Nat) (x_1:Int) (e_3:List V) (f_4:Fl) (x_5 x_6:Int) (e_7:List V) (f_8:Fl) (x_9:Int) (e_11:List V) (f_12:Fl) (x_13 x_14 x_15 x_16 x_17 x_18:Int) (w_19:ByteArray) (e_20:List V) (f_21:Fl) (nx:Int → Int → Option R) (x_2 x_10:Int) (k0:Int → Option R):Option R :=
 (match decide (x_10 < x_9) with
  | true=>(if 0 ≤ x_10 then Zbt (nth e_7 x_10.toNat) fun e13=>Za1 e13 fun w14 n15=>(match (n15 == x_1) with
   | true=>nx (IntKind.i64.wrap (x_2 + 1)) (IntKind.i64.wrap (x_10 + 1))
   | false=>nx x_2 (IntKind.i64.wrap (x_10 + 1))) else none)
  | false=>k0 x_2)
def ZfQ {R:Type} (N:Nat) (x_1:Int) (e_3:List V) (f_4:Fl) (x_5 x_6:Int) (e_7:List V) (f_8:Fl) (x_9:Int) (e_11:List V) (f_12:Fl) (x_13 x_14 x_15 x_16 x_17 x_18:Int) (w_19:ByteArray) (e_20:List V) (f_21:Fl) (k0:Int → Option R):Nat → Int → Int → Option R
 | 0,_,_=>none
 | n + 1,x_2,x_10=>Zc5 N x_1 e_3 f_4 x_5 x_6 e_7 f_8 x_9 e_11 f_12 x_13 x_14 x_15 x_16 x_17 x_18 w_19 e_20 f_21 (fun x_2 x_10=>ZfQ N x_1 e_3 f_4 x_5 x_6 e_7 f_8 x_9 e_11 f_12 x_13 x_14 x_15 x_16 x_17 x_18 w_19 e_20 f_21 k0 n x_2 x_10) x_2 x_10 k0
def ZdA {R:Type} (N:Nat) (x_1:Int) (e_3:List V) (f_4:Fl) (x_5:Int) (e_7:List V) (f_8:Fl) (x_9:Int) (nx:Int → Int → Option R) (x_2 x_6:Int) (k0:Int → Option R):Option R :=
 (match decide (x_6 < x_5) with
  | true=>(if 0 ≤ x_6 then Zbt (nth e_3 x_6.toNat) fun e17=>ZaB e17 fun n18 n19 n20 n21 n22 w23 e24 f25=>ZfQ N x_1 e_3 f_4 x_5 x_6 e24 f25.noOwn.noOwn (e24.length:Int) e_7 f_8 x_9 n18 n19 n20 n21 n22 w23 e24 f25.noOwn
    (fun x26=>nx x26 (IntKind.i64.wrap (x_6 + 1)))
    N x_2 0 else none)
  | false=>k0 x_2)
def ZgD {R:Type} (N:Nat) (x_1:Int) (e_3:List V) (f_4:Fl) (x_5:Int) (e_7:List V) (f_8:Fl) (x_9:Int) (k0:Int → Option R):Nat → Int → Int → Option R
 | 0,_,_=>none
 | n + 1,x_2,x_6=>ZdA N x_1 e_3 f_4 x_5 e_7 f_8 x_9 (fun x_2 x_6=>ZgD N x_1 e_3 f_4 x_5 e_7 f_8 x_9 k0 n x_2 x_6) x_2 x_6 k0
def Zs7 {R:Type} (N:Nat) (e_1:List V) (f_2:Fl) (x_3 x_4:Int) (k:Int → Option R):Option R :=
 ZgD N x_4 e_1 f_2.noOwn (e_1.length:Int) e_1 f_2 x_3
   (fun x27=>k x27)
   N 0 0
def ZIY:=@ZaO _ @Zs7
theorem ZyA:@ZIY = @Zs7:=@Zan _ @Zs7
def ZdD {R:Type} (N:Nat) (e_1:List V) (f_2:Fl) (x_3:Int) (e_5:List V) (f_6:Fl) (x_7:Int) (nx:Int → Option R) (x_4:Int) (k0:Unit → Option R) (k1:Unit → Option R):Option R :=
 (match decide (x_4 < x_3) with
  | true=>(if 0 ≤ x_4 then Zbt (nth e_1 x_4.toNat) fun e23=>ZaB e23 fun n24 n25 n26 n27 n28 w29 e30 f31=>ZJf N e_5 f_6.noOwn.noOwn x_7 n24 n25 n26 n27 n28 w29 e30 f31.noOwn.noOwn.noOwn fun b32=>(match (!b32) with
   | true=>k0 ()
   | false=>nx (IntKind.i64.wrap (x_4 + 1))) else none)
  | false=>k1 ())
def ZgL {R:Type} (N:Nat) (e_1:List V) (f_2:Fl) (x_3:Int) (e_5:List V) (f_6:Fl) (x_7:Int) (k0:Unit → Option R) (k1:Unit → Option R):Nat → Int → Option R
 | 0,_=>none
 | n + 1,x_4=>ZdD N e_1 f_2 x_3 e_5 f_6 x_7 (fun x_4=>ZgL N e_1 f_2 x_3 e_5 f_6 x_7 k0 k1 n x_4) x_4 k0 k1
def Zdj {R:Type} (N:Nat) (e_1 e_2:List V) (f_3:Fl) (x_4:Int) (e_6:List V) (f_7:Fl) (x_8:Int) (nx:Int → Option R) (x_5:Int) (k0:Unit → Option R) (k1:Unit → Option R):Option R :=
 (match decide (x_5 < x_4) with
  | true=>(if 0 ≤ x_5 then Zbt (nth e_2 x_5.toNat) fun e50=>ZaB e50 fun n51 n52 n53 n54 n55 w56 e57 f58=>ZIY N e_6 f_7.noOwn.noOwn x_8 x_5 fun x59=>(match (x_5 == 0) with
   | true=>(match decide (x59 > 0) with
   | true=>k0 ()
   | false=>(match decide (x_5 > 0) with
    | true=>(match (n51 == 2) with
    | true=>(match (x59 != 1) with
     | true=>k0 ()
     | false=>(match (n51 != 0) with
     | true=>Zl8 N e_1 .sh x_5 fun b60=>(match (!b60) with
      | true=>k0 ()
      | false=>nx (IntKind.i64.wrap (x_5 + 1)))
     | false=>nx (IntKind.i64.wrap (x_5 + 1))))
    | false=>(match (n51 != 0) with
     | true=>Zl8 N e_1 .sh x_5 fun b61=>(match (!b61) with
     | true=>k0 ()
     | false=>nx (IntKind.i64.wrap (x_5 + 1)))
     | false=>nx (IntKind.i64.wrap (x_5 + 1))))
    | false=>(match (n51 != 0) with
    | true=>Zl8 N e_1 .sh x_5 fun b62=>(match (!b62) with
     | true=>k0 ()
     | false=>nx (IntKind.i64.wrap (x_5 + 1)))
    | false=>nx (IntKind.i64.wrap (x_5 + 1)))))
   | false=>(match decide (x_5 > 0) with
   | true=>(match (n51 == 2) with
    | true=>(match (x59 != 1) with
    | true=>k0 ()
    | false=>(match (n51 != 0) with
     | true=>Zl8 N e_1 .sh x_5 fun b63=>(match (!b63) with
     | true=>k0 ()
     | false=>nx (IntKind.i64.wrap (x_5 + 1)))
     | false=>nx (IntKind.i64.wrap (x_5 + 1))))
    | false=>(match (n51 != 0) with
    | true=>Zl8 N e_1 .sh x_5 fun b64=>(match (!b64) with
     | true=>k0 ()
     | false=>nx (IntKind.i64.wrap (x_5 + 1)))
    | false=>nx (IntKind.i64.wrap (x_5 + 1))))
   | false=>(match (n51 != 0) with
    | true=>Zl8 N e_1 .sh x_5 fun b65=>(match (!b65) with
    | true=>k0 ()
    | false=>nx (IntKind.i64.wrap (x_5 + 1)))
    | false=>nx (IntKind.i64.wrap (x_5 + 1))))) else none)
  | false=>k1 ())
def Zg7 {R:Type} (N:Nat) (e_1 e_2:List V) (f_3:Fl) (x_4:Int) (e_6:List V) (f_7:Fl) (x_8:Int) (k0:Unit → Option R) (k1:Unit → Option R):Nat → Int → Option R
 | 0,_=>none
 | n + 1,x_5=>Zdj N e_1 e_2 f_3 x_4 e_6 f_7 x_8 (fun x_5=>Zg7 N e_1 e_2 f_3 x_4 e_6 f_7 x_8 k0 k1 n x_5) x_5 k0 k1
def Zrv {R:Type} (N:Nat) (e_1:List V) (f_2:Fl) (x_3:Int) (k:Bool → Option R):Option R :=
 ZgO N (e_1.length:Int) 1 40 fun b1=>(match (!b1) with
  | true=>k false
  | false=>ZgO N x_3 0 1000 fun b2=>(match (!b2) with
  | true=>k false
  | false=>ZIT N e_1 f_2.noOwn.noOwn.noOwn.noOwn x_3 fun x3=>(match decide (x3 > x_3) with
   | true=>k false
   | false=>Zbt (nth e_1 0) fun e4=>ZaB e4 fun n5 n6 n7 n8 n9 w10 e11 f12=>(match (n5 != 2) with
   | true=>k false
   | false=>ZgL N e_1 f_2.noOwn (e_1.length:Int) e_1 f_2 x_3
     (fun (_:Unit)=>k false)
     (fun (_:Unit)=>ZhA N N R e_1 f_2.noOwn.noOwn x_3 0 [] .sh fun e33=>Zg7 N e33 e_1 f_2.noOwn (e_1.length:Int) e_1 f_2 x_3
      (fun (_:Unit)=>k false)
      (fun (_:Unit)=>k true)
      N 0)
     N 0))))
def ZHe:=@ZaO _ @Zrv
theorem Zyg:@ZHe = @Zrv:=@Zan _ @Zrv
def ZqD {R:Type} (N:Nat) (x_1 x_2:Int) (k:Bool → Option R):Option R :=
 ZgO N x_1 0 99 fun b1=>(match b1 with
  | true=>ZgO N x_2 0 99 fun b2=>k b2
  | false=>k false)
def ZMK:=@ZaO _ @ZqD
theorem Zw4:@ZMK = @ZqD:=@Zan _ @ZqD
def Zp0 {R:Type} (N:Nat) (e_1:List V) (f_2:Fl) (x_3 x_4 x_5:Int) (k:Bool → Option R):Option R :=
 ZHe N e_1 f_2.noOwn.noOwn x_3 fun b1=>(match b1 with
  | true=>ZMK N x_4 x_5 fun b2=>k b2
  | false=>k false)
def ZIJ:=@ZaO _ @Zp0
theorem Zw3:@ZIJ = @Zp0:=@Zan _ @Zp0
def ZsT {R:Type} (N:Nat) (w_1:ByteArray) (k:Bool → Option R):Option R :=
 ZEE N w_1 fun b1=>(match b1 with
  | true=>ZcV w_1 0 fun n2=>k (n2 == 47)
  | false=>k false)
def ZJF:=@ZaO _ @ZsT
theorem Zyp:@ZJF = @ZsT:=@Zan _ @ZsT
def ZsJ {R:Type} (N:Nat) (x_1 x_2 x_3 x_4 x_5 x_6:Int) (k:Bool → Option R):Option R :=
 (match (x_1 == 0) with
  | true=>k true
  | false=>(match (x_1 == x_4) with
  | true=>k (IntKind.i64.wrap (BitVec.ofInt IntKind.i64.bits (Int.fdiv x_3 (2 ^ (min (6:Int).toNat 64))) &&& BitVec.ofInt IntKind.i64.bits x_6).toNat == x_6)
  | false=>(match (x_2 == x_5) with
   | true=>k (IntKind.i64.wrap (BitVec.ofInt IntKind.i64.bits (IntKind.i64.wrap (BitVec.ofInt IntKind.i64.bits (Int.fdiv x_3 (2 ^ (min (3:Int).toNat 64))) &&& BitVec.ofInt IntKind.i64.bits 7).toNat) &&& BitVec.ofInt IntKind.i64.bits x_6).toNat == x_6)
   | false=>k (IntKind.i64.wrap (BitVec.ofInt IntKind.i64.bits (IntKind.i64.wrap (BitVec.ofInt IntKind.i64.bits x_3 &&& BitVec.ofInt IntKind.i64.bits 7).toNat) &&& BitVec.ofInt IntKind.i64.bits x_6).toNat == x_6))))
def ZGY:=@ZaO _ @ZsJ
theorem Zw5:@ZGY = @ZsJ:=@Zan _ @ZsJ
def Zmq {R:Type} (N:Nat) (e_1:List V) (f_2:Fl) (x_3 x_4 x_5 x_6 x_7:Int) (k:Bool → Option R):Option R :=
 (if 0 ≤ x_6 then Zbt (nth e_1 x_6.toNat) fun e1=>ZaB e1 fun n2 n3 n4 n5 n6 w7 e8 f9=>ZGY N x_4 x_5 n3 n4 n5 x_7 fun b10=>k b10 else none)
def ZDz:=@ZaO _ @Zmq
theorem ZnZ:@ZDz = @Zmq:=@Zan _ @Zmq
def Zdw {R:Type} (N:Nat) (x_1 x_2:Int) (e_3:List V) (f_4:Fl) (x_5 x_6:Int) (e_7:List V) (f_8:Fl) (x_9:Int) (e_11:List V) (f_12:Fl) (x_13 x_14 x_15 x_16 x_17 x_18:Int) (w_19:ByteArray) (e_20:List V) (f_21:Fl) (nx:Int → Option R) (x_10:Int) (k0:Unit → Option R) (k1:Unit → Option R):Option R :=
 (match decide (x_10 < x_9) with
  | true=>(if 0 ≤ x_10 then Zbt (nth e_7 x_10.toNat) fun e13=>Za1 e13 fun w14 n15=>(match (n15 == x_1) with
   | true=>k0 ()
   | false=>nx (IntKind.i64.wrap (x_10 + 1))) else none)
  | false=>k1 ())
def ZfU {R:Type} (N:Nat) (x_1 x_2:Int) (e_3:List V) (f_4:Fl) (x_5 x_6:Int) (e_7:List V) (f_8:Fl) (x_9:Int) (e_11:List V) (f_12:Fl) (x_13 x_14 x_15 x_16 x_17 x_18:Int) (w_19:ByteArray) (e_20:List V) (f_21:Fl) (k0:Unit → Option R) (k1:Unit → Option R):Nat → Int → Option R
 | 0,_=>none
 | n + 1,x_10=>Zdw N x_1 x_2 e_3 f_4 x_5 x_6 e_7 f_8 x_9 e_11 f_12 x_13 x_14 x_15 x_16 x_17 x_18 w_19 e_20 f_21 (fun x_10=>ZfU N x_1 x_2 e_3 f_4 x_5 x_6 e_7 f_8 x_9 e_11 f_12 x_13 x_14 x_15 x_16 x_17 x_18 w_19 e_20 f_21 k0 k1 n x_10) x_10 k0 k1
def Zdv {R:Type} (N:Nat) (x_1:Int) (e_2:List V) (f_3:Fl) (x_4:Int) (e_6:List V) (f_7:Fl) (x_8:Int) (nx:Int → Option R) (x_5:Int) (k0:Int → Option R) (k1:Unit → Option R):Option R :=
 (match decide (x_5 < x_4) with
  | true=>(if 0 ≤ x_5 then Zbt (nth e_2 x_5.toNat) fun e16=>ZaB e16 fun n17 n18 n19 n20 n21 w22 e23 f24=>ZfU N x_1 x_5 e_2 f_3 x_4 x_5 e23 f24.noOwn.noOwn (e23.length:Int) e_6 f_7 x_8 n17 n18 n19 n20 n21 w22 e23 f24.noOwn
    (fun (_:Unit)=>k0 x_5)
    (fun (_:Unit)=>nx (IntKind.i64.wrap (x_5 + 1)))
    N 0 else none)
  | false=>k1 ())
def Zg0 {R:Type} (N:Nat) (x_1:Int) (e_2:List V) (f_3:Fl) (x_4:Int) (e_6:List V) (f_7:Fl) (x_8:Int) (k0:Int → Option R) (k1:Unit → Option R):Nat → Int → Option R
 | 0,_=>none
 | n + 1,x_5=>Zdv N x_1 e_2 f_3 x_4 e_6 f_7 x_8 (fun x_5=>Zg0 N x_1 e_2 f_3 x_4 e_6 f_7 x_8 k0 k1 n x_5) x_5 k0 k1
def ZqR {R:Type} (N:Nat) (e_1:List V) (f_2:Fl) (x_3 x_4:Int) (k:Int → Option R):Option R :=
 Zg0 N x_4 e_1 f_2.noOwn (e_1.length:Int) e_1 f_2 x_3
   (fun x25=>k x25)
   (fun (_:Unit)=>k 0)
   N 0
def ZHS:=@ZaO _ @ZqR
theorem Zy6:@ZHS = @ZqR:=@Zan _ @ZqR
def Zdu {R:Type} (N:Nat) (w_1:ByteArray) (e_2:List V) (f_3:Fl) (x_4:Int) (nx:Int → Option R) (x_5:Int) (k0:Int → Option R) (k1:Unit → Option R):Option R :=
 (match decide (x_5 < x_4) with
  | true=>(if 0 ≤ x_5 then Zbt (nth e_2 x_5.toNat) fun e4=>Za1 e4 fun w5 n6=>(match (w5.toList == w_1.toList) with
   | true=>k0 n6
   | false=>nx (IntKind.i64.wrap (x_5 + 1))) else none)
  | false=>k1 ())
def Zgu {R:Type} (N:Nat) (w_1:ByteArray) (e_2:List V) (f_3:Fl) (x_4:Int) (k0:Int → Option R) (k1:Unit → Option R):Nat → Int → Option R
 | 0,_=>none
 | n + 1,x_5=>Zdu N w_1 e_2 f_3 x_4 (fun x_5=>Zgu N w_1 e_2 f_3 x_4 k0 k1 n x_5) x_5 k0 k1
def ZpV {R:Type} (N:Nat) (e_1:List V) (f_2:Fl) (w_3:ByteArray) (k:Int → Option R):Option R :=
 Zgu N w_3 e_1 f_2.noOwn (e_1.length:Int)
   (fun x7=>k x7)
   (fun (_:Unit)=>k (-1))
   N 0
def ZJD:=@ZaO _ @ZpV
theorem Zy7:@ZJD = @ZpV:=@Zan _ @ZpV
def Zry {R:Type} (N:Nat) (b_1:Bool) (e_2:List V) (f_3:Fl) (x_4 x_5 x_6 x_7:Int) (e_8:List V) (f_9:Fl) (x_10:Int) (k:Int → List V → Fl → Int → Int → Int → Int → List V → Fl → Int → Option R):Option R :=
 (if 0 ≤ x_7 then Zbt (nth e_2 x_7.toNat) fun e1=>ZaB e1 fun n2 n3 n4 n5 n6 w7 e8 f9=>(match (n2 != 2) with
  | true=>k 3 e_2 f_3 x_4 x_5 x_6 x_7 e_8 f_9 x_10
  | false=>ZDz N e_2 f_3.noOwn.noOwn.noOwn.noOwn x_4 x_5 x_6 x_7 1 fun b10=>(match (!b10) with
   | true=>k 4 e_2 f_3 x_4 x_5 x_6 x_7 e_8 f_9 x_10
   | false=>Zbt (nth e_8 0) fun e11=>Zby e11 fun w12=>(if (0:Int) ≤ 1 ∧ 1 ≤ (e_8.length:Int) then (match (w12.toList == (ByteArray.mk #[46]).toList) with
    | true=>k 0 e_2 f_3 x_4 x_5 x_6 x_7 ((e_8.take e_8.length).drop 1) f_9.noOwn.noOwn x_10
    | false=>(match (w12.toList == (ByteArray.mk #[46,46]).toList) with
    | true=>ZHS N e_2 f_3.noOwn.noOwn.noOwn.noOwn x_4 x_7 fun x13=>k 0 e_2 f_3 x_4 x_5 x_6 x13 ((e_8.take e_8.length).drop 1) f_9.noOwn.noOwn x_10
    | false=>ZJD N e8 f9.noOwn.noOwn.noOwn.noOwn w12 fun x14=>(match decide (x14 < 0) with
     | true=>k 2 e_2 f_3 x_4 x_5 x_6 x_7 ((e_8.take e_8.length).drop 1) f_9.noOwn.noOwn x_10
     | false=>(if 0 ≤ x14 then Zbt (nth e_2 x14.toNat) fun e15=>ZaB e15 fun n16 n17 n18 n19 n20 w21 e22 f23=>(match (n16 != 3) with
      | true=>k 0 e_2 f_3 x_4 x_5 x_6 x14 ((e_8.take e_8.length).drop 1) f_9.noOwn.noOwn x_10
      | false=>(match ((((e_8.take e_8.length).drop 1).length:Int) == 0) with
      | true=>(match (!b_1) with
       | true=>k 0 e_2 f_3 x_4 x_5 x_6 x14 ((e_8.take e_8.length).drop 1) f_9.noOwn.noOwn x_10
       | false=>(match (x_10 == 8) with
       | true=>k 5 e_2 f_3 x_4 x_5 x_6 x_7 ((e_8.take e_8.length).drop 1) f_9.noOwn.noOwn x_10
       | false=>Zra N w21 fun e24=>Zaj (ZjY f_9.noOwn.noOwn.noOwn.noOwn ((e_8.take e_8.length).drop 1)) ((if (e24.length + (((e_8.take e_8.length).drop 1)).length) * 16 ≤ 140737488355328 then ZcV w21 0 fun n25=>(match (n25 == 47) with
         | true=>k 0 e_2 f_3 x_4 x_5 x_6 0 (e24 ++ (((e_8.take e_8.length).drop 1)).map V.noOwn) (.own 9) (IntKind.i64.wrap (x_10 + 1))
         | false=>k 0 e_2 f_3 x_4 x_5 x_6 x_7 (e24 ++ (((e_8.take e_8.length).drop 1)).map V.noOwn) (.own 9) (IntKind.i64.wrap (x_10 + 1))) else none))))
      | false=>(match (x_10 == 8) with
       | true=>k 5 e_2 f_3 x_4 x_5 x_6 x_7 ((e_8.take e_8.length).drop 1) f_9.noOwn.noOwn x_10
       | false=>Zra N w21 fun e26=>Zaj (ZjY f_9.noOwn.noOwn.noOwn.noOwn ((e_8.take e_8.length).drop 1)) ((if (e26.length + (((e_8.take e_8.length).drop 1)).length) * 16 ≤ 140737488355328 then ZcV w21 0 fun n27=>(match (n27 == 47) with
        | true=>k 0 e_2 f_3 x_4 x_5 x_6 0 (e26 ++ (((e_8.take e_8.length).drop 1)).map V.noOwn) (.own 9) (IntKind.i64.wrap (x_10 + 1))
        | false=>k 0 e_2 f_3 x_4 x_5 x_6 x_7 (e26 ++ (((e_8.take e_8.length).drop 1)).map V.noOwn) (.own 9) (IntKind.i64.wrap (x_10 + 1))) else none))))) else none)))) else none))) else none)
def ZCq:=@ZaO _ @Zry
theorem ZwQ:@ZCq = @Zry:=@Zan _ @Zry
def Zel {R:Type} (N:Nat) (b_1 b_2:Bool) (e_3:List V) (f_4:Fl) (x_5 x_6 x_7:Int) (nx:List V → Fl → Int → Int → Int → Int → List V → Fl → Int → Option R) (e_8:List V) (f_9:Fl) (x_10 x_11 x_12 x_13:Int) (e_14:List V) (f_16:Fl) (x_15:Int) (k0:Int → List V → Fl → Int → Int → Int → Int → List V → Fl → Int → Option R) (k1:List V → Fl → Int → Int → Int → Int → List V → Fl → Int → Option R):Option R :=
 (match decide ((e_14.length:Int) > 0) with
  | true=>(match b_1 with
  | true=>ZCq N true e_8 f_9 x_10 x_11 x_12 x_13 e_14 f_16 x_15 fun x24 e25 f26 x27 x28 x29 x30 e31 f32 x33=>(match (x24 != 0) with
   | true=>k0 x24 e25 f26 x27 x28 x29 x30 e31 f32 x33
   | false=>nx e25 f26 x27 x28 x29 x30 e31 f32 x33)
  | false=>ZCq N b_2 e_8 f_9 x_10 x_11 x_12 x_13 e_14 f_16 x_15 fun x34 e35 f36 x37 x38 x39 x40 e41 f42 x43=>(match (x34 != 0) with
   | true=>k0 x34 e35 f36 x37 x38 x39 x40 e41 f42 x43
   | false=>nx e35 f36 x37 x38 x39 x40 e41 f42 x43))
  | false=>k1 e_8 f_9 x_10 x_11 x_12 x_13 e_14 f_16 x_15)
def Ze4 {R:Type} (N:Nat) (b_1 b_2:Bool) (e_3:List V) (f_4:Fl) (x_5 x_6 x_7:Int) (k0:Int → List V → Fl → Int → Int → Int → Int → List V → Fl → Int → Option R) (k1:List V → Fl → Int → Int → Int → Int → List V → Fl → Int → Option R):Nat → List V → Fl → Int → Int → Int → Int → List V → Fl → Int → Option R
 | 0,_,_,_,_,_,_,_,_,_=>none
 | n + 1,e_8,f_9,x_10,x_11,x_12,x_13,e_14,f_16,x_15=>Zel N b_1 b_2 e_3 f_4 x_5 x_6 x_7 (fun e_8 f_9 x_10 x_11 x_12 x_13 e_14 f_16 x_15=>Ze4 N b_1 b_2 e_3 f_4 x_5 x_6 x_7 k0 k1 n e_8 f_9 x_10 x_11 x_12 x_13 e_14 f_16 x_15) e_8 f_9 x_10 x_11 x_12 x_13 e_14 f_16 x_15 k0 k1
def Zrc {R:Type} (N:Nat) (e_1:List V) (f_2:Fl) (x_3 x_4 x_5:Int) (w_6:ByteArray) (b_7:Bool) (k:Int → Int → Option R):Option R :=
 ZJF N w_6 fun b1=>(match (!b1) with
  | true=>k 0 1
  | false=>ZcV w_6 (IntKind.i64.wrap ((w_6.size:Int) - 1)) fun n2=>Zra N w_6 fun e3=>Ze4 N b_7 (n2 == 47) e_1 f_2 x_3 x_4 x_5
    (fun x44 e45 f46 x47 x48 x49 x50 e51 f52 x53=>k 0 x44)
    (fun e54 f55 x56 x57 x58 x59 e60 f61 x62=>(match (n2 == 47) with
   | true=>(if 0 ≤ x59 then Zbt (nth e_1 x59.toNat) fun e63=>ZaB e63 fun n64 n65 n66 n67 n68 w69 e70 f71=>(match (n64 != 2) with
    | true=>k 0 3
    | false=>k x59 0) else none)
   | false=>k x59 0))
    N e_1 f_2.noOwn.noOwn.noOwn x_3 x_4 x_5 0 e3 .sh 0)
def ZIk:=@ZaO _ @Zrc
theorem ZzA:@ZIk = @Zrc:=@Zan _ @Zrc
def ZsP {R:Type} (N:Nat) (e_1:List V) (f_2:Fl) (x_3 x_4 x_5:Int) (w_6:ByteArray) (k:Int → Int → Option R):Option R :=
 ZIk N e_1 f_2.noOwn.noOwn x_3 x_4 x_5 w_6 true fun x1 x2=>(match (x2 == 0) with
  | true=>(if 0 ≤ x1 then Zbt (nth e_1 x1.toNat) fun e3=>ZaB e3 fun n4 n5 n6 n7 n8 w9 e10 f11=>(match (n4 != 2) with
   | true=>k 0 3
   | false=>k x1 x2) else none)
  | false=>k x1 x2)
def ZJw:=@ZaO _ @ZsP
theorem ZxV:@ZJw = @ZsP:=@Zan _ @ZsP
def ZdG {R:Type} (N:Nat) (e_2:List V) (f_3:Fl) (x_4:Int) (e_6:List V) (f_7:Fl) (x_8 x_9 x_10:Int) (nx:List V → Int → Option R) (e_1:List V) (x_5:Int) (k0:List V → Option R):Option R :=
 (match decide (x_5 < x_4) with
  | true=>(if 0 ≤ x_5 then Zbt (nth e_2 x_5.toNat) fun e17=>Za1 e17 fun w18 n19=>(if (e_1.length + 1) * 16 ≤ 140737488355328 then nx (e_1 ++ ([.str w18]:List V)) (IntKind.i64.wrap (x_5 + 1)) else none) else none)
  | false=>k0 e_1)
def ZeX {R:Type} (N:Nat) (e_2:List V) (f_3:Fl) (x_4:Int) (e_6:List V) (f_7:Fl) (x_8 x_9 x_10:Int) (k0:List V → Option R):Nat → List V → Int → Option R
 | 0,_,_=>none
 | n + 1,e_1,x_5=>ZdG N e_2 f_3 x_4 e_6 f_7 x_8 x_9 x_10 (fun e_1 x_5=>ZeX N e_2 f_3 x_4 e_6 f_7 x_8 x_9 x_10 k0 n e_1 x_5) e_1 x_5 k0
def Zp3 {R:Type} (N:Nat) (e_1:List V) (f_2:Fl) (x_3 x_4 x_5:Int) (w_6:ByteArray) (k:List V → Int → Bool → Option R):Option R :=
 ZIJ N e_1 f_2.noOwn.noOwn x_3 x_4 x_5 fun b1=>(match (!b1) with
  | true=>k [] 0 false
  | false=>ZJw N e_1 f_2.noOwn.noOwn x_3 x_4 x_5 w_6 fun x2 x3=>(match (x3 == 0) with
  | true=>ZDz N e_1 f_2.noOwn.noOwn x_3 x_4 x_5 x2 4 fun b4=>(match (!b4) with
   | true=>k [] 4 true
   | false=>(match (x3 != 0) with
   | true=>k [] x3 true
   | false=>(if 0 ≤ x2 then Zbt (nth e_1 x2.toNat) fun e5=>ZaB e5 fun n6 n7 n8 n9 n10 w11 e12 f13=>ZeX N e12 f13.noOwn (e12.length:Int) e_1 f_2 x_3 x_4 x_5
      (fun e20=>k e20 0 true)
      N [] 0 else none)))
  | false=>(match (x3 != 0) with
   | true=>k [] x3 true
   | false=>(if 0 ≤ x2 then Zbt (nth e_1 x2.toNat) fun e21=>ZaB e21 fun n22 n23 n24 n25 n26 w27 e28 f29=>ZeX N e28 f29.noOwn (e28.length:Int) e_1 f_2 x_3 x_4 x_5
     (fun e30=>k e30 0 true)
     N [] 0 else none))))
def ZHJ:=@ZaO _ @Zp3
theorem ZyM:@ZHJ = @Zp3:=@Zan _ @Zp3
def Zzk {R:Type} (N:Nat) (w_1:ByteArray) (x_2:Int) (k:ByteArray → Int → Option R):Option R :=
 k w_1 x_2
def ZHq:=@ZaO _ @Zzk
theorem Zx0:@ZHq = @Zzk:=@Zan _ @Zzk
def ZdI {R:Type} (N:Nat) (e_1:List V) (f_2:Fl) (k_3:Nat) (nx:Int → List V → Option R) (x_4:Int) (e_5:List V) (k0:List V → Option R):Option R :=
 (match decide (x_4 < (e_1.length:Int)) with
  | true=>(if 0 ≤ x_4 then Zbt (nth e_1 x_4.toNat) fun e8=>Zci e8 fun w9 n10=>ZHq N w9 n10 fun w11 x12=>(if (0:Int) ≤ x_4 ∧ x_4 < k_3 then (match nth e_5 (0 + x_4.toNat) with
   | some e13=>(match ZaM e13 0 [.str w11,.int .i64 x12] with
    | some e14=>nx (IntKind.i64.wrap (x_4 + 1)) (Zav e_5 (0 + x_4.toNat) e14)
    | none=>none)
   | none=>none) else none) else none)
  | false=>k0 e_5)
def ZfR {R:Type} (N:Nat) (e_1:List V) (f_2:Fl) (k_3:Nat) (k0:List V → Option R):Nat → Int → List V → Option R
 | 0,_,_=>none
 | n + 1,x_4,e_5=>ZdI N e_1 f_2 k_3 (fun x_4 e_5=>ZfR N e_1 f_2 k_3 k0 n x_4 e_5) x_4 e_5 k0
def Zrg {R:Type} (N:Nat) (e_1:List V) (f_2:Fl) (k:Nat → List V → Option R):Option R :=
 (if 0 ≤ (e_1.length:Int) ∧ (e_1.length:Int) = (e_1.length:Int) ∧ (e_1.length:Int) * 24 ≤ 140737488355328 then ZfR N e_1 f_2 (((e_1.length:Int)).toNat)
    (fun e15=>Zaj (Zb1 e15 && true) (k (((e_1.length:Int)).toNat) e15))
    N 0 (List.replicate (((e_1.length:Int)).toNat) (.agg [.str (ByteArray.mk #[]),.int .i64 0])) else none)
def ZIA:=@ZaO _ @Zrg
theorem Zy2:@ZIA = @Zrg:=@Zan _ @Zrg
def Zs6 {R:Type} (N:Nat) (x_1 x_2 x_3 x_4 x_5:Int) (w_6:ByteArray) (e_7:List V) (f_8:Fl) (k:Int → Int → Int → Int → Int → ByteArray → Nat → List V → Option R):Option R :=
 ZIA N e_7 f_8.noOwn.noOwn fun k1 e2=>Zaj (Zb1 e2 && true) (k x_1 x_2 x_3 x_4 x_5 w_6 k1 e2)
def ZIt:=@ZaO _ @Zs6
theorem Zw1:@ZIt = @Zs6:=@Zan _ @Zs6
def Zc9 {R:Type} (N:Nat) (e_1:List V) (f_2:Fl) (k_3:Nat) (nx:Int → List V → Option R) (x_4:Int) (e_5:List V) (k0:List V → Option R):Option R :=
 (match decide (x_4 < (e_1.length:Int)) with
  | true=>(if 0 ≤ x_4 then Zbt (nth e_1 x_4.toNat) fun e20=>Zcr e20 fun n21 n22 n23 n24 n25 w26 e27 f28=>ZIt N n21 n22 n23 n24 n25 w26 e27 f28.noOwn.noOwn fun x29 x30 x31 x32 x33 w34 k35 e36=>(if (0:Int) ≤ x_4 ∧ x_4 < k_3 then Zaj (decide (0 + k35 ≤ e36.length)) <|
     Zaj (((e36.drop 0).take k35).all V.scalE) ((match nth e_5 (0 + x_4.toNat) with
    | some e37=>(match ZaM e37 0 [.int .i64 x29,.int .i64 x30,.int .i64 x31,.int .i64 x32,.int .i64 x33,.str w34,.uni 51 2 ((e36.drop 0).take k35)] with
    | some e38=>nx (IntKind.i64.wrap (x_4 + 1)) ((Zav e_5 (0 + x_4.toNat) e38).map (trimV 1))
    | none=>none)
    | none=>none)) else none) else none)
  | false=>k0 (e_5.map (trimV 1)))
def Zfl {R:Type} (N:Nat) (e_1:List V) (f_2:Fl) (k_3:Nat) (k0:List V → Option R):Nat → Int → List V → Option R
 | 0,_,_=>none
 | n + 1,x_4,e_5=>Zc9 N e_1 f_2 k_3 (fun x_4 e_5=>Zfl N e_1 f_2 k_3 k0 n x_4 e_5) x_4 e_5 k0
def ZsB {R:Type} (N:Nat) (e_1:List V) (f_2:Fl) (k:Nat → List V → Option R):Option R :=
 (if 0 ≤ (e_1.length:Int) ∧ (e_1.length:Int) = (e_1.length:Int) ∧ (e_1.length:Int) * 80 ≤ 140737488355328 then Zfl N e_1 f_2 (((e_1.length:Int)).toNat)
    (fun e39=>Zaj (Zb1 e39 && true) (k (((e_1.length:Int)).toNat) e39))
    N 0 (List.replicate (((e_1.length:Int)).toNat) (.agg [.int .i64 0,.int .i64 0,.int .i64 0,.int .i64 0,.int .i64 0,.str (ByteArray.mk #[]),.uni 51 2 []])) else none)
def ZI8:=@ZaO _ @ZsB
theorem ZyO:@ZI8 = @ZsB:=@Zan _ @ZsB
def ZrK {R:Type} (N:Nat) (e_1:List V) (f_2:Fl) (x_3:Int) (k:Nat → Int → List V → Option R):Option R :=
 ZI8 N e_1 f_2.noOwn.noOwn fun k1 e2=>Zaj (Zb1 e2 && true) (k k1 x_3 e2)
def Zvr:=@ZaO _ @ZrK
theorem Zx6:@Zvr = @ZrK:=@Zan _ @ZrK
def ZyS {R:Type} (N:Nat) (x_1 x_2:Int) (k:Int → Int → Option R):Option R :=
 k x_1 x_2
def ZAL:=@ZaO _ @ZyS
theorem Zzx:@ZAL = @ZyS:=@Zan _ @ZyS
def Zq2 {R:Type} (N:Nat) (x_1 x_2 x_3:Int) (k:Bool → Option R):Option R :=
 (match decide (x_1 ≥ x_2) with
  | true=>k (decide (x_1 ≤ x_3))
  | false=>k false)
def Zjh:=@ZaO _ @Zq2
theorem ZzS:@Zjh = @Zq2:=@Zan _ @Zq2
def Zq9 {R:Type} (N:Nat) (x_1:Int) (k:Bool → Option R):Option R :=
 Zjh N x_1 0 1000 fun b1=>k b1
def ZLO:=@ZaO _ @Zq9
theorem Zya:@ZLO = @Zq9:=@Zan _ @Zq9
def Zmo {R:Type} (N:Nat) (x_1:Int) (k:Bool → Option R):Option R :=
 Zjh N x_1 0 99 fun b1=>k b1
def ZAB:=@ZaO _ @Zmo
theorem Zo6:@ZAB = @Zmo:=@Zan _ @Zmo
def Zq8 {R:Type} (N:Nat) (x_1 x_2 x_3 x_4 x_5:Int) (w_6:ByteArray) (e_7:List V) (f_8:Fl) (k:Bool → Option R):Option R :=
 (match (x_1 == 0) with
  | true=>(match (x_2 == 0) with
  | true=>(match (x_3 == 0) with
   | true=>(match (x_4 == 0) with
   | true=>(match (x_5 == 0) with
    | true=>(match (w_6.toList == (ByteArray.mk #[]).toList) with
    | true=>k ((e_7.length:Int) == 0)
    | false=>k false)
    | false=>k false)
   | false=>k false)
   | false=>k false)
  | false=>k false)
  | false=>k false)
def ZLB:=@ZaO _ @Zq8
theorem Zx3:@ZLB = @Zq8:=@Zan _ @Zq8
def Zso {R:Type} (N:Nat) (x_1:Int) (k:Bool → Option R):Option R :=
 Zjh N x_1 0 511 fun b1=>k b1
def ZK7:=@ZaO _ @Zso
theorem ZxK:@ZK7 = @Zso:=@Zan _ @Zso
def Zsk {R:Type} (N:Nat) (x_1:Int) (k:Bool → Option R):Option R :=
 Zjh N x_1 0 1000000 fun b1=>k b1
def ZMn:=@ZaO _ @Zsk
theorem Zy8:@ZMn = @Zsk:=@Zan _ @Zsk
def ZEt {R:Type} (N:Nat) (w_1:ByteArray) (x_2:Int) (k:Int → Option R):Option R :=
 k (Go.Lib.indexByte w_1.data.toList x_2.toNat.toUInt8)
def ZMQ:=@ZaO _ @ZEt
theorem ZwX:@ZMQ = @ZEt:=@Zan _ @ZEt
def ZrH {R:Type} (N:Nat) (w_1:ByteArray) (x_2:Int) (k:Int → Option R):Option R :=
 ZMQ N w_1 x_2 fun x1=>k x1
def ZIi:=@ZaO _ @ZrH
theorem Zyl:@ZIi = @ZrH:=@Zan _ @ZrH
def ZpJ {R:Type} (N:Nat) (w_1 w_2:ByteArray) (k:Int → Option R):Option R :=
 (match ((w_2.size:Int) == 0) with
  | true=>k 0
  | false=>(match (w_2.toList == w_1.toList) with
  | true=>k 0
  | false=>(match ((w_2.size:Int) == 1) with
   | true=>ZcV w_2 0 fun n1=>ZIi N w_1 n1 fun x2=>k x2
   | false=>(match decide ((w_2.size:Int) ≥ (w_1.size:Int)) with
   | true=>k (-1)
   | false=>none))))
def ZMj:=@ZaO _ @ZpJ
theorem ZxN:@ZMj = @ZpJ:=@Zan _ @ZpJ
def ZqJ {R:Type} (N:Nat) (w_1 w_2:ByteArray) (k:Int → Option R):Option R :=
 ZMj N w_1 w_2 fun x1=>k x1
def ZES:=@ZaO _ @ZqJ
theorem ZyV:@ZES = @ZqJ:=@Zan _ @ZqJ
def ZGn {R:Type} (N:Nat) (w_1:ByteArray) (x_2:Int) (k:Int → Option R):Option R :=
 k ((Go.Lib.countByte w_1.data.toList x_2.toNat.toUInt8:Nat):Int)
def ZH1:=@ZaO _ @ZGn
theorem Zxx:@ZH1 = @ZGn:=@Zan _ @ZGn
def Zfj {R:Type} (N:Nat) (w_2:ByteArray) (nx:ByteArray → Int → Option R) (w_1:ByteArray) (x_3:Int) (k0:Int → Option R):Option R :=
 ZES N w_1 w_2 fun x4=>(match (x4 == (-1)) with
  | true=>k0 x_3
  | false=>(if (0:Int) ≤ IntKind.i64.wrap (x4 + (w_2.size:Int)) ∧ IntKind.i64.wrap (x4 + (w_2.size:Int)) ≤ (w_1.size:Int) then nx (ByteArray.extract w_1 ((IntKind.i64.wrap (x4 + (w_2.size:Int))).toNat) w_1.size) (IntKind.i64.wrap (x_3 + 1)) else none))
def Zpm {R:Type} (N:Nat) (w_2:ByteArray) (k0:Int → Option R):Nat → ByteArray → Int → Option R
 | 0,_,_=>none
 | n + 1,w_1,x_3=>Zfj N w_2 (fun w_1 x_3=>Zpm N w_2 k0 n w_1 x_3) w_1 x_3 k0
def ZpO {R:Type} (N:Nat) (w_1 w_2:ByteArray) (k:Int → Option R):Option R :=
 (match ((w_2.size:Int) == 0) with
  | true=>none
  | false=>(match ((w_2.size:Int) == 1) with
  | true=>ZcV w_2 0 fun n1=>ZH1 N w_1 n1 fun x2=>k x2
  | false=>Zpm N w_2
    (fun x5=>k x5)
    N w_1 0))
def ZFt:=@ZaO _ @ZpO
theorem ZxJ:@ZFt = @ZpO:=@Zan _ @ZpO
def Zdl {R:Type} (N:Nat) (w_2:ByteArray) (x_3 x_4:Int) (k_5:Nat) (nx:ByteArray → Int → List V → Option R) (w_1:ByteArray) (x_6:Int) (e_7:List V) (k0:ByteArray → Int → List V → Option R):Option R :=
 (match decide (x_6 < x_4) with
  | true=>ZES N w_1 w_2 fun x5=>(match decide (x5 < 0) with
  | true=>k0 w_1 x_6 e_7
  | false=>(if (0:Int) ≤ IntKind.i64.wrap (x5 + x_3) ∧ IntKind.i64.wrap (x5 + x_3) ≤ (w_1.size:Int) then (if (0:Int) ≤ x_6 ∧ x_6 < k_5 then (match nth e_7 (0 + x_6.toNat) with
    | some e6=>(match ZaM e6 0 [.str (ByteArray.extract w_1 0 ((IntKind.i64.wrap (x5 + x_3)).toNat))] with
    | some e7=>(if (0:Int) ≤ IntKind.i64.wrap (x5 + (w_2.size:Int)) ∧ IntKind.i64.wrap (x5 + (w_2.size:Int)) ≤ (w_1.size:Int) then nx (ByteArray.extract w_1 ((IntKind.i64.wrap (x5 + (w_2.size:Int))).toNat) w_1.size) (IntKind.i64.wrap (x_6 + 1)) (Zav e_7 (0 + x_6.toNat) e7) else none)
    | none=>none)
    | none=>none) else none) else none))
  | false=>k0 w_1 x_6 e_7)
def ZfP {R:Type} (N:Nat) (w_2:ByteArray) (x_3 x_4:Int) (k_5:Nat) (k0:ByteArray → Int → List V → Option R):Nat → ByteArray → Int → List V → Option R
 | 0,_,_,_=>none
 | n + 1,w_1,x_6,e_7=>Zdl N w_2 x_3 x_4 k_5 (fun w_1 x_6 e_7=>ZfP N w_2 x_3 x_4 k_5 k0 n w_1 x_6 e_7) w_1 x_6 e_7 k0
def Zr2 {R:Type} (N:Nat) (w_1 w_2:ByteArray) (x_3 x_4:Int) (k0:List V → Option R) (k1:Nat → List V → Option R):Option R :=
 (match (x_4 == 0) with
  | true=>k0 []
  | false=>(match (w_2.toList == (ByteArray.mk #[]).toList) with
  | true=>none
  | false=>(match decide (x_4 < 0) with
   | true=>ZFt N w_1 w_2 fun x1=>(if 0 ≤ (if IntKind.i64.wrap ((w_1.size:Int) + 1) < IntKind.i64.wrap (x1 + 1) then IntKind.i64.wrap ((w_1.size:Int) + 1) else IntKind.i64.wrap (x1 + 1)) ∧ (if IntKind.i64.wrap ((w_1.size:Int) + 1) < IntKind.i64.wrap (x1 + 1) then IntKind.i64.wrap ((w_1.size:Int) + 1) else IntKind.i64.wrap (x1 + 1)) = (if IntKind.i64.wrap ((w_1.size:Int) + 1) < IntKind.i64.wrap (x1 + 1) then IntKind.i64.wrap ((w_1.size:Int) + 1) else IntKind.i64.wrap (x1 + 1)) ∧ (if IntKind.i64.wrap ((w_1.size:Int) + 1) < IntKind.i64.wrap (x1 + 1) then IntKind.i64.wrap ((w_1.size:Int) + 1) else IntKind.i64.wrap (x1 + 1)) * 16 ≤ 140737488355328 then ZfP N w_2 x_3 (IntKind.i64.wrap ((if IntKind.i64.wrap ((w_1.size:Int) + 1) < IntKind.i64.wrap (x1 + 1) then IntKind.i64.wrap ((w_1.size:Int) + 1) else IntKind.i64.wrap (x1 + 1)) - 1)) (((if IntKind.i64.wrap ((w_1.size:Int) + 1) < IntKind.i64.wrap (x1 + 1) then IntKind.i64.wrap ((w_1.size:Int) + 1) else IntKind.i64.wrap (x1 + 1))).toNat)
     (fun w8 x9 e10=>(if (0:Int) ≤ x9 ∧ x9 < ((if IntKind.i64.wrap ((w_1.size:Int) + 1) < IntKind.i64.wrap (x1 + 1) then IntKind.i64.wrap ((w_1.size:Int) + 1) else IntKind.i64.wrap (x1 + 1))).toNat then (match nth e10 (0 + x9.toNat) with
     | some e11=>(match ZaM e11 0 [.str w8] with
     | some e12=>(if (0:Int) ≤ IntKind.i64.wrap (x9 + 1) ∧ IntKind.i64.wrap (x9 + 1) ≤ (((if IntKind.i64.wrap ((w_1.size:Int) + 1) < IntKind.i64.wrap (x1 + 1) then IntKind.i64.wrap ((w_1.size:Int) + 1) else IntKind.i64.wrap (x1 + 1))).toNat:Int) then Zaj (ZaE (Zav e10 (0 + x9.toNat) e12) && true) (k1 ((IntKind.i64.wrap (x9 + 1)).toNat) (Zav e10 (0 + x9.toNat) e12)) else none)
     | none=>none)
     | none=>none) else none))
     N w_1 0 (List.replicate (((if IntKind.i64.wrap ((w_1.size:Int) + 1) < IntKind.i64.wrap (x1 + 1) then IntKind.i64.wrap ((w_1.size:Int) + 1) else IntKind.i64.wrap (x1 + 1))).toNat) (.str (ByteArray.mk #[]))) else none)
   | false=>(if 0 ≤ (if IntKind.i64.wrap ((w_1.size:Int) + 1) < x_4 then IntKind.i64.wrap ((w_1.size:Int) + 1) else x_4) ∧ (if IntKind.i64.wrap ((w_1.size:Int) + 1) < x_4 then IntKind.i64.wrap ((w_1.size:Int) + 1) else x_4) = (if IntKind.i64.wrap ((w_1.size:Int) + 1) < x_4 then IntKind.i64.wrap ((w_1.size:Int) + 1) else x_4) ∧ (if IntKind.i64.wrap ((w_1.size:Int) + 1) < x_4 then IntKind.i64.wrap ((w_1.size:Int) + 1) else x_4) * 16 ≤ 140737488355328 then ZfP N w_2 x_3 (IntKind.i64.wrap ((if IntKind.i64.wrap ((w_1.size:Int) + 1) < x_4 then IntKind.i64.wrap ((w_1.size:Int) + 1) else x_4) - 1)) (((if IntKind.i64.wrap ((w_1.size:Int) + 1) < x_4 then IntKind.i64.wrap ((w_1.size:Int) + 1) else x_4)).toNat)
     (fun w13 x14 e15=>(if (0:Int) ≤ x14 ∧ x14 < ((if IntKind.i64.wrap ((w_1.size:Int) + 1) < x_4 then IntKind.i64.wrap ((w_1.size:Int) + 1) else x_4)).toNat then (match nth e15 (0 + x14.toNat) with
     | some e16=>(match ZaM e16 0 [.str w13] with
     | some e17=>(if (0:Int) ≤ IntKind.i64.wrap (x14 + 1) ∧ IntKind.i64.wrap (x14 + 1) ≤ (((if IntKind.i64.wrap ((w_1.size:Int) + 1) < x_4 then IntKind.i64.wrap ((w_1.size:Int) + 1) else x_4)).toNat:Int) then Zaj (ZaE (Zav e15 (0 + x14.toNat) e17) && true) (k1 ((IntKind.i64.wrap (x14 + 1)).toNat) (Zav e15 (0 + x14.toNat) e17)) else none)
     | none=>none)
     | none=>none) else none))
     N w_1 0 (List.replicate (((if IntKind.i64.wrap ((w_1.size:Int) + 1) < x_4 then IntKind.i64.wrap ((w_1.size:Int) + 1) else x_4)).toNat) (.str (ByteArray.mk #[]))) else none))))
def ZMU:=@ZaO _ @Zr2
theorem Zxs:@ZMU = @Zr2:=@Zan _ @Zr2
def ZqP {R:Type} (N:Nat) (w_1 w_2:ByteArray) (k0:List V → Option R) (k1:Nat → List V → Option R):Option R :=
 ZMU N w_1 w_2 0 (-1)
   (fun e1=>k0 e1)
   (fun k2 e3=>Zaj (ZaE e3 && true) (k1 k2 e3))
def ZJe:=@ZaO _ @ZqP
theorem ZyY:@ZJe = @ZqP:=@Zan _ @ZqP
def ZmG {R:Type} (N:Nat) (w_1:ByteArray) (k:Bool → Option R):Option R :=
 k (w_1.toList == (ByteArray.mk #[]).toList)
def ZED:=@ZaO _ @ZmG
theorem Zpp:@ZED = @ZmG:=@Zan _ @ZmG
def Zdi {R:Type} (N:Nat) (e_1:List V) (f_2:Fl) (x_3:Int) (nx:Int → Option R) (x_4:Int) (k0:Int → Option R) (k1:Unit → Option R):Option R :=
 (match decide (x_4 < x_3) with
  | true=>(if 0 ≤ x_4 then Zbt (nth e_1 x_4.toNat) fun e4=>Zby e4 fun w5=>ZED N w5 fun b6=>(match b6 with
   | true=>k0 x_4
   | false=>nx (IntKind.i64.wrap (x_4 + 1))) else none)
  | false=>k1 ())
def ZgI {R:Type} (N:Nat) (e_1:List V) (f_2:Fl) (x_3:Int) (k0:Int → Option R) (k1:Unit → Option R):Nat → Int → Option R
 | 0,_=>none
 | n + 1,x_4=>Zdi N e_1 f_2 x_3 (fun x_4=>ZgI N e_1 f_2 x_3 k0 k1 n x_4) x_4 k0 k1
def ZrB {R:Type} (N:Nat) (e_1:List V) (f_2:Fl) (k:Int → Option R):Option R :=
 ZgI N e_1 f_2 (e_1.length:Int)
   (fun x7=>k x7)
   (fun (_:Unit)=>k (-1))
   N 0
def ZKe:=@ZaO _ @ZrB
theorem Zy1:@ZKe = @ZrB:=@Zan _ @ZrB
def Zdk {R:Type} (N:Nat) (k_1:Nat) (nx:Int → Int → List V → Option R) (x_2 x_3:Int) (e_4:List V) (k0:Int → List V → Option R):Option R :=
 (match decide (x_3 < (k_1:Int)) with
  | true=>(if (0:Int) ≤ x_3 ∧ x_3 < k_1 then (match nth e_4 (0 + x_3.toNat) with
   | some e10=>Zbl (e10.cells.drop 0) fun c11 l12=>Zby c11 fun w13=>ZED N w13 fun b14=>(match (!b14) with
   | true=>(if (0:Int) ≤ x_2 ∧ x_2 < k_1 then (match nth e_4 (0 + x_2.toNat) with
    | some e15=>(match ZaM e15 0 [.str w13] with
     | some e16=>nx (IntKind.i64.wrap (x_2 + 1)) (IntKind.i64.wrap (x_3 + 1)) (Zav e_4 (0 + x_2.toNat) e16)
     | none=>none)
    | none=>none) else none)
   | false=>nx x_2 (IntKind.i64.wrap (x_3 + 1)) e_4)
   | none=>none) else none)
  | false=>k0 x_2 e_4)
def Zfi {R:Type} (N:Nat) (k_1:Nat) (k0:Int → List V → Option R):Nat → Int → Int → List V → Option R
 | 0,_,_,_=>none
 | n + 1,x_2,x_3,e_4=>Zdk N k_1 (fun x_2 x_3 e_4=>Zfi N k_1 k0 n x_2 x_3 e_4) x_2 x_3 e_4 k0
def ZrW {R:Type} (N:Nat) (k_1:Nat) (e_2:List V) (k:Nat → List V → Option R):Option R :=
 (match Zbb (freeze true [some ⟨e_2,1,9,0⟩] 11) ((e_2.drop 0).take k_1) with
  | some e1=>Zaj (decide (0 + k_1 ≤ e_2.length)) (ZKe N (e1.map V.lent) .bor fun x2=>(match (x2 == (-1)) with
   | true=>Zaj (ZaE e_2 && true) (k k_1 e_2)
   | false=>Zfi N k_1
     (fun x17 e18=>(if (0:Int) ≤ x17 ∧ x17 ≤ (k_1:Int) then Zaj (decide ((0 + (x17:Int).toNat) + (k_1 - (x17:Int).toNat) ≤ e18.length)) ((if (0:Int) ≤ x17 ∧ x17 ≤ (k_1:Int) then Zaj (ZaE (Zgy e18 (0 + (x17:Int).toNat) (k_1 - (x17:Int).toNat) (.str (ByteArray.mk #[]))) && true) (k ((x17:Int).toNat) (Zgy e18 (0 + (x17:Int).toNat) (k_1 - (x17:Int).toNat) (.str (ByteArray.mk #[])))) else none)) else none))
     N x2 (IntKind.i64.wrap (x2 + 1)) e_2))
  | none=>none)
def ZJ2:=@ZaO _ @ZrW
theorem ZzB:@ZJ2 = @ZrW:=@Zan _ @ZrW
def Zsv {R:Type} (N:Nat) (w_1:ByteArray) (k:List V → Option R):Option R :=
 ZJe N w_1 (ByteArray.mk #[47])
   (fun e1=>none)
   (fun k2 e3=>Zaj (ZaE e3 && true) (ZJ2 N k2 e3 fun k4 e5=>(match Zbb (freeze false [some ⟨e5,1,9,0⟩] 11) ((e5.drop 0).take k4) with
   | some e6=>Zaj (decide (0 + k4 ≤ e5.length)) (Zaj (e6.all V.plain) (k e6))
   | none=>none)))
def ZpK:=@ZaO _ @Zsv
theorem ZxE:@ZpK = @Zsv:=@Zan _ @Zsv
def ZrX {R:Type} (N:Nat) (x_1:Int) (k:Bool → Option R):Option R :=
 (match decide (x_1 ≥ 97) with
  | true=>(match decide (x_1 ≤ 122) with
  | true=>k true
  | false=>(match decide (x_1 ≥ 48) with
   | true=>(match decide (x_1 ≤ 57) with
   | true=>k true
   | false=>(match (x_1 == 46) with
    | true=>k true
    | false=>(match (x_1 == 95) with
    | true=>k true
    | false=>k (x_1 == 45))))
   | false=>(match (x_1 == 46) with
   | true=>k true
   | false=>(match (x_1 == 95) with
    | true=>k true
    | false=>k (x_1 == 45)))))
  | false=>(match decide (x_1 ≥ 48) with
  | true=>(match decide (x_1 ≤ 57) with
   | true=>k true
   | false=>(match (x_1 == 46) with
   | true=>k true
   | false=>(match (x_1 == 95) with
    | true=>k true
    | false=>k (x_1 == 45))))
  | false=>(match (x_1 == 46) with
   | true=>k true
   | false=>(match (x_1 == 95) with
   | true=>k true
   | false=>k (x_1 == 45)))))
def ZHz:=@ZaO _ @ZrX
theorem ZzC:@ZHz = @ZrX:=@Zan _ @ZrX
def Zrx {R:Type} (N:Nat) (x_1:Int) (k:Bool → Option R):Option R :=
 ZHz N x_1 fun b1=>k (!b1)
def ZMx:=@ZaO _ @Zrx
theorem Zzc:@ZMx = @Zrx:=@Zan _ @Zrx
def Zdc {R:Type} (N:Nat) (e_1:List V) (f_2:Fl) (x_3:Int) (nx:Int → Option R) (x_4:Int) (k0:Int → Option R) (k1:Unit → Option R):Option R :=
 (match decide (x_4 < x_3) with
  | true=>(if 0 ≤ x_4 then Zbt (nth e_1 x_4.toNat) fun e4=>asInt .u8 e4 fun n5=>ZMx N n5 fun b6=>(match b6 with
   | true=>k0 x_4
   | false=>nx (IntKind.i64.wrap (x_4 + 1))) else none)
  | false=>k1 ())
def ZgJ {R:Type} (N:Nat) (e_1:List V) (f_2:Fl) (x_3:Int) (k0:Int → Option R) (k1:Unit → Option R):Nat → Int → Option R
 | 0,_=>none
 | n + 1,x_4=>Zdc N e_1 f_2 x_3 (fun x_4=>ZgJ N e_1 f_2 x_3 k0 k1 n x_4) x_4 k0 k1
def ZsV {R:Type} (N:Nat) (e_1:List V) (f_2:Fl) (k:Int → Option R):Option R :=
 ZgJ N e_1 f_2 (e_1.length:Int)
   (fun x7=>k x7)
   (fun (_:Unit)=>k (-1))
   N 0
def ZL4:=@ZaO _ @ZsV
theorem Zyk:@ZL4 = @ZsV:=@Zan _ @ZsV
def Zr3 {R:Type} (N:Nat) (e_1:List V) (f_2:Fl) (k:Bool → Option R):Option R :=
 ZL4 N e_1 f_2.noOwn.noOwn fun x1=>k (decide (x1 ≥ 0))
def ZKy:=@ZaO _ @Zr3
theorem Zxo:@ZKy = @Zr3:=@Zan _ @Zr3
def Zqr {R:Type} (N:Nat) (w_1:ByteArray) (k:Bool → Option R):Option R :=
 Zjh N (w_1.size:Int) 1 8 fun b1=>(match b1 with
  | true=>ZKy N (ZcY w_1) .sh fun b2=>k (!b2)
  | false=>k false)
def ZDw:=@ZaO _ @Zqr
theorem Zxq:@ZDw = @Zqr:=@Zan _ @Zqr
def Zqi {R:Type} (N:Nat) (w_1:ByteArray) (k:Bool → Option R):Option R :=
 ZDw N w_1 fun b1=>k (!b1)
def ZLV:=@ZaO _ @Zqi
theorem Zxa:@ZLV = @Zqi:=@Zan _ @Zqi
def Zda {R:Type} (N:Nat) (e_1:List V) (f_2:Fl) (x_3:Int) (nx:Int → Option R) (x_4:Int) (k0:Int → Option R) (k1:Unit → Option R):Option R :=
 (match decide (x_4 < x_3) with
  | true=>(if 0 ≤ x_4 then Zbt (nth e_1 x_4.toNat) fun e4=>Zby e4 fun w5=>ZLV N w5 fun b6=>(match b6 with
   | true=>k0 x_4
   | false=>nx (IntKind.i64.wrap (x_4 + 1))) else none)
  | false=>k1 ())
def ZgF {R:Type} (N:Nat) (e_1:List V) (f_2:Fl) (x_3:Int) (k0:Int → Option R) (k1:Unit → Option R):Nat → Int → Option R
 | 0,_=>none
 | n + 1,x_4=>Zda N e_1 f_2 x_3 (fun x_4=>ZgF N e_1 f_2 x_3 k0 k1 n x_4) x_4 k0 k1
def Zsw {R:Type} (N:Nat) (e_1:List V) (f_2:Fl) (k:Int → Option R):Option R :=
 ZgF N e_1 f_2 (e_1.length:Int)
   (fun x7=>k x7)
   (fun (_:Unit)=>k (-1))
   N 0
def ZLR:=@ZaO _ @Zsw
theorem Zza:@ZLR = @Zsw:=@Zan _ @Zsw
def ZqG {R:Type} (N:Nat) (e_1:List V) (f_2:Fl) (k:Bool → Option R):Option R :=
 ZLR N e_1 f_2.noOwn.noOwn fun x1=>k (decide (x1 ≥ 0))
def ZHU:=@ZaO _ @ZqG
theorem ZzO:@ZHU = @ZqG:=@Zan _ @ZqG
def ZrO {R:Type} (N:Nat) (w_1:ByteArray) (k:Bool → Option R):Option R :=
 (match (!(w_1.toList == (ByteArray.mk #[]).toList)) with
  | true=>ZpK N w_1 fun e1=>ZHU N e1 .sh fun b2=>k (!b2)
  | false=>k false)
def ZL5:=@ZaO _ @ZrO
theorem Zyc:@ZL5 = @ZrO:=@Zan _ @ZrO
def ZrA {R:Type} (N:Nat) (w_1:ByteArray) (k:Bool → Option R):Option R :=
 (match decide ((w_1.size:Int) ≤ 60) with
  | true=>ZL5 N w_1 fun b1=>k b1
  | false=>k false)
def ZAY:=@ZaO _ @ZrA
theorem ZyB:@ZAY = @ZrA:=@Zan _ @ZrA
def Zsf {R:Type} (N:Nat) (w_1:ByteArray) (k:Bool → Option R):Option R :=
 (match (w_1.toList == (ByteArray.mk #[46]).toList) with
  | true=>k true
  | false=>k (w_1.toList == (ByteArray.mk #[46,46]).toList))
def ZLM:=@ZaO _ @Zsf
theorem ZxH:@ZLM = @Zsf:=@Zan _ @Zsf
def Zqs {R:Type} (N:Nat) (w_1:ByteArray) (k:Bool → Option R):Option R :=
 ZDw N w_1 fun b1=>(match b1 with
  | true=>ZLM N w_1 fun b2=>k (!b2)
  | false=>k false)
def ZJn:=@ZaO _ @Zqs
theorem ZyR:@ZJn = @Zqs:=@Zan _ @Zqs
def Zs4 {R:Type} (N:Nat) (e_1:List V) (f_2:Fl) (x_3 x_4:Int) (k:Bool → Option R):Option R :=
 Zjh N x_4 0 (IntKind.i64.wrap ((e_1.length:Int) - 1)) fun b1=>(match b1 with
  | true=>(if 0 ≤ x_4 then Zbt (nth e_1 x_4.toNat) fun e2=>ZaB e2 fun n3 n4 n5 n6 n7 w8 e9 f10=>k (n3 != 0) else none)
  | false=>k false)
def ZCK:=@ZaO _ @Zs4
theorem Zxh:@ZCK = @Zs4:=@Zan _ @Zs4
def Zc6 {R:Type} (N:Nat) (e_1:List V) (f_2:Fl) (x_3:Int) (e_5:List V) (f_6:Fl) (x_7 x_8 x_9 x_10 x_11 x_12:Int) (w_13:ByteArray) (e_14:List V) (f_15:Fl) (nx:Int → Option R) (x_4:Int) (k0:Unit → Option R) (k1:Unit → Option R):Option R :=
 (match decide (x_4 < x_3) with
  | true=>(if 0 ≤ x_4 then Zbt (nth e_1 x_4.toNat) fun e16=>Za1 e16 fun w17 n18=>ZJn N w17 fun b19=>(match (!b19) with
   | true=>k0 ()
   | false=>(match decide (x_4 > 0) with
   | true=>(if 0 ≤ IntKind.i64.wrap (x_4 - 1) then Zbt (nth e_14 ((IntKind.i64.wrap (x_4 - 1)).toNat)) fun e20=>Za1 e20 fun w21 n22=>(match (!Op.bytesLess w21.toList w17.toList) with
    | true=>k0 ()
    | false=>ZCK N e_5 f_6.noOwn.noOwn.noOwn.noOwn x_7 n18 fun b23=>(match (!b23) with
     | true=>k0 ()
     | false=>nx (IntKind.i64.wrap (x_4 + 1)))) else none)
   | false=>ZCK N e_5 f_6.noOwn.noOwn.noOwn.noOwn x_7 n18 fun b24=>(match (!b24) with
    | true=>k0 ()
    | false=>nx (IntKind.i64.wrap (x_4 + 1))))) else none)
  | false=>k1 ())
def Ze7 {R:Type} (N:Nat) (e_1:List V) (f_2:Fl) (x_3:Int) (e_5:List V) (f_6:Fl) (x_7 x_8 x_9 x_10 x_11 x_12:Int) (w_13:ByteArray) (e_14:List V) (f_15:Fl) (k0:Unit → Option R) (k1:Unit → Option R):Nat → Int → Option R
 | 0,_=>none
 | n + 1,x_4=>Zc6 N e_1 f_2 x_3 e_5 f_6 x_7 x_8 x_9 x_10 x_11 x_12 w_13 e_14 f_15 (fun x_4=>Ze7 N e_1 f_2 x_3 e_5 f_6 x_7 x_8 x_9 x_10 x_11 x_12 w_13 e_14 f_15 k0 k1 n x_4) x_4 k0 k1
def ZsF {R:Type} (N:Nat) (e_1:List V) (f_2:Fl) (x_3 x_4 x_5 x_6 x_7 x_8:Int) (w_9:ByteArray) (e_10:List V) (f_11:Fl) (k:Bool → Option R):Option R :=
 (match (x_4 == 0) with
  | true=>ZLB N x_4 x_5 x_6 x_7 x_8 w_9 e_10 f_11.noOwn.noOwn fun b1=>k b1
  | false=>ZK7 N x_5 fun b2=>(match (!b2) with
  | true=>k false
  | false=>ZAB N x_6 fun b3=>(match (!b3) with
   | true=>k false
   | false=>ZAB N x_7 fun b4=>(match (!b4) with
   | true=>k false
   | false=>ZMn N x_8 fun b5=>(match (!b5) with
    | true=>k false
    | false=>(match (x_4 != 2) with
    | true=>(match decide ((e_10.length:Int) > 0) with
     | true=>k false
     | false=>(match (x_4 == 1) with
     | true=>k (decide ((w_9.size:Int) ≤ 60))
     | false=>(match (x_4 == 3) with
      | true=>ZAY N w_9 fun b6=>k b6
      | false=>(match (x_4 == 2) with
      | true=>Ze7 N e_10 f_11.noOwn (e_10.length:Int) e_1 f_2 x_3 x_4 x_5 x_6 x_7 x_8 w_9 e_10 f_11
        (fun (_:Unit)=>k false)
        (fun (_:Unit)=>k (w_9.toList == (ByteArray.mk #[]).toList))
        N 0
      | false=>k false))))
    | false=>(match (x_4 == 1) with
     | true=>k (decide ((w_9.size:Int) ≤ 60))
     | false=>(match (x_4 == 3) with
     | true=>ZAY N w_9 fun b25=>k b25
     | false=>(match (x_4 == 2) with
      | true=>Ze7 N e_10 f_11.noOwn (e_10.length:Int) e_1 f_2 x_3 x_4 x_5 x_6 x_7 x_8 w_9 e_10 f_11
        (fun (_:Unit)=>k false)
        (fun (_:Unit)=>k (w_9.toList == (ByteArray.mk #[]).toList))
        N 0
      | false=>k false)))))))))
def ZIE:=@ZaO _ @ZsF
theorem ZxB:@ZIE = @ZsF:=@Zan _ @ZsF
def ZdT {R:Type} (N:Nat) (e_2:List V) (f_3:Fl) (x_4:Int) (e_6:List V) (f_7:Fl) (x_8:Int) (nx:Int → Int → Option R) (x_1 x_5:Int) (k0:Int → Option R):Option R :=
 (match decide (x_5 < x_4) with
  | true=>(if 0 ≤ x_5 then Zbt (nth e_2 x_5.toNat) fun e10=>ZaB e10 fun n11 n12 n13 n14 n15 w16 e17 f18=>nx (IntKind.i64.wrap (x_1 + (w16.size:Int))) (IntKind.i64.wrap (x_5 + 1)) else none)
  | false=>k0 x_1)
def Zha {R:Type} (N:Nat) (e_2:List V) (f_3:Fl) (x_4:Int) (e_6:List V) (f_7:Fl) (x_8:Int) (k0:Int → Option R):Nat → Int → Int → Option R
 | 0,_,_=>none
 | n + 1,x_1,x_5=>ZdT N e_2 f_3 x_4 e_6 f_7 x_8 (fun x_1 x_5=>Zha N e_2 f_3 x_4 e_6 f_7 x_8 k0 n x_1 x_5) x_1 x_5 k0
def Zp7 {R:Type} (N:Nat) (e_1:List V) (f_2:Fl) (x_3:Int) (k:Int → Option R):Option R :=
 Zha N e_1 f_2.noOwn (e_1.length:Int) e_1 f_2 x_3
   (fun x19=>k x19)
   N 0 0
def ZKl:=@ZaO _ @Zp7
theorem ZyX:@ZKl = @Zp7:=@Zan _ @Zp7
def Zdp {R:Type} (N:Nat) (k_1:Nat) (e_2:List V) (f_3:Fl) (x_4 x_5:Int) (e_6:List V) (f_7:Fl) (x_8:Int) (e_10:List V) (f_11:Fl) (x_12 x_14 x_15 x_16 x_17 x_18:Int) (w_19:ByteArray) (e_20:List V) (f_21:Fl) (nx:Int → List V → Option R) (x_9:Int) (e_13:List V) (k0:List V → Option R):Option R :=
 (match decide (x_9 < x_8) with
  | true=>(if 0 ≤ x_9 then Zbt (nth e_6 x_9.toNat) fun e19=>Za1 e19 fun w20 n21=>(if (0:Int) ≤ n21 ∧ n21 < k_1 then (match nth e_13 (0 + n21.toNat) with
   | some e22=>Zbl (e22.cells.drop 0) fun c23 l24=>asInt .i64 c23 fun n25=>(if (0:Int) ≤ n21 ∧ n21 < k_1 then (match nth e_13 (0 + n21.toNat) with
    | some e26=>(match ZaM e26 0 [.int .i64 (IntKind.i64.wrap (n25 + 1))] with
     | some e27=>nx (IntKind.i64.wrap (x_9 + 1)) ((Zav e_13 (0 + n21.toNat) e27).map (trimV 3))
     | none=>none)
    | none=>none) else none)
   | none=>none) else none) else none)
  | false=>k0 (e_13.map (trimV 3)))
def Zfu {R:Type} (N:Nat) (k_1:Nat) (e_2:List V) (f_3:Fl) (x_4 x_5:Int) (e_6:List V) (f_7:Fl) (x_8:Int) (e_10:List V) (f_11:Fl) (x_12 x_14 x_15 x_16 x_17 x_18:Int) (w_19:ByteArray) (e_20:List V) (f_21:Fl) (k0:List V → Option R):Nat → Int → List V → Option R
 | 0,_,_=>none
 | n + 1,x_9,e_13=>Zdp N k_1 e_2 f_3 x_4 x_5 e_6 f_7 x_8 e_10 f_11 x_12 x_14 x_15 x_16 x_17 x_18 w_19 e_20 f_21 (fun x_9 e_13=>Zfu N k_1 e_2 f_3 x_4 x_5 e_6 f_7 x_8 e_10 f_11 x_12 x_14 x_15 x_16 x_17 x_18 w_19 e_20 f_21 k0 n x_9 e_13) x_9 e_13 k0
def ZdO {R:Type} (N:Nat) (k_1:Nat) (e_2:List V) (f_3:Fl) (x_4:Int) (e_6:List V) (f_7:Fl) (x_8:Int) (nx:Int → List V → Option R) (x_5:Int) (e_9:List V) (k0:List V → Option R):Option R :=
 (match decide (x_5 < x_4) with
  | true=>(if 0 ≤ x_5 then Zbt (nth e_2 x_5.toNat) fun e29=>ZaB e29 fun n30 n31 n32 n33 n34 w35 e36 f37=>Zfu N k_1 e_2 f_3 x_4 x_5 e36 f37.noOwn.noOwn (e36.length:Int) e_6 f_7 x_8 n30 n31 n32 n33 n34 w35 e36 f37.noOwn
    (fun e38=>nx (IntKind.i64.wrap (x_5 + 1)) (e38.map (trimV 2)))
    N 0 e_9 else none)
  | false=>k0 (e_9.map (trimV 2)))
def ZgV {R:Type} (N:Nat) (k_1:Nat) (e_2:List V) (f_3:Fl) (x_4:Int) (e_6:List V) (f_7:Fl) (x_8:Int) (k0:List V → Option R):Nat → Int → List V → Option R
 | 0,_,_=>none
 | n + 1,x_5,e_9=>ZdO N k_1 e_2 f_3 x_4 e_6 f_7 x_8 (fun x_5 e_9=>ZgV N k_1 e_2 f_3 x_4 e_6 f_7 x_8 k0 n x_5 e_9) x_5 e_9 k0
def Zqo {R:Type} (N:Nat) (e_1:List V) (f_2:Fl) (x_3:Int) (k:List V → Option R):Option R :=
 (if 0 ≤ (e_1.length:Int) ∧ (e_1.length:Int) = (e_1.length:Int) ∧ (e_1.length:Int) * 8 ≤ 140737488355328 then ZgV N (((e_1.length:Int)).toNat) e_1 f_2.noOwn (e_1.length:Int) e_1 f_2 x_3
    (fun e39=>(match Zbb (freeze false [some ⟨[.agg [.list 7 e_1 f_2,.int .i64 x_3]],2,33,0⟩,some ⟨e39,1,3,0⟩] 11) ((e39.drop 0).take (((e_1.length:Int)).toNat)) with
   | some e40=>Zaj (decide (0 + ((e_1.length:Int)).toNat ≤ e39.length)) (Zaj (e40.all V.plain) (k e40))
   | none=>none))
    N 0 (List.replicate (((e_1.length:Int)).toNat) (.int .i64 0)) else none)
def ZHE:=@ZaO _ @Zqo
theorem Zzq:@ZHE = @Zqo:=@Zan _ @Zqo
def ZdR {R:Type} (N:Nat) (e_1:List V) (f_2:Fl) (x_3:Int) (e_5:List V) (f_6:Fl) (x_7:Int) (nx:Int → Option R) (x_4:Int) (k0:Unit → Option R) (k1:Unit → Option R):Option R :=
 (match decide (x_4 < x_3) with
  | true=>(if 0 ≤ x_4 then Zbt (nth e_1 x_4.toNat) fun e22=>ZaB e22 fun n23 n24 n25 n26 n27 w28 e29 f30=>ZIE N e_5 f_6.noOwn.noOwn x_7 n23 n24 n25 n26 n27 w28 e29 f30.noOwn.noOwn.noOwn fun b31=>(match (!b31) with
   | true=>k0 ()
   | false=>nx (IntKind.i64.wrap (x_4 + 1))) else none)
  | false=>k1 ())
def Zg6 {R:Type} (N:Nat) (e_1:List V) (f_2:Fl) (x_3:Int) (e_5:List V) (f_6:Fl) (x_7:Int) (k0:Unit → Option R) (k1:Unit → Option R):Nat → Int → Option R
 | 0,_=>none
 | n + 1,x_4=>ZdR N e_1 f_2 x_3 e_5 f_6 x_7 (fun x_4=>Zg6 N e_1 f_2 x_3 e_5 f_6 x_7 k0 k1 n x_4) x_4 k0 k1
def Zdx {R:Type} (N:Nat) (e_1 e_2:List V) (f_3:Fl) (x_4:Int) (e_6:List V) (f_7:Fl) (x_8:Int) (nx:Int → Option R) (x_5:Int) (k0:Unit → Option R) (k1:Unit → Option R):Option R :=
 (match decide (x_5 < x_4) with
  | true=>(if 0 ≤ x_5 then Zbt (nth e_2 x_5.toNat) fun e52=>ZaB e52 fun n53 n54 n55 n56 n57 w58 e59 f60=>(match (x_5 == 0) with
   | true=>(match (n53 != 0) with
   | true=>(if 0 ≤ x_5 then Zbt (nth e_1 x_5.toNat) fun e61=>asInt .i64 e61 fun n62=>Zjh N n62 (if 1 < x_5 then 1 else x_5) 0 fun b63=>(match (!b63) with
    | true=>k0 ()
    | false=>nx (IntKind.i64.wrap (x_5 + 1))) else none)
   | false=>nx (IntKind.i64.wrap (x_5 + 1)))
   | false=>(match (n53 == 2) with
   | true=>(match (n53 != 0) with
    | true=>(if 0 ≤ x_5 then Zbt (nth e_1 x_5.toNat) fun e64=>asInt .i64 e64 fun n65=>Zjh N n65 (if 1 < x_5 then 1 else x_5) 1 fun b66=>(match (!b66) with
     | true=>k0 ()
     | false=>nx (IntKind.i64.wrap (x_5 + 1))) else none)
    | false=>nx (IntKind.i64.wrap (x_5 + 1)))
   | false=>(match (n53 != 0) with
    | true=>(if 0 ≤ x_5 then Zbt (nth e_1 x_5.toNat) fun e67=>asInt .i64 e67 fun n68=>Zjh N n68 (if 1 < x_5 then 1 else x_5) 1152921504606846976 fun b69=>(match (!b69) with
     | true=>k0 ()
     | false=>nx (IntKind.i64.wrap (x_5 + 1))) else none)
    | false=>nx (IntKind.i64.wrap (x_5 + 1))))) else none)
  | false=>k1 ())
def Zgw {R:Type} (N:Nat) (e_1 e_2:List V) (f_3:Fl) (x_4:Int) (e_6:List V) (f_7:Fl) (x_8:Int) (k0:Unit → Option R) (k1:Unit → Option R):Nat → Int → Option R
 | 0,_=>none
 | n + 1,x_5=>Zdx N e_1 e_2 f_3 x_4 e_6 f_7 x_8 (fun x_5=>Zgw N e_1 e_2 f_3 x_4 e_6 f_7 x_8 k0 k1 n x_5) x_5 k0 k1
def ZdS {R:Type} (N:Nat) (k_1:Nat) (x_3:Int) (e_4:List V) (f_5:Fl) (x_6:Int) (e_8:List V) (f_9:Fl) (x_10:Int) (nx:List V → Int → List V → Option R) (e_2:List V) (x_7:Int) (e_11:List V) (k0:List V → List V → Option R):Option R :=
 (match decide (x_7 < x_6) with
  | true=>(if 0 ≤ x_7 then Zbt (nth e_4 x_7.toNat) fun e101=>Za1 e101 fun w102 n103=>(if 0 ≤ n103 then Zbt (nth e_8 n103.toNat) fun e104=>ZaB e104 fun n105 n106 n107 n108 n109 w110 e111 f112=>(match (n105 == 2) with
   | true=>(if (0:Int) ≤ n103 ∧ n103 < k_1 then (match nth e_11 (0 + n103.toNat) with
    | some e113=>Zbl (e113.cells.drop 0) fun c114 l115=>asBool c114 fun b116=>(match (!b116) with
     | true=>(if (e_2.length + 1) * 8 ≤ 140737488355328 then nx (e_2 ++ ([.int .i64 n103]:List V)) (IntKind.i64.wrap (x_7 + 1)) (e_11.map (trimV 2)) else none)
     | false=>nx e_2 (IntKind.i64.wrap (x_7 + 1)) (e_11.map (trimV 2)))
    | none=>none) else none)
   | false=>nx e_2 (IntKind.i64.wrap (x_7 + 1)) (e_11.map (trimV 2))) else none) else none)
  | false=>k0 e_2 (e_11.map (trimV 2)))
def ZfW {R:Type} (N:Nat) (k_1:Nat) (x_3:Int) (e_4:List V) (f_5:Fl) (x_6:Int) (e_8:List V) (f_9:Fl) (x_10:Int) (k0:List V → List V → Option R):Nat → List V → Int → List V → Option R
 | 0,_,_,_=>none
 | n + 1,e_2,x_7,e_11=>ZdS N k_1 x_3 e_4 f_5 x_6 e_8 f_9 x_10 (fun e_2 x_7 e_11=>ZfW N k_1 x_3 e_4 f_5 x_6 e_8 f_9 x_10 k0 n e_2 x_7 e_11) e_2 x_7 e_11 k0
def Zdo {R:Type} (N:Nat) (k_1:Nat) (e_4:List V) (f_5:Fl) (x_6:Int) (nx:List V → Int → List V → Option R) (e_2:List V) (x_3:Int) (e_7:List V) (k0:List V → Option R):Option R :=
 (match decide (x_3 < (e_2.length:Int)) with
  | true=>(if 0 ≤ x_3 then Zbt (nth e_2 x_3.toNat) fun e119=>asInt .i64 e119 fun n120=>(if (0:Int) ≤ n120 ∧ n120 < k_1 then (match nth e_7 (0 + n120.toNat) with
   | some e121=>(match ZaM e121 0 [.bool true] with
    | some e122=>(if 0 ≤ x_3 then Zbt (nth e_2 x_3.toNat) fun e123=>asInt .i64 e123 fun n124=>(if 0 ≤ n124 then Zbt (nth e_4 n124.toNat) fun e125=>ZaB e125 fun n126 n127 n128 n129 n130 w131 e132 f133=>ZfW N k_1 x_3 e132 f133.noOwn.noOwn (e132.length:Int) e_4 f_5 x_6
       (fun e134 e135=>nx e134 (IntKind.i64.wrap (x_3 + 1)) e135)
       N e_2 0 (Zav e_7 (0 + n120.toNat) e122) else none) else none)
    | none=>none)
   | none=>none) else none) else none)
  | false=>k0 e_7)
def ZfF {R:Type} (N:Nat) (k_1:Nat) (e_4:List V) (f_5:Fl) (x_6:Int) (k0:List V → Option R):Nat → List V → Int → List V → Option R
 | 0,_,_,_=>none
 | n + 1,e_2,x_3,e_7=>Zdo N k_1 e_4 f_5 x_6 (fun e_2 x_3 e_7=>ZfF N k_1 e_4 f_5 x_6 k0 n e_2 x_3 e_7) e_2 x_3 e_7 k0
def Zds {R:Type} (N:Nat) (k_1:Nat) (e_2:List V) (f_3:Fl) (x_4:Int) (e_6:List V) (f_7:Fl) (x_8:Int) (nx:Int → List V → Option R) (x_5:Int) (e_9:List V) (k0:List V → Option R) (k1:List V → Option R):Option R :=
 (match decide (x_5 < x_4) with
  | true=>(if 0 ≤ x_5 then Zbt (nth e_2 x_5.toNat) fun e150=>ZaB e150 fun n151 n152 n153 n154 n155 w156 e157 f158=>(match (n151 == 2) with
   | true=>(if (0:Int) ≤ x_5 ∧ x_5 < k_1 then (match nth e_9 (0 + x_5.toNat) with
    | some e159=>Zbl (e159.cells.drop 0) fun c160 l161=>asBool c160 fun b162=>(match (!b162) with
    | true=>k0 (e_9.map (trimV 2))
    | false=>nx (IntKind.i64.wrap (x_5 + 1)) (e_9.map (trimV 2)))
    | none=>none) else none)
   | false=>nx (IntKind.i64.wrap (x_5 + 1)) (e_9.map (trimV 2))) else none)
  | false=>k1 (e_9.map (trimV 2)))
def Zg8 {R:Type} (N:Nat) (k_1:Nat) (e_2:List V) (f_3:Fl) (x_4:Int) (e_6:List V) (f_7:Fl) (x_8:Int) (k0:List V → Option R) (k1:List V → Option R):Nat → Int → List V → Option R
 | 0,_,_=>none
 | n + 1,x_5,e_9=>Zds N k_1 e_2 f_3 x_4 e_6 f_7 x_8 (fun x_5 e_9=>Zg8 N k_1 e_2 f_3 x_4 e_6 f_7 x_8 k0 k1 n x_5 e_9) x_5 e_9 k0 k1
def ZqQ {R:Type} (N:Nat) (e_1:List V) (f_2:Fl) (x_3:Int) (k:Bool → Option R):Option R :=
 Zjh N (e_1.length:Int) 1 40 fun b1=>(match (!b1) with
  | true=>k false
  | false=>ZLO N x_3 fun b2=>(match (!b2) with
  | true=>k false
  | false=>Zbt (nth e_1 0) fun e3=>ZaB e3 fun n4 n5 n6 n7 n8 w9 e10 f11=>(match (n4 != 2) with
   | true=>k false
   | false=>Zg6 N e_1 f_2.noOwn (e_1.length:Int) e_1 f_2 x_3
     (fun (_:Unit)=>k false)
     (fun (_:Unit)=>ZKl N e_1 f_2.noOwn.noOwn.noOwn.noOwn x_3 fun x32=>(match decide (x32 > x_3) with
    | true=>k false
    | false=>ZHE N e_1 f_2.noOwn.noOwn x_3 fun e33=>Zgw N e33 e_1 f_2.noOwn (e_1.length:Int) e_1 f_2 x_3
      (fun (_:Unit)=>k false)
      (fun (_:Unit)=>(if 0 ≤ (e_1.length:Int) ∧ (e_1.length:Int) = (e_1.length:Int) ∧ (e_1.length:Int) * 1 ≤ 140737488355328 then ZfF N (((e_1.length:Int)).toNat) e_1 f_2 x_3
       (fun e136=>Zg8 N (((e_1.length:Int)).toNat) e_1 f_2.noOwn (e_1.length:Int) e_1 f_2 x_3
       (fun e163=>k false)
       (fun e164=>k true)
       N 0 e136)
       N [.int .i64 0] 0 (List.replicate (((e_1.length:Int)).toNat) (.bool false)) else none))
      N 0))
     N 0)))
def ZJ1:=@ZaO _ @ZqQ
theorem Zyy:@ZJ1 = @ZqQ:=@Zan _ @ZqQ
def ZpT {R:Type} (N:Nat) (x_1 x_2:Int) (k:Bool → Option R):Option R :=
 ZAB N x_1 fun b1=>(match b1 with
  | true=>ZAB N x_2 fun b2=>k b2
  | false=>k false)
def ZK0:=@ZaO _ @ZpT
theorem Zx2:@ZK0 = @ZpT:=@Zan _ @ZpT
def ZrD {R:Type} (N:Nat) (e_1:List V) (f_2:Fl) (x_3 x_4 x_5:Int) (k:Bool → Option R):Option R :=
 ZJ1 N e_1 f_2.noOwn.noOwn x_3 fun b1=>(match b1 with
  | true=>ZK0 N x_4 x_5 fun b2=>k b2
  | false=>k false)
def ZJb:=@ZaO _ @ZrD
theorem ZwW:@ZJb = @ZrD:=@Zan _ @ZrD
def Zsq {R:Type} (N:Nat) (x_1 x_2 x_3 x_4 x_5 x_6:Int) (k:Bool → Option R):Option R :=
 (match (x_1 == 0) with
  | true=>k true
  | false=>(match (x_1 == x_4) with
  | true=>k (IntKind.i64.wrap (BitVec.ofInt IntKind.i64.bits x_6 &&& ~~~(BitVec.ofInt IntKind.i64.bits (Int.fdiv x_3 (2 ^ (min (6:Int).toNat 64))))).toNat == 0)
  | false=>(match (x_2 == x_5) with
   | true=>k (IntKind.i64.wrap (BitVec.ofInt IntKind.i64.bits x_6 &&& ~~~(BitVec.ofInt IntKind.i64.bits (IntKind.i64.wrap (BitVec.ofInt IntKind.i64.bits (Int.fdiv x_3 (2 ^ (min (3:Int).toNat 64))) &&& BitVec.ofInt IntKind.i64.bits 7).toNat))).toNat == 0)
   | false=>k (IntKind.i64.wrap (BitVec.ofInt IntKind.i64.bits x_6 &&& ~~~(BitVec.ofInt IntKind.i64.bits (IntKind.i64.wrap (BitVec.ofInt IntKind.i64.bits x_3 &&& BitVec.ofInt IntKind.i64.bits 7).toNat))).toNat == 0))))
def ZJj:=@ZaO _ @Zsq
theorem ZzG:@ZJj = @Zsq:=@Zan _ @Zsq
def Zmr {R:Type} (N:Nat) (e_1:List V) (f_2:Fl) (x_3 x_4 x_5 x_6 x_7:Int) (k:Bool → Option R):Option R :=
 (if 0 ≤ x_6 then Zbt (nth e_1 x_6.toNat) fun e1=>ZaB e1 fun n2 n3 n4 n5 n6 w7 e8 f9=>ZJj N x_4 x_5 n3 n4 n5 x_7 fun b10=>k b10 else none)
def ZEf:=@ZaO _ @Zmr
theorem ZoC:@ZEf = @Zmr:=@Zan _ @Zmr
def ZmI {R:Type} (N:Nat) (e_1:List V) (f_2:Fl) (x_3 x_4:Int) (k:Bool → Option R):Option R :=
 (if 0 ≤ x_4 then Zbt (nth e_1 x_4.toNat) fun e1=>ZaB e1 fun n2 n3 n4 n5 n6 w7 e8 f9=>k (n2 == 2) else none)
def ZCk:=@ZaO _ @ZmI
theorem Zot:@ZCk = @ZmI:=@Zan _ @ZmI
def ZrC {R:Type} (N:Nat) (w_1:ByteArray) (k:Bool → Option R):Option R :=
 ZAY N w_1 fun b1=>(match b1 with
  | true=>ZcV w_1 0 fun n2=>k (n2 == 47)
  | false=>k false)
def ZJ4:=@ZaO _ @ZrC
theorem Zw9:@ZJ4 = @ZrC:=@Zan _ @ZrC
def ZqM {R:Type} (N:Nat) (w_1 w_2:ByteArray) (k:Bool → Option R):Option R :=
 (match decide ((w_1.size:Int) ≥ (w_2.size:Int)) with
  | true=>(if (0:Int) ≤ IntKind.i64.wrap ((w_1.size:Int) - (w_2.size:Int)) ∧ IntKind.i64.wrap ((w_1.size:Int) - (w_2.size:Int)) ≤ (w_1.size:Int) then k ((ByteArray.extract w_1 ((IntKind.i64.wrap ((w_1.size:Int) - (w_2.size:Int))).toNat) w_1.size).toList == w_2.toList) else none)
  | false=>k false)
def ZMR:=@ZaO _ @ZqM
theorem Zyh:@ZMR = @ZqM:=@Zan _ @ZqM
def Zsd {R:Type} (N:Nat) (w_1 w_2:ByteArray) (k:Bool → Option R):Option R :=
 ZMR N w_1 w_2 fun b1=>k b1
def ZHY:=@ZaO _ @Zsd
theorem Zzu:@ZHY = @Zsd:=@Zan _ @Zsd
def ZdM {R:Type} (N:Nat) (x_1 x_2:Int) (e_3:List V) (f_4:Fl) (x_5 x_6:Int) (e_7:List V) (f_8:Fl) (x_9:Int) (e_11:List V) (f_12:Fl) (x_13 x_14 x_15 x_16 x_17 x_18:Int) (w_19:ByteArray) (e_20:List V) (f_21:Fl) (nx:Int → Option R) (x_10:Int) (k0:ByteArray → Option R) (k1:Unit → Option R):Option R :=
 (match decide (x_10 < x_9) with
  | true=>(if 0 ≤ x_10 then Zbt (nth e_7 x_10.toNat) fun e13=>Za1 e13 fun w14 n15=>(match (n15 == x_1) with
   | true=>k0 w14
   | false=>nx (IntKind.i64.wrap (x_10 + 1))) else none)
  | false=>k1 ())
def ZfG {R:Type} (N:Nat) (x_1 x_2:Int) (e_3:List V) (f_4:Fl) (x_5 x_6:Int) (e_7:List V) (f_8:Fl) (x_9:Int) (e_11:List V) (f_12:Fl) (x_13 x_14 x_15 x_16 x_17 x_18:Int) (w_19:ByteArray) (e_20:List V) (f_21:Fl) (k0:ByteArray → Option R) (k1:Unit → Option R):Nat → Int → Option R
 | 0,_=>none
 | n + 1,x_10=>ZdM N x_1 x_2 e_3 f_4 x_5 x_6 e_7 f_8 x_9 e_11 f_12 x_13 x_14 x_15 x_16 x_17 x_18 w_19 e_20 f_21 (fun x_10=>ZfG N x_1 x_2 e_3 f_4 x_5 x_6 e_7 f_8 x_9 e_11 f_12 x_13 x_14 x_15 x_16 x_17 x_18 w_19 e_20 f_21 k0 k1 n x_10) x_10 k0 k1
def Zdg {R:Type} (N:Nat) (x_1:Int) (e_2:List V) (f_3:Fl) (x_4:Int) (e_6:List V) (f_7:Fl) (x_8:Int) (nx:Int → Option R) (x_5:Int) (k0:Int → ByteArray → Option R) (k1:Unit → Option R):Option R :=
 (match decide (x_5 < x_4) with
  | true=>(if 0 ≤ x_5 then Zbt (nth e_2 x_5.toNat) fun e17=>ZaB e17 fun n18 n19 n20 n21 n22 w23 e24 f25=>ZfG N x_1 x_5 e_2 f_3 x_4 x_5 e24 f25.noOwn.noOwn (e24.length:Int) e_6 f_7 x_8 n18 n19 n20 n21 n22 w23 e24 f25.noOwn
    (fun w26=>k0 x_5 w26)
    (fun (_:Unit)=>nx (IntKind.i64.wrap (x_5 + 1)))
    N 0 else none)
  | false=>k1 ())
def Zg9 {R:Type} (N:Nat) (x_1:Int) (e_2:List V) (f_3:Fl) (x_4:Int) (e_6:List V) (f_7:Fl) (x_8:Int) (k0:Int → ByteArray → Option R) (k1:Unit → Option R):Nat → Int → Option R
 | 0,_=>none
 | n + 1,x_5=>Zdg N x_1 e_2 f_3 x_4 e_6 f_7 x_8 (fun x_5=>Zg9 N x_1 e_2 f_3 x_4 e_6 f_7 x_8 k0 k1 n x_5) x_5 k0 k1
def Zs8 {R:Type} (N:Nat) (e_1:List V) (f_2:Fl) (x_3 x_4:Int) (k:Int → ByteArray → Option R):Option R :=
 Zg9 N x_4 e_1 f_2.noOwn (e_1.length:Int) e_1 f_2 x_3
   (fun x27 w28=>k x27 w28)
   (fun (_:Unit)=>k 0 (ByteArray.mk #[]))
   N 0
def ZIR:=@ZaO _ @Zs8
theorem ZzM:@ZIR = @Zs8:=@Zan _ @Zs8
def Zdq {R:Type} (N:Nat) (w_1:ByteArray) (e_2:List V) (f_3:Fl) (x_4:Int) (e_6:List V) (f_7:Fl) (x_8:Int) (nx:Int → Option R) (x_5:Int) (k0:Int → Option R) (k1:Unit → Option R):Option R :=
 (match decide (x_5 < x_4) with
  | true=>(if 0 ≤ x_5 then Zbt (nth e_2 x_5.toNat) fun e13=>Za1 e13 fun w14 n15=>(match (w14.toList == w_1.toList) with
   | true=>k0 n15
   | false=>nx (IntKind.i64.wrap (x_5 + 1))) else none)
  | false=>k1 ())
def Zgo {R:Type} (N:Nat) (w_1:ByteArray) (e_2:List V) (f_3:Fl) (x_4:Int) (e_6:List V) (f_7:Fl) (x_8:Int) (k0:Int → Option R) (k1:Unit → Option R):Nat → Int → Option R
 | 0,_=>none
 | n + 1,x_5=>Zdq N w_1 e_2 f_3 x_4 e_6 f_7 x_8 (fun x_5=>Zgo N w_1 e_2 f_3 x_4 e_6 f_7 x_8 k0 k1 n x_5) x_5 k0 k1
def ZrP {R:Type} (N:Nat) (e_1:List V) (f_2:Fl) (x_3 x_4:Int) (w_5:ByteArray) (k:Int → Option R):Option R :=
 (if 0 ≤ x_4 then Zbt (nth e_1 x_4.toNat) fun e1=>ZaB e1 fun n2 n3 n4 n5 n6 w7 e8 f9=>Zgo N w_5 e8 f9.noOwn (e8.length:Int) e_1 f_2 x_3
    (fun x16=>k x16)
    (fun (_:Unit)=>k (-1))
    N 0 else none)
def ZI7:=@ZaO _ @ZrP
theorem Zzr:@ZI7 = @ZrP:=@Zan _ @ZrP
def Zqh {R:Type} (N:Nat) (x_1:Int) (k:List V → Option R):Option R :=
 (if 0 ≤ x_1 ∧ x_1 * (16:Nat) ≤ 140737488355328 then k [] else none)
def ZLL:=@ZaO _ @Zqh
theorem ZxA:@ZLL = @Zqh:=@Zan _ @Zqh
def Zfx {R:Type} (N:Nat) (e_1:List V) (f_2:Fl) (e_4:List V) (f_5:Fl) (x_6:Int) (nx:Int → Int → Option R) (x_3 x_7:Int) (k0:Int → Option R):Option R :=
 (match decide (x_7 < x_6) with
  | true=>(if 0 ≤ x_7 then Zbt (nth e_4 x_7.toNat) fun e4=>ZaX 1 e4 fun e5 f6=>(match decide (IntKind.i64.wrap (x_3 + (e5.length:Int)) < 0) with
   | true=>none
   | false=>nx (IntKind.i64.wrap (x_3 + (e5.length:Int))) (IntKind.i64.wrap (x_7 + 1))) else none)
  | false=>k0 x_3)
def Zfs {R:Type} (N:Nat) (e_1:List V) (f_2:Fl) (e_4:List V) (f_5:Fl) (x_6:Int) (k0:Int → Option R):Nat → Int → Int → Option R
 | 0,_,_=>none
 | n + 1,x_3,x_7=>Zfx N e_1 f_2 e_4 f_5 x_6 (fun x_3 x_7=>Zfs N e_1 f_2 e_4 f_5 x_6 k0 n x_3 x_7) x_3 x_7 k0
def ZfO {R:Type} (N:Nat) (e_2:List V) (f_3:Fl) (x_4:Int) (nx:List V → Int → Option R) (e_1:List V) (x_5:Int) (k0:List V → Option R):Option R :=
 (match decide (x_5 < x_4) with
  | true=>(if 0 ≤ x_5 then Zbt (nth e_2 x_5.toNat) fun e12=>ZaX 1 e12 fun e13 f14=>Zaj (ZjY f14.noOwn.noOwn e13) ((if (e_1.length + (e13).length) * 16 ≤ 140737488355328 then nx (e_1 ++ (e13).map V.noOwn) (IntKind.i64.wrap (x_5 + 1)) else none)) else none)
  | false=>k0 e_1)
def Zfn {R:Type} (N:Nat) (e_2:List V) (f_3:Fl) (x_4:Int) (k0:List V → Option R):Nat → List V → Int → Option R
 | 0,_,_=>none
 | n + 1,e_1,x_5=>ZfO N e_2 f_3 x_4 (fun e_1 x_5=>Zfn N e_2 f_3 x_4 k0 n e_1 x_5) e_1 x_5 k0
def Zqq {R:Type} (N:Nat) (e_1:List V) (f_2:Fl) (k:List V → Option R):Option R :=
 Zfs N e_1 f_2 e_1 f_2.noOwn (e_1.length:Int)
   (fun x7=>ZLL N x7 fun e8=>Zfn N e_1 f_2.noOwn (e_1.length:Int)
    (fun e15=>k e15)
    N e8 0)
   N 0 0
def ZBk:=@ZaO _ @Zqq
theorem Zzb:@ZBk = @Zqq:=@Zan _ @Zqq
def Zet {R:Type} (N:Nat) (b_1 b_2:Bool) (e_6:List V) (f_7:Fl) (x_8 x_9 x_10:Int) (nx:List V → Int → Int → Option R) (e_3:List V) (x_4 x_5:Int) (k0:Int → Int → Option R) (k1:Int → Option R):Option R :=
 (match decide ((e_3.length:Int) > 0) with
  | true=>Zbt (nth e_3 0) fun e29=>Zby e29 fun w30=>(if (0:Int) ≤ 1 ∧ 1 ≤ (e_3.length:Int) then ZCk N e_6 f_7.noOwn.noOwn x_8 x_4 fun b31=>(match (!b31) with
   | true=>k0 3 x_4
   | false=>ZEf N e_6 f_7.noOwn.noOwn x_8 x_9 x_10 x_4 1 fun b32=>(match (!b32) with
   | true=>k0 4 x_4
   | false=>(match (w30.toList == (ByteArray.mk #[46]).toList) with
    | true=>nx ((e_3.take e_3.length).drop 1) x_4 x_5
    | false=>(match (w30.toList == (ByteArray.mk #[46,46]).toList) with
    | true=>ZIR N e_6 f_7.noOwn.noOwn x_8 x_4 fun x33 w34=>nx ((e_3.take e_3.length).drop 1) x33 x_5
    | false=>ZI7 N e_6 f_7.noOwn.noOwn x_8 x_4 w30 fun x35=>(match decide (x35 < 0) with
     | true=>k0 2 x_4
     | false=>(if 0 ≤ x35 then Zbt (nth e_6 x35.toNat) fun e36=>ZaB e36 fun n37 n38 n39 n40 n41 w42 e43 f44=>(match (n37 == 3) with
      | true=>(match decide ((((e_3.take e_3.length).drop 1).length:Int) > 0) with
      | true=>(match (x_5 == 8) with
       | true=>k0 5 x_4
       | false=>ZpK N w42 fun e45=>ZBk N [.list 1 e45 .sh,.list 1 ((e_3.take e_3.length).drop 1) .sh] .sh fun e46=>ZcV w42 0 fun n47=>(match (n47 == 47) with
       | true=>nx e46 0 (IntKind.i64.wrap (x_5 + 1))
       | false=>nx e46 x_4 (IntKind.i64.wrap (x_5 + 1))))
      | false=>(match b_1 with
       | true=>(match (x_5 == 8) with
       | true=>k0 5 x_4
       | false=>ZpK N w42 fun e48=>ZBk N [.list 1 e48 .sh,.list 1 ((e_3.take e_3.length).drop 1) .sh] .sh fun e49=>ZcV w42 0 fun n50=>(match (n50 == 47) with
        | true=>nx e49 0 (IntKind.i64.wrap (x_5 + 1))
        | false=>nx e49 x_4 (IntKind.i64.wrap (x_5 + 1))))
       | false=>(match b_2 with
       | true=>(match (x_5 == 8) with
        | true=>k0 5 x_4
        | false=>ZpK N w42 fun e51=>ZBk N [.list 1 e51 .sh,.list 1 ((e_3.take e_3.length).drop 1) .sh] .sh fun e52=>ZcV w42 0 fun n53=>(match (n53 == 47) with
        | true=>nx e52 0 (IntKind.i64.wrap (x_5 + 1))
        | false=>nx e52 x_4 (IntKind.i64.wrap (x_5 + 1))))
       | false=>nx ((e_3.take e_3.length).drop 1) x35 x_5)))
      | false=>nx ((e_3.take e_3.length).drop 1) x35 x_5) else none)))))) else none)
  | false=>k1 x_4)
def Ze9 {R:Type} (N:Nat) (b_1 b_2:Bool) (e_6:List V) (f_7:Fl) (x_8 x_9 x_10:Int) (k0:Int → Int → Option R) (k1:Int → Option R):Nat → List V → Int → Int → Option R
 | 0,_,_,_=>none
 | n + 1,e_3,x_4,x_5=>Zet N b_1 b_2 e_6 f_7 x_8 x_9 x_10 (fun e_3 x_4 x_5=>Ze9 N b_1 b_2 e_6 f_7 x_8 x_9 x_10 k0 k1 n e_3 x_4 x_5) e_3 x_4 x_5 k0 k1
def Zsa {R:Type} (N:Nat) (e_1:List V) (f_2:Fl) (x_3 x_4 x_5:Int) (w_6:ByteArray) (b_7:Bool) (k:Int → Int → Option R):Option R :=
 ZJ4 N w_6 fun b1=>(match (!b1) with
  | true=>k 0 1
  | false=>ZHY N w_6 (ByteArray.mk #[47]) fun b2=>ZpK N w_6 fun e3=>Ze9 N b_7 b2 e_1 f_2 x_3 x_4 x_5
    (fun x54 x55=>k 0 x54)
    (fun x56=>(match b2 with
   | true=>ZCk N e_1 f_2.noOwn.noOwn x_3 x56 fun b57=>(match (!b57) with
   | true=>k 0 3
   | false=>k x56 0)
   | false=>k x56 0))
    N e3 0 0)
def ZI1:=@ZaO _ @Zsa
theorem Zy4:@ZI1 = @Zsa:=@Zan _ @Zsa
def ZsC {R:Type} (N:Nat) (e_1:List V) (f_2:Fl) (x_3 x_4 x_5:Int) (w_6:ByteArray) (k:Int → Int → Option R):Option R :=
 ZI1 N e_1 f_2.noOwn.noOwn x_3 x_4 x_5 w_6 true fun x1 x2=>(match (x2 == 0) with
  | true=>ZCk N e_1 f_2.noOwn.noOwn x_3 x1 fun b3=>(match (!b3) with
  | true=>k 0 3
  | false=>k x1 x2)
  | false=>k x1 x2)
def ZI6:=@ZaO _ @ZsC
theorem Zzl:@ZI6 = @ZsC:=@Zan _ @ZsC
def ZdQ {R:Type} (N:Nat) (e_1:List V) (f_2:Fl) (x_3:Int) (e_5:List V) (f_6:Fl) (x_7 x_8 x_9:Int) (nx:Nat → Int → List V → Option R) (k_10:Nat) (x_4:Int) (e_11:List V) (k0:Nat → List V → Option R):Option R :=
 (match decide (x_4 < x_3) with
  | true=>(if 0 ≤ x_4 then Zbt (nth e_1 x_4.toNat) fun e17=>Za1 e17 fun w18 n19=>(if k_10 ≤ e_11.length then (if 0 = 0 ∧ k_10 = (e_11.take k_10).length ∧ (k_10 + 1) * 16 ≤ 140737488355328 ∧ 0 < 1 then Zaj (ZaE (((e_11.take k_10) ++ ([.str w18]:List V)).map (trimV 4)) && true) (nx (k_10 + 1) (IntKind.i64.wrap (x_4 + 1)) (((e_11.take k_10) ++ ([.str w18]:List V)).map (trimV 4))) else none) else none) else none)
  | false=>Zaj (ZaE (e_11.map (trimV 4)) && true) (k0 k_10 (e_11.map (trimV 4))))
def ZfT {R:Type} (N:Nat) (e_1:List V) (f_2:Fl) (x_3:Int) (e_5:List V) (f_6:Fl) (x_7 x_8 x_9:Int) (k0:Nat → List V → Option R):Nat → Nat → Int → List V → Option R
 | 0,_,_,_=>none
 | n + 1,k_10,x_4,e_11=>ZdQ N e_1 f_2 x_3 e_5 f_6 x_7 x_8 x_9 (fun k_10 x_4 e_11=>ZfT N e_1 f_2 x_3 e_5 f_6 x_7 x_8 x_9 k0 n k_10 x_4 e_11) k_10 x_4 e_11 k0
def ZqF {R:Type} (N:Nat) (e_1:List V) (f_2:Fl) (x_3 x_4 x_5:Int) (w_6:ByteArray) (k:Nat → Int → Bool → List V → Option R):Option R :=
 ZJb N e_1 f_2.noOwn.noOwn x_3 x_4 x_5 fun b1=>(match (!b1) with
  | true=>k 0 0 false []
  | false=>ZI6 N e_1 f_2.noOwn.noOwn x_3 x_4 x_5 w_6 fun x2 x3=>(match (x3 != 0) with
  | true=>k 0 x3 true []
  | false=>ZEf N e_1 f_2.noOwn.noOwn x_3 x_4 x_5 x2 4 fun b4=>(match (!b4) with
   | true=>k 0 4 true []
   | false=>(if 0 ≤ x2 then Zbt (nth e_1 x2.toNat) fun e5=>ZaB e5 fun n6 n7 n8 n9 n10 w11 e12 f13=>ZfT N e12 f13.noOwn (e12.length:Int) e_1 f_2 x_3 x_4 x_5
     (fun k20 e21=>Zaj (Zb1 e21 && true) (k k20 0 true e21))
     N 0 0 [] else none))))
def ZEG:=@ZaO _ @ZqF
theorem ZxO:@ZEG = @ZqF:=@Zan _ @ZqF
def ZdF {R:Type} (N:Nat) (e_1:List V) (f_2:Fl) (e_3:List V) (f_4:Fl) (nx:Int → Option R) (x_5:Int) (k0:Unit → Option R) (k1:Unit → Option R):Option R :=
 (match decide (x_5 < (e_1.length:Int)) with
  | true=>(if 0 ≤ x_5 then Zbt (nth e_1 x_5.toNat) fun e5=>Zby e5 fun w6=>(if 0 ≤ x_5 then Zbt (nth e_3 x_5.toNat) fun e7=>Zby e7 fun w8=>(match (!(w6.toList == w8.toList)) with
   | true=>k0 ()
   | false=>nx (IntKind.i64.wrap (x_5 + 1))) else none) else none)
  | false=>k1 ())
def ZgH {R:Type} (N:Nat) (e_1:List V) (f_2:Fl) (e_3:List V) (f_4:Fl) (k0:Unit → Option R) (k1:Unit → Option R):Nat → Int → Option R
 | 0,_=>none
 | n + 1,x_5=>ZdF N e_1 f_2 e_3 f_4 (fun x_5=>ZgH N e_1 f_2 e_3 f_4 k0 k1 n x_5) x_5 k0 k1
def ZrY {R:Type} (N:Nat) (e_1:List V) (f_2:Fl) (e_3:List V) (f_4:Fl) (k:Bool → Option R):Option R :=
 (match ((e_1.length:Int) != (e_3.length:Int)) with
  | true=>k false
  | false=>ZgH N e_1 f_2 e_3 f_4
    (fun (_:Unit)=>k false)
    (fun (_:Unit)=>k true)
    N 0)
def ZzZ:=@ZaO _ @ZrY
theorem ZyW:@ZzZ = @ZrY:=@Zan _ @ZrY
def Zq1 {R:Type} (N:Nat) (w_1:ByteArray) (x_2:Int) (w_3:ByteArray) (x_4:Int) (k:Bool → Option R):Option R :=
 (match (!(w_1.toList == w_3.toList)) with
  | true=>k false
  | false=>(match (x_2 != x_4) with
  | true=>k false
  | false=>k true))
def ZHy:=@ZaO _ @Zq1
theorem Zyx:@ZHy = @Zq1:=@Zan _ @Zq1
def ZdH {R:Type} (N:Nat) (e_1:List V) (f_2:Fl) (e_3:List V) (f_4:Fl) (nx:Int → Option R) (x_5:Int) (k0:Unit → Option R) (k1:Unit → Option R):Option R :=
 (match decide (x_5 < (e_1.length:Int)) with
  | true=>(if 0 ≤ x_5 then Zbt (nth e_1 x_5.toNat) fun e8=>Za1 e8 fun w9 n10=>(if 0 ≤ x_5 then Zbt (nth e_3 x_5.toNat) fun e11=>Za1 e11 fun w12 n13=>ZHy N w9 n10 w12 n13 fun b14=>(match (!b14) with
   | true=>k0 ()
   | false=>nx (IntKind.i64.wrap (x_5 + 1))) else none) else none)
  | false=>k1 ())
def Zhd {R:Type} (N:Nat) (e_1:List V) (f_2:Fl) (e_3:List V) (f_4:Fl) (k0:Unit → Option R) (k1:Unit → Option R):Nat → Int → Option R
 | 0,_=>none
 | n + 1,x_5=>ZdH N e_1 f_2 e_3 f_4 (fun x_5=>Zhd N e_1 f_2 e_3 f_4 k0 k1 n x_5) x_5 k0 k1
def Zrk {R:Type} (N:Nat) (e_1:List V) (f_2:Fl) (e_3:List V) (f_4:Fl) (k:Bool → Option R):Option R :=
 (match ((e_1.length:Int) != (e_3.length:Int)) with
  | true=>k false
  | false=>Zhd N e_1 f_2 e_3 f_4
    (fun (_:Unit)=>k false)
    (fun (_:Unit)=>k true)
    N 0)
def ZHT:=@ZaO _ @Zrk
theorem ZwR:@ZHT = @Zrk:=@Zan _ @Zrk
def Zrt {R:Type} (N:Nat) (x_1 x_2 x_3 x_4 x_5:Int) (w_6:ByteArray) (e_7:List V) (f_8:Fl) (x_9 x_10 x_11 x_12 x_13:Int) (w_14:ByteArray) (e_15:List V) (f_16:Fl) (k:Bool → Option R):Option R :=
 (match (x_1 != x_9) with
  | true=>k false
  | false=>(match (x_2 != x_10) with
  | true=>k false
  | false=>(match (x_3 != x_11) with
   | true=>k false
   | false=>(match (x_4 != x_12) with
   | true=>k false
   | false=>(match (x_5 != x_13) with
    | true=>k false
    | false=>(match (!(w_6.toList == w_14.toList)) with
    | true=>k false
    | false=>ZHT N e_7 f_8.noOwn.noOwn e_15 f_16.noOwn.noOwn fun b1=>(match (!b1) with
     | true=>k false
     | false=>k true)))))))
def ZKg:=@ZaO _ @Zrt
theorem Zxn:@ZKg = @Zrt:=@Zan _ @Zrt
def Zc8 {R:Type} (N:Nat) (e_1:List V) (f_2:Fl) (e_3:List V) (f_4:Fl) (nx:Int → Option R) (x_5:Int) (k0:Unit → Option R) (k1:Unit → Option R):Option R :=
 (match decide (x_5 < (e_1.length:Int)) with
  | true=>(if 0 ≤ x_5 then Zbt (nth e_1 x_5.toNat) fun e20=>ZaB e20 fun n21 n22 n23 n24 n25 w26 e27 f28=>(if 0 ≤ x_5 then Zbt (nth e_3 x_5.toNat) fun e29=>ZaB e29 fun n30 n31 n32 n33 n34 w35 e36 f37=>ZKg N n21 n22 n23 n24 n25 w26 e27 f28.noOwn.noOwn.noOwn.noOwn n30 n31 n32 n33 n34 w35 e36 f37.noOwn.noOwn.noOwn.noOwn fun b38=>(match (!b38) with
   | true=>k0 ()
   | false=>nx (IntKind.i64.wrap (x_5 + 1))) else none) else none)
  | false=>k1 ())
def Zhg {R:Type} (N:Nat) (e_1:List V) (f_2:Fl) (e_3:List V) (f_4:Fl) (k0:Unit → Option R) (k1:Unit → Option R):Nat → Int → Option R
 | 0,_=>none
 | n + 1,x_5=>Zc8 N e_1 f_2 e_3 f_4 (fun x_5=>Zhg N e_1 f_2 e_3 f_4 k0 k1 n x_5) x_5 k0 k1
def Zr0 {R:Type} (N:Nat) (e_1:List V) (f_2:Fl) (e_3:List V) (f_4:Fl) (k:Bool → Option R):Option R :=
 (match ((e_1.length:Int) != (e_3.length:Int)) with
  | true=>k false
  | false=>Zhg N e_1 f_2 e_3 f_4
    (fun (_:Unit)=>k false)
    (fun (_:Unit)=>k true)
    N 0)
def ZJ9:=@ZaO _ @Zr0
theorem Zxr:@ZJ9 = @Zr0:=@Zan _ @Zr0
def ZsA {R:Type} (N:Nat) (e_1:List V) (f_2:Fl) (x_3:Int) (e_4:List V) (f_5:Fl) (x_6:Int) (k:Bool → Option R):Option R :=
 ZJ9 N e_1 f_2.noOwn.noOwn e_4 f_5.noOwn.noOwn fun b1=>(match (!b1) with
  | true=>k false
  | false=>(match (x_3 != x_6) with
  | true=>k false
  | false=>k true))
def ZJS:=@ZaO _ @ZsA
theorem ZzD:@ZJS = @ZsA:=@Zan _ @ZsA
def ZcI {R:Type} (N:Nat) (nx:Int → ByteArray → Option R) (x_1:Int) (w_2:ByteArray) (k0:ByteArray → Option R):Option R :=
 (match decide (x_1 > 0) with
  | true=>(match ZL7 [.int .u8 (IntKind.u8.wrap (IntKind.i64.wrap (48 + Int.tmod x_1 10)))] with
     | some w2=>(if (strOfNums w2).size + w_2.size ≤ 4611686018427387904 then nx (IntKind.i64.wrap (Int.tdiv x_1 10)) ((strOfNums w2) ++ w_2) else none)
     | none=>none)
  | false=>k0 w_2)
def ZfM {R:Type} (N:Nat) (k0:ByteArray → Option R):Nat → Int → ByteArray → Option R
 | 0,_,_=>none
 | n + 1,x_1,w_2=>ZcI N (fun x_1 w_2=>ZfM N k0 n x_1 w_2) x_1 w_2 k0
def ZrL {R:Type} (N:Nat) (x_1:Int) (k:ByteArray → Option R):Option R :=
 (match decide (x_1 ≤ 0) with
  | true=>k (ByteArray.mk #[109,48])
  | false=>ZfM N
    (fun w3=>(if (ByteArray.mk #[109]).size + w3.size ≤ 4611686018427387904 then k ((ByteArray.mk #[109]) ++ w3) else none))
    N x_1 (ByteArray.mk #[]))
def Zq3:=@ZaO _ @ZrL
theorem ZoI:@Zq3 = @ZrL:=@Zan _ @ZrL
def ZdU {R:Type} (N:Nat) (k_1:Nat) (nx:Int → Int → List V → Option R) (x_2 x_3:Int) (e_4:List V) (k0:Int → List V → Option R):Option R :=
 (match decide (x_3 < (k_1:Int)) with
  | true=>Zq3 N x_2 fun w6=>(if (0:Int) ≤ x_3 ∧ x_3 < k_1 then (match nth e_4 (0 + x_3.toNat) with
   | some e7=>(match ZaM e7 0 [.str w6] with
   | some e8=>(if (0:Int) ≤ x_3 ∧ x_3 < k_1 then (match nth (Zav e_4 (0 + x_3.toNat) e8) (0 + x_3.toNat) with
    | some e9=>(match ZaM e9 1 [.int .i64 (IntKind.i64.wrap (x_2 + 1))] with
     | some e10=>nx (IntKind.i64.wrap (IntKind.i64.wrap (x_2 + 1) + 1)) (IntKind.i64.wrap (x_3 + 1)) (Zav (Zav e_4 (0 + x_3.toNat) e8) (0 + x_3.toNat) e10)
     | none=>none)
    | none=>none) else none)
   | none=>none)
   | none=>none) else none)
  | false=>k0 x_2 e_4)
def ZfS {R:Type} (N:Nat) (k_1:Nat) (k0:Int → List V → Option R):Nat → Int → Int → List V → Option R
 | 0,_,_,_=>none
 | n + 1,x_2,x_3,e_4=>ZdU N k_1 (fun x_2 x_3 e_4=>ZfS N k_1 k0 n x_2 x_3 e_4) x_2 x_3 e_4 k0
def Zqu {R:Type} (N:Nat) (k_1:Nat) (x_2:Int) (e_3:List V) (k:Int → List V → Option R):Option R :=
 ZfS N k_1
   (fun x11 e12=>Zaj (ZaE e12 && true) (k x11 e12))
   N x_2 0 e_3
def ZJq:=@ZaO _ @Zqu
theorem ZxU:@ZJq = @Zqu:=@Zan _ @Zqu
def Zdd {R:Type} (N:Nat) (k_1:Nat) (nx:Int → Int → List V → Option R) (x_2 x_3:Int) (e_4:List V) (k0:Int → List V → Option R):Option R :=
 (match decide (x_3 < (k_1:Int)) with
  | true=>(if (0:Int) ≤ x_3 ∧ x_3 < k_1 then (match nth e_4 (0 + x_3.toNat) with
   | some e25=>(match ZaM e25 0 [.int .i64 x_2] with
   | some e26=>(if (0:Int) ≤ x_3 ∧ x_3 < k_1 then (match nth (Zav e_4 (0 + x_3.toNat) e26) (0 + x_3.toNat) with
    | some e27=>(match ZaM e27 1 [.int .i64 (IntKind.i64.wrap (x_2 + 1))] with
     | some e28=>(if (0:Int) ≤ x_3 ∧ x_3 < k_1 then (match nth (Zav (Zav e_4 (0 + x_3.toNat) e26) (0 + x_3.toNat) e28) (0 + x_3.toNat) with
      | some e29=>(match ZaM e29 2 [.int .i64 (IntKind.i64.wrap (IntKind.i64.wrap (x_2 + 1) + 1))] with
      | some e30=>(if (0:Int) ≤ x_3 ∧ x_3 < k_1 then (match nth (Zav (Zav (Zav e_4 (0 + x_3.toNat) e26) (0 + x_3.toNat) e28) (0 + x_3.toNat) e30) (0 + x_3.toNat) with
       | some e31=>(match ZaM e31 3 [.int .i64 (IntKind.i64.wrap (IntKind.i64.wrap (IntKind.i64.wrap (x_2 + 1) + 1) + 1))] with
        | some e32=>(if (0:Int) ≤ x_3 ∧ x_3 < k_1 then (match nth (Zav (Zav (Zav (Zav e_4 (0 + x_3.toNat) e26) (0 + x_3.toNat) e28) (0 + x_3.toNat) e30) (0 + x_3.toNat) e32) (0 + x_3.toNat) with
         | some e33=>(match ZaM e33 4 [.int .i64 (IntKind.i64.wrap (IntKind.i64.wrap (IntKind.i64.wrap (IntKind.i64.wrap (x_2 + 1) + 1) + 1) + 1))] with
         | some e34=>Zq3 N (IntKind.i64.wrap (IntKind.i64.wrap (IntKind.i64.wrap (IntKind.i64.wrap (IntKind.i64.wrap (x_2 + 1) + 1) + 1) + 1) + 1)) fun w35=>(if (0:Int) ≤ x_3 ∧ x_3 < k_1 then (match nth (Zav (Zav (Zav (Zav (Zav e_4 (0 + x_3.toNat) e26) (0 + x_3.toNat) e28) (0 + x_3.toNat) e30) (0 + x_3.toNat) e32) (0 + x_3.toNat) e34) (0 + x_3.toNat) with
          | some e36=>(match ZaM e36 5 [.str w35] with
           | some e37=>(if (0:Int) ≤ x_3 ∧ x_3 < k_1 then (match nth (Zav (Zav (Zav (Zav (Zav (Zav e_4 (0 + x_3.toNat) e26) (0 + x_3.toNat) e28) (0 + x_3.toNat) e30) (0 + x_3.toNat) e32) (0 + x_3.toNat) e34) (0 + x_3.toNat) e37) (0 + x_3.toNat) with
            | some e38=>Zbl (e38.cells.drop 6) fun c39 l40=>Zsu 51 2 c39 fun e41=>(match ZaM e38 6 [.arr 1 0 0 e41.length] with
            | some e42=>Zaj (ZaE e41 && true) (ZJq N e41.length (IntKind.i64.wrap (IntKind.i64.wrap (IntKind.i64.wrap (IntKind.i64.wrap (IntKind.i64.wrap (IntKind.i64.wrap (x_2 + 1) + 1) + 1) + 1) + 1) + 1)) e41 fun x43 e44=>(match nth (Zav (Zav (Zav (Zav (Zav (Zav (Zav e_4 (0 + x_3.toNat) e26) (0 + x_3.toNat) e28) (0 + x_3.toNat) e30) (0 + x_3.toNat) e32) (0 + x_3.toNat) e34) (0 + x_3.toNat) e37) (0 + x_3.toNat) e42) (0 + x_3.toNat) with
             | some e45=>Zbl (e45.cells.drop 6) fun c46 l47=>Zaj (Zjd 1 e41.length c46) (Zaj (decide (0 + e41.length ≤ e44.length)) <|
                Zaj (((e44.drop 0).take e41.length).all V.scalE) ((match ZaM e45 6 [.uni 51 2 ((e44.drop 0).take e41.length)] with
               | some e48=>nx x43 (IntKind.i64.wrap (x_3 + 1)) ((Zav (Zav (Zav (Zav (Zav (Zav (Zav (Zav e_4 (0 + x_3.toNat) e26) (0 + x_3.toNat) e28) (0 + x_3.toNat) e30) (0 + x_3.toNat) e32) (0 + x_3.toNat) e34) (0 + x_3.toNat) e37) (0 + x_3.toNat) e42) (0 + x_3.toNat) e48).map (trimV 1))
               | none=>none)))
             | none=>none))
            | none=>none)
            | none=>none) else none)
           | none=>none)
          | none=>none) else none)
         | none=>none)
         | none=>none) else none)
        | none=>none)
       | none=>none) else none)
      | none=>none)
      | none=>none) else none)
     | none=>none)
    | none=>none) else none)
   | none=>none)
   | none=>none) else none)
  | false=>k0 x_2 (e_4.map (trimV 1)))
def ZfK {R:Type} (N:Nat) (k_1:Nat) (k0:Int → List V → Option R):Nat → Int → Int → List V → Option R
 | 0,_,_,_=>none
 | n + 1,x_2,x_3,e_4=>Zdd N k_1 (fun x_2 x_3 e_4=>ZfK N k_1 k0 n x_2 x_3 e_4) x_2 x_3 e_4 k0
def ZqA {R:Type} (N:Nat) (k_1:Nat) (x_2:Int) (e_3:List V) (k:Int → List V → Option R):Option R :=
 ZfK N k_1
   (fun x49 e50=>Zaj (ZaE e50 && true) (k x49 e50))
   N x_2 0 e_3
def ZMw:=@ZaO _ @ZqA
theorem Zxk:@ZMw = @ZqA:=@Zan _ @ZqA
def ZsI {R:Type} (N:Nat) (k_4:Nat) (x_3 x_5:Int) (e_6:List V) (k:Int → List V → Option R):Option R :=
 Zaj (ZaE e_6 && true) (ZMw N k_4 x_5 e_6 fun x1 e2=>Zaj (ZaE e2 && true) (k x1 e2))
def ZEs:=@ZaO _ @ZsI
theorem Zw0:@ZEs = @ZsI:=@Zan _ @ZsI
def ZdB {R:Type} (N:Nat) (k_1:Nat) (nx:Int → Int → List V → Option R) (x_2 x_3:Int) (e_4:List V) (k0:Int → List V → Option R):Option R :=
 (match decide (x_3 < (k_1:Int)) with
  | true=>Zq3 N x_2 fun w4=>(if (0:Int) ≤ x_3 ∧ x_3 < k_1 then (match nth e_4 (0 + x_3.toNat) with
   | some e5=>(match ZaM e5 0 [.str w4] with
   | some e6=>nx (IntKind.i64.wrap (x_2 + 1)) (IntKind.i64.wrap (x_3 + 1)) (Zav e_4 (0 + x_3.toNat) e6)
   | none=>none)
   | none=>none) else none)
  | false=>k0 x_2 e_4)
def Zg1 {R:Type} (N:Nat) (k_1:Nat) (k0:Int → List V → Option R):Nat → Int → Int → List V → Option R
 | 0,_,_,_=>none
 | n + 1,x_2,x_3,e_4=>ZdB N k_1 (fun x_2 x_3 e_4=>Zg1 N k_1 k0 n x_2 x_3 e_4) x_2 x_3 e_4 k0
def Zql {R:Type} (N:Nat) (k_1:Nat) (x_2:Int) (e_3:List V) (k:Int → List V → Option R):Option R :=
 Zg1 N k_1
   (fun x7 e8=>Zaj (ZaE e8 && true) (k x7 e8))
   N x_2 0 e_3
def ZC8:=@ZaO _ @Zql
theorem ZwT:@ZC8 = @Zql:=@Zan _ @Zql
def Zdf {R:Type} (N:Nat) (e_1:List V) (f_2:Fl) (nx:Int → Int → Option R) (x_3 x_4:Int) (k0:Int → Option R) (k1:Int → Option R):Option R :=
 (match decide (x_4 < (e_1.length:Int)) with
  | true=>(if 0 ≤ x_4 then Zbt (nth e_1 x_4.toNat) fun e4=>Zby e4 fun w5=>Zq3 N x_3 fun w6=>(match (!(w5.toList == w6.toList)) with
   | true=>k0 x_3
   | false=>nx (IntKind.i64.wrap (x_3 + 1)) (IntKind.i64.wrap (x_4 + 1))) else none)
  | false=>k1 x_3)
def Zg4 {R:Type} (N:Nat) (e_1:List V) (f_2:Fl) (k0:Int → Option R) (k1:Int → Option R):Nat → Int → Int → Option R
 | 0,_,_=>none
 | n + 1,x_3,x_4=>Zdf N e_1 f_2 (fun x_3 x_4=>Zg4 N e_1 f_2 k0 k1 n x_3 x_4) x_3 x_4 k0 k1
def Zrs {R:Type} (N:Nat) (e_1:List V) (f_2:Fl) (x_3:Int) (k:Int → Option R):Option R :=
 Zg4 N e_1 f_2
   (fun x7=>k (-1))
   (fun x8=>k x8)
   N x_3 0
def ZCo:=@ZaO _ @Zrs
theorem ZyH:@ZCo = @Zrs:=@Zan _ @Zrs
def ZET {R:Type} (N:Nat) (e_1:List V) (f_2:Fl) (x_3 x_4 x_5:Int) (w_6:ByteArray) (k:Bool → Option R):Option R :=
 (match decide ((w_6.size:Int) > 1048576) with
  | true=>k true
  | false=>ZJ7 N e_1 f_2.noOwn.noOwn x_3 1048576 fun x1=>(match decide (x1 < 0) with
  | true=>k true
  | false=>Zvr N e_1 f_2.noOwn.noOwn.noOwn.noOwn x_3 fun k2 x3 e4=>(match Zbb (freeze false [some ⟨(e4.map V.unis),7,49,0⟩] 10) (((e4.map V.unis).drop 0).take k2) with
   | some e5=>Zaj (decide (0 + k2 ≤ (e4.map V.unis).length)) (Zaj (e5.all V.plain) (ZAL N x_4 x_5 fun x6 x7=>ZHJ N e5 .sh x3 x6 x7 w_6 fun e8 x9 b10=>Zvr N e_1 f_2.noOwn.noOwn x_3 fun k11 x12 e13=>ZAL N x_4 x_5 fun x14 x15=>(match Zbb (freeze true [some ⟨[.agg [.list 7 e_1 f_2,.int .i64 x_3]],2,24,0⟩,some ⟨[.agg [.int .i64 x_4,.int .i64 x_5]],2,26,0⟩,some ⟨(e13.map V.unil),7,49,0⟩,some ⟨[.agg [.arr 2 0 0 k11,.int .i64 x12]],2,33,0⟩] 10) (((e13.map V.unil).drop 0).take k11) with
    | some e16=>Zaj (decide (0 + k11 ≤ (e13.map V.unil).length)) (ZEG N (e16.map V.lent) .bor x12 x14 x15 w_6 fun k17 x18 b19 e20=>(match Zbb (freeze true [some ⟨[.agg [.list 7 e_1 f_2,.int .i64 x_3]],2,24,0⟩,some ⟨[.agg [.int .i64 x_4,.int .i64 x_5]],2,26,0⟩,some ⟨(e13.map V.unil),7,49,0⟩,some ⟨[.agg [.arr 2 0 0 k11,.int .i64 x12]],2,33,0⟩,some ⟨(e20.map V.unil),1,9,0⟩] 11) (((e20.map V.unil).drop 0).take k17) with
     | some e21=>Zaj (decide (0 + k17 ≤ (e20.map V.unil).length)) (ZzZ N (e21.map V.lent) .bor e8 .sh fun b22=>(match (!b22) with
      | true=>k false
      | false=>(match (x18 != x9) with
       | true=>k false
       | false=>(match (!(b19 == b10)) with
       | true=>k false
       | false=>Zvr N e_1 f_2.noOwn.noOwn.noOwn.noOwn x_3 fun k23 x24 e25=>(match Zbb (freeze false [some ⟨(e25.map V.unis),7,49,0⟩] 10) (((e25.map V.unis).drop 0).take k23) with
        | some e26=>Zaj (decide (0 + k23 ≤ (e25.map V.unis).length)) (Zaj (e26.all V.plain) ((match Zbb (freeze true [some ⟨[.agg [.list 7 e_1 f_2,.int .i64 x_3]],2,24,0⟩,some ⟨[.agg [.int .i64 x_4,.int .i64 x_5]],2,26,0⟩,some ⟨(e13.map V.unil),7,49,0⟩,some ⟨[.agg [.arr 2 0 0 k11,.int .i64 x12]],2,33,0⟩,some ⟨(e20.map V.unil),1,9,0⟩] 10) (((e13.map V.unil).drop 0).take k11) with
         | some e27=>Zaj (decide (0 + k11 ≤ (e13.map V.unil).length)) (ZJS N (e27.map V.lent) .bor x12 e26 .sh x24 fun b28=>(match (!b28) with
          | true=>k false
          | false=>Zaj (ZaE e13 && true) (ZEs N k11 x12 1 e13 fun x29 e30=>(match decide (x29 < 0) with
           | true=>k false
           | false=>(match Zbb (freeze true [some ⟨[.agg [.list 7 e_1 f_2,.int .i64 x_3]],2,24,0⟩,some ⟨[.agg [.int .i64 x_4,.int .i64 x_5]],2,26,0⟩,some ⟨(e30.map V.unil),7,49,0⟩,some ⟨[.agg [.arr 2 0 0 k11,.int .i64 x12]],2,33,0⟩,some ⟨(e20.map V.unil),1,9,0⟩] 11) (((e20.map V.unil).drop 0).take k17) with
            | some e31=>Zaj (decide (0 + k17 ≤ (e20.map V.unil).length)) (ZzZ N (e31.map V.lent) .bor e8 .sh fun b32=>(match (!b32) with
             | true=>k false
             | false=>(match (x18 != x9) with
             | true=>k false
             | false=>(match (!(b19 == b10)) with
              | true=>k false
              | false=>Zaj (ZaE e20 && true) (ZC8 N k17 1 e20 fun x33 e34=>(match Zbb (freeze true [some ⟨[.agg [.list 7 e_1 f_2,.int .i64 x_3]],2,24,0⟩,some ⟨[.agg [.int .i64 x_4,.int .i64 x_5]],2,26,0⟩,some ⟨(e30.map V.unil),7,49,0⟩,some ⟨[.agg [.arr 2 0 0 k11,.int .i64 x12]],2,33,0⟩,some ⟨(e34.map V.unil),1,9,0⟩] 11) (((e34.map V.unil).drop 0).take k17) with
               | some e35=>Zaj (decide (0 + k17 ≤ (e34.map V.unil).length)) (ZCo N (e35.map V.lent) .bor 1 fun x36=>(match decide (x36 < 0) with
                | true=>k false
                | false=>(match (x36 != x33) with
                | true=>k false
                | false=>Zvr N e_1 f_2.noOwn.noOwn.noOwn.noOwn x_3 fun k37 x38 e39=>(match Zbb (freeze false [some ⟨(e39.map V.unis),7,49,0⟩] 10) (((e39.map V.unis).drop 0).take k37) with
                 | some e40=>Zaj (decide (0 + k37 ≤ (e39.map V.unis).length)) (Zaj (e40.all V.plain) (ZAL N x_4 x_5 fun x41 x42=>ZEG N e40 .sh x38 x41 x42 w_6 fun k43 x44 b45 e46=>(match Zbb (freeze false [some ⟨(e46.map V.unis),1,9,0⟩] 10) (((e46.map V.unis).drop 0).take k43) with
                  | some e47=>Zaj (decide (0 + k43 ≤ (e46.map V.unis).length)) (Zaj (e47.all V.plain) (ZE7 (.tuple [.list 1 e47 .sh,.int .i64 x44,.bool b45]) fun l48=>Zbl l48 fun v49 l50=>ZaX 1 v49 fun e51 f52=>Zbl l50 fun v53 l54=>asInt .i64 v53 fun n55=>Zbl l54 fun v56 l57=>asBool v56 fun b58=>ZiW l57 (ZzZ N e51 f52.noOwn.noOwn.noOwn.noOwn.noOwn.noOwn e8 .sh fun b59=>(match (!b59) with
                    | true=>k false
                    | false=>(match (n55 != x9) with
                     | true=>k false
                     | false=>(match (!(b58 == b10)) with
                     | true=>k false
                     | false=>(match Zbb (freeze true [some ⟨[.agg [.list 7 e_1 f_2,.int .i64 x_3]],2,24,0⟩,some ⟨[.agg [.int .i64 x_4,.int .i64 x_5]],2,26,0⟩,some ⟨(e30.map V.unil),7,49,0⟩,some ⟨[.agg [.arr 2 0 0 k11,.int .i64 x12]],2,33,0⟩,some ⟨(e34.map V.unil),1,9,0⟩] 11) (((e34.map V.unil).drop 0).take k17) with
                      | some e60=>Zaj (decide (0 + k17 ≤ (e34.map V.unil).length)) (ZCo N (e60.map V.lent) .bor 1 fun x61=>(match decide (x61 < 0) with
                       | true=>k false
                       | false=>(match (x61 != x33) with
                       | true=>k false
                       | false=>k true)))
                      | none=>none)))))))
                  | none=>none)))
                 | none=>none))))
               | none=>none))))))
            | none=>none)))))
         | none=>none)))
        | none=>none)))))
     | none=>none))
    | none=>none)))
   | none=>none)))
def ZlS {R:Type} (N:Nat) (e_1:List V) (f_2:Fl) (x_3 x_4 x_5:Int) (w_6:ByteArray) (k:Bool → Option R):Option R :=
 ZET N e_1 f_2 x_3 x_4 x_5 w_6 k
def ZPK:=@ZaO _ @ZlS
theorem ZJU:@ZPK = @ZlS:=@Zan _ @ZlS
end
end Go.VM.VL
