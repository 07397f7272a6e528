/- The functions of the program, told plainly: what each computes, as a function of its letters; and that the machine does the same. Printed by vgen.py, a program of this session's own. -/
import Derived.Test.YteekbhpdalbofaaGreatDoorVmZb
import Derived.Test.YteekbhpdalbofaaGreatDoorVmZl
set_option linter.unusedVariables false
namespace Go.VM.VL
noncomputable section
def Zeu {R : Type} (e : V) (k : List V → Fl → Int → Option R) : Option R :=
 asAgg e fun cs => Zbv cs fun v0 l0 => ZaV 7 v0 fun e_0 f_0 => Zbv l0 fun v1 l1 => asInt .i64 v1 fun x_1 => Zjo l1 (k e_0 f_0 x_1)
theorem ZdV {R : Type} {e : V} {k : List V → Fl → Int → Option R} {r : R} (h : Zeu e k = some r) : ∃ e_0 f_0 x_1, e = .agg [.list 7 e_0 f_0, .int .i64 x_1] ∧ k e_0 f_0 x_1 = some r := by
 unfold Zeu at h
 obtain ⟨_, rfl, h⟩ := ZaD h
 obtain ⟨_, _, rfl, h1⟩ := ZaI h
 obtain ⟨_, _, rfl, h2⟩ := Zal h1
 obtain ⟨_, _, rfl, h3⟩ := ZaI h2
 obtain ⟨_, rfl, h4⟩ := Zaf h3
 obtain ⟨rfl, h5⟩ := Zb8 h4
 exact ⟨_, _, _, rfl, h5⟩
def Zel {R : Type} (e : V) (k : Int → Int → Option R) : Option R :=
 asAgg e fun cs => Zbv cs fun v0 l0 => asInt .i64 v0 fun x_0 => Zbv l0 fun v1 l1 => asInt .i64 v1 fun x_1 => Zjo l1 (k x_0 x_1)
theorem ZeC {R : Type} {e : V} {k : Int → Int → Option R} {r : R} (h : Zel e k = some r) : ∃ x_0 x_1, e = .agg [.int .i64 x_0, .int .i64 x_1] ∧ k x_0 x_1 = some r := by
 unfold Zel at h
 obtain ⟨_, rfl, h⟩ := ZaD h
 obtain ⟨_, _, rfl, h1⟩ := ZaI h
 obtain ⟨_, rfl, h2⟩ := Zaf h1
 obtain ⟨_, _, rfl, h3⟩ := ZaI h2
 obtain ⟨_, rfl, h4⟩ := Zaf h3
 obtain ⟨rfl, h5⟩ := Zb8 h4
 exact ⟨_, _, rfl, h5⟩
def ZaQ {R : Type} (e : V) (k : List V → Fl → Int → Option R) : Option R :=
 asAgg e fun cs => Zbv cs fun v0 l0 => ZaV 7 v0 fun e_0 f_0 => Zbv l0 fun v1 l1 => asInt .i64 v1 fun x_1 => Zjo l1 (k e_0 f_0 x_1)
theorem Zav {R : Type} {e : V} {k : List V → Fl → Int → Option R} {r : R} (h : ZaQ e k = some r) : ∃ e_0 f_0 x_1, e = .agg [.list 7 e_0 f_0, .int .i64 x_1] ∧ k e_0 f_0 x_1 = some r := by
 unfold ZaQ at h
 obtain ⟨_, rfl, h⟩ := ZaD h
 obtain ⟨_, _, rfl, h1⟩ := ZaI h
 obtain ⟨_, _, rfl, h2⟩ := Zal h1
 obtain ⟨_, _, rfl, h3⟩ := ZaI h2
 obtain ⟨_, rfl, h4⟩ := Zaf h3
 obtain ⟨rfl, h5⟩ := Zb8 h4
 exact ⟨_, _, _, rfl, h5⟩
def Zba {R : Type} (e : V) (k : Int → Int → Option R) : Option R :=
 asAgg e fun cs => Zbv cs fun v0 l0 => asInt .i64 v0 fun x_0 => Zbv l0 fun v1 l1 => asInt .i64 v1 fun x_1 => Zjo l1 (k x_0 x_1)
theorem ZaO {R : Type} {e : V} {k : Int → Int → Option R} {r : R} (h : Zba e k = some r) : ∃ x_0 x_1, e = .agg [.int .i64 x_0, .int .i64 x_1] ∧ k x_0 x_1 = some r := by
 unfold Zba at h
 obtain ⟨_, rfl, h⟩ := ZaD h
 obtain ⟨_, _, rfl, h1⟩ := ZaI h
 obtain ⟨_, rfl, h2⟩ := Zaf h1
 obtain ⟨_, _, rfl, h3⟩ := ZaI h2
 obtain ⟨_, rfl, h4⟩ := Zaf h3
 obtain ⟨rfl, h5⟩ := Zb8 h4
 exact ⟨_, _, rfl, h5⟩
def Zax {R : Type} (e : V) (k : Int → Int → Int → Int → Int → ByteArray → List V → Fl → Option R) : Option R :=
 asAgg e fun cs => Zbv cs fun v0 l0 => asInt .i64 v0 fun x_0 => Zbv l0 fun v1 l1 => asInt .i64 v1 fun x_1 => Zbv l1 fun v2 l2 => asInt .i64 v2 fun x_2 => Zbv l2 fun v3 l3 => asInt .i64 v3 fun x_3 => Zbv l3 fun v4 l4 => asInt .i64 v4 fun x_4 => Zbv l4 fun v5 l5 => Zbd v5 fun w_5 => Zbv l5 fun v6 l6 => ZaV 2 v6 fun e_6 f_6 => Zjo l6 (k x_0 x_1 x_2 x_3 x_4 w_5 e_6 f_6)
theorem Zb2 {R : Type} {e : V} {k : Int → Int → Int → Int → Int → ByteArray → List V → Fl → Option R} {r : R} (h : Zax e k = some r) : ∃ x_0 x_1 x_2 x_3 x_4 w_5 e_6 f_6, e = .agg [.int .i64 x_0, .int .i64 x_1, .int .i64 x_2, .int .i64 x_3, .int .i64 x_4, .str w_5, .list 2 e_6 f_6] ∧ k x_0 x_1 x_2 x_3 x_4 w_5 e_6 f_6 = some r := by
 unfold Zax at h
 obtain ⟨_, rfl, h⟩ := ZaD h
 obtain ⟨_, _, rfl, h1⟩ := ZaI h
 obtain ⟨_, rfl, h2⟩ := Zaf h1
 obtain ⟨_, _, rfl, h3⟩ := ZaI h2
 obtain ⟨_, rfl, h4⟩ := Zaf h3
 obtain ⟨_, _, rfl, h5⟩ := ZaI h4
 obtain ⟨_, rfl, h6⟩ := Zaf h5
 obtain ⟨_, _, rfl, h7⟩ := ZaI h6
 obtain ⟨_, rfl, h8⟩ := Zaf h7
 obtain ⟨_, _, rfl, h9⟩ := ZaI h8
 obtain ⟨_, rfl, h10⟩ := Zaf h9
 obtain ⟨_, _, rfl, h11⟩ := ZaI h10
 obtain ⟨_, rfl, h12⟩ := Zao h11
 obtain ⟨_, _, rfl, h13⟩ := ZaI h12
 obtain ⟨_, _, rfl, h14⟩ := Zal h13
 obtain ⟨rfl, h15⟩ := Zb8 h14
 exact ⟨_, _, _, _, _, _, _, _, rfl, h15⟩
def Za3 {R : Type} (e : V) (k : ByteArray → Int → Option R) : Option R :=
 asAgg e fun cs => Zbv cs fun v0 l0 => Zbd v0 fun w_0 => Zbv l0 fun v1 l1 => asInt .i64 v1 fun x_1 => Zjo l1 (k w_0 x_1)
theorem Zee {R : Type} {e : V} {k : ByteArray → Int → Option R} {r : R} (h : Za3 e k = some r) : ∃ w_0 x_1, e = .agg [.str w_0, .int .i64 x_1] ∧ k w_0 x_1 = some r := by
 unfold Za3 at h
 obtain ⟨_, rfl, h⟩ := ZaD h
 obtain ⟨_, _, rfl, h1⟩ := ZaI h
 obtain ⟨_, rfl, h2⟩ := Zao h1
 obtain ⟨_, _, rfl, h3⟩ := ZaI h2
 obtain ⟨_, rfl, h4⟩ := Zaf h3
 obtain ⟨rfl, h5⟩ := Zb8 h4
 exact ⟨_, _, rfl, h5⟩
def Zcm {R : Type} (e : V) (k : Int → Int → Int → Int → Int → ByteArray → List V → Fl → Option R) : Option R :=
 asAgg e fun cs => Zbv cs fun v0 l0 => asInt .i64 v0 fun x_0 => Zbv l0 fun v1 l1 => asInt .i64 v1 fun x_1 => Zbv l1 fun v2 l2 => asInt .i64 v2 fun x_2 => Zbv l2 fun v3 l3 => asInt .i64 v3 fun x_3 => Zbv l3 fun v4 l4 => asInt .i64 v4 fun x_4 => Zbv l4 fun v5 l5 => Zbd v5 fun w_5 => Zbv l5 fun v6 l6 => ZaV 2 v6 fun e_6 f_6 => Zjo l6 (k x_0 x_1 x_2 x_3 x_4 w_5 e_6 f_6)
theorem Zez {R : Type} {e : V} {k : Int → Int → Int → Int → Int → ByteArray → List V → Fl → Option R} {r : R} (h : Zcm e k = some r) : ∃ x_0 x_1 x_2 x_3 x_4 w_5 e_6 f_6, e = .agg [.int .i64 x_0, .int .i64 x_1, .int .i64 x_2, .int .i64 x_3, .int .i64 x_4, .str w_5, .list 2 e_6 f_6] ∧ k x_0 x_1 x_2 x_3 x_4 w_5 e_6 f_6 = some r := by
 unfold Zcm at h
 obtain ⟨_, rfl, h⟩ := ZaD h
 obtain ⟨_, _, rfl, h1⟩ := ZaI h
 obtain ⟨_, rfl, h2⟩ := Zaf h1
 obtain ⟨_, _, rfl, h3⟩ := ZaI h2
 obtain ⟨_, rfl, h4⟩ := Zaf h3
 obtain ⟨_, _, rfl, h5⟩ := ZaI h4
 obtain ⟨_, rfl, h6⟩ := Zaf h5
 obtain ⟨_, _, rfl, h7⟩ := ZaI h6
 obtain ⟨_, rfl, h8⟩ := Zaf h7
 obtain ⟨_, _, rfl, h9⟩ := ZaI h8
 obtain ⟨_, rfl, h10⟩ := Zaf h9
 obtain ⟨_, _, rfl, h11⟩ := ZaI h10
 obtain ⟨_, rfl, h12⟩ := Zao h11
 obtain ⟨_, _, rfl, h13⟩ := ZaI h12
 obtain ⟨_, _, rfl, h14⟩ := Zal h13
 obtain ⟨rfl, h15⟩ := Zb8 h14
 exact ⟨_, _, _, _, _, _, _, _, rfl, h15⟩
def Zgb {R : Type} (e : V) (k : List V → Fl → Int → Int → Int → Int → List V → Fl → Int → Option R) : Option R :=
 asAgg e fun cs => Zbv cs fun v0 l0 => ZaV 7 v0 fun e_0 f_0 => Zbv l0 fun v1 l1 => asInt .i64 v1 fun x_1 => Zbv l1 fun v2 l2 => asInt .i64 v2 fun x_2 => Zbv l2 fun v3 l3 => asInt .i64 v3 fun x_3 => Zbv l3 fun v4 l4 => asInt .i64 v4 fun x_4 => Zbv l4 fun v5 l5 => ZaV 1 v5 fun e_5 f_5 => Zbv l5 fun v6 l6 => asInt .i64 v6 fun x_6 => Zjo l6 (k e_0 f_0 x_1 x_2 x_3 x_4 e_5 f_5 x_6)
theorem Zjk {R : Type} {e : V} {k : List V → Fl → Int → Int → Int → Int → List V → Fl → Int → Option R} {r : R} (h : Zgb e k = some r) : ∃ e_0 f_0 x_1 x_2 x_3 x_4 e_5 f_5 x_6, e = .agg [.list 7 e_0 f_0, .int .i64 x_1, .int .i64 x_2, .int .i64 x_3, .int .i64 x_4, .list 1 e_5 f_5, .int .i64 x_6] ∧ k e_0 f_0 x_1 x_2 x_3 x_4 e_5 f_5 x_6 = some r := by
 unfold Zgb at h
 obtain ⟨_, rfl, h⟩ := ZaD h
 obtain ⟨_, _, rfl, h1⟩ := ZaI h
 obtain ⟨_, _, rfl, h2⟩ := Zal h1
 obtain ⟨_, _, rfl, h3⟩ := ZaI h2
 obtain ⟨_, rfl, h4⟩ := Zaf h3
 obtain ⟨_, _, rfl, h5⟩ := ZaI h4
 obtain ⟨_, rfl, h6⟩ := Zaf h5
 obtain ⟨_, _, rfl, h7⟩ := ZaI h6
 obtain ⟨_, rfl, h8⟩ := Zaf h7
 obtain ⟨_, _, rfl, h9⟩ := ZaI h8
 obtain ⟨_, rfl, h10⟩ := Zaf h9
 obtain ⟨_, _, rfl, h11⟩ := ZaI h10
 obtain ⟨_, _, rfl, h12⟩ := Zal h11
 obtain ⟨_, _, rfl, h13⟩ := ZaI h12
 obtain ⟨_, rfl, h14⟩ := Zaf h13
 obtain ⟨rfl, h15⟩ := Zb8 h14
 exact ⟨_, _, _, _, _, _, _, _, _, rfl, h15⟩
def Zcc {R : Type} (e : V) (k : ByteArray → Int → Option R) : Option R :=
 asAgg e fun cs => Zbv cs fun v0 l0 => Zbd v0 fun w_0 => Zbv l0 fun v1 l1 => asInt .i64 v1 fun x_1 => Zjo l1 (k w_0 x_1)
theorem Zeb {R : Type} {e : V} {k : ByteArray → Int → Option R} {r : R} (h : Zcc e k = some r) : ∃ w_0 x_1, e = .agg [.str w_0, .int .i64 x_1] ∧ k w_0 x_1 = some r := by
 unfold Zcc at h
 obtain ⟨_, rfl, h⟩ := ZaD h
 obtain ⟨_, _, rfl, h1⟩ := ZaI h
 obtain ⟨_, rfl, h2⟩ := Zao h1
 obtain ⟨_, _, rfl, h3⟩ := ZaI h2
 obtain ⟨_, rfl, h4⟩ := Zaf h3
 obtain ⟨rfl, h5⟩ := Zb8 h4
 exact ⟨_, _, rfl, h5⟩
def ZqG {R : Type} (N : Nat) (w_1 : ByteArray) (x_2 x_3 : Int) (k : Int → Option R) : Option R :=
 (match decide (IntKind.i64.wrap (x_3 - (w_1.size : Int)) < 0) with
  | true => k (-1)
  | false => k (IntKind.i64.wrap (x_3 - (w_1.size : Int))))
def ZGS := @ZaC _ @ZqG
theorem ZwD : @ZGS = @ZqG := @Zaj _ @ZqG
def Zdl {R : Type} (N : Nat) (e_1 : List V) (f_2 : Fl) (nx : Int → Int → Option R) (x_3 x_4 : Int) (k0 : Int → Option R) (k1 : Int → Option R) : Option R :=
 (match decide (x_4 < (e_1.length : Int)) with
  | true => (if 0 ≤ x_4 then Zbu (nth e_1 x_4.toNat) fun e5 => Zcc e5 fun w6 n7 => ZGS N w6 n7 x_3 fun x8 => (match decide (x8 < 0) with
   | true => k0 x8
   | false => nx x8 (IntKind.i64.wrap (x_4 + 1))) else none)
  | false => k1 x_3)
def Zfe {R : Type} (N : Nat) (e_1 : List V) (f_2 : Fl) (k0 : Int → Option R) (k1 : Int → Option R) : Nat → Int → Int → Option R
 | 0, _, _ => none
 | n + 1, x_3, x_4 => Zdl N e_1 f_2 (fun x_3 x_4 => Zfe N e_1 f_2 k0 k1 n x_3 x_4) x_3 x_4 k0 k1
def ZpN {R : Type} (N : Nat) (e_1 : List V) (f_2 : Fl) (x_3 : Int) (k : Int → Option R) : Option R :=
 (match decide (IntKind.i64.wrap (x_3 - (e_1.length : Int)) < 0) with
  | true => k (-1)
  | false => Zfe N e_1 f_2
    (fun x9 => k (-1))
    (fun x10 => k x10)
    N (IntKind.i64.wrap (x_3 - (e_1.length : Int))) 0)
def ZGa := @ZaC _ @ZpN
theorem ZvZ : @ZGa = @ZpN := @Zaj _ @ZpN
def Zq7 {R : Type} (N : Nat) (x_1 x_2 x_3 x_4 x_5 : Int) (w_6 : ByteArray) (e_7 : List V) (f_8 : Fl) (x_9 : Int) (k : Int → Option R) : Option R :=
 (match decide (IntKind.i64.wrap (x_9 - (w_6.size : Int)) < 0) with
  | true => k (-1)
  | false => ZGa N e_7 f_8.noOwn.noOwn (IntKind.i64.wrap (x_9 - (w_6.size : Int))) fun x1 => (match decide (x1 < 0) with
  | true => k (-1)
  | false => k x1))
def ZFY := @ZaC _ @Zq7
theorem Zw2 : @ZFY = @Zq7 := @Zaj _ @Zq7
def ZdB {R : Type} (N : Nat) (e_1 : List V) (f_2 : Fl) (nx : Int → Int → Option R) (x_3 x_4 : Int) (k0 : Int → Option R) (k1 : Int → Option R) : Option R :=
 (match decide (x_4 < (e_1.length : Int)) with
  | true => (if 0 ≤ x_4 then Zbu (nth e_1 x_4.toNat) fun e11 => Zcm e11 fun n12 n13 n14 n15 n16 w17 e18 f19 => ZFY N n12 n13 n14 n15 n16 w17 e18 f19.noOwn.noOwn x_3 fun x20 => (match decide (x20 < 0) with
   | true => k0 x20
   | false => nx x20 (IntKind.i64.wrap (x_4 + 1))) else none)
  | false => k1 x_3)
def ZeY {R : Type} (N : Nat) (e_1 : List V) (f_2 : Fl) (k0 : Int → Option R) (k1 : Int → Option R) : Nat → Int → Int → Option R
 | 0, _, _ => none
 | n + 1, x_3, x_4 => ZdB N e_1 f_2 (fun x_3 x_4 => ZeY N e_1 f_2 k0 k1 n x_3 x_4) x_3 x_4 k0 k1
def ZoC {R : Type} (N : Nat) (e_1 : List V) (f_2 : Fl) (x_3 : Int) (k : Int → Option R) : Option R :=
 (match decide (IntKind.i64.wrap (x_3 - (e_1.length : Int)) < 0) with
  | true => k (-1)
  | false => ZeY N e_1 f_2
    (fun x21 => k (-1))
    (fun x22 => k x22)
    N (IntKind.i64.wrap (x_3 - (e_1.length : Int))) 0)
def ZFN := @ZaC _ @ZoC
theorem Zvy : @ZFN = @ZoC := @Zaj _ @ZoC
def Zqe {R : Type} (N : Nat) (e_1 : List V) (f_2 : Fl) (x_3 x_4 : Int) (k : Int → Option R) : Option R :=
 ZFN N e_1 f_2.noOwn.noOwn x_4 fun x1 => (match decide (x1 < 0) with
  | true => k (-1)
  | false => k x1)
def ZH0 := @ZaC _ @Zqe
theorem ZwP : @ZH0 = @Zqe := @Zaj _ @Zqe
def ZvM {R : Type} (N : Nat) (w_1 : ByteArray) (x_2 : Int) (k : ByteArray → Int → Option R) : Option R :=
 k w_1 x_2
def ZG7 := @ZaC _ @ZvM
theorem Zvu : @ZG7 = @ZvM := @Zaj _ @ZvM
def Zc7 {R : Type} (N : Nat) (e_1 : List V) (f_2 : Fl) (k_3 : Nat) (nx : Int → List V → Option R) (x_4 : Int) (e_5 : List V) (k0 : List V → Option R) : Option R :=
 (match decide (x_4 < (e_1.length : Int)) with
  | true => (if 0 ≤ x_4 then Zbu (nth e_1 x_4.toNat) fun e8 => Zcc e8 fun w9 n10 => ZG7 N w9 n10 fun w11 x12 => (if (0 : Int) ≤ x_4 ∧ x_4 < k_3 then (match nth e_5 (0 + x_4.toNat) with
   | some e13 => (match ZbK e13 0 [.str w11, .int .i64 x12] with
    | some e14 => nx (IntKind.i64.wrap (x_4 + 1)) (Za7 e_5 (0 + x_4.toNat) e14)
    | none => none)
   | none => none) else none) else none)
  | false => k0 e_5)
def Zfs {R : Type} (N : Nat) (e_1 : List V) (f_2 : Fl) (k_3 : Nat) (k0 : List V → Option R) : Nat → Int → List V → Option R
 | 0, _, _ => none
 | n + 1, x_4, e_5 => Zc7 N e_1 f_2 k_3 (fun x_4 e_5 => Zfs N e_1 f_2 k_3 k0 n x_4 e_5) x_4 e_5 k0
def Zox {R : Type} (N : Nat) (e_1 : List V) (f_2 : Fl) (k : List V → Option R) : Option R :=
 (if 0 ≤ (e_1.length : Int) ∧ (e_1.length : Int) = (e_1.length : Int) ∧ (e_1.length : Int) * 24 ≤ 140737488355328 then Zfs N e_1 f_2 (((e_1.length : Int)).toNat)
    (fun e15 => (match Zbm (Zbi false [some ⟨e15, 2, 89, 0⟩] 11) ((e15.drop 0).take (((e_1.length : Int)).toNat)) with
   | some e16 => Zan (decide (0 + ((e_1.length : Int)).toNat ≤ e15.length)) (Zan (e16.all V.plain) (k e16))
   | none => none))
    N 0 (List.replicate (((e_1.length : Int)).toNat) (.agg [.str (ByteArray.mk #[]), .int .i64 0])) else none)
def ZG2 := @ZaC _ @Zox
theorem Zwh : @ZG2 = @Zox := @Zaj _ @Zox
def Zri {R : Type} (N : Nat) (x_1 x_2 x_3 x_4 x_5 : Int) (w_6 : ByteArray) (e_7 : List V) (f_8 : Fl) (k : Int → Int → Int → Int → Int → ByteArray → List V → Option R) : Option R :=
 ZG2 N e_7 f_8.noOwn.noOwn fun e1 => k x_1 x_2 x_3 x_4 x_5 w_6 e1
def ZHq := @ZaC _ @Zri
theorem Zwr : @ZHq = @Zri := @Zaj _ @Zri
def Zde {R : Type} (N : Nat) (e_1 : List V) (f_2 : Fl) (k_3 : Nat) (nx : Int → List V → Option R) (x_4 : Int) (e_5 : List V) (k0 : List V → Option R) : Option R :=
 (match decide (x_4 < (e_1.length : Int)) with
  | true => (if 0 ≤ x_4 then Zbu (nth e_1 x_4.toNat) fun e19 => Zcm e19 fun n20 n21 n22 n23 n24 w25 e26 f27 => ZHq N n20 n21 n22 n23 n24 w25 e26 f27.noOwn.noOwn fun x28 x29 x30 x31 x32 w33 e34 => (if (0 : Int) ≤ x_4 ∧ x_4 < k_3 then (match nth e_5 (0 + x_4.toNat) with
   | some e35 => (match ZbK e35 0 [.int .i64 x28, .int .i64 x29, .int .i64 x30, .int .i64 x31, .int .i64 x32, .str w33, .list 2 e34 .sh] with
    | some e36 => nx (IntKind.i64.wrap (x_4 + 1)) (Za7 e_5 (0 + x_4.toNat) e36)
    | none => none)
   | none => none) else none) else none)
  | false => k0 e_5)
def Zfz {R : Type} (N : Nat) (e_1 : List V) (f_2 : Fl) (k_3 : Nat) (k0 : List V → Option R) : Nat → Int → List V → Option R
 | 0, _, _ => none
 | n + 1, x_4, e_5 => Zde N e_1 f_2 k_3 (fun x_4 e_5 => Zfz N e_1 f_2 k_3 k0 n x_4 e_5) x_4 e_5 k0
def Zqw {R : Type} (N : Nat) (e_1 : List V) (f_2 : Fl) (k : List V → Option R) : Option R :=
 (if 0 ≤ (e_1.length : Int) ∧ (e_1.length : Int) = (e_1.length : Int) ∧ (e_1.length : Int) * 80 ≤ 140737488355328 then Zfz N e_1 f_2 (((e_1.length : Int)).toNat)
    (fun e37 => (match Zbm (Zbi false [some ⟨e37, 7, 87, 0⟩] 11) ((e37.drop 0).take (((e_1.length : Int)).toNat)) with
   | some e38 => Zan (decide (0 + ((e_1.length : Int)).toNat ≤ e37.length)) (Zan (e38.all V.plain) (k e38))
   | none => none))
    N 0 (List.replicate (((e_1.length : Int)).toNat) (.agg [.int .i64 0, .int .i64 0, .int .i64 0, .int .i64 0, .int .i64 0, .str (ByteArray.mk #[]), .list 2 [] (.own 89)])) else none)
def ZGQ := @ZaC _ @Zqw
theorem ZwT : @ZGQ = @Zqw := @Zaj _ @Zqw
def ZpQ {R : Type} (N : Nat) (e_1 : List V) (f_2 : Fl) (x_3 : Int) (k : List V → Int → Option R) : Option R :=
 ZGQ N e_1 f_2.noOwn.noOwn fun e1 => k e1 x_3
def ZAQ := @ZaC _ @ZpQ
theorem Zyd : @ZAQ = @ZpQ := @Zaj _ @ZpQ
def Zx2 {R : Type} (N : Nat) (x_1 x_2 : Int) (k : Int → Int → Option R) : Option R :=
 k x_1 x_2
def ZDY := @ZaC _ @Zx2
theorem ZxZ : @ZDY = @Zx2 := @Zaj _ @Zx2
def ZpS {R : Type} (N : Nat) (w_1 : ByteArray) (x_2 : Int) (w_3 : ByteArray) (x_4 : Int) (k : Bool → Option R) : Option R :=
 (match (!(w_1.toList == w_3.toList)) with
  | true => k false
  | false => (match (x_2 != x_4) with
  | true => k false
  | false => k true))
def ZFQ := @ZaC _ @ZpS
theorem Zws : @ZFQ = @ZpS := @Zaj _ @ZpS
def Zc5 {R : Type} (N : Nat) (e_1 : List V) (f_2 : Fl) (e_3 : List V) (f_4 : Fl) (nx : Int → Option R) (x_5 : Int) (k0 : Unit → Option R) (k1 : Unit → Option R) : Option R :=
 (match decide (x_5 < (e_1.length : Int)) with
  | true => (if 0 ≤ x_5 then Zbu (nth e_1 x_5.toNat) fun e8 => Za3 e8 fun w9 n10 => (if 0 ≤ x_5 then Zbu (nth e_3 x_5.toNat) fun e11 => Za3 e11 fun w12 n13 => ZFQ N w9 n10 w12 n13 fun b14 => (match (!b14) with
   | true => k0 ()
   | false => nx (IntKind.i64.wrap (x_5 + 1))) else none) else none)
  | false => k1 ())
def Zgs {R : Type} (N : Nat) (e_1 : List V) (f_2 : Fl) (e_3 : List V) (f_4 : Fl) (k0 : Unit → Option R) (k1 : Unit → Option R) : Nat → Int → Option R
 | 0, _ => none
 | n + 1, x_5 => Zc5 N e_1 f_2 e_3 f_4 (fun x_5 => Zgs N e_1 f_2 e_3 f_4 k0 k1 n x_5) x_5 k0 k1
def Zqd {R : Type} (N : Nat) (e_1 : List V) (f_2 : Fl) (e_3 : List V) (f_4 : Fl) (k : Bool → Option R) : Option R :=
 (match ((e_1.length : Int) != (e_3.length : Int)) with
  | true => k false
  | false => Zgs N e_1 f_2 e_3 f_4
    (fun (_ : Unit) => k false)
    (fun (_ : Unit) => k true)
    N 0)
def ZH9 := @ZaC _ @Zqd
theorem ZvR : @ZH9 = @Zqd := @Zaj _ @Zqd
def Zrf {R : Type} (N : Nat) (x_1 x_2 x_3 x_4 x_5 : Int) (w_6 : ByteArray) (e_7 : List V) (f_8 : Fl) (x_9 x_10 x_11 x_12 x_13 : Int) (w_14 : ByteArray) (e_15 : List V) (f_16 : Fl) (k : Bool → Option R) : Option R :=
 (match (x_1 != x_9) with
  | true => k false
  | false => (match (x_2 != x_10) with
  | true => k false
  | false => (match (x_3 != x_11) with
   | true => k false
   | false => (match (x_4 != x_12) with
   | true => k false
   | false => (match (x_5 != x_13) with
    | true => k false
    | false => (match (!(w_6.toList == w_14.toList)) with
    | true => k false
    | false => ZH9 N e_7 f_8.noOwn.noOwn e_15 f_16.noOwn.noOwn fun b1 => (match (!b1) with
     | true => k false
     | false => k true)))))))
def ZFO := @ZaC _ @Zrf
theorem Zwj : @ZFO = @Zrf := @Zaj _ @Zrf
def ZdJ {R : Type} (N : Nat) (e_1 : List V) (f_2 : Fl) (e_3 : List V) (f_4 : Fl) (nx : Int → Option R) (x_5 : Int) (k0 : Unit → Option R) (k1 : Unit → Option R) : Option R :=
 (match decide (x_5 < (e_1.length : Int)) with
  | true => (if 0 ≤ x_5 then Zbu (nth e_1 x_5.toNat) fun e20 => Zax e20 fun n21 n22 n23 n24 n25 w26 e27 f28 => (if 0 ≤ x_5 then Zbu (nth e_3 x_5.toNat) fun e29 => Zax e29 fun n30 n31 n32 n33 n34 w35 e36 f37 => ZFO N n21 n22 n23 n24 n25 w26 e27 f28.noOwn.noOwn.noOwn.noOwn n30 n31 n32 n33 n34 w35 e36 f37.noOwn.noOwn.noOwn.noOwn fun b38 => (match (!b38) with
   | true => k0 ()
   | false => nx (IntKind.i64.wrap (x_5 + 1))) else none) else none)
  | false => k1 ())
def Zgq {R : Type} (N : Nat) (e_1 : List V) (f_2 : Fl) (e_3 : List V) (f_4 : Fl) (k0 : Unit → Option R) (k1 : Unit → Option R) : Nat → Int → Option R
 | 0, _ => none
 | n + 1, x_5 => ZdJ N e_1 f_2 e_3 f_4 (fun x_5 => Zgq N e_1 f_2 e_3 f_4 k0 k1 n x_5) x_5 k0 k1
def ZrF {R : Type} (N : Nat) (e_1 : List V) (f_2 : Fl) (e_3 : List V) (f_4 : Fl) (k : Bool → Option R) : Option R :=
 (match ((e_1.length : Int) != (e_3.length : Int)) with
  | true => k false
  | false => Zgq N e_1 f_2 e_3 f_4
    (fun (_ : Unit) => k false)
    (fun (_ : Unit) => k true)
    N 0)
def ZFF := @ZaC _ @ZrF
theorem Zvx : @ZFF = @ZrF := @Zaj _ @ZrF
def Zos {R : Type} (N : Nat) (e_1 : List V) (f_2 : Fl) (x_3 : Int) (e_4 : List V) (f_5 : Fl) (x_6 : Int) (k : Bool → Option R) : Option R :=
 ZFF N e_1 f_2.noOwn.noOwn e_4 f_5.noOwn.noOwn fun b1 => (match (!b1) with
  | true => k false
  | false => (match (x_3 != x_6) with
  | true => k false
  | false => k true))
def ZIQ := @ZaC _ @Zos
theorem Zxb : @ZIQ = @Zos := @Zaj _ @Zos
def Zc3 {R : Type} (N : Nat) (x_1 : Int) (e_2 : List V) (f_3 : Fl) (x_4 : Int) (nx : Int → Option R) (x_5 : Int) (k0 : Unit → Option R) (k1 : Unit → Option R) : Option R :=
 (match decide (x_5 < x_4) with
  | true => (if 0 ≤ x_5 then Zbu (nth e_2 x_5.toNat) fun e3 => asInt .i64 e3 fun n4 => (match (n4 == x_1) with
   | true => k0 ()
   | false => nx (IntKind.i64.wrap (x_5 + 1))) else none)
  | false => k1 ())
def Zf7 {R : Type} (N : Nat) (x_1 : Int) (e_2 : List V) (f_3 : Fl) (x_4 : Int) (k0 : Unit → Option R) (k1 : Unit → Option R) : Nat → Int → Option R
 | 0, _ => none
 | n + 1, x_5 => Zc3 N x_1 e_2 f_3 x_4 (fun x_5 => Zf7 N x_1 e_2 f_3 x_4 k0 k1 n x_5) x_5 k0 k1
def ZrI {R : Type} (N : Nat) (e_1 : List V) (f_2 : Fl) (x_3 : Int) (k : Bool → Option R) : Option R :=
 Zf7 N x_3 e_1 f_2.noOwn (e_1.length : Int)
   (fun (_ : Unit) => k true)
   (fun (_ : Unit) => k false)
   N 0
def Zlf := @ZaC _ @ZrI
theorem Zxd : @Zlf = @ZrI := @Zaj _ @ZrI
def Zq3 {R : Type} (N : Nat) (x_1 x_2 x_3 : Int) (k : Bool → Option R) : Option R :=
 (match decide (x_1 ≥ x_2) with
  | true => k (decide (x_1 ≤ x_3))
  | false => k false)
def Zgl := @ZaC _ @Zq3
theorem Zw7 : @Zgl = @Zq3 := @Zaj _ @Zq3
def Zdu {R : Type} (N : Nat) (e_2 : List V) (f_3 : Fl) (x_4 : Int) (e_6 : List V) (f_7 : Fl) (x_8 : Int) (nx : Int → Int → Option R) (x_1 x_5 : Int) (k0 : Int → Option R) : Option R :=
 (match decide (x_5 < x_4) with
  | true => (if 0 ≤ x_5 then Zbu (nth e_2 x_5.toNat) fun e10 => Zax e10 fun n11 n12 n13 n14 n15 w16 e17 f18 => nx (IntKind.i64.wrap (x_1 + (w16.size : Int))) (IntKind.i64.wrap (x_5 + 1)) else none)
  | false => k0 x_1)
def ZgK {R : Type} (N : Nat) (e_2 : List V) (f_3 : Fl) (x_4 : Int) (e_6 : List V) (f_7 : Fl) (x_8 : Int) (k0 : Int → Option R) : Nat → Int → Int → Option R
 | 0, _, _ => none
 | n + 1, x_1, x_5 => Zdu N e_2 f_3 x_4 e_6 f_7 x_8 (fun x_1 x_5 => ZgK N e_2 f_3 x_4 e_6 f_7 x_8 k0 n x_1 x_5) x_1 x_5 k0
def ZqC {R : Type} (N : Nat) (e_1 : List V) (f_2 : Fl) (x_3 : Int) (k : Int → Option R) : Option R :=
 ZgK N e_1 f_2.noOwn (e_1.length : Int) e_1 f_2 x_3
   (fun x19 => k x19)
   N 0 0
def ZFW := @ZaC _ @ZqC
theorem Zyw : @ZFW = @ZqC := @Zaj _ @ZqC
def ZoX {R : Type} (N : Nat) (x_1 : Int) (k : Bool → Option R) : Option R :=
 Zgl N x_1 0 511 fun b1 => k b1
def ZJK := @ZaC _ @ZoX
theorem Zyf : @ZJK = @ZoX := @Zaj _ @ZoX
def Zdb {R : Type} (N : Nat) (w_1 : ByteArray) (x_2 : Int) (nx : List V → Int → Int → Option R) (e_3 : List V) (x_4 x_5 : Int) (k0 : List V → Int → Option R) : Option R :=
 (match decide (x_5 < (w_1.size : Int)) with
  | true => ZbP w_1 x_5 fun n2 => (match (n2 == x_2) with
  | true => (if (0 : Int) ≤ x_5 ∧ x_5 ≤ (w_1.size : Int) then (if (0 : Int) ≤ x_4 ∧ x_4 ≤ ((x_5 : Int).toNat : Int) then (if (e_3.length + 1) * 16 ≤ 140737488355328 then nx (e_3 ++ ([.str (ByteArray.extract w_1 ((x_4 : Int).toNat) ((x_5 : Int).toNat))] : List V)) (IntKind.i64.wrap (x_5 + 1)) (IntKind.i64.wrap (x_5 + 1)) else none) else none) else none)
  | false => nx e_3 x_4 (IntKind.i64.wrap (x_5 + 1)))
  | false => k0 e_3 x_4)
def Zf4 {R : Type} (N : Nat) (w_1 : ByteArray) (x_2 : Int) (k0 : List V → Int → Option R) : Nat → List V → Int → Int → Option R
 | 0, _, _, _ => none
 | n + 1, e_3, x_4, x_5 => Zdb N w_1 x_2 (fun e_3 x_4 x_5 => Zf4 N w_1 x_2 k0 n e_3 x_4 x_5) e_3 x_4 x_5 k0
def Zoy {R : Type} (N : Nat) (w_1 : ByteArray) (x_2 : Int) (k : List V → Option R) : Option R :=
 Zf4 N w_1 x_2
   (fun e3 x4 => (if (0 : Int) ≤ x4 ∧ x4 ≤ (w_1.size : Int) then (if (e3.length + 1) * 16 ≤ 140737488355328 then k (e3 ++ ([.str (ByteArray.extract w_1 ((x4 : Int).toNat) w_1.size)] : List V)) else none) else none))
   N [] 0 0
def ZIx := @ZaC _ @Zoy
theorem Zv8 : @ZIx = @Zoy := @Zaj _ @Zoy
def Zc1 {R : Type} (N : Nat) (e_2 : List V) (x_3 : Int) (nx : List V → Int → Option R) (e_1 : List V) (x_4 : Int) (k0 : List V → Option R) : Option R :=
 (match decide (x_4 < x_3) with
  | true => (if 0 ≤ x_4 then Zbu (nth e_2 x_4.toNat) fun e4 => Zbd e4 fun w5 => (match (!(w5.toList == (ByteArray.mk #[]).toList)) with
   | true => (if (e_1.length + 1) * 16 ≤ 140737488355328 then nx (e_1 ++ ([.str w5] : List V)) (IntKind.i64.wrap (x_4 + 1)) else none)
   | false => nx e_1 (IntKind.i64.wrap (x_4 + 1))) else none)
  | false => k0 e_1)
def Zf3 {R : Type} (N : Nat) (e_2 : List V) (x_3 : Int) (k0 : List V → Option R) : Nat → List V → Int → Option R
 | 0, _, _ => none
 | n + 1, e_1, x_4 => Zc1 N e_2 x_3 (fun e_1 x_4 => Zf3 N e_2 x_3 k0 n e_1 x_4) e_1 x_4 k0
def Zpc {R : Type} (N : Nat) (w_1 : ByteArray) (k : List V → Option R) : Option R :=
 ZIx N w_1 47 fun e1 => Zf3 N e1 (e1.length : Int)
   (fun e6 => k e6)
   N [] 0
def Zlh := @ZaC _ @Zpc
theorem ZxF : @Zlh = @Zpc := @Zaj _ @Zpc
def ZdE {R : Type} (N : Nat) (w_1 : ByteArray) (nx : Int → Option R) (x_2 : Int) (k0 : Unit → Option R) (k1 : Unit → Option R) : Option R :=
 (match decide (x_2 < (w_1.size : Int)) with
  | true => ZbP w_1 x_2 fun n2 => (match decide (n2 < 97) with
  | true => (match decide (n2 < 48) with
   | true => (match (n2 != 46) with
   | true => (match (n2 != 95) with
    | true => (match (n2 != 45) with
    | true => k0 ()
    | false => nx (IntKind.i64.wrap (x_2 + 1)))
    | false => nx (IntKind.i64.wrap (x_2 + 1)))
   | false => nx (IntKind.i64.wrap (x_2 + 1)))
   | false => (match decide (n2 > 57) with
   | true => (match (n2 != 46) with
    | true => (match (n2 != 95) with
    | true => (match (n2 != 45) with
     | true => k0 ()
     | false => nx (IntKind.i64.wrap (x_2 + 1)))
    | false => nx (IntKind.i64.wrap (x_2 + 1)))
    | false => nx (IntKind.i64.wrap (x_2 + 1)))
   | false => nx (IntKind.i64.wrap (x_2 + 1))))
  | false => (match decide (n2 > 122) with
   | true => (match decide (n2 < 48) with
   | true => (match (n2 != 46) with
    | true => (match (n2 != 95) with
    | true => (match (n2 != 45) with
     | true => k0 ()
     | false => nx (IntKind.i64.wrap (x_2 + 1)))
    | false => nx (IntKind.i64.wrap (x_2 + 1)))
    | false => nx (IntKind.i64.wrap (x_2 + 1)))
   | false => (match decide (n2 > 57) with
    | true => (match (n2 != 46) with
    | true => (match (n2 != 95) with
     | true => (match (n2 != 45) with
     | true => k0 ()
     | false => nx (IntKind.i64.wrap (x_2 + 1)))
     | false => nx (IntKind.i64.wrap (x_2 + 1)))
    | false => nx (IntKind.i64.wrap (x_2 + 1)))
    | false => nx (IntKind.i64.wrap (x_2 + 1))))
   | false => nx (IntKind.i64.wrap (x_2 + 1))))
  | false => k1 ())
def Ze0 {R : Type} (N : Nat) (w_1 : ByteArray) (k0 : Unit → Option R) (k1 : Unit → Option R) : Nat → Int → Option R
 | 0, _ => none
 | n + 1, x_2 => ZdE N w_1 (fun x_2 => Ze0 N w_1 k0 k1 n x_2) x_2 k0 k1
def Zov {R : Type} (N : Nat) (w_1 : ByteArray) (k : Bool → Option R) : Option R :=
 Ze0 N w_1
   (fun (_ : Unit) => k false)
   (fun (_ : Unit) => Zgl N (w_1.size : Int) 1 8 fun b3 => (match b3 with
  | true => (match (!(w_1.toList == (ByteArray.mk #[46]).toList)) with
   | true => k (!(w_1.toList == (ByteArray.mk #[46, 46]).toList))
   | false => k false)
  | false => k false))
   N 0
def Zz1 := @ZaC _ @Zov
theorem Zwy : @Zz1 = @Zov := @Zaj _ @Zov
def Zdq {R : Type} (N : Nat) (w_1 : ByteArray) (e_2 : List V) (x_3 : Int) (nx : Int → Option R) (x_4 : Int) (k0 : Unit → Option R) (k1 : Unit → Option R) : Option R :=
 (match decide (x_4 < x_3) with
  | true => (if 0 ≤ x_4 then Zbu (nth e_2 x_4.toNat) fun e5 => Zbd e5 fun w6 => Zz1 N w6 fun b7 => (match (!b7) with
   | true => (match (!(w6.toList == (ByteArray.mk #[46]).toList)) with
   | true => (match (!(w6.toList == (ByteArray.mk #[46, 46]).toList)) with
    | true => k0 ()
    | false => nx (IntKind.i64.wrap (x_4 + 1)))
   | false => nx (IntKind.i64.wrap (x_4 + 1)))
   | false => nx (IntKind.i64.wrap (x_4 + 1))) else none)
  | false => k1 ())
def ZgD {R : Type} (N : Nat) (w_1 : ByteArray) (e_2 : List V) (x_3 : Int) (k0 : Unit → Option R) (k1 : Unit → Option R) : Nat → Int → Option R
 | 0, _ => none
 | n + 1, x_4 => Zdq N w_1 e_2 x_3 (fun x_4 => ZgD N w_1 e_2 x_3 k0 k1 n x_4) x_4 k0 k1
def Zp4 {R : Type} (N : Nat) (w_1 : ByteArray) (k : Bool → Option R) : Option R :=
 Zlh N w_1 fun e1 => ZgD N w_1 e1 (e1.length : Int)
   (fun (_ : Unit) => k false)
   (fun (_ : Unit) => Zgl N (w_1.size : Int) 1 60 fun b8 => k b8)
   N 0
def ZBD := @ZaC _ @Zp4
theorem Zwa : @ZBD = @Zp4 := @Zaj _ @Zp4
def Zdm {R : Type} (N : Nat) (e_1 : List V) (f_2 : Fl) (e_3 : List V) (f_4 : Fl) (x_5 : Int) (e_7 : List V) (f_8 : Fl) (x_9 : Int) (nx : Int → Option R) (x_6 : Int) (k0 : Unit → Option R) (k1 : Unit → Option R) : Option R :=
 (match decide (x_6 < x_5) with
  | true => (if 0 ≤ x_6 then Zbu (nth e_3 x_6.toNat) fun e28 => Za3 e28 fun w29 n30 => Zz1 N w29 fun b31 => (match (!b31) with
   | true => k0 ()
   | false => (match decide (x_6 > 0) with
   | true => (if 0 ≤ IntKind.i64.wrap (x_6 - 1) then Zbu (nth e_1 ((IntKind.i64.wrap (x_6 - 1)).toNat)) fun e32 => Za3 e32 fun w33 n34 => (match (!Op.bytesLess w33.toList w29.toList) with
    | true => k0 ()
    | false => Zgl N n30 1 (IntKind.i64.wrap ((e_7.length : Int) - 1)) fun b35 => (match (!b35) with
     | true => k0 ()
     | false => (if 0 ≤ n30 then Zbu (nth e_7 n30.toNat) fun e36 => Zax e36 fun n37 n38 n39 n40 n41 w42 e43 f44 => (match (n37 == 0) with
      | true => k0 ()
      | false => nx (IntKind.i64.wrap (x_6 + 1))) else none))) else none)
   | false => Zgl N n30 1 (IntKind.i64.wrap ((e_7.length : Int) - 1)) fun b45 => (match (!b45) with
    | true => k0 ()
    | false => (if 0 ≤ n30 then Zbu (nth e_7 n30.toNat) fun e46 => Zax e46 fun n47 n48 n49 n50 n51 w52 e53 f54 => (match (n47 == 0) with
     | true => k0 ()
     | false => nx (IntKind.i64.wrap (x_6 + 1))) else none)))) else none)
  | false => k1 ())
def ZgG {R : Type} (N : Nat) (e_1 : List V) (f_2 : Fl) (e_3 : List V) (f_4 : Fl) (x_5 : Int) (e_7 : List V) (f_8 : Fl) (x_9 : Int) (k0 : Unit → Option R) (k1 : Unit → Option R) : Nat → Int → Option R
 | 0, _ => none
 | n + 1, x_6 => Zdm N e_1 f_2 e_3 f_4 x_5 e_7 f_8 x_9 (fun x_6 => ZgG N e_1 f_2 e_3 f_4 x_5 e_7 f_8 x_9 k0 k1 n x_6) x_6 k0 k1
def ZrL {R : Type} (N : Nat) (e_1 : List V) (f_2 : Fl) (x_3 : Int) (e_4 : List V) (f_5 : Fl) (k : Bool → Option R) : Option R :=
 ZgG N e_4 f_5 e_4 f_5.noOwn (e_4.length : Int) e_1 f_2 x_3
   (fun (_ : Unit) => k false)
   (fun (_ : Unit) => k true)
   N 0
def ZGB := @ZaC _ @ZrL
theorem ZwQ : @ZGB = @ZrL := @Zaj _ @ZrL
def ZqX {R : Type} (N : Nat) (e_1 : List V) (f_2 : Fl) (x_3 x_4 x_5 x_6 x_7 x_8 : Int) (w_9 : ByteArray) (e_10 : List V) (f_11 : Fl) (k : Bool → Option R) : Option R :=
 (match (x_4 == 0) with
  | true => (match (x_5 == 0) with
  | true => (match (x_6 == 0) with
   | true => (match (x_7 == 0) with
   | true => (match (x_8 == 0) with
    | true => (match (w_9.toList == (ByteArray.mk #[]).toList) with
    | true => k ((e_10.length : Int) == 0)
    | false => k false)
    | false => k false)
   | false => k false)
   | false => k false)
  | false => k false)
  | false => ZJK N x_5 fun b1 => (match (!b1) with
  | true => k false
  | false => Zgl N x_6 0 99 fun b2 => (match (!b2) with
   | true => k false
   | false => Zgl N x_7 0 99 fun b3 => (match (!b3) with
   | true => k false
   | false => Zgl N x_8 0 1000000 fun b4 => (match (!b4) with
    | true => k false
    | false => (match (x_4 == 1) with
    | true => (match decide ((w_9.size : Int) ≤ 60) with
     | true => k ((e_10.length : Int) == 0)
     | false => k false)
    | false => (match (x_4 == 2) with
     | true => (match (w_9.toList == (ByteArray.mk #[]).toList) with
     | true => ZGB N e_1 f_2.noOwn.noOwn x_3 e_10 f_11.noOwn.noOwn fun b5 => k b5
     | false => k false)
     | false => (match (x_4 == 3) with
     | true => ZBD N w_9 fun b6 => (match b6 with
      | true => k ((e_10.length : Int) == 0)
      | false => k false)
     | false => k false))))))))
def ZGk := @ZaC _ @ZqX
theorem Zyq : @ZGk = @ZqX := @Zaj _ @ZqX
def Zc4 {R : Type} (N : Nat) (e_1 : List V) (f_2 : Fl) (x_3 : Int) (nx : Int → Option R) (x_4 : Int) (k0 : Int → Option R) : Option R :=
 (match decide (x_4 < (e_1.length : Int)) with
  | true => (if 0 ≤ x_4 then Zbu (nth e_1 x_4.toNat) fun e3 => asInt .i64 e3 fun n4 => (match decide (n4 < x_3) with
   | true => nx (IntKind.i64.wrap (x_4 + 1))
   | false => k0 x_4) else none)
  | false => k0 x_4)
def Zgy {R : Type} (N : Nat) (e_1 : List V) (f_2 : Fl) (x_3 : Int) (k0 : Int → Option R) : Nat → Int → Option R
 | 0, _ => none
 | n + 1, x_4 => Zc4 N e_1 f_2 x_3 (fun x_4 => Zgy N e_1 f_2 x_3 k0 n x_4) x_4 k0
def Zqj {R : Type} (N : Nat) (e_1 : List V) (f_2 : Fl) (x_3 : Int) (k : List V → Option R) : Option R :=
 Zgy N e_1 f_2 x_3
   (fun x5 => (match decide (x5 < (e_1.length : Int)) with
  | true => (if 0 ≤ x5 then Zbu (nth e_1 x5.toNat) fun e6 => asInt .i64 e6 fun n7 => (match (n7 == x_3) with
   | true => ZFn f_2 (k e_1)
   | false => (if (0 : Int) ≤ x5 ∧ x5 ≤ (e_1.length : Int) then Zan (Zjl f_2.noOwn.noOwn ((e_1.take ((x5 : Int).toNat)).drop 0)) ((if (0 + (((e_1.take ((x5 : Int).toNat)).drop 0)).length) * 8 ≤ 140737488355328 then (if ((([] : List V) ++ (((e_1.take ((x5 : Int).toNat)).drop 0)).map V.noOwn).length + 1) * 8 ≤ 140737488355328 then (if (0 : Int) ≤ x5 ∧ x5 ≤ (e_1.length : Int) then Zan (Zjl f_2.noOwn.noOwn ((e_1.take e_1.length).drop ((x5 : Int).toNat))) ((if (((([] : List V) ++ (((e_1.take ((x5 : Int).toNat)).drop 0)).map V.noOwn) ++ ([.int .i64 x_3] : List V)).length + (((e_1.take e_1.length).drop ((x5 : Int).toNat))).length) * 8 ≤ 140737488355328 then k (((([] : List V) ++ (((e_1.take ((x5 : Int).toNat)).drop 0)).map V.noOwn) ++ ([.int .i64 x_3] : List V)) ++ (((e_1.take e_1.length).drop ((x5 : Int).toNat))).map V.noOwn) else none)) else none) else none) else none)) else none)) else none)
  | false => (if (0 : Int) ≤ x5 ∧ x5 ≤ (e_1.length : Int) then Zan (Zjl f_2.noOwn.noOwn ((e_1.take ((x5 : Int).toNat)).drop 0)) ((if (0 + (((e_1.take ((x5 : Int).toNat)).drop 0)).length) * 8 ≤ 140737488355328 then (if ((([] : List V) ++ (((e_1.take ((x5 : Int).toNat)).drop 0)).map V.noOwn).length + 1) * 8 ≤ 140737488355328 then (if (0 : Int) ≤ x5 ∧ x5 ≤ (e_1.length : Int) then Zan (Zjl f_2.noOwn.noOwn ((e_1.take e_1.length).drop ((x5 : Int).toNat))) ((if (((([] : List V) ++ (((e_1.take ((x5 : Int).toNat)).drop 0)).map V.noOwn) ++ ([.int .i64 x_3] : List V)).length + (((e_1.take e_1.length).drop ((x5 : Int).toNat))).length) * 8 ≤ 140737488355328 then k (((([] : List V) ++ (((e_1.take ((x5 : Int).toNat)).drop 0)).map V.noOwn) ++ ([.int .i64 x_3] : List V)) ++ (((e_1.take e_1.length).drop ((x5 : Int).toNat))).map V.noOwn) else none)) else none) else none) else none)) else none)))
   N 0
def ZGy := @ZaC _ @Zqj
theorem ZxE : @ZGy = @Zqj := @Zaj _ @Zqj
def Zdp {R : Type} (N : Nat) (rec_ : (R : Type) → List V → Fl → Int → Int → List V → Fl → (List V → Option R) → Option R) (e_2 : List V) (f_3 : Fl) (x_4 : Int) (e_6 : List V) (f_7 : Fl) (x_8 : Int) (nx : List V → Int → Option R) (e_1 : List V) (x_5 : Int) (k0 : List V → Option R) : Option R :=
 (match decide (x_5 < x_4) with
  | true => (if 0 ≤ x_5 then Zbu (nth e_2 x_5.toNat) fun e16 => Za3 e16 fun w17 n18 => rec_ R e_6 f_7.noOwn.noOwn x_8 n18 e_1 .sh fun e19 => nx e19 (IntKind.i64.wrap (x_5 + 1)) else none)
  | false => k0 e_1)
def Zgz {R : Type} (N : Nat) (rec_ : (R : Type) → List V → Fl → Int → Int → List V → Fl → (List V → Option R) → Option R) (e_2 : List V) (f_3 : Fl) (x_4 : Int) (e_6 : List V) (f_7 : Fl) (x_8 : Int) (k0 : List V → Option R) : Nat → List V → Int → Option R
 | 0, _, _ => none
 | n + 1, e_1, x_5 => Zdp N rec_ e_2 f_3 x_4 e_6 f_7 x_8 (fun e_1 x_5 => Zgz N rec_ e_2 f_3 x_4 e_6 f_7 x_8 k0 n e_1 x_5) e_1 x_5 k0
def Zxs {R : Type} (N : Nat) (rec_ : (R : Type) → List V → Fl → Int → Int → List V → Fl → (List V → Option R) → Option R) (e_1 : List V) (f_2 : Fl) (x_3 x_4 : Int) (e_5 : List V) (f_6 : Fl) (k : List V → Option R) : Option R :=
 Zlf N e_5 f_6.noOwn.noOwn x_4 fun b1 => (match b1 with
  | true => ZFn f_6 (k e_5)
  | false => ZGy N e_5 f_6.noOwn.noOwn x_4 fun e2 => (if 0 ≤ x_4 then Zbu (nth e_1 x_4.toNat) fun e3 => Zax e3 fun n4 n5 n6 n7 n8 w9 e10 f11 => Zgz N rec_ e10 f11.noOwn (e10.length : Int) e_1 f_2 x_3
    (fun e20 => k e20)
    N e2 0 else none))
def ZJd (N : Nat) : Nat → (R : Type) → List V → Fl → Int → Int → List V → Fl → (List V → Option R) → Option R
 | 0, _, _, _, _, _, _, _, _ => none
 | M + 1, _, e_1, f_2, x_3, x_4, e_5, f_6, k => Zxs N (ZJd N M) e_1 f_2 x_3 x_4 e_5 f_6 k
def ZgM (N : Nat) : Nat → (R : Type) → List V → Fl → Int → Int → List V → Fl → (List V → Option R) → Option R := ZaC ZJd N
theorem ZyS (N : Nat) (R : Type) (e_1 : List V) (f_2 : Fl) (x_3 x_4 : Int) (e_5 : List V) (f_6 : Fl) (k : List V → Option R) : ZgM N 0 R e_1 f_2 x_3 x_4 e_5 f_6 k = none := by unfold ZgM; rw [Zaj]; rfl
theorem Zyy (N M : Nat) (R : Type) (e_1 : List V) (f_2 : Fl) (x_3 x_4 : Int) (e_5 : List V) (f_6 : Fl) (k : List V → Option R) : ZgM N (M + 1) R e_1 f_2 x_3 x_4 e_5 f_6 k = Zxs N (ZgM N M) e_1 f_2 x_3 x_4 e_5 f_6 k := by unfold ZgM; rw [Zaj]; rfl
def Zc8 {R : Type} (N : Nat) (x_1 : Int) (e_3 : List V) (f_4 : Fl) (x_5 x_6 : Int) (e_7 : List V) (f_8 : Fl) (x_9 : Int) (e_11 : List V) (f_12 : Fl) (x_13 x_14 x_15 x_16 x_17 x_18 : Int) (w_19 : ByteArray) (e_20 : List V) (f_21 : Fl) (nx : Int → Int → Option R) (x_2 x_10 : Int) (k0 : Int → Option R) : Option R :=
 (match decide (x_10 < x_9) with
  | true => (if 0 ≤ x_10 then Zbu (nth e_7 x_10.toNat) fun e13 => Za3 e13 fun w14 n15 => (match (n15 == x_1) with
   | true => nx (IntKind.i64.wrap (x_2 + 1)) (IntKind.i64.wrap (x_10 + 1))
   | false => nx x_2 (IntKind.i64.wrap (x_10 + 1))) else none)
  | false => k0 x_2)
def Zfc {R : Type} (N : Nat) (x_1 : Int) (e_3 : List V) (f_4 : Fl) (x_5 x_6 : Int) (e_7 : List V) (f_8 : Fl) (x_9 : Int) (e_11 : List V) (f_12 : Fl) (x_13 x_14 x_15 x_16 x_17 x_18 : Int) (w_19 : ByteArray) (e_20 : List V) (f_21 : Fl) (k0 : Int → Option R) : Nat → Int → Int → Option R
 | 0, _, _ => none
 | n + 1, x_2, x_10 => Zc8 N x_1 e_3 f_4 x_5 x_6 e_7 f_8 x_9 e_11 f_12 x_13 x_14 x_15 x_16 x_17 x_18 w_19 e_20 f_21 (fun x_2 x_10 => Zfc N x_1 e_3 f_4 x_5 x_6 e_7 f_8 x_9 e_11 f_12 x_13 x_14 x_15 x_16 x_17 x_18 w_19 e_20 f_21 k0 n x_2 x_10) x_2 x_10 k0
def ZdI {R : Type} (N : Nat) (x_1 : Int) (e_3 : List V) (f_4 : Fl) (x_5 : Int) (e_7 : List V) (f_8 : Fl) (x_9 : Int) (nx : Int → Int → Option R) (x_2 x_6 : Int) (k0 : Int → Option R) : Option R :=
 (match decide (x_6 < x_5) with
  | true => (if 0 ≤ x_6 then Zbu (nth e_3 x_6.toNat) fun e17 => Zax e17 fun n18 n19 n20 n21 n22 w23 e24 f25 => Zfc N x_1 e_3 f_4 x_5 x_6 e24 f25.noOwn.noOwn (e24.length : Int) e_7 f_8 x_9 n18 n19 n20 n21 n22 w23 e24 f25.noOwn
    (fun x26 => nx x26 (IntKind.i64.wrap (x_6 + 1)))
    N x_2 0 else none)
  | false => k0 x_2)
def ZgC {R : Type} (N : Nat) (x_1 : Int) (e_3 : List V) (f_4 : Fl) (x_5 : Int) (e_7 : List V) (f_8 : Fl) (x_9 : Int) (k0 : Int → Option R) : Nat → Int → Int → Option R
 | 0, _, _ => none
 | n + 1, x_2, x_6 => ZdI N x_1 e_3 f_4 x_5 e_7 f_8 x_9 (fun x_2 x_6 => ZgC N x_1 e_3 f_4 x_5 e_7 f_8 x_9 k0 n x_2 x_6) x_2 x_6 k0
def Zp5 {R : Type} (N : Nat) (e_1 : List V) (f_2 : Fl) (x_3 x_4 : Int) (k : Int → Option R) : Option R :=
 ZgC N x_4 e_1 f_2.noOwn (e_1.length : Int) e_1 f_2 x_3
   (fun x27 => k x27)
   N 0 0
def ZIj := @ZaC _ @Zp5
theorem Zwk : @ZIj = @Zp5 := @Zaj _ @Zp5
def Zdc {R : Type} (N : Nat) (e_1 : List V) (f_2 : Fl) (x_3 : Int) (e_5 : List V) (f_6 : Fl) (x_7 : Int) (nx : Int → Option R) (x_4 : Int) (k0 : Unit → Option R) (k1 : Unit → Option R) : Option R :=
 (match decide (x_4 < x_3) with
  | true => (if 0 ≤ x_4 then Zbu (nth e_1 x_4.toNat) fun e23 => Zax e23 fun n24 n25 n26 n27 n28 w29 e30 f31 => ZGk N e_5 f_6.noOwn.noOwn x_7 n24 n25 n26 n27 n28 w29 e30 f31.noOwn.noOwn.noOwn fun b32 => (match (!b32) with
   | true => k0 ()
   | false => nx (IntKind.i64.wrap (x_4 + 1))) else none)
  | false => k1 ())
def ZfZ {R : Type} (N : Nat) (e_1 : List V) (f_2 : Fl) (x_3 : Int) (e_5 : List V) (f_6 : Fl) (x_7 : Int) (k0 : Unit → Option R) (k1 : Unit → Option R) : Nat → Int → Option R
 | 0, _ => none
 | n + 1, x_4 => Zdc N e_1 f_2 x_3 e_5 f_6 x_7 (fun x_4 => ZfZ N e_1 f_2 x_3 e_5 f_6 x_7 k0 k1 n x_4) x_4 k0 k1
def Zdo {R : Type} (N : Nat) (e_1 e_2 : List V) (f_3 : Fl) (x_4 : Int) (e_6 : List V) (f_7 : Fl) (x_8 : Int) (nx : Int → Option R) (x_5 : Int) (k0 : Unit → Option R) (k1 : Unit → Option R) : Option R :=
 (match decide (x_5 < x_4) with
  | true => (if 0 ≤ x_5 then Zbu (nth e_2 x_5.toNat) fun e50 => Zax e50 fun n51 n52 n53 n54 n55 w56 e57 f58 => ZIj N e_6 f_7.noOwn.noOwn x_8 x_5 fun x59 => (match (x_5 == 0) with
   | true => (match decide (x59 > 0) with
   | true => k0 ()
   | false => (match decide (x_5 > 0) with
    | true => (match (n51 == 2) with
    | true => (match (x59 != 1) with
     | true => k0 ()
     | false => (match (n51 != 0) with
     | true => Zlf N e_1 .sh x_5 fun b60 => (match (!b60) with
      | true => k0 ()
      | false => nx (IntKind.i64.wrap (x_5 + 1)))
     | false => nx (IntKind.i64.wrap (x_5 + 1))))
    | false => (match (n51 != 0) with
     | true => Zlf N e_1 .sh x_5 fun b61 => (match (!b61) with
     | true => k0 ()
     | false => nx (IntKind.i64.wrap (x_5 + 1)))
     | false => nx (IntKind.i64.wrap (x_5 + 1))))
    | false => (match (n51 != 0) with
    | true => Zlf N e_1 .sh x_5 fun b62 => (match (!b62) with
     | true => k0 ()
     | false => nx (IntKind.i64.wrap (x_5 + 1)))
    | false => nx (IntKind.i64.wrap (x_5 + 1)))))
   | false => (match decide (x_5 > 0) with
   | true => (match (n51 == 2) with
    | true => (match (x59 != 1) with
    | true => k0 ()
    | false => (match (n51 != 0) with
     | true => Zlf N e_1 .sh x_5 fun b63 => (match (!b63) with
     | true => k0 ()
     | false => nx (IntKind.i64.wrap (x_5 + 1)))
     | false => nx (IntKind.i64.wrap (x_5 + 1))))
    | false => (match (n51 != 0) with
    | true => Zlf N e_1 .sh x_5 fun b64 => (match (!b64) with
     | true => k0 ()
     | false => nx (IntKind.i64.wrap (x_5 + 1)))
    | false => nx (IntKind.i64.wrap (x_5 + 1))))
   | false => (match (n51 != 0) with
    | true => Zlf N e_1 .sh x_5 fun b65 => (match (!b65) with
    | true => k0 ()
    | false => nx (IntKind.i64.wrap (x_5 + 1)))
    | false => nx (IntKind.i64.wrap (x_5 + 1))))) else none)
  | false => k1 ())
def Zgk {R : Type} (N : Nat) (e_1 e_2 : List V) (f_3 : Fl) (x_4 : Int) (e_6 : List V) (f_7 : Fl) (x_8 : Int) (k0 : Unit → Option R) (k1 : Unit → Option R) : Nat → Int → Option R
 | 0, _ => none
 | n + 1, x_5 => Zdo N e_1 e_2 f_3 x_4 e_6 f_7 x_8 (fun x_5 => Zgk N e_1 e_2 f_3 x_4 e_6 f_7 x_8 k0 k1 n x_5) x_5 k0 k1
def ZrM {R : Type} (N : Nat) (e_1 : List V) (f_2 : Fl) (x_3 : Int) (k : Bool → Option R) : Option R :=
 Zgl N (e_1.length : Int) 1 40 fun b1 => (match (!b1) with
  | true => k false
  | false => Zgl N x_3 0 1000 fun b2 => (match (!b2) with
  | true => k false
  | false => ZFW N e_1 f_2.noOwn.noOwn.noOwn.noOwn x_3 fun x3 => (match decide (x3 > x_3) with
   | true => k false
   | false => Zbu (nth e_1 0) fun e4 => Zax e4 fun n5 n6 n7 n8 n9 w10 e11 f12 => (match (n5 != 2) with
   | true => k false
   | false => ZfZ N e_1 f_2.noOwn (e_1.length : Int) e_1 f_2 x_3
     (fun (_ : Unit) => k false)
     (fun (_ : Unit) => ZgM N N R e_1 f_2.noOwn.noOwn x_3 0 [] .sh fun e33 => Zgk N e33 e_1 f_2.noOwn (e_1.length : Int) e_1 f_2 x_3
      (fun (_ : Unit) => k false)
      (fun (_ : Unit) => k true)
      N 0)
     N 0))))
def ZHY := @ZaC _ @ZrM
theorem Zyp : @ZHY = @ZrM := @Zaj _ @ZrM
def Zpx {R : Type} (N : Nat) (x_1 x_2 : Int) (k : Bool → Option R) : Option R :=
 Zgl N x_1 0 99 fun b1 => (match b1 with
  | true => Zgl N x_2 0 99 fun b2 => k b2
  | false => k false)
def ZKi := @ZaC _ @Zpx
theorem Zvw : @ZKi = @Zpx := @Zaj _ @Zpx
def Zrt {R : Type} (N : Nat) (e_1 : List V) (f_2 : Fl) (x_3 x_4 x_5 : Int) (k : Bool → Option R) : Option R :=
 ZHY N e_1 f_2.noOwn.noOwn x_3 fun b1 => (match b1 with
  | true => ZKi N x_4 x_5 fun b2 => k b2
  | false => k false)
def ZGC := @ZaC _ @Zrt
theorem Zya : @ZGC = @Zrt := @Zaj _ @Zrt
def ZqJ {R : Type} (N : Nat) (w_1 : ByteArray) (k : Bool → Option R) : Option R :=
 ZBD N w_1 fun b1 => (match b1 with
  | true => ZbP w_1 0 fun n2 => k (n2 == 47)
  | false => k false)
def ZBF := @ZaC _ @ZqJ
theorem ZwV : @ZBF = @ZqJ := @Zaj _ @ZqJ
def Zpm {R : Type} (N : Nat) (x_1 x_2 x_3 x_4 x_5 x_6 : Int) (k : Bool → Option R) : Option R :=
 (match (x_1 == 0) with
  | true => k true
  | false => (match (x_1 == x_4) with
  | true => k (IntKind.i64.wrap (BitVec.ofInt IntKind.i64.bits (Int.fdiv x_3 (2 ^ (min (6 : Int).toNat 64))) &&& BitVec.ofInt IntKind.i64.bits x_6).toNat == x_6)
  | false => (match (x_2 == x_5) with
   | true => k (IntKind.i64.wrap (BitVec.ofInt IntKind.i64.bits (IntKind.i64.wrap (BitVec.ofInt IntKind.i64.bits (Int.fdiv x_3 (2 ^ (min (3 : Int).toNat 64))) &&& BitVec.ofInt IntKind.i64.bits 7).toNat) &&& BitVec.ofInt IntKind.i64.bits x_6).toNat == x_6)
   | false => k (IntKind.i64.wrap (BitVec.ofInt IntKind.i64.bits (IntKind.i64.wrap (BitVec.ofInt IntKind.i64.bits x_3 &&& BitVec.ofInt IntKind.i64.bits 7).toNat) &&& BitVec.ofInt IntKind.i64.bits x_6).toNat == x_6))))
def ZFD := @ZaC _ @Zpm
theorem Zym : @ZFD = @Zpm := @Zaj _ @Zpm
def ZkT {R : Type} (N : Nat) (e_1 : List V) (f_2 : Fl) (x_3 x_4 x_5 x_6 x_7 : Int) (k : Bool → Option R) : Option R :=
 (if 0 ≤ x_6 then Zbu (nth e_1 x_6.toNat) fun e1 => Zax e1 fun n2 n3 n4 n5 n6 w7 e8 f9 => ZFD N x_4 x_5 n3 n4 n5 x_7 fun b10 => k b10 else none)
def ZAo := @ZaC _ @ZkT
theorem Zkk : @ZAo = @ZkT := @Zaj _ @ZkT
def Zc2 {R : Type} (N : Nat) (x_1 x_2 : Int) (e_3 : List V) (f_4 : Fl) (x_5 x_6 : Int) (e_7 : List V) (f_8 : Fl) (x_9 : Int) (e_11 : List V) (f_12 : Fl) (x_13 x_14 x_15 x_16 x_17 x_18 : Int) (w_19 : ByteArray) (e_20 : List V) (f_21 : Fl) (nx : Int → Option R) (x_10 : Int) (k0 : Unit → Option R) (k1 : Unit → Option R) : Option R :=
 (match decide (x_10 < x_9) with
  | true => (if 0 ≤ x_10 then Zbu (nth e_7 x_10.toNat) fun e13 => Za3 e13 fun w14 n15 => (match (n15 == x_1) with
   | true => k0 ()
   | false => nx (IntKind.i64.wrap (x_10 + 1))) else none)
  | false => k1 ())
def ZeW {R : Type} (N : Nat) (x_1 x_2 : Int) (e_3 : List V) (f_4 : Fl) (x_5 x_6 : Int) (e_7 : List V) (f_8 : Fl) (x_9 : Int) (e_11 : List V) (f_12 : Fl) (x_13 x_14 x_15 x_16 x_17 x_18 : Int) (w_19 : ByteArray) (e_20 : List V) (f_21 : Fl) (k0 : Unit → Option R) (k1 : Unit → Option R) : Nat → Int → Option R
 | 0, _ => none
 | n + 1, x_10 => Zc2 N x_1 x_2 e_3 f_4 x_5 x_6 e_7 f_8 x_9 e_11 f_12 x_13 x_14 x_15 x_16 x_17 x_18 w_19 e_20 f_21 (fun x_10 => ZeW N x_1 x_2 e_3 f_4 x_5 x_6 e_7 f_8 x_9 e_11 f_12 x_13 x_14 x_15 x_16 x_17 x_18 w_19 e_20 f_21 k0 k1 n x_10) x_10 k0 k1
def Zdk {R : Type} (N : Nat) (x_1 : Int) (e_2 : List V) (f_3 : Fl) (x_4 : Int) (e_6 : List V) (f_7 : Fl) (x_8 : Int) (nx : Int → Option R) (x_5 : Int) (k0 : Int → Option R) (k1 : Unit → Option R) : Option R :=
 (match decide (x_5 < x_4) with
  | true => (if 0 ≤ x_5 then Zbu (nth e_2 x_5.toNat) fun e16 => Zax e16 fun n17 n18 n19 n20 n21 w22 e23 f24 => ZeW N x_1 x_5 e_2 f_3 x_4 x_5 e23 f24.noOwn.noOwn (e23.length : Int) e_6 f_7 x_8 n17 n18 n19 n20 n21 w22 e23 f24.noOwn
    (fun (_ : Unit) => k0 x_5)
    (fun (_ : Unit) => nx (IntKind.i64.wrap (x_5 + 1)))
    N 0 else none)
  | false => k1 ())
def Zf0 {R : Type} (N : Nat) (x_1 : Int) (e_2 : List V) (f_3 : Fl) (x_4 : Int) (e_6 : List V) (f_7 : Fl) (x_8 : Int) (k0 : Int → Option R) (k1 : Unit → Option R) : Nat → Int → Option R
 | 0, _ => none
 | n + 1, x_5 => Zdk N x_1 e_2 f_3 x_4 e_6 f_7 x_8 (fun x_5 => Zf0 N x_1 e_2 f_3 x_4 e_6 f_7 x_8 k0 k1 n x_5) x_5 k0 k1
def ZrH {R : Type} (N : Nat) (e_1 : List V) (f_2 : Fl) (x_3 x_4 : Int) (k : Int → Option R) : Option R :=
 Zf0 N x_4 e_1 f_2.noOwn (e_1.length : Int) e_1 f_2 x_3
   (fun x25 => k x25)
   (fun (_ : Unit) => k 0)
   N 0
def ZFl := @ZaC _ @ZrH
theorem ZxM : @ZFl = @ZrH := @Zaj _ @ZrH
def ZcZ {R : Type} (N : Nat) (w_1 : ByteArray) (e_2 : List V) (f_3 : Fl) (x_4 : Int) (nx : Int → Option R) (x_5 : Int) (k0 : Int → Option R) (k1 : Unit → Option R) : Option R :=
 (match decide (x_5 < x_4) with
  | true => (if 0 ≤ x_5 then Zbu (nth e_2 x_5.toNat) fun e4 => Za3 e4 fun w5 n6 => (match (w5.toList == w_1.toList) with
   | true => k0 n6
   | false => nx (IntKind.i64.wrap (x_5 + 1))) else none)
  | false => k1 ())
def Zgr {R : Type} (N : Nat) (w_1 : ByteArray) (e_2 : List V) (f_3 : Fl) (x_4 : Int) (k0 : Int → Option R) (k1 : Unit → Option R) : Nat → Int → Option R
 | 0, _ => none
 | n + 1, x_5 => ZcZ N w_1 e_2 f_3 x_4 (fun x_5 => Zgr N w_1 e_2 f_3 x_4 k0 k1 n x_5) x_5 k0 k1
def Zq2 {R : Type} (N : Nat) (e_1 : List V) (f_2 : Fl) (w_3 : ByteArray) (k : Int → Option R) : Option R :=
 Zgr N w_3 e_1 f_2.noOwn (e_1.length : Int)
   (fun x7 => k x7)
   (fun (_ : Unit) => k (-1))
   N 0
def ZFc := @ZaC _ @Zq2
theorem ZwO : @ZFc = @Zq2 := @Zaj _ @Zq2
def ZpZ {R : Type} (N : Nat) (b_1 : Bool) (e_2 : List V) (f_3 : Fl) (x_4 x_5 x_6 x_7 : Int) (e_8 : List V) (f_9 : Fl) (x_10 : Int) (k : Int → List V → Fl → Int → Int → Int → Int → List V → Fl → Int → Option R) : Option R :=
 (if 0 ≤ x_7 then Zbu (nth e_2 x_7.toNat) fun e1 => Zax e1 fun n2 n3 n4 n5 n6 w7 e8 f9 => (match (n2 != 2) with
  | true => k 3 e_2 f_3 x_4 x_5 x_6 x_7 e_8 f_9 x_10
  | false => ZAo N e_2 f_3.noOwn.noOwn.noOwn.noOwn x_4 x_5 x_6 x_7 1 fun b10 => (match (!b10) with
   | true => k 4 e_2 f_3 x_4 x_5 x_6 x_7 e_8 f_9 x_10
   | false => Zbu (nth e_8 0) fun e11 => Zbd e11 fun w12 => (if (0 : Int) ≤ 1 ∧ 1 ≤ (e_8.length : Int) then (match (w12.toList == (ByteArray.mk #[46]).toList) with
    | true => k 0 e_2 f_3 x_4 x_5 x_6 x_7 ((e_8.take e_8.length).drop 1) f_9.noOwn.noOwn x_10
    | false => (match (w12.toList == (ByteArray.mk #[46, 46]).toList) with
    | true => ZFl N e_2 f_3.noOwn.noOwn.noOwn.noOwn x_4 x_7 fun x13 => k 0 e_2 f_3 x_4 x_5 x_6 x13 ((e_8.take e_8.length).drop 1) f_9.noOwn.noOwn x_10
    | false => ZFc N e8 f9.noOwn.noOwn.noOwn.noOwn w12 fun x14 => (match decide (x14 < 0) with
     | true => k 2 e_2 f_3 x_4 x_5 x_6 x_7 ((e_8.take e_8.length).drop 1) f_9.noOwn.noOwn x_10
     | false => (if 0 ≤ x14 then Zbu (nth e_2 x14.toNat) fun e15 => Zax e15 fun n16 n17 n18 n19 n20 w21 e22 f23 => (match (n16 != 3) with
      | true => k 0 e_2 f_3 x_4 x_5 x_6 x14 ((e_8.take e_8.length).drop 1) f_9.noOwn.noOwn x_10
      | false => (match ((((e_8.take e_8.length).drop 1).length : Int) == 0) with
      | true => (match (!b_1) with
       | true => k 0 e_2 f_3 x_4 x_5 x_6 x14 ((e_8.take e_8.length).drop 1) f_9.noOwn.noOwn x_10
       | false => (match (x_10 == 8) with
       | true => k 5 e_2 f_3 x_4 x_5 x_6 x_7 ((e_8.take e_8.length).drop 1) f_9.noOwn.noOwn x_10
       | false => Zlh N w21 fun e24 => Zan (Zjl f_9.noOwn.noOwn.noOwn.noOwn ((e_8.take e_8.length).drop 1)) ((if (e24.length + (((e_8.take e_8.length).drop 1)).length) * 16 ≤ 140737488355328 then ZbP w21 0 fun n25 => (match (n25 == 47) with
         | true => k 0 e_2 f_3 x_4 x_5 x_6 0 (e24 ++ (((e_8.take e_8.length).drop 1)).map V.noOwn) (.own 9) (IntKind.i64.wrap (x_10 + 1))
         | false => k 0 e_2 f_3 x_4 x_5 x_6 x_7 (e24 ++ (((e_8.take e_8.length).drop 1)).map V.noOwn) (.own 9) (IntKind.i64.wrap (x_10 + 1))) else none))))
      | false => (match (x_10 == 8) with
       | true => k 5 e_2 f_3 x_4 x_5 x_6 x_7 ((e_8.take e_8.length).drop 1) f_9.noOwn.noOwn x_10
       | false => Zlh N w21 fun e26 => Zan (Zjl f_9.noOwn.noOwn.noOwn.noOwn ((e_8.take e_8.length).drop 1)) ((if (e26.length + (((e_8.take e_8.length).drop 1)).length) * 16 ≤ 140737488355328 then ZbP w21 0 fun n27 => (match (n27 == 47) with
        | true => k 0 e_2 f_3 x_4 x_5 x_6 0 (e26 ++ (((e_8.take e_8.length).drop 1)).map V.noOwn) (.own 9) (IntKind.i64.wrap (x_10 + 1))
        | false => k 0 e_2 f_3 x_4 x_5 x_6 x_7 (e26 ++ (((e_8.take e_8.length).drop 1)).map V.noOwn) (.own 9) (IntKind.i64.wrap (x_10 + 1))) else none))))) else none)))) else none))) else none)
def Zz4 := @ZaC _ @ZpZ
theorem ZxW : @Zz4 = @ZpZ := @Zaj _ @ZpZ
def Zeg {R : Type} (N : Nat) (b_1 b_2 : Bool) (e_3 : List V) (f_4 : Fl) (x_5 x_6 x_7 : Int) (nx : List V → Fl → Int → Int → Int → Int → List V → Fl → Int → Option R) (e_8 : List V) (f_9 : Fl) (x_10 x_11 x_12 x_13 : Int) (e_14 : List V) (f_16 : Fl) (x_15 : Int) (k0 : Int → List V → Fl → Int → Int → Int → Int → List V → Fl → Int → Option R) (k1 : List V → Fl → Int → Int → Int → Int → List V → Fl → Int → Option R) : Option R :=
 (match decide ((e_14.length : Int) > 0) with
  | true => (match b_1 with
  | true => Zz4 N true e_8 f_9 x_10 x_11 x_12 x_13 e_14 f_16 x_15 fun x24 e25 f26 x27 x28 x29 x30 e31 f32 x33 => (match (x24 != 0) with
   | true => k0 x24 e25 f26 x27 x28 x29 x30 e31 f32 x33
   | false => nx e25 f26 x27 x28 x29 x30 e31 f32 x33)
  | false => Zz4 N b_2 e_8 f_9 x_10 x_11 x_12 x_13 e_14 f_16 x_15 fun x34 e35 f36 x37 x38 x39 x40 e41 f42 x43 => (match (x34 != 0) with
   | true => k0 x34 e35 f36 x37 x38 x39 x40 e41 f42 x43
   | false => nx e35 f36 x37 x38 x39 x40 e41 f42 x43))
  | false => k1 e_8 f_9 x_10 x_11 x_12 x_13 e_14 f_16 x_15)
def ZeH {R : Type} (N : Nat) (b_1 b_2 : Bool) (e_3 : List V) (f_4 : Fl) (x_5 x_6 x_7 : Int) (k0 : Int → List V → Fl → Int → Int → Int → Int → List V → Fl → Int → Option R) (k1 : List V → Fl → Int → Int → Int → Int → List V → Fl → Int → Option R) : Nat → List V → Fl → Int → Int → Int → Int → List V → Fl → Int → Option R
 | 0, _, _, _, _, _, _, _, _, _ => none
 | n + 1, e_8, f_9, x_10, x_11, x_12, x_13, e_14, f_16, x_15 => Zeg N b_1 b_2 e_3 f_4 x_5 x_6 x_7 (fun e_8 f_9 x_10 x_11 x_12 x_13 e_14 f_16 x_15 => ZeH N b_1 b_2 e_3 f_4 x_5 x_6 x_7 k0 k1 n e_8 f_9 x_10 x_11 x_12 x_13 e_14 f_16 x_15) e_8 f_9 x_10 x_11 x_12 x_13 e_14 f_16 x_15 k0 k1
def Zo6 {R : Type} (N : Nat) (e_1 : List V) (f_2 : Fl) (x_3 x_4 x_5 : Int) (w_6 : ByteArray) (b_7 : Bool) (k : Int → Int → Option R) : Option R :=
 ZBF N w_6 fun b1 => (match (!b1) with
  | true => k 0 1
  | false => ZbP w_6 (IntKind.i64.wrap ((w_6.size : Int) - 1)) fun n2 => Zlh N w_6 fun e3 => ZeH N b_7 (n2 == 47) e_1 f_2 x_3 x_4 x_5
    (fun x44 e45 f46 x47 x48 x49 x50 e51 f52 x53 => k 0 x44)
    (fun e54 f55 x56 x57 x58 x59 e60 f61 x62 => (match (n2 == 47) with
   | true => (if 0 ≤ x59 then Zbu (nth e_1 x59.toNat) fun e63 => Zax e63 fun n64 n65 n66 n67 n68 w69 e70 f71 => (match (n64 != 2) with
    | true => k 0 3
    | false => k x59 0) else none)
   | false => k x59 0))
    N e_1 f_2.noOwn.noOwn.noOwn x_3 x_4 x_5 0 e3 .sh 0)
def ZDJ := @ZaC _ @Zo6
theorem ZxJ : @ZDJ = @Zo6 := @Zaj _ @Zo6
def ZcF {R : Type} (N : Nat) (w_1 : ByteArray) (e_2 : List V) (x_3 : Int) (nx : Nat → Nat → Int → Ob → Option R) (k_5 k_6 : Nat) (x_4 : Int) (O_9 : Ob) (k0 : Nat → Nat → Ob → Option R) : Option R :=
 (match decide (x_4 < x_3) with
  | true => (if 0 ≤ x_4 then Zbu (nth e_2 x_4.toNat) fun e26 => Zbd e26 fun w27 => (match (w27.toList == (ByteArray.mk #[46]).toList) with
   | true => nx k_5 k_6 (IntKind.i64.wrap (x_4 + 1)) O_9
   | false => (match (w27.toList == (ByteArray.mk #[46, 46]).toList) with
   | true => (match decide ((k_6 : Int) > 0) with
    | true => (match ZbY [some ⟨[], 1, 9, 0⟩, some O_9] 1 k_5 with
    | some ob28 => Zan (Nat.beq ob28.elem 9) ((if (0 : Int) ≤ IntKind.i64.wrap ((k_6 : Int) - 1) ∧ IntKind.i64.wrap ((k_6 : Int) - 1) < k_6 then (match ZbY [some ⟨[], 1, 9, 0⟩, some O_9] 1 k_5 with
      | some ob29 => (match nth ob29.es (0 + (IntKind.i64.wrap ((k_6 : Int) - 1)).toNat) with
      | some e30 => Zbv (e30.cells.drop 0) fun c31 l32 => Zbd c31 fun w33 => (match (!(w33.toList == (ByteArray.mk #[46, 46]).toList)) with
       | true => (match ZbY [some ⟨[], 1, 9, 0⟩, some O_9] 1 k_5 with
       | some ob34 => (match Nat.beq ob34.esz 1 with
        | true => (if (0 : Int) ≤ IntKind.i64.wrap ((k_6 : Int) - 1) ∧ IntKind.i64.wrap ((k_6 : Int) - 1) ≤ (k_6 : Int) then nx k_5 ((IntKind.i64.wrap ((k_6 : Int) - 1)).toNat) (IntKind.i64.wrap (x_4 + 1)) O_9 else none)
        | false => none)
       | none => none)
       | false => (match (w27.toList == (ByteArray.mk #[46, 46]).toList) with
       | true => ZbP w_1 0 fun n35 => (match (n35 == 47) with
        | true => nx k_5 k_6 (IntKind.i64.wrap (x_4 + 1)) O_9
        | false => (match ZbY [some ⟨[], 1, 9, 0⟩, some O_9] 1 k_5 with
        | some ob36 => (if k_6 ≤ ob36.es.length then (match ZbY [some ⟨[], 1, 9, 0⟩, some { ob36 with es := (ob36.es.take k_6) }] 1 k_5 with
         | some ob37 => Zan (Nat.beq ob37.elem 9) ((if 0 = 0 ∧ k_6 = ob37.es.length ∧ (k_6 + 1) * 16 ≤ 140737488355328 ∧ 0 < 1 then nx (k_5 + 1) (k_6 + 1) (IntKind.i64.wrap (x_4 + 1)) ({ ob37 with es := (ob37.es ++ ([.str w27] : List V)), ver := (k_5 + 1) }) else none))
         | none => none) else none)
        | none => none))
       | false => (match ZbY [some ⟨[], 1, 9, 0⟩, some O_9] 1 k_5 with
        | some ob38 => (if k_6 ≤ ob38.es.length then (match ZbY [some ⟨[], 1, 9, 0⟩, some { ob38 with es := (ob38.es.take k_6) }] 1 k_5 with
         | some ob39 => Zan (Nat.beq ob39.elem 9) ((if 0 = 0 ∧ k_6 = ob39.es.length ∧ (k_6 + 1) * 16 ≤ 140737488355328 ∧ 0 < 1 then nx (k_5 + 1) (k_6 + 1) (IntKind.i64.wrap (x_4 + 1)) ({ ob39 with es := (ob39.es ++ ([.str w27] : List V)), ver := (k_5 + 1) }) else none))
         | none => none) else none)
        | none => none)))
      | none => none)
      | none => none) else none))
    | none => none)
    | false => (match (w27.toList == (ByteArray.mk #[46, 46]).toList) with
    | true => ZbP w_1 0 fun n40 => (match (n40 == 47) with
     | true => nx k_5 k_6 (IntKind.i64.wrap (x_4 + 1)) O_9
     | false => (match ZbY [some ⟨[], 1, 9, 0⟩, some O_9] 1 k_5 with
     | some ob41 => (if k_6 ≤ ob41.es.length then (match ZbY [some ⟨[], 1, 9, 0⟩, some { ob41 with es := (ob41.es.take k_6) }] 1 k_5 with
      | some ob42 => Zan (Nat.beq ob42.elem 9) ((if 0 = 0 ∧ k_6 = ob42.es.length ∧ (k_6 + 1) * 16 ≤ 140737488355328 ∧ 0 < 1 then nx (k_5 + 1) (k_6 + 1) (IntKind.i64.wrap (x_4 + 1)) ({ ob42 with es := (ob42.es ++ ([.str w27] : List V)), ver := (k_5 + 1) }) else none))
      | none => none) else none)
     | none => none))
    | false => (match ZbY [some ⟨[], 1, 9, 0⟩, some O_9] 1 k_5 with
     | some ob43 => (if k_6 ≤ ob43.es.length then (match ZbY [some ⟨[], 1, 9, 0⟩, some { ob43 with es := (ob43.es.take k_6) }] 1 k_5 with
      | some ob44 => Zan (Nat.beq ob44.elem 9) ((if 0 = 0 ∧ k_6 = ob44.es.length ∧ (k_6 + 1) * 16 ≤ 140737488355328 ∧ 0 < 1 then nx (k_5 + 1) (k_6 + 1) (IntKind.i64.wrap (x_4 + 1)) ({ ob44 with es := (ob44.es ++ ([.str w27] : List V)), ver := (k_5 + 1) }) else none))
      | none => none) else none)
     | none => none)))
   | false => (match (w27.toList == (ByteArray.mk #[46, 46]).toList) with
    | true => ZbP w_1 0 fun n45 => (match (n45 == 47) with
    | true => nx k_5 k_6 (IntKind.i64.wrap (x_4 + 1)) O_9
    | false => (match ZbY [some ⟨[], 1, 9, 0⟩, some O_9] 1 k_5 with
     | some ob46 => (if k_6 ≤ ob46.es.length then (match ZbY [some ⟨[], 1, 9, 0⟩, some { ob46 with es := (ob46.es.take k_6) }] 1 k_5 with
      | some ob47 => Zan (Nat.beq ob47.elem 9) ((if 0 = 0 ∧ k_6 = ob47.es.length ∧ (k_6 + 1) * 16 ≤ 140737488355328 ∧ 0 < 1 then nx (k_5 + 1) (k_6 + 1) (IntKind.i64.wrap (x_4 + 1)) ({ ob47 with es := (ob47.es ++ ([.str w27] : List V)), ver := (k_5 + 1) }) else none))
      | none => none) else none)
     | none => none))
    | false => (match ZbY [some ⟨[], 1, 9, 0⟩, some O_9] 1 k_5 with
    | some ob48 => (if k_6 ≤ ob48.es.length then (match ZbY [some ⟨[], 1, 9, 0⟩, some { ob48 with es := (ob48.es.take k_6) }] 1 k_5 with
     | some ob49 => Zan (Nat.beq ob49.elem 9) ((if 0 = 0 ∧ k_6 = ob49.es.length ∧ (k_6 + 1) * 16 ≤ 140737488355328 ∧ 0 < 1 then nx (k_5 + 1) (k_6 + 1) (IntKind.i64.wrap (x_4 + 1)) ({ ob49 with es := (ob49.es ++ ([.str w27] : List V)), ver := (k_5 + 1) }) else none))
     | none => none) else none)
    | none => none)))) else none)
  | false => k0 k_5 k_6 O_9)
def ZfB {R : Type} (N : Nat) (w_1 : ByteArray) (e_2 : List V) (x_3 : Int) (k0 : Nat → Nat → Ob → Option R) : Nat → Nat → Nat → Int → Ob → Option R
 | 0, _, _, _, _ => none
 | n + 1, k_5, k_6, x_4, O_9 => ZcF N w_1 e_2 x_3 (fun k_5 k_6 x_4 O_9 => ZfB N w_1 e_2 x_3 k0 n k_5 k_6 x_4 O_9) k_5 k_6 x_4 O_9 k0
def Zqb {R : Type} (N : Nat) (w_1 : ByteArray) (k : List V → Option R) : Option R :=
 Zlh N w_1 fun e1 => ZfB N w_1 e1 (e1.length : Int)
   (fun k50 k51 O52 => (match ZbY [some ⟨[], 1, 9, 0⟩, some O52] 1 k50 with
  | some ob53 => (match Zbm (Zbi false [some ⟨[], 1, 9, 0⟩, some O52] 11) ((ob53.es.drop 0).take k51) with
   | some e54 => Zan (decide (0 + k51 ≤ ob53.es.length)) (Zan (e54.all V.plain) ((match Nat.beq ob53.esz 1 with
    | true => k e54
    | false => none)))
   | none => none)
  | none => none))
   N 0 0 0 (⟨[], 1, 9, 0⟩ : Ob)
def ZGL := @ZaC _ @Zqb
theorem Zw3 : @ZGL = @Zqb := @Zaj _ @Zqb
def Zqt {R : Type} (N : Nat) (w_1 : ByteArray) (k : ByteArray → Option R) : Option R :=
 ZGL N w_1 fun e1 => (match ((e1.length : Int) == 0) with
  | true => k (ByteArray.mk #[])
  | false => (if 0 ≤ IntKind.i64.wrap ((e1.length : Int) - 1) then Zbu (nth e1 ((IntKind.i64.wrap ((e1.length : Int) - 1)).toNat)) fun e2 => Zbd e2 fun w3 => (match (w3.toList == (ByteArray.mk #[46, 46]).toList) with
   | true => k (ByteArray.mk #[])
   | false => (if 0 ≤ IntKind.i64.wrap ((e1.length : Int) - 1) then Zbu (nth e1 ((IntKind.i64.wrap ((e1.length : Int) - 1)).toNat)) fun e4 => Zbd e4 fun w5 => k w5 else none)) else none))
def ZG1 := @ZaC _ @Zqt
theorem Zv4 : @ZG1 = @Zqt := @Zaj _ @Zqt
def Zds {R : Type} (N : Nat) (w_1 : ByteArray) (nx : Int → Option R) (x_2 : Int) (k0 : Int → Option R) : Option R :=
 ZbP w_1 (IntKind.i64.wrap (x_2 - 1)) fun n2 => (match (n2 != 47) with
  | true => nx (IntKind.i64.wrap (x_2 - 1))
  | false => k0 x_2)
def Zgo {R : Type} (N : Nat) (w_1 : ByteArray) (k0 : Int → Option R) : Nat → Int → Option R
 | 0, _ => none
 | n + 1, x_2 => Zds N w_1 (fun x_2 => Zgo N w_1 k0 n x_2) x_2 k0
def Zed {R : Type} (N : Nat) (w_1 : ByteArray) (nx : Int → Option R) (x_2 : Int) (k0 : Int → Option R) : Option R :=
 (match decide (x_2 > 1) with
  | true => ZbP w_1 (IntKind.i64.wrap (x_2 - 1)) fun n5 => (match (n5 == 47) with
  | true => nx (IntKind.i64.wrap (x_2 - 1))
  | false => k0 x_2)
  | false => k0 x_2)
def Zgh {R : Type} (N : Nat) (w_1 : ByteArray) (k0 : Int → Option R) : Nat → Int → Option R
 | 0, _ => none
 | n + 1, x_2 => Zed N w_1 (fun x_2 => Zgh N w_1 k0 n x_2) x_2 k0
def Zq6 {R : Type} (N : Nat) (w_1 : ByteArray) (k : ByteArray → Option R) : Option R :=
 Zgo N w_1
   (fun x3 => Zgh N w_1
    (fun x6 => (if (0 : Int) ≤ x6 ∧ x6 ≤ (w_1.size : Int) then k (ByteArray.extract w_1 0 ((x6 : Int).toNat)) else none))
    N x3)
   N (w_1.size : Int)
def ZI0 := @ZaC _ @Zq6
theorem Zxi : @ZI0 = @Zq6 := @Zaj _ @Zq6
def Zrv {R : Type} (N : Nat) (e_1 : List V) (f_2 : Fl) (x_3 x_4 x_5 : Int) (w_6 : ByteArray) (k : Int → ByteArray → Int → Option R) : Option R :=
 ZBF N w_6 fun b1 => (match (!b1) with
  | true => k 0 (ByteArray.mk #[]) 1
  | false => ZbP w_6 (IntKind.i64.wrap ((w_6.size : Int) - 1)) fun n2 => (match (n2 == 47) with
  | true => k 0 (ByteArray.mk #[]) 1
  | false => Zlh N w_6 fun e3 => (if 0 ≤ IntKind.i64.wrap ((e3.length : Int) - 1) then Zbu (nth e3 ((IntKind.i64.wrap ((e3.length : Int) - 1)).toNat)) fun e4 => Zbd e4 fun w5 => Zz1 N w5 fun b6 => (match (!b6) with
   | true => k 0 (ByteArray.mk #[]) 1
   | false => ZG1 N w_6 fun w7 => (match (w7.toList == (ByteArray.mk #[]).toList) with
    | true => k 0 (ByteArray.mk #[]) 1
    | false => ZI0 N w_6 fun w8 => ZDJ N e_1 f_2.noOwn.noOwn.noOwn.noOwn x_3 x_4 x_5 w8 true fun x9 x10 => (match (x10 != 0) with
    | true => k 0 (ByteArray.mk #[]) x10
    | false => (if 0 ≤ x9 then Zbu (nth e_1 x9.toNat) fun e11 => Zax e11 fun n12 n13 n14 n15 n16 w17 e18 f19 => (match (n12 != 2) with
     | true => k 0 (ByteArray.mk #[]) 3
     | false => ZAo N e_1 f_2.noOwn.noOwn x_3 x_4 x_5 x9 1 fun b20 => (match (!b20) with
      | true => k 0 (ByteArray.mk #[]) 4
      | false => k x9 w5 0)) else none)))) else none)))
def ZIa := @ZaC _ @Zrv
theorem Zyl : @ZIa = @Zrv := @Zaj _ @Zrv
def Zqn {R : Type} (N : Nat) (w_1 : ByteArray) (k : ByteArray → Option R) : Option R :=
 (match (w_1.toList == (ByteArray.mk #[]).toList) with
  | true => k (ByteArray.mk #[46])
  | false => k w_1)
def Zlg := @ZaC _ @Zqn
theorem Zxa : @Zlg = @Zqn := @Zaj _ @Zqn
def Zrd {R : Type} (N : Nat) (e_1 : List V) (f_2 : Fl) (x_3 x_4 x_5 x_6 : Int) (k : Bool → Option R) : Option R :=
 ZAo N e_1 f_2.noOwn.noOwn x_3 x_4 x_5 x_6 3 fun b1 => k b1
def ZKB := @ZaC _ @Zrd
theorem ZvV : @ZKB = @Zrd := @Zaj _ @Zrd
def Zd8 {R : Type} (N : Nat) (x_1 : Int) (e_3 : List V) (f_4 : Fl) (x_5 : Int) (nx : Int → Option R) (x_2 : Int) (k0 : Int → Option R) : Option R :=
 (match (x_2 != x_1) with
  | true => (match (x_2 != 0) with
  | true => ZFl N e_3 f_4.noOwn.noOwn x_5 x_2 fun x2 => nx x2
  | false => k0 x_2)
  | false => k0 x_2)
def ZiZ {R : Type} (N : Nat) (x_1 : Int) (e_3 : List V) (f_4 : Fl) (x_5 : Int) (k0 : Int → Option R) : Nat → Int → Option R
 | 0, _ => none
 | n + 1, x_2 => Zd8 N x_1 e_3 f_4 x_5 (fun x_2 => ZiZ N x_1 e_3 f_4 x_5 k0 n x_2) x_2 k0
def Zqh {R : Type} (N : Nat) (e_1 : List V) (f_2 : Fl) (x_3 x_4 x_5 : Int) (k : Bool → Option R) : Option R :=
 ZiZ N x_4 e_1 f_2 x_3
   (fun x3 => k (x3 == x_4))
   N x_5
def ZHo := @ZaC _ @Zqh
theorem Zwd : @ZHo = @Zqh := @Zaj _ @Zqh
def ZoD {R : Type} (N : Nat) (e_1 : List V) (f_2 : Fl) (x_3 x_4 x_5 : Int) (w_6 w_7 : ByteArray) (k : Int → ByteArray → Int → Int → ByteArray → Option R) : Option R :=
 ZDJ N e_1 f_2.noOwn.noOwn x_3 x_4 x_5 w_6 false fun x1 x2 => (match (x2 != 0) with
  | true => Zlg N w_6 fun w3 => k x2 w3 0 0 (ByteArray.mk #[])
  | false => ZIa N e_1 f_2.noOwn.noOwn x_3 x_4 x_5 w_7 fun x4 w5 x6 => (match (x6 != 0) with
  | true => (match (x6 != 0) with
   | true => Zlg N w_7 fun w7 => k x6 w7 0 0 (ByteArray.mk #[])
   | false => k 0 (ByteArray.mk #[]) x1 x4 w5)
  | false => (if 0 ≤ x4 then Zbu (nth e_1 x4.toNat) fun e8 => Zax e8 fun n9 n10 n11 n12 n13 w14 e15 f16 => ZFc N e15 f16.noOwn.noOwn w5 fun x17 => (match decide (x17 ≥ 0) with
   | true => Zlg N w_7 fun w18 => k 6 w18 0 0 (ByteArray.mk #[])
   | false => ZKB N e_1 f_2.noOwn.noOwn x_3 x_4 x_5 x4 fun b19 => (match (!b19) with
    | true => Zlg N w_7 fun w20 => k 4 w20 0 0 (ByteArray.mk #[])
    | false => (if 0 ≤ x1 then Zbu (nth e_1 x1.toNat) fun e21 => Zax e21 fun n22 n23 n24 n25 n26 w27 e28 f29 => (match (n22 == 2) with
     | true => ZHo N e_1 f_2.noOwn.noOwn x_3 x1 x4 fun b30 => (match b30 with
     | true => Zlg N w_7 fun w31 => k 1 w31 0 0 (ByteArray.mk #[])
     | false => (match (x6 != 0) with
      | true => Zlg N w_7 fun w32 => k x6 w32 0 0 (ByteArray.mk #[])
      | false => k 0 (ByteArray.mk #[]) x1 x4 w5))
     | false => (match (x6 != 0) with
     | true => Zlg N w_7 fun w33 => k x6 w33 0 0 (ByteArray.mk #[])
     | false => k 0 (ByteArray.mk #[]) x1 x4 w5)) else none))) else none)))
def ZIr := @ZaC _ @ZoD
theorem Zxu : @ZIr = @ZoD := @Zaj _ @ZoD
def ZoZ {R : Type} (N : Nat) (e_1 : List V) (f_2 : Fl) (x_3 x_4 x_5 : Int) (w_6 w_7 : ByteArray) (k : Int → ByteArray → Bool → Option R) : Option R :=
 ZGC N e_1 f_2.noOwn.noOwn x_3 x_4 x_5 fun b1 => (match (!b1) with
  | true => k 0 (ByteArray.mk #[]) false
  | false => ZIr N e_1 f_2.noOwn.noOwn x_3 x_4 x_5 w_6 w_7 fun x2 w3 x4 x5 w6 => k x2 w3 true)
def ZJP := @ZaC _ @ZoZ
theorem Zwp : @ZJP = @ZoZ := @Zaj _ @ZoZ
def Zrg {R : Type} (N : Nat) (x_1 x_2 x_3 : Int) (k : Bool → Option R) : Option R :=
 (match decide (x_1 ≥ x_2) with
  | true => k (decide (x_1 ≤ x_3))
  | false => k false)
def ZiV := @ZaC _ @Zrg
theorem ZyE : @ZiV = @Zrg := @Zaj _ @Zrg
def Zph {R : Type} (N : Nat) (x_1 : Int) (k : Bool → Option R) : Option R :=
 ZiV N x_1 0 1000 fun b1 => k b1
def ZK6 := @ZaC _ @Zph
theorem Zxm : @ZK6 = @Zph := @Zaj _ @Zph
def Zpa {R : Type} (N : Nat) (x_1 : Int) (k : Bool → Option R) : Option R :=
 ZiV N x_1 0 511 fun b1 => k b1
def ZJW := @ZaC _ @Zpa
theorem ZwH : @ZJW = @Zpa := @Zaj _ @Zpa
def Zpp {R : Type} (N : Nat) (w_1 : ByteArray) (k : Bool → Option R) : Option R :=
 (match (w_1.toList == (ByteArray.mk #[46]).toList) with
  | true => k true
  | false => k (w_1.toList == (ByteArray.mk #[46, 46]).toList))
def ZKG := @ZaC _ @Zpp
theorem ZvE : @ZKG = @Zpp := @Zaj _ @Zpp
def Zpi {R : Type} (N : Nat) (x_1 : Int) (k : Bool → Option R) : Option R :=
 (match decide (x_1 ≥ 97) with
  | true => (match decide (x_1 ≤ 122) with
  | true => k true
  | false => (match decide (x_1 ≥ 48) with
   | true => (match decide (x_1 ≤ 57) with
   | true => k true
   | false => (match (x_1 == 46) with
    | true => k true
    | false => (match (x_1 == 95) with
    | true => k true
    | false => k (x_1 == 45))))
   | false => (match (x_1 == 46) with
   | true => k true
   | false => (match (x_1 == 95) with
    | true => k true
    | false => k (x_1 == 45)))))
  | false => (match decide (x_1 ≥ 48) with
  | true => (match decide (x_1 ≤ 57) with
   | true => k true
   | false => (match (x_1 == 46) with
   | true => k true
   | false => (match (x_1 == 95) with
    | true => k true
    | false => k (x_1 == 45))))
  | false => (match (x_1 == 46) with
   | true => k true
   | false => (match (x_1 == 95) with
   | true => k true
   | false => k (x_1 == 45)))))
def ZHa := @ZaC _ @Zpi
theorem ZvU : @ZHa = @Zpi := @Zaj _ @Zpi
def Zqu {R : Type} (N : Nat) (x_1 : Int) (k : Bool → Option R) : Option R :=
 ZHa N x_1 fun b1 => k (!b1)
def ZKW := @ZaC _ @Zqu
theorem Zye : @ZKW = @Zqu := @Zaj _ @Zqu
def Zdd {R : Type} (N : Nat) (e_1 : List V) (f_2 : Fl) (x_3 : Int) (nx : Int → Option R) (x_4 : Int) (k0 : Int → Option R) (k1 : Unit → Option R) : Option R :=
 (match decide (x_4 < x_3) with
  | true => (if 0 ≤ x_4 then Zbu (nth e_1 x_4.toNat) fun e4 => asInt .u8 e4 fun n5 => ZKW N n5 fun b6 => (match b6 with
   | true => k0 x_4
   | false => nx (IntKind.i64.wrap (x_4 + 1))) else none)
  | false => k1 ())
def Zge {R : Type} (N : Nat) (e_1 : List V) (f_2 : Fl) (x_3 : Int) (k0 : Int → Option R) (k1 : Unit → Option R) : Nat → Int → Option R
 | 0, _ => none
 | n + 1, x_4 => Zdd N e_1 f_2 x_3 (fun x_4 => Zge N e_1 f_2 x_3 k0 k1 n x_4) x_4 k0 k1
def Zp1 {R : Type} (N : Nat) (e_1 : List V) (f_2 : Fl) (k : Int → Option R) : Option R :=
 Zge N e_1 f_2 (e_1.length : Int)
   (fun x7 => k x7)
   (fun (_ : Unit) => k (-1))
   N 0
def ZKu := @ZaC _ @Zp1
theorem ZwA : @ZKu = @Zp1 := @Zaj _ @Zp1
def Zoz {R : Type} (N : Nat) (e_1 : List V) (f_2 : Fl) (k : Bool → Option R) : Option R :=
 ZKu N e_1 f_2.noOwn.noOwn fun x1 => k (decide (x1 ≥ 0))
def ZFE := @ZaC _ @Zoz
theorem ZvL : @ZFE = @Zoz := @Zaj _ @Zoz
def ZpX {R : Type} (N : Nat) (w_1 : ByteArray) (k : Bool → Option R) : Option R :=
 ZiV N (w_1.size : Int) 1 8 fun b1 => (match b1 with
  | true => ZFE N (ZcN w_1) .sh fun b2 => k (!b2)
  | false => k false)
def ZDv := @ZaC _ @ZpX
theorem Zx8 : @ZDv = @ZpX := @Zaj _ @ZpX
def ZqK {R : Type} (N : Nat) (w_1 : ByteArray) (k : Bool → Option R) : Option R :=
 ZDv N w_1 fun b1 => (match b1 with
  | true => ZKG N w_1 fun b2 => k (!b2)
  | false => k false)
def ZD4 := @ZaC _ @ZqK
theorem Zxx : @ZD4 = @ZqK := @Zaj _ @ZqK
def ZlE {R : Type} (N : Nat) (x_1 : Int) (k : Bool → Option R) : Option R :=
 ZiV N x_1 0 99 fun b1 => k b1
def ZA3 := @ZaC _ @ZlE
theorem Znw : @ZA3 = @ZlE := @Zaj _ @ZlE
def ZDP {R : Type} (N : Nat) (w_1 : ByteArray) (x_2 : Int) (k : Int → Option R) : Option R :=
 k (Go.Lib.indexByte w_1.data.toList x_2.toNat.toUInt8)
def ZJv := @ZaC _ @ZDP
theorem ZvH : @ZJv = @ZDP := @Zaj _ @ZDP
def Zp7 {R : Type} (N : Nat) (w_1 : ByteArray) (x_2 : Int) (k : Int → Option R) : Option R :=
 ZJv N w_1 x_2 fun x1 => k x1
def ZEx := @ZaC _ @Zp7
theorem ZxB : @ZEx = @Zp7 := @Zaj _ @Zp7
def ZoT {R : Type} (N : Nat) (w_1 w_2 : ByteArray) (k : Int → Option R) : Option R :=
 (match ((w_2.size : Int) == 0) with
  | true => k 0
  | false => (match (w_2.toList == w_1.toList) with
  | true => k 0
  | false => (match ((w_2.size : Int) == 1) with
   | true => ZbP w_2 0 fun n1 => ZEx N w_1 n1 fun x2 => k x2
   | false => (match decide ((w_2.size : Int) ≥ (w_1.size : Int)) with
   | true => k (-1)
   | false => none))))
def ZJz := @ZaC _ @ZoT
theorem ZwZ : @ZJz = @ZoT := @Zaj _ @ZoT
def Zo2 {R : Type} (N : Nat) (w_1 w_2 : ByteArray) (k : Int → Option R) : Option R :=
 ZJz N w_1 w_2 fun x1 => k x1
def ZCQ := @ZaC _ @Zo2
theorem Zxn : @ZCQ = @Zo2 := @Zaj _ @Zo2
def ZDr {R : Type} (N : Nat) (w_1 : ByteArray) (x_2 : Int) (k : Int → Option R) : Option R :=
 k ((Go.Lib.countByte w_1.data.toList x_2.toNat.toUInt8 : Nat) : Int)
def ZIz := @ZaC _ @ZDr
theorem ZxK : @ZIz = @ZDr := @Zaj _ @ZDr
def Zff {R : Type} (N : Nat) (w_2 : ByteArray) (nx : ByteArray → Int → Option R) (w_1 : ByteArray) (x_3 : Int) (k0 : Int → Option R) : Option R :=
 ZCQ N w_1 w_2 fun x4 => (match (x4 == (-1)) with
  | true => k0 x_3
  | false => (if (0 : Int) ≤ IntKind.i64.wrap (x4 + (w_2.size : Int)) ∧ IntKind.i64.wrap (x4 + (w_2.size : Int)) ≤ (w_1.size : Int) then nx (ByteArray.extract w_1 ((IntKind.i64.wrap (x4 + (w_2.size : Int))).toNat) w_1.size) (IntKind.i64.wrap (x_3 + 1)) else none))
def ZnC {R : Type} (N : Nat) (w_2 : ByteArray) (k0 : Int → Option R) : Nat → ByteArray → Int → Option R
 | 0, _, _ => none
 | n + 1, w_1, x_3 => Zff N w_2 (fun w_1 x_3 => ZnC N w_2 k0 n w_1 x_3) w_1 x_3 k0
def Zpe {R : Type} (N : Nat) (w_1 w_2 : ByteArray) (k : Int → Option R) : Option R :=
 (match ((w_2.size : Int) == 0) with
  | true => none
  | false => (match ((w_2.size : Int) == 1) with
  | true => ZbP w_2 0 fun n1 => ZIz N w_1 n1 fun x2 => k x2
  | false => ZnC N w_2
    (fun x5 => k x5)
    N w_1 0))
def ZDW := @ZaC _ @Zpe
theorem ZyF : @ZDW = @Zpe := @Zaj _ @Zpe
def Zc0 {R : Type} (N : Nat) (w_2 : ByteArray) (x_3 x_4 : Int) (k_5 : Nat) (nx : ByteArray → Int → List V → Option R) (w_1 : ByteArray) (x_6 : Int) (e_7 : List V) (k0 : ByteArray → Int → List V → Option R) : Option R :=
 (match decide (x_6 < x_4) with
  | true => ZCQ N w_1 w_2 fun x5 => (match decide (x5 < 0) with
  | true => k0 w_1 x_6 e_7
  | false => (if (0 : Int) ≤ IntKind.i64.wrap (x5 + x_3) ∧ IntKind.i64.wrap (x5 + x_3) ≤ (w_1.size : Int) then (if (0 : Int) ≤ x_6 ∧ x_6 < k_5 then (match nth e_7 (0 + x_6.toNat) with
    | some e6 => (match ZbK e6 0 [.str (ByteArray.extract w_1 0 ((IntKind.i64.wrap (x5 + x_3)).toNat))] with
    | some e7 => (if (0 : Int) ≤ IntKind.i64.wrap (x5 + (w_2.size : Int)) ∧ IntKind.i64.wrap (x5 + (w_2.size : Int)) ≤ (w_1.size : Int) then nx (ByteArray.extract w_1 ((IntKind.i64.wrap (x5 + (w_2.size : Int))).toNat) w_1.size) (IntKind.i64.wrap (x_6 + 1)) (Za7 e_7 (0 + x_6.toNat) e7) else none)
    | none => none)
    | none => none) else none) else none))
  | false => k0 w_1 x_6 e_7)
def Zfv {R : Type} (N : Nat) (w_2 : ByteArray) (x_3 x_4 : Int) (k_5 : Nat) (k0 : ByteArray → Int → List V → Option R) : Nat → ByteArray → Int → List V → Option R
 | 0, _, _, _ => none
 | n + 1, w_1, x_6, e_7 => Zc0 N w_2 x_3 x_4 k_5 (fun w_1 x_6 e_7 => Zfv N w_2 x_3 x_4 k_5 k0 n w_1 x_6 e_7) w_1 x_6 e_7 k0
def Zrx {R : Type} (N : Nat) (w_1 w_2 : ByteArray) (x_3 x_4 : Int) (k0 : List V → Option R) (k1 : Nat → List V → Option R) : Option R :=
 (match (x_4 == 0) with
  | true => k0 []
  | false => (match (w_2.toList == (ByteArray.mk #[]).toList) with
  | true => none
  | false => (match decide (x_4 < 0) with
   | true => ZDW N w_1 w_2 fun x1 => (if 0 ≤ (if IntKind.i64.wrap ((w_1.size : Int) + 1) < IntKind.i64.wrap (x1 + 1) then IntKind.i64.wrap ((w_1.size : Int) + 1) else IntKind.i64.wrap (x1 + 1)) ∧ (if IntKind.i64.wrap ((w_1.size : Int) + 1) < IntKind.i64.wrap (x1 + 1) then IntKind.i64.wrap ((w_1.size : Int) + 1) else IntKind.i64.wrap (x1 + 1)) = (if IntKind.i64.wrap ((w_1.size : Int) + 1) < IntKind.i64.wrap (x1 + 1) then IntKind.i64.wrap ((w_1.size : Int) + 1) else IntKind.i64.wrap (x1 + 1)) ∧ (if IntKind.i64.wrap ((w_1.size : Int) + 1) < IntKind.i64.wrap (x1 + 1) then IntKind.i64.wrap ((w_1.size : Int) + 1) else IntKind.i64.wrap (x1 + 1)) * 16 ≤ 140737488355328 then Zfv N w_2 x_3 (IntKind.i64.wrap ((if IntKind.i64.wrap ((w_1.size : Int) + 1) < IntKind.i64.wrap (x1 + 1) then IntKind.i64.wrap ((w_1.size : Int) + 1) else IntKind.i64.wrap (x1 + 1)) - 1)) (((if IntKind.i64.wrap ((w_1.size : Int) + 1) < IntKind.i64.wrap (x1 + 1) then IntKind.i64.wrap ((w_1.size : Int) + 1) else IntKind.i64.wrap (x1 + 1))).toNat)
     (fun w8 x9 e10 => (if (0 : Int) ≤ x9 ∧ x9 < ((if IntKind.i64.wrap ((w_1.size : Int) + 1) < IntKind.i64.wrap (x1 + 1) then IntKind.i64.wrap ((w_1.size : Int) + 1) else IntKind.i64.wrap (x1 + 1))).toNat then (match nth e10 (0 + x9.toNat) with
     | some e11 => (match ZbK e11 0 [.str w8] with
     | some e12 => (if (0 : Int) ≤ IntKind.i64.wrap (x9 + 1) ∧ IntKind.i64.wrap (x9 + 1) ≤ (((if IntKind.i64.wrap ((w_1.size : Int) + 1) < IntKind.i64.wrap (x1 + 1) then IntKind.i64.wrap ((w_1.size : Int) + 1) else IntKind.i64.wrap (x1 + 1))).toNat : Int) then Zan (Zbb (Za7 e10 (0 + x9.toNat) e12) && true) (k1 ((IntKind.i64.wrap (x9 + 1)).toNat) (Za7 e10 (0 + x9.toNat) e12)) else none)
     | none => none)
     | none => none) else none))
     N w_1 0 (List.replicate (((if IntKind.i64.wrap ((w_1.size : Int) + 1) < IntKind.i64.wrap (x1 + 1) then IntKind.i64.wrap ((w_1.size : Int) + 1) else IntKind.i64.wrap (x1 + 1))).toNat) (.str (ByteArray.mk #[]))) else none)
   | false => (if 0 ≤ (if IntKind.i64.wrap ((w_1.size : Int) + 1) < x_4 then IntKind.i64.wrap ((w_1.size : Int) + 1) else x_4) ∧ (if IntKind.i64.wrap ((w_1.size : Int) + 1) < x_4 then IntKind.i64.wrap ((w_1.size : Int) + 1) else x_4) = (if IntKind.i64.wrap ((w_1.size : Int) + 1) < x_4 then IntKind.i64.wrap ((w_1.size : Int) + 1) else x_4) ∧ (if IntKind.i64.wrap ((w_1.size : Int) + 1) < x_4 then IntKind.i64.wrap ((w_1.size : Int) + 1) else x_4) * 16 ≤ 140737488355328 then Zfv N w_2 x_3 (IntKind.i64.wrap ((if IntKind.i64.wrap ((w_1.size : Int) + 1) < x_4 then IntKind.i64.wrap ((w_1.size : Int) + 1) else x_4) - 1)) (((if IntKind.i64.wrap ((w_1.size : Int) + 1) < x_4 then IntKind.i64.wrap ((w_1.size : Int) + 1) else x_4)).toNat)
     (fun w13 x14 e15 => (if (0 : Int) ≤ x14 ∧ x14 < ((if IntKind.i64.wrap ((w_1.size : Int) + 1) < x_4 then IntKind.i64.wrap ((w_1.size : Int) + 1) else x_4)).toNat then (match nth e15 (0 + x14.toNat) with
     | some e16 => (match ZbK e16 0 [.str w13] with
     | some e17 => (if (0 : Int) ≤ IntKind.i64.wrap (x14 + 1) ∧ IntKind.i64.wrap (x14 + 1) ≤ (((if IntKind.i64.wrap ((w_1.size : Int) + 1) < x_4 then IntKind.i64.wrap ((w_1.size : Int) + 1) else x_4)).toNat : Int) then Zan (Zbb (Za7 e15 (0 + x14.toNat) e17) && true) (k1 ((IntKind.i64.wrap (x14 + 1)).toNat) (Za7 e15 (0 + x14.toNat) e17)) else none)
     | none => none)
     | none => none) else none))
     N w_1 0 (List.replicate (((if IntKind.i64.wrap ((w_1.size : Int) + 1) < x_4 then IntKind.i64.wrap ((w_1.size : Int) + 1) else x_4)).toNat) (.str (ByteArray.mk #[]))) else none))))
def ZJU := @ZaC _ @Zrx
theorem Zvt : @ZJU = @Zrx := @Zaj _ @Zrx
def Zpn {R : Type} (N : Nat) (w_1 w_2 : ByteArray) (k0 : List V → Option R) (k1 : Nat → List V → Option R) : Option R :=
 ZJU N w_1 w_2 0 (-1)
   (fun e1 => k0 e1)
   (fun k2 e3 => Zan (Zbb e3 && true) (k1 k2 e3))
def ZIp := @ZaC _ @Zpn
theorem Zxj : @ZIp = @Zpn := @Zaj _ @Zpn
def Zlq {R : Type} (N : Nat) (w_1 : ByteArray) (k : Bool → Option R) : Option R :=
 k (w_1.toList == (ByteArray.mk #[]).toList)
def ZDc := @ZaC _ @Zlq
theorem ZnK : @ZDc = @Zlq := @Zaj _ @Zlq
def Zdg {R : Type} (N : Nat) (e_1 : List V) (f_2 : Fl) (x_3 : Int) (nx : Int → Option R) (x_4 : Int) (k0 : Int → Option R) (k1 : Unit → Option R) : Option R :=
 (match decide (x_4 < x_3) with
  | true => (if 0 ≤ x_4 then Zbu (nth e_1 x_4.toNat) fun e4 => Zbd e4 fun w5 => ZDc N w5 fun b6 => (match b6 with
   | true => k0 x_4
   | false => nx (IntKind.i64.wrap (x_4 + 1))) else none)
  | false => k1 ())
def Zgg {R : Type} (N : Nat) (e_1 : List V) (f_2 : Fl) (x_3 : Int) (k0 : Int → Option R) (k1 : Unit → Option R) : Nat → Int → Option R
 | 0, _ => none
 | n + 1, x_4 => Zdg N e_1 f_2 x_3 (fun x_4 => Zgg N e_1 f_2 x_3 k0 k1 n x_4) x_4 k0 k1
def Zp3 {R : Type} (N : Nat) (e_1 : List V) (f_2 : Fl) (k : Int → Option R) : Option R :=
 Zgg N e_1 f_2 (e_1.length : Int)
   (fun x7 => k x7)
   (fun (_ : Unit) => k (-1))
   N 0
def ZH4 := @ZaC _ @Zp3
theorem ZxO : @ZH4 = @Zp3 := @Zaj _ @Zp3
def Zdt {R : Type} (N : Nat) (k_1 : Nat) (nx : Int → Int → List V → Option R) (x_2 x_3 : Int) (e_4 : List V) (k0 : Int → List V → Option R) : Option R :=
 (match decide (x_3 < (k_1 : Int)) with
  | true => (if (0 : Int) ≤ x_3 ∧ x_3 < k_1 then (match nth e_4 (0 + x_3.toNat) with
   | some e10 => Zbv (e10.cells.drop 0) fun c11 l12 => Zbd c11 fun w13 => ZDc N w13 fun b14 => (match (!b14) with
   | true => (if (0 : Int) ≤ x_2 ∧ x_2 < k_1 then (match nth e_4 (0 + x_2.toNat) with
    | some e15 => (match ZbK e15 0 [.str w13] with
     | some e16 => nx (IntKind.i64.wrap (x_2 + 1)) (IntKind.i64.wrap (x_3 + 1)) (Za7 e_4 (0 + x_2.toNat) e16)
     | none => none)
    | none => none) else none)
   | false => nx x_2 (IntKind.i64.wrap (x_3 + 1)) e_4)
   | none => none) else none)
  | false => k0 x_2 e_4)
def ZeX {R : Type} (N : Nat) (k_1 : Nat) (k0 : Int → List V → Option R) : Nat → Int → Int → List V → Option R
 | 0, _, _, _ => none
 | n + 1, x_2, x_3, e_4 => Zdt N k_1 (fun x_2 x_3 e_4 => ZeX N k_1 k0 n x_2 x_3 e_4) x_2 x_3 e_4 k0
def ZpT {R : Type} (N : Nat) (k_1 : Nat) (e_2 : List V) (k : Nat → List V → Option R) : Option R :=
 (match Zbm (Zbi true [some ⟨e_2, 1, 9, 0⟩] 11) ((e_2.drop 0).take k_1) with
  | some e1 => Zan (decide (0 + k_1 ≤ e_2.length)) (ZH4 N (e1.map V.lent) .bor fun x2 => (match (x2 == (-1)) with
   | true => Zan (Zbb e_2 && true) (k k_1 e_2)
   | false => ZeX N k_1
     (fun x17 e18 => (if (0 : Int) ≤ x17 ∧ x17 ≤ (k_1 : Int) then Zan (decide ((0 + (x17 : Int).toNat) + (k_1 - (x17 : Int).toNat) ≤ e18.length)) ((if (0 : Int) ≤ x17 ∧ x17 ≤ (k_1 : Int) then Zan (Zbb (Zgj e18 (0 + (x17 : Int).toNat) (k_1 - (x17 : Int).toNat) (.str (ByteArray.mk #[]))) && true) (k ((x17 : Int).toNat) (Zgj e18 (0 + (x17 : Int).toNat) (k_1 - (x17 : Int).toNat) (.str (ByteArray.mk #[])))) else none)) else none))
     N x2 (IntKind.i64.wrap (x2 + 1)) e_2))
  | none => none)
def ZG5 := @ZaC _ @ZpT
theorem Zvz : @ZG5 = @ZpT := @Zaj _ @ZpT
def ZrA {R : Type} (N : Nat) (w_1 : ByteArray) (k : List V → Option R) : Option R :=
 ZIp N w_1 (ByteArray.mk #[47])
   (fun e1 => none)
   (fun k2 e3 => Zan (Zbb e3 && true) (ZG5 N k2 e3 fun k4 e5 => (match Zbm (Zbi false [some ⟨e5, 1, 9, 0⟩] 11) ((e5.drop 0).take k4) with
   | some e6 => Zan (decide (0 + k4 ≤ e5.length)) (Zan (e6.all V.plain) (k e6))
   | none => none)))
def ZoB := @ZaC _ @ZrA
theorem Zww : @ZoB = @ZrA := @Zaj _ @ZrA
def ZpA {R : Type} (N : Nat) (w_1 : ByteArray) (k : Bool → Option R) : Option R :=
 ZDv N w_1 fun b1 => k (!b1)
def ZKQ := @ZaC _ @ZpA
theorem ZvI : @ZKQ = @ZpA := @Zaj _ @ZpA
def Zdv {R : Type} (N : Nat) (e_1 : List V) (f_2 : Fl) (x_3 : Int) (nx : Int → Option R) (x_4 : Int) (k0 : Int → Option R) (k1 : Unit → Option R) : Option R :=
 (match decide (x_4 < x_3) with
  | true => (if 0 ≤ x_4 then Zbu (nth e_1 x_4.toNat) fun e4 => Zbd e4 fun w5 => ZKQ N w5 fun b6 => (match b6 with
   | true => k0 x_4
   | false => nx (IntKind.i64.wrap (x_4 + 1))) else none)
  | false => k1 ())
def Zgp {R : Type} (N : Nat) (e_1 : List V) (f_2 : Fl) (x_3 : Int) (k0 : Int → Option R) (k1 : Unit → Option R) : Nat → Int → Option R
 | 0, _ => none
 | n + 1, x_4 => Zdv N e_1 f_2 x_3 (fun x_4 => Zgp N e_1 f_2 x_3 k0 k1 n x_4) x_4 k0 k1
def Zqc {R : Type} (N : Nat) (e_1 : List V) (f_2 : Fl) (k : Int → Option R) : Option R :=
 Zgp N e_1 f_2 (e_1.length : Int)
   (fun x7 => k x7)
   (fun (_ : Unit) => k (-1))
   N 0
def ZKL := @ZaC _ @Zqc
theorem Zyb : @ZKL = @Zqc := @Zaj _ @Zqc
def Zpy {R : Type} (N : Nat) (e_1 : List V) (f_2 : Fl) (k : Bool → Option R) : Option R :=
 ZKL N e_1 f_2.noOwn.noOwn fun x1 => k (decide (x1 ≥ 0))
def ZFH := @ZaC _ @Zpy
theorem Zvq : @ZFH = @Zpy := @Zaj _ @Zpy
def Zqi {R : Type} (N : Nat) (w_1 : ByteArray) (k : Bool → Option R) : Option R :=
 (match (!(w_1.toList == (ByteArray.mk #[]).toList)) with
  | true => ZoB N w_1 fun e1 => ZFH N e1 .sh fun b2 => k (!b2)
  | false => k false)
def ZKq := @ZaC _ @Zqi
theorem ZvN : @ZKq = @Zqi := @Zaj _ @Zqi
def Zot {R : Type} (N : Nat) (w_1 : ByteArray) (k : Bool → Option R) : Option R :=
 (match decide ((w_1.size : Int) ≤ 60) with
  | true => ZKq N w_1 fun b1 => k b1
  | false => k false)
def ZAD := @ZaC _ @Zot
theorem Zyi : @ZAD = @Zot := @Zaj _ @Zot
def Zpr {R : Type} (N : Nat) (x_1 x_2 x_3 x_4 x_5 : Int) (w_6 : ByteArray) (e_7 : List V) (f_8 : Fl) (k : Bool → Option R) : Option R :=
 (match (x_1 == 0) with
  | true => (match (x_2 == 0) with
  | true => (match (x_3 == 0) with
   | true => (match (x_4 == 0) with
   | true => (match (x_5 == 0) with
    | true => (match (w_6.toList == (ByteArray.mk #[]).toList) with
    | true => k ((e_7.length : Int) == 0)
    | false => k false)
    | false => k false)
   | false => k false)
   | false => k false)
  | false => k false)
  | false => k false)
def ZLd := @ZaC _ @Zpr
theorem ZvC : @ZLd = @Zpr := @Zaj _ @Zpr
def Zpt {R : Type} (N : Nat) (x_1 : Int) (k : Bool → Option R) : Option R :=
 ZiV N x_1 0 1000000 fun b1 => k b1
def ZJH := @ZaC _ @Zpt
theorem ZvF : @ZJH = @Zpt := @Zaj _ @Zpt
def ZrQ {R : Type} (N : Nat) (e_1 : List V) (f_2 : Fl) (x_3 x_4 : Int) (k : Bool → Option R) : Option R :=
 ZiV N x_4 0 (IntKind.i64.wrap ((e_1.length : Int) - 1)) fun b1 => (match b1 with
  | true => (if 0 ≤ x_4 then Zbu (nth e_1 x_4.toNat) fun e2 => Zax e2 fun n3 n4 n5 n6 n7 w8 e9 f10 => k (n3 != 0) else none)
  | false => k false)
def ZDO := @ZaC _ @ZrQ
theorem Zys : @ZDO = @ZrQ := @Zaj _ @ZrQ
def ZdC {R : Type} (N : Nat) (e_1 : List V) (f_2 : Fl) (x_3 : Int) (e_5 : List V) (f_6 : Fl) (x_7 x_8 x_9 x_10 x_11 x_12 : Int) (w_13 : ByteArray) (e_14 : List V) (f_15 : Fl) (nx : Int → Option R) (x_4 : Int) (k0 : Unit → Option R) (k1 : Unit → Option R) : Option R :=
 (match decide (x_4 < x_3) with
  | true => (if 0 ≤ x_4 then Zbu (nth e_1 x_4.toNat) fun e16 => Za3 e16 fun w17 n18 => ZD4 N w17 fun b19 => (match (!b19) with
   | true => k0 ()
   | false => (match decide (x_4 > 0) with
   | true => (if 0 ≤ IntKind.i64.wrap (x_4 - 1) then Zbu (nth e_14 ((IntKind.i64.wrap (x_4 - 1)).toNat)) fun e20 => Za3 e20 fun w21 n22 => (match (!Op.bytesLess w21.toList w17.toList) with
    | true => k0 ()
    | false => ZDO N e_5 f_6.noOwn.noOwn.noOwn.noOwn x_7 n18 fun b23 => (match (!b23) with
     | true => k0 ()
     | false => nx (IntKind.i64.wrap (x_4 + 1)))) else none)
   | false => ZDO N e_5 f_6.noOwn.noOwn.noOwn.noOwn x_7 n18 fun b24 => (match (!b24) with
    | true => k0 ()
    | false => nx (IntKind.i64.wrap (x_4 + 1))))) else none)
  | false => k1 ())
def ZeG {R : Type} (N : Nat) (e_1 : List V) (f_2 : Fl) (x_3 : Int) (e_5 : List V) (f_6 : Fl) (x_7 x_8 x_9 x_10 x_11 x_12 : Int) (w_13 : ByteArray) (e_14 : List V) (f_15 : Fl) (k0 : Unit → Option R) (k1 : Unit → Option R) : Nat → Int → Option R
 | 0, _ => none
 | n + 1, x_4 => ZdC N e_1 f_2 x_3 e_5 f_6 x_7 x_8 x_9 x_10 x_11 x_12 w_13 e_14 f_15 (fun x_4 => ZeG N e_1 f_2 x_3 e_5 f_6 x_7 x_8 x_9 x_10 x_11 x_12 w_13 e_14 f_15 k0 k1 n x_4) x_4 k0 k1
def ZpD {R : Type} (N : Nat) (e_1 : List V) (f_2 : Fl) (x_3 x_4 x_5 x_6 x_7 x_8 : Int) (w_9 : ByteArray) (e_10 : List V) (f_11 : Fl) (k : Bool → Option R) : Option R :=
 (match (x_4 == 0) with
  | true => ZLd N x_4 x_5 x_6 x_7 x_8 w_9 e_10 f_11.noOwn.noOwn fun b1 => k b1
  | false => ZJW N x_5 fun b2 => (match (!b2) with
  | true => k false
  | false => ZA3 N x_6 fun b3 => (match (!b3) with
   | true => k false
   | false => ZA3 N x_7 fun b4 => (match (!b4) with
   | true => k false
   | false => ZJH N x_8 fun b5 => (match (!b5) with
    | true => k false
    | false => (match (x_4 != 2) with
    | true => (match decide ((e_10.length : Int) > 0) with
     | true => k false
     | false => (match (x_4 == 1) with
     | true => k (decide ((w_9.size : Int) ≤ 60))
     | false => (match (x_4 == 3) with
      | true => ZAD N w_9 fun b6 => k b6
      | false => (match (x_4 == 2) with
      | true => ZeG N e_10 f_11.noOwn (e_10.length : Int) e_1 f_2 x_3 x_4 x_5 x_6 x_7 x_8 w_9 e_10 f_11
        (fun (_ : Unit) => k false)
        (fun (_ : Unit) => k (w_9.toList == (ByteArray.mk #[]).toList))
        N 0
      | false => k false))))
    | false => (match (x_4 == 1) with
     | true => k (decide ((w_9.size : Int) ≤ 60))
     | false => (match (x_4 == 3) with
     | true => ZAD N w_9 fun b25 => k b25
     | false => (match (x_4 == 2) with
      | true => ZeG N e_10 f_11.noOwn (e_10.length : Int) e_1 f_2 x_3 x_4 x_5 x_6 x_7 x_8 w_9 e_10 f_11
        (fun (_ : Unit) => k false)
        (fun (_ : Unit) => k (w_9.toList == (ByteArray.mk #[]).toList))
        N 0
      | false => k false)))))))))
def ZHD := @ZaC _ @ZpD
theorem Zx5 : @ZHD = @ZpD := @Zaj _ @ZpD
def Zdr {R : Type} (N : Nat) (e_2 : List V) (f_3 : Fl) (x_4 : Int) (e_6 : List V) (f_7 : Fl) (x_8 : Int) (nx : Int → Int → Option R) (x_1 x_5 : Int) (k0 : Int → Option R) : Option R :=
 (match decide (x_5 < x_4) with
  | true => (if 0 ≤ x_5 then Zbu (nth e_2 x_5.toNat) fun e10 => Zax e10 fun n11 n12 n13 n14 n15 w16 e17 f18 => nx (IntKind.i64.wrap (x_1 + (w16.size : Int))) (IntKind.i64.wrap (x_5 + 1)) else none)
  | false => k0 x_1)
def Zga {R : Type} (N : Nat) (e_2 : List V) (f_3 : Fl) (x_4 : Int) (e_6 : List V) (f_7 : Fl) (x_8 : Int) (k0 : Int → Option R) : Nat → Int → Int → Option R
 | 0, _, _ => none
 | n + 1, x_1, x_5 => Zdr N e_2 f_3 x_4 e_6 f_7 x_8 (fun x_1 x_5 => Zga N e_2 f_3 x_4 e_6 f_7 x_8 k0 n x_1 x_5) x_1 x_5 k0
def Zpd {R : Type} (N : Nat) (e_1 : List V) (f_2 : Fl) (x_3 : Int) (k : Int → Option R) : Option R :=
 Zga N e_1 f_2.noOwn (e_1.length : Int) e_1 f_2 x_3
   (fun x19 => k x19)
   N 0 0
def ZFX := @ZaC _ @Zpd
theorem Zyh : @ZFX = @Zpd := @Zaj _ @Zpd
def Zdh {R : Type} (N : Nat) (k_1 : Nat) (e_2 : List V) (f_3 : Fl) (x_4 x_5 : Int) (e_6 : List V) (f_7 : Fl) (x_8 : Int) (e_10 : List V) (f_11 : Fl) (x_12 x_14 x_15 x_16 x_17 x_18 : Int) (w_19 : ByteArray) (e_20 : List V) (f_21 : Fl) (nx : Int → List V → Option R) (x_9 : Int) (e_13 : List V) (k0 : List V → Option R) : Option R :=
 (match decide (x_9 < x_8) with
  | true => (if 0 ≤ x_9 then Zbu (nth e_6 x_9.toNat) fun e19 => Za3 e19 fun w20 n21 => (if (0 : Int) ≤ n21 ∧ n21 < k_1 then (match nth e_13 (0 + n21.toNat) with
   | some e22 => Zbv (e22.cells.drop 0) fun c23 l24 => asInt .i64 c23 fun n25 => (if (0 : Int) ≤ n21 ∧ n21 < k_1 then (match nth e_13 (0 + n21.toNat) with
    | some e26 => (match ZbK e26 0 [.int .i64 (IntKind.i64.wrap (n25 + 1))] with
     | some e27 => nx (IntKind.i64.wrap (x_9 + 1)) ((Za7 e_13 (0 + n21.toNat) e27).map (trimV 3))
     | none => none)
    | none => none) else none)
   | none => none) else none) else none)
  | false => k0 (e_13.map (trimV 3)))
def Zfx {R : Type} (N : Nat) (k_1 : Nat) (e_2 : List V) (f_3 : Fl) (x_4 x_5 : Int) (e_6 : List V) (f_7 : Fl) (x_8 : Int) (e_10 : List V) (f_11 : Fl) (x_12 x_14 x_15 x_16 x_17 x_18 : Int) (w_19 : ByteArray) (e_20 : List V) (f_21 : Fl) (k0 : List V → Option R) : Nat → Int → List V → Option R
 | 0, _, _ => none
 | n + 1, x_9, e_13 => Zdh N k_1 e_2 f_3 x_4 x_5 e_6 f_7 x_8 e_10 f_11 x_12 x_14 x_15 x_16 x_17 x_18 w_19 e_20 f_21 (fun x_9 e_13 => Zfx N k_1 e_2 f_3 x_4 x_5 e_6 f_7 x_8 e_10 f_11 x_12 x_14 x_15 x_16 x_17 x_18 w_19 e_20 f_21 k0 n x_9 e_13) x_9 e_13 k0
def Zda {R : Type} (N : Nat) (k_1 : Nat) (e_2 : List V) (f_3 : Fl) (x_4 : Int) (e_6 : List V) (f_7 : Fl) (x_8 : Int) (nx : Int → List V → Option R) (x_5 : Int) (e_9 : List V) (k0 : List V → Option R) : Option R :=
 (match decide (x_5 < x_4) with
  | true => (if 0 ≤ x_5 then Zbu (nth e_2 x_5.toNat) fun e29 => Zax e29 fun n30 n31 n32 n33 n34 w35 e36 f37 => Zfx N k_1 e_2 f_3 x_4 x_5 e36 f37.noOwn.noOwn (e36.length : Int) e_6 f_7 x_8 n30 n31 n32 n33 n34 w35 e36 f37.noOwn
    (fun e38 => nx (IntKind.i64.wrap (x_5 + 1)) (e38.map (trimV 2)))
    N 0 e_9 else none)
  | false => k0 (e_9.map (trimV 2)))
def ZgJ {R : Type} (N : Nat) (k_1 : Nat) (e_2 : List V) (f_3 : Fl) (x_4 : Int) (e_6 : List V) (f_7 : Fl) (x_8 : Int) (k0 : List V → Option R) : Nat → Int → List V → Option R
 | 0, _, _ => none
 | n + 1, x_5, e_9 => Zda N k_1 e_2 f_3 x_4 e_6 f_7 x_8 (fun x_5 e_9 => ZgJ N k_1 e_2 f_3 x_4 e_6 f_7 x_8 k0 n x_5 e_9) x_5 e_9 k0
def ZqD {R : Type} (N : Nat) (e_1 : List V) (f_2 : Fl) (x_3 : Int) (k : List V → Option R) : Option R :=
 (if 0 ≤ (e_1.length : Int) ∧ (e_1.length : Int) = (e_1.length : Int) ∧ (e_1.length : Int) * 8 ≤ 140737488355328 then ZgJ N (((e_1.length : Int)).toNat) e_1 f_2.noOwn (e_1.length : Int) e_1 f_2 x_3
    (fun e39 => (match Zbm (Zbi false [some ⟨[.agg [.list 7 e_1 f_2, .int .i64 x_3]], 2, 34, 0⟩, some ⟨e39, 1, 3, 0⟩] 11) ((e39.drop 0).take (((e_1.length : Int)).toNat)) with
   | some e40 => Zan (decide (0 + ((e_1.length : Int)).toNat ≤ e39.length)) (Zan (e40.all V.plain) (k e40))
   | none => none))
    N 0 (List.replicate (((e_1.length : Int)).toNat) (.int .i64 0)) else none)
def ZGI := @ZaC _ @ZqD
theorem ZwI : @ZGI = @ZqD := @Zaj _ @ZqD
def Zdn {R : Type} (N : Nat) (e_1 : List V) (f_2 : Fl) (x_3 : Int) (e_5 : List V) (f_6 : Fl) (x_7 : Int) (nx : Int → Option R) (x_4 : Int) (k0 : Unit → Option R) (k1 : Unit → Option R) : Option R :=
 (match decide (x_4 < x_3) with
  | true => (if 0 ≤ x_4 then Zbu (nth e_1 x_4.toNat) fun e22 => Zax e22 fun n23 n24 n25 n26 n27 w28 e29 f30 => ZHD N e_5 f_6.noOwn.noOwn x_7 n23 n24 n25 n26 n27 w28 e29 f30.noOwn.noOwn.noOwn fun b31 => (match (!b31) with
   | true => k0 ()
   | false => nx (IntKind.i64.wrap (x_4 + 1))) else none)
  | false => k1 ())
def ZgB {R : Type} (N : Nat) (e_1 : List V) (f_2 : Fl) (x_3 : Int) (e_5 : List V) (f_6 : Fl) (x_7 : Int) (k0 : Unit → Option R) (k1 : Unit → Option R) : Nat → Int → Option R
 | 0, _ => none
 | n + 1, x_4 => Zdn N e_1 f_2 x_3 e_5 f_6 x_7 (fun x_4 => ZgB N e_1 f_2 x_3 e_5 f_6 x_7 k0 k1 n x_4) x_4 k0 k1
def Zdw {R : Type} (N : Nat) (e_1 e_2 : List V) (f_3 : Fl) (x_4 : Int) (e_6 : List V) (f_7 : Fl) (x_8 : Int) (nx : Int → Option R) (x_5 : Int) (k0 : Unit → Option R) (k1 : Unit → Option R) : Option R :=
 (match decide (x_5 < x_4) with
  | true => (if 0 ≤ x_5 then Zbu (nth e_2 x_5.toNat) fun e52 => Zax e52 fun n53 n54 n55 n56 n57 w58 e59 f60 => (match (x_5 == 0) with
   | true => (match (n53 != 0) with
   | true => (if 0 ≤ x_5 then Zbu (nth e_1 x_5.toNat) fun e61 => asInt .i64 e61 fun n62 => ZiV N n62 (if 1 < x_5 then 1 else x_5) 0 fun b63 => (match (!b63) with
    | true => k0 ()
    | false => nx (IntKind.i64.wrap (x_5 + 1))) else none)
   | false => nx (IntKind.i64.wrap (x_5 + 1)))
   | false => (match (n53 == 2) with
   | true => (match (n53 != 0) with
    | true => (if 0 ≤ x_5 then Zbu (nth e_1 x_5.toNat) fun e64 => asInt .i64 e64 fun n65 => ZiV N n65 (if 1 < x_5 then 1 else x_5) 1 fun b66 => (match (!b66) with
     | true => k0 ()
     | false => nx (IntKind.i64.wrap (x_5 + 1))) else none)
    | false => nx (IntKind.i64.wrap (x_5 + 1)))
   | false => (match (n53 != 0) with
    | true => (if 0 ≤ x_5 then Zbu (nth e_1 x_5.toNat) fun e67 => asInt .i64 e67 fun n68 => ZiV N n68 (if 1 < x_5 then 1 else x_5) 1152921504606846976 fun b69 => (match (!b69) with
     | true => k0 ()
     | false => nx (IntKind.i64.wrap (x_5 + 1))) else none)
    | false => nx (IntKind.i64.wrap (x_5 + 1))))) else none)
  | false => k1 ())
def Zgt {R : Type} (N : Nat) (e_1 e_2 : List V) (f_3 : Fl) (x_4 : Int) (e_6 : List V) (f_7 : Fl) (x_8 : Int) (k0 : Unit → Option R) (k1 : Unit → Option R) : Nat → Int → Option R
 | 0, _ => none
 | n + 1, x_5 => Zdw N e_1 e_2 f_3 x_4 e_6 f_7 x_8 (fun x_5 => Zgt N e_1 e_2 f_3 x_4 e_6 f_7 x_8 k0 k1 n x_5) x_5 k0 k1
def Zdy {R : Type} (N : Nat) (k_1 : Nat) (x_3 : Int) (e_4 : List V) (f_5 : Fl) (x_6 : Int) (e_8 : List V) (f_9 : Fl) (x_10 : Int) (nx : List V → Int → List V → Option R) (e_2 : List V) (x_7 : Int) (e_11 : List V) (k0 : List V → List V → Option R) : Option R :=
 (match decide (x_7 < x_6) with
  | true => (if 0 ≤ x_7 then Zbu (nth e_4 x_7.toNat) fun e101 => Za3 e101 fun w102 n103 => (if 0 ≤ n103 then Zbu (nth e_8 n103.toNat) fun e104 => Zax e104 fun n105 n106 n107 n108 n109 w110 e111 f112 => (match (n105 == 2) with
   | true => (if (0 : Int) ≤ n103 ∧ n103 < k_1 then (match nth e_11 (0 + n103.toNat) with
    | some e113 => Zbv (e113.cells.drop 0) fun c114 l115 => asBool c114 fun b116 => (match (!b116) with
     | true => (if (e_2.length + 1) * 8 ≤ 140737488355328 then nx (e_2 ++ ([.int .i64 n103] : List V)) (IntKind.i64.wrap (x_7 + 1)) (e_11.map (trimV 2)) else none)
     | false => nx e_2 (IntKind.i64.wrap (x_7 + 1)) (e_11.map (trimV 2)))
    | none => none) else none)
   | false => nx e_2 (IntKind.i64.wrap (x_7 + 1)) (e_11.map (trimV 2))) else none) else none)
  | false => k0 e_2 (e_11.map (trimV 2)))
def ZfA {R : Type} (N : Nat) (k_1 : Nat) (x_3 : Int) (e_4 : List V) (f_5 : Fl) (x_6 : Int) (e_8 : List V) (f_9 : Fl) (x_10 : Int) (k0 : List V → List V → Option R) : Nat → List V → Int → List V → Option R
 | 0, _, _, _ => none
 | n + 1, e_2, x_7, e_11 => Zdy N k_1 x_3 e_4 f_5 x_6 e_8 f_9 x_10 (fun e_2 x_7 e_11 => ZfA N k_1 x_3 e_4 f_5 x_6 e_8 f_9 x_10 k0 n e_2 x_7 e_11) e_2 x_7 e_11 k0
def Zc9 {R : Type} (N : Nat) (k_1 : Nat) (e_4 : List V) (f_5 : Fl) (x_6 : Int) (nx : List V → Int → List V → Option R) (e_2 : List V) (x_3 : Int) (e_7 : List V) (k0 : List V → Option R) : Option R :=
 (match decide (x_3 < (e_2.length : Int)) with
  | true => (if 0 ≤ x_3 then Zbu (nth e_2 x_3.toNat) fun e119 => asInt .i64 e119 fun n120 => (if (0 : Int) ≤ n120 ∧ n120 < k_1 then (match nth e_7 (0 + n120.toNat) with
   | some e121 => (match ZbK e121 0 [.bool true] with
    | some e122 => (if 0 ≤ x_3 then Zbu (nth e_2 x_3.toNat) fun e123 => asInt .i64 e123 fun n124 => (if 0 ≤ n124 then Zbu (nth e_4 n124.toNat) fun e125 => Zax e125 fun n126 n127 n128 n129 n130 w131 e132 f133 => ZfA N k_1 x_3 e132 f133.noOwn.noOwn (e132.length : Int) e_4 f_5 x_6
       (fun e134 e135 => nx e134 (IntKind.i64.wrap (x_3 + 1)) e135)
       N e_2 0 (Za7 e_7 (0 + n120.toNat) e122) else none) else none)
    | none => none)
   | none => none) else none) else none)
  | false => k0 e_7)
def Zfi {R : Type} (N : Nat) (k_1 : Nat) (e_4 : List V) (f_5 : Fl) (x_6 : Int) (k0 : List V → Option R) : Nat → List V → Int → List V → Option R
 | 0, _, _, _ => none
 | n + 1, e_2, x_3, e_7 => Zc9 N k_1 e_4 f_5 x_6 (fun e_2 x_3 e_7 => Zfi N k_1 e_4 f_5 x_6 k0 n e_2 x_3 e_7) e_2 x_3 e_7 k0
def ZdD {R : Type} (N : Nat) (k_1 : Nat) (e_2 : List V) (f_3 : Fl) (x_4 : Int) (e_6 : List V) (f_7 : Fl) (x_8 : Int) (nx : Int → List V → Option R) (x_5 : Int) (e_9 : List V) (k0 : List V → Option R) (k1 : List V → Option R) : Option R :=
 (match decide (x_5 < x_4) with
  | true => (if 0 ≤ x_5 then Zbu (nth e_2 x_5.toNat) fun e150 => Zax e150 fun n151 n152 n153 n154 n155 w156 e157 f158 => (match (n151 == 2) with
   | true => (if (0 : Int) ≤ x_5 ∧ x_5 < k_1 then (match nth e_9 (0 + x_5.toNat) with
    | some e159 => Zbv (e159.cells.drop 0) fun c160 l161 => asBool c160 fun b162 => (match (!b162) with
    | true => k0 (e_9.map (trimV 2))
    | false => nx (IntKind.i64.wrap (x_5 + 1)) (e_9.map (trimV 2)))
    | none => none) else none)
   | false => nx (IntKind.i64.wrap (x_5 + 1)) (e_9.map (trimV 2))) else none)
  | false => k1 (e_9.map (trimV 2)))
def ZgE {R : Type} (N : Nat) (k_1 : Nat) (e_2 : List V) (f_3 : Fl) (x_4 : Int) (e_6 : List V) (f_7 : Fl) (x_8 : Int) (k0 : List V → Option R) (k1 : List V → Option R) : Nat → Int → List V → Option R
 | 0, _, _ => none
 | n + 1, x_5, e_9 => ZdD N k_1 e_2 f_3 x_4 e_6 f_7 x_8 (fun x_5 e_9 => ZgE N k_1 e_2 f_3 x_4 e_6 f_7 x_8 k0 k1 n x_5 e_9) x_5 e_9 k0 k1
def ZqI {R : Type} (N : Nat) (e_1 : List V) (f_2 : Fl) (x_3 : Int) (k : Bool → Option R) : Option R :=
 ZiV N (e_1.length : Int) 1 40 fun b1 => (match (!b1) with
  | true => k false
  | false => ZK6 N x_3 fun b2 => (match (!b2) with
  | true => k false
  | false => Zbu (nth e_1 0) fun e3 => Zax e3 fun n4 n5 n6 n7 n8 w9 e10 f11 => (match (n4 != 2) with
   | true => k false
   | false => ZgB N e_1 f_2.noOwn (e_1.length : Int) e_1 f_2 x_3
     (fun (_ : Unit) => k false)
     (fun (_ : Unit) => ZFX N e_1 f_2.noOwn.noOwn.noOwn.noOwn x_3 fun x32 => (match decide (x32 > x_3) with
    | true => k false
    | false => ZGI N e_1 f_2.noOwn.noOwn x_3 fun e33 => Zgt N e33 e_1 f_2.noOwn (e_1.length : Int) e_1 f_2 x_3
      (fun (_ : Unit) => k false)
      (fun (_ : Unit) => (if 0 ≤ (e_1.length : Int) ∧ (e_1.length : Int) = (e_1.length : Int) ∧ (e_1.length : Int) * 1 ≤ 140737488355328 then Zfi N (((e_1.length : Int)).toNat) e_1 f_2 x_3
       (fun e136 => ZgE N (((e_1.length : Int)).toNat) e_1 f_2.noOwn (e_1.length : Int) e_1 f_2 x_3
       (fun e163 => k false)
       (fun e164 => k true)
       N 0 e136)
       N [.int .i64 0] 0 (List.replicate (((e_1.length : Int)).toNat) (.bool false)) else none))
      N 0))
     N 0)))
def ZHB := @ZaC _ @ZqI
theorem Zwb : @ZHB = @ZqI := @Zaj _ @ZqI
def Zp0 {R : Type} (N : Nat) (x_1 x_2 : Int) (k : Bool → Option R) : Option R :=
 ZA3 N x_1 fun b1 => (match b1 with
  | true => ZA3 N x_2 fun b2 => k b2
  | false => k false)
def ZJ4 := @ZaC _ @Zp0
theorem Zxy : @ZJ4 = @Zp0 := @Zaj _ @Zp0
def Zrm {R : Type} (N : Nat) (e_1 : List V) (f_2 : Fl) (x_3 x_4 x_5 : Int) (k : Bool → Option R) : Option R :=
 ZHB N e_1 f_2.noOwn.noOwn x_3 fun b1 => (match b1 with
  | true => ZJ4 N x_4 x_5 fun b2 => k b2
  | false => k false)
def ZIv := @ZaC _ @Zrm
theorem Zw1 : @ZIv = @Zrm := @Zaj _ @Zrm
def ZpM {R : Type} (N : Nat) (x_1 x_2 x_3 x_4 x_5 x_6 : Int) (k : Bool → Option R) : Option R :=
 (match (x_1 == 0) with
  | true => k true
  | false => (match (x_1 == x_4) with
  | true => k (IntKind.i64.wrap (BitVec.ofInt IntKind.i64.bits x_6 &&& ~~~(BitVec.ofInt IntKind.i64.bits (Int.fdiv x_3 (2 ^ (min (6 : Int).toNat 64))))).toNat == 0)
  | false => (match (x_2 == x_5) with
   | true => k (IntKind.i64.wrap (BitVec.ofInt IntKind.i64.bits x_6 &&& ~~~(BitVec.ofInt IntKind.i64.bits (IntKind.i64.wrap (BitVec.ofInt IntKind.i64.bits (Int.fdiv x_3 (2 ^ (min (3 : Int).toNat 64))) &&& BitVec.ofInt IntKind.i64.bits 7).toNat))).toNat == 0)
   | false => k (IntKind.i64.wrap (BitVec.ofInt IntKind.i64.bits x_6 &&& ~~~(BitVec.ofInt IntKind.i64.bits (IntKind.i64.wrap (BitVec.ofInt IntKind.i64.bits x_3 &&& BitVec.ofInt IntKind.i64.bits 7).toNat))).toNat == 0))))
def ZGr := @ZaC _ @ZpM
theorem Zxp : @ZGr = @ZpM := @Zaj _ @ZpM
def ZkZ {R : Type} (N : Nat) (e_1 : List V) (f_2 : Fl) (x_3 x_4 x_5 x_6 x_7 : Int) (k : Bool → Option R) : Option R :=
 (if 0 ≤ x_6 then Zbu (nth e_1 x_6.toNat) fun e1 => Zax e1 fun n2 n3 n4 n5 n6 w7 e8 f9 => ZGr N x_4 x_5 n3 n4 n5 x_7 fun b10 => k b10 else none)
def Zur := @ZaC _ @ZkZ
theorem Zkd : @Zur = @ZkZ := @Zaj _ @ZkZ
def ZqZ {R : Type} (N : Nat) (w_1 : ByteArray) (k : Bool → Option R) : Option R :=
 ZAD N w_1 fun b1 => (match b1 with
  | true => ZbP w_1 0 fun n2 => k (n2 == 47)
  | false => k false)
def ZDH := @ZaC _ @ZqZ
theorem ZvG : @ZDH = @ZqZ := @Zaj _ @ZqZ
def ZrK {R : Type} (N : Nat) (w_1 w_2 : ByteArray) (k : Bool → Option R) : Option R :=
 (match decide ((w_1.size : Int) ≥ (w_2.size : Int)) with
  | true => (if (0 : Int) ≤ IntKind.i64.wrap ((w_1.size : Int) - (w_2.size : Int)) ∧ IntKind.i64.wrap ((w_1.size : Int) - (w_2.size : Int)) ≤ (w_1.size : Int) then k ((ByteArray.extract w_1 ((IntKind.i64.wrap ((w_1.size : Int) - (w_2.size : Int))).toNat) w_1.size).toList == w_2.toList) else none)
  | false => k false)
def ZKy := @ZaC _ @ZrK
theorem Zwx : @ZKy = @ZrK := @Zaj _ @ZrK
def Zrj {R : Type} (N : Nat) (w_1 w_2 : ByteArray) (k : Bool → Option R) : Option R :=
 ZKy N w_1 w_2 fun b1 => k b1
def ZHv := @ZaC _ @Zrj
theorem ZxL : @ZHv = @Zrj := @Zaj _ @Zrj
def ZlO {R : Type} (N : Nat) (e_1 : List V) (f_2 : Fl) (x_3 x_4 : Int) (k : Bool → Option R) : Option R :=
 (if 0 ≤ x_4 then Zbu (nth e_1 x_4.toNat) fun e1 => Zax e1 fun n2 n3 n4 n5 n6 w7 e8 f9 => k (n2 == 2) else none)
def Zpf := @ZaC _ @ZlO
theorem ZnH : @Zpf = @ZlO := @Zaj _ @ZlO
def Zdz {R : Type} (N : Nat) (x_1 x_2 : Int) (e_3 : List V) (f_4 : Fl) (x_5 x_6 : Int) (e_7 : List V) (f_8 : Fl) (x_9 : Int) (e_11 : List V) (f_12 : Fl) (x_13 x_14 x_15 x_16 x_17 x_18 : Int) (w_19 : ByteArray) (e_20 : List V) (f_21 : Fl) (nx : Int → Option R) (x_10 : Int) (k0 : ByteArray → Option R) (k1 : Unit → Option R) : Option R :=
 (match decide (x_10 < x_9) with
  | true => (if 0 ≤ x_10 then Zbu (nth e_7 x_10.toNat) fun e13 => Za3 e13 fun w14 n15 => (match (n15 == x_1) with
   | true => k0 w14
   | false => nx (IntKind.i64.wrap (x_10 + 1))) else none)
  | false => k1 ())
def Zfo {R : Type} (N : Nat) (x_1 x_2 : Int) (e_3 : List V) (f_4 : Fl) (x_5 x_6 : Int) (e_7 : List V) (f_8 : Fl) (x_9 : Int) (e_11 : List V) (f_12 : Fl) (x_13 x_14 x_15 x_16 x_17 x_18 : Int) (w_19 : ByteArray) (e_20 : List V) (f_21 : Fl) (k0 : ByteArray → Option R) (k1 : Unit → Option R) : Nat → Int → Option R
 | 0, _ => none
 | n + 1, x_10 => Zdz N x_1 x_2 e_3 f_4 x_5 x_6 e_7 f_8 x_9 e_11 f_12 x_13 x_14 x_15 x_16 x_17 x_18 w_19 e_20 f_21 (fun x_10 => Zfo N x_1 x_2 e_3 f_4 x_5 x_6 e_7 f_8 x_9 e_11 f_12 x_13 x_14 x_15 x_16 x_17 x_18 w_19 e_20 f_21 k0 k1 n x_10) x_10 k0 k1
def ZdF {R : Type} (N : Nat) (x_1 : Int) (e_2 : List V) (f_3 : Fl) (x_4 : Int) (e_6 : List V) (f_7 : Fl) (x_8 : Int) (nx : Int → Option R) (x_5 : Int) (k0 : Int → ByteArray → Option R) (k1 : Unit → Option R) : Option R :=
 (match decide (x_5 < x_4) with
  | true => (if 0 ≤ x_5 then Zbu (nth e_2 x_5.toNat) fun e17 => Zax e17 fun n18 n19 n20 n21 n22 w23 e24 f25 => Zfo N x_1 x_5 e_2 f_3 x_4 x_5 e24 f25.noOwn.noOwn (e24.length : Int) e_6 f_7 x_8 n18 n19 n20 n21 n22 w23 e24 f25.noOwn
    (fun w26 => k0 x_5 w26)
    (fun (_ : Unit) => nx (IntKind.i64.wrap (x_5 + 1)))
    N 0 else none)
  | false => k1 ())
def ZgI {R : Type} (N : Nat) (x_1 : Int) (e_2 : List V) (f_3 : Fl) (x_4 : Int) (e_6 : List V) (f_7 : Fl) (x_8 : Int) (k0 : Int → ByteArray → Option R) (k1 : Unit → Option R) : Nat → Int → Option R
 | 0, _ => none
 | n + 1, x_5 => ZdF N x_1 e_2 f_3 x_4 e_6 f_7 x_8 (fun x_5 => ZgI N x_1 e_2 f_3 x_4 e_6 f_7 x_8 k0 k1 n x_5) x_5 k0 k1
def ZqP {R : Type} (N : Nat) (e_1 : List V) (f_2 : Fl) (x_3 x_4 : Int) (k : Int → ByteArray → Option R) : Option R :=
 ZgI N x_4 e_1 f_2.noOwn (e_1.length : Int) e_1 f_2 x_3
   (fun x27 w28 => k x27 w28)
   (fun (_ : Unit) => k 0 (ByteArray.mk #[]))
   N 0
def ZDd := @ZaC _ @ZqP
theorem Zyt : @ZDd = @ZqP := @Zaj _ @ZqP
def Zdf {R : Type} (N : Nat) (w_1 : ByteArray) (e_2 : List V) (f_3 : Fl) (x_4 : Int) (e_6 : List V) (f_7 : Fl) (x_8 : Int) (nx : Int → Option R) (x_5 : Int) (k0 : Int → Option R) (k1 : Unit → Option R) : Option R :=
 (match decide (x_5 < x_4) with
  | true => (if 0 ≤ x_5 then Zbu (nth e_2 x_5.toNat) fun e13 => Za3 e13 fun w14 n15 => (match (w14.toList == w_1.toList) with
   | true => k0 n15
   | false => nx (IntKind.i64.wrap (x_5 + 1))) else none)
  | false => k1 ())
def Zf5 {R : Type} (N : Nat) (w_1 : ByteArray) (e_2 : List V) (f_3 : Fl) (x_4 : Int) (e_6 : List V) (f_7 : Fl) (x_8 : Int) (k0 : Int → Option R) (k1 : Unit → Option R) : Nat → Int → Option R
 | 0, _ => none
 | n + 1, x_5 => Zdf N w_1 e_2 f_3 x_4 e_6 f_7 x_8 (fun x_5 => Zf5 N w_1 e_2 f_3 x_4 e_6 f_7 x_8 k0 k1 n x_5) x_5 k0 k1
def Zru {R : Type} (N : Nat) (e_1 : List V) (f_2 : Fl) (x_3 x_4 : Int) (w_5 : ByteArray) (k : Int → Option R) : Option R :=
 (if 0 ≤ x_4 then Zbu (nth e_1 x_4.toNat) fun e1 => Zax e1 fun n2 n3 n4 n5 n6 w7 e8 f9 => Zf5 N w_5 e8 f9.noOwn (e8.length : Int) e_1 f_2 x_3
    (fun x16 => k x16)
    (fun (_ : Unit) => k (-1))
    N 0 else none)
def ZER := @ZaC _ @Zru
theorem Zwv : @ZER = @Zru := @Zaj _ @Zru
def ZrJ {R : Type} (N : Nat) (x_1 : Int) (k : List V → Option R) : Option R :=
 (if 0 ≤ x_1 ∧ x_1 * (16 : Nat) ≤ 140737488355328 then k [] else none)
def ZKk := @ZaC _ @ZrJ
theorem Zvr : @ZKk = @ZrJ := @Zaj _ @ZrJ
def Zfk {R : Type} (N : Nat) (e_1 : List V) (f_2 : Fl) (e_4 : List V) (f_5 : Fl) (x_6 : Int) (nx : Int → Int → Option R) (x_3 x_7 : Int) (k0 : Int → Option R) : Option R :=
 (match decide (x_7 < x_6) with
  | true => (if 0 ≤ x_7 then Zbu (nth e_4 x_7.toNat) fun e4 => ZaV 1 e4 fun e5 f6 => (match decide (IntKind.i64.wrap (x_3 + (e5.length : Int)) < 0) with
   | true => none
   | false => nx (IntKind.i64.wrap (x_3 + (e5.length : Int))) (IntKind.i64.wrap (x_7 + 1))) else none)
  | false => k0 x_3)
def Zfr {R : Type} (N : Nat) (e_1 : List V) (f_2 : Fl) (e_4 : List V) (f_5 : Fl) (x_6 : Int) (k0 : Int → Option R) : Nat → Int → Int → Option R
 | 0, _, _ => none
 | n + 1, x_3, x_7 => Zfk N e_1 f_2 e_4 f_5 x_6 (fun x_3 x_7 => Zfr N e_1 f_2 e_4 f_5 x_6 k0 n x_3 x_7) x_3 x_7 k0
def Zfn {R : Type} (N : Nat) (e_2 : List V) (f_3 : Fl) (x_4 : Int) (nx : List V → Int → Option R) (e_1 : List V) (x_5 : Int) (k0 : List V → Option R) : Option R :=
 (match decide (x_5 < x_4) with
  | true => (if 0 ≤ x_5 then Zbu (nth e_2 x_5.toNat) fun e12 => ZaV 1 e12 fun e13 f14 => Zan (Zjl f14.noOwn.noOwn e13) ((if (e_1.length + (e13).length) * 16 ≤ 140737488355328 then nx (e_1 ++ (e13).map V.noOwn) (IntKind.i64.wrap (x_5 + 1)) else none)) else none)
  | false => k0 e_1)
def Zfp {R : Type} (N : Nat) (e_2 : List V) (f_3 : Fl) (x_4 : Int) (k0 : List V → Option R) : Nat → List V → Int → Option R
 | 0, _, _ => none
 | n + 1, e_1, x_5 => Zfn N e_2 f_3 x_4 (fun e_1 x_5 => Zfp N e_2 f_3 x_4 k0 n e_1 x_5) e_1 x_5 k0
def Zo7 {R : Type} (N : Nat) (e_1 : List V) (f_2 : Fl) (k : List V → Option R) : Option R :=
 Zfr N e_1 f_2 e_1 f_2.noOwn (e_1.length : Int)
   (fun x7 => ZKk N x7 fun e8 => Zfp N e_1 f_2.noOwn (e_1.length : Int)
    (fun e15 => k e15)
    N e8 0)
   N 0 0
def ZzB := @ZaC _ @Zo7
theorem Zxf : @ZzB = @Zo7 := @Zaj _ @Zo7
def Zeh {R : Type} (N : Nat) (b_1 b_2 : Bool) (e_6 : List V) (f_7 : Fl) (x_8 x_9 x_10 : Int) (nx : List V → Int → Int → Option R) (e_3 : List V) (x_4 x_5 : Int) (k0 : Int → Int → Option R) (k1 : Int → Option R) : Option R :=
 (match decide ((e_3.length : Int) > 0) with
  | true => Zbu (nth e_3 0) fun e29 => Zbd e29 fun w30 => (if (0 : Int) ≤ 1 ∧ 1 ≤ (e_3.length : Int) then Zpf N e_6 f_7.noOwn.noOwn x_8 x_4 fun b31 => (match (!b31) with
   | true => k0 3 x_4
   | false => Zur N e_6 f_7.noOwn.noOwn x_8 x_9 x_10 x_4 1 fun b32 => (match (!b32) with
   | true => k0 4 x_4
   | false => (match (w30.toList == (ByteArray.mk #[46]).toList) with
    | true => nx ((e_3.take e_3.length).drop 1) x_4 x_5
    | false => (match (w30.toList == (ByteArray.mk #[46, 46]).toList) with
    | true => ZDd N e_6 f_7.noOwn.noOwn x_8 x_4 fun x33 w34 => nx ((e_3.take e_3.length).drop 1) x33 x_5
    | false => ZER N e_6 f_7.noOwn.noOwn x_8 x_4 w30 fun x35 => (match decide (x35 < 0) with
     | true => k0 2 x_4
     | false => (if 0 ≤ x35 then Zbu (nth e_6 x35.toNat) fun e36 => Zax e36 fun n37 n38 n39 n40 n41 w42 e43 f44 => (match (n37 == 3) with
      | true => (match decide ((((e_3.take e_3.length).drop 1).length : Int) > 0) with
      | true => (match (x_5 == 8) with
       | true => k0 5 x_4
       | false => ZoB N w42 fun e45 => ZzB N [.list 1 e45 .sh, .list 1 ((e_3.take e_3.length).drop 1) .sh] .sh fun e46 => ZbP w42 0 fun n47 => (match (n47 == 47) with
       | true => nx e46 0 (IntKind.i64.wrap (x_5 + 1))
       | false => nx e46 x_4 (IntKind.i64.wrap (x_5 + 1))))
      | false => (match b_1 with
       | true => (match (x_5 == 8) with
       | true => k0 5 x_4
       | false => ZoB N w42 fun e48 => ZzB N [.list 1 e48 .sh, .list 1 ((e_3.take e_3.length).drop 1) .sh] .sh fun e49 => ZbP w42 0 fun n50 => (match (n50 == 47) with
        | true => nx e49 0 (IntKind.i64.wrap (x_5 + 1))
        | false => nx e49 x_4 (IntKind.i64.wrap (x_5 + 1))))
       | false => (match b_2 with
       | true => (match (x_5 == 8) with
        | true => k0 5 x_4
        | false => ZoB N w42 fun e51 => ZzB N [.list 1 e51 .sh, .list 1 ((e_3.take e_3.length).drop 1) .sh] .sh fun e52 => ZbP w42 0 fun n53 => (match (n53 == 47) with
        | true => nx e52 0 (IntKind.i64.wrap (x_5 + 1))
        | false => nx e52 x_4 (IntKind.i64.wrap (x_5 + 1))))
       | false => nx ((e_3.take e_3.length).drop 1) x35 x_5)))
      | false => nx ((e_3.take e_3.length).drop 1) x35 x_5) else none)))))) else none)
  | false => k1 x_4)
def ZeS {R : Type} (N : Nat) (b_1 b_2 : Bool) (e_6 : List V) (f_7 : Fl) (x_8 x_9 x_10 : Int) (k0 : Int → Int → Option R) (k1 : Int → Option R) : Nat → List V → Int → Int → Option R
 | 0, _, _, _ => none
 | n + 1, e_3, x_4, x_5 => Zeh N b_1 b_2 e_6 f_7 x_8 x_9 x_10 (fun e_3 x_4 x_5 => ZeS N b_1 b_2 e_6 f_7 x_8 x_9 x_10 k0 k1 n e_3 x_4 x_5) e_3 x_4 x_5 k0 k1
def ZoP {R : Type} (N : Nat) (e_1 : List V) (f_2 : Fl) (x_3 x_4 x_5 : Int) (w_6 : ByteArray) (b_7 : Bool) (k : Int → Int → Option R) : Option R :=
 ZDH N w_6 fun b1 => (match (!b1) with
  | true => k 0 1
  | false => ZHv N w_6 (ByteArray.mk #[47]) fun b2 => ZoB N w_6 fun e3 => ZeS N b_7 b2 e_1 f_2 x_3 x_4 x_5
    (fun x54 x55 => k 0 x54)
    (fun x56 => (match b2 with
   | true => Zpf N e_1 f_2.noOwn.noOwn x_3 x56 fun b57 => (match (!b57) with
   | true => k 0 3
   | false => k x56 0)
   | false => k x56 0))
    N e3 0 0)
def Zrn := @ZaC _ @ZoP
theorem Zvv : @Zrn = @ZoP := @Zaj _ @ZoP
def Zdx {R : Type} (N : Nat) (w_1 : ByteArray) (x_2 : Int) (nx : Int → Option R) (x_3 : Int) (k0 : Int → Option R) (k1 : Unit → Option R) : Option R :=
 (match decide (x_3 ≥ 0) with
  | true => ZbP w_1 x_3 fun n2 => (match (n2 == x_2) with
  | true => k0 x_3
  | false => nx (IntKind.i64.wrap (x_3 - 1)))
  | false => k1 ())
def Zgi {R : Type} (N : Nat) (w_1 : ByteArray) (x_2 : Int) (k0 : Int → Option R) (k1 : Unit → Option R) : Nat → Int → Option R
 | 0, _ => none
 | n + 1, x_3 => Zdx N w_1 x_2 (fun x_3 => Zgi N w_1 x_2 k0 k1 n x_3) x_3 k0 k1
def ZoI {R : Type} (N : Nat) (w_1 : ByteArray) (x_2 : Int) (k : Int → Option R) : Option R :=
 Zgi N w_1 x_2
   (fun x3 => k x3)
   (fun (_ : Unit) => k (-1))
   N (IntKind.i64.wrap ((w_1.size : Int) - 1))
def ZJ7 := @ZaC _ @ZoI
theorem Zxq : @ZJ7 = @ZoI := @Zaj _ @ZoI
def ZrR {R : Type} (N : Nat) (w_1 : ByteArray) (x_2 : Int) (k : Int → Option R) : Option R :=
 ZJ7 N w_1 x_2 fun x1 => k x1
def ZIT := @ZaC _ @ZrR
theorem Zwn : @ZIT = @ZrR := @Zaj _ @ZrR
def ZdA {R : Type} (N : Nat) (x_2 : Int) (nx : ByteArray → Option R) (w_1 : ByteArray) (k0 : ByteArray → Option R) : Option R :=
 (match decide ((w_1.size : Int) > 0) with
  | true => ZbP w_1 (IntKind.i64.wrap ((w_1.size : Int) - 1)) fun n2 => (match (n2 == x_2) with
  | true => (if (0 : Int) ≤ IntKind.i64.wrap ((w_1.size : Int) - 1) ∧ IntKind.i64.wrap ((w_1.size : Int) - 1) ≤ (w_1.size : Int) then nx (ByteArray.extract w_1 0 ((IntKind.i64.wrap ((w_1.size : Int) - 1)).toNat)) else none)
  | false => k0 w_1)
  | false => k0 w_1)
def Zgd {R : Type} (N : Nat) (x_2 : Int) (k0 : ByteArray → Option R) : Nat → ByteArray → Option R
 | 0, _ => none
 | n + 1, w_1 => ZdA N x_2 (fun w_1 => Zgd N x_2 k0 n w_1) w_1 k0
def ZqS {R : Type} (N : Nat) (w_1 : ByteArray) (x_2 : Int) (k : ByteArray → Option R) : Option R :=
 Zgd N x_2
   (fun w3 => k w3)
   N w_1
def ZJY := @ZaC _ @ZqS
theorem ZxR : @ZJY = @ZqS := @Zaj _ @ZqS
def Zx7 {R : Type} (N : Nat) (x_1 : Int) (k : Bool → Option R) : Option R :=
 k (IntKind.u8.wrap (BitVec.ofInt IntKind.u8.bits x_1 &&& BitVec.ofInt IntKind.u8.bits 192).toNat != 128)
def ZJ0 := @ZaC _ @Zx7
theorem ZHO : @ZJ0 = @Zx7 := @Zaj _ @Zx7
def Zfg {R : Type} (N : Nat) (w_1 : ByteArray) (x_2 x_4 : Int) (nx : Int → Option R) (x_3 : Int) (k0 : Int → Option R) : Option R :=
 (match decide (x_3 ≥ x_4) with
  | true => ZbP w_1 x_3 fun n4 => ZJ0 N n4 fun b5 => (match b5 with
  | true => k0 x_3
  | false => nx (IntKind.i64.wrap (x_3 - 1)))
  | false => k0 x_3)
def Znj {R : Type} (N : Nat) (w_1 : ByteArray) (x_2 x_4 : Int) (k0 : Int → Option R) : Nat → Int → Option R
 | 0, _ => none
 | n + 1, x_3 => Zfg N w_1 x_2 x_4 (fun x_3 => Znj N w_1 x_2 x_4 k0 n x_3) x_3 k0
def Zxr {R : Type} (N : Nat) (w_1 : ByteArray) (k : Int → Int → Option R) : Option R :=
 (match ((w_1.size : Int) == 0) with
  | true => k 65533 0
  | false => ZbP w_1 (IntKind.i64.wrap ((w_1.size : Int) - 1)) fun n1 => (match decide (IntKind.i32.wrap n1 < 128) with
  | true => k (IntKind.i32.wrap n1) 1
  | false => Znj N w_1 (w_1.size : Int) (if IntKind.i64.wrap ((w_1.size : Int) - 4) < 0 then 0 else IntKind.i64.wrap ((w_1.size : Int) - 4))
    (fun x6 => (match decide (x6 < 0) with
   | true => (if (0 : Int) ≤ (w_1.size : Int) ∧ (w_1.size : Int) ≤ (w_1.size : Int) then (if (0 : Int) ≤ 0 ∧ 0 ≤ (((w_1.size : Int)).toNat : Int) then none else none) else none)
   | false => (if (0 : Int) ≤ (w_1.size : Int) ∧ (w_1.size : Int) ≤ (w_1.size : Int) then (if (0 : Int) ≤ x6 ∧ x6 ≤ (((w_1.size : Int)).toNat : Int) then none else none) else none)))
    N (IntKind.i64.wrap (IntKind.i64.wrap ((w_1.size : Int) - 1) - 1))))
def ZMc := @ZaC _ @Zxr
theorem ZHX : @ZMc = @Zxr := @Zaj _ @Zxr
def Zyx {R : Type} (N : Nat) (w_1 : ByteArray) (x_2 : Int) (k : Int → Option R) : Option R :=
 ZEx N w_1 x_2 fun x1 => k x1
def ZNz := @ZaC _ @Zyx
theorem ZIk : @ZNz = @Zyx := @Zaj _ @Zyx
def ZxS {R : Type} (N : Nat) (x_1 : Int) (k : Bool → Option R) : Option R :=
 (match decide (0 ≤ x_1) with
  | true => (match decide (x_1 < 55296) with
  | true => k true
  | false => (match decide (57343 < x_1) with
   | true => (match decide (x_1 ≤ 1114111) with
   | true => k true
   | false => k false)
   | false => k false))
  | false => (match decide (57343 < x_1) with
  | true => (match decide (x_1 ≤ 1114111) with
   | true => k true
   | false => k false)
  | false => k false))
def ZNj := @ZaC _ @ZxS
theorem ZGV : @ZNj = @ZxS := @Zaj _ @ZxS
def ZoY {R : Type} (N : Nat) (w_1 w_2 : ByteArray) (k : ByteArray → Option R) : Option R :=
 (match (w_1.toList == (ByteArray.mk #[]).toList) with
  | true => k w_1
  | false => (match (w_2.toList == (ByteArray.mk #[]).toList) with
  | true => k w_1
  | false => (match ((w_2.size : Int) == 1) with
   | true => ZbP w_2 0 fun n1 => (match decide (n1 < 128) with
   | true => ZbP w_2 0 fun n2 => ZJY N w_1 n2 fun w3 => k w3
   | false => none)
   | false => none)))
def ZGj := @ZaC _ @ZoY
theorem Zwc : @ZGj = @ZoY := @Zaj _ @ZoY
def ZoO {R : Type} (N : Nat) (e_1 : List V) (f_2 : Fl) (x_3 x_4 x_5 : Int) (w_6 : ByteArray) (k : Int → ByteArray → Int → Option R) : Option R :=
 ZIT N w_6 47 fun x1 => ZDH N w_6 fun b2 => (match (!b2) with
  | true => k 0 (ByteArray.mk #[]) 1
  | false => (if (0 : Int) ≤ IntKind.i64.wrap (x1 + 1) ∧ IntKind.i64.wrap (x1 + 1) ≤ (w_6.size : Int) then ZD4 N (ByteArray.extract w_6 ((IntKind.i64.wrap (x1 + 1)).toNat) w_6.size) fun b3 => (match (!b3) with
   | true => k 0 (ByteArray.mk #[]) 1
   | false => (if (0 : Int) ≤ x1 ∧ x1 ≤ (w_6.size : Int) then ZGj N (ByteArray.extract w_6 0 ((x1 : Int).toNat)) (ByteArray.mk #[47]) fun w4 => (match (w4.toList == (ByteArray.mk #[]).toList) with
    | true => Zrn N e_1 f_2.noOwn.noOwn x_3 x_4 x_5 (ByteArray.mk #[47]) true fun x5 x6 => (match (x6 != 0) with
    | true => k 0 (ByteArray.mk #[]) x6
    | false => Zpf N e_1 f_2.noOwn.noOwn x_3 x5 fun b7 => (match (!b7) with
     | true => k 0 (ByteArray.mk #[]) 3
     | false => Zur N e_1 f_2.noOwn.noOwn x_3 x_4 x_5 x5 1 fun b8 => (match (!b8) with
     | true => k 0 (ByteArray.mk #[]) 4
     | false => (if (0 : Int) ≤ IntKind.i64.wrap (x1 + 1) ∧ IntKind.i64.wrap (x1 + 1) ≤ (w_6.size : Int) then k x5 (ByteArray.extract w_6 ((IntKind.i64.wrap (x1 + 1)).toNat) w_6.size) 0 else none))))
    | false => Zrn N e_1 f_2.noOwn.noOwn x_3 x_4 x_5 w4 true fun x9 x10 => (match (x10 != 0) with
    | true => k 0 (ByteArray.mk #[]) x10
    | false => Zpf N e_1 f_2.noOwn.noOwn x_3 x9 fun b11 => (match (!b11) with
     | true => k 0 (ByteArray.mk #[]) 3
     | false => Zur N e_1 f_2.noOwn.noOwn x_3 x_4 x_5 x9 1 fun b12 => (match (!b12) with
     | true => k 0 (ByteArray.mk #[]) 4
     | false => (if (0 : Int) ≤ IntKind.i64.wrap (x1 + 1) ∧ IntKind.i64.wrap (x1 + 1) ≤ (w_6.size : Int) then k x9 (ByteArray.extract w_6 ((IntKind.i64.wrap (x1 + 1)).toNat) w_6.size) 0 else none))))) else none)) else none))
def ZFw := @ZaC _ @ZoO
theorem Zyj : @ZFw = @ZoO := @Zaj _ @ZoO
def ZoK {R : Type} (N : Nat) (e_1 : List V) (f_2 : Fl) (x_3 x_4 x_5 x_6 : Int) (k : Bool → Option R) : Option R :=
 Zur N e_1 f_2.noOwn.noOwn x_3 x_4 x_5 x_6 3 fun b1 => k b1
def ZJS := @ZaC _ @ZoK
theorem Zyv : @ZJS = @ZoK := @Zaj _ @ZoK
def Zea {R : Type} (N : Nat) (x_2 : Int) (e_3 : List V) (f_4 : Fl) (x_5 : Int) (nx : Int → Option R) (x_1 : Int) (k0 : Int → Option R) : Option R :=
 (match (x_1 != x_2) with
  | true => (match (x_1 != 0) with
  | true => ZDd N e_3 f_4.noOwn.noOwn x_5 x_1 fun x3 w4 => nx x3
  | false => k0 x_1)
  | false => k0 x_1)
def ZiO {R : Type} (N : Nat) (x_2 : Int) (e_3 : List V) (f_4 : Fl) (x_5 : Int) (k0 : Int → Option R) : Nat → Int → Option R
 | 0, _ => none
 | n + 1, x_1 => Zea N x_2 e_3 f_4 x_5 (fun x_1 => ZiO N x_2 e_3 f_4 x_5 k0 n x_1) x_1 k0
def ZpL {R : Type} (N : Nat) (x_1 x_2 : Int) (e_3 : List V) (f_4 : Fl) (x_5 : Int) (k : Bool → List V → Fl → Int → Option R) : Option R :=
 ZiO N x_2 e_3 f_4 x_5
   (fun x5 => k (x5 == x_2) e_3 f_4 x_5)
   N x_1
def ZHG := @ZaC _ @ZpL
theorem ZvX : @ZHG = @ZpL := @Zaj _ @ZpL
def ZpK {R : Type} (N : Nat) (x_1 x_2 : Int) (w_3 w_4 : ByteArray) (e_5 : List V) (f_6 : Fl) (x_7 : Int) (k : Int → ByteArray → List V → Fl → Int → Option R) : Option R :=
 Zrn N e_5 f_6.noOwn.noOwn.noOwn.noOwn x_7 x_1 x_2 w_3 false fun x1 x2 => (match (x2 != 0) with
  | true => k x2 w_3 e_5 f_6 x_7
  | false => ZFw N e_5 f_6.noOwn.noOwn.noOwn.noOwn x_7 x_1 x_2 w_4 fun x3 w4 x5 => (match (x5 != 0) with
  | true => k x5 w_4 e_5 f_6 x_7
  | false => ZER N e_5 f_6.noOwn.noOwn x_7 x3 w4 fun x6 => (match decide (x6 ≥ 0) with
   | true => k 6 w_4 e_5 f_6 x_7
   | false => ZJS N e_5 f_6.noOwn.noOwn.noOwn.noOwn x_7 x_1 x_2 x3 fun b7 => (match (!b7) with
   | true => k 4 w_4 e_5 f_6 x_7
   | false => Zpf N e_5 f_6.noOwn.noOwn x_7 x1 fun b8 => (match b8 with
    | true => ZHG N x3 x1 e_5 f_6 x_7 fun b9 e10 f11 x12 => (match b9 with
    | true => k 1 w_4 e10 f11 x12
    | false => k 0 (ByteArray.mk #[]) e10 f11 x12)
    | false => k 0 (ByteArray.mk #[]) e_5 f_6 x_7)))))
def ZHj := @ZaC _ @ZpK
theorem ZvW : @ZHj = @ZpK := @Zaj _ @ZpK
def ZoR {R : Type} (N : Nat) (w_1 : ByteArray) (x_2 : Int) (k : ByteArray → Int → Option R) : Option R :=
 (match (w_1.toList == (ByteArray.mk #[]).toList) with
  | true => k (ByteArray.mk #[46]) x_2
  | false => k w_1 x_2)
def ZC8 := @ZaC _ @ZoR
theorem ZwK : @ZC8 = @ZoR := @Zaj _ @ZoR
def Zra {R : Type} (N : Nat) (e_1 : List V) (f_2 : Fl) (x_3 x_4 x_5 : Int) (w_6 w_7 : ByteArray) (k : Int → ByteArray → Bool → Option R) : Option R :=
 ZIv N e_1 f_2.noOwn.noOwn x_3 x_4 x_5 fun b1 => (match (!b1) with
  | true => k 0 (ByteArray.mk #[]) false
  | false => ZHj N x_4 x_5 w_6 w_7 e_1 f_2 x_3 fun x2 w3 e4 f5 x6 => (match (x2 != 0) with
  | true => ZC8 N w3 x2 fun w7 x8 => k x2 w7 true
  | false => k x2 w3 true))
def ZK4 := @ZaC _ @Zra
theorem ZwU : @ZK4 = @Zra := @Zaj _ @Zra
def ZlN {R : Type} (N : Nat) (e_1 : List V) (f_2 : Fl) (x_3 x_4 x_5 : Int) (w_6 w_7 : ByteArray) (k : Bool → Option R) : Option R :=
 (match decide ((w_6.size : Int) > 1048576) with
  | true => k true
  | false => (match decide ((w_7.size : Int) > 1048576) with
  | true => k true
  | false => ZH0 N e_1 f_2.noOwn.noOwn x_3 1048576 fun x1 => (match decide (x1 < 0) with
   | true => k true
   | false => ZAQ N e_1 f_2.noOwn.noOwn.noOwn.noOwn x_3 fun e2 x3 => ZDY N x_4 x_5 fun x4 x5 => ZJP N e2 .sh x3 x4 x5 w_6 w_7 fun x6 w7 b8 => ZAQ N e_1 f_2.noOwn.noOwn x_3 fun e9 x10 => ZDY N x_4 x_5 fun x11 x12 => ZK4 N e9 .sh x10 x11 x12 w_6 w_7 fun x13 w14 b15 => (match (x13 != x6) with
   | true => k false
   | false => (match (!(w14.toList == w7.toList)) with
    | true => k false
    | false => (match (!(b15 == b8)) with
    | true => k false
    | false => ZAQ N e_1 f_2.noOwn.noOwn.noOwn.noOwn x_3 fun e16 x17 => ZIQ N e9 .sh x10 e16 .sh x17 fun b18 => (match (!b18) with
     | true => k false
     | false => k true)))))))
def ZM6 := @ZaC _ @ZlN
theorem ZGU : @ZM6 = @ZlN := @Zaj _ @ZlN
end
end Go.VM.VL
