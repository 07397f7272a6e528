/- The functions of the program, told plainly: what each computes, as a function of its letters; and that the machine does the same. Printed by vgen.py, a program of this session's own. -/
import Derived.Test.YteekbhpdalbofaaGreatDoorVmZb
import Derived.Test.YteekbhpdalbofaaGreatDoorVmZl
import Derived.Test.YteekbhpdalbofaaGreatDoorVmZn
set_option linter.unusedVariables false
namespace Go.VM.VL
noncomputable section
def Zel {R : Type} (e : V) (k : List V → Fl → Int → Option R) : Option R :=
 asAgg e fun cs => Zbs cs fun v0 l0 => ZaQ 7 v0 fun e_0 f_0 => Zbs l0 fun v1 l1 => asInt .i64 v1 fun x_1 => ZiU l1 (k e_0 f_0 x_1)
theorem ZdL {R : Type} {e : V} {k : List V → Fl → Int → Option R} {r : R} (h : Zel e k = some r) : ∃ e_0 f_0 x_1, e = .agg [.list 7 e_0 f_0, .int .i64 x_1] ∧ k e_0 f_0 x_1 = some r := by
 unfold Zel at h
 obtain ⟨_, rfl, h⟩ := ZaB h
 obtain ⟨_, _, rfl, h1⟩ := ZaF h
 obtain ⟨_, _, rfl, h2⟩ := Zaj h1
 obtain ⟨_, _, rfl, h3⟩ := ZaF h2
 obtain ⟨_, rfl, h4⟩ := Zaf h3
 obtain ⟨rfl, h5⟩ := ZbY h4
 exact ⟨_, _, _, rfl, h5⟩
def Zd7 {R : Type} (e : V) (k : Int → Int → Option R) : Option R :=
 asAgg e fun cs => Zbs cs fun v0 l0 => asInt .i64 v0 fun x_0 => Zbs l0 fun v1 l1 => asInt .i64 v1 fun x_1 => ZiU l1 (k x_0 x_1)
theorem Zei {R : Type} {e : V} {k : Int → Int → Option R} {r : R} (h : Zd7 e k = some r) : ∃ x_0 x_1, e = .agg [.int .i64 x_0, .int .i64 x_1] ∧ k x_0 x_1 = some r := by
 unfold Zd7 at h
 obtain ⟨_, rfl, h⟩ := ZaB h
 obtain ⟨_, _, rfl, h1⟩ := ZaF h
 obtain ⟨_, rfl, h2⟩ := Zaf h1
 obtain ⟨_, _, rfl, h3⟩ := ZaF h2
 obtain ⟨_, rfl, h4⟩ := Zaf h3
 obtain ⟨rfl, h5⟩ := ZbY h4
 exact ⟨_, _, rfl, h5⟩
def ZaU {R : Type} (e : V) (k : List V → Fl → Int → Option R) : Option R :=
 asAgg e fun cs => Zbs cs fun v0 l0 => ZaQ 7 v0 fun e_0 f_0 => Zbs l0 fun v1 l1 => asInt .i64 v1 fun x_1 => ZiU l1 (k e_0 f_0 x_1)
theorem Zau {R : Type} {e : V} {k : List V → Fl → Int → Option R} {r : R} (h : ZaU e k = some r) : ∃ e_0 f_0 x_1, e = .agg [.list 7 e_0 f_0, .int .i64 x_1] ∧ k e_0 f_0 x_1 = some r := by
 unfold ZaU at h
 obtain ⟨_, rfl, h⟩ := ZaB h
 obtain ⟨_, _, rfl, h1⟩ := ZaF h
 obtain ⟨_, _, rfl, h2⟩ := Zaj h1
 obtain ⟨_, _, rfl, h3⟩ := ZaF h2
 obtain ⟨_, rfl, h4⟩ := Zaf h3
 obtain ⟨rfl, h5⟩ := ZbY h4
 exact ⟨_, _, _, rfl, h5⟩
def Zbk {R : Type} (e : V) (k : Int → Int → Option R) : Option R :=
 asAgg e fun cs => Zbs cs fun v0 l0 => asInt .i64 v0 fun x_0 => Zbs l0 fun v1 l1 => asInt .i64 v1 fun x_1 => ZiU l1 (k x_0 x_1)
theorem ZaY {R : Type} {e : V} {k : Int → Int → Option R} {r : R} (h : Zbk e k = some r) : ∃ x_0 x_1, e = .agg [.int .i64 x_0, .int .i64 x_1] ∧ k x_0 x_1 = some r := by
 unfold Zbk at h
 obtain ⟨_, rfl, h⟩ := ZaB h
 obtain ⟨_, _, rfl, h1⟩ := ZaF h
 obtain ⟨_, rfl, h2⟩ := Zaf h1
 obtain ⟨_, _, rfl, h3⟩ := ZaF h2
 obtain ⟨_, rfl, h4⟩ := Zaf h3
 obtain ⟨rfl, h5⟩ := ZbY h4
 exact ⟨_, _, rfl, h5⟩
def Zaw {R : Type} (e : V) (k : Int → Int → Int → Int → Int → ByteArray → List V → Fl → Option R) : Option R :=
 asAgg e fun cs => Zbs cs fun v0 l0 => asInt .i64 v0 fun x_0 => Zbs l0 fun v1 l1 => asInt .i64 v1 fun x_1 => Zbs l1 fun v2 l2 => asInt .i64 v2 fun x_2 => Zbs l2 fun v3 l3 => asInt .i64 v3 fun x_3 => Zbs l3 fun v4 l4 => asInt .i64 v4 fun x_4 => Zbs l4 fun v5 l5 => Zbt v5 fun w_5 => Zbs l5 fun v6 l6 => ZaQ 2 v6 fun e_6 f_6 => ZiU l6 (k x_0 x_1 x_2 x_3 x_4 w_5 e_6 f_6)
theorem ZbZ {R : Type} {e : V} {k : Int → Int → Int → Int → Int → ByteArray → List V → Fl → Option R} {r : R} (h : Zaw e k = some r) : ∃ x_0 x_1 x_2 x_3 x_4 w_5 e_6 f_6, e = .agg [.int .i64 x_0, .int .i64 x_1, .int .i64 x_2, .int .i64 x_3, .int .i64 x_4, .str w_5, .list 2 e_6 f_6] ∧ k x_0 x_1 x_2 x_3 x_4 w_5 e_6 f_6 = some r := by
 unfold Zaw at h
 obtain ⟨_, rfl, h⟩ := ZaB h
 obtain ⟨_, _, rfl, h1⟩ := ZaF h
 obtain ⟨_, rfl, h2⟩ := Zaf h1
 obtain ⟨_, _, rfl, h3⟩ := ZaF h2
 obtain ⟨_, rfl, h4⟩ := Zaf h3
 obtain ⟨_, _, rfl, h5⟩ := ZaF h4
 obtain ⟨_, rfl, h6⟩ := Zaf h5
 obtain ⟨_, _, rfl, h7⟩ := ZaF h6
 obtain ⟨_, rfl, h8⟩ := Zaf h7
 obtain ⟨_, _, rfl, h9⟩ := ZaF h8
 obtain ⟨_, rfl, h10⟩ := Zaf h9
 obtain ⟨_, _, rfl, h11⟩ := ZaF h10
 obtain ⟨_, rfl, h12⟩ := Zav h11
 obtain ⟨_, _, rfl, h13⟩ := ZaF h12
 obtain ⟨_, _, rfl, h14⟩ := Zaj h13
 obtain ⟨rfl, h15⟩ := ZbY h14
 exact ⟨_, _, _, _, _, _, _, _, rfl, h15⟩
def ZaZ {R : Type} (e : V) (k : ByteArray → Int → Option R) : Option R :=
 asAgg e fun cs => Zbs cs fun v0 l0 => Zbt v0 fun w_0 => Zbs l0 fun v1 l1 => asInt .i64 v1 fun x_1 => ZiU l1 (k w_0 x_1)
theorem Zd3 {R : Type} {e : V} {k : ByteArray → Int → Option R} {r : R} (h : ZaZ e k = some r) : ∃ w_0 x_1, e = .agg [.str w_0, .int .i64 x_1] ∧ k w_0 x_1 = some r := by
 unfold ZaZ at h
 obtain ⟨_, rfl, h⟩ := ZaB h
 obtain ⟨_, _, rfl, h1⟩ := ZaF h
 obtain ⟨_, rfl, h2⟩ := Zav h1
 obtain ⟨_, _, rfl, h3⟩ := ZaF h2
 obtain ⟨_, rfl, h4⟩ := Zaf h3
 obtain ⟨rfl, h5⟩ := ZbY h4
 exact ⟨_, _, rfl, h5⟩
def Zck {R : Type} (e : V) (k : Int → Int → Int → Int → Int → ByteArray → List V → Fl → Option R) : Option R :=
 asAgg e fun cs => Zbs cs fun v0 l0 => asInt .i64 v0 fun x_0 => Zbs l0 fun v1 l1 => asInt .i64 v1 fun x_1 => Zbs l1 fun v2 l2 => asInt .i64 v2 fun x_2 => Zbs l2 fun v3 l3 => asInt .i64 v3 fun x_3 => Zbs l3 fun v4 l4 => asInt .i64 v4 fun x_4 => Zbs l4 fun v5 l5 => Zbt v5 fun w_5 => Zbs l5 fun v6 l6 => ZaQ 2 v6 fun e_6 f_6 => ZiU l6 (k x_0 x_1 x_2 x_3 x_4 w_5 e_6 f_6)
theorem Zem {R : Type} {e : V} {k : Int → Int → Int → Int → Int → ByteArray → List V → Fl → Option R} {r : R} (h : Zck e k = some r) : ∃ x_0 x_1 x_2 x_3 x_4 w_5 e_6 f_6, e = .agg [.int .i64 x_0, .int .i64 x_1, .int .i64 x_2, .int .i64 x_3, .int .i64 x_4, .str w_5, .list 2 e_6 f_6] ∧ k x_0 x_1 x_2 x_3 x_4 w_5 e_6 f_6 = some r := by
 unfold Zck at h
 obtain ⟨_, rfl, h⟩ := ZaB h
 obtain ⟨_, _, rfl, h1⟩ := ZaF h
 obtain ⟨_, rfl, h2⟩ := Zaf h1
 obtain ⟨_, _, rfl, h3⟩ := ZaF h2
 obtain ⟨_, rfl, h4⟩ := Zaf h3
 obtain ⟨_, _, rfl, h5⟩ := ZaF h4
 obtain ⟨_, rfl, h6⟩ := Zaf h5
 obtain ⟨_, _, rfl, h7⟩ := ZaF h6
 obtain ⟨_, rfl, h8⟩ := Zaf h7
 obtain ⟨_, _, rfl, h9⟩ := ZaF h8
 obtain ⟨_, rfl, h10⟩ := Zaf h9
 obtain ⟨_, _, rfl, h11⟩ := ZaF h10
 obtain ⟨_, rfl, h12⟩ := Zav h11
 obtain ⟨_, _, rfl, h13⟩ := ZaF h12
 obtain ⟨_, _, rfl, h14⟩ := Zaj h13
 obtain ⟨rfl, h15⟩ := ZbY h14
 exact ⟨_, _, _, _, _, _, _, _, rfl, h15⟩
def Zgt {R : Type} (e : V) (k : List V → Fl → Int → Int → Int → Int → List V → Fl → Int → Option R) : Option R :=
 asAgg e fun cs => Zbs cs fun v0 l0 => ZaQ 7 v0 fun e_0 f_0 => Zbs l0 fun v1 l1 => asInt .i64 v1 fun x_1 => Zbs l1 fun v2 l2 => asInt .i64 v2 fun x_2 => Zbs l2 fun v3 l3 => asInt .i64 v3 fun x_3 => Zbs l3 fun v4 l4 => asInt .i64 v4 fun x_4 => Zbs l4 fun v5 l5 => ZaQ 1 v5 fun e_5 f_5 => Zbs l5 fun v6 l6 => asInt .i64 v6 fun x_6 => ZiU l6 (k e_0 f_0 x_1 x_2 x_3 x_4 e_5 f_5 x_6)
theorem ZiQ {R : Type} {e : V} {k : List V → Fl → Int → Int → Int → Int → List V → Fl → Int → Option R} {r : R} (h : Zgt e k = some r) : ∃ e_0 f_0 x_1 x_2 x_3 x_4 e_5 f_5 x_6, e = .agg [.list 7 e_0 f_0, .int .i64 x_1, .int .i64 x_2, .int .i64 x_3, .int .i64 x_4, .list 1 e_5 f_5, .int .i64 x_6] ∧ k e_0 f_0 x_1 x_2 x_3 x_4 e_5 f_5 x_6 = some r := by
 unfold Zgt at h
 obtain ⟨_, rfl, h⟩ := ZaB h
 obtain ⟨_, _, rfl, h1⟩ := ZaF h
 obtain ⟨_, _, rfl, h2⟩ := Zaj h1
 obtain ⟨_, _, rfl, h3⟩ := ZaF h2
 obtain ⟨_, rfl, h4⟩ := Zaf h3
 obtain ⟨_, _, rfl, h5⟩ := ZaF h4
 obtain ⟨_, rfl, h6⟩ := Zaf h5
 obtain ⟨_, _, rfl, h7⟩ := ZaF h6
 obtain ⟨_, rfl, h8⟩ := Zaf h7
 obtain ⟨_, _, rfl, h9⟩ := ZaF h8
 obtain ⟨_, rfl, h10⟩ := Zaf h9
 obtain ⟨_, _, rfl, h11⟩ := ZaF h10
 obtain ⟨_, _, rfl, h12⟩ := Zaj h11
 obtain ⟨_, _, rfl, h13⟩ := ZaF h12
 obtain ⟨_, rfl, h14⟩ := Zaf h13
 obtain ⟨rfl, h15⟩ := ZbY h14
 exact ⟨_, _, _, _, _, _, _, _, _, rfl, h15⟩
def Zca {R : Type} (e : V) (k : ByteArray → Int → Option R) : Option R :=
 asAgg e fun cs => Zbs cs fun v0 l0 => Zbt v0 fun w_0 => Zbs l0 fun v1 l1 => asInt .i64 v1 fun x_1 => ZiU l1 (k w_0 x_1)
theorem Zd0 {R : Type} {e : V} {k : ByteArray → Int → Option R} {r : R} (h : Zca e k = some r) : ∃ w_0 x_1, e = .agg [.str w_0, .int .i64 x_1] ∧ k w_0 x_1 = some r := by
 unfold Zca at h
 obtain ⟨_, rfl, h⟩ := ZaB h
 obtain ⟨_, _, rfl, h1⟩ := ZaF h
 obtain ⟨_, rfl, h2⟩ := Zav h1
 obtain ⟨_, _, rfl, h3⟩ := ZaF h2
 obtain ⟨_, rfl, h4⟩ := Zaf h3
 obtain ⟨rfl, h5⟩ := ZbY h4
 exact ⟨_, _, rfl, h5⟩
def Zn4 {R : Type} (N : Nat) (w_1 : ByteArray) (x_2 x_3 : Int) (k : Int → Option R) : Option R :=
 (match decide (IntKind.i64.wrap (x_3 - (w_1.size : Int)) < 0) with
  | true => k (-1)
  | false => k (IntKind.i64.wrap (x_3 - (w_1.size : Int))))
def ZFs := @ZaE _ @Zn4
theorem Zuu : @ZFs = @Zn4 := @Zak _ @Zn4
def ZcY {R : Type} (N : Nat) (e_1 : List V) (f_2 : Fl) (nx : Int → Int → Option R) (x_3 x_4 : Int) (k0 : Int → Option R) (k1 : Int → Option R) : Option R :=
 (match decide (x_4 < (e_1.length : Int)) with
  | true => (if 0 ≤ x_4 then Zbq (nth e_1 x_4.toNat) fun e5 => Zca e5 fun w6 n7 => ZFs N w6 n7 x_3 fun x8 => (match decide (x8 < 0) with
   | true => k0 x8
   | false => nx x8 (IntKind.i64.wrap (x_4 + 1))) else none)
  | false => k1 x_3)
def ZeO {R : Type} (N : Nat) (e_1 : List V) (f_2 : Fl) (k0 : Int → Option R) (k1 : Int → Option R) : Nat → Int → Int → Option R
 | 0, _, _ => none
 | n + 1, x_3, x_4 => ZcY N e_1 f_2 (fun x_3 x_4 => ZeO N e_1 f_2 k0 k1 n x_3 x_4) x_3 x_4 k0 k1
def Zp3 {R : Type} (N : Nat) (e_1 : List V) (f_2 : Fl) (x_3 : Int) (k : Int → Option R) : Option R :=
 (match decide (IntKind.i64.wrap (x_3 - (e_1.length : Int)) < 0) with
  | true => k (-1)
  | false => ZeO N e_1 f_2
    (fun x9 => k (-1))
    (fun x10 => k x10)
    N (IntKind.i64.wrap (x_3 - (e_1.length : Int))) 0)
def ZE1 := @ZaE _ @Zp3
theorem ZtX : @ZE1 = @Zp3 := @Zak _ @Zp3
def ZqD {R : Type} (N : Nat) (x_1 x_2 x_3 x_4 x_5 : Int) (w_6 : ByteArray) (e_7 : List V) (f_8 : Fl) (x_9 : Int) (k : Int → Option R) : Option R :=
 (match decide (IntKind.i64.wrap (x_9 - (w_6.size : Int)) < 0) with
  | true => k (-1)
  | false => ZE1 N e_7 f_8.noOwn.noOwn (IntKind.i64.wrap (x_9 - (w_6.size : Int))) fun x1 => (match decide (x1 < 0) with
  | true => k (-1)
  | false => k x1))
def ZGk := @ZaE _ @ZqD
theorem Zuz : @ZGk = @ZqD := @Zak _ @ZqD
def Zdd {R : Type} (N : Nat) (e_1 : List V) (f_2 : Fl) (nx : Int → Int → Option R) (x_3 x_4 : Int) (k0 : Int → Option R) (k1 : Int → Option R) : Option R :=
 (match decide (x_4 < (e_1.length : Int)) with
  | true => (if 0 ≤ x_4 then Zbq (nth e_1 x_4.toNat) fun e11 => Zck e11 fun n12 n13 n14 n15 n16 w17 e18 f19 => ZGk N n12 n13 n14 n15 n16 w17 e18 f19.noOwn.noOwn x_3 fun x20 => (match decide (x20 < 0) with
   | true => k0 x20
   | false => nx x20 (IntKind.i64.wrap (x_4 + 1))) else none)
  | false => k1 x_3)
def ZeU {R : Type} (N : Nat) (e_1 : List V) (f_2 : Fl) (k0 : Int → Option R) (k1 : Int → Option R) : Nat → Int → Int → Option R
 | 0, _, _ => none
 | n + 1, x_3, x_4 => Zdd N e_1 f_2 (fun x_3 x_4 => ZeU N e_1 f_2 k0 k1 n x_3 x_4) x_3 x_4 k0 k1
def Zo5 {R : Type} (N : Nat) (e_1 : List V) (f_2 : Fl) (x_3 : Int) (k : Int → Option R) : Option R :=
 (match decide (IntKind.i64.wrap (x_3 - (e_1.length : Int)) < 0) with
  | true => k (-1)
  | false => ZeU N e_1 f_2
    (fun x21 => k (-1))
    (fun x22 => k x22)
    N (IntKind.i64.wrap (x_3 - (e_1.length : Int))) 0)
def ZDD := @ZaE _ @Zo5
theorem ZuD : @ZDD = @Zo5 := @Zak _ @Zo5
def Zqn {R : Type} (N : Nat) (e_1 : List V) (f_2 : Fl) (x_3 x_4 : Int) (k : Int → Option R) : Option R :=
 ZDD N e_1 f_2.noOwn.noOwn x_4 fun x1 => (match decide (x1 < 0) with
  | true => k (-1)
  | false => k x1)
def ZFP := @ZaE _ @Zqn
theorem Zwp : @ZFP = @Zqn := @Zak _ @Zqn
def Zvy {R : Type} (N : Nat) (w_1 : ByteArray) (x_2 : Int) (k : ByteArray → Int → Option R) : Option R :=
 k w_1 x_2
def ZFe := @ZaE _ @Zvy
theorem Zvo : @ZFe = @Zvy := @Zak _ @Zvy
def ZcR {R : Type} (N : Nat) (e_1 : List V) (f_2 : Fl) (k_3 : Nat) (nx : Int → List V → Option R) (x_4 : Int) (e_5 : List V) (k0 : List V → Option R) : Option R :=
 (match decide (x_4 < (e_1.length : Int)) with
  | true => (if 0 ≤ x_4 then Zbq (nth e_1 x_4.toNat) fun e8 => Zca e8 fun w9 n10 => ZFe N w9 n10 fun w11 x12 => (if (0 : Int) ≤ x_4 ∧ x_4 < k_3 then (match nth e_5 (0 + x_4.toNat) with
   | some e13 => (match putCells e13 0 [.str w11, .int .i64 x12] with
    | some e14 => nx (IntKind.i64.wrap (x_4 + 1)) (Za3 e_5 (0 + x_4.toNat) e14)
    | none => none)
   | none => none) else none) else none)
  | false => k0 e_5)
def Zfm {R : Type} (N : Nat) (e_1 : List V) (f_2 : Fl) (k_3 : Nat) (k0 : List V → Option R) : Nat → Int → List V → Option R
 | 0, _, _ => none
 | n + 1, x_4, e_5 => ZcR N e_1 f_2 k_3 (fun x_4 e_5 => Zfm N e_1 f_2 k_3 k0 n x_4 e_5) x_4 e_5 k0
def ZnJ {R : Type} (N : Nat) (e_1 : List V) (f_2 : Fl) (k : List V → Option R) : Option R :=
 (if 0 ≤ (e_1.length : Int) ∧ (e_1.length : Int) = (e_1.length : Int) ∧ (e_1.length : Int) * 24 ≤ 140737488355328 then Zfm N e_1 f_2 (((e_1.length : Int)).toNat)
    (fun e15 => (match Zbl (Zbh false [some ⟨e15, 2, 89, 0⟩] 11) ((e15.drop 0).take (((e_1.length : Int)).toNat)) with
   | some e16 => Zao (decide (0 + ((e_1.length : Int)).toNat ≤ e15.length)) (Zao (e16.all V.plain) (k e16))
   | none => none))
    N 0 (List.replicate (((e_1.length : Int)).toNat) (.agg [.str (ByteArray.mk #[]), .int .i64 0])) else none)
def ZFE := @ZaE _ @ZnJ
theorem Zt0 : @ZFE = @ZnJ := @Zak _ @ZnJ
def ZoF {R : Type} (N : Nat) (x_1 x_2 x_3 x_4 x_5 : Int) (w_6 : ByteArray) (e_7 : List V) (f_8 : Fl) (k : Int → Int → Int → Int → Int → ByteArray → List V → Option R) : Option R :=
 ZFE N e_7 f_8.noOwn.noOwn fun e1 => k x_1 x_2 x_3 x_4 x_5 w_6 e1
def ZGr := @ZaE _ @ZoF
theorem ZwO : @ZGr = @ZoF := @Zak _ @ZoF
def Zdi {R : Type} (N : Nat) (e_1 : List V) (f_2 : Fl) (k_3 : Nat) (nx : Int → List V → Option R) (x_4 : Int) (e_5 : List V) (k0 : List V → Option R) : Option R :=
 (match decide (x_4 < (e_1.length : Int)) with
  | true => (if 0 ≤ x_4 then Zbq (nth e_1 x_4.toNat) fun e19 => Zck e19 fun n20 n21 n22 n23 n24 w25 e26 f27 => ZGr N n20 n21 n22 n23 n24 w25 e26 f27.noOwn.noOwn fun x28 x29 x30 x31 x32 w33 e34 => (if (0 : Int) ≤ x_4 ∧ x_4 < k_3 then (match nth e_5 (0 + x_4.toNat) with
   | some e35 => (match putCells e35 0 [.int .i64 x28, .int .i64 x29, .int .i64 x30, .int .i64 x31, .int .i64 x32, .str w33, .list 2 e34 .sh] with
    | some e36 => nx (IntKind.i64.wrap (x_4 + 1)) (Za3 e_5 (0 + x_4.toNat) e36)
    | none => none)
   | none => none) else none) else none)
  | false => k0 e_5)
def Ze7 {R : Type} (N : Nat) (e_1 : List V) (f_2 : Fl) (k_3 : Nat) (k0 : List V → Option R) : Nat → Int → List V → Option R
 | 0, _, _ => none
 | n + 1, x_4, e_5 => Zdi N e_1 f_2 k_3 (fun x_4 e_5 => Ze7 N e_1 f_2 k_3 k0 n x_4 e_5) x_4 e_5 k0
def Zqc {R : Type} (N : Nat) (e_1 : List V) (f_2 : Fl) (k : List V → Option R) : Option R :=
 (if 0 ≤ (e_1.length : Int) ∧ (e_1.length : Int) = (e_1.length : Int) ∧ (e_1.length : Int) * 80 ≤ 140737488355328 then Ze7 N e_1 f_2 (((e_1.length : Int)).toNat)
    (fun e37 => (match Zbl (Zbh false [some ⟨e37, 7, 87, 0⟩] 11) ((e37.drop 0).take (((e_1.length : Int)).toNat)) with
   | some e38 => Zao (decide (0 + ((e_1.length : Int)).toNat ≤ e37.length)) (Zao (e38.all V.plain) (k e38))
   | none => none))
    N 0 (List.replicate (((e_1.length : Int)).toNat) (.agg [.int .i64 0, .int .i64 0, .int .i64 0, .int .i64 0, .int .i64 0, .str (ByteArray.mk #[]), .list 2 [] (.own 89)])) else none)
def ZGv := @ZaE _ @Zqc
theorem ZuJ : @ZGv = @Zqc := @Zak _ @Zqc
def ZpF {R : Type} (N : Nat) (e_1 : List V) (f_2 : Fl) (x_3 : Int) (k : List V → Int → Option R) : Option R :=
 ZGv N e_1 f_2.noOwn.noOwn fun e1 => k e1 x_3
def ZyS := @ZaE _ @ZpF
theorem ZwK : @ZyS = @ZpF := @Zak _ @ZpF
def Zur {R : Type} (N : Nat) (x_1 x_2 : Int) (k : Int → Int → Option R) : Option R :=
 k x_1 x_2
def ZDc := @ZaE _ @Zur
theorem ZuT : @ZDc = @Zur := @Zak _ @Zur
def Zqp {R : Type} (N : Nat) (w_1 : ByteArray) (x_2 : Int) (w_3 : ByteArray) (x_4 : Int) (k : Bool → Option R) : Option R :=
 (match (!(w_1.toList == w_3.toList)) with
  | true => k false
  | false => (match (x_2 != x_4) with
  | true => k false
  | false => k true))
def ZD7 := @ZaE _ @Zqp
theorem Zv4 : @ZD7 = @Zqp := @Zak _ @Zqp
def Zc5 {R : Type} (N : Nat) (e_1 : List V) (f_2 : Fl) (e_3 : List V) (f_4 : Fl) (nx : Int → Option R) (x_5 : Int) (k0 : Unit → Option R) (k1 : Unit → Option R) : Option R :=
 (match decide (x_5 < (e_1.length : Int)) with
  | true => (if 0 ≤ x_5 then Zbq (nth e_1 x_5.toNat) fun e8 => ZaZ e8 fun w9 n10 => (if 0 ≤ x_5 then Zbq (nth e_3 x_5.toNat) fun e11 => ZaZ e11 fun w12 n13 => ZD7 N w9 n10 w12 n13 fun b14 => (match (!b14) with
   | true => k0 ()
   | false => nx (IntKind.i64.wrap (x_5 + 1))) else none) else none)
  | false => k1 ())
def ZfX {R : Type} (N : Nat) (e_1 : List V) (f_2 : Fl) (e_3 : List V) (f_4 : Fl) (k0 : Unit → Option R) (k1 : Unit → Option R) : Nat → Int → Option R
 | 0, _ => none
 | n + 1, x_5 => Zc5 N e_1 f_2 e_3 f_4 (fun x_5 => ZfX N e_1 f_2 e_3 f_4 k0 k1 n x_5) x_5 k0 k1
def Zqw {R : Type} (N : Nat) (e_1 : List V) (f_2 : Fl) (e_3 : List V) (f_4 : Fl) (k : Bool → Option R) : Option R :=
 (match ((e_1.length : Int) != (e_3.length : Int)) with
  | true => k false
  | false => ZfX N e_1 f_2 e_3 f_4
    (fun (_ : Unit) => k false)
    (fun (_ : Unit) => k true)
    N 0)
def ZD4 := @ZaE _ @Zqw
theorem Zt8 : @ZD4 = @Zqw := @Zak _ @Zqw
def ZpU {R : Type} (N : Nat) (x_1 x_2 x_3 x_4 x_5 : Int) (w_6 : ByteArray) (e_7 : List V) (f_8 : Fl) (x_9 x_10 x_11 x_12 x_13 : Int) (w_14 : ByteArray) (e_15 : List V) (f_16 : Fl) (k : Bool → Option R) : Option R :=
 (match (x_1 != x_9) with
  | true => k false
  | false => (match (x_2 != x_10) with
  | true => k false
  | false => (match (x_3 != x_11) with
   | true => k false
   | false => (match (x_4 != x_12) with
   | true => k false
   | false => (match (x_5 != x_13) with
    | true => k false
    | false => (match (!(w_6.toList == w_14.toList)) with
    | true => k false
    | false => ZD4 N e_7 f_8.noOwn.noOwn e_15 f_16.noOwn.noOwn fun b1 => (match (!b1) with
     | true => k false
     | false => k true)))))))
def ZF4 := @ZaE _ @ZpU
theorem Zuy : @ZF4 = @ZpU := @Zak _ @ZpU
def ZcU {R : Type} (N : Nat) (e_1 : List V) (f_2 : Fl) (e_3 : List V) (f_4 : Fl) (nx : Int → Option R) (x_5 : Int) (k0 : Unit → Option R) (k1 : Unit → Option R) : Option R :=
 (match decide (x_5 < (e_1.length : Int)) with
  | true => (if 0 ≤ x_5 then Zbq (nth e_1 x_5.toNat) fun e20 => Zaw e20 fun n21 n22 n23 n24 n25 w26 e27 f28 => (if 0 ≤ x_5 then Zbq (nth e_3 x_5.toNat) fun e29 => Zaw e29 fun n30 n31 n32 n33 n34 w35 e36 f37 => ZF4 N n21 n22 n23 n24 n25 w26 e27 f28.noOwn.noOwn.noOwn.noOwn n30 n31 n32 n33 n34 w35 e36 f37.noOwn.noOwn.noOwn.noOwn fun b38 => (match (!b38) with
   | true => k0 ()
   | false => nx (IntKind.i64.wrap (x_5 + 1))) else none) else none)
  | false => k1 ())
def ZfW {R : Type} (N : Nat) (e_1 : List V) (f_2 : Fl) (e_3 : List V) (f_4 : Fl) (k0 : Unit → Option R) (k1 : Unit → Option R) : Nat → Int → Option R
 | 0, _ => none
 | n + 1, x_5 => ZcU N e_1 f_2 e_3 f_4 (fun x_5 => ZfW N e_1 f_2 e_3 f_4 k0 k1 n x_5) x_5 k0 k1
def ZpO {R : Type} (N : Nat) (e_1 : List V) (f_2 : Fl) (e_3 : List V) (f_4 : Fl) (k : Bool → Option R) : Option R :=
 (match ((e_1.length : Int) != (e_3.length : Int)) with
  | true => k false
  | false => ZfW N e_1 f_2 e_3 f_4
    (fun (_ : Unit) => k false)
    (fun (_ : Unit) => k true)
    N 0)
def ZEA := @ZaE _ @ZpO
theorem Zwg : @ZEA = @ZpO := @Zak _ @ZpO
def Zql {R : Type} (N : Nat) (e_1 : List V) (f_2 : Fl) (x_3 : Int) (e_4 : List V) (f_5 : Fl) (x_6 : Int) (k : Bool → Option R) : Option R :=
 ZEA N e_1 f_2.noOwn.noOwn e_4 f_5.noOwn.noOwn fun b1 => (match (!b1) with
  | true => k false
  | false => (match (x_3 != x_6) with
  | true => k false
  | false => k true))
def ZF3 := @ZaE _ @Zql
theorem Zvt : @ZF3 = @Zql := @Zak _ @Zql
def Zdt {R : Type} (N : Nat) (x_1 : Int) (e_2 : List V) (f_3 : Fl) (x_4 : Int) (nx : Int → Option R) (x_5 : Int) (k0 : Unit → Option R) (k1 : Unit → Option R) : Option R :=
 (match decide (x_5 < x_4) with
  | true => (if 0 ≤ x_5 then Zbq (nth e_2 x_5.toNat) fun e3 => asInt .i64 e3 fun n4 => (match (n4 == x_1) with
   | true => k0 ()
   | false => nx (IntKind.i64.wrap (x_5 + 1))) else none)
  | false => k1 ())
def Zf3 {R : Type} (N : Nat) (x_1 : Int) (e_2 : List V) (f_3 : Fl) (x_4 : Int) (k0 : Unit → Option R) (k1 : Unit → Option R) : Nat → Int → Option R
 | 0, _ => none
 | n + 1, x_5 => Zdt N x_1 e_2 f_3 x_4 (fun x_5 => Zf3 N x_1 e_2 f_3 x_4 k0 k1 n x_5) x_5 k0 k1
def ZpX {R : Type} (N : Nat) (e_1 : List V) (f_2 : Fl) (x_3 : Int) (k : Bool → Option R) : Option R :=
 Zf3 N x_3 e_1 f_2.noOwn (e_1.length : Int)
   (fun (_ : Unit) => k true)
   (fun (_ : Unit) => k false)
   N 0
def Zkz := @ZaE _ @ZpX
theorem ZwE : @Zkz = @ZpX := @Zak _ @ZpX
def Zo9 {R : Type} (N : Nat) (x_1 x_2 x_3 : Int) (k : Bool → Option R) : Option R :=
 (match decide (x_1 ≥ x_2) with
  | true => k (decide (x_1 ≤ x_3))
  | false => k false)
def Zgi := @ZaE _ @Zo9
theorem Zuk : @Zgi = @Zo9 := @Zak _ @Zo9
def Zc1 {R : Type} (N : Nat) (e_2 : List V) (f_3 : Fl) (x_4 : Int) (e_6 : List V) (f_7 : Fl) (x_8 : Int) (nx : Int → Int → Option R) (x_1 x_5 : Int) (k0 : Int → Option R) : Option R :=
 (match decide (x_5 < x_4) with
  | true => (if 0 ≤ x_5 then Zbq (nth e_2 x_5.toNat) fun e10 => Zaw e10 fun n11 n12 n13 n14 n15 w16 e17 f18 => nx (IntKind.i64.wrap (x_1 + (w16.size : Int))) (IntKind.i64.wrap (x_5 + 1)) else none)
  | false => k0 x_1)
def ZfR {R : Type} (N : Nat) (e_2 : List V) (f_3 : Fl) (x_4 : Int) (e_6 : List V) (f_7 : Fl) (x_8 : Int) (k0 : Int → Option R) : Nat → Int → Int → Option R
 | 0, _, _ => none
 | n + 1, x_1, x_5 => Zc1 N e_2 f_3 x_4 e_6 f_7 x_8 (fun x_1 x_5 => ZfR N e_2 f_3 x_4 e_6 f_7 x_8 k0 n x_1 x_5) x_1 x_5 k0
def ZpL {R : Type} (N : Nat) (e_1 : List V) (f_2 : Fl) (x_3 : Int) (k : Int → Option R) : Option R :=
 ZfR N e_1 f_2.noOwn (e_1.length : Int) e_1 f_2 x_3
   (fun x19 => k x19)
   N 0 0
def ZFV := @ZaE _ @ZpL
theorem Zvi : @ZFV = @ZpL := @Zak _ @ZpL
def Zpw {R : Type} (N : Nat) (x_1 : Int) (k : Bool → Option R) : Option R :=
 Zgi N x_1 0 511 fun b1 => k b1
def ZIu := @ZaE _ @Zpw
theorem ZuB : @ZIu = @Zpw := @Zak _ @Zpw
def ZcP {R : Type} (N : Nat) (w_1 : ByteArray) (x_2 : Int) (nx : List V → Int → Int → Option R) (e_3 : List V) (x_4 x_5 : Int) (k0 : List V → Int → Option R) : Option R :=
 (match decide (x_5 < (w_1.size : Int)) with
  | true => ZcE w_1 x_5 fun n2 => (match (n2 == x_2) with
  | true => (if (0 : Int) ≤ x_5 ∧ x_5 ≤ (w_1.size : Int) then (if (0 : Int) ≤ x_4 ∧ x_4 ≤ ((x_5 : Int).toNat : Int) then (if (e_3.length + 1) * 16 ≤ 140737488355328 then nx (e_3 ++ ([.str (ByteArray.extract w_1 ((x_4 : Int).toNat) ((x_5 : Int).toNat))] : List V)) (IntKind.i64.wrap (x_5 + 1)) (IntKind.i64.wrap (x_5 + 1)) else none) else none) else none)
  | false => nx e_3 x_4 (IntKind.i64.wrap (x_5 + 1)))
  | false => k0 e_3 x_4)
def Zf7 {R : Type} (N : Nat) (w_1 : ByteArray) (x_2 : Int) (k0 : List V → Int → Option R) : Nat → List V → Int → Int → Option R
 | 0, _, _, _ => none
 | n + 1, e_3, x_4, x_5 => ZcP N w_1 x_2 (fun e_3 x_4 x_5 => Zf7 N w_1 x_2 k0 n e_3 x_4 x_5) e_3 x_4 x_5 k0
def Zqi {R : Type} (N : Nat) (w_1 : ByteArray) (x_2 : Int) (k : List V → Option R) : Option R :=
 Zf7 N w_1 x_2
   (fun e3 x4 => (if (0 : Int) ≤ x4 ∧ x4 ≤ (w_1.size : Int) then (if (e3.length + 1) * 16 ≤ 140737488355328 then k (e3 ++ ([.str (ByteArray.extract w_1 ((x4 : Int).toNat) w_1.size)] : List V)) else none) else none))
   N [] 0 0
def ZDC := @ZaE _ @Zqi
theorem Zt5 : @ZDC = @Zqi := @Zak _ @Zqi
def Zdj {R : Type} (N : Nat) (e_2 : List V) (x_3 : Int) (nx : List V → Int → Option R) (e_1 : List V) (x_4 : Int) (k0 : List V → Option R) : Option R :=
 (match decide (x_4 < x_3) with
  | true => (if 0 ≤ x_4 then Zbq (nth e_2 x_4.toNat) fun e4 => Zbt e4 fun w5 => (match (!(w5.toList == (ByteArray.mk #[]).toList)) with
   | true => (if (e_1.length + 1) * 16 ≤ 140737488355328 then nx (e_1 ++ ([.str w5] : List V)) (IntKind.i64.wrap (x_4 + 1)) else none)
   | false => nx e_1 (IntKind.i64.wrap (x_4 + 1))) else none)
  | false => k0 e_1)
def Zgl {R : Type} (N : Nat) (e_2 : List V) (x_3 : Int) (k0 : List V → Option R) : Nat → List V → Int → Option R
 | 0, _, _ => none
 | n + 1, e_1, x_4 => Zdj N e_2 x_3 (fun e_1 x_4 => Zgl N e_2 x_3 k0 n e_1 x_4) e_1 x_4 k0
def ZnC {R : Type} (N : Nat) (w_1 : ByteArray) (k : List V → Option R) : Option R :=
 ZDC N w_1 47 fun e1 => Zgl N e1 (e1.length : Int)
   (fun e6 => k e6)
   N [] 0
def ZpS := @ZaE _ @ZnC
theorem Zvh : @ZpS = @ZnC := @Zak _ @ZnC
def ZcZ {R : Type} (N : Nat) (w_1 : ByteArray) (nx : Int → Option R) (x_2 : Int) (k0 : Unit → Option R) (k1 : Unit → Option R) : Option R :=
 (match decide (x_2 < (w_1.size : Int)) with
  | true => ZcE w_1 x_2 fun n2 => (match decide (n2 < 97) with
  | true => (match decide (n2 < 48) with
   | true => (match (n2 != 46) with
   | true => (match (n2 != 95) with
    | true => (match (n2 != 45) with
    | true => k0 ()
    | false => nx (IntKind.i64.wrap (x_2 + 1)))
    | false => nx (IntKind.i64.wrap (x_2 + 1)))
   | false => nx (IntKind.i64.wrap (x_2 + 1)))
   | false => (match decide (n2 > 57) with
   | true => (match (n2 != 46) with
    | true => (match (n2 != 95) with
    | true => (match (n2 != 45) with
     | true => k0 ()
     | false => nx (IntKind.i64.wrap (x_2 + 1)))
    | false => nx (IntKind.i64.wrap (x_2 + 1)))
    | false => nx (IntKind.i64.wrap (x_2 + 1)))
   | false => nx (IntKind.i64.wrap (x_2 + 1))))
  | false => (match decide (n2 > 122) with
   | true => (match decide (n2 < 48) with
   | true => (match (n2 != 46) with
    | true => (match (n2 != 95) with
    | true => (match (n2 != 45) with
     | true => k0 ()
     | false => nx (IntKind.i64.wrap (x_2 + 1)))
    | false => nx (IntKind.i64.wrap (x_2 + 1)))
    | false => nx (IntKind.i64.wrap (x_2 + 1)))
   | false => (match decide (n2 > 57) with
    | true => (match (n2 != 46) with
    | true => (match (n2 != 95) with
     | true => (match (n2 != 45) with
     | true => k0 ()
     | false => nx (IntKind.i64.wrap (x_2 + 1)))
     | false => nx (IntKind.i64.wrap (x_2 + 1)))
    | false => nx (IntKind.i64.wrap (x_2 + 1)))
    | false => nx (IntKind.i64.wrap (x_2 + 1))))
   | false => nx (IntKind.i64.wrap (x_2 + 1))))
  | false => k1 ())
def Ze3 {R : Type} (N : Nat) (w_1 : ByteArray) (k0 : Unit → Option R) (k1 : Unit → Option R) : Nat → Int → Option R
 | 0, _ => none
 | n + 1, x_2 => ZcZ N w_1 (fun x_2 => Ze3 N w_1 k0 k1 n x_2) x_2 k0 k1
def Zp5 {R : Type} (N : Nat) (w_1 : ByteArray) (k : Bool → Option R) : Option R :=
 Ze3 N w_1
   (fun (_ : Unit) => k false)
   (fun (_ : Unit) => Zgi N (w_1.size : Int) 1 8 fun b3 => (match b3 with
  | true => (match (!(w_1.toList == (ByteArray.mk #[46]).toList)) with
   | true => k (!(w_1.toList == (ByteArray.mk #[46, 46]).toList))
   | false => k false)
  | false => k false))
   N 0
def Zz8 := @ZaE _ @Zp5
theorem Zun : @Zz8 = @Zp5 := @Zak _ @Zp5
def Zc4 {R : Type} (N : Nat) (w_1 : ByteArray) (e_2 : List V) (x_3 : Int) (nx : Int → Option R) (x_4 : Int) (k0 : Unit → Option R) (k1 : Unit → Option R) : Option R :=
 (match decide (x_4 < x_3) with
  | true => (if 0 ≤ x_4 then Zbq (nth e_2 x_4.toNat) fun e5 => Zbt e5 fun w6 => Zz8 N w6 fun b7 => (match (!b7) with
   | true => (match (!(w6.toList == (ByteArray.mk #[46]).toList)) with
   | true => (match (!(w6.toList == (ByteArray.mk #[46, 46]).toList)) with
    | true => k0 ()
    | false => nx (IntKind.i64.wrap (x_4 + 1)))
   | false => nx (IntKind.i64.wrap (x_4 + 1)))
   | false => nx (IntKind.i64.wrap (x_4 + 1))) else none)
  | false => k1 ())
def ZfZ {R : Type} (N : Nat) (w_1 : ByteArray) (e_2 : List V) (x_3 : Int) (k0 : Unit → Option R) (k1 : Unit → Option R) : Nat → Int → Option R
 | 0, _ => none
 | n + 1, x_4 => Zc4 N w_1 e_2 x_3 (fun x_4 => ZfZ N w_1 e_2 x_3 k0 k1 n x_4) x_4 k0 k1
def Zpc {R : Type} (N : Nat) (w_1 : ByteArray) (k : Bool → Option R) : Option R :=
 ZpS N w_1 fun e1 => ZfZ N w_1 e1 (e1.length : Int)
   (fun (_ : Unit) => k false)
   (fun (_ : Unit) => Zgi N (w_1.size : Int) 1 60 fun b8 => k b8)
   N 0
def ZC4 := @ZaE _ @Zpc
theorem ZwL : @ZC4 = @Zpc := @Zak _ @Zpc
def Zdp {R : Type} (N : Nat) (e_1 : List V) (f_2 : Fl) (e_3 : List V) (f_4 : Fl) (x_5 : Int) (e_7 : List V) (f_8 : Fl) (x_9 : Int) (nx : Int → Option R) (x_6 : Int) (k0 : Unit → Option R) (k1 : Unit → Option R) : Option R :=
 (match decide (x_6 < x_5) with
  | true => (if 0 ≤ x_6 then Zbq (nth e_3 x_6.toNat) fun e28 => ZaZ e28 fun w29 n30 => Zz8 N w29 fun b31 => (match (!b31) with
   | true => k0 ()
   | false => (match decide (x_6 > 0) with
   | true => (if 0 ≤ IntKind.i64.wrap (x_6 - 1) then Zbq (nth e_1 ((IntKind.i64.wrap (x_6 - 1)).toNat)) fun e32 => ZaZ e32 fun w33 n34 => (match (!Op.bytesLess w33.toList w29.toList) with
    | true => k0 ()
    | false => Zgi N n30 1 (IntKind.i64.wrap ((e_7.length : Int) - 1)) fun b35 => (match (!b35) with
     | true => k0 ()
     | false => (if 0 ≤ n30 then Zbq (nth e_7 n30.toNat) fun e36 => Zaw e36 fun n37 n38 n39 n40 n41 w42 e43 f44 => (match (n37 == 0) with
      | true => k0 ()
      | false => nx (IntKind.i64.wrap (x_6 + 1))) else none))) else none)
   | false => Zgi N n30 1 (IntKind.i64.wrap ((e_7.length : Int) - 1)) fun b45 => (match (!b45) with
    | true => k0 ()
    | false => (if 0 ≤ n30 then Zbq (nth e_7 n30.toNat) fun e46 => Zaw e46 fun n47 n48 n49 n50 n51 w52 e53 f54 => (match (n47 == 0) with
     | true => k0 ()
     | false => nx (IntKind.i64.wrap (x_6 + 1))) else none)))) else none)
  | false => k1 ())
def Zgv {R : Type} (N : Nat) (e_1 : List V) (f_2 : Fl) (e_3 : List V) (f_4 : Fl) (x_5 : Int) (e_7 : List V) (f_8 : Fl) (x_9 : Int) (k0 : Unit → Option R) (k1 : Unit → Option R) : Nat → Int → Option R
 | 0, _ => none
 | n + 1, x_6 => Zdp N e_1 f_2 e_3 f_4 x_5 e_7 f_8 x_9 (fun x_6 => Zgv N e_1 f_2 e_3 f_4 x_5 e_7 f_8 x_9 k0 k1 n x_6) x_6 k0 k1
def Zpi {R : Type} (N : Nat) (e_1 : List V) (f_2 : Fl) (x_3 : Int) (e_4 : List V) (f_5 : Fl) (k : Bool → Option R) : Option R :=
 Zgv N e_4 f_5 e_4 f_5.noOwn (e_4.length : Int) e_1 f_2 x_3
   (fun (_ : Unit) => k false)
   (fun (_ : Unit) => k true)
   N 0
def ZEM := @ZaE _ @Zpi
theorem ZvV : @ZEM = @Zpi := @Zak _ @Zpi
def Zpt {R : Type} (N : Nat) (e_1 : List V) (f_2 : Fl) (x_3 x_4 x_5 x_6 x_7 x_8 : Int) (w_9 : ByteArray) (e_10 : List V) (f_11 : Fl) (k : Bool → Option R) : Option R :=
 (match (x_4 == 0) with
  | true => (match (x_5 == 0) with
  | true => (match (x_6 == 0) with
   | true => (match (x_7 == 0) with
   | true => (match (x_8 == 0) with
    | true => (match (w_9.toList == (ByteArray.mk #[]).toList) with
    | true => k ((e_10.length : Int) == 0)
    | false => k false)
    | false => k false)
   | false => k false)
   | false => k false)
  | false => k false)
  | false => ZIu N x_5 fun b1 => (match (!b1) with
  | true => k false
  | false => Zgi N x_6 0 99 fun b2 => (match (!b2) with
   | true => k false
   | false => Zgi N x_7 0 99 fun b3 => (match (!b3) with
   | true => k false
   | false => Zgi N x_8 0 1000000 fun b4 => (match (!b4) with
    | true => k false
    | false => (match (x_4 == 1) with
    | true => (match decide ((w_9.size : Int) ≤ 60) with
     | true => k ((e_10.length : Int) == 0)
     | false => k false)
    | false => (match (x_4 == 2) with
     | true => (match (w_9.toList == (ByteArray.mk #[]).toList) with
     | true => ZEM N e_1 f_2.noOwn.noOwn x_3 e_10 f_11.noOwn.noOwn fun b5 => k b5
     | false => k false)
     | false => (match (x_4 == 3) with
     | true => ZC4 N w_9 fun b6 => (match b6 with
      | true => k ((e_10.length : Int) == 0)
      | false => k false)
     | false => k false))))))))
def ZGd := @ZaE _ @Zpt
theorem Zt9 : @ZGd = @Zpt := @Zak _ @Zpt
def Zdn {R : Type} (N : Nat) (e_1 : List V) (f_2 : Fl) (x_3 : Int) (nx : Int → Option R) (x_4 : Int) (k0 : Int → Option R) : Option R :=
 (match decide (x_4 < (e_1.length : Int)) with
  | true => (if 0 ≤ x_4 then Zbq (nth e_1 x_4.toNat) fun e3 => asInt .i64 e3 fun n4 => (match decide (n4 < x_3) with
   | true => nx (IntKind.i64.wrap (x_4 + 1))
   | false => k0 x_4) else none)
  | false => k0 x_4)
def Zgr {R : Type} (N : Nat) (e_1 : List V) (f_2 : Fl) (x_3 : Int) (k0 : Int → Option R) : Nat → Int → Option R
 | 0, _ => none
 | n + 1, x_4 => Zdn N e_1 f_2 x_3 (fun x_4 => Zgr N e_1 f_2 x_3 k0 n x_4) x_4 k0
def ZpP {R : Type} (N : Nat) (e_1 : List V) (f_2 : Fl) (x_3 : Int) (k : List V → Option R) : Option R :=
 Zgr N e_1 f_2 x_3
   (fun x5 => (match decide (x5 < (e_1.length : Int)) with
  | true => (if 0 ≤ x5 then Zbq (nth e_1 x5.toNat) fun e6 => asInt .i64 e6 fun n7 => (match (n7 == x_3) with
   | true => ZCd f_2 (k e_1)
   | false => (if (0 : Int) ≤ x5 ∧ x5 ≤ (e_1.length : Int) then Zao (ZiP f_2.noOwn.noOwn ((e_1.take ((x5 : Int).toNat)).drop 0)) ((if (0 + (((e_1.take ((x5 : Int).toNat)).drop 0)).length) * 8 ≤ 140737488355328 then (if ((([] : List V) ++ (((e_1.take ((x5 : Int).toNat)).drop 0)).map V.noOwn).length + 1) * 8 ≤ 140737488355328 then (if (0 : Int) ≤ x5 ∧ x5 ≤ (e_1.length : Int) then Zao (ZiP f_2.noOwn.noOwn ((e_1.take e_1.length).drop ((x5 : Int).toNat))) ((if (((([] : List V) ++ (((e_1.take ((x5 : Int).toNat)).drop 0)).map V.noOwn) ++ ([.int .i64 x_3] : List V)).length + (((e_1.take e_1.length).drop ((x5 : Int).toNat))).length) * 8 ≤ 140737488355328 then k (((([] : List V) ++ (((e_1.take ((x5 : Int).toNat)).drop 0)).map V.noOwn) ++ ([.int .i64 x_3] : List V)) ++ (((e_1.take e_1.length).drop ((x5 : Int).toNat))).map V.noOwn) else none)) else none) else none) else none)) else none)) else none)
  | false => (if (0 : Int) ≤ x5 ∧ x5 ≤ (e_1.length : Int) then Zao (ZiP f_2.noOwn.noOwn ((e_1.take ((x5 : Int).toNat)).drop 0)) ((if (0 + (((e_1.take ((x5 : Int).toNat)).drop 0)).length) * 8 ≤ 140737488355328 then (if ((([] : List V) ++ (((e_1.take ((x5 : Int).toNat)).drop 0)).map V.noOwn).length + 1) * 8 ≤ 140737488355328 then (if (0 : Int) ≤ x5 ∧ x5 ≤ (e_1.length : Int) then Zao (ZiP f_2.noOwn.noOwn ((e_1.take e_1.length).drop ((x5 : Int).toNat))) ((if (((([] : List V) ++ (((e_1.take ((x5 : Int).toNat)).drop 0)).map V.noOwn) ++ ([.int .i64 x_3] : List V)).length + (((e_1.take e_1.length).drop ((x5 : Int).toNat))).length) * 8 ≤ 140737488355328 then k (((([] : List V) ++ (((e_1.take ((x5 : Int).toNat)).drop 0)).map V.noOwn) ++ ([.int .i64 x_3] : List V)) ++ (((e_1.take e_1.length).drop ((x5 : Int).toNat))).map V.noOwn) else none)) else none) else none) else none)) else none)))
   N 0
def ZD2 := @ZaE _ @ZpP
theorem ZuL : @ZD2 = @ZpP := @Zak _ @ZpP
def Zdu {R : Type} (N : Nat) (rec_ : (R : Type) → List V → Fl → Int → Int → List V → Fl → (List V → Option R) → Option R) (e_2 : List V) (f_3 : Fl) (x_4 : Int) (e_6 : List V) (f_7 : Fl) (x_8 : Int) (nx : List V → Int → Option R) (e_1 : List V) (x_5 : Int) (k0 : List V → Option R) : Option R :=
 (match decide (x_5 < x_4) with
  | true => (if 0 ≤ x_5 then Zbq (nth e_2 x_5.toNat) fun e16 => ZaZ e16 fun w17 n18 => rec_ R e_6 f_7.noOwn.noOwn x_8 n18 e_1 .sh fun e19 => nx e19 (IntKind.i64.wrap (x_5 + 1)) else none)
  | false => k0 e_1)
def Zgf {R : Type} (N : Nat) (rec_ : (R : Type) → List V → Fl → Int → Int → List V → Fl → (List V → Option R) → Option R) (e_2 : List V) (f_3 : Fl) (x_4 : Int) (e_6 : List V) (f_7 : Fl) (x_8 : Int) (k0 : List V → Option R) : Nat → List V → Int → Option R
 | 0, _, _ => none
 | n + 1, e_1, x_5 => Zdu N rec_ e_2 f_3 x_4 e_6 f_7 x_8 (fun e_1 x_5 => Zgf N rec_ e_2 f_3 x_4 e_6 f_7 x_8 k0 n e_1 x_5) e_1 x_5 k0
def ZuA {R : Type} (N : Nat) (rec_ : (R : Type) → List V → Fl → Int → Int → List V → Fl → (List V → Option R) → Option R) (e_1 : List V) (f_2 : Fl) (x_3 x_4 : Int) (e_5 : List V) (f_6 : Fl) (k : List V → Option R) : Option R :=
 Zkz N e_5 f_6.noOwn.noOwn x_4 fun b1 => (match b1 with
  | true => ZCd f_6 (k e_5)
  | false => ZD2 N e_5 f_6.noOwn.noOwn x_4 fun e2 => (if 0 ≤ x_4 then Zbq (nth e_1 x_4.toNat) fun e3 => Zaw e3 fun n4 n5 n6 n7 n8 w9 e10 f11 => Zgf N rec_ e10 f11.noOwn (e10.length : Int) e_1 f_2 x_3
    (fun e20 => k e20)
    N e2 0 else none))
def ZGJ (N : Nat) : Nat → (R : Type) → List V → Fl → Int → Int → List V → Fl → (List V → Option R) → Option R
 | 0, _, _, _, _, _, _, _, _ => none
 | M + 1, _, e_1, f_2, x_3, x_4, e_5, f_6, k => ZuA N (ZGJ N M) e_1 f_2 x_3 x_4 e_5 f_6 k
def ZgP (N : Nat) : Nat → (R : Type) → List V → Fl → Int → Int → List V → Fl → (List V → Option R) → Option R := ZaE ZGJ N
theorem Zye (N : Nat) (R : Type) (e_1 : List V) (f_2 : Fl) (x_3 x_4 : Int) (e_5 : List V) (f_6 : Fl) (k : List V → Option R) : ZgP N 0 R e_1 f_2 x_3 x_4 e_5 f_6 k = none := by unfold ZgP; rw [Zak]; rfl
theorem ZwB (N M : Nat) (R : Type) (e_1 : List V) (f_2 : Fl) (x_3 x_4 : Int) (e_5 : List V) (f_6 : Fl) (k : List V → Option R) : ZgP N (M + 1) R e_1 f_2 x_3 x_4 e_5 f_6 k = ZuA N (ZgP N M) e_1 f_2 x_3 x_4 e_5 f_6 k := by unfold ZgP; rw [Zak]; rfl
def Zc8 {R : Type} (N : Nat) (x_1 : Int) (e_3 : List V) (f_4 : Fl) (x_5 x_6 : Int) (e_7 : List V) (f_8 : Fl) (x_9 : Int) (e_11 : List V) (f_12 : Fl) (x_13 x_14 x_15 x_16 x_17 x_18 : Int) (w_19 : ByteArray) (e_20 : List V) (f_21 : Fl) (nx : Int → Int → Option R) (x_2 x_10 : Int) (k0 : Int → Option R) : Option R :=
 (match decide (x_10 < x_9) with
  | true => (if 0 ≤ x_10 then Zbq (nth e_7 x_10.toNat) fun e13 => ZaZ e13 fun w14 n15 => (match (n15 == x_1) with
   | true => nx (IntKind.i64.wrap (x_2 + 1)) (IntKind.i64.wrap (x_10 + 1))
   | false => nx x_2 (IntKind.i64.wrap (x_10 + 1))) else none)
  | false => k0 x_2)
def ZeY {R : Type} (N : Nat) (x_1 : Int) (e_3 : List V) (f_4 : Fl) (x_5 x_6 : Int) (e_7 : List V) (f_8 : Fl) (x_9 : Int) (e_11 : List V) (f_12 : Fl) (x_13 x_14 x_15 x_16 x_17 x_18 : Int) (w_19 : ByteArray) (e_20 : List V) (f_21 : Fl) (k0 : Int → Option R) : Nat → Int → Int → Option R
 | 0, _, _ => none
 | n + 1, x_2, x_10 => Zc8 N x_1 e_3 f_4 x_5 x_6 e_7 f_8 x_9 e_11 f_12 x_13 x_14 x_15 x_16 x_17 x_18 w_19 e_20 f_21 (fun x_2 x_10 => ZeY N x_1 e_3 f_4 x_5 x_6 e_7 f_8 x_9 e_11 f_12 x_13 x_14 x_15 x_16 x_17 x_18 w_19 e_20 f_21 k0 n x_2 x_10) x_2 x_10 k0
def Zdk {R : Type} (N : Nat) (x_1 : Int) (e_3 : List V) (f_4 : Fl) (x_5 : Int) (e_7 : List V) (f_8 : Fl) (x_9 : Int) (nx : Int → Int → Option R) (x_2 x_6 : Int) (k0 : Int → Option R) : Option R :=
 (match decide (x_6 < x_5) with
  | true => (if 0 ≤ x_6 then Zbq (nth e_3 x_6.toNat) fun e17 => Zaw e17 fun n18 n19 n20 n21 n22 w23 e24 f25 => ZeY N x_1 e_3 f_4 x_5 x_6 e24 f25.noOwn.noOwn (e24.length : Int) e_7 f_8 x_9 n18 n19 n20 n21 n22 w23 e24 f25.noOwn
    (fun x26 => nx x26 (IntKind.i64.wrap (x_6 + 1)))
    N x_2 0 else none)
  | false => k0 x_2)
def Zgd {R : Type} (N : Nat) (x_1 : Int) (e_3 : List V) (f_4 : Fl) (x_5 : Int) (e_7 : List V) (f_8 : Fl) (x_9 : Int) (k0 : Int → Option R) : Nat → Int → Int → Option R
 | 0, _, _ => none
 | n + 1, x_2, x_6 => Zdk N x_1 e_3 f_4 x_5 e_7 f_8 x_9 (fun x_2 x_6 => Zgd N x_1 e_3 f_4 x_5 e_7 f_8 x_9 k0 n x_2 x_6) x_2 x_6 k0
def Zoo {R : Type} (N : Nat) (e_1 : List V) (f_2 : Fl) (x_3 x_4 : Int) (k : Int → Option R) : Option R :=
 Zgd N x_4 e_1 f_2.noOwn (e_1.length : Int) e_1 f_2 x_3
   (fun x27 => k x27)
   N 0 0
def ZFa := @ZaE _ @Zoo
theorem ZuX : @ZFa = @Zoo := @Zak _ @Zoo
def Zda {R : Type} (N : Nat) (e_1 : List V) (f_2 : Fl) (x_3 : Int) (e_5 : List V) (f_6 : Fl) (x_7 : Int) (nx : Int → Option R) (x_4 : Int) (k0 : Unit → Option R) (k1 : Unit → Option R) : Option R :=
 (match decide (x_4 < x_3) with
  | true => (if 0 ≤ x_4 then Zbq (nth e_1 x_4.toNat) fun e23 => Zaw e23 fun n24 n25 n26 n27 n28 w29 e30 f31 => ZGd N e_5 f_6.noOwn.noOwn x_7 n24 n25 n26 n27 n28 w29 e30 f31.noOwn.noOwn.noOwn fun b32 => (match (!b32) with
   | true => k0 ()
   | false => nx (IntKind.i64.wrap (x_4 + 1))) else none)
  | false => k1 ())
def Zf5 {R : Type} (N : Nat) (e_1 : List V) (f_2 : Fl) (x_3 : Int) (e_5 : List V) (f_6 : Fl) (x_7 : Int) (k0 : Unit → Option R) (k1 : Unit → Option R) : Nat → Int → Option R
 | 0, _ => none
 | n + 1, x_4 => Zda N e_1 f_2 x_3 e_5 f_6 x_7 (fun x_4 => Zf5 N e_1 f_2 x_3 e_5 f_6 x_7 k0 k1 n x_4) x_4 k0 k1
def Zdh {R : Type} (N : Nat) (e_1 e_2 : List V) (f_3 : Fl) (x_4 : Int) (e_6 : List V) (f_7 : Fl) (x_8 : Int) (nx : Int → Option R) (x_5 : Int) (k0 : Unit → Option R) (k1 : Unit → Option R) : Option R :=
 (match decide (x_5 < x_4) with
  | true => (if 0 ≤ x_5 then Zbq (nth e_2 x_5.toNat) fun e50 => Zaw e50 fun n51 n52 n53 n54 n55 w56 e57 f58 => ZFa N e_6 f_7.noOwn.noOwn x_8 x_5 fun x59 => (match (x_5 == 0) with
   | true => (match decide (x59 > 0) with
   | true => k0 ()
   | false => (match decide (x_5 > 0) with
    | true => (match (n51 == 2) with
    | true => (match (x59 != 1) with
     | true => k0 ()
     | false => (match (n51 != 0) with
     | true => Zkz N e_1 .sh x_5 fun b60 => (match (!b60) with
      | true => k0 ()
      | false => nx (IntKind.i64.wrap (x_5 + 1)))
     | false => nx (IntKind.i64.wrap (x_5 + 1))))
    | false => (match (n51 != 0) with
     | true => Zkz N e_1 .sh x_5 fun b61 => (match (!b61) with
     | true => k0 ()
     | false => nx (IntKind.i64.wrap (x_5 + 1)))
     | false => nx (IntKind.i64.wrap (x_5 + 1))))
    | false => (match (n51 != 0) with
    | true => Zkz N e_1 .sh x_5 fun b62 => (match (!b62) with
     | true => k0 ()
     | false => nx (IntKind.i64.wrap (x_5 + 1)))
    | false => nx (IntKind.i64.wrap (x_5 + 1)))))
   | false => (match decide (x_5 > 0) with
   | true => (match (n51 == 2) with
    | true => (match (x59 != 1) with
    | true => k0 ()
    | false => (match (n51 != 0) with
     | true => Zkz N e_1 .sh x_5 fun b63 => (match (!b63) with
     | true => k0 ()
     | false => nx (IntKind.i64.wrap (x_5 + 1)))
     | false => nx (IntKind.i64.wrap (x_5 + 1))))
    | false => (match (n51 != 0) with
    | true => Zkz N e_1 .sh x_5 fun b64 => (match (!b64) with
     | true => k0 ()
     | false => nx (IntKind.i64.wrap (x_5 + 1)))
    | false => nx (IntKind.i64.wrap (x_5 + 1))))
   | false => (match (n51 != 0) with
    | true => Zkz N e_1 .sh x_5 fun b65 => (match (!b65) with
    | true => k0 ()
    | false => nx (IntKind.i64.wrap (x_5 + 1)))
    | false => nx (IntKind.i64.wrap (x_5 + 1))))) else none)
  | false => k1 ())
def Zf0 {R : Type} (N : Nat) (e_1 e_2 : List V) (f_3 : Fl) (x_4 : Int) (e_6 : List V) (f_7 : Fl) (x_8 : Int) (k0 : Unit → Option R) (k1 : Unit → Option R) : Nat → Int → Option R
 | 0, _ => none
 | n + 1, x_5 => Zdh N e_1 e_2 f_3 x_4 e_6 f_7 x_8 (fun x_5 => Zf0 N e_1 e_2 f_3 x_4 e_6 f_7 x_8 k0 k1 n x_5) x_5 k0 k1
def Zom {R : Type} (N : Nat) (e_1 : List V) (f_2 : Fl) (x_3 : Int) (k : Bool → Option R) : Option R :=
 Zgi N (e_1.length : Int) 1 40 fun b1 => (match (!b1) with
  | true => k false
  | false => Zgi N x_3 0 1000 fun b2 => (match (!b2) with
  | true => k false
  | false => ZFV N e_1 f_2.noOwn.noOwn.noOwn.noOwn x_3 fun x3 => (match decide (x3 > x_3) with
   | true => k false
   | false => Zbq (nth e_1 0) fun e4 => Zaw e4 fun n5 n6 n7 n8 n9 w10 e11 f12 => (match (n5 != 2) with
   | true => k false
   | false => Zf5 N e_1 f_2.noOwn (e_1.length : Int) e_1 f_2 x_3
     (fun (_ : Unit) => k false)
     (fun (_ : Unit) => ZgP N N R e_1 f_2.noOwn.noOwn x_3 0 [] .sh fun e33 => Zf0 N e33 e_1 f_2.noOwn (e_1.length : Int) e_1 f_2 x_3
      (fun (_ : Unit) => k false)
      (fun (_ : Unit) => k true)
      N 0)
     N 0))))
def ZEt := @ZaE _ @Zom
theorem Zwk : @ZEt = @Zom := @Zak _ @Zom
def Zn2 {R : Type} (N : Nat) (x_1 x_2 : Int) (k : Bool → Option R) : Option R :=
 Zgi N x_1 0 99 fun b1 => (match b1 with
  | true => Zgi N x_2 0 99 fun b2 => k b2
  | false => k false)
def ZIA := @ZaE _ @Zn2
theorem Zwf : @ZIA = @Zn2 := @Zak _ @Zn2
def ZpG {R : Type} (N : Nat) (e_1 : List V) (f_2 : Fl) (x_3 x_4 x_5 : Int) (k : Bool → Option R) : Option R :=
 ZEt N e_1 f_2.noOwn.noOwn x_3 fun b1 => (match b1 with
  | true => ZIA N x_4 x_5 fun b2 => k b2
  | false => k false)
def ZFW := @ZaE _ @ZpG
theorem ZvH : @ZFW = @ZpG := @Zak _ @ZpG
def ZoX {R : Type} (N : Nat) (w_1 : ByteArray) (k : Bool → Option R) : Option R :=
 ZC4 N w_1 fun b1 => (match b1 with
  | true => ZcE w_1 0 fun n2 => k (n2 == 47)
  | false => k false)
def ZGA := @ZaE _ @ZoX
theorem ZwF : @ZGA = @ZoX := @Zak _ @ZoX
def Zp0 {R : Type} (N : Nat) (x_1 x_2 x_3 x_4 x_5 x_6 : Int) (k : Bool → Option R) : Option R :=
 (match (x_1 == 0) with
  | true => k true
  | false => (match (x_1 == x_4) with
  | true => k (IntKind.i64.wrap (BitVec.ofInt IntKind.i64.bits (Int.fdiv x_3 (2 ^ (min (6 : Int).toNat 64))) &&& BitVec.ofInt IntKind.i64.bits x_6).toNat == x_6)
  | false => (match (x_2 == x_5) with
   | true => k (IntKind.i64.wrap (BitVec.ofInt IntKind.i64.bits (IntKind.i64.wrap (BitVec.ofInt IntKind.i64.bits (Int.fdiv x_3 (2 ^ (min (3 : Int).toNat 64))) &&& BitVec.ofInt IntKind.i64.bits 7).toNat) &&& BitVec.ofInt IntKind.i64.bits x_6).toNat == x_6)
   | false => k (IntKind.i64.wrap (BitVec.ofInt IntKind.i64.bits (IntKind.i64.wrap (BitVec.ofInt IntKind.i64.bits x_3 &&& BitVec.ofInt IntKind.i64.bits 7).toNat) &&& BitVec.ofInt IntKind.i64.bits x_6).toNat == x_6))))
def ZDv := @ZaE _ @Zp0
theorem ZuW : @ZDv = @Zp0 := @Zak _ @Zp0
def ZqA {R : Type} (N : Nat) (e_1 : List V) (f_2 : Fl) (x_3 x_4 x_5 x_6 x_7 : Int) (k : Bool → Option R) : Option R :=
 (if 0 ≤ x_6 then Zbq (nth e_1 x_6.toNat) fun e1 => Zaw e1 fun n2 n3 n4 n5 n6 w7 e8 f9 => ZDv N x_4 x_5 n3 n4 n5 x_7 fun b10 => k b10 else none)
def ZD3 := @ZaE _ @ZqA
theorem ZwP : @ZD3 = @ZqA := @Zak _ @ZqA
def Zdc {R : Type} (N : Nat) (x_1 x_2 : Int) (e_3 : List V) (f_4 : Fl) (x_5 x_6 : Int) (e_7 : List V) (f_8 : Fl) (x_9 : Int) (e_11 : List V) (f_12 : Fl) (x_13 x_14 x_15 x_16 x_17 x_18 : Int) (w_19 : ByteArray) (e_20 : List V) (f_21 : Fl) (nx : Int → Option R) (x_10 : Int) (k0 : Unit → Option R) (k1 : Unit → Option R) : Option R :=
 (match decide (x_10 < x_9) with
  | true => (if 0 ≤ x_10 then Zbq (nth e_7 x_10.toNat) fun e13 => ZaZ e13 fun w14 n15 => (match (n15 == x_1) with
   | true => k0 ()
   | false => nx (IntKind.i64.wrap (x_10 + 1))) else none)
  | false => k1 ())
def Zfd {R : Type} (N : Nat) (x_1 x_2 : Int) (e_3 : List V) (f_4 : Fl) (x_5 x_6 : Int) (e_7 : List V) (f_8 : Fl) (x_9 : Int) (e_11 : List V) (f_12 : Fl) (x_13 x_14 x_15 x_16 x_17 x_18 : Int) (w_19 : ByteArray) (e_20 : List V) (f_21 : Fl) (k0 : Unit → Option R) (k1 : Unit → Option R) : Nat → Int → Option R
 | 0, _ => none
 | n + 1, x_10 => Zdc N x_1 x_2 e_3 f_4 x_5 x_6 e_7 f_8 x_9 e_11 f_12 x_13 x_14 x_15 x_16 x_17 x_18 w_19 e_20 f_21 (fun x_10 => Zfd N x_1 x_2 e_3 f_4 x_5 x_6 e_7 f_8 x_9 e_11 f_12 x_13 x_14 x_15 x_16 x_17 x_18 w_19 e_20 f_21 k0 k1 n x_10) x_10 k0 k1
def Zdl {R : Type} (N : Nat) (x_1 : Int) (e_2 : List V) (f_3 : Fl) (x_4 : Int) (e_6 : List V) (f_7 : Fl) (x_8 : Int) (nx : Int → Option R) (x_5 : Int) (k0 : Int → Option R) (k1 : Unit → Option R) : Option R :=
 (match decide (x_5 < x_4) with
  | true => (if 0 ≤ x_5 then Zbq (nth e_2 x_5.toNat) fun e16 => Zaw e16 fun n17 n18 n19 n20 n21 w22 e23 f24 => Zfd N x_1 x_5 e_2 f_3 x_4 x_5 e23 f24.noOwn.noOwn (e23.length : Int) e_6 f_7 x_8 n17 n18 n19 n20 n21 w22 e23 f24.noOwn
    (fun (_ : Unit) => k0 x_5)
    (fun (_ : Unit) => nx (IntKind.i64.wrap (x_5 + 1)))
    N 0 else none)
  | false => k1 ())
def Zgg {R : Type} (N : Nat) (x_1 : Int) (e_2 : List V) (f_3 : Fl) (x_4 : Int) (e_6 : List V) (f_7 : Fl) (x_8 : Int) (k0 : Int → Option R) (k1 : Unit → Option R) : Nat → Int → Option R
 | 0, _ => none
 | n + 1, x_5 => Zdl N x_1 e_2 f_3 x_4 e_6 f_7 x_8 (fun x_5 => Zgg N x_1 e_2 f_3 x_4 e_6 f_7 x_8 k0 k1 n x_5) x_5 k0 k1
def ZnR {R : Type} (N : Nat) (e_1 : List V) (f_2 : Fl) (x_3 x_4 : Int) (k : Int → Option R) : Option R :=
 Zgg N x_4 e_1 f_2.noOwn (e_1.length : Int) e_1 f_2 x_3
   (fun x25 => k x25)
   (fun (_ : Unit) => k 0)
   N 0
def ZBG := @ZaE _ @ZnR
theorem Zt4 : @ZBG = @ZnR := @Zak _ @ZnR
def Zc9 {R : Type} (N : Nat) (w_1 : ByteArray) (e_2 : List V) (f_3 : Fl) (x_4 : Int) (nx : Int → Option R) (x_5 : Int) (k0 : Int → Option R) (k1 : Unit → Option R) : Option R :=
 (match decide (x_5 < x_4) with
  | true => (if 0 ≤ x_5 then Zbq (nth e_2 x_5.toNat) fun e4 => ZaZ e4 fun w5 n6 => (match (w5.toList == w_1.toList) with
   | true => k0 n6
   | false => nx (IntKind.i64.wrap (x_5 + 1))) else none)
  | false => k1 ())
def Zgb {R : Type} (N : Nat) (w_1 : ByteArray) (e_2 : List V) (f_3 : Fl) (x_4 : Int) (k0 : Int → Option R) (k1 : Unit → Option R) : Nat → Int → Option R
 | 0, _ => none
 | n + 1, x_5 => Zc9 N w_1 e_2 f_3 x_4 (fun x_5 => Zgb N w_1 e_2 f_3 x_4 k0 k1 n x_5) x_5 k0 k1
def Zqu {R : Type} (N : Nat) (e_1 : List V) (f_2 : Fl) (w_3 : ByteArray) (k : Int → Option R) : Option R :=
 Zgb N w_3 e_1 f_2.noOwn (e_1.length : Int)
   (fun x7 => k x7)
   (fun (_ : Unit) => k (-1))
   N 0
def ZFz := @ZaE _ @Zqu
theorem Zvz : @ZFz = @Zqu := @Zak _ @Zqu
def Zof {R : Type} (N : Nat) (b_1 : Bool) (e_2 : List V) (f_3 : Fl) (x_4 x_5 x_6 x_7 : Int) (e_8 : List V) (f_9 : Fl) (x_10 : Int) (k : Int → List V → Fl → Int → Int → Int → Int → List V → Fl → Int → Option R) : Option R :=
 (if 0 ≤ x_7 then Zbq (nth e_2 x_7.toNat) fun e1 => Zaw e1 fun n2 n3 n4 n5 n6 w7 e8 f9 => (match (n2 != 2) with
  | true => k 3 e_2 f_3 x_4 x_5 x_6 x_7 e_8 f_9 x_10
  | false => ZD3 N e_2 f_3.noOwn.noOwn.noOwn.noOwn x_4 x_5 x_6 x_7 1 fun b10 => (match (!b10) with
   | true => k 4 e_2 f_3 x_4 x_5 x_6 x_7 e_8 f_9 x_10
   | false => Zbq (nth e_8 0) fun e11 => Zbt e11 fun w12 => (if (0 : Int) ≤ 1 ∧ 1 ≤ (e_8.length : Int) then (match (w12.toList == (ByteArray.mk #[46]).toList) with
    | true => k 0 e_2 f_3 x_4 x_5 x_6 x_7 ((e_8.take e_8.length).drop 1) f_9.noOwn.noOwn x_10
    | false => (match (w12.toList == (ByteArray.mk #[46, 46]).toList) with
    | true => ZBG N e_2 f_3.noOwn.noOwn.noOwn.noOwn x_4 x_7 fun x13 => k 0 e_2 f_3 x_4 x_5 x_6 x13 ((e_8.take e_8.length).drop 1) f_9.noOwn.noOwn x_10
    | false => ZFz N e8 f9.noOwn.noOwn.noOwn.noOwn w12 fun x14 => (match decide (x14 < 0) with
     | true => k 2 e_2 f_3 x_4 x_5 x_6 x_7 ((e_8.take e_8.length).drop 1) f_9.noOwn.noOwn x_10
     | false => (if 0 ≤ x14 then Zbq (nth e_2 x14.toNat) fun e15 => Zaw e15 fun n16 n17 n18 n19 n20 w21 e22 f23 => (match (n16 != 3) with
      | true => k 0 e_2 f_3 x_4 x_5 x_6 x14 ((e_8.take e_8.length).drop 1) f_9.noOwn.noOwn x_10
      | false => (match ((((e_8.take e_8.length).drop 1).length : Int) == 0) with
      | true => (match (!b_1) with
       | true => k 0 e_2 f_3 x_4 x_5 x_6 x14 ((e_8.take e_8.length).drop 1) f_9.noOwn.noOwn x_10
       | false => (match (x_10 == 8) with
       | true => k 5 e_2 f_3 x_4 x_5 x_6 x_7 ((e_8.take e_8.length).drop 1) f_9.noOwn.noOwn x_10
       | false => ZpS N w21 fun e24 => Zao (ZiP f_9.noOwn.noOwn.noOwn.noOwn ((e_8.take e_8.length).drop 1)) ((if (e24.length + (((e_8.take e_8.length).drop 1)).length) * 16 ≤ 140737488355328 then ZcE w21 0 fun n25 => (match (n25 == 47) with
         | true => k 0 e_2 f_3 x_4 x_5 x_6 0 (e24 ++ (((e_8.take e_8.length).drop 1)).map V.noOwn) (.own 9) (IntKind.i64.wrap (x_10 + 1))
         | false => k 0 e_2 f_3 x_4 x_5 x_6 x_7 (e24 ++ (((e_8.take e_8.length).drop 1)).map V.noOwn) (.own 9) (IntKind.i64.wrap (x_10 + 1))) else none))))
      | false => (match (x_10 == 8) with
       | true => k 5 e_2 f_3 x_4 x_5 x_6 x_7 ((e_8.take e_8.length).drop 1) f_9.noOwn.noOwn x_10
       | false => ZpS N w21 fun e26 => Zao (ZiP f_9.noOwn.noOwn.noOwn.noOwn ((e_8.take e_8.length).drop 1)) ((if (e26.length + (((e_8.take e_8.length).drop 1)).length) * 16 ≤ 140737488355328 then ZcE w21 0 fun n27 => (match (n27 == 47) with
        | true => k 0 e_2 f_3 x_4 x_5 x_6 0 (e26 ++ (((e_8.take e_8.length).drop 1)).map V.noOwn) (.own 9) (IntKind.i64.wrap (x_10 + 1))
        | false => k 0 e_2 f_3 x_4 x_5 x_6 x_7 (e26 ++ (((e_8.take e_8.length).drop 1)).map V.noOwn) (.own 9) (IntKind.i64.wrap (x_10 + 1))) else none))))) else none)))) else none))) else none)
def Zza := @ZaE _ @Zof
theorem ZvM : @Zza = @Zof := @Zak _ @Zof
def Zd1 {R : Type} (N : Nat) (b_1 b_2 : Bool) (e_3 : List V) (f_4 : Fl) (x_5 x_6 x_7 : Int) (nx : List V → Fl → Int → Int → Int → Int → List V → Fl → Int → Option R) (e_8 : List V) (f_9 : Fl) (x_10 x_11 x_12 x_13 : Int) (e_14 : List V) (f_16 : Fl) (x_15 : Int) (k0 : Int → List V → Fl → Int → Int → Int → Int → List V → Fl → Int → Option R) (k1 : List V → Fl → Int → Int → Int → Int → List V → Fl → Int → Option R) : Option R :=
 (match decide ((e_14.length : Int) > 0) with
  | true => (match b_1 with
  | true => Zza N true e_8 f_9 x_10 x_11 x_12 x_13 e_14 f_16 x_15 fun x24 e25 f26 x27 x28 x29 x30 e31 f32 x33 => (match (x24 != 0) with
   | true => k0 x24 e25 f26 x27 x28 x29 x30 e31 f32 x33
   | false => nx e25 f26 x27 x28 x29 x30 e31 f32 x33)
  | false => Zza N b_2 e_8 f_9 x_10 x_11 x_12 x_13 e_14 f_16 x_15 fun x34 e35 f36 x37 x38 x39 x40 e41 f42 x43 => (match (x34 != 0) with
   | true => k0 x34 e35 f36 x37 x38 x39 x40 e41 f42 x43
   | false => nx e35 f36 x37 x38 x39 x40 e41 f42 x43))
  | false => k1 e_8 f_9 x_10 x_11 x_12 x_13 e_14 f_16 x_15)
def Zer {R : Type} (N : Nat) (b_1 b_2 : Bool) (e_3 : List V) (f_4 : Fl) (x_5 x_6 x_7 : Int) (k0 : Int → List V → Fl → Int → Int → Int → Int → List V → Fl → Int → Option R) (k1 : List V → Fl → Int → Int → Int → Int → List V → Fl → Int → Option R) : Nat → List V → Fl → Int → Int → Int → Int → List V → Fl → Int → Option R
 | 0, _, _, _, _, _, _, _, _, _ => none
 | n + 1, e_8, f_9, x_10, x_11, x_12, x_13, e_14, f_16, x_15 => Zd1 N b_1 b_2 e_3 f_4 x_5 x_6 x_7 (fun e_8 f_9 x_10 x_11 x_12 x_13 e_14 f_16 x_15 => Zer N b_1 b_2 e_3 f_4 x_5 x_6 x_7 k0 k1 n e_8 f_9 x_10 x_11 x_12 x_13 e_14 f_16 x_15) e_8 f_9 x_10 x_11 x_12 x_13 e_14 f_16 x_15 k0 k1
def ZoT {R : Type} (N : Nat) (e_1 : List V) (f_2 : Fl) (x_3 x_4 x_5 : Int) (w_6 : ByteArray) (b_7 : Bool) (k : Int → Int → Option R) : Option R :=
 ZGA N w_6 fun b1 => (match (!b1) with
  | true => k 0 1
  | false => ZcE w_6 (IntKind.i64.wrap ((w_6.size : Int) - 1)) fun n2 => ZpS N w_6 fun e3 => Zer N b_7 (n2 == 47) e_1 f_2 x_3 x_4 x_5
    (fun x44 e45 f46 x47 x48 x49 x50 e51 f52 x53 => k 0 x44)
    (fun e54 f55 x56 x57 x58 x59 e60 f61 x62 => (match (n2 == 47) with
   | true => (if 0 ≤ x59 then Zbq (nth e_1 x59.toNat) fun e63 => Zaw e63 fun n64 n65 n66 n67 n68 w69 e70 f71 => (match (n64 != 2) with
    | true => k 0 3
    | false => k x59 0) else none)
   | false => k x59 0))
    N e_1 f_2.noOwn.noOwn.noOwn x_3 x_4 x_5 0 e3 .sh 0)
def ZGH := @ZaE _ @ZoT
theorem ZvX : @ZGH = @ZoT := @Zak _ @ZoT
def Zqk {R : Type} (N : Nat) (e_1 : List V) (f_2 : Fl) (x_3 x_4 x_5 : Int) (w_6 : ByteArray) (k : Int → Int → Option R) : Option R :=
 ZGH N e_1 f_2.noOwn.noOwn x_3 x_4 x_5 w_6 true fun x1 x2 => (match (x2 == 0) with
  | true => (if 0 ≤ x1 then Zbq (nth e_1 x1.toNat) fun e3 => Zaw e3 fun n4 n5 n6 n7 n8 w9 e10 f11 => (match (n4 != 2) with
   | true => k 0 3
   | false => k x1 x2) else none)
  | false => k x1 x2)
def ZD9 := @ZaE _ @Zqk
theorem ZwA : @ZD9 = @Zqk := @Zak _ @Zqk
def ZcS {R : Type} (N : Nat) (e_2 : List V) (f_3 : Fl) (x_4 : Int) (nx : ByteArray → Int → Option R) (w_1 : ByteArray) (x_5 : Int) (k0 : ByteArray → Option R) : Option R :=
 (match decide (x_5 < x_4) with
  | true => (if 0 ≤ x_5 then Zbq (nth e_2 x_5.toNat) fun e3 => Zbt e3 fun w4 => (if (ByteArray.mk #[47]).size + w4.size ≤ 4611686018427387904 then (if w_1.size + ((ByteArray.mk #[47]) ++ w4).size ≤ 4611686018427387904 then nx (w_1 ++ ((ByteArray.mk #[47]) ++ w4)) (IntKind.i64.wrap (x_5 + 1)) else none) else none) else none)
  | false => k0 w_1)
def Zf9 {R : Type} (N : Nat) (e_2 : List V) (f_3 : Fl) (x_4 : Int) (k0 : ByteArray → Option R) : Nat → ByteArray → Int → Option R
 | 0, _, _ => none
 | n + 1, w_1, x_5 => ZcS N e_2 f_3 x_4 (fun w_1 x_5 => Zf9 N e_2 f_3 x_4 k0 n w_1 x_5) w_1 x_5 k0
def Zqg {R : Type} (N : Nat) (e_1 : List V) (f_2 : Fl) (k : ByteArray → Option R) : Option R :=
 (match ((e_1.length : Int) == 0) with
  | true => k (ByteArray.mk #[47])
  | false => Zf9 N e_1 f_2.noOwn (e_1.length : Int)
    (fun w5 => k w5)
    N (ByteArray.mk #[]) 0)
def ZD1 := @ZaE _ @Zqg
theorem Zt1 : @ZD1 = @Zqg := @Zak _ @Zqg
def Zds {R : Type} (N : Nat) (rec_ : (R : Type) → List V → Fl → Int → Int → (List V → Option R) → Option R) (x_1 x_2 : Int) (e_4 : List V) (f_5 : Fl) (x_6 : Int) (e_8 : List V) (f_9 : Fl) (x_10 : Int) (nx : ByteArray → Int → Option R) (w_3 : ByteArray) (x_7 : Int) (k0 : ByteArray → Option R) : Option R :=
 (match decide (x_7 < x_6) with
  | true => (if 0 ≤ x_7 then Zbq (nth e_4 x_7.toNat) fun e14 => ZaZ e14 fun w15 n16 => (match (n16 == x_1) with
   | true => nx w15 (IntKind.i64.wrap (x_7 + 1))
   | false => nx w_3 (IntKind.i64.wrap (x_7 + 1))) else none)
  | false => k0 w_3)
def Ze4 {R : Type} (N : Nat) (rec_ : (R : Type) → List V → Fl → Int → Int → (List V → Option R) → Option R) (x_1 x_2 : Int) (e_4 : List V) (f_5 : Fl) (x_6 : Int) (e_8 : List V) (f_9 : Fl) (x_10 : Int) (k0 : ByteArray → Option R) : Nat → ByteArray → Int → Option R
 | 0, _, _ => none
 | n + 1, w_3, x_7 => Zds N rec_ x_1 x_2 e_4 f_5 x_6 e_8 f_9 x_10 (fun w_3 x_7 => Ze4 N rec_ x_1 x_2 e_4 f_5 x_6 e_8 f_9 x_10 k0 n w_3 x_7) w_3 x_7 k0
def Zt3 {R : Type} (N : Nat) (rec_ : (R : Type) → List V → Fl → Int → Int → (List V → Option R) → Option R) (e_1 : List V) (f_2 : Fl) (x_3 x_4 : Int) (k : List V → Option R) : Option R :=
 (match (x_4 == 0) with
  | true => k []
  | false => ZBG N e_1 f_2.noOwn.noOwn x_3 x_4 fun x1 => (if 0 ≤ x1 then Zbq (nth e_1 x1.toNat) fun e2 => Zaw e2 fun n3 n4 n5 n6 n7 w8 e9 f10 => Ze4 N rec_ x_4 x1 e9 f10.noOwn (e9.length : Int) e_1 f_2 x_3
    (fun w17 => rec_ R e_1 f_2.noOwn.noOwn x_3 x1 fun e18 => (if (e18.length + 1) * 16 ≤ 140737488355328 then k (e18 ++ ([.str w17] : List V)) else none))
    N (ByteArray.mk #[]) 0 else none))
def ZGR (N : Nat) : Nat → (R : Type) → List V → Fl → Int → Int → (List V → Option R) → Option R
 | 0, _, _, _, _, _, _ => none
 | M + 1, _, e_1, f_2, x_3, x_4, k => Zt3 N (ZGR N M) e_1 f_2 x_3 x_4 k
def Zit (N : Nat) : Nat → (R : Type) → List V → Fl → Int → Int → (List V → Option R) → Option R := ZaE ZGR N
theorem Zx5 (N : Nat) (R : Type) (e_1 : List V) (f_2 : Fl) (x_3 x_4 : Int) (k : List V → Option R) : Zit N 0 R e_1 f_2 x_3 x_4 k = none := by unfold Zit; rw [Zak]; rfl
theorem Zmd (N M : Nat) (R : Type) (e_1 : List V) (f_2 : Fl) (x_3 x_4 : Int) (k : List V → Option R) : Zit N (M + 1) R e_1 f_2 x_3 x_4 k = Zt3 N (Zit N M) e_1 f_2 x_3 x_4 k := by unfold Zit; rw [Zak]; rfl
def ZpT {R : Type} (N : Nat) (e_1 : List V) (f_2 : Fl) (x_3 x_4 x_5 : Int) (w_6 : ByteArray) (k : ByteArray → Int → Bool → Option R) : Option R :=
 ZFW N e_1 f_2.noOwn.noOwn x_3 x_4 x_5 fun b1 => (match (!b1) with
  | true => k (ByteArray.mk #[]) 0 false
  | false => ZD9 N e_1 f_2.noOwn.noOwn x_3 x_4 x_5 w_6 fun x2 x3 => (match (x3 != 0) with
  | true => k (ByteArray.mk #[]) x3 true
  | false => Zit N N R e_1 f_2.noOwn.noOwn x_3 x2 fun e4 => ZD1 N e4 .sh fun w5 => k w5 0 true))
def ZG6 := @ZaE _ @ZpT
theorem Zwr : @ZG6 = @ZpT := @Zak _ @ZpT
def Zou {R : Type} (N : Nat) (x_1 x_2 x_3 : Int) (k : Bool → Option R) : Option R :=
 (match decide (x_1 ≥ x_2) with
  | true => k (decide (x_1 ≤ x_3))
  | false => k false)
def Zip := @ZaE _ @Zou
theorem Zuq : @Zip = @Zou := @Zak _ @Zou
def Zqz {R : Type} (N : Nat) (x_1 : Int) (k : Bool → Option R) : Option R :=
 Zip N x_1 0 1000 fun b1 => k b1
def ZH5 := @ZaE _ @Zqz
theorem Zux : @ZH5 = @Zqz := @Zak _ @Zqz
def Zog {R : Type} (N : Nat) (x_1 : Int) (k : Bool → Option R) : Option R :=
 Zip N x_1 0 511 fun b1 => k b1
def ZG9 := @ZaE _ @Zog
theorem Zwi : @ZG9 = @Zog := @Zak _ @Zog
def Zqy {R : Type} (N : Nat) (w_1 : ByteArray) (k : Bool → Option R) : Option R :=
 (match (w_1.toList == (ByteArray.mk #[46]).toList) with
  | true => k true
  | false => k (w_1.toList == (ByteArray.mk #[46, 46]).toList))
def ZHl := @ZaE _ @Zqy
theorem Zus : @ZHl = @Zqy := @Zak _ @Zqy
def Zpl {R : Type} (N : Nat) (x_1 : Int) (k : Bool → Option R) : Option R :=
 (match decide (x_1 ≥ 97) with
  | true => (match decide (x_1 ≤ 122) with
  | true => k true
  | false => (match decide (x_1 ≥ 48) with
   | true => (match decide (x_1 ≤ 57) with
   | true => k true
   | false => (match (x_1 == 46) with
    | true => k true
    | false => (match (x_1 == 95) with
    | true => k true
    | false => k (x_1 == 45))))
   | false => (match (x_1 == 46) with
   | true => k true
   | false => (match (x_1 == 95) with
    | true => k true
    | false => k (x_1 == 45)))))
  | false => (match decide (x_1 ≥ 48) with
  | true => (match decide (x_1 ≤ 57) with
   | true => k true
   | false => (match (x_1 == 46) with
   | true => k true
   | false => (match (x_1 == 95) with
    | true => k true
    | false => k (x_1 == 45))))
  | false => (match (x_1 == 46) with
   | true => k true
   | false => (match (x_1 == 95) with
   | true => k true
   | false => k (x_1 == 45)))))
def ZGn := @ZaE _ @Zpl
theorem ZvA : @ZGn = @Zpl := @Zak _ @Zpl
def Zpr {R : Type} (N : Nat) (x_1 : Int) (k : Bool → Option R) : Option R :=
 ZGn N x_1 fun b1 => k (!b1)
def ZHI := @ZaE _ @Zpr
theorem ZuY : @ZHI = @Zpr := @Zak _ @Zpr
def ZcT {R : Type} (N : Nat) (e_1 : List V) (f_2 : Fl) (x_3 : Int) (nx : Int → Option R) (x_4 : Int) (k0 : Int → Option R) (k1 : Unit → Option R) : Option R :=
 (match decide (x_4 < x_3) with
  | true => (if 0 ≤ x_4 then Zbq (nth e_1 x_4.toNat) fun e4 => asInt .u8 e4 fun n5 => ZHI N n5 fun b6 => (match b6 with
   | true => k0 x_4
   | false => nx (IntKind.i64.wrap (x_4 + 1))) else none)
  | false => k1 ())
def ZfP {R : Type} (N : Nat) (e_1 : List V) (f_2 : Fl) (x_3 : Int) (k0 : Int → Option R) (k1 : Unit → Option R) : Nat → Int → Option R
 | 0, _ => none
 | n + 1, x_4 => ZcT N e_1 f_2 x_3 (fun x_4 => ZfP N e_1 f_2 x_3 k0 k1 n x_4) x_4 k0 k1
def Zo7 {R : Type} (N : Nat) (e_1 : List V) (f_2 : Fl) (k : Int → Option R) : Option R :=
 ZfP N e_1 f_2 (e_1.length : Int)
   (fun x7 => k x7)
   (fun (_ : Unit) => k (-1))
   N 0
def ZHC := @ZaE _ @Zo7
theorem Zu0 : @ZHC = @Zo7 := @Zak _ @Zo7
def ZnZ {R : Type} (N : Nat) (e_1 : List V) (f_2 : Fl) (k : Bool → Option R) : Option R :=
 ZHC N e_1 f_2.noOwn.noOwn fun x1 => k (decide (x1 ≥ 0))
def ZFq := @ZaE _ @ZnZ
theorem ZuF : @ZFq = @ZnZ := @Zak _ @ZnZ
def ZnI {R : Type} (N : Nat) (w_1 : ByteArray) (k : Bool → Option R) : Option R :=
 Zip N (w_1.size : Int) 1 8 fun b1 => (match b1 with
  | true => ZFq N (ZcG w_1) .sh fun b2 => k (!b2)
  | false => k false)
def ZzE := @ZaE _ @ZnI
theorem ZuR : @ZzE = @ZnI := @Zak _ @ZnI
def ZpY {R : Type} (N : Nat) (w_1 : ByteArray) (k : Bool → Option R) : Option R :=
 ZzE N w_1 fun b1 => (match b1 with
  | true => ZHl N w_1 fun b2 => k (!b2)
  | false => k false)
def ZDx := @ZaE _ @ZpY
theorem ZvS : @ZDx = @ZpY := @Zak _ @ZpY
def ZkV {R : Type} (N : Nat) (x_1 : Int) (k : Bool → Option R) : Option R :=
 Zip N x_1 0 99 fun b1 => k b1
def Zyo := @ZaE _ @ZkV
theorem Zm2 : @Zyo = @ZkV := @Zak _ @ZkV
def ZAa {R : Type} (N : Nat) (w_1 : ByteArray) (x_2 : Int) (k : Int → Option R) : Option R :=
 k (Go.Lib.indexByte w_1.data.toList x_2.toNat.toUInt8)
def ZHJ := @ZaE _ @ZAa
theorem Zws : @ZHJ = @ZAa := @Zak _ @ZAa
def Zo2 {R : Type} (N : Nat) (w_1 : ByteArray) (x_2 : Int) (k : Int → Option R) : Option R :=
 ZHJ N w_1 x_2 fun x1 => k x1
def ZFr := @ZaE _ @Zo2
theorem Zvj : @ZFr = @Zo2 := @Zak _ @Zo2
def ZoM {R : Type} (N : Nat) (w_1 w_2 : ByteArray) (k : Int → Option R) : Option R :=
 (match ((w_2.size : Int) == 0) with
  | true => k 0
  | false => (match (w_2.toList == w_1.toList) with
  | true => k 0
  | false => (match ((w_2.size : Int) == 1) with
   | true => ZcE w_2 0 fun n1 => ZFr N w_1 n1 fun x2 => k x2
   | false => (match decide ((w_2.size : Int) ≥ (w_1.size : Int)) with
   | true => k (-1)
   | false => none))))
def ZHk := @ZaE _ @ZoM
theorem Zwc : @ZHk = @ZoM := @Zak _ @ZoM
def Zqd {R : Type} (N : Nat) (w_1 w_2 : ByteArray) (k : Int → Option R) : Option R :=
 ZHk N w_1 w_2 fun x1 => k x1
def ZBp := @ZaE _ @Zqd
theorem Zu1 : @ZBp = @Zqd := @Zak _ @Zqd
def ZAB {R : Type} (N : Nat) (w_1 : ByteArray) (x_2 : Int) (k : Int → Option R) : Option R :=
 k ((Go.Lib.countByte w_1.data.toList x_2.toNat.toUInt8 : Nat) : Int)
def ZFB := @ZaE _ @ZAB
theorem Zu6 : @ZFB = @ZAB := @Zak _ @ZAB
def Zfe {R : Type} (N : Nat) (w_2 : ByteArray) (nx : ByteArray → Int → Option R) (w_1 : ByteArray) (x_3 : Int) (k0 : Int → Option R) : Option R :=
 ZBp N w_1 w_2 fun x4 => (match (x4 == (-1)) with
  | true => k0 x_3
  | false => (if (0 : Int) ≤ IntKind.i64.wrap (x4 + (w_2.size : Int)) ∧ IntKind.i64.wrap (x4 + (w_2.size : Int)) ≤ (w_1.size : Int) then nx (ByteArray.extract w_1 ((IntKind.i64.wrap (x4 + (w_2.size : Int))).toNat) w_1.size) (IntKind.i64.wrap (x_3 + 1)) else none))
def ZlE {R : Type} (N : Nat) (w_2 : ByteArray) (k0 : Int → Option R) : Nat → ByteArray → Int → Option R
 | 0, _, _ => none
 | n + 1, w_1, x_3 => Zfe N w_2 (fun w_1 x_3 => ZlE N w_2 k0 n w_1 x_3) w_1 x_3 k0
def ZoG {R : Type} (N : Nat) (w_1 w_2 : ByteArray) (k : Int → Option R) : Option R :=
 (match ((w_2.size : Int) == 0) with
  | true => none
  | false => (match ((w_2.size : Int) == 1) with
  | true => ZcE w_2 0 fun n1 => ZFB N w_1 n1 fun x2 => k x2
  | false => ZlE N w_2
    (fun x5 => k x5)
    N w_1 0))
def ZAQ := @ZaE _ @ZoG
theorem ZuK : @ZAQ = @ZoG := @Zak _ @ZoG
def ZcO {R : Type} (N : Nat) (w_2 : ByteArray) (x_3 x_4 : Int) (k_5 : Nat) (nx : ByteArray → Int → List V → Option R) (w_1 : ByteArray) (x_6 : Int) (e_7 : List V) (k0 : ByteArray → Int → List V → Option R) : Option R :=
 (match decide (x_6 < x_4) with
  | true => ZBp N w_1 w_2 fun x5 => (match decide (x5 < 0) with
  | true => k0 w_1 x_6 e_7
  | false => (if (0 : Int) ≤ IntKind.i64.wrap (x5 + x_3) ∧ IntKind.i64.wrap (x5 + x_3) ≤ (w_1.size : Int) then (if (0 : Int) ≤ x_6 ∧ x_6 < k_5 then (match nth e_7 (0 + x_6.toNat) with
    | some e6 => (match putCells e6 0 [.str (ByteArray.extract w_1 0 ((IntKind.i64.wrap (x5 + x_3)).toNat))] with
    | some e7 => (if (0 : Int) ≤ IntKind.i64.wrap (x5 + (w_2.size : Int)) ∧ IntKind.i64.wrap (x5 + (w_2.size : Int)) ≤ (w_1.size : Int) then nx (ByteArray.extract w_1 ((IntKind.i64.wrap (x5 + (w_2.size : Int))).toNat) w_1.size) (IntKind.i64.wrap (x_6 + 1)) (Za3 e_7 (0 + x_6.toNat) e7) else none)
    | none => none)
    | none => none) else none) else none))
  | false => k0 w_1 x_6 e_7)
def ZeX {R : Type} (N : Nat) (w_2 : ByteArray) (x_3 x_4 : Int) (k_5 : Nat) (k0 : ByteArray → Int → List V → Option R) : Nat → ByteArray → Int → List V → Option R
 | 0, _, _, _ => none
 | n + 1, w_1, x_6, e_7 => ZcO N w_2 x_3 x_4 k_5 (fun w_1 x_6 e_7 => ZeX N w_2 x_3 x_4 k_5 k0 n w_1 x_6 e_7) w_1 x_6 e_7 k0
def Zo0 {R : Type} (N : Nat) (w_1 w_2 : ByteArray) (x_3 x_4 : Int) (k0 : List V → Option R) (k1 : Nat → List V → Option R) : Option R :=
 (match (x_4 == 0) with
  | true => k0 []
  | false => (match (w_2.toList == (ByteArray.mk #[]).toList) with
  | true => none
  | false => (match decide (x_4 < 0) with
   | true => ZAQ N w_1 w_2 fun x1 => (if 0 ≤ (if IntKind.i64.wrap ((w_1.size : Int) + 1) < IntKind.i64.wrap (x1 + 1) then IntKind.i64.wrap ((w_1.size : Int) + 1) else IntKind.i64.wrap (x1 + 1)) ∧ (if IntKind.i64.wrap ((w_1.size : Int) + 1) < IntKind.i64.wrap (x1 + 1) then IntKind.i64.wrap ((w_1.size : Int) + 1) else IntKind.i64.wrap (x1 + 1)) = (if IntKind.i64.wrap ((w_1.size : Int) + 1) < IntKind.i64.wrap (x1 + 1) then IntKind.i64.wrap ((w_1.size : Int) + 1) else IntKind.i64.wrap (x1 + 1)) ∧ (if IntKind.i64.wrap ((w_1.size : Int) + 1) < IntKind.i64.wrap (x1 + 1) then IntKind.i64.wrap ((w_1.size : Int) + 1) else IntKind.i64.wrap (x1 + 1)) * 16 ≤ 140737488355328 then ZeX N w_2 x_3 (IntKind.i64.wrap ((if IntKind.i64.wrap ((w_1.size : Int) + 1) < IntKind.i64.wrap (x1 + 1) then IntKind.i64.wrap ((w_1.size : Int) + 1) else IntKind.i64.wrap (x1 + 1)) - 1)) (((if IntKind.i64.wrap ((w_1.size : Int) + 1) < IntKind.i64.wrap (x1 + 1) then IntKind.i64.wrap ((w_1.size : Int) + 1) else IntKind.i64.wrap (x1 + 1))).toNat)
     (fun w8 x9 e10 => (if (0 : Int) ≤ x9 ∧ x9 < ((if IntKind.i64.wrap ((w_1.size : Int) + 1) < IntKind.i64.wrap (x1 + 1) then IntKind.i64.wrap ((w_1.size : Int) + 1) else IntKind.i64.wrap (x1 + 1))).toNat then (match nth e10 (0 + x9.toNat) with
     | some e11 => (match putCells e11 0 [.str w8] with
     | some e12 => (if (0 : Int) ≤ IntKind.i64.wrap (x9 + 1) ∧ IntKind.i64.wrap (x9 + 1) ≤ (((if IntKind.i64.wrap ((w_1.size : Int) + 1) < IntKind.i64.wrap (x1 + 1) then IntKind.i64.wrap ((w_1.size : Int) + 1) else IntKind.i64.wrap (x1 + 1))).toNat : Int) then Zao (Za9 (Za3 e10 (0 + x9.toNat) e12) && true) (k1 ((IntKind.i64.wrap (x9 + 1)).toNat) (Za3 e10 (0 + x9.toNat) e12)) else none)
     | none => none)
     | none => none) else none))
     N w_1 0 (List.replicate (((if IntKind.i64.wrap ((w_1.size : Int) + 1) < IntKind.i64.wrap (x1 + 1) then IntKind.i64.wrap ((w_1.size : Int) + 1) else IntKind.i64.wrap (x1 + 1))).toNat) (.str (ByteArray.mk #[]))) else none)
   | false => (if 0 ≤ (if IntKind.i64.wrap ((w_1.size : Int) + 1) < x_4 then IntKind.i64.wrap ((w_1.size : Int) + 1) else x_4) ∧ (if IntKind.i64.wrap ((w_1.size : Int) + 1) < x_4 then IntKind.i64.wrap ((w_1.size : Int) + 1) else x_4) = (if IntKind.i64.wrap ((w_1.size : Int) + 1) < x_4 then IntKind.i64.wrap ((w_1.size : Int) + 1) else x_4) ∧ (if IntKind.i64.wrap ((w_1.size : Int) + 1) < x_4 then IntKind.i64.wrap ((w_1.size : Int) + 1) else x_4) * 16 ≤ 140737488355328 then ZeX N w_2 x_3 (IntKind.i64.wrap ((if IntKind.i64.wrap ((w_1.size : Int) + 1) < x_4 then IntKind.i64.wrap ((w_1.size : Int) + 1) else x_4) - 1)) (((if IntKind.i64.wrap ((w_1.size : Int) + 1) < x_4 then IntKind.i64.wrap ((w_1.size : Int) + 1) else x_4)).toNat)
     (fun w13 x14 e15 => (if (0 : Int) ≤ x14 ∧ x14 < ((if IntKind.i64.wrap ((w_1.size : Int) + 1) < x_4 then IntKind.i64.wrap ((w_1.size : Int) + 1) else x_4)).toNat then (match nth e15 (0 + x14.toNat) with
     | some e16 => (match putCells e16 0 [.str w13] with
     | some e17 => (if (0 : Int) ≤ IntKind.i64.wrap (x14 + 1) ∧ IntKind.i64.wrap (x14 + 1) ≤ (((if IntKind.i64.wrap ((w_1.size : Int) + 1) < x_4 then IntKind.i64.wrap ((w_1.size : Int) + 1) else x_4)).toNat : Int) then Zao (Za9 (Za3 e15 (0 + x14.toNat) e17) && true) (k1 ((IntKind.i64.wrap (x14 + 1)).toNat) (Za3 e15 (0 + x14.toNat) e17)) else none)
     | none => none)
     | none => none) else none))
     N w_1 0 (List.replicate (((if IntKind.i64.wrap ((w_1.size : Int) + 1) < x_4 then IntKind.i64.wrap ((w_1.size : Int) + 1) else x_4)).toNat) (.str (ByteArray.mk #[]))) else none))))
def ZIg := @ZaE _ @Zo0
theorem ZwG : @ZIg = @Zo0 := @Zak _ @Zo0
def ZoP {R : Type} (N : Nat) (w_1 w_2 : ByteArray) (k0 : List V → Option R) (k1 : Nat → List V → Option R) : Option R :=
 ZIg N w_1 w_2 0 (-1)
   (fun e1 => k0 e1)
   (fun k2 e3 => Zao (Za9 e3 && true) (k1 k2 e3))
def ZEC := @ZaE _ @ZoP
theorem ZvG : @ZEC = @ZoP := @Zak _ @ZoP
def ZkI {R : Type} (N : Nat) (w_1 : ByteArray) (k : Bool → Option R) : Option R :=
 k (w_1.toList == (ByteArray.mk #[]).toList)
def ZC5 := @ZaE _ @ZkI
theorem Zmt : @ZC5 = @ZkI := @Zak _ @ZkI
def Zdq {R : Type} (N : Nat) (e_1 : List V) (f_2 : Fl) (x_3 : Int) (nx : Int → Option R) (x_4 : Int) (k0 : Int → Option R) (k1 : Unit → Option R) : Option R :=
 (match decide (x_4 < x_3) with
  | true => (if 0 ≤ x_4 then Zbq (nth e_1 x_4.toNat) fun e4 => Zbt e4 fun w5 => ZC5 N w5 fun b6 => (match b6 with
   | true => k0 x_4
   | false => nx (IntKind.i64.wrap (x_4 + 1))) else none)
  | false => k1 ())
def ZfQ {R : Type} (N : Nat) (e_1 : List V) (f_2 : Fl) (x_3 : Int) (k0 : Int → Option R) (k1 : Unit → Option R) : Nat → Int → Option R
 | 0, _ => none
 | n + 1, x_4 => Zdq N e_1 f_2 x_3 (fun x_4 => ZfQ N e_1 f_2 x_3 k0 k1 n x_4) x_4 k0 k1
def Zqm {R : Type} (N : Nat) (e_1 : List V) (f_2 : Fl) (k : Int → Option R) : Option R :=
 ZfQ N e_1 f_2 (e_1.length : Int)
   (fun x7 => k x7)
   (fun (_ : Unit) => k (-1))
   N 0
def ZEe := @ZaE _ @Zqm
theorem ZuU : @ZEe = @Zqm := @Zak _ @Zqm
def Zdm {R : Type} (N : Nat) (k_1 : Nat) (nx : Int → Int → List V → Option R) (x_2 x_3 : Int) (e_4 : List V) (k0 : Int → List V → Option R) : Option R :=
 (match decide (x_3 < (k_1 : Int)) with
  | true => (if (0 : Int) ≤ x_3 ∧ x_3 < k_1 then (match nth e_4 (0 + x_3.toNat) with
   | some e10 => Zbs (e10.cells.drop 0) fun c11 l12 => Zbt c11 fun w13 => ZC5 N w13 fun b14 => (match (!b14) with
   | true => (if (0 : Int) ≤ x_2 ∧ x_2 < k_1 then (match nth e_4 (0 + x_2.toNat) with
    | some e15 => (match putCells e15 0 [.str w13] with
     | some e16 => nx (IntKind.i64.wrap (x_2 + 1)) (IntKind.i64.wrap (x_3 + 1)) (Za3 e_4 (0 + x_2.toNat) e16)
     | none => none)
    | none => none) else none)
   | false => nx x_2 (IntKind.i64.wrap (x_3 + 1)) e_4)
   | none => none) else none)
  | false => k0 x_2 e_4)
def ZeT {R : Type} (N : Nat) (k_1 : Nat) (k0 : Int → List V → Option R) : Nat → Int → Int → List V → Option R
 | 0, _, _, _ => none
 | n + 1, x_2, x_3, e_4 => Zdm N k_1 (fun x_2 x_3 e_4 => ZeT N k_1 k0 n x_2 x_3 e_4) x_2 x_3 e_4 k0
def ZnD {R : Type} (N : Nat) (k_1 : Nat) (e_2 : List V) (k : Nat → List V → Option R) : Option R :=
 (match Zbl (Zbh true [some ⟨e_2, 1, 9, 0⟩] 11) ((e_2.drop 0).take k_1) with
  | some e1 => Zao (decide (0 + k_1 ≤ e_2.length)) (ZEe N (e1.map V.lent) .bor fun x2 => (match (x2 == (-1)) with
   | true => Zao (Za9 e_2 && true) (k k_1 e_2)
   | false => ZeT N k_1
     (fun x17 e18 => (if (0 : Int) ≤ x17 ∧ x17 ≤ (k_1 : Int) then Zao (decide ((0 + (x17 : Int).toNat) + (k_1 - (x17 : Int).toNat) ≤ e18.length)) ((if (0 : Int) ≤ x17 ∧ x17 ≤ (k_1 : Int) then Zao (Za9 (Zgo e18 (0 + (x17 : Int).toNat) (k_1 - (x17 : Int).toNat) (.str (ByteArray.mk #[]))) && true) (k ((x17 : Int).toNat) (Zgo e18 (0 + (x17 : Int).toNat) (k_1 - (x17 : Int).toNat) (.str (ByteArray.mk #[])))) else none)) else none))
     N x2 (IntKind.i64.wrap (x2 + 1)) e_2))
  | none => none)
def ZDu := @ZaE _ @ZnD
theorem Zt6 : @ZDu = @ZnD := @Zak _ @ZnD
def ZpH {R : Type} (N : Nat) (w_1 : ByteArray) (k : List V → Option R) : Option R :=
 ZEC N w_1 (ByteArray.mk #[47])
   (fun e1 => none)
   (fun k2 e3 => Zao (Za9 e3 && true) (ZDu N k2 e3 fun k4 e5 => (match Zbl (Zbh false [some ⟨e5, 1, 9, 0⟩] 11) ((e5.drop 0).take k4) with
   | some e6 => Zao (decide (0 + k4 ≤ e5.length)) (Zao (e6.all V.plain) (k e6))
   | none => none)))
def ZpW := @ZaE _ @ZpH
theorem Zwv : @ZpW = @ZpH := @Zak _ @ZpH
def ZnT {R : Type} (N : Nat) (w_1 : ByteArray) (k : Bool → Option R) : Option R :=
 ZzE N w_1 fun b1 => k (!b1)
def ZHe := @ZaE _ @ZnT
theorem ZwN : @ZHe = @ZnT := @Zak _ @ZnT
def Zdf {R : Type} (N : Nat) (e_1 : List V) (f_2 : Fl) (x_3 : Int) (nx : Int → Option R) (x_4 : Int) (k0 : Int → Option R) (k1 : Unit → Option R) : Option R :=
 (match decide (x_4 < x_3) with
  | true => (if 0 ≤ x_4 then Zbq (nth e_1 x_4.toNat) fun e4 => Zbt e4 fun w5 => ZHe N w5 fun b6 => (match b6 with
   | true => k0 x_4
   | false => nx (IntKind.i64.wrap (x_4 + 1))) else none)
  | false => k1 ())
def ZfY {R : Type} (N : Nat) (e_1 : List V) (f_2 : Fl) (x_3 : Int) (k0 : Int → Option R) (k1 : Unit → Option R) : Nat → Int → Option R
 | 0, _ => none
 | n + 1, x_4 => Zdf N e_1 f_2 x_3 (fun x_4 => ZfY N e_1 f_2 x_3 k0 k1 n x_4) x_4 k0 k1
def Zoq {R : Type} (N : Nat) (e_1 : List V) (f_2 : Fl) (k : Int → Option R) : Option R :=
 ZfY N e_1 f_2 (e_1.length : Int)
   (fun x7 => k x7)
   (fun (_ : Unit) => k (-1))
   N 0
def ZHh := @ZaE _ @Zoq
theorem Zud : @ZHh = @Zoq := @Zak _ @Zoq
def ZnA {R : Type} (N : Nat) (e_1 : List V) (f_2 : Fl) (k : Bool → Option R) : Option R :=
 ZHh N e_1 f_2.noOwn.noOwn fun x1 => k (decide (x1 ≥ 0))
def ZFN := @ZaE _ @ZnA
theorem Zvl : @ZFN = @ZnA := @Zak _ @ZnA
def ZpD {R : Type} (N : Nat) (w_1 : ByteArray) (k : Bool → Option R) : Option R :=
 (match (!(w_1.toList == (ByteArray.mk #[]).toList)) with
  | true => ZpW N w_1 fun e1 => ZFN N e1 .sh fun b2 => k (!b2)
  | false => k false)
def ZIf := @ZaE _ @ZpD
theorem Zv8 : @ZIf = @ZpD := @Zak _ @ZpD
def Zqs {R : Type} (N : Nat) (w_1 : ByteArray) (k : Bool → Option R) : Option R :=
 (match decide ((w_1.size : Int) ≤ 60) with
  | true => ZIf N w_1 fun b1 => k b1
  | false => k false)
def ZxT := @ZaE _ @Zqs
theorem Zv6 : @ZxT = @Zqs := @Zak _ @Zqs
def ZpA {R : Type} (N : Nat) (x_1 x_2 x_3 x_4 x_5 : Int) (w_6 : ByteArray) (e_7 : List V) (f_8 : Fl) (k : Bool → Option R) : Option R :=
 (match (x_1 == 0) with
  | true => (match (x_2 == 0) with
  | true => (match (x_3 == 0) with
   | true => (match (x_4 == 0) with
   | true => (match (x_5 == 0) with
    | true => (match (w_6.toList == (ByteArray.mk #[]).toList) with
    | true => k ((e_7.length : Int) == 0)
    | false => k false)
    | false => k false)
   | false => k false)
   | false => k false)
  | false => k false)
  | false => k false)
def ZHA := @ZaE _ @ZpA
theorem ZvJ : @ZHA = @ZpA := @Zak _ @ZpA
def ZnS {R : Type} (N : Nat) (x_1 : Int) (k : Bool → Option R) : Option R :=
 Zip N x_1 0 1000000 fun b1 => k b1
def ZHm := @ZaE _ @ZnS
theorem ZwS : @ZHm = @ZnS := @Zak _ @ZnS
def Zoc {R : Type} (N : Nat) (e_1 : List V) (f_2 : Fl) (x_3 x_4 : Int) (k : Bool → Option R) : Option R :=
 Zip N x_4 0 (IntKind.i64.wrap ((e_1.length : Int) - 1)) fun b1 => (match b1 with
  | true => (if 0 ≤ x_4 then Zbq (nth e_1 x_4.toNat) fun e2 => Zaw e2 fun n3 n4 n5 n6 n7 w8 e9 f10 => k (n3 != 0) else none)
  | false => k false)
def ZBW := @ZaE _ @Zoc
theorem Zvw : @ZBW = @Zoc := @Zak _ @Zoc
def Zde {R : Type} (N : Nat) (e_1 : List V) (f_2 : Fl) (x_3 : Int) (e_5 : List V) (f_6 : Fl) (x_7 x_8 x_9 x_10 x_11 x_12 : Int) (w_13 : ByteArray) (e_14 : List V) (f_15 : Fl) (nx : Int → Option R) (x_4 : Int) (k0 : Unit → Option R) (k1 : Unit → Option R) : Option R :=
 (match decide (x_4 < x_3) with
  | true => (if 0 ≤ x_4 then Zbq (nth e_1 x_4.toNat) fun e16 => ZaZ e16 fun w17 n18 => ZDx N w17 fun b19 => (match (!b19) with
   | true => k0 ()
   | false => (match decide (x_4 > 0) with
   | true => (if 0 ≤ IntKind.i64.wrap (x_4 - 1) then Zbq (nth e_14 ((IntKind.i64.wrap (x_4 - 1)).toNat)) fun e20 => ZaZ e20 fun w21 n22 => (match (!Op.bytesLess w21.toList w17.toList) with
    | true => k0 ()
    | false => ZBW N e_5 f_6.noOwn.noOwn.noOwn.noOwn x_7 n18 fun b23 => (match (!b23) with
     | true => k0 ()
     | false => nx (IntKind.i64.wrap (x_4 + 1)))) else none)
   | false => ZBW N e_5 f_6.noOwn.noOwn.noOwn.noOwn x_7 n18 fun b24 => (match (!b24) with
    | true => k0 ()
    | false => nx (IntKind.i64.wrap (x_4 + 1))))) else none)
  | false => k1 ())
def ZeG {R : Type} (N : Nat) (e_1 : List V) (f_2 : Fl) (x_3 : Int) (e_5 : List V) (f_6 : Fl) (x_7 x_8 x_9 x_10 x_11 x_12 : Int) (w_13 : ByteArray) (e_14 : List V) (f_15 : Fl) (k0 : Unit → Option R) (k1 : Unit → Option R) : Nat → Int → Option R
 | 0, _ => none
 | n + 1, x_4 => Zde N e_1 f_2 x_3 e_5 f_6 x_7 x_8 x_9 x_10 x_11 x_12 w_13 e_14 f_15 (fun x_4 => ZeG N e_1 f_2 x_3 e_5 f_6 x_7 x_8 x_9 x_10 x_11 x_12 w_13 e_14 f_15 k0 k1 n x_4) x_4 k0 k1
def Zo1 {R : Type} (N : Nat) (e_1 : List V) (f_2 : Fl) (x_3 x_4 x_5 x_6 x_7 x_8 : Int) (w_9 : ByteArray) (e_10 : List V) (f_11 : Fl) (k : Bool → Option R) : Option R :=
 (match (x_4 == 0) with
  | true => ZHA N x_4 x_5 x_6 x_7 x_8 w_9 e_10 f_11.noOwn.noOwn fun b1 => k b1
  | false => ZG9 N x_5 fun b2 => (match (!b2) with
  | true => k false
  | false => Zyo N x_6 fun b3 => (match (!b3) with
   | true => k false
   | false => Zyo N x_7 fun b4 => (match (!b4) with
   | true => k false
   | false => ZHm N x_8 fun b5 => (match (!b5) with
    | true => k false
    | false => (match (x_4 != 2) with
    | true => (match decide ((e_10.length : Int) > 0) with
     | true => k false
     | false => (match (x_4 == 1) with
     | true => k (decide ((w_9.size : Int) ≤ 60))
     | false => (match (x_4 == 3) with
      | true => ZxT N w_9 fun b6 => k b6
      | false => (match (x_4 == 2) with
      | true => ZeG N e_10 f_11.noOwn (e_10.length : Int) e_1 f_2 x_3 x_4 x_5 x_6 x_7 x_8 w_9 e_10 f_11
        (fun (_ : Unit) => k false)
        (fun (_ : Unit) => k (w_9.toList == (ByteArray.mk #[]).toList))
        N 0
      | false => k false))))
    | false => (match (x_4 == 1) with
     | true => k (decide ((w_9.size : Int) ≤ 60))
     | false => (match (x_4 == 3) with
     | true => ZxT N w_9 fun b25 => k b25
     | false => (match (x_4 == 2) with
      | true => ZeG N e_10 f_11.noOwn (e_10.length : Int) e_1 f_2 x_3 x_4 x_5 x_6 x_7 x_8 w_9 e_10 f_11
        (fun (_ : Unit) => k false)
        (fun (_ : Unit) => k (w_9.toList == (ByteArray.mk #[]).toList))
        N 0
      | false => k false)))))))))
def ZES := @ZaE _ @Zo1
theorem ZtU : @ZES = @Zo1 := @Zak _ @Zo1
def Zc6 {R : Type} (N : Nat) (e_2 : List V) (f_3 : Fl) (x_4 : Int) (e_6 : List V) (f_7 : Fl) (x_8 : Int) (nx : Int → Int → Option R) (x_1 x_5 : Int) (k0 : Int → Option R) : Option R :=
 (match decide (x_5 < x_4) with
  | true => (if 0 ≤ x_5 then Zbq (nth e_2 x_5.toNat) fun e10 => Zaw e10 fun n11 n12 n13 n14 n15 w16 e17 f18 => nx (IntKind.i64.wrap (x_1 + (w16.size : Int))) (IntKind.i64.wrap (x_5 + 1)) else none)
  | false => k0 x_1)
def ZfU {R : Type} (N : Nat) (e_2 : List V) (f_3 : Fl) (x_4 : Int) (e_6 : List V) (f_7 : Fl) (x_8 : Int) (k0 : Int → Option R) : Nat → Int → Int → Option R
 | 0, _, _ => none
 | n + 1, x_1, x_5 => Zc6 N e_2 f_3 x_4 e_6 f_7 x_8 (fun x_1 x_5 => ZfU N e_2 f_3 x_4 e_6 f_7 x_8 k0 n x_1 x_5) x_1 x_5 k0
def Zpp {R : Type} (N : Nat) (e_1 : List V) (f_2 : Fl) (x_3 : Int) (k : Int → Option R) : Option R :=
 ZfU N e_1 f_2.noOwn (e_1.length : Int) e_1 f_2 x_3
   (fun x19 => k x19)
   N 0 0
def ZEb := @ZaE _ @Zpp
theorem Zwu : @ZEb = @Zpp := @Zak _ @Zpp
def Zc3 {R : Type} (N : Nat) (k_1 : Nat) (e_2 : List V) (f_3 : Fl) (x_4 x_5 : Int) (e_6 : List V) (f_7 : Fl) (x_8 : Int) (e_10 : List V) (f_11 : Fl) (x_12 x_14 x_15 x_16 x_17 x_18 : Int) (w_19 : ByteArray) (e_20 : List V) (f_21 : Fl) (nx : Int → List V → Option R) (x_9 : Int) (e_13 : List V) (k0 : List V → Option R) : Option R :=
 (match decide (x_9 < x_8) with
  | true => (if 0 ≤ x_9 then Zbq (nth e_6 x_9.toNat) fun e19 => ZaZ e19 fun w20 n21 => (if (0 : Int) ≤ n21 ∧ n21 < k_1 then (match nth e_13 (0 + n21.toNat) with
   | some e22 => Zbs (e22.cells.drop 0) fun c23 l24 => asInt .i64 c23 fun n25 => (if (0 : Int) ≤ n21 ∧ n21 < k_1 then (match nth e_13 (0 + n21.toNat) with
    | some e26 => (match putCells e26 0 [.int .i64 (IntKind.i64.wrap (n25 + 1))] with
     | some e27 => nx (IntKind.i64.wrap (x_9 + 1)) ((Za3 e_13 (0 + n21.toNat) e27).map (trimV 3))
     | none => none)
    | none => none) else none)
   | none => none) else none) else none)
  | false => k0 (e_13.map (trimV 3)))
def Ze5 {R : Type} (N : Nat) (k_1 : Nat) (e_2 : List V) (f_3 : Fl) (x_4 x_5 : Int) (e_6 : List V) (f_7 : Fl) (x_8 : Int) (e_10 : List V) (f_11 : Fl) (x_12 x_14 x_15 x_16 x_17 x_18 : Int) (w_19 : ByteArray) (e_20 : List V) (f_21 : Fl) (k0 : List V → Option R) : Nat → Int → List V → Option R
 | 0, _, _ => none
 | n + 1, x_9, e_13 => Zc3 N k_1 e_2 f_3 x_4 x_5 e_6 f_7 x_8 e_10 f_11 x_12 x_14 x_15 x_16 x_17 x_18 w_19 e_20 f_21 (fun x_9 e_13 => Ze5 N k_1 e_2 f_3 x_4 x_5 e_6 f_7 x_8 e_10 f_11 x_12 x_14 x_15 x_16 x_17 x_18 w_19 e_20 f_21 k0 n x_9 e_13) x_9 e_13 k0
def Zdg {R : Type} (N : Nat) (k_1 : Nat) (e_2 : List V) (f_3 : Fl) (x_4 : Int) (e_6 : List V) (f_7 : Fl) (x_8 : Int) (nx : Int → List V → Option R) (x_5 : Int) (e_9 : List V) (k0 : List V → Option R) : Option R :=
 (match decide (x_5 < x_4) with
  | true => (if 0 ≤ x_5 then Zbq (nth e_2 x_5.toNat) fun e29 => Zaw e29 fun n30 n31 n32 n33 n34 w35 e36 f37 => Ze5 N k_1 e_2 f_3 x_4 x_5 e36 f37.noOwn.noOwn (e36.length : Int) e_6 f_7 x_8 n30 n31 n32 n33 n34 w35 e36 f37.noOwn
    (fun e38 => nx (IntKind.i64.wrap (x_5 + 1)) (e38.map (trimV 2)))
    N 0 e_9 else none)
  | false => k0 (e_9.map (trimV 2)))
def ZfS {R : Type} (N : Nat) (k_1 : Nat) (e_2 : List V) (f_3 : Fl) (x_4 : Int) (e_6 : List V) (f_7 : Fl) (x_8 : Int) (k0 : List V → Option R) : Nat → Int → List V → Option R
 | 0, _, _ => none
 | n + 1, x_5, e_9 => Zdg N k_1 e_2 f_3 x_4 e_6 f_7 x_8 (fun x_5 e_9 => ZfS N k_1 e_2 f_3 x_4 e_6 f_7 x_8 k0 n x_5 e_9) x_5 e_9 k0
def ZqH {R : Type} (N : Nat) (e_1 : List V) (f_2 : Fl) (x_3 : Int) (k : List V → Option R) : Option R :=
 (if 0 ≤ (e_1.length : Int) ∧ (e_1.length : Int) = (e_1.length : Int) ∧ (e_1.length : Int) * 8 ≤ 140737488355328 then ZfS N (((e_1.length : Int)).toNat) e_1 f_2.noOwn (e_1.length : Int) e_1 f_2 x_3
    (fun e39 => (match Zbl (Zbh false [some ⟨[.agg [.list 7 e_1 f_2, .int .i64 x_3]], 2, 34, 0⟩, some ⟨e39, 1, 3, 0⟩] 11) ((e39.drop 0).take (((e_1.length : Int)).toNat)) with
   | some e40 => Zao (decide (0 + ((e_1.length : Int)).toNat ≤ e39.length)) (Zao (e40.all V.plain) (k e40))
   | none => none))
    N 0 (List.replicate (((e_1.length : Int)).toNat) (.int .i64 0)) else none)
def ZEJ := @ZaE _ @ZqH
theorem Zu4 : @ZEJ = @ZqH := @Zak _ @ZqH
def ZcV {R : Type} (N : Nat) (e_1 : List V) (f_2 : Fl) (x_3 : Int) (e_5 : List V) (f_6 : Fl) (x_7 : Int) (nx : Int → Option R) (x_4 : Int) (k0 : Unit → Option R) (k1 : Unit → Option R) : Option R :=
 (match decide (x_4 < x_3) with
  | true => (if 0 ≤ x_4 then Zbq (nth e_1 x_4.toNat) fun e22 => Zaw e22 fun n23 n24 n25 n26 n27 w28 e29 f30 => ZES N e_5 f_6.noOwn.noOwn x_7 n23 n24 n25 n26 n27 w28 e29 f30.noOwn.noOwn.noOwn fun b31 => (match (!b31) with
   | true => k0 ()
   | false => nx (IntKind.i64.wrap (x_4 + 1))) else none)
  | false => k1 ())
def Zf4 {R : Type} (N : Nat) (e_1 : List V) (f_2 : Fl) (x_3 : Int) (e_5 : List V) (f_6 : Fl) (x_7 : Int) (k0 : Unit → Option R) (k1 : Unit → Option R) : Nat → Int → Option R
 | 0, _ => none
 | n + 1, x_4 => ZcV N e_1 f_2 x_3 e_5 f_6 x_7 (fun x_4 => Zf4 N e_1 f_2 x_3 e_5 f_6 x_7 k0 k1 n x_4) x_4 k0 k1
def Zdw {R : Type} (N : Nat) (e_1 e_2 : List V) (f_3 : Fl) (x_4 : Int) (e_6 : List V) (f_7 : Fl) (x_8 : Int) (nx : Int → Option R) (x_5 : Int) (k0 : Unit → Option R) (k1 : Unit → Option R) : Option R :=
 (match decide (x_5 < x_4) with
  | true => (if 0 ≤ x_5 then Zbq (nth e_2 x_5.toNat) fun e52 => Zaw e52 fun n53 n54 n55 n56 n57 w58 e59 f60 => (match (x_5 == 0) with
   | true => (match (n53 != 0) with
   | true => (if 0 ≤ x_5 then Zbq (nth e_1 x_5.toNat) fun e61 => asInt .i64 e61 fun n62 => Zip N n62 (if 1 < x_5 then 1 else x_5) 0 fun b63 => (match (!b63) with
    | true => k0 ()
    | false => nx (IntKind.i64.wrap (x_5 + 1))) else none)
   | false => nx (IntKind.i64.wrap (x_5 + 1)))
   | false => (match (n53 == 2) with
   | true => (match (n53 != 0) with
    | true => (if 0 ≤ x_5 then Zbq (nth e_1 x_5.toNat) fun e64 => asInt .i64 e64 fun n65 => Zip N n65 (if 1 < x_5 then 1 else x_5) 1 fun b66 => (match (!b66) with
     | true => k0 ()
     | false => nx (IntKind.i64.wrap (x_5 + 1))) else none)
    | false => nx (IntKind.i64.wrap (x_5 + 1)))
   | false => (match (n53 != 0) with
    | true => (if 0 ≤ x_5 then Zbq (nth e_1 x_5.toNat) fun e67 => asInt .i64 e67 fun n68 => Zip N n68 (if 1 < x_5 then 1 else x_5) 1152921504606846976 fun b69 => (match (!b69) with
     | true => k0 ()
     | false => nx (IntKind.i64.wrap (x_5 + 1))) else none)
    | false => nx (IntKind.i64.wrap (x_5 + 1))))) else none)
  | false => k1 ())
def Zf2 {R : Type} (N : Nat) (e_1 e_2 : List V) (f_3 : Fl) (x_4 : Int) (e_6 : List V) (f_7 : Fl) (x_8 : Int) (k0 : Unit → Option R) (k1 : Unit → Option R) : Nat → Int → Option R
 | 0, _ => none
 | n + 1, x_5 => Zdw N e_1 e_2 f_3 x_4 e_6 f_7 x_8 (fun x_5 => Zf2 N e_1 e_2 f_3 x_4 e_6 f_7 x_8 k0 k1 n x_5) x_5 k0 k1
def Zc0 {R : Type} (N : Nat) (k_1 : Nat) (x_3 : Int) (e_4 : List V) (f_5 : Fl) (x_6 : Int) (e_8 : List V) (f_9 : Fl) (x_10 : Int) (nx : List V → Int → List V → Option R) (e_2 : List V) (x_7 : Int) (e_11 : List V) (k0 : List V → List V → Option R) : Option R :=
 (match decide (x_7 < x_6) with
  | true => (if 0 ≤ x_7 then Zbq (nth e_4 x_7.toNat) fun e101 => ZaZ e101 fun w102 n103 => (if 0 ≤ n103 then Zbq (nth e_8 n103.toNat) fun e104 => Zaw e104 fun n105 n106 n107 n108 n109 w110 e111 f112 => (match (n105 == 2) with
   | true => (if (0 : Int) ≤ n103 ∧ n103 < k_1 then (match nth e_11 (0 + n103.toNat) with
    | some e113 => Zbs (e113.cells.drop 0) fun c114 l115 => asBool c114 fun b116 => (match (!b116) with
     | true => (if (e_2.length + 1) * 8 ≤ 140737488355328 then nx (e_2 ++ ([.int .i64 n103] : List V)) (IntKind.i64.wrap (x_7 + 1)) (e_11.map (trimV 2)) else none)
     | false => nx e_2 (IntKind.i64.wrap (x_7 + 1)) (e_11.map (trimV 2)))
    | none => none) else none)
   | false => nx e_2 (IntKind.i64.wrap (x_7 + 1)) (e_11.map (trimV 2))) else none) else none)
  | false => k0 e_2 (e_11.map (trimV 2)))
def ZeV {R : Type} (N : Nat) (k_1 : Nat) (x_3 : Int) (e_4 : List V) (f_5 : Fl) (x_6 : Int) (e_8 : List V) (f_9 : Fl) (x_10 : Int) (k0 : List V → List V → Option R) : Nat → List V → Int → List V → Option R
 | 0, _, _, _ => none
 | n + 1, e_2, x_7, e_11 => Zc0 N k_1 x_3 e_4 f_5 x_6 e_8 f_9 x_10 (fun e_2 x_7 e_11 => ZeV N k_1 x_3 e_4 f_5 x_6 e_8 f_9 x_10 k0 n e_2 x_7 e_11) e_2 x_7 e_11 k0
def Zc7 {R : Type} (N : Nat) (k_1 : Nat) (e_4 : List V) (f_5 : Fl) (x_6 : Int) (nx : List V → Int → List V → Option R) (e_2 : List V) (x_3 : Int) (e_7 : List V) (k0 : List V → Option R) : Option R :=
 (match decide (x_3 < (e_2.length : Int)) with
  | true => (if 0 ≤ x_3 then Zbq (nth e_2 x_3.toNat) fun e119 => asInt .i64 e119 fun n120 => (if (0 : Int) ≤ n120 ∧ n120 < k_1 then (match nth e_7 (0 + n120.toNat) with
   | some e121 => (match putCells e121 0 [.bool true] with
    | some e122 => (if 0 ≤ x_3 then Zbq (nth e_2 x_3.toNat) fun e123 => asInt .i64 e123 fun n124 => (if 0 ≤ n124 then Zbq (nth e_4 n124.toNat) fun e125 => Zaw e125 fun n126 n127 n128 n129 n130 w131 e132 f133 => ZeV N k_1 x_3 e132 f133.noOwn.noOwn (e132.length : Int) e_4 f_5 x_6
       (fun e134 e135 => nx e134 (IntKind.i64.wrap (x_3 + 1)) e135)
       N e_2 0 (Za3 e_7 (0 + n120.toNat) e122) else none) else none)
    | none => none)
   | none => none) else none) else none)
  | false => k0 e_7)
def Ze0 {R : Type} (N : Nat) (k_1 : Nat) (e_4 : List V) (f_5 : Fl) (x_6 : Int) (k0 : List V → Option R) : Nat → List V → Int → List V → Option R
 | 0, _, _, _ => none
 | n + 1, e_2, x_3, e_7 => Zc7 N k_1 e_4 f_5 x_6 (fun e_2 x_3 e_7 => Ze0 N k_1 e_4 f_5 x_6 k0 n e_2 x_3 e_7) e_2 x_3 e_7 k0
def Zdr {R : Type} (N : Nat) (k_1 : Nat) (e_2 : List V) (f_3 : Fl) (x_4 : Int) (e_6 : List V) (f_7 : Fl) (x_8 : Int) (nx : Int → List V → Option R) (x_5 : Int) (e_9 : List V) (k0 : List V → Option R) (k1 : List V → Option R) : Option R :=
 (match decide (x_5 < x_4) with
  | true => (if 0 ≤ x_5 then Zbq (nth e_2 x_5.toNat) fun e150 => Zaw e150 fun n151 n152 n153 n154 n155 w156 e157 f158 => (match (n151 == 2) with
   | true => (if (0 : Int) ≤ x_5 ∧ x_5 < k_1 then (match nth e_9 (0 + x_5.toNat) with
    | some e159 => Zbs (e159.cells.drop 0) fun c160 l161 => asBool c160 fun b162 => (match (!b162) with
    | true => k0 (e_9.map (trimV 2))
    | false => nx (IntKind.i64.wrap (x_5 + 1)) (e_9.map (trimV 2)))
    | none => none) else none)
   | false => nx (IntKind.i64.wrap (x_5 + 1)) (e_9.map (trimV 2))) else none)
  | false => k1 (e_9.map (trimV 2)))
def Zgq {R : Type} (N : Nat) (k_1 : Nat) (e_2 : List V) (f_3 : Fl) (x_4 : Int) (e_6 : List V) (f_7 : Fl) (x_8 : Int) (k0 : List V → Option R) (k1 : List V → Option R) : Nat → Int → List V → Option R
 | 0, _, _ => none
 | n + 1, x_5, e_9 => Zdr N k_1 e_2 f_3 x_4 e_6 f_7 x_8 (fun x_5 e_9 => Zgq N k_1 e_2 f_3 x_4 e_6 f_7 x_8 k0 k1 n x_5 e_9) x_5 e_9 k0 k1
def ZoR {R : Type} (N : Nat) (e_1 : List V) (f_2 : Fl) (x_3 : Int) (k : Bool → Option R) : Option R :=
 Zip N (e_1.length : Int) 1 40 fun b1 => (match (!b1) with
  | true => k false
  | false => ZH5 N x_3 fun b2 => (match (!b2) with
  | true => k false
  | false => Zbq (nth e_1 0) fun e3 => Zaw e3 fun n4 n5 n6 n7 n8 w9 e10 f11 => (match (n4 != 2) with
   | true => k false
   | false => Zf4 N e_1 f_2.noOwn (e_1.length : Int) e_1 f_2 x_3
     (fun (_ : Unit) => k false)
     (fun (_ : Unit) => ZEb N e_1 f_2.noOwn.noOwn.noOwn.noOwn x_3 fun x32 => (match decide (x32 > x_3) with
    | true => k false
    | false => ZEJ N e_1 f_2.noOwn.noOwn x_3 fun e33 => Zf2 N e33 e_1 f_2.noOwn (e_1.length : Int) e_1 f_2 x_3
      (fun (_ : Unit) => k false)
      (fun (_ : Unit) => (if 0 ≤ (e_1.length : Int) ∧ (e_1.length : Int) = (e_1.length : Int) ∧ (e_1.length : Int) * 1 ≤ 140737488355328 then Ze0 N (((e_1.length : Int)).toNat) e_1 f_2 x_3
       (fun e136 => Zgq N (((e_1.length : Int)).toNat) e_1 f_2.noOwn (e_1.length : Int) e_1 f_2 x_3
       (fun e163 => k false)
       (fun e164 => k true)
       N 0 e136)
       N [.int .i64 0] 0 (List.replicate (((e_1.length : Int)).toNat) (.bool false)) else none))
      N 0))
     N 0)))
def ZFt := @ZaE _ @ZoR
theorem Zuv : @ZFt = @ZoR := @Zak _ @ZoR
def Zp6 {R : Type} (N : Nat) (x_1 x_2 : Int) (k : Bool → Option R) : Option R :=
 Zyo N x_1 fun b1 => (match b1 with
  | true => Zyo N x_2 fun b2 => k b2
  | false => k false)
def ZHr := @ZaE _ @Zp6
theorem Zvg : @ZHr = @Zp6 := @Zak _ @Zp6
def Zoa {R : Type} (N : Nat) (e_1 : List V) (f_2 : Fl) (x_3 x_4 x_5 : Int) (k : Bool → Option R) : Option R :=
 ZFt N e_1 f_2.noOwn.noOwn x_3 fun b1 => (match b1 with
  | true => ZHr N x_4 x_5 fun b2 => k b2
  | false => k false)
def ZEV := @ZaE _ @Zoa
theorem Zt7 : @ZEV = @Zoa := @Zak _ @Zoa
def ZpV {R : Type} (N : Nat) (x_1 x_2 x_3 x_4 x_5 x_6 : Int) (k : Bool → Option R) : Option R :=
 (match (x_1 == 0) with
  | true => k true
  | false => (match (x_1 == x_4) with
  | true => k (IntKind.i64.wrap (BitVec.ofInt IntKind.i64.bits x_6 &&& ~~~(BitVec.ofInt IntKind.i64.bits (Int.fdiv x_3 (2 ^ (min (6 : Int).toNat 64))))).toNat == 0)
  | false => (match (x_2 == x_5) with
   | true => k (IntKind.i64.wrap (BitVec.ofInt IntKind.i64.bits x_6 &&& ~~~(BitVec.ofInt IntKind.i64.bits (IntKind.i64.wrap (BitVec.ofInt IntKind.i64.bits (Int.fdiv x_3 (2 ^ (min (3 : Int).toNat 64))) &&& BitVec.ofInt IntKind.i64.bits 7).toNat))).toNat == 0)
   | false => k (IntKind.i64.wrap (BitVec.ofInt IntKind.i64.bits x_6 &&& ~~~(BitVec.ofInt IntKind.i64.bits (IntKind.i64.wrap (BitVec.ofInt IntKind.i64.bits x_3 &&& BitVec.ofInt IntKind.i64.bits 7).toNat))).toNat == 0))))
def ZGp := @ZaE _ @ZpV
theorem ZwR : @ZGp = @ZpV := @Zak _ @ZpV
def Zn0 {R : Type} (N : Nat) (e_1 : List V) (f_2 : Fl) (x_3 x_4 x_5 x_6 x_7 : Int) (k : Bool → Option R) : Option R :=
 (if 0 ≤ x_6 then Zbq (nth e_1 x_6.toNat) fun e1 => Zaw e1 fun n2 n3 n4 n5 n6 w7 e8 f9 => ZGp N x_4 x_5 n3 n4 n5 x_7 fun b10 => k b10 else none)
def ZGB := @ZaE _ @Zn0
theorem Zue : @ZGB = @Zn0 := @Zak _ @Zn0
def ZoJ {R : Type} (N : Nat) (w_1 : ByteArray) (k : Bool → Option R) : Option R :=
 ZxT N w_1 fun b1 => (match b1 with
  | true => ZcE w_1 0 fun n2 => k (n2 == 47)
  | false => k false)
def ZEn := @ZaE _ @ZoJ
theorem ZuP : @ZEn = @ZoJ := @Zak _ @ZoJ
def ZoE {R : Type} (N : Nat) (w_1 w_2 : ByteArray) (k : Bool → Option R) : Option R :=
 (match decide ((w_1.size : Int) ≥ (w_2.size : Int)) with
  | true => (if (0 : Int) ≤ IntKind.i64.wrap ((w_1.size : Int) - (w_2.size : Int)) ∧ IntKind.i64.wrap ((w_1.size : Int) - (w_2.size : Int)) ≤ (w_1.size : Int) then k ((ByteArray.extract w_1 ((IntKind.i64.wrap ((w_1.size : Int) - (w_2.size : Int))).toNat) w_1.size).toList == w_2.toList) else none)
  | false => k false)
def ZHP := @ZaE _ @ZoE
theorem ZwJ : @ZHP = @ZoE := @Zak _ @ZoE
def ZoY {R : Type} (N : Nat) (w_1 w_2 : ByteArray) (k : Bool → Option R) : Option R :=
 ZHP N w_1 w_2 fun b1 => k b1
def ZEX := @ZaE _ @ZoY
theorem Zwl : @ZEX = @ZoY := @Zak _ @ZoY
def ZnO {R : Type} (N : Nat) (e_1 : List V) (f_2 : Fl) (x_3 x_4 : Int) (k : Bool → Option R) : Option R :=
 (if 0 ≤ x_4 then Zbq (nth e_1 x_4.toNat) fun e1 => Zaw e1 fun n2 n3 n4 n5 n6 w7 e8 f9 => k (n2 == 2) else none)
def Zym := @ZaE _ @ZnO
theorem Zwb : @Zym = @ZnO := @Zak _ @ZnO
def ZcQ {R : Type} (N : Nat) (x_1 x_2 : Int) (e_3 : List V) (f_4 : Fl) (x_5 x_6 : Int) (e_7 : List V) (f_8 : Fl) (x_9 : Int) (e_11 : List V) (f_12 : Fl) (x_13 x_14 x_15 x_16 x_17 x_18 : Int) (w_19 : ByteArray) (e_20 : List V) (f_21 : Fl) (nx : Int → Option R) (x_10 : Int) (k0 : ByteArray → Option R) (k1 : Unit → Option R) : Option R :=
 (match decide (x_10 < x_9) with
  | true => (if 0 ≤ x_10 then Zbq (nth e_7 x_10.toNat) fun e13 => ZaZ e13 fun w14 n15 => (match (n15 == x_1) with
   | true => k0 w14
   | false => nx (IntKind.i64.wrap (x_10 + 1))) else none)
  | false => k1 ())
def ZeW {R : Type} (N : Nat) (x_1 x_2 : Int) (e_3 : List V) (f_4 : Fl) (x_5 x_6 : Int) (e_7 : List V) (f_8 : Fl) (x_9 : Int) (e_11 : List V) (f_12 : Fl) (x_13 x_14 x_15 x_16 x_17 x_18 : Int) (w_19 : ByteArray) (e_20 : List V) (f_21 : Fl) (k0 : ByteArray → Option R) (k1 : Unit → Option R) : Nat → Int → Option R
 | 0, _ => none
 | n + 1, x_10 => ZcQ N x_1 x_2 e_3 f_4 x_5 x_6 e_7 f_8 x_9 e_11 f_12 x_13 x_14 x_15 x_16 x_17 x_18 w_19 e_20 f_21 (fun x_10 => ZeW N x_1 x_2 e_3 f_4 x_5 x_6 e_7 f_8 x_9 e_11 f_12 x_13 x_14 x_15 x_16 x_17 x_18 w_19 e_20 f_21 k0 k1 n x_10) x_10 k0 k1
def Zdb {R : Type} (N : Nat) (x_1 : Int) (e_2 : List V) (f_3 : Fl) (x_4 : Int) (e_6 : List V) (f_7 : Fl) (x_8 : Int) (nx : Int → Option R) (x_5 : Int) (k0 : Int → ByteArray → Option R) (k1 : Unit → Option R) : Option R :=
 (match decide (x_5 < x_4) with
  | true => (if 0 ≤ x_5 then Zbq (nth e_2 x_5.toNat) fun e17 => Zaw e17 fun n18 n19 n20 n21 n22 w23 e24 f25 => ZeW N x_1 x_5 e_2 f_3 x_4 x_5 e24 f25.noOwn.noOwn (e24.length : Int) e_6 f_7 x_8 n18 n19 n20 n21 n22 w23 e24 f25.noOwn
    (fun w26 => k0 x_5 w26)
    (fun (_ : Unit) => nx (IntKind.i64.wrap (x_5 + 1)))
    N 0 else none)
  | false => k1 ())
def Zf8 {R : Type} (N : Nat) (x_1 : Int) (e_2 : List V) (f_3 : Fl) (x_4 : Int) (e_6 : List V) (f_7 : Fl) (x_8 : Int) (k0 : Int → ByteArray → Option R) (k1 : Unit → Option R) : Nat → Int → Option R
 | 0, _ => none
 | n + 1, x_5 => Zdb N x_1 e_2 f_3 x_4 e_6 f_7 x_8 (fun x_5 => Zf8 N x_1 e_2 f_3 x_4 e_6 f_7 x_8 k0 k1 n x_5) x_5 k0 k1
def Zpb {R : Type} (N : Nat) (e_1 : List V) (f_2 : Fl) (x_3 x_4 : Int) (k : Int → ByteArray → Option R) : Option R :=
 Zf8 N x_4 e_1 f_2.noOwn (e_1.length : Int) e_1 f_2 x_3
   (fun x27 w28 => k x27 w28)
   (fun (_ : Unit) => k 0 (ByteArray.mk #[]))
   N 0
def ZCS := @ZaE _ @Zpb
theorem Zva : @ZCS = @Zpb := @Zak _ @Zpb
def ZcX {R : Type} (N : Nat) (w_1 : ByteArray) (e_2 : List V) (f_3 : Fl) (x_4 : Int) (e_6 : List V) (f_7 : Fl) (x_8 : Int) (nx : Int → Option R) (x_5 : Int) (k0 : Int → Option R) (k1 : Unit → Option R) : Option R :=
 (match decide (x_5 < x_4) with
  | true => (if 0 ≤ x_5 then Zbq (nth e_2 x_5.toNat) fun e13 => ZaZ e13 fun w14 n15 => (match (w14.toList == w_1.toList) with
   | true => k0 n15
   | false => nx (IntKind.i64.wrap (x_5 + 1))) else none)
  | false => k1 ())
def Zgw {R : Type} (N : Nat) (w_1 : ByteArray) (e_2 : List V) (f_3 : Fl) (x_4 : Int) (e_6 : List V) (f_7 : Fl) (x_8 : Int) (k0 : Int → Option R) (k1 : Unit → Option R) : Nat → Int → Option R
 | 0, _ => none
 | n + 1, x_5 => ZcX N w_1 e_2 f_3 x_4 e_6 f_7 x_8 (fun x_5 => Zgw N w_1 e_2 f_3 x_4 e_6 f_7 x_8 k0 k1 n x_5) x_5 k0 k1
def Zqe {R : Type} (N : Nat) (e_1 : List V) (f_2 : Fl) (x_3 x_4 : Int) (w_5 : ByteArray) (k : Int → Option R) : Option R :=
 (if 0 ≤ x_4 then Zbq (nth e_1 x_4.toNat) fun e1 => Zaw e1 fun n2 n3 n4 n5 n6 w7 e8 f9 => Zgw N w_5 e8 f9.noOwn (e8.length : Int) e_1 f_2 x_3
    (fun x16 => k x16)
    (fun (_ : Unit) => k (-1))
    N 0 else none)
def ZDy := @ZaE _ @Zqe
theorem ZvL : @ZDy = @Zqe := @Zak _ @Zqe
def ZpM {R : Type} (N : Nat) (x_1 : Int) (k : List V → Option R) : Option R :=
 (if 0 ≤ x_1 ∧ x_1 * (16 : Nat) ≤ 140737488355328 then k [] else none)
def ZHi := @ZaE _ @ZpM
theorem ZvY : @ZHi = @ZpM := @Zak _ @ZpM
def Zfk {R : Type} (N : Nat) (e_1 : List V) (f_2 : Fl) (e_4 : List V) (f_5 : Fl) (x_6 : Int) (nx : Int → Int → Option R) (x_3 x_7 : Int) (k0 : Int → Option R) : Option R :=
 (match decide (x_7 < x_6) with
  | true => (if 0 ≤ x_7 then Zbq (nth e_4 x_7.toNat) fun e4 => ZaQ 1 e4 fun e5 f6 => (match decide (IntKind.i64.wrap (x_3 + (e5.length : Int)) < 0) with
   | true => none
   | false => nx (IntKind.i64.wrap (x_3 + (e5.length : Int))) (IntKind.i64.wrap (x_7 + 1))) else none)
  | false => k0 x_3)
def Ze8 {R : Type} (N : Nat) (e_1 : List V) (f_2 : Fl) (e_4 : List V) (f_5 : Fl) (x_6 : Int) (k0 : Int → Option R) : Nat → Int → Int → Option R
 | 0, _, _ => none
 | n + 1, x_3, x_7 => Zfk N e_1 f_2 e_4 f_5 x_6 (fun x_3 x_7 => Ze8 N e_1 f_2 e_4 f_5 x_6 k0 n x_3 x_7) x_3 x_7 k0
def ZeP {R : Type} (N : Nat) (e_2 : List V) (f_3 : Fl) (x_4 : Int) (nx : List V → Int → Option R) (e_1 : List V) (x_5 : Int) (k0 : List V → Option R) : Option R :=
 (match decide (x_5 < x_4) with
  | true => (if 0 ≤ x_5 then Zbq (nth e_2 x_5.toNat) fun e12 => ZaQ 1 e12 fun e13 f14 => Zao (ZiP f14.noOwn.noOwn e13) ((if (e_1.length + (e13).length) * 16 ≤ 140737488355328 then nx (e_1 ++ (e13).map V.noOwn) (IntKind.i64.wrap (x_5 + 1)) else none)) else none)
  | false => k0 e_1)
def Ze6 {R : Type} (N : Nat) (e_2 : List V) (f_3 : Fl) (x_4 : Int) (k0 : List V → Option R) : Nat → List V → Int → Option R
 | 0, _, _ => none
 | n + 1, e_1, x_5 => ZeP N e_2 f_3 x_4 (fun e_1 x_5 => Ze6 N e_2 f_3 x_4 k0 n e_1 x_5) e_1 x_5 k0
def Zpo {R : Type} (N : Nat) (e_1 : List V) (f_2 : Fl) (k : List V → Option R) : Option R :=
 Ze8 N e_1 f_2 e_1 f_2.noOwn (e_1.length : Int)
   (fun x7 => ZHi N x7 fun e8 => Ze6 N e_1 f_2.noOwn (e_1.length : Int)
    (fun e15 => k e15)
    N e8 0)
   N 0 0
def Zxy := @ZaE _ @Zpo
theorem Zv1 : @Zxy = @Zpo := @Zak _ @Zpo
def Zd2 {R : Type} (N : Nat) (b_1 b_2 : Bool) (e_6 : List V) (f_7 : Fl) (x_8 x_9 x_10 : Int) (nx : List V → Int → Int → Option R) (e_3 : List V) (x_4 x_5 : Int) (k0 : Int → Int → Option R) (k1 : Int → Option R) : Option R :=
 (match decide ((e_3.length : Int) > 0) with
  | true => Zbq (nth e_3 0) fun e29 => Zbt e29 fun w30 => (if (0 : Int) ≤ 1 ∧ 1 ≤ (e_3.length : Int) then Zym N e_6 f_7.noOwn.noOwn x_8 x_4 fun b31 => (match (!b31) with
   | true => k0 3 x_4
   | false => ZGB N e_6 f_7.noOwn.noOwn x_8 x_9 x_10 x_4 1 fun b32 => (match (!b32) with
   | true => k0 4 x_4
   | false => (match (w30.toList == (ByteArray.mk #[46]).toList) with
    | true => nx ((e_3.take e_3.length).drop 1) x_4 x_5
    | false => (match (w30.toList == (ByteArray.mk #[46, 46]).toList) with
    | true => ZCS N e_6 f_7.noOwn.noOwn x_8 x_4 fun x33 w34 => nx ((e_3.take e_3.length).drop 1) x33 x_5
    | false => ZDy N e_6 f_7.noOwn.noOwn x_8 x_4 w30 fun x35 => (match decide (x35 < 0) with
     | true => k0 2 x_4
     | false => (if 0 ≤ x35 then Zbq (nth e_6 x35.toNat) fun e36 => Zaw e36 fun n37 n38 n39 n40 n41 w42 e43 f44 => (match (n37 == 3) with
      | true => (match decide ((((e_3.take e_3.length).drop 1).length : Int) > 0) with
      | true => (match (x_5 == 8) with
       | true => k0 5 x_4
       | false => ZpW N w42 fun e45 => Zxy N [.list 1 e45 .sh, .list 1 ((e_3.take e_3.length).drop 1) .sh] .sh fun e46 => ZcE w42 0 fun n47 => (match (n47 == 47) with
       | true => nx e46 0 (IntKind.i64.wrap (x_5 + 1))
       | false => nx e46 x_4 (IntKind.i64.wrap (x_5 + 1))))
      | false => (match b_1 with
       | true => (match (x_5 == 8) with
       | true => k0 5 x_4
       | false => ZpW N w42 fun e48 => Zxy N [.list 1 e48 .sh, .list 1 ((e_3.take e_3.length).drop 1) .sh] .sh fun e49 => ZcE w42 0 fun n50 => (match (n50 == 47) with
        | true => nx e49 0 (IntKind.i64.wrap (x_5 + 1))
        | false => nx e49 x_4 (IntKind.i64.wrap (x_5 + 1))))
       | false => (match b_2 with
       | true => (match (x_5 == 8) with
        | true => k0 5 x_4
        | false => ZpW N w42 fun e51 => Zxy N [.list 1 e51 .sh, .list 1 ((e_3.take e_3.length).drop 1) .sh] .sh fun e52 => ZcE w42 0 fun n53 => (match (n53 == 47) with
        | true => nx e52 0 (IntKind.i64.wrap (x_5 + 1))
        | false => nx e52 x_4 (IntKind.i64.wrap (x_5 + 1))))
       | false => nx ((e_3.take e_3.length).drop 1) x35 x_5)))
      | false => nx ((e_3.take e_3.length).drop 1) x35 x_5) else none)))))) else none)
  | false => k1 x_4)
def Zew {R : Type} (N : Nat) (b_1 b_2 : Bool) (e_6 : List V) (f_7 : Fl) (x_8 x_9 x_10 : Int) (k0 : Int → Int → Option R) (k1 : Int → Option R) : Nat → List V → Int → Int → Option R
 | 0, _, _, _ => none
 | n + 1, e_3, x_4, x_5 => Zd2 N b_1 b_2 e_6 f_7 x_8 x_9 x_10 (fun e_3 x_4 x_5 => Zew N b_1 b_2 e_6 f_7 x_8 x_9 x_10 k0 k1 n e_3 x_4 x_5) e_3 x_4 x_5 k0 k1
def Zqv {R : Type} (N : Nat) (e_1 : List V) (f_2 : Fl) (x_3 x_4 x_5 : Int) (w_6 : ByteArray) (b_7 : Bool) (k : Int → Int → Option R) : Option R :=
 ZEn N w_6 fun b1 => (match (!b1) with
  | true => k 0 1
  | false => ZEX N w_6 (ByteArray.mk #[47]) fun b2 => ZpW N w_6 fun e3 => Zew N b_7 b2 e_1 f_2 x_3 x_4 x_5
    (fun x54 x55 => k 0 x54)
    (fun x56 => (match b2 with
   | true => Zym N e_1 f_2.noOwn.noOwn x_3 x56 fun b57 => (match (!b57) with
   | true => k 0 3
   | false => k x56 0)
   | false => k x56 0))
    N e3 0 0)
def ZFJ := @ZaE _ @Zqv
theorem Zv7 : @ZFJ = @Zqv := @Zak _ @Zqv
def Zo4 {R : Type} (N : Nat) (e_1 : List V) (f_2 : Fl) (x_3 x_4 x_5 : Int) (w_6 : ByteArray) (k : Int → Int → Option R) : Option R :=
 ZFJ N e_1 f_2.noOwn.noOwn x_3 x_4 x_5 w_6 true fun x1 x2 => (match (x2 == 0) with
  | true => Zym N e_1 f_2.noOwn.noOwn x_3 x1 fun b3 => (match (!b3) with
  | true => k 0 3
  | false => k x1 x2)
  | false => k x1 x2)
def ZGc := @ZaE _ @Zo4
theorem Zui : @ZGc = @Zo4 := @Zak _ @Zo4
def Zpn {R : Type} (N : Nat) (e_1 : List V) (f_2 : Fl) (w_3 : ByteArray) (k : ByteArray → Option R) : Option R :=
 ZGu e_1 w_3 k
def ZIG := @ZaE _ @Zpn
theorem Zvp : @ZIG = @Zpn := @Zak _ @Zpn
def Zow {R : Type} (N : Nat) (e_1 : List V) (f_2 : Fl) (k : ByteArray → Option R) : Option R :=
 ZIG N e_1 f_2.noOwn.noOwn (ByteArray.mk #[47]) fun w1 => (if (ByteArray.mk #[47]).size + w1.size ≤ 4611686018427387904 then k ((ByteArray.mk #[47]) ++ w1) else none)
def ZAc := @ZaE _ @Zow
theorem ZuO : @ZAc = @Zow := @Zak _ @Zow
def Zd8 {R : Type} (N : Nat) (e_2 : List V) (f_3 : Fl) (x_4 : Int) (nx : Int → Nat → Nat → Ob → Option R) (x_1 : Int) (k_5 k_6 : Nat) (O_9 : Ob) (k0 : Nat → Nat → Ob → Option R) : Option R :=
 (match (x_1 != 0) with
  | true => ZCS N e_2 f_3.noOwn.noOwn x_4 x_1 fun x5 w6 => (match Zcq [some ⟨[.agg [.list 7 e_2 f_3, .int .i64 x_4]], 2, 34, 0⟩, some O_9] 1 k_5 with
  | some ob7 => (if k_6 ≤ ob7.es.length then (match Zcq [some ⟨[.agg [.list 7 e_2 f_3, .int .i64 x_4]], 2, 34, 0⟩, some { ob7 with es := (ob7.es.take k_6) }] 1 k_5 with
   | some ob8 => Zao (Nat.beq ob8.elem 9) ((if 0 = 0 ∧ k_6 = ob8.es.length ∧ (k_6 + 1) * 16 ≤ 140737488355328 ∧ 0 < 1 then nx x5 (k_5 + 1) (k_6 + 1) ({ ob8 with es := (ob8.es ++ ([.str w6] : List V)), ver := (k_5 + 1) }) else none))
   | none => none) else none)
  | none => none)
  | false => k0 k_5 k_6 O_9)
def Zig {R : Type} (N : Nat) (e_2 : List V) (f_3 : Fl) (x_4 : Int) (k0 : Nat → Nat → Ob → Option R) : Nat → Int → Nat → Nat → Ob → Option R
 | 0, _, _, _, _ => none
 | n + 1, x_1, k_5, k_6, O_9 => Zd8 N e_2 f_3 x_4 (fun x_1 k_5 k_6 O_9 => Zig N e_2 f_3 x_4 k0 n x_1 k_5 k_6 O_9) x_1 k_5 k_6 O_9 k0
def Zor {R : Type} (N : Nat) (e_1 : List V) (f_2 : Fl) (x_3 x_4 : Int) (k : ByteArray → Option R) : Option R :=
 Zig N e_1 f_2 x_3
   (fun k9 k10 O11 => (match Zcq [some ⟨[.agg [.list 7 e_1 f_2, .int .i64 x_3]], 2, 34, 0⟩, some O11] 1 k9 with
  | some ob12 => (match Nat.beq ob12.esz 1 && Nat.beq 0 0 && Nat.beq k10 ob12.es.length && (strsOf ob12.es).isSome with
   | true => (match Zcq [some ⟨[.agg [.list 7 e_1 f_2, .int .i64 x_3]], 2, 34, 0⟩, some { ob12 with es := (ob12.es.reverse) }] 1 k9 with
   | some ob13 => (match Zbl (Zbh true [some ⟨[.agg [.list 7 e_1 f_2, .int .i64 x_3]], 2, 34, 0⟩, some { ob12 with es := (ob12.es.reverse) }] 11) ((ob13.es.drop 0).take k10) with
    | some e14 => Zao (decide (0 + k10 ≤ ob13.es.length)) ((match Nat.beq ob13.esz 1 with
     | true => ZAc N (e14.map V.lent) .bor fun w15 => k w15
     | false => none))
    | none => none)
   | none => none)
   | false => none)
  | none => none))
   N x_4 0 0 (⟨[], 1, 9, 0⟩ : Ob)
def ZGm := @ZaE _ @Zor
theorem Zwn : @ZGm = @Zor := @Zak _ @Zor
def Zp2 {R : Type} (N : Nat) (e_1 : List V) (f_2 : Fl) (x_3 x_4 x_5 : Int) (w_6 : ByteArray) (k : ByteArray → Int → Bool → Option R) : Option R :=
 ZEV N e_1 f_2.noOwn.noOwn x_3 x_4 x_5 fun b1 => (match (!b1) with
  | true => k (ByteArray.mk #[]) 0 false
  | false => ZGc N e_1 f_2.noOwn.noOwn x_3 x_4 x_5 w_6 fun x2 x3 => (match (x3 != 0) with
  | true => k (ByteArray.mk #[]) x3 true
  | false => ZGm N e_1 f_2.noOwn.noOwn x_3 x2 fun w4 => k w4 0 true))
def ZHo := @ZaE _ @Zp2
theorem Zwd : @ZHo = @Zp2 := @Zak _ @Zp2
def Zk6 {R : Type} (N : Nat) (e_1 : List V) (f_2 : Fl) (x_3 x_4 x_5 : Int) (w_6 : ByteArray) (k : Bool → Option R) : Option R :=
 (match decide ((w_6.size : Int) > 1048576) with
  | true => k true
  | false => ZFP N e_1 f_2.noOwn.noOwn x_3 1048576 fun x1 => (match decide (x1 < 0) with
  | true => k true
  | false => ZyS N e_1 f_2.noOwn.noOwn.noOwn.noOwn x_3 fun e2 x3 => ZDc N x_4 x_5 fun x4 x5 => ZG6 N e2 .sh x3 x4 x5 w_6 fun w6 x7 b8 => ZyS N e_1 f_2.noOwn.noOwn x_3 fun e9 x10 => ZDc N x_4 x_5 fun x11 x12 => ZHo N e9 .sh x10 x11 x12 w_6 fun w13 x14 b15 => (match (!(w13.toList == w6.toList)) with
   | true => k false
   | false => (match (x14 != x7) with
   | true => k false
   | false => (match (!(b15 == b8)) with
    | true => k false
    | false => ZyS N e_1 f_2.noOwn.noOwn.noOwn.noOwn x_3 fun e16 x17 => ZF3 N e9 .sh x10 e16 .sh x17 fun b18 => (match (!b18) with
    | true => k false
    | false => k true))))))
def ZIY := @ZaE _ @Zk6
theorem ZFI : @ZIY = @Zk6 := @Zak _ @Zk6
end
end Go.VM.VL
