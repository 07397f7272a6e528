/- The functions of the program, told plainly: what each computes, as a function of its letters; and that the machine does the same. Printed by vgen.py, a program of this session's own. -/
import Derived.Test.YteekbhpdalbofaaGreatDoorVmZb
import Derived.Test.YteekbhpdalbofaaGreatDoorVmZl
set_option linter.unusedVariables false
namespace Go.VM.VL
noncomputable section
def un_laws_Fs {R : Type} (e : V) (k : List V → Fl → Int → Option R) : Option R :=
 asAgg e fun cs => asCons cs fun v0 l0 => asList 7 v0 fun e_0 f_0 => asCons l0 fun v1 l1 => asInt .i64 v1 fun x_1 => asNil l1 (k e_0 f_0 x_1)
theorem un_laws_Fs_some {R : Type} {e : V} {k : List V → Fl → Int → Option R} {r : R} (h : un_laws_Fs e k = some r) : ∃ e_0 f_0 x_1, e = .agg [.list 7 e_0 f_0, .int .i64 x_1] ∧ k e_0 f_0 x_1 = some r := by
 unfold un_laws_Fs at h
 obtain ⟨_, rfl, h⟩ := asAgg_some h
 obtain ⟨_, _, rfl, h1⟩ := asCons_some h
 obtain ⟨_, _, rfl, h2⟩ := asList_some h1
 obtain ⟨_, _, rfl, h3⟩ := asCons_some h2
 obtain ⟨_, rfl, h4⟩ := asInt_some h3
 obtain ⟨rfl, h5⟩ := asNil_some h4
 exact ⟨_, _, _, rfl, h5⟩
def un_laws_Cred {R : Type} (e : V) (k : Int → Int → Option R) : Option R :=
 asAgg e fun cs => asCons cs fun v0 l0 => asInt .i64 v0 fun x_0 => asCons l0 fun v1 l1 => asInt .i64 v1 fun x_1 => asNil l1 (k x_0 x_1)
theorem un_laws_Cred_some {R : Type} {e : V} {k : Int → Int → Option R} {r : R} (h : un_laws_Cred e k = some r) : ∃ x_0 x_1, e = .agg [.int .i64 x_0, .int .i64 x_1] ∧ k x_0 x_1 = some r := by
 unfold un_laws_Cred at h
 obtain ⟨_, rfl, h⟩ := asAgg_some h
 obtain ⟨_, _, rfl, h1⟩ := asCons_some h
 obtain ⟨_, rfl, h2⟩ := asInt_some h1
 obtain ⟨_, _, rfl, h3⟩ := asCons_some h2
 obtain ⟨_, rfl, h4⟩ := asInt_some h3
 obtain ⟨rfl, h5⟩ := asNil_some h4
 exact ⟨_, _, rfl, h5⟩
def un_impl_Fs {R : Type} (e : V) (k : List V → Fl → Int → Option R) : Option R :=
 asAgg e fun cs => asCons cs fun v0 l0 => asList 7 v0 fun e_0 f_0 => asCons l0 fun v1 l1 => asInt .i64 v1 fun x_1 => asNil l1 (k e_0 f_0 x_1)
theorem un_impl_Fs_some {R : Type} {e : V} {k : List V → Fl → Int → Option R} {r : R} (h : un_impl_Fs e k = some r) : ∃ e_0 f_0 x_1, e = .agg [.list 7 e_0 f_0, .int .i64 x_1] ∧ k e_0 f_0 x_1 = some r := by
 unfold un_impl_Fs at h
 obtain ⟨_, rfl, h⟩ := asAgg_some h
 obtain ⟨_, _, rfl, h1⟩ := asCons_some h
 obtain ⟨_, _, rfl, h2⟩ := asList_some h1
 obtain ⟨_, _, rfl, h3⟩ := asCons_some h2
 obtain ⟨_, rfl, h4⟩ := asInt_some h3
 obtain ⟨rfl, h5⟩ := asNil_some h4
 exact ⟨_, _, _, rfl, h5⟩
def un_impl_Cred {R : Type} (e : V) (k : Int → Int → Option R) : Option R :=
 asAgg e fun cs => asCons cs fun v0 l0 => asInt .i64 v0 fun x_0 => asCons l0 fun v1 l1 => asInt .i64 v1 fun x_1 => asNil l1 (k x_0 x_1)
theorem un_impl_Cred_some {R : Type} {e : V} {k : Int → Int → Option R} {r : R} (h : un_impl_Cred e k = some r) : ∃ x_0 x_1, e = .agg [.int .i64 x_0, .int .i64 x_1] ∧ k x_0 x_1 = some r := by
 unfold un_impl_Cred at h
 obtain ⟨_, rfl, h⟩ := asAgg_some h
 obtain ⟨_, _, rfl, h1⟩ := asCons_some h
 obtain ⟨_, rfl, h2⟩ := asInt_some h1
 obtain ⟨_, _, rfl, h3⟩ := asCons_some h2
 obtain ⟨_, rfl, h4⟩ := asInt_some h3
 obtain ⟨rfl, h5⟩ := asNil_some h4
 exact ⟨_, _, rfl, h5⟩
def un_impl_Node {R : Type} (e : V) (k : Int → Int → Int → Int → Int → ByteArray → List V → Fl → Option R) : Option R :=
 asAgg e fun cs => asCons cs fun v0 l0 => asInt .i64 v0 fun x_0 => asCons l0 fun v1 l1 => asInt .i64 v1 fun x_1 => asCons l1 fun v2 l2 => asInt .i64 v2 fun x_2 => asCons l2 fun v3 l3 => asInt .i64 v3 fun x_3 => asCons l3 fun v4 l4 => asInt .i64 v4 fun x_4 => asCons l4 fun v5 l5 => asStr v5 fun w_5 => asCons l5 fun v6 l6 => asList 2 v6 fun e_6 f_6 => asNil l6 (k x_0 x_1 x_2 x_3 x_4 w_5 e_6 f_6)
theorem un_impl_Node_some {R : Type} {e : V} {k : Int → Int → Int → Int → Int → ByteArray → List V → Fl → Option R} {r : R} (h : un_impl_Node e k = some r) : ∃ x_0 x_1 x_2 x_3 x_4 w_5 e_6 f_6, e = .agg [.int .i64 x_0, .int .i64 x_1, .int .i64 x_2, .int .i64 x_3, .int .i64 x_4, .str w_5, .list 2 e_6 f_6] ∧ k x_0 x_1 x_2 x_3 x_4 w_5 e_6 f_6 = some r := by
 unfold un_impl_Node at h
 obtain ⟨_, rfl, h⟩ := asAgg_some h
 obtain ⟨_, _, rfl, h1⟩ := asCons_some h
 obtain ⟨_, rfl, h2⟩ := asInt_some h1
 obtain ⟨_, _, rfl, h3⟩ := asCons_some h2
 obtain ⟨_, rfl, h4⟩ := asInt_some h3
 obtain ⟨_, _, rfl, h5⟩ := asCons_some h4
 obtain ⟨_, rfl, h6⟩ := asInt_some h5
 obtain ⟨_, _, rfl, h7⟩ := asCons_some h6
 obtain ⟨_, rfl, h8⟩ := asInt_some h7
 obtain ⟨_, _, rfl, h9⟩ := asCons_some h8
 obtain ⟨_, rfl, h10⟩ := asInt_some h9
 obtain ⟨_, _, rfl, h11⟩ := asCons_some h10
 obtain ⟨_, rfl, h12⟩ := asStr_some h11
 obtain ⟨_, _, rfl, h13⟩ := asCons_some h12
 obtain ⟨_, _, rfl, h14⟩ := asList_some h13
 obtain ⟨rfl, h15⟩ := asNil_some h14
 exact ⟨_, _, _, _, _, _, _, _, rfl, h15⟩
def un_impl_Entry {R : Type} (e : V) (k : ByteArray → Int → Option R) : Option R :=
 asAgg e fun cs => asCons cs fun v0 l0 => asStr v0 fun w_0 => asCons l0 fun v1 l1 => asInt .i64 v1 fun x_1 => asNil l1 (k w_0 x_1)
theorem un_impl_Entry_some {R : Type} {e : V} {k : ByteArray → Int → Option R} {r : R} (h : un_impl_Entry e k = some r) : ∃ w_0 x_1, e = .agg [.str w_0, .int .i64 x_1] ∧ k w_0 x_1 = some r := by
 unfold un_impl_Entry at h
 obtain ⟨_, rfl, h⟩ := asAgg_some h
 obtain ⟨_, _, rfl, h1⟩ := asCons_some h
 obtain ⟨_, rfl, h2⟩ := asStr_some h1
 obtain ⟨_, _, rfl, h3⟩ := asCons_some h2
 obtain ⟨_, rfl, h4⟩ := asInt_some h3
 obtain ⟨rfl, h5⟩ := asNil_some h4
 exact ⟨_, _, rfl, h5⟩
def un_laws_Node {R : Type} (e : V) (k : Int → Int → Int → Int → Int → ByteArray → List V → Fl → Option R) : Option R :=
 asAgg e fun cs => asCons cs fun v0 l0 => asInt .i64 v0 fun x_0 => asCons l0 fun v1 l1 => asInt .i64 v1 fun x_1 => asCons l1 fun v2 l2 => asInt .i64 v2 fun x_2 => asCons l2 fun v3 l3 => asInt .i64 v3 fun x_3 => asCons l3 fun v4 l4 => asInt .i64 v4 fun x_4 => asCons l4 fun v5 l5 => asStr v5 fun w_5 => asCons l5 fun v6 l6 => asList 2 v6 fun e_6 f_6 => asNil l6 (k x_0 x_1 x_2 x_3 x_4 w_5 e_6 f_6)
theorem un_laws_Node_some {R : Type} {e : V} {k : Int → Int → Int → Int → Int → ByteArray → List V → Fl → Option R} {r : R} (h : un_laws_Node e k = some r) : ∃ x_0 x_1 x_2 x_3 x_4 w_5 e_6 f_6, e = .agg [.int .i64 x_0, .int .i64 x_1, .int .i64 x_2, .int .i64 x_3, .int .i64 x_4, .str w_5, .list 2 e_6 f_6] ∧ k x_0 x_1 x_2 x_3 x_4 w_5 e_6 f_6 = some r := by
 unfold un_laws_Node at h
 obtain ⟨_, rfl, h⟩ := asAgg_some h
 obtain ⟨_, _, rfl, h1⟩ := asCons_some h
 obtain ⟨_, rfl, h2⟩ := asInt_some h1
 obtain ⟨_, _, rfl, h3⟩ := asCons_some h2
 obtain ⟨_, rfl, h4⟩ := asInt_some h3
 obtain ⟨_, _, rfl, h5⟩ := asCons_some h4
 obtain ⟨_, rfl, h6⟩ := asInt_some h5
 obtain ⟨_, _, rfl, h7⟩ := asCons_some h6
 obtain ⟨_, rfl, h8⟩ := asInt_some h7
 obtain ⟨_, _, rfl, h9⟩ := asCons_some h8
 obtain ⟨_, rfl, h10⟩ := asInt_some h9
 obtain ⟨_, _, rfl, h11⟩ := asCons_some h10
 obtain ⟨_, rfl, h12⟩ := asStr_some h11
 obtain ⟨_, _, rfl, h13⟩ := asCons_some h12
 obtain ⟨_, _, rfl, h14⟩ := asList_some h13
 obtain ⟨rfl, h15⟩ := asNil_some h14
 exact ⟨_, _, _, _, _, _, _, _, rfl, h15⟩
def un_spec_l4W {R : Type} (e : V) (k : List V → Fl → Int → Int → Int → Int → List V → Fl → Int → Option R) : Option R :=
 asAgg e fun cs => asCons cs fun v0 l0 => asList 7 v0 fun e_0 f_0 => asCons l0 fun v1 l1 => asInt .i64 v1 fun x_1 => asCons l1 fun v2 l2 => asInt .i64 v2 fun x_2 => asCons l2 fun v3 l3 => asInt .i64 v3 fun x_3 => asCons l3 fun v4 l4 => asInt .i64 v4 fun x_4 => asCons l4 fun v5 l5 => asList 1 v5 fun e_5 f_5 => asCons l5 fun v6 l6 => asInt .i64 v6 fun x_6 => asNil l6 (k e_0 f_0 x_1 x_2 x_3 x_4 e_5 f_5 x_6)
theorem un_spec_l4W_some {R : Type} {e : V} {k : List V → Fl → Int → Int → Int → Int → List V → Fl → Int → Option R} {r : R} (h : un_spec_l4W e k = some r) : ∃ e_0 f_0 x_1 x_2 x_3 x_4 e_5 f_5 x_6, e = .agg [.list 7 e_0 f_0, .int .i64 x_1, .int .i64 x_2, .int .i64 x_3, .int .i64 x_4, .list 1 e_5 f_5, .int .i64 x_6] ∧ k e_0 f_0 x_1 x_2 x_3 x_4 e_5 f_5 x_6 = some r := by
 unfold un_spec_l4W at h
 obtain ⟨_, rfl, h⟩ := asAgg_some h
 obtain ⟨_, _, rfl, h1⟩ := asCons_some h
 obtain ⟨_, _, rfl, h2⟩ := asList_some h1
 obtain ⟨_, _, rfl, h3⟩ := asCons_some h2
 obtain ⟨_, rfl, h4⟩ := asInt_some h3
 obtain ⟨_, _, rfl, h5⟩ := asCons_some h4
 obtain ⟨_, rfl, h6⟩ := asInt_some h5
 obtain ⟨_, _, rfl, h7⟩ := asCons_some h6
 obtain ⟨_, rfl, h8⟩ := asInt_some h7
 obtain ⟨_, _, rfl, h9⟩ := asCons_some h8
 obtain ⟨_, rfl, h10⟩ := asInt_some h9
 obtain ⟨_, _, rfl, h11⟩ := asCons_some h10
 obtain ⟨_, _, rfl, h12⟩ := asList_some h11
 obtain ⟨_, _, rfl, h13⟩ := asCons_some h12
 obtain ⟨_, rfl, h14⟩ := asInt_some h13
 obtain ⟨rfl, h15⟩ := asNil_some h14
 exact ⟨_, _, _, _, _, _, _, _, _, rfl, h15⟩
def un_laws_Entry {R : Type} (e : V) (k : ByteArray → Int → Option R) : Option R :=
 asAgg e fun cs => asCons cs fun v0 l0 => asStr v0 fun w_0 => asCons l0 fun v1 l1 => asInt .i64 v1 fun x_1 => asNil l1 (k w_0 x_1)
theorem un_laws_Entry_some {R : Type} {e : V} {k : ByteArray → Int → Option R} {r : R} (h : un_laws_Entry e k = some r) : ∃ w_0 x_1, e = .agg [.str w_0, .int .i64 x_1] ∧ k w_0 x_1 = some r := by
 unfold un_laws_Entry at h
 obtain ⟨_, rfl, h⟩ := asAgg_some h
 obtain ⟨_, _, rfl, h1⟩ := asCons_some h
 obtain ⟨_, rfl, h2⟩ := asStr_some h1
 obtain ⟨_, _, rfl, h3⟩ := asCons_some h2
 obtain ⟨_, rfl, h4⟩ := asInt_some h3
 obtain ⟨rfl, h5⟩ := asNil_some h4
 exact ⟨_, _, rfl, h5⟩
def gb_zch {R : Type} (N : Nat) (w_1 : ByteArray) (x_2 x_3 : Int) (k : Int → Option R) : Option R :=
 (match decide (IntKind.i64.wrap (x_3 - (w_1.size : Int)) < 0) with
  | true => k (-1)
  | false => k (IntKind.i64.wrap (x_3 - (w_1.size : Int))))
def g_zch := @sealed _ @gb_zch
theorem g_zch_eq : @g_zch = @gb_zch := @sealed_eq _ @gb_zch
def l_zbu_0_step {R : Type} (N : Nat) (e_1 : List V) (f_2 : Fl) (nx : Int → Int → Option R) (x_3 x_4 : Int) (k0 : Int → Option R) (k1 : Int → Option R) : Option R :=
 (match decide (x_4 < (e_1.length : Int)) with
  | true => (if 0 ≤ x_4 then must (nth e_1 x_4.toNat) fun e5 => un_laws_Entry e5 fun w6 n7 => g_zch N w6 n7 x_3 fun x8 => (match decide (x8 < 0) with
   | true => k0 x8
   | false => nx x8 (IntKind.i64.wrap (x_4 + 1))) else none)
  | false => k1 x_3)
def l_zbu_0 {R : Type} (N : Nat) (e_1 : List V) (f_2 : Fl) (k0 : Int → Option R) (k1 : Int → Option R) : Nat → Int → Int → Option R
 | 0, _, _ => none
 | n + 1, x_3, x_4 => l_zbu_0_step N e_1 f_2 (fun x_3 x_4 => l_zbu_0 N e_1 f_2 k0 k1 n x_3 x_4) x_3 x_4 k0 k1
def gb_zbu {R : Type} (N : Nat) (e_1 : List V) (f_2 : Fl) (x_3 : Int) (k : Int → Option R) : Option R :=
 (match decide (IntKind.i64.wrap (x_3 - (e_1.length : Int)) < 0) with
  | true => k (-1)
  | false => l_zbu_0 N e_1 f_2
    (fun x9 => k (-1))
    (fun x10 => k x10)
    N (IntKind.i64.wrap (x_3 - (e_1.length : Int))) 0)
def g_zbu := @sealed _ @gb_zbu
theorem g_zbu_eq : @g_zbu = @gb_zbu := @sealed_eq _ @gb_zbu
def gb_zdd {R : Type} (N : Nat) (x_1 x_2 x_3 x_4 x_5 : Int) (w_6 : ByteArray) (e_7 : List V) (f_8 : Fl) (x_9 : Int) (k : Int → Option R) : Option R :=
 (match decide (IntKind.i64.wrap (x_9 - (w_6.size : Int)) < 0) with
  | true => k (-1)
  | false => g_zbu N e_7 f_8.noOwn.noOwn (IntKind.i64.wrap (x_9 - (w_6.size : Int))) fun x1 => (match decide (x1 < 0) with
  | true => k (-1)
  | false => k x1))
def g_zdd := @sealed _ @gb_zdd
theorem g_zdd_eq : @g_zdd = @gb_zdd := @sealed_eq _ @gb_zdd
def l_zci_0_step {R : Type} (N : Nat) (e_1 : List V) (f_2 : Fl) (nx : Int → Int → Option R) (x_3 x_4 : Int) (k0 : Int → Option R) (k1 : Int → Option R) : Option R :=
 (match decide (x_4 < (e_1.length : Int)) with
  | true => (if 0 ≤ x_4 then must (nth e_1 x_4.toNat) fun e11 => un_laws_Node e11 fun n12 n13 n14 n15 n16 w17 e18 f19 => g_zdd N n12 n13 n14 n15 n16 w17 e18 f19.noOwn.noOwn x_3 fun x20 => (match decide (x20 < 0) with
   | true => k0 x20
   | false => nx x20 (IntKind.i64.wrap (x_4 + 1))) else none)
  | false => k1 x_3)
def l_zci_0 {R : Type} (N : Nat) (e_1 : List V) (f_2 : Fl) (k0 : Int → Option R) (k1 : Int → Option R) : Nat → Int → Int → Option R
 | 0, _, _ => none
 | n + 1, x_3, x_4 => l_zci_0_step N e_1 f_2 (fun x_3 x_4 => l_zci_0 N e_1 f_2 k0 k1 n x_3 x_4) x_3 x_4 k0 k1
def gb_zci {R : Type} (N : Nat) (e_1 : List V) (f_2 : Fl) (x_3 : Int) (k : Int → Option R) : Option R :=
 (match decide (IntKind.i64.wrap (x_3 - (e_1.length : Int)) < 0) with
  | true => k (-1)
  | false => l_zci_0 N e_1 f_2
    (fun x21 => k (-1))
    (fun x22 => k x22)
    N (IntKind.i64.wrap (x_3 - (e_1.length : Int))) 0)
def g_zci := @sealed _ @gb_zci
theorem g_zci_eq : @g_zci = @gb_zci := @sealed_eq _ @gb_zci
def gb_zdv {R : Type} (N : Nat) (e_1 : List V) (f_2 : Fl) (x_3 x_4 : Int) (k : Int → Option R) : Option R :=
 g_zci N e_1 f_2.noOwn.noOwn x_4 fun x1 => (match decide (x1 < 0) with
  | true => k (-1)
  | false => k x1)
def g_zdv := @sealed _ @gb_zdv
theorem g_zdv_eq : @g_zdv = @gb_zdv := @sealed_eq _ @gb_zdv
def gb_zcj {R : Type} (N : Nat) (w_1 : ByteArray) (x_2 : Int) (k : ByteArray → Int → Option R) : Option R :=
 k w_1 x_2
def g_zcj := @sealed _ @gb_zcj
theorem g_zcj_eq : @g_zcj = @gb_zcj := @sealed_eq _ @gb_zcj
def l_zbv_0_step {R : Type} (N : Nat) (e_1 : List V) (f_2 : Fl) (k_3 : Nat) (nx : Int → List V → Option R) (x_4 : Int) (e_5 : List V) (k0 : List V → Option R) : Option R :=
 (match decide (x_4 < (e_1.length : Int)) with
  | true => (if 0 ≤ x_4 then must (nth e_1 x_4.toNat) fun e8 => un_laws_Entry e8 fun w9 n10 => g_zcj N w9 n10 fun w11 x12 => (if (0 : Int) ≤ x_4 ∧ x_4 < k_3 then (match nth e_5 (0 + x_4.toNat) with
   | some e13 => (match putCells e13 0 [.str w11, .int .i64 x12] with
    | some e14 => nx (IntKind.i64.wrap (x_4 + 1)) (setAt e_5 (0 + x_4.toNat) e14)
    | none => none)
   | none => none) else none) else none)
  | false => k0 e_5)
def l_zbv_0 {R : Type} (N : Nat) (e_1 : List V) (f_2 : Fl) (k_3 : Nat) (k0 : List V → Option R) : Nat → Int → List V → Option R
 | 0, _, _ => none
 | n + 1, x_4, e_5 => l_zbv_0_step N e_1 f_2 k_3 (fun x_4 e_5 => l_zbv_0 N e_1 f_2 k_3 k0 n x_4 e_5) x_4 e_5 k0
def gb_zbv {R : Type} (N : Nat) (e_1 : List V) (f_2 : Fl) (k : List V → Option R) : Option R :=
 (if 0 ≤ (e_1.length : Int) ∧ (e_1.length : Int) = (e_1.length : Int) ∧ (e_1.length : Int) * 24 ≤ 140737488355328 then l_zbv_0 N e_1 f_2 (((e_1.length : Int)).toNat)
    (fun e15 => (match mapSome (freeze false [some ⟨e15, 2, 89, 0⟩] 11) ((e15.drop 0).take (((e_1.length : Int)).toNat)) with
   | some e16 => guardB (decide (0 + ((e_1.length : Int)).toNat ≤ e15.length)) (guardB (e16.all V.plain) (k e16))
   | none => none))
    N 0 (List.replicate (((e_1.length : Int)).toNat) (.agg [.str (ByteArray.mk #[]), .int .i64 0])) else none)
def g_zbv := @sealed _ @gb_zbv
theorem g_zbv_eq : @g_zbv = @gb_zbv := @sealed_eq _ @gb_zbv
def gb_zdf {R : Type} (N : Nat) (x_1 x_2 x_3 x_4 x_5 : Int) (w_6 : ByteArray) (e_7 : List V) (f_8 : Fl) (k : Int → Int → Int → Int → Int → ByteArray → List V → Option R) : Option R :=
 g_zbv N e_7 f_8.noOwn.noOwn fun e1 => k x_1 x_2 x_3 x_4 x_5 w_6 e1
def g_zdf := @sealed _ @gb_zdf
theorem g_zdf_eq : @g_zdf = @gb_zdf := @sealed_eq _ @gb_zdf
def l_zck_0_step {R : Type} (N : Nat) (e_1 : List V) (f_2 : Fl) (k_3 : Nat) (nx : Int → List V → Option R) (x_4 : Int) (e_5 : List V) (k0 : List V → Option R) : Option R :=
 (match decide (x_4 < (e_1.length : Int)) with
  | true => (if 0 ≤ x_4 then must (nth e_1 x_4.toNat) fun e19 => un_laws_Node e19 fun n20 n21 n22 n23 n24 w25 e26 f27 => g_zdf N n20 n21 n22 n23 n24 w25 e26 f27.noOwn.noOwn fun x28 x29 x30 x31 x32 w33 e34 => (if (0 : Int) ≤ x_4 ∧ x_4 < k_3 then (match nth e_5 (0 + x_4.toNat) with
   | some e35 => (match putCells e35 0 [.int .i64 x28, .int .i64 x29, .int .i64 x30, .int .i64 x31, .int .i64 x32, .str w33, .list 2 e34 .sh] with
    | some e36 => nx (IntKind.i64.wrap (x_4 + 1)) (setAt e_5 (0 + x_4.toNat) e36)
    | none => none)
   | none => none) else none) else none)
  | false => k0 e_5)
def l_zck_0 {R : Type} (N : Nat) (e_1 : List V) (f_2 : Fl) (k_3 : Nat) (k0 : List V → Option R) : Nat → Int → List V → Option R
 | 0, _, _ => none
 | n + 1, x_4, e_5 => l_zck_0_step N e_1 f_2 k_3 (fun x_4 e_5 => l_zck_0 N e_1 f_2 k_3 k0 n x_4 e_5) x_4 e_5 k0
def gb_zck {R : Type} (N : Nat) (e_1 : List V) (f_2 : Fl) (k : List V → Option R) : Option R :=
 (if 0 ≤ (e_1.length : Int) ∧ (e_1.length : Int) = (e_1.length : Int) ∧ (e_1.length : Int) * 80 ≤ 140737488355328 then l_zck_0 N e_1 f_2 (((e_1.length : Int)).toNat)
    (fun e37 => (match mapSome (freeze false [some ⟨e37, 7, 87, 0⟩] 11) ((e37.drop 0).take (((e_1.length : Int)).toNat)) with
   | some e38 => guardB (decide (0 + ((e_1.length : Int)).toNat ≤ e37.length)) (guardB (e38.all V.plain) (k e38))
   | none => none))
    N 0 (List.replicate (((e_1.length : Int)).toNat) (.agg [.int .i64 0, .int .i64 0, .int .i64 0, .int .i64 0, .int .i64 0, .str (ByteArray.mk #[]), .list 2 [] (.own 89)])) else none)
def g_zck := @sealed _ @gb_zck
theorem g_zck_eq : @g_zck = @gb_zck := @sealed_eq _ @gb_zck
def gb_zdw {R : Type} (N : Nat) (e_1 : List V) (f_2 : Fl) (x_3 : Int) (k : List V → Int → Option R) : Option R :=
 g_zck N e_1 f_2.noOwn.noOwn fun e1 => k e1 x_3
def g_zdw := @sealed _ @gb_zdw
theorem g_zdw_eq : @g_zdw = @gb_zdw := @sealed_eq _ @gb_zdw
def gb_zde {R : Type} (N : Nat) (x_1 x_2 : Int) (k : Int → Int → Option R) : Option R :=
 k x_1 x_2
def g_zde := @sealed _ @gb_zde
theorem g_zde_eq : @g_zde = @gb_zde := @sealed_eq _ @gb_zde
def gb_zcf {R : Type} (N : Nat) (w_1 : ByteArray) (x_2 : Int) (w_3 : ByteArray) (x_4 : Int) (k : Bool → Option R) : Option R :=
 (match (!(w_1.toList == w_3.toList)) with
  | true => k false
  | false => (match (x_2 != x_4) with
  | true => k false
  | false => k true))
def g_zcf := @sealed _ @gb_zcf
theorem g_zcf_eq : @g_zcf = @gb_zcf := @sealed_eq _ @gb_zcf
def l_zbt_0_step {R : Type} (N : Nat) (e_1 : List V) (f_2 : Fl) (e_3 : List V) (f_4 : Fl) (nx : Int → Option R) (x_5 : Int) (k0 : Unit → Option R) (k1 : Unit → Option R) : Option R :=
 (match decide (x_5 < (e_1.length : Int)) with
  | true => (if 0 ≤ x_5 then must (nth e_1 x_5.toNat) fun e8 => un_impl_Entry e8 fun w9 n10 => (if 0 ≤ x_5 then must (nth e_3 x_5.toNat) fun e11 => un_impl_Entry e11 fun w12 n13 => g_zcf N w9 n10 w12 n13 fun b14 => (match (!b14) with
   | true => k0 ()
   | false => nx (IntKind.i64.wrap (x_5 + 1))) else none) else none)
  | false => k1 ())
def l_zbt_0 {R : Type} (N : Nat) (e_1 : List V) (f_2 : Fl) (e_3 : List V) (f_4 : Fl) (k0 : Unit → Option R) (k1 : Unit → Option R) : Nat → Int → Option R
 | 0, _ => none
 | n + 1, x_5 => l_zbt_0_step N e_1 f_2 e_3 f_4 (fun x_5 => l_zbt_0 N e_1 f_2 e_3 f_4 k0 k1 n x_5) x_5 k0 k1
def gb_zbt {R : Type} (N : Nat) (e_1 : List V) (f_2 : Fl) (e_3 : List V) (f_4 : Fl) (k : Bool → Option R) : Option R :=
 (match ((e_1.length : Int) != (e_3.length : Int)) with
  | true => k false
  | false => l_zbt_0 N e_1 f_2 e_3 f_4
    (fun (_ : Unit) => k false)
    (fun (_ : Unit) => k true)
    N 0)
def g_zbt := @sealed _ @gb_zbt
theorem g_zbt_eq : @g_zbt = @gb_zbt := @sealed_eq _ @gb_zbt
def gb_zdc {R : Type} (N : Nat) (x_1 x_2 x_3 x_4 x_5 : Int) (w_6 : ByteArray) (e_7 : List V) (f_8 : Fl) (x_9 x_10 x_11 x_12 x_13 : Int) (w_14 : ByteArray) (e_15 : List V) (f_16 : Fl) (k : Bool → Option R) : Option R :=
 (match (x_1 != x_9) with
  | true => k false
  | false => (match (x_2 != x_10) with
  | true => k false
  | false => (match (x_3 != x_11) with
   | true => k false
   | false => (match (x_4 != x_12) with
   | true => k false
   | false => (match (x_5 != x_13) with
    | true => k false
    | false => (match (!(w_6.toList == w_14.toList)) with
    | true => k false
    | false => g_zbt N e_7 f_8.noOwn.noOwn e_15 f_16.noOwn.noOwn fun b1 => (match (!b1) with
     | true => k false
     | false => k true)))))))
def g_zdc := @sealed _ @gb_zdc
theorem g_zdc_eq : @g_zdc = @gb_zdc := @sealed_eq _ @gb_zdc
def l_zcg_0_step {R : Type} (N : Nat) (e_1 : List V) (f_2 : Fl) (e_3 : List V) (f_4 : Fl) (nx : Int → Option R) (x_5 : Int) (k0 : Unit → Option R) (k1 : Unit → Option R) : Option R :=
 (match decide (x_5 < (e_1.length : Int)) with
  | true => (if 0 ≤ x_5 then must (nth e_1 x_5.toNat) fun e20 => un_impl_Node e20 fun n21 n22 n23 n24 n25 w26 e27 f28 => (if 0 ≤ x_5 then must (nth e_3 x_5.toNat) fun e29 => un_impl_Node e29 fun n30 n31 n32 n33 n34 w35 e36 f37 => g_zdc N n21 n22 n23 n24 n25 w26 e27 f28.noOwn.noOwn.noOwn.noOwn n30 n31 n32 n33 n34 w35 e36 f37.noOwn.noOwn.noOwn.noOwn fun b38 => (match (!b38) with
   | true => k0 ()
   | false => nx (IntKind.i64.wrap (x_5 + 1))) else none) else none)
  | false => k1 ())
def l_zcg_0 {R : Type} (N : Nat) (e_1 : List V) (f_2 : Fl) (e_3 : List V) (f_4 : Fl) (k0 : Unit → Option R) (k1 : Unit → Option R) : Nat → Int → Option R
 | 0, _ => none
 | n + 1, x_5 => l_zcg_0_step N e_1 f_2 e_3 f_4 (fun x_5 => l_zcg_0 N e_1 f_2 e_3 f_4 k0 k1 n x_5) x_5 k0 k1
def gb_zcg {R : Type} (N : Nat) (e_1 : List V) (f_2 : Fl) (e_3 : List V) (f_4 : Fl) (k : Bool → Option R) : Option R :=
 (match ((e_1.length : Int) != (e_3.length : Int)) with
  | true => k false
  | false => l_zcg_0 N e_1 f_2 e_3 f_4
    (fun (_ : Unit) => k false)
    (fun (_ : Unit) => k true)
    N 0)
def g_zcg := @sealed _ @gb_zcg
theorem g_zcg_eq : @g_zcg = @gb_zcg := @sealed_eq _ @gb_zcg
def gb_zdu {R : Type} (N : Nat) (e_1 : List V) (f_2 : Fl) (x_3 : Int) (e_4 : List V) (f_5 : Fl) (x_6 : Int) (k : Bool → Option R) : Option R :=
 g_zcg N e_1 f_2.noOwn.noOwn e_4 f_5.noOwn.noOwn fun b1 => (match (!b1) with
  | true => k false
  | false => (match (x_3 != x_6) with
  | true => k false
  | false => k true))
def g_zdu := @sealed _ @gb_zdu
theorem g_zdu_eq : @g_zdu = @gb_zdu := @sealed_eq _ @gb_zdu
def l_zdo_0_step {R : Type} (N : Nat) (x_1 : Int) (e_2 : List V) (f_3 : Fl) (x_4 : Int) (nx : Int → Option R) (x_5 : Int) (k0 : Unit → Option R) (k1 : Unit → Option R) : Option R :=
 (match decide (x_5 < x_4) with
  | true => (if 0 ≤ x_5 then must (nth e_2 x_5.toNat) fun e3 => asInt .i64 e3 fun n4 => (match (n4 == x_1) with
   | true => k0 ()
   | false => nx (IntKind.i64.wrap (x_5 + 1))) else none)
  | false => k1 ())
def l_zdo_0 {R : Type} (N : Nat) (x_1 : Int) (e_2 : List V) (f_3 : Fl) (x_4 : Int) (k0 : Unit → Option R) (k1 : Unit → Option R) : Nat → Int → Option R
 | 0, _ => none
 | n + 1, x_5 => l_zdo_0_step N x_1 e_2 f_3 x_4 (fun x_5 => l_zdo_0 N x_1 e_2 f_3 x_4 k0 k1 n x_5) x_5 k0 k1
def gb_zdo {R : Type} (N : Nat) (e_1 : List V) (f_2 : Fl) (x_3 : Int) (k : Bool → Option R) : Option R :=
 l_zdo_0 N x_3 e_1 f_2.noOwn (e_1.length : Int)
   (fun (_ : Unit) => k true)
   (fun (_ : Unit) => k false)
   N 0
def g_zdo := @sealed _ @gb_zdo
theorem g_zdo_eq : @g_zdo = @gb_zdo := @sealed_eq _ @gb_zdo
def gb_zdx {R : Type} (N : Nat) (x_1 x_2 x_3 : Int) (k : Bool → Option R) : Option R :=
 (match decide (x_1 ≥ x_2) with
  | true => k (decide (x_1 ≤ x_3))
  | false => k false)
def g_zdx := @sealed _ @gb_zdx
theorem g_zdx_eq : @g_zdx = @gb_zdx := @sealed_eq _ @gb_zdx
def l_zcp_0_step {R : Type} (N : Nat) (e_2 : List V) (f_3 : Fl) (x_4 : Int) (e_6 : List V) (f_7 : Fl) (x_8 : Int) (nx : Int → Int → Option R) (x_1 x_5 : Int) (k0 : Int → Option R) : Option R :=
 (match decide (x_5 < x_4) with
  | true => (if 0 ≤ x_5 then must (nth e_2 x_5.toNat) fun e10 => un_impl_Node e10 fun n11 n12 n13 n14 n15 w16 e17 f18 => nx (IntKind.i64.wrap (x_1 + (w16.size : Int))) (IntKind.i64.wrap (x_5 + 1)) else none)
  | false => k0 x_1)
def l_zcp_0 {R : Type} (N : Nat) (e_2 : List V) (f_3 : Fl) (x_4 : Int) (e_6 : List V) (f_7 : Fl) (x_8 : Int) (k0 : Int → Option R) : Nat → Int → Int → Option R
 | 0, _, _ => none
 | n + 1, x_1, x_5 => l_zcp_0_step N e_2 f_3 x_4 e_6 f_7 x_8 (fun x_1 x_5 => l_zcp_0 N e_2 f_3 x_4 e_6 f_7 x_8 k0 n x_1 x_5) x_1 x_5 k0
def gb_zcp {R : Type} (N : Nat) (e_1 : List V) (f_2 : Fl) (x_3 : Int) (k : Int → Option R) : Option R :=
 l_zcp_0 N e_1 f_2.noOwn (e_1.length : Int) e_1 f_2 x_3
   (fun x19 => k x19)
   N 0 0
def g_zcp := @sealed _ @gb_zcp
theorem g_zcp_eq : @g_zcp = @gb_zcp := @sealed_eq _ @gb_zcp
def gb_zdh {R : Type} (N : Nat) (x_1 : Int) (k : Bool → Option R) : Option R :=
 g_zdx N x_1 0 511 fun b1 => k b1
def g_zdh := @sealed _ @gb_zdh
theorem g_zdh_eq : @g_zdh = @gb_zdh := @sealed_eq _ @gb_zdh
def l_zcl_0_step {R : Type} (N : Nat) (w_1 : ByteArray) (x_2 : Int) (nx : List V → Int → Int → Option R) (e_3 : List V) (x_4 x_5 : Int) (k0 : List V → Int → Option R) : Option R :=
 (match decide (x_5 < (w_1.size : Int)) with
  | true => byteAt w_1 x_5 fun n2 => (match (n2 == x_2) with
  | true => (if (0 : Int) ≤ x_5 ∧ x_5 ≤ (w_1.size : Int) then (if (0 : Int) ≤ x_4 ∧ x_4 ≤ ((x_5 : Int).toNat : Int) then (if (e_3.length + 1) * 16 ≤ 140737488355328 then nx (e_3 ++ ([.str (ByteArray.extract w_1 ((x_4 : Int).toNat) ((x_5 : Int).toNat))] : List V)) (IntKind.i64.wrap (x_5 + 1)) (IntKind.i64.wrap (x_5 + 1)) else none) else none) else none)
  | false => nx e_3 x_4 (IntKind.i64.wrap (x_5 + 1)))
  | false => k0 e_3 x_4)
def l_zcl_0 {R : Type} (N : Nat) (w_1 : ByteArray) (x_2 : Int) (k0 : List V → Int → Option R) : Nat → List V → Int → Int → Option R
 | 0, _, _, _ => none
 | n + 1, e_3, x_4, x_5 => l_zcl_0_step N w_1 x_2 (fun e_3 x_4 x_5 => l_zcl_0 N w_1 x_2 k0 n e_3 x_4 x_5) e_3 x_4 x_5 k0
def gb_zcl {R : Type} (N : Nat) (w_1 : ByteArray) (x_2 : Int) (k : List V → Option R) : Option R :=
 l_zcl_0 N w_1 x_2
   (fun e3 x4 => (if (0 : Int) ≤ x4 ∧ x4 ≤ (w_1.size : Int) then (if (e3.length + 1) * 16 ≤ 140737488355328 then k (e3 ++ ([.str (ByteArray.extract w_1 ((x4 : Int).toNat) w_1.size)] : List V)) else none) else none))
   N [] 0 0
def g_zcl := @sealed _ @gb_zcl
theorem g_zcl_eq : @g_zcl = @gb_zcl := @sealed_eq _ @gb_zcl
def l_zcn_0_step {R : Type} (N : Nat) (e_2 : List V) (x_3 : Int) (nx : List V → Int → Option R) (e_1 : List V) (x_4 : Int) (k0 : List V → Option R) : Option R :=
 (match decide (x_4 < x_3) with
  | true => (if 0 ≤ x_4 then must (nth e_2 x_4.toNat) fun e4 => asStr e4 fun w5 => (match (!(w5.toList == (ByteArray.mk #[]).toList)) with
   | true => (if (e_1.length + 1) * 16 ≤ 140737488355328 then nx (e_1 ++ ([.str w5] : List V)) (IntKind.i64.wrap (x_4 + 1)) else none)
   | false => nx e_1 (IntKind.i64.wrap (x_4 + 1))) else none)
  | false => k0 e_1)
def l_zcn_0 {R : Type} (N : Nat) (e_2 : List V) (x_3 : Int) (k0 : List V → Option R) : Nat → List V → Int → Option R
 | 0, _, _ => none
 | n + 1, e_1, x_4 => l_zcn_0_step N e_2 x_3 (fun e_1 x_4 => l_zcn_0 N e_2 x_3 k0 n e_1 x_4) e_1 x_4 k0
def gb_zcn {R : Type} (N : Nat) (w_1 : ByteArray) (k : List V → Option R) : Option R :=
 g_zcl N w_1 47 fun e1 => l_zcn_0 N e1 (e1.length : Int)
   (fun e6 => k e6)
   N [] 0
def g_zcn := @sealed _ @gb_zcn
theorem g_zcn_eq : @g_zcn = @gb_zcn := @sealed_eq _ @gb_zcn
def l_zdj_0_step {R : Type} (N : Nat) (w_1 : ByteArray) (nx : Int → Option R) (x_2 : Int) (k0 : Unit → Option R) (k1 : Unit → Option R) : Option R :=
 (match decide (x_2 < (w_1.size : Int)) with
  | true => byteAt w_1 x_2 fun n2 => (match decide (n2 < 97) with
  | true => (match decide (n2 < 48) with
   | true => (match (n2 != 46) with
   | true => (match (n2 != 95) with
    | true => (match (n2 != 45) with
    | true => k0 ()
    | false => nx (IntKind.i64.wrap (x_2 + 1)))
    | false => nx (IntKind.i64.wrap (x_2 + 1)))
   | false => nx (IntKind.i64.wrap (x_2 + 1)))
   | false => (match decide (n2 > 57) with
   | true => (match (n2 != 46) with
    | true => (match (n2 != 95) with
    | true => (match (n2 != 45) with
     | true => k0 ()
     | false => nx (IntKind.i64.wrap (x_2 + 1)))
    | false => nx (IntKind.i64.wrap (x_2 + 1)))
    | false => nx (IntKind.i64.wrap (x_2 + 1)))
   | false => nx (IntKind.i64.wrap (x_2 + 1))))
  | false => (match decide (n2 > 122) with
   | true => (match decide (n2 < 48) with
   | true => (match (n2 != 46) with
    | true => (match (n2 != 95) with
    | true => (match (n2 != 45) with
     | true => k0 ()
     | false => nx (IntKind.i64.wrap (x_2 + 1)))
    | false => nx (IntKind.i64.wrap (x_2 + 1)))
    | false => nx (IntKind.i64.wrap (x_2 + 1)))
   | false => (match decide (n2 > 57) with
    | true => (match (n2 != 46) with
    | true => (match (n2 != 95) with
     | true => (match (n2 != 45) with
     | true => k0 ()
     | false => nx (IntKind.i64.wrap (x_2 + 1)))
     | false => nx (IntKind.i64.wrap (x_2 + 1)))
    | false => nx (IntKind.i64.wrap (x_2 + 1)))
    | false => nx (IntKind.i64.wrap (x_2 + 1))))
   | false => nx (IntKind.i64.wrap (x_2 + 1))))
  | false => k1 ())
def l_zdj_0 {R : Type} (N : Nat) (w_1 : ByteArray) (k0 : Unit → Option R) (k1 : Unit → Option R) : Nat → Int → Option R
 | 0, _ => none
 | n + 1, x_2 => l_zdj_0_step N w_1 (fun x_2 => l_zdj_0 N w_1 k0 k1 n x_2) x_2 k0 k1
def gb_zdj {R : Type} (N : Nat) (w_1 : ByteArray) (k : Bool → Option R) : Option R :=
 l_zdj_0 N w_1
   (fun (_ : Unit) => k false)
   (fun (_ : Unit) => g_zdx N (w_1.size : Int) 1 8 fun b3 => (match b3 with
  | true => (match (!(w_1.toList == (ByteArray.mk #[46]).toList)) with
   | true => k (!(w_1.toList == (ByteArray.mk #[46, 46]).toList))
   | false => k false)
  | false => k false))
   N 0
def g_zdj := @sealed _ @gb_zdj
theorem g_zdj_eq : @g_zdj = @gb_zdj := @sealed_eq _ @gb_zdj
def l_zdk_0_step {R : Type} (N : Nat) (w_1 : ByteArray) (e_2 : List V) (x_3 : Int) (nx : Int → Option R) (x_4 : Int) (k0 : Unit → Option R) (k1 : Unit → Option R) : Option R :=
 (match decide (x_4 < x_3) with
  | true => (if 0 ≤ x_4 then must (nth e_2 x_4.toNat) fun e5 => asStr e5 fun w6 => g_zdj N w6 fun b7 => (match (!b7) with
   | true => (match (!(w6.toList == (ByteArray.mk #[46]).toList)) with
   | true => (match (!(w6.toList == (ByteArray.mk #[46, 46]).toList)) with
    | true => k0 ()
    | false => nx (IntKind.i64.wrap (x_4 + 1)))
   | false => nx (IntKind.i64.wrap (x_4 + 1)))
   | false => nx (IntKind.i64.wrap (x_4 + 1))) else none)
  | false => k1 ())
def l_zdk_0 {R : Type} (N : Nat) (w_1 : ByteArray) (e_2 : List V) (x_3 : Int) (k0 : Unit → Option R) (k1 : Unit → Option R) : Nat → Int → Option R
 | 0, _ => none
 | n + 1, x_4 => l_zdk_0_step N w_1 e_2 x_3 (fun x_4 => l_zdk_0 N w_1 e_2 x_3 k0 k1 n x_4) x_4 k0 k1
def gb_zdk {R : Type} (N : Nat) (w_1 : ByteArray) (k : Bool → Option R) : Option R :=
 g_zcn N w_1 fun e1 => l_zdk_0 N w_1 e1 (e1.length : Int)
   (fun (_ : Unit) => k false)
   (fun (_ : Unit) => g_zdx N (w_1.size : Int) 1 60 fun b8 => k b8)
   N 0
def g_zdk := @sealed _ @gb_zdk
theorem g_zdk_eq : @g_zdk = @gb_zdk := @sealed_eq _ @gb_zdk
def l_zbj_0_step {R : Type} (N : Nat) (e_1 : List V) (f_2 : Fl) (e_3 : List V) (f_4 : Fl) (x_5 : Int) (e_7 : List V) (f_8 : Fl) (x_9 : Int) (nx : Int → Option R) (x_6 : Int) (k0 : Unit → Option R) (k1 : Unit → Option R) : Option R :=
 (match decide (x_6 < x_5) with
  | true => (if 0 ≤ x_6 then must (nth e_3 x_6.toNat) fun e28 => un_impl_Entry e28 fun w29 n30 => g_zdj N w29 fun b31 => (match (!b31) with
   | true => k0 ()
   | false => (match decide (x_6 > 0) with
   | true => (if 0 ≤ IntKind.i64.wrap (x_6 - 1) then must (nth e_1 ((IntKind.i64.wrap (x_6 - 1)).toNat)) fun e32 => un_impl_Entry e32 fun w33 n34 => (match (!Op.bytesLess w33.toList w29.toList) with
    | true => k0 ()
    | false => g_zdx N n30 1 (IntKind.i64.wrap ((e_7.length : Int) - 1)) fun b35 => (match (!b35) with
     | true => k0 ()
     | false => (if 0 ≤ n30 then must (nth e_7 n30.toNat) fun e36 => un_impl_Node e36 fun n37 n38 n39 n40 n41 w42 e43 f44 => (match (n37 == 0) with
      | true => k0 ()
      | false => nx (IntKind.i64.wrap (x_6 + 1))) else none))) else none)
   | false => g_zdx N n30 1 (IntKind.i64.wrap ((e_7.length : Int) - 1)) fun b45 => (match (!b45) with
    | true => k0 ()
    | false => (if 0 ≤ n30 then must (nth e_7 n30.toNat) fun e46 => un_impl_Node e46 fun n47 n48 n49 n50 n51 w52 e53 f54 => (match (n47 == 0) with
     | true => k0 ()
     | false => nx (IntKind.i64.wrap (x_6 + 1))) else none)))) else none)
  | false => k1 ())
def l_zbj_0 {R : Type} (N : Nat) (e_1 : List V) (f_2 : Fl) (e_3 : List V) (f_4 : Fl) (x_5 : Int) (e_7 : List V) (f_8 : Fl) (x_9 : Int) (k0 : Unit → Option R) (k1 : Unit → Option R) : Nat → Int → Option R
 | 0, _ => none
 | n + 1, x_6 => l_zbj_0_step N e_1 f_2 e_3 f_4 x_5 e_7 f_8 x_9 (fun x_6 => l_zbj_0 N e_1 f_2 e_3 f_4 x_5 e_7 f_8 x_9 k0 k1 n x_6) x_6 k0 k1
def gb_zbj {R : Type} (N : Nat) (e_1 : List V) (f_2 : Fl) (x_3 : Int) (e_4 : List V) (f_5 : Fl) (k : Bool → Option R) : Option R :=
 l_zbj_0 N e_4 f_5 e_4 f_5.noOwn (e_4.length : Int) e_1 f_2 x_3
   (fun (_ : Unit) => k false)
   (fun (_ : Unit) => k true)
   N 0
def g_zbj := @sealed _ @gb_zbj
theorem g_zbj_eq : @g_zbj = @gb_zbj := @sealed_eq _ @gb_zbj
def gb_zdm {R : Type} (N : Nat) (e_1 : List V) (f_2 : Fl) (x_3 x_4 x_5 x_6 x_7 x_8 : Int) (w_9 : ByteArray) (e_10 : List V) (f_11 : Fl) (k : Bool → Option R) : Option R :=
 (match (x_4 == 0) with
  | true => (match (x_5 == 0) with
  | true => (match (x_6 == 0) with
   | true => (match (x_7 == 0) with
   | true => (match (x_8 == 0) with
    | true => (match (w_9.toList == (ByteArray.mk #[]).toList) with
    | true => k ((e_10.length : Int) == 0)
    | false => k false)
    | false => k false)
   | false => k false)
   | false => k false)
  | false => k false)
  | false => g_zdh N x_5 fun b1 => (match (!b1) with
  | true => k false
  | false => g_zdx N x_6 0 99 fun b2 => (match (!b2) with
   | true => k false
   | false => g_zdx N x_7 0 99 fun b3 => (match (!b3) with
   | true => k false
   | false => g_zdx N x_8 0 1000000 fun b4 => (match (!b4) with
    | true => k false
    | false => (match (x_4 == 1) with
    | true => (match decide ((w_9.size : Int) ≤ 60) with
     | true => k ((e_10.length : Int) == 0)
     | false => k false)
    | false => (match (x_4 == 2) with
     | true => (match (w_9.toList == (ByteArray.mk #[]).toList) with
     | true => g_zbj N e_1 f_2.noOwn.noOwn x_3 e_10 f_11.noOwn.noOwn fun b5 => k b5
     | false => k false)
     | false => (match (x_4 == 3) with
     | true => g_zdk N w_9 fun b6 => (match b6 with
      | true => k ((e_10.length : Int) == 0)
      | false => k false)
     | false => k false))))))))
def g_zdm := @sealed _ @gb_zdm
theorem g_zdm_eq : @g_zdm = @gb_zdm := @sealed_eq _ @gb_zdm
def l_zdq_0_step {R : Type} (N : Nat) (e_1 : List V) (f_2 : Fl) (x_3 : Int) (nx : Int → Option R) (x_4 : Int) (k0 : Int → Option R) : Option R :=
 (match decide (x_4 < (e_1.length : Int)) with
  | true => (if 0 ≤ x_4 then must (nth e_1 x_4.toNat) fun e3 => asInt .i64 e3 fun n4 => (match decide (n4 < x_3) with
   | true => nx (IntKind.i64.wrap (x_4 + 1))
   | false => k0 x_4) else none)
  | false => k0 x_4)
def l_zdq_0 {R : Type} (N : Nat) (e_1 : List V) (f_2 : Fl) (x_3 : Int) (k0 : Int → Option R) : Nat → Int → Option R
 | 0, _ => none
 | n + 1, x_4 => l_zdq_0_step N e_1 f_2 x_3 (fun x_4 => l_zdq_0 N e_1 f_2 x_3 k0 n x_4) x_4 k0
def gb_zdq {R : Type} (N : Nat) (e_1 : List V) (f_2 : Fl) (x_3 : Int) (k : List V → Option R) : Option R :=
 l_zdq_0 N e_1 f_2 x_3
   (fun x5 => (match decide (x5 < (e_1.length : Int)) with
  | true => (if 0 ≤ x5 then must (nth e_1 x5.toNat) fun e6 => asInt .i64 e6 fun n7 => (match (n7 == x_3) with
   | true => stillFl f_2 (k e_1)
   | false => (if (0 : Int) ≤ x5 ∧ x5 ≤ (e_1.length : Int) then guardB (okAdd f_2.noOwn.noOwn ((e_1.take ((x5 : Int).toNat)).drop 0)) ((if (0 + (((e_1.take ((x5 : Int).toNat)).drop 0)).length) * 8 ≤ 140737488355328 then (if ((([] : List V) ++ (((e_1.take ((x5 : Int).toNat)).drop 0)).map V.noOwn).length + 1) * 8 ≤ 140737488355328 then (if (0 : Int) ≤ x5 ∧ x5 ≤ (e_1.length : Int) then guardB (okAdd f_2.noOwn.noOwn ((e_1.take e_1.length).drop ((x5 : Int).toNat))) ((if (((([] : List V) ++ (((e_1.take ((x5 : Int).toNat)).drop 0)).map V.noOwn) ++ ([.int .i64 x_3] : List V)).length + (((e_1.take e_1.length).drop ((x5 : Int).toNat))).length) * 8 ≤ 140737488355328 then k (((([] : List V) ++ (((e_1.take ((x5 : Int).toNat)).drop 0)).map V.noOwn) ++ ([.int .i64 x_3] : List V)) ++ (((e_1.take e_1.length).drop ((x5 : Int).toNat))).map V.noOwn) else none)) else none) else none) else none)) else none)) else none)
  | false => (if (0 : Int) ≤ x5 ∧ x5 ≤ (e_1.length : Int) then guardB (okAdd f_2.noOwn.noOwn ((e_1.take ((x5 : Int).toNat)).drop 0)) ((if (0 + (((e_1.take ((x5 : Int).toNat)).drop 0)).length) * 8 ≤ 140737488355328 then (if ((([] : List V) ++ (((e_1.take ((x5 : Int).toNat)).drop 0)).map V.noOwn).length + 1) * 8 ≤ 140737488355328 then (if (0 : Int) ≤ x5 ∧ x5 ≤ (e_1.length : Int) then guardB (okAdd f_2.noOwn.noOwn ((e_1.take e_1.length).drop ((x5 : Int).toNat))) ((if (((([] : List V) ++ (((e_1.take ((x5 : Int).toNat)).drop 0)).map V.noOwn) ++ ([.int .i64 x_3] : List V)).length + (((e_1.take e_1.length).drop ((x5 : Int).toNat))).length) * 8 ≤ 140737488355328 then k (((([] : List V) ++ (((e_1.take ((x5 : Int).toNat)).drop 0)).map V.noOwn) ++ ([.int .i64 x_3] : List V)) ++ (((e_1.take e_1.length).drop ((x5 : Int).toNat))).map V.noOwn) else none)) else none) else none) else none)) else none)))
   N 0
def g_zdq := @sealed _ @gb_zdq
theorem g_zdq_eq : @g_zdq = @gb_zdq := @sealed_eq _ @gb_zdq
def l_zdr_0_step {R : Type} (N : Nat) (rec_ : (R : Type) → List V → Fl → Int → Int → List V → Fl → (List V → Option R) → Option R) (e_2 : List V) (f_3 : Fl) (x_4 : Int) (e_6 : List V) (f_7 : Fl) (x_8 : Int) (nx : List V → Int → Option R) (e_1 : List V) (x_5 : Int) (k0 : List V → Option R) : Option R :=
 (match decide (x_5 < x_4) with
  | true => (if 0 ≤ x_5 then must (nth e_2 x_5.toNat) fun e16 => un_impl_Entry e16 fun w17 n18 => rec_ R e_6 f_7.noOwn.noOwn x_8 n18 e_1 .sh fun e19 => nx e19 (IntKind.i64.wrap (x_5 + 1)) else none)
  | false => k0 e_1)
def l_zdr_0 {R : Type} (N : Nat) (rec_ : (R : Type) → List V → Fl → Int → Int → List V → Fl → (List V → Option R) → Option R) (e_2 : List V) (f_3 : Fl) (x_4 : Int) (e_6 : List V) (f_7 : Fl) (x_8 : Int) (k0 : List V → Option R) : Nat → List V → Int → Option R
 | 0, _, _ => none
 | n + 1, e_1, x_5 => l_zdr_0_step N rec_ e_2 f_3 x_4 e_6 f_7 x_8 (fun e_1 x_5 => l_zdr_0 N rec_ e_2 f_3 x_4 e_6 f_7 x_8 k0 n e_1 x_5) e_1 x_5 k0
def gb_zdr {R : Type} (N : Nat) (rec_ : (R : Type) → List V → Fl → Int → Int → List V → Fl → (List V → Option R) → Option R) (e_1 : List V) (f_2 : Fl) (x_3 x_4 : Int) (e_5 : List V) (f_6 : Fl) (k : List V → Option R) : Option R :=
 g_zdo N e_5 f_6.noOwn.noOwn x_4 fun b1 => (match b1 with
  | true => stillFl f_6 (k e_5)
  | false => g_zdq N e_5 f_6.noOwn.noOwn x_4 fun e2 => (if 0 ≤ x_4 then must (nth e_1 x_4.toNat) fun e3 => un_impl_Node e3 fun n4 n5 n6 n7 n8 w9 e10 f11 => l_zdr_0 N rec_ e10 f11.noOwn (e10.length : Int) e_1 f_2 x_3
    (fun e20 => k e20)
    N e2 0 else none))
def gr_zdr (N : Nat) : Nat → (R : Type) → List V → Fl → Int → Int → List V → Fl → (List V → Option R) → Option R
 | 0, _, _, _, _, _, _, _, _ => none
 | M + 1, _, e_1, f_2, x_3, x_4, e_5, f_6, k => gb_zdr N (gr_zdr N M) e_1 f_2 x_3 x_4 e_5 f_6 k
def g_zdr (N : Nat) : Nat → (R : Type) → List V → Fl → Int → Int → List V → Fl → (List V → Option R) → Option R := sealed gr_zdr N
theorem g_zdr_zero (N : Nat) (R : Type) (e_1 : List V) (f_2 : Fl) (x_3 x_4 : Int) (e_5 : List V) (f_6 : Fl) (k : List V → Option R) : g_zdr N 0 R e_1 f_2 x_3 x_4 e_5 f_6 k = none := by unfold g_zdr; rw [sealed_eq]; rfl
theorem g_zdr_eq (N M : Nat) (R : Type) (e_1 : List V) (f_2 : Fl) (x_3 x_4 : Int) (e_5 : List V) (f_6 : Fl) (k : List V → Option R) : g_zdr N (M + 1) R e_1 f_2 x_3 x_4 e_5 f_6 k = gb_zdr N (g_zdr N M) e_1 f_2 x_3 x_4 e_5 f_6 k := by unfold g_zdr; rw [sealed_eq]; rfl
def l_zcq_0_step {R : Type} (N : Nat) (x_1 : Int) (e_3 : List V) (f_4 : Fl) (x_5 x_6 : Int) (e_7 : List V) (f_8 : Fl) (x_9 : Int) (e_11 : List V) (f_12 : Fl) (x_13 x_14 x_15 x_16 x_17 x_18 : Int) (w_19 : ByteArray) (e_20 : List V) (f_21 : Fl) (nx : Int → Int → Option R) (x_2 x_10 : Int) (k0 : Int → Option R) : Option R :=
 (match decide (x_10 < x_9) with
  | true => (if 0 ≤ x_10 then must (nth e_7 x_10.toNat) fun e13 => un_impl_Entry e13 fun w14 n15 => (match (n15 == x_1) with
   | true => nx (IntKind.i64.wrap (x_2 + 1)) (IntKind.i64.wrap (x_10 + 1))
   | false => nx x_2 (IntKind.i64.wrap (x_10 + 1))) else none)
  | false => k0 x_2)
def l_zcq_0 {R : Type} (N : Nat) (x_1 : Int) (e_3 : List V) (f_4 : Fl) (x_5 x_6 : Int) (e_7 : List V) (f_8 : Fl) (x_9 : Int) (e_11 : List V) (f_12 : Fl) (x_13 x_14 x_15 x_16 x_17 x_18 : Int) (w_19 : ByteArray) (e_20 : List V) (f_21 : Fl) (k0 : Int → Option R) : Nat → Int → Int → Option R
 | 0, _, _ => none
 | n + 1, x_2, x_10 => l_zcq_0_step N x_1 e_3 f_4 x_5 x_6 e_7 f_8 x_9 e_11 f_12 x_13 x_14 x_15 x_16 x_17 x_18 w_19 e_20 f_21 (fun x_2 x_10 => l_zcq_0 N x_1 e_3 f_4 x_5 x_6 e_7 f_8 x_9 e_11 f_12 x_13 x_14 x_15 x_16 x_17 x_18 w_19 e_20 f_21 k0 n x_2 x_10) x_2 x_10 k0
def l_zcq_1_step {R : Type} (N : Nat) (x_1 : Int) (e_3 : List V) (f_4 : Fl) (x_5 : Int) (e_7 : List V) (f_8 : Fl) (x_9 : Int) (nx : Int → Int → Option R) (x_2 x_6 : Int) (k0 : Int → Option R) : Option R :=
 (match decide (x_6 < x_5) with
  | true => (if 0 ≤ x_6 then must (nth e_3 x_6.toNat) fun e17 => un_impl_Node e17 fun n18 n19 n20 n21 n22 w23 e24 f25 => l_zcq_0 N x_1 e_3 f_4 x_5 x_6 e24 f25.noOwn.noOwn (e24.length : Int) e_7 f_8 x_9 n18 n19 n20 n21 n22 w23 e24 f25.noOwn
    (fun x26 => nx x26 (IntKind.i64.wrap (x_6 + 1)))
    N x_2 0 else none)
  | false => k0 x_2)
def l_zcq_1 {R : Type} (N : Nat) (x_1 : Int) (e_3 : List V) (f_4 : Fl) (x_5 : Int) (e_7 : List V) (f_8 : Fl) (x_9 : Int) (k0 : Int → Option R) : Nat → Int → Int → Option R
 | 0, _, _ => none
 | n + 1, x_2, x_6 => l_zcq_1_step N x_1 e_3 f_4 x_5 e_7 f_8 x_9 (fun x_2 x_6 => l_zcq_1 N x_1 e_3 f_4 x_5 e_7 f_8 x_9 k0 n x_2 x_6) x_2 x_6 k0
def gb_zcq {R : Type} (N : Nat) (e_1 : List V) (f_2 : Fl) (x_3 x_4 : Int) (k : Int → Option R) : Option R :=
 l_zcq_1 N x_4 e_1 f_2.noOwn (e_1.length : Int) e_1 f_2 x_3
   (fun x27 => k x27)
   N 0 0
def g_zcq := @sealed _ @gb_zcq
theorem g_zcq_eq : @g_zcq = @gb_zcq := @sealed_eq _ @gb_zcq
def l_zdl_0_step {R : Type} (N : Nat) (e_1 : List V) (f_2 : Fl) (x_3 : Int) (e_5 : List V) (f_6 : Fl) (x_7 : Int) (nx : Int → Option R) (x_4 : Int) (k0 : Unit → Option R) (k1 : Unit → Option R) : Option R :=
 (match decide (x_4 < x_3) with
  | true => (if 0 ≤ x_4 then must (nth e_1 x_4.toNat) fun e23 => un_impl_Node e23 fun n24 n25 n26 n27 n28 w29 e30 f31 => g_zdm N e_5 f_6.noOwn.noOwn x_7 n24 n25 n26 n27 n28 w29 e30 f31.noOwn.noOwn.noOwn fun b32 => (match (!b32) with
   | true => k0 ()
   | false => nx (IntKind.i64.wrap (x_4 + 1))) else none)
  | false => k1 ())
def l_zdl_0 {R : Type} (N : Nat) (e_1 : List V) (f_2 : Fl) (x_3 : Int) (e_5 : List V) (f_6 : Fl) (x_7 : Int) (k0 : Unit → Option R) (k1 : Unit → Option R) : Nat → Int → Option R
 | 0, _ => none
 | n + 1, x_4 => l_zdl_0_step N e_1 f_2 x_3 e_5 f_6 x_7 (fun x_4 => l_zdl_0 N e_1 f_2 x_3 e_5 f_6 x_7 k0 k1 n x_4) x_4 k0 k1
def l_zdl_1_step {R : Type} (N : Nat) (e_1 e_2 : List V) (f_3 : Fl) (x_4 : Int) (e_6 : List V) (f_7 : Fl) (x_8 : Int) (nx : Int → Option R) (x_5 : Int) (k0 : Unit → Option R) (k1 : Unit → Option R) : Option R :=
 (match decide (x_5 < x_4) with
  | true => (if 0 ≤ x_5 then must (nth e_2 x_5.toNat) fun e50 => un_impl_Node e50 fun n51 n52 n53 n54 n55 w56 e57 f58 => g_zcq N e_6 f_7.noOwn.noOwn x_8 x_5 fun x59 => (match (x_5 == 0) with
   | true => (match decide (x59 > 0) with
   | true => k0 ()
   | false => (match decide (x_5 > 0) with
    | true => (match (n51 == 2) with
    | true => (match (x59 != 1) with
     | true => k0 ()
     | false => (match (n51 != 0) with
     | true => g_zdo N e_1 .sh x_5 fun b60 => (match (!b60) with
      | true => k0 ()
      | false => nx (IntKind.i64.wrap (x_5 + 1)))
     | false => nx (IntKind.i64.wrap (x_5 + 1))))
    | false => (match (n51 != 0) with
     | true => g_zdo N e_1 .sh x_5 fun b61 => (match (!b61) with
     | true => k0 ()
     | false => nx (IntKind.i64.wrap (x_5 + 1)))
     | false => nx (IntKind.i64.wrap (x_5 + 1))))
    | false => (match (n51 != 0) with
    | true => g_zdo N e_1 .sh x_5 fun b62 => (match (!b62) with
     | true => k0 ()
     | false => nx (IntKind.i64.wrap (x_5 + 1)))
    | false => nx (IntKind.i64.wrap (x_5 + 1)))))
   | false => (match decide (x_5 > 0) with
   | true => (match (n51 == 2) with
    | true => (match (x59 != 1) with
    | true => k0 ()
    | false => (match (n51 != 0) with
     | true => g_zdo N e_1 .sh x_5 fun b63 => (match (!b63) with
     | true => k0 ()
     | false => nx (IntKind.i64.wrap (x_5 + 1)))
     | false => nx (IntKind.i64.wrap (x_5 + 1))))
    | false => (match (n51 != 0) with
    | true => g_zdo N e_1 .sh x_5 fun b64 => (match (!b64) with
     | true => k0 ()
     | false => nx (IntKind.i64.wrap (x_5 + 1)))
    | false => nx (IntKind.i64.wrap (x_5 + 1))))
   | false => (match (n51 != 0) with
    | true => g_zdo N e_1 .sh x_5 fun b65 => (match (!b65) with
    | true => k0 ()
    | false => nx (IntKind.i64.wrap (x_5 + 1)))
    | false => nx (IntKind.i64.wrap (x_5 + 1))))) else none)
  | false => k1 ())
def l_zdl_1 {R : Type} (N : Nat) (e_1 e_2 : List V) (f_3 : Fl) (x_4 : Int) (e_6 : List V) (f_7 : Fl) (x_8 : Int) (k0 : Unit → Option R) (k1 : Unit → Option R) : Nat → Int → Option R
 | 0, _ => none
 | n + 1, x_5 => l_zdl_1_step N e_1 e_2 f_3 x_4 e_6 f_7 x_8 (fun x_5 => l_zdl_1 N e_1 e_2 f_3 x_4 e_6 f_7 x_8 k0 k1 n x_5) x_5 k0 k1
def gb_zdl {R : Type} (N : Nat) (e_1 : List V) (f_2 : Fl) (x_3 : Int) (k : Bool → Option R) : Option R :=
 g_zdx N (e_1.length : Int) 1 40 fun b1 => (match (!b1) with
  | true => k false
  | false => g_zdx N x_3 0 1000 fun b2 => (match (!b2) with
  | true => k false
  | false => g_zcp N e_1 f_2.noOwn.noOwn.noOwn.noOwn x_3 fun x3 => (match decide (x3 > x_3) with
   | true => k false
   | false => must (nth e_1 0) fun e4 => un_impl_Node e4 fun n5 n6 n7 n8 n9 w10 e11 f12 => (match (n5 != 2) with
   | true => k false
   | false => l_zdl_0 N e_1 f_2.noOwn (e_1.length : Int) e_1 f_2 x_3
     (fun (_ : Unit) => k false)
     (fun (_ : Unit) => g_zdr N N R e_1 f_2.noOwn.noOwn x_3 0 [] .sh fun e33 => l_zdl_1 N e33 e_1 f_2.noOwn (e_1.length : Int) e_1 f_2 x_3
      (fun (_ : Unit) => k false)
      (fun (_ : Unit) => k true)
      N 0)
     N 0))))
def g_zdl := @sealed _ @gb_zdl
theorem g_zdl_eq : @g_zdl = @gb_zdl := @sealed_eq _ @gb_zdl
def gb_zdg {R : Type} (N : Nat) (x_1 x_2 : Int) (k : Bool → Option R) : Option R :=
 g_zdx N x_1 0 99 fun b1 => (match b1 with
  | true => g_zdx N x_2 0 99 fun b2 => k b2
  | false => k false)
def g_zdg := @sealed _ @gb_zdg
theorem g_zdg_eq : @g_zdg = @gb_zdg := @sealed_eq _ @gb_zdg
def gb_zcs {R : Type} (N : Nat) (e_1 : List V) (f_2 : Fl) (x_3 x_4 x_5 : Int) (k : Bool → Option R) : Option R :=
 g_zdl N e_1 f_2.noOwn.noOwn x_3 fun b1 => (match b1 with
  | true => g_zdg N x_4 x_5 fun b2 => k b2
  | false => k false)
def g_zcs := @sealed _ @gb_zcs
theorem g_zcs_eq : @g_zcs = @gb_zcs := @sealed_eq _ @gb_zcs
def gb_zco {R : Type} (N : Nat) (w_1 : ByteArray) (k : Bool → Option R) : Option R :=
 g_zdk N w_1 fun b1 => (match b1 with
  | true => byteAt w_1 0 fun n2 => k (n2 == 47)
  | false => k false)
def g_zco := @sealed _ @gb_zco
theorem g_zco_eq : @g_zco = @gb_zco := @sealed_eq _ @gb_zco
def gb_zdp {R : Type} (N : Nat) (x_1 x_2 x_3 x_4 x_5 x_6 : Int) (k : Bool → Option R) : Option R :=
 (match (x_1 == 0) with
  | true => k true
  | false => (match (x_1 == x_4) with
  | true => k (IntKind.i64.wrap (BitVec.ofInt IntKind.i64.bits (Int.fdiv x_3 (2 ^ (min (6 : Int).toNat 64))) &&& BitVec.ofInt IntKind.i64.bits x_6).toNat == x_6)
  | false => (match (x_2 == x_5) with
   | true => k (IntKind.i64.wrap (BitVec.ofInt IntKind.i64.bits (IntKind.i64.wrap (BitVec.ofInt IntKind.i64.bits (Int.fdiv x_3 (2 ^ (min (3 : Int).toNat 64))) &&& BitVec.ofInt IntKind.i64.bits 7).toNat) &&& BitVec.ofInt IntKind.i64.bits x_6).toNat == x_6)
   | false => k (IntKind.i64.wrap (BitVec.ofInt IntKind.i64.bits (IntKind.i64.wrap (BitVec.ofInt IntKind.i64.bits x_3 &&& BitVec.ofInt IntKind.i64.bits 7).toNat) &&& BitVec.ofInt IntKind.i64.bits x_6).toNat == x_6))))
def g_zdp := @sealed _ @gb_zdp
theorem g_zdp_eq : @g_zdp = @gb_zdp := @sealed_eq _ @gb_zdp
def gb_zds {R : Type} (N : Nat) (e_1 : List V) (f_2 : Fl) (x_3 x_4 x_5 x_6 x_7 : Int) (k : Bool → Option R) : Option R :=
 (if 0 ≤ x_6 then must (nth e_1 x_6.toNat) fun e1 => un_impl_Node e1 fun n2 n3 n4 n5 n6 w7 e8 f9 => g_zdp N x_4 x_5 n3 n4 n5 x_7 fun b10 => k b10 else none)
def g_zds := @sealed _ @gb_zds
theorem g_zds_eq : @g_zds = @gb_zds := @sealed_eq _ @gb_zds
def l_zbw_0_step {R : Type} (N : Nat) (x_1 x_2 : Int) (e_3 : List V) (f_4 : Fl) (x_5 x_6 : Int) (e_7 : List V) (f_8 : Fl) (x_9 : Int) (e_11 : List V) (f_12 : Fl) (x_13 x_14 x_15 x_16 x_17 x_18 : Int) (w_19 : ByteArray) (e_20 : List V) (f_21 : Fl) (nx : Int → Option R) (x_10 : Int) (k0 : Unit → Option R) (k1 : Unit → Option R) : Option R :=
 (match decide (x_10 < x_9) with
  | true => (if 0 ≤ x_10 then must (nth e_7 x_10.toNat) fun e13 => un_impl_Entry e13 fun w14 n15 => (match (n15 == x_1) with
   | true => k0 ()
   | false => nx (IntKind.i64.wrap (x_10 + 1))) else none)
  | false => k1 ())
def l_zbw_0 {R : Type} (N : Nat) (x_1 x_2 : Int) (e_3 : List V) (f_4 : Fl) (x_5 x_6 : Int) (e_7 : List V) (f_8 : Fl) (x_9 : Int) (e_11 : List V) (f_12 : Fl) (x_13 x_14 x_15 x_16 x_17 x_18 : Int) (w_19 : ByteArray) (e_20 : List V) (f_21 : Fl) (k0 : Unit → Option R) (k1 : Unit → Option R) : Nat → Int → Option R
 | 0, _ => none
 | n + 1, x_10 => l_zbw_0_step N x_1 x_2 e_3 f_4 x_5 x_6 e_7 f_8 x_9 e_11 f_12 x_13 x_14 x_15 x_16 x_17 x_18 w_19 e_20 f_21 (fun x_10 => l_zbw_0 N x_1 x_2 e_3 f_4 x_5 x_6 e_7 f_8 x_9 e_11 f_12 x_13 x_14 x_15 x_16 x_17 x_18 w_19 e_20 f_21 k0 k1 n x_10) x_10 k0 k1
def l_zbw_1_step {R : Type} (N : Nat) (x_1 : Int) (e_2 : List V) (f_3 : Fl) (x_4 : Int) (e_6 : List V) (f_7 : Fl) (x_8 : Int) (nx : Int → Option R) (x_5 : Int) (k0 : Int → Option R) (k1 : Unit → Option R) : Option R :=
 (match decide (x_5 < x_4) with
  | true => (if 0 ≤ x_5 then must (nth e_2 x_5.toNat) fun e16 => un_impl_Node e16 fun n17 n18 n19 n20 n21 w22 e23 f24 => l_zbw_0 N x_1 x_5 e_2 f_3 x_4 x_5 e23 f24.noOwn.noOwn (e23.length : Int) e_6 f_7 x_8 n17 n18 n19 n20 n21 w22 e23 f24.noOwn
    (fun (_ : Unit) => k0 x_5)
    (fun (_ : Unit) => nx (IntKind.i64.wrap (x_5 + 1)))
    N 0 else none)
  | false => k1 ())
def l_zbw_1 {R : Type} (N : Nat) (x_1 : Int) (e_2 : List V) (f_3 : Fl) (x_4 : Int) (e_6 : List V) (f_7 : Fl) (x_8 : Int) (k0 : Int → Option R) (k1 : Unit → Option R) : Nat → Int → Option R
 | 0, _ => none
 | n + 1, x_5 => l_zbw_1_step N x_1 e_2 f_3 x_4 e_6 f_7 x_8 (fun x_5 => l_zbw_1 N x_1 e_2 f_3 x_4 e_6 f_7 x_8 k0 k1 n x_5) x_5 k0 k1
def gb_zbw {R : Type} (N : Nat) (e_1 : List V) (f_2 : Fl) (x_3 x_4 : Int) (k : Int → Option R) : Option R :=
 l_zbw_1 N x_4 e_1 f_2.noOwn (e_1.length : Int) e_1 f_2 x_3
   (fun x25 => k x25)
   (fun (_ : Unit) => k 0)
   N 0
def g_zbw := @sealed _ @gb_zbw
theorem g_zbw_eq : @g_zbw = @gb_zbw := @sealed_eq _ @gb_zbw
def l_zdy_0_step {R : Type} (N : Nat) (w_1 : ByteArray) (e_2 : List V) (f_3 : Fl) (x_4 : Int) (nx : Int → Option R) (x_5 : Int) (k0 : Int → Option R) (k1 : Unit → Option R) : Option R :=
 (match decide (x_5 < x_4) with
  | true => (if 0 ≤ x_5 then must (nth e_2 x_5.toNat) fun e4 => un_impl_Entry e4 fun w5 n6 => (match (w5.toList == w_1.toList) with
   | true => k0 n6
   | false => nx (IntKind.i64.wrap (x_5 + 1))) else none)
  | false => k1 ())
def l_zdy_0 {R : Type} (N : Nat) (w_1 : ByteArray) (e_2 : List V) (f_3 : Fl) (x_4 : Int) (k0 : Int → Option R) (k1 : Unit → Option R) : Nat → Int → Option R
 | 0, _ => none
 | n + 1, x_5 => l_zdy_0_step N w_1 e_2 f_3 x_4 (fun x_5 => l_zdy_0 N w_1 e_2 f_3 x_4 k0 k1 n x_5) x_5 k0 k1
def gb_zdy {R : Type} (N : Nat) (e_1 : List V) (f_2 : Fl) (w_3 : ByteArray) (k : Int → Option R) : Option R :=
 l_zdy_0 N w_3 e_1 f_2.noOwn (e_1.length : Int)
   (fun x7 => k x7)
   (fun (_ : Unit) => k (-1))
   N 0
def g_zdy := @sealed _ @gb_zdy
theorem g_zdy_eq : @g_zdy = @gb_zdy := @sealed_eq _ @gb_zdy
def gb_zbx {R : Type} (N : Nat) (b_1 : Bool) (e_2 : List V) (f_3 : Fl) (x_4 x_5 x_6 x_7 : Int) (e_8 : List V) (f_9 : Fl) (x_10 : Int) (k : Int → List V → Fl → Int → Int → Int → Int → List V → Fl → Int → Option R) : Option R :=
 (if 0 ≤ x_7 then must (nth e_2 x_7.toNat) fun e1 => un_impl_Node e1 fun n2 n3 n4 n5 n6 w7 e8 f9 => (match (n2 != 2) with
  | true => k 3 e_2 f_3 x_4 x_5 x_6 x_7 e_8 f_9 x_10
  | false => g_zds N e_2 f_3.noOwn.noOwn.noOwn.noOwn x_4 x_5 x_6 x_7 1 fun b10 => (match (!b10) with
   | true => k 4 e_2 f_3 x_4 x_5 x_6 x_7 e_8 f_9 x_10
   | false => must (nth e_8 0) fun e11 => asStr e11 fun w12 => (if (0 : Int) ≤ 1 ∧ 1 ≤ (e_8.length : Int) then (match (w12.toList == (ByteArray.mk #[46]).toList) with
    | true => k 0 e_2 f_3 x_4 x_5 x_6 x_7 ((e_8.take e_8.length).drop 1) f_9.noOwn.noOwn x_10
    | false => (match (w12.toList == (ByteArray.mk #[46, 46]).toList) with
    | true => g_zbw N e_2 f_3.noOwn.noOwn.noOwn.noOwn x_4 x_7 fun x13 => k 0 e_2 f_3 x_4 x_5 x_6 x13 ((e_8.take e_8.length).drop 1) f_9.noOwn.noOwn x_10
    | false => g_zdy N e8 f9.noOwn.noOwn.noOwn.noOwn w12 fun x14 => (match decide (x14 < 0) with
     | true => k 2 e_2 f_3 x_4 x_5 x_6 x_7 ((e_8.take e_8.length).drop 1) f_9.noOwn.noOwn x_10
     | false => (if 0 ≤ x14 then must (nth e_2 x14.toNat) fun e15 => un_impl_Node e15 fun n16 n17 n18 n19 n20 w21 e22 f23 => (match (n16 != 3) with
      | true => k 0 e_2 f_3 x_4 x_5 x_6 x14 ((e_8.take e_8.length).drop 1) f_9.noOwn.noOwn x_10
      | false => (match ((((e_8.take e_8.length).drop 1).length : Int) == 0) with
      | true => (match (!b_1) with
       | true => k 0 e_2 f_3 x_4 x_5 x_6 x14 ((e_8.take e_8.length).drop 1) f_9.noOwn.noOwn x_10
       | false => (match (x_10 == 8) with
       | true => k 5 e_2 f_3 x_4 x_5 x_6 x_7 ((e_8.take e_8.length).drop 1) f_9.noOwn.noOwn x_10
       | false => g_zcn N w21 fun e24 => guardB (okAdd f_9.noOwn.noOwn.noOwn.noOwn ((e_8.take e_8.length).drop 1)) ((if (e24.length + (((e_8.take e_8.length).drop 1)).length) * 16 ≤ 140737488355328 then byteAt w21 0 fun n25 => (match (n25 == 47) with
         | true => k 0 e_2 f_3 x_4 x_5 x_6 0 (e24 ++ (((e_8.take e_8.length).drop 1)).map V.noOwn) (.own 9) (IntKind.i64.wrap (x_10 + 1))
         | false => k 0 e_2 f_3 x_4 x_5 x_6 x_7 (e24 ++ (((e_8.take e_8.length).drop 1)).map V.noOwn) (.own 9) (IntKind.i64.wrap (x_10 + 1))) else none))))
      | false => (match (x_10 == 8) with
       | true => k 5 e_2 f_3 x_4 x_5 x_6 x_7 ((e_8.take e_8.length).drop 1) f_9.noOwn.noOwn x_10
       | false => g_zcn N w21 fun e26 => guardB (okAdd f_9.noOwn.noOwn.noOwn.noOwn ((e_8.take e_8.length).drop 1)) ((if (e26.length + (((e_8.take e_8.length).drop 1)).length) * 16 ≤ 140737488355328 then byteAt w21 0 fun n27 => (match (n27 == 47) with
        | true => k 0 e_2 f_3 x_4 x_5 x_6 0 (e26 ++ (((e_8.take e_8.length).drop 1)).map V.noOwn) (.own 9) (IntKind.i64.wrap (x_10 + 1))
        | false => k 0 e_2 f_3 x_4 x_5 x_6 x_7 (e26 ++ (((e_8.take e_8.length).drop 1)).map V.noOwn) (.own 9) (IntKind.i64.wrap (x_10 + 1))) else none))))) else none)))) else none))) else none)
def g_zbx := @sealed _ @gb_zbx
theorem g_zbx_eq : @g_zbx = @gb_zbx := @sealed_eq _ @gb_zbx
def l_zdn_0_step {R : Type} (N : Nat) (b_1 b_2 : Bool) (e_3 : List V) (f_4 : Fl) (x_5 x_6 x_7 : Int) (nx : List V → Fl → Int → Int → Int → Int → List V → Fl → Int → Option R) (e_8 : List V) (f_9 : Fl) (x_10 x_11 x_12 x_13 : Int) (e_14 : List V) (f_16 : Fl) (x_15 : Int) (k0 : Int → List V → Fl → Int → Int → Int → Int → List V → Fl → Int → Option R) (k1 : List V → Fl → Int → Int → Int → Int → List V → Fl → Int → Option R) : Option R :=
 (match decide ((e_14.length : Int) > 0) with
  | true => (match b_1 with
  | true => g_zbx N true e_8 f_9 x_10 x_11 x_12 x_13 e_14 f_16 x_15 fun x24 e25 f26 x27 x28 x29 x30 e31 f32 x33 => (match (x24 != 0) with
   | true => k0 x24 e25 f26 x27 x28 x29 x30 e31 f32 x33
   | false => nx e25 f26 x27 x28 x29 x30 e31 f32 x33)
  | false => g_zbx N b_2 e_8 f_9 x_10 x_11 x_12 x_13 e_14 f_16 x_15 fun x34 e35 f36 x37 x38 x39 x40 e41 f42 x43 => (match (x34 != 0) with
   | true => k0 x34 e35 f36 x37 x38 x39 x40 e41 f42 x43
   | false => nx e35 f36 x37 x38 x39 x40 e41 f42 x43))
  | false => k1 e_8 f_9 x_10 x_11 x_12 x_13 e_14 f_16 x_15)
def l_zdn_0 {R : Type} (N : Nat) (b_1 b_2 : Bool) (e_3 : List V) (f_4 : Fl) (x_5 x_6 x_7 : Int) (k0 : Int → List V → Fl → Int → Int → Int → Int → List V → Fl → Int → Option R) (k1 : List V → Fl → Int → Int → Int → Int → List V → Fl → Int → Option R) : Nat → List V → Fl → Int → Int → Int → Int → List V → Fl → Int → Option R
 | 0, _, _, _, _, _, _, _, _, _ => none
 | n + 1, e_8, f_9, x_10, x_11, x_12, x_13, e_14, f_16, x_15 => l_zdn_0_step N b_1 b_2 e_3 f_4 x_5 x_6 x_7 (fun e_8 f_9 x_10 x_11 x_12 x_13 e_14 f_16 x_15 => l_zdn_0 N b_1 b_2 e_3 f_4 x_5 x_6 x_7 k0 k1 n e_8 f_9 x_10 x_11 x_12 x_13 e_14 f_16 x_15) e_8 f_9 x_10 x_11 x_12 x_13 e_14 f_16 x_15 k0 k1
def gb_zdn {R : Type} (N : Nat) (e_1 : List V) (f_2 : Fl) (x_3 x_4 x_5 : Int) (w_6 : ByteArray) (b_7 : Bool) (k : Int → Int → Option R) : Option R :=
 g_zco N w_6 fun b1 => (match (!b1) with
  | true => k 0 1
  | false => byteAt w_6 (IntKind.i64.wrap ((w_6.size : Int) - 1)) fun n2 => g_zcn N w_6 fun e3 => l_zdn_0 N b_7 (n2 == 47) e_1 f_2 x_3 x_4 x_5
    (fun x44 e45 f46 x47 x48 x49 x50 e51 f52 x53 => k 0 x44)
    (fun e54 f55 x56 x57 x58 x59 e60 f61 x62 => (match (n2 == 47) with
   | true => (if 0 ≤ x59 then must (nth e_1 x59.toNat) fun e63 => un_impl_Node e63 fun n64 n65 n66 n67 n68 w69 e70 f71 => (match (n64 != 2) with
    | true => k 0 3
    | false => k x59 0) else none)
   | false => k x59 0))
    N e_1 f_2.noOwn.noOwn.noOwn x_3 x_4 x_5 0 e3 .sh 0)
def g_zdn := @sealed _ @gb_zdn
theorem g_zdn_eq : @g_zdn = @gb_zdn := @sealed_eq _ @gb_zdn
def l_zcm_0_step {R : Type} (N : Nat) (w_1 : ByteArray) (e_2 : List V) (x_3 : Int) (nx : Nat → Nat → Int → Ob → Option R) (k_5 k_6 : Nat) (x_4 : Int) (O_9 : Ob) (k0 : Nat → Nat → Ob → Option R) : Option R :=
 (match decide (x_4 < x_3) with
  | true => (if 0 ≤ x_4 then must (nth e_2 x_4.toNat) fun e26 => asStr e26 fun w27 => (match (w27.toList == (ByteArray.mk #[46]).toList) with
   | true => nx k_5 k_6 (IntKind.i64.wrap (x_4 + 1)) O_9
   | false => (match (w27.toList == (ByteArray.mk #[46, 46]).toList) with
   | true => (match decide ((k_6 : Int) > 0) with
    | true => (match getOb [some ⟨[], 1, 9, 0⟩, some O_9] 1 k_5 with
    | some ob28 => guardB (Nat.beq ob28.elem 9) ((if (0 : Int) ≤ IntKind.i64.wrap ((k_6 : Int) - 1) ∧ IntKind.i64.wrap ((k_6 : Int) - 1) < k_6 then (match getOb [some ⟨[], 1, 9, 0⟩, some O_9] 1 k_5 with
      | some ob29 => (match nth ob29.es (0 + (IntKind.i64.wrap ((k_6 : Int) - 1)).toNat) with
      | some e30 => asCons (e30.cells.drop 0) fun c31 l32 => asStr c31 fun w33 => (match (!(w33.toList == (ByteArray.mk #[46, 46]).toList)) with
       | true => (match getOb [some ⟨[], 1, 9, 0⟩, some O_9] 1 k_5 with
       | some ob34 => (match Nat.beq ob34.esz 1 with
        | true => (if (0 : Int) ≤ IntKind.i64.wrap ((k_6 : Int) - 1) ∧ IntKind.i64.wrap ((k_6 : Int) - 1) ≤ (k_6 : Int) then nx k_5 ((IntKind.i64.wrap ((k_6 : Int) - 1)).toNat) (IntKind.i64.wrap (x_4 + 1)) O_9 else none)
        | false => none)
       | none => none)
       | false => (match (w27.toList == (ByteArray.mk #[46, 46]).toList) with
       | true => byteAt w_1 0 fun n35 => (match (n35 == 47) with
        | true => nx k_5 k_6 (IntKind.i64.wrap (x_4 + 1)) O_9
        | false => (match getOb [some ⟨[], 1, 9, 0⟩, some O_9] 1 k_5 with
        | some ob36 => (if k_6 ≤ ob36.es.length then (match getOb [some ⟨[], 1, 9, 0⟩, some { ob36 with es := (ob36.es.take k_6) }] 1 k_5 with
         | some ob37 => guardB (Nat.beq ob37.elem 9) ((if 0 = 0 ∧ k_6 = ob37.es.length ∧ (k_6 + 1) * 16 ≤ 140737488355328 ∧ 0 < 1 then nx (k_5 + 1) (k_6 + 1) (IntKind.i64.wrap (x_4 + 1)) ({ ob37 with es := (ob37.es ++ ([.str w27] : List V)), ver := (k_5 + 1) }) else none))
         | none => none) else none)
        | none => none))
       | false => (match getOb [some ⟨[], 1, 9, 0⟩, some O_9] 1 k_5 with
        | some ob38 => (if k_6 ≤ ob38.es.length then (match getOb [some ⟨[], 1, 9, 0⟩, some { ob38 with es := (ob38.es.take k_6) }] 1 k_5 with
         | some ob39 => guardB (Nat.beq ob39.elem 9) ((if 0 = 0 ∧ k_6 = ob39.es.length ∧ (k_6 + 1) * 16 ≤ 140737488355328 ∧ 0 < 1 then nx (k_5 + 1) (k_6 + 1) (IntKind.i64.wrap (x_4 + 1)) ({ ob39 with es := (ob39.es ++ ([.str w27] : List V)), ver := (k_5 + 1) }) else none))
         | none => none) else none)
        | none => none)))
      | none => none)
      | none => none) else none))
    | none => none)
    | false => (match (w27.toList == (ByteArray.mk #[46, 46]).toList) with
    | true => byteAt w_1 0 fun n40 => (match (n40 == 47) with
     | true => nx k_5 k_6 (IntKind.i64.wrap (x_4 + 1)) O_9
     | false => (match getOb [some ⟨[], 1, 9, 0⟩, some O_9] 1 k_5 with
     | some ob41 => (if k_6 ≤ ob41.es.length then (match getOb [some ⟨[], 1, 9, 0⟩, some { ob41 with es := (ob41.es.take k_6) }] 1 k_5 with
      | some ob42 => guardB (Nat.beq ob42.elem 9) ((if 0 = 0 ∧ k_6 = ob42.es.length ∧ (k_6 + 1) * 16 ≤ 140737488355328 ∧ 0 < 1 then nx (k_5 + 1) (k_6 + 1) (IntKind.i64.wrap (x_4 + 1)) ({ ob42 with es := (ob42.es ++ ([.str w27] : List V)), ver := (k_5 + 1) }) else none))
      | none => none) else none)
     | none => none))
    | false => (match getOb [some ⟨[], 1, 9, 0⟩, some O_9] 1 k_5 with
     | some ob43 => (if k_6 ≤ ob43.es.length then (match getOb [some ⟨[], 1, 9, 0⟩, some { ob43 with es := (ob43.es.take k_6) }] 1 k_5 with
      | some ob44 => guardB (Nat.beq ob44.elem 9) ((if 0 = 0 ∧ k_6 = ob44.es.length ∧ (k_6 + 1) * 16 ≤ 140737488355328 ∧ 0 < 1 then nx (k_5 + 1) (k_6 + 1) (IntKind.i64.wrap (x_4 + 1)) ({ ob44 with es := (ob44.es ++ ([.str w27] : List V)), ver := (k_5 + 1) }) else none))
      | none => none) else none)
     | none => none)))
   | false => (match (w27.toList == (ByteArray.mk #[46, 46]).toList) with
    | true => byteAt w_1 0 fun n45 => (match (n45 == 47) with
    | true => nx k_5 k_6 (IntKind.i64.wrap (x_4 + 1)) O_9
    | false => (match getOb [some ⟨[], 1, 9, 0⟩, some O_9] 1 k_5 with
     | some ob46 => (if k_6 ≤ ob46.es.length then (match getOb [some ⟨[], 1, 9, 0⟩, some { ob46 with es := (ob46.es.take k_6) }] 1 k_5 with
      | some ob47 => guardB (Nat.beq ob47.elem 9) ((if 0 = 0 ∧ k_6 = ob47.es.length ∧ (k_6 + 1) * 16 ≤ 140737488355328 ∧ 0 < 1 then nx (k_5 + 1) (k_6 + 1) (IntKind.i64.wrap (x_4 + 1)) ({ ob47 with es := (ob47.es ++ ([.str w27] : List V)), ver := (k_5 + 1) }) else none))
      | none => none) else none)
     | none => none))
    | false => (match getOb [some ⟨[], 1, 9, 0⟩, some O_9] 1 k_5 with
    | some ob48 => (if k_6 ≤ ob48.es.length then (match getOb [some ⟨[], 1, 9, 0⟩, some { ob48 with es := (ob48.es.take k_6) }] 1 k_5 with
     | some ob49 => guardB (Nat.beq ob49.elem 9) ((if 0 = 0 ∧ k_6 = ob49.es.length ∧ (k_6 + 1) * 16 ≤ 140737488355328 ∧ 0 < 1 then nx (k_5 + 1) (k_6 + 1) (IntKind.i64.wrap (x_4 + 1)) ({ ob49 with es := (ob49.es ++ ([.str w27] : List V)), ver := (k_5 + 1) }) else none))
     | none => none) else none)
    | none => none)))) else none)
  | false => k0 k_5 k_6 O_9)
def l_zcm_0 {R : Type} (N : Nat) (w_1 : ByteArray) (e_2 : List V) (x_3 : Int) (k0 : Nat → Nat → Ob → Option R) : Nat → Nat → Nat → Int → Ob → Option R
 | 0, _, _, _, _ => none
 | n + 1, k_5, k_6, x_4, O_9 => l_zcm_0_step N w_1 e_2 x_3 (fun k_5 k_6 x_4 O_9 => l_zcm_0 N w_1 e_2 x_3 k0 n k_5 k_6 x_4 O_9) k_5 k_6 x_4 O_9 k0
def gb_zcm {R : Type} (N : Nat) (w_1 : ByteArray) (k : List V → Option R) : Option R :=
 g_zcn N w_1 fun e1 => l_zcm_0 N w_1 e1 (e1.length : Int)
   (fun k50 k51 O52 => (match getOb [some ⟨[], 1, 9, 0⟩, some O52] 1 k50 with
  | some ob53 => (match mapSome (freeze false [some ⟨[], 1, 9, 0⟩, some O52] 11) ((ob53.es.drop 0).take k51) with
   | some e54 => guardB (decide (0 + k51 ≤ ob53.es.length)) (guardB (e54.all V.plain) ((match Nat.beq ob53.esz 1 with
    | true => k e54
    | false => none)))
   | none => none)
  | none => none))
   N 0 0 0 (⟨[], 1, 9, 0⟩ : Ob)
def g_zcm := @sealed _ @gb_zcm
theorem g_zcm_eq : @g_zcm = @gb_zcm := @sealed_eq _ @gb_zcm
def gb_zdi {R : Type} (N : Nat) (w_1 : ByteArray) (k : ByteArray → Option R) : Option R :=
 g_zcm N w_1 fun e1 => (match ((e1.length : Int) == 0) with
  | true => k (ByteArray.mk #[])
  | false => (if 0 ≤ IntKind.i64.wrap ((e1.length : Int) - 1) then must (nth e1 ((IntKind.i64.wrap ((e1.length : Int) - 1)).toNat)) fun e2 => asStr e2 fun w3 => (match (w3.toList == (ByteArray.mk #[46, 46]).toList) with
   | true => k (ByteArray.mk #[])
   | false => (if 0 ≤ IntKind.i64.wrap ((e1.length : Int) - 1) then must (nth e1 ((IntKind.i64.wrap ((e1.length : Int) - 1)).toNat)) fun e4 => asStr e4 fun w5 => k w5 else none)) else none))
def g_zdi := @sealed _ @gb_zdi
theorem g_zdi_eq : @g_zdi = @gb_zdi := @sealed_eq _ @gb_zdi
def l_zcr_0_step {R : Type} (N : Nat) (w_1 : ByteArray) (nx : Int → Option R) (x_2 : Int) (k0 : Int → Option R) : Option R :=
 byteAt w_1 (IntKind.i64.wrap (x_2 - 1)) fun n2 => (match (n2 != 47) with
  | true => nx (IntKind.i64.wrap (x_2 - 1))
  | false => k0 x_2)
def l_zcr_0 {R : Type} (N : Nat) (w_1 : ByteArray) (k0 : Int → Option R) : Nat → Int → Option R
 | 0, _ => none
 | n + 1, x_2 => l_zcr_0_step N w_1 (fun x_2 => l_zcr_0 N w_1 k0 n x_2) x_2 k0
def l_zcr_1_step {R : Type} (N : Nat) (w_1 : ByteArray) (nx : Int → Option R) (x_2 : Int) (k0 : Int → Option R) : Option R :=
 (match decide (x_2 > 1) with
  | true => byteAt w_1 (IntKind.i64.wrap (x_2 - 1)) fun n5 => (match (n5 == 47) with
  | true => nx (IntKind.i64.wrap (x_2 - 1))
  | false => k0 x_2)
  | false => k0 x_2)
def l_zcr_1 {R : Type} (N : Nat) (w_1 : ByteArray) (k0 : Int → Option R) : Nat → Int → Option R
 | 0, _ => none
 | n + 1, x_2 => l_zcr_1_step N w_1 (fun x_2 => l_zcr_1 N w_1 k0 n x_2) x_2 k0
def gb_zcr {R : Type} (N : Nat) (w_1 : ByteArray) (k : ByteArray → Option R) : Option R :=
 l_zcr_0 N w_1
   (fun x3 => l_zcr_1 N w_1
    (fun x6 => (if (0 : Int) ≤ x6 ∧ x6 ≤ (w_1.size : Int) then k (ByteArray.extract w_1 0 ((x6 : Int).toNat)) else none))
    N x3)
   N (w_1.size : Int)
def g_zcr := @sealed _ @gb_zcr
theorem g_zcr_eq : @g_zcr = @gb_zcr := @sealed_eq _ @gb_zcr
def gb_zct {R : Type} (N : Nat) (e_1 : List V) (f_2 : Fl) (x_3 x_4 x_5 : Int) (w_6 : ByteArray) (k : Int → ByteArray → Int → Option R) : Option R :=
 g_zco N w_6 fun b1 => (match (!b1) with
  | true => k 0 (ByteArray.mk #[]) 1
  | false => byteAt w_6 (IntKind.i64.wrap ((w_6.size : Int) - 1)) fun n2 => (match (n2 == 47) with
  | true => k 0 (ByteArray.mk #[]) 1
  | false => g_zcn N w_6 fun e3 => (if 0 ≤ IntKind.i64.wrap ((e3.length : Int) - 1) then must (nth e3 ((IntKind.i64.wrap ((e3.length : Int) - 1)).toNat)) fun e4 => asStr e4 fun w5 => g_zdj N w5 fun b6 => (match (!b6) with
   | true => k 0 (ByteArray.mk #[]) 1
   | false => g_zdi N w_6 fun w7 => (match (w7.toList == (ByteArray.mk #[]).toList) with
    | true => k 0 (ByteArray.mk #[]) 1
    | false => g_zcr N w_6 fun w8 => g_zdn N e_1 f_2.noOwn.noOwn.noOwn.noOwn x_3 x_4 x_5 w8 true fun x9 x10 => (match (x10 != 0) with
    | true => k 0 (ByteArray.mk #[]) x10
    | false => (if 0 ≤ x9 then must (nth e_1 x9.toNat) fun e11 => un_impl_Node e11 fun n12 n13 n14 n15 n16 w17 e18 f19 => (match (n12 != 2) with
     | true => k 0 (ByteArray.mk #[]) 3
     | false => g_zds N e_1 f_2.noOwn.noOwn x_3 x_4 x_5 x9 1 fun b20 => (match (!b20) with
      | true => k 0 (ByteArray.mk #[]) 4
      | false => k x9 w5 0)) else none)))) else none)))
def g_zct := @sealed _ @gb_zct
theorem g_zct_eq : @g_zct = @gb_zct := @sealed_eq _ @gb_zct
def gb_zbi {R : Type} (N : Nat) (e_1 : List V) (f_2 : Fl) (x_3 x_4 x_5 : Int) (w_6 : ByteArray) (k : Int → ByteArray → Int → Bool → Option R) : Option R :=
 g_zcs N e_1 f_2.noOwn.noOwn x_3 x_4 x_5 fun b1 => (match (!b1) with
  | true => k 0 (ByteArray.mk #[]) 0 false
  | false => g_zct N e_1 f_2.noOwn.noOwn x_3 x_4 x_5 w_6 fun x2 w3 x4 => k x2 w3 x4 true)
def g_zbi := @sealed _ @gb_zbi
theorem g_zbi_eq : @g_zbi = @gb_zbi := @sealed_eq _ @gb_zbi
def gb_zdb {R : Type} (N : Nat) (x_1 x_2 x_3 : Int) (k : Bool → Option R) : Option R :=
 (match decide (x_1 ≥ x_2) with
  | true => k (decide (x_1 ≤ x_3))
  | false => k false)
def g_zdb := @sealed _ @gb_zdb
theorem g_zdb_eq : @g_zdb = @gb_zdb := @sealed_eq _ @gb_zdb
def gb_zcz {R : Type} (N : Nat) (x_1 : Int) (k : Bool → Option R) : Option R :=
 g_zdb N x_1 0 1000 fun b1 => k b1
def g_zcz := @sealed _ @gb_zcz
theorem g_zcz_eq : @g_zcz = @gb_zcz := @sealed_eq _ @gb_zcz
def gb_zcx {R : Type} (N : Nat) (x_1 : Int) (k : Bool → Option R) : Option R :=
 g_zdb N x_1 0 511 fun b1 => k b1
def g_zcx := @sealed _ @gb_zcx
theorem g_zcx_eq : @g_zcx = @gb_zcx := @sealed_eq _ @gb_zcx
def gb_zcv {R : Type} (N : Nat) (w_1 : ByteArray) (k : Bool → Option R) : Option R :=
 (match (w_1.toList == (ByteArray.mk #[46]).toList) with
  | true => k true
  | false => k (w_1.toList == (ByteArray.mk #[46, 46]).toList))
def g_zcv := @sealed _ @gb_zcv
theorem g_zcv_eq : @g_zcv = @gb_zcv := @sealed_eq _ @gb_zcv
def gb_zbb {R : Type} (N : Nat) (x_1 : Int) (k : Bool → Option R) : Option R :=
 (match decide (x_1 ≥ 97) with
  | true => (match decide (x_1 ≤ 122) with
  | true => k true
  | false => (match decide (x_1 ≥ 48) with
   | true => (match decide (x_1 ≤ 57) with
   | true => k true
   | false => (match (x_1 == 46) with
    | true => k true
    | false => (match (x_1 == 95) with
    | true => k true
    | false => k (x_1 == 45))))
   | false => (match (x_1 == 46) with
   | true => k true
   | false => (match (x_1 == 95) with
    | true => k true
    | false => k (x_1 == 45)))))
  | false => (match decide (x_1 ≥ 48) with
  | true => (match decide (x_1 ≤ 57) with
   | true => k true
   | false => (match (x_1 == 46) with
   | true => k true
   | false => (match (x_1 == 95) with
    | true => k true
    | false => k (x_1 == 45))))
  | false => (match (x_1 == 46) with
   | true => k true
   | false => (match (x_1 == 95) with
   | true => k true
   | false => k (x_1 == 45)))))
def g_zbb := @sealed _ @gb_zbb
theorem g_zbb_eq : @g_zbb = @gb_zbb := @sealed_eq _ @gb_zbb
def gb_zbh {R : Type} (N : Nat) (x_1 : Int) (k : Bool → Option R) : Option R :=
 g_zbb N x_1 fun b1 => k (!b1)
def g_zbh := @sealed _ @gb_zbh
theorem g_zbh_eq : @g_zbh = @gb_zbh := @sealed_eq _ @gb_zbh
def l_zaf_0_step {R : Type} (N : Nat) (e_1 : List V) (f_2 : Fl) (x_3 : Int) (nx : Int → Option R) (x_4 : Int) (k0 : Int → Option R) (k1 : Unit → Option R) : Option R :=
 (match decide (x_4 < x_3) with
  | true => (if 0 ≤ x_4 then must (nth e_1 x_4.toNat) fun e4 => asInt .u8 e4 fun n5 => g_zbh N n5 fun b6 => (match b6 with
   | true => k0 x_4
   | false => nx (IntKind.i64.wrap (x_4 + 1))) else none)
  | false => k1 ())
def l_zaf_0 {R : Type} (N : Nat) (e_1 : List V) (f_2 : Fl) (x_3 : Int) (k0 : Int → Option R) (k1 : Unit → Option R) : Nat → Int → Option R
 | 0, _ => none
 | n + 1, x_4 => l_zaf_0_step N e_1 f_2 x_3 (fun x_4 => l_zaf_0 N e_1 f_2 x_3 k0 k1 n x_4) x_4 k0 k1
def gb_zaf {R : Type} (N : Nat) (e_1 : List V) (f_2 : Fl) (k : Int → Option R) : Option R :=
 l_zaf_0 N e_1 f_2 (e_1.length : Int)
   (fun x7 => k x7)
   (fun (_ : Unit) => k (-1))
   N 0
def g_zaf := @sealed _ @gb_zaf
theorem g_zaf_eq : @g_zaf = @gb_zaf := @sealed_eq _ @gb_zaf
def gb_zae {R : Type} (N : Nat) (e_1 : List V) (f_2 : Fl) (k : Bool → Option R) : Option R :=
 g_zaf N e_1 f_2.noOwn.noOwn fun x1 => k (decide (x1 ≥ 0))
def g_zae := @sealed _ @gb_zae
theorem g_zae_eq : @g_zae = @gb_zae := @sealed_eq _ @gb_zae
def gb_zcy {R : Type} (N : Nat) (w_1 : ByteArray) (k : Bool → Option R) : Option R :=
 g_zdb N (w_1.size : Int) 1 8 fun b1 => (match b1 with
  | true => g_zae N (bytesV w_1) .sh fun b2 => k (!b2)
  | false => k false)
def g_zcy := @sealed _ @gb_zcy
theorem g_zcy_eq : @g_zcy = @gb_zcy := @sealed_eq _ @gb_zcy
def gb_zbr {R : Type} (N : Nat) (w_1 : ByteArray) (k : Bool → Option R) : Option R :=
 g_zcy N w_1 fun b1 => (match b1 with
  | true => g_zcv N w_1 fun b2 => k (!b2)
  | false => k false)
def g_zbr := @sealed _ @gb_zbr
theorem g_zbr_eq : @g_zbr = @gb_zbr := @sealed_eq _ @gb_zbr
def gb_zdt {R : Type} (N : Nat) (x_1 : Int) (k : Bool → Option R) : Option R :=
 g_zdb N x_1 0 99 fun b1 => k b1
def g_zdt := @sealed _ @gb_zdt
theorem g_zdt_eq : @g_zdt = @gb_zdt := @sealed_eq _ @gb_zdt
def gb_zai {R : Type} (N : Nat) (w_1 : ByteArray) (x_2 : Int) (k : Int → Option R) : Option R :=
 k (Go.Lib.indexByte w_1.data.toList x_2.toNat.toUInt8)
def g_zai := @sealed _ @gb_zai
theorem g_zai_eq : @g_zai = @gb_zai := @sealed_eq _ @gb_zai
def gb_zak {R : Type} (N : Nat) (w_1 : ByteArray) (x_2 : Int) (k : Int → Option R) : Option R :=
 g_zai N w_1 x_2 fun x1 => k x1
def g_zak := @sealed _ @gb_zak
theorem g_zak_eq : @g_zak = @gb_zak := @sealed_eq _ @gb_zak
def gb_zan {R : Type} (N : Nat) (w_1 w_2 : ByteArray) (k : Int → Option R) : Option R :=
 (match ((w_2.size : Int) == 0) with
  | true => k 0
  | false => (match (w_2.toList == w_1.toList) with
  | true => k 0
  | false => (match ((w_2.size : Int) == 1) with
   | true => byteAt w_2 0 fun n1 => g_zak N w_1 n1 fun x2 => k x2
   | false => (match decide ((w_2.size : Int) ≥ (w_1.size : Int)) with
   | true => k (-1)
   | false => none))))
def g_zan := @sealed _ @gb_zan
theorem g_zan_eq : @g_zan = @gb_zan := @sealed_eq _ @gb_zan
def gb_zbz {R : Type} (N : Nat) (w_1 w_2 : ByteArray) (k : Int → Option R) : Option R :=
 g_zan N w_1 w_2 fun x1 => k x1
def g_zbz := @sealed _ @gb_zbz
theorem g_zbz_eq : @g_zbz = @gb_zbz := @sealed_eq _ @gb_zbz
def gb_zal {R : Type} (N : Nat) (w_1 : ByteArray) (x_2 : Int) (k : Int → Option R) : Option R :=
 k ((Go.Lib.countByte w_1.data.toList x_2.toNat.toUInt8 : Nat) : Int)
def g_zal := @sealed _ @gb_zal
theorem g_zal_eq : @g_zal = @gb_zal := @sealed_eq _ @gb_zal
def l_zby_0_step {R : Type} (N : Nat) (w_2 : ByteArray) (nx : ByteArray → Int → Option R) (w_1 : ByteArray) (x_3 : Int) (k0 : Int → Option R) : Option R :=
 g_zbz N w_1 w_2 fun x4 => (match (x4 == (-1)) with
  | true => k0 x_3
  | false => (if (0 : Int) ≤ IntKind.i64.wrap (x4 + (w_2.size : Int)) ∧ IntKind.i64.wrap (x4 + (w_2.size : Int)) ≤ (w_1.size : Int) then nx (ByteArray.extract w_1 ((IntKind.i64.wrap (x4 + (w_2.size : Int))).toNat) w_1.size) (IntKind.i64.wrap (x_3 + 1)) else none))
def l_zby_0 {R : Type} (N : Nat) (w_2 : ByteArray) (k0 : Int → Option R) : Nat → ByteArray → Int → Option R
 | 0, _, _ => none
 | n + 1, w_1, x_3 => l_zby_0_step N w_2 (fun w_1 x_3 => l_zby_0 N w_2 k0 n w_1 x_3) w_1 x_3 k0
def gb_zby {R : Type} (N : Nat) (w_1 w_2 : ByteArray) (k : Int → Option R) : Option R :=
 (match ((w_2.size : Int) == 0) with
  | true => none
  | false => (match ((w_2.size : Int) == 1) with
  | true => byteAt w_2 0 fun n1 => g_zal N w_1 n1 fun x2 => k x2
  | false => l_zby_0 N w_2
    (fun x5 => k x5)
    N w_1 0))
def g_zby := @sealed _ @gb_zby
theorem g_zby_eq : @g_zby = @gb_zby := @sealed_eq _ @gb_zby
def l_zay_0_step {R : Type} (N : Nat) (w_2 : ByteArray) (x_3 x_4 : Int) (k_5 : Nat) (nx : ByteArray → Int → List V → Option R) (w_1 : ByteArray) (x_6 : Int) (e_7 : List V) (k0 : ByteArray → Int → List V → Option R) : Option R :=
 (match decide (x_6 < x_4) with
  | true => g_zbz N w_1 w_2 fun x5 => (match decide (x5 < 0) with
  | true => k0 w_1 x_6 e_7
  | false => (if (0 : Int) ≤ IntKind.i64.wrap (x5 + x_3) ∧ IntKind.i64.wrap (x5 + x_3) ≤ (w_1.size : Int) then (if (0 : Int) ≤ x_6 ∧ x_6 < k_5 then (match nth e_7 (0 + x_6.toNat) with
    | some e6 => (match putCells e6 0 [.str (ByteArray.extract w_1 0 ((IntKind.i64.wrap (x5 + x_3)).toNat))] with
    | some e7 => (if (0 : Int) ≤ IntKind.i64.wrap (x5 + (w_2.size : Int)) ∧ IntKind.i64.wrap (x5 + (w_2.size : Int)) ≤ (w_1.size : Int) then nx (ByteArray.extract w_1 ((IntKind.i64.wrap (x5 + (w_2.size : Int))).toNat) w_1.size) (IntKind.i64.wrap (x_6 + 1)) (setAt e_7 (0 + x_6.toNat) e7) else none)
    | none => none)
    | none => none) else none) else none))
  | false => k0 w_1 x_6 e_7)
def l_zay_0 {R : Type} (N : Nat) (w_2 : ByteArray) (x_3 x_4 : Int) (k_5 : Nat) (k0 : ByteArray → Int → List V → Option R) : Nat → ByteArray → Int → List V → Option R
 | 0, _, _, _ => none
 | n + 1, w_1, x_6, e_7 => l_zay_0_step N w_2 x_3 x_4 k_5 (fun w_1 x_6 e_7 => l_zay_0 N w_2 x_3 x_4 k_5 k0 n w_1 x_6 e_7) w_1 x_6 e_7 k0
def gb_zay {R : Type} (N : Nat) (w_1 w_2 : ByteArray) (x_3 x_4 : Int) (k0 : List V → Option R) (k1 : Nat → List V → Option R) : Option R :=
 (match (x_4 == 0) with
  | true => k0 []
  | false => (match (w_2.toList == (ByteArray.mk #[]).toList) with
  | true => none
  | false => (match decide (x_4 < 0) with
   | true => g_zby N w_1 w_2 fun x1 => (if 0 ≤ (if IntKind.i64.wrap ((w_1.size : Int) + 1) < IntKind.i64.wrap (x1 + 1) then IntKind.i64.wrap ((w_1.size : Int) + 1) else IntKind.i64.wrap (x1 + 1)) ∧ (if IntKind.i64.wrap ((w_1.size : Int) + 1) < IntKind.i64.wrap (x1 + 1) then IntKind.i64.wrap ((w_1.size : Int) + 1) else IntKind.i64.wrap (x1 + 1)) = (if IntKind.i64.wrap ((w_1.size : Int) + 1) < IntKind.i64.wrap (x1 + 1) then IntKind.i64.wrap ((w_1.size : Int) + 1) else IntKind.i64.wrap (x1 + 1)) ∧ (if IntKind.i64.wrap ((w_1.size : Int) + 1) < IntKind.i64.wrap (x1 + 1) then IntKind.i64.wrap ((w_1.size : Int) + 1) else IntKind.i64.wrap (x1 + 1)) * 16 ≤ 140737488355328 then l_zay_0 N w_2 x_3 (IntKind.i64.wrap ((if IntKind.i64.wrap ((w_1.size : Int) + 1) < IntKind.i64.wrap (x1 + 1) then IntKind.i64.wrap ((w_1.size : Int) + 1) else IntKind.i64.wrap (x1 + 1)) - 1)) (((if IntKind.i64.wrap ((w_1.size : Int) + 1) < IntKind.i64.wrap (x1 + 1) then IntKind.i64.wrap ((w_1.size : Int) + 1) else IntKind.i64.wrap (x1 + 1))).toNat)
     (fun w8 x9 e10 => (if (0 : Int) ≤ x9 ∧ x9 < ((if IntKind.i64.wrap ((w_1.size : Int) + 1) < IntKind.i64.wrap (x1 + 1) then IntKind.i64.wrap ((w_1.size : Int) + 1) else IntKind.i64.wrap (x1 + 1))).toNat then (match nth e10 (0 + x9.toNat) with
     | some e11 => (match putCells e11 0 [.str w8] with
     | some e12 => (if (0 : Int) ≤ IntKind.i64.wrap (x9 + 1) ∧ IntKind.i64.wrap (x9 + 1) ≤ (((if IntKind.i64.wrap ((w_1.size : Int) + 1) < IntKind.i64.wrap (x1 + 1) then IntKind.i64.wrap ((w_1.size : Int) + 1) else IntKind.i64.wrap (x1 + 1))).toNat : Int) then guardB (cellsNoRef (setAt e10 (0 + x9.toNat) e12) && true) (k1 ((IntKind.i64.wrap (x9 + 1)).toNat) (setAt e10 (0 + x9.toNat) e12)) else none)
     | none => none)
     | none => none) else none))
     N w_1 0 (List.replicate (((if IntKind.i64.wrap ((w_1.size : Int) + 1) < IntKind.i64.wrap (x1 + 1) then IntKind.i64.wrap ((w_1.size : Int) + 1) else IntKind.i64.wrap (x1 + 1))).toNat) (.str (ByteArray.mk #[]))) else none)
   | false => (if 0 ≤ (if IntKind.i64.wrap ((w_1.size : Int) + 1) < x_4 then IntKind.i64.wrap ((w_1.size : Int) + 1) else x_4) ∧ (if IntKind.i64.wrap ((w_1.size : Int) + 1) < x_4 then IntKind.i64.wrap ((w_1.size : Int) + 1) else x_4) = (if IntKind.i64.wrap ((w_1.size : Int) + 1) < x_4 then IntKind.i64.wrap ((w_1.size : Int) + 1) else x_4) ∧ (if IntKind.i64.wrap ((w_1.size : Int) + 1) < x_4 then IntKind.i64.wrap ((w_1.size : Int) + 1) else x_4) * 16 ≤ 140737488355328 then l_zay_0 N w_2 x_3 (IntKind.i64.wrap ((if IntKind.i64.wrap ((w_1.size : Int) + 1) < x_4 then IntKind.i64.wrap ((w_1.size : Int) + 1) else x_4) - 1)) (((if IntKind.i64.wrap ((w_1.size : Int) + 1) < x_4 then IntKind.i64.wrap ((w_1.size : Int) + 1) else x_4)).toNat)
     (fun w13 x14 e15 => (if (0 : Int) ≤ x14 ∧ x14 < ((if IntKind.i64.wrap ((w_1.size : Int) + 1) < x_4 then IntKind.i64.wrap ((w_1.size : Int) + 1) else x_4)).toNat then (match nth e15 (0 + x14.toNat) with
     | some e16 => (match putCells e16 0 [.str w13] with
     | some e17 => (if (0 : Int) ≤ IntKind.i64.wrap (x14 + 1) ∧ IntKind.i64.wrap (x14 + 1) ≤ (((if IntKind.i64.wrap ((w_1.size : Int) + 1) < x_4 then IntKind.i64.wrap ((w_1.size : Int) + 1) else x_4)).toNat : Int) then guardB (cellsNoRef (setAt e15 (0 + x14.toNat) e17) && true) (k1 ((IntKind.i64.wrap (x14 + 1)).toNat) (setAt e15 (0 + x14.toNat) e17)) else none)
     | none => none)
     | none => none) else none))
     N w_1 0 (List.replicate (((if IntKind.i64.wrap ((w_1.size : Int) + 1) < x_4 then IntKind.i64.wrap ((w_1.size : Int) + 1) else x_4)).toNat) (.str (ByteArray.mk #[]))) else none))))
def g_zay := @sealed _ @gb_zay
theorem g_zay_eq : @g_zay = @gb_zay := @sealed_eq _ @gb_zay
def gb_zca {R : Type} (N : Nat) (w_1 w_2 : ByteArray) (k0 : List V → Option R) (k1 : Nat → List V → Option R) : Option R :=
 g_zay N w_1 w_2 0 (-1)
   (fun e1 => k0 e1)
   (fun k2 e3 => guardB (cellsNoRef e3 && true) (k1 k2 e3))
def g_zca := @sealed _ @gb_zca
theorem g_zca_eq : @g_zca = @gb_zca := @sealed_eq _ @gb_zca
def gb_zbc {R : Type} (N : Nat) (w_1 : ByteArray) (k : Bool → Option R) : Option R :=
 k (w_1.toList == (ByteArray.mk #[]).toList)
def g_zbc := @sealed _ @gb_zbc
theorem g_zbc_eq : @g_zbc = @gb_zbc := @sealed_eq _ @gb_zbc
def l_zac_0_step {R : Type} (N : Nat) (e_1 : List V) (f_2 : Fl) (x_3 : Int) (nx : Int → Option R) (x_4 : Int) (k0 : Int → Option R) (k1 : Unit → Option R) : Option R :=
 (match decide (x_4 < x_3) with
  | true => (if 0 ≤ x_4 then must (nth e_1 x_4.toNat) fun e4 => asStr e4 fun w5 => g_zbc N w5 fun b6 => (match b6 with
   | true => k0 x_4
   | false => nx (IntKind.i64.wrap (x_4 + 1))) else none)
  | false => k1 ())
def l_zac_0 {R : Type} (N : Nat) (e_1 : List V) (f_2 : Fl) (x_3 : Int) (k0 : Int → Option R) (k1 : Unit → Option R) : Nat → Int → Option R
 | 0, _ => none
 | n + 1, x_4 => l_zac_0_step N e_1 f_2 x_3 (fun x_4 => l_zac_0 N e_1 f_2 x_3 k0 k1 n x_4) x_4 k0 k1
def gb_zac {R : Type} (N : Nat) (e_1 : List V) (f_2 : Fl) (k : Int → Option R) : Option R :=
 l_zac_0 N e_1 f_2 (e_1.length : Int)
   (fun x7 => k x7)
   (fun (_ : Unit) => k (-1))
   N 0
def g_zac := @sealed _ @gb_zac
theorem g_zac_eq : @g_zac = @gb_zac := @sealed_eq _ @gb_zac
def l_zab_0_step {R : Type} (N : Nat) (k_1 : Nat) (nx : Int → Int → List V → Option R) (x_2 x_3 : Int) (e_4 : List V) (k0 : Int → List V → Option R) : Option R :=
 (match decide (x_3 < (k_1 : Int)) with
  | true => (if (0 : Int) ≤ x_3 ∧ x_3 < k_1 then (match nth e_4 (0 + x_3.toNat) with
   | some e10 => asCons (e10.cells.drop 0) fun c11 l12 => asStr c11 fun w13 => g_zbc N w13 fun b14 => (match (!b14) with
   | true => (if (0 : Int) ≤ x_2 ∧ x_2 < k_1 then (match nth e_4 (0 + x_2.toNat) with
    | some e15 => (match putCells e15 0 [.str w13] with
     | some e16 => nx (IntKind.i64.wrap (x_2 + 1)) (IntKind.i64.wrap (x_3 + 1)) (setAt e_4 (0 + x_2.toNat) e16)
     | none => none)
    | none => none) else none)
   | false => nx x_2 (IntKind.i64.wrap (x_3 + 1)) e_4)
   | none => none) else none)
  | false => k0 x_2 e_4)
def l_zab_0 {R : Type} (N : Nat) (k_1 : Nat) (k0 : Int → List V → Option R) : Nat → Int → Int → List V → Option R
 | 0, _, _, _ => none
 | n + 1, x_2, x_3, e_4 => l_zab_0_step N k_1 (fun x_2 x_3 e_4 => l_zab_0 N k_1 k0 n x_2 x_3 e_4) x_2 x_3 e_4 k0
def gb_zab {R : Type} (N : Nat) (k_1 : Nat) (e_2 : List V) (k : Nat → List V → Option R) : Option R :=
 (match mapSome (freeze true [some ⟨e_2, 1, 9, 0⟩] 11) ((e_2.drop 0).take k_1) with
  | some e1 => guardB (decide (0 + k_1 ≤ e_2.length)) (g_zac N (e1.map V.lent) .bor fun x2 => (match (x2 == (-1)) with
   | true => guardB (cellsNoRef e_2 && true) (k k_1 e_2)
   | false => l_zab_0 N k_1
     (fun x17 e18 => (if (0 : Int) ≤ x17 ∧ x17 ≤ (k_1 : Int) then guardB (decide ((0 + (x17 : Int).toNat) + (k_1 - (x17 : Int).toNat) ≤ e18.length)) ((if (0 : Int) ≤ x17 ∧ x17 ≤ (k_1 : Int) then guardB (cellsNoRef (fillZ e18 (0 + (x17 : Int).toNat) (k_1 - (x17 : Int).toNat) (.str (ByteArray.mk #[]))) && true) (k ((x17 : Int).toNat) (fillZ e18 (0 + (x17 : Int).toNat) (k_1 - (x17 : Int).toNat) (.str (ByteArray.mk #[])))) else none)) else none))
     N x2 (IntKind.i64.wrap (x2 + 1)) e_2))
  | none => none)
def g_zab := @sealed _ @gb_zab
theorem g_zab_eq : @g_zab = @gb_zab := @sealed_eq _ @gb_zab
def gb_zce {R : Type} (N : Nat) (w_1 : ByteArray) (k : List V → Option R) : Option R :=
 g_zca N w_1 (ByteArray.mk #[47])
   (fun e1 => none)
   (fun k2 e3 => guardB (cellsNoRef e3 && true) (g_zab N k2 e3 fun k4 e5 => (match mapSome (freeze false [some ⟨e5, 1, 9, 0⟩] 11) ((e5.drop 0).take k4) with
   | some e6 => guardB (decide (0 + k4 ≤ e5.length)) (guardB (e6.all V.plain) (k e6))
   | none => none)))
def g_zce := @sealed _ @gb_zce
theorem g_zce_eq : @g_zce = @gb_zce := @sealed_eq _ @gb_zce
def gb_zbg {R : Type} (N : Nat) (w_1 : ByteArray) (k : Bool → Option R) : Option R :=
 g_zcy N w_1 fun b1 => k (!b1)
def g_zbg := @sealed _ @gb_zbg
theorem g_zbg_eq : @g_zbg = @gb_zbg := @sealed_eq _ @gb_zbg
def l_zad_0_step {R : Type} (N : Nat) (e_1 : List V) (f_2 : Fl) (x_3 : Int) (nx : Int → Option R) (x_4 : Int) (k0 : Int → Option R) (k1 : Unit → Option R) : Option R :=
 (match decide (x_4 < x_3) with
  | true => (if 0 ≤ x_4 then must (nth e_1 x_4.toNat) fun e4 => asStr e4 fun w5 => g_zbg N w5 fun b6 => (match b6 with
   | true => k0 x_4
   | false => nx (IntKind.i64.wrap (x_4 + 1))) else none)
  | false => k1 ())
def l_zad_0 {R : Type} (N : Nat) (e_1 : List V) (f_2 : Fl) (x_3 : Int) (k0 : Int → Option R) (k1 : Unit → Option R) : Nat → Int → Option R
 | 0, _ => none
 | n + 1, x_4 => l_zad_0_step N e_1 f_2 x_3 (fun x_4 => l_zad_0 N e_1 f_2 x_3 k0 k1 n x_4) x_4 k0 k1
def gb_zad {R : Type} (N : Nat) (e_1 : List V) (f_2 : Fl) (k : Int → Option R) : Option R :=
 l_zad_0 N e_1 f_2 (e_1.length : Int)
   (fun x7 => k x7)
   (fun (_ : Unit) => k (-1))
   N 0
def g_zad := @sealed _ @gb_zad
theorem g_zad_eq : @g_zad = @gb_zad := @sealed_eq _ @gb_zad
def gb_zaa {R : Type} (N : Nat) (e_1 : List V) (f_2 : Fl) (k : Bool → Option R) : Option R :=
 g_zad N e_1 f_2.noOwn.noOwn fun x1 => k (decide (x1 ≥ 0))
def g_zaa := @sealed _ @gb_zaa
theorem g_zaa_eq : @g_zaa = @gb_zaa := @sealed_eq _ @gb_zaa
def gb_zcw {R : Type} (N : Nat) (w_1 : ByteArray) (k : Bool → Option R) : Option R :=
 (match (!(w_1.toList == (ByteArray.mk #[]).toList)) with
  | true => g_zce N w_1 fun e1 => g_zaa N e1 .sh fun b2 => k (!b2)
  | false => k false)
def g_zcw := @sealed _ @gb_zcw
theorem g_zcw_eq : @g_zcw = @gb_zcw := @sealed_eq _ @gb_zcw
def gb_zbs {R : Type} (N : Nat) (w_1 : ByteArray) (k : Bool → Option R) : Option R :=
 (match decide ((w_1.size : Int) ≤ 60) with
  | true => g_zcw N w_1 fun b1 => k b1
  | false => k false)
def g_zbs := @sealed _ @gb_zbs
theorem g_zbs_eq : @g_zbs = @gb_zbs := @sealed_eq _ @gb_zbs
def gb_zax {R : Type} (N : Nat) (x_1 x_2 x_3 x_4 x_5 : Int) (w_6 : ByteArray) (e_7 : List V) (f_8 : Fl) (k : Bool → Option R) : Option R :=
 (match (x_1 == 0) with
  | true => (match (x_2 == 0) with
  | true => (match (x_3 == 0) with
   | true => (match (x_4 == 0) with
   | true => (match (x_5 == 0) with
    | true => (match (w_6.toList == (ByteArray.mk #[]).toList) with
    | true => k ((e_7.length : Int) == 0)
    | false => k false)
    | false => k false)
   | false => k false)
   | false => k false)
  | false => k false)
  | false => k false)
def g_zax := @sealed _ @gb_zax
theorem g_zax_eq : @g_zax = @gb_zax := @sealed_eq _ @gb_zax
def gb_zda {R : Type} (N : Nat) (x_1 : Int) (k : Bool → Option R) : Option R :=
 g_zdb N x_1 0 1000000 fun b1 => k b1
def g_zda := @sealed _ @gb_zda
theorem g_zda_eq : @g_zda = @gb_zda := @sealed_eq _ @gb_zda
def gb_zba {R : Type} (N : Nat) (e_1 : List V) (f_2 : Fl) (x_3 x_4 : Int) (k : Bool → Option R) : Option R :=
 g_zdb N x_4 0 (IntKind.i64.wrap ((e_1.length : Int) - 1)) fun b1 => (match b1 with
  | true => (if 0 ≤ x_4 then must (nth e_1 x_4.toNat) fun e2 => un_impl_Node e2 fun n3 n4 n5 n6 n7 w8 e9 f10 => k (n3 != 0) else none)
  | false => k false)
def g_zba := @sealed _ @gb_zba
theorem g_zba_eq : @g_zba = @gb_zba := @sealed_eq _ @gb_zba
def l_zbe_0_step {R : Type} (N : Nat) (e_1 : List V) (f_2 : Fl) (x_3 : Int) (e_5 : List V) (f_6 : Fl) (x_7 x_8 x_9 x_10 x_11 x_12 : Int) (w_13 : ByteArray) (e_14 : List V) (f_15 : Fl) (nx : Int → Option R) (x_4 : Int) (k0 : Unit → Option R) (k1 : Unit → Option R) : Option R :=
 (match decide (x_4 < x_3) with
  | true => (if 0 ≤ x_4 then must (nth e_1 x_4.toNat) fun e16 => un_impl_Entry e16 fun w17 n18 => g_zbr N w17 fun b19 => (match (!b19) with
   | true => k0 ()
   | false => (match decide (x_4 > 0) with
   | true => (if 0 ≤ IntKind.i64.wrap (x_4 - 1) then must (nth e_14 ((IntKind.i64.wrap (x_4 - 1)).toNat)) fun e20 => un_impl_Entry e20 fun w21 n22 => (match (!Op.bytesLess w21.toList w17.toList) with
    | true => k0 ()
    | false => g_zba N e_5 f_6.noOwn.noOwn.noOwn.noOwn x_7 n18 fun b23 => (match (!b23) with
     | true => k0 ()
     | false => nx (IntKind.i64.wrap (x_4 + 1)))) else none)
   | false => g_zba N e_5 f_6.noOwn.noOwn.noOwn.noOwn x_7 n18 fun b24 => (match (!b24) with
    | true => k0 ()
    | false => nx (IntKind.i64.wrap (x_4 + 1))))) else none)
  | false => k1 ())
def l_zbe_0 {R : Type} (N : Nat) (e_1 : List V) (f_2 : Fl) (x_3 : Int) (e_5 : List V) (f_6 : Fl) (x_7 x_8 x_9 x_10 x_11 x_12 : Int) (w_13 : ByteArray) (e_14 : List V) (f_15 : Fl) (k0 : Unit → Option R) (k1 : Unit → Option R) : Nat → Int → Option R
 | 0, _ => none
 | n + 1, x_4 => l_zbe_0_step N e_1 f_2 x_3 e_5 f_6 x_7 x_8 x_9 x_10 x_11 x_12 w_13 e_14 f_15 (fun x_4 => l_zbe_0 N e_1 f_2 x_3 e_5 f_6 x_7 x_8 x_9 x_10 x_11 x_12 w_13 e_14 f_15 k0 k1 n x_4) x_4 k0 k1
def gb_zbe {R : Type} (N : Nat) (e_1 : List V) (f_2 : Fl) (x_3 x_4 x_5 x_6 x_7 x_8 : Int) (w_9 : ByteArray) (e_10 : List V) (f_11 : Fl) (k : Bool → Option R) : Option R :=
 (match (x_4 == 0) with
  | true => g_zax N x_4 x_5 x_6 x_7 x_8 w_9 e_10 f_11.noOwn.noOwn fun b1 => k b1
  | false => g_zcx N x_5 fun b2 => (match (!b2) with
  | true => k false
  | false => g_zdt N x_6 fun b3 => (match (!b3) with
   | true => k false
   | false => g_zdt N x_7 fun b4 => (match (!b4) with
   | true => k false
   | false => g_zda N x_8 fun b5 => (match (!b5) with
    | true => k false
    | false => (match (x_4 != 2) with
    | true => (match decide ((e_10.length : Int) > 0) with
     | true => k false
     | false => (match (x_4 == 1) with
     | true => k (decide ((w_9.size : Int) ≤ 60))
     | false => (match (x_4 == 3) with
      | true => g_zbs N w_9 fun b6 => k b6
      | false => (match (x_4 == 2) with
      | true => l_zbe_0 N e_10 f_11.noOwn (e_10.length : Int) e_1 f_2 x_3 x_4 x_5 x_6 x_7 x_8 w_9 e_10 f_11
        (fun (_ : Unit) => k false)
        (fun (_ : Unit) => k (w_9.toList == (ByteArray.mk #[]).toList))
        N 0
      | false => k false))))
    | false => (match (x_4 == 1) with
     | true => k (decide ((w_9.size : Int) ≤ 60))
     | false => (match (x_4 == 3) with
     | true => g_zbs N w_9 fun b25 => k b25
     | false => (match (x_4 == 2) with
      | true => l_zbe_0 N e_10 f_11.noOwn (e_10.length : Int) e_1 f_2 x_3 x_4 x_5 x_6 x_7 x_8 w_9 e_10 f_11
        (fun (_ : Unit) => k false)
        (fun (_ : Unit) => k (w_9.toList == (ByteArray.mk #[]).toList))
        N 0
      | false => k false)))))))))
def g_zbe := @sealed _ @gb_zbe
theorem g_zbe_eq : @g_zbe = @gb_zbe := @sealed_eq _ @gb_zbe
def l_zaz_0_step {R : Type} (N : Nat) (e_2 : List V) (f_3 : Fl) (x_4 : Int) (e_6 : List V) (f_7 : Fl) (x_8 : Int) (nx : Int → Int → Option R) (x_1 x_5 : Int) (k0 : Int → Option R) : Option R :=
 (match decide (x_5 < x_4) with
  | true => (if 0 ≤ x_5 then must (nth e_2 x_5.toNat) fun e10 => un_impl_Node e10 fun n11 n12 n13 n14 n15 w16 e17 f18 => nx (IntKind.i64.wrap (x_1 + (w16.size : Int))) (IntKind.i64.wrap (x_5 + 1)) else none)
  | false => k0 x_1)
def l_zaz_0 {R : Type} (N : Nat) (e_2 : List V) (f_3 : Fl) (x_4 : Int) (e_6 : List V) (f_7 : Fl) (x_8 : Int) (k0 : Int → Option R) : Nat → Int → Int → Option R
 | 0, _, _ => none
 | n + 1, x_1, x_5 => l_zaz_0_step N e_2 f_3 x_4 e_6 f_7 x_8 (fun x_1 x_5 => l_zaz_0 N e_2 f_3 x_4 e_6 f_7 x_8 k0 n x_1 x_5) x_1 x_5 k0
def gb_zaz {R : Type} (N : Nat) (e_1 : List V) (f_2 : Fl) (x_3 : Int) (k : Int → Option R) : Option R :=
 l_zaz_0 N e_1 f_2.noOwn (e_1.length : Int) e_1 f_2 x_3
   (fun x19 => k x19)
   N 0 0
def g_zaz := @sealed _ @gb_zaz
theorem g_zaz_eq : @g_zaz = @gb_zaz := @sealed_eq _ @gb_zaz
def l_zbn_0_step {R : Type} (N : Nat) (k_1 : Nat) (e_2 : List V) (f_3 : Fl) (x_4 x_5 : Int) (e_6 : List V) (f_7 : Fl) (x_8 : Int) (e_10 : List V) (f_11 : Fl) (x_12 x_14 x_15 x_16 x_17 x_18 : Int) (w_19 : ByteArray) (e_20 : List V) (f_21 : Fl) (nx : Int → List V → Option R) (x_9 : Int) (e_13 : List V) (k0 : List V → Option R) : Option R :=
 (match decide (x_9 < x_8) with
  | true => (if 0 ≤ x_9 then must (nth e_6 x_9.toNat) fun e19 => un_impl_Entry e19 fun w20 n21 => (if (0 : Int) ≤ n21 ∧ n21 < k_1 then (match nth e_13 (0 + n21.toNat) with
   | some e22 => asCons (e22.cells.drop 0) fun c23 l24 => asInt .i64 c23 fun n25 => (if (0 : Int) ≤ n21 ∧ n21 < k_1 then (match nth e_13 (0 + n21.toNat) with
    | some e26 => (match putCells e26 0 [.int .i64 (IntKind.i64.wrap (n25 + 1))] with
     | some e27 => nx (IntKind.i64.wrap (x_9 + 1)) ((setAt e_13 (0 + n21.toNat) e27).map (trimV 3))
     | none => none)
    | none => none) else none)
   | none => none) else none) else none)
  | false => k0 (e_13.map (trimV 3)))
def l_zbn_0 {R : Type} (N : Nat) (k_1 : Nat) (e_2 : List V) (f_3 : Fl) (x_4 x_5 : Int) (e_6 : List V) (f_7 : Fl) (x_8 : Int) (e_10 : List V) (f_11 : Fl) (x_12 x_14 x_15 x_16 x_17 x_18 : Int) (w_19 : ByteArray) (e_20 : List V) (f_21 : Fl) (k0 : List V → Option R) : Nat → Int → List V → Option R
 | 0, _, _ => none
 | n + 1, x_9, e_13 => l_zbn_0_step N k_1 e_2 f_3 x_4 x_5 e_6 f_7 x_8 e_10 f_11 x_12 x_14 x_15 x_16 x_17 x_18 w_19 e_20 f_21 (fun x_9 e_13 => l_zbn_0 N k_1 e_2 f_3 x_4 x_5 e_6 f_7 x_8 e_10 f_11 x_12 x_14 x_15 x_16 x_17 x_18 w_19 e_20 f_21 k0 n x_9 e_13) x_9 e_13 k0
def l_zbn_1_step {R : Type} (N : Nat) (k_1 : Nat) (e_2 : List V) (f_3 : Fl) (x_4 : Int) (e_6 : List V) (f_7 : Fl) (x_8 : Int) (nx : Int → List V → Option R) (x_5 : Int) (e_9 : List V) (k0 : List V → Option R) : Option R :=
 (match decide (x_5 < x_4) with
  | true => (if 0 ≤ x_5 then must (nth e_2 x_5.toNat) fun e29 => un_impl_Node e29 fun n30 n31 n32 n33 n34 w35 e36 f37 => l_zbn_0 N k_1 e_2 f_3 x_4 x_5 e36 f37.noOwn.noOwn (e36.length : Int) e_6 f_7 x_8 n30 n31 n32 n33 n34 w35 e36 f37.noOwn
    (fun e38 => nx (IntKind.i64.wrap (x_5 + 1)) (e38.map (trimV 2)))
    N 0 e_9 else none)
  | false => k0 (e_9.map (trimV 2)))
def l_zbn_1 {R : Type} (N : Nat) (k_1 : Nat) (e_2 : List V) (f_3 : Fl) (x_4 : Int) (e_6 : List V) (f_7 : Fl) (x_8 : Int) (k0 : List V → Option R) : Nat → Int → List V → Option R
 | 0, _, _ => none
 | n + 1, x_5, e_9 => l_zbn_1_step N k_1 e_2 f_3 x_4 e_6 f_7 x_8 (fun x_5 e_9 => l_zbn_1 N k_1 e_2 f_3 x_4 e_6 f_7 x_8 k0 n x_5 e_9) x_5 e_9 k0
def gb_zbn {R : Type} (N : Nat) (e_1 : List V) (f_2 : Fl) (x_3 : Int) (k : List V → Option R) : Option R :=
 (if 0 ≤ (e_1.length : Int) ∧ (e_1.length : Int) = (e_1.length : Int) ∧ (e_1.length : Int) * 8 ≤ 140737488355328 then l_zbn_1 N (((e_1.length : Int)).toNat) e_1 f_2.noOwn (e_1.length : Int) e_1 f_2 x_3
    (fun e39 => (match mapSome (freeze false [some ⟨[.agg [.list 7 e_1 f_2, .int .i64 x_3]], 2, 34, 0⟩, some ⟨e39, 1, 3, 0⟩] 11) ((e39.drop 0).take (((e_1.length : Int)).toNat)) with
   | some e40 => guardB (decide (0 + ((e_1.length : Int)).toNat ≤ e39.length)) (guardB (e40.all V.plain) (k e40))
   | none => none))
    N 0 (List.replicate (((e_1.length : Int)).toNat) (.int .i64 0)) else none)
def g_zbn := @sealed _ @gb_zbn
theorem g_zbn_eq : @g_zbn = @gb_zbn := @sealed_eq _ @gb_zbn
def l_zcu_0_step {R : Type} (N : Nat) (e_1 : List V) (f_2 : Fl) (x_3 : Int) (e_5 : List V) (f_6 : Fl) (x_7 : Int) (nx : Int → Option R) (x_4 : Int) (k0 : Unit → Option R) (k1 : Unit → Option R) : Option R :=
 (match decide (x_4 < x_3) with
  | true => (if 0 ≤ x_4 then must (nth e_1 x_4.toNat) fun e22 => un_impl_Node e22 fun n23 n24 n25 n26 n27 w28 e29 f30 => g_zbe N e_5 f_6.noOwn.noOwn x_7 n23 n24 n25 n26 n27 w28 e29 f30.noOwn.noOwn.noOwn fun b31 => (match (!b31) with
   | true => k0 ()
   | false => nx (IntKind.i64.wrap (x_4 + 1))) else none)
  | false => k1 ())
def l_zcu_0 {R : Type} (N : Nat) (e_1 : List V) (f_2 : Fl) (x_3 : Int) (e_5 : List V) (f_6 : Fl) (x_7 : Int) (k0 : Unit → Option R) (k1 : Unit → Option R) : Nat → Int → Option R
 | 0, _ => none
 | n + 1, x_4 => l_zcu_0_step N e_1 f_2 x_3 e_5 f_6 x_7 (fun x_4 => l_zcu_0 N e_1 f_2 x_3 e_5 f_6 x_7 k0 k1 n x_4) x_4 k0 k1
def l_zcu_1_step {R : Type} (N : Nat) (e_1 e_2 : List V) (f_3 : Fl) (x_4 : Int) (e_6 : List V) (f_7 : Fl) (x_8 : Int) (nx : Int → Option R) (x_5 : Int) (k0 : Unit → Option R) (k1 : Unit → Option R) : Option R :=
 (match decide (x_5 < x_4) with
  | true => (if 0 ≤ x_5 then must (nth e_2 x_5.toNat) fun e52 => un_impl_Node e52 fun n53 n54 n55 n56 n57 w58 e59 f60 => (match (x_5 == 0) with
   | true => (match (n53 != 0) with
   | true => (if 0 ≤ x_5 then must (nth e_1 x_5.toNat) fun e61 => asInt .i64 e61 fun n62 => g_zdb N n62 (if 1 < x_5 then 1 else x_5) 0 fun b63 => (match (!b63) with
    | true => k0 ()
    | false => nx (IntKind.i64.wrap (x_5 + 1))) else none)
   | false => nx (IntKind.i64.wrap (x_5 + 1)))
   | false => (match (n53 == 2) with
   | true => (match (n53 != 0) with
    | true => (if 0 ≤ x_5 then must (nth e_1 x_5.toNat) fun e64 => asInt .i64 e64 fun n65 => g_zdb N n65 (if 1 < x_5 then 1 else x_5) 1 fun b66 => (match (!b66) with
     | true => k0 ()
     | false => nx (IntKind.i64.wrap (x_5 + 1))) else none)
    | false => nx (IntKind.i64.wrap (x_5 + 1)))
   | false => (match (n53 != 0) with
    | true => (if 0 ≤ x_5 then must (nth e_1 x_5.toNat) fun e67 => asInt .i64 e67 fun n68 => g_zdb N n68 (if 1 < x_5 then 1 else x_5) 1152921504606846976 fun b69 => (match (!b69) with
     | true => k0 ()
     | false => nx (IntKind.i64.wrap (x_5 + 1))) else none)
    | false => nx (IntKind.i64.wrap (x_5 + 1))))) else none)
  | false => k1 ())
def l_zcu_1 {R : Type} (N : Nat) (e_1 e_2 : List V) (f_3 : Fl) (x_4 : Int) (e_6 : List V) (f_7 : Fl) (x_8 : Int) (k0 : Unit → Option R) (k1 : Unit → Option R) : Nat → Int → Option R
 | 0, _ => none
 | n + 1, x_5 => l_zcu_1_step N e_1 e_2 f_3 x_4 e_6 f_7 x_8 (fun x_5 => l_zcu_1 N e_1 e_2 f_3 x_4 e_6 f_7 x_8 k0 k1 n x_5) x_5 k0 k1
def l_zcu_2_step {R : Type} (N : Nat) (k_1 : Nat) (x_3 : Int) (e_4 : List V) (f_5 : Fl) (x_6 : Int) (e_8 : List V) (f_9 : Fl) (x_10 : Int) (nx : List V → Int → List V → Option R) (e_2 : List V) (x_7 : Int) (e_11 : List V) (k0 : List V → List V → Option R) : Option R :=
 (match decide (x_7 < x_6) with
  | true => (if 0 ≤ x_7 then must (nth e_4 x_7.toNat) fun e101 => un_impl_Entry e101 fun w102 n103 => (if 0 ≤ n103 then must (nth e_8 n103.toNat) fun e104 => un_impl_Node e104 fun n105 n106 n107 n108 n109 w110 e111 f112 => (match (n105 == 2) with
   | true => (if (0 : Int) ≤ n103 ∧ n103 < k_1 then (match nth e_11 (0 + n103.toNat) with
    | some e113 => asCons (e113.cells.drop 0) fun c114 l115 => asBool c114 fun b116 => (match (!b116) with
     | true => (if (e_2.length + 1) * 8 ≤ 140737488355328 then nx (e_2 ++ ([.int .i64 n103] : List V)) (IntKind.i64.wrap (x_7 + 1)) (e_11.map (trimV 2)) else none)
     | false => nx e_2 (IntKind.i64.wrap (x_7 + 1)) (e_11.map (trimV 2)))
    | none => none) else none)
   | false => nx e_2 (IntKind.i64.wrap (x_7 + 1)) (e_11.map (trimV 2))) else none) else none)
  | false => k0 e_2 (e_11.map (trimV 2)))
def l_zcu_2 {R : Type} (N : Nat) (k_1 : Nat) (x_3 : Int) (e_4 : List V) (f_5 : Fl) (x_6 : Int) (e_8 : List V) (f_9 : Fl) (x_10 : Int) (k0 : List V → List V → Option R) : Nat → List V → Int → List V → Option R
 | 0, _, _, _ => none
 | n + 1, e_2, x_7, e_11 => l_zcu_2_step N k_1 x_3 e_4 f_5 x_6 e_8 f_9 x_10 (fun e_2 x_7 e_11 => l_zcu_2 N k_1 x_3 e_4 f_5 x_6 e_8 f_9 x_10 k0 n e_2 x_7 e_11) e_2 x_7 e_11 k0
def l_zcu_3_step {R : Type} (N : Nat) (k_1 : Nat) (e_4 : List V) (f_5 : Fl) (x_6 : Int) (nx : List V → Int → List V → Option R) (e_2 : List V) (x_3 : Int) (e_7 : List V) (k0 : List V → Option R) : Option R :=
 (match decide (x_3 < (e_2.length : Int)) with
  | true => (if 0 ≤ x_3 then must (nth e_2 x_3.toNat) fun e119 => asInt .i64 e119 fun n120 => (if (0 : Int) ≤ n120 ∧ n120 < k_1 then (match nth e_7 (0 + n120.toNat) with
   | some e121 => (match putCells e121 0 [.bool true] with
    | some e122 => (if 0 ≤ x_3 then must (nth e_2 x_3.toNat) fun e123 => asInt .i64 e123 fun n124 => (if 0 ≤ n124 then must (nth e_4 n124.toNat) fun e125 => un_impl_Node e125 fun n126 n127 n128 n129 n130 w131 e132 f133 => l_zcu_2 N k_1 x_3 e132 f133.noOwn.noOwn (e132.length : Int) e_4 f_5 x_6
       (fun e134 e135 => nx e134 (IntKind.i64.wrap (x_3 + 1)) e135)
       N e_2 0 (setAt e_7 (0 + n120.toNat) e122) else none) else none)
    | none => none)
   | none => none) else none) else none)
  | false => k0 e_7)
def l_zcu_3 {R : Type} (N : Nat) (k_1 : Nat) (e_4 : List V) (f_5 : Fl) (x_6 : Int) (k0 : List V → Option R) : Nat → List V → Int → List V → Option R
 | 0, _, _, _ => none
 | n + 1, e_2, x_3, e_7 => l_zcu_3_step N k_1 e_4 f_5 x_6 (fun e_2 x_3 e_7 => l_zcu_3 N k_1 e_4 f_5 x_6 k0 n e_2 x_3 e_7) e_2 x_3 e_7 k0
def l_zcu_4_step {R : Type} (N : Nat) (k_1 : Nat) (e_2 : List V) (f_3 : Fl) (x_4 : Int) (e_6 : List V) (f_7 : Fl) (x_8 : Int) (nx : Int → List V → Option R) (x_5 : Int) (e_9 : List V) (k0 : List V → Option R) (k1 : List V → Option R) : Option R :=
 (match decide (x_5 < x_4) with
  | true => (if 0 ≤ x_5 then must (nth e_2 x_5.toNat) fun e150 => un_impl_Node e150 fun n151 n152 n153 n154 n155 w156 e157 f158 => (match (n151 == 2) with
   | true => (if (0 : Int) ≤ x_5 ∧ x_5 < k_1 then (match nth e_9 (0 + x_5.toNat) with
    | some e159 => asCons (e159.cells.drop 0) fun c160 l161 => asBool c160 fun b162 => (match (!b162) with
    | true => k0 (e_9.map (trimV 2))
    | false => nx (IntKind.i64.wrap (x_5 + 1)) (e_9.map (trimV 2)))
    | none => none) else none)
   | false => nx (IntKind.i64.wrap (x_5 + 1)) (e_9.map (trimV 2))) else none)
  | false => k1 (e_9.map (trimV 2)))
def l_zcu_4 {R : Type} (N : Nat) (k_1 : Nat) (e_2 : List V) (f_3 : Fl) (x_4 : Int) (e_6 : List V) (f_7 : Fl) (x_8 : Int) (k0 : List V → Option R) (k1 : List V → Option R) : Nat → Int → List V → Option R
 | 0, _, _ => none
 | n + 1, x_5, e_9 => l_zcu_4_step N k_1 e_2 f_3 x_4 e_6 f_7 x_8 (fun x_5 e_9 => l_zcu_4 N k_1 e_2 f_3 x_4 e_6 f_7 x_8 k0 k1 n x_5 e_9) x_5 e_9 k0 k1
def gb_zcu {R : Type} (N : Nat) (e_1 : List V) (f_2 : Fl) (x_3 : Int) (k : Bool → Option R) : Option R :=
 g_zdb N (e_1.length : Int) 1 40 fun b1 => (match (!b1) with
  | true => k false
  | false => g_zcz N x_3 fun b2 => (match (!b2) with
  | true => k false
  | false => must (nth e_1 0) fun e3 => un_impl_Node e3 fun n4 n5 n6 n7 n8 w9 e10 f11 => (match (n4 != 2) with
   | true => k false
   | false => l_zcu_0 N e_1 f_2.noOwn (e_1.length : Int) e_1 f_2 x_3
     (fun (_ : Unit) => k false)
     (fun (_ : Unit) => g_zaz N e_1 f_2.noOwn.noOwn.noOwn.noOwn x_3 fun x32 => (match decide (x32 > x_3) with
    | true => k false
    | false => g_zbn N e_1 f_2.noOwn.noOwn x_3 fun e33 => l_zcu_1 N e33 e_1 f_2.noOwn (e_1.length : Int) e_1 f_2 x_3
      (fun (_ : Unit) => k false)
      (fun (_ : Unit) => (if 0 ≤ (e_1.length : Int) ∧ (e_1.length : Int) = (e_1.length : Int) ∧ (e_1.length : Int) * 1 ≤ 140737488355328 then l_zcu_3 N (((e_1.length : Int)).toNat) e_1 f_2 x_3
       (fun e136 => l_zcu_4 N (((e_1.length : Int)).toNat) e_1 f_2.noOwn (e_1.length : Int) e_1 f_2 x_3
       (fun e163 => k false)
       (fun e164 => k true)
       N 0 e136)
       N [.int .i64 0] 0 (List.replicate (((e_1.length : Int)).toNat) (.bool false)) else none))
      N 0))
     N 0)))
def g_zcu := @sealed _ @gb_zcu
theorem g_zcu_eq : @g_zcu = @gb_zcu := @sealed_eq _ @gb_zcu
def gb_zbq {R : Type} (N : Nat) (x_1 x_2 : Int) (k : Bool → Option R) : Option R :=
 g_zdt N x_1 fun b1 => (match b1 with
  | true => g_zdt N x_2 fun b2 => k b2
  | false => k false)
def g_zbq := @sealed _ @gb_zbq
theorem g_zbq_eq : @g_zbq = @gb_zbq := @sealed_eq _ @gb_zbq
def gb_zcc {R : Type} (N : Nat) (e_1 : List V) (f_2 : Fl) (x_3 x_4 x_5 : Int) (k : Bool → Option R) : Option R :=
 g_zcu N e_1 f_2.noOwn.noOwn x_3 fun b1 => (match b1 with
  | true => g_zbq N x_4 x_5 fun b2 => k b2
  | false => k false)
def g_zcc := @sealed _ @gb_zcc
theorem g_zcc_eq : @g_zcc = @gb_zcc := @sealed_eq _ @gb_zcc
def gb_zbk {R : Type} (N : Nat) (x_1 x_2 x_3 x_4 x_5 x_6 : Int) (k : Bool → Option R) : Option R :=
 (match (x_1 == 0) with
  | true => k true
  | false => (match (x_1 == x_4) with
  | true => k (IntKind.i64.wrap (BitVec.ofInt IntKind.i64.bits x_6 &&& ~~~(BitVec.ofInt IntKind.i64.bits (Int.fdiv x_3 (2 ^ (min (6 : Int).toNat 64))))).toNat == 0)
  | false => (match (x_2 == x_5) with
   | true => k (IntKind.i64.wrap (BitVec.ofInt IntKind.i64.bits x_6 &&& ~~~(BitVec.ofInt IntKind.i64.bits (IntKind.i64.wrap (BitVec.ofInt IntKind.i64.bits (Int.fdiv x_3 (2 ^ (min (3 : Int).toNat 64))) &&& BitVec.ofInt IntKind.i64.bits 7).toNat))).toNat == 0)
   | false => k (IntKind.i64.wrap (BitVec.ofInt IntKind.i64.bits x_6 &&& ~~~(BitVec.ofInt IntKind.i64.bits (IntKind.i64.wrap (BitVec.ofInt IntKind.i64.bits x_3 &&& BitVec.ofInt IntKind.i64.bits 7).toNat))).toNat == 0))))
def g_zbk := @sealed _ @gb_zbk
theorem g_zbk_eq : @g_zbk = @gb_zbk := @sealed_eq _ @gb_zbk
def gb_zbo {R : Type} (N : Nat) (e_1 : List V) (f_2 : Fl) (x_3 x_4 x_5 x_6 x_7 : Int) (k : Bool → Option R) : Option R :=
 (if 0 ≤ x_6 then must (nth e_1 x_6.toNat) fun e1 => un_impl_Node e1 fun n2 n3 n4 n5 n6 w7 e8 f9 => g_zbk N x_4 x_5 n3 n4 n5 x_7 fun b10 => k b10 else none)
def g_zbo := @sealed _ @gb_zbo
theorem g_zbo_eq : @g_zbo = @gb_zbo := @sealed_eq _ @gb_zbo
def gb_zcd {R : Type} (N : Nat) (w_1 : ByteArray) (k : Bool → Option R) : Option R :=
 g_zbs N w_1 fun b1 => (match b1 with
  | true => byteAt w_1 0 fun n2 => k (n2 == 47)
  | false => k false)
def g_zcd := @sealed _ @gb_zcd
theorem g_zcd_eq : @g_zcd = @gb_zcd := @sealed_eq _ @gb_zcd
def gb_zaj {R : Type} (N : Nat) (w_1 w_2 : ByteArray) (k : Bool → Option R) : Option R :=
 (match decide ((w_1.size : Int) ≥ (w_2.size : Int)) with
  | true => (if (0 : Int) ≤ IntKind.i64.wrap ((w_1.size : Int) - (w_2.size : Int)) ∧ IntKind.i64.wrap ((w_1.size : Int) - (w_2.size : Int)) ≤ (w_1.size : Int) then k ((ByteArray.extract w_1 ((IntKind.i64.wrap ((w_1.size : Int) - (w_2.size : Int))).toNat) w_1.size).toList == w_2.toList) else none)
  | false => k false)
def g_zaj := @sealed _ @gb_zaj
theorem g_zaj_eq : @g_zaj = @gb_zaj := @sealed_eq _ @gb_zaj
def gb_zau {R : Type} (N : Nat) (w_1 w_2 : ByteArray) (k : Bool → Option R) : Option R :=
 g_zaj N w_1 w_2 fun b1 => k b1
def g_zau := @sealed _ @gb_zau
theorem g_zau_eq : @g_zau = @gb_zau := @sealed_eq _ @gb_zau
def gb_zbm {R : Type} (N : Nat) (e_1 : List V) (f_2 : Fl) (x_3 x_4 : Int) (k : Bool → Option R) : Option R :=
 (if 0 ≤ x_4 then must (nth e_1 x_4.toNat) fun e1 => un_impl_Node e1 fun n2 n3 n4 n5 n6 w7 e8 f9 => k (n2 == 2) else none)
def g_zbm := @sealed _ @gb_zbm
theorem g_zbm_eq : @g_zbm = @gb_zbm := @sealed_eq _ @gb_zbm
def l_zbf_0_step {R : Type} (N : Nat) (x_1 x_2 : Int) (e_3 : List V) (f_4 : Fl) (x_5 x_6 : Int) (e_7 : List V) (f_8 : Fl) (x_9 : Int) (e_11 : List V) (f_12 : Fl) (x_13 x_14 x_15 x_16 x_17 x_18 : Int) (w_19 : ByteArray) (e_20 : List V) (f_21 : Fl) (nx : Int → Option R) (x_10 : Int) (k0 : ByteArray → Option R) (k1 : Unit → Option R) : Option R :=
 (match decide (x_10 < x_9) with
  | true => (if 0 ≤ x_10 then must (nth e_7 x_10.toNat) fun e13 => un_impl_Entry e13 fun w14 n15 => (match (n15 == x_1) with
   | true => k0 w14
   | false => nx (IntKind.i64.wrap (x_10 + 1))) else none)
  | false => k1 ())
def l_zbf_0 {R : Type} (N : Nat) (x_1 x_2 : Int) (e_3 : List V) (f_4 : Fl) (x_5 x_6 : Int) (e_7 : List V) (f_8 : Fl) (x_9 : Int) (e_11 : List V) (f_12 : Fl) (x_13 x_14 x_15 x_16 x_17 x_18 : Int) (w_19 : ByteArray) (e_20 : List V) (f_21 : Fl) (k0 : ByteArray → Option R) (k1 : Unit → Option R) : Nat → Int → Option R
 | 0, _ => none
 | n + 1, x_10 => l_zbf_0_step N x_1 x_2 e_3 f_4 x_5 x_6 e_7 f_8 x_9 e_11 f_12 x_13 x_14 x_15 x_16 x_17 x_18 w_19 e_20 f_21 (fun x_10 => l_zbf_0 N x_1 x_2 e_3 f_4 x_5 x_6 e_7 f_8 x_9 e_11 f_12 x_13 x_14 x_15 x_16 x_17 x_18 w_19 e_20 f_21 k0 k1 n x_10) x_10 k0 k1
def l_zbf_1_step {R : Type} (N : Nat) (x_1 : Int) (e_2 : List V) (f_3 : Fl) (x_4 : Int) (e_6 : List V) (f_7 : Fl) (x_8 : Int) (nx : Int → Option R) (x_5 : Int) (k0 : Int → ByteArray → Option R) (k1 : Unit → Option R) : Option R :=
 (match decide (x_5 < x_4) with
  | true => (if 0 ≤ x_5 then must (nth e_2 x_5.toNat) fun e17 => un_impl_Node e17 fun n18 n19 n20 n21 n22 w23 e24 f25 => l_zbf_0 N x_1 x_5 e_2 f_3 x_4 x_5 e24 f25.noOwn.noOwn (e24.length : Int) e_6 f_7 x_8 n18 n19 n20 n21 n22 w23 e24 f25.noOwn
    (fun w26 => k0 x_5 w26)
    (fun (_ : Unit) => nx (IntKind.i64.wrap (x_5 + 1)))
    N 0 else none)
  | false => k1 ())
def l_zbf_1 {R : Type} (N : Nat) (x_1 : Int) (e_2 : List V) (f_3 : Fl) (x_4 : Int) (e_6 : List V) (f_7 : Fl) (x_8 : Int) (k0 : Int → ByteArray → Option R) (k1 : Unit → Option R) : Nat → Int → Option R
 | 0, _ => none
 | n + 1, x_5 => l_zbf_1_step N x_1 e_2 f_3 x_4 e_6 f_7 x_8 (fun x_5 => l_zbf_1 N x_1 e_2 f_3 x_4 e_6 f_7 x_8 k0 k1 n x_5) x_5 k0 k1
def gb_zbf {R : Type} (N : Nat) (e_1 : List V) (f_2 : Fl) (x_3 x_4 : Int) (k : Int → ByteArray → Option R) : Option R :=
 l_zbf_1 N x_4 e_1 f_2.noOwn (e_1.length : Int) e_1 f_2 x_3
   (fun x27 w28 => k x27 w28)
   (fun (_ : Unit) => k 0 (ByteArray.mk #[]))
   N 0
def g_zbf := @sealed _ @gb_zbf
theorem g_zbf_eq : @g_zbf = @gb_zbf := @sealed_eq _ @gb_zbf
def l_zbl_0_step {R : Type} (N : Nat) (w_1 : ByteArray) (e_2 : List V) (f_3 : Fl) (x_4 : Int) (e_6 : List V) (f_7 : Fl) (x_8 : Int) (nx : Int → Option R) (x_5 : Int) (k0 : Int → Option R) (k1 : Unit → Option R) : Option R :=
 (match decide (x_5 < x_4) with
  | true => (if 0 ≤ x_5 then must (nth e_2 x_5.toNat) fun e13 => un_impl_Entry e13 fun w14 n15 => (match (w14.toList == w_1.toList) with
   | true => k0 n15
   | false => nx (IntKind.i64.wrap (x_5 + 1))) else none)
  | false => k1 ())
def l_zbl_0 {R : Type} (N : Nat) (w_1 : ByteArray) (e_2 : List V) (f_3 : Fl) (x_4 : Int) (e_6 : List V) (f_7 : Fl) (x_8 : Int) (k0 : Int → Option R) (k1 : Unit → Option R) : Nat → Int → Option R
 | 0, _ => none
 | n + 1, x_5 => l_zbl_0_step N w_1 e_2 f_3 x_4 e_6 f_7 x_8 (fun x_5 => l_zbl_0 N w_1 e_2 f_3 x_4 e_6 f_7 x_8 k0 k1 n x_5) x_5 k0 k1
def gb_zbl {R : Type} (N : Nat) (e_1 : List V) (f_2 : Fl) (x_3 x_4 : Int) (w_5 : ByteArray) (k : Int → Option R) : Option R :=
 (if 0 ≤ x_4 then must (nth e_1 x_4.toNat) fun e1 => un_impl_Node e1 fun n2 n3 n4 n5 n6 w7 e8 f9 => l_zbl_0 N w_5 e8 f9.noOwn (e8.length : Int) e_1 f_2 x_3
    (fun x16 => k x16)
    (fun (_ : Unit) => k (-1))
    N 0 else none)
def g_zbl := @sealed _ @gb_zbl
theorem g_zbl_eq : @g_zbl = @gb_zbl := @sealed_eq _ @gb_zbl
def gb_zao {R : Type} (N : Nat) (x_1 : Int) (k : List V → Option R) : Option R :=
 (if 0 ≤ x_1 ∧ x_1 * (16 : Nat) ≤ 140737488355328 then k [] else none)
def g_zao := @sealed _ @gb_zao
theorem g_zao_eq : @g_zao = @gb_zao := @sealed_eq _ @gb_zao
def l_zam_0_step {R : Type} (N : Nat) (e_1 : List V) (f_2 : Fl) (e_4 : List V) (f_5 : Fl) (x_6 : Int) (nx : Int → Int → Option R) (x_3 x_7 : Int) (k0 : Int → Option R) : Option R :=
 (match decide (x_7 < x_6) with
  | true => (if 0 ≤ x_7 then must (nth e_4 x_7.toNat) fun e4 => asList 1 e4 fun e5 f6 => (match decide (IntKind.i64.wrap (x_3 + (e5.length : Int)) < 0) with
   | true => none
   | false => nx (IntKind.i64.wrap (x_3 + (e5.length : Int))) (IntKind.i64.wrap (x_7 + 1))) else none)
  | false => k0 x_3)
def l_zam_0 {R : Type} (N : Nat) (e_1 : List V) (f_2 : Fl) (e_4 : List V) (f_5 : Fl) (x_6 : Int) (k0 : Int → Option R) : Nat → Int → Int → Option R
 | 0, _, _ => none
 | n + 1, x_3, x_7 => l_zam_0_step N e_1 f_2 e_4 f_5 x_6 (fun x_3 x_7 => l_zam_0 N e_1 f_2 e_4 f_5 x_6 k0 n x_3 x_7) x_3 x_7 k0
def l_zam_1_step {R : Type} (N : Nat) (e_2 : List V) (f_3 : Fl) (x_4 : Int) (nx : List V → Int → Option R) (e_1 : List V) (x_5 : Int) (k0 : List V → Option R) : Option R :=
 (match decide (x_5 < x_4) with
  | true => (if 0 ≤ x_5 then must (nth e_2 x_5.toNat) fun e12 => asList 1 e12 fun e13 f14 => guardB (okAdd f14.noOwn.noOwn e13) ((if (e_1.length + (e13).length) * 16 ≤ 140737488355328 then nx (e_1 ++ (e13).map V.noOwn) (IntKind.i64.wrap (x_5 + 1)) else none)) else none)
  | false => k0 e_1)
def l_zam_1 {R : Type} (N : Nat) (e_2 : List V) (f_3 : Fl) (x_4 : Int) (k0 : List V → Option R) : Nat → List V → Int → Option R
 | 0, _, _ => none
 | n + 1, e_1, x_5 => l_zam_1_step N e_2 f_3 x_4 (fun e_1 x_5 => l_zam_1 N e_2 f_3 x_4 k0 n e_1 x_5) e_1 x_5 k0
def gb_zam {R : Type} (N : Nat) (e_1 : List V) (f_2 : Fl) (k : List V → Option R) : Option R :=
 l_zam_0 N e_1 f_2 e_1 f_2.noOwn (e_1.length : Int)
   (fun x7 => g_zao N x7 fun e8 => l_zam_1 N e_1 f_2.noOwn (e_1.length : Int)
    (fun e15 => k e15)
    N e8 0)
   N 0 0
def g_zam := @sealed _ @gb_zam
theorem g_zam_eq : @g_zam = @gb_zam := @sealed_eq _ @gb_zam
def l_zcb_0_step {R : Type} (N : Nat) (b_1 b_2 : Bool) (e_6 : List V) (f_7 : Fl) (x_8 x_9 x_10 : Int) (nx : List V → Int → Int → Option R) (e_3 : List V) (x_4 x_5 : Int) (k0 : Int → Int → Option R) (k1 : Int → Option R) : Option R :=
 (match decide ((e_3.length : Int) > 0) with
  | true => must (nth e_3 0) fun e29 => asStr e29 fun w30 => (if (0 : Int) ≤ 1 ∧ 1 ≤ (e_3.length : Int) then g_zbm N e_6 f_7.noOwn.noOwn x_8 x_4 fun b31 => (match (!b31) with
   | true => k0 3 x_4
   | false => g_zbo N e_6 f_7.noOwn.noOwn x_8 x_9 x_10 x_4 1 fun b32 => (match (!b32) with
   | true => k0 4 x_4
   | false => (match (w30.toList == (ByteArray.mk #[46]).toList) with
    | true => nx ((e_3.take e_3.length).drop 1) x_4 x_5
    | false => (match (w30.toList == (ByteArray.mk #[46, 46]).toList) with
    | true => g_zbf N e_6 f_7.noOwn.noOwn x_8 x_4 fun x33 w34 => nx ((e_3.take e_3.length).drop 1) x33 x_5
    | false => g_zbl N e_6 f_7.noOwn.noOwn x_8 x_4 w30 fun x35 => (match decide (x35 < 0) with
     | true => k0 2 x_4
     | false => (if 0 ≤ x35 then must (nth e_6 x35.toNat) fun e36 => un_impl_Node e36 fun n37 n38 n39 n40 n41 w42 e43 f44 => (match (n37 == 3) with
      | true => (match decide ((((e_3.take e_3.length).drop 1).length : Int) > 0) with
      | true => (match (x_5 == 8) with
       | true => k0 5 x_4
       | false => g_zce N w42 fun e45 => g_zam N [.list 1 e45 .sh, .list 1 ((e_3.take e_3.length).drop 1) .sh] .sh fun e46 => byteAt w42 0 fun n47 => (match (n47 == 47) with
       | true => nx e46 0 (IntKind.i64.wrap (x_5 + 1))
       | false => nx e46 x_4 (IntKind.i64.wrap (x_5 + 1))))
      | false => (match b_1 with
       | true => (match (x_5 == 8) with
       | true => k0 5 x_4
       | false => g_zce N w42 fun e48 => g_zam N [.list 1 e48 .sh, .list 1 ((e_3.take e_3.length).drop 1) .sh] .sh fun e49 => byteAt w42 0 fun n50 => (match (n50 == 47) with
        | true => nx e49 0 (IntKind.i64.wrap (x_5 + 1))
        | false => nx e49 x_4 (IntKind.i64.wrap (x_5 + 1))))
       | false => (match b_2 with
       | true => (match (x_5 == 8) with
        | true => k0 5 x_4
        | false => g_zce N w42 fun e51 => g_zam N [.list 1 e51 .sh, .list 1 ((e_3.take e_3.length).drop 1) .sh] .sh fun e52 => byteAt w42 0 fun n53 => (match (n53 == 47) with
        | true => nx e52 0 (IntKind.i64.wrap (x_5 + 1))
        | false => nx e52 x_4 (IntKind.i64.wrap (x_5 + 1))))
       | false => nx ((e_3.take e_3.length).drop 1) x35 x_5)))
      | false => nx ((e_3.take e_3.length).drop 1) x35 x_5) else none)))))) else none)
  | false => k1 x_4)
def l_zcb_0 {R : Type} (N : Nat) (b_1 b_2 : Bool) (e_6 : List V) (f_7 : Fl) (x_8 x_9 x_10 : Int) (k0 : Int → Int → Option R) (k1 : Int → Option R) : Nat → List V → Int → Int → Option R
 | 0, _, _, _ => none
 | n + 1, e_3, x_4, x_5 => l_zcb_0_step N b_1 b_2 e_6 f_7 x_8 x_9 x_10 (fun e_3 x_4 x_5 => l_zcb_0 N b_1 b_2 e_6 f_7 x_8 x_9 x_10 k0 k1 n e_3 x_4 x_5) e_3 x_4 x_5 k0 k1
def gb_zcb {R : Type} (N : Nat) (e_1 : List V) (f_2 : Fl) (x_3 x_4 x_5 : Int) (w_6 : ByteArray) (b_7 : Bool) (k : Int → Int → Option R) : Option R :=
 g_zcd N w_6 fun b1 => (match (!b1) with
  | true => k 0 1
  | false => g_zau N w_6 (ByteArray.mk #[47]) fun b2 => g_zce N w_6 fun e3 => l_zcb_0 N b_7 b2 e_1 f_2 x_3 x_4 x_5
    (fun x54 x55 => k 0 x54)
    (fun x56 => (match b2 with
   | true => g_zbm N e_1 f_2.noOwn.noOwn x_3 x56 fun b57 => (match (!b57) with
   | true => k 0 3
   | false => k x56 0)
   | false => k x56 0))
    N e3 0 0)
def g_zcb := @sealed _ @gb_zcb
theorem g_zcb_eq : @g_zcb = @gb_zcb := @sealed_eq _ @gb_zcb
def l_zag_0_step {R : Type} (N : Nat) (w_1 : ByteArray) (x_2 : Int) (nx : Int → Option R) (x_3 : Int) (k0 : Int → Option R) (k1 : Unit → Option R) : Option R :=
 (match decide (x_3 ≥ 0) with
  | true => byteAt w_1 x_3 fun n2 => (match (n2 == x_2) with
  | true => k0 x_3
  | false => nx (IntKind.i64.wrap (x_3 - 1)))
  | false => k1 ())
def l_zag_0 {R : Type} (N : Nat) (w_1 : ByteArray) (x_2 : Int) (k0 : Int → Option R) (k1 : Unit → Option R) : Nat → Int → Option R
 | 0, _ => none
 | n + 1, x_3 => l_zag_0_step N w_1 x_2 (fun x_3 => l_zag_0 N w_1 x_2 k0 k1 n x_3) x_3 k0 k1
def gb_zag {R : Type} (N : Nat) (w_1 : ByteArray) (x_2 : Int) (k : Int → Option R) : Option R :=
 l_zag_0 N w_1 x_2
   (fun x3 => k x3)
   (fun (_ : Unit) => k (-1))
   N (IntKind.i64.wrap ((w_1.size : Int) - 1))
def g_zag := @sealed _ @gb_zag
theorem g_zag_eq : @g_zag = @gb_zag := @sealed_eq _ @gb_zag
def gb_zas {R : Type} (N : Nat) (w_1 : ByteArray) (x_2 : Int) (k : Int → Option R) : Option R :=
 g_zag N w_1 x_2 fun x1 => k x1
def g_zas := @sealed _ @gb_zas
theorem g_zas_eq : @g_zas = @gb_zas := @sealed_eq _ @gb_zas
def l_zat_0_step {R : Type} (N : Nat) (x_2 : Int) (nx : ByteArray → Option R) (w_1 : ByteArray) (k0 : ByteArray → Option R) : Option R :=
 (match decide ((w_1.size : Int) > 0) with
  | true => byteAt w_1 (IntKind.i64.wrap ((w_1.size : Int) - 1)) fun n2 => (match (n2 == x_2) with
  | true => (if (0 : Int) ≤ IntKind.i64.wrap ((w_1.size : Int) - 1) ∧ IntKind.i64.wrap ((w_1.size : Int) - 1) ≤ (w_1.size : Int) then nx (ByteArray.extract w_1 0 ((IntKind.i64.wrap ((w_1.size : Int) - 1)).toNat)) else none)
  | false => k0 w_1)
  | false => k0 w_1)
def l_zat_0 {R : Type} (N : Nat) (x_2 : Int) (k0 : ByteArray → Option R) : Nat → ByteArray → Option R
 | 0, _ => none
 | n + 1, w_1 => l_zat_0_step N x_2 (fun w_1 => l_zat_0 N x_2 k0 n w_1) w_1 k0
def gb_zat {R : Type} (N : Nat) (w_1 : ByteArray) (x_2 : Int) (k : ByteArray → Option R) : Option R :=
 l_zat_0 N x_2
   (fun w3 => k w3)
   N w_1
def g_zat := @sealed _ @gb_zat
theorem g_zat_eq : @g_zat = @gb_zat := @sealed_eq _ @gb_zat
def gb_zap {R : Type} (N : Nat) (x_1 : Int) (k : Bool → Option R) : Option R :=
 k (IntKind.u8.wrap (BitVec.ofInt IntKind.u8.bits x_1 &&& BitVec.ofInt IntKind.u8.bits 192).toNat != 128)
def g_zap := @sealed _ @gb_zap
theorem g_zap_eq : @g_zap = @gb_zap := @sealed_eq _ @gb_zap
def l_zah_0_step {R : Type} (N : Nat) (w_1 : ByteArray) (x_2 x_4 : Int) (nx : Int → Option R) (x_3 : Int) (k0 : Int → Option R) : Option R :=
 (match decide (x_3 ≥ x_4) with
  | true => byteAt w_1 x_3 fun n4 => g_zap N n4 fun b5 => (match b5 with
  | true => k0 x_3
  | false => nx (IntKind.i64.wrap (x_3 - 1)))
  | false => k0 x_3)
def l_zah_0 {R : Type} (N : Nat) (w_1 : ByteArray) (x_2 x_4 : Int) (k0 : Int → Option R) : Nat → Int → Option R
 | 0, _ => none
 | n + 1, x_3 => l_zah_0_step N w_1 x_2 x_4 (fun x_3 => l_zah_0 N w_1 x_2 x_4 k0 n x_3) x_3 k0
def gb_zah {R : Type} (N : Nat) (w_1 : ByteArray) (k : Int → Int → Option R) : Option R :=
 (match ((w_1.size : Int) == 0) with
  | true => k 65533 0
  | false => byteAt w_1 (IntKind.i64.wrap ((w_1.size : Int) - 1)) fun n1 => (match decide (IntKind.i32.wrap n1 < 128) with
  | true => k (IntKind.i32.wrap n1) 1
  | false => l_zah_0 N w_1 (w_1.size : Int) (if IntKind.i64.wrap ((w_1.size : Int) - 4) < 0 then 0 else IntKind.i64.wrap ((w_1.size : Int) - 4))
    (fun x6 => (match decide (x6 < 0) with
   | true => (if (0 : Int) ≤ (w_1.size : Int) ∧ (w_1.size : Int) ≤ (w_1.size : Int) then (if (0 : Int) ≤ 0 ∧ 0 ≤ (((w_1.size : Int)).toNat : Int) then none else none) else none)
   | false => (if (0 : Int) ≤ (w_1.size : Int) ∧ (w_1.size : Int) ≤ (w_1.size : Int) then (if (0 : Int) ≤ x6 ∧ x6 ≤ (((w_1.size : Int)).toNat : Int) then none else none) else none)))
    N (IntKind.i64.wrap (IntKind.i64.wrap ((w_1.size : Int) - 1) - 1))))
def g_zah := @sealed _ @gb_zah
theorem g_zah_eq : @g_zah = @gb_zah := @sealed_eq _ @gb_zah
def gb_zav {R : Type} (N : Nat) (w_1 : ByteArray) (x_2 : Int) (k : Int → Option R) : Option R :=
 g_zak N w_1 x_2 fun x1 => k x1
def g_zav := @sealed _ @gb_zav
theorem g_zav_eq : @g_zav = @gb_zav := @sealed_eq _ @gb_zav
def gb_zaq {R : Type} (N : Nat) (x_1 : Int) (k : Bool → Option R) : Option R :=
 (match decide (0 ≤ x_1) with
  | true => (match decide (x_1 < 55296) with
  | true => k true
  | false => (match decide (57343 < x_1) with
   | true => (match decide (x_1 ≤ 1114111) with
   | true => k true
   | false => k false)
   | false => k false))
  | false => (match decide (57343 < x_1) with
  | true => (match decide (x_1 ≤ 1114111) with
   | true => k true
   | false => k false)
  | false => k false))
def g_zaq := @sealed _ @gb_zaq
theorem g_zaq_eq : @g_zaq = @gb_zaq := @sealed_eq _ @gb_zaq
def gb_zaw {R : Type} (N : Nat) (w_1 w_2 : ByteArray) (k : ByteArray → Option R) : Option R :=
 (match (w_1.toList == (ByteArray.mk #[]).toList) with
  | true => k w_1
  | false => (match (w_2.toList == (ByteArray.mk #[]).toList) with
  | true => k w_1
  | false => (match ((w_2.size : Int) == 1) with
   | true => byteAt w_2 0 fun n1 => (match decide (n1 < 128) with
   | true => byteAt w_2 0 fun n2 => g_zat N w_1 n2 fun w3 => k w3
   | false => none)
   | false => none)))
def g_zaw := @sealed _ @gb_zaw
theorem g_zaw_eq : @g_zaw = @gb_zaw := @sealed_eq _ @gb_zaw
def gb_zbp {R : Type} (N : Nat) (e_1 : List V) (f_2 : Fl) (x_3 x_4 x_5 : Int) (w_6 : ByteArray) (k : Int → ByteArray → Int → Option R) : Option R :=
 g_zas N w_6 47 fun x1 => g_zcd N w_6 fun b2 => (match (!b2) with
  | true => k 0 (ByteArray.mk #[]) 1
  | false => (if (0 : Int) ≤ IntKind.i64.wrap (x1 + 1) ∧ IntKind.i64.wrap (x1 + 1) ≤ (w_6.size : Int) then g_zbr N (ByteArray.extract w_6 ((IntKind.i64.wrap (x1 + 1)).toNat) w_6.size) fun b3 => (match (!b3) with
   | true => k 0 (ByteArray.mk #[]) 1
   | false => (if (0 : Int) ≤ x1 ∧ x1 ≤ (w_6.size : Int) then g_zaw N (ByteArray.extract w_6 0 ((x1 : Int).toNat)) (ByteArray.mk #[47]) fun w4 => (match (w4.toList == (ByteArray.mk #[]).toList) with
    | true => g_zcb N e_1 f_2.noOwn.noOwn x_3 x_4 x_5 (ByteArray.mk #[47]) true fun x5 x6 => (match (x6 != 0) with
    | true => k 0 (ByteArray.mk #[]) x6
    | false => g_zbm N e_1 f_2.noOwn.noOwn x_3 x5 fun b7 => (match (!b7) with
     | true => k 0 (ByteArray.mk #[]) 3
     | false => g_zbo N e_1 f_2.noOwn.noOwn x_3 x_4 x_5 x5 1 fun b8 => (match (!b8) with
     | true => k 0 (ByteArray.mk #[]) 4
     | false => (if (0 : Int) ≤ IntKind.i64.wrap (x1 + 1) ∧ IntKind.i64.wrap (x1 + 1) ≤ (w_6.size : Int) then k x5 (ByteArray.extract w_6 ((IntKind.i64.wrap (x1 + 1)).toNat) w_6.size) 0 else none))))
    | false => g_zcb N e_1 f_2.noOwn.noOwn x_3 x_4 x_5 w4 true fun x9 x10 => (match (x10 != 0) with
    | true => k 0 (ByteArray.mk #[]) x10
    | false => g_zbm N e_1 f_2.noOwn.noOwn x_3 x9 fun b11 => (match (!b11) with
     | true => k 0 (ByteArray.mk #[]) 3
     | false => g_zbo N e_1 f_2.noOwn.noOwn x_3 x_4 x_5 x9 1 fun b12 => (match (!b12) with
     | true => k 0 (ByteArray.mk #[]) 4
     | false => (if (0 : Int) ≤ IntKind.i64.wrap (x1 + 1) ∧ IntKind.i64.wrap (x1 + 1) ≤ (w_6.size : Int) then k x9 (ByteArray.extract w_6 ((IntKind.i64.wrap (x1 + 1)).toNat) w_6.size) 0 else none))))) else none)) else none))
def g_zbp := @sealed _ @gb_zbp
theorem g_zbp_eq : @g_zbp = @gb_zbp := @sealed_eq _ @gb_zbp
def gb_zbd {R : Type} (N : Nat) (e_1 : List V) (f_2 : Fl) (x_3 x_4 x_5 : Int) (w_6 : ByteArray) (k : Int → ByteArray → Int → Bool → Option R) : Option R :=
 g_zcc N e_1 f_2.noOwn.noOwn x_3 x_4 x_5 fun b1 => (match (!b1) with
  | true => k 0 (ByteArray.mk #[]) 0 false
  | false => g_zbp N e_1 f_2.noOwn.noOwn x_3 x_4 x_5 w_6 fun x2 w3 x4 => k x2 w3 x4 true)
def g_zbd := @sealed _ @gb_zbd
theorem g_zbd_eq : @g_zbd = @gb_zbd := @sealed_eq _ @gb_zbd
def gb_zar {R : Type} (N : Nat) (e_1 : List V) (f_2 : Fl) (x_3 x_4 x_5 : Int) (w_6 : ByteArray) (k : Bool → Option R) : Option R :=
 (match decide ((w_6.size : Int) > 1048576) with
  | true => k true
  | false => g_zdv N e_1 f_2.noOwn.noOwn x_3 1048576 fun x1 => (match decide (x1 < 0) with
  | true => k true
  | false => g_zdw N e_1 f_2.noOwn.noOwn.noOwn.noOwn x_3 fun e2 x3 => g_zde N x_4 x_5 fun x4 x5 => g_zbi N e2 .sh x3 x4 x5 w_6 fun x6 w7 x8 b9 => g_zdw N e_1 f_2.noOwn.noOwn x_3 fun e10 x11 => g_zde N x_4 x_5 fun x12 x13 => g_zbd N e10 .sh x11 x12 x13 w_6 fun x14 w15 x16 b17 => (match (x14 != x6) with
   | true => k false
   | false => (match (!(w15.toList == w7.toList)) with
   | true => k false
   | false => (match (x16 != x8) with
    | true => k false
    | false => (match (!(b17 == b9)) with
    | true => k false
    | false => g_zdw N e_1 f_2.noOwn.noOwn.noOwn.noOwn x_3 fun e18 x19 => g_zdu N e10 .sh x11 e18 .sh x19 fun b20 => (match (!b20) with
     | true => k false
     | false => k true)))))))
def g_zar := @sealed _ @gb_zar
theorem g_zar_eq : @g_zar = @gb_zar := @sealed_eq _ @gb_zar
end
end Go.VM.VL
