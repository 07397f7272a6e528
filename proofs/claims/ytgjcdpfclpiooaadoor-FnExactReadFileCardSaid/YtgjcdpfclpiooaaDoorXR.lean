/- The functions of the program, told plainly: what each computes, as a function of its letters; and that the machine does the same. Printed by vgen.py, a program of this session's own. -/
import Derived.Test.YtgjcdpfclpiooaaDoorVmZb
import Derived.Test.YtgjcdpfclpiooaaDoorVmZk
set_option linter.unusedVariables false
namespace Go.VM.VL

def un_laws_Fs {R : Type} (e : V) (k : List V → Fl → Int → Option R) : Option R :=
  asAgg e fun cs => asCons cs fun v0 l0 => asList 7 v0 fun e_0 f_0 => asCons l0 fun v1 l1 => asInt .i64 v1 fun x_1 => asNil l1 (k e_0 f_0 x_1)
theorem un_laws_Fs_some {R : Type} {e : V} {k : List V → Fl → Int → Option R} {r : R} (h : un_laws_Fs e k = some r) : ∃ e_0 f_0 x_1, e = .agg [.list 7 e_0 f_0, .int .i64 x_1] ∧ k e_0 f_0 x_1 = some r := by
  unfold un_laws_Fs at h
  obtain ⟨_, rfl, h⟩ := asAgg_some h
  obtain ⟨_, _, rfl, h1⟩ := asCons_some h
  obtain ⟨_, _, rfl, h2⟩ := asList_some h1
  obtain ⟨_, _, rfl, h3⟩ := asCons_some h2
  obtain ⟨_, rfl, h4⟩ := asInt_some h3
  obtain ⟨rfl, h5⟩ := asNil_some h4
  exact ⟨_, _, _, rfl, h5⟩
def un_laws_Cred {R : Type} (e : V) (k : Int → Int → Option R) : Option R :=
  asAgg e fun cs => asCons cs fun v0 l0 => asInt .i64 v0 fun x_0 => asCons l0 fun v1 l1 => asInt .i64 v1 fun x_1 => asNil l1 (k x_0 x_1)
theorem un_laws_Cred_some {R : Type} {e : V} {k : Int → Int → Option R} {r : R} (h : un_laws_Cred e k = some r) : ∃ x_0 x_1, e = .agg [.int .i64 x_0, .int .i64 x_1] ∧ k x_0 x_1 = some r := by
  unfold un_laws_Cred at h
  obtain ⟨_, rfl, h⟩ := asAgg_some h
  obtain ⟨_, _, rfl, h1⟩ := asCons_some h
  obtain ⟨_, rfl, h2⟩ := asInt_some h1
  obtain ⟨_, _, rfl, h3⟩ := asCons_some h2
  obtain ⟨_, rfl, h4⟩ := asInt_some h3
  obtain ⟨rfl, h5⟩ := asNil_some h4
  exact ⟨_, _, rfl, h5⟩
def un_impl_Fs {R : Type} (e : V) (k : List V → Fl → Int → Option R) : Option R :=
  asAgg e fun cs => asCons cs fun v0 l0 => asList 7 v0 fun e_0 f_0 => asCons l0 fun v1 l1 => asInt .i64 v1 fun x_1 => asNil l1 (k e_0 f_0 x_1)
theorem un_impl_Fs_some {R : Type} {e : V} {k : List V → Fl → Int → Option R} {r : R} (h : un_impl_Fs e k = some r) : ∃ e_0 f_0 x_1, e = .agg [.list 7 e_0 f_0, .int .i64 x_1] ∧ k e_0 f_0 x_1 = some r := by
  unfold un_impl_Fs at h
  obtain ⟨_, rfl, h⟩ := asAgg_some h
  obtain ⟨_, _, rfl, h1⟩ := asCons_some h
  obtain ⟨_, _, rfl, h2⟩ := asList_some h1
  obtain ⟨_, _, rfl, h3⟩ := asCons_some h2
  obtain ⟨_, rfl, h4⟩ := asInt_some h3
  obtain ⟨rfl, h5⟩ := asNil_some h4
  exact ⟨_, _, _, rfl, h5⟩
def un_impl_Cred {R : Type} (e : V) (k : Int → Int → Option R) : Option R :=
  asAgg e fun cs => asCons cs fun v0 l0 => asInt .i64 v0 fun x_0 => asCons l0 fun v1 l1 => asInt .i64 v1 fun x_1 => asNil l1 (k x_0 x_1)
theorem un_impl_Cred_some {R : Type} {e : V} {k : Int → Int → Option R} {r : R} (h : un_impl_Cred e k = some r) : ∃ x_0 x_1, e = .agg [.int .i64 x_0, .int .i64 x_1] ∧ k x_0 x_1 = some r := by
  unfold un_impl_Cred at h
  obtain ⟨_, rfl, h⟩ := asAgg_some h
  obtain ⟨_, _, rfl, h1⟩ := asCons_some h
  obtain ⟨_, rfl, h2⟩ := asInt_some h1
  obtain ⟨_, _, rfl, h3⟩ := asCons_some h2
  obtain ⟨_, rfl, h4⟩ := asInt_some h3
  obtain ⟨rfl, h5⟩ := asNil_some h4
  exact ⟨_, _, rfl, h5⟩
def un_impl_Node {R : Type} (e : V) (k : Int → Int → Int → Int → Int → ByteArray → List V → Fl → Option R) : Option R :=
  asAgg e fun cs => asCons cs fun v0 l0 => asInt .i64 v0 fun x_0 => asCons l0 fun v1 l1 => asInt .i64 v1 fun x_1 => asCons l1 fun v2 l2 => asInt .i64 v2 fun x_2 => asCons l2 fun v3 l3 => asInt .i64 v3 fun x_3 => asCons l3 fun v4 l4 => asInt .i64 v4 fun x_4 => asCons l4 fun v5 l5 => asStr v5 fun w_5 => asCons l5 fun v6 l6 => asList 2 v6 fun e_6 f_6 => asNil l6 (k x_0 x_1 x_2 x_3 x_4 w_5 e_6 f_6)
theorem un_impl_Node_some {R : Type} {e : V} {k : Int → Int → Int → Int → Int → ByteArray → List V → Fl → Option R} {r : R} (h : un_impl_Node e k = some r) : ∃ x_0 x_1 x_2 x_3 x_4 w_5 e_6 f_6, e = .agg [.int .i64 x_0, .int .i64 x_1, .int .i64 x_2, .int .i64 x_3, .int .i64 x_4, .str w_5, .list 2 e_6 f_6] ∧ k x_0 x_1 x_2 x_3 x_4 w_5 e_6 f_6 = some r := by
  unfold un_impl_Node at h
  obtain ⟨_, rfl, h⟩ := asAgg_some h
  obtain ⟨_, _, rfl, h1⟩ := asCons_some h
  obtain ⟨_, rfl, h2⟩ := asInt_some h1
  obtain ⟨_, _, rfl, h3⟩ := asCons_some h2
  obtain ⟨_, rfl, h4⟩ := asInt_some h3
  obtain ⟨_, _, rfl, h5⟩ := asCons_some h4
  obtain ⟨_, rfl, h6⟩ := asInt_some h5
  obtain ⟨_, _, rfl, h7⟩ := asCons_some h6
  obtain ⟨_, rfl, h8⟩ := asInt_some h7
  obtain ⟨_, _, rfl, h9⟩ := asCons_some h8
  obtain ⟨_, rfl, h10⟩ := asInt_some h9
  obtain ⟨_, _, rfl, h11⟩ := asCons_some h10
  obtain ⟨_, rfl, h12⟩ := asStr_some h11
  obtain ⟨_, _, rfl, h13⟩ := asCons_some h12
  obtain ⟨_, _, rfl, h14⟩ := asList_some h13
  obtain ⟨rfl, h15⟩ := asNil_some h14
  exact ⟨_, _, _, _, _, _, _, _, rfl, h15⟩
def un_laws_Node {R : Type} (e : V) (k : Int → Int → Int → Int → Int → ByteArray → List V → Fl → Option R) : Option R :=
  asAgg e fun cs => asCons cs fun v0 l0 => asInt .i64 v0 fun x_0 => asCons l0 fun v1 l1 => asInt .i64 v1 fun x_1 => asCons l1 fun v2 l2 => asInt .i64 v2 fun x_2 => asCons l2 fun v3 l3 => asInt .i64 v3 fun x_3 => asCons l3 fun v4 l4 => asInt .i64 v4 fun x_4 => asCons l4 fun v5 l5 => asStr v5 fun w_5 => asCons l5 fun v6 l6 => asList 2 v6 fun e_6 f_6 => asNil l6 (k x_0 x_1 x_2 x_3 x_4 w_5 e_6 f_6)
theorem un_laws_Node_some {R : Type} {e : V} {k : Int → Int → Int → Int → Int → ByteArray → List V → Fl → Option R} {r : R} (h : un_laws_Node e k = some r) : ∃ x_0 x_1 x_2 x_3 x_4 w_5 e_6 f_6, e = .agg [.int .i64 x_0, .int .i64 x_1, .int .i64 x_2, .int .i64 x_3, .int .i64 x_4, .str w_5, .list 2 e_6 f_6] ∧ k x_0 x_1 x_2 x_3 x_4 w_5 e_6 f_6 = some r := by
  unfold un_laws_Node at h
  obtain ⟨_, rfl, h⟩ := asAgg_some h
  obtain ⟨_, _, rfl, h1⟩ := asCons_some h
  obtain ⟨_, rfl, h2⟩ := asInt_some h1
  obtain ⟨_, _, rfl, h3⟩ := asCons_some h2
  obtain ⟨_, rfl, h4⟩ := asInt_some h3
  obtain ⟨_, _, rfl, h5⟩ := asCons_some h4
  obtain ⟨_, rfl, h6⟩ := asInt_some h5
  obtain ⟨_, _, rfl, h7⟩ := asCons_some h6
  obtain ⟨_, rfl, h8⟩ := asInt_some h7
  obtain ⟨_, _, rfl, h9⟩ := asCons_some h8
  obtain ⟨_, rfl, h10⟩ := asInt_some h9
  obtain ⟨_, _, rfl, h11⟩ := asCons_some h10
  obtain ⟨_, rfl, h12⟩ := asStr_some h11
  obtain ⟨_, _, rfl, h13⟩ := asCons_some h12
  obtain ⟨_, _, rfl, h14⟩ := asList_some h13
  obtain ⟨rfl, h15⟩ := asNil_some h14
  exact ⟨_, _, _, _, _, _, _, _, rfl, h15⟩
def un_spec_l4W {R : Type} (e : V) (k : List V → Fl → Int → Int → Int → Int → List V → Fl → Int → Option R) : Option R :=
  asAgg e fun cs => asCons cs fun v0 l0 => asList 7 v0 fun e_0 f_0 => asCons l0 fun v1 l1 => asInt .i64 v1 fun x_1 => asCons l1 fun v2 l2 => asInt .i64 v2 fun x_2 => asCons l2 fun v3 l3 => asInt .i64 v3 fun x_3 => asCons l3 fun v4 l4 => asInt .i64 v4 fun x_4 => asCons l4 fun v5 l5 => asList 1 v5 fun e_5 f_5 => asCons l5 fun v6 l6 => asInt .i64 v6 fun x_6 => asNil l6 (k e_0 f_0 x_1 x_2 x_3 x_4 e_5 f_5 x_6)
theorem un_spec_l4W_some {R : Type} {e : V} {k : List V → Fl → Int → Int → Int → Int → List V → Fl → Int → Option R} {r : R} (h : un_spec_l4W e k = some r) : ∃ e_0 f_0 x_1 x_2 x_3 x_4 e_5 f_5 x_6, e = .agg [.list 7 e_0 f_0, .int .i64 x_1, .int .i64 x_2, .int .i64 x_3, .int .i64 x_4, .list 1 e_5 f_5, .int .i64 x_6] ∧ k e_0 f_0 x_1 x_2 x_3 x_4 e_5 f_5 x_6 = some r := by
  unfold un_spec_l4W at h
  obtain ⟨_, rfl, h⟩ := asAgg_some h
  obtain ⟨_, _, rfl, h1⟩ := asCons_some h
  obtain ⟨_, _, rfl, h2⟩ := asList_some h1
  obtain ⟨_, _, rfl, h3⟩ := asCons_some h2
  obtain ⟨_, rfl, h4⟩ := asInt_some h3
  obtain ⟨_, _, rfl, h5⟩ := asCons_some h4
  obtain ⟨_, rfl, h6⟩ := asInt_some h5
  obtain ⟨_, _, rfl, h7⟩ := asCons_some h6
  obtain ⟨_, rfl, h8⟩ := asInt_some h7
  obtain ⟨_, _, rfl, h9⟩ := asCons_some h8
  obtain ⟨_, rfl, h10⟩ := asInt_some h9
  obtain ⟨_, _, rfl, h11⟩ := asCons_some h10
  obtain ⟨_, _, rfl, h12⟩ := asList_some h11
  obtain ⟨_, _, rfl, h13⟩ := asCons_some h12
  obtain ⟨_, rfl, h14⟩ := asInt_some h13
  obtain ⟨rfl, h15⟩ := asNil_some h14
  exact ⟨_, _, _, _, _, _, _, _, _, rfl, h15⟩
def un_impl_Entry {R : Type} (e : V) (k : ByteArray → Int → Option R) : Option R :=
  asAgg e fun cs => asCons cs fun v0 l0 => asStr v0 fun w_0 => asCons l0 fun v1 l1 => asInt .i64 v1 fun x_1 => asNil l1 (k w_0 x_1)
theorem un_impl_Entry_some {R : Type} {e : V} {k : ByteArray → Int → Option R} {r : R} (h : un_impl_Entry e k = some r) : ∃ w_0 x_1, e = .agg [.str w_0, .int .i64 x_1] ∧ k w_0 x_1 = some r := by
  unfold un_impl_Entry at h
  obtain ⟨_, rfl, h⟩ := asAgg_some h
  obtain ⟨_, _, rfl, h1⟩ := asCons_some h
  obtain ⟨_, rfl, h2⟩ := asStr_some h1
  obtain ⟨_, _, rfl, h3⟩ := asCons_some h2
  obtain ⟨_, rfl, h4⟩ := asInt_some h3
  obtain ⟨rfl, h5⟩ := asNil_some h4
  exact ⟨_, _, rfl, h5⟩
def un_laws_Entry {R : Type} (e : V) (k : ByteArray → Int → Option R) : Option R :=
  asAgg e fun cs => asCons cs fun v0 l0 => asStr v0 fun w_0 => asCons l0 fun v1 l1 => asInt .i64 v1 fun x_1 => asNil l1 (k w_0 x_1)
theorem un_laws_Entry_some {R : Type} {e : V} {k : ByteArray → Int → Option R} {r : R} (h : un_laws_Entry e k = some r) : ∃ w_0 x_1, e = .agg [.str w_0, .int .i64 x_1] ∧ k w_0 x_1 = some r := by
  unfold un_laws_Entry at h
  obtain ⟨_, rfl, h⟩ := asAgg_some h
  obtain ⟨_, _, rfl, h1⟩ := asCons_some h
  obtain ⟨_, rfl, h2⟩ := asStr_some h1
  obtain ⟨_, _, rfl, h3⟩ := asCons_some h2
  obtain ⟨_, rfl, h4⟩ := asInt_some h3
  obtain ⟨rfl, h5⟩ := asNil_some h4
  exact ⟨_, _, rfl, h5⟩

/-! ### loop.example/g00756/laws.szEntry -/
noncomputable def gb_laws_szEntry {R : Type} (N : Nat) (w_1 : ByteArray) (x_2 x_3 : Int) (k : Int → Option R) : Option R :=
  (match decide (IntKind.i64.wrap (x_3 - (w_1.size : Int)) < 0) with
   | true => k (-1)
   | false => k (IntKind.i64.wrap (x_3 - (w_1.size : Int))))
noncomputable def g_laws_szEntry := @sealed _ @gb_laws_szEntry
theorem g_laws_szEntry_eq : @g_laws_szEntry = @gb_laws_szEntry := @sealed_eq _ @gb_laws_szEntry

/-! ### loop.example/g00756/laws.szEntryS -/
noncomputable def l_laws_szEntryS_0_step {R : Type} (N : Nat) (e_1 : List V) (f_2 : Fl) (nx : Int → Int → Option R) (x_3 x_4 : Int) (k0 : Int → Option R) (k1 : Int → Option R) : Option R :=
  (match decide (x_4 < (e_1.length : Int)) with
   | true => (if 0 ≤ x_4 then must (nth e_1 x_4.toNat) fun e5 => un_laws_Entry e5 fun w6 n7 => g_laws_szEntry N w6 n7 x_3 fun x8 => (match decide (x8 < 0) with
     | true => k0 x8
     | false => nx x8 (IntKind.i64.wrap (x_4 + 1))) else none)
   | false => k1 x_3)
noncomputable def l_laws_szEntryS_0 {R : Type} (N : Nat) (e_1 : List V) (f_2 : Fl) (k0 : Int → Option R) (k1 : Int → Option R) : Nat → Int → Int → Option R
  | 0, _, _ => none
  | n + 1, x_3, x_4 => l_laws_szEntryS_0_step N e_1 f_2 (fun x_3 x_4 => l_laws_szEntryS_0 N e_1 f_2 k0 k1 n x_3 x_4) x_3 x_4 k0 k1
noncomputable def gb_laws_szEntryS {R : Type} (N : Nat) (e_1 : List V) (f_2 : Fl) (x_3 : Int) (k : Int → Option R) : Option R :=
  (match decide (IntKind.i64.wrap (x_3 - (e_1.length : Int)) < 0) with
   | true => k (-1)
   | false => l_laws_szEntryS_0 N e_1 f_2
       (fun x9 => k (-1))
       (fun x10 => k x10)
       N (IntKind.i64.wrap (x_3 - (e_1.length : Int))) 0)
noncomputable def g_laws_szEntryS := @sealed _ @gb_laws_szEntryS
theorem g_laws_szEntryS_eq : @g_laws_szEntryS = @gb_laws_szEntryS := @sealed_eq _ @gb_laws_szEntryS

/-! ### loop.example/g00756/laws.szNode -/
noncomputable def gb_laws_szNode {R : Type} (N : Nat) (x_1 x_2 x_3 x_4 x_5 : Int) (w_6 : ByteArray) (e_7 : List V) (f_8 : Fl) (x_9 : Int) (k : Int → Option R) : Option R :=
  (match decide (IntKind.i64.wrap (x_9 - (w_6.size : Int)) < 0) with
   | true => k (-1)
   | false => g_laws_szEntryS N e_7 f_8.noOwn.noOwn (IntKind.i64.wrap (x_9 - (w_6.size : Int))) fun x1 => (match decide (x1 < 0) with
    | true => k (-1)
    | false => k x1))
noncomputable def g_laws_szNode := @sealed _ @gb_laws_szNode
theorem g_laws_szNode_eq : @g_laws_szNode = @gb_laws_szNode := @sealed_eq _ @gb_laws_szNode

/-! ### loop.example/g00756/laws.szNodeS -/
noncomputable def l_laws_szNodeS_0_step {R : Type} (N : Nat) (e_1 : List V) (f_2 : Fl) (nx : Int → Int → Option R) (x_3 x_4 : Int) (k0 : Int → Option R) (k1 : Int → Option R) : Option R :=
  (match decide (x_4 < (e_1.length : Int)) with
   | true => (if 0 ≤ x_4 then must (nth e_1 x_4.toNat) fun e11 => un_laws_Node e11 fun n12 n13 n14 n15 n16 w17 e18 f19 => g_laws_szNode N n12 n13 n14 n15 n16 w17 e18 f19.noOwn.noOwn x_3 fun x20 => (match decide (x20 < 0) with
     | true => k0 x20
     | false => nx x20 (IntKind.i64.wrap (x_4 + 1))) else none)
   | false => k1 x_3)
noncomputable def l_laws_szNodeS_0 {R : Type} (N : Nat) (e_1 : List V) (f_2 : Fl) (k0 : Int → Option R) (k1 : Int → Option R) : Nat → Int → Int → Option R
  | 0, _, _ => none
  | n + 1, x_3, x_4 => l_laws_szNodeS_0_step N e_1 f_2 (fun x_3 x_4 => l_laws_szNodeS_0 N e_1 f_2 k0 k1 n x_3 x_4) x_3 x_4 k0 k1
noncomputable def gb_laws_szNodeS {R : Type} (N : Nat) (e_1 : List V) (f_2 : Fl) (x_3 : Int) (k : Int → Option R) : Option R :=
  (match decide (IntKind.i64.wrap (x_3 - (e_1.length : Int)) < 0) with
   | true => k (-1)
   | false => l_laws_szNodeS_0 N e_1 f_2
       (fun x21 => k (-1))
       (fun x22 => k x22)
       N (IntKind.i64.wrap (x_3 - (e_1.length : Int))) 0)
noncomputable def g_laws_szNodeS := @sealed _ @gb_laws_szNodeS
theorem g_laws_szNodeS_eq : @g_laws_szNodeS = @gb_laws_szNodeS := @sealed_eq _ @gb_laws_szNodeS

/-! ### loop.example/g00756/laws.szFs -/
noncomputable def gb_laws_szFs {R : Type} (N : Nat) (e_1 : List V) (f_2 : Fl) (x_3 x_4 : Int) (k : Int → Option R) : Option R :=
  g_laws_szNodeS N e_1 f_2.noOwn.noOwn x_4 fun x1 => (match decide (x1 < 0) with
   | true => k (-1)
   | false => k x1)
noncomputable def g_laws_szFs := @sealed _ @gb_laws_szFs
theorem g_laws_szFs_eq : @g_laws_szFs = @gb_laws_szFs := @sealed_eq _ @gb_laws_szFs

/-! ### loop.example/g00756/laws.toEntry -/
noncomputable def gb_laws_toEntry {R : Type} (N : Nat) (w_1 : ByteArray) (x_2 : Int) (k : ByteArray → Int → Option R) : Option R :=
  k w_1 x_2
noncomputable def g_laws_toEntry := @sealed _ @gb_laws_toEntry
theorem g_laws_toEntry_eq : @g_laws_toEntry = @gb_laws_toEntry := @sealed_eq _ @gb_laws_toEntry

/-! ### loop.example/g00756/laws.toEntryS -/
noncomputable def l_laws_toEntryS_0_step {R : Type} (N : Nat) (e_1 : List V) (f_2 : Fl) (k_3 : Nat) (nx : Int → List V → Option R) (x_4 : Int) (e_5 : List V) (k0 : List V → Option R) : Option R :=
  (match decide (x_4 < (e_1.length : Int)) with
   | true => (if 0 ≤ x_4 then must (nth e_1 x_4.toNat) fun e8 => un_laws_Entry e8 fun w9 n10 => g_laws_toEntry N w9 n10 fun w11 x12 => (if (0 : Int) ≤ x_4 ∧ x_4 < k_3 then (match nth e_5 (0 + x_4.toNat) with
      | some e13 => (match putCells e13 0 [.str w11, .int .i64 x12] with
       | some e14 => nx (IntKind.i64.wrap (x_4 + 1)) (setAt e_5 (0 + x_4.toNat) e14)
       | none => none)
      | none => none) else none) else none)
   | false => k0 e_5)
noncomputable def l_laws_toEntryS_0 {R : Type} (N : Nat) (e_1 : List V) (f_2 : Fl) (k_3 : Nat) (k0 : List V → Option R) : Nat → Int → List V → Option R
  | 0, _, _ => none
  | n + 1, x_4, e_5 => l_laws_toEntryS_0_step N e_1 f_2 k_3 (fun x_4 e_5 => l_laws_toEntryS_0 N e_1 f_2 k_3 k0 n x_4 e_5) x_4 e_5 k0
noncomputable def gb_laws_toEntryS {R : Type} (N : Nat) (e_1 : List V) (f_2 : Fl) (k : List V → Option R) : Option R :=
  (if 0 ≤ (e_1.length : Int) ∧ (e_1.length : Int) = (e_1.length : Int) ∧ (e_1.length : Int) * 24 ≤ 140737488355328 then l_laws_toEntryS_0 N e_1 f_2 (((e_1.length : Int)).toNat)
       (fun e15 => (match mapSome (freeze false [some ⟨e15, 2, 86, 0⟩] 11) ((e15.drop 0).take (((e_1.length : Int)).toNat)) with
     | some e16 => guardB (decide (0 + ((e_1.length : Int)).toNat ≤ e15.length)) (guardB (e16.all V.plain) (k e16))
     | none => none))
       N 0 (List.replicate (((e_1.length : Int)).toNat) (.agg [.str (ByteArray.mk #[]), .int .i64 0])) else none)
noncomputable def g_laws_toEntryS := @sealed _ @gb_laws_toEntryS
theorem g_laws_toEntryS_eq : @g_laws_toEntryS = @gb_laws_toEntryS := @sealed_eq _ @gb_laws_toEntryS

/-! ### loop.example/g00756/laws.toNode -/
noncomputable def gb_laws_toNode {R : Type} (N : Nat) (x_1 x_2 x_3 x_4 x_5 : Int) (w_6 : ByteArray) (e_7 : List V) (f_8 : Fl) (k : Int → Int → Int → Int → Int → ByteArray → List V → Option R) : Option R :=
  g_laws_toEntryS N e_7 f_8.noOwn.noOwn fun e1 => k x_1 x_2 x_3 x_4 x_5 w_6 e1
noncomputable def g_laws_toNode := @sealed _ @gb_laws_toNode
theorem g_laws_toNode_eq : @g_laws_toNode = @gb_laws_toNode := @sealed_eq _ @gb_laws_toNode

/-! ### loop.example/g00756/laws.toNodeS -/
noncomputable def l_laws_toNodeS_0_step {R : Type} (N : Nat) (e_1 : List V) (f_2 : Fl) (k_3 : Nat) (nx : Int → List V → Option R) (x_4 : Int) (e_5 : List V) (k0 : List V → Option R) : Option R :=
  (match decide (x_4 < (e_1.length : Int)) with
   | true => (if 0 ≤ x_4 then must (nth e_1 x_4.toNat) fun e19 => un_laws_Node e19 fun n20 n21 n22 n23 n24 w25 e26 f27 => g_laws_toNode N n20 n21 n22 n23 n24 w25 e26 f27.noOwn.noOwn fun x28 x29 x30 x31 x32 w33 e34 => (if (0 : Int) ≤ x_4 ∧ x_4 < k_3 then (match nth e_5 (0 + x_4.toNat) with
      | some e35 => (match putCells e35 0 [.int .i64 x28, .int .i64 x29, .int .i64 x30, .int .i64 x31, .int .i64 x32, .str w33, .list 2 e34 .sh] with
       | some e36 => nx (IntKind.i64.wrap (x_4 + 1)) (setAt e_5 (0 + x_4.toNat) e36)
       | none => none)
      | none => none) else none) else none)
   | false => k0 e_5)
noncomputable def l_laws_toNodeS_0 {R : Type} (N : Nat) (e_1 : List V) (f_2 : Fl) (k_3 : Nat) (k0 : List V → Option R) : Nat → Int → List V → Option R
  | 0, _, _ => none
  | n + 1, x_4, e_5 => l_laws_toNodeS_0_step N e_1 f_2 k_3 (fun x_4 e_5 => l_laws_toNodeS_0 N e_1 f_2 k_3 k0 n x_4 e_5) x_4 e_5 k0
noncomputable def gb_laws_toNodeS {R : Type} (N : Nat) (e_1 : List V) (f_2 : Fl) (k : List V → Option R) : Option R :=
  (if 0 ≤ (e_1.length : Int) ∧ (e_1.length : Int) = (e_1.length : Int) ∧ (e_1.length : Int) * 80 ≤ 140737488355328 then l_laws_toNodeS_0 N e_1 f_2 (((e_1.length : Int)).toNat)
       (fun e37 => (match mapSome (freeze false [some ⟨e37, 7, 55, 0⟩] 11) ((e37.drop 0).take (((e_1.length : Int)).toNat)) with
     | some e38 => guardB (decide (0 + ((e_1.length : Int)).toNat ≤ e37.length)) (guardB (e38.all V.plain) (k e38))
     | none => none))
       N 0 (List.replicate (((e_1.length : Int)).toNat) (.agg [.int .i64 0, .int .i64 0, .int .i64 0, .int .i64 0, .int .i64 0, .str (ByteArray.mk #[]), .list 2 [] (.own 86)])) else none)
noncomputable def g_laws_toNodeS := @sealed _ @gb_laws_toNodeS
theorem g_laws_toNodeS_eq : @g_laws_toNodeS = @gb_laws_toNodeS := @sealed_eq _ @gb_laws_toNodeS

/-! ### loop.example/g00756/laws.toFs -/
noncomputable def gb_laws_toFs {R : Type} (N : Nat) (e_1 : List V) (f_2 : Fl) (x_3 : Int) (k : List V → Int → Option R) : Option R :=
  g_laws_toNodeS N e_1 f_2.noOwn.noOwn fun e1 => k e1 x_3
noncomputable def g_laws_toFs := @sealed _ @gb_laws_toFs
theorem g_laws_toFs_eq : @g_laws_toFs = @gb_laws_toFs := @sealed_eq _ @gb_laws_toFs

/-! ### loop.example/g00756/laws.toCred -/
noncomputable def gb_laws_toCred {R : Type} (N : Nat) (x_1 x_2 : Int) (k : Int → Int → Option R) : Option R :=
  k x_1 x_2
noncomputable def g_laws_toCred := @sealed _ @gb_laws_toCred
theorem g_laws_toCred_eq : @g_laws_toCred = @gb_laws_toCred := @sealed_eq _ @gb_laws_toCred

/-! ### loop.example/g00756/laws.eqEntry -/
noncomputable def gb_laws_eqEntry {R : Type} (N : Nat) (w_1 : ByteArray) (x_2 : Int) (w_3 : ByteArray) (x_4 : Int) (k : Bool → Option R) : Option R :=
  (match (!(w_1.toList == w_3.toList)) with
   | true => k false
   | false => (match (x_2 != x_4) with
    | true => k false
    | false => k true))
noncomputable def g_laws_eqEntry := @sealed _ @gb_laws_eqEntry
theorem g_laws_eqEntry_eq : @g_laws_eqEntry = @gb_laws_eqEntry := @sealed_eq _ @gb_laws_eqEntry

/-! ### loop.example/g00756/laws.eqEntryS -/
noncomputable def l_laws_eqEntryS_0_step {R : Type} (N : Nat) (e_1 : List V) (f_2 : Fl) (e_3 : List V) (f_4 : Fl) (nx : Int → Option R) (x_5 : Int) (k0 : Unit → Option R) (k1 : Unit → Option R) : Option R :=
  (match decide (x_5 < (e_1.length : Int)) with
   | true => (if 0 ≤ x_5 then must (nth e_1 x_5.toNat) fun e8 => un_impl_Entry e8 fun w9 n10 => (if 0 ≤ x_5 then must (nth e_3 x_5.toNat) fun e11 => un_impl_Entry e11 fun w12 n13 => g_laws_eqEntry N w9 n10 w12 n13 fun b14 => (match (!b14) with
      | true => k0 ()
      | false => nx (IntKind.i64.wrap (x_5 + 1))) else none) else none)
   | false => k1 ())
noncomputable def l_laws_eqEntryS_0 {R : Type} (N : Nat) (e_1 : List V) (f_2 : Fl) (e_3 : List V) (f_4 : Fl) (k0 : Unit → Option R) (k1 : Unit → Option R) : Nat → Int → Option R
  | 0, _ => none
  | n + 1, x_5 => l_laws_eqEntryS_0_step N e_1 f_2 e_3 f_4 (fun x_5 => l_laws_eqEntryS_0 N e_1 f_2 e_3 f_4 k0 k1 n x_5) x_5 k0 k1
noncomputable def gb_laws_eqEntryS {R : Type} (N : Nat) (e_1 : List V) (f_2 : Fl) (e_3 : List V) (f_4 : Fl) (k : Bool → Option R) : Option R :=
  (match ((e_1.length : Int) != (e_3.length : Int)) with
   | true => k false
   | false => l_laws_eqEntryS_0 N e_1 f_2 e_3 f_4
       (fun (_ : Unit) => k false)
       (fun (_ : Unit) => k true)
       N 0)
noncomputable def g_laws_eqEntryS := @sealed _ @gb_laws_eqEntryS
theorem g_laws_eqEntryS_eq : @g_laws_eqEntryS = @gb_laws_eqEntryS := @sealed_eq _ @gb_laws_eqEntryS

/-! ### loop.example/g00756/laws.eqNode -/
noncomputable def gb_laws_eqNode {R : Type} (N : Nat) (x_1 x_2 x_3 x_4 x_5 : Int) (w_6 : ByteArray) (e_7 : List V) (f_8 : Fl) (x_9 x_10 x_11 x_12 x_13 : Int) (w_14 : ByteArray) (e_15 : List V) (f_16 : Fl) (k : Bool → Option R) : Option R :=
  (match (x_1 != x_9) with
   | true => k false
   | false => (match (x_2 != x_10) with
    | true => k false
    | false => (match (x_3 != x_11) with
     | true => k false
     | false => (match (x_4 != x_12) with
      | true => k false
      | false => (match (x_5 != x_13) with
       | true => k false
       | false => (match (!(w_6.toList == w_14.toList)) with
        | true => k false
        | false => g_laws_eqEntryS N e_7 f_8.noOwn.noOwn e_15 f_16.noOwn.noOwn fun b1 => (match (!b1) with
         | true => k false
         | false => k true)))))))
noncomputable def g_laws_eqNode := @sealed _ @gb_laws_eqNode
theorem g_laws_eqNode_eq : @g_laws_eqNode = @gb_laws_eqNode := @sealed_eq _ @gb_laws_eqNode

/-! ### loop.example/g00756/laws.eqNodeS -/
noncomputable def l_laws_eqNodeS_0_step {R : Type} (N : Nat) (e_1 : List V) (f_2 : Fl) (e_3 : List V) (f_4 : Fl) (nx : Int → Option R) (x_5 : Int) (k0 : Unit → Option R) (k1 : Unit → Option R) : Option R :=
  (match decide (x_5 < (e_1.length : Int)) with
   | true => (if 0 ≤ x_5 then must (nth e_1 x_5.toNat) fun e20 => un_impl_Node e20 fun n21 n22 n23 n24 n25 w26 e27 f28 => (if 0 ≤ x_5 then must (nth e_3 x_5.toNat) fun e29 => un_impl_Node e29 fun n30 n31 n32 n33 n34 w35 e36 f37 => g_laws_eqNode N n21 n22 n23 n24 n25 w26 e27 f28.noOwn.noOwn.noOwn.noOwn n30 n31 n32 n33 n34 w35 e36 f37.noOwn.noOwn.noOwn.noOwn fun b38 => (match (!b38) with
      | true => k0 ()
      | false => nx (IntKind.i64.wrap (x_5 + 1))) else none) else none)
   | false => k1 ())
noncomputable def l_laws_eqNodeS_0 {R : Type} (N : Nat) (e_1 : List V) (f_2 : Fl) (e_3 : List V) (f_4 : Fl) (k0 : Unit → Option R) (k1 : Unit → Option R) : Nat → Int → Option R
  | 0, _ => none
  | n + 1, x_5 => l_laws_eqNodeS_0_step N e_1 f_2 e_3 f_4 (fun x_5 => l_laws_eqNodeS_0 N e_1 f_2 e_3 f_4 k0 k1 n x_5) x_5 k0 k1
noncomputable def gb_laws_eqNodeS {R : Type} (N : Nat) (e_1 : List V) (f_2 : Fl) (e_3 : List V) (f_4 : Fl) (k : Bool → Option R) : Option R :=
  (match ((e_1.length : Int) != (e_3.length : Int)) with
   | true => k false
   | false => l_laws_eqNodeS_0 N e_1 f_2 e_3 f_4
       (fun (_ : Unit) => k false)
       (fun (_ : Unit) => k true)
       N 0)
noncomputable def g_laws_eqNodeS := @sealed _ @gb_laws_eqNodeS
theorem g_laws_eqNodeS_eq : @g_laws_eqNodeS = @gb_laws_eqNodeS := @sealed_eq _ @gb_laws_eqNodeS

/-! ### loop.example/g00756/laws.eqFs -/
noncomputable def gb_laws_eqFs {R : Type} (N : Nat) (e_1 : List V) (f_2 : Fl) (x_3 : Int) (e_4 : List V) (f_5 : Fl) (x_6 : Int) (k : Bool → Option R) : Option R :=
  g_laws_eqNodeS N e_1 f_2.noOwn.noOwn e_4 f_5.noOwn.noOwn fun b1 => (match (!b1) with
   | true => k false
   | false => (match (x_3 != x_6) with
    | true => k false
    | false => k true))
noncomputable def g_laws_eqFs := @sealed _ @gb_laws_eqFs
theorem g_laws_eqFs_eq : @g_laws_eqFs = @gb_laws_eqFs := @sealed_eq _ @gb_laws_eqFs

/-! ### loop.example/g00756/spec.l3Links -/
noncomputable def l_spec_l3Links_0_step {R : Type} (N : Nat) (x_1 : Int) (e_3 : List V) (f_4 : Fl) (x_5 x_6 : Int) (e_7 : List V) (f_8 : Fl) (x_9 : Int) (e_11 : List V) (f_12 : Fl) (x_13 x_14 x_15 x_16 x_17 x_18 : Int) (w_19 : ByteArray) (e_20 : List V) (f_21 : Fl) (nx : Int → Int → Option R) (x_2 x_10 : Int) (k0 : Int → Option R) : Option R :=
  (match decide (x_10 < x_9) with
   | true => (if 0 ≤ x_10 then must (nth e_7 x_10.toNat) fun e13 => un_impl_Entry e13 fun w14 n15 => (match (n15 == x_1) with
     | true => nx (IntKind.i64.wrap (x_2 + 1)) (IntKind.i64.wrap (x_10 + 1))
     | false => nx x_2 (IntKind.i64.wrap (x_10 + 1))) else none)
   | false => k0 x_2)
noncomputable def l_spec_l3Links_0 {R : Type} (N : Nat) (x_1 : Int) (e_3 : List V) (f_4 : Fl) (x_5 x_6 : Int) (e_7 : List V) (f_8 : Fl) (x_9 : Int) (e_11 : List V) (f_12 : Fl) (x_13 x_14 x_15 x_16 x_17 x_18 : Int) (w_19 : ByteArray) (e_20 : List V) (f_21 : Fl) (k0 : Int → Option R) : Nat → Int → Int → Option R
  | 0, _, _ => none
  | n + 1, x_2, x_10 => l_spec_l3Links_0_step N x_1 e_3 f_4 x_5 x_6 e_7 f_8 x_9 e_11 f_12 x_13 x_14 x_15 x_16 x_17 x_18 w_19 e_20 f_21 (fun x_2 x_10 => l_spec_l3Links_0 N x_1 e_3 f_4 x_5 x_6 e_7 f_8 x_9 e_11 f_12 x_13 x_14 x_15 x_16 x_17 x_18 w_19 e_20 f_21 k0 n x_2 x_10) x_2 x_10 k0
noncomputable def l_spec_l3Links_1_step {R : Type} (N : Nat) (x_1 : Int) (e_3 : List V) (f_4 : Fl) (x_5 : Int) (e_7 : List V) (f_8 : Fl) (x_9 : Int) (nx : Int → Int → Option R) (x_2 x_6 : Int) (k0 : Int → Option R) : Option R :=
  (match decide (x_6 < x_5) with
   | true => (if 0 ≤ x_6 then must (nth e_3 x_6.toNat) fun e17 => un_impl_Node e17 fun n18 n19 n20 n21 n22 w23 e24 f25 => l_spec_l3Links_0 N x_1 e_3 f_4 x_5 x_6 e24 f25.noOwn.noOwn (e24.length : Int) e_7 f_8 x_9 n18 n19 n20 n21 n22 w23 e24 f25.noOwn
        (fun x26 => nx x26 (IntKind.i64.wrap (x_6 + 1)))
        N x_2 0 else none)
   | false => k0 x_2)
noncomputable def l_spec_l3Links_1 {R : Type} (N : Nat) (x_1 : Int) (e_3 : List V) (f_4 : Fl) (x_5 : Int) (e_7 : List V) (f_8 : Fl) (x_9 : Int) (k0 : Int → Option R) : Nat → Int → Int → Option R
  | 0, _, _ => none
  | n + 1, x_2, x_6 => l_spec_l3Links_1_step N x_1 e_3 f_4 x_5 e_7 f_8 x_9 (fun x_2 x_6 => l_spec_l3Links_1 N x_1 e_3 f_4 x_5 e_7 f_8 x_9 k0 n x_2 x_6) x_2 x_6 k0
noncomputable def gb_spec_l3Links {R : Type} (N : Nat) (e_1 : List V) (f_2 : Fl) (x_3 x_4 : Int) (k : Int → Option R) : Option R :=
  l_spec_l3Links_1 N x_4 e_1 f_2.noOwn (e_1.length : Int) e_1 f_2 x_3
      (fun x27 => k x27)
      N 0 0
noncomputable def g_spec_l3Links := @sealed _ @gb_spec_l3Links
theorem g_spec_l3Links_eq : @g_spec_l3Links = @gb_spec_l3Links := @sealed_eq _ @gb_spec_l3Links

/-! ### loop.example/g00756/spec.l1In -/
noncomputable def gb_spec_l1In {R : Type} (N : Nat) (x_1 x_2 x_3 : Int) (k : Bool → Option R) : Option R :=
  (match decide (x_1 ≥ x_2) with
   | true => k (decide (x_1 ≤ x_3))
   | false => k false)
noncomputable def g_spec_l1In := @sealed _ @gb_spec_l1In
theorem g_spec_l1In_eq : @g_spec_l1In = @gb_spec_l1In := @sealed_eq _ @gb_spec_l1In

/-! ### loop.example/g00756/spec.l3Bytes -/
noncomputable def l_spec_l3Bytes_0_step {R : Type} (N : Nat) (e_2 : List V) (f_3 : Fl) (x_4 : Int) (e_6 : List V) (f_7 : Fl) (x_8 : Int) (nx : Int → Int → Option R) (x_1 x_5 : Int) (k0 : Int → Option R) : Option R :=
  (match decide (x_5 < x_4) with
   | true => (if 0 ≤ x_5 then must (nth e_2 x_5.toNat) fun e10 => un_impl_Node e10 fun n11 n12 n13 n14 n15 w16 e17 f18 => nx (IntKind.i64.wrap (x_1 + (w16.size : Int))) (IntKind.i64.wrap (x_5 + 1)) else none)
   | false => k0 x_1)
noncomputable def l_spec_l3Bytes_0 {R : Type} (N : Nat) (e_2 : List V) (f_3 : Fl) (x_4 : Int) (e_6 : List V) (f_7 : Fl) (x_8 : Int) (k0 : Int → Option R) : Nat → Int → Int → Option R
  | 0, _, _ => none
  | n + 1, x_1, x_5 => l_spec_l3Bytes_0_step N e_2 f_3 x_4 e_6 f_7 x_8 (fun x_1 x_5 => l_spec_l3Bytes_0 N e_2 f_3 x_4 e_6 f_7 x_8 k0 n x_1 x_5) x_1 x_5 k0
noncomputable def gb_spec_l3Bytes {R : Type} (N : Nat) (e_1 : List V) (f_2 : Fl) (x_3 : Int) (k : Int → Option R) : Option R :=
  l_spec_l3Bytes_0 N e_1 f_2.noOwn (e_1.length : Int) e_1 f_2 x_3
      (fun x19 => k x19)
      N 0 0
noncomputable def g_spec_l3Bytes := @sealed _ @gb_spec_l3Bytes
theorem g_spec_l3Bytes_eq : @g_spec_l3Bytes = @gb_spec_l3Bytes := @sealed_eq _ @gb_spec_l3Bytes

/-! ### loop.example/g00756/spec.l1Split -/
noncomputable def l_spec_l1Split_0_step {R : Type} (N : Nat) (w_1 : ByteArray) (x_2 : Int) (nx : List V → Int → Int → Option R) (e_3 : List V) (x_4 x_5 : Int) (k0 : List V → Int → Option R) : Option R :=
  (match decide (x_5 < (w_1.size : Int)) with
   | true => byteAt w_1 x_5 fun n2 => (match (n2 == x_2) with
    | true => (if (0 : Int) ≤ x_5 ∧ x_5 ≤ (w_1.size : Int) then (if (0 : Int) ≤ x_4 ∧ x_4 ≤ ((x_5 : Int).toNat : Int) then (if (e_3.length + 1) * 16 ≤ 140737488355328 then nx (e_3 ++ ([.str (ByteArray.extract w_1 ((x_4 : Int).toNat) ((x_5 : Int).toNat))] : List V)) (IntKind.i64.wrap (x_5 + 1)) (IntKind.i64.wrap (x_5 + 1)) else none) else none) else none)
    | false => nx e_3 x_4 (IntKind.i64.wrap (x_5 + 1)))
   | false => k0 e_3 x_4)
noncomputable def l_spec_l1Split_0 {R : Type} (N : Nat) (w_1 : ByteArray) (x_2 : Int) (k0 : List V → Int → Option R) : Nat → List V → Int → Int → Option R
  | 0, _, _, _ => none
  | n + 1, e_3, x_4, x_5 => l_spec_l1Split_0_step N w_1 x_2 (fun e_3 x_4 x_5 => l_spec_l1Split_0 N w_1 x_2 k0 n e_3 x_4 x_5) e_3 x_4 x_5 k0
noncomputable def gb_spec_l1Split {R : Type} (N : Nat) (w_1 : ByteArray) (x_2 : Int) (k : List V → Option R) : Option R :=
  l_spec_l1Split_0 N w_1 x_2
      (fun e3 x4 => (if (0 : Int) ≤ x4 ∧ x4 ≤ (w_1.size : Int) then (if (e3.length + 1) * 16 ≤ 140737488355328 then k (e3 ++ ([.str (ByteArray.extract w_1 ((x4 : Int).toNat) w_1.size)] : List V)) else none) else none))
      N [] 0 0
noncomputable def g_spec_l1Split := @sealed _ @gb_spec_l1Split
theorem g_spec_l1Split_eq : @g_spec_l1Split = @gb_spec_l1Split := @sealed_eq _ @gb_spec_l1Split

/-! ### loop.example/g00756/spec.l2Parts -/
noncomputable def l_spec_l2Parts_0_step {R : Type} (N : Nat) (e_2 : List V) (x_3 : Int) (nx : List V → Int → Option R) (e_1 : List V) (x_4 : Int) (k0 : List V → Option R) : Option R :=
  (match decide (x_4 < x_3) with
   | true => (if 0 ≤ x_4 then must (nth e_2 x_4.toNat) fun e4 => asStr e4 fun w5 => (match (!(w5.toList == (ByteArray.mk #[]).toList)) with
     | true => (if (e_1.length + 1) * 16 ≤ 140737488355328 then nx (e_1 ++ ([.str w5] : List V)) (IntKind.i64.wrap (x_4 + 1)) else none)
     | false => nx e_1 (IntKind.i64.wrap (x_4 + 1))) else none)
   | false => k0 e_1)
noncomputable def l_spec_l2Parts_0 {R : Type} (N : Nat) (e_2 : List V) (x_3 : Int) (k0 : List V → Option R) : Nat → List V → Int → Option R
  | 0, _, _ => none
  | n + 1, e_1, x_4 => l_spec_l2Parts_0_step N e_2 x_3 (fun e_1 x_4 => l_spec_l2Parts_0 N e_2 x_3 k0 n e_1 x_4) e_1 x_4 k0
noncomputable def gb_spec_l2Parts {R : Type} (N : Nat) (w_1 : ByteArray) (k : List V → Option R) : Option R :=
  g_spec_l1Split N w_1 47 fun e1 => l_spec_l2Parts_0 N e1 (e1.length : Int)
      (fun e6 => k e6)
      N [] 0
noncomputable def g_spec_l2Parts := @sealed _ @gb_spec_l2Parts
theorem g_spec_l2Parts_eq : @g_spec_l2Parts = @gb_spec_l2Parts := @sealed_eq _ @gb_spec_l2Parts

/-! ### loop.example/g00756/spec.l2Name -/
noncomputable def l_spec_l2Name_0_step {R : Type} (N : Nat) (w_1 : ByteArray) (nx : Int → Option R) (x_2 : Int) (k0 : Unit → Option R) (k1 : Unit → Option R) : Option R :=
  (match decide (x_2 < (w_1.size : Int)) with
   | true => byteAt w_1 x_2 fun n2 => (match decide (n2 < 97) with
    | true => (match decide (n2 < 48) with
     | true => (match (n2 != 46) with
      | true => (match (n2 != 95) with
       | true => (match (n2 != 45) with
        | true => k0 ()
        | false => nx (IntKind.i64.wrap (x_2 + 1)))
       | false => nx (IntKind.i64.wrap (x_2 + 1)))
      | false => nx (IntKind.i64.wrap (x_2 + 1)))
     | false => (match decide (n2 > 57) with
      | true => (match (n2 != 46) with
       | true => (match (n2 != 95) with
        | true => (match (n2 != 45) with
         | true => k0 ()
         | false => nx (IntKind.i64.wrap (x_2 + 1)))
        | false => nx (IntKind.i64.wrap (x_2 + 1)))
       | false => nx (IntKind.i64.wrap (x_2 + 1)))
      | false => nx (IntKind.i64.wrap (x_2 + 1))))
    | false => (match decide (n2 > 122) with
     | true => (match decide (n2 < 48) with
      | true => (match (n2 != 46) with
       | true => (match (n2 != 95) with
        | true => (match (n2 != 45) with
         | true => k0 ()
         | false => nx (IntKind.i64.wrap (x_2 + 1)))
        | false => nx (IntKind.i64.wrap (x_2 + 1)))
       | false => nx (IntKind.i64.wrap (x_2 + 1)))
      | false => (match decide (n2 > 57) with
       | true => (match (n2 != 46) with
        | true => (match (n2 != 95) with
         | true => (match (n2 != 45) with
          | true => k0 ()
          | false => nx (IntKind.i64.wrap (x_2 + 1)))
         | false => nx (IntKind.i64.wrap (x_2 + 1)))
        | false => nx (IntKind.i64.wrap (x_2 + 1)))
       | false => nx (IntKind.i64.wrap (x_2 + 1))))
     | false => nx (IntKind.i64.wrap (x_2 + 1))))
   | false => k1 ())
noncomputable def l_spec_l2Name_0 {R : Type} (N : Nat) (w_1 : ByteArray) (k0 : Unit → Option R) (k1 : Unit → Option R) : Nat → Int → Option R
  | 0, _ => none
  | n + 1, x_2 => l_spec_l2Name_0_step N w_1 (fun x_2 => l_spec_l2Name_0 N w_1 k0 k1 n x_2) x_2 k0 k1
noncomputable def gb_spec_l2Name {R : Type} (N : Nat) (w_1 : ByteArray) (k : Bool → Option R) : Option R :=
  l_spec_l2Name_0 N w_1
      (fun (_ : Unit) => k false)
      (fun (_ : Unit) => g_spec_l1In N (w_1.size : Int) 1 8 fun b3 => (match b3 with
    | true => (match (!(w_1.toList == (ByteArray.mk #[46]).toList)) with
     | true => k (!(w_1.toList == (ByteArray.mk #[46, 46]).toList))
     | false => k false)
    | false => k false))
      N 0
noncomputable def g_spec_l2Name := @sealed _ @gb_spec_l2Name
theorem g_spec_l2Name_eq : @g_spec_l2Name = @gb_spec_l2Name := @sealed_eq _ @gb_spec_l2Name

/-! ### loop.example/g00756/spec.l2Path -/
noncomputable def l_spec_l2Path_0_step {R : Type} (N : Nat) (w_1 : ByteArray) (e_2 : List V) (x_3 : Int) (nx : Int → Option R) (x_4 : Int) (k0 : Unit → Option R) (k1 : Unit → Option R) : Option R :=
  (match decide (x_4 < x_3) with
   | true => (if 0 ≤ x_4 then must (nth e_2 x_4.toNat) fun e5 => asStr e5 fun w6 => g_spec_l2Name N w6 fun b7 => (match (!b7) with
     | true => (match (!(w6.toList == (ByteArray.mk #[46]).toList)) with
      | true => (match (!(w6.toList == (ByteArray.mk #[46, 46]).toList)) with
       | true => k0 ()
       | false => nx (IntKind.i64.wrap (x_4 + 1)))
      | false => nx (IntKind.i64.wrap (x_4 + 1)))
     | false => nx (IntKind.i64.wrap (x_4 + 1))) else none)
   | false => k1 ())
noncomputable def l_spec_l2Path_0 {R : Type} (N : Nat) (w_1 : ByteArray) (e_2 : List V) (x_3 : Int) (k0 : Unit → Option R) (k1 : Unit → Option R) : Nat → Int → Option R
  | 0, _ => none
  | n + 1, x_4 => l_spec_l2Path_0_step N w_1 e_2 x_3 (fun x_4 => l_spec_l2Path_0 N w_1 e_2 x_3 k0 k1 n x_4) x_4 k0 k1
noncomputable def gb_spec_l2Path {R : Type} (N : Nat) (w_1 : ByteArray) (k : Bool → Option R) : Option R :=
  g_spec_l2Parts N w_1 fun e1 => l_spec_l2Path_0 N w_1 e1 (e1.length : Int)
      (fun (_ : Unit) => k false)
      (fun (_ : Unit) => g_spec_l1In N (w_1.size : Int) 1 60 fun b8 => k b8)
      N 0
noncomputable def g_spec_l2Path := @sealed _ @gb_spec_l2Path
theorem g_spec_l2Path_eq : @g_spec_l2Path = @gb_spec_l2Path := @sealed_eq _ @gb_spec_l2Path

/-! ### loop.example/g00756/spec.l1Mode -/
noncomputable def gb_spec_l1Mode {R : Type} (N : Nat) (x_1 : Int) (k : Bool → Option R) : Option R :=
  g_spec_l1In N x_1 0 511 fun b1 => k b1
noncomputable def g_spec_l1Mode := @sealed _ @gb_spec_l1Mode
theorem g_spec_l1Mode_eq : @g_spec_l1Mode = @gb_spec_l1Mode := @sealed_eq _ @gb_spec_l1Mode

/-! ### loop.example/g00756/spec.l3Entries -/
noncomputable def l_spec_l3Entries_0_step {R : Type} (N : Nat) (e_1 : List V) (f_2 : Fl) (e_3 : List V) (f_4 : Fl) (x_5 : Int) (e_7 : List V) (f_8 : Fl) (x_9 : Int) (nx : Int → Option R) (x_6 : Int) (k0 : Unit → Option R) (k1 : Unit → Option R) : Option R :=
  (match decide (x_6 < x_5) with
   | true => (if 0 ≤ x_6 then must (nth e_3 x_6.toNat) fun e28 => un_impl_Entry e28 fun w29 n30 => g_spec_l2Name N w29 fun b31 => (match (!b31) with
     | true => k0 ()
     | false => (match decide (x_6 > 0) with
      | true => (if 0 ≤ IntKind.i64.wrap (x_6 - 1) then must (nth e_1 ((IntKind.i64.wrap (x_6 - 1)).toNat)) fun e32 => un_impl_Entry e32 fun w33 n34 => (match (!Op.bytesLess w33.toList w29.toList) with
        | true => k0 ()
        | false => g_spec_l1In N n30 1 (IntKind.i64.wrap ((e_7.length : Int) - 1)) fun b35 => (match (!b35) with
         | true => k0 ()
         | false => (if 0 ≤ n30 then must (nth e_7 n30.toNat) fun e36 => un_impl_Node e36 fun n37 n38 n39 n40 n41 w42 e43 f44 => (match (n37 == 0) with
           | true => k0 ()
           | false => nx (IntKind.i64.wrap (x_6 + 1))) else none))) else none)
      | false => g_spec_l1In N n30 1 (IntKind.i64.wrap ((e_7.length : Int) - 1)) fun b45 => (match (!b45) with
       | true => k0 ()
       | false => (if 0 ≤ n30 then must (nth e_7 n30.toNat) fun e46 => un_impl_Node e46 fun n47 n48 n49 n50 n51 w52 e53 f54 => (match (n47 == 0) with
         | true => k0 ()
         | false => nx (IntKind.i64.wrap (x_6 + 1))) else none)))) else none)
   | false => k1 ())
noncomputable def l_spec_l3Entries_0 {R : Type} (N : Nat) (e_1 : List V) (f_2 : Fl) (e_3 : List V) (f_4 : Fl) (x_5 : Int) (e_7 : List V) (f_8 : Fl) (x_9 : Int) (k0 : Unit → Option R) (k1 : Unit → Option R) : Nat → Int → Option R
  | 0, _ => none
  | n + 1, x_6 => l_spec_l3Entries_0_step N e_1 f_2 e_3 f_4 x_5 e_7 f_8 x_9 (fun x_6 => l_spec_l3Entries_0 N e_1 f_2 e_3 f_4 x_5 e_7 f_8 x_9 k0 k1 n x_6) x_6 k0 k1
noncomputable def gb_spec_l3Entries {R : Type} (N : Nat) (e_1 : List V) (f_2 : Fl) (x_3 : Int) (e_4 : List V) (f_5 : Fl) (k : Bool → Option R) : Option R :=
  l_spec_l3Entries_0 N e_4 f_5 e_4 f_5.noOwn (e_4.length : Int) e_1 f_2 x_3
      (fun (_ : Unit) => k false)
      (fun (_ : Unit) => k true)
      N 0
noncomputable def g_spec_l3Entries := @sealed _ @gb_spec_l3Entries
theorem g_spec_l3Entries_eq : @g_spec_l3Entries = @gb_spec_l3Entries := @sealed_eq _ @gb_spec_l3Entries

/-! ### loop.example/g00756/spec.l3Node -/
noncomputable def gb_spec_l3Node {R : Type} (N : Nat) (e_1 : List V) (f_2 : Fl) (x_3 x_4 x_5 x_6 x_7 x_8 : Int) (w_9 : ByteArray) (e_10 : List V) (f_11 : Fl) (k : Bool → Option R) : Option R :=
  (match (x_4 == 0) with
   | true => (match (x_5 == 0) with
    | true => (match (x_6 == 0) with
     | true => (match (x_7 == 0) with
      | true => (match (x_8 == 0) with
       | true => (match (w_9.toList == (ByteArray.mk #[]).toList) with
        | true => k ((e_10.length : Int) == 0)
        | false => k false)
       | false => k false)
      | false => k false)
     | false => k false)
    | false => k false)
   | false => g_spec_l1Mode N x_5 fun b1 => (match (!b1) with
    | true => k false
    | false => g_spec_l1In N x_6 0 99 fun b2 => (match (!b2) with
     | true => k false
     | false => g_spec_l1In N x_7 0 99 fun b3 => (match (!b3) with
      | true => k false
      | false => g_spec_l1In N x_8 0 1000000 fun b4 => (match (!b4) with
       | true => k false
       | false => (match (x_4 == 1) with
        | true => (match decide ((w_9.size : Int) ≤ 60) with
         | true => k ((e_10.length : Int) == 0)
         | false => k false)
        | false => (match (x_4 == 2) with
         | true => (match (w_9.toList == (ByteArray.mk #[]).toList) with
          | true => g_spec_l3Entries N e_1 f_2.noOwn.noOwn x_3 e_10 f_11.noOwn.noOwn fun b5 => k b5
          | false => k false)
         | false => (match (x_4 == 3) with
          | true => g_spec_l2Path N w_9 fun b6 => (match b6 with
           | true => k ((e_10.length : Int) == 0)
           | false => k false)
          | false => k false))))))))
noncomputable def g_spec_l3Node := @sealed _ @gb_spec_l3Node
theorem g_spec_l3Node_eq : @g_spec_l3Node = @gb_spec_l3Node := @sealed_eq _ @gb_spec_l3Node

/-! ### loop.example/g00756/spec.l1Has -/
noncomputable def l_spec_l1Has_0_step {R : Type} (N : Nat) (x_1 : Int) (e_2 : List V) (f_3 : Fl) (x_4 : Int) (nx : Int → Option R) (x_5 : Int) (k0 : Unit → Option R) (k1 : Unit → Option R) : Option R :=
  (match decide (x_5 < x_4) with
   | true => (if 0 ≤ x_5 then must (nth e_2 x_5.toNat) fun e3 => asInt .i64 e3 fun n4 => (match (n4 == x_1) with
     | true => k0 ()
     | false => nx (IntKind.i64.wrap (x_5 + 1))) else none)
   | false => k1 ())
noncomputable def l_spec_l1Has_0 {R : Type} (N : Nat) (x_1 : Int) (e_2 : List V) (f_3 : Fl) (x_4 : Int) (k0 : Unit → Option R) (k1 : Unit → Option R) : Nat → Int → Option R
  | 0, _ => none
  | n + 1, x_5 => l_spec_l1Has_0_step N x_1 e_2 f_3 x_4 (fun x_5 => l_spec_l1Has_0 N x_1 e_2 f_3 x_4 k0 k1 n x_5) x_5 k0 k1
noncomputable def gb_spec_l1Has {R : Type} (N : Nat) (e_1 : List V) (f_2 : Fl) (x_3 : Int) (k : Bool → Option R) : Option R :=
  l_spec_l1Has_0 N x_3 e_1 f_2.noOwn (e_1.length : Int)
      (fun (_ : Unit) => k true)
      (fun (_ : Unit) => k false)
      N 0
noncomputable def g_spec_l1Has := @sealed _ @gb_spec_l1Has
theorem g_spec_l1Has_eq : @g_spec_l1Has = @gb_spec_l1Has := @sealed_eq _ @gb_spec_l1Has

/-! ### loop.example/g00756/spec.l1Put -/
noncomputable def l_spec_l1Put_0_step {R : Type} (N : Nat) (e_1 : List V) (f_2 : Fl) (x_3 : Int) (nx : Int → Option R) (x_4 : Int) (k0 : Int → Option R) : Option R :=
  (match decide (x_4 < (e_1.length : Int)) with
   | true => (if 0 ≤ x_4 then must (nth e_1 x_4.toNat) fun e3 => asInt .i64 e3 fun n4 => (match decide (n4 < x_3) with
     | true => nx (IntKind.i64.wrap (x_4 + 1))
     | false => k0 x_4) else none)
   | false => k0 x_4)
noncomputable def l_spec_l1Put_0 {R : Type} (N : Nat) (e_1 : List V) (f_2 : Fl) (x_3 : Int) (k0 : Int → Option R) : Nat → Int → Option R
  | 0, _ => none
  | n + 1, x_4 => l_spec_l1Put_0_step N e_1 f_2 x_3 (fun x_4 => l_spec_l1Put_0 N e_1 f_2 x_3 k0 n x_4) x_4 k0
noncomputable def gb_spec_l1Put {R : Type} (N : Nat) (e_1 : List V) (f_2 : Fl) (x_3 : Int) (k : List V → Option R) : Option R :=
  l_spec_l1Put_0 N e_1 f_2 x_3
      (fun x5 => (match decide (x5 < (e_1.length : Int)) with
    | true => (if 0 ≤ x5 then must (nth e_1 x5.toNat) fun e6 => asInt .i64 e6 fun n7 => (match (n7 == x_3) with
      | true => stillFl f_2 (k e_1)
      | false => (if (0 : Int) ≤ x5 ∧ x5 ≤ (e_1.length : Int) then guardB (okAdd f_2.noOwn.noOwn ((e_1.take ((x5 : Int).toNat)).drop 0)) ((if (0 + (((e_1.take ((x5 : Int).toNat)).drop 0)).length) * 8 ≤ 140737488355328 then (if ((([] : List V) ++ (((e_1.take ((x5 : Int).toNat)).drop 0)).map V.noOwn).length + 1) * 8 ≤ 140737488355328 then (if (0 : Int) ≤ x5 ∧ x5 ≤ (e_1.length : Int) then guardB (okAdd f_2.noOwn.noOwn ((e_1.take e_1.length).drop ((x5 : Int).toNat))) ((if (((([] : List V) ++ (((e_1.take ((x5 : Int).toNat)).drop 0)).map V.noOwn) ++ ([.int .i64 x_3] : List V)).length + (((e_1.take e_1.length).drop ((x5 : Int).toNat))).length) * 8 ≤ 140737488355328 then k (((([] : List V) ++ (((e_1.take ((x5 : Int).toNat)).drop 0)).map V.noOwn) ++ ([.int .i64 x_3] : List V)) ++ (((e_1.take e_1.length).drop ((x5 : Int).toNat))).map V.noOwn) else none)) else none) else none) else none)) else none)) else none)
    | false => (if (0 : Int) ≤ x5 ∧ x5 ≤ (e_1.length : Int) then guardB (okAdd f_2.noOwn.noOwn ((e_1.take ((x5 : Int).toNat)).drop 0)) ((if (0 + (((e_1.take ((x5 : Int).toNat)).drop 0)).length) * 8 ≤ 140737488355328 then (if ((([] : List V) ++ (((e_1.take ((x5 : Int).toNat)).drop 0)).map V.noOwn).length + 1) * 8 ≤ 140737488355328 then (if (0 : Int) ≤ x5 ∧ x5 ≤ (e_1.length : Int) then guardB (okAdd f_2.noOwn.noOwn ((e_1.take e_1.length).drop ((x5 : Int).toNat))) ((if (((([] : List V) ++ (((e_1.take ((x5 : Int).toNat)).drop 0)).map V.noOwn) ++ ([.int .i64 x_3] : List V)).length + (((e_1.take e_1.length).drop ((x5 : Int).toNat))).length) * 8 ≤ 140737488355328 then k (((([] : List V) ++ (((e_1.take ((x5 : Int).toNat)).drop 0)).map V.noOwn) ++ ([.int .i64 x_3] : List V)) ++ (((e_1.take e_1.length).drop ((x5 : Int).toNat))).map V.noOwn) else none)) else none) else none) else none)) else none)))
      N 0
noncomputable def g_spec_l1Put := @sealed _ @gb_spec_l1Put
theorem g_spec_l1Put_eq : @g_spec_l1Put = @gb_spec_l1Put := @sealed_eq _ @gb_spec_l1Put

/-! ### loop.example/g00756/spec.l3Met -/
noncomputable def l_spec_l3Met_0_step {R : Type} (N : Nat) (rec_ : (R : Type) → List V → Fl → Int → Int → List V → Fl → (List V → Option R) → Option R) (e_2 : List V) (f_3 : Fl) (x_4 : Int) (e_6 : List V) (f_7 : Fl) (x_8 : Int) (nx : List V → Int → Option R) (e_1 : List V) (x_5 : Int) (k0 : List V → Option R) : Option R :=
  (match decide (x_5 < x_4) with
   | true => (if 0 ≤ x_5 then must (nth e_2 x_5.toNat) fun e16 => un_impl_Entry e16 fun w17 n18 => rec_ R e_6 f_7.noOwn.noOwn x_8 n18 e_1 .sh fun e19 => nx e19 (IntKind.i64.wrap (x_5 + 1)) else none)
   | false => k0 e_1)
noncomputable def l_spec_l3Met_0 {R : Type} (N : Nat) (rec_ : (R : Type) → List V → Fl → Int → Int → List V → Fl → (List V → Option R) → Option R) (e_2 : List V) (f_3 : Fl) (x_4 : Int) (e_6 : List V) (f_7 : Fl) (x_8 : Int) (k0 : List V → Option R) : Nat → List V → Int → Option R
  | 0, _, _ => none
  | n + 1, e_1, x_5 => l_spec_l3Met_0_step N rec_ e_2 f_3 x_4 e_6 f_7 x_8 (fun e_1 x_5 => l_spec_l3Met_0 N rec_ e_2 f_3 x_4 e_6 f_7 x_8 k0 n e_1 x_5) e_1 x_5 k0
noncomputable def gb_spec_l3Met {R : Type} (N : Nat) (rec_ : (R : Type) → List V → Fl → Int → Int → List V → Fl → (List V → Option R) → Option R) (e_1 : List V) (f_2 : Fl) (x_3 x_4 : Int) (e_5 : List V) (f_6 : Fl) (k : List V → Option R) : Option R :=
  g_spec_l1Has N e_5 f_6.noOwn.noOwn x_4 fun b1 => (match b1 with
   | true => stillFl f_6 (k e_5)
   | false => g_spec_l1Put N e_5 f_6.noOwn.noOwn x_4 fun e2 => (if 0 ≤ x_4 then must (nth e_1 x_4.toNat) fun e3 => un_impl_Node e3 fun n4 n5 n6 n7 n8 w9 e10 f11 => l_spec_l3Met_0 N rec_ e10 f11.noOwn (e10.length : Int) e_1 f_2 x_3
        (fun e20 => k e20)
        N e2 0 else none))
noncomputable def gr_spec_l3Met (N : Nat) : Nat → (R : Type) → List V → Fl → Int → Int → List V → Fl → (List V → Option R) → Option R
  | 0, _, _, _, _, _, _, _, _ => none
  | M + 1, _, e_1, f_2, x_3, x_4, e_5, f_6, k => gb_spec_l3Met N (gr_spec_l3Met N M) e_1 f_2 x_3 x_4 e_5 f_6 k
noncomputable def g_spec_l3Met (N : Nat) : Nat → (R : Type) → List V → Fl → Int → Int → List V → Fl → (List V → Option R) → Option R := sealed gr_spec_l3Met N
theorem g_spec_l3Met_zero (N : Nat) (R : Type) (e_1 : List V) (f_2 : Fl) (x_3 x_4 : Int) (e_5 : List V) (f_6 : Fl) (k : List V → Option R) : g_spec_l3Met N 0 R e_1 f_2 x_3 x_4 e_5 f_6 k = none := by unfold g_spec_l3Met; rw [sealed_eq]; rfl
theorem g_spec_l3Met_eq (N M : Nat) (R : Type) (e_1 : List V) (f_2 : Fl) (x_3 x_4 : Int) (e_5 : List V) (f_6 : Fl) (k : List V → Option R) : g_spec_l3Met N (M + 1) R e_1 f_2 x_3 x_4 e_5 f_6 k = gb_spec_l3Met N (g_spec_l3Met N M) e_1 f_2 x_3 x_4 e_5 f_6 k := by unfold g_spec_l3Met; rw [sealed_eq]; rfl

/-! ### loop.example/g00756/spec.l3Good -/
noncomputable def l_spec_l3Good_0_step {R : Type} (N : Nat) (e_1 : List V) (f_2 : Fl) (x_3 : Int) (e_5 : List V) (f_6 : Fl) (x_7 : Int) (nx : Int → Option R) (x_4 : Int) (k0 : Unit → Option R) (k1 : Unit → Option R) : Option R :=
  (match decide (x_4 < x_3) with
   | true => (if 0 ≤ x_4 then must (nth e_1 x_4.toNat) fun e23 => un_impl_Node e23 fun n24 n25 n26 n27 n28 w29 e30 f31 => g_spec_l3Node N e_5 f_6.noOwn.noOwn x_7 n24 n25 n26 n27 n28 w29 e30 f31.noOwn.noOwn.noOwn fun b32 => (match (!b32) with
     | true => k0 ()
     | false => nx (IntKind.i64.wrap (x_4 + 1))) else none)
   | false => k1 ())
noncomputable def l_spec_l3Good_0 {R : Type} (N : Nat) (e_1 : List V) (f_2 : Fl) (x_3 : Int) (e_5 : List V) (f_6 : Fl) (x_7 : Int) (k0 : Unit → Option R) (k1 : Unit → Option R) : Nat → Int → Option R
  | 0, _ => none
  | n + 1, x_4 => l_spec_l3Good_0_step N e_1 f_2 x_3 e_5 f_6 x_7 (fun x_4 => l_spec_l3Good_0 N e_1 f_2 x_3 e_5 f_6 x_7 k0 k1 n x_4) x_4 k0 k1
noncomputable def l_spec_l3Good_1_step {R : Type} (N : Nat) (e_1 e_2 : List V) (f_3 : Fl) (x_4 : Int) (e_6 : List V) (f_7 : Fl) (x_8 : Int) (nx : Int → Option R) (x_5 : Int) (k0 : Unit → Option R) (k1 : Unit → Option R) : Option R :=
  (match decide (x_5 < x_4) with
   | true => (if 0 ≤ x_5 then must (nth e_2 x_5.toNat) fun e50 => un_impl_Node e50 fun n51 n52 n53 n54 n55 w56 e57 f58 => g_spec_l3Links N e_6 f_7.noOwn.noOwn x_8 x_5 fun x59 => (match (x_5 == 0) with
     | true => (match decide (x59 > 0) with
      | true => k0 ()
      | false => (match decide (x_5 > 0) with
       | true => (match (n51 == 2) with
        | true => (match (x59 != 1) with
         | true => k0 ()
         | false => (match (n51 != 0) with
          | true => g_spec_l1Has N e_1 .sh x_5 fun b60 => (match (!b60) with
           | true => k0 ()
           | false => nx (IntKind.i64.wrap (x_5 + 1)))
          | false => nx (IntKind.i64.wrap (x_5 + 1))))
        | false => (match (n51 != 0) with
         | true => g_spec_l1Has N e_1 .sh x_5 fun b61 => (match (!b61) with
          | true => k0 ()
          | false => nx (IntKind.i64.wrap (x_5 + 1)))
         | false => nx (IntKind.i64.wrap (x_5 + 1))))
       | false => (match (n51 != 0) with
        | true => g_spec_l1Has N e_1 .sh x_5 fun b62 => (match (!b62) with
         | true => k0 ()
         | false => nx (IntKind.i64.wrap (x_5 + 1)))
        | false => nx (IntKind.i64.wrap (x_5 + 1)))))
     | false => (match decide (x_5 > 0) with
      | true => (match (n51 == 2) with
       | true => (match (x59 != 1) with
        | true => k0 ()
        | false => (match (n51 != 0) with
         | true => g_spec_l1Has N e_1 .sh x_5 fun b63 => (match (!b63) with
          | true => k0 ()
          | false => nx (IntKind.i64.wrap (x_5 + 1)))
         | false => nx (IntKind.i64.wrap (x_5 + 1))))
       | false => (match (n51 != 0) with
        | true => g_spec_l1Has N e_1 .sh x_5 fun b64 => (match (!b64) with
         | true => k0 ()
         | false => nx (IntKind.i64.wrap (x_5 + 1)))
        | false => nx (IntKind.i64.wrap (x_5 + 1))))
      | false => (match (n51 != 0) with
       | true => g_spec_l1Has N e_1 .sh x_5 fun b65 => (match (!b65) with
        | true => k0 ()
        | false => nx (IntKind.i64.wrap (x_5 + 1)))
       | false => nx (IntKind.i64.wrap (x_5 + 1))))) else none)
   | false => k1 ())
noncomputable def l_spec_l3Good_1 {R : Type} (N : Nat) (e_1 e_2 : List V) (f_3 : Fl) (x_4 : Int) (e_6 : List V) (f_7 : Fl) (x_8 : Int) (k0 : Unit → Option R) (k1 : Unit → Option R) : Nat → Int → Option R
  | 0, _ => none
  | n + 1, x_5 => l_spec_l3Good_1_step N e_1 e_2 f_3 x_4 e_6 f_7 x_8 (fun x_5 => l_spec_l3Good_1 N e_1 e_2 f_3 x_4 e_6 f_7 x_8 k0 k1 n x_5) x_5 k0 k1
noncomputable def gb_spec_l3Good {R : Type} (N : Nat) (e_1 : List V) (f_2 : Fl) (x_3 : Int) (k : Bool → Option R) : Option R :=
  g_spec_l1In N (e_1.length : Int) 1 40 fun b1 => (match (!b1) with
   | true => k false
   | false => g_spec_l1In N x_3 0 1000 fun b2 => (match (!b2) with
    | true => k false
    | false => g_spec_l3Bytes N e_1 f_2.noOwn.noOwn.noOwn.noOwn x_3 fun x3 => (match decide (x3 > x_3) with
     | true => k false
     | false => must (nth e_1 0) fun e4 => un_impl_Node e4 fun n5 n6 n7 n8 n9 w10 e11 f12 => (match (n5 != 2) with
      | true => k false
      | false => l_spec_l3Good_0 N e_1 f_2.noOwn (e_1.length : Int) e_1 f_2 x_3
          (fun (_ : Unit) => k false)
          (fun (_ : Unit) => g_spec_l3Met N N R e_1 f_2.noOwn.noOwn x_3 0 [] .sh fun e33 => l_spec_l3Good_1 N e33 e_1 f_2.noOwn (e_1.length : Int) e_1 f_2 x_3
           (fun (_ : Unit) => k false)
           (fun (_ : Unit) => k true)
           N 0)
          N 0))))
noncomputable def g_spec_l3Good := @sealed _ @gb_spec_l3Good
theorem g_spec_l3Good_eq : @g_spec_l3Good = @gb_spec_l3Good := @sealed_eq _ @gb_spec_l3Good

/-! ### loop.example/g00756/spec.l1Cred -/
noncomputable def gb_spec_l1Cred {R : Type} (N : Nat) (x_1 x_2 : Int) (k : Bool → Option R) : Option R :=
  g_spec_l1In N x_1 0 99 fun b1 => (match b1 with
   | true => g_spec_l1In N x_2 0 99 fun b2 => k b2
   | false => k false)
noncomputable def g_spec_l1Cred := @sealed _ @gb_spec_l1Cred
theorem g_spec_l1Cred_eq : @g_spec_l1Cred = @gb_spec_l1Cred := @sealed_eq _ @gb_spec_l1Cred

/-! ### loop.example/g00756/spec.l4Asked -/
noncomputable def gb_spec_l4Asked {R : Type} (N : Nat) (e_1 : List V) (f_2 : Fl) (x_3 x_4 x_5 : Int) (k : Bool → Option R) : Option R :=
  g_spec_l3Good N e_1 f_2.noOwn.noOwn x_3 fun b1 => (match b1 with
   | true => g_spec_l1Cred N x_4 x_5 fun b2 => k b2
   | false => k false)
noncomputable def g_spec_l4Asked := @sealed _ @gb_spec_l4Asked
theorem g_spec_l4Asked_eq : @g_spec_l4Asked = @gb_spec_l4Asked := @sealed_eq _ @gb_spec_l4Asked

/-! ### loop.example/g00756/spec.l2Whole -/
noncomputable def gb_spec_l2Whole {R : Type} (N : Nat) (w_1 : ByteArray) (k : Bool → Option R) : Option R :=
  g_spec_l2Path N w_1 fun b1 => (match b1 with
   | true => byteAt w_1 0 fun n2 => k (n2 == 47)
   | false => k false)
noncomputable def g_spec_l2Whole := @sealed _ @gb_spec_l2Whole
theorem g_spec_l2Whole_eq : @g_spec_l2Whole = @gb_spec_l2Whole := @sealed_eq _ @gb_spec_l2Whole

/-! ### loop.example/g00756/spec.l1May -/
noncomputable def gb_spec_l1May {R : Type} (N : Nat) (x_1 x_2 x_3 x_4 x_5 x_6 : Int) (k : Bool → Option R) : Option R :=
  (match (x_1 == 0) with
   | true => k true
   | false => (match (x_1 == x_4) with
    | true => k (IntKind.i64.wrap (BitVec.ofInt IntKind.i64.bits (Int.fdiv x_3 (2 ^ (min (6 : Int).toNat 64))) &&& BitVec.ofInt IntKind.i64.bits x_6).toNat == x_6)
    | false => (match (x_2 == x_5) with
     | true => k (IntKind.i64.wrap (BitVec.ofInt IntKind.i64.bits (IntKind.i64.wrap (BitVec.ofInt IntKind.i64.bits (Int.fdiv x_3 (2 ^ (min (3 : Int).toNat 64))) &&& BitVec.ofInt IntKind.i64.bits 7).toNat) &&& BitVec.ofInt IntKind.i64.bits x_6).toNat == x_6)
     | false => k (IntKind.i64.wrap (BitVec.ofInt IntKind.i64.bits (IntKind.i64.wrap (BitVec.ofInt IntKind.i64.bits x_3 &&& BitVec.ofInt IntKind.i64.bits 7).toNat) &&& BitVec.ofInt IntKind.i64.bits x_6).toNat == x_6))))
noncomputable def g_spec_l1May := @sealed _ @gb_spec_l1May
theorem g_spec_l1May_eq : @g_spec_l1May = @gb_spec_l1May := @sealed_eq _ @gb_spec_l1May

/-! ### loop.example/g00756/spec.l4May -/
noncomputable def gb_spec_l4May {R : Type} (N : Nat) (e_1 : List V) (f_2 : Fl) (x_3 x_4 x_5 x_6 x_7 : Int) (k : Bool → Option R) : Option R :=
  (if 0 ≤ x_6 then must (nth e_1 x_6.toNat) fun e1 => un_impl_Node e1 fun n2 n3 n4 n5 n6 w7 e8 f9 => g_spec_l1May N x_4 x_5 n3 n4 n5 x_7 fun b10 => k b10 else none)
noncomputable def g_spec_l4May := @sealed _ @gb_spec_l4May
theorem g_spec_l4May_eq : @g_spec_l4May = @gb_spec_l4May := @sealed_eq _ @gb_spec_l4May

/-! ### loop.example/g00756/spec.l3Parent -/
noncomputable def l_spec_l3Parent_0_step {R : Type} (N : Nat) (x_1 x_2 : Int) (e_3 : List V) (f_4 : Fl) (x_5 x_6 : Int) (e_7 : List V) (f_8 : Fl) (x_9 : Int) (e_11 : List V) (f_12 : Fl) (x_13 x_14 x_15 x_16 x_17 x_18 : Int) (w_19 : ByteArray) (e_20 : List V) (f_21 : Fl) (nx : Int → Option R) (x_10 : Int) (k0 : Unit → Option R) (k1 : Unit → Option R) : Option R :=
  (match decide (x_10 < x_9) with
   | true => (if 0 ≤ x_10 then must (nth e_7 x_10.toNat) fun e13 => un_impl_Entry e13 fun w14 n15 => (match (n15 == x_1) with
     | true => k0 ()
     | false => nx (IntKind.i64.wrap (x_10 + 1))) else none)
   | false => k1 ())
noncomputable def l_spec_l3Parent_0 {R : Type} (N : Nat) (x_1 x_2 : Int) (e_3 : List V) (f_4 : Fl) (x_5 x_6 : Int) (e_7 : List V) (f_8 : Fl) (x_9 : Int) (e_11 : List V) (f_12 : Fl) (x_13 x_14 x_15 x_16 x_17 x_18 : Int) (w_19 : ByteArray) (e_20 : List V) (f_21 : Fl) (k0 : Unit → Option R) (k1 : Unit → Option R) : Nat → Int → Option R
  | 0, _ => none
  | n + 1, x_10 => l_spec_l3Parent_0_step N x_1 x_2 e_3 f_4 x_5 x_6 e_7 f_8 x_9 e_11 f_12 x_13 x_14 x_15 x_16 x_17 x_18 w_19 e_20 f_21 (fun x_10 => l_spec_l3Parent_0 N x_1 x_2 e_3 f_4 x_5 x_6 e_7 f_8 x_9 e_11 f_12 x_13 x_14 x_15 x_16 x_17 x_18 w_19 e_20 f_21 k0 k1 n x_10) x_10 k0 k1
noncomputable def l_spec_l3Parent_1_step {R : Type} (N : Nat) (x_1 : Int) (e_2 : List V) (f_3 : Fl) (x_4 : Int) (e_6 : List V) (f_7 : Fl) (x_8 : Int) (nx : Int → Option R) (x_5 : Int) (k0 : Int → Option R) (k1 : Unit → Option R) : Option R :=
  (match decide (x_5 < x_4) with
   | true => (if 0 ≤ x_5 then must (nth e_2 x_5.toNat) fun e16 => un_impl_Node e16 fun n17 n18 n19 n20 n21 w22 e23 f24 => l_spec_l3Parent_0 N x_1 x_5 e_2 f_3 x_4 x_5 e23 f24.noOwn.noOwn (e23.length : Int) e_6 f_7 x_8 n17 n18 n19 n20 n21 w22 e23 f24.noOwn
        (fun (_ : Unit) => k0 x_5)
        (fun (_ : Unit) => nx (IntKind.i64.wrap (x_5 + 1)))
        N 0 else none)
   | false => k1 ())
noncomputable def l_spec_l3Parent_1 {R : Type} (N : Nat) (x_1 : Int) (e_2 : List V) (f_3 : Fl) (x_4 : Int) (e_6 : List V) (f_7 : Fl) (x_8 : Int) (k0 : Int → Option R) (k1 : Unit → Option R) : Nat → Int → Option R
  | 0, _ => none
  | n + 1, x_5 => l_spec_l3Parent_1_step N x_1 e_2 f_3 x_4 e_6 f_7 x_8 (fun x_5 => l_spec_l3Parent_1 N x_1 e_2 f_3 x_4 e_6 f_7 x_8 k0 k1 n x_5) x_5 k0 k1
noncomputable def gb_spec_l3Parent {R : Type} (N : Nat) (e_1 : List V) (f_2 : Fl) (x_3 x_4 : Int) (k : Int → Option R) : Option R :=
  l_spec_l3Parent_1 N x_4 e_1 f_2.noOwn (e_1.length : Int) e_1 f_2 x_3
      (fun x25 => k x25)
      (fun (_ : Unit) => k 0)
      N 0
noncomputable def g_spec_l3Parent := @sealed _ @gb_spec_l3Parent
theorem g_spec_l3Parent_eq : @g_spec_l3Parent = @gb_spec_l3Parent := @sealed_eq _ @gb_spec_l3Parent

/-! ### loop.example/g00756/spec.l3At -/
noncomputable def l_spec_l3At_0_step {R : Type} (N : Nat) (w_1 : ByteArray) (e_2 : List V) (f_3 : Fl) (x_4 : Int) (nx : Int → Option R) (x_5 : Int) (k0 : Int → Option R) (k1 : Unit → Option R) : Option R :=
  (match decide (x_5 < x_4) with
   | true => (if 0 ≤ x_5 then must (nth e_2 x_5.toNat) fun e4 => un_impl_Entry e4 fun w5 n6 => (match (w5.toList == w_1.toList) with
     | true => k0 n6
     | false => nx (IntKind.i64.wrap (x_5 + 1))) else none)
   | false => k1 ())
noncomputable def l_spec_l3At_0 {R : Type} (N : Nat) (w_1 : ByteArray) (e_2 : List V) (f_3 : Fl) (x_4 : Int) (k0 : Int → Option R) (k1 : Unit → Option R) : Nat → Int → Option R
  | 0, _ => none
  | n + 1, x_5 => l_spec_l3At_0_step N w_1 e_2 f_3 x_4 (fun x_5 => l_spec_l3At_0 N w_1 e_2 f_3 x_4 k0 k1 n x_5) x_5 k0 k1
noncomputable def gb_spec_l3At {R : Type} (N : Nat) (e_1 : List V) (f_2 : Fl) (w_3 : ByteArray) (k : Int → Option R) : Option R :=
  l_spec_l3At_0 N w_3 e_1 f_2.noOwn (e_1.length : Int)
      (fun x7 => k x7)
      (fun (_ : Unit) => k (-1))
      N 0
noncomputable def g_spec_l3At := @sealed _ @gb_spec_l3At
theorem g_spec_l3At_eq : @g_spec_l3At = @gb_spec_l3At := @sealed_eq _ @gb_spec_l3At

/-! ### (*loop.example/g00756/spec.l4W).step -/
noncomputable def gb_spec_l4W_step {R : Type} (N : Nat) (b_1 : Bool) (e_2 : List V) (f_3 : Fl) (x_4 x_5 x_6 x_7 : Int) (e_8 : List V) (f_9 : Fl) (x_10 : Int) (k : Int → List V → Fl → Int → Int → Int → Int → List V → Fl → Int → Option R) : Option R :=
  (if 0 ≤ x_7 then must (nth e_2 x_7.toNat) fun e1 => un_impl_Node e1 fun n2 n3 n4 n5 n6 w7 e8 f9 => (match (n2 != 2) with
    | true => k 3 e_2 f_3 x_4 x_5 x_6 x_7 e_8 f_9 x_10
    | false => g_spec_l4May N e_2 f_3.noOwn.noOwn.noOwn.noOwn x_4 x_5 x_6 x_7 1 fun b10 => (match (!b10) with
     | true => k 4 e_2 f_3 x_4 x_5 x_6 x_7 e_8 f_9 x_10
     | false => must (nth e_8 0) fun e11 => asStr e11 fun w12 => (if (0 : Int) ≤ 1 ∧ 1 ≤ (e_8.length : Int) then (match (w12.toList == (ByteArray.mk #[46]).toList) with
       | true => k 0 e_2 f_3 x_4 x_5 x_6 x_7 ((e_8.take e_8.length).drop 1) f_9.noOwn.noOwn x_10
       | false => (match (w12.toList == (ByteArray.mk #[46, 46]).toList) with
        | true => g_spec_l3Parent N e_2 f_3.noOwn.noOwn.noOwn.noOwn x_4 x_7 fun x13 => k 0 e_2 f_3 x_4 x_5 x_6 x13 ((e_8.take e_8.length).drop 1) f_9.noOwn.noOwn x_10
        | false => g_spec_l3At N e8 f9.noOwn.noOwn.noOwn.noOwn w12 fun x14 => (match decide (x14 < 0) with
         | true => k 2 e_2 f_3 x_4 x_5 x_6 x_7 ((e_8.take e_8.length).drop 1) f_9.noOwn.noOwn x_10
         | false => (if 0 ≤ x14 then must (nth e_2 x14.toNat) fun e15 => un_impl_Node e15 fun n16 n17 n18 n19 n20 w21 e22 f23 => (match (n16 != 3) with
           | true => k 0 e_2 f_3 x_4 x_5 x_6 x14 ((e_8.take e_8.length).drop 1) f_9.noOwn.noOwn x_10
           | false => (match ((((e_8.take e_8.length).drop 1).length : Int) == 0) with
            | true => (match (!b_1) with
             | true => k 0 e_2 f_3 x_4 x_5 x_6 x14 ((e_8.take e_8.length).drop 1) f_9.noOwn.noOwn x_10
             | false => (match (x_10 == 8) with
              | true => k 5 e_2 f_3 x_4 x_5 x_6 x_7 ((e_8.take e_8.length).drop 1) f_9.noOwn.noOwn x_10
              | false => g_spec_l2Parts N w21 fun e24 => guardB (okAdd f_9.noOwn.noOwn.noOwn.noOwn ((e_8.take e_8.length).drop 1)) ((if (e24.length + (((e_8.take e_8.length).drop 1)).length) * 16 ≤ 140737488355328 then byteAt w21 0 fun n25 => (match (n25 == 47) with
                 | true => k 0 e_2 f_3 x_4 x_5 x_6 0 (e24 ++ (((e_8.take e_8.length).drop 1)).map V.noOwn) (.own 9) (IntKind.i64.wrap (x_10 + 1))
                 | false => k 0 e_2 f_3 x_4 x_5 x_6 x_7 (e24 ++ (((e_8.take e_8.length).drop 1)).map V.noOwn) (.own 9) (IntKind.i64.wrap (x_10 + 1))) else none))))
            | false => (match (x_10 == 8) with
             | true => k 5 e_2 f_3 x_4 x_5 x_6 x_7 ((e_8.take e_8.length).drop 1) f_9.noOwn.noOwn x_10
             | false => g_spec_l2Parts N w21 fun e26 => guardB (okAdd f_9.noOwn.noOwn.noOwn.noOwn ((e_8.take e_8.length).drop 1)) ((if (e26.length + (((e_8.take e_8.length).drop 1)).length) * 16 ≤ 140737488355328 then byteAt w21 0 fun n27 => (match (n27 == 47) with
                | true => k 0 e_2 f_3 x_4 x_5 x_6 0 (e26 ++ (((e_8.take e_8.length).drop 1)).map V.noOwn) (.own 9) (IntKind.i64.wrap (x_10 + 1))
                | false => k 0 e_2 f_3 x_4 x_5 x_6 x_7 (e26 ++ (((e_8.take e_8.length).drop 1)).map V.noOwn) (.own 9) (IntKind.i64.wrap (x_10 + 1))) else none))))) else none)))) else none))) else none)
noncomputable def g_spec_l4W_step := @sealed _ @gb_spec_l4W_step
theorem g_spec_l4W_step_eq : @g_spec_l4W_step = @gb_spec_l4W_step := @sealed_eq _ @gb_spec_l4W_step

/-! ### loop.example/g00756/spec.l4Find -/
noncomputable def l_spec_l4Find_0_step {R : Type} (N : Nat) (b_1 b_2 : Bool) (e_3 : List V) (f_4 : Fl) (x_5 x_6 x_7 : Int) (nx : List V → Fl → Int → Int → Int → Int → List V → Fl → Int → Option R) (e_8 : List V) (f_9 : Fl) (x_10 x_11 x_12 x_13 : Int) (e_14 : List V) (f_16 : Fl) (x_15 : Int) (k0 : Int → List V → Fl → Int → Int → Int → Int → List V → Fl → Int → Option R) (k1 : List V → Fl → Int → Int → Int → Int → List V → Fl → Int → Option R) : Option R :=
  (match decide ((e_14.length : Int) > 0) with
   | true => (match b_1 with
    | true => g_spec_l4W_step N true e_8 f_9 x_10 x_11 x_12 x_13 e_14 f_16 x_15 fun x24 e25 f26 x27 x28 x29 x30 e31 f32 x33 => (match (x24 != 0) with
     | true => k0 x24 e25 f26 x27 x28 x29 x30 e31 f32 x33
     | false => nx e25 f26 x27 x28 x29 x30 e31 f32 x33)
    | false => g_spec_l4W_step N b_2 e_8 f_9 x_10 x_11 x_12 x_13 e_14 f_16 x_15 fun x34 e35 f36 x37 x38 x39 x40 e41 f42 x43 => (match (x34 != 0) with
     | true => k0 x34 e35 f36 x37 x38 x39 x40 e41 f42 x43
     | false => nx e35 f36 x37 x38 x39 x40 e41 f42 x43))
   | false => k1 e_8 f_9 x_10 x_11 x_12 x_13 e_14 f_16 x_15)
noncomputable def l_spec_l4Find_0 {R : Type} (N : Nat) (b_1 b_2 : Bool) (e_3 : List V) (f_4 : Fl) (x_5 x_6 x_7 : Int) (k0 : Int → List V → Fl → Int → Int → Int → Int → List V → Fl → Int → Option R) (k1 : List V → Fl → Int → Int → Int → Int → List V → Fl → Int → Option R) : Nat → List V → Fl → Int → Int → Int → Int → List V → Fl → Int → Option R
  | 0, _, _, _, _, _, _, _, _, _ => none
  | n + 1, e_8, f_9, x_10, x_11, x_12, x_13, e_14, f_16, x_15 => l_spec_l4Find_0_step N b_1 b_2 e_3 f_4 x_5 x_6 x_7 (fun e_8 f_9 x_10 x_11 x_12 x_13 e_14 f_16 x_15 => l_spec_l4Find_0 N b_1 b_2 e_3 f_4 x_5 x_6 x_7 k0 k1 n e_8 f_9 x_10 x_11 x_12 x_13 e_14 f_16 x_15) e_8 f_9 x_10 x_11 x_12 x_13 e_14 f_16 x_15 k0 k1
noncomputable def gb_spec_l4Find {R : Type} (N : Nat) (e_1 : List V) (f_2 : Fl) (x_3 x_4 x_5 : Int) (w_6 : ByteArray) (b_7 : Bool) (k : Int → Int → Option R) : Option R :=
  g_spec_l2Whole N w_6 fun b1 => (match (!b1) with
   | true => k 0 1
   | false => byteAt w_6 (IntKind.i64.wrap ((w_6.size : Int) - 1)) fun n2 => g_spec_l2Parts N w_6 fun e3 => l_spec_l4Find_0 N b_7 (n2 == 47) e_1 f_2 x_3 x_4 x_5
       (fun x44 e45 f46 x47 x48 x49 x50 e51 f52 x53 => k 0 x44)
       (fun e54 f55 x56 x57 x58 x59 e60 f61 x62 => (match (n2 == 47) with
     | true => (if 0 ≤ x59 then must (nth e_1 x59.toNat) fun e63 => un_impl_Node e63 fun n64 n65 n66 n67 n68 w69 e70 f71 => (match (n64 != 2) with
       | true => k 0 3
       | false => k x59 0) else none)
     | false => k x59 0))
       N e_1 f_2.noOwn.noOwn.noOwn x_3 x_4 x_5 0 e3 .sh 0)
noncomputable def g_spec_l4Find := @sealed _ @gb_spec_l4Find
theorem g_spec_l4Find_eq : @g_spec_l4Find = @gb_spec_l4Find := @sealed_eq _ @gb_spec_l4Find

/-! ### loop.example/g00756/spec.l6File -/
noncomputable def gb_spec_l6File {R : Type} (N : Nat) (e_1 : List V) (f_2 : Fl) (x_3 x_4 x_5 : Int) (w_6 : ByteArray) (x_7 : Int) (k : Int → Int → Option R) : Option R :=
  g_spec_l4Find N e_1 f_2.noOwn.noOwn x_3 x_4 x_5 w_6 true fun x1 x2 => (match (x2 != 0) with
   | true => k 0 x2
   | false => (if 0 ≤ x1 then must (nth e_1 x1.toNat) fun e3 => un_impl_Node e3 fun n4 n5 n6 n7 n8 w9 e10 f11 => (match (n4 == 2) with
     | true => k 0 7
     | false => g_spec_l4May N e_1 f_2.noOwn.noOwn x_3 x_4 x_5 x1 x_7 fun b12 => (match (!b12) with
      | true => k 0 4
      | false => k x1 0)) else none))
noncomputable def g_spec_l6File := @sealed _ @gb_spec_l6File
theorem g_spec_l6File_eq : @g_spec_l6File = @gb_spec_l6File := @sealed_eq _ @gb_spec_l6File

/-! ### loop.example/g00756/spec.ReadFile -/
noncomputable def gb_spec_ReadFile {R : Type} (N : Nat) (e_1 : List V) (f_2 : Fl) (x_3 x_4 x_5 : Int) (w_6 : ByteArray) (k : ByteArray → Int → Bool → Option R) : Option R :=
  g_spec_l4Asked N e_1 f_2.noOwn.noOwn x_3 x_4 x_5 fun b1 => (match (!b1) with
   | true => k (ByteArray.mk #[]) 0 false
   | false => g_spec_l6File N e_1 f_2.noOwn.noOwn x_3 x_4 x_5 w_6 4 fun x2 x3 => (match (x3 != 0) with
    | true => k (ByteArray.mk #[]) x3 true
    | false => (if 0 ≤ x2 then must (nth e_1 x2.toNat) fun e4 => un_impl_Node e4 fun n5 n6 n7 n8 n9 w10 e11 f12 => k w10 0 true else none)))
noncomputable def g_spec_ReadFile := @sealed _ @gb_spec_ReadFile
theorem g_spec_ReadFile_eq : @g_spec_ReadFile = @gb_spec_ReadFile := @sealed_eq _ @gb_spec_ReadFile

/-! ### (loop.example/g00756/impl.Fs).links -/
noncomputable def l_impl_Fs_links_0_step {R : Type} (N : Nat) (k_1 : Nat) (e_2 : List V) (f_3 : Fl) (x_4 x_5 : Int) (e_6 : List V) (f_7 : Fl) (x_8 : Int) (e_10 : List V) (f_11 : Fl) (x_12 x_14 x_15 x_16 x_17 x_18 : Int) (w_19 : ByteArray) (e_20 : List V) (f_21 : Fl) (nx : Int → List V → Option R) (x_9 : Int) (e_13 : List V) (k0 : List V → Option R) : Option R :=
  (match decide (x_9 < x_8) with
   | true => (if 0 ≤ x_9 then must (nth e_6 x_9.toNat) fun e19 => un_impl_Entry e19 fun w20 n21 => (if (0 : Int) ≤ n21 ∧ n21 < k_1 then (match nth e_13 (0 + n21.toNat) with
      | some e22 => asCons (e22.cells.drop 0) fun c23 l24 => asInt .i64 c23 fun n25 => (if (0 : Int) ≤ n21 ∧ n21 < k_1 then (match nth e_13 (0 + n21.toNat) with
        | some e26 => (match putCells e26 0 [.int .i64 (IntKind.i64.wrap (n25 + 1))] with
         | some e27 => nx (IntKind.i64.wrap (x_9 + 1)) ((setAt e_13 (0 + n21.toNat) e27).map (trimV 3))
         | none => none)
        | none => none) else none)
      | none => none) else none) else none)
   | false => k0 (e_13.map (trimV 3)))
noncomputable def l_impl_Fs_links_0 {R : Type} (N : Nat) (k_1 : Nat) (e_2 : List V) (f_3 : Fl) (x_4 x_5 : Int) (e_6 : List V) (f_7 : Fl) (x_8 : Int) (e_10 : List V) (f_11 : Fl) (x_12 x_14 x_15 x_16 x_17 x_18 : Int) (w_19 : ByteArray) (e_20 : List V) (f_21 : Fl) (k0 : List V → Option R) : Nat → Int → List V → Option R
  | 0, _, _ => none
  | n + 1, x_9, e_13 => l_impl_Fs_links_0_step N k_1 e_2 f_3 x_4 x_5 e_6 f_7 x_8 e_10 f_11 x_12 x_14 x_15 x_16 x_17 x_18 w_19 e_20 f_21 (fun x_9 e_13 => l_impl_Fs_links_0 N k_1 e_2 f_3 x_4 x_5 e_6 f_7 x_8 e_10 f_11 x_12 x_14 x_15 x_16 x_17 x_18 w_19 e_20 f_21 k0 n x_9 e_13) x_9 e_13 k0
noncomputable def l_impl_Fs_links_1_step {R : Type} (N : Nat) (k_1 : Nat) (e_2 : List V) (f_3 : Fl) (x_4 : Int) (e_6 : List V) (f_7 : Fl) (x_8 : Int) (nx : Int → List V → Option R) (x_5 : Int) (e_9 : List V) (k0 : List V → Option R) : Option R :=
  (match decide (x_5 < x_4) with
   | true => (if 0 ≤ x_5 then must (nth e_2 x_5.toNat) fun e29 => un_impl_Node e29 fun n30 n31 n32 n33 n34 w35 e36 f37 => l_impl_Fs_links_0 N k_1 e_2 f_3 x_4 x_5 e36 f37.noOwn.noOwn (e36.length : Int) e_6 f_7 x_8 n30 n31 n32 n33 n34 w35 e36 f37.noOwn
        (fun e38 => nx (IntKind.i64.wrap (x_5 + 1)) (e38.map (trimV 2)))
        N 0 e_9 else none)
   | false => k0 (e_9.map (trimV 2)))
noncomputable def l_impl_Fs_links_1 {R : Type} (N : Nat) (k_1 : Nat) (e_2 : List V) (f_3 : Fl) (x_4 : Int) (e_6 : List V) (f_7 : Fl) (x_8 : Int) (k0 : List V → Option R) : Nat → Int → List V → Option R
  | 0, _, _ => none
  | n + 1, x_5, e_9 => l_impl_Fs_links_1_step N k_1 e_2 f_3 x_4 e_6 f_7 x_8 (fun x_5 e_9 => l_impl_Fs_links_1 N k_1 e_2 f_3 x_4 e_6 f_7 x_8 k0 n x_5 e_9) x_5 e_9 k0
noncomputable def gb_impl_Fs_links {R : Type} (N : Nat) (e_1 : List V) (f_2 : Fl) (x_3 : Int) (k : List V → Option R) : Option R :=
  (if 0 ≤ (e_1.length : Int) ∧ (e_1.length : Int) = (e_1.length : Int) ∧ (e_1.length : Int) * 8 ≤ 140737488355328 then l_impl_Fs_links_1 N (((e_1.length : Int)).toNat) e_1 f_2.noOwn (e_1.length : Int) e_1 f_2 x_3
       (fun e39 => (match mapSome (freeze false [some ⟨[.agg [.list 7 e_1 f_2, .int .i64 x_3]], 2, 32, 0⟩, some ⟨e39, 1, 3, 0⟩] 11) ((e39.drop 0).take (((e_1.length : Int)).toNat)) with
     | some e40 => guardB (decide (0 + ((e_1.length : Int)).toNat ≤ e39.length)) (guardB (e40.all V.plain) (k e40))
     | none => none))
       N 0 (List.replicate (((e_1.length : Int)).toNat) (.int .i64 0)) else none)
noncomputable def g_impl_Fs_links := @sealed _ @gb_impl_Fs_links
theorem g_impl_Fs_links_eq : @g_impl_Fs_links = @gb_impl_Fs_links := @sealed_eq _ @gb_impl_Fs_links

/-! ### loop.example/g00756/impl.within -/
noncomputable def gb_impl_within {R : Type} (N : Nat) (x_1 x_2 x_3 : Int) (k : Bool → Option R) : Option R :=
  (match decide (x_1 ≥ x_2) with
   | true => k (decide (x_1 ≤ x_3))
   | false => k false)
noncomputable def g_impl_within := @sealed _ @gb_impl_within
theorem g_impl_within_eq : @g_impl_within = @gb_impl_within := @sealed_eq _ @gb_impl_within

/-! ### loop.example/g00756/impl.isRoom -/
noncomputable def gb_impl_isRoom {R : Type} (N : Nat) (x_1 : Int) (k : Bool → Option R) : Option R :=
  g_impl_within N x_1 0 1000 fun b1 => k b1
noncomputable def g_impl_isRoom := @sealed _ @gb_impl_isRoom
theorem g_impl_isRoom_eq : @g_impl_isRoom = @gb_impl_isRoom := @sealed_eq _ @gb_impl_isRoom

/-! ### loop.example/g00756/impl.isId -/
noncomputable def gb_impl_isId {R : Type} (N : Nat) (x_1 : Int) (k : Bool → Option R) : Option R :=
  g_impl_within N x_1 0 99 fun b1 => k b1
noncomputable def g_impl_isId := @sealed _ @gb_impl_isId
theorem g_impl_isId_eq : @g_impl_isId = @gb_impl_isId := @sealed_eq _ @gb_impl_isId

/-! ### internal/bytealg.IndexByteString -/
noncomputable def gb_byg_IndexByteString {R : Type} (N : Nat) (w_1 : ByteArray) (x_2 : Int) (k : Int → Option R) : Option R :=
  k (Go.Lib.indexByte w_1.data.toList x_2.toNat.toUInt8)
noncomputable def g_byg_IndexByteString := @sealed _ @gb_byg_IndexByteString
theorem g_byg_IndexByteString_eq : @g_byg_IndexByteString = @gb_byg_IndexByteString := @sealed_eq _ @gb_byg_IndexByteString

/-! ### internal/stringslite.IndexByte -/
noncomputable def gb_sli_IndexByte {R : Type} (N : Nat) (w_1 : ByteArray) (x_2 : Int) (k : Int → Option R) : Option R :=
  g_byg_IndexByteString N w_1 x_2 fun x1 => k x1
noncomputable def g_sli_IndexByte := @sealed _ @gb_sli_IndexByte
theorem g_sli_IndexByte_eq : @g_sli_IndexByte = @gb_sli_IndexByte := @sealed_eq _ @gb_sli_IndexByte

/-! ### internal/stringslite.Index -/
noncomputable def gb_sli_Index {R : Type} (N : Nat) (w_1 w_2 : ByteArray) (k : Int → Option R) : Option R :=
  (match ((w_2.size : Int) == 0) with
   | true => k 0
   | false => (match (w_2.toList == w_1.toList) with
    | true => k 0
    | false => (match ((w_2.size : Int) == 1) with
     | true => byteAt w_2 0 fun n1 => g_sli_IndexByte N w_1 n1 fun x2 => k x2
     | false => (match decide ((w_2.size : Int) ≥ (w_1.size : Int)) with
      | true => k (-1)
      | false => none))))
noncomputable def g_sli_Index := @sealed _ @gb_sli_Index
theorem g_sli_Index_eq : @g_sli_Index = @gb_sli_Index := @sealed_eq _ @gb_sli_Index

/-! ### strings.Index -/
noncomputable def gb_strings_Index {R : Type} (N : Nat) (w_1 w_2 : ByteArray) (k : Int → Option R) : Option R :=
  g_sli_Index N w_1 w_2 fun x1 => k x1
noncomputable def g_strings_Index := @sealed _ @gb_strings_Index
theorem g_strings_Index_eq : @g_strings_Index = @gb_strings_Index := @sealed_eq _ @gb_strings_Index

/-! ### internal/bytealg.CountString -/
noncomputable def gb_byg_CountString {R : Type} (N : Nat) (w_1 : ByteArray) (x_2 : Int) (k : Int → Option R) : Option R :=
  k ((Go.Lib.countByte w_1.data.toList x_2.toNat.toUInt8 : Nat) : Int)
noncomputable def g_byg_CountString := @sealed _ @gb_byg_CountString
theorem g_byg_CountString_eq : @g_byg_CountString = @gb_byg_CountString := @sealed_eq _ @gb_byg_CountString

/-! ### strings.Count -/
noncomputable def l_strings_Count_0_step {R : Type} (N : Nat) (w_2 : ByteArray) (nx : ByteArray → Int → Option R) (w_1 : ByteArray) (x_3 : Int) (k0 : Int → Option R) : Option R :=
  g_strings_Index N w_1 w_2 fun x4 => (match (x4 == (-1)) with
   | true => k0 x_3
   | false => (if (0 : Int) ≤ IntKind.i64.wrap (x4 + (w_2.size : Int)) ∧ IntKind.i64.wrap (x4 + (w_2.size : Int)) ≤ (w_1.size : Int) then nx (ByteArray.extract w_1 ((IntKind.i64.wrap (x4 + (w_2.size : Int))).toNat) w_1.size) (IntKind.i64.wrap (x_3 + 1)) else none))
noncomputable def l_strings_Count_0 {R : Type} (N : Nat) (w_2 : ByteArray) (k0 : Int → Option R) : Nat → ByteArray → Int → Option R
  | 0, _, _ => none
  | n + 1, w_1, x_3 => l_strings_Count_0_step N w_2 (fun w_1 x_3 => l_strings_Count_0 N w_2 k0 n w_1 x_3) w_1 x_3 k0
noncomputable def gb_strings_Count {R : Type} (N : Nat) (w_1 w_2 : ByteArray) (k : Int → Option R) : Option R :=
  (match ((w_2.size : Int) == 0) with
   | true => none
   | false => (match ((w_2.size : Int) == 1) with
    | true => byteAt w_2 0 fun n1 => g_byg_CountString N w_1 n1 fun x2 => k x2
    | false => l_strings_Count_0 N w_2
        (fun x5 => k x5)
        N w_1 0))
noncomputable def g_strings_Count := @sealed _ @gb_strings_Count
theorem g_strings_Count_eq : @g_strings_Count = @gb_strings_Count := @sealed_eq _ @gb_strings_Count

/-! ### strings.genSplit -/
noncomputable def l_strings_genSplit_0_step {R : Type} (N : Nat) (w_2 : ByteArray) (x_3 x_4 : Int) (k_5 : Nat) (nx : ByteArray → Int → List V → Option R) (w_1 : ByteArray) (x_6 : Int) (e_7 : List V) (k0 : ByteArray → Int → List V → Option R) : Option R :=
  (match decide (x_6 < x_4) with
   | true => g_strings_Index N w_1 w_2 fun x5 => (match decide (x5 < 0) with
    | true => k0 w_1 x_6 e_7
    | false => (if (0 : Int) ≤ IntKind.i64.wrap (x5 + x_3) ∧ IntKind.i64.wrap (x5 + x_3) ≤ (w_1.size : Int) then (if (0 : Int) ≤ x_6 ∧ x_6 < k_5 then (match nth e_7 (0 + x_6.toNat) with
       | some e6 => (match putCells e6 0 [.str (ByteArray.extract w_1 0 ((IntKind.i64.wrap (x5 + x_3)).toNat))] with
        | some e7 => (if (0 : Int) ≤ IntKind.i64.wrap (x5 + (w_2.size : Int)) ∧ IntKind.i64.wrap (x5 + (w_2.size : Int)) ≤ (w_1.size : Int) then nx (ByteArray.extract w_1 ((IntKind.i64.wrap (x5 + (w_2.size : Int))).toNat) w_1.size) (IntKind.i64.wrap (x_6 + 1)) (setAt e_7 (0 + x_6.toNat) e7) else none)
        | none => none)
       | none => none) else none) else none))
   | false => k0 w_1 x_6 e_7)
noncomputable def l_strings_genSplit_0 {R : Type} (N : Nat) (w_2 : ByteArray) (x_3 x_4 : Int) (k_5 : Nat) (k0 : ByteArray → Int → List V → Option R) : Nat → ByteArray → Int → List V → Option R
  | 0, _, _, _ => none
  | n + 1, w_1, x_6, e_7 => l_strings_genSplit_0_step N w_2 x_3 x_4 k_5 (fun w_1 x_6 e_7 => l_strings_genSplit_0 N w_2 x_3 x_4 k_5 k0 n w_1 x_6 e_7) w_1 x_6 e_7 k0
noncomputable def gb_strings_genSplit {R : Type} (N : Nat) (w_1 w_2 : ByteArray) (x_3 x_4 : Int) (k0 : List V → Option R) (k1 : Nat → List V → Option R) : Option R :=
  (match (x_4 == 0) with
   | true => k0 []
   | false => (match (w_2.toList == (ByteArray.mk #[]).toList) with
    | true => none
    | false => (match decide (x_4 < 0) with
     | true => g_strings_Count N w_1 w_2 fun x1 => (if 0 ≤ (if IntKind.i64.wrap ((w_1.size : Int) + 1) < IntKind.i64.wrap (x1 + 1) then IntKind.i64.wrap ((w_1.size : Int) + 1) else IntKind.i64.wrap (x1 + 1)) ∧ (if IntKind.i64.wrap ((w_1.size : Int) + 1) < IntKind.i64.wrap (x1 + 1) then IntKind.i64.wrap ((w_1.size : Int) + 1) else IntKind.i64.wrap (x1 + 1)) = (if IntKind.i64.wrap ((w_1.size : Int) + 1) < IntKind.i64.wrap (x1 + 1) then IntKind.i64.wrap ((w_1.size : Int) + 1) else IntKind.i64.wrap (x1 + 1)) ∧ (if IntKind.i64.wrap ((w_1.size : Int) + 1) < IntKind.i64.wrap (x1 + 1) then IntKind.i64.wrap ((w_1.size : Int) + 1) else IntKind.i64.wrap (x1 + 1)) * 16 ≤ 140737488355328 then l_strings_genSplit_0 N w_2 x_3 (IntKind.i64.wrap ((if IntKind.i64.wrap ((w_1.size : Int) + 1) < IntKind.i64.wrap (x1 + 1) then IntKind.i64.wrap ((w_1.size : Int) + 1) else IntKind.i64.wrap (x1 + 1)) - 1)) (((if IntKind.i64.wrap ((w_1.size : Int) + 1) < IntKind.i64.wrap (x1 + 1) then IntKind.i64.wrap ((w_1.size : Int) + 1) else IntKind.i64.wrap (x1 + 1))).toNat)
          (fun w8 x9 e10 => (if (0 : Int) ≤ x9 ∧ x9 < ((if IntKind.i64.wrap ((w_1.size : Int) + 1) < IntKind.i64.wrap (x1 + 1) then IntKind.i64.wrap ((w_1.size : Int) + 1) else IntKind.i64.wrap (x1 + 1))).toNat then (match nth e10 (0 + x9.toNat) with
         | some e11 => (match putCells e11 0 [.str w8] with
          | some e12 => (if (0 : Int) ≤ IntKind.i64.wrap (x9 + 1) ∧ IntKind.i64.wrap (x9 + 1) ≤ (((if IntKind.i64.wrap ((w_1.size : Int) + 1) < IntKind.i64.wrap (x1 + 1) then IntKind.i64.wrap ((w_1.size : Int) + 1) else IntKind.i64.wrap (x1 + 1))).toNat : Int) then guardB (cellsNoRef (setAt e10 (0 + x9.toNat) e12) && true) (k1 ((IntKind.i64.wrap (x9 + 1)).toNat) (setAt e10 (0 + x9.toNat) e12)) else none)
          | none => none)
         | none => none) else none))
          N w_1 0 (List.replicate (((if IntKind.i64.wrap ((w_1.size : Int) + 1) < IntKind.i64.wrap (x1 + 1) then IntKind.i64.wrap ((w_1.size : Int) + 1) else IntKind.i64.wrap (x1 + 1))).toNat) (.str (ByteArray.mk #[]))) else none)
     | false => (if 0 ≤ (if IntKind.i64.wrap ((w_1.size : Int) + 1) < x_4 then IntKind.i64.wrap ((w_1.size : Int) + 1) else x_4) ∧ (if IntKind.i64.wrap ((w_1.size : Int) + 1) < x_4 then IntKind.i64.wrap ((w_1.size : Int) + 1) else x_4) = (if IntKind.i64.wrap ((w_1.size : Int) + 1) < x_4 then IntKind.i64.wrap ((w_1.size : Int) + 1) else x_4) ∧ (if IntKind.i64.wrap ((w_1.size : Int) + 1) < x_4 then IntKind.i64.wrap ((w_1.size : Int) + 1) else x_4) * 16 ≤ 140737488355328 then l_strings_genSplit_0 N w_2 x_3 (IntKind.i64.wrap ((if IntKind.i64.wrap ((w_1.size : Int) + 1) < x_4 then IntKind.i64.wrap ((w_1.size : Int) + 1) else x_4) - 1)) (((if IntKind.i64.wrap ((w_1.size : Int) + 1) < x_4 then IntKind.i64.wrap ((w_1.size : Int) + 1) else x_4)).toNat)
          (fun w13 x14 e15 => (if (0 : Int) ≤ x14 ∧ x14 < ((if IntKind.i64.wrap ((w_1.size : Int) + 1) < x_4 then IntKind.i64.wrap ((w_1.size : Int) + 1) else x_4)).toNat then (match nth e15 (0 + x14.toNat) with
         | some e16 => (match putCells e16 0 [.str w13] with
          | some e17 => (if (0 : Int) ≤ IntKind.i64.wrap (x14 + 1) ∧ IntKind.i64.wrap (x14 + 1) ≤ (((if IntKind.i64.wrap ((w_1.size : Int) + 1) < x_4 then IntKind.i64.wrap ((w_1.size : Int) + 1) else x_4)).toNat : Int) then guardB (cellsNoRef (setAt e15 (0 + x14.toNat) e17) && true) (k1 ((IntKind.i64.wrap (x14 + 1)).toNat) (setAt e15 (0 + x14.toNat) e17)) else none)
          | none => none)
         | none => none) else none))
          N w_1 0 (List.replicate (((if IntKind.i64.wrap ((w_1.size : Int) + 1) < x_4 then IntKind.i64.wrap ((w_1.size : Int) + 1) else x_4)).toNat) (.str (ByteArray.mk #[]))) else none))))
noncomputable def g_strings_genSplit := @sealed _ @gb_strings_genSplit
theorem g_strings_genSplit_eq : @g_strings_genSplit = @gb_strings_genSplit := @sealed_eq _ @gb_strings_genSplit

/-! ### strings.Split -/
noncomputable def gb_strings_Split {R : Type} (N : Nat) (w_1 w_2 : ByteArray) (k0 : List V → Option R) (k1 : Nat → List V → Option R) : Option R :=
  g_strings_genSplit N w_1 w_2 0 (-1)
      (fun e1 => k0 e1)
      (fun k2 e3 => guardB (cellsNoRef e3 && true) (k1 k2 e3))
noncomputable def g_strings_Split := @sealed _ @gb_strings_Split
theorem g_strings_Split_eq : @g_strings_Split = @gb_strings_Split := @sealed_eq _ @gb_strings_Split

/-! ### loop.example/g00756/impl.partsOf$1 -/
noncomputable def gb_impl_partsOf_c1 {R : Type} (N : Nat) (w_1 : ByteArray) (k : Bool → Option R) : Option R :=
  k (w_1.toList == (ByteArray.mk #[]).toList)
noncomputable def g_impl_partsOf_c1 := @sealed _ @gb_impl_partsOf_c1
theorem g_impl_partsOf_c1_eq : @g_impl_partsOf_c1 = @gb_impl_partsOf_c1 := @sealed_eq _ @gb_impl_partsOf_c1

/-! ### slices.IndexFunc[[]string,string] -/
noncomputable def l_slIFp_0_step {R : Type} (N : Nat) (e_1 : List V) (f_2 : Fl) (x_3 : Int) (nx : Int → Option R) (x_4 : Int) (k0 : Int → Option R) (k1 : Unit → Option R) : Option R :=
  (match decide (x_4 < x_3) with
   | true => (if 0 ≤ x_4 then must (nth e_1 x_4.toNat) fun e4 => asStr e4 fun w5 => g_impl_partsOf_c1 N w5 fun b6 => (match b6 with
     | true => k0 x_4
     | false => nx (IntKind.i64.wrap (x_4 + 1))) else none)
   | false => k1 ())
noncomputable def l_slIFp_0 {R : Type} (N : Nat) (e_1 : List V) (f_2 : Fl) (x_3 : Int) (k0 : Int → Option R) (k1 : Unit → Option R) : Nat → Int → Option R
  | 0, _ => none
  | n + 1, x_4 => l_slIFp_0_step N e_1 f_2 x_3 (fun x_4 => l_slIFp_0 N e_1 f_2 x_3 k0 k1 n x_4) x_4 k0 k1
noncomputable def gb_slIFp {R : Type} (N : Nat) (e_1 : List V) (f_2 : Fl) (k : Int → Option R) : Option R :=
  l_slIFp_0 N e_1 f_2 (e_1.length : Int)
      (fun x7 => k x7)
      (fun (_ : Unit) => k (-1))
      N 0
noncomputable def g_slIFp := @sealed _ @gb_slIFp
theorem g_slIFp_eq : @g_slIFp = @gb_slIFp := @sealed_eq _ @gb_slIFp

/-! ### slices.DeleteFunc[[]string,string] -/
noncomputable def l_slDFp_0_step {R : Type} (N : Nat) (k_1 : Nat) (nx : Int → Int → List V → Option R) (x_2 x_3 : Int) (e_4 : List V) (k0 : Int → List V → Option R) : Option R :=
  (match decide (x_3 < (k_1 : Int)) with
   | true => (if (0 : Int) ≤ x_3 ∧ x_3 < k_1 then (match nth e_4 (0 + x_3.toNat) with
     | some e10 => asCons (e10.cells.drop 0) fun c11 l12 => asStr c11 fun w13 => g_impl_partsOf_c1 N w13 fun b14 => (match (!b14) with
      | true => (if (0 : Int) ≤ x_2 ∧ x_2 < k_1 then (match nth e_4 (0 + x_2.toNat) with
        | some e15 => (match putCells e15 0 [.str w13] with
         | some e16 => nx (IntKind.i64.wrap (x_2 + 1)) (IntKind.i64.wrap (x_3 + 1)) (setAt e_4 (0 + x_2.toNat) e16)
         | none => none)
        | none => none) else none)
      | false => nx x_2 (IntKind.i64.wrap (x_3 + 1)) e_4)
     | none => none) else none)
   | false => k0 x_2 e_4)
noncomputable def l_slDFp_0 {R : Type} (N : Nat) (k_1 : Nat) (k0 : Int → List V → Option R) : Nat → Int → Int → List V → Option R
  | 0, _, _, _ => none
  | n + 1, x_2, x_3, e_4 => l_slDFp_0_step N k_1 (fun x_2 x_3 e_4 => l_slDFp_0 N k_1 k0 n x_2 x_3 e_4) x_2 x_3 e_4 k0
noncomputable def gb_slDFp {R : Type} (N : Nat) (k_1 : Nat) (e_2 : List V) (k : Nat → List V → Option R) : Option R :=
  (match mapSome (freeze true [some ⟨e_2, 1, 9, 0⟩] 11) ((e_2.drop 0).take k_1) with
   | some e1 => guardB (decide (0 + k_1 ≤ e_2.length)) (g_slIFp N (e1.map V.lent) .bor fun x2 => (match (x2 == (-1)) with
     | true => guardB (cellsNoRef e_2 && true) (k k_1 e_2)
     | false => l_slDFp_0 N k_1
         (fun x17 e18 => (if (0 : Int) ≤ x17 ∧ x17 ≤ (k_1 : Int) then guardB (decide ((0 + (x17 : Int).toNat) + (k_1 - (x17 : Int).toNat) ≤ e18.length)) ((if (0 : Int) ≤ x17 ∧ x17 ≤ (k_1 : Int) then guardB (cellsNoRef (fillZ e18 (0 + (x17 : Int).toNat) (k_1 - (x17 : Int).toNat) (.str (ByteArray.mk #[]))) && true) (k ((x17 : Int).toNat) (fillZ e18 (0 + (x17 : Int).toNat) (k_1 - (x17 : Int).toNat) (.str (ByteArray.mk #[])))) else none)) else none))
         N x2 (IntKind.i64.wrap (x2 + 1)) e_2))
   | none => none)
noncomputable def g_slDFp := @sealed _ @gb_slDFp
theorem g_slDFp_eq : @g_slDFp = @gb_slDFp := @sealed_eq _ @gb_slDFp

/-! ### loop.example/g00756/impl.partsOf -/
noncomputable def gb_impl_partsOf {R : Type} (N : Nat) (w_1 : ByteArray) (k : List V → Option R) : Option R :=
  g_strings_Split N w_1 (ByteArray.mk #[47])
      (fun e1 => none)
      (fun k2 e3 => guardB (cellsNoRef e3 && true) (g_slDFp N k2 e3 fun k4 e5 => (match mapSome (freeze false [some ⟨e5, 1, 9, 0⟩] 11) ((e5.drop 0).take k4) with
     | some e6 => guardB (decide (0 + k4 ≤ e5.length)) (guardB (e6.all V.plain) (k e6))
     | none => none)))
noncomputable def g_impl_partsOf := @sealed _ @gb_impl_partsOf
theorem g_impl_partsOf_eq : @g_impl_partsOf = @gb_impl_partsOf := @sealed_eq _ @gb_impl_partsOf

/-! ### loop.example/g00756/impl.isNameByte -/
noncomputable def gb_impl_isNameByte {R : Type} (N : Nat) (x_1 : Int) (k : Bool → Option R) : Option R :=
  (match decide (x_1 ≥ 97) with
   | true => (match decide (x_1 ≤ 122) with
    | true => k true
    | false => (match decide (x_1 ≥ 48) with
     | true => (match decide (x_1 ≤ 57) with
      | true => k true
      | false => (match (x_1 == 46) with
       | true => k true
       | false => (match (x_1 == 95) with
        | true => k true
        | false => k (x_1 == 45))))
     | false => (match (x_1 == 46) with
      | true => k true
      | false => (match (x_1 == 95) with
       | true => k true
       | false => k (x_1 == 45)))))
   | false => (match decide (x_1 ≥ 48) with
    | true => (match decide (x_1 ≤ 57) with
     | true => k true
     | false => (match (x_1 == 46) with
      | true => k true
      | false => (match (x_1 == 95) with
       | true => k true
       | false => k (x_1 == 45))))
    | false => (match (x_1 == 46) with
     | true => k true
     | false => (match (x_1 == 95) with
      | true => k true
      | false => k (x_1 == 45)))))
noncomputable def g_impl_isNameByte := @sealed _ @gb_impl_isNameByte
theorem g_impl_isNameByte_eq : @g_impl_isNameByte = @gb_impl_isNameByte := @sealed_eq _ @gb_impl_isNameByte

/-! ### loop.example/g00756/impl.isPart$1 -/
noncomputable def gb_impl_isPart_c1 {R : Type} (N : Nat) (x_1 : Int) (k : Bool → Option R) : Option R :=
  g_impl_isNameByte N x_1 fun b1 => k (!b1)
noncomputable def g_impl_isPart_c1 := @sealed _ @gb_impl_isPart_c1
theorem g_impl_isPart_c1_eq : @g_impl_isPart_c1 = @gb_impl_isPart_c1 := @sealed_eq _ @gb_impl_isPart_c1

/-! ### slices.IndexFunc[[]byte,byte] -/
noncomputable def l_slIFb_0_step {R : Type} (N : Nat) (e_1 : List V) (f_2 : Fl) (x_3 : Int) (nx : Int → Option R) (x_4 : Int) (k0 : Int → Option R) (k1 : Unit → Option R) : Option R :=
  (match decide (x_4 < x_3) with
   | true => (if 0 ≤ x_4 then must (nth e_1 x_4.toNat) fun e4 => asInt .u8 e4 fun n5 => g_impl_isPart_c1 N n5 fun b6 => (match b6 with
     | true => k0 x_4
     | false => nx (IntKind.i64.wrap (x_4 + 1))) else none)
   | false => k1 ())
noncomputable def l_slIFb_0 {R : Type} (N : Nat) (e_1 : List V) (f_2 : Fl) (x_3 : Int) (k0 : Int → Option R) (k1 : Unit → Option R) : Nat → Int → Option R
  | 0, _ => none
  | n + 1, x_4 => l_slIFb_0_step N e_1 f_2 x_3 (fun x_4 => l_slIFb_0 N e_1 f_2 x_3 k0 k1 n x_4) x_4 k0 k1
noncomputable def gb_slIFb {R : Type} (N : Nat) (e_1 : List V) (f_2 : Fl) (k : Int → Option R) : Option R :=
  l_slIFb_0 N e_1 f_2 (e_1.length : Int)
      (fun x7 => k x7)
      (fun (_ : Unit) => k (-1))
      N 0
noncomputable def g_slIFb := @sealed _ @gb_slIFb
theorem g_slIFb_eq : @g_slIFb = @gb_slIFb := @sealed_eq _ @gb_slIFb

/-! ### slices.ContainsFunc[[]byte,byte] -/
noncomputable def gb_slCFb {R : Type} (N : Nat) (e_1 : List V) (f_2 : Fl) (k : Bool → Option R) : Option R :=
  g_slIFb N e_1 f_2.noOwn.noOwn fun x1 => k (decide (x1 ≥ 0))
noncomputable def g_slCFb := @sealed _ @gb_slCFb
theorem g_slCFb_eq : @g_slCFb = @gb_slCFb := @sealed_eq _ @gb_slCFb

/-! ### loop.example/g00756/impl.isPart -/
noncomputable def gb_impl_isPart {R : Type} (N : Nat) (w_1 : ByteArray) (k : Bool → Option R) : Option R :=
  g_impl_within N (w_1.size : Int) 1 8 fun b1 => (match b1 with
   | true => g_slCFb N (bytesV w_1) .sh fun b2 => k (!b2)
   | false => k false)
noncomputable def g_impl_isPart := @sealed _ @gb_impl_isPart
theorem g_impl_isPart_eq : @g_impl_isPart = @gb_impl_isPart := @sealed_eq _ @gb_impl_isPart

/-! ### loop.example/g00756/impl.isLong$1 -/
noncomputable def gb_impl_isLong_c1 {R : Type} (N : Nat) (w_1 : ByteArray) (k : Bool → Option R) : Option R :=
  g_impl_isPart N w_1 fun b1 => k (!b1)
noncomputable def g_impl_isLong_c1 := @sealed _ @gb_impl_isLong_c1
theorem g_impl_isLong_c1_eq : @g_impl_isLong_c1 = @gb_impl_isLong_c1 := @sealed_eq _ @gb_impl_isLong_c1

/-! ### slices.IndexFunc[[]string,string] -/
noncomputable def l_slIFl_0_step {R : Type} (N : Nat) (e_1 : List V) (f_2 : Fl) (x_3 : Int) (nx : Int → Option R) (x_4 : Int) (k0 : Int → Option R) (k1 : Unit → Option R) : Option R :=
  (match decide (x_4 < x_3) with
   | true => (if 0 ≤ x_4 then must (nth e_1 x_4.toNat) fun e4 => asStr e4 fun w5 => g_impl_isLong_c1 N w5 fun b6 => (match b6 with
     | true => k0 x_4
     | false => nx (IntKind.i64.wrap (x_4 + 1))) else none)
   | false => k1 ())
noncomputable def l_slIFl_0 {R : Type} (N : Nat) (e_1 : List V) (f_2 : Fl) (x_3 : Int) (k0 : Int → Option R) (k1 : Unit → Option R) : Nat → Int → Option R
  | 0, _ => none
  | n + 1, x_4 => l_slIFl_0_step N e_1 f_2 x_3 (fun x_4 => l_slIFl_0 N e_1 f_2 x_3 k0 k1 n x_4) x_4 k0 k1
noncomputable def gb_slIFl {R : Type} (N : Nat) (e_1 : List V) (f_2 : Fl) (k : Int → Option R) : Option R :=
  l_slIFl_0 N e_1 f_2 (e_1.length : Int)
      (fun x7 => k x7)
      (fun (_ : Unit) => k (-1))
      N 0
noncomputable def g_slIFl := @sealed _ @gb_slIFl
theorem g_slIFl_eq : @g_slIFl = @gb_slIFl := @sealed_eq _ @gb_slIFl

/-! ### slices.ContainsFunc[[]string,string] -/
noncomputable def gb_slCFl {R : Type} (N : Nat) (e_1 : List V) (f_2 : Fl) (k : Bool → Option R) : Option R :=
  g_slIFl N e_1 f_2.noOwn.noOwn fun x1 => k (decide (x1 ≥ 0))
noncomputable def g_slCFl := @sealed _ @gb_slCFl
theorem g_slCFl_eq : @g_slCFl = @gb_slCFl := @sealed_eq _ @gb_slCFl

/-! ### loop.example/g00756/impl.isLong -/
noncomputable def gb_impl_isLong {R : Type} (N : Nat) (w_1 : ByteArray) (k : Bool → Option R) : Option R :=
  (match (!(w_1.toList == (ByteArray.mk #[]).toList)) with
   | true => g_impl_partsOf N w_1 fun e1 => g_slCFl N e1 .sh fun b2 => k (!b2)
   | false => k false)
noncomputable def g_impl_isLong := @sealed _ @gb_impl_isLong
theorem g_impl_isLong_eq : @g_impl_isLong = @gb_impl_isLong := @sealed_eq _ @gb_impl_isLong

/-! ### loop.example/g00756/impl.GoodPath -/
noncomputable def gb_impl_GoodPath {R : Type} (N : Nat) (w_1 : ByteArray) (k : Bool → Option R) : Option R :=
  (match decide ((w_1.size : Int) ≤ 60) with
   | true => g_impl_isLong N w_1 fun b1 => k b1
   | false => k false)
noncomputable def g_impl_GoodPath := @sealed _ @gb_impl_GoodPath
theorem g_impl_GoodPath_eq : @g_impl_GoodPath = @gb_impl_GoodPath := @sealed_eq _ @gb_impl_GoodPath

/-! ### (loop.example/g00756/impl.Node).isFree -/
noncomputable def gb_impl_Node_isFree {R : Type} (N : Nat) (x_1 x_2 x_3 x_4 x_5 : Int) (w_6 : ByteArray) (e_7 : List V) (f_8 : Fl) (k : Bool → Option R) : Option R :=
  (match (x_1 == 0) with
   | true => (match (x_2 == 0) with
    | true => (match (x_3 == 0) with
     | true => (match (x_4 == 0) with
      | true => (match (x_5 == 0) with
       | true => (match (w_6.toList == (ByteArray.mk #[]).toList) with
        | true => k ((e_7.length : Int) == 0)
        | false => k false)
       | false => k false)
      | false => k false)
     | false => k false)
    | false => k false)
   | false => k false)
noncomputable def g_impl_Node_isFree := @sealed _ @gb_impl_Node_isFree
theorem g_impl_Node_isFree_eq : @g_impl_Node_isFree = @gb_impl_Node_isFree := @sealed_eq _ @gb_impl_Node_isFree

/-! ### loop.example/g00756/impl.isMode -/
noncomputable def gb_impl_isMode {R : Type} (N : Nat) (x_1 : Int) (k : Bool → Option R) : Option R :=
  g_impl_within N x_1 0 511 fun b1 => k b1
noncomputable def g_impl_isMode := @sealed _ @gb_impl_isMode
theorem g_impl_isMode_eq : @g_impl_isMode = @gb_impl_isMode := @sealed_eq _ @gb_impl_isMode

/-! ### loop.example/g00756/impl.isTime -/
noncomputable def gb_impl_isTime {R : Type} (N : Nat) (x_1 : Int) (k : Bool → Option R) : Option R :=
  g_impl_within N x_1 0 1000000 fun b1 => k b1
noncomputable def g_impl_isTime := @sealed _ @gb_impl_isTime
theorem g_impl_isTime_eq : @g_impl_isTime = @gb_impl_isTime := @sealed_eq _ @gb_impl_isTime

/-! ### loop.example/g00756/impl.isDots -/
noncomputable def gb_impl_isDots {R : Type} (N : Nat) (w_1 : ByteArray) (k : Bool → Option R) : Option R :=
  (match (w_1.toList == (ByteArray.mk #[46]).toList) with
   | true => k true
   | false => k (w_1.toList == (ByteArray.mk #[46, 46]).toList))
noncomputable def g_impl_isDots := @sealed _ @gb_impl_isDots
theorem g_impl_isDots_eq : @g_impl_isDots = @gb_impl_isDots := @sealed_eq _ @gb_impl_isDots

/-! ### loop.example/g00756/impl.GoodName -/
noncomputable def gb_impl_GoodName {R : Type} (N : Nat) (w_1 : ByteArray) (k : Bool → Option R) : Option R :=
  g_impl_isPart N w_1 fun b1 => (match b1 with
   | true => g_impl_isDots N w_1 fun b2 => k (!b2)
   | false => k false)
noncomputable def g_impl_GoodName := @sealed _ @gb_impl_GoodName
theorem g_impl_GoodName_eq : @g_impl_GoodName = @gb_impl_GoodName := @sealed_eq _ @gb_impl_GoodName

/-! ### (loop.example/g00756/impl.Fs).isThere -/
noncomputable def gb_impl_Fs_isThere {R : Type} (N : Nat) (e_1 : List V) (f_2 : Fl) (x_3 x_4 : Int) (k : Bool → Option R) : Option R :=
  g_impl_within N x_4 0 (IntKind.i64.wrap ((e_1.length : Int) - 1)) fun b1 => (match b1 with
   | true => (if 0 ≤ x_4 then must (nth e_1 x_4.toNat) fun e2 => un_impl_Node e2 fun n3 n4 n5 n6 n7 w8 e9 f10 => k (n3 != 0) else none)
   | false => k false)
noncomputable def g_impl_Fs_isThere := @sealed _ @gb_impl_Fs_isThere
theorem g_impl_Fs_isThere_eq : @g_impl_Fs_isThere = @gb_impl_Fs_isThere := @sealed_eq _ @gb_impl_Fs_isThere

/-! ### (loop.example/g00756/impl.Fs).isNode -/
noncomputable def l_impl_Fs_isNode_0_step {R : Type} (N : Nat) (e_1 : List V) (f_2 : Fl) (x_3 : Int) (e_5 : List V) (f_6 : Fl) (x_7 x_8 x_9 x_10 x_11 x_12 : Int) (w_13 : ByteArray) (e_14 : List V) (f_15 : Fl) (nx : Int → Option R) (x_4 : Int) (k0 : Unit → Option R) (k1 : Unit → Option R) : Option R :=
  (match decide (x_4 < x_3) with
   | true => (if 0 ≤ x_4 then must (nth e_1 x_4.toNat) fun e16 => un_impl_Entry e16 fun w17 n18 => g_impl_GoodName N w17 fun b19 => (match (!b19) with
     | true => k0 ()
     | false => (match decide (x_4 > 0) with
      | true => (if 0 ≤ IntKind.i64.wrap (x_4 - 1) then must (nth e_14 ((IntKind.i64.wrap (x_4 - 1)).toNat)) fun e20 => un_impl_Entry e20 fun w21 n22 => (match (!Op.bytesLess w21.toList w17.toList) with
        | true => k0 ()
        | false => g_impl_Fs_isThere N e_5 f_6.noOwn.noOwn.noOwn.noOwn x_7 n18 fun b23 => (match (!b23) with
         | true => k0 ()
         | false => nx (IntKind.i64.wrap (x_4 + 1)))) else none)
      | false => g_impl_Fs_isThere N e_5 f_6.noOwn.noOwn.noOwn.noOwn x_7 n18 fun b24 => (match (!b24) with
       | true => k0 ()
       | false => nx (IntKind.i64.wrap (x_4 + 1))))) else none)
   | false => k1 ())
noncomputable def l_impl_Fs_isNode_0 {R : Type} (N : Nat) (e_1 : List V) (f_2 : Fl) (x_3 : Int) (e_5 : List V) (f_6 : Fl) (x_7 x_8 x_9 x_10 x_11 x_12 : Int) (w_13 : ByteArray) (e_14 : List V) (f_15 : Fl) (k0 : Unit → Option R) (k1 : Unit → Option R) : Nat → Int → Option R
  | 0, _ => none
  | n + 1, x_4 => l_impl_Fs_isNode_0_step N e_1 f_2 x_3 e_5 f_6 x_7 x_8 x_9 x_10 x_11 x_12 w_13 e_14 f_15 (fun x_4 => l_impl_Fs_isNode_0 N e_1 f_2 x_3 e_5 f_6 x_7 x_8 x_9 x_10 x_11 x_12 w_13 e_14 f_15 k0 k1 n x_4) x_4 k0 k1
noncomputable def gb_impl_Fs_isNode {R : Type} (N : Nat) (e_1 : List V) (f_2 : Fl) (x_3 x_4 x_5 x_6 x_7 x_8 : Int) (w_9 : ByteArray) (e_10 : List V) (f_11 : Fl) (k : Bool → Option R) : Option R :=
  (match (x_4 == 0) with
   | true => g_impl_Node_isFree N x_4 x_5 x_6 x_7 x_8 w_9 e_10 f_11.noOwn.noOwn fun b1 => k b1
   | false => g_impl_isMode N x_5 fun b2 => (match (!b2) with
    | true => k false
    | false => g_impl_isId N x_6 fun b3 => (match (!b3) with
     | true => k false
     | false => g_impl_isId N x_7 fun b4 => (match (!b4) with
      | true => k false
      | false => g_impl_isTime N x_8 fun b5 => (match (!b5) with
       | true => k false
       | false => (match (x_4 != 2) with
        | true => (match decide ((e_10.length : Int) > 0) with
         | true => k false
         | false => (match (x_4 == 1) with
          | true => k (decide ((w_9.size : Int) ≤ 60))
          | false => (match (x_4 == 3) with
           | true => g_impl_GoodPath N w_9 fun b6 => k b6
           | false => (match (x_4 == 2) with
            | true => l_impl_Fs_isNode_0 N e_10 f_11.noOwn (e_10.length : Int) e_1 f_2 x_3 x_4 x_5 x_6 x_7 x_8 w_9 e_10 f_11
                (fun (_ : Unit) => k false)
                (fun (_ : Unit) => k (w_9.toList == (ByteArray.mk #[]).toList))
                N 0
            | false => k false))))
        | false => (match (x_4 == 1) with
         | true => k (decide ((w_9.size : Int) ≤ 60))
         | false => (match (x_4 == 3) with
          | true => g_impl_GoodPath N w_9 fun b25 => k b25
          | false => (match (x_4 == 2) with
           | true => l_impl_Fs_isNode_0 N e_10 f_11.noOwn (e_10.length : Int) e_1 f_2 x_3 x_4 x_5 x_6 x_7 x_8 w_9 e_10 f_11
               (fun (_ : Unit) => k false)
               (fun (_ : Unit) => k (w_9.toList == (ByteArray.mk #[]).toList))
               N 0
           | false => k false)))))))))
noncomputable def g_impl_Fs_isNode := @sealed _ @gb_impl_Fs_isNode
theorem g_impl_Fs_isNode_eq : @g_impl_Fs_isNode = @gb_impl_Fs_isNode := @sealed_eq _ @gb_impl_Fs_isNode

/-! ### (loop.example/g00756/impl.Fs).bytesIn -/
noncomputable def l_impl_Fs_bytesIn_0_step {R : Type} (N : Nat) (e_2 : List V) (f_3 : Fl) (x_4 : Int) (e_6 : List V) (f_7 : Fl) (x_8 : Int) (nx : Int → Int → Option R) (x_1 x_5 : Int) (k0 : Int → Option R) : Option R :=
  (match decide (x_5 < x_4) with
   | true => (if 0 ≤ x_5 then must (nth e_2 x_5.toNat) fun e10 => un_impl_Node e10 fun n11 n12 n13 n14 n15 w16 e17 f18 => nx (IntKind.i64.wrap (x_1 + (w16.size : Int))) (IntKind.i64.wrap (x_5 + 1)) else none)
   | false => k0 x_1)
noncomputable def l_impl_Fs_bytesIn_0 {R : Type} (N : Nat) (e_2 : List V) (f_3 : Fl) (x_4 : Int) (e_6 : List V) (f_7 : Fl) (x_8 : Int) (k0 : Int → Option R) : Nat → Int → Int → Option R
  | 0, _, _ => none
  | n + 1, x_1, x_5 => l_impl_Fs_bytesIn_0_step N e_2 f_3 x_4 e_6 f_7 x_8 (fun x_1 x_5 => l_impl_Fs_bytesIn_0 N e_2 f_3 x_4 e_6 f_7 x_8 k0 n x_1 x_5) x_1 x_5 k0
noncomputable def gb_impl_Fs_bytesIn {R : Type} (N : Nat) (e_1 : List V) (f_2 : Fl) (x_3 : Int) (k : Int → Option R) : Option R :=
  l_impl_Fs_bytesIn_0 N e_1 f_2.noOwn (e_1.length : Int) e_1 f_2 x_3
      (fun x19 => k x19)
      N 0 0
noncomputable def g_impl_Fs_bytesIn := @sealed _ @gb_impl_Fs_bytesIn
theorem g_impl_Fs_bytesIn_eq : @g_impl_Fs_bytesIn = @gb_impl_Fs_bytesIn := @sealed_eq _ @gb_impl_Fs_bytesIn

/-! ### loop.example/g00756/impl.GoodFs -/
noncomputable def l_impl_GoodFs_0_step {R : Type} (N : Nat) (e_1 : List V) (f_2 : Fl) (x_3 : Int) (e_5 : List V) (f_6 : Fl) (x_7 : Int) (nx : Int → Option R) (x_4 : Int) (k0 : Unit → Option R) (k1 : Unit → Option R) : Option R :=
  (match decide (x_4 < x_3) with
   | true => (if 0 ≤ x_4 then must (nth e_1 x_4.toNat) fun e22 => un_impl_Node e22 fun n23 n24 n25 n26 n27 w28 e29 f30 => g_impl_Fs_isNode N e_5 f_6.noOwn.noOwn x_7 n23 n24 n25 n26 n27 w28 e29 f30.noOwn.noOwn.noOwn fun b31 => (match (!b31) with
     | true => k0 ()
     | false => nx (IntKind.i64.wrap (x_4 + 1))) else none)
   | false => k1 ())
noncomputable def l_impl_GoodFs_0 {R : Type} (N : Nat) (e_1 : List V) (f_2 : Fl) (x_3 : Int) (e_5 : List V) (f_6 : Fl) (x_7 : Int) (k0 : Unit → Option R) (k1 : Unit → Option R) : Nat → Int → Option R
  | 0, _ => none
  | n + 1, x_4 => l_impl_GoodFs_0_step N e_1 f_2 x_3 e_5 f_6 x_7 (fun x_4 => l_impl_GoodFs_0 N e_1 f_2 x_3 e_5 f_6 x_7 k0 k1 n x_4) x_4 k0 k1
noncomputable def l_impl_GoodFs_1_step {R : Type} (N : Nat) (e_1 e_2 : List V) (f_3 : Fl) (x_4 : Int) (e_6 : List V) (f_7 : Fl) (x_8 : Int) (nx : Int → Option R) (x_5 : Int) (k0 : Unit → Option R) (k1 : Unit → Option R) : Option R :=
  (match decide (x_5 < x_4) with
   | true => (if 0 ≤ x_5 then must (nth e_2 x_5.toNat) fun e52 => un_impl_Node e52 fun n53 n54 n55 n56 n57 w58 e59 f60 => (match (x_5 == 0) with
     | true => (match (n53 != 0) with
      | true => (if 0 ≤ x_5 then must (nth e_1 x_5.toNat) fun e61 => asInt .i64 e61 fun n62 => g_impl_within N n62 (if 1 < x_5 then 1 else x_5) 0 fun b63 => (match (!b63) with
        | true => k0 ()
        | false => nx (IntKind.i64.wrap (x_5 + 1))) else none)
      | false => nx (IntKind.i64.wrap (x_5 + 1)))
     | false => (match (n53 == 2) with
      | true => (match (n53 != 0) with
       | true => (if 0 ≤ x_5 then must (nth e_1 x_5.toNat) fun e64 => asInt .i64 e64 fun n65 => g_impl_within N n65 (if 1 < x_5 then 1 else x_5) 1 fun b66 => (match (!b66) with
         | true => k0 ()
         | false => nx (IntKind.i64.wrap (x_5 + 1))) else none)
       | false => nx (IntKind.i64.wrap (x_5 + 1)))
      | false => (match (n53 != 0) with
       | true => (if 0 ≤ x_5 then must (nth e_1 x_5.toNat) fun e67 => asInt .i64 e67 fun n68 => g_impl_within N n68 (if 1 < x_5 then 1 else x_5) 1152921504606846976 fun b69 => (match (!b69) with
         | true => k0 ()
         | false => nx (IntKind.i64.wrap (x_5 + 1))) else none)
       | false => nx (IntKind.i64.wrap (x_5 + 1))))) else none)
   | false => k1 ())
noncomputable def l_impl_GoodFs_1 {R : Type} (N : Nat) (e_1 e_2 : List V) (f_3 : Fl) (x_4 : Int) (e_6 : List V) (f_7 : Fl) (x_8 : Int) (k0 : Unit → Option R) (k1 : Unit → Option R) : Nat → Int → Option R
  | 0, _ => none
  | n + 1, x_5 => l_impl_GoodFs_1_step N e_1 e_2 f_3 x_4 e_6 f_7 x_8 (fun x_5 => l_impl_GoodFs_1 N e_1 e_2 f_3 x_4 e_6 f_7 x_8 k0 k1 n x_5) x_5 k0 k1
noncomputable def l_impl_GoodFs_2_step {R : Type} (N : Nat) (k_1 : Nat) (x_3 : Int) (e_4 : List V) (f_5 : Fl) (x_6 : Int) (e_8 : List V) (f_9 : Fl) (x_10 : Int) (nx : List V → Int → List V → Option R) (e_2 : List V) (x_7 : Int) (e_11 : List V) (k0 : List V → List V → Option R) : Option R :=
  (match decide (x_7 < x_6) with
   | true => (if 0 ≤ x_7 then must (nth e_4 x_7.toNat) fun e101 => un_impl_Entry e101 fun w102 n103 => (if 0 ≤ n103 then must (nth e_8 n103.toNat) fun e104 => un_impl_Node e104 fun n105 n106 n107 n108 n109 w110 e111 f112 => (match (n105 == 2) with
      | true => (if (0 : Int) ≤ n103 ∧ n103 < k_1 then (match nth e_11 (0 + n103.toNat) with
        | some e113 => asCons (e113.cells.drop 0) fun c114 l115 => asBool c114 fun b116 => (match (!b116) with
         | true => (if (e_2.length + 1) * 8 ≤ 140737488355328 then nx (e_2 ++ ([.int .i64 n103] : List V)) (IntKind.i64.wrap (x_7 + 1)) (e_11.map (trimV 2)) else none)
         | false => nx e_2 (IntKind.i64.wrap (x_7 + 1)) (e_11.map (trimV 2)))
        | none => none) else none)
      | false => nx e_2 (IntKind.i64.wrap (x_7 + 1)) (e_11.map (trimV 2))) else none) else none)
   | false => k0 e_2 (e_11.map (trimV 2)))
noncomputable def l_impl_GoodFs_2 {R : Type} (N : Nat) (k_1 : Nat) (x_3 : Int) (e_4 : List V) (f_5 : Fl) (x_6 : Int) (e_8 : List V) (f_9 : Fl) (x_10 : Int) (k0 : List V → List V → Option R) : Nat → List V → Int → List V → Option R
  | 0, _, _, _ => none
  | n + 1, e_2, x_7, e_11 => l_impl_GoodFs_2_step N k_1 x_3 e_4 f_5 x_6 e_8 f_9 x_10 (fun e_2 x_7 e_11 => l_impl_GoodFs_2 N k_1 x_3 e_4 f_5 x_6 e_8 f_9 x_10 k0 n e_2 x_7 e_11) e_2 x_7 e_11 k0
noncomputable def l_impl_GoodFs_3_step {R : Type} (N : Nat) (k_1 : Nat) (e_4 : List V) (f_5 : Fl) (x_6 : Int) (nx : List V → Int → List V → Option R) (e_2 : List V) (x_3 : Int) (e_7 : List V) (k0 : List V → Option R) : Option R :=
  (match decide (x_3 < (e_2.length : Int)) with
   | true => (if 0 ≤ x_3 then must (nth e_2 x_3.toNat) fun e119 => asInt .i64 e119 fun n120 => (if (0 : Int) ≤ n120 ∧ n120 < k_1 then (match nth e_7 (0 + n120.toNat) with
      | some e121 => (match putCells e121 0 [.bool true] with
       | some e122 => (if 0 ≤ x_3 then must (nth e_2 x_3.toNat) fun e123 => asInt .i64 e123 fun n124 => (if 0 ≤ n124 then must (nth e_4 n124.toNat) fun e125 => un_impl_Node e125 fun n126 n127 n128 n129 n130 w131 e132 f133 => l_impl_GoodFs_2 N k_1 x_3 e132 f133.noOwn.noOwn (e132.length : Int) e_4 f_5 x_6
             (fun e134 e135 => nx e134 (IntKind.i64.wrap (x_3 + 1)) e135)
             N e_2 0 (setAt e_7 (0 + n120.toNat) e122) else none) else none)
       | none => none)
      | none => none) else none) else none)
   | false => k0 e_7)
noncomputable def l_impl_GoodFs_3 {R : Type} (N : Nat) (k_1 : Nat) (e_4 : List V) (f_5 : Fl) (x_6 : Int) (k0 : List V → Option R) : Nat → List V → Int → List V → Option R
  | 0, _, _, _ => none
  | n + 1, e_2, x_3, e_7 => l_impl_GoodFs_3_step N k_1 e_4 f_5 x_6 (fun e_2 x_3 e_7 => l_impl_GoodFs_3 N k_1 e_4 f_5 x_6 k0 n e_2 x_3 e_7) e_2 x_3 e_7 k0
noncomputable def l_impl_GoodFs_4_step {R : Type} (N : Nat) (k_1 : Nat) (e_2 : List V) (f_3 : Fl) (x_4 : Int) (e_6 : List V) (f_7 : Fl) (x_8 : Int) (nx : Int → List V → Option R) (x_5 : Int) (e_9 : List V) (k0 : List V → Option R) (k1 : List V → Option R) : Option R :=
  (match decide (x_5 < x_4) with
   | true => (if 0 ≤ x_5 then must (nth e_2 x_5.toNat) fun e150 => un_impl_Node e150 fun n151 n152 n153 n154 n155 w156 e157 f158 => (match (n151 == 2) with
     | true => (if (0 : Int) ≤ x_5 ∧ x_5 < k_1 then (match nth e_9 (0 + x_5.toNat) with
       | some e159 => asCons (e159.cells.drop 0) fun c160 l161 => asBool c160 fun b162 => (match (!b162) with
        | true => k0 (e_9.map (trimV 2))
        | false => nx (IntKind.i64.wrap (x_5 + 1)) (e_9.map (trimV 2)))
       | none => none) else none)
     | false => nx (IntKind.i64.wrap (x_5 + 1)) (e_9.map (trimV 2))) else none)
   | false => k1 (e_9.map (trimV 2)))
noncomputable def l_impl_GoodFs_4 {R : Type} (N : Nat) (k_1 : Nat) (e_2 : List V) (f_3 : Fl) (x_4 : Int) (e_6 : List V) (f_7 : Fl) (x_8 : Int) (k0 : List V → Option R) (k1 : List V → Option R) : Nat → Int → List V → Option R
  | 0, _, _ => none
  | n + 1, x_5, e_9 => l_impl_GoodFs_4_step N k_1 e_2 f_3 x_4 e_6 f_7 x_8 (fun x_5 e_9 => l_impl_GoodFs_4 N k_1 e_2 f_3 x_4 e_6 f_7 x_8 k0 k1 n x_5 e_9) x_5 e_9 k0 k1
noncomputable def gb_impl_GoodFs {R : Type} (N : Nat) (e_1 : List V) (f_2 : Fl) (x_3 : Int) (k : Bool → Option R) : Option R :=
  g_impl_within N (e_1.length : Int) 1 40 fun b1 => (match (!b1) with
   | true => k false
   | false => g_impl_isRoom N x_3 fun b2 => (match (!b2) with
    | true => k false
    | false => must (nth e_1 0) fun e3 => un_impl_Node e3 fun n4 n5 n6 n7 n8 w9 e10 f11 => (match (n4 != 2) with
     | true => k false
     | false => l_impl_GoodFs_0 N e_1 f_2.noOwn (e_1.length : Int) e_1 f_2 x_3
         (fun (_ : Unit) => k false)
         (fun (_ : Unit) => g_impl_Fs_bytesIn N e_1 f_2.noOwn.noOwn.noOwn.noOwn x_3 fun x32 => (match decide (x32 > x_3) with
       | true => k false
       | false => g_impl_Fs_links N e_1 f_2.noOwn.noOwn x_3 fun e33 => l_impl_GoodFs_1 N e33 e_1 f_2.noOwn (e_1.length : Int) e_1 f_2 x_3
           (fun (_ : Unit) => k false)
           (fun (_ : Unit) => (if 0 ≤ (e_1.length : Int) ∧ (e_1.length : Int) = (e_1.length : Int) ∧ (e_1.length : Int) * 1 ≤ 140737488355328 then l_impl_GoodFs_3 N (((e_1.length : Int)).toNat) e_1 f_2 x_3
             (fun e136 => l_impl_GoodFs_4 N (((e_1.length : Int)).toNat) e_1 f_2.noOwn (e_1.length : Int) e_1 f_2 x_3
              (fun e163 => k false)
              (fun e164 => k true)
              N 0 e136)
             N [.int .i64 0] 0 (List.replicate (((e_1.length : Int)).toNat) (.bool false)) else none))
           N 0))
         N 0)))
noncomputable def g_impl_GoodFs := @sealed _ @gb_impl_GoodFs
theorem g_impl_GoodFs_eq : @g_impl_GoodFs = @gb_impl_GoodFs := @sealed_eq _ @gb_impl_GoodFs

/-! ### loop.example/g00756/impl.GoodCred -/
noncomputable def gb_impl_GoodCred {R : Type} (N : Nat) (x_1 x_2 : Int) (k : Bool → Option R) : Option R :=
  g_impl_isId N x_1 fun b1 => (match b1 with
   | true => g_impl_isId N x_2 fun b2 => k b2
   | false => k false)
noncomputable def g_impl_GoodCred := @sealed _ @gb_impl_GoodCred
theorem g_impl_GoodCred_eq : @g_impl_GoodCred = @gb_impl_GoodCred := @sealed_eq _ @gb_impl_GoodCred

/-! ### loop.example/g00756/impl.isAsked -/
noncomputable def gb_impl_isAsked {R : Type} (N : Nat) (e_1 : List V) (f_2 : Fl) (x_3 x_4 x_5 : Int) (k : Bool → Option R) : Option R :=
  g_impl_GoodFs N e_1 f_2.noOwn.noOwn x_3 fun b1 => (match b1 with
   | true => g_impl_GoodCred N x_4 x_5 fun b2 => k b2
   | false => k false)
noncomputable def g_impl_isAsked := @sealed _ @gb_impl_isAsked
theorem g_impl_isAsked_eq : @g_impl_isAsked = @gb_impl_isAsked := @sealed_eq _ @gb_impl_isAsked

/-! ### loop.example/g00756/impl.isWhole -/
noncomputable def gb_impl_isWhole {R : Type} (N : Nat) (w_1 : ByteArray) (k : Bool → Option R) : Option R :=
  g_impl_GoodPath N w_1 fun b1 => (match b1 with
   | true => byteAt w_1 0 fun n2 => k (n2 == 47)
   | false => k false)
noncomputable def g_impl_isWhole := @sealed _ @gb_impl_isWhole
theorem g_impl_isWhole_eq : @g_impl_isWhole = @gb_impl_isWhole := @sealed_eq _ @gb_impl_isWhole

/-! ### internal/stringslite.HasSuffix -/
noncomputable def gb_sli_HasSuffix {R : Type} (N : Nat) (w_1 w_2 : ByteArray) (k : Bool → Option R) : Option R :=
  (match decide ((w_1.size : Int) ≥ (w_2.size : Int)) with
   | true => (if (0 : Int) ≤ IntKind.i64.wrap ((w_1.size : Int) - (w_2.size : Int)) ∧ IntKind.i64.wrap ((w_1.size : Int) - (w_2.size : Int)) ≤ (w_1.size : Int) then k ((ByteArray.extract w_1 ((IntKind.i64.wrap ((w_1.size : Int) - (w_2.size : Int))).toNat) w_1.size).toList == w_2.toList) else none)
   | false => k false)
noncomputable def g_sli_HasSuffix := @sealed _ @gb_sli_HasSuffix
theorem g_sli_HasSuffix_eq : @g_sli_HasSuffix = @gb_sli_HasSuffix := @sealed_eq _ @gb_sli_HasSuffix

/-! ### strings.HasSuffix -/
noncomputable def gb_strings_HasSuffix {R : Type} (N : Nat) (w_1 w_2 : ByteArray) (k : Bool → Option R) : Option R :=
  g_sli_HasSuffix N w_1 w_2 fun b1 => k b1
noncomputable def g_strings_HasSuffix := @sealed _ @gb_strings_HasSuffix
theorem g_strings_HasSuffix_eq : @g_strings_HasSuffix = @gb_strings_HasSuffix := @sealed_eq _ @gb_strings_HasSuffix

/-! ### (loop.example/g00756/impl.Fs).isDir -/
noncomputable def gb_impl_Fs_isDir {R : Type} (N : Nat) (e_1 : List V) (f_2 : Fl) (x_3 x_4 : Int) (k : Bool → Option R) : Option R :=
  (if 0 ≤ x_4 then must (nth e_1 x_4.toNat) fun e1 => un_impl_Node e1 fun n2 n3 n4 n5 n6 w7 e8 f9 => k (n2 == 2) else none)
noncomputable def g_impl_Fs_isDir := @sealed _ @gb_impl_Fs_isDir
theorem g_impl_Fs_isDir_eq : @g_impl_Fs_isDir = @gb_impl_Fs_isDir := @sealed_eq _ @gb_impl_Fs_isDir

/-! ### (loop.example/g00756/impl.Cred).may -/
noncomputable def gb_impl_Cred_may {R : Type} (N : Nat) (x_1 x_2 x_3 x_4 x_5 x_6 : Int) (k : Bool → Option R) : Option R :=
  (match (x_1 == 0) with
   | true => k true
   | false => (match (x_1 == x_4) with
    | true => k (IntKind.i64.wrap (BitVec.ofInt IntKind.i64.bits x_6 &&& ~~~(BitVec.ofInt IntKind.i64.bits (Int.fdiv x_3 (2 ^ (min (6 : Int).toNat 64))))).toNat == 0)
    | false => (match (x_2 == x_5) with
     | true => k (IntKind.i64.wrap (BitVec.ofInt IntKind.i64.bits x_6 &&& ~~~(BitVec.ofInt IntKind.i64.bits (IntKind.i64.wrap (BitVec.ofInt IntKind.i64.bits (Int.fdiv x_3 (2 ^ (min (3 : Int).toNat 64))) &&& BitVec.ofInt IntKind.i64.bits 7).toNat))).toNat == 0)
     | false => k (IntKind.i64.wrap (BitVec.ofInt IntKind.i64.bits x_6 &&& ~~~(BitVec.ofInt IntKind.i64.bits (IntKind.i64.wrap (BitVec.ofInt IntKind.i64.bits x_3 &&& BitVec.ofInt IntKind.i64.bits 7).toNat))).toNat == 0))))
noncomputable def g_impl_Cred_may := @sealed _ @gb_impl_Cred_may
theorem g_impl_Cred_may_eq : @g_impl_Cred_may = @gb_impl_Cred_may := @sealed_eq _ @gb_impl_Cred_may

/-! ### (loop.example/g00756/impl.Fs).mayAt -/
noncomputable def gb_impl_Fs_mayAt {R : Type} (N : Nat) (e_1 : List V) (f_2 : Fl) (x_3 x_4 x_5 x_6 x_7 : Int) (k : Bool → Option R) : Option R :=
  (if 0 ≤ x_6 then must (nth e_1 x_6.toNat) fun e1 => un_impl_Node e1 fun n2 n3 n4 n5 n6 w7 e8 f9 => g_impl_Cred_may N x_4 x_5 n3 n4 n5 x_7 fun b10 => k b10 else none)
noncomputable def g_impl_Fs_mayAt := @sealed _ @gb_impl_Fs_mayAt
theorem g_impl_Fs_mayAt_eq : @g_impl_Fs_mayAt = @gb_impl_Fs_mayAt := @sealed_eq _ @gb_impl_Fs_mayAt

/-! ### (loop.example/g00756/impl.Fs).parent -/
noncomputable def l_impl_Fs_parent_0_step {R : Type} (N : Nat) (x_1 x_2 : Int) (e_3 : List V) (f_4 : Fl) (x_5 x_6 : Int) (e_7 : List V) (f_8 : Fl) (x_9 : Int) (e_11 : List V) (f_12 : Fl) (x_13 x_14 x_15 x_16 x_17 x_18 : Int) (w_19 : ByteArray) (e_20 : List V) (f_21 : Fl) (nx : Int → Option R) (x_10 : Int) (k0 : ByteArray → Option R) (k1 : Unit → Option R) : Option R :=
  (match decide (x_10 < x_9) with
   | true => (if 0 ≤ x_10 then must (nth e_7 x_10.toNat) fun e13 => un_impl_Entry e13 fun w14 n15 => (match (n15 == x_1) with
     | true => k0 w14
     | false => nx (IntKind.i64.wrap (x_10 + 1))) else none)
   | false => k1 ())
noncomputable def l_impl_Fs_parent_0 {R : Type} (N : Nat) (x_1 x_2 : Int) (e_3 : List V) (f_4 : Fl) (x_5 x_6 : Int) (e_7 : List V) (f_8 : Fl) (x_9 : Int) (e_11 : List V) (f_12 : Fl) (x_13 x_14 x_15 x_16 x_17 x_18 : Int) (w_19 : ByteArray) (e_20 : List V) (f_21 : Fl) (k0 : ByteArray → Option R) (k1 : Unit → Option R) : Nat → Int → Option R
  | 0, _ => none
  | n + 1, x_10 => l_impl_Fs_parent_0_step N x_1 x_2 e_3 f_4 x_5 x_6 e_7 f_8 x_9 e_11 f_12 x_13 x_14 x_15 x_16 x_17 x_18 w_19 e_20 f_21 (fun x_10 => l_impl_Fs_parent_0 N x_1 x_2 e_3 f_4 x_5 x_6 e_7 f_8 x_9 e_11 f_12 x_13 x_14 x_15 x_16 x_17 x_18 w_19 e_20 f_21 k0 k1 n x_10) x_10 k0 k1
noncomputable def l_impl_Fs_parent_1_step {R : Type} (N : Nat) (x_1 : Int) (e_2 : List V) (f_3 : Fl) (x_4 : Int) (e_6 : List V) (f_7 : Fl) (x_8 : Int) (nx : Int → Option R) (x_5 : Int) (k0 : Int → ByteArray → Option R) (k1 : Unit → Option R) : Option R :=
  (match decide (x_5 < x_4) with
   | true => (if 0 ≤ x_5 then must (nth e_2 x_5.toNat) fun e17 => un_impl_Node e17 fun n18 n19 n20 n21 n22 w23 e24 f25 => l_impl_Fs_parent_0 N x_1 x_5 e_2 f_3 x_4 x_5 e24 f25.noOwn.noOwn (e24.length : Int) e_6 f_7 x_8 n18 n19 n20 n21 n22 w23 e24 f25.noOwn
        (fun w26 => k0 x_5 w26)
        (fun (_ : Unit) => nx (IntKind.i64.wrap (x_5 + 1)))
        N 0 else none)
   | false => k1 ())
noncomputable def l_impl_Fs_parent_1 {R : Type} (N : Nat) (x_1 : Int) (e_2 : List V) (f_3 : Fl) (x_4 : Int) (e_6 : List V) (f_7 : Fl) (x_8 : Int) (k0 : Int → ByteArray → Option R) (k1 : Unit → Option R) : Nat → Int → Option R
  | 0, _ => none
  | n + 1, x_5 => l_impl_Fs_parent_1_step N x_1 e_2 f_3 x_4 e_6 f_7 x_8 (fun x_5 => l_impl_Fs_parent_1 N x_1 e_2 f_3 x_4 e_6 f_7 x_8 k0 k1 n x_5) x_5 k0 k1
noncomputable def gb_impl_Fs_parent {R : Type} (N : Nat) (e_1 : List V) (f_2 : Fl) (x_3 x_4 : Int) (k : Int → ByteArray → Option R) : Option R :=
  l_impl_Fs_parent_1 N x_4 e_1 f_2.noOwn (e_1.length : Int) e_1 f_2 x_3
      (fun x27 w28 => k x27 w28)
      (fun (_ : Unit) => k 0 (ByteArray.mk #[]))
      N 0
noncomputable def g_impl_Fs_parent := @sealed _ @gb_impl_Fs_parent
theorem g_impl_Fs_parent_eq : @g_impl_Fs_parent = @gb_impl_Fs_parent := @sealed_eq _ @gb_impl_Fs_parent

/-! ### (loop.example/g00756/impl.Fs).entry -/
noncomputable def l_impl_Fs_entry_0_step {R : Type} (N : Nat) (w_1 : ByteArray) (e_2 : List V) (f_3 : Fl) (x_4 : Int) (e_6 : List V) (f_7 : Fl) (x_8 : Int) (nx : Int → Option R) (x_5 : Int) (k0 : Int → Option R) (k1 : Unit → Option R) : Option R :=
  (match decide (x_5 < x_4) with
   | true => (if 0 ≤ x_5 then must (nth e_2 x_5.toNat) fun e13 => un_impl_Entry e13 fun w14 n15 => (match (w14.toList == w_1.toList) with
     | true => k0 n15
     | false => nx (IntKind.i64.wrap (x_5 + 1))) else none)
   | false => k1 ())
noncomputable def l_impl_Fs_entry_0 {R : Type} (N : Nat) (w_1 : ByteArray) (e_2 : List V) (f_3 : Fl) (x_4 : Int) (e_6 : List V) (f_7 : Fl) (x_8 : Int) (k0 : Int → Option R) (k1 : Unit → Option R) : Nat → Int → Option R
  | 0, _ => none
  | n + 1, x_5 => l_impl_Fs_entry_0_step N w_1 e_2 f_3 x_4 e_6 f_7 x_8 (fun x_5 => l_impl_Fs_entry_0 N w_1 e_2 f_3 x_4 e_6 f_7 x_8 k0 k1 n x_5) x_5 k0 k1
noncomputable def gb_impl_Fs_entry {R : Type} (N : Nat) (e_1 : List V) (f_2 : Fl) (x_3 x_4 : Int) (w_5 : ByteArray) (k : Int → Option R) : Option R :=
  (if 0 ≤ x_4 then must (nth e_1 x_4.toNat) fun e1 => un_impl_Node e1 fun n2 n3 n4 n5 n6 w7 e8 f9 => l_impl_Fs_entry_0 N w_5 e8 f9.noOwn (e8.length : Int) e_1 f_2 x_3
       (fun x16 => k x16)
       (fun (_ : Unit) => k (-1))
       N 0 else none)
noncomputable def g_impl_Fs_entry := @sealed _ @gb_impl_Fs_entry
theorem g_impl_Fs_entry_eq : @g_impl_Fs_entry = @gb_impl_Fs_entry := @sealed_eq _ @gb_impl_Fs_entry

/-! ### slices.Grow[[]string,string] -/
noncomputable def gb_slGr {R : Type} (N : Nat) (x_1 : Int) (k : List V → Option R) : Option R :=
  (if 0 ≤ x_1 ∧ x_1 * (16 : Nat) ≤ 140737488355328 then k [] else none)
noncomputable def g_slGr := @sealed _ @gb_slGr
theorem g_slGr_eq : @g_slGr = @gb_slGr := @sealed_eq _ @gb_slGr

/-! ### slices.Concat[[]string,string] -/
noncomputable def l_slCc_0_step {R : Type} (N : Nat) (e_1 : List V) (f_2 : Fl) (e_4 : List V) (f_5 : Fl) (x_6 : Int) (nx : Int → Int → Option R) (x_3 x_7 : Int) (k0 : Int → Option R) : Option R :=
  (match decide (x_7 < x_6) with
   | true => (if 0 ≤ x_7 then must (nth e_4 x_7.toNat) fun e4 => asList 1 e4 fun e5 f6 => (match decide (IntKind.i64.wrap (x_3 + (e5.length : Int)) < 0) with
     | true => none
     | false => nx (IntKind.i64.wrap (x_3 + (e5.length : Int))) (IntKind.i64.wrap (x_7 + 1))) else none)
   | false => k0 x_3)
noncomputable def l_slCc_0 {R : Type} (N : Nat) (e_1 : List V) (f_2 : Fl) (e_4 : List V) (f_5 : Fl) (x_6 : Int) (k0 : Int → Option R) : Nat → Int → Int → Option R
  | 0, _, _ => none
  | n + 1, x_3, x_7 => l_slCc_0_step N e_1 f_2 e_4 f_5 x_6 (fun x_3 x_7 => l_slCc_0 N e_1 f_2 e_4 f_5 x_6 k0 n x_3 x_7) x_3 x_7 k0
noncomputable def l_slCc_1_step {R : Type} (N : Nat) (e_2 : List V) (f_3 : Fl) (x_4 : Int) (nx : List V → Int → Option R) (e_1 : List V) (x_5 : Int) (k0 : List V → Option R) : Option R :=
  (match decide (x_5 < x_4) with
   | true => (if 0 ≤ x_5 then must (nth e_2 x_5.toNat) fun e12 => asList 1 e12 fun e13 f14 => guardB (okAdd f14.noOwn.noOwn e13) ((if (e_1.length + (e13).length) * 16 ≤ 140737488355328 then nx (e_1 ++ (e13).map V.noOwn) (IntKind.i64.wrap (x_5 + 1)) else none)) else none)
   | false => k0 e_1)
noncomputable def l_slCc_1 {R : Type} (N : Nat) (e_2 : List V) (f_3 : Fl) (x_4 : Int) (k0 : List V → Option R) : Nat → List V → Int → Option R
  | 0, _, _ => none
  | n + 1, e_1, x_5 => l_slCc_1_step N e_2 f_3 x_4 (fun e_1 x_5 => l_slCc_1 N e_2 f_3 x_4 k0 n e_1 x_5) e_1 x_5 k0
noncomputable def gb_slCc {R : Type} (N : Nat) (e_1 : List V) (f_2 : Fl) (k : List V → Option R) : Option R :=
  l_slCc_0 N e_1 f_2 e_1 f_2.noOwn (e_1.length : Int)
      (fun x7 => g_slGr N x7 fun e8 => l_slCc_1 N e_1 f_2.noOwn (e_1.length : Int)
       (fun e15 => k e15)
       N e8 0)
      N 0 0
noncomputable def g_slCc := @sealed _ @gb_slCc
theorem g_slCc_eq : @g_slCc = @gb_slCc := @sealed_eq _ @gb_slCc

/-! ### (loop.example/g00756/impl.Fs).find -/
noncomputable def l_impl_Fs_find_0_step {R : Type} (N : Nat) (b_1 b_2 : Bool) (e_6 : List V) (f_7 : Fl) (x_8 x_9 x_10 : Int) (nx : List V → Int → Int → Option R) (e_3 : List V) (x_4 x_5 : Int) (k0 : Int → Int → Option R) (k1 : Int → Option R) : Option R :=
  (match decide ((e_3.length : Int) > 0) with
   | true => must (nth e_3 0) fun e29 => asStr e29 fun w30 => (if (0 : Int) ≤ 1 ∧ 1 ≤ (e_3.length : Int) then g_impl_Fs_isDir N e_6 f_7.noOwn.noOwn x_8 x_4 fun b31 => (match (!b31) with
     | true => k0 3 x_4
     | false => g_impl_Fs_mayAt N e_6 f_7.noOwn.noOwn x_8 x_9 x_10 x_4 1 fun b32 => (match (!b32) with
      | true => k0 4 x_4
      | false => (match (w30.toList == (ByteArray.mk #[46]).toList) with
       | true => nx ((e_3.take e_3.length).drop 1) x_4 x_5
       | false => (match (w30.toList == (ByteArray.mk #[46, 46]).toList) with
        | true => g_impl_Fs_parent N e_6 f_7.noOwn.noOwn x_8 x_4 fun x33 w34 => nx ((e_3.take e_3.length).drop 1) x33 x_5
        | false => g_impl_Fs_entry N e_6 f_7.noOwn.noOwn x_8 x_4 w30 fun x35 => (match decide (x35 < 0) with
         | true => k0 2 x_4
         | false => (if 0 ≤ x35 then must (nth e_6 x35.toNat) fun e36 => un_impl_Node e36 fun n37 n38 n39 n40 n41 w42 e43 f44 => (match (n37 == 3) with
           | true => (match decide ((((e_3.take e_3.length).drop 1).length : Int) > 0) with
            | true => (match (x_5 == 8) with
             | true => k0 5 x_4
             | false => g_impl_partsOf N w42 fun e45 => g_slCc N [.list 1 e45 .sh, .list 1 ((e_3.take e_3.length).drop 1) .sh] .sh fun e46 => byteAt w42 0 fun n47 => (match (n47 == 47) with
              | true => nx e46 0 (IntKind.i64.wrap (x_5 + 1))
              | false => nx e46 x_4 (IntKind.i64.wrap (x_5 + 1))))
            | false => (match b_1 with
             | true => (match (x_5 == 8) with
              | true => k0 5 x_4
              | false => g_impl_partsOf N w42 fun e48 => g_slCc N [.list 1 e48 .sh, .list 1 ((e_3.take e_3.length).drop 1) .sh] .sh fun e49 => byteAt w42 0 fun n50 => (match (n50 == 47) with
               | true => nx e49 0 (IntKind.i64.wrap (x_5 + 1))
               | false => nx e49 x_4 (IntKind.i64.wrap (x_5 + 1))))
             | false => (match b_2 with
              | true => (match (x_5 == 8) with
               | true => k0 5 x_4
               | false => g_impl_partsOf N w42 fun e51 => g_slCc N [.list 1 e51 .sh, .list 1 ((e_3.take e_3.length).drop 1) .sh] .sh fun e52 => byteAt w42 0 fun n53 => (match (n53 == 47) with
                | true => nx e52 0 (IntKind.i64.wrap (x_5 + 1))
                | false => nx e52 x_4 (IntKind.i64.wrap (x_5 + 1))))
              | false => nx ((e_3.take e_3.length).drop 1) x35 x_5)))
           | false => nx ((e_3.take e_3.length).drop 1) x35 x_5) else none)))))) else none)
   | false => k1 x_4)
noncomputable def l_impl_Fs_find_0 {R : Type} (N : Nat) (b_1 b_2 : Bool) (e_6 : List V) (f_7 : Fl) (x_8 x_9 x_10 : Int) (k0 : Int → Int → Option R) (k1 : Int → Option R) : Nat → List V → Int → Int → Option R
  | 0, _, _, _ => none
  | n + 1, e_3, x_4, x_5 => l_impl_Fs_find_0_step N b_1 b_2 e_6 f_7 x_8 x_9 x_10 (fun e_3 x_4 x_5 => l_impl_Fs_find_0 N b_1 b_2 e_6 f_7 x_8 x_9 x_10 k0 k1 n e_3 x_4 x_5) e_3 x_4 x_5 k0 k1
noncomputable def gb_impl_Fs_find {R : Type} (N : Nat) (e_1 : List V) (f_2 : Fl) (x_3 x_4 x_5 : Int) (w_6 : ByteArray) (b_7 : Bool) (k : Int → Int → Option R) : Option R :=
  g_impl_isWhole N w_6 fun b1 => (match (!b1) with
   | true => k 0 1
   | false => g_strings_HasSuffix N w_6 (ByteArray.mk #[47]) fun b2 => g_impl_partsOf N w_6 fun e3 => l_impl_Fs_find_0 N b_7 b2 e_1 f_2 x_3 x_4 x_5
       (fun x54 x55 => k 0 x54)
       (fun x56 => (match b2 with
     | true => g_impl_Fs_isDir N e_1 f_2.noOwn.noOwn x_3 x56 fun b57 => (match (!b57) with
      | true => k 0 3
      | false => k x56 0)
     | false => k x56 0))
       N e3 0 0)
noncomputable def g_impl_Fs_find := @sealed _ @gb_impl_Fs_find
theorem g_impl_Fs_find_eq : @g_impl_Fs_find = @gb_impl_Fs_find := @sealed_eq _ @gb_impl_Fs_find

/-! ### (loop.example/g00756/impl.Fs).file -/
noncomputable def gb_impl_Fs_file {R : Type} (N : Nat) (e_1 : List V) (f_2 : Fl) (x_3 x_4 x_5 : Int) (w_6 : ByteArray) (x_7 : Int) (k : Int → Int → Option R) : Option R :=
  g_impl_Fs_find N e_1 f_2.noOwn.noOwn x_3 x_4 x_5 w_6 true fun x1 x2 => (match (x2 != 0) with
   | true => k 0 x2
   | false => g_impl_Fs_isDir N e_1 f_2.noOwn.noOwn x_3 x1 fun b3 => (match b3 with
    | true => k 0 7
    | false => g_impl_Fs_mayAt N e_1 f_2.noOwn.noOwn x_3 x_4 x_5 x1 x_7 fun b4 => (match (!b4) with
     | true => k 0 4
     | false => k x1 0)))
noncomputable def g_impl_Fs_file := @sealed _ @gb_impl_Fs_file
theorem g_impl_Fs_file_eq : @g_impl_Fs_file = @gb_impl_Fs_file := @sealed_eq _ @gb_impl_Fs_file

/-! ### loop.example/g00756/impl.ReadFile -/
noncomputable def gb_impl_ReadFile {R : Type} (N : Nat) (e_1 : List V) (f_2 : Fl) (x_3 x_4 x_5 : Int) (w_6 : ByteArray) (k : ByteArray → Int → Bool → Option R) : Option R :=
  g_impl_isAsked N e_1 f_2.noOwn.noOwn x_3 x_4 x_5 fun b1 => (match (!b1) with
   | true => k (ByteArray.mk #[]) 0 false
   | false => g_impl_Fs_file N e_1 f_2.noOwn.noOwn x_3 x_4 x_5 w_6 4 fun x2 x3 => (match (x3 != 0) with
    | true => k (ByteArray.mk #[]) x3 true
    | false => (if 0 ≤ x2 then must (nth e_1 x2.toNat) fun e4 => un_impl_Node e4 fun n5 n6 n7 n8 n9 w10 e11 f12 => k w10 0 true else none)))
noncomputable def g_impl_ReadFile := @sealed _ @gb_impl_ReadFile
theorem g_impl_ReadFile_eq : @g_impl_ReadFile = @gb_impl_ReadFile := @sealed_eq _ @gb_impl_ReadFile

/-! ### loop.example/g00756/laws.FnExactReadFile -/
noncomputable def gb_laws_FnExactReadFile {R : Type} (N : Nat) (e_1 : List V) (f_2 : Fl) (x_3 x_4 x_5 : Int) (w_6 : ByteArray) (k : Bool → Option R) : Option R :=
  (match decide ((w_6.size : Int) > 1048576) with
   | true => k true
   | false => g_laws_szFs N e_1 f_2.noOwn.noOwn x_3 1048576 fun x1 => (match decide (x1 < 0) with
    | true => k true
    | false => g_laws_toFs N e_1 f_2.noOwn.noOwn.noOwn.noOwn x_3 fun e2 x3 => g_laws_toCred N x_4 x_5 fun x4 x5 => g_spec_ReadFile N e2 .sh x3 x4 x5 w_6 fun w6 x7 b8 => g_laws_toFs N e_1 f_2.noOwn.noOwn x_3 fun e9 x10 => g_laws_toCred N x_4 x_5 fun x11 x12 => g_impl_ReadFile N e9 .sh x10 x11 x12 w_6 fun w13 x14 b15 => (match (!(w13.toList == w6.toList)) with
     | true => k false
     | false => (match (x14 != x7) with
      | true => k false
      | false => (match (!(b15 == b8)) with
       | true => k false
       | false => g_laws_toFs N e_1 f_2.noOwn.noOwn.noOwn.noOwn x_3 fun e16 x17 => g_laws_eqFs N e9 .sh x10 e16 .sh x17 fun b18 => (match (!b18) with
        | true => k false
        | false => k true))))))
noncomputable def g_laws_FnExactReadFile := @sealed _ @gb_laws_FnExactReadFile
theorem g_laws_FnExactReadFile_eq : @g_laws_FnExactReadFile = @gb_laws_FnExactReadFile := @sealed_eq _ @gb_laws_FnExactReadFile

end Go.VM.VL
