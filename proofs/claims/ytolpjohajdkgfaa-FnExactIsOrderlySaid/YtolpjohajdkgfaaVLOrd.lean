/- The functions of the program, told plainly: what each computes, as a function of its letters; and that the machine does the same. Printed by vgen.py, a program of this session's own. -/
import Derived.Test.YtolpjohajdkgfaaVmZb
import Derived.Test.YtolpjohajdkgfaaProg
import Derived.KernelRfl
set_option linter.unusedVariables false
namespace Go.VM.VL
open Go.Proofs

def un_T104 {R : Type} (e : V) (k : Int → Int → Int → Option R) : Option R :=
  asAgg e fun cs => asCons cs fun v0 l0 => asInt .i64 v0 fun x_0 => asCons l0 fun v1 l1 => asInt .i64 v1 fun x_1 => asCons l1 fun v2 l2 => asInt .i64 v2 fun x_2 => asNil l2 (k x_0 x_1 x_2)
def un_T106 {R : Type} (e : V) (k : Int → Int → Int → Option R) : Option R :=
  asAgg e fun cs => asCons cs fun v0 l0 => asInt .i64 v0 fun x_0 => asCons l0 fun v1 l1 => asInt .i64 v1 fun x_1 => asCons l1 fun v2 l2 => asInt .i64 v2 fun x_2 => asNil l2 (k x_0 x_1 x_2)

/-! ### loop.example/g00756/laws.toIntS -/
noncomputable def l_laws_toIntS_0_step {R : Type} (N : Nat) (e_1 : List V) (f_2 : Fl) (k_3 : Nat) (nx : Int → List V → Option R) (x_4 : Int) (e_5 : List V) (k0 : List V → Option R) : Option R :=
  (match decide (x_4 < (e_1.length : Int)) with
   | true => (if 0 ≤ x_4 then must (nth e_1 x_4.toNat) fun e5 => asInt .i64 e5 fun n6 => (if 0 ≤ x_4 ∧ x_4 < k_3 then (match nth e_5 (0 + x_4.toNat) with
      | some e7 => (match putCells e7 0 [.int .i64 n6] with
       | some e8 => nx (IntKind.i64.wrap (x_4 + 1)) (setAt e_5 (0 + x_4.toNat) e8)
       | none => none)
      | none => none) else none) else none)
   | false => k0 e_5)
noncomputable def l_laws_toIntS_0 {R : Type} (N : Nat) (e_1 : List V) (f_2 : Fl) (k_3 : Nat) (k0 : List V → Option R) : Nat → Int → List V → Option R
  | 0, _, _ => none
  | n + 1, x_4, e_5 => l_laws_toIntS_0_step N e_1 f_2 k_3 (fun x_4 e_5 => l_laws_toIntS_0 N e_1 f_2 k_3 k0 n x_4 e_5) x_4 e_5 k0
noncomputable def gb_laws_toIntS {R : Type} (N : Nat) (e_1 : List V) (f_2 : Fl) (k : List V → Option R) : Option R :=
  (if 0 ≤ (e_1.length : Int) ∧ (e_1.length : Int) = (e_1.length : Int) ∧ (e_1.length : Int) * 8 ≤ 140737488355328 then l_laws_toIntS_0 N e_1 f_2 (((e_1.length : Int)).toNat)
       (fun e9 => (match mapSome (freeze false [some ⟨e9, 1, 3, 0⟩] 11) ((e9.drop 0).take (((e_1.length : Int)).toNat)) with
     | some e10 => guardB (decide (0 + ((e_1.length : Int)).toNat ≤ e9.length)) (guardB (e10.all V.plain) (k e10))
     | none => none))
       N 0 (List.replicate (((e_1.length : Int)).toNat) (.int .i64 0)) else none)
noncomputable def g_laws_toIntS {R : Type} (N : Nat) (e_1 : List V) (f_2 : Fl) (k : List V → Option R) : Option R := sealed @gb_laws_toIntS N e_1 f_2 k
theorem g_laws_toIntS_eq {R : Type} (N : Nat) (e_1 : List V) (f_2 : Fl) (k : List V → Option R) : g_laws_toIntS N e_1 f_2 k = gb_laws_toIntS N e_1 f_2 k := by unfold g_laws_toIntS; rw [sealed_eq]

/-! ### loop.example/g00756/laws.eqIntS -/
noncomputable def l_laws_eqIntS_0_step {R : Type} (N : Nat) (e_1 : List V) (f_2 : Fl) (e_3 : List V) (f_4 : Fl) (nx : Int → Option R) (x_5 : Int) (k0 : Unit → Option R) (k1 : Unit → Option R) : Option R :=
  (match decide (x_5 < (e_1.length : Int)) with
   | true => (if 0 ≤ x_5 then must (nth e_1 x_5.toNat) fun e5 => asInt .i64 e5 fun n6 => (if 0 ≤ x_5 then must (nth e_3 x_5.toNat) fun e7 => asInt .i64 e7 fun n8 => (match (n6 != n8) with
      | true => k0 ()
      | false => nx (IntKind.i64.wrap (x_5 + 1))) else none) else none)
   | false => k1 ())
noncomputable def l_laws_eqIntS_0 {R : Type} (N : Nat) (e_1 : List V) (f_2 : Fl) (e_3 : List V) (f_4 : Fl) (k0 : Unit → Option R) (k1 : Unit → Option R) : Nat → Int → Option R
  | 0, _ => none
  | n + 1, x_5 => l_laws_eqIntS_0_step N e_1 f_2 e_3 f_4 (fun x_5 => l_laws_eqIntS_0 N e_1 f_2 e_3 f_4 k0 k1 n x_5) x_5 k0 k1
noncomputable def gb_laws_eqIntS {R : Type} (N : Nat) (e_1 : List V) (f_2 : Fl) (e_3 : List V) (f_4 : Fl) (k : Bool → Option R) : Option R :=
  (match ((e_1.length : Int) != (e_3.length : Int)) with
   | true => k false
   | false => l_laws_eqIntS_0 N e_1 f_2 e_3 f_4
       (fun (_ : Unit) => k false)
       (fun (_ : Unit) => k true)
       N 0)
noncomputable def g_laws_eqIntS {R : Type} (N : Nat) (e_1 : List V) (f_2 : Fl) (e_3 : List V) (f_4 : Fl) (k : Bool → Option R) : Option R := sealed @gb_laws_eqIntS N e_1 f_2 e_3 f_4 k
theorem g_laws_eqIntS_eq {R : Type} (N : Nat) (e_1 : List V) (f_2 : Fl) (e_3 : List V) (f_4 : Fl) (k : Bool → Option R) : g_laws_eqIntS N e_1 f_2 e_3 f_4 k = gb_laws_eqIntS N e_1 f_2 e_3 f_4 k := by unfold g_laws_eqIntS; rw [sealed_eq]

/-! ### loop.example/g00756/laws.szEventS -/
noncomputable def gb_laws_szEventS {R : Type} (N : Nat) (e_1 : List V) (f_2 : Fl) (x_3 : Int) (k : Int → Option R) : Option R :=
  (match decide (IntKind.i64.wrap (x_3 - (e_1.length : Int)) < 0) with
   | true => k (-1)
   | false => k (IntKind.i64.wrap (x_3 - (e_1.length : Int))))
noncomputable def g_laws_szEventS {R : Type} (N : Nat) (e_1 : List V) (f_2 : Fl) (x_3 : Int) (k : Int → Option R) : Option R := sealed @gb_laws_szEventS N e_1 f_2 x_3 k
theorem g_laws_szEventS_eq {R : Type} (N : Nat) (e_1 : List V) (f_2 : Fl) (x_3 : Int) (k : Int → Option R) : g_laws_szEventS N e_1 f_2 x_3 k = gb_laws_szEventS N e_1 f_2 x_3 k := by unfold g_laws_szEventS; rw [sealed_eq]

/-! ### loop.example/g00756/spec.l1In -/
noncomputable def gb_spec_l1In {R : Type} (N : Nat) (x_1 : Int) (x_2 : Int) (x_3 : Int) (k : Bool → Option R) : Option R :=
  (match decide (x_1 ≥ x_2) with
   | true => k (decide (x_1 ≤ x_3))
   | false => k false)
noncomputable def g_spec_l1In {R : Type} (N : Nat) (x_1 : Int) (x_2 : Int) (x_3 : Int) (k : Bool → Option R) : Option R := sealed @gb_spec_l1In N x_1 x_2 x_3 k
theorem g_spec_l1In_eq {R : Type} (N : Nat) (x_1 : Int) (x_2 : Int) (x_3 : Int) (k : Bool → Option R) : g_spec_l1In N x_1 x_2 x_3 k = gb_spec_l1In N x_1 x_2 x_3 k := by unfold g_spec_l1In; rw [sealed_eq]

/-! ### loop.example/g00756/spec.l13Forest -/
noncomputable def l_spec_l13Forest_0_step {R : Type} (N : Nat) (e_1 : List V) (f_2 : Fl) (e_3 : List V) (f_4 : Fl) (x_5 : Int) (nx : Int → Option R) (x_6 : Int) (k0 : Unit → Option R) (k1 : Unit → Option R) : Option R :=
  (match decide (x_6 < x_5) with
   | true => (if 0 ≤ x_6 then must (nth e_3 x_6.toNat) fun e4 => asInt .i64 e4 fun n5 => g_spec_l1In N n5 (-1) (IntKind.i64.wrap (x_6 - 1)) fun b6 => (match (!b6) with
     | true => k0 ()
     | false => nx (IntKind.i64.wrap (x_6 + 1))) else none)
   | false => k1 ())
noncomputable def l_spec_l13Forest_0 {R : Type} (N : Nat) (e_1 : List V) (f_2 : Fl) (e_3 : List V) (f_4 : Fl) (x_5 : Int) (k0 : Unit → Option R) (k1 : Unit → Option R) : Nat → Int → Option R
  | 0, _ => none
  | n + 1, x_6 => l_spec_l13Forest_0_step N e_1 f_2 e_3 f_4 x_5 (fun x_6 => l_spec_l13Forest_0 N e_1 f_2 e_3 f_4 x_5 k0 k1 n x_6) x_6 k0 k1
noncomputable def gb_spec_l13Forest {R : Type} (N : Nat) (e_1 : List V) (f_2 : Fl) (k : Bool → Option R) : Option R :=
  l_spec_l13Forest_0 N e_1 f_2 e_1 f_2.noOwn (e_1.length : Int)
      (fun (_ : Unit) => k false)
      (fun (_ : Unit) => k (decide ((e_1.length : Int) ≤ 40)))
      N 0
noncomputable def g_spec_l13Forest {R : Type} (N : Nat) (e_1 : List V) (f_2 : Fl) (k : Bool → Option R) : Option R := sealed @gb_spec_l13Forest N e_1 f_2 k
theorem g_spec_l13Forest_eq {R : Type} (N : Nat) (e_1 : List V) (f_2 : Fl) (k : Bool → Option R) : g_spec_l13Forest N e_1 f_2 k = gb_spec_l13Forest N e_1 f_2 k := by unfold g_spec_l13Forest; rw [sealed_eq]

/-! ### loop.example/g00756/spec.l13At -/
noncomputable def l_spec_l13At_0_step {R : Type} (N : Nat) (x_1 : Int) (x_2 : Int) (e_4 : List V) (f_5 : Fl) (x_6 : Int) (nx : Int → Int → Option R) (x_3 : Int) (x_7 : Int) (k0 : Int → Option R) (k1 : Int → Option R) : Option R :=
  (match decide (x_7 < x_6) with
   | true => (if 0 ≤ x_7 then must (nth e_4 x_7.toNat) fun e5 => un_T104 e5 fun n6 n7 n8 => (match (n6 == x_1) with
     | true => (match (n7 == x_2) with
      | true => (match decide (x_3 ≥ 0) with
       | true => k0 x_3
       | false => nx x_7 (IntKind.i64.wrap (x_7 + 1)))
      | false => nx x_3 (IntKind.i64.wrap (x_7 + 1)))
     | false => nx x_3 (IntKind.i64.wrap (x_7 + 1))) else none)
   | false => k1 x_3)
noncomputable def l_spec_l13At_0 {R : Type} (N : Nat) (x_1 : Int) (x_2 : Int) (e_4 : List V) (f_5 : Fl) (x_6 : Int) (k0 : Int → Option R) (k1 : Int → Option R) : Nat → Int → Int → Option R
  | 0, _, _ => none
  | n + 1, x_3, x_7 => l_spec_l13At_0_step N x_1 x_2 e_4 f_5 x_6 (fun x_3 x_7 => l_spec_l13At_0 N x_1 x_2 e_4 f_5 x_6 k0 k1 n x_3 x_7) x_3 x_7 k0 k1
noncomputable def gb_spec_l13At {R : Type} (N : Nat) (e_1 : List V) (f_2 : Fl) (x_3 : Int) (x_4 : Int) (k : Int → Option R) : Option R :=
  l_spec_l13At_0 N x_3 x_4 e_1 f_2.noOwn (e_1.length : Int)
      (fun x9 => k (-1))
      (fun x10 => k x10)
      N (-1) 0
noncomputable def g_spec_l13At {R : Type} (N : Nat) (e_1 : List V) (f_2 : Fl) (x_3 : Int) (x_4 : Int) (k : Int → Option R) : Option R := sealed @gb_spec_l13At N e_1 f_2 x_3 x_4 k
theorem g_spec_l13At_eq {R : Type} (N : Nat) (e_1 : List V) (f_2 : Fl) (x_3 : Int) (x_4 : Int) (k : Int → Option R) : g_spec_l13At N e_1 f_2 x_3 x_4 k = gb_spec_l13At N e_1 f_2 x_3 x_4 k := by unfold g_spec_l13At; rw [sealed_eq]

/-! ### loop.example/g00756/spec.IsOrderly -/
noncomputable def l_spec_IsOrderly_0_step {R : Type} (N : Nat) (e_1 : List V) (f_2 : Fl) (e_3 : List V) (f_4 : Fl) (e_5 : List V) (f_6 : Fl) (x_7 : Int) (nx : Int → Option R) (x_8 : Int) (k0 : Unit → Option R) (k1 : Unit → Option R) : Option R :=
  (match decide (x_8 < x_7) with
   | true => (if 0 ≤ x_8 then must (nth e_5 x_8.toNat) fun e8 => asInt .i64 e8 fun n9 => g_spec_l13At N e_3 f_4.noOwn.noOwn 1 x_8 fun x10 => g_spec_l13At N e_3 f_4.noOwn.noOwn 2 x_8 fun x11 => (match decide (x10 < 0) with
     | true => k0 ()
     | false => (match decide (x11 < x10) with
      | true => k0 ()
      | false => (match decide (n9 ≥ 0) with
       | true => g_spec_l13At N e_3 f_4.noOwn.noOwn 1 n9 fun x12 => (match decide (x12 > x10) with
        | true => k0 ()
        | false => g_spec_l13At N e_3 f_4.noOwn.noOwn 2 n9 fun x13 => (match decide (x13 < x11) with
         | true => k0 ()
         | false => nx (IntKind.i64.wrap (x_8 + 1))))
       | false => nx (IntKind.i64.wrap (x_8 + 1))))) else none)
   | false => k1 ())
noncomputable def l_spec_IsOrderly_0 {R : Type} (N : Nat) (e_1 : List V) (f_2 : Fl) (e_3 : List V) (f_4 : Fl) (e_5 : List V) (f_6 : Fl) (x_7 : Int) (k0 : Unit → Option R) (k1 : Unit → Option R) : Nat → Int → Option R
  | 0, _ => none
  | n + 1, x_8 => l_spec_IsOrderly_0_step N e_1 f_2 e_3 f_4 e_5 f_6 x_7 (fun x_8 => l_spec_IsOrderly_0 N e_1 f_2 e_3 f_4 e_5 f_6 x_7 k0 k1 n x_8) x_8 k0 k1
noncomputable def gb_spec_IsOrderly {R : Type} (N : Nat) (e_1 : List V) (f_2 : Fl) (e_3 : List V) (f_4 : Fl) (k : Bool → Bool → Option R) : Option R :=
  g_spec_l13Forest N e_1 f_2.noOwn.noOwn fun b1 => (match (!b1) with
   | true => k false false
   | false => l_spec_IsOrderly_0 N e_1 f_2 e_3 f_4 e_1 f_2.noOwn (e_1.length : Int)
       (fun (_ : Unit) => k false true)
       (fun (_ : Unit) => k ((e_3.length : Int) == IntKind.i64.wrap (2 * (e_1.length : Int))) true)
       N 0)
noncomputable def g_spec_IsOrderly {R : Type} (N : Nat) (e_1 : List V) (f_2 : Fl) (e_3 : List V) (f_4 : Fl) (k : Bool → Bool → Option R) : Option R := sealed @gb_spec_IsOrderly N e_1 f_2 e_3 f_4 k
theorem g_spec_IsOrderly_eq {R : Type} (N : Nat) (e_1 : List V) (f_2 : Fl) (e_3 : List V) (f_4 : Fl) (k : Bool → Bool → Option R) : g_spec_IsOrderly N e_1 f_2 e_3 f_4 k = gb_spec_IsOrderly N e_1 f_2 e_3 f_4 k := by unfold g_spec_IsOrderly; rw [sealed_eq]

/-! ### loop.example/g00756/laws.toEvent -/
noncomputable def gb_laws_toEvent {R : Type} (N : Nat) (x_1 : Int) (x_2 : Int) (x_3 : Int) (k : Int → Int → Int → Option R) : Option R :=
  k x_1 x_2 x_3
noncomputable def g_laws_toEvent {R : Type} (N : Nat) (x_1 : Int) (x_2 : Int) (x_3 : Int) (k : Int → Int → Int → Option R) : Option R := sealed @gb_laws_toEvent N x_1 x_2 x_3 k
theorem g_laws_toEvent_eq {R : Type} (N : Nat) (x_1 : Int) (x_2 : Int) (x_3 : Int) (k : Int → Int → Int → Option R) : g_laws_toEvent N x_1 x_2 x_3 k = gb_laws_toEvent N x_1 x_2 x_3 k := by unfold g_laws_toEvent; rw [sealed_eq]

/-! ### loop.example/g00756/laws.toEventS -/
noncomputable def l_laws_toEventS_0_step {R : Type} (N : Nat) (e_1 : List V) (f_2 : Fl) (k_3 : Nat) (nx : Int → List V → Option R) (x_4 : Int) (e_5 : List V) (k0 : List V → Option R) : Option R :=
  (match decide (x_4 < (e_1.length : Int)) with
   | true => (if 0 ≤ x_4 then must (nth e_1 x_4.toNat) fun e10 => un_T106 e10 fun n11 n12 n13 => g_laws_toEvent N n11 n12 n13 fun x14 x15 x16 => (if 0 ≤ x_4 ∧ x_4 < k_3 then (match nth e_5 (0 + x_4.toNat) with
      | some e17 => (match putCells e17 0 [.int .i64 x14, .int .i64 x15, .int .i64 x16] with
       | some e18 => nx (IntKind.i64.wrap (x_4 + 1)) (setAt e_5 (0 + x_4.toNat) e18)
       | none => none)
      | none => none) else none) else none)
   | false => k0 e_5)
noncomputable def l_laws_toEventS_0 {R : Type} (N : Nat) (e_1 : List V) (f_2 : Fl) (k_3 : Nat) (k0 : List V → Option R) : Nat → Int → List V → Option R
  | 0, _, _ => none
  | n + 1, x_4, e_5 => l_laws_toEventS_0_step N e_1 f_2 k_3 (fun x_4 e_5 => l_laws_toEventS_0 N e_1 f_2 k_3 k0 n x_4 e_5) x_4 e_5 k0
noncomputable def gb_laws_toEventS {R : Type} (N : Nat) (e_1 : List V) (f_2 : Fl) (k : List V → Option R) : Option R :=
  (if 0 ≤ (e_1.length : Int) ∧ (e_1.length : Int) = (e_1.length : Int) ∧ (e_1.length : Int) * 24 ≤ 140737488355328 then l_laws_toEventS_0 N e_1 f_2 (((e_1.length : Int)).toNat)
       (fun e19 => (match mapSome (freeze false [some ⟨e19, 3, 104, 0⟩] 11) ((e19.drop 0).take (((e_1.length : Int)).toNat)) with
     | some e20 => guardB (decide (0 + ((e_1.length : Int)).toNat ≤ e19.length)) (guardB (e20.all V.plain) (k e20))
     | none => none))
       N 0 (List.replicate (((e_1.length : Int)).toNat) (.agg [.int .i64 0, .int .i64 0, .int .i64 0])) else none)
noncomputable def g_laws_toEventS {R : Type} (N : Nat) (e_1 : List V) (f_2 : Fl) (k : List V → Option R) : Option R := sealed @gb_laws_toEventS N e_1 f_2 k
theorem g_laws_toEventS_eq {R : Type} (N : Nat) (e_1 : List V) (f_2 : Fl) (k : List V → Option R) : g_laws_toEventS N e_1 f_2 k = gb_laws_toEventS N e_1 f_2 k := by unfold g_laws_toEventS; rw [sealed_eq]

/-! ### loop.example/g00756/impl.within -/
noncomputable def gb_impl_within {R : Type} (N : Nat) (x_1 : Int) (x_2 : Int) (x_3 : Int) (k : Bool → Option R) : Option R :=
  (match decide (x_1 ≥ x_2) with
   | true => k (decide (x_1 ≤ x_3))
   | false => k false)
noncomputable def g_impl_within {R : Type} (N : Nat) (x_1 : Int) (x_2 : Int) (x_3 : Int) (k : Bool → Option R) : Option R := sealed @gb_impl_within N x_1 x_2 x_3 k
theorem g_impl_within_eq {R : Type} (N : Nat) (x_1 : Int) (x_2 : Int) (x_3 : Int) (k : Bool → Option R) : g_impl_within N x_1 x_2 x_3 k = gb_impl_within N x_1 x_2 x_3 k := by unfold g_impl_within; rw [sealed_eq]

/-! ### loop.example/g00756/impl.GoodForest -/
noncomputable def l_impl_GoodForest_0_step {R : Type} (N : Nat) (e_1 : List V) (f_2 : Fl) (e_3 : List V) (f_4 : Fl) (x_5 : Int) (nx : Int → Option R) (x_6 : Int) (k0 : Unit → Option R) (k1 : Unit → Option R) : Option R :=
  (match decide (x_6 < x_5) with
   | true => (if 0 ≤ x_6 then must (nth e_3 x_6.toNat) fun e4 => asInt .i64 e4 fun n5 => g_impl_within N n5 (-1) (IntKind.i64.wrap (x_6 - 1)) fun b6 => (match (!b6) with
     | true => k0 ()
     | false => nx (IntKind.i64.wrap (x_6 + 1))) else none)
   | false => k1 ())
noncomputable def l_impl_GoodForest_0 {R : Type} (N : Nat) (e_1 : List V) (f_2 : Fl) (e_3 : List V) (f_4 : Fl) (x_5 : Int) (k0 : Unit → Option R) (k1 : Unit → Option R) : Nat → Int → Option R
  | 0, _ => none
  | n + 1, x_6 => l_impl_GoodForest_0_step N e_1 f_2 e_3 f_4 x_5 (fun x_6 => l_impl_GoodForest_0 N e_1 f_2 e_3 f_4 x_5 k0 k1 n x_6) x_6 k0 k1
noncomputable def gb_impl_GoodForest {R : Type} (N : Nat) (e_1 : List V) (f_2 : Fl) (k : Bool → Option R) : Option R :=
  l_impl_GoodForest_0 N e_1 f_2 e_1 f_2.noOwn (e_1.length : Int)
      (fun (_ : Unit) => k false)
      (fun (_ : Unit) => k (decide ((e_1.length : Int) ≤ 40)))
      N 0
noncomputable def g_impl_GoodForest {R : Type} (N : Nat) (e_1 : List V) (f_2 : Fl) (k : Bool → Option R) : Option R := sealed @gb_impl_GoodForest N e_1 f_2 k
theorem g_impl_GoodForest_eq {R : Type} (N : Nat) (e_1 : List V) (f_2 : Fl) (k : Bool → Option R) : g_impl_GoodForest N e_1 f_2 k = gb_impl_GoodForest N e_1 f_2 k := by unfold g_impl_GoodForest; rw [sealed_eq]

/-! ### loop.example/g00756/impl.belowIn -/
noncomputable def l_impl_belowIn_0_step {R : Type} (N : Nat) (x_1 : Int) (e_3 : List V) (f_4 : Fl) (x_5 : Int) (nx : List V → Int → Option R) (e_2 : List V) (x_6 : Int) (k0 : List V → Option R) : Option R :=
  (match decide (x_6 < x_5) with
   | true => (if 0 ≤ x_6 then must (nth e_3 x_6.toNat) fun e3 => asInt .i64 e3 fun n4 => (match (n4 == x_1) with
     | true => (if (e_2.length + 1) * 8 ≤ 140737488355328 then nx (e_2 ++ [.int .i64 x_6]) (IntKind.i64.wrap (x_6 + 1)) else none)
     | false => nx e_2 (IntKind.i64.wrap (x_6 + 1))) else none)
   | false => k0 e_2)
noncomputable def l_impl_belowIn_0 {R : Type} (N : Nat) (x_1 : Int) (e_3 : List V) (f_4 : Fl) (x_5 : Int) (k0 : List V → Option R) : Nat → List V → Int → Option R
  | 0, _, _ => none
  | n + 1, e_2, x_6 => l_impl_belowIn_0_step N x_1 e_3 f_4 x_5 (fun e_2 x_6 => l_impl_belowIn_0 N x_1 e_3 f_4 x_5 k0 n e_2 x_6) e_2 x_6 k0
noncomputable def gb_impl_belowIn {R : Type} (N : Nat) (e_1 : List V) (f_2 : Fl) (x_3 : Int) (k : List V → Option R) : Option R :=
  l_impl_belowIn_0 N x_3 e_1 f_2.noOwn (e_1.length : Int)
      (fun e5 => k e5)
      N [] 0
noncomputable def g_impl_belowIn {R : Type} (N : Nat) (e_1 : List V) (f_2 : Fl) (x_3 : Int) (k : List V → Option R) : Option R := sealed @gb_impl_belowIn N e_1 f_2 x_3 k
theorem g_impl_belowIn_eq {R : Type} (N : Nat) (e_1 : List V) (f_2 : Fl) (x_3 : Int) (k : List V → Option R) : g_impl_belowIn N e_1 f_2 x_3 k = gb_impl_belowIn N e_1 f_2 x_3 k := by unfold g_impl_belowIn; rw [sealed_eq]

/-! ### loop.example/g00756/impl.IsOrderly -/
noncomputable def l_impl_IsOrderly_0_step {R : Type} (N : Nat) (e_1 : List V) (f_2 : Fl) (e_3 : List V) (f_4 : Fl) (k_5 : Nat) (k_6 : Nat) (e_7 : List V) (f_8 : Fl) (x_9 : Int) (x_10 : Int) (e_11 : List V) (x_12 : Int) (e_14 : List V) (e_15 : List V) (x_16 : Int) (x_17 : Int) (x_18 : Int) (nx : Int → Option R) (x_13 : Int) (k0 : Unit → Option R) (k1 : Unit → Option R) : Option R :=
  (match decide (x_13 < x_12) with
   | true => (if 0 ≤ x_13 then must (nth e_11 x_13.toNat) fun e36 => asInt .i64 e36 fun n37 => (if 0 ≤ n37 ∧ n37 < k_6 then (match nth e_15 (0 + n37.toNat) with
      | some e38 => asCons (e38.cells.drop 0) fun c39 l40 => asBool c39 fun b41 => (match (!b41) with
       | true => k0 ()
       | false => nx (IntKind.i64.wrap (x_13 + 1)))
      | none => none) else none) else none)
   | false => k1 ())
noncomputable def l_impl_IsOrderly_0 {R : Type} (N : Nat) (e_1 : List V) (f_2 : Fl) (e_3 : List V) (f_4 : Fl) (k_5 : Nat) (k_6 : Nat) (e_7 : List V) (f_8 : Fl) (x_9 : Int) (x_10 : Int) (e_11 : List V) (x_12 : Int) (e_14 : List V) (e_15 : List V) (x_16 : Int) (x_17 : Int) (x_18 : Int) (k0 : Unit → Option R) (k1 : Unit → Option R) : Nat → Int → Option R
  | 0, _ => none
  | n + 1, x_13 => l_impl_IsOrderly_0_step N e_1 f_2 e_3 f_4 k_5 k_6 e_7 f_8 x_9 x_10 e_11 x_12 e_14 e_15 x_16 x_17 x_18 (fun x_13 => l_impl_IsOrderly_0 N e_1 f_2 e_3 f_4 k_5 k_6 e_7 f_8 x_9 x_10 e_11 x_12 e_14 e_15 x_16 x_17 x_18 k0 k1 n x_13) x_13 k0 k1
noncomputable def l_impl_IsOrderly_1_step {R : Type} (N : Nat) (e_1 : List V) (f_2 : Fl) (e_3 : List V) (f_4 : Fl) (k_5 : Nat) (k_6 : Nat) (e_7 : List V) (f_8 : Fl) (x_9 : Int) (nx : Int → List V → List V → Option R) (x_10 : Int) (e_11 : List V) (e_12 : List V) (k0 : List V → List V → Option R) (k1 : List V → List V → Option R) : Option R :=
  (match decide (x_10 < x_9) with
   | true => (if 0 ≤ x_10 then must (nth e_7 x_10.toNat) fun e66 => un_T104 e66 fun n67 n68 n69 => g_impl_within N n68 0 (IntKind.i64.wrap ((e_1.length : Int) - 1)) fun b70 => (match (!b70) with
     | true => k0 (e_11.map (trimV 2)) (e_12.map (trimV 2))
     | false => (if 0 ≤ n68 then must (nth e_1 n68.toNat) fun e71 => asInt .i64 e71 fun n72 => (match (n67 == 1) with
       | true => (if 0 ≤ n68 ∧ n68 < k_5 then (match nth e_11 (0 + n68.toNat) with
         | some e73 => asCons (e73.cells.drop 0) fun c74 l75 => asBool c74 fun b76 => (match (!b76) with
          | true => (match decide (n72 < 0) with
           | true => (if 0 ≤ n68 ∧ n68 < k_5 then (match nth e_11 (0 + n68.toNat) with
             | some e77 => (match putCells e77 0 [.bool true] with
              | some e78 => nx (IntKind.i64.wrap (x_10 + 1)) ((setAt e_11 (0 + n68.toNat) e78).map (trimV 2)) (e_12.map (trimV 2))
              | none => none)
             | none => none) else none)
           | false => (if 0 ≤ n72 ∧ n72 < k_5 then (match nth e_11 (0 + n72.toNat) with
             | some e79 => asCons (e79.cells.drop 0) fun c80 l81 => asBool c80 fun b82 => (match b82 with
              | true => (if 0 ≤ n68 ∧ n68 < k_5 then (match nth e_11 (0 + n68.toNat) with
                | some e83 => (match putCells e83 0 [.bool true] with
                 | some e84 => nx (IntKind.i64.wrap (x_10 + 1)) ((setAt e_11 (0 + n68.toNat) e84).map (trimV 2)) (e_12.map (trimV 2))
                 | none => none)
                | none => none) else none)
              | false => (match (n67 == 2) with
               | true => (if 0 ≤ n68 ∧ n68 < k_5 then (match nth e_11 (0 + n68.toNat) with
                 | some e85 => asCons (e85.cells.drop 0) fun c86 l87 => asBool c86 fun b88 => (match b88 with
                  | true => (if 0 ≤ n68 ∧ n68 < k_6 then (match nth e_12 (0 + n68.toNat) with
                    | some e89 => asCons (e89.cells.drop 0) fun c90 l91 => asBool c90 fun b92 => (match (!b92) with
                     | true => g_impl_belowIn N e_1 f_2.noOwn.noOwn n68 fun e93 => l_impl_IsOrderly_0 N e_1 f_2 e_3 f_4 k_5 k_6 e_7 f_8 x_9 x_10 e93 (e93.length : Int) e_11 e_12 n67 n68 n69
                         (fun (_ : Unit) => k0 (e_11.map (trimV 2)) (e_12.map (trimV 2)))
                         (fun (_ : Unit) => (if 0 ≤ n68 ∧ n68 < k_6 then (match nth e_12 (0 + n68.toNat) with
                        | some e94 => (match putCells e94 0 [.bool true] with
                         | some e95 => nx (IntKind.i64.wrap (x_10 + 1)) (e_11.map (trimV 2)) ((setAt e_12 (0 + n68.toNat) e95).map (trimV 2))
                         | none => none)
                        | none => none) else none))
                         N 0
                     | false => k0 (e_11.map (trimV 2)) (e_12.map (trimV 2)))
                    | none => none) else none)
                  | false => k0 (e_11.map (trimV 2)) (e_12.map (trimV 2)))
                 | none => none) else none)
               | false => k0 (e_11.map (trimV 2)) (e_12.map (trimV 2))))
             | none => none) else none))
          | false => (match (n67 == 2) with
           | true => (if 0 ≤ n68 ∧ n68 < k_5 then (match nth e_11 (0 + n68.toNat) with
             | some e96 => asCons (e96.cells.drop 0) fun c97 l98 => asBool c97 fun b99 => (match b99 with
              | true => (if 0 ≤ n68 ∧ n68 < k_6 then (match nth e_12 (0 + n68.toNat) with
                | some e100 => asCons (e100.cells.drop 0) fun c101 l102 => asBool c101 fun b103 => (match (!b103) with
                 | true => g_impl_belowIn N e_1 f_2.noOwn.noOwn n68 fun e104 => l_impl_IsOrderly_0 N e_1 f_2 e_3 f_4 k_5 k_6 e_7 f_8 x_9 x_10 e104 (e104.length : Int) e_11 e_12 n67 n68 n69
                     (fun (_ : Unit) => k0 (e_11.map (trimV 2)) (e_12.map (trimV 2)))
                     (fun (_ : Unit) => (if 0 ≤ n68 ∧ n68 < k_6 then (match nth e_12 (0 + n68.toNat) with
                    | some e105 => (match putCells e105 0 [.bool true] with
                     | some e106 => nx (IntKind.i64.wrap (x_10 + 1)) (e_11.map (trimV 2)) ((setAt e_12 (0 + n68.toNat) e106).map (trimV 2))
                     | none => none)
                    | none => none) else none))
                     N 0
                 | false => k0 (e_11.map (trimV 2)) (e_12.map (trimV 2)))
                | none => none) else none)
              | false => k0 (e_11.map (trimV 2)) (e_12.map (trimV 2)))
             | none => none) else none)
           | false => k0 (e_11.map (trimV 2)) (e_12.map (trimV 2))))
         | none => none) else none)
       | false => (match (n67 == 2) with
        | true => (if 0 ≤ n68 ∧ n68 < k_5 then (match nth e_11 (0 + n68.toNat) with
          | some e107 => asCons (e107.cells.drop 0) fun c108 l109 => asBool c108 fun b110 => (match b110 with
           | true => (if 0 ≤ n68 ∧ n68 < k_6 then (match nth e_12 (0 + n68.toNat) with
             | some e111 => asCons (e111.cells.drop 0) fun c112 l113 => asBool c112 fun b114 => (match (!b114) with
              | true => g_impl_belowIn N e_1 f_2.noOwn.noOwn n68 fun e115 => l_impl_IsOrderly_0 N e_1 f_2 e_3 f_4 k_5 k_6 e_7 f_8 x_9 x_10 e115 (e115.length : Int) e_11 e_12 n67 n68 n69
                  (fun (_ : Unit) => k0 (e_11.map (trimV 2)) (e_12.map (trimV 2)))
                  (fun (_ : Unit) => (if 0 ≤ n68 ∧ n68 < k_6 then (match nth e_12 (0 + n68.toNat) with
                 | some e116 => (match putCells e116 0 [.bool true] with
                  | some e117 => nx (IntKind.i64.wrap (x_10 + 1)) (e_11.map (trimV 2)) ((setAt e_12 (0 + n68.toNat) e117).map (trimV 2))
                  | none => none)
                 | none => none) else none))
                  N 0
              | false => k0 (e_11.map (trimV 2)) (e_12.map (trimV 2)))
             | none => none) else none)
           | false => k0 (e_11.map (trimV 2)) (e_12.map (trimV 2)))
          | none => none) else none)
        | false => k0 (e_11.map (trimV 2)) (e_12.map (trimV 2)))) else none)) else none)
   | false => k1 (e_11.map (trimV 2)) (e_12.map (trimV 2)))
noncomputable def l_impl_IsOrderly_1 {R : Type} (N : Nat) (e_1 : List V) (f_2 : Fl) (e_3 : List V) (f_4 : Fl) (k_5 : Nat) (k_6 : Nat) (e_7 : List V) (f_8 : Fl) (x_9 : Int) (k0 : List V → List V → Option R) (k1 : List V → List V → Option R) : Nat → Int → List V → List V → Option R
  | 0, _, _, _ => none
  | n + 1, x_10, e_11, e_12 => l_impl_IsOrderly_1_step N e_1 f_2 e_3 f_4 k_5 k_6 e_7 f_8 x_9 (fun x_10 e_11 e_12 => l_impl_IsOrderly_1 N e_1 f_2 e_3 f_4 k_5 k_6 e_7 f_8 x_9 k0 k1 n x_10 e_11 e_12) x_10 e_11 e_12 k0 k1
noncomputable def gb_impl_IsOrderly {R : Type} (N : Nat) (e_1 : List V) (f_2 : Fl) (e_3 : List V) (f_4 : Fl) (k : Bool → Bool → Option R) : Option R :=
  g_impl_GoodForest N e_1 f_2.noOwn.noOwn fun b1 => (match (!b1) with
   | true => k false false
   | false => (if 0 ≤ (e_1.length : Int) ∧ (e_1.length : Int) = (e_1.length : Int) ∧ (e_1.length : Int) * 1 ≤ 140737488355328 then (if 0 ≤ (e_1.length : Int) ∧ (e_1.length : Int) = (e_1.length : Int) ∧ (e_1.length : Int) * 1 ≤ 140737488355328 then l_impl_IsOrderly_1 N e_1 f_2 e_3 f_4 (((e_1.length : Int)).toNat) (((e_1.length : Int)).toNat) e_3 f_4.noOwn (e_3.length : Int)
         (fun e118 e119 => k false true)
         (fun e120 e121 => k ((e_3.length : Int) == IntKind.i64.wrap (2 * (e_1.length : Int))) true)
         N 0 (List.replicate (((e_1.length : Int)).toNat) (.bool false)) (List.replicate (((e_1.length : Int)).toNat) (.bool false)) else none) else none))
noncomputable def g_impl_IsOrderly {R : Type} (N : Nat) (e_1 : List V) (f_2 : Fl) (e_3 : List V) (f_4 : Fl) (k : Bool → Bool → Option R) : Option R := sealed @gb_impl_IsOrderly N e_1 f_2 e_3 f_4 k
theorem g_impl_IsOrderly_eq {R : Type} (N : Nat) (e_1 : List V) (f_2 : Fl) (e_3 : List V) (f_4 : Fl) (k : Bool → Bool → Option R) : g_impl_IsOrderly N e_1 f_2 e_3 f_4 k = gb_impl_IsOrderly N e_1 f_2 e_3 f_4 k := by unfold g_impl_IsOrderly; rw [sealed_eq]

/-! ### loop.example/g00756/laws.eqEvent -/
noncomputable def gb_laws_eqEvent {R : Type} (N : Nat) (x_1 : Int) (x_2 : Int) (x_3 : Int) (x_4 : Int) (x_5 : Int) (x_6 : Int) (k : Bool → Option R) : Option R :=
  (match (x_1 != x_4) with
   | true => k false
   | false => (match (x_2 != x_5) with
    | true => k false
    | false => (match (x_3 != x_6) with
     | true => k false
     | false => k true)))
noncomputable def g_laws_eqEvent {R : Type} (N : Nat) (x_1 : Int) (x_2 : Int) (x_3 : Int) (x_4 : Int) (x_5 : Int) (x_6 : Int) (k : Bool → Option R) : Option R := sealed @gb_laws_eqEvent N x_1 x_2 x_3 x_4 x_5 x_6 k
theorem g_laws_eqEvent_eq {R : Type} (N : Nat) (x_1 : Int) (x_2 : Int) (x_3 : Int) (x_4 : Int) (x_5 : Int) (x_6 : Int) (k : Bool → Option R) : g_laws_eqEvent N x_1 x_2 x_3 x_4 x_5 x_6 k = gb_laws_eqEvent N x_1 x_2 x_3 x_4 x_5 x_6 k := by unfold g_laws_eqEvent; rw [sealed_eq]

/-! ### loop.example/g00756/laws.eqEventS -/
noncomputable def l_laws_eqEventS_0_step {R : Type} (N : Nat) (e_1 : List V) (f_2 : Fl) (e_3 : List V) (f_4 : Fl) (nx : Int → Option R) (x_5 : Int) (k0 : Unit → Option R) (k1 : Unit → Option R) : Option R :=
  (match decide (x_5 < (e_1.length : Int)) with
   | true => (if 0 ≤ x_5 then must (nth e_1 x_5.toNat) fun e10 => un_T104 e10 fun n11 n12 n13 => (if 0 ≤ x_5 then must (nth e_3 x_5.toNat) fun e14 => un_T104 e14 fun n15 n16 n17 => g_laws_eqEvent N n11 n12 n13 n15 n16 n17 fun b18 => (match (!b18) with
      | true => k0 ()
      | false => nx (IntKind.i64.wrap (x_5 + 1))) else none) else none)
   | false => k1 ())
noncomputable def l_laws_eqEventS_0 {R : Type} (N : Nat) (e_1 : List V) (f_2 : Fl) (e_3 : List V) (f_4 : Fl) (k0 : Unit → Option R) (k1 : Unit → Option R) : Nat → Int → Option R
  | 0, _ => none
  | n + 1, x_5 => l_laws_eqEventS_0_step N e_1 f_2 e_3 f_4 (fun x_5 => l_laws_eqEventS_0 N e_1 f_2 e_3 f_4 k0 k1 n x_5) x_5 k0 k1
noncomputable def gb_laws_eqEventS {R : Type} (N : Nat) (e_1 : List V) (f_2 : Fl) (e_3 : List V) (f_4 : Fl) (k : Bool → Option R) : Option R :=
  (match ((e_1.length : Int) != (e_3.length : Int)) with
   | true => k false
   | false => l_laws_eqEventS_0 N e_1 f_2 e_3 f_4
       (fun (_ : Unit) => k false)
       (fun (_ : Unit) => k true)
       N 0)
noncomputable def g_laws_eqEventS {R : Type} (N : Nat) (e_1 : List V) (f_2 : Fl) (e_3 : List V) (f_4 : Fl) (k : Bool → Option R) : Option R := sealed @gb_laws_eqEventS N e_1 f_2 e_3 f_4 k
theorem g_laws_eqEventS_eq {R : Type} (N : Nat) (e_1 : List V) (f_2 : Fl) (e_3 : List V) (f_4 : Fl) (k : Bool → Option R) : g_laws_eqEventS N e_1 f_2 e_3 f_4 k = gb_laws_eqEventS N e_1 f_2 e_3 f_4 k := by unfold g_laws_eqEventS; rw [sealed_eq]

/-! ### loop.example/g00756/laws.FnExactIsOrderly -/
noncomputable def gb_laws_FnExactIsOrderly {R : Type} (N : Nat) (e_1 : List V) (f_2 : Fl) (e_3 : List V) (f_4 : Fl) (k : Bool → Option R) : Option R :=
  (match decide ((e_1.length : Int) > 1048576) with
   | true => k true
   | false => g_laws_szEventS N e_3 f_4.noOwn.noOwn 1048576 fun x1 => (match decide (x1 < 0) with
    | true => k true
    | false => g_laws_toIntS N e_1 f_2.noOwn.noOwn fun e2 => g_laws_toEventS N e_3 f_4.noOwn.noOwn fun e3 => g_spec_IsOrderly N e2 .sh e3 .sh fun b4 b5 => g_laws_toIntS N e_1 f_2.noOwn.noOwn fun e6 => g_laws_toEventS N e_3 f_4.noOwn.noOwn fun e7 => g_impl_IsOrderly N e6 .sh e7 .sh fun b8 b9 => (match (!(b8 == b4)) with
     | true => k false
     | false => (match (!(b9 == b5)) with
      | true => k false
      | false => g_laws_toIntS N e_1 f_2.noOwn.noOwn fun e10 => g_laws_eqIntS N e6 .sh e10 .sh fun b11 => (match (!b11) with
       | true => k false
       | false => g_laws_toEventS N e_3 f_4.noOwn.noOwn fun e12 => g_laws_eqEventS N e7 .sh e12 .sh fun b13 => (match (!b13) with
        | true => k false
        | false => k true))))))
noncomputable def g_laws_FnExactIsOrderly {R : Type} (N : Nat) (e_1 : List V) (f_2 : Fl) (e_3 : List V) (f_4 : Fl) (k : Bool → Option R) : Option R := sealed @gb_laws_FnExactIsOrderly N e_1 f_2 e_3 f_4 k
theorem g_laws_FnExactIsOrderly_eq {R : Type} (N : Nat) (e_1 : List V) (f_2 : Fl) (e_3 : List V) (f_4 : Fl) (k : Bool → Option R) : g_laws_FnExactIsOrderly N e_1 f_2 e_3 f_4 k = gb_laws_FnExactIsOrderly N e_1 f_2 e_3 f_4 k := by unfold g_laws_FnExactIsOrderly; rw [sealed_eq]

/-! ## the machine -/
def mode (f : FuncId) : Mode :=
  match [].any (Nat.beq f) with
  | true => .shared
  | false => .pure
noncomputable abbrev C : Cfg := Cfg.of Try.prog 6 mode

/-! ### loop.example/g00756/laws.toIntS -/
noncomputable def f_laws_toIntS (N : Nat) : (R : Type) → List V → S → (V → S → Option R) → Option R := fun _ vs s K =>
  asCons vs fun v'1 l'2 => asList 1 v'1 fun e_1 f_2 => asNil l'2 <| asEnd s <| g_laws_toIntS N e_1 f_2 fun e_3 => K (.list 1 e_3 .sh) []
noncomputable def Φ_laws_toIntS (N : Nat) : Callee := (noCallee).add 16 (f_laws_toIntS N)
noncomputable def c_laws_toIntS : Code := bodyOf Try.f16
noncomputable def b_laws_toIntS_0 : Code := (loopNo c_laws_toIntS [] 0).2
def ks_laws_toIntS_0 : List Nat := [1, 2, 5, 6, 7, 8, 9, 10, 11, 12, 13, 14, 15, 16, 17, 18, 19, 20, 21]
def kx_laws_toIntS_0 : List Nat := [0, 1, 2, 4, 5, 6, 7, 8, 9, 10, 11, 12, 13, 14, 15, 16, 17, 18, 19, 20, 21]
def fr_laws_toIntS_0 (e_1 : List V) (f_2 : Fl) (k_3 : Nat) (x_4 : Int) (e_5 : List V) : List V := mkF 0 22 [(0, .list 1 e_1 f_2), (3, .arr 0 0 0 k_3), (4, .int .i64 x_4)]
theorem r_laws_toIntS_0 {R : Type} (N n : Nat) (e_1 : List V) (f_2 : Fl) (k_3 : Nat) (x_4 : Int) (e_5 : List V) (K : X → List V → S → Option R) :
  iter C (noCallee) (noLooper) b_laws_toIntS_0 [0, 1, 0, 1, 1] false ks_laws_toIntS_0 kx_laws_toIntS_0 (n + 1) R (fr_laws_toIntS_0 e_1 f_2 k_3 x_4 e_5) [some ⟨e_5, 1, 3, 0⟩] K =
  l_laws_toIntS_0_step N e_1 f_2 k_3 (fun x_4 e_5 => iter C (noCallee) (noLooper) b_laws_toIntS_0 [0, 1, 0, 1, 1] false ks_laws_toIntS_0 kx_laws_toIntS_0 n R (fr_laws_toIntS_0 e_1 f_2 k_3 x_4 e_5) [some ⟨e_5, 1, 3, 0⟩] K) x_4 e_5
    (fun e_1' => K (.exit 0) (mkF 0 22 [(3, .arr 0 0 0 k_3)]) [some ⟨e_1', 1, 3, 0⟩]) := by kernel_rfl
theorem w_laws_toIntS_0 {R : Type} (N : Nat) (e_1 : List V) (f_2 : Fl) (k_3 : Nat) (K : X → List V → S → Option R) : ∀ (n : Nat) (x_4 : Int) (e_5 : List V),
  iter C (noCallee) (noLooper) b_laws_toIntS_0 [0, 1, 0, 1, 1] false ks_laws_toIntS_0 kx_laws_toIntS_0 n R (fr_laws_toIntS_0 e_1 f_2 k_3 x_4 e_5) [some ⟨e_5, 1, 3, 0⟩] K = l_laws_toIntS_0 N e_1 f_2 k_3
    (fun e_1' => K (.exit 0) (mkF 0 22 [(3, .arr 0 0 0 k_3)]) [some ⟨e_1', 1, 3, 0⟩]) n x_4 e_5
  | 0, _, _ => rfl
  | n + 1, x_4, e_5 => (r_laws_toIntS_0 N n e_1 f_2 k_3 x_4 e_5 K).trans (congrArg (fun nx => l_laws_toIntS_0_step N e_1 f_2 k_3 nx x_4 e_5
    (fun e_1' => K (.exit 0) (mkF 0 22 [(3, .arr 0 0 0 k_3)]) [some ⟨e_1', 1, 3, 0⟩])) (funext fun x_4 => funext fun e_5 => w_laws_toIntS_0 N e_1 f_2 k_3 K n x_4 e_5))
def i_laws_toIntS_0 {R : Type} (E : List V) (s : S) (k : List V → Fl → Nat → Int → List V → Option R) : Option R :=
  guardB (frameOk 22 [0, 3, 4] E) <| must (nth E 0) fun u0 => asList 1 u0 fun e_1 f_2 => must (nth E 3) fun u3 => asArr u3 fun k'1 k'2 k'3 k_3 => isN k'1 0 <| isN k'2 0 <| isN k'3 0 <| must (nth E 4) fun u4 => asInt .i64 u4 fun x_4 => asOb s fun o'4 s'5 => obIs o'4 1 3 fun e_5 k'6 => isN k'6 0 <| asEnd s'5 <| k e_1 f_2 k_3 x_4 e_5
theorem i_laws_toIntS_0_spec {R : Type} {E : List V} {s : S} {k : List V → Fl → Nat → Int → List V → Option R} {r : R} (h : i_laws_toIntS_0 E s k = some r) : ∃ e_1 f_2 k_3 x_4 e_5, E = fr_laws_toIntS_0 e_1 f_2 k_3 x_4 e_5 ∧ s = [some ⟨e_5, 1, 3, 0⟩] ∧ k e_1 f_2 k_3 x_4 e_5 = some r := by
  unfold i_laws_toIntS_0 at h
  obtain ⟨hg, h1⟩ := guardB_some h
  obtain ⟨u0, hu0, h2⟩ := must_some h1
  obtain ⟨e_1, f_2, rfl, h3⟩ := asList_some h2
  obtain ⟨u3, hu3, h4⟩ := must_some h3
  obtain ⟨k'1, k'2, k'3, k_3, rfl, h5⟩ := asArr_some h4
  obtain ⟨rfl, h6⟩ := isN_some h5
  obtain ⟨rfl, h7⟩ := isN_some h6
  obtain ⟨rfl, h8⟩ := isN_some h7
  obtain ⟨u4, hu4, h9⟩ := must_some h8
  obtain ⟨x_4, rfl, h10⟩ := asInt_some h9
  obtain ⟨o'4, s'5, rfl, h11⟩ := asOb_some h10
  obtain ⟨e_5, k'6, rfl, h12⟩ := obIs_some h11
  obtain ⟨rfl, h13⟩ := isN_some h12
  obtain ⟨rfl, h14⟩ := asEnd_some h13
  exact ⟨e_1, f_2, k_3, x_4, e_5, frame_is hg rfl (slots_cons hu0 (slots_cons hu3 (slots_cons hu4 slots_nil))), rfl, h14⟩
noncomputable def Λ_laws_toIntS_0 (N : Nat) : Looper := (noLooper).add [0, 1, 0, 1, 1] fun _ E s K => i_laws_toIntS_0 (killE ks_laws_toIntS_0 E) s fun e_1 f_2 k_3 x_4 e_5 => l_laws_toIntS_0 N e_1 f_2 k_3
    (fun e_1' => K (.exit 0) (mkF 0 22 [(3, .arr 0 0 0 k_3)]) [some ⟨e_1', 1, 3, 0⟩]) N x_4 e_5
theorem in_laws_toIntS_0 : loopsAt b_laws_toIntS_0 (0 :: [0, 1, 0, 1, 1]) = [] := by kernel_rfl
theorem ok_laws_toIntS_0 {N : Nat} (hC : Ok Try.prog C) (hΦ : CalleeOk Try.prog C (noCallee)) : LoopOk Try.prog C (Λ_laws_toIntS_0 N) b_laws_toIntS_0 [0, 1, 0, 1, 1] :=
  iter_ok (Λi := noLooper) (tr := false) (ks := ks_laws_toIntS_0) (kx := kx_laws_toIntS_0) (N := N) hC hΦ
    (loopsOk_of b_laws_toIntS_0 _ (by
      rw [in_laws_toIntS_0]
      intro p hp
      cases hp))
    fun R E s K r h => by
      have h2 := Looper.add_self.symm.trans h
      obtain ⟨e_1, f_2, k_3, x_4, e_5, he, rfl, h3⟩ := i_laws_toIntS_0_spec h2
      rw [he, w_laws_toIntS_0]
      exact h3
theorem at_laws_toIntS : loopsAt c_laws_toIntS [] = [([0, 1, 0, 1, 1], b_laws_toIntS_0)] := by kernel_rfl
theorem b_laws_toIntS {R : Type} (N : Nat) (e_1 : List V) (f_2 : Fl) (K : V → S → Option R) : bodyV C (noCallee) (Λ_laws_toIntS_0 N) 16 Try.f16 [.list 1 e_1 f_2] [] K =
  gb_laws_toIntS N e_1 f_2 (fun e_3 => K (.list 1 e_3 .sh) []) := by kernel_rfl
theorem loops_laws_toIntS {N : Nat} (hC : Ok Try.prog C) (hΦ : CalleeOk Try.prog C (noCallee)) : LoopsOk Try.prog C (Λ_laws_toIntS_0 N) c_laws_toIntS [] :=
  loopsOk_of c_laws_toIntS [] (by
    rw [at_laws_toIntS]
    intro p hp
    simp only [List.mem_cons, List.mem_nil_iff, or_false] at hp
    rcases hp with rfl
    · exact (ok_laws_toIntS_0 hC hΦ))
theorem callee_laws_toIntS (hC : Ok Try.prog C) {N : Nat} (hΦ : CalleeOk Try.prog C (noCallee)) : CalleeOk Try.prog C (Φ_laws_toIntS N) := by
  refine hΦ.add_pure rfl fun R vs K r h => body_pure (fn := Try.f16) (c := c_laws_toIntS) hC hΦ Try.func16 (by kernel_rfl) (by kernel_rfl) (loops_laws_toIntS (N := N) hC hΦ) rfl rfl ?_
  unfold f_laws_toIntS at h
  obtain ⟨v'1, l'2, rfl, h1⟩ := asCons_some h
  obtain ⟨e_1, f_2, rfl, h2⟩ := asList_some h1
  obtain ⟨rfl, h3⟩ := asNil_some h2
  obtain ⟨_, h4⟩ := asEnd_some h3
  rw [b_laws_toIntS, ← g_laws_toIntS_eq]
  exact h4

/-! ### loop.example/g00756/laws.eqIntS -/
noncomputable def f_laws_eqIntS (N : Nat) : (R : Type) → List V → S → (V → S → Option R) → Option R := fun _ vs s K =>
  asCons vs fun v'1 l'2 => asList 1 v'1 fun e_1 f_2 => asCons l'2 fun v'3 l'4 => asList 1 v'3 fun e_3 f_4 => asNil l'4 <| asEnd s <| g_laws_eqIntS N e_1 f_2 e_3 f_4 fun b_5 => K (.bool b_5) []
noncomputable def Φ_laws_eqIntS (N : Nat) : Callee := (Φ_laws_toIntS N).add 18 (f_laws_eqIntS N)
noncomputable def c_laws_eqIntS : Code := bodyOf Try.f18
noncomputable def b_laws_eqIntS_0 : Code := (loopNo c_laws_eqIntS [] 0).2
def ks_laws_eqIntS_0 : List Nat := [2, 3, 4, 6, 7, 8, 9, 10, 11, 12, 13, 14, 15, 16, 17, 18, 19, 20, 21, 22, 23, 24, 25]
def kx_laws_eqIntS_0 : List Nat := [0, 1, 2, 3, 5, 6, 7, 8, 9, 10, 11, 12, 13, 14, 15, 16, 17, 18, 19, 20, 21, 22, 23, 24, 25]
def fr_laws_eqIntS_0 (e_1 : List V) (f_2 : Fl) (e_3 : List V) (f_4 : Fl) (x_5 : Int) : List V := mkF 0 26 [(0, .list 1 e_1 f_2), (1, .list 1 e_3 f_4), (5, .int .i64 x_5)]
theorem r_laws_eqIntS_0 {R : Type} (N n : Nat) (e_1 : List V) (f_2 : Fl) (e_3 : List V) (f_4 : Fl) (x_5 : Int) (K : X → List V → S → Option R) :
  iter C (Φ_laws_toIntS N) (noLooper) b_laws_eqIntS_0 [0, 1, 0, 1, 1] false ks_laws_eqIntS_0 kx_laws_eqIntS_0 (n + 1) R (fr_laws_eqIntS_0 e_1 f_2 e_3 f_4 x_5) [] K =
  l_laws_eqIntS_0_step N e_1 f_2 e_3 f_4 (fun x_5 => iter C (Φ_laws_toIntS N) (noLooper) b_laws_eqIntS_0 [0, 1, 0, 1, 1] false ks_laws_eqIntS_0 kx_laws_eqIntS_0 n R (fr_laws_eqIntS_0 e_1 f_2 e_3 f_4 x_5) [] K) x_5
    (fun _ => K .ret (mkF 0 26 [(4, .bool false)]) [])
    (fun _ => K (.exit 0) (mkF 0 26 []) []) := by kernel_rfl
theorem w_laws_eqIntS_0 {R : Type} (N : Nat) (e_1 : List V) (f_2 : Fl) (e_3 : List V) (f_4 : Fl) (K : X → List V → S → Option R) : ∀ (n : Nat) (x_5 : Int),
  iter C (Φ_laws_toIntS N) (noLooper) b_laws_eqIntS_0 [0, 1, 0, 1, 1] false ks_laws_eqIntS_0 kx_laws_eqIntS_0 n R (fr_laws_eqIntS_0 e_1 f_2 e_3 f_4 x_5) [] K = l_laws_eqIntS_0 N e_1 f_2 e_3 f_4
    (fun _ => K .ret (mkF 0 26 [(4, .bool false)]) [])
    (fun _ => K (.exit 0) (mkF 0 26 []) []) n x_5
  | 0, _ => rfl
  | n + 1, x_5 => (r_laws_eqIntS_0 N n e_1 f_2 e_3 f_4 x_5 K).trans (congrArg (fun nx => l_laws_eqIntS_0_step N e_1 f_2 e_3 f_4 nx x_5
    (fun _ => K .ret (mkF 0 26 [(4, .bool false)]) [])
    (fun _ => K (.exit 0) (mkF 0 26 []) [])) (funext fun x_5 => w_laws_eqIntS_0 N e_1 f_2 e_3 f_4 K n x_5))
def i_laws_eqIntS_0 {R : Type} (E : List V) (s : S) (k : List V → Fl → List V → Fl → Int → Option R) : Option R :=
  guardB (frameOk 26 [0, 1, 5] E) <| must (nth E 0) fun u0 => asList 1 u0 fun e_1 f_2 => must (nth E 1) fun u1 => asList 1 u1 fun e_3 f_4 => must (nth E 5) fun u5 => asInt .i64 u5 fun x_5 => asEnd s <| k e_1 f_2 e_3 f_4 x_5
theorem i_laws_eqIntS_0_spec {R : Type} {E : List V} {s : S} {k : List V → Fl → List V → Fl → Int → Option R} {r : R} (h : i_laws_eqIntS_0 E s k = some r) : ∃ e_1 f_2 e_3 f_4 x_5, E = fr_laws_eqIntS_0 e_1 f_2 e_3 f_4 x_5 ∧ s = [] ∧ k e_1 f_2 e_3 f_4 x_5 = some r := by
  unfold i_laws_eqIntS_0 at h
  obtain ⟨hg, h1⟩ := guardB_some h
  obtain ⟨u0, hu0, h2⟩ := must_some h1
  obtain ⟨e_1, f_2, rfl, h3⟩ := asList_some h2
  obtain ⟨u1, hu1, h4⟩ := must_some h3
  obtain ⟨e_3, f_4, rfl, h5⟩ := asList_some h4
  obtain ⟨u5, hu5, h6⟩ := must_some h5
  obtain ⟨x_5, rfl, h7⟩ := asInt_some h6
  obtain ⟨rfl, h8⟩ := asEnd_some h7
  exact ⟨e_1, f_2, e_3, f_4, x_5, frame_is hg rfl (slots_cons hu0 (slots_cons hu1 (slots_cons hu5 slots_nil))), rfl, h8⟩
noncomputable def Λ_laws_eqIntS_0 (N : Nat) : Looper := (noLooper).add [0, 1, 0, 1, 1] fun _ E s K => i_laws_eqIntS_0 (killE ks_laws_eqIntS_0 E) s fun e_1 f_2 e_3 f_4 x_5 => l_laws_eqIntS_0 N e_1 f_2 e_3 f_4
    (fun _ => K .ret (mkF 0 26 [(4, .bool false)]) [])
    (fun _ => K (.exit 0) (mkF 0 26 []) []) N x_5
theorem in_laws_eqIntS_0 : loopsAt b_laws_eqIntS_0 (0 :: [0, 1, 0, 1, 1]) = [] := by kernel_rfl
theorem ok_laws_eqIntS_0 {N : Nat} (hC : Ok Try.prog C) (hΦ : CalleeOk Try.prog C (Φ_laws_toIntS N)) : LoopOk Try.prog C (Λ_laws_eqIntS_0 N) b_laws_eqIntS_0 [0, 1, 0, 1, 1] :=
  iter_ok (Λi := noLooper) (tr := false) (ks := ks_laws_eqIntS_0) (kx := kx_laws_eqIntS_0) (N := N) hC hΦ
    (loopsOk_of b_laws_eqIntS_0 _ (by
      rw [in_laws_eqIntS_0]
      intro p hp
      cases hp))
    fun R E s K r h => by
      have h2 := Looper.add_self.symm.trans h
      obtain ⟨e_1, f_2, e_3, f_4, x_5, he, rfl, h3⟩ := i_laws_eqIntS_0_spec h2
      rw [he, w_laws_eqIntS_0]
      exact h3
theorem at_laws_eqIntS : loopsAt c_laws_eqIntS [] = [([0, 1, 0, 1, 1], b_laws_eqIntS_0)] := by kernel_rfl
theorem b_laws_eqIntS {R : Type} (N : Nat) (e_1 : List V) (f_2 : Fl) (e_3 : List V) (f_4 : Fl) (K : V → S → Option R) : bodyV C (Φ_laws_toIntS N) (Λ_laws_eqIntS_0 N) 18 Try.f18 [.list 1 e_1 f_2, .list 1 e_3 f_4] [] K =
  gb_laws_eqIntS N e_1 f_2 e_3 f_4 (fun b_5 => K (.bool b_5) []) := by kernel_rfl
theorem loops_laws_eqIntS {N : Nat} (hC : Ok Try.prog C) (hΦ : CalleeOk Try.prog C (Φ_laws_toIntS N)) : LoopsOk Try.prog C (Λ_laws_eqIntS_0 N) c_laws_eqIntS [] :=
  loopsOk_of c_laws_eqIntS [] (by
    rw [at_laws_eqIntS]
    intro p hp
    simp only [List.mem_cons, List.mem_nil_iff, or_false] at hp
    rcases hp with rfl
    · exact (ok_laws_eqIntS_0 hC hΦ))
theorem callee_laws_eqIntS (hC : Ok Try.prog C) {N : Nat} (hΦ : CalleeOk Try.prog C (Φ_laws_toIntS N)) : CalleeOk Try.prog C (Φ_laws_eqIntS N) := by
  refine hΦ.add_pure rfl fun R vs K r h => body_pure (fn := Try.f18) (c := c_laws_eqIntS) hC hΦ Try.func18 (by kernel_rfl) (by kernel_rfl) (loops_laws_eqIntS (N := N) hC hΦ) rfl rfl ?_
  unfold f_laws_eqIntS at h
  obtain ⟨v'1, l'2, rfl, h1⟩ := asCons_some h
  obtain ⟨e_1, f_2, rfl, h2⟩ := asList_some h1
  obtain ⟨v'3, l'4, rfl, h3⟩ := asCons_some h2
  obtain ⟨e_3, f_4, rfl, h4⟩ := asList_some h3
  obtain ⟨rfl, h5⟩ := asNil_some h4
  obtain ⟨_, h6⟩ := asEnd_some h5
  rw [b_laws_eqIntS, ← g_laws_eqIntS_eq]
  exact h6

/-! ### loop.example/g00756/laws.szEventS -/
noncomputable def f_laws_szEventS (N : Nat) : (R : Type) → List V → S → (V → S → Option R) → Option R := fun _ vs s K =>
  asCons vs fun v'1 l'2 => asList 3 v'1 fun e_1 f_2 => asCons l'2 fun v'3 l'4 => asInt .i64 v'3 fun x_3 => asNil l'4 <| asEnd s <| g_laws_szEventS N e_1 f_2 x_3 fun x_4 => K (.int .i64 x_4) []
noncomputable def Φ_laws_szEventS (N : Nat) : Callee := (Φ_laws_eqIntS N).add 33 (f_laws_szEventS N)
noncomputable def c_laws_szEventS : Code := bodyOf Try.f33
theorem at_laws_szEventS : loopsAt c_laws_szEventS [] = [] := by kernel_rfl
theorem b_laws_szEventS {R : Type} (N : Nat) (e_1 : List V) (f_2 : Fl) (x_3 : Int) (K : V → S → Option R) : bodyV C (Φ_laws_eqIntS N) (noLooper) 33 Try.f33 [.list 3 e_1 f_2, .int .i64 x_3] [] K =
  gb_laws_szEventS N e_1 f_2 x_3 (fun x_4 => K (.int .i64 x_4) []) := by kernel_rfl
theorem loops_laws_szEventS {N : Nat} (hC : Ok Try.prog C) (hΦ : CalleeOk Try.prog C (Φ_laws_eqIntS N)) : LoopsOk Try.prog C (noLooper) c_laws_szEventS [] :=
  loopsOk_of c_laws_szEventS [] (by
    rw [at_laws_szEventS]
    intro p hp
    cases hp)
theorem callee_laws_szEventS (hC : Ok Try.prog C) {N : Nat} (hΦ : CalleeOk Try.prog C (Φ_laws_eqIntS N)) : CalleeOk Try.prog C (Φ_laws_szEventS N) := by
  refine hΦ.add_pure rfl fun R vs K r h => body_pure (fn := Try.f33) (c := c_laws_szEventS) hC hΦ Try.func33 (by kernel_rfl) (by kernel_rfl) (loops_laws_szEventS (N := N) hC hΦ) rfl rfl ?_
  unfold f_laws_szEventS at h
  obtain ⟨v'1, l'2, rfl, h1⟩ := asCons_some h
  obtain ⟨e_1, f_2, rfl, h2⟩ := asList_some h1
  obtain ⟨v'3, l'4, rfl, h3⟩ := asCons_some h2
  obtain ⟨x_3, rfl, h4⟩ := asInt_some h3
  obtain ⟨rfl, h5⟩ := asNil_some h4
  obtain ⟨_, h6⟩ := asEnd_some h5
  rw [b_laws_szEventS, ← g_laws_szEventS_eq]
  exact h6

/-! ### loop.example/g00756/spec.l1In -/
noncomputable def f_spec_l1In (N : Nat) : (R : Type) → List V → S → (V → S → Option R) → Option R := fun _ vs s K =>
  asCons vs fun v'1 l'2 => asInt .i64 v'1 fun x_1 => asCons l'2 fun v'3 l'4 => asInt .i64 v'3 fun x_2 => asCons l'4 fun v'5 l'6 => asInt .i64 v'5 fun x_3 => asNil l'6 <| asEnd s <| g_spec_l1In N x_1 x_2 x_3 fun b_4 => K (.bool b_4) []
noncomputable def Φ_spec_l1In (N : Nat) : Callee := (Φ_laws_szEventS N).add 83 (f_spec_l1In N)
noncomputable def c_spec_l1In : Code := bodyOf Try.f83
theorem at_spec_l1In : loopsAt c_spec_l1In [] = [] := by kernel_rfl
theorem b_spec_l1In {R : Type} (N : Nat) (x_1 : Int) (x_2 : Int) (x_3 : Int) (K : V → S → Option R) : bodyV C (Φ_laws_szEventS N) (noLooper) 83 Try.f83 [.int .i64 x_1, .int .i64 x_2, .int .i64 x_3] [] K =
  gb_spec_l1In N x_1 x_2 x_3 (fun b_4 => K (.bool b_4) []) := by kernel_rfl
theorem loops_spec_l1In {N : Nat} (hC : Ok Try.prog C) (hΦ : CalleeOk Try.prog C (Φ_laws_szEventS N)) : LoopsOk Try.prog C (noLooper) c_spec_l1In [] :=
  loopsOk_of c_spec_l1In [] (by
    rw [at_spec_l1In]
    intro p hp
    cases hp)
theorem callee_spec_l1In (hC : Ok Try.prog C) {N : Nat} (hΦ : CalleeOk Try.prog C (Φ_laws_szEventS N)) : CalleeOk Try.prog C (Φ_spec_l1In N) := by
  refine hΦ.add_pure rfl fun R vs K r h => body_pure (fn := Try.f83) (c := c_spec_l1In) hC hΦ Try.func83 (by kernel_rfl) (by kernel_rfl) (loops_spec_l1In (N := N) hC hΦ) rfl rfl ?_
  unfold f_spec_l1In at h
  obtain ⟨v'1, l'2, rfl, h1⟩ := asCons_some h
  obtain ⟨x_1, rfl, h2⟩ := asInt_some h1
  obtain ⟨v'3, l'4, rfl, h3⟩ := asCons_some h2
  obtain ⟨x_2, rfl, h4⟩ := asInt_some h3
  obtain ⟨v'5, l'6, rfl, h5⟩ := asCons_some h4
  obtain ⟨x_3, rfl, h6⟩ := asInt_some h5
  obtain ⟨rfl, h7⟩ := asNil_some h6
  obtain ⟨_, h8⟩ := asEnd_some h7
  rw [b_spec_l1In, ← g_spec_l1In_eq]
  exact h8

/-! ### loop.example/g00756/spec.l13Forest -/
noncomputable def f_spec_l13Forest (N : Nat) : (R : Type) → List V → S → (V → S → Option R) → Option R := fun _ vs s K =>
  asCons vs fun v'1 l'2 => asList 1 v'1 fun e_1 f_2 => asNil l'2 <| asEnd s <| g_spec_l13Forest N e_1 f_2 fun b_3 => K (.bool b_3) []
noncomputable def Φ_spec_l13Forest (N : Nat) : Callee := (Φ_spec_l1In N).add 81 (f_spec_l13Forest N)
noncomputable def c_spec_l13Forest : Code := bodyOf Try.f81
noncomputable def b_spec_l13Forest_0 : Code := (loopNo c_spec_l13Forest [] 0).2
def ks_spec_l13Forest_0 : List Nat := [1, 2, 3, 4, 8, 9, 10, 11, 12, 13, 14, 15, 16, 17, 18, 19, 20]
def kx_spec_l13Forest_0 : List Nat := [1, 3, 4, 5, 6, 7, 8, 9, 10, 11, 12, 13, 14, 15, 16, 17, 18, 19, 20]
def fr_spec_l13Forest_0 (e_1 : List V) (f_2 : Fl) (e_3 : List V) (f_4 : Fl) (x_5 : Int) (x_6 : Int) : List V := mkF 0 21 [(0, .list 1 e_1 f_2), (5, .list 1 e_3 f_4), (6, .int .i64 x_5), (7, .int .i64 x_6)]
theorem r_spec_l13Forest_0 {R : Type} (N n : Nat) (e_1 : List V) (f_2 : Fl) (e_3 : List V) (f_4 : Fl) (x_5 : Int) (x_6 : Int) (K : X → List V → S → Option R) :
  iter C (Φ_spec_l1In N) (noLooper) b_spec_l13Forest_0 [0, 1, 0, 1] false ks_spec_l13Forest_0 kx_spec_l13Forest_0 (n + 1) R (fr_spec_l13Forest_0 e_1 f_2 e_3 f_4 x_5 x_6) [] K =
  l_spec_l13Forest_0_step N e_1 f_2 e_3 f_4 x_5 (fun x_6 => iter C (Φ_spec_l1In N) (noLooper) b_spec_l13Forest_0 [0, 1, 0, 1] false ks_spec_l13Forest_0 kx_spec_l13Forest_0 n R (fr_spec_l13Forest_0 e_1 f_2 e_3 f_4 x_5 x_6) [] K) x_6
    (fun _ => K .ret (mkF 0 21 [(0, .list 1 e_1 f_2), (2, .bool false)]) [])
    (fun _ => K (.exit 0) (mkF 0 21 [(0, .list 1 e_1 f_2)]) []) := by kernel_rfl
theorem w_spec_l13Forest_0 {R : Type} (N : Nat) (e_1 : List V) (f_2 : Fl) (e_3 : List V) (f_4 : Fl) (x_5 : Int) (K : X → List V → S → Option R) : ∀ (n : Nat) (x_6 : Int),
  iter C (Φ_spec_l1In N) (noLooper) b_spec_l13Forest_0 [0, 1, 0, 1] false ks_spec_l13Forest_0 kx_spec_l13Forest_0 n R (fr_spec_l13Forest_0 e_1 f_2 e_3 f_4 x_5 x_6) [] K = l_spec_l13Forest_0 N e_1 f_2 e_3 f_4 x_5
    (fun _ => K .ret (mkF 0 21 [(0, .list 1 e_1 f_2), (2, .bool false)]) [])
    (fun _ => K (.exit 0) (mkF 0 21 [(0, .list 1 e_1 f_2)]) []) n x_6
  | 0, _ => rfl
  | n + 1, x_6 => (r_spec_l13Forest_0 N n e_1 f_2 e_3 f_4 x_5 x_6 K).trans (congrArg (fun nx => l_spec_l13Forest_0_step N e_1 f_2 e_3 f_4 x_5 nx x_6
    (fun _ => K .ret (mkF 0 21 [(0, .list 1 e_1 f_2), (2, .bool false)]) [])
    (fun _ => K (.exit 0) (mkF 0 21 [(0, .list 1 e_1 f_2)]) [])) (funext fun x_6 => w_spec_l13Forest_0 N e_1 f_2 e_3 f_4 x_5 K n x_6))
def i_spec_l13Forest_0 {R : Type} (E : List V) (s : S) (k : List V → Fl → List V → Fl → Int → Int → Option R) : Option R :=
  guardB (frameOk 21 [0, 5, 6, 7] E) <| must (nth E 0) fun u0 => asList 1 u0 fun e_1 f_2 => must (nth E 5) fun u5 => asList 1 u5 fun e_3 f_4 => must (nth E 6) fun u6 => asInt .i64 u6 fun x_5 => must (nth E 7) fun u7 => asInt .i64 u7 fun x_6 => asEnd s <| k e_1 f_2 e_3 f_4 x_5 x_6
theorem i_spec_l13Forest_0_spec {R : Type} {E : List V} {s : S} {k : List V → Fl → List V → Fl → Int → Int → Option R} {r : R} (h : i_spec_l13Forest_0 E s k = some r) : ∃ e_1 f_2 e_3 f_4 x_5 x_6, E = fr_spec_l13Forest_0 e_1 f_2 e_3 f_4 x_5 x_6 ∧ s = [] ∧ k e_1 f_2 e_3 f_4 x_5 x_6 = some r := by
  unfold i_spec_l13Forest_0 at h
  obtain ⟨hg, h1⟩ := guardB_some h
  obtain ⟨u0, hu0, h2⟩ := must_some h1
  obtain ⟨e_1, f_2, rfl, h3⟩ := asList_some h2
  obtain ⟨u5, hu5, h4⟩ := must_some h3
  obtain ⟨e_3, f_4, rfl, h5⟩ := asList_some h4
  obtain ⟨u6, hu6, h6⟩ := must_some h5
  obtain ⟨x_5, rfl, h7⟩ := asInt_some h6
  obtain ⟨u7, hu7, h8⟩ := must_some h7
  obtain ⟨x_6, rfl, h9⟩ := asInt_some h8
  obtain ⟨rfl, h10⟩ := asEnd_some h9
  exact ⟨e_1, f_2, e_3, f_4, x_5, x_6, frame_is hg rfl (slots_cons hu0 (slots_cons hu5 (slots_cons hu6 (slots_cons hu7 slots_nil)))), rfl, h10⟩
noncomputable def Λ_spec_l13Forest_0 (N : Nat) : Looper := (noLooper).add [0, 1, 0, 1] fun _ E s K => i_spec_l13Forest_0 (killE ks_spec_l13Forest_0 E) s fun e_1 f_2 e_3 f_4 x_5 x_6 => l_spec_l13Forest_0 N e_1 f_2 e_3 f_4 x_5
    (fun _ => K .ret (mkF 0 21 [(0, .list 1 e_1 f_2), (2, .bool false)]) [])
    (fun _ => K (.exit 0) (mkF 0 21 [(0, .list 1 e_1 f_2)]) []) N x_6
theorem in_spec_l13Forest_0 : loopsAt b_spec_l13Forest_0 (0 :: [0, 1, 0, 1]) = [] := by kernel_rfl
theorem ok_spec_l13Forest_0 {N : Nat} (hC : Ok Try.prog C) (hΦ : CalleeOk Try.prog C (Φ_spec_l1In N)) : LoopOk Try.prog C (Λ_spec_l13Forest_0 N) b_spec_l13Forest_0 [0, 1, 0, 1] :=
  iter_ok (Λi := noLooper) (tr := false) (ks := ks_spec_l13Forest_0) (kx := kx_spec_l13Forest_0) (N := N) hC hΦ
    (loopsOk_of b_spec_l13Forest_0 _ (by
      rw [in_spec_l13Forest_0]
      intro p hp
      cases hp))
    fun R E s K r h => by
      have h2 := Looper.add_self.symm.trans h
      obtain ⟨e_1, f_2, e_3, f_4, x_5, x_6, he, rfl, h3⟩ := i_spec_l13Forest_0_spec h2
      rw [he, w_spec_l13Forest_0]
      exact h3
theorem at_spec_l13Forest : loopsAt c_spec_l13Forest [] = [([0, 1, 0, 1], b_spec_l13Forest_0)] := by kernel_rfl
theorem b_spec_l13Forest {R : Type} (N : Nat) (e_1 : List V) (f_2 : Fl) (K : V → S → Option R) : bodyV C (Φ_spec_l1In N) (Λ_spec_l13Forest_0 N) 81 Try.f81 [.list 1 e_1 f_2] [] K =
  gb_spec_l13Forest N e_1 f_2 (fun b_3 => K (.bool b_3) []) := by kernel_rfl
theorem loops_spec_l13Forest {N : Nat} (hC : Ok Try.prog C) (hΦ : CalleeOk Try.prog C (Φ_spec_l1In N)) : LoopsOk Try.prog C (Λ_spec_l13Forest_0 N) c_spec_l13Forest [] :=
  loopsOk_of c_spec_l13Forest [] (by
    rw [at_spec_l13Forest]
    intro p hp
    simp only [List.mem_cons, List.mem_nil_iff, or_false] at hp
    rcases hp with rfl
    · exact (ok_spec_l13Forest_0 hC hΦ))
theorem callee_spec_l13Forest (hC : Ok Try.prog C) {N : Nat} (hΦ : CalleeOk Try.prog C (Φ_spec_l1In N)) : CalleeOk Try.prog C (Φ_spec_l13Forest N) := by
  refine hΦ.add_pure rfl fun R vs K r h => body_pure (fn := Try.f81) (c := c_spec_l13Forest) hC hΦ Try.func81 (by kernel_rfl) (by kernel_rfl) (loops_spec_l13Forest (N := N) hC hΦ) rfl rfl ?_
  unfold f_spec_l13Forest at h
  obtain ⟨v'1, l'2, rfl, h1⟩ := asCons_some h
  obtain ⟨e_1, f_2, rfl, h2⟩ := asList_some h1
  obtain ⟨rfl, h3⟩ := asNil_some h2
  obtain ⟨_, h4⟩ := asEnd_some h3
  rw [b_spec_l13Forest, ← g_spec_l13Forest_eq]
  exact h4

/-! ### loop.example/g00756/spec.l13At -/
noncomputable def f_spec_l13At (N : Nat) : (R : Type) → List V → S → (V → S → Option R) → Option R := fun _ vs s K =>
  asCons vs fun v'1 l'2 => asList 3 v'1 fun e_1 f_2 => asCons l'2 fun v'3 l'4 => asInt .i64 v'3 fun x_3 => asCons l'4 fun v'5 l'6 => asInt .i64 v'5 fun x_4 => asNil l'6 <| asEnd s <| g_spec_l13At N e_1 f_2 x_3 x_4 fun x_5 => K (.int .i64 x_5) []
noncomputable def Φ_spec_l13At (N : Nat) : Callee := (Φ_spec_l13Forest N).add 95 (f_spec_l13At N)
noncomputable def c_spec_l13At : Code := bodyOf Try.f95
noncomputable def b_spec_l13At_0 : Code := (loopNo c_spec_l13At [] 0).2
def ks_spec_l13At_0 : List Nat := [0, 3, 4, 5, 6, 8, 9, 13, 14, 15, 16, 17, 18, 19, 20, 21, 22, 23, 24, 25, 26, 27, 28, 29, 30, 31]
def kx_spec_l13At_0 : List Nat := [0, 1, 2, 3, 4, 5, 8, 9, 10, 11, 12, 13, 14, 15, 16, 17, 18, 19, 20, 21, 22, 23, 24, 25, 26, 27, 28, 29, 30, 31]
def fr_spec_l13At_0 (x_1 : Int) (x_2 : Int) (e_4 : List V) (f_5 : Fl) (x_6 : Int) (x_3 : Int) (x_7 : Int) : List V := mkF 0 32 [(1, .int .i64 x_1), (2, .int .i64 x_2), (7, .int .i64 x_3), (10, .list 3 e_4 f_5), (11, .int .i64 x_6), (12, .int .i64 x_7)]
theorem r_spec_l13At_0 {R : Type} (N n : Nat) (x_1 : Int) (x_2 : Int) (e_4 : List V) (f_5 : Fl) (x_6 : Int) (x_3 : Int) (x_7 : Int) (K : X → List V → S → Option R) :
  iter C (Φ_spec_l13Forest N) (noLooper) b_spec_l13At_0 [0, 1, 0, 1, 1] true ks_spec_l13At_0 kx_spec_l13At_0 (n + 1) R (fr_spec_l13At_0 x_1 x_2 e_4 f_5 x_6 x_3 x_7) [] K =
  l_spec_l13At_0_step N x_1 x_2 e_4 f_5 x_6 (fun x_3 x_7 => iter C (Φ_spec_l13Forest N) (noLooper) b_spec_l13At_0 [0, 1, 0, 1, 1] true ks_spec_l13At_0 kx_spec_l13At_0 n R (fr_spec_l13At_0 x_1 x_2 e_4 f_5 x_6 x_3 x_7) [] K) x_3 x_7
    (fun x_1' => K .ret (mkF 0 32 [(6, .int .i64 (-1)), (7, .int .i64 (x_1'))]) [])
    (fun x_1' => K (.exit 0) (mkF 0 32 [(7, .int .i64 (x_1'))]) []) := by kernel_rfl
theorem w_spec_l13At_0 {R : Type} (N : Nat) (x_1 : Int) (x_2 : Int) (e_4 : List V) (f_5 : Fl) (x_6 : Int) (K : X → List V → S → Option R) : ∀ (n : Nat) (x_3 : Int) (x_7 : Int),
  iter C (Φ_spec_l13Forest N) (noLooper) b_spec_l13At_0 [0, 1, 0, 1, 1] true ks_spec_l13At_0 kx_spec_l13At_0 n R (fr_spec_l13At_0 x_1 x_2 e_4 f_5 x_6 x_3 x_7) [] K = l_spec_l13At_0 N x_1 x_2 e_4 f_5 x_6
    (fun x_1' => K .ret (mkF 0 32 [(6, .int .i64 (-1)), (7, .int .i64 (x_1'))]) [])
    (fun x_1' => K (.exit 0) (mkF 0 32 [(7, .int .i64 (x_1'))]) []) n x_3 x_7
  | 0, _, _ => rfl
  | n + 1, x_3, x_7 => (r_spec_l13At_0 N n x_1 x_2 e_4 f_5 x_6 x_3 x_7 K).trans (congrArg (fun nx => l_spec_l13At_0_step N x_1 x_2 e_4 f_5 x_6 nx x_3 x_7
    (fun x_1' => K .ret (mkF 0 32 [(6, .int .i64 (-1)), (7, .int .i64 (x_1'))]) [])
    (fun x_1' => K (.exit 0) (mkF 0 32 [(7, .int .i64 (x_1'))]) [])) (funext fun x_3 => funext fun x_7 => w_spec_l13At_0 N x_1 x_2 e_4 f_5 x_6 K n x_3 x_7))
def i_spec_l13At_0 {R : Type} (E : List V) (s : S) (k : Int → Int → Int → List V → Fl → Int → Int → Option R) : Option R :=
  guardB (frameOk 32 [1, 2, 7, 10, 11, 12] E) <| must (nth E 1) fun u1 => asInt .i64 u1 fun x_1 => must (nth E 2) fun u2 => asInt .i64 u2 fun x_2 => must (nth E 7) fun u7 => asInt .i64 u7 fun x_3 => must (nth E 10) fun u10 => asList 3 u10 fun e_4 f_5 => must (nth E 11) fun u11 => asInt .i64 u11 fun x_6 => must (nth E 12) fun u12 => asInt .i64 u12 fun x_7 => asEnd s <| k x_1 x_2 x_3 e_4 f_5 x_6 x_7
theorem i_spec_l13At_0_spec {R : Type} {E : List V} {s : S} {k : Int → Int → Int → List V → Fl → Int → Int → Option R} {r : R} (h : i_spec_l13At_0 E s k = some r) : ∃ x_1 x_2 x_3 e_4 f_5 x_6 x_7, E = fr_spec_l13At_0 x_1 x_2 e_4 f_5 x_6 x_3 x_7 ∧ s = [] ∧ k x_1 x_2 x_3 e_4 f_5 x_6 x_7 = some r := by
  unfold i_spec_l13At_0 at h
  obtain ⟨hg, h1⟩ := guardB_some h
  obtain ⟨u1, hu1, h2⟩ := must_some h1
  obtain ⟨x_1, rfl, h3⟩ := asInt_some h2
  obtain ⟨u2, hu2, h4⟩ := must_some h3
  obtain ⟨x_2, rfl, h5⟩ := asInt_some h4
  obtain ⟨u7, hu7, h6⟩ := must_some h5
  obtain ⟨x_3, rfl, h7⟩ := asInt_some h6
  obtain ⟨u10, hu10, h8⟩ := must_some h7
  obtain ⟨e_4, f_5, rfl, h9⟩ := asList_some h8
  obtain ⟨u11, hu11, h10⟩ := must_some h9
  obtain ⟨x_6, rfl, h11⟩ := asInt_some h10
  obtain ⟨u12, hu12, h12⟩ := must_some h11
  obtain ⟨x_7, rfl, h13⟩ := asInt_some h12
  obtain ⟨rfl, h14⟩ := asEnd_some h13
  exact ⟨x_1, x_2, x_3, e_4, f_5, x_6, x_7, frame_is hg rfl (slots_cons hu1 (slots_cons hu2 (slots_cons hu7 (slots_cons hu10 (slots_cons hu11 (slots_cons hu12 slots_nil)))))), rfl, h14⟩
noncomputable def Λ_spec_l13At_0 (N : Nat) : Looper := (noLooper).add [0, 1, 0, 1, 1] fun _ E s K => i_spec_l13At_0 (killE ks_spec_l13At_0 E) s fun x_1 x_2 x_3 e_4 f_5 x_6 x_7 => l_spec_l13At_0 N x_1 x_2 e_4 f_5 x_6
    (fun x_1' => K .ret (mkF 0 32 [(6, .int .i64 (-1)), (7, .int .i64 (x_1'))]) [])
    (fun x_1' => K (.exit 0) (mkF 0 32 [(7, .int .i64 (x_1'))]) []) N x_3 x_7
theorem in_spec_l13At_0 : loopsAt b_spec_l13At_0 (0 :: [0, 1, 0, 1, 1]) = [] := by kernel_rfl
theorem ok_spec_l13At_0 {N : Nat} (hC : Ok Try.prog C) (hΦ : CalleeOk Try.prog C (Φ_spec_l13Forest N)) : LoopOk Try.prog C (Λ_spec_l13At_0 N) b_spec_l13At_0 [0, 1, 0, 1, 1] :=
  iter_ok (Λi := noLooper) (tr := true) (ks := ks_spec_l13At_0) (kx := kx_spec_l13At_0) (N := N) hC hΦ
    (loopsOk_of b_spec_l13At_0 _ (by
      rw [in_spec_l13At_0]
      intro p hp
      cases hp))
    fun R E s K r h => by
      have h2 := Looper.add_self.symm.trans h
      obtain ⟨x_1, x_2, x_3, e_4, f_5, x_6, x_7, he, rfl, h3⟩ := i_spec_l13At_0_spec h2
      rw [he, w_spec_l13At_0]
      exact h3
theorem at_spec_l13At : loopsAt c_spec_l13At [] = [([0, 1, 0, 1, 1], b_spec_l13At_0)] := by kernel_rfl
theorem b_spec_l13At {R : Type} (N : Nat) (e_1 : List V) (f_2 : Fl) (x_3 : Int) (x_4 : Int) (K : V → S → Option R) : bodyV C (Φ_spec_l13Forest N) (Λ_spec_l13At_0 N) 95 Try.f95 [.list 3 e_1 f_2, .int .i64 x_3, .int .i64 x_4] [] K =
  gb_spec_l13At N e_1 f_2 x_3 x_4 (fun x_5 => K (.int .i64 x_5) []) := by kernel_rfl
theorem loops_spec_l13At {N : Nat} (hC : Ok Try.prog C) (hΦ : CalleeOk Try.prog C (Φ_spec_l13Forest N)) : LoopsOk Try.prog C (Λ_spec_l13At_0 N) c_spec_l13At [] :=
  loopsOk_of c_spec_l13At [] (by
    rw [at_spec_l13At]
    intro p hp
    simp only [List.mem_cons, List.mem_nil_iff, or_false] at hp
    rcases hp with rfl
    · exact (ok_spec_l13At_0 hC hΦ))
theorem callee_spec_l13At (hC : Ok Try.prog C) {N : Nat} (hΦ : CalleeOk Try.prog C (Φ_spec_l13Forest N)) : CalleeOk Try.prog C (Φ_spec_l13At N) := by
  refine hΦ.add_pure rfl fun R vs K r h => body_pure (fn := Try.f95) (c := c_spec_l13At) hC hΦ Try.func95 (by kernel_rfl) (by kernel_rfl) (loops_spec_l13At (N := N) hC hΦ) rfl rfl ?_
  unfold f_spec_l13At at h
  obtain ⟨v'1, l'2, rfl, h1⟩ := asCons_some h
  obtain ⟨e_1, f_2, rfl, h2⟩ := asList_some h1
  obtain ⟨v'3, l'4, rfl, h3⟩ := asCons_some h2
  obtain ⟨x_3, rfl, h4⟩ := asInt_some h3
  obtain ⟨v'5, l'6, rfl, h5⟩ := asCons_some h4
  obtain ⟨x_4, rfl, h6⟩ := asInt_some h5
  obtain ⟨rfl, h7⟩ := asNil_some h6
  obtain ⟨_, h8⟩ := asEnd_some h7
  rw [b_spec_l13At, ← g_spec_l13At_eq]
  exact h8

/-! ### loop.example/g00756/spec.IsOrderly -/
noncomputable def f_spec_IsOrderly (N : Nat) : (R : Type) → List V → S → (V → S → Option R) → Option R := fun _ vs s K =>
  asCons vs fun v'1 l'2 => asList 1 v'1 fun e_1 f_2 => asCons l'2 fun v'3 l'4 => asList 3 v'3 fun e_3 f_4 => asNil l'4 <| asEnd s <| g_spec_IsOrderly N e_1 f_2 e_3 f_4 fun b_5 b_6 => K (.tuple [.bool b_5, .bool b_6]) []
noncomputable def Φ_spec_IsOrderly (N : Nat) : Callee := (Φ_spec_l13At N).add 34 (f_spec_IsOrderly N)
noncomputable def c_spec_IsOrderly : Code := bodyOf Try.f34
noncomputable def b_spec_IsOrderly_0 : Code := (loopNo c_spec_IsOrderly [] 0).2
def ks_spec_IsOrderly_0 : List Nat := [2, 3, 4, 5, 6, 7, 8, 9, 10, 11, 12, 16, 17, 18, 19, 20, 21, 22, 23, 24, 25, 26, 27, 28, 29, 30, 31, 32, 33, 34, 35, 36, 37, 38, 39, 40, 41, 42, 43, 44, 45, 46, 47, 48, 49, 50, 51, 52, 53, 54, 55]
def kx_spec_IsOrderly_0 : List Nat := [2, 3, 6, 7, 8, 9, 10, 11, 12, 13, 14, 15, 16, 17, 18, 19, 20, 21, 22, 23, 24, 25, 26, 27, 28, 29, 30, 31, 32, 33, 34, 35, 36, 37, 38, 39, 40, 41, 42, 43, 44, 45, 46, 47, 48, 49, 50, 51, 52, 53, 54, 55]
def fr_spec_IsOrderly_0 (e_1 : List V) (f_2 : Fl) (e_3 : List V) (f_4 : Fl) (e_5 : List V) (f_6 : Fl) (x_7 : Int) (x_8 : Int) : List V := mkF 0 56 [(0, .list 1 e_1 f_2), (1, .list 3 e_3 f_4), (13, .list 1 e_5 f_6), (14, .int .i64 x_7), (15, .int .i64 x_8)]
theorem r_spec_IsOrderly_0 {R : Type} (N n : Nat) (e_1 : List V) (f_2 : Fl) (e_3 : List V) (f_4 : Fl) (e_5 : List V) (f_6 : Fl) (x_7 : Int) (x_8 : Int) (K : X → List V → S → Option R) :
  iter C (Φ_spec_l13At N) (noLooper) b_spec_IsOrderly_0 [0, 1, 0, 1, 1] false ks_spec_IsOrderly_0 kx_spec_IsOrderly_0 (n + 1) R (fr_spec_IsOrderly_0 e_1 f_2 e_3 f_4 e_5 f_6 x_7 x_8) [] K =
  l_spec_IsOrderly_0_step N e_1 f_2 e_3 f_4 e_5 f_6 x_7 (fun x_8 => iter C (Φ_spec_l13At N) (noLooper) b_spec_IsOrderly_0 [0, 1, 0, 1, 1] false ks_spec_IsOrderly_0 kx_spec_IsOrderly_0 n R (fr_spec_IsOrderly_0 e_1 f_2 e_3 f_4 e_5 f_6 x_7 x_8) [] K) x_8
    (fun _ => K .ret (mkF 0 56 [(0, .list 1 e_1 f_2), (1, .list 3 e_3 f_4), (4, .bool false), (5, .bool true)]) [])
    (fun _ => K (.exit 0) (mkF 0 56 [(0, .list 1 e_1 f_2), (1, .list 3 e_3 f_4)]) []) := by kernel_rfl
theorem w_spec_IsOrderly_0 {R : Type} (N : Nat) (e_1 : List V) (f_2 : Fl) (e_3 : List V) (f_4 : Fl) (e_5 : List V) (f_6 : Fl) (x_7 : Int) (K : X → List V → S → Option R) : ∀ (n : Nat) (x_8 : Int),
  iter C (Φ_spec_l13At N) (noLooper) b_spec_IsOrderly_0 [0, 1, 0, 1, 1] false ks_spec_IsOrderly_0 kx_spec_IsOrderly_0 n R (fr_spec_IsOrderly_0 e_1 f_2 e_3 f_4 e_5 f_6 x_7 x_8) [] K = l_spec_IsOrderly_0 N e_1 f_2 e_3 f_4 e_5 f_6 x_7
    (fun _ => K .ret (mkF 0 56 [(0, .list 1 e_1 f_2), (1, .list 3 e_3 f_4), (4, .bool false), (5, .bool true)]) [])
    (fun _ => K (.exit 0) (mkF 0 56 [(0, .list 1 e_1 f_2), (1, .list 3 e_3 f_4)]) []) n x_8
  | 0, _ => rfl
  | n + 1, x_8 => (r_spec_IsOrderly_0 N n e_1 f_2 e_3 f_4 e_5 f_6 x_7 x_8 K).trans (congrArg (fun nx => l_spec_IsOrderly_0_step N e_1 f_2 e_3 f_4 e_5 f_6 x_7 nx x_8
    (fun _ => K .ret (mkF 0 56 [(0, .list 1 e_1 f_2), (1, .list 3 e_3 f_4), (4, .bool false), (5, .bool true)]) [])
    (fun _ => K (.exit 0) (mkF 0 56 [(0, .list 1 e_1 f_2), (1, .list 3 e_3 f_4)]) [])) (funext fun x_8 => w_spec_IsOrderly_0 N e_1 f_2 e_3 f_4 e_5 f_6 x_7 K n x_8))
def i_spec_IsOrderly_0 {R : Type} (E : List V) (s : S) (k : List V → Fl → List V → Fl → List V → Fl → Int → Int → Option R) : Option R :=
  guardB (frameOk 56 [0, 1, 13, 14, 15] E) <| must (nth E 0) fun u0 => asList 1 u0 fun e_1 f_2 => must (nth E 1) fun u1 => asList 3 u1 fun e_3 f_4 => must (nth E 13) fun u13 => asList 1 u13 fun e_5 f_6 => must (nth E 14) fun u14 => asInt .i64 u14 fun x_7 => must (nth E 15) fun u15 => asInt .i64 u15 fun x_8 => asEnd s <| k e_1 f_2 e_3 f_4 e_5 f_6 x_7 x_8
theorem i_spec_IsOrderly_0_spec {R : Type} {E : List V} {s : S} {k : List V → Fl → List V → Fl → List V → Fl → Int → Int → Option R} {r : R} (h : i_spec_IsOrderly_0 E s k = some r) : ∃ e_1 f_2 e_3 f_4 e_5 f_6 x_7 x_8, E = fr_spec_IsOrderly_0 e_1 f_2 e_3 f_4 e_5 f_6 x_7 x_8 ∧ s = [] ∧ k e_1 f_2 e_3 f_4 e_5 f_6 x_7 x_8 = some r := by
  unfold i_spec_IsOrderly_0 at h
  obtain ⟨hg, h1⟩ := guardB_some h
  obtain ⟨u0, hu0, h2⟩ := must_some h1
  obtain ⟨e_1, f_2, rfl, h3⟩ := asList_some h2
  obtain ⟨u1, hu1, h4⟩ := must_some h3
  obtain ⟨e_3, f_4, rfl, h5⟩ := asList_some h4
  obtain ⟨u13, hu13, h6⟩ := must_some h5
  obtain ⟨e_5, f_6, rfl, h7⟩ := asList_some h6
  obtain ⟨u14, hu14, h8⟩ := must_some h7
  obtain ⟨x_7, rfl, h9⟩ := asInt_some h8
  obtain ⟨u15, hu15, h10⟩ := must_some h9
  obtain ⟨x_8, rfl, h11⟩ := asInt_some h10
  obtain ⟨rfl, h12⟩ := asEnd_some h11
  exact ⟨e_1, f_2, e_3, f_4, e_5, f_6, x_7, x_8, frame_is hg rfl (slots_cons hu0 (slots_cons hu1 (slots_cons hu13 (slots_cons hu14 (slots_cons hu15 slots_nil))))), rfl, h12⟩
noncomputable def Λ_spec_IsOrderly_0 (N : Nat) : Looper := (noLooper).add [0, 1, 0, 1, 1] fun _ E s K => i_spec_IsOrderly_0 (killE ks_spec_IsOrderly_0 E) s fun e_1 f_2 e_3 f_4 e_5 f_6 x_7 x_8 => l_spec_IsOrderly_0 N e_1 f_2 e_3 f_4 e_5 f_6 x_7
    (fun _ => K .ret (mkF 0 56 [(0, .list 1 e_1 f_2), (1, .list 3 e_3 f_4), (4, .bool false), (5, .bool true)]) [])
    (fun _ => K (.exit 0) (mkF 0 56 [(0, .list 1 e_1 f_2), (1, .list 3 e_3 f_4)]) []) N x_8
theorem in_spec_IsOrderly_0 : loopsAt b_spec_IsOrderly_0 (0 :: [0, 1, 0, 1, 1]) = [] := by kernel_rfl
theorem ok_spec_IsOrderly_0 {N : Nat} (hC : Ok Try.prog C) (hΦ : CalleeOk Try.prog C (Φ_spec_l13At N)) : LoopOk Try.prog C (Λ_spec_IsOrderly_0 N) b_spec_IsOrderly_0 [0, 1, 0, 1, 1] :=
  iter_ok (Λi := noLooper) (tr := false) (ks := ks_spec_IsOrderly_0) (kx := kx_spec_IsOrderly_0) (N := N) hC hΦ
    (loopsOk_of b_spec_IsOrderly_0 _ (by
      rw [in_spec_IsOrderly_0]
      intro p hp
      cases hp))
    fun R E s K r h => by
      have h2 := Looper.add_self.symm.trans h
      obtain ⟨e_1, f_2, e_3, f_4, e_5, f_6, x_7, x_8, he, rfl, h3⟩ := i_spec_IsOrderly_0_spec h2
      rw [he, w_spec_IsOrderly_0]
      exact h3
theorem at_spec_IsOrderly : loopsAt c_spec_IsOrderly [] = [([0, 1, 0, 1, 1], b_spec_IsOrderly_0)] := by kernel_rfl
theorem b_spec_IsOrderly {R : Type} (N : Nat) (e_1 : List V) (f_2 : Fl) (e_3 : List V) (f_4 : Fl) (K : V → S → Option R) : bodyV C (Φ_spec_l13At N) (Λ_spec_IsOrderly_0 N) 34 Try.f34 [.list 1 e_1 f_2, .list 3 e_3 f_4] [] K =
  gb_spec_IsOrderly N e_1 f_2 e_3 f_4 (fun b_5 b_6 => K (.tuple [.bool b_5, .bool b_6]) []) := by kernel_rfl
theorem loops_spec_IsOrderly {N : Nat} (hC : Ok Try.prog C) (hΦ : CalleeOk Try.prog C (Φ_spec_l13At N)) : LoopsOk Try.prog C (Λ_spec_IsOrderly_0 N) c_spec_IsOrderly [] :=
  loopsOk_of c_spec_IsOrderly [] (by
    rw [at_spec_IsOrderly]
    intro p hp
    simp only [List.mem_cons, List.mem_nil_iff, or_false] at hp
    rcases hp with rfl
    · exact (ok_spec_IsOrderly_0 hC hΦ))
theorem callee_spec_IsOrderly (hC : Ok Try.prog C) {N : Nat} (hΦ : CalleeOk Try.prog C (Φ_spec_l13At N)) : CalleeOk Try.prog C (Φ_spec_IsOrderly N) := by
  refine hΦ.add_pure rfl fun R vs K r h => body_pure (fn := Try.f34) (c := c_spec_IsOrderly) hC hΦ Try.func34 (by kernel_rfl) (by kernel_rfl) (loops_spec_IsOrderly (N := N) hC hΦ) rfl rfl ?_
  unfold f_spec_IsOrderly at h
  obtain ⟨v'1, l'2, rfl, h1⟩ := asCons_some h
  obtain ⟨e_1, f_2, rfl, h2⟩ := asList_some h1
  obtain ⟨v'3, l'4, rfl, h3⟩ := asCons_some h2
  obtain ⟨e_3, f_4, rfl, h4⟩ := asList_some h3
  obtain ⟨rfl, h5⟩ := asNil_some h4
  obtain ⟨_, h6⟩ := asEnd_some h5
  rw [b_spec_IsOrderly, ← g_spec_IsOrderly_eq]
  exact h6

/-! ### loop.example/g00756/laws.toEvent -/
noncomputable def f_laws_toEvent (N : Nat) : (R : Type) → List V → S → (V → S → Option R) → Option R := fun _ vs s K =>
  asCons vs fun v'1 l'2 => asAgg v'1 fun c'3 => asCons c'3 fun v'4 l'5 => asInt .i64 v'4 fun x_1 => asCons l'5 fun v'6 l'7 => asInt .i64 v'6 fun x_2 => asCons l'7 fun v'8 l'9 => asInt .i64 v'8 fun x_3 => asNil l'9 <| asNil l'2 <| asEnd s <| g_laws_toEvent N x_1 x_2 x_3 fun x_4 x_5 x_6 => K (.agg [.int .i64 x_4, .int .i64 x_5, .int .i64 x_6]) []
noncomputable def Φ_laws_toEvent (N : Nat) : Callee := (Φ_spec_IsOrderly N).add 96 (f_laws_toEvent N)
noncomputable def c_laws_toEvent : Code := bodyOf Try.f96
theorem at_laws_toEvent : loopsAt c_laws_toEvent [] = [] := by kernel_rfl
theorem b_laws_toEvent {R : Type} (N : Nat) (x_1 : Int) (x_2 : Int) (x_3 : Int) (K : V → S → Option R) : bodyV C (Φ_spec_IsOrderly N) (noLooper) 96 Try.f96 [.agg [.int .i64 x_1, .int .i64 x_2, .int .i64 x_3]] [] K =
  gb_laws_toEvent N x_1 x_2 x_3 (fun x_4 x_5 x_6 => K (.agg [.int .i64 x_4, .int .i64 x_5, .int .i64 x_6]) []) := by kernel_rfl
theorem loops_laws_toEvent {N : Nat} (hC : Ok Try.prog C) (hΦ : CalleeOk Try.prog C (Φ_spec_IsOrderly N)) : LoopsOk Try.prog C (noLooper) c_laws_toEvent [] :=
  loopsOk_of c_laws_toEvent [] (by
    rw [at_laws_toEvent]
    intro p hp
    cases hp)
theorem callee_laws_toEvent (hC : Ok Try.prog C) {N : Nat} (hΦ : CalleeOk Try.prog C (Φ_spec_IsOrderly N)) : CalleeOk Try.prog C (Φ_laws_toEvent N) := by
  refine hΦ.add_pure rfl fun R vs K r h => body_pure (fn := Try.f96) (c := c_laws_toEvent) hC hΦ Try.func96 (by kernel_rfl) (by kernel_rfl) (loops_laws_toEvent (N := N) hC hΦ) rfl rfl ?_
  unfold f_laws_toEvent at h
  obtain ⟨v'1, l'2, rfl, h1⟩ := asCons_some h
  obtain ⟨c'3, rfl, h2⟩ := asAgg_some h1
  obtain ⟨v'4, l'5, rfl, h3⟩ := asCons_some h2
  obtain ⟨x_1, rfl, h4⟩ := asInt_some h3
  obtain ⟨v'6, l'7, rfl, h5⟩ := asCons_some h4
  obtain ⟨x_2, rfl, h6⟩ := asInt_some h5
  obtain ⟨v'8, l'9, rfl, h7⟩ := asCons_some h6
  obtain ⟨x_3, rfl, h8⟩ := asInt_some h7
  obtain ⟨rfl, h9⟩ := asNil_some h8
  obtain ⟨rfl, h10⟩ := asNil_some h9
  obtain ⟨_, h11⟩ := asEnd_some h10
  rw [b_laws_toEvent, ← g_laws_toEvent_eq]
  exact h11

/-! ### loop.example/g00756/laws.toEventS -/
noncomputable def f_laws_toEventS (N : Nat) : (R : Type) → List V → S → (V → S → Option R) → Option R := fun _ vs s K =>
  asCons vs fun v'1 l'2 => asList 3 v'1 fun e_1 f_2 => asNil l'2 <| asEnd s <| g_laws_toEventS N e_1 f_2 fun e_3 => K (.list 3 e_3 .sh) []
noncomputable def Φ_laws_toEventS (N : Nat) : Callee := (Φ_laws_toEvent N).add 35 (f_laws_toEventS N)
noncomputable def c_laws_toEventS : Code := bodyOf Try.f35
noncomputable def b_laws_toEventS_0 : Code := (loopNo c_laws_toEventS [] 0).2
def ks_laws_toEventS_0 : List Nat := [1, 2, 5, 6, 7, 8, 9, 10, 11, 12, 13, 14, 15, 16, 17, 18, 19, 20, 21, 22]
def kx_laws_toEventS_0 : List Nat := [0, 1, 2, 4, 5, 6, 7, 8, 9, 10, 11, 12, 13, 14, 15, 16, 17, 18, 19, 20, 21, 22]
def fr_laws_toEventS_0 (e_1 : List V) (f_2 : Fl) (k_3 : Nat) (x_4 : Int) (e_5 : List V) : List V := mkF 0 23 [(0, .list 3 e_1 f_2), (3, .arr 0 0 0 k_3), (4, .int .i64 x_4)]
theorem r_laws_toEventS_0 {R : Type} (N n : Nat) (e_1 : List V) (f_2 : Fl) (k_3 : Nat) (x_4 : Int) (e_5 : List V) (K : X → List V → S → Option R) :
  iter C (Φ_laws_toEvent N) (noLooper) b_laws_toEventS_0 [0, 1, 0, 1, 1] false ks_laws_toEventS_0 kx_laws_toEventS_0 (n + 1) R (fr_laws_toEventS_0 e_1 f_2 k_3 x_4 e_5) [some ⟨e_5, 3, 104, 0⟩] K =
  l_laws_toEventS_0_step N e_1 f_2 k_3 (fun x_4 e_5 => iter C (Φ_laws_toEvent N) (noLooper) b_laws_toEventS_0 [0, 1, 0, 1, 1] false ks_laws_toEventS_0 kx_laws_toEventS_0 n R (fr_laws_toEventS_0 e_1 f_2 k_3 x_4 e_5) [some ⟨e_5, 3, 104, 0⟩] K) x_4 e_5
    (fun e_1' => K (.exit 0) (mkF 0 23 [(3, .arr 0 0 0 k_3)]) [some ⟨e_1', 3, 104, 0⟩]) := by kernel_rfl
theorem w_laws_toEventS_0 {R : Type} (N : Nat) (e_1 : List V) (f_2 : Fl) (k_3 : Nat) (K : X → List V → S → Option R) : ∀ (n : Nat) (x_4 : Int) (e_5 : List V),
  iter C (Φ_laws_toEvent N) (noLooper) b_laws_toEventS_0 [0, 1, 0, 1, 1] false ks_laws_toEventS_0 kx_laws_toEventS_0 n R (fr_laws_toEventS_0 e_1 f_2 k_3 x_4 e_5) [some ⟨e_5, 3, 104, 0⟩] K = l_laws_toEventS_0 N e_1 f_2 k_3
    (fun e_1' => K (.exit 0) (mkF 0 23 [(3, .arr 0 0 0 k_3)]) [some ⟨e_1', 3, 104, 0⟩]) n x_4 e_5
  | 0, _, _ => rfl
  | n + 1, x_4, e_5 => (r_laws_toEventS_0 N n e_1 f_2 k_3 x_4 e_5 K).trans (congrArg (fun nx => l_laws_toEventS_0_step N e_1 f_2 k_3 nx x_4 e_5
    (fun e_1' => K (.exit 0) (mkF 0 23 [(3, .arr 0 0 0 k_3)]) [some ⟨e_1', 3, 104, 0⟩])) (funext fun x_4 => funext fun e_5 => w_laws_toEventS_0 N e_1 f_2 k_3 K n x_4 e_5))
def i_laws_toEventS_0 {R : Type} (E : List V) (s : S) (k : List V → Fl → Nat → Int → List V → Option R) : Option R :=
  guardB (frameOk 23 [0, 3, 4] E) <| must (nth E 0) fun u0 => asList 3 u0 fun e_1 f_2 => must (nth E 3) fun u3 => asArr u3 fun k'1 k'2 k'3 k_3 => isN k'1 0 <| isN k'2 0 <| isN k'3 0 <| must (nth E 4) fun u4 => asInt .i64 u4 fun x_4 => asOb s fun o'4 s'5 => obIs o'4 3 104 fun e_5 k'6 => isN k'6 0 <| asEnd s'5 <| k e_1 f_2 k_3 x_4 e_5
theorem i_laws_toEventS_0_spec {R : Type} {E : List V} {s : S} {k : List V → Fl → Nat → Int → List V → Option R} {r : R} (h : i_laws_toEventS_0 E s k = some r) : ∃ e_1 f_2 k_3 x_4 e_5, E = fr_laws_toEventS_0 e_1 f_2 k_3 x_4 e_5 ∧ s = [some ⟨e_5, 3, 104, 0⟩] ∧ k e_1 f_2 k_3 x_4 e_5 = some r := by
  unfold i_laws_toEventS_0 at h
  obtain ⟨hg, h1⟩ := guardB_some h
  obtain ⟨u0, hu0, h2⟩ := must_some h1
  obtain ⟨e_1, f_2, rfl, h3⟩ := asList_some h2
  obtain ⟨u3, hu3, h4⟩ := must_some h3
  obtain ⟨k'1, k'2, k'3, k_3, rfl, h5⟩ := asArr_some h4
  obtain ⟨rfl, h6⟩ := isN_some h5
  obtain ⟨rfl, h7⟩ := isN_some h6
  obtain ⟨rfl, h8⟩ := isN_some h7
  obtain ⟨u4, hu4, h9⟩ := must_some h8
  obtain ⟨x_4, rfl, h10⟩ := asInt_some h9
  obtain ⟨o'4, s'5, rfl, h11⟩ := asOb_some h10
  obtain ⟨e_5, k'6, rfl, h12⟩ := obIs_some h11
  obtain ⟨rfl, h13⟩ := isN_some h12
  obtain ⟨rfl, h14⟩ := asEnd_some h13
  exact ⟨e_1, f_2, k_3, x_4, e_5, frame_is hg rfl (slots_cons hu0 (slots_cons hu3 (slots_cons hu4 slots_nil))), rfl, h14⟩
noncomputable def Λ_laws_toEventS_0 (N : Nat) : Looper := (noLooper).add [0, 1, 0, 1, 1] fun _ E s K => i_laws_toEventS_0 (killE ks_laws_toEventS_0 E) s fun e_1 f_2 k_3 x_4 e_5 => l_laws_toEventS_0 N e_1 f_2 k_3
    (fun e_1' => K (.exit 0) (mkF 0 23 [(3, .arr 0 0 0 k_3)]) [some ⟨e_1', 3, 104, 0⟩]) N x_4 e_5
theorem in_laws_toEventS_0 : loopsAt b_laws_toEventS_0 (0 :: [0, 1, 0, 1, 1]) = [] := by kernel_rfl
theorem ok_laws_toEventS_0 {N : Nat} (hC : Ok Try.prog C) (hΦ : CalleeOk Try.prog C (Φ_laws_toEvent N)) : LoopOk Try.prog C (Λ_laws_toEventS_0 N) b_laws_toEventS_0 [0, 1, 0, 1, 1] :=
  iter_ok (Λi := noLooper) (tr := false) (ks := ks_laws_toEventS_0) (kx := kx_laws_toEventS_0) (N := N) hC hΦ
    (loopsOk_of b_laws_toEventS_0 _ (by
      rw [in_laws_toEventS_0]
      intro p hp
      cases hp))
    fun R E s K r h => by
      have h2 := Looper.add_self.symm.trans h
      obtain ⟨e_1, f_2, k_3, x_4, e_5, he, rfl, h3⟩ := i_laws_toEventS_0_spec h2
      rw [he, w_laws_toEventS_0]
      exact h3
theorem at_laws_toEventS : loopsAt c_laws_toEventS [] = [([0, 1, 0, 1, 1], b_laws_toEventS_0)] := by kernel_rfl
theorem b_laws_toEventS {R : Type} (N : Nat) (e_1 : List V) (f_2 : Fl) (K : V → S → Option R) : bodyV C (Φ_laws_toEvent N) (Λ_laws_toEventS_0 N) 35 Try.f35 [.list 3 e_1 f_2] [] K =
  gb_laws_toEventS N e_1 f_2 (fun e_3 => K (.list 3 e_3 .sh) []) := by kernel_rfl
theorem loops_laws_toEventS {N : Nat} (hC : Ok Try.prog C) (hΦ : CalleeOk Try.prog C (Φ_laws_toEvent N)) : LoopsOk Try.prog C (Λ_laws_toEventS_0 N) c_laws_toEventS [] :=
  loopsOk_of c_laws_toEventS [] (by
    rw [at_laws_toEventS]
    intro p hp
    simp only [List.mem_cons, List.mem_nil_iff, or_false] at hp
    rcases hp with rfl
    · exact (ok_laws_toEventS_0 hC hΦ))
theorem callee_laws_toEventS (hC : Ok Try.prog C) {N : Nat} (hΦ : CalleeOk Try.prog C (Φ_laws_toEvent N)) : CalleeOk Try.prog C (Φ_laws_toEventS N) := by
  refine hΦ.add_pure rfl fun R vs K r h => body_pure (fn := Try.f35) (c := c_laws_toEventS) hC hΦ Try.func35 (by kernel_rfl) (by kernel_rfl) (loops_laws_toEventS (N := N) hC hΦ) rfl rfl ?_
  unfold f_laws_toEventS at h
  obtain ⟨v'1, l'2, rfl, h1⟩ := asCons_some h
  obtain ⟨e_1, f_2, rfl, h2⟩ := asList_some h1
  obtain ⟨rfl, h3⟩ := asNil_some h2
  obtain ⟨_, h4⟩ := asEnd_some h3
  rw [b_laws_toEventS, ← g_laws_toEventS_eq]
  exact h4

/-! ### loop.example/g00756/impl.within -/
noncomputable def f_impl_within (N : Nat) : (R : Type) → List V → S → (V → S → Option R) → Option R := fun _ vs s K =>
  asCons vs fun v'1 l'2 => asInt .i64 v'1 fun x_1 => asCons l'2 fun v'3 l'4 => asInt .i64 v'3 fun x_2 => asCons l'4 fun v'5 l'6 => asInt .i64 v'5 fun x_3 => asNil l'6 <| asEnd s <| g_impl_within N x_1 x_2 x_3 fun b_4 => K (.bool b_4) []
noncomputable def Φ_impl_within (N : Nat) : Callee := (Φ_laws_toEventS N).add 82 (f_impl_within N)
noncomputable def c_impl_within : Code := bodyOf Try.f82
theorem at_impl_within : loopsAt c_impl_within [] = [] := by kernel_rfl
theorem b_impl_within {R : Type} (N : Nat) (x_1 : Int) (x_2 : Int) (x_3 : Int) (K : V → S → Option R) : bodyV C (Φ_laws_toEventS N) (noLooper) 82 Try.f82 [.int .i64 x_1, .int .i64 x_2, .int .i64 x_3] [] K =
  gb_impl_within N x_1 x_2 x_3 (fun b_4 => K (.bool b_4) []) := by kernel_rfl
theorem loops_impl_within {N : Nat} (hC : Ok Try.prog C) (hΦ : CalleeOk Try.prog C (Φ_laws_toEventS N)) : LoopsOk Try.prog C (noLooper) c_impl_within [] :=
  loopsOk_of c_impl_within [] (by
    rw [at_impl_within]
    intro p hp
    cases hp)
theorem callee_impl_within (hC : Ok Try.prog C) {N : Nat} (hΦ : CalleeOk Try.prog C (Φ_laws_toEventS N)) : CalleeOk Try.prog C (Φ_impl_within N) := by
  refine hΦ.add_pure rfl fun R vs K r h => body_pure (fn := Try.f82) (c := c_impl_within) hC hΦ Try.func82 (by kernel_rfl) (by kernel_rfl) (loops_impl_within (N := N) hC hΦ) rfl rfl ?_
  unfold f_impl_within at h
  obtain ⟨v'1, l'2, rfl, h1⟩ := asCons_some h
  obtain ⟨x_1, rfl, h2⟩ := asInt_some h1
  obtain ⟨v'3, l'4, rfl, h3⟩ := asCons_some h2
  obtain ⟨x_2, rfl, h4⟩ := asInt_some h3
  obtain ⟨v'5, l'6, rfl, h5⟩ := asCons_some h4
  obtain ⟨x_3, rfl, h6⟩ := asInt_some h5
  obtain ⟨rfl, h7⟩ := asNil_some h6
  obtain ⟨_, h8⟩ := asEnd_some h7
  rw [b_impl_within, ← g_impl_within_eq]
  exact h8

/-! ### loop.example/g00756/impl.GoodForest -/
noncomputable def f_impl_GoodForest (N : Nat) : (R : Type) → List V → S → (V → S → Option R) → Option R := fun _ vs s K =>
  asCons vs fun v'1 l'2 => asList 1 v'1 fun e_1 f_2 => asNil l'2 <| asEnd s <| g_impl_GoodForest N e_1 f_2 fun b_3 => K (.bool b_3) []
noncomputable def Φ_impl_GoodForest (N : Nat) : Callee := (Φ_impl_within N).add 17 (f_impl_GoodForest N)
noncomputable def c_impl_GoodForest : Code := bodyOf Try.f17
noncomputable def b_impl_GoodForest_0 : Code := (loopNo c_impl_GoodForest [] 0).2
def ks_impl_GoodForest_0 : List Nat := [1, 2, 3, 4, 8, 9, 10, 11, 12, 13, 14, 15, 16, 17, 18, 19, 20]
def kx_impl_GoodForest_0 : List Nat := [1, 3, 4, 5, 6, 7, 8, 9, 10, 11, 12, 13, 14, 15, 16, 17, 18, 19, 20]
def fr_impl_GoodForest_0 (e_1 : List V) (f_2 : Fl) (e_3 : List V) (f_4 : Fl) (x_5 : Int) (x_6 : Int) : List V := mkF 0 21 [(0, .list 1 e_1 f_2), (5, .list 1 e_3 f_4), (6, .int .i64 x_5), (7, .int .i64 x_6)]
theorem r_impl_GoodForest_0 {R : Type} (N n : Nat) (e_1 : List V) (f_2 : Fl) (e_3 : List V) (f_4 : Fl) (x_5 : Int) (x_6 : Int) (K : X → List V → S → Option R) :
  iter C (Φ_impl_within N) (noLooper) b_impl_GoodForest_0 [0, 1, 0, 1] false ks_impl_GoodForest_0 kx_impl_GoodForest_0 (n + 1) R (fr_impl_GoodForest_0 e_1 f_2 e_3 f_4 x_5 x_6) [] K =
  l_impl_GoodForest_0_step N e_1 f_2 e_3 f_4 x_5 (fun x_6 => iter C (Φ_impl_within N) (noLooper) b_impl_GoodForest_0 [0, 1, 0, 1] false ks_impl_GoodForest_0 kx_impl_GoodForest_0 n R (fr_impl_GoodForest_0 e_1 f_2 e_3 f_4 x_5 x_6) [] K) x_6
    (fun _ => K .ret (mkF 0 21 [(0, .list 1 e_1 f_2), (2, .bool false)]) [])
    (fun _ => K (.exit 0) (mkF 0 21 [(0, .list 1 e_1 f_2)]) []) := by kernel_rfl
theorem w_impl_GoodForest_0 {R : Type} (N : Nat) (e_1 : List V) (f_2 : Fl) (e_3 : List V) (f_4 : Fl) (x_5 : Int) (K : X → List V → S → Option R) : ∀ (n : Nat) (x_6 : Int),
  iter C (Φ_impl_within N) (noLooper) b_impl_GoodForest_0 [0, 1, 0, 1] false ks_impl_GoodForest_0 kx_impl_GoodForest_0 n R (fr_impl_GoodForest_0 e_1 f_2 e_3 f_4 x_5 x_6) [] K = l_impl_GoodForest_0 N e_1 f_2 e_3 f_4 x_5
    (fun _ => K .ret (mkF 0 21 [(0, .list 1 e_1 f_2), (2, .bool false)]) [])
    (fun _ => K (.exit 0) (mkF 0 21 [(0, .list 1 e_1 f_2)]) []) n x_6
  | 0, _ => rfl
  | n + 1, x_6 => (r_impl_GoodForest_0 N n e_1 f_2 e_3 f_4 x_5 x_6 K).trans (congrArg (fun nx => l_impl_GoodForest_0_step N e_1 f_2 e_3 f_4 x_5 nx x_6
    (fun _ => K .ret (mkF 0 21 [(0, .list 1 e_1 f_2), (2, .bool false)]) [])
    (fun _ => K (.exit 0) (mkF 0 21 [(0, .list 1 e_1 f_2)]) [])) (funext fun x_6 => w_impl_GoodForest_0 N e_1 f_2 e_3 f_4 x_5 K n x_6))
def i_impl_GoodForest_0 {R : Type} (E : List V) (s : S) (k : List V → Fl → List V → Fl → Int → Int → Option R) : Option R :=
  guardB (frameOk 21 [0, 5, 6, 7] E) <| must (nth E 0) fun u0 => asList 1 u0 fun e_1 f_2 => must (nth E 5) fun u5 => asList 1 u5 fun e_3 f_4 => must (nth E 6) fun u6 => asInt .i64 u6 fun x_5 => must (nth E 7) fun u7 => asInt .i64 u7 fun x_6 => asEnd s <| k e_1 f_2 e_3 f_4 x_5 x_6
theorem i_impl_GoodForest_0_spec {R : Type} {E : List V} {s : S} {k : List V → Fl → List V → Fl → Int → Int → Option R} {r : R} (h : i_impl_GoodForest_0 E s k = some r) : ∃ e_1 f_2 e_3 f_4 x_5 x_6, E = fr_impl_GoodForest_0 e_1 f_2 e_3 f_4 x_5 x_6 ∧ s = [] ∧ k e_1 f_2 e_3 f_4 x_5 x_6 = some r := by
  unfold i_impl_GoodForest_0 at h
  obtain ⟨hg, h1⟩ := guardB_some h
  obtain ⟨u0, hu0, h2⟩ := must_some h1
  obtain ⟨e_1, f_2, rfl, h3⟩ := asList_some h2
  obtain ⟨u5, hu5, h4⟩ := must_some h3
  obtain ⟨e_3, f_4, rfl, h5⟩ := asList_some h4
  obtain ⟨u6, hu6, h6⟩ := must_some h5
  obtain ⟨x_5, rfl, h7⟩ := asInt_some h6
  obtain ⟨u7, hu7, h8⟩ := must_some h7
  obtain ⟨x_6, rfl, h9⟩ := asInt_some h8
  obtain ⟨rfl, h10⟩ := asEnd_some h9
  exact ⟨e_1, f_2, e_3, f_4, x_5, x_6, frame_is hg rfl (slots_cons hu0 (slots_cons hu5 (slots_cons hu6 (slots_cons hu7 slots_nil)))), rfl, h10⟩
noncomputable def Λ_impl_GoodForest_0 (N : Nat) : Looper := (noLooper).add [0, 1, 0, 1] fun _ E s K => i_impl_GoodForest_0 (killE ks_impl_GoodForest_0 E) s fun e_1 f_2 e_3 f_4 x_5 x_6 => l_impl_GoodForest_0 N e_1 f_2 e_3 f_4 x_5
    (fun _ => K .ret (mkF 0 21 [(0, .list 1 e_1 f_2), (2, .bool false)]) [])
    (fun _ => K (.exit 0) (mkF 0 21 [(0, .list 1 e_1 f_2)]) []) N x_6
theorem in_impl_GoodForest_0 : loopsAt b_impl_GoodForest_0 (0 :: [0, 1, 0, 1]) = [] := by kernel_rfl
theorem ok_impl_GoodForest_0 {N : Nat} (hC : Ok Try.prog C) (hΦ : CalleeOk Try.prog C (Φ_impl_within N)) : LoopOk Try.prog C (Λ_impl_GoodForest_0 N) b_impl_GoodForest_0 [0, 1, 0, 1] :=
  iter_ok (Λi := noLooper) (tr := false) (ks := ks_impl_GoodForest_0) (kx := kx_impl_GoodForest_0) (N := N) hC hΦ
    (loopsOk_of b_impl_GoodForest_0 _ (by
      rw [in_impl_GoodForest_0]
      intro p hp
      cases hp))
    fun R E s K r h => by
      have h2 := Looper.add_self.symm.trans h
      obtain ⟨e_1, f_2, e_3, f_4, x_5, x_6, he, rfl, h3⟩ := i_impl_GoodForest_0_spec h2
      rw [he, w_impl_GoodForest_0]
      exact h3
theorem at_impl_GoodForest : loopsAt c_impl_GoodForest [] = [([0, 1, 0, 1], b_impl_GoodForest_0)] := by kernel_rfl
theorem b_impl_GoodForest {R : Type} (N : Nat) (e_1 : List V) (f_2 : Fl) (K : V → S → Option R) : bodyV C (Φ_impl_within N) (Λ_impl_GoodForest_0 N) 17 Try.f17 [.list 1 e_1 f_2] [] K =
  gb_impl_GoodForest N e_1 f_2 (fun b_3 => K (.bool b_3) []) := by kernel_rfl
theorem loops_impl_GoodForest {N : Nat} (hC : Ok Try.prog C) (hΦ : CalleeOk Try.prog C (Φ_impl_within N)) : LoopsOk Try.prog C (Λ_impl_GoodForest_0 N) c_impl_GoodForest [] :=
  loopsOk_of c_impl_GoodForest [] (by
    rw [at_impl_GoodForest]
    intro p hp
    simp only [List.mem_cons, List.mem_nil_iff, or_false] at hp
    rcases hp with rfl
    · exact (ok_impl_GoodForest_0 hC hΦ))
theorem callee_impl_GoodForest (hC : Ok Try.prog C) {N : Nat} (hΦ : CalleeOk Try.prog C (Φ_impl_within N)) : CalleeOk Try.prog C (Φ_impl_GoodForest N) := by
  refine hΦ.add_pure rfl fun R vs K r h => body_pure (fn := Try.f17) (c := c_impl_GoodForest) hC hΦ Try.func17 (by kernel_rfl) (by kernel_rfl) (loops_impl_GoodForest (N := N) hC hΦ) rfl rfl ?_
  unfold f_impl_GoodForest at h
  obtain ⟨v'1, l'2, rfl, h1⟩ := asCons_some h
  obtain ⟨e_1, f_2, rfl, h2⟩ := asList_some h1
  obtain ⟨rfl, h3⟩ := asNil_some h2
  obtain ⟨_, h4⟩ := asEnd_some h3
  rw [b_impl_GoodForest, ← g_impl_GoodForest_eq]
  exact h4

/-! ### loop.example/g00756/impl.belowIn -/
noncomputable def f_impl_belowIn (N : Nat) : (R : Type) → List V → S → (V → S → Option R) → Option R := fun _ vs s K =>
  asCons vs fun v'1 l'2 => asList 1 v'1 fun e_1 f_2 => asCons l'2 fun v'3 l'4 => asInt .i64 v'3 fun x_3 => asNil l'4 <| asEnd s <| g_impl_belowIn N e_1 f_2 x_3 fun e_4 => K (.list 1 e_4 .sh) []
noncomputable def Φ_impl_belowIn (N : Nat) : Callee := (Φ_impl_GoodForest N).add 85 (f_impl_belowIn N)
noncomputable def c_impl_belowIn : Code := bodyOf Try.f85
noncomputable def b_impl_belowIn_0 : Code := (loopNo c_impl_belowIn [] 0).2
def ks_impl_belowIn_0 : List Nat := [0, 2, 3, 4, 6, 7, 8, 12, 13, 14, 15, 16, 17, 18, 19, 20, 21, 22, 23, 24]
def kx_impl_belowIn_0 : List Nat := [0, 1, 2, 3, 4, 6, 7, 8, 9, 10, 11, 12, 13, 14, 15, 16, 17, 18, 19, 20, 21, 22, 23, 24]
def fr_impl_belowIn_0 (x_1 : Int) (e_3 : List V) (f_4 : Fl) (x_5 : Int) (e_2 : List V) (x_6 : Int) : List V := mkF 0 25 [(1, .int .i64 x_1), (5, .list 1 e_2 (.own 3)), (9, .list 1 e_3 f_4), (10, .int .i64 x_5), (11, .int .i64 x_6)]
theorem r_impl_belowIn_0 {R : Type} (N n : Nat) (x_1 : Int) (e_3 : List V) (f_4 : Fl) (x_5 : Int) (e_2 : List V) (x_6 : Int) (K : X → List V → S → Option R) :
  iter C (Φ_impl_GoodForest N) (noLooper) b_impl_belowIn_0 [0, 1, 0, 1, 1] false ks_impl_belowIn_0 kx_impl_belowIn_0 (n + 1) R (fr_impl_belowIn_0 x_1 e_3 f_4 x_5 e_2 x_6) [] K =
  l_impl_belowIn_0_step N x_1 e_3 f_4 x_5 (fun e_2 x_6 => iter C (Φ_impl_GoodForest N) (noLooper) b_impl_belowIn_0 [0, 1, 0, 1, 1] false ks_impl_belowIn_0 kx_impl_belowIn_0 n R (fr_impl_belowIn_0 x_1 e_3 f_4 x_5 e_2 x_6) [] K) e_2 x_6
    (fun e_1' => K (.exit 0) (mkF 0 25 [(5, .list 1 (e_1') (.own 3))]) []) := by kernel_rfl
theorem w_impl_belowIn_0 {R : Type} (N : Nat) (x_1 : Int) (e_3 : List V) (f_4 : Fl) (x_5 : Int) (K : X → List V → S → Option R) : ∀ (n : Nat) (e_2 : List V) (x_6 : Int),
  iter C (Φ_impl_GoodForest N) (noLooper) b_impl_belowIn_0 [0, 1, 0, 1, 1] false ks_impl_belowIn_0 kx_impl_belowIn_0 n R (fr_impl_belowIn_0 x_1 e_3 f_4 x_5 e_2 x_6) [] K = l_impl_belowIn_0 N x_1 e_3 f_4 x_5
    (fun e_1' => K (.exit 0) (mkF 0 25 [(5, .list 1 (e_1') (.own 3))]) []) n e_2 x_6
  | 0, _, _ => rfl
  | n + 1, e_2, x_6 => (r_impl_belowIn_0 N n x_1 e_3 f_4 x_5 e_2 x_6 K).trans (congrArg (fun nx => l_impl_belowIn_0_step N x_1 e_3 f_4 x_5 nx e_2 x_6
    (fun e_1' => K (.exit 0) (mkF 0 25 [(5, .list 1 (e_1') (.own 3))]) [])) (funext fun e_2 => funext fun x_6 => w_impl_belowIn_0 N x_1 e_3 f_4 x_5 K n e_2 x_6))
def i_impl_belowIn_0 {R : Type} (E : List V) (s : S) (k : Int → List V → List V → Fl → Int → Int → Option R) : Option R :=
  guardB (frameOk 25 [1, 5, 9, 10, 11] E) <| must (nth E 1) fun u1 => asInt .i64 u1 fun x_1 => must (nth E 5) fun u5 => asList 1 u5 fun e_2 f'1 => asOwn 3 f'1 <| must (nth E 9) fun u9 => asList 1 u9 fun e_3 f_4 => must (nth E 10) fun u10 => asInt .i64 u10 fun x_5 => must (nth E 11) fun u11 => asInt .i64 u11 fun x_6 => asEnd s <| k x_1 e_2 e_3 f_4 x_5 x_6
theorem i_impl_belowIn_0_spec {R : Type} {E : List V} {s : S} {k : Int → List V → List V → Fl → Int → Int → Option R} {r : R} (h : i_impl_belowIn_0 E s k = some r) : ∃ x_1 e_2 e_3 f_4 x_5 x_6, E = fr_impl_belowIn_0 x_1 e_3 f_4 x_5 e_2 x_6 ∧ s = [] ∧ k x_1 e_2 e_3 f_4 x_5 x_6 = some r := by
  unfold i_impl_belowIn_0 at h
  obtain ⟨hg, h1⟩ := guardB_some h
  obtain ⟨u1, hu1, h2⟩ := must_some h1
  obtain ⟨x_1, rfl, h3⟩ := asInt_some h2
  obtain ⟨u5, hu5, h4⟩ := must_some h3
  obtain ⟨e_2, f'1, rfl, h5⟩ := asList_some h4
  obtain ⟨rfl, h6⟩ := asOwn_some h5
  obtain ⟨u9, hu9, h7⟩ := must_some h6
  obtain ⟨e_3, f_4, rfl, h8⟩ := asList_some h7
  obtain ⟨u10, hu10, h9⟩ := must_some h8
  obtain ⟨x_5, rfl, h10⟩ := asInt_some h9
  obtain ⟨u11, hu11, h11⟩ := must_some h10
  obtain ⟨x_6, rfl, h12⟩ := asInt_some h11
  obtain ⟨rfl, h13⟩ := asEnd_some h12
  exact ⟨x_1, e_2, e_3, f_4, x_5, x_6, frame_is hg rfl (slots_cons hu1 (slots_cons hu5 (slots_cons hu9 (slots_cons hu10 (slots_cons hu11 slots_nil))))), rfl, h13⟩
noncomputable def Λ_impl_belowIn_0 (N : Nat) : Looper := (noLooper).add [0, 1, 0, 1, 1] fun _ E s K => i_impl_belowIn_0 (killE ks_impl_belowIn_0 E) s fun x_1 e_2 e_3 f_4 x_5 x_6 => l_impl_belowIn_0 N x_1 e_3 f_4 x_5
    (fun e_1' => K (.exit 0) (mkF 0 25 [(5, .list 1 (e_1') (.own 3))]) []) N e_2 x_6
theorem in_impl_belowIn_0 : loopsAt b_impl_belowIn_0 (0 :: [0, 1, 0, 1, 1]) = [] := by kernel_rfl
theorem ok_impl_belowIn_0 {N : Nat} (hC : Ok Try.prog C) (hΦ : CalleeOk Try.prog C (Φ_impl_GoodForest N)) : LoopOk Try.prog C (Λ_impl_belowIn_0 N) b_impl_belowIn_0 [0, 1, 0, 1, 1] :=
  iter_ok (Λi := noLooper) (tr := false) (ks := ks_impl_belowIn_0) (kx := kx_impl_belowIn_0) (N := N) hC hΦ
    (loopsOk_of b_impl_belowIn_0 _ (by
      rw [in_impl_belowIn_0]
      intro p hp
      cases hp))
    fun R E s K r h => by
      have h2 := Looper.add_self.symm.trans h
      obtain ⟨x_1, e_2, e_3, f_4, x_5, x_6, he, rfl, h3⟩ := i_impl_belowIn_0_spec h2
      rw [he, w_impl_belowIn_0]
      exact h3
theorem at_impl_belowIn : loopsAt c_impl_belowIn [] = [([0, 1, 0, 1, 1], b_impl_belowIn_0)] := by kernel_rfl
theorem b_impl_belowIn {R : Type} (N : Nat) (e_1 : List V) (f_2 : Fl) (x_3 : Int) (K : V → S → Option R) : bodyV C (Φ_impl_GoodForest N) (Λ_impl_belowIn_0 N) 85 Try.f85 [.list 1 e_1 f_2, .int .i64 x_3] [] K =
  gb_impl_belowIn N e_1 f_2 x_3 (fun e_4 => K (.list 1 e_4 .sh) []) := by kernel_rfl
theorem loops_impl_belowIn {N : Nat} (hC : Ok Try.prog C) (hΦ : CalleeOk Try.prog C (Φ_impl_GoodForest N)) : LoopsOk Try.prog C (Λ_impl_belowIn_0 N) c_impl_belowIn [] :=
  loopsOk_of c_impl_belowIn [] (by
    rw [at_impl_belowIn]
    intro p hp
    simp only [List.mem_cons, List.mem_nil_iff, or_false] at hp
    rcases hp with rfl
    · exact (ok_impl_belowIn_0 hC hΦ))
theorem callee_impl_belowIn (hC : Ok Try.prog C) {N : Nat} (hΦ : CalleeOk Try.prog C (Φ_impl_GoodForest N)) : CalleeOk Try.prog C (Φ_impl_belowIn N) := by
  refine hΦ.add_pure rfl fun R vs K r h => body_pure (fn := Try.f85) (c := c_impl_belowIn) hC hΦ Try.func85 (by kernel_rfl) (by kernel_rfl) (loops_impl_belowIn (N := N) hC hΦ) rfl rfl ?_
  unfold f_impl_belowIn at h
  obtain ⟨v'1, l'2, rfl, h1⟩ := asCons_some h
  obtain ⟨e_1, f_2, rfl, h2⟩ := asList_some h1
  obtain ⟨v'3, l'4, rfl, h3⟩ := asCons_some h2
  obtain ⟨x_3, rfl, h4⟩ := asInt_some h3
  obtain ⟨rfl, h5⟩ := asNil_some h4
  obtain ⟨_, h6⟩ := asEnd_some h5
  rw [b_impl_belowIn, ← g_impl_belowIn_eq]
  exact h6

/-! ### loop.example/g00756/impl.IsOrderly -/
noncomputable def f_impl_IsOrderly (N : Nat) : (R : Type) → List V → S → (V → S → Option R) → Option R := fun _ vs s K =>
  asCons vs fun v'1 l'2 => asList 1 v'1 fun e_1 f_2 => asCons l'2 fun v'3 l'4 => asList 3 v'3 fun e_3 f_4 => asNil l'4 <| asEnd s <| g_impl_IsOrderly N e_1 f_2 e_3 f_4 fun b_5 b_6 => K (.tuple [.bool b_5, .bool b_6]) []
noncomputable def Φ_impl_IsOrderly (N : Nat) : Callee := (Φ_impl_belowIn N).add 36 (f_impl_IsOrderly N)
noncomputable def c_impl_IsOrderly : Code := bodyOf Try.f36
noncomputable def b_impl_IsOrderly_1 : Code := (loopNo c_impl_IsOrderly [] 0).2
noncomputable def b_impl_IsOrderly_0 : Code := (loopNo b_impl_IsOrderly_1 (0 :: [0, 1, 0, 1, 1, 1]) 0).2
def ks_impl_IsOrderly_0 : List Nat := [2, 3, 4, 5, 8, 10, 11, 12, 13, 14, 15, 16, 17, 18, 19, 20, 21, 25, 26, 27, 28, 29, 30, 31, 32, 33, 34, 35, 36, 37, 38, 39, 40, 41, 42, 43, 44, 45, 46, 47, 48, 49, 50, 51, 52, 53, 54, 55, 56, 57, 58, 59, 60, 61, 62, 63, 64, 65, 66, 67, 68, 69, 70, 71, 72, 73, 74, 75, 76, 77, 78, 79, 80, 81, 82, 83, 84, 85, 86, 87, 91, 92, 93, 94, 95, 96, 97, 98, 99, 100, 101, 102, 103, 104, 105, 106, 107, 108, 109, 110]
def kx_impl_IsOrderly_0 : List Nat := [2, 3, 8, 10, 11, 12, 13, 14, 15, 16, 17, 18, 19, 20, 21, 25, 26, 27, 28, 29, 30, 31, 32, 33, 34, 35, 36, 37, 38, 39, 40, 41, 42, 43, 44, 45, 46, 47, 48, 49, 50, 51, 52, 53, 54, 55, 56, 57, 58, 59, 60, 61, 62, 63, 64, 65, 66, 67, 68, 69, 70, 71, 72, 73, 74, 75, 76, 77, 78, 79, 80, 81, 82, 83, 84, 85, 86, 87, 88, 89, 90, 91, 92, 93, 94, 95, 96, 97, 98, 99, 100, 101, 102, 103, 104, 105, 106, 107, 108, 109, 110]
def fr_impl_IsOrderly_0 (e_1 : List V) (f_2 : Fl) (e_3 : List V) (f_4 : Fl) (k_5 : Nat) (k_6 : Nat) (e_7 : List V) (f_8 : Fl) (x_9 : Int) (x_10 : Int) (e_11 : List V) (x_12 : Int) (e_14 : List V) (e_15 : List V) (x_16 : Int) (x_17 : Int) (x_18 : Int) (x_13 : Int) : List V := mkF 0 111 [(0, .list 1 e_1 f_2), (1, .list 3 e_3 f_4), (6, .arr 0 0 0 k_5), (7, .arr 1 0 0 k_6), (9, .ptr 2 0 0 0), (22, .list 3 e_7 f_8), (23, .int .i64 x_9), (24, .int .i64 x_10), (88, .list 1 e_11 .sh), (89, .int .i64 x_12), (90, .int .i64 x_13)]
theorem r_impl_IsOrderly_0 {R : Type} (N n : Nat) (e_1 : List V) (f_2 : Fl) (e_3 : List V) (f_4 : Fl) (k_5 : Nat) (k_6 : Nat) (e_7 : List V) (f_8 : Fl) (x_9 : Int) (x_10 : Int) (e_11 : List V) (x_12 : Int) (e_14 : List V) (e_15 : List V) (x_16 : Int) (x_17 : Int) (x_18 : Int) (x_13 : Int) (K : X → List V → S → Option R) :
  iter C (Φ_impl_belowIn N) (noLooper) b_impl_IsOrderly_0 [0, 1, 0, 0, 1, 1, 1, 0, 1, 1, 1, 0, 0, 1, 1, 0, 0, 1, 0, 1, 1, 1] false ks_impl_IsOrderly_0 kx_impl_IsOrderly_0 (n + 1) R (fr_impl_IsOrderly_0 e_1 f_2 e_3 f_4 k_5 k_6 e_7 f_8 x_9 x_10 e_11 x_12 e_14 e_15 x_16 x_17 x_18 x_13) [some ⟨e_14, 1, 4, 0⟩, some ⟨e_15, 1, 4, 0⟩, some ⟨[.agg [.int .i64 x_16, .int .i64 x_17, .int .i64 x_18]], 3, 104, 0⟩] K =
  l_impl_IsOrderly_0_step N e_1 f_2 e_3 f_4 k_5 k_6 e_7 f_8 x_9 x_10 e_11 x_12 e_14 e_15 x_16 x_17 x_18 (fun x_13 => iter C (Φ_impl_belowIn N) (noLooper) b_impl_IsOrderly_0 [0, 1, 0, 0, 1, 1, 1, 0, 1, 1, 1, 0, 0, 1, 1, 0, 0, 1, 0, 1, 1, 1] false ks_impl_IsOrderly_0 kx_impl_IsOrderly_0 n R (fr_impl_IsOrderly_0 e_1 f_2 e_3 f_4 k_5 k_6 e_7 f_8 x_9 x_10 e_11 x_12 e_14 e_15 x_16 x_17 x_18 x_13) [some ⟨e_14, 1, 4, 0⟩, some ⟨e_15, 1, 4, 0⟩, some ⟨[.agg [.int .i64 x_16, .int .i64 x_17, .int .i64 x_18]], 3, 104, 0⟩] K) x_13
    (fun _ => K .ret (mkF 0 111 [(0, .list 1 e_1 f_2), (1, .list 3 e_3 f_4), (4, .bool false), (5, .bool true), (6, .arr 0 0 0 k_5), (7, .arr 1 0 0 k_6), (9, .ptr 2 0 0 0), (22, .list 3 e_7 f_8), (23, .int .i64 x_9), (24, .int .i64 x_10)]) [some ⟨e_14, 1, 4, 0⟩, some ⟨e_15, 1, 4, 0⟩, some ⟨[.agg [.int .i64 x_16, .int .i64 x_17, .int .i64 x_18]], 3, 104, 0⟩])
    (fun _ => K (.exit 3) (mkF 0 111 [(0, .list 1 e_1 f_2), (1, .list 3 e_3 f_4), (6, .arr 0 0 0 k_5), (7, .arr 1 0 0 k_6), (9, .ptr 2 0 0 0), (22, .list 3 e_7 f_8), (23, .int .i64 x_9), (24, .int .i64 x_10)]) [some ⟨e_14, 1, 4, 0⟩, some ⟨e_15, 1, 4, 0⟩, some ⟨[.agg [.int .i64 x_16, .int .i64 x_17, .int .i64 x_18]], 3, 104, 0⟩]) := by kernel_rfl
theorem w_impl_IsOrderly_0 {R : Type} (N : Nat) (e_1 : List V) (f_2 : Fl) (e_3 : List V) (f_4 : Fl) (k_5 : Nat) (k_6 : Nat) (e_7 : List V) (f_8 : Fl) (x_9 : Int) (x_10 : Int) (e_11 : List V) (x_12 : Int) (e_14 : List V) (e_15 : List V) (x_16 : Int) (x_17 : Int) (x_18 : Int) (K : X → List V → S → Option R) : ∀ (n : Nat) (x_13 : Int),
  iter C (Φ_impl_belowIn N) (noLooper) b_impl_IsOrderly_0 [0, 1, 0, 0, 1, 1, 1, 0, 1, 1, 1, 0, 0, 1, 1, 0, 0, 1, 0, 1, 1, 1] false ks_impl_IsOrderly_0 kx_impl_IsOrderly_0 n R (fr_impl_IsOrderly_0 e_1 f_2 e_3 f_4 k_5 k_6 e_7 f_8 x_9 x_10 e_11 x_12 e_14 e_15 x_16 x_17 x_18 x_13) [some ⟨e_14, 1, 4, 0⟩, some ⟨e_15, 1, 4, 0⟩, some ⟨[.agg [.int .i64 x_16, .int .i64 x_17, .int .i64 x_18]], 3, 104, 0⟩] K = l_impl_IsOrderly_0 N e_1 f_2 e_3 f_4 k_5 k_6 e_7 f_8 x_9 x_10 e_11 x_12 e_14 e_15 x_16 x_17 x_18
    (fun _ => K .ret (mkF 0 111 [(0, .list 1 e_1 f_2), (1, .list 3 e_3 f_4), (4, .bool false), (5, .bool true), (6, .arr 0 0 0 k_5), (7, .arr 1 0 0 k_6), (9, .ptr 2 0 0 0), (22, .list 3 e_7 f_8), (23, .int .i64 x_9), (24, .int .i64 x_10)]) [some ⟨e_14, 1, 4, 0⟩, some ⟨e_15, 1, 4, 0⟩, some ⟨[.agg [.int .i64 x_16, .int .i64 x_17, .int .i64 x_18]], 3, 104, 0⟩])
    (fun _ => K (.exit 3) (mkF 0 111 [(0, .list 1 e_1 f_2), (1, .list 3 e_3 f_4), (6, .arr 0 0 0 k_5), (7, .arr 1 0 0 k_6), (9, .ptr 2 0 0 0), (22, .list 3 e_7 f_8), (23, .int .i64 x_9), (24, .int .i64 x_10)]) [some ⟨e_14, 1, 4, 0⟩, some ⟨e_15, 1, 4, 0⟩, some ⟨[.agg [.int .i64 x_16, .int .i64 x_17, .int .i64 x_18]], 3, 104, 0⟩]) n x_13
  | 0, _ => rfl
  | n + 1, x_13 => (r_impl_IsOrderly_0 N n e_1 f_2 e_3 f_4 k_5 k_6 e_7 f_8 x_9 x_10 e_11 x_12 e_14 e_15 x_16 x_17 x_18 x_13 K).trans (congrArg (fun nx => l_impl_IsOrderly_0_step N e_1 f_2 e_3 f_4 k_5 k_6 e_7 f_8 x_9 x_10 e_11 x_12 e_14 e_15 x_16 x_17 x_18 nx x_13
    (fun _ => K .ret (mkF 0 111 [(0, .list 1 e_1 f_2), (1, .list 3 e_3 f_4), (4, .bool false), (5, .bool true), (6, .arr 0 0 0 k_5), (7, .arr 1 0 0 k_6), (9, .ptr 2 0 0 0), (22, .list 3 e_7 f_8), (23, .int .i64 x_9), (24, .int .i64 x_10)]) [some ⟨e_14, 1, 4, 0⟩, some ⟨e_15, 1, 4, 0⟩, some ⟨[.agg [.int .i64 x_16, .int .i64 x_17, .int .i64 x_18]], 3, 104, 0⟩])
    (fun _ => K (.exit 3) (mkF 0 111 [(0, .list 1 e_1 f_2), (1, .list 3 e_3 f_4), (6, .arr 0 0 0 k_5), (7, .arr 1 0 0 k_6), (9, .ptr 2 0 0 0), (22, .list 3 e_7 f_8), (23, .int .i64 x_9), (24, .int .i64 x_10)]) [some ⟨e_14, 1, 4, 0⟩, some ⟨e_15, 1, 4, 0⟩, some ⟨[.agg [.int .i64 x_16, .int .i64 x_17, .int .i64 x_18]], 3, 104, 0⟩])) (funext fun x_13 => w_impl_IsOrderly_0 N e_1 f_2 e_3 f_4 k_5 k_6 e_7 f_8 x_9 x_10 e_11 x_12 e_14 e_15 x_16 x_17 x_18 K n x_13))
def i_impl_IsOrderly_0 {R : Type} (E : List V) (s : S) (k : List V → Fl → List V → Fl → Nat → Nat → List V → Fl → Int → Int → List V → Int → Int → List V → List V → Int → Int → Int → Option R) : Option R :=
  guardB (frameOk 111 [0, 1, 6, 7, 9, 22, 23, 24, 88, 89, 90] E) <| must (nth E 0) fun u0 => asList 1 u0 fun e_1 f_2 => must (nth E 1) fun u1 => asList 3 u1 fun e_3 f_4 => must (nth E 6) fun u6 => asArr u6 fun k'1 k'2 k'3 k_5 => isN k'1 0 <| isN k'2 0 <| isN k'3 0 <| must (nth E 7) fun u7 => asArr u7 fun k'4 k'5 k'6 k_6 => isN k'4 1 <| isN k'5 0 <| isN k'6 0 <| must (nth E 9) fun u9 => asPtr u9 fun k'7 k'8 k'9 k'10 => isN k'7 2 <| isN k'8 0 <| isN k'9 0 <| isN k'10 0 <| must (nth E 22) fun u22 => asList 3 u22 fun e_7 f_8 => must (nth E 23) fun u23 => asInt .i64 u23 fun x_9 => must (nth E 24) fun u24 => asInt .i64 u24 fun x_10 => must (nth E 88) fun u88 => asList 1 u88 fun e_11 f'11 => asSh f'11 <| must (nth E 89) fun u89 => asInt .i64 u89 fun x_12 => must (nth E 90) fun u90 => asInt .i64 u90 fun x_13 => asOb s fun o'12 s'13 => obIs o'12 1 4 fun e_14 k'14 => isN k'14 0 <| asOb s'13 fun o'15 s'16 => obIs o'15 1 4 fun e_15 k'17 => isN k'17 0 <| asOb s'16 fun o'18 s'19 => obIs o'18 3 104 fun e'20 k'21 => isN k'21 0 <| asCons e'20 fun v'22 l'23 => asAgg v'22 fun c'24 => asCons c'24 fun v'25 l'26 => asInt .i64 v'25 fun x_16 => asCons l'26 fun v'27 l'28 => asInt .i64 v'27 fun x_17 => asCons l'28 fun v'29 l'30 => asInt .i64 v'29 fun x_18 => asNil l'30 <| asNil l'23 <| asEnd s'19 <| k e_1 f_2 e_3 f_4 k_5 k_6 e_7 f_8 x_9 x_10 e_11 x_12 x_13 e_14 e_15 x_16 x_17 x_18
theorem i_impl_IsOrderly_0_spec {R : Type} {E : List V} {s : S} {k : List V → Fl → List V → Fl → Nat → Nat → List V → Fl → Int → Int → List V → Int → Int → List V → List V → Int → Int → Int → Option R} {r : R} (h : i_impl_IsOrderly_0 E s k = some r) : ∃ e_1 f_2 e_3 f_4 k_5 k_6 e_7 f_8 x_9 x_10 e_11 x_12 x_13 e_14 e_15 x_16 x_17 x_18, E = fr_impl_IsOrderly_0 e_1 f_2 e_3 f_4 k_5 k_6 e_7 f_8 x_9 x_10 e_11 x_12 e_14 e_15 x_16 x_17 x_18 x_13 ∧ s = [some ⟨e_14, 1, 4, 0⟩, some ⟨e_15, 1, 4, 0⟩, some ⟨[.agg [.int .i64 x_16, .int .i64 x_17, .int .i64 x_18]], 3, 104, 0⟩] ∧ k e_1 f_2 e_3 f_4 k_5 k_6 e_7 f_8 x_9 x_10 e_11 x_12 x_13 e_14 e_15 x_16 x_17 x_18 = some r := by
  unfold i_impl_IsOrderly_0 at h
  obtain ⟨hg, h1⟩ := guardB_some h
  obtain ⟨u0, hu0, h2⟩ := must_some h1
  obtain ⟨e_1, f_2, rfl, h3⟩ := asList_some h2
  obtain ⟨u1, hu1, h4⟩ := must_some h3
  obtain ⟨e_3, f_4, rfl, h5⟩ := asList_some h4
  obtain ⟨u6, hu6, h6⟩ := must_some h5
  obtain ⟨k'1, k'2, k'3, k_5, rfl, h7⟩ := asArr_some h6
  obtain ⟨rfl, h8⟩ := isN_some h7
  obtain ⟨rfl, h9⟩ := isN_some h8
  obtain ⟨rfl, h10⟩ := isN_some h9
  obtain ⟨u7, hu7, h11⟩ := must_some h10
  obtain ⟨k'4, k'5, k'6, k_6, rfl, h12⟩ := asArr_some h11
  obtain ⟨rfl, h13⟩ := isN_some h12
  obtain ⟨rfl, h14⟩ := isN_some h13
  obtain ⟨rfl, h15⟩ := isN_some h14
  obtain ⟨u9, hu9, h16⟩ := must_some h15
  obtain ⟨k'7, k'8, k'9, k'10, rfl, h17⟩ := asPtr_some h16
  obtain ⟨rfl, h18⟩ := isN_some h17
  obtain ⟨rfl, h19⟩ := isN_some h18
  obtain ⟨rfl, h20⟩ := isN_some h19
  obtain ⟨rfl, h21⟩ := isN_some h20
  obtain ⟨u22, hu22, h22⟩ := must_some h21
  obtain ⟨e_7, f_8, rfl, h23⟩ := asList_some h22
  obtain ⟨u23, hu23, h24⟩ := must_some h23
  obtain ⟨x_9, rfl, h25⟩ := asInt_some h24
  obtain ⟨u24, hu24, h26⟩ := must_some h25
  obtain ⟨x_10, rfl, h27⟩ := asInt_some h26
  obtain ⟨u88, hu88, h28⟩ := must_some h27
  obtain ⟨e_11, f'11, rfl, h29⟩ := asList_some h28
  obtain ⟨rfl, h30⟩ := asSh_some h29
  obtain ⟨u89, hu89, h31⟩ := must_some h30
  obtain ⟨x_12, rfl, h32⟩ := asInt_some h31
  obtain ⟨u90, hu90, h33⟩ := must_some h32
  obtain ⟨x_13, rfl, h34⟩ := asInt_some h33
  obtain ⟨o'12, s'13, rfl, h35⟩ := asOb_some h34
  obtain ⟨e_14, k'14, rfl, h36⟩ := obIs_some h35
  obtain ⟨rfl, h37⟩ := isN_some h36
  obtain ⟨o'15, s'16, rfl, h38⟩ := asOb_some h37
  obtain ⟨e_15, k'17, rfl, h39⟩ := obIs_some h38
  obtain ⟨rfl, h40⟩ := isN_some h39
  obtain ⟨o'18, s'19, rfl, h41⟩ := asOb_some h40
  obtain ⟨e'20, k'21, rfl, h42⟩ := obIs_some h41
  obtain ⟨rfl, h43⟩ := isN_some h42
  obtain ⟨v'22, l'23, rfl, h44⟩ := asCons_some h43
  obtain ⟨c'24, rfl, h45⟩ := asAgg_some h44
  obtain ⟨v'25, l'26, rfl, h46⟩ := asCons_some h45
  obtain ⟨x_16, rfl, h47⟩ := asInt_some h46
  obtain ⟨v'27, l'28, rfl, h48⟩ := asCons_some h47
  obtain ⟨x_17, rfl, h49⟩ := asInt_some h48
  obtain ⟨v'29, l'30, rfl, h50⟩ := asCons_some h49
  obtain ⟨x_18, rfl, h51⟩ := asInt_some h50
  obtain ⟨rfl, h52⟩ := asNil_some h51
  obtain ⟨rfl, h53⟩ := asNil_some h52
  obtain ⟨rfl, h54⟩ := asEnd_some h53
  exact ⟨e_1, f_2, e_3, f_4, k_5, k_6, e_7, f_8, x_9, x_10, e_11, x_12, x_13, e_14, e_15, x_16, x_17, x_18, frame_is hg rfl (slots_cons hu0 (slots_cons hu1 (slots_cons hu6 (slots_cons hu7 (slots_cons hu9 (slots_cons hu22 (slots_cons hu23 (slots_cons hu24 (slots_cons hu88 (slots_cons hu89 (slots_cons hu90 slots_nil))))))))))), rfl, h54⟩
noncomputable def Λ_impl_IsOrderly_0 (N : Nat) : Looper := (noLooper).add [0, 1, 0, 0, 1, 1, 1, 0, 1, 1, 1, 0, 0, 1, 1, 0, 0, 1, 0, 1, 1, 1] fun _ E s K => i_impl_IsOrderly_0 (killE ks_impl_IsOrderly_0 E) s fun e_1 f_2 e_3 f_4 k_5 k_6 e_7 f_8 x_9 x_10 e_11 x_12 x_13 e_14 e_15 x_16 x_17 x_18 => l_impl_IsOrderly_0 N e_1 f_2 e_3 f_4 k_5 k_6 e_7 f_8 x_9 x_10 e_11 x_12 e_14 e_15 x_16 x_17 x_18
    (fun _ => K .ret (mkF 0 111 [(0, .list 1 e_1 f_2), (1, .list 3 e_3 f_4), (4, .bool false), (5, .bool true), (6, .arr 0 0 0 k_5), (7, .arr 1 0 0 k_6), (9, .ptr 2 0 0 0), (22, .list 3 e_7 f_8), (23, .int .i64 x_9), (24, .int .i64 x_10)]) [some ⟨e_14, 1, 4, 0⟩, some ⟨e_15, 1, 4, 0⟩, some ⟨[.agg [.int .i64 x_16, .int .i64 x_17, .int .i64 x_18]], 3, 104, 0⟩])
    (fun _ => K (.exit 3) (mkF 0 111 [(0, .list 1 e_1 f_2), (1, .list 3 e_3 f_4), (6, .arr 0 0 0 k_5), (7, .arr 1 0 0 k_6), (9, .ptr 2 0 0 0), (22, .list 3 e_7 f_8), (23, .int .i64 x_9), (24, .int .i64 x_10)]) [some ⟨e_14, 1, 4, 0⟩, some ⟨e_15, 1, 4, 0⟩, some ⟨[.agg [.int .i64 x_16, .int .i64 x_17, .int .i64 x_18]], 3, 104, 0⟩]) N x_13
theorem in_impl_IsOrderly_0 : loopsAt b_impl_IsOrderly_0 (0 :: [0, 1, 0, 0, 1, 1, 1, 0, 1, 1, 1, 0, 0, 1, 1, 0, 0, 1, 0, 1, 1, 1]) = [] := by kernel_rfl
theorem ok_impl_IsOrderly_0 {N : Nat} (hC : Ok Try.prog C) (hΦ : CalleeOk Try.prog C (Φ_impl_belowIn N)) : LoopOk Try.prog C (Λ_impl_IsOrderly_0 N) b_impl_IsOrderly_0 [0, 1, 0, 0, 1, 1, 1, 0, 1, 1, 1, 0, 0, 1, 1, 0, 0, 1, 0, 1, 1, 1] :=
  iter_ok (Λi := noLooper) (tr := false) (ks := ks_impl_IsOrderly_0) (kx := kx_impl_IsOrderly_0) (N := N) hC hΦ
    (loopsOk_of b_impl_IsOrderly_0 _ (by
      rw [in_impl_IsOrderly_0]
      intro p hp
      cases hp))
    fun R E s K r h => by
      have h2 := Looper.add_self.symm.trans h
      obtain ⟨e_1, f_2, e_3, f_4, k_5, k_6, e_7, f_8, x_9, x_10, e_11, x_12, x_13, e_14, e_15, x_16, x_17, x_18, he, rfl, h3⟩ := i_impl_IsOrderly_0_spec h2
      rw [he, w_impl_IsOrderly_0]
      exact h3
def ks_impl_IsOrderly_1 : List Nat := [2, 3, 4, 5, 8, 9, 10, 11, 12, 13, 14, 15, 16, 17, 18, 19, 20, 21, 25, 26, 27, 28, 29, 30, 31, 32, 33, 34, 35, 36, 37, 38, 39, 40, 41, 42, 43, 44, 45, 46, 47, 48, 49, 50, 51, 52, 53, 54, 55, 56, 57, 58, 59, 60, 61, 62, 63, 64, 65, 66, 67, 68, 69, 70, 71, 72, 73, 74, 75, 76, 77, 78, 79, 80, 81, 82, 83, 84, 85, 86, 87, 88, 89, 90, 91, 92, 93, 94, 95, 96, 97, 98, 99, 100, 101, 102, 103, 104, 105, 106, 107, 108, 109, 110]
def kx_impl_IsOrderly_1 : List Nat := [2, 3, 6, 7, 8, 9, 10, 11, 12, 13, 14, 15, 16, 17, 18, 19, 20, 21, 22, 23, 24, 25, 26, 27, 28, 29, 30, 31, 32, 33, 34, 35, 36, 37, 38, 39, 40, 41, 42, 43, 44, 45, 46, 47, 48, 49, 50, 51, 52, 53, 54, 55, 56, 57, 58, 59, 60, 61, 62, 63, 64, 65, 66, 67, 68, 69, 70, 71, 72, 73, 74, 75, 76, 77, 78, 79, 80, 81, 82, 83, 84, 85, 86, 87, 88, 89, 90, 91, 92, 93, 94, 95, 96, 97, 98, 99, 100, 101, 102, 103, 104, 105, 106, 107, 108, 109, 110]
def fr_impl_IsOrderly_1 (e_1 : List V) (f_2 : Fl) (e_3 : List V) (f_4 : Fl) (k_5 : Nat) (k_6 : Nat) (e_7 : List V) (f_8 : Fl) (x_9 : Int) (x_10 : Int) (e_11 : List V) (e_12 : List V) : List V := mkF 0 111 [(0, .list 1 e_1 f_2), (1, .list 3 e_3 f_4), (6, .arr 0 0 0 k_5), (7, .arr 1 0 0 k_6), (22, .list 3 e_7 f_8), (23, .int .i64 x_9), (24, .int .i64 x_10)]
theorem r_impl_IsOrderly_1 {R : Type} (N n : Nat) (e_1 : List V) (f_2 : Fl) (e_3 : List V) (f_4 : Fl) (k_5 : Nat) (k_6 : Nat) (e_7 : List V) (f_8 : Fl) (x_9 : Int) (x_10 : Int) (e_11 : List V) (e_12 : List V) (K : X → List V → S → Option R) :
  iter C (Φ_impl_belowIn N) (Λ_impl_IsOrderly_0 N) b_impl_IsOrderly_1 [0, 1, 0, 1, 1, 1] true ks_impl_IsOrderly_1 kx_impl_IsOrderly_1 (n + 1) R (fr_impl_IsOrderly_1 e_1 f_2 e_3 f_4 k_5 k_6 e_7 f_8 x_9 x_10 e_11 e_12) [some ⟨e_11, 1, 4, 0⟩, some ⟨e_12, 1, 4, 0⟩] K =
  l_impl_IsOrderly_1_step N e_1 f_2 e_3 f_4 k_5 k_6 e_7 f_8 x_9 (fun x_10 e_11 e_12 => iter C (Φ_impl_belowIn N) (Λ_impl_IsOrderly_0 N) b_impl_IsOrderly_1 [0, 1, 0, 1, 1, 1] true ks_impl_IsOrderly_1 kx_impl_IsOrderly_1 n R (fr_impl_IsOrderly_1 e_1 f_2 e_3 f_4 k_5 k_6 e_7 f_8 x_9 x_10 e_11 e_12) [some ⟨e_11, 1, 4, 0⟩, some ⟨e_12, 1, 4, 0⟩] K) x_10 e_11 e_12
    (fun e_1' e_2' => K .ret (mkF 0 111 [(0, .list 1 e_1 f_2), (1, .list 3 e_3 f_4), (4, .bool false), (5, .bool true)]) [some ⟨e_1', 1, 4, 0⟩, some ⟨e_2', 1, 4, 0⟩])
    (fun e_1' e_2' => K (.exit 0) (mkF 0 111 [(0, .list 1 e_1 f_2), (1, .list 3 e_3 f_4)]) [some ⟨e_1', 1, 4, 0⟩, some ⟨e_2', 1, 4, 0⟩]) := by kernel_rfl
theorem w_impl_IsOrderly_1 {R : Type} (N : Nat) (e_1 : List V) (f_2 : Fl) (e_3 : List V) (f_4 : Fl) (k_5 : Nat) (k_6 : Nat) (e_7 : List V) (f_8 : Fl) (x_9 : Int) (K : X → List V → S → Option R) : ∀ (n : Nat) (x_10 : Int) (e_11 : List V) (e_12 : List V),
  iter C (Φ_impl_belowIn N) (Λ_impl_IsOrderly_0 N) b_impl_IsOrderly_1 [0, 1, 0, 1, 1, 1] true ks_impl_IsOrderly_1 kx_impl_IsOrderly_1 n R (fr_impl_IsOrderly_1 e_1 f_2 e_3 f_4 k_5 k_6 e_7 f_8 x_9 x_10 e_11 e_12) [some ⟨e_11, 1, 4, 0⟩, some ⟨e_12, 1, 4, 0⟩] K = l_impl_IsOrderly_1 N e_1 f_2 e_3 f_4 k_5 k_6 e_7 f_8 x_9
    (fun e_1' e_2' => K .ret (mkF 0 111 [(0, .list 1 e_1 f_2), (1, .list 3 e_3 f_4), (4, .bool false), (5, .bool true)]) [some ⟨e_1', 1, 4, 0⟩, some ⟨e_2', 1, 4, 0⟩])
    (fun e_1' e_2' => K (.exit 0) (mkF 0 111 [(0, .list 1 e_1 f_2), (1, .list 3 e_3 f_4)]) [some ⟨e_1', 1, 4, 0⟩, some ⟨e_2', 1, 4, 0⟩]) n x_10 e_11 e_12
  | 0, _, _, _ => rfl
  | n + 1, x_10, e_11, e_12 => (r_impl_IsOrderly_1 N n e_1 f_2 e_3 f_4 k_5 k_6 e_7 f_8 x_9 x_10 e_11 e_12 K).trans (congrArg (fun nx => l_impl_IsOrderly_1_step N e_1 f_2 e_3 f_4 k_5 k_6 e_7 f_8 x_9 nx x_10 e_11 e_12
    (fun e_1' e_2' => K .ret (mkF 0 111 [(0, .list 1 e_1 f_2), (1, .list 3 e_3 f_4), (4, .bool false), (5, .bool true)]) [some ⟨e_1', 1, 4, 0⟩, some ⟨e_2', 1, 4, 0⟩])
    (fun e_1' e_2' => K (.exit 0) (mkF 0 111 [(0, .list 1 e_1 f_2), (1, .list 3 e_3 f_4)]) [some ⟨e_1', 1, 4, 0⟩, some ⟨e_2', 1, 4, 0⟩])) (funext fun x_10 => funext fun e_11 => funext fun e_12 => w_impl_IsOrderly_1 N e_1 f_2 e_3 f_4 k_5 k_6 e_7 f_8 x_9 K n x_10 e_11 e_12))
def i_impl_IsOrderly_1 {R : Type} (E : List V) (s : S) (k : List V → Fl → List V → Fl → Nat → Nat → List V → Fl → Int → Int → List V → List V → Option R) : Option R :=
  guardB (frameOk 111 [0, 1, 6, 7, 22, 23, 24] E) <| must (nth E 0) fun u0 => asList 1 u0 fun e_1 f_2 => must (nth E 1) fun u1 => asList 3 u1 fun e_3 f_4 => must (nth E 6) fun u6 => asArr u6 fun k'1 k'2 k'3 k_5 => isN k'1 0 <| isN k'2 0 <| isN k'3 0 <| must (nth E 7) fun u7 => asArr u7 fun k'4 k'5 k'6 k_6 => isN k'4 1 <| isN k'5 0 <| isN k'6 0 <| must (nth E 22) fun u22 => asList 3 u22 fun e_7 f_8 => must (nth E 23) fun u23 => asInt .i64 u23 fun x_9 => must (nth E 24) fun u24 => asInt .i64 u24 fun x_10 => asOb s fun o'7 s'8 => obIs o'7 1 4 fun e_11 k'9 => isN k'9 0 <| asOb s'8 fun o'10 s'11 => obIs o'10 1 4 fun e_12 k'12 => isN k'12 0 <| asEnd s'11 <| k e_1 f_2 e_3 f_4 k_5 k_6 e_7 f_8 x_9 x_10 e_11 e_12
theorem i_impl_IsOrderly_1_spec {R : Type} {E : List V} {s : S} {k : List V → Fl → List V → Fl → Nat → Nat → List V → Fl → Int → Int → List V → List V → Option R} {r : R} (h : i_impl_IsOrderly_1 E s k = some r) : ∃ e_1 f_2 e_3 f_4 k_5 k_6 e_7 f_8 x_9 x_10 e_11 e_12, E = fr_impl_IsOrderly_1 e_1 f_2 e_3 f_4 k_5 k_6 e_7 f_8 x_9 x_10 e_11 e_12 ∧ s = [some ⟨e_11, 1, 4, 0⟩, some ⟨e_12, 1, 4, 0⟩] ∧ k e_1 f_2 e_3 f_4 k_5 k_6 e_7 f_8 x_9 x_10 e_11 e_12 = some r := by
  unfold i_impl_IsOrderly_1 at h
  obtain ⟨hg, h1⟩ := guardB_some h
  obtain ⟨u0, hu0, h2⟩ := must_some h1
  obtain ⟨e_1, f_2, rfl, h3⟩ := asList_some h2
  obtain ⟨u1, hu1, h4⟩ := must_some h3
  obtain ⟨e_3, f_4, rfl, h5⟩ := asList_some h4
  obtain ⟨u6, hu6, h6⟩ := must_some h5
  obtain ⟨k'1, k'2, k'3, k_5, rfl, h7⟩ := asArr_some h6
  obtain ⟨rfl, h8⟩ := isN_some h7
  obtain ⟨rfl, h9⟩ := isN_some h8
  obtain ⟨rfl, h10⟩ := isN_some h9
  obtain ⟨u7, hu7, h11⟩ := must_some h10
  obtain ⟨k'4, k'5, k'6, k_6, rfl, h12⟩ := asArr_some h11
  obtain ⟨rfl, h13⟩ := isN_some h12
  obtain ⟨rfl, h14⟩ := isN_some h13
  obtain ⟨rfl, h15⟩ := isN_some h14
  obtain ⟨u22, hu22, h16⟩ := must_some h15
  obtain ⟨e_7, f_8, rfl, h17⟩ := asList_some h16
  obtain ⟨u23, hu23, h18⟩ := must_some h17
  obtain ⟨x_9, rfl, h19⟩ := asInt_some h18
  obtain ⟨u24, hu24, h20⟩ := must_some h19
  obtain ⟨x_10, rfl, h21⟩ := asInt_some h20
  obtain ⟨o'7, s'8, rfl, h22⟩ := asOb_some h21
  obtain ⟨e_11, k'9, rfl, h23⟩ := obIs_some h22
  obtain ⟨rfl, h24⟩ := isN_some h23
  obtain ⟨o'10, s'11, rfl, h25⟩ := asOb_some h24
  obtain ⟨e_12, k'12, rfl, h26⟩ := obIs_some h25
  obtain ⟨rfl, h27⟩ := isN_some h26
  obtain ⟨rfl, h28⟩ := asEnd_some h27
  exact ⟨e_1, f_2, e_3, f_4, k_5, k_6, e_7, f_8, x_9, x_10, e_11, e_12, frame_is hg rfl (slots_cons hu0 (slots_cons hu1 (slots_cons hu6 (slots_cons hu7 (slots_cons hu22 (slots_cons hu23 (slots_cons hu24 slots_nil))))))), rfl, h28⟩
noncomputable def Λ_impl_IsOrderly_1 (N : Nat) : Looper := (Λ_impl_IsOrderly_0 N).add [0, 1, 0, 1, 1, 1] fun _ E s K => i_impl_IsOrderly_1 (killE ks_impl_IsOrderly_1 E) s fun e_1 f_2 e_3 f_4 k_5 k_6 e_7 f_8 x_9 x_10 e_11 e_12 => l_impl_IsOrderly_1 N e_1 f_2 e_3 f_4 k_5 k_6 e_7 f_8 x_9
    (fun e_1' e_2' => K .ret (mkF 0 111 [(0, .list 1 e_1 f_2), (1, .list 3 e_3 f_4), (4, .bool false), (5, .bool true)]) [some ⟨e_1', 1, 4, 0⟩, some ⟨e_2', 1, 4, 0⟩])
    (fun e_1' e_2' => K (.exit 0) (mkF 0 111 [(0, .list 1 e_1 f_2), (1, .list 3 e_3 f_4)]) [some ⟨e_1', 1, 4, 0⟩, some ⟨e_2', 1, 4, 0⟩]) N x_10 e_11 e_12
theorem in_impl_IsOrderly_1 : loopsAt b_impl_IsOrderly_1 (0 :: [0, 1, 0, 1, 1, 1]) = [([0, 1, 0, 0, 1, 1, 1, 0, 1, 1, 1, 0, 0, 1, 1, 0, 0, 1, 0, 1, 1, 1], b_impl_IsOrderly_0)] := by kernel_rfl
theorem ok_impl_IsOrderly_1 {N : Nat} (hC : Ok Try.prog C) (hΦ : CalleeOk Try.prog C (Φ_impl_belowIn N)) : LoopOk Try.prog C (Λ_impl_IsOrderly_1 N) b_impl_IsOrderly_1 [0, 1, 0, 1, 1, 1] :=
  iter_ok (Λi := Λ_impl_IsOrderly_0 N) (tr := true) (ks := ks_impl_IsOrderly_1) (kx := kx_impl_IsOrderly_1) (N := N) hC hΦ
    (loopsOk_of b_impl_IsOrderly_1 _ (by
      rw [in_impl_IsOrderly_1]
      intro p hp
      simp only [List.mem_cons, List.mem_nil_iff, or_false] at hp
      rcases hp with rfl
      · exact (ok_impl_IsOrderly_0 hC hΦ)))
    fun R E s K r h => by
      have h2 := Looper.add_self.symm.trans h
      obtain ⟨e_1, f_2, e_3, f_4, k_5, k_6, e_7, f_8, x_9, x_10, e_11, e_12, he, rfl, h3⟩ := i_impl_IsOrderly_1_spec h2
      rw [he, w_impl_IsOrderly_1]
      exact h3
theorem at_impl_IsOrderly : loopsAt c_impl_IsOrderly [] = [([0, 1, 0, 1, 1, 1], b_impl_IsOrderly_1)] := by kernel_rfl
theorem b_impl_IsOrderly {R : Type} (N : Nat) (e_1 : List V) (f_2 : Fl) (e_3 : List V) (f_4 : Fl) (K : V → S → Option R) : bodyV C (Φ_impl_belowIn N) (Λ_impl_IsOrderly_1 N) 36 Try.f36 [.list 1 e_1 f_2, .list 3 e_3 f_4] [] K =
  gb_impl_IsOrderly N e_1 f_2 e_3 f_4 (fun b_5 b_6 => K (.tuple [.bool b_5, .bool b_6]) []) := by kernel_rfl
theorem loops_impl_IsOrderly {N : Nat} (hC : Ok Try.prog C) (hΦ : CalleeOk Try.prog C (Φ_impl_belowIn N)) : LoopsOk Try.prog C (Λ_impl_IsOrderly_1 N) c_impl_IsOrderly [] :=
  loopsOk_of c_impl_IsOrderly [] (by
    rw [at_impl_IsOrderly]
    intro p hp
    simp only [List.mem_cons, List.mem_nil_iff, or_false] at hp
    rcases hp with rfl
    · exact (ok_impl_IsOrderly_1 hC hΦ))
theorem callee_impl_IsOrderly (hC : Ok Try.prog C) {N : Nat} (hΦ : CalleeOk Try.prog C (Φ_impl_belowIn N)) : CalleeOk Try.prog C (Φ_impl_IsOrderly N) := by
  refine hΦ.add_pure rfl fun R vs K r h => body_pure (fn := Try.f36) (c := c_impl_IsOrderly) hC hΦ Try.func36 (by kernel_rfl) (by kernel_rfl) (loops_impl_IsOrderly (N := N) hC hΦ) rfl rfl ?_
  unfold f_impl_IsOrderly at h
  obtain ⟨v'1, l'2, rfl, h1⟩ := asCons_some h
  obtain ⟨e_1, f_2, rfl, h2⟩ := asList_some h1
  obtain ⟨v'3, l'4, rfl, h3⟩ := asCons_some h2
  obtain ⟨e_3, f_4, rfl, h4⟩ := asList_some h3
  obtain ⟨rfl, h5⟩ := asNil_some h4
  obtain ⟨_, h6⟩ := asEnd_some h5
  rw [b_impl_IsOrderly, ← g_impl_IsOrderly_eq]
  exact h6

/-! ### loop.example/g00756/laws.eqEvent -/
noncomputable def f_laws_eqEvent (N : Nat) : (R : Type) → List V → S → (V → S → Option R) → Option R := fun _ vs s K =>
  asCons vs fun v'1 l'2 => asAgg v'1 fun c'3 => asCons c'3 fun v'4 l'5 => asInt .i64 v'4 fun x_1 => asCons l'5 fun v'6 l'7 => asInt .i64 v'6 fun x_2 => asCons l'7 fun v'8 l'9 => asInt .i64 v'8 fun x_3 => asNil l'9 <| asCons l'2 fun v'10 l'11 => asAgg v'10 fun c'12 => asCons c'12 fun v'13 l'14 => asInt .i64 v'13 fun x_4 => asCons l'14 fun v'15 l'16 => asInt .i64 v'15 fun x_5 => asCons l'16 fun v'17 l'18 => asInt .i64 v'17 fun x_6 => asNil l'18 <| asNil l'11 <| asEnd s <| g_laws_eqEvent N x_1 x_2 x_3 x_4 x_5 x_6 fun b_7 => K (.bool b_7) []
noncomputable def Φ_laws_eqEvent (N : Nat) : Callee := (Φ_impl_IsOrderly N).add 97 (f_laws_eqEvent N)
noncomputable def c_laws_eqEvent : Code := bodyOf Try.f97
theorem at_laws_eqEvent : loopsAt c_laws_eqEvent [] = [] := by kernel_rfl
theorem b_laws_eqEvent {R : Type} (N : Nat) (x_1 : Int) (x_2 : Int) (x_3 : Int) (x_4 : Int) (x_5 : Int) (x_6 : Int) (K : V → S → Option R) : bodyV C (Φ_impl_IsOrderly N) (noLooper) 97 Try.f97 [.agg [.int .i64 x_1, .int .i64 x_2, .int .i64 x_3], .agg [.int .i64 x_4, .int .i64 x_5, .int .i64 x_6]] [] K =
  gb_laws_eqEvent N x_1 x_2 x_3 x_4 x_5 x_6 (fun b_7 => K (.bool b_7) []) := by kernel_rfl
theorem loops_laws_eqEvent {N : Nat} (hC : Ok Try.prog C) (hΦ : CalleeOk Try.prog C (Φ_impl_IsOrderly N)) : LoopsOk Try.prog C (noLooper) c_laws_eqEvent [] :=
  loopsOk_of c_laws_eqEvent [] (by
    rw [at_laws_eqEvent]
    intro p hp
    cases hp)
theorem callee_laws_eqEvent (hC : Ok Try.prog C) {N : Nat} (hΦ : CalleeOk Try.prog C (Φ_impl_IsOrderly N)) : CalleeOk Try.prog C (Φ_laws_eqEvent N) := by
  refine hΦ.add_pure rfl fun R vs K r h => body_pure (fn := Try.f97) (c := c_laws_eqEvent) hC hΦ Try.func97 (by kernel_rfl) (by kernel_rfl) (loops_laws_eqEvent (N := N) hC hΦ) rfl rfl ?_
  unfold f_laws_eqEvent at h
  obtain ⟨v'1, l'2, rfl, h1⟩ := asCons_some h
  obtain ⟨c'3, rfl, h2⟩ := asAgg_some h1
  obtain ⟨v'4, l'5, rfl, h3⟩ := asCons_some h2
  obtain ⟨x_1, rfl, h4⟩ := asInt_some h3
  obtain ⟨v'6, l'7, rfl, h5⟩ := asCons_some h4
  obtain ⟨x_2, rfl, h6⟩ := asInt_some h5
  obtain ⟨v'8, l'9, rfl, h7⟩ := asCons_some h6
  obtain ⟨x_3, rfl, h8⟩ := asInt_some h7
  obtain ⟨rfl, h9⟩ := asNil_some h8
  obtain ⟨v'10, l'11, rfl, h10⟩ := asCons_some h9
  obtain ⟨c'12, rfl, h11⟩ := asAgg_some h10
  obtain ⟨v'13, l'14, rfl, h12⟩ := asCons_some h11
  obtain ⟨x_4, rfl, h13⟩ := asInt_some h12
  obtain ⟨v'15, l'16, rfl, h14⟩ := asCons_some h13
  obtain ⟨x_5, rfl, h15⟩ := asInt_some h14
  obtain ⟨v'17, l'18, rfl, h16⟩ := asCons_some h15
  obtain ⟨x_6, rfl, h17⟩ := asInt_some h16
  obtain ⟨rfl, h18⟩ := asNil_some h17
  obtain ⟨rfl, h19⟩ := asNil_some h18
  obtain ⟨_, h20⟩ := asEnd_some h19
  rw [b_laws_eqEvent, ← g_laws_eqEvent_eq]
  exact h20

/-! ### loop.example/g00756/laws.eqEventS -/
noncomputable def f_laws_eqEventS (N : Nat) : (R : Type) → List V → S → (V → S → Option R) → Option R := fun _ vs s K =>
  asCons vs fun v'1 l'2 => asList 3 v'1 fun e_1 f_2 => asCons l'2 fun v'3 l'4 => asList 3 v'3 fun e_3 f_4 => asNil l'4 <| asEnd s <| g_laws_eqEventS N e_1 f_2 e_3 f_4 fun b_5 => K (.bool b_5) []
noncomputable def Φ_laws_eqEventS (N : Nat) : Callee := (Φ_laws_eqEvent N).add 37 (f_laws_eqEventS N)
noncomputable def c_laws_eqEventS : Code := bodyOf Try.f37
noncomputable def b_laws_eqEventS_0 : Code := (loopNo c_laws_eqEventS [] 0).2
def ks_laws_eqEventS_0 : List Nat := [2, 3, 4, 6, 7, 8, 9, 10, 11, 12, 13, 14, 15, 16, 17, 18, 19, 20, 21, 22, 23, 24, 25, 26]
def kx_laws_eqEventS_0 : List Nat := [0, 1, 2, 3, 5, 6, 7, 8, 9, 10, 11, 12, 13, 14, 15, 16, 17, 18, 19, 20, 21, 22, 23, 24, 25, 26]
def fr_laws_eqEventS_0 (e_1 : List V) (f_2 : Fl) (e_3 : List V) (f_4 : Fl) (x_5 : Int) : List V := mkF 0 27 [(0, .list 3 e_1 f_2), (1, .list 3 e_3 f_4), (5, .int .i64 x_5)]
theorem r_laws_eqEventS_0 {R : Type} (N n : Nat) (e_1 : List V) (f_2 : Fl) (e_3 : List V) (f_4 : Fl) (x_5 : Int) (K : X → List V → S → Option R) :
  iter C (Φ_laws_eqEvent N) (noLooper) b_laws_eqEventS_0 [0, 1, 0, 1, 1] false ks_laws_eqEventS_0 kx_laws_eqEventS_0 (n + 1) R (fr_laws_eqEventS_0 e_1 f_2 e_3 f_4 x_5) [] K =
  l_laws_eqEventS_0_step N e_1 f_2 e_3 f_4 (fun x_5 => iter C (Φ_laws_eqEvent N) (noLooper) b_laws_eqEventS_0 [0, 1, 0, 1, 1] false ks_laws_eqEventS_0 kx_laws_eqEventS_0 n R (fr_laws_eqEventS_0 e_1 f_2 e_3 f_4 x_5) [] K) x_5
    (fun _ => K .ret (mkF 0 27 [(4, .bool false)]) [])
    (fun _ => K (.exit 0) (mkF 0 27 []) []) := by kernel_rfl
theorem w_laws_eqEventS_0 {R : Type} (N : Nat) (e_1 : List V) (f_2 : Fl) (e_3 : List V) (f_4 : Fl) (K : X → List V → S → Option R) : ∀ (n : Nat) (x_5 : Int),
  iter C (Φ_laws_eqEvent N) (noLooper) b_laws_eqEventS_0 [0, 1, 0, 1, 1] false ks_laws_eqEventS_0 kx_laws_eqEventS_0 n R (fr_laws_eqEventS_0 e_1 f_2 e_3 f_4 x_5) [] K = l_laws_eqEventS_0 N e_1 f_2 e_3 f_4
    (fun _ => K .ret (mkF 0 27 [(4, .bool false)]) [])
    (fun _ => K (.exit 0) (mkF 0 27 []) []) n x_5
  | 0, _ => rfl
  | n + 1, x_5 => (r_laws_eqEventS_0 N n e_1 f_2 e_3 f_4 x_5 K).trans (congrArg (fun nx => l_laws_eqEventS_0_step N e_1 f_2 e_3 f_4 nx x_5
    (fun _ => K .ret (mkF 0 27 [(4, .bool false)]) [])
    (fun _ => K (.exit 0) (mkF 0 27 []) [])) (funext fun x_5 => w_laws_eqEventS_0 N e_1 f_2 e_3 f_4 K n x_5))
def i_laws_eqEventS_0 {R : Type} (E : List V) (s : S) (k : List V → Fl → List V → Fl → Int → Option R) : Option R :=
  guardB (frameOk 27 [0, 1, 5] E) <| must (nth E 0) fun u0 => asList 3 u0 fun e_1 f_2 => must (nth E 1) fun u1 => asList 3 u1 fun e_3 f_4 => must (nth E 5) fun u5 => asInt .i64 u5 fun x_5 => asEnd s <| k e_1 f_2 e_3 f_4 x_5
theorem i_laws_eqEventS_0_spec {R : Type} {E : List V} {s : S} {k : List V → Fl → List V → Fl → Int → Option R} {r : R} (h : i_laws_eqEventS_0 E s k = some r) : ∃ e_1 f_2 e_3 f_4 x_5, E = fr_laws_eqEventS_0 e_1 f_2 e_3 f_4 x_5 ∧ s = [] ∧ k e_1 f_2 e_3 f_4 x_5 = some r := by
  unfold i_laws_eqEventS_0 at h
  obtain ⟨hg, h1⟩ := guardB_some h
  obtain ⟨u0, hu0, h2⟩ := must_some h1
  obtain ⟨e_1, f_2, rfl, h3⟩ := asList_some h2
  obtain ⟨u1, hu1, h4⟩ := must_some h3
  obtain ⟨e_3, f_4, rfl, h5⟩ := asList_some h4
  obtain ⟨u5, hu5, h6⟩ := must_some h5
  obtain ⟨x_5, rfl, h7⟩ := asInt_some h6
  obtain ⟨rfl, h8⟩ := asEnd_some h7
  exact ⟨e_1, f_2, e_3, f_4, x_5, frame_is hg rfl (slots_cons hu0 (slots_cons hu1 (slots_cons hu5 slots_nil))), rfl, h8⟩
noncomputable def Λ_laws_eqEventS_0 (N : Nat) : Looper := (noLooper).add [0, 1, 0, 1, 1] fun _ E s K => i_laws_eqEventS_0 (killE ks_laws_eqEventS_0 E) s fun e_1 f_2 e_3 f_4 x_5 => l_laws_eqEventS_0 N e_1 f_2 e_3 f_4
    (fun _ => K .ret (mkF 0 27 [(4, .bool false)]) [])
    (fun _ => K (.exit 0) (mkF 0 27 []) []) N x_5
theorem in_laws_eqEventS_0 : loopsAt b_laws_eqEventS_0 (0 :: [0, 1, 0, 1, 1]) = [] := by kernel_rfl
theorem ok_laws_eqEventS_0 {N : Nat} (hC : Ok Try.prog C) (hΦ : CalleeOk Try.prog C (Φ_laws_eqEvent N)) : LoopOk Try.prog C (Λ_laws_eqEventS_0 N) b_laws_eqEventS_0 [0, 1, 0, 1, 1] :=
  iter_ok (Λi := noLooper) (tr := false) (ks := ks_laws_eqEventS_0) (kx := kx_laws_eqEventS_0) (N := N) hC hΦ
    (loopsOk_of b_laws_eqEventS_0 _ (by
      rw [in_laws_eqEventS_0]
      intro p hp
      cases hp))
    fun R E s K r h => by
      have h2 := Looper.add_self.symm.trans h
      obtain ⟨e_1, f_2, e_3, f_4, x_5, he, rfl, h3⟩ := i_laws_eqEventS_0_spec h2
      rw [he, w_laws_eqEventS_0]
      exact h3
theorem at_laws_eqEventS : loopsAt c_laws_eqEventS [] = [([0, 1, 0, 1, 1], b_laws_eqEventS_0)] := by kernel_rfl
theorem b_laws_eqEventS {R : Type} (N : Nat) (e_1 : List V) (f_2 : Fl) (e_3 : List V) (f_4 : Fl) (K : V → S → Option R) : bodyV C (Φ_laws_eqEvent N) (Λ_laws_eqEventS_0 N) 37 Try.f37 [.list 3 e_1 f_2, .list 3 e_3 f_4] [] K =
  gb_laws_eqEventS N e_1 f_2 e_3 f_4 (fun b_5 => K (.bool b_5) []) := by kernel_rfl
theorem loops_laws_eqEventS {N : Nat} (hC : Ok Try.prog C) (hΦ : CalleeOk Try.prog C (Φ_laws_eqEvent N)) : LoopsOk Try.prog C (Λ_laws_eqEventS_0 N) c_laws_eqEventS [] :=
  loopsOk_of c_laws_eqEventS [] (by
    rw [at_laws_eqEventS]
    intro p hp
    simp only [List.mem_cons, List.mem_nil_iff, or_false] at hp
    rcases hp with rfl
    · exact (ok_laws_eqEventS_0 hC hΦ))
theorem callee_laws_eqEventS (hC : Ok Try.prog C) {N : Nat} (hΦ : CalleeOk Try.prog C (Φ_laws_eqEvent N)) : CalleeOk Try.prog C (Φ_laws_eqEventS N) := by
  refine hΦ.add_pure rfl fun R vs K r h => body_pure (fn := Try.f37) (c := c_laws_eqEventS) hC hΦ Try.func37 (by kernel_rfl) (by kernel_rfl) (loops_laws_eqEventS (N := N) hC hΦ) rfl rfl ?_
  unfold f_laws_eqEventS at h
  obtain ⟨v'1, l'2, rfl, h1⟩ := asCons_some h
  obtain ⟨e_1, f_2, rfl, h2⟩ := asList_some h1
  obtain ⟨v'3, l'4, rfl, h3⟩ := asCons_some h2
  obtain ⟨e_3, f_4, rfl, h4⟩ := asList_some h3
  obtain ⟨rfl, h5⟩ := asNil_some h4
  obtain ⟨_, h6⟩ := asEnd_some h5
  rw [b_laws_eqEventS, ← g_laws_eqEventS_eq]
  exact h6

/-! ### loop.example/g00756/laws.FnExactIsOrderly -/
noncomputable def f_laws_FnExactIsOrderly (N : Nat) : (R : Type) → List V → S → (V → S → Option R) → Option R := fun _ vs s K =>
  asCons vs fun v'1 l'2 => asList 1 v'1 fun e_1 f_2 => asCons l'2 fun v'3 l'4 => asList 3 v'3 fun e_3 f_4 => asNil l'4 <| asEnd s <| g_laws_FnExactIsOrderly N e_1 f_2 e_3 f_4 fun b_5 => K (.bool b_5) []
noncomputable def Φ_laws_FnExactIsOrderly (N : Nat) : Callee := (Φ_laws_eqEventS N).add 6 (f_laws_FnExactIsOrderly N)
noncomputable def c_laws_FnExactIsOrderly : Code := bodyOf Try.f6
theorem at_laws_FnExactIsOrderly : loopsAt c_laws_FnExactIsOrderly [] = [] := by kernel_rfl
theorem b_laws_FnExactIsOrderly {R : Type} (N : Nat) (e_1 : List V) (f_2 : Fl) (e_3 : List V) (f_4 : Fl) (K : V → S → Option R) : bodyV C (Φ_laws_eqEventS N) (noLooper) 6 Try.f6 [.list 1 e_1 f_2, .list 3 e_3 f_4] [] K =
  gb_laws_FnExactIsOrderly N e_1 f_2 e_3 f_4 (fun b_5 => K (.bool b_5) []) := by kernel_rfl
theorem loops_laws_FnExactIsOrderly {N : Nat} (hC : Ok Try.prog C) (hΦ : CalleeOk Try.prog C (Φ_laws_eqEventS N)) : LoopsOk Try.prog C (noLooper) c_laws_FnExactIsOrderly [] :=
  loopsOk_of c_laws_FnExactIsOrderly [] (by
    rw [at_laws_FnExactIsOrderly]
    intro p hp
    cases hp)
theorem callee_laws_FnExactIsOrderly (hC : Ok Try.prog C) {N : Nat} (hΦ : CalleeOk Try.prog C (Φ_laws_eqEventS N)) : CalleeOk Try.prog C (Φ_laws_FnExactIsOrderly N) := by
  refine hΦ.add_pure rfl fun R vs K r h => body_pure (fn := Try.f6) (c := c_laws_FnExactIsOrderly) hC hΦ Try.func6 (by kernel_rfl) (by kernel_rfl) (loops_laws_FnExactIsOrderly (N := N) hC hΦ) rfl rfl ?_
  unfold f_laws_FnExactIsOrderly at h
  obtain ⟨v'1, l'2, rfl, h1⟩ := asCons_some h
  obtain ⟨e_1, f_2, rfl, h2⟩ := asList_some h1
  obtain ⟨v'3, l'4, rfl, h3⟩ := asCons_some h2
  obtain ⟨e_3, f_4, rfl, h4⟩ := asList_some h3
  obtain ⟨rfl, h5⟩ := asNil_some h4
  obtain ⟨_, h6⟩ := asEnd_some h5
  rw [b_laws_FnExactIsOrderly, ← g_laws_FnExactIsOrderly_eq]
  exact h6
theorem callee_laws_FnExactIsOrderly_prev (hC : Ok Try.prog C) (N : Nat) : CalleeOk Try.prog C (Φ_laws_eqEventS N) :=
  have h0 := noCallee_ok Try.prog C
  have h1 := callee_laws_toIntS hC (N := N) h0
  have h2 := callee_laws_eqIntS hC (N := N) h1
  have h3 := callee_laws_szEventS hC (N := N) h2
  have h4 := callee_spec_l1In hC (N := N) h3
  have h5 := callee_spec_l13Forest hC (N := N) h4
  have h6 := callee_spec_l13At hC (N := N) h5
  have h7 := callee_spec_IsOrderly hC (N := N) h6
  have h8 := callee_laws_toEvent hC (N := N) h7
  have h9 := callee_laws_toEventS hC (N := N) h8
  have h10 := callee_impl_within hC (N := N) h9
  have h11 := callee_impl_GoodForest hC (N := N) h10
  have h12 := callee_impl_belowIn hC (N := N) h11
  have h13 := callee_impl_IsOrderly hC (N := N) h12
  have h14 := callee_laws_eqEvent hC (N := N) h13
  have h15 := callee_laws_eqEventS hC (N := N) h14
  h15

end Go.VM.VL
