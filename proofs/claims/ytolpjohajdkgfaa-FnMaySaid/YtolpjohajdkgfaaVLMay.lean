/- The functions of the program, told plainly: what each computes, as a function of its letters; and that the machine does the same. Printed by vgen.py, a program of this session's own. -/
import Derived.Test.YtolpjohajdkgfaaVmZb
import Derived.Test.YtolpjohajdkgfaaProg
import Derived.KernelRfl
set_option linter.unusedVariables false
namespace Go.VM.VL
open Go.Proofs


/-! ### loop.example/g00756/laws.big -/
noncomputable def gb_laws_big {R : Type} (N : Nat) (e_1 : List V) (f_2 : Fl) (e_3 : List V) (f_4 : Fl) (k : Bool → Option R) : Option R :=
  (match decide ((e_1.length : Int) > 1048576) with
   | true => k true
   | false => k (decide ((e_3.length : Int) > IntKind.i64.wrap (1048576 - (e_1.length : Int)))))
noncomputable def g_laws_big {R : Type} (N : Nat) (e_1 : List V) (f_2 : Fl) (e_3 : List V) (f_4 : Fl) (k : Bool → Option R) : Option R := sealed @gb_laws_big N e_1 f_2 e_3 f_4 k
theorem g_laws_big_eq {R : Type} (N : Nat) (e_1 : List V) (f_2 : Fl) (e_3 : List V) (f_4 : Fl) (k : Bool → Option R) : g_laws_big N e_1 f_2 e_3 f_4 k = gb_laws_big N e_1 f_2 e_3 f_4 k := by unfold g_laws_big; rw [sealed_eq]

/-! ### (*loop.example/g00756/spec.l1Cur).next -/
noncomputable def gb_spec_l1Cur_next {R : Type} (N : Nat) (e_1 : List V) (f_2 : Fl) (x_3 : Int) (x_4 : Int) (k : Int → List V → Fl → Int → Int → Option R) : Option R :=
  (match decide (x_3 < (e_1.length : Int)) with
   | true => (if 0 ≤ x_3 then must (nth e_1 x_3.toNat) fun e1 => asInt .u8 e1 fun n2 => (match decide (IntKind.i64.wrap (x_3 + 1) ≤ (e_1.length : Int)) with
     | true => k (IntKind.i64.wrap n2) e_1 f_2 (IntKind.i64.wrap (x_3 + 1)) (IntKind.u64.wrap (IntKind.u64.wrap (IntKind.u64.wrap (x_4 * 6364136223846793005) + IntKind.u64.wrap (IntKind.i64.wrap n2)) + 1442695040888963407))
     | false => k (IntKind.i64.wrap (IntKind.u64.wrap (BitVec.ofInt IntKind.u64.bits (Int.fdiv (IntKind.u64.wrap (IntKind.u64.wrap (IntKind.u64.wrap (x_4 * 6364136223846793005) + IntKind.u64.wrap (IntKind.i64.wrap n2)) + 1442695040888963407)) (2 ^ (min (40 : Int).toNat 64))) &&& BitVec.ofInt IntKind.u64.bits 255).toNat)) e_1 f_2 (IntKind.i64.wrap (x_3 + 1)) (IntKind.u64.wrap (IntKind.u64.wrap (IntKind.u64.wrap (x_4 * 6364136223846793005) + IntKind.u64.wrap (IntKind.i64.wrap n2)) + 1442695040888963407))) else none)
   | false => (match decide (IntKind.i64.wrap (x_3 + 1) ≤ (e_1.length : Int)) with
    | true => k 0 e_1 f_2 (IntKind.i64.wrap (x_3 + 1)) (IntKind.u64.wrap (IntKind.u64.wrap (IntKind.u64.wrap (x_4 * 6364136223846793005) + 0) + 1442695040888963407))
    | false => k (IntKind.i64.wrap (IntKind.u64.wrap (BitVec.ofInt IntKind.u64.bits (Int.fdiv (IntKind.u64.wrap (IntKind.u64.wrap (IntKind.u64.wrap (x_4 * 6364136223846793005) + 0) + 1442695040888963407)) (2 ^ (min (40 : Int).toNat 64))) &&& BitVec.ofInt IntKind.u64.bits 255).toNat)) e_1 f_2 (IntKind.i64.wrap (x_3 + 1)) (IntKind.u64.wrap (IntKind.u64.wrap (IntKind.u64.wrap (x_4 * 6364136223846793005) + 0) + 1442695040888963407))))
noncomputable def g_spec_l1Cur_next {R : Type} (N : Nat) (e_1 : List V) (f_2 : Fl) (x_3 : Int) (x_4 : Int) (k : Int → List V → Fl → Int → Int → Option R) : Option R := sealed @gb_spec_l1Cur_next N e_1 f_2 x_3 x_4 k
theorem g_spec_l1Cur_next_eq {R : Type} (N : Nat) (e_1 : List V) (f_2 : Fl) (x_3 : Int) (x_4 : Int) (k : Int → List V → Fl → Int → Int → Option R) : g_spec_l1Cur_next N e_1 f_2 x_3 x_4 k = gb_spec_l1Cur_next N e_1 f_2 x_3 x_4 k := by unfold g_spec_l1Cur_next; rw [sealed_eq]

/-! ### (*loop.example/g00756/spec.l1Cur).pick -/
noncomputable def gb_spec_l1Cur_pick {R : Type} (N : Nat) (x_1 : Int) (e_2 : List V) (f_3 : Fl) (x_4 : Int) (x_5 : Int) (k : Int → List V → Fl → Int → Int → Option R) : Option R :=
  (match decide (x_1 ≤ 1) with
   | true => k 0 e_2 f_3 x_4 x_5
   | false => g_spec_l1Cur_next N e_2 f_3 x_4 x_5 fun x1 e2 f3 x4 x5 => (match decide (x_1 > 200) with
    | true => g_spec_l1Cur_next N e2 f3 x4 x5 fun x6 e7 f8 x9 x10 => (if x_1 = 0 then none else k (Int.tmod (IntKind.i64.wrap (IntKind.i64.wrap (x1 * 256) + x6)) x_1) e7 f8 x9 x10)
    | false => (if x_1 = 0 then none else k (Int.tmod x1 x_1) e2 f3 x4 x5)))
noncomputable def g_spec_l1Cur_pick {R : Type} (N : Nat) (x_1 : Int) (e_2 : List V) (f_3 : Fl) (x_4 : Int) (x_5 : Int) (k : Int → List V → Fl → Int → Int → Option R) : Option R := sealed @gb_spec_l1Cur_pick N x_1 e_2 f_3 x_4 x_5 k
theorem g_spec_l1Cur_pick_eq {R : Type} (N : Nat) (x_1 : Int) (e_2 : List V) (f_3 : Fl) (x_4 : Int) (x_5 : Int) (k : Int → List V → Fl → Int → Int → Option R) : g_spec_l1Cur_pick N x_1 e_2 f_3 x_4 x_5 k = gb_spec_l1Cur_pick N x_1 e_2 f_3 x_4 x_5 k := by unfold g_spec_l1Cur_pick; rw [sealed_eq]

/-! ### (*loop.example/g00756/spec.l1Cur).one -/
noncomputable def gb_spec_l1Cur_one {R : Type} (N : Nat) (x_1 : Int) (e_2 : List V) (f_3 : Fl) (x_4 : Int) (x_5 : Int) (k : Bool → List V → Fl → Int → Int → Option R) : Option R :=
  g_spec_l1Cur_pick N x_1 e_2 f_3 x_4 x_5 fun x1 e2 f3 x4 x5 => k (x1 == 0) e2 f3 x4 x5
noncomputable def g_spec_l1Cur_one {R : Type} (N : Nat) (x_1 : Int) (e_2 : List V) (f_3 : Fl) (x_4 : Int) (x_5 : Int) (k : Bool → List V → Fl → Int → Int → Option R) : Option R := sealed @gb_spec_l1Cur_one N x_1 e_2 f_3 x_4 x_5 k
theorem g_spec_l1Cur_one_eq {R : Type} (N : Nat) (x_1 : Int) (e_2 : List V) (f_3 : Fl) (x_4 : Int) (x_5 : Int) (k : Bool → List V → Fl → Int → Int → Option R) : g_spec_l1Cur_one N x_1 e_2 f_3 x_4 x_5 k = gb_spec_l1Cur_one N x_1 e_2 f_3 x_4 x_5 k := by unfold g_spec_l1Cur_one; rw [sealed_eq]

/-! ### (*loop.example/g00756/spec.l1Cur).among -/
noncomputable def gb_spec_l1Cur_among {R : Type} (N : Nat) (e_1 : List V) (f_2 : Fl) (e_3 : List V) (f_4 : Fl) (x_5 : Int) (x_6 : Int) (k : Int → List V → Fl → Int → Int → Option R) : Option R :=
  g_spec_l1Cur_pick N (e_1.length : Int) e_3 f_4 x_5 x_6 fun x1 e2 f3 x4 x5 => (if 0 ≤ x1 then must (nth e_1 x1.toNat) fun e6 => asInt .i64 e6 fun n7 => k n7 e2 f3 x4 x5 else none)
noncomputable def g_spec_l1Cur_among {R : Type} (N : Nat) (e_1 : List V) (f_2 : Fl) (e_3 : List V) (f_4 : Fl) (x_5 : Int) (x_6 : Int) (k : Int → List V → Fl → Int → Int → Option R) : Option R := sealed @gb_spec_l1Cur_among N e_1 f_2 e_3 f_4 x_5 x_6 k
theorem g_spec_l1Cur_among_eq {R : Type} (N : Nat) (e_1 : List V) (f_2 : Fl) (e_3 : List V) (f_4 : Fl) (x_5 : Int) (x_6 : Int) (k : Int → List V → Fl → Int → Int → Option R) : g_spec_l1Cur_among N e_1 f_2 e_3 f_4 x_5 x_6 k = gb_spec_l1Cur_among N e_1 f_2 e_3 f_4 x_5 x_6 k := by unfold g_spec_l1Cur_among; rw [sealed_eq]

/-! ### (*loop.example/g00756/spec.l1Cur).cred -/
noncomputable def gb_spec_l1Cur_cred {R : Type} (N : Nat) (e_1 : List V) (f_2 : Fl) (x_3 : Int) (x_4 : Int) (k : Int → Int → List V → Fl → Int → Int → Int → Int → Int → Int → Option R) : Option R :=
  g_spec_l1Cur_among N [.int .i64 0, .int .i64 1, .int .i64 2, .int .i64 1] .sh e_1 f_2 x_3 x_4 fun x1 e2 f3 x4 x5 => g_spec_l1Cur_among N [.int .i64 0, .int .i64 1, .int .i64 2] .sh e2 f3 x4 x5 fun x6 e7 f8 x9 x10 => g_spec_l1Cur_one N 40 e7 f8 x9 x10 fun b11 e12 f13 x14 x15 => (match b11 with
   | true => g_spec_l1Cur_among N [.int .i64 (-1), .int .i64 99, .int .i64 100] .sh e12 f13 x14 x15 fun x16 e17 f18 x19 x20 => k x16 x6 e17 f18 x19 x20 x16 x6 x16 x6
   | false => k x1 x6 e12 f13 x14 x15 x1 x6 x1 x6)
noncomputable def g_spec_l1Cur_cred {R : Type} (N : Nat) (e_1 : List V) (f_2 : Fl) (x_3 : Int) (x_4 : Int) (k : Int → Int → List V → Fl → Int → Int → Int → Int → Int → Int → Option R) : Option R := sealed @gb_spec_l1Cur_cred N e_1 f_2 x_3 x_4 k
theorem g_spec_l1Cur_cred_eq {R : Type} (N : Nat) (e_1 : List V) (f_2 : Fl) (x_3 : Int) (x_4 : Int) (k : Int → Int → List V → Fl → Int → Int → Int → Int → Int → Int → Option R) : g_spec_l1Cur_cred N e_1 f_2 x_3 x_4 k = gb_spec_l1Cur_cred N e_1 f_2 x_3 x_4 k := by unfold g_spec_l1Cur_cred; rw [sealed_eq]

/-! ### (*loop.example/g00756/spec.l1Cur).mode -/
noncomputable def gb_spec_l1Cur_mode {R : Type} (N : Nat) (e_1 : List V) (f_2 : Fl) (x_3 : Int) (x_4 : Int) (k : Int → List V → Fl → Int → Int → Option R) : Option R :=
  g_spec_l1Cur_one N 2 e_1 f_2 x_3 x_4 fun b1 e2 f3 x4 x5 => (match b1 with
   | true => g_spec_l1Cur_among N [.int .i64 493, .int .i64 420, .int .i64 448, .int .i64 511, .int .i64 0, .int .i64 365, .int .i64 73] .sh e2 f3 x4 x5 fun x6 e7 f8 x9 x10 => k x6 e7 f8 x9 x10
   | false => g_spec_l1Cur_next N e2 f3 x4 x5 fun x11 e12 f13 x14 x15 => g_spec_l1Cur_pick N 2 e12 f13 x14 x15 fun x16 e17 f18 x19 x20 => k (Int.tmod (IntKind.i64.wrap (IntKind.i64.wrap (x11 * 2) + x16)) 512) e17 f18 x19 x20)
noncomputable def g_spec_l1Cur_mode {R : Type} (N : Nat) (e_1 : List V) (f_2 : Fl) (x_3 : Int) (x_4 : Int) (k : Int → List V → Fl → Int → Int → Option R) : Option R := sealed @gb_spec_l1Cur_mode N e_1 f_2 x_3 x_4 k
theorem g_spec_l1Cur_mode_eq {R : Type} (N : Nat) (e_1 : List V) (f_2 : Fl) (x_3 : Int) (x_4 : Int) (k : Int → List V → Fl → Int → Int → Option R) : g_spec_l1Cur_mode N e_1 f_2 x_3 x_4 k = gb_spec_l1Cur_mode N e_1 f_2 x_3 x_4 k := by unfold g_spec_l1Cur_mode; rw [sealed_eq]

/-! ### loop.example/g00756/spec.DrawMay -/
noncomputable def gb_spec_DrawMay {R : Type} (N : Nat) (e_1 : List V) (f_2 : Fl) (k : Int → Int → Int → Int → Int → Int → Option R) : Option R :=
  g_spec_l1Cur_cred N e_1 f_2.noOwn.noOwn 0 0 fun x1 x2 e3 f4 x5 x6 x7 x8 x9 x10 => g_spec_l1Cur_mode N e3 f4 x5 x6 fun x11 e12 f13 x14 x15 => g_spec_l1Cur_pick N 3 e12 f13 x14 x15 fun x16 e17 f18 x19 x20 => g_spec_l1Cur_pick N 3 e17 f18 x19 x20 fun x21 e22 f23 x24 x25 => g_spec_l1Cur_pick N 8 e22 f23 x24 x25 fun x26 e27 f28 x29 x30 => g_spec_l1Cur_pick N 30 e27 f28 x29 x30 fun x31 e32 f33 x34 x35 => k x1 x2 x11 x16 x21 (IntKind.i64.wrap (x26 + IntKind.i64.wrap (Int.tdiv x31 29)))
noncomputable def g_spec_DrawMay {R : Type} (N : Nat) (e_1 : List V) (f_2 : Fl) (k : Int → Int → Int → Int → Int → Int → Option R) : Option R := sealed @gb_spec_DrawMay N e_1 f_2 k
theorem g_spec_DrawMay_eq {R : Type} (N : Nat) (e_1 : List V) (f_2 : Fl) (k : Int → Int → Int → Int → Int → Int → Option R) : g_spec_DrawMay N e_1 f_2 k = gb_spec_DrawMay N e_1 f_2 k := by unfold g_spec_DrawMay; rw [sealed_eq]

/-! ### loop.example/g00756/impl.within -/
noncomputable def gb_impl_within {R : Type} (N : Nat) (x_1 : Int) (x_2 : Int) (x_3 : Int) (k : Bool → Option R) : Option R :=
  (match decide (x_1 ≥ x_2) with
   | true => k (decide (x_1 ≤ x_3))
   | false => k false)
noncomputable def g_impl_within {R : Type} (N : Nat) (x_1 : Int) (x_2 : Int) (x_3 : Int) (k : Bool → Option R) : Option R := sealed @gb_impl_within N x_1 x_2 x_3 k
theorem g_impl_within_eq {R : Type} (N : Nat) (x_1 : Int) (x_2 : Int) (x_3 : Int) (k : Bool → Option R) : g_impl_within N x_1 x_2 x_3 k = gb_impl_within N x_1 x_2 x_3 k := by unfold g_impl_within; rw [sealed_eq]

/-! ### loop.example/g00756/impl.isId -/
noncomputable def gb_impl_isId {R : Type} (N : Nat) (x_1 : Int) (k : Bool → Option R) : Option R :=
  g_impl_within N x_1 0 99 fun b1 => k b1
noncomputable def g_impl_isId {R : Type} (N : Nat) (x_1 : Int) (k : Bool → Option R) : Option R := sealed @gb_impl_isId N x_1 k
theorem g_impl_isId_eq {R : Type} (N : Nat) (x_1 : Int) (k : Bool → Option R) : g_impl_isId N x_1 k = gb_impl_isId N x_1 k := by unfold g_impl_isId; rw [sealed_eq]

/-! ### loop.example/g00756/impl.GoodCred -/
noncomputable def gb_impl_GoodCred {R : Type} (N : Nat) (x_1 : Int) (x_2 : Int) (k : Bool → Option R) : Option R :=
  g_impl_isId N x_1 fun b1 => (match b1 with
   | true => g_impl_isId N x_2 fun b2 => k b2
   | false => k false)
noncomputable def g_impl_GoodCred {R : Type} (N : Nat) (x_1 : Int) (x_2 : Int) (k : Bool → Option R) : Option R := sealed @gb_impl_GoodCred N x_1 x_2 k
theorem g_impl_GoodCred_eq {R : Type} (N : Nat) (x_1 : Int) (x_2 : Int) (k : Bool → Option R) : g_impl_GoodCred N x_1 x_2 k = gb_impl_GoodCred N x_1 x_2 k := by unfold g_impl_GoodCred; rw [sealed_eq]

/-! ### loop.example/g00756/impl.isMode -/
noncomputable def gb_impl_isMode {R : Type} (N : Nat) (x_1 : Int) (k : Bool → Option R) : Option R :=
  g_impl_within N x_1 0 511 fun b1 => k b1
noncomputable def g_impl_isMode {R : Type} (N : Nat) (x_1 : Int) (k : Bool → Option R) : Option R := sealed @gb_impl_isMode N x_1 k
theorem g_impl_isMode_eq {R : Type} (N : Nat) (x_1 : Int) (k : Bool → Option R) : g_impl_isMode N x_1 k = gb_impl_isMode N x_1 k := by unfold g_impl_isMode; rw [sealed_eq]

/-! ### (loop.example/g00756/impl.Cred).may -/
noncomputable def gb_impl_Cred_may {R : Type} (N : Nat) (x_1 : Int) (x_2 : Int) (x_3 : Int) (x_4 : Int) (x_5 : Int) (x_6 : Int) (k : Bool → Option R) : Option R :=
  (match (x_1 == 0) with
   | true => k true
   | false => (match (x_1 == x_4) with
    | true => k (IntKind.i64.wrap (BitVec.ofInt IntKind.i64.bits x_6 &&& ~~~(BitVec.ofInt IntKind.i64.bits (Int.fdiv x_3 (2 ^ (min (6 : Int).toNat 64))))).toNat == 0)
    | false => (match (x_2 == x_5) with
     | true => k (IntKind.i64.wrap (BitVec.ofInt IntKind.i64.bits x_6 &&& ~~~(BitVec.ofInt IntKind.i64.bits (IntKind.i64.wrap (BitVec.ofInt IntKind.i64.bits (Int.fdiv x_3 (2 ^ (min (3 : Int).toNat 64))) &&& BitVec.ofInt IntKind.i64.bits 7).toNat))).toNat == 0)
     | false => k (IntKind.i64.wrap (BitVec.ofInt IntKind.i64.bits x_6 &&& ~~~(BitVec.ofInt IntKind.i64.bits (IntKind.i64.wrap (BitVec.ofInt IntKind.i64.bits x_3 &&& BitVec.ofInt IntKind.i64.bits 7).toNat))).toNat == 0))))
noncomputable def g_impl_Cred_may {R : Type} (N : Nat) (x_1 : Int) (x_2 : Int) (x_3 : Int) (x_4 : Int) (x_5 : Int) (x_6 : Int) (k : Bool → Option R) : Option R := sealed @gb_impl_Cred_may N x_1 x_2 x_3 x_4 x_5 x_6 k
theorem g_impl_Cred_may_eq {R : Type} (N : Nat) (x_1 : Int) (x_2 : Int) (x_3 : Int) (x_4 : Int) (x_5 : Int) (x_6 : Int) (k : Bool → Option R) : g_impl_Cred_may N x_1 x_2 x_3 x_4 x_5 x_6 k = gb_impl_Cred_may N x_1 x_2 x_3 x_4 x_5 x_6 k := by unfold g_impl_Cred_may; rw [sealed_eq]

/-! ### loop.example/g00756/impl.May -/
noncomputable def gb_impl_May {R : Type} (N : Nat) (x_1 : Int) (x_2 : Int) (x_3 : Int) (x_4 : Int) (x_5 : Int) (x_6 : Int) (k : Bool → Bool → Option R) : Option R :=
  g_impl_GoodCred N x_1 x_2 fun b1 => (match (!b1) with
   | true => k false false
   | false => g_impl_isMode N x_3 fun b2 => (match (!b2) with
    | true => k false false
    | false => g_impl_isId N x_4 fun b3 => (match (!b3) with
     | true => k false false
     | false => g_impl_isId N x_5 fun b4 => (match (!b4) with
      | true => k false false
      | false => g_impl_within N x_6 0 7 fun b5 => (match (!b5) with
       | true => k false false
       | false => g_impl_Cred_may N x_1 x_2 x_3 x_4 x_5 x_6 fun b6 => k b6 true)))))
noncomputable def g_impl_May {R : Type} (N : Nat) (x_1 : Int) (x_2 : Int) (x_3 : Int) (x_4 : Int) (x_5 : Int) (x_6 : Int) (k : Bool → Bool → Option R) : Option R := sealed @gb_impl_May N x_1 x_2 x_3 x_4 x_5 x_6 k
theorem g_impl_May_eq {R : Type} (N : Nat) (x_1 : Int) (x_2 : Int) (x_3 : Int) (x_4 : Int) (x_5 : Int) (x_6 : Int) (k : Bool → Bool → Option R) : g_impl_May N x_1 x_2 x_3 x_4 x_5 x_6 k = gb_impl_May N x_1 x_2 x_3 x_4 x_5 x_6 k := by unfold g_impl_May; rw [sealed_eq]

/-! ### loop.example/g00756/spec.l1In -/
noncomputable def gb_spec_l1In {R : Type} (N : Nat) (x_1 : Int) (x_2 : Int) (x_3 : Int) (k : Bool → Option R) : Option R :=
  (match decide (x_1 ≥ x_2) with
   | true => k (decide (x_1 ≤ x_3))
   | false => k false)
noncomputable def g_spec_l1In {R : Type} (N : Nat) (x_1 : Int) (x_2 : Int) (x_3 : Int) (k : Bool → Option R) : Option R := sealed @gb_spec_l1In N x_1 x_2 x_3 k
theorem g_spec_l1In_eq {R : Type} (N : Nat) (x_1 : Int) (x_2 : Int) (x_3 : Int) (k : Bool → Option R) : g_spec_l1In N x_1 x_2 x_3 k = gb_spec_l1In N x_1 x_2 x_3 k := by unfold g_spec_l1In; rw [sealed_eq]

/-! ### loop.example/g00756/spec.l1Cred -/
noncomputable def gb_spec_l1Cred {R : Type} (N : Nat) (x_1 : Int) (x_2 : Int) (k : Bool → Option R) : Option R :=
  g_spec_l1In N x_1 0 99 fun b1 => (match b1 with
   | true => g_spec_l1In N x_2 0 99 fun b2 => k b2
   | false => k false)
noncomputable def g_spec_l1Cred {R : Type} (N : Nat) (x_1 : Int) (x_2 : Int) (k : Bool → Option R) : Option R := sealed @gb_spec_l1Cred N x_1 x_2 k
theorem g_spec_l1Cred_eq {R : Type} (N : Nat) (x_1 : Int) (x_2 : Int) (k : Bool → Option R) : g_spec_l1Cred N x_1 x_2 k = gb_spec_l1Cred N x_1 x_2 k := by unfold g_spec_l1Cred; rw [sealed_eq]

/-! ### loop.example/g00756/spec.l1Mode -/
noncomputable def gb_spec_l1Mode {R : Type} (N : Nat) (x_1 : Int) (k : Bool → Option R) : Option R :=
  g_spec_l1In N x_1 0 511 fun b1 => k b1
noncomputable def g_spec_l1Mode {R : Type} (N : Nat) (x_1 : Int) (k : Bool → Option R) : Option R := sealed @gb_spec_l1Mode N x_1 k
theorem g_spec_l1Mode_eq {R : Type} (N : Nat) (x_1 : Int) (k : Bool → Option R) : g_spec_l1Mode N x_1 k = gb_spec_l1Mode N x_1 k := by unfold g_spec_l1Mode; rw [sealed_eq]

/-! ### loop.example/g00756/spec.l1May -/
noncomputable def gb_spec_l1May {R : Type} (N : Nat) (x_1 : Int) (x_2 : Int) (x_3 : Int) (x_4 : Int) (x_5 : Int) (x_6 : Int) (k : Bool → Option R) : Option R :=
  (match (x_1 == 0) with
   | true => k true
   | false => (match (x_1 == x_4) with
    | true => k (IntKind.i64.wrap (BitVec.ofInt IntKind.i64.bits (Int.fdiv x_3 (2 ^ (min (6 : Int).toNat 64))) &&& BitVec.ofInt IntKind.i64.bits x_6).toNat == x_6)
    | false => (match (x_2 == x_5) with
     | true => k (IntKind.i64.wrap (BitVec.ofInt IntKind.i64.bits (IntKind.i64.wrap (BitVec.ofInt IntKind.i64.bits (Int.fdiv x_3 (2 ^ (min (3 : Int).toNat 64))) &&& BitVec.ofInt IntKind.i64.bits 7).toNat) &&& BitVec.ofInt IntKind.i64.bits x_6).toNat == x_6)
     | false => k (IntKind.i64.wrap (BitVec.ofInt IntKind.i64.bits (IntKind.i64.wrap (BitVec.ofInt IntKind.i64.bits x_3 &&& BitVec.ofInt IntKind.i64.bits 7).toNat) &&& BitVec.ofInt IntKind.i64.bits x_6).toNat == x_6))))
noncomputable def g_spec_l1May {R : Type} (N : Nat) (x_1 : Int) (x_2 : Int) (x_3 : Int) (x_4 : Int) (x_5 : Int) (x_6 : Int) (k : Bool → Option R) : Option R := sealed @gb_spec_l1May N x_1 x_2 x_3 x_4 x_5 x_6 k
theorem g_spec_l1May_eq {R : Type} (N : Nat) (x_1 : Int) (x_2 : Int) (x_3 : Int) (x_4 : Int) (x_5 : Int) (x_6 : Int) (k : Bool → Option R) : g_spec_l1May N x_1 x_2 x_3 x_4 x_5 x_6 k = gb_spec_l1May N x_1 x_2 x_3 x_4 x_5 x_6 k := by unfold g_spec_l1May; rw [sealed_eq]

/-! ### loop.example/g00756/spec.May -/
noncomputable def gb_spec_May {R : Type} (N : Nat) (x_1 : Int) (x_2 : Int) (x_3 : Int) (x_4 : Int) (x_5 : Int) (x_6 : Int) (k : Bool → Bool → Option R) : Option R :=
  g_spec_l1Cred N x_1 x_2 fun b1 => (match (!b1) with
   | true => k false false
   | false => g_spec_l1Mode N x_3 fun b2 => (match (!b2) with
    | true => k false false
    | false => g_spec_l1In N x_4 0 99 fun b3 => (match (!b3) with
     | true => k false false
     | false => g_spec_l1In N x_5 0 99 fun b4 => (match (!b4) with
      | true => k false false
      | false => g_spec_l1In N x_6 0 7 fun b5 => (match (!b5) with
       | true => k false false
       | false => g_spec_l1May N x_1 x_2 x_3 x_4 x_5 x_6 fun b6 => k b6 true)))))
noncomputable def g_spec_May {R : Type} (N : Nat) (x_1 : Int) (x_2 : Int) (x_3 : Int) (x_4 : Int) (x_5 : Int) (x_6 : Int) (k : Bool → Bool → Option R) : Option R := sealed @gb_spec_May N x_1 x_2 x_3 x_4 x_5 x_6 k
theorem g_spec_May_eq {R : Type} (N : Nat) (x_1 : Int) (x_2 : Int) (x_3 : Int) (x_4 : Int) (x_5 : Int) (x_6 : Int) (k : Bool → Bool → Option R) : g_spec_May N x_1 x_2 x_3 x_4 x_5 x_6 k = gb_spec_May N x_1 x_2 x_3 x_4 x_5 x_6 k := by unfold g_spec_May; rw [sealed_eq]

/-! ### loop.example/g00756/spec.GoodCred -/
noncomputable def gb_spec_GoodCred {R : Type} (N : Nat) (x_1 : Int) (x_2 : Int) (k : Bool → Option R) : Option R :=
  g_spec_l1Cred N x_1 x_2 fun b1 => k b1
noncomputable def g_spec_GoodCred {R : Type} (N : Nat) (x_1 : Int) (x_2 : Int) (k : Bool → Option R) : Option R := sealed @gb_spec_GoodCred N x_1 x_2 k
theorem g_spec_GoodCred_eq {R : Type} (N : Nat) (x_1 : Int) (x_2 : Int) (k : Bool → Option R) : g_spec_GoodCred N x_1 x_2 k = gb_spec_GoodCred N x_1 x_2 k := by unfold g_spec_GoodCred; rw [sealed_eq]

/-! ### loop.example/g00756/spec.DrawWithMask -/
noncomputable def gb_spec_DrawWithMask {R : Type} (N : Nat) (e_1 : List V) (f_2 : Fl) (k : Int → Int → Option R) : Option R :=
  g_spec_l1Cur_mode N e_1 f_2.noOwn.noOwn 0 0 fun x1 e2 f3 x4 x5 => g_spec_l1Cur_mode N e2 f3 x4 x5 fun x6 e7 f8 x9 x10 => g_spec_l1Cur_pick N 20 e7 f8 x9 x10 fun x11 e12 f13 x14 x15 => k x1 (IntKind.i64.wrap (x6 + IntKind.i64.wrap (IntKind.i64.wrap (Int.tdiv x11 19) * 512)))
noncomputable def g_spec_DrawWithMask {R : Type} (N : Nat) (e_1 : List V) (f_2 : Fl) (k : Int → Int → Option R) : Option R := sealed @gb_spec_DrawWithMask N e_1 f_2 k
theorem g_spec_DrawWithMask_eq {R : Type} (N : Nat) (e_1 : List V) (f_2 : Fl) (k : Int → Int → Option R) : g_spec_DrawWithMask N e_1 f_2 k = gb_spec_DrawWithMask N e_1 f_2 k := by unfold g_spec_DrawWithMask; rw [sealed_eq]

/-! ### loop.example/g00756/impl.WithMask -/
noncomputable def gb_impl_WithMask {R : Type} (N : Nat) (x_1 : Int) (x_2 : Int) (k : Int → Bool → Option R) : Option R :=
  g_impl_isMode N x_1 fun b1 => (match (!b1) with
   | true => k 0 false
   | false => g_impl_isMode N x_2 fun b2 => (match (!b2) with
    | true => k 0 false
    | false => k (IntKind.i64.wrap (BitVec.ofInt IntKind.i64.bits x_1 &&& ~~~(BitVec.ofInt IntKind.i64.bits x_2)).toNat) true))
noncomputable def g_impl_WithMask {R : Type} (N : Nat) (x_1 : Int) (x_2 : Int) (k : Int → Bool → Option R) : Option R := sealed @gb_impl_WithMask N x_1 x_2 k
theorem g_impl_WithMask_eq {R : Type} (N : Nat) (x_1 : Int) (x_2 : Int) (k : Int → Bool → Option R) : g_impl_WithMask N x_1 x_2 k = gb_impl_WithMask N x_1 x_2 k := by unfold g_impl_WithMask; rw [sealed_eq]

/-! ### loop.example/g00756/spec.WithMask -/
noncomputable def gb_spec_WithMask {R : Type} (N : Nat) (x_1 : Int) (x_2 : Int) (k : Int → Bool → Option R) : Option R :=
  g_spec_l1Mode N x_1 fun b1 => (match (!b1) with
   | true => k 0 false
   | false => g_spec_l1Mode N x_2 fun b2 => (match (!b2) with
    | true => k 0 false
    | false => k (IntKind.i64.wrap (BitVec.ofInt IntKind.i64.bits x_1 &&& ~~~(BitVec.ofInt IntKind.i64.bits x_2)).toNat) true))
noncomputable def g_spec_WithMask {R : Type} (N : Nat) (x_1 : Int) (x_2 : Int) (k : Int → Bool → Option R) : Option R := sealed @gb_spec_WithMask N x_1 x_2 k
theorem g_spec_WithMask_eq {R : Type} (N : Nat) (x_1 : Int) (x_2 : Int) (k : Int → Bool → Option R) : g_spec_WithMask N x_1 x_2 k = gb_spec_WithMask N x_1 x_2 k := by unfold g_spec_WithMask; rw [sealed_eq]

/-! ### loop.example/g00756/spec.DrawGoodCred -/
noncomputable def gb_spec_DrawGoodCred {R : Type} (N : Nat) (e_1 : List V) (f_2 : Fl) (k : Int → Int → Option R) : Option R :=
  g_spec_l1Cur_cred N e_1 f_2.noOwn.noOwn 0 0 fun x1 x2 e3 f4 x5 x6 x7 x8 x9 x10 => k x1 x2
noncomputable def g_spec_DrawGoodCred {R : Type} (N : Nat) (e_1 : List V) (f_2 : Fl) (k : Int → Int → Option R) : Option R := sealed @gb_spec_DrawGoodCred N e_1 f_2 k
theorem g_spec_DrawGoodCred_eq {R : Type} (N : Nat) (e_1 : List V) (f_2 : Fl) (k : Int → Int → Option R) : g_spec_DrawGoodCred N e_1 f_2 k = gb_spec_DrawGoodCred N e_1 f_2 k := by unfold g_spec_DrawGoodCred; rw [sealed_eq]

/-! ### loop.example/g00756/laws.FnMay -/
noncomputable def l_laws_FnMay_0_step {R : Type} (N : Nat) (e_1 : List V) (f_2 : Fl) (x_3 : Int) (x_4 : Int) (x_5 : Int) (x_6 : Int) (b_7 : Bool) (e_8 : List V) (x_10 : Int) (x_11 : Int) (nx : Bool → Int → Option R) (b_12 : Bool) (x_9 : Int) (k0 : Bool → Option R) (k1 : Bool → Option R) : Option R :=
  (match decide (x_9 < 3) with
   | true => (if 0 ≤ x_9 then must (nth e_8 x_9.toNat) fun e18 => asInt .i64 e18 fun n19 => g_impl_May N x_10 x_11 x_3 x_4 x_5 (IntKind.i64.wrap (BitVec.ofInt IntKind.i64.bits x_6 &&& BitVec.ofInt IntKind.i64.bits n19).toNat) fun b20 b21 => (match (!b21) with
     | true => k0 b_12
     | false => (match b_12 with
      | true => nx b20 (IntKind.i64.wrap (x_9 + 1))
      | false => nx false (IntKind.i64.wrap (x_9 + 1)))) else none)
   | false => k1 b_12)
noncomputable def l_laws_FnMay_0 {R : Type} (N : Nat) (e_1 : List V) (f_2 : Fl) (x_3 : Int) (x_4 : Int) (x_5 : Int) (x_6 : Int) (b_7 : Bool) (e_8 : List V) (x_10 : Int) (x_11 : Int) (k0 : Bool → Option R) (k1 : Bool → Option R) : Nat → Bool → Int → Option R
  | 0, _, _ => none
  | n + 1, b_12, x_9 => l_laws_FnMay_0_step N e_1 f_2 x_3 x_4 x_5 x_6 b_7 e_8 x_10 x_11 (fun b_12 x_9 => l_laws_FnMay_0 N e_1 f_2 x_3 x_4 x_5 x_6 b_7 e_8 x_10 x_11 k0 k1 n b_12 x_9) b_12 x_9 k0 k1
noncomputable def gb_laws_FnMay {R : Type} (N : Nat) (e_1 : List V) (f_2 : Fl) (e_3 : List V) (f_4 : Fl) (k : Bool → Option R) : Option R :=
  g_laws_big N e_1 f_2.noOwn.noOwn e_3 f_4.noOwn.noOwn fun b1 => (match b1 with
   | true => k true
   | false => g_spec_DrawMay N e_1 f_2.noOwn.noOwn fun x2 x3 x4 x5 x6 x7 => g_impl_May N x2 x3 x4 x5 x6 x7 fun b8 b9 => g_spec_May N x2 x3 x4 x5 x6 x7 fun b10 b11 => (match (!(b9 == b11)) with
    | true => k false
    | false => (match (!(b8 == b10)) with
     | true => k false
     | false => g_impl_GoodCred N x2 x3 fun b12 => g_spec_GoodCred N x2 x3 fun b13 => (match (!(b12 == b13)) with
      | true => k false
      | false => (match b9 with
       | true => l_laws_FnMay_0 N e_3 f_4 x4 x5 x6 x7 b8 [.int .i64 1, .int .i64 2, .int .i64 4] x2 x3
           (fun b22 => k false)
           (fun b23 => (match (!(b23 == b8)) with
         | true => k false
         | false => (match (x2 == 0) with
          | true => (match (!b8) with
           | true => k false
           | false => g_spec_DrawWithMask N e_3 f_4.noOwn.noOwn fun x24 x25 => g_impl_WithMask N x24 x25 fun x26 b27 => g_spec_WithMask N x24 x25 fun x28 b29 => g_spec_DrawGoodCred N e_3 f_4.noOwn.noOwn fun x30 x31 => (match (b27 == b29) with
            | true => (match (x26 == x28) with
             | true => (match (!b27) with
              | true => g_impl_GoodCred N x30 x31 fun b32 => g_spec_GoodCred N x30 x31 fun b33 => k (b32 == b33)
              | false => (match (IntKind.i64.wrap (BitVec.ofInt IntKind.i64.bits x26 &&& BitVec.ofInt IntKind.i64.bits x25).toNat == 0) with
               | true => (match (IntKind.i64.wrap (BitVec.ofInt IntKind.i64.bits x26 ||| BitVec.ofInt IntKind.i64.bits x24).toNat == x24) with
                | true => g_impl_GoodCred N x30 x31 fun b34 => g_spec_GoodCred N x30 x31 fun b35 => k (b34 == b35)
                | false => k false)
               | false => k false))
             | false => k false)
            | false => k false))
          | false => g_spec_DrawWithMask N e_3 f_4.noOwn.noOwn fun x36 x37 => g_impl_WithMask N x36 x37 fun x38 b39 => g_spec_WithMask N x36 x37 fun x40 b41 => g_spec_DrawGoodCred N e_3 f_4.noOwn.noOwn fun x42 x43 => (match (b39 == b41) with
           | true => (match (x38 == x40) with
            | true => (match (!b39) with
             | true => g_impl_GoodCred N x42 x43 fun b44 => g_spec_GoodCred N x42 x43 fun b45 => k (b44 == b45)
             | false => (match (IntKind.i64.wrap (BitVec.ofInt IntKind.i64.bits x38 &&& BitVec.ofInt IntKind.i64.bits x37).toNat == 0) with
              | true => (match (IntKind.i64.wrap (BitVec.ofInt IntKind.i64.bits x38 ||| BitVec.ofInt IntKind.i64.bits x36).toNat == x36) with
               | true => g_impl_GoodCred N x42 x43 fun b46 => g_spec_GoodCred N x42 x43 fun b47 => k (b46 == b47)
               | false => k false)
              | false => k false))
            | false => k false)
           | false => k false))))
           N true 0
       | false => g_spec_DrawWithMask N e_3 f_4.noOwn.noOwn fun x48 x49 => g_impl_WithMask N x48 x49 fun x50 b51 => g_spec_WithMask N x48 x49 fun x52 b53 => g_spec_DrawGoodCred N e_3 f_4.noOwn.noOwn fun x54 x55 => (match (b51 == b53) with
        | true => (match (x50 == x52) with
         | true => (match (!b51) with
          | true => g_impl_GoodCred N x54 x55 fun b56 => g_spec_GoodCred N x54 x55 fun b57 => k (b56 == b57)
          | false => (match (IntKind.i64.wrap (BitVec.ofInt IntKind.i64.bits x50 &&& BitVec.ofInt IntKind.i64.bits x49).toNat == 0) with
           | true => (match (IntKind.i64.wrap (BitVec.ofInt IntKind.i64.bits x50 ||| BitVec.ofInt IntKind.i64.bits x48).toNat == x48) with
            | true => g_impl_GoodCred N x54 x55 fun b58 => g_spec_GoodCred N x54 x55 fun b59 => k (b58 == b59)
            | false => k false)
           | false => k false))
         | false => k false)
        | false => k false))))))
noncomputable def g_laws_FnMay {R : Type} (N : Nat) (e_1 : List V) (f_2 : Fl) (e_3 : List V) (f_4 : Fl) (k : Bool → Option R) : Option R := sealed @gb_laws_FnMay N e_1 f_2 e_3 f_4 k
theorem g_laws_FnMay_eq {R : Type} (N : Nat) (e_1 : List V) (f_2 : Fl) (e_3 : List V) (f_4 : Fl) (k : Bool → Option R) : g_laws_FnMay N e_1 f_2 e_3 f_4 k = gb_laws_FnMay N e_1 f_2 e_3 f_4 k := by unfold g_laws_FnMay; rw [sealed_eq]

/-! ## the machine -/
def mode (f : FuncId) : Mode :=
  match [131, 88, 116, 130, 86, 87].any (Nat.beq f) with
  | true => .shared
  | false => .pure
noncomputable abbrev C : Cfg := Cfg.of Try.prog 6 mode

/-! ### loop.example/g00756/laws.big -/
noncomputable def f_laws_big (N : Nat) : (R : Type) → List V → S → (V → S → Option R) → Option R := fun _ vs s K =>
  asCons vs fun v'1 l'2 => asList 1 v'1 fun e_1 f_2 => asCons l'2 fun v'3 l'4 => asList 1 v'3 fun e_3 f_4 => asNil l'4 <| asEnd s <| g_laws_big N e_1 f_2 e_3 f_4 fun b_5 => K (.bool b_5) []
noncomputable def Φ_laws_big (N : Nat) : Callee := (noCallee).add 23 (f_laws_big N)
noncomputable def c_laws_big : Code := bodyOf Try.f23
theorem at_laws_big : loopsAt c_laws_big [] = [] := by kernel_rfl
theorem b_laws_big {R : Type} (N : Nat) (e_1 : List V) (f_2 : Fl) (e_3 : List V) (f_4 : Fl) (K : V → S → Option R) : bodyV C (noCallee) (noLooper) 23 Try.f23 [.list 1 e_1 f_2, .list 1 e_3 f_4] [] K =
  gb_laws_big N e_1 f_2 e_3 f_4 (fun b_5 => K (.bool b_5) []) := by kernel_rfl
theorem loops_laws_big {N : Nat} (hC : Ok Try.prog C) (hΦ : CalleeOk Try.prog C (noCallee)) : LoopsOk Try.prog C (noLooper) c_laws_big [] :=
  loopsOk_of c_laws_big [] (by
    rw [at_laws_big]
    intro p hp
    cases hp)
theorem callee_laws_big (hC : Ok Try.prog C) {N : Nat} (hΦ : CalleeOk Try.prog C (noCallee)) : CalleeOk Try.prog C (Φ_laws_big N) := by
  refine hΦ.add_pure rfl fun R vs K r h => body_pure (fn := Try.f23) (c := c_laws_big) hC hΦ Try.func23 (by kernel_rfl) (by kernel_rfl) (loops_laws_big (N := N) hC hΦ) rfl rfl ?_
  unfold f_laws_big at h
  obtain ⟨v'1, l'2, rfl, h1⟩ := asCons_some h
  obtain ⟨e_1, f_2, rfl, h2⟩ := asList_some h1
  obtain ⟨v'3, l'4, rfl, h3⟩ := asCons_some h2
  obtain ⟨e_3, f_4, rfl, h4⟩ := asList_some h3
  obtain ⟨rfl, h5⟩ := asNil_some h4
  obtain ⟨_, h6⟩ := asEnd_some h5
  rw [b_laws_big, ← g_laws_big_eq]
  exact h6

/-! ### (*loop.example/g00756/spec.l1Cur).next -/
noncomputable def f_spec_l1Cur_next (N : Nat) : (R : Type) → List V → S → (V → S → Option R) → Option R := fun _ vs s K =>
  asCons vs fun v'1 l'2 => asPtr v'1 fun k'3 k'4 k'5 k'6 => isN k'4 0 <| isN k'5 0 <| isN k'6 0 <| asNil l'2 <| asAt s k'3 0 fun o'7 => obIs o'7 3 95 fun e'8 k'9 => isN k'9 0 <| asCons e'8 fun v'10 l'11 => asAgg v'10 fun c'12 => asCons c'12 fun v'13 l'14 => asList 1 v'13 fun e_1 f_2 => asCons l'14 fun v'15 l'16 => asInt .i64 v'15 fun x_3 => asCons l'16 fun v'17 l'18 => asInt .u64 v'17 fun x_4 => asNil l'18 <| asNil l'11 <| g_spec_l1Cur_next N e_1 f_2 x_3 x_4 fun x_901 e_902 f_903 x_904 x_905 => K ((.int .i64 x_901 : V).ren k'3 s.length) (framedS s k'3 [some ⟨[.agg [.list 1 e_902 f_903, .int .i64 x_904, .int .u64 x_905]], 3, 95, 0⟩])
noncomputable def Φ_spec_l1Cur_next (N : Nat) : Callee := (Φ_laws_big N).add 131 (f_spec_l1Cur_next N)
noncomputable def c_spec_l1Cur_next : Code := bodyOf Try.f131
theorem at_spec_l1Cur_next : loopsAt c_spec_l1Cur_next [] = [] := by kernel_rfl
theorem b_spec_l1Cur_next {R : Type} (N : Nat) (e_1 : List V) (f_2 : Fl) (x_3 : Int) (x_4 : Int) (K : V → S → Option R) : bodyV C (Φ_laws_big N) (noLooper) 131 Try.f131 [.ptr 0 0 0 0] [some ⟨[.agg [.list 1 e_1 f_2, .int .i64 x_3, .int .u64 x_4]], 3, 95, 0⟩] K =
  gb_spec_l1Cur_next N e_1 f_2 x_3 x_4 (fun x_901 e_902 f_903 x_904 x_905 => K (.int .i64 x_901) [some ⟨[.agg [.list 1 e_902 f_903, .int .i64 x_904, .int .u64 x_905]], 3, 95, 0⟩]) := by kernel_rfl
theorem loops_spec_l1Cur_next {N : Nat} (hC : Ok Try.prog C) (hΦ : CalleeOk Try.prog C (Φ_laws_big N)) : LoopsOk Try.prog C (noLooper) c_spec_l1Cur_next [] :=
  loopsOk_of c_spec_l1Cur_next [] (by
    rw [at_spec_l1Cur_next]
    intro p hp
    cases hp)
theorem callee_spec_l1Cur_next (hC : Ok Try.prog C) {N : Nat} (hΦ : CalleeOk Try.prog C (Φ_laws_big N)) : CalleeOk Try.prog C (Φ_spec_l1Cur_next N) := by
  refine hΦ.add_shared rfl fun R vs s K r h => ?_
  unfold f_spec_l1Cur_next at h
  obtain ⟨v'1, l'2, rfl, h1⟩ := asCons_some h
  obtain ⟨k'3, k'4, k'5, k'6, rfl, h2⟩ := asPtr_some h1
  obtain ⟨rfl, h3⟩ := isN_some h2
  obtain ⟨rfl, h4⟩ := isN_some h3
  obtain ⟨rfl, h5⟩ := isN_some h4
  obtain ⟨rfl, h6⟩ := asNil_some h5
  obtain ⟨o'7, hob, h7⟩ := asAt_some h6
  obtain ⟨e'8, k'9, rfl, h8⟩ := obIs_some h7
  obtain ⟨rfl, h9⟩ := isN_some h8
  obtain ⟨v'10, l'11, rfl, h10⟩ := asCons_some h9
  obtain ⟨c'12, rfl, h11⟩ := asAgg_some h10
  obtain ⟨v'13, l'14, rfl, h12⟩ := asCons_some h11
  obtain ⟨e_1, f_2, rfl, h13⟩ := asList_some h12
  obtain ⟨v'15, l'16, rfl, h14⟩ := asCons_some h13
  obtain ⟨x_3, rfl, h15⟩ := asInt_some h14
  obtain ⟨v'17, l'18, rfl, h16⟩ := asCons_some h15
  obtain ⟨x_4, rfl, h17⟩ := asInt_some h16
  obtain ⟨rfl, h18⟩ := asNil_some h17
  obtain ⟨rfl, h19⟩ := asNil_some h18
  refine frame_body (fn := Try.f131) (c := c_spec_l1Cur_next) hC hΦ Try.func131 (by kernel_rfl) (by kernel_rfl) (loops_spec_l1Cur_next (N := N) hC hΦ) rfl hob rfl rfl ?_
  rw [b_spec_l1Cur_next, ← g_spec_l1Cur_next_eq]
  exact h19

/-! ### (*loop.example/g00756/spec.l1Cur).pick -/
noncomputable def f_spec_l1Cur_pick (N : Nat) : (R : Type) → List V → S → (V → S → Option R) → Option R := fun _ vs s K =>
  asCons vs fun v'1 l'2 => asPtr v'1 fun k'3 k'4 k'5 k'6 => isN k'4 0 <| isN k'5 0 <| isN k'6 0 <| asCons l'2 fun v'7 l'8 => asInt .i64 v'7 fun x_1 => asNil l'8 <| asAt s k'3 0 fun o'9 => obIs o'9 3 95 fun e'10 k'11 => isN k'11 0 <| asCons e'10 fun v'12 l'13 => asAgg v'12 fun c'14 => asCons c'14 fun v'15 l'16 => asList 1 v'15 fun e_2 f_3 => asCons l'16 fun v'17 l'18 => asInt .i64 v'17 fun x_4 => asCons l'18 fun v'19 l'20 => asInt .u64 v'19 fun x_5 => asNil l'20 <| asNil l'13 <| g_spec_l1Cur_pick N x_1 e_2 f_3 x_4 x_5 fun x_901 e_902 f_903 x_904 x_905 => K ((.int .i64 x_901 : V).ren k'3 s.length) (framedS s k'3 [some ⟨[.agg [.list 1 e_902 f_903, .int .i64 x_904, .int .u64 x_905]], 3, 95, 0⟩])
noncomputable def Φ_spec_l1Cur_pick (N : Nat) : Callee := (Φ_spec_l1Cur_next N).add 88 (f_spec_l1Cur_pick N)
noncomputable def c_spec_l1Cur_pick : Code := bodyOf Try.f88
theorem at_spec_l1Cur_pick : loopsAt c_spec_l1Cur_pick [] = [] := by kernel_rfl
theorem b_spec_l1Cur_pick {R : Type} (N : Nat) (x_1 : Int) (e_2 : List V) (f_3 : Fl) (x_4 : Int) (x_5 : Int) (K : V → S → Option R) : bodyV C (Φ_spec_l1Cur_next N) (noLooper) 88 Try.f88 [.ptr 0 0 0 0, .int .i64 x_1] [some ⟨[.agg [.list 1 e_2 f_3, .int .i64 x_4, .int .u64 x_5]], 3, 95, 0⟩] K =
  gb_spec_l1Cur_pick N x_1 e_2 f_3 x_4 x_5 (fun x_901 e_902 f_903 x_904 x_905 => K (.int .i64 x_901) [some ⟨[.agg [.list 1 e_902 f_903, .int .i64 x_904, .int .u64 x_905]], 3, 95, 0⟩]) := by kernel_rfl
theorem loops_spec_l1Cur_pick {N : Nat} (hC : Ok Try.prog C) (hΦ : CalleeOk Try.prog C (Φ_spec_l1Cur_next N)) : LoopsOk Try.prog C (noLooper) c_spec_l1Cur_pick [] :=
  loopsOk_of c_spec_l1Cur_pick [] (by
    rw [at_spec_l1Cur_pick]
    intro p hp
    cases hp)
theorem callee_spec_l1Cur_pick (hC : Ok Try.prog C) {N : Nat} (hΦ : CalleeOk Try.prog C (Φ_spec_l1Cur_next N)) : CalleeOk Try.prog C (Φ_spec_l1Cur_pick N) := by
  refine hΦ.add_shared rfl fun R vs s K r h => ?_
  unfold f_spec_l1Cur_pick at h
  obtain ⟨v'1, l'2, rfl, h1⟩ := asCons_some h
  obtain ⟨k'3, k'4, k'5, k'6, rfl, h2⟩ := asPtr_some h1
  obtain ⟨rfl, h3⟩ := isN_some h2
  obtain ⟨rfl, h4⟩ := isN_some h3
  obtain ⟨rfl, h5⟩ := isN_some h4
  obtain ⟨v'7, l'8, rfl, h6⟩ := asCons_some h5
  obtain ⟨x_1, rfl, h7⟩ := asInt_some h6
  obtain ⟨rfl, h8⟩ := asNil_some h7
  obtain ⟨o'9, hob, h9⟩ := asAt_some h8
  obtain ⟨e'10, k'11, rfl, h10⟩ := obIs_some h9
  obtain ⟨rfl, h11⟩ := isN_some h10
  obtain ⟨v'12, l'13, rfl, h12⟩ := asCons_some h11
  obtain ⟨c'14, rfl, h13⟩ := asAgg_some h12
  obtain ⟨v'15, l'16, rfl, h14⟩ := asCons_some h13
  obtain ⟨e_2, f_3, rfl, h15⟩ := asList_some h14
  obtain ⟨v'17, l'18, rfl, h16⟩ := asCons_some h15
  obtain ⟨x_4, rfl, h17⟩ := asInt_some h16
  obtain ⟨v'19, l'20, rfl, h18⟩ := asCons_some h17
  obtain ⟨x_5, rfl, h19⟩ := asInt_some h18
  obtain ⟨rfl, h20⟩ := asNil_some h19
  obtain ⟨rfl, h21⟩ := asNil_some h20
  refine frame_body (fn := Try.f88) (c := c_spec_l1Cur_pick) hC hΦ Try.func88 (by kernel_rfl) (by kernel_rfl) (loops_spec_l1Cur_pick (N := N) hC hΦ) rfl hob rfl rfl ?_
  rw [b_spec_l1Cur_pick, ← g_spec_l1Cur_pick_eq]
  exact h21

/-! ### (*loop.example/g00756/spec.l1Cur).one -/
noncomputable def f_spec_l1Cur_one (N : Nat) : (R : Type) → List V → S → (V → S → Option R) → Option R := fun _ vs s K =>
  asCons vs fun v'1 l'2 => asPtr v'1 fun k'3 k'4 k'5 k'6 => isN k'4 0 <| isN k'5 0 <| isN k'6 0 <| asCons l'2 fun v'7 l'8 => asInt .i64 v'7 fun x_1 => asNil l'8 <| asAt s k'3 0 fun o'9 => obIs o'9 3 95 fun e'10 k'11 => isN k'11 0 <| asCons e'10 fun v'12 l'13 => asAgg v'12 fun c'14 => asCons c'14 fun v'15 l'16 => asList 1 v'15 fun e_2 f_3 => asCons l'16 fun v'17 l'18 => asInt .i64 v'17 fun x_4 => asCons l'18 fun v'19 l'20 => asInt .u64 v'19 fun x_5 => asNil l'20 <| asNil l'13 <| g_spec_l1Cur_one N x_1 e_2 f_3 x_4 x_5 fun b_901 e_902 f_903 x_904 x_905 => K ((.bool b_901 : V).ren k'3 s.length) (framedS s k'3 [some ⟨[.agg [.list 1 e_902 f_903, .int .i64 x_904, .int .u64 x_905]], 3, 95, 0⟩])
noncomputable def Φ_spec_l1Cur_one (N : Nat) : Callee := (Φ_spec_l1Cur_pick N).add 116 (f_spec_l1Cur_one N)
noncomputable def c_spec_l1Cur_one : Code := bodyOf Try.f116
theorem at_spec_l1Cur_one : loopsAt c_spec_l1Cur_one [] = [] := by kernel_rfl
theorem b_spec_l1Cur_one {R : Type} (N : Nat) (x_1 : Int) (e_2 : List V) (f_3 : Fl) (x_4 : Int) (x_5 : Int) (K : V → S → Option R) : bodyV C (Φ_spec_l1Cur_pick N) (noLooper) 116 Try.f116 [.ptr 0 0 0 0, .int .i64 x_1] [some ⟨[.agg [.list 1 e_2 f_3, .int .i64 x_4, .int .u64 x_5]], 3, 95, 0⟩] K =
  gb_spec_l1Cur_one N x_1 e_2 f_3 x_4 x_5 (fun b_901 e_902 f_903 x_904 x_905 => K (.bool b_901) [some ⟨[.agg [.list 1 e_902 f_903, .int .i64 x_904, .int .u64 x_905]], 3, 95, 0⟩]) := by kernel_rfl
theorem loops_spec_l1Cur_one {N : Nat} (hC : Ok Try.prog C) (hΦ : CalleeOk Try.prog C (Φ_spec_l1Cur_pick N)) : LoopsOk Try.prog C (noLooper) c_spec_l1Cur_one [] :=
  loopsOk_of c_spec_l1Cur_one [] (by
    rw [at_spec_l1Cur_one]
    intro p hp
    cases hp)
theorem callee_spec_l1Cur_one (hC : Ok Try.prog C) {N : Nat} (hΦ : CalleeOk Try.prog C (Φ_spec_l1Cur_pick N)) : CalleeOk Try.prog C (Φ_spec_l1Cur_one N) := by
  refine hΦ.add_shared rfl fun R vs s K r h => ?_
  unfold f_spec_l1Cur_one at h
  obtain ⟨v'1, l'2, rfl, h1⟩ := asCons_some h
  obtain ⟨k'3, k'4, k'5, k'6, rfl, h2⟩ := asPtr_some h1
  obtain ⟨rfl, h3⟩ := isN_some h2
  obtain ⟨rfl, h4⟩ := isN_some h3
  obtain ⟨rfl, h5⟩ := isN_some h4
  obtain ⟨v'7, l'8, rfl, h6⟩ := asCons_some h5
  obtain ⟨x_1, rfl, h7⟩ := asInt_some h6
  obtain ⟨rfl, h8⟩ := asNil_some h7
  obtain ⟨o'9, hob, h9⟩ := asAt_some h8
  obtain ⟨e'10, k'11, rfl, h10⟩ := obIs_some h9
  obtain ⟨rfl, h11⟩ := isN_some h10
  obtain ⟨v'12, l'13, rfl, h12⟩ := asCons_some h11
  obtain ⟨c'14, rfl, h13⟩ := asAgg_some h12
  obtain ⟨v'15, l'16, rfl, h14⟩ := asCons_some h13
  obtain ⟨e_2, f_3, rfl, h15⟩ := asList_some h14
  obtain ⟨v'17, l'18, rfl, h16⟩ := asCons_some h15
  obtain ⟨x_4, rfl, h17⟩ := asInt_some h16
  obtain ⟨v'19, l'20, rfl, h18⟩ := asCons_some h17
  obtain ⟨x_5, rfl, h19⟩ := asInt_some h18
  obtain ⟨rfl, h20⟩ := asNil_some h19
  obtain ⟨rfl, h21⟩ := asNil_some h20
  refine frame_body (fn := Try.f116) (c := c_spec_l1Cur_one) hC hΦ Try.func116 (by kernel_rfl) (by kernel_rfl) (loops_spec_l1Cur_one (N := N) hC hΦ) rfl hob rfl rfl ?_
  rw [b_spec_l1Cur_one, ← g_spec_l1Cur_one_eq]
  exact h21

/-! ### (*loop.example/g00756/spec.l1Cur).among -/
noncomputable def f_spec_l1Cur_among (N : Nat) : (R : Type) → List V → S → (V → S → Option R) → Option R := fun _ vs s K =>
  asCons vs fun v'1 l'2 => asPtr v'1 fun k'3 k'4 k'5 k'6 => isN k'4 0 <| isN k'5 0 <| isN k'6 0 <| asCons l'2 fun v'7 l'8 => asList 1 v'7 fun e_1 f_2 => asNil l'8 <| asAt s k'3 0 fun o'9 => obIs o'9 3 95 fun e'10 k'11 => isN k'11 0 <| asCons e'10 fun v'12 l'13 => asAgg v'12 fun c'14 => asCons c'14 fun v'15 l'16 => asList 1 v'15 fun e_3 f_4 => asCons l'16 fun v'17 l'18 => asInt .i64 v'17 fun x_5 => asCons l'18 fun v'19 l'20 => asInt .u64 v'19 fun x_6 => asNil l'20 <| asNil l'13 <| g_spec_l1Cur_among N e_1 f_2 e_3 f_4 x_5 x_6 fun x_901 e_902 f_903 x_904 x_905 => K ((.int .i64 x_901 : V).ren k'3 s.length) (framedS s k'3 [some ⟨[.agg [.list 1 e_902 f_903, .int .i64 x_904, .int .u64 x_905]], 3, 95, 0⟩])
noncomputable def Φ_spec_l1Cur_among (N : Nat) : Callee := (Φ_spec_l1Cur_one N).add 130 (f_spec_l1Cur_among N)
noncomputable def c_spec_l1Cur_among : Code := bodyOf Try.f130
theorem at_spec_l1Cur_among : loopsAt c_spec_l1Cur_among [] = [] := by kernel_rfl
theorem b_spec_l1Cur_among {R : Type} (N : Nat) (e_1 : List V) (f_2 : Fl) (e_3 : List V) (f_4 : Fl) (x_5 : Int) (x_6 : Int) (K : V → S → Option R) : bodyV C (Φ_spec_l1Cur_one N) (noLooper) 130 Try.f130 [.ptr 0 0 0 0, .list 1 e_1 f_2] [some ⟨[.agg [.list 1 e_3 f_4, .int .i64 x_5, .int .u64 x_6]], 3, 95, 0⟩] K =
  gb_spec_l1Cur_among N e_1 f_2 e_3 f_4 x_5 x_6 (fun x_901 e_902 f_903 x_904 x_905 => K (.int .i64 x_901) [some ⟨[.agg [.list 1 e_902 f_903, .int .i64 x_904, .int .u64 x_905]], 3, 95, 0⟩]) := by kernel_rfl
theorem loops_spec_l1Cur_among {N : Nat} (hC : Ok Try.prog C) (hΦ : CalleeOk Try.prog C (Φ_spec_l1Cur_one N)) : LoopsOk Try.prog C (noLooper) c_spec_l1Cur_among [] :=
  loopsOk_of c_spec_l1Cur_among [] (by
    rw [at_spec_l1Cur_among]
    intro p hp
    cases hp)
theorem callee_spec_l1Cur_among (hC : Ok Try.prog C) {N : Nat} (hΦ : CalleeOk Try.prog C (Φ_spec_l1Cur_one N)) : CalleeOk Try.prog C (Φ_spec_l1Cur_among N) := by
  refine hΦ.add_shared rfl fun R vs s K r h => ?_
  unfold f_spec_l1Cur_among at h
  obtain ⟨v'1, l'2, rfl, h1⟩ := asCons_some h
  obtain ⟨k'3, k'4, k'5, k'6, rfl, h2⟩ := asPtr_some h1
  obtain ⟨rfl, h3⟩ := isN_some h2
  obtain ⟨rfl, h4⟩ := isN_some h3
  obtain ⟨rfl, h5⟩ := isN_some h4
  obtain ⟨v'7, l'8, rfl, h6⟩ := asCons_some h5
  obtain ⟨e_1, f_2, rfl, h7⟩ := asList_some h6
  obtain ⟨rfl, h8⟩ := asNil_some h7
  obtain ⟨o'9, hob, h9⟩ := asAt_some h8
  obtain ⟨e'10, k'11, rfl, h10⟩ := obIs_some h9
  obtain ⟨rfl, h11⟩ := isN_some h10
  obtain ⟨v'12, l'13, rfl, h12⟩ := asCons_some h11
  obtain ⟨c'14, rfl, h13⟩ := asAgg_some h12
  obtain ⟨v'15, l'16, rfl, h14⟩ := asCons_some h13
  obtain ⟨e_3, f_4, rfl, h15⟩ := asList_some h14
  obtain ⟨v'17, l'18, rfl, h16⟩ := asCons_some h15
  obtain ⟨x_5, rfl, h17⟩ := asInt_some h16
  obtain ⟨v'19, l'20, rfl, h18⟩ := asCons_some h17
  obtain ⟨x_6, rfl, h19⟩ := asInt_some h18
  obtain ⟨rfl, h20⟩ := asNil_some h19
  obtain ⟨rfl, h21⟩ := asNil_some h20
  refine frame_body (fn := Try.f130) (c := c_spec_l1Cur_among) hC hΦ Try.func130 (by kernel_rfl) (by kernel_rfl) (loops_spec_l1Cur_among (N := N) hC hΦ) rfl hob rfl rfl ?_
  rw [b_spec_l1Cur_among, ← g_spec_l1Cur_among_eq]
  exact h21

/-! ### (*loop.example/g00756/spec.l1Cur).cred -/
noncomputable def f_spec_l1Cur_cred (N : Nat) : (R : Type) → List V → S → (V → S → Option R) → Option R := fun _ vs s K =>
  asCons vs fun v'1 l'2 => asPtr v'1 fun k'3 k'4 k'5 k'6 => isN k'4 0 <| isN k'5 0 <| isN k'6 0 <| asNil l'2 <| asAt s k'3 0 fun o'7 => obIs o'7 3 95 fun e'8 k'9 => isN k'9 0 <| asCons e'8 fun v'10 l'11 => asAgg v'10 fun c'12 => asCons c'12 fun v'13 l'14 => asList 1 v'13 fun e_1 f_2 => asCons l'14 fun v'15 l'16 => asInt .i64 v'15 fun x_3 => asCons l'16 fun v'17 l'18 => asInt .u64 v'17 fun x_4 => asNil l'18 <| asNil l'11 <| g_spec_l1Cur_cred N e_1 f_2 x_3 x_4 fun x_901 x_902 e_903 f_904 x_905 x_906 x_907 x_908 x_909 x_910 => K ((.agg [.int .i64 x_901, .int .i64 x_902] : V).ren k'3 s.length) (framedS s k'3 [some ⟨[.agg [.list 1 e_903 f_904, .int .i64 x_905, .int .u64 x_906]], 3, 95, 0⟩, some ⟨[.agg [.int .i64 x_907, .int .i64 x_908]], 2, 33, 0⟩, some ⟨[.agg [.int .i64 x_909, .int .i64 x_910]], 2, 33, 0⟩])
noncomputable def Φ_spec_l1Cur_cred (N : Nat) : Callee := (Φ_spec_l1Cur_among N).add 86 (f_spec_l1Cur_cred N)
noncomputable def c_spec_l1Cur_cred : Code := bodyOf Try.f86
theorem at_spec_l1Cur_cred : loopsAt c_spec_l1Cur_cred [] = [] := by kernel_rfl
theorem b_spec_l1Cur_cred {R : Type} (N : Nat) (e_1 : List V) (f_2 : Fl) (x_3 : Int) (x_4 : Int) (K : V → S → Option R) : bodyV C (Φ_spec_l1Cur_among N) (noLooper) 86 Try.f86 [.ptr 0 0 0 0] [some ⟨[.agg [.list 1 e_1 f_2, .int .i64 x_3, .int .u64 x_4]], 3, 95, 0⟩] K =
  gb_spec_l1Cur_cred N e_1 f_2 x_3 x_4 (fun x_901 x_902 e_903 f_904 x_905 x_906 x_907 x_908 x_909 x_910 => K (.agg [.int .i64 x_901, .int .i64 x_902]) [some ⟨[.agg [.list 1 e_903 f_904, .int .i64 x_905, .int .u64 x_906]], 3, 95, 0⟩, some ⟨[.agg [.int .i64 x_907, .int .i64 x_908]], 2, 33, 0⟩, some ⟨[.agg [.int .i64 x_909, .int .i64 x_910]], 2, 33, 0⟩]) := by kernel_rfl
theorem loops_spec_l1Cur_cred {N : Nat} (hC : Ok Try.prog C) (hΦ : CalleeOk Try.prog C (Φ_spec_l1Cur_among N)) : LoopsOk Try.prog C (noLooper) c_spec_l1Cur_cred [] :=
  loopsOk_of c_spec_l1Cur_cred [] (by
    rw [at_spec_l1Cur_cred]
    intro p hp
    cases hp)
theorem callee_spec_l1Cur_cred (hC : Ok Try.prog C) {N : Nat} (hΦ : CalleeOk Try.prog C (Φ_spec_l1Cur_among N)) : CalleeOk Try.prog C (Φ_spec_l1Cur_cred N) := by
  refine hΦ.add_shared rfl fun R vs s K r h => ?_
  unfold f_spec_l1Cur_cred at h
  obtain ⟨v'1, l'2, rfl, h1⟩ := asCons_some h
  obtain ⟨k'3, k'4, k'5, k'6, rfl, h2⟩ := asPtr_some h1
  obtain ⟨rfl, h3⟩ := isN_some h2
  obtain ⟨rfl, h4⟩ := isN_some h3
  obtain ⟨rfl, h5⟩ := isN_some h4
  obtain ⟨rfl, h6⟩ := asNil_some h5
  obtain ⟨o'7, hob, h7⟩ := asAt_some h6
  obtain ⟨e'8, k'9, rfl, h8⟩ := obIs_some h7
  obtain ⟨rfl, h9⟩ := isN_some h8
  obtain ⟨v'10, l'11, rfl, h10⟩ := asCons_some h9
  obtain ⟨c'12, rfl, h11⟩ := asAgg_some h10
  obtain ⟨v'13, l'14, rfl, h12⟩ := asCons_some h11
  obtain ⟨e_1, f_2, rfl, h13⟩ := asList_some h12
  obtain ⟨v'15, l'16, rfl, h14⟩ := asCons_some h13
  obtain ⟨x_3, rfl, h15⟩ := asInt_some h14
  obtain ⟨v'17, l'18, rfl, h16⟩ := asCons_some h15
  obtain ⟨x_4, rfl, h17⟩ := asInt_some h16
  obtain ⟨rfl, h18⟩ := asNil_some h17
  obtain ⟨rfl, h19⟩ := asNil_some h18
  refine frame_body (fn := Try.f86) (c := c_spec_l1Cur_cred) hC hΦ Try.func86 (by kernel_rfl) (by kernel_rfl) (loops_spec_l1Cur_cred (N := N) hC hΦ) rfl hob rfl rfl ?_
  rw [b_spec_l1Cur_cred, ← g_spec_l1Cur_cred_eq]
  exact h19

/-! ### (*loop.example/g00756/spec.l1Cur).mode -/
noncomputable def f_spec_l1Cur_mode (N : Nat) : (R : Type) → List V → S → (V → S → Option R) → Option R := fun _ vs s K =>
  asCons vs fun v'1 l'2 => asPtr v'1 fun k'3 k'4 k'5 k'6 => isN k'4 0 <| isN k'5 0 <| isN k'6 0 <| asNil l'2 <| asAt s k'3 0 fun o'7 => obIs o'7 3 95 fun e'8 k'9 => isN k'9 0 <| asCons e'8 fun v'10 l'11 => asAgg v'10 fun c'12 => asCons c'12 fun v'13 l'14 => asList 1 v'13 fun e_1 f_2 => asCons l'14 fun v'15 l'16 => asInt .i64 v'15 fun x_3 => asCons l'16 fun v'17 l'18 => asInt .u64 v'17 fun x_4 => asNil l'18 <| asNil l'11 <| g_spec_l1Cur_mode N e_1 f_2 x_3 x_4 fun x_901 e_902 f_903 x_904 x_905 => K ((.int .i64 x_901 : V).ren k'3 s.length) (framedS s k'3 [some ⟨[.agg [.list 1 e_902 f_903, .int .i64 x_904, .int .u64 x_905]], 3, 95, 0⟩])
noncomputable def Φ_spec_l1Cur_mode (N : Nat) : Callee := (Φ_spec_l1Cur_cred N).add 87 (f_spec_l1Cur_mode N)
noncomputable def c_spec_l1Cur_mode : Code := bodyOf Try.f87
theorem at_spec_l1Cur_mode : loopsAt c_spec_l1Cur_mode [] = [] := by kernel_rfl
theorem b_spec_l1Cur_mode {R : Type} (N : Nat) (e_1 : List V) (f_2 : Fl) (x_3 : Int) (x_4 : Int) (K : V → S → Option R) : bodyV C (Φ_spec_l1Cur_cred N) (noLooper) 87 Try.f87 [.ptr 0 0 0 0] [some ⟨[.agg [.list 1 e_1 f_2, .int .i64 x_3, .int .u64 x_4]], 3, 95, 0⟩] K =
  gb_spec_l1Cur_mode N e_1 f_2 x_3 x_4 (fun x_901 e_902 f_903 x_904 x_905 => K (.int .i64 x_901) [some ⟨[.agg [.list 1 e_902 f_903, .int .i64 x_904, .int .u64 x_905]], 3, 95, 0⟩]) := by kernel_rfl
theorem loops_spec_l1Cur_mode {N : Nat} (hC : Ok Try.prog C) (hΦ : CalleeOk Try.prog C (Φ_spec_l1Cur_cred N)) : LoopsOk Try.prog C (noLooper) c_spec_l1Cur_mode [] :=
  loopsOk_of c_spec_l1Cur_mode [] (by
    rw [at_spec_l1Cur_mode]
    intro p hp
    cases hp)
theorem callee_spec_l1Cur_mode (hC : Ok Try.prog C) {N : Nat} (hΦ : CalleeOk Try.prog C (Φ_spec_l1Cur_cred N)) : CalleeOk Try.prog C (Φ_spec_l1Cur_mode N) := by
  refine hΦ.add_shared rfl fun R vs s K r h => ?_
  unfold f_spec_l1Cur_mode at h
  obtain ⟨v'1, l'2, rfl, h1⟩ := asCons_some h
  obtain ⟨k'3, k'4, k'5, k'6, rfl, h2⟩ := asPtr_some h1
  obtain ⟨rfl, h3⟩ := isN_some h2
  obtain ⟨rfl, h4⟩ := isN_some h3
  obtain ⟨rfl, h5⟩ := isN_some h4
  obtain ⟨rfl, h6⟩ := asNil_some h5
  obtain ⟨o'7, hob, h7⟩ := asAt_some h6
  obtain ⟨e'8, k'9, rfl, h8⟩ := obIs_some h7
  obtain ⟨rfl, h9⟩ := isN_some h8
  obtain ⟨v'10, l'11, rfl, h10⟩ := asCons_some h9
  obtain ⟨c'12, rfl, h11⟩ := asAgg_some h10
  obtain ⟨v'13, l'14, rfl, h12⟩ := asCons_some h11
  obtain ⟨e_1, f_2, rfl, h13⟩ := asList_some h12
  obtain ⟨v'15, l'16, rfl, h14⟩ := asCons_some h13
  obtain ⟨x_3, rfl, h15⟩ := asInt_some h14
  obtain ⟨v'17, l'18, rfl, h16⟩ := asCons_some h15
  obtain ⟨x_4, rfl, h17⟩ := asInt_some h16
  obtain ⟨rfl, h18⟩ := asNil_some h17
  obtain ⟨rfl, h19⟩ := asNil_some h18
  refine frame_body (fn := Try.f87) (c := c_spec_l1Cur_mode) hC hΦ Try.func87 (by kernel_rfl) (by kernel_rfl) (loops_spec_l1Cur_mode (N := N) hC hΦ) rfl hob rfl rfl ?_
  rw [b_spec_l1Cur_mode, ← g_spec_l1Cur_mode_eq]
  exact h19

/-! ### loop.example/g00756/spec.DrawMay -/
noncomputable def f_spec_DrawMay (N : Nat) : (R : Type) → List V → S → (V → S → Option R) → Option R := fun _ vs s K =>
  asCons vs fun v'1 l'2 => asList 1 v'1 fun e_1 f_2 => asNil l'2 <| asEnd s <| g_spec_DrawMay N e_1 f_2 fun x_3 x_4 x_5 x_6 x_7 x_8 => K (.tuple [.agg [.int .i64 x_3, .int .i64 x_4], .int .i64 x_5, .int .i64 x_6, .int .i64 x_7, .int .i64 x_8]) []
noncomputable def Φ_spec_DrawMay (N : Nat) : Callee := (Φ_spec_l1Cur_mode N).add 24 (f_spec_DrawMay N)
noncomputable def c_spec_DrawMay : Code := bodyOf Try.f24
theorem at_spec_DrawMay : loopsAt c_spec_DrawMay [] = [] := by kernel_rfl
theorem b_spec_DrawMay {R : Type} (N : Nat) (e_1 : List V) (f_2 : Fl) (K : V → S → Option R) : bodyV C (Φ_spec_l1Cur_mode N) (noLooper) 24 Try.f24 [.list 1 e_1 f_2] [] K =
  gb_spec_DrawMay N e_1 f_2 (fun x_3 x_4 x_5 x_6 x_7 x_8 => K (.tuple [.agg [.int .i64 x_3, .int .i64 x_4], .int .i64 x_5, .int .i64 x_6, .int .i64 x_7, .int .i64 x_8]) []) := by kernel_rfl
theorem loops_spec_DrawMay {N : Nat} (hC : Ok Try.prog C) (hΦ : CalleeOk Try.prog C (Φ_spec_l1Cur_mode N)) : LoopsOk Try.prog C (noLooper) c_spec_DrawMay [] :=
  loopsOk_of c_spec_DrawMay [] (by
    rw [at_spec_DrawMay]
    intro p hp
    cases hp)
theorem callee_spec_DrawMay (hC : Ok Try.prog C) {N : Nat} (hΦ : CalleeOk Try.prog C (Φ_spec_l1Cur_mode N)) : CalleeOk Try.prog C (Φ_spec_DrawMay N) := by
  refine hΦ.add_pure rfl fun R vs K r h => body_pure (fn := Try.f24) (c := c_spec_DrawMay) hC hΦ Try.func24 (by kernel_rfl) (by kernel_rfl) (loops_spec_DrawMay (N := N) hC hΦ) rfl rfl ?_
  unfold f_spec_DrawMay at h
  obtain ⟨v'1, l'2, rfl, h1⟩ := asCons_some h
  obtain ⟨e_1, f_2, rfl, h2⟩ := asList_some h1
  obtain ⟨rfl, h3⟩ := asNil_some h2
  obtain ⟨_, h4⟩ := asEnd_some h3
  rw [b_spec_DrawMay, ← g_spec_DrawMay_eq]
  exact h4

/-! ### loop.example/g00756/impl.within -/
noncomputable def f_impl_within (N : Nat) : (R : Type) → List V → S → (V → S → Option R) → Option R := fun _ vs s K =>
  asCons vs fun v'1 l'2 => asInt .i64 v'1 fun x_1 => asCons l'2 fun v'3 l'4 => asInt .i64 v'3 fun x_2 => asCons l'4 fun v'5 l'6 => asInt .i64 v'5 fun x_3 => asNil l'6 <| asEnd s <| g_impl_within N x_1 x_2 x_3 fun b_4 => K (.bool b_4) []
noncomputable def Φ_impl_within (N : Nat) : Callee := (Φ_spec_DrawMay N).add 82 (f_impl_within N)
noncomputable def c_impl_within : Code := bodyOf Try.f82
theorem at_impl_within : loopsAt c_impl_within [] = [] := by kernel_rfl
theorem b_impl_within {R : Type} (N : Nat) (x_1 : Int) (x_2 : Int) (x_3 : Int) (K : V → S → Option R) : bodyV C (Φ_spec_DrawMay N) (noLooper) 82 Try.f82 [.int .i64 x_1, .int .i64 x_2, .int .i64 x_3] [] K =
  gb_impl_within N x_1 x_2 x_3 (fun b_4 => K (.bool b_4) []) := by kernel_rfl
theorem loops_impl_within {N : Nat} (hC : Ok Try.prog C) (hΦ : CalleeOk Try.prog C (Φ_spec_DrawMay N)) : LoopsOk Try.prog C (noLooper) c_impl_within [] :=
  loopsOk_of c_impl_within [] (by
    rw [at_impl_within]
    intro p hp
    cases hp)
theorem callee_impl_within (hC : Ok Try.prog C) {N : Nat} (hΦ : CalleeOk Try.prog C (Φ_spec_DrawMay N)) : CalleeOk Try.prog C (Φ_impl_within N) := by
  refine hΦ.add_pure rfl fun R vs K r h => body_pure (fn := Try.f82) (c := c_impl_within) hC hΦ Try.func82 (by kernel_rfl) (by kernel_rfl) (loops_impl_within (N := N) hC hΦ) rfl rfl ?_
  unfold f_impl_within at h
  obtain ⟨v'1, l'2, rfl, h1⟩ := asCons_some h
  obtain ⟨x_1, rfl, h2⟩ := asInt_some h1
  obtain ⟨v'3, l'4, rfl, h3⟩ := asCons_some h2
  obtain ⟨x_2, rfl, h4⟩ := asInt_some h3
  obtain ⟨v'5, l'6, rfl, h5⟩ := asCons_some h4
  obtain ⟨x_3, rfl, h6⟩ := asInt_some h5
  obtain ⟨rfl, h7⟩ := asNil_some h6
  obtain ⟨_, h8⟩ := asEnd_some h7
  rw [b_impl_within, ← g_impl_within_eq]
  exact h8

/-! ### loop.example/g00756/impl.isId -/
noncomputable def f_impl_isId (N : Nat) : (R : Type) → List V → S → (V → S → Option R) → Option R := fun _ vs s K =>
  asCons vs fun v'1 l'2 => asInt .i64 v'1 fun x_1 => asNil l'2 <| asEnd s <| g_impl_isId N x_1 fun b_2 => K (.bool b_2) []
noncomputable def Φ_impl_isId (N : Nat) : Callee := (Φ_impl_within N).add 90 (f_impl_isId N)
noncomputable def c_impl_isId : Code := bodyOf Try.f90
theorem at_impl_isId : loopsAt c_impl_isId [] = [] := by kernel_rfl
theorem b_impl_isId {R : Type} (N : Nat) (x_1 : Int) (K : V → S → Option R) : bodyV C (Φ_impl_within N) (noLooper) 90 Try.f90 [.int .i64 x_1] [] K =
  gb_impl_isId N x_1 (fun b_2 => K (.bool b_2) []) := by kernel_rfl
theorem loops_impl_isId {N : Nat} (hC : Ok Try.prog C) (hΦ : CalleeOk Try.prog C (Φ_impl_within N)) : LoopsOk Try.prog C (noLooper) c_impl_isId [] :=
  loopsOk_of c_impl_isId [] (by
    rw [at_impl_isId]
    intro p hp
    cases hp)
theorem callee_impl_isId (hC : Ok Try.prog C) {N : Nat} (hΦ : CalleeOk Try.prog C (Φ_impl_within N)) : CalleeOk Try.prog C (Φ_impl_isId N) := by
  refine hΦ.add_pure rfl fun R vs K r h => body_pure (fn := Try.f90) (c := c_impl_isId) hC hΦ Try.func90 (by kernel_rfl) (by kernel_rfl) (loops_impl_isId (N := N) hC hΦ) rfl rfl ?_
  unfold f_impl_isId at h
  obtain ⟨v'1, l'2, rfl, h1⟩ := asCons_some h
  obtain ⟨x_1, rfl, h2⟩ := asInt_some h1
  obtain ⟨rfl, h3⟩ := asNil_some h2
  obtain ⟨_, h4⟩ := asEnd_some h3
  rw [b_impl_isId, ← g_impl_isId_eq]
  exact h4

/-! ### loop.example/g00756/impl.GoodCred -/
noncomputable def f_impl_GoodCred (N : Nat) : (R : Type) → List V → S → (V → S → Option R) → Option R := fun _ vs s K =>
  asCons vs fun v'1 l'2 => asAgg v'1 fun c'3 => asCons c'3 fun v'4 l'5 => asInt .i64 v'4 fun x_1 => asCons l'5 fun v'6 l'7 => asInt .i64 v'6 fun x_2 => asNil l'7 <| asNil l'2 <| asEnd s <| g_impl_GoodCred N x_1 x_2 fun b_3 => K (.bool b_3) []
noncomputable def Φ_impl_GoodCred (N : Nat) : Callee := (Φ_impl_isId N).add 27 (f_impl_GoodCred N)
noncomputable def c_impl_GoodCred : Code := bodyOf Try.f27
theorem at_impl_GoodCred : loopsAt c_impl_GoodCred [] = [] := by kernel_rfl
theorem b_impl_GoodCred {R : Type} (N : Nat) (x_1 : Int) (x_2 : Int) (K : V → S → Option R) : bodyV C (Φ_impl_isId N) (noLooper) 27 Try.f27 [.agg [.int .i64 x_1, .int .i64 x_2]] [] K =
  gb_impl_GoodCred N x_1 x_2 (fun b_3 => K (.bool b_3) []) := by kernel_rfl
theorem loops_impl_GoodCred {N : Nat} (hC : Ok Try.prog C) (hΦ : CalleeOk Try.prog C (Φ_impl_isId N)) : LoopsOk Try.prog C (noLooper) c_impl_GoodCred [] :=
  loopsOk_of c_impl_GoodCred [] (by
    rw [at_impl_GoodCred]
    intro p hp
    cases hp)
theorem callee_impl_GoodCred (hC : Ok Try.prog C) {N : Nat} (hΦ : CalleeOk Try.prog C (Φ_impl_isId N)) : CalleeOk Try.prog C (Φ_impl_GoodCred N) := by
  refine hΦ.add_pure rfl fun R vs K r h => body_pure (fn := Try.f27) (c := c_impl_GoodCred) hC hΦ Try.func27 (by kernel_rfl) (by kernel_rfl) (loops_impl_GoodCred (N := N) hC hΦ) rfl rfl ?_
  unfold f_impl_GoodCred at h
  obtain ⟨v'1, l'2, rfl, h1⟩ := asCons_some h
  obtain ⟨c'3, rfl, h2⟩ := asAgg_some h1
  obtain ⟨v'4, l'5, rfl, h3⟩ := asCons_some h2
  obtain ⟨x_1, rfl, h4⟩ := asInt_some h3
  obtain ⟨v'6, l'7, rfl, h5⟩ := asCons_some h4
  obtain ⟨x_2, rfl, h6⟩ := asInt_some h5
  obtain ⟨rfl, h7⟩ := asNil_some h6
  obtain ⟨rfl, h8⟩ := asNil_some h7
  obtain ⟨_, h9⟩ := asEnd_some h8
  rw [b_impl_GoodCred, ← g_impl_GoodCred_eq]
  exact h9

/-! ### loop.example/g00756/impl.isMode -/
noncomputable def f_impl_isMode (N : Nat) : (R : Type) → List V → S → (V → S → Option R) → Option R := fun _ vs s K =>
  asCons vs fun v'1 l'2 => asInt .i64 v'1 fun x_1 => asNil l'2 <| asEnd s <| g_impl_isMode N x_1 fun b_2 => K (.bool b_2) []
noncomputable def Φ_impl_isMode (N : Nat) : Callee := (Φ_impl_GoodCred N).add 89 (f_impl_isMode N)
noncomputable def c_impl_isMode : Code := bodyOf Try.f89
theorem at_impl_isMode : loopsAt c_impl_isMode [] = [] := by kernel_rfl
theorem b_impl_isMode {R : Type} (N : Nat) (x_1 : Int) (K : V → S → Option R) : bodyV C (Φ_impl_GoodCred N) (noLooper) 89 Try.f89 [.int .i64 x_1] [] K =
  gb_impl_isMode N x_1 (fun b_2 => K (.bool b_2) []) := by kernel_rfl
theorem loops_impl_isMode {N : Nat} (hC : Ok Try.prog C) (hΦ : CalleeOk Try.prog C (Φ_impl_GoodCred N)) : LoopsOk Try.prog C (noLooper) c_impl_isMode [] :=
  loopsOk_of c_impl_isMode [] (by
    rw [at_impl_isMode]
    intro p hp
    cases hp)
theorem callee_impl_isMode (hC : Ok Try.prog C) {N : Nat} (hΦ : CalleeOk Try.prog C (Φ_impl_GoodCred N)) : CalleeOk Try.prog C (Φ_impl_isMode N) := by
  refine hΦ.add_pure rfl fun R vs K r h => body_pure (fn := Try.f89) (c := c_impl_isMode) hC hΦ Try.func89 (by kernel_rfl) (by kernel_rfl) (loops_impl_isMode (N := N) hC hΦ) rfl rfl ?_
  unfold f_impl_isMode at h
  obtain ⟨v'1, l'2, rfl, h1⟩ := asCons_some h
  obtain ⟨x_1, rfl, h2⟩ := asInt_some h1
  obtain ⟨rfl, h3⟩ := asNil_some h2
  obtain ⟨_, h4⟩ := asEnd_some h3
  rw [b_impl_isMode, ← g_impl_isMode_eq]
  exact h4

/-! ### (loop.example/g00756/impl.Cred).may -/
noncomputable def f_impl_Cred_may (N : Nat) : (R : Type) → List V → S → (V → S → Option R) → Option R := fun _ vs s K =>
  asCons vs fun v'1 l'2 => asAgg v'1 fun c'3 => asCons c'3 fun v'4 l'5 => asInt .i64 v'4 fun x_1 => asCons l'5 fun v'6 l'7 => asInt .i64 v'6 fun x_2 => asNil l'7 <| asCons l'2 fun v'8 l'9 => asInt .i64 v'8 fun x_3 => asCons l'9 fun v'10 l'11 => asInt .i64 v'10 fun x_4 => asCons l'11 fun v'12 l'13 => asInt .i64 v'12 fun x_5 => asCons l'13 fun v'14 l'15 => asInt .i64 v'14 fun x_6 => asNil l'15 <| asEnd s <| g_impl_Cred_may N x_1 x_2 x_3 x_4 x_5 x_6 fun b_7 => K (.bool b_7) []
noncomputable def Φ_impl_Cred_may (N : Nat) : Callee := (Φ_impl_isMode N).add 91 (f_impl_Cred_may N)
noncomputable def c_impl_Cred_may : Code := bodyOf Try.f91
theorem at_impl_Cred_may : loopsAt c_impl_Cred_may [] = [] := by kernel_rfl
theorem b_impl_Cred_may {R : Type} (N : Nat) (x_1 : Int) (x_2 : Int) (x_3 : Int) (x_4 : Int) (x_5 : Int) (x_6 : Int) (K : V → S → Option R) : bodyV C (Φ_impl_isMode N) (noLooper) 91 Try.f91 [.agg [.int .i64 x_1, .int .i64 x_2], .int .i64 x_3, .int .i64 x_4, .int .i64 x_5, .int .i64 x_6] [] K =
  gb_impl_Cred_may N x_1 x_2 x_3 x_4 x_5 x_6 (fun b_7 => K (.bool b_7) []) := by kernel_rfl
theorem loops_impl_Cred_may {N : Nat} (hC : Ok Try.prog C) (hΦ : CalleeOk Try.prog C (Φ_impl_isMode N)) : LoopsOk Try.prog C (noLooper) c_impl_Cred_may [] :=
  loopsOk_of c_impl_Cred_may [] (by
    rw [at_impl_Cred_may]
    intro p hp
    cases hp)
theorem callee_impl_Cred_may (hC : Ok Try.prog C) {N : Nat} (hΦ : CalleeOk Try.prog C (Φ_impl_isMode N)) : CalleeOk Try.prog C (Φ_impl_Cred_may N) := by
  refine hΦ.add_pure rfl fun R vs K r h => body_pure (fn := Try.f91) (c := c_impl_Cred_may) hC hΦ Try.func91 (by kernel_rfl) (by kernel_rfl) (loops_impl_Cred_may (N := N) hC hΦ) rfl rfl ?_
  unfold f_impl_Cred_may at h
  obtain ⟨v'1, l'2, rfl, h1⟩ := asCons_some h
  obtain ⟨c'3, rfl, h2⟩ := asAgg_some h1
  obtain ⟨v'4, l'5, rfl, h3⟩ := asCons_some h2
  obtain ⟨x_1, rfl, h4⟩ := asInt_some h3
  obtain ⟨v'6, l'7, rfl, h5⟩ := asCons_some h4
  obtain ⟨x_2, rfl, h6⟩ := asInt_some h5
  obtain ⟨rfl, h7⟩ := asNil_some h6
  obtain ⟨v'8, l'9, rfl, h8⟩ := asCons_some h7
  obtain ⟨x_3, rfl, h9⟩ := asInt_some h8
  obtain ⟨v'10, l'11, rfl, h10⟩ := asCons_some h9
  obtain ⟨x_4, rfl, h11⟩ := asInt_some h10
  obtain ⟨v'12, l'13, rfl, h12⟩ := asCons_some h11
  obtain ⟨x_5, rfl, h13⟩ := asInt_some h12
  obtain ⟨v'14, l'15, rfl, h14⟩ := asCons_some h13
  obtain ⟨x_6, rfl, h15⟩ := asInt_some h14
  obtain ⟨rfl, h16⟩ := asNil_some h15
  obtain ⟨_, h17⟩ := asEnd_some h16
  rw [b_impl_Cred_may, ← g_impl_Cred_may_eq]
  exact h17

/-! ### loop.example/g00756/impl.May -/
noncomputable def f_impl_May (N : Nat) : (R : Type) → List V → S → (V → S → Option R) → Option R := fun _ vs s K =>
  asCons vs fun v'1 l'2 => asAgg v'1 fun c'3 => asCons c'3 fun v'4 l'5 => asInt .i64 v'4 fun x_1 => asCons l'5 fun v'6 l'7 => asInt .i64 v'6 fun x_2 => asNil l'7 <| asCons l'2 fun v'8 l'9 => asInt .i64 v'8 fun x_3 => asCons l'9 fun v'10 l'11 => asInt .i64 v'10 fun x_4 => asCons l'11 fun v'12 l'13 => asInt .i64 v'12 fun x_5 => asCons l'13 fun v'14 l'15 => asInt .i64 v'14 fun x_6 => asNil l'15 <| asEnd s <| g_impl_May N x_1 x_2 x_3 x_4 x_5 x_6 fun b_7 b_8 => K (.tuple [.bool b_7, .bool b_8]) []
noncomputable def Φ_impl_May (N : Nat) : Callee := (Φ_impl_Cred_may N).add 25 (f_impl_May N)
noncomputable def c_impl_May : Code := bodyOf Try.f25
theorem at_impl_May : loopsAt c_impl_May [] = [] := by kernel_rfl
theorem b_impl_May {R : Type} (N : Nat) (x_1 : Int) (x_2 : Int) (x_3 : Int) (x_4 : Int) (x_5 : Int) (x_6 : Int) (K : V → S → Option R) : bodyV C (Φ_impl_Cred_may N) (noLooper) 25 Try.f25 [.agg [.int .i64 x_1, .int .i64 x_2], .int .i64 x_3, .int .i64 x_4, .int .i64 x_5, .int .i64 x_6] [] K =
  gb_impl_May N x_1 x_2 x_3 x_4 x_5 x_6 (fun b_7 b_8 => K (.tuple [.bool b_7, .bool b_8]) []) := by kernel_rfl
theorem loops_impl_May {N : Nat} (hC : Ok Try.prog C) (hΦ : CalleeOk Try.prog C (Φ_impl_Cred_may N)) : LoopsOk Try.prog C (noLooper) c_impl_May [] :=
  loopsOk_of c_impl_May [] (by
    rw [at_impl_May]
    intro p hp
    cases hp)
theorem callee_impl_May (hC : Ok Try.prog C) {N : Nat} (hΦ : CalleeOk Try.prog C (Φ_impl_Cred_may N)) : CalleeOk Try.prog C (Φ_impl_May N) := by
  refine hΦ.add_pure rfl fun R vs K r h => body_pure (fn := Try.f25) (c := c_impl_May) hC hΦ Try.func25 (by kernel_rfl) (by kernel_rfl) (loops_impl_May (N := N) hC hΦ) rfl rfl ?_
  unfold f_impl_May at h
  obtain ⟨v'1, l'2, rfl, h1⟩ := asCons_some h
  obtain ⟨c'3, rfl, h2⟩ := asAgg_some h1
  obtain ⟨v'4, l'5, rfl, h3⟩ := asCons_some h2
  obtain ⟨x_1, rfl, h4⟩ := asInt_some h3
  obtain ⟨v'6, l'7, rfl, h5⟩ := asCons_some h4
  obtain ⟨x_2, rfl, h6⟩ := asInt_some h5
  obtain ⟨rfl, h7⟩ := asNil_some h6
  obtain ⟨v'8, l'9, rfl, h8⟩ := asCons_some h7
  obtain ⟨x_3, rfl, h9⟩ := asInt_some h8
  obtain ⟨v'10, l'11, rfl, h10⟩ := asCons_some h9
  obtain ⟨x_4, rfl, h11⟩ := asInt_some h10
  obtain ⟨v'12, l'13, rfl, h12⟩ := asCons_some h11
  obtain ⟨x_5, rfl, h13⟩ := asInt_some h12
  obtain ⟨v'14, l'15, rfl, h14⟩ := asCons_some h13
  obtain ⟨x_6, rfl, h15⟩ := asInt_some h14
  obtain ⟨rfl, h16⟩ := asNil_some h15
  obtain ⟨_, h17⟩ := asEnd_some h16
  rw [b_impl_May, ← g_impl_May_eq]
  exact h17

/-! ### loop.example/g00756/spec.l1In -/
noncomputable def f_spec_l1In (N : Nat) : (R : Type) → List V → S → (V → S → Option R) → Option R := fun _ vs s K =>
  asCons vs fun v'1 l'2 => asInt .i64 v'1 fun x_1 => asCons l'2 fun v'3 l'4 => asInt .i64 v'3 fun x_2 => asCons l'4 fun v'5 l'6 => asInt .i64 v'5 fun x_3 => asNil l'6 <| asEnd s <| g_spec_l1In N x_1 x_2 x_3 fun b_4 => K (.bool b_4) []
noncomputable def Φ_spec_l1In (N : Nat) : Callee := (Φ_impl_May N).add 83 (f_spec_l1In N)
noncomputable def c_spec_l1In : Code := bodyOf Try.f83
theorem at_spec_l1In : loopsAt c_spec_l1In [] = [] := by kernel_rfl
theorem b_spec_l1In {R : Type} (N : Nat) (x_1 : Int) (x_2 : Int) (x_3 : Int) (K : V → S → Option R) : bodyV C (Φ_impl_May N) (noLooper) 83 Try.f83 [.int .i64 x_1, .int .i64 x_2, .int .i64 x_3] [] K =
  gb_spec_l1In N x_1 x_2 x_3 (fun b_4 => K (.bool b_4) []) := by kernel_rfl
theorem loops_spec_l1In {N : Nat} (hC : Ok Try.prog C) (hΦ : CalleeOk Try.prog C (Φ_impl_May N)) : LoopsOk Try.prog C (noLooper) c_spec_l1In [] :=
  loopsOk_of c_spec_l1In [] (by
    rw [at_spec_l1In]
    intro p hp
    cases hp)
theorem callee_spec_l1In (hC : Ok Try.prog C) {N : Nat} (hΦ : CalleeOk Try.prog C (Φ_impl_May N)) : CalleeOk Try.prog C (Φ_spec_l1In N) := by
  refine hΦ.add_pure rfl fun R vs K r h => body_pure (fn := Try.f83) (c := c_spec_l1In) hC hΦ Try.func83 (by kernel_rfl) (by kernel_rfl) (loops_spec_l1In (N := N) hC hΦ) rfl rfl ?_
  unfold f_spec_l1In at h
  obtain ⟨v'1, l'2, rfl, h1⟩ := asCons_some h
  obtain ⟨x_1, rfl, h2⟩ := asInt_some h1
  obtain ⟨v'3, l'4, rfl, h3⟩ := asCons_some h2
  obtain ⟨x_2, rfl, h4⟩ := asInt_some h3
  obtain ⟨v'5, l'6, rfl, h5⟩ := asCons_some h4
  obtain ⟨x_3, rfl, h6⟩ := asInt_some h5
  obtain ⟨rfl, h7⟩ := asNil_some h6
  obtain ⟨_, h8⟩ := asEnd_some h7
  rw [b_spec_l1In, ← g_spec_l1In_eq]
  exact h8

/-! ### loop.example/g00756/spec.l1Cred -/
noncomputable def f_spec_l1Cred (N : Nat) : (R : Type) → List V → S → (V → S → Option R) → Option R := fun _ vs s K =>
  asCons vs fun v'1 l'2 => asAgg v'1 fun c'3 => asCons c'3 fun v'4 l'5 => asInt .i64 v'4 fun x_1 => asCons l'5 fun v'6 l'7 => asInt .i64 v'6 fun x_2 => asNil l'7 <| asNil l'2 <| asEnd s <| g_spec_l1Cred N x_1 x_2 fun b_3 => K (.bool b_3) []
noncomputable def Φ_spec_l1Cred (N : Nat) : Callee := (Φ_spec_l1In N).add 92 (f_spec_l1Cred N)
noncomputable def c_spec_l1Cred : Code := bodyOf Try.f92
theorem at_spec_l1Cred : loopsAt c_spec_l1Cred [] = [] := by kernel_rfl
theorem b_spec_l1Cred {R : Type} (N : Nat) (x_1 : Int) (x_2 : Int) (K : V → S → Option R) : bodyV C (Φ_spec_l1In N) (noLooper) 92 Try.f92 [.agg [.int .i64 x_1, .int .i64 x_2]] [] K =
  gb_spec_l1Cred N x_1 x_2 (fun b_3 => K (.bool b_3) []) := by kernel_rfl
theorem loops_spec_l1Cred {N : Nat} (hC : Ok Try.prog C) (hΦ : CalleeOk Try.prog C (Φ_spec_l1In N)) : LoopsOk Try.prog C (noLooper) c_spec_l1Cred [] :=
  loopsOk_of c_spec_l1Cred [] (by
    rw [at_spec_l1Cred]
    intro p hp
    cases hp)
theorem callee_spec_l1Cred (hC : Ok Try.prog C) {N : Nat} (hΦ : CalleeOk Try.prog C (Φ_spec_l1In N)) : CalleeOk Try.prog C (Φ_spec_l1Cred N) := by
  refine hΦ.add_pure rfl fun R vs K r h => body_pure (fn := Try.f92) (c := c_spec_l1Cred) hC hΦ Try.func92 (by kernel_rfl) (by kernel_rfl) (loops_spec_l1Cred (N := N) hC hΦ) rfl rfl ?_
  unfold f_spec_l1Cred at h
  obtain ⟨v'1, l'2, rfl, h1⟩ := asCons_some h
  obtain ⟨c'3, rfl, h2⟩ := asAgg_some h1
  obtain ⟨v'4, l'5, rfl, h3⟩ := asCons_some h2
  obtain ⟨x_1, rfl, h4⟩ := asInt_some h3
  obtain ⟨v'6, l'7, rfl, h5⟩ := asCons_some h4
  obtain ⟨x_2, rfl, h6⟩ := asInt_some h5
  obtain ⟨rfl, h7⟩ := asNil_some h6
  obtain ⟨rfl, h8⟩ := asNil_some h7
  obtain ⟨_, h9⟩ := asEnd_some h8
  rw [b_spec_l1Cred, ← g_spec_l1Cred_eq]
  exact h9

/-! ### loop.example/g00756/spec.l1Mode -/
noncomputable def f_spec_l1Mode (N : Nat) : (R : Type) → List V → S → (V → S → Option R) → Option R := fun _ vs s K =>
  asCons vs fun v'1 l'2 => asInt .i64 v'1 fun x_1 => asNil l'2 <| asEnd s <| g_spec_l1Mode N x_1 fun b_2 => K (.bool b_2) []
noncomputable def Φ_spec_l1Mode (N : Nat) : Callee := (Φ_spec_l1Cred N).add 93 (f_spec_l1Mode N)
noncomputable def c_spec_l1Mode : Code := bodyOf Try.f93
theorem at_spec_l1Mode : loopsAt c_spec_l1Mode [] = [] := by kernel_rfl
theorem b_spec_l1Mode {R : Type} (N : Nat) (x_1 : Int) (K : V → S → Option R) : bodyV C (Φ_spec_l1Cred N) (noLooper) 93 Try.f93 [.int .i64 x_1] [] K =
  gb_spec_l1Mode N x_1 (fun b_2 => K (.bool b_2) []) := by kernel_rfl
theorem loops_spec_l1Mode {N : Nat} (hC : Ok Try.prog C) (hΦ : CalleeOk Try.prog C (Φ_spec_l1Cred N)) : LoopsOk Try.prog C (noLooper) c_spec_l1Mode [] :=
  loopsOk_of c_spec_l1Mode [] (by
    rw [at_spec_l1Mode]
    intro p hp
    cases hp)
theorem callee_spec_l1Mode (hC : Ok Try.prog C) {N : Nat} (hΦ : CalleeOk Try.prog C (Φ_spec_l1Cred N)) : CalleeOk Try.prog C (Φ_spec_l1Mode N) := by
  refine hΦ.add_pure rfl fun R vs K r h => body_pure (fn := Try.f93) (c := c_spec_l1Mode) hC hΦ Try.func93 (by kernel_rfl) (by kernel_rfl) (loops_spec_l1Mode (N := N) hC hΦ) rfl rfl ?_
  unfold f_spec_l1Mode at h
  obtain ⟨v'1, l'2, rfl, h1⟩ := asCons_some h
  obtain ⟨x_1, rfl, h2⟩ := asInt_some h1
  obtain ⟨rfl, h3⟩ := asNil_some h2
  obtain ⟨_, h4⟩ := asEnd_some h3
  rw [b_spec_l1Mode, ← g_spec_l1Mode_eq]
  exact h4

/-! ### loop.example/g00756/spec.l1May -/
noncomputable def f_spec_l1May (N : Nat) : (R : Type) → List V → S → (V → S → Option R) → Option R := fun _ vs s K =>
  asCons vs fun v'1 l'2 => asAgg v'1 fun c'3 => asCons c'3 fun v'4 l'5 => asInt .i64 v'4 fun x_1 => asCons l'5 fun v'6 l'7 => asInt .i64 v'6 fun x_2 => asNil l'7 <| asCons l'2 fun v'8 l'9 => asInt .i64 v'8 fun x_3 => asCons l'9 fun v'10 l'11 => asInt .i64 v'10 fun x_4 => asCons l'11 fun v'12 l'13 => asInt .i64 v'12 fun x_5 => asCons l'13 fun v'14 l'15 => asInt .i64 v'14 fun x_6 => asNil l'15 <| asEnd s <| g_spec_l1May N x_1 x_2 x_3 x_4 x_5 x_6 fun b_7 => K (.bool b_7) []
noncomputable def Φ_spec_l1May (N : Nat) : Callee := (Φ_spec_l1Mode N).add 94 (f_spec_l1May N)
noncomputable def c_spec_l1May : Code := bodyOf Try.f94
theorem at_spec_l1May : loopsAt c_spec_l1May [] = [] := by kernel_rfl
theorem b_spec_l1May {R : Type} (N : Nat) (x_1 : Int) (x_2 : Int) (x_3 : Int) (x_4 : Int) (x_5 : Int) (x_6 : Int) (K : V → S → Option R) : bodyV C (Φ_spec_l1Mode N) (noLooper) 94 Try.f94 [.agg [.int .i64 x_1, .int .i64 x_2], .int .i64 x_3, .int .i64 x_4, .int .i64 x_5, .int .i64 x_6] [] K =
  gb_spec_l1May N x_1 x_2 x_3 x_4 x_5 x_6 (fun b_7 => K (.bool b_7) []) := by kernel_rfl
theorem loops_spec_l1May {N : Nat} (hC : Ok Try.prog C) (hΦ : CalleeOk Try.prog C (Φ_spec_l1Mode N)) : LoopsOk Try.prog C (noLooper) c_spec_l1May [] :=
  loopsOk_of c_spec_l1May [] (by
    rw [at_spec_l1May]
    intro p hp
    cases hp)
theorem callee_spec_l1May (hC : Ok Try.prog C) {N : Nat} (hΦ : CalleeOk Try.prog C (Φ_spec_l1Mode N)) : CalleeOk Try.prog C (Φ_spec_l1May N) := by
  refine hΦ.add_pure rfl fun R vs K r h => body_pure (fn := Try.f94) (c := c_spec_l1May) hC hΦ Try.func94 (by kernel_rfl) (by kernel_rfl) (loops_spec_l1May (N := N) hC hΦ) rfl rfl ?_
  unfold f_spec_l1May at h
  obtain ⟨v'1, l'2, rfl, h1⟩ := asCons_some h
  obtain ⟨c'3, rfl, h2⟩ := asAgg_some h1
  obtain ⟨v'4, l'5, rfl, h3⟩ := asCons_some h2
  obtain ⟨x_1, rfl, h4⟩ := asInt_some h3
  obtain ⟨v'6, l'7, rfl, h5⟩ := asCons_some h4
  obtain ⟨x_2, rfl, h6⟩ := asInt_some h5
  obtain ⟨rfl, h7⟩ := asNil_some h6
  obtain ⟨v'8, l'9, rfl, h8⟩ := asCons_some h7
  obtain ⟨x_3, rfl, h9⟩ := asInt_some h8
  obtain ⟨v'10, l'11, rfl, h10⟩ := asCons_some h9
  obtain ⟨x_4, rfl, h11⟩ := asInt_some h10
  obtain ⟨v'12, l'13, rfl, h12⟩ := asCons_some h11
  obtain ⟨x_5, rfl, h13⟩ := asInt_some h12
  obtain ⟨v'14, l'15, rfl, h14⟩ := asCons_some h13
  obtain ⟨x_6, rfl, h15⟩ := asInt_some h14
  obtain ⟨rfl, h16⟩ := asNil_some h15
  obtain ⟨_, h17⟩ := asEnd_some h16
  rw [b_spec_l1May, ← g_spec_l1May_eq]
  exact h17

/-! ### loop.example/g00756/spec.May -/
noncomputable def f_spec_May (N : Nat) : (R : Type) → List V → S → (V → S → Option R) → Option R := fun _ vs s K =>
  asCons vs fun v'1 l'2 => asAgg v'1 fun c'3 => asCons c'3 fun v'4 l'5 => asInt .i64 v'4 fun x_1 => asCons l'5 fun v'6 l'7 => asInt .i64 v'6 fun x_2 => asNil l'7 <| asCons l'2 fun v'8 l'9 => asInt .i64 v'8 fun x_3 => asCons l'9 fun v'10 l'11 => asInt .i64 v'10 fun x_4 => asCons l'11 fun v'12 l'13 => asInt .i64 v'12 fun x_5 => asCons l'13 fun v'14 l'15 => asInt .i64 v'14 fun x_6 => asNil l'15 <| asEnd s <| g_spec_May N x_1 x_2 x_3 x_4 x_5 x_6 fun b_7 b_8 => K (.tuple [.bool b_7, .bool b_8]) []
noncomputable def Φ_spec_May (N : Nat) : Callee := (Φ_spec_l1May N).add 26 (f_spec_May N)
noncomputable def c_spec_May : Code := bodyOf Try.f26
theorem at_spec_May : loopsAt c_spec_May [] = [] := by kernel_rfl
theorem b_spec_May {R : Type} (N : Nat) (x_1 : Int) (x_2 : Int) (x_3 : Int) (x_4 : Int) (x_5 : Int) (x_6 : Int) (K : V → S → Option R) : bodyV C (Φ_spec_l1May N) (noLooper) 26 Try.f26 [.agg [.int .i64 x_1, .int .i64 x_2], .int .i64 x_3, .int .i64 x_4, .int .i64 x_5, .int .i64 x_6] [] K =
  gb_spec_May N x_1 x_2 x_3 x_4 x_5 x_6 (fun b_7 b_8 => K (.tuple [.bool b_7, .bool b_8]) []) := by kernel_rfl
theorem loops_spec_May {N : Nat} (hC : Ok Try.prog C) (hΦ : CalleeOk Try.prog C (Φ_spec_l1May N)) : LoopsOk Try.prog C (noLooper) c_spec_May [] :=
  loopsOk_of c_spec_May [] (by
    rw [at_spec_May]
    intro p hp
    cases hp)
theorem callee_spec_May (hC : Ok Try.prog C) {N : Nat} (hΦ : CalleeOk Try.prog C (Φ_spec_l1May N)) : CalleeOk Try.prog C (Φ_spec_May N) := by
  refine hΦ.add_pure rfl fun R vs K r h => body_pure (fn := Try.f26) (c := c_spec_May) hC hΦ Try.func26 (by kernel_rfl) (by kernel_rfl) (loops_spec_May (N := N) hC hΦ) rfl rfl ?_
  unfold f_spec_May at h
  obtain ⟨v'1, l'2, rfl, h1⟩ := asCons_some h
  obtain ⟨c'3, rfl, h2⟩ := asAgg_some h1
  obtain ⟨v'4, l'5, rfl, h3⟩ := asCons_some h2
  obtain ⟨x_1, rfl, h4⟩ := asInt_some h3
  obtain ⟨v'6, l'7, rfl, h5⟩ := asCons_some h4
  obtain ⟨x_2, rfl, h6⟩ := asInt_some h5
  obtain ⟨rfl, h7⟩ := asNil_some h6
  obtain ⟨v'8, l'9, rfl, h8⟩ := asCons_some h7
  obtain ⟨x_3, rfl, h9⟩ := asInt_some h8
  obtain ⟨v'10, l'11, rfl, h10⟩ := asCons_some h9
  obtain ⟨x_4, rfl, h11⟩ := asInt_some h10
  obtain ⟨v'12, l'13, rfl, h12⟩ := asCons_some h11
  obtain ⟨x_5, rfl, h13⟩ := asInt_some h12
  obtain ⟨v'14, l'15, rfl, h14⟩ := asCons_some h13
  obtain ⟨x_6, rfl, h15⟩ := asInt_some h14
  obtain ⟨rfl, h16⟩ := asNil_some h15
  obtain ⟨_, h17⟩ := asEnd_some h16
  rw [b_spec_May, ← g_spec_May_eq]
  exact h17

/-! ### loop.example/g00756/spec.GoodCred -/
noncomputable def f_spec_GoodCred (N : Nat) : (R : Type) → List V → S → (V → S → Option R) → Option R := fun _ vs s K =>
  asCons vs fun v'1 l'2 => asAgg v'1 fun c'3 => asCons c'3 fun v'4 l'5 => asInt .i64 v'4 fun x_1 => asCons l'5 fun v'6 l'7 => asInt .i64 v'6 fun x_2 => asNil l'7 <| asNil l'2 <| asEnd s <| g_spec_GoodCred N x_1 x_2 fun b_3 => K (.bool b_3) []
noncomputable def Φ_spec_GoodCred (N : Nat) : Callee := (Φ_spec_May N).add 28 (f_spec_GoodCred N)
noncomputable def c_spec_GoodCred : Code := bodyOf Try.f28
theorem at_spec_GoodCred : loopsAt c_spec_GoodCred [] = [] := by kernel_rfl
theorem b_spec_GoodCred {R : Type} (N : Nat) (x_1 : Int) (x_2 : Int) (K : V → S → Option R) : bodyV C (Φ_spec_May N) (noLooper) 28 Try.f28 [.agg [.int .i64 x_1, .int .i64 x_2]] [] K =
  gb_spec_GoodCred N x_1 x_2 (fun b_3 => K (.bool b_3) []) := by kernel_rfl
theorem loops_spec_GoodCred {N : Nat} (hC : Ok Try.prog C) (hΦ : CalleeOk Try.prog C (Φ_spec_May N)) : LoopsOk Try.prog C (noLooper) c_spec_GoodCred [] :=
  loopsOk_of c_spec_GoodCred [] (by
    rw [at_spec_GoodCred]
    intro p hp
    cases hp)
theorem callee_spec_GoodCred (hC : Ok Try.prog C) {N : Nat} (hΦ : CalleeOk Try.prog C (Φ_spec_May N)) : CalleeOk Try.prog C (Φ_spec_GoodCred N) := by
  refine hΦ.add_pure rfl fun R vs K r h => body_pure (fn := Try.f28) (c := c_spec_GoodCred) hC hΦ Try.func28 (by kernel_rfl) (by kernel_rfl) (loops_spec_GoodCred (N := N) hC hΦ) rfl rfl ?_
  unfold f_spec_GoodCred at h
  obtain ⟨v'1, l'2, rfl, h1⟩ := asCons_some h
  obtain ⟨c'3, rfl, h2⟩ := asAgg_some h1
  obtain ⟨v'4, l'5, rfl, h3⟩ := asCons_some h2
  obtain ⟨x_1, rfl, h4⟩ := asInt_some h3
  obtain ⟨v'6, l'7, rfl, h5⟩ := asCons_some h4
  obtain ⟨x_2, rfl, h6⟩ := asInt_some h5
  obtain ⟨rfl, h7⟩ := asNil_some h6
  obtain ⟨rfl, h8⟩ := asNil_some h7
  obtain ⟨_, h9⟩ := asEnd_some h8
  rw [b_spec_GoodCred, ← g_spec_GoodCred_eq]
  exact h9

/-! ### loop.example/g00756/spec.DrawWithMask -/
noncomputable def f_spec_DrawWithMask (N : Nat) : (R : Type) → List V → S → (V → S → Option R) → Option R := fun _ vs s K =>
  asCons vs fun v'1 l'2 => asList 1 v'1 fun e_1 f_2 => asNil l'2 <| asEnd s <| g_spec_DrawWithMask N e_1 f_2 fun x_3 x_4 => K (.tuple [.int .i64 x_3, .int .i64 x_4]) []
noncomputable def Φ_spec_DrawWithMask (N : Nat) : Callee := (Φ_spec_GoodCred N).add 29 (f_spec_DrawWithMask N)
noncomputable def c_spec_DrawWithMask : Code := bodyOf Try.f29
theorem at_spec_DrawWithMask : loopsAt c_spec_DrawWithMask [] = [] := by kernel_rfl
theorem b_spec_DrawWithMask {R : Type} (N : Nat) (e_1 : List V) (f_2 : Fl) (K : V → S → Option R) : bodyV C (Φ_spec_GoodCred N) (noLooper) 29 Try.f29 [.list 1 e_1 f_2] [] K =
  gb_spec_DrawWithMask N e_1 f_2 (fun x_3 x_4 => K (.tuple [.int .i64 x_3, .int .i64 x_4]) []) := by kernel_rfl
theorem loops_spec_DrawWithMask {N : Nat} (hC : Ok Try.prog C) (hΦ : CalleeOk Try.prog C (Φ_spec_GoodCred N)) : LoopsOk Try.prog C (noLooper) c_spec_DrawWithMask [] :=
  loopsOk_of c_spec_DrawWithMask [] (by
    rw [at_spec_DrawWithMask]
    intro p hp
    cases hp)
theorem callee_spec_DrawWithMask (hC : Ok Try.prog C) {N : Nat} (hΦ : CalleeOk Try.prog C (Φ_spec_GoodCred N)) : CalleeOk Try.prog C (Φ_spec_DrawWithMask N) := by
  refine hΦ.add_pure rfl fun R vs K r h => body_pure (fn := Try.f29) (c := c_spec_DrawWithMask) hC hΦ Try.func29 (by kernel_rfl) (by kernel_rfl) (loops_spec_DrawWithMask (N := N) hC hΦ) rfl rfl ?_
  unfold f_spec_DrawWithMask at h
  obtain ⟨v'1, l'2, rfl, h1⟩ := asCons_some h
  obtain ⟨e_1, f_2, rfl, h2⟩ := asList_some h1
  obtain ⟨rfl, h3⟩ := asNil_some h2
  obtain ⟨_, h4⟩ := asEnd_some h3
  rw [b_spec_DrawWithMask, ← g_spec_DrawWithMask_eq]
  exact h4

/-! ### loop.example/g00756/impl.WithMask -/
noncomputable def f_impl_WithMask (N : Nat) : (R : Type) → List V → S → (V → S → Option R) → Option R := fun _ vs s K =>
  asCons vs fun v'1 l'2 => asInt .i64 v'1 fun x_1 => asCons l'2 fun v'3 l'4 => asInt .i64 v'3 fun x_2 => asNil l'4 <| asEnd s <| g_impl_WithMask N x_1 x_2 fun x_3 b_4 => K (.tuple [.int .i64 x_3, .bool b_4]) []
noncomputable def Φ_impl_WithMask (N : Nat) : Callee := (Φ_spec_DrawWithMask N).add 30 (f_impl_WithMask N)
noncomputable def c_impl_WithMask : Code := bodyOf Try.f30
theorem at_impl_WithMask : loopsAt c_impl_WithMask [] = [] := by kernel_rfl
theorem b_impl_WithMask {R : Type} (N : Nat) (x_1 : Int) (x_2 : Int) (K : V → S → Option R) : bodyV C (Φ_spec_DrawWithMask N) (noLooper) 30 Try.f30 [.int .i64 x_1, .int .i64 x_2] [] K =
  gb_impl_WithMask N x_1 x_2 (fun x_3 b_4 => K (.tuple [.int .i64 x_3, .bool b_4]) []) := by kernel_rfl
theorem loops_impl_WithMask {N : Nat} (hC : Ok Try.prog C) (hΦ : CalleeOk Try.prog C (Φ_spec_DrawWithMask N)) : LoopsOk Try.prog C (noLooper) c_impl_WithMask [] :=
  loopsOk_of c_impl_WithMask [] (by
    rw [at_impl_WithMask]
    intro p hp
    cases hp)
theorem callee_impl_WithMask (hC : Ok Try.prog C) {N : Nat} (hΦ : CalleeOk Try.prog C (Φ_spec_DrawWithMask N)) : CalleeOk Try.prog C (Φ_impl_WithMask N) := by
  refine hΦ.add_pure rfl fun R vs K r h => body_pure (fn := Try.f30) (c := c_impl_WithMask) hC hΦ Try.func30 (by kernel_rfl) (by kernel_rfl) (loops_impl_WithMask (N := N) hC hΦ) rfl rfl ?_
  unfold f_impl_WithMask at h
  obtain ⟨v'1, l'2, rfl, h1⟩ := asCons_some h
  obtain ⟨x_1, rfl, h2⟩ := asInt_some h1
  obtain ⟨v'3, l'4, rfl, h3⟩ := asCons_some h2
  obtain ⟨x_2, rfl, h4⟩ := asInt_some h3
  obtain ⟨rfl, h5⟩ := asNil_some h4
  obtain ⟨_, h6⟩ := asEnd_some h5
  rw [b_impl_WithMask, ← g_impl_WithMask_eq]
  exact h6

/-! ### loop.example/g00756/spec.WithMask -/
noncomputable def f_spec_WithMask (N : Nat) : (R : Type) → List V → S → (V → S → Option R) → Option R := fun _ vs s K =>
  asCons vs fun v'1 l'2 => asInt .i64 v'1 fun x_1 => asCons l'2 fun v'3 l'4 => asInt .i64 v'3 fun x_2 => asNil l'4 <| asEnd s <| g_spec_WithMask N x_1 x_2 fun x_3 b_4 => K (.tuple [.int .i64 x_3, .bool b_4]) []
noncomputable def Φ_spec_WithMask (N : Nat) : Callee := (Φ_impl_WithMask N).add 31 (f_spec_WithMask N)
noncomputable def c_spec_WithMask : Code := bodyOf Try.f31
theorem at_spec_WithMask : loopsAt c_spec_WithMask [] = [] := by kernel_rfl
theorem b_spec_WithMask {R : Type} (N : Nat) (x_1 : Int) (x_2 : Int) (K : V → S → Option R) : bodyV C (Φ_impl_WithMask N) (noLooper) 31 Try.f31 [.int .i64 x_1, .int .i64 x_2] [] K =
  gb_spec_WithMask N x_1 x_2 (fun x_3 b_4 => K (.tuple [.int .i64 x_3, .bool b_4]) []) := by kernel_rfl
theorem loops_spec_WithMask {N : Nat} (hC : Ok Try.prog C) (hΦ : CalleeOk Try.prog C (Φ_impl_WithMask N)) : LoopsOk Try.prog C (noLooper) c_spec_WithMask [] :=
  loopsOk_of c_spec_WithMask [] (by
    rw [at_spec_WithMask]
    intro p hp
    cases hp)
theorem callee_spec_WithMask (hC : Ok Try.prog C) {N : Nat} (hΦ : CalleeOk Try.prog C (Φ_impl_WithMask N)) : CalleeOk Try.prog C (Φ_spec_WithMask N) := by
  refine hΦ.add_pure rfl fun R vs K r h => body_pure (fn := Try.f31) (c := c_spec_WithMask) hC hΦ Try.func31 (by kernel_rfl) (by kernel_rfl) (loops_spec_WithMask (N := N) hC hΦ) rfl rfl ?_
  unfold f_spec_WithMask at h
  obtain ⟨v'1, l'2, rfl, h1⟩ := asCons_some h
  obtain ⟨x_1, rfl, h2⟩ := asInt_some h1
  obtain ⟨v'3, l'4, rfl, h3⟩ := asCons_some h2
  obtain ⟨x_2, rfl, h4⟩ := asInt_some h3
  obtain ⟨rfl, h5⟩ := asNil_some h4
  obtain ⟨_, h6⟩ := asEnd_some h5
  rw [b_spec_WithMask, ← g_spec_WithMask_eq]
  exact h6

/-! ### loop.example/g00756/spec.DrawGoodCred -/
noncomputable def f_spec_DrawGoodCred (N : Nat) : (R : Type) → List V → S → (V → S → Option R) → Option R := fun _ vs s K =>
  asCons vs fun v'1 l'2 => asList 1 v'1 fun e_1 f_2 => asNil l'2 <| asEnd s <| g_spec_DrawGoodCred N e_1 f_2 fun x_3 x_4 => K (.agg [.int .i64 x_3, .int .i64 x_4]) []
noncomputable def Φ_spec_DrawGoodCred (N : Nat) : Callee := (Φ_spec_WithMask N).add 32 (f_spec_DrawGoodCred N)
noncomputable def c_spec_DrawGoodCred : Code := bodyOf Try.f32
theorem at_spec_DrawGoodCred : loopsAt c_spec_DrawGoodCred [] = [] := by kernel_rfl
theorem b_spec_DrawGoodCred {R : Type} (N : Nat) (e_1 : List V) (f_2 : Fl) (K : V → S → Option R) : bodyV C (Φ_spec_WithMask N) (noLooper) 32 Try.f32 [.list 1 e_1 f_2] [] K =
  gb_spec_DrawGoodCred N e_1 f_2 (fun x_3 x_4 => K (.agg [.int .i64 x_3, .int .i64 x_4]) []) := by kernel_rfl
theorem loops_spec_DrawGoodCred {N : Nat} (hC : Ok Try.prog C) (hΦ : CalleeOk Try.prog C (Φ_spec_WithMask N)) : LoopsOk Try.prog C (noLooper) c_spec_DrawGoodCred [] :=
  loopsOk_of c_spec_DrawGoodCred [] (by
    rw [at_spec_DrawGoodCred]
    intro p hp
    cases hp)
theorem callee_spec_DrawGoodCred (hC : Ok Try.prog C) {N : Nat} (hΦ : CalleeOk Try.prog C (Φ_spec_WithMask N)) : CalleeOk Try.prog C (Φ_spec_DrawGoodCred N) := by
  refine hΦ.add_pure rfl fun R vs K r h => body_pure (fn := Try.f32) (c := c_spec_DrawGoodCred) hC hΦ Try.func32 (by kernel_rfl) (by kernel_rfl) (loops_spec_DrawGoodCred (N := N) hC hΦ) rfl rfl ?_
  unfold f_spec_DrawGoodCred at h
  obtain ⟨v'1, l'2, rfl, h1⟩ := asCons_some h
  obtain ⟨e_1, f_2, rfl, h2⟩ := asList_some h1
  obtain ⟨rfl, h3⟩ := asNil_some h2
  obtain ⟨_, h4⟩ := asEnd_some h3
  rw [b_spec_DrawGoodCred, ← g_spec_DrawGoodCred_eq]
  exact h4

/-! ### loop.example/g00756/laws.FnMay -/
noncomputable def f_laws_FnMay (N : Nat) : (R : Type) → List V → S → (V → S → Option R) → Option R := fun _ vs s K =>
  asCons vs fun v'1 l'2 => asList 1 v'1 fun e_1 f_2 => asCons l'2 fun v'3 l'4 => asList 1 v'3 fun e_3 f_4 => asNil l'4 <| asEnd s <| g_laws_FnMay N e_1 f_2 e_3 f_4 fun b_5 => K (.bool b_5) []
noncomputable def Φ_laws_FnMay (N : Nat) : Callee := (Φ_spec_DrawGoodCred N).add 5 (f_laws_FnMay N)
noncomputable def c_laws_FnMay : Code := bodyOf Try.f5
noncomputable def b_laws_FnMay_0 : Code := (loopNo c_laws_FnMay [] 0).2
def ks_laws_FnMay_0 : List Nat := [0, 2, 3, 4, 11, 12, 13, 15, 16, 17, 18, 19, 20, 21, 22, 23, 24, 25, 26, 27, 28, 29, 30, 31, 32, 33, 34, 35, 36, 37, 38, 39, 40, 41, 42, 43, 44, 45, 46, 47, 48, 49, 50, 51, 52, 53, 54, 55, 56, 57, 58, 59, 60, 61, 62, 63, 64, 65, 66, 67, 68, 69, 70, 74, 75, 76, 77, 78, 79, 80, 81, 82, 83, 84, 85, 86, 87, 88, 89, 90, 91, 92, 93, 94, 95, 96, 97, 98, 99, 100, 101, 102, 103, 104, 105, 106, 107, 108, 109, 110, 111, 112, 113, 114, 115, 116, 117, 118, 119, 120, 121, 122, 123, 124, 125, 126, 127, 128, 129, 130, 131, 132, 133, 134, 135, 136, 137, 138, 139, 140, 141, 142, 143, 144, 145, 146, 147, 148, 149, 150, 151, 152, 153, 154, 155, 156, 157]
def kx_laws_FnMay_0 : List Nat := [0, 2, 3, 6, 7, 8, 9, 11, 12, 13, 15, 16, 17, 18, 19, 20, 21, 22, 23, 24, 25, 26, 27, 28, 29, 30, 31, 32, 33, 34, 35, 36, 37, 38, 39, 40, 41, 42, 43, 44, 45, 46, 47, 48, 49, 50, 51, 52, 53, 54, 55, 56, 57, 58, 59, 60, 61, 62, 63, 64, 65, 66, 67, 68, 69, 70, 71, 72, 73, 74, 75, 76, 77, 78, 79, 80, 81, 82, 83, 84, 85, 86, 87, 88, 89, 90, 91, 92, 93, 94, 95, 96, 97, 98, 99, 100, 101, 102, 103, 104, 105, 106, 107, 108, 109, 110, 111, 112, 113, 114, 115, 116, 117, 118, 119, 120, 121, 122, 123, 124, 125, 126, 127, 128, 129, 130, 131, 132, 133, 134, 135, 136, 137, 138, 139, 140, 141, 142, 143, 144, 145, 146, 147, 148, 149, 150, 151, 152, 153, 154, 155, 156, 157]
def fr_laws_FnMay_0 (e_1 : List V) (f_2 : Fl) (x_3 : Int) (x_4 : Int) (x_5 : Int) (x_6 : Int) (b_7 : Bool) (e_8 : List V) (x_10 : Int) (x_11 : Int) (b_12 : Bool) (x_9 : Int) : List V := mkF 0 158 [(1, .list 1 e_1 f_2), (5, .ptr 0 0 0 0), (6, .int .i64 x_3), (7, .int .i64 x_4), (8, .int .i64 x_5), (9, .int .i64 x_6), (10, .bool b_7), (14, .bool b_12), (71, .list 1 e_8 (.own 3)), (72, .int .i64 3), (73, .int .i64 x_9)]
theorem r_laws_FnMay_0 {R : Type} (N n : Nat) (e_1 : List V) (f_2 : Fl) (x_3 : Int) (x_4 : Int) (x_5 : Int) (x_6 : Int) (b_7 : Bool) (e_8 : List V) (x_10 : Int) (x_11 : Int) (b_12 : Bool) (x_9 : Int) (K : X → List V → S → Option R) :
  iter C (Φ_spec_DrawGoodCred N) (noLooper) b_laws_FnMay_0 [0, 1, 0, 1, 0, 1, 0, 1, 1, 1, 1, 1, 1] false ks_laws_FnMay_0 kx_laws_FnMay_0 (n + 1) R (fr_laws_FnMay_0 e_1 f_2 x_3 x_4 x_5 x_6 b_7 e_8 x_10 x_11 b_12 x_9) [some ⟨[.agg [.int .i64 x_10, .int .i64 x_11]], 2, 33, 0⟩] K =
  l_laws_FnMay_0_step N e_1 f_2 x_3 x_4 x_5 x_6 b_7 e_8 x_10 x_11 (fun b_12 x_9 => iter C (Φ_spec_DrawGoodCred N) (noLooper) b_laws_FnMay_0 [0, 1, 0, 1, 0, 1, 0, 1, 1, 1, 1, 1, 1] false ks_laws_FnMay_0 kx_laws_FnMay_0 n R (fr_laws_FnMay_0 e_1 f_2 x_3 x_4 x_5 x_6 b_7 e_8 x_10 x_11 b_12 x_9) [some ⟨[.agg [.int .i64 x_10, .int .i64 x_11]], 2, 33, 0⟩] K) b_12 x_9
    (fun b_1' => K .ret (mkF 0 158 [(1, .list 1 e_1 f_2), (4, .bool false), (5, .ptr 0 0 0 0), (10, .bool b_7), (14, .bool (b_1'))]) [some ⟨[.agg [.int .i64 x_10, .int .i64 x_11]], 2, 33, 0⟩])
    (fun b_1' => K (.exit 0) (mkF 0 158 [(1, .list 1 e_1 f_2), (5, .ptr 0 0 0 0), (10, .bool b_7), (14, .bool (b_1'))]) [some ⟨[.agg [.int .i64 x_10, .int .i64 x_11]], 2, 33, 0⟩]) := by kernel_rfl
theorem w_laws_FnMay_0 {R : Type} (N : Nat) (e_1 : List V) (f_2 : Fl) (x_3 : Int) (x_4 : Int) (x_5 : Int) (x_6 : Int) (b_7 : Bool) (e_8 : List V) (x_10 : Int) (x_11 : Int) (K : X → List V → S → Option R) : ∀ (n : Nat) (b_12 : Bool) (x_9 : Int),
  iter C (Φ_spec_DrawGoodCred N) (noLooper) b_laws_FnMay_0 [0, 1, 0, 1, 0, 1, 0, 1, 1, 1, 1, 1, 1] false ks_laws_FnMay_0 kx_laws_FnMay_0 n R (fr_laws_FnMay_0 e_1 f_2 x_3 x_4 x_5 x_6 b_7 e_8 x_10 x_11 b_12 x_9) [some ⟨[.agg [.int .i64 x_10, .int .i64 x_11]], 2, 33, 0⟩] K = l_laws_FnMay_0 N e_1 f_2 x_3 x_4 x_5 x_6 b_7 e_8 x_10 x_11
    (fun b_1' => K .ret (mkF 0 158 [(1, .list 1 e_1 f_2), (4, .bool false), (5, .ptr 0 0 0 0), (10, .bool b_7), (14, .bool (b_1'))]) [some ⟨[.agg [.int .i64 x_10, .int .i64 x_11]], 2, 33, 0⟩])
    (fun b_1' => K (.exit 0) (mkF 0 158 [(1, .list 1 e_1 f_2), (5, .ptr 0 0 0 0), (10, .bool b_7), (14, .bool (b_1'))]) [some ⟨[.agg [.int .i64 x_10, .int .i64 x_11]], 2, 33, 0⟩]) n b_12 x_9
  | 0, _, _ => rfl
  | n + 1, b_12, x_9 => (r_laws_FnMay_0 N n e_1 f_2 x_3 x_4 x_5 x_6 b_7 e_8 x_10 x_11 b_12 x_9 K).trans (congrArg (fun nx => l_laws_FnMay_0_step N e_1 f_2 x_3 x_4 x_5 x_6 b_7 e_8 x_10 x_11 nx b_12 x_9
    (fun b_1' => K .ret (mkF 0 158 [(1, .list 1 e_1 f_2), (4, .bool false), (5, .ptr 0 0 0 0), (10, .bool b_7), (14, .bool (b_1'))]) [some ⟨[.agg [.int .i64 x_10, .int .i64 x_11]], 2, 33, 0⟩])
    (fun b_1' => K (.exit 0) (mkF 0 158 [(1, .list 1 e_1 f_2), (5, .ptr 0 0 0 0), (10, .bool b_7), (14, .bool (b_1'))]) [some ⟨[.agg [.int .i64 x_10, .int .i64 x_11]], 2, 33, 0⟩])) (funext fun b_12 => funext fun x_9 => w_laws_FnMay_0 N e_1 f_2 x_3 x_4 x_5 x_6 b_7 e_8 x_10 x_11 K n b_12 x_9))
def i_laws_FnMay_0 {R : Type} (E : List V) (s : S) (k : List V → Fl → Int → Int → Int → Int → Bool → Bool → List V → Int → Int → Int → Option R) : Option R :=
  guardB (frameOk 158 [1, 5, 6, 7, 8, 9, 10, 14, 71, 72, 73] E) <| must (nth E 1) fun u1 => asList 1 u1 fun e_1 f_2 => must (nth E 5) fun u5 => asPtr u5 fun k'1 k'2 k'3 k'4 => isN k'1 0 <| isN k'2 0 <| isN k'3 0 <| isN k'4 0 <| must (nth E 6) fun u6 => asInt .i64 u6 fun x_3 => must (nth E 7) fun u7 => asInt .i64 u7 fun x_4 => must (nth E 8) fun u8 => asInt .i64 u8 fun x_5 => must (nth E 9) fun u9 => asInt .i64 u9 fun x_6 => must (nth E 10) fun u10 => asBool u10 fun b_7 => must (nth E 14) fun u14 => asBool u14 fun b_12 => must (nth E 71) fun u71 => asList 1 u71 fun e_8 f'5 => asOwn 3 f'5 <| must (nth E 72) fun u72 => isI .i64 3 u72 <| must (nth E 73) fun u73 => asInt .i64 u73 fun x_9 => asOb s fun o'6 s'7 => obIs o'6 2 33 fun e'8 k'9 => isN k'9 0 <| asCons e'8 fun v'10 l'11 => asAgg v'10 fun c'12 => asCons c'12 fun v'13 l'14 => asInt .i64 v'13 fun x_10 => asCons l'14 fun v'15 l'16 => asInt .i64 v'15 fun x_11 => asNil l'16 <| asNil l'11 <| asEnd s'7 <| k e_1 f_2 x_3 x_4 x_5 x_6 b_7 b_12 e_8 x_9 x_10 x_11
theorem i_laws_FnMay_0_spec {R : Type} {E : List V} {s : S} {k : List V → Fl → Int → Int → Int → Int → Bool → Bool → List V → Int → Int → Int → Option R} {r : R} (h : i_laws_FnMay_0 E s k = some r) : ∃ e_1 f_2 x_3 x_4 x_5 x_6 b_7 b_12 e_8 x_9 x_10 x_11, E = fr_laws_FnMay_0 e_1 f_2 x_3 x_4 x_5 x_6 b_7 e_8 x_10 x_11 b_12 x_9 ∧ s = [some ⟨[.agg [.int .i64 x_10, .int .i64 x_11]], 2, 33, 0⟩] ∧ k e_1 f_2 x_3 x_4 x_5 x_6 b_7 b_12 e_8 x_9 x_10 x_11 = some r := by
  unfold i_laws_FnMay_0 at h
  obtain ⟨hg, h1⟩ := guardB_some h
  obtain ⟨u1, hu1, h2⟩ := must_some h1
  obtain ⟨e_1, f_2, rfl, h3⟩ := asList_some h2
  obtain ⟨u5, hu5, h4⟩ := must_some h3
  obtain ⟨k'1, k'2, k'3, k'4, rfl, h5⟩ := asPtr_some h4
  obtain ⟨rfl, h6⟩ := isN_some h5
  obtain ⟨rfl, h7⟩ := isN_some h6
  obtain ⟨rfl, h8⟩ := isN_some h7
  obtain ⟨rfl, h9⟩ := isN_some h8
  obtain ⟨u6, hu6, h10⟩ := must_some h9
  obtain ⟨x_3, rfl, h11⟩ := asInt_some h10
  obtain ⟨u7, hu7, h12⟩ := must_some h11
  obtain ⟨x_4, rfl, h13⟩ := asInt_some h12
  obtain ⟨u8, hu8, h14⟩ := must_some h13
  obtain ⟨x_5, rfl, h15⟩ := asInt_some h14
  obtain ⟨u9, hu9, h16⟩ := must_some h15
  obtain ⟨x_6, rfl, h17⟩ := asInt_some h16
  obtain ⟨u10, hu10, h18⟩ := must_some h17
  obtain ⟨b_7, rfl, h19⟩ := asBool_some h18
  obtain ⟨u14, hu14, h20⟩ := must_some h19
  obtain ⟨b_12, rfl, h21⟩ := asBool_some h20
  obtain ⟨u71, hu71, h22⟩ := must_some h21
  obtain ⟨e_8, f'5, rfl, h23⟩ := asList_some h22
  obtain ⟨rfl, h24⟩ := asOwn_some h23
  obtain ⟨u72, hu72, h25⟩ := must_some h24
  obtain ⟨rfl, h26⟩ := isI_some h25
  obtain ⟨u73, hu73, h27⟩ := must_some h26
  obtain ⟨x_9, rfl, h28⟩ := asInt_some h27
  obtain ⟨o'6, s'7, rfl, h29⟩ := asOb_some h28
  obtain ⟨e'8, k'9, rfl, h30⟩ := obIs_some h29
  obtain ⟨rfl, h31⟩ := isN_some h30
  obtain ⟨v'10, l'11, rfl, h32⟩ := asCons_some h31
  obtain ⟨c'12, rfl, h33⟩ := asAgg_some h32
  obtain ⟨v'13, l'14, rfl, h34⟩ := asCons_some h33
  obtain ⟨x_10, rfl, h35⟩ := asInt_some h34
  obtain ⟨v'15, l'16, rfl, h36⟩ := asCons_some h35
  obtain ⟨x_11, rfl, h37⟩ := asInt_some h36
  obtain ⟨rfl, h38⟩ := asNil_some h37
  obtain ⟨rfl, h39⟩ := asNil_some h38
  obtain ⟨rfl, h40⟩ := asEnd_some h39
  exact ⟨e_1, f_2, x_3, x_4, x_5, x_6, b_7, b_12, e_8, x_9, x_10, x_11, frame_is hg rfl (slots_cons hu1 (slots_cons hu5 (slots_cons hu6 (slots_cons hu7 (slots_cons hu8 (slots_cons hu9 (slots_cons hu10 (slots_cons hu14 (slots_cons hu71 (slots_cons hu72 (slots_cons hu73 slots_nil))))))))))), rfl, h40⟩
noncomputable def Λ_laws_FnMay_0 (N : Nat) : Looper := (noLooper).add [0, 1, 0, 1, 0, 1, 0, 1, 1, 1, 1, 1, 1] fun _ E s K => i_laws_FnMay_0 (killE ks_laws_FnMay_0 E) s fun e_1 f_2 x_3 x_4 x_5 x_6 b_7 b_12 e_8 x_9 x_10 x_11 => l_laws_FnMay_0 N e_1 f_2 x_3 x_4 x_5 x_6 b_7 e_8 x_10 x_11
    (fun b_1' => K .ret (mkF 0 158 [(1, .list 1 e_1 f_2), (4, .bool false), (5, .ptr 0 0 0 0), (10, .bool b_7), (14, .bool (b_1'))]) [some ⟨[.agg [.int .i64 x_10, .int .i64 x_11]], 2, 33, 0⟩])
    (fun b_1' => K (.exit 0) (mkF 0 158 [(1, .list 1 e_1 f_2), (5, .ptr 0 0 0 0), (10, .bool b_7), (14, .bool (b_1'))]) [some ⟨[.agg [.int .i64 x_10, .int .i64 x_11]], 2, 33, 0⟩]) N b_12 x_9
theorem in_laws_FnMay_0 : loopsAt b_laws_FnMay_0 (0 :: [0, 1, 0, 1, 0, 1, 0, 1, 1, 1, 1, 1, 1]) = [] := by kernel_rfl
theorem ok_laws_FnMay_0 {N : Nat} (hC : Ok Try.prog C) (hΦ : CalleeOk Try.prog C (Φ_spec_DrawGoodCred N)) : LoopOk Try.prog C (Λ_laws_FnMay_0 N) b_laws_FnMay_0 [0, 1, 0, 1, 0, 1, 0, 1, 1, 1, 1, 1, 1] :=
  iter_ok (Λi := noLooper) (tr := false) (ks := ks_laws_FnMay_0) (kx := kx_laws_FnMay_0) (N := N) hC hΦ
    (loopsOk_of b_laws_FnMay_0 _ (by
      rw [in_laws_FnMay_0]
      intro p hp
      cases hp))
    fun R E s K r h => by
      have h2 := Looper.add_self.symm.trans h
      obtain ⟨e_1, f_2, x_3, x_4, x_5, x_6, b_7, b_12, e_8, x_9, x_10, x_11, he, rfl, h3⟩ := i_laws_FnMay_0_spec h2
      rw [he, w_laws_FnMay_0]
      exact h3
theorem at_laws_FnMay : loopsAt c_laws_FnMay [] = [([0, 1, 0, 1, 0, 1, 0, 1, 1, 1, 1, 1, 1], b_laws_FnMay_0)] := by kernel_rfl
theorem b_laws_FnMay {R : Type} (N : Nat) (e_1 : List V) (f_2 : Fl) (e_3 : List V) (f_4 : Fl) (K : V → S → Option R) : bodyV C (Φ_spec_DrawGoodCred N) (Λ_laws_FnMay_0 N) 5 Try.f5 [.list 1 e_1 f_2, .list 1 e_3 f_4] [] K =
  gb_laws_FnMay N e_1 f_2 e_3 f_4 (fun b_5 => K (.bool b_5) []) := by kernel_rfl
theorem loops_laws_FnMay {N : Nat} (hC : Ok Try.prog C) (hΦ : CalleeOk Try.prog C (Φ_spec_DrawGoodCred N)) : LoopsOk Try.prog C (Λ_laws_FnMay_0 N) c_laws_FnMay [] :=
  loopsOk_of c_laws_FnMay [] (by
    rw [at_laws_FnMay]
    intro p hp
    simp only [List.mem_cons, List.mem_nil_iff, or_false] at hp
    rcases hp with rfl
    · exact (ok_laws_FnMay_0 hC hΦ))
theorem callee_laws_FnMay (hC : Ok Try.prog C) {N : Nat} (hΦ : CalleeOk Try.prog C (Φ_spec_DrawGoodCred N)) : CalleeOk Try.prog C (Φ_laws_FnMay N) := by
  refine hΦ.add_pure rfl fun R vs K r h => body_pure (fn := Try.f5) (c := c_laws_FnMay) hC hΦ Try.func5 (by kernel_rfl) (by kernel_rfl) (loops_laws_FnMay (N := N) hC hΦ) rfl rfl ?_
  unfold f_laws_FnMay at h
  obtain ⟨v'1, l'2, rfl, h1⟩ := asCons_some h
  obtain ⟨e_1, f_2, rfl, h2⟩ := asList_some h1
  obtain ⟨v'3, l'4, rfl, h3⟩ := asCons_some h2
  obtain ⟨e_3, f_4, rfl, h4⟩ := asList_some h3
  obtain ⟨rfl, h5⟩ := asNil_some h4
  obtain ⟨_, h6⟩ := asEnd_some h5
  rw [b_laws_FnMay, ← g_laws_FnMay_eq]
  exact h6
theorem callee_laws_FnMay_prev (hC : Ok Try.prog C) (N : Nat) : CalleeOk Try.prog C (Φ_spec_DrawGoodCred N) :=
  have h0 := noCallee_ok Try.prog C
  have h1 := callee_laws_big hC (N := N) h0
  have h2 := callee_spec_l1Cur_next hC (N := N) h1
  have h3 := callee_spec_l1Cur_pick hC (N := N) h2
  have h4 := callee_spec_l1Cur_one hC (N := N) h3
  have h5 := callee_spec_l1Cur_among hC (N := N) h4
  have h6 := callee_spec_l1Cur_cred hC (N := N) h5
  have h7 := callee_spec_l1Cur_mode hC (N := N) h6
  have h8 := callee_spec_DrawMay hC (N := N) h7
  have h9 := callee_impl_within hC (N := N) h8
  have h10 := callee_impl_isId hC (N := N) h9
  have h11 := callee_impl_GoodCred hC (N := N) h10
  have h12 := callee_impl_isMode hC (N := N) h11
  have h13 := callee_impl_Cred_may hC (N := N) h12
  have h14 := callee_impl_May hC (N := N) h13
  have h15 := callee_spec_l1In hC (N := N) h14
  have h16 := callee_spec_l1Cred hC (N := N) h15
  have h17 := callee_spec_l1Mode hC (N := N) h16
  have h18 := callee_spec_l1May hC (N := N) h17
  have h19 := callee_spec_May hC (N := N) h18
  have h20 := callee_spec_GoodCred hC (N := N) h19
  have h21 := callee_spec_DrawWithMask hC (N := N) h20
  have h22 := callee_impl_WithMask hC (N := N) h21
  have h23 := callee_spec_WithMask hC (N := N) h22
  have h24 := callee_spec_DrawGoodCred hC (N := N) h23
  h24

end Go.VM.VL
