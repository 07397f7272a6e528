/- The functions of the program, told plainly: what each computes, as a function of its letters; and that the machine does the same. Printed by vgen.py, a program of this session's own. -/
import Derived.Test.YteekbhpdalbofaaGreatDoorXF
import Derived.WalkKit
import Derived.Lib.Walk
import Derived.Lib.SliceRun
import Derived.Lib.AppendZerosOnto
import Derived.Test.YteekbhpdalbofaaGreatDoorProg
import Derived.KernelRfl
set_option linter.unusedVariables false
namespace Go.VM.VL
noncomputable section
open Go.Proofs
def rl (t : TypeId) : Bool := [9].any (Nat.beq t)
def mode (f : FuncId) : Mode :=
 match [89, 152, 153, 174].any (Nat.beq f) with
 | true => .shared
 | false => match [88, 155].any (Nat.beq f) with
  | true => .own
  | false => .pure
abbrev C : Cfg := Cfg.of Tryz.prog 9 mode (fun f => [155].any (Nat.beq f))
def f_zch (N : Nat) : (R : Type) → List V → S → (V → S → Option R) → Option R := fun _ vs s K =>
 asN2 vs fun v'1 v'2 => un_laws_Entry v'1 fun w_1 x_2 => asInt .i64 v'2 fun x_3 => asEnd s <| g_zch N w_1 x_2 x_3 (fun x_4 => K (.int .i64 x_4) [])
def Φ_zch (N : Nat) : Callee := (noCallee).add 166 (f_zch N)
def c_zch : Code := bodyOf Tryz.f166
theorem b_zch {R : Type} (N : Nat) (w_1 : ByteArray) (x_2 x_3 : Int) (K : V → S → Option R) : bodyV C (noCallee) (noLooper) 166 Tryz.f166 [.agg [.str w_1, .int .i64 x_2], .int .i64 x_3] [] K =
 gb_zch N w_1 x_2 x_3 (fun x_4 => K (.int .i64 x_4) []) := by kernel_rfl
theorem callee_zch (hC : Ok Tryz.prog C) {N : Nat} (hΦ : CalleeOk Tryz.prog C (noCallee)) : CalleeOk Tryz.prog C (Φ_zch N) := by
 refine hΦ.add_pure rfl fun R vs K r h => ?_
 unfold f_zch at h
 obtain ⟨_, _, rfl, h1⟩ := asN2_some h
 obtain ⟨_, _, rfl, h2⟩ := un_laws_Entry_some h1
 obtain ⟨_, rfl, h3⟩ := asInt_some h2
 obtain ⟨_, h4⟩ := asEnd_some h3
 refine body_pure (fn := Tryz.f166) (c := c_zch) hC hΦ Tryz.func166 (by kernel_rfl) (by kernel_rfl) (loopsOk_nil (Λ := noLooper) (by kernel_rfl)) rfl rfl ?_
 refine (b_zch N _ _ _ _).trans ?_
 rw [← g_zch_eq]
 exact h4
def f_zbu (N : Nat) : (R : Type) → List V → S → (V → S → Option R) → Option R := fun _ vs s K =>
 asN2 vs fun v'1 v'2 => asList 2 v'1 fun e_1 f_2 => asInt .i64 v'2 fun x_3 => asEnd s <| g_zbu N e_1 f_2 x_3 (fun x_4 => K (.int .i64 x_4) [])
def Φ_zbu (N : Nat) : Callee := (Φ_zch N).add 137 (f_zbu N)
def c_zbu : Code := bodyOf Tryz.f137
def b_zbu_0 : Code := (loopNo c_zbu [] 0).2
def ks_zbu_0 : List Nat := butL 27 [0, 1, 5]
def kx_zbu_0 : List Nat := butL 27 [1, 4]
def fr_zbu_0 (e_1 : List V) (f_2 : Fl) (x_3 x_4 : Int) : List V := mkF 0 27 [(0, .list 2 e_1 f_2), (1, .int .i64 x_3), (5, .int .i64 x_4)]
def kk0_zbu_0 {R : Type} (K : X → List V → S → Option R) (e_1 : List V) (f_2 : Fl) : Int → Option R := (fun x_1' => K .ret (mkF 0 27 [(1, .int .i64 (x_1')), (4, .int .i64 (-1))]) [])
def kk1_zbu_0 {R : Type} (K : X → List V → S → Option R) (e_1 : List V) (f_2 : Fl) : Int → Option R := (fun x_1' => K (.exit 0) (mkF 0 27 [(1, .int .i64 (x_1'))]) [])
abbrev it_zbu_0 {R : Type} (N : Nat) : Nat → List V → S → (X → List V → S → Option R) → Option R := fun n => iter C (Φ_zch N) (noLooper) b_zbu_0 [0, 1, 0, 1, 1, 1] false ks_zbu_0 kx_zbu_0 n R
theorem r_zbu_0 {R : Type} (N n : Nat) (e_1 : List V) (f_2 : Fl) (x_3 x_4 : Int) (K : X → List V → S → Option R) :
 it_zbu_0 N (n + 1) (fr_zbu_0 e_1 f_2 x_3 x_4) [] K =
 l_zbu_0_step N e_1 f_2 (fun x_3 x_4 => it_zbu_0 N n (fr_zbu_0 e_1 f_2 x_3 x_4) [] K) x_3 x_4 (kk0_zbu_0 K e_1 f_2) (kk1_zbu_0 K e_1 f_2) := by kernel_rfl
theorem w_zbu_0 {R : Type} (N : Nat) (e_1 : List V) (f_2 : Fl) (K : X → List V → S → Option R) : ∀ (n : Nat) (x_3 x_4 : Int),
 it_zbu_0 N n (fr_zbu_0 e_1 f_2 x_3 x_4) [] K = l_zbu_0 N e_1 f_2 (kk0_zbu_0 K e_1 f_2) (kk1_zbu_0 K e_1 f_2) n x_3 x_4
 | 0, _, _ => rfl
 | n + 1, x_3, x_4 => (r_zbu_0 N n e_1 f_2 x_3 x_4 K).trans (congrArg (fun nx => l_zbu_0_step N e_1 f_2 nx x_3 x_4 (kk0_zbu_0 K e_1 f_2) (kk1_zbu_0 K e_1 f_2)) (funext fun x_3 => funext fun x_4 => w_zbu_0 N e_1 f_2 K n x_3 x_4))
def i_zbu_0 {R : Type} (E : List V) (s : S) (k : List V → Fl → Int → Int → Option R) : Option R :=
 guardB (frameOk 27 [0, 1, 5] E) <| atList E 0 2 fun e_1 f_2 => atInt E 1 .i64 fun x_3 => atInt E 5 .i64 fun x_4 => asEnd s <| k e_1 f_2 x_3 x_4
theorem i_zbu_0_spec {R : Type} {E : List V} {s : S} {k : List V → Fl → Int → Int → Option R} {r : R} (h : i_zbu_0 E s k = some r) : ∃ e_1 f_2 x_3 x_4, E = fr_zbu_0 e_1 f_2 x_3 x_4 ∧ s = [] ∧ k e_1 f_2 x_3 x_4 = some r := by
 unfold i_zbu_0 at h
 obtain ⟨hg, h1⟩ := guardB_some h
 obtain ⟨_, _, hu0, h2⟩ := atList_some h1
 obtain ⟨_, hu1, h3⟩ := atInt_some h2
 obtain ⟨_, hu5, h4⟩ := atInt_some h3
 obtain ⟨rfl, h5⟩ := asEnd_some h4
 exact ⟨_, _, _, _, frame_is hg rfl (slots_cons hu0 (slots_cons hu1 (slots_cons hu5 slots_nil))), rfl, h5⟩
def Λ_zbu_0 (N : Nat) : Looper := (noLooper).add [0, 1, 0, 1, 1, 1] fun _ E s K => i_zbu_0 (killE ks_zbu_0 E) s fun e_1 f_2 x_3 x_4 => l_zbu_0 N e_1 f_2 (kk0_zbu_0 K e_1 f_2) (kk1_zbu_0 K e_1 f_2) N x_3 x_4
theorem ok_zbu_0 {N : Nat} (hC : Ok Tryz.prog C) (hΦ : CalleeOk Tryz.prog C (Φ_zch N)) : LoopOk Tryz.prog C (Λ_zbu_0 N) b_zbu_0 [0, 1, 0, 1, 1, 1] :=
 iter_ok (Λi := noLooper) (tr := false) (ks := ks_zbu_0) (kx := kx_zbu_0) (N := N) hC hΦ
  (loopsOk_nil (by kernel_rfl))
  fun R E s K r h => by
   have h2 := Looper.add_self.symm.trans h
   obtain ⟨_, _, _, _, he, rfl, h3⟩ := i_zbu_0_spec h2
   rw [he]
   exact (w_zbu_0 N _ _ _ N _ _).trans h3
theorem at_zbu : loopsAt c_zbu [] = [([0, 1, 0, 1, 1, 1], b_zbu_0)] := by kernel_rfl
theorem b_zbu {R : Type} (N : Nat) (e_1 : List V) (f_2 : Fl) (x_3 : Int) (K : V → S → Option R) : bodyV C (Φ_zch N) (Λ_zbu_0 N) 137 Tryz.f137 [.list 2 e_1 f_2, .int .i64 x_3] [] K =
 gb_zbu N e_1 f_2 x_3 (fun x_4 => K (.int .i64 x_4) []) := by kernel_rfl
theorem loops_zbu {N : Nat} (hC : Ok Tryz.prog C) (hΦ : CalleeOk Tryz.prog C (Φ_zch N)) : LoopsOk Tryz.prog C (Λ_zbu_0 N) c_zbu [] :=
 loopsOk_of c_zbu [] (by
  rw [at_zbu]
  intro p hp
  simp only [List.mem_cons, List.mem_nil_iff, or_false] at hp
  rcases hp with rfl
  ·exact (ok_zbu_0 hC hΦ))
theorem callee_zbu (hC : Ok Tryz.prog C) {N : Nat} (hΦ : CalleeOk Tryz.prog C (Φ_zch N)) : CalleeOk Tryz.prog C (Φ_zbu N) := by
 refine hΦ.add_pure rfl fun R vs K r h => ?_
 unfold f_zbu at h
 obtain ⟨_, _, rfl, h1⟩ := asN2_some h
 obtain ⟨_, _, rfl, h2⟩ := asList_some h1
 obtain ⟨_, rfl, h3⟩ := asInt_some h2
 obtain ⟨_, h4⟩ := asEnd_some h3
 refine body_pure (fn := Tryz.f137) (c := c_zbu) hC hΦ Tryz.func137 (by kernel_rfl) (by kernel_rfl) (loops_zbu (N := N) hC hΦ) rfl rfl ?_
 refine (b_zbu N _ _ _ _).trans ?_
 rw [← g_zbu_eq]
 exact h4
def f_zdd (N : Nat) : (R : Type) → List V → S → (V → S → Option R) → Option R := fun _ vs s K =>
 asN2 vs fun v'1 v'2 => un_laws_Node v'1 fun x_1 x_2 x_3 x_4 x_5 w_6 e_7 f_8 => asInt .i64 v'2 fun x_9 => asEnd s <| g_zdd N x_1 x_2 x_3 x_4 x_5 w_6 e_7 f_8 x_9 (fun x_10 => K (.int .i64 x_10) [])
def Φ_zdd (N : Nat) : Callee := (Φ_zbu N).add 84 (f_zdd N)
def c_zdd : Code := bodyOf Tryz.f84
theorem b_zdd {R : Type} (N : Nat) (x_1 x_2 x_3 x_4 x_5 : Int) (w_6 : ByteArray) (e_7 : List V) (f_8 : Fl) (x_9 : Int) (K : V → S → Option R) : bodyV C (Φ_zbu N) (noLooper) 84 Tryz.f84 [.agg [.int .i64 x_1, .int .i64 x_2, .int .i64 x_3, .int .i64 x_4, .int .i64 x_5, .str w_6, .list 2 e_7 f_8], .int .i64 x_9] [] K =
 gb_zdd N x_1 x_2 x_3 x_4 x_5 w_6 e_7 f_8 x_9 (fun x_10 => K (.int .i64 x_10) []) := by kernel_rfl
theorem callee_zdd (hC : Ok Tryz.prog C) {N : Nat} (hΦ : CalleeOk Tryz.prog C (Φ_zbu N)) : CalleeOk Tryz.prog C (Φ_zdd N) := by
 refine hΦ.add_pure rfl fun R vs K r h => ?_
 unfold f_zdd at h
 obtain ⟨_, _, rfl, h1⟩ := asN2_some h
 obtain ⟨_, _, _, _, _, _, _, _, rfl, h2⟩ := un_laws_Node_some h1
 obtain ⟨_, rfl, h3⟩ := asInt_some h2
 obtain ⟨_, h4⟩ := asEnd_some h3
 refine body_pure (fn := Tryz.f84) (c := c_zdd) hC hΦ Tryz.func84 (by kernel_rfl) (by kernel_rfl) (loopsOk_nil (Λ := noLooper) (by kernel_rfl)) rfl rfl ?_
 refine (b_zdd N _ _ _ _ _ _ _ _ _ _).trans ?_
 rw [← g_zdd_eq]
 exact h4
def f_zci (N : Nat) : (R : Type) → List V → S → (V → S → Option R) → Option R := fun _ vs s K =>
 asN2 vs fun v'1 v'2 => asList 7 v'1 fun e_1 f_2 => asInt .i64 v'2 fun x_3 => asEnd s <| g_zci N e_1 f_2 x_3 (fun x_4 => K (.int .i64 x_4) [])
def Φ_zci (N : Nat) : Callee := (Φ_zdd N).add 44 (f_zci N)
def c_zci : Code := bodyOf Tryz.f44
def b_zci_0 : Code := (loopNo c_zci [] 0).2
def ks_zci_0 : List Nat := butL 27 [0, 1, 5]
def kx_zci_0 : List Nat := butL 27 [1, 4]
def fr_zci_0 (e_1 : List V) (f_2 : Fl) (x_3 x_4 : Int) : List V := mkF 0 27 [(0, .list 7 e_1 f_2), (1, .int .i64 x_3), (5, .int .i64 x_4)]
def kk0_zci_0 {R : Type} (K : X → List V → S → Option R) (e_1 : List V) (f_2 : Fl) : Int → Option R := (fun x_1' => K .ret (mkF 0 27 [(1, .int .i64 (x_1')), (4, .int .i64 (-1))]) [])
def kk1_zci_0 {R : Type} (K : X → List V → S → Option R) (e_1 : List V) (f_2 : Fl) : Int → Option R := (fun x_1' => K (.exit 0) (mkF 0 27 [(1, .int .i64 (x_1'))]) [])
abbrev it_zci_0 {R : Type} (N : Nat) : Nat → List V → S → (X → List V → S → Option R) → Option R := fun n => iter C (Φ_zdd N) (noLooper) b_zci_0 [0, 1, 0, 1, 1, 1] false ks_zci_0 kx_zci_0 n R
theorem r_zci_0 {R : Type} (N n : Nat) (e_1 : List V) (f_2 : Fl) (x_3 x_4 : Int) (K : X → List V → S → Option R) :
 it_zci_0 N (n + 1) (fr_zci_0 e_1 f_2 x_3 x_4) [] K =
 l_zci_0_step N e_1 f_2 (fun x_3 x_4 => it_zci_0 N n (fr_zci_0 e_1 f_2 x_3 x_4) [] K) x_3 x_4 (kk0_zci_0 K e_1 f_2) (kk1_zci_0 K e_1 f_2) := by kernel_rfl
theorem w_zci_0 {R : Type} (N : Nat) (e_1 : List V) (f_2 : Fl) (K : X → List V → S → Option R) : ∀ (n : Nat) (x_3 x_4 : Int),
 it_zci_0 N n (fr_zci_0 e_1 f_2 x_3 x_4) [] K = l_zci_0 N e_1 f_2 (kk0_zci_0 K e_1 f_2) (kk1_zci_0 K e_1 f_2) n x_3 x_4
 | 0, _, _ => rfl
 | n + 1, x_3, x_4 => (r_zci_0 N n e_1 f_2 x_3 x_4 K).trans (congrArg (fun nx => l_zci_0_step N e_1 f_2 nx x_3 x_4 (kk0_zci_0 K e_1 f_2) (kk1_zci_0 K e_1 f_2)) (funext fun x_3 => funext fun x_4 => w_zci_0 N e_1 f_2 K n x_3 x_4))
def i_zci_0 {R : Type} (E : List V) (s : S) (k : List V → Fl → Int → Int → Option R) : Option R :=
 guardB (frameOk 27 [0, 1, 5] E) <| atList E 0 7 fun e_1 f_2 => atInt E 1 .i64 fun x_3 => atInt E 5 .i64 fun x_4 => asEnd s <| k e_1 f_2 x_3 x_4
theorem i_zci_0_spec {R : Type} {E : List V} {s : S} {k : List V → Fl → Int → Int → Option R} {r : R} (h : i_zci_0 E s k = some r) : ∃ e_1 f_2 x_3 x_4, E = fr_zci_0 e_1 f_2 x_3 x_4 ∧ s = [] ∧ k e_1 f_2 x_3 x_4 = some r := by
 unfold i_zci_0 at h
 obtain ⟨hg, h1⟩ := guardB_some h
 obtain ⟨_, _, hu0, h2⟩ := atList_some h1
 obtain ⟨_, hu1, h3⟩ := atInt_some h2
 obtain ⟨_, hu5, h4⟩ := atInt_some h3
 obtain ⟨rfl, h5⟩ := asEnd_some h4
 exact ⟨_, _, _, _, frame_is hg rfl (slots_cons hu0 (slots_cons hu1 (slots_cons hu5 slots_nil))), rfl, h5⟩
def Λ_zci_0 (N : Nat) : Looper := (noLooper).add [0, 1, 0, 1, 1, 1] fun _ E s K => i_zci_0 (killE ks_zci_0 E) s fun e_1 f_2 x_3 x_4 => l_zci_0 N e_1 f_2 (kk0_zci_0 K e_1 f_2) (kk1_zci_0 K e_1 f_2) N x_3 x_4
theorem ok_zci_0 {N : Nat} (hC : Ok Tryz.prog C) (hΦ : CalleeOk Tryz.prog C (Φ_zdd N)) : LoopOk Tryz.prog C (Λ_zci_0 N) b_zci_0 [0, 1, 0, 1, 1, 1] :=
 iter_ok (Λi := noLooper) (tr := false) (ks := ks_zci_0) (kx := kx_zci_0) (N := N) hC hΦ
  (loopsOk_nil (by kernel_rfl))
  fun R E s K r h => by
   have h2 := Looper.add_self.symm.trans h
   obtain ⟨_, _, _, _, he, rfl, h3⟩ := i_zci_0_spec h2
   rw [he]
   exact (w_zci_0 N _ _ _ N _ _).trans h3
theorem at_zci : loopsAt c_zci [] = [([0, 1, 0, 1, 1, 1], b_zci_0)] := by kernel_rfl
theorem b_zci {R : Type} (N : Nat) (e_1 : List V) (f_2 : Fl) (x_3 : Int) (K : V → S → Option R) : bodyV C (Φ_zdd N) (Λ_zci_0 N) 44 Tryz.f44 [.list 7 e_1 f_2, .int .i64 x_3] [] K =
 gb_zci N e_1 f_2 x_3 (fun x_4 => K (.int .i64 x_4) []) := by kernel_rfl
theorem loops_zci {N : Nat} (hC : Ok Tryz.prog C) (hΦ : CalleeOk Tryz.prog C (Φ_zdd N)) : LoopsOk Tryz.prog C (Λ_zci_0 N) c_zci [] :=
 loopsOk_of c_zci [] (by
  rw [at_zci]
  intro p hp
  simp only [List.mem_cons, List.mem_nil_iff, or_false] at hp
  rcases hp with rfl
  ·exact (ok_zci_0 hC hΦ))
theorem callee_zci (hC : Ok Tryz.prog C) {N : Nat} (hΦ : CalleeOk Tryz.prog C (Φ_zdd N)) : CalleeOk Tryz.prog C (Φ_zci N) := by
 refine hΦ.add_pure rfl fun R vs K r h => ?_
 unfold f_zci at h
 obtain ⟨_, _, rfl, h1⟩ := asN2_some h
 obtain ⟨_, _, rfl, h2⟩ := asList_some h1
 obtain ⟨_, rfl, h3⟩ := asInt_some h2
 obtain ⟨_, h4⟩ := asEnd_some h3
 refine body_pure (fn := Tryz.f44) (c := c_zci) hC hΦ Tryz.func44 (by kernel_rfl) (by kernel_rfl) (loops_zci (N := N) hC hΦ) rfl rfl ?_
 refine (b_zci N _ _ _ _).trans ?_
 rw [← g_zci_eq]
 exact h4
def f_zdv (N : Nat) : (R : Type) → List V → S → (V → S → Option R) → Option R := fun _ vs s K =>
 asN2 vs fun v'1 v'2 => un_laws_Fs v'1 fun e_1 f_2 x_3 => asInt .i64 v'2 fun x_4 => asEnd s <| g_zdv N e_1 f_2 x_3 x_4 (fun x_5 => K (.int .i64 x_5) [])
def Φ_zdv (N : Nat) : Callee := (Φ_zci N).add 11 (f_zdv N)
def c_zdv : Code := bodyOf Tryz.f11
theorem b_zdv {R : Type} (N : Nat) (e_1 : List V) (f_2 : Fl) (x_3 x_4 : Int) (K : V → S → Option R) : bodyV C (Φ_zci N) (noLooper) 11 Tryz.f11 [.agg [.list 7 e_1 f_2, .int .i64 x_3], .int .i64 x_4] [] K =
 gb_zdv N e_1 f_2 x_3 x_4 (fun x_5 => K (.int .i64 x_5) []) := by kernel_rfl
theorem callee_zdv (hC : Ok Tryz.prog C) {N : Nat} (hΦ : CalleeOk Tryz.prog C (Φ_zci N)) : CalleeOk Tryz.prog C (Φ_zdv N) := by
 refine hΦ.add_pure rfl fun R vs K r h => ?_
 unfold f_zdv at h
 obtain ⟨_, _, rfl, h1⟩ := asN2_some h
 obtain ⟨_, _, _, rfl, h2⟩ := un_laws_Fs_some h1
 obtain ⟨_, rfl, h3⟩ := asInt_some h2
 obtain ⟨_, h4⟩ := asEnd_some h3
 refine body_pure (fn := Tryz.f11) (c := c_zdv) hC hΦ Tryz.func11 (by kernel_rfl) (by kernel_rfl) (loopsOk_nil (Λ := noLooper) (by kernel_rfl)) rfl rfl ?_
 refine (b_zdv N _ _ _ _ _).trans ?_
 rw [← g_zdv_eq]
 exact h4
def f_zcj (N : Nat) : (R : Type) → List V → S → (V → S → Option R) → Option R := fun _ vs s K =>
 asN1 vs fun v'1 => un_laws_Entry v'1 fun w_1 x_2 => asEnd s <| g_zcj N w_1 x_2 (fun w_3 x_4 => K (.agg [.str w_3, .int .i64 x_4]) [])
def Φ_zcj (N : Nat) : Callee := (Φ_zdv N).add 168 (f_zcj N)
def c_zcj : Code := bodyOf Tryz.f168
theorem b_zcj {R : Type} (N : Nat) (w_1 : ByteArray) (x_2 : Int) (K : V → S → Option R) : bodyV C (Φ_zdv N) (noLooper) 168 Tryz.f168 [.agg [.str w_1, .int .i64 x_2]] [] K =
 gb_zcj N w_1 x_2 (fun w_3 x_4 => K (.agg [.str w_3, .int .i64 x_4]) []) := by kernel_rfl
theorem callee_zcj (hC : Ok Tryz.prog C) {N : Nat} (hΦ : CalleeOk Tryz.prog C (Φ_zdv N)) : CalleeOk Tryz.prog C (Φ_zcj N) := by
 refine hΦ.add_pure rfl fun R vs K r h => ?_
 unfold f_zcj at h
 obtain ⟨_, rfl, h1⟩ := asN1_some h
 obtain ⟨_, _, rfl, h2⟩ := un_laws_Entry_some h1
 obtain ⟨_, h3⟩ := asEnd_some h2
 refine body_pure (fn := Tryz.f168) (c := c_zcj) hC hΦ Tryz.func168 (by kernel_rfl) (by kernel_rfl) (loopsOk_nil (Λ := noLooper) (by kernel_rfl)) rfl rfl ?_
 refine (b_zcj N _ _ _).trans ?_
 rw [← g_zcj_eq]
 exact h3
def f_zbv (N : Nat) : (R : Type) → List V → S → (V → S → Option R) → Option R := fun _ vs s K =>
 asN1 vs fun v'1 => asList 2 v'1 fun e_1 f_2 => asEnd s <| g_zbv N e_1 f_2 (fun e_3 => K (.list 2 e_3 .sh) [])
def Φ_zbv (N : Nat) : Callee := (Φ_zcj N).add 144 (f_zbv N)
def c_zbv : Code := bodyOf Tryz.f144
def b_zbv_0 : Code := (loopNo c_zbv [] 0).2
def ks_zbv_0 : List Nat := butL 23 [0, 3, 4]
def kx_zbv_0 : List Nat := butL 23 [3]
def fr_zbv_0 (e_1 : List V) (f_2 : Fl) (k_3 : Nat) (x_4 : Int) (e_5 : List V) : List V := mkF 0 23 [(0, .list 2 e_1 f_2), (3, .arr 0 0 0 k_3), (4, .int .i64 x_4)]
def kk0_zbv_0 {R : Type} (K : X → List V → S → Option R) (e_1 : List V) (f_2 : Fl) (k_3 : Nat) : List V → Option R := (fun e_1' => K (.exit 0) (mkF 0 23 [(3, .arr 0 0 0 k_3)]) [some ⟨e_1', 2, 89, 0⟩])
abbrev it_zbv_0 {R : Type} (N : Nat) : Nat → List V → S → (X → List V → S → Option R) → Option R := fun n => iter C (Φ_zcj N) (noLooper) b_zbv_0 [0, 1, 0, 1, 1] false ks_zbv_0 kx_zbv_0 n R
theorem r_zbv_0 {R : Type} (N n : Nat) (e_1 : List V) (f_2 : Fl) (k_3 : Nat) (x_4 : Int) (e_5 : List V) (K : X → List V → S → Option R) :
 it_zbv_0 N (n + 1) (fr_zbv_0 e_1 f_2 k_3 x_4 e_5) [some ⟨e_5, 2, 89, 0⟩] K =
 l_zbv_0_step N e_1 f_2 k_3 (fun x_4 e_5 => it_zbv_0 N n (fr_zbv_0 e_1 f_2 k_3 x_4 e_5) [some ⟨e_5, 2, 89, 0⟩] K) x_4 e_5 (kk0_zbv_0 K e_1 f_2 k_3) := by kernel_rfl
theorem w_zbv_0 {R : Type} (N : Nat) (e_1 : List V) (f_2 : Fl) (k_3 : Nat) (K : X → List V → S → Option R) : ∀ (n : Nat) (x_4 : Int) (e_5 : List V),
 it_zbv_0 N n (fr_zbv_0 e_1 f_2 k_3 x_4 e_5) [some ⟨e_5, 2, 89, 0⟩] K = l_zbv_0 N e_1 f_2 k_3 (kk0_zbv_0 K e_1 f_2 k_3) n x_4 e_5
 | 0, _, _ => rfl
 | n + 1, x_4, e_5 => (r_zbv_0 N n e_1 f_2 k_3 x_4 e_5 K).trans (congrArg (fun nx => l_zbv_0_step N e_1 f_2 k_3 nx x_4 e_5 (kk0_zbv_0 K e_1 f_2 k_3)) (funext fun x_4 => funext fun e_5 => w_zbv_0 N e_1 f_2 k_3 K n x_4 e_5))
def i_zbv_0 {R : Type} (E : List V) (s : S) (k : List V → Fl → Nat → Int → List V → Option R) : Option R :=
 guardB (frameOk 23 [0, 3, 4] E) <| atList E 0 2 fun e_1 f_2 => must (nth E 3) fun u3 => asArr u3 fun k'1 k'2 k'3 k_3 => isN k'1 0 <| isN k'2 0 <| isN k'3 0 <| atInt E 4 .i64 fun x_4 => asOb s fun o'4 s'5 => obIs o'4 2 89 fun e_5 k'6 => isN k'6 0 <| asEnd s'5 <| k e_1 f_2 k_3 x_4 e_5
theorem i_zbv_0_spec {R : Type} {E : List V} {s : S} {k : List V → Fl → Nat → Int → List V → Option R} {r : R} (h : i_zbv_0 E s k = some r) : ∃ e_1 f_2 k_3 x_4 e_5, E = fr_zbv_0 e_1 f_2 k_3 x_4 e_5 ∧ s = [some ⟨e_5, 2, 89, 0⟩] ∧ k e_1 f_2 k_3 x_4 e_5 = some r := by
 unfold i_zbv_0 at h
 obtain ⟨hg, h1⟩ := guardB_some h
 obtain ⟨_, _, hu0, h2⟩ := atList_some h1
 obtain ⟨_, hu3, h3⟩ := must_some h2
 obtain ⟨_, _, _, _, rfl, h4⟩ := asArr_some h3
 obtain ⟨rfl, h5⟩ := isN_some h4
 obtain ⟨rfl, h6⟩ := isN_some h5
 obtain ⟨rfl, h7⟩ := isN_some h6
 obtain ⟨_, hu4, h8⟩ := atInt_some h7
 obtain ⟨_, _, rfl, h9⟩ := asOb_some h8
 obtain ⟨_, _, rfl, h10⟩ := obIs_some h9
 obtain ⟨rfl, h11⟩ := isN_some h10
 obtain ⟨rfl, h12⟩ := asEnd_some h11
 exact ⟨_, _, _, _, _, frame_is hg rfl (slots_cons hu0 (slots_cons hu3 (slots_cons hu4 slots_nil))), rfl, h12⟩
def Λ_zbv_0 (N : Nat) : Looper := (noLooper).add [0, 1, 0, 1, 1] fun _ E s K => i_zbv_0 (killE ks_zbv_0 E) s fun e_1 f_2 k_3 x_4 e_5 => l_zbv_0 N e_1 f_2 k_3 (kk0_zbv_0 K e_1 f_2 k_3) N x_4 e_5
theorem ok_zbv_0 {N : Nat} (hC : Ok Tryz.prog C) (hΦ : CalleeOk Tryz.prog C (Φ_zcj N)) : LoopOk Tryz.prog C (Λ_zbv_0 N) b_zbv_0 [0, 1, 0, 1, 1] :=
 iter_ok (Λi := noLooper) (tr := false) (ks := ks_zbv_0) (kx := kx_zbv_0) (N := N) hC hΦ
  (loopsOk_nil (by kernel_rfl))
  fun R E s K r h => by
   have h2 := Looper.add_self.symm.trans h
   obtain ⟨_, _, _, _, _, he, rfl, h3⟩ := i_zbv_0_spec h2
   rw [he]
   exact (w_zbv_0 N _ _ _ _ N _ _).trans h3
theorem at_zbv : loopsAt c_zbv [] = [([0, 1, 0, 1, 1], b_zbv_0)] := by kernel_rfl
theorem b_zbv {R : Type} (N : Nat) (e_1 : List V) (f_2 : Fl) (K : V → S → Option R) : bodyV C (Φ_zcj N) (Λ_zbv_0 N) 144 Tryz.f144 [.list 2 e_1 f_2] [] K =
 gb_zbv N e_1 f_2 (fun e_3 => K (.list 2 e_3 .sh) []) := by kernel_rfl
theorem loops_zbv {N : Nat} (hC : Ok Tryz.prog C) (hΦ : CalleeOk Tryz.prog C (Φ_zcj N)) : LoopsOk Tryz.prog C (Λ_zbv_0 N) c_zbv [] :=
 loopsOk_of c_zbv [] (by
  rw [at_zbv]
  intro p hp
  simp only [List.mem_cons, List.mem_nil_iff, or_false] at hp
  rcases hp with rfl
  ·exact (ok_zbv_0 hC hΦ))
theorem callee_zbv (hC : Ok Tryz.prog C) {N : Nat} (hΦ : CalleeOk Tryz.prog C (Φ_zcj N)) : CalleeOk Tryz.prog C (Φ_zbv N) := by
 refine hΦ.add_pure rfl fun R vs K r h => ?_
 unfold f_zbv at h
 obtain ⟨_, rfl, h1⟩ := asN1_some h
 obtain ⟨_, _, rfl, h2⟩ := asList_some h1
 obtain ⟨_, h3⟩ := asEnd_some h2
 refine body_pure (fn := Tryz.f144) (c := c_zbv) hC hΦ Tryz.func144 (by kernel_rfl) (by kernel_rfl) (loops_zbv (N := N) hC hΦ) rfl rfl ?_
 refine (b_zbv N _ _ _).trans ?_
 rw [← g_zbv_eq]
 exact h3
def f_zdf (N : Nat) : (R : Type) → List V → S → (V → S → Option R) → Option R := fun _ vs s K =>
 asN1 vs fun v'1 => un_laws_Node v'1 fun x_1 x_2 x_3 x_4 x_5 w_6 e_7 f_8 => asEnd s <| g_zdf N x_1 x_2 x_3 x_4 x_5 w_6 e_7 f_8 (fun x_9 x_10 x_11 x_12 x_13 w_14 e_15 => K (.agg [.int .i64 x_9, .int .i64 x_10, .int .i64 x_11, .int .i64 x_12, .int .i64 x_13, .str w_14, .list 2 e_15 .sh]) [])
def Φ_zdf (N : Nat) : Callee := (Φ_zbv N).add 93 (f_zdf N)
def c_zdf : Code := bodyOf Tryz.f93
theorem b_zdf {R : Type} (N : Nat) (x_1 x_2 x_3 x_4 x_5 : Int) (w_6 : ByteArray) (e_7 : List V) (f_8 : Fl) (K : V → S → Option R) : bodyV C (Φ_zbv N) (noLooper) 93 Tryz.f93 [.agg [.int .i64 x_1, .int .i64 x_2, .int .i64 x_3, .int .i64 x_4, .int .i64 x_5, .str w_6, .list 2 e_7 f_8]] [] K =
 gb_zdf N x_1 x_2 x_3 x_4 x_5 w_6 e_7 f_8 (fun x_9 x_10 x_11 x_12 x_13 w_14 e_15 => K (.agg [.int .i64 x_9, .int .i64 x_10, .int .i64 x_11, .int .i64 x_12, .int .i64 x_13, .str w_14, .list 2 e_15 .sh]) []) := by kernel_rfl
theorem callee_zdf (hC : Ok Tryz.prog C) {N : Nat} (hΦ : CalleeOk Tryz.prog C (Φ_zbv N)) : CalleeOk Tryz.prog C (Φ_zdf N) := by
 refine hΦ.add_pure rfl fun R vs K r h => ?_
 unfold f_zdf at h
 obtain ⟨_, rfl, h1⟩ := asN1_some h
 obtain ⟨_, _, _, _, _, _, _, _, rfl, h2⟩ := un_laws_Node_some h1
 obtain ⟨_, h3⟩ := asEnd_some h2
 refine body_pure (fn := Tryz.f93) (c := c_zdf) hC hΦ Tryz.func93 (by kernel_rfl) (by kernel_rfl) (loopsOk_nil (Λ := noLooper) (by kernel_rfl)) rfl rfl ?_
 refine (b_zdf N _ _ _ _ _ _ _ _ _).trans ?_
 rw [← g_zdf_eq]
 exact h3
def f_zck (N : Nat) : (R : Type) → List V → S → (V → S → Option R) → Option R := fun _ vs s K =>
 asN1 vs fun v'1 => asList 7 v'1 fun e_1 f_2 => asEnd s <| g_zck N e_1 f_2 (fun e_3 => K (.list 7 e_3 .sh) [])
def Φ_zck (N : Nat) : Callee := (Φ_zdf N).add 48 (f_zck N)
def c_zck : Code := bodyOf Tryz.f48
def b_zck_0 : Code := (loopNo c_zck [] 0).2
def ks_zck_0 : List Nat := butL 23 [0, 3, 4]
def kx_zck_0 : List Nat := butL 23 [3]
def fr_zck_0 (e_1 : List V) (f_2 : Fl) (k_3 : Nat) (x_4 : Int) (e_5 : List V) : List V := mkF 0 23 [(0, .list 7 e_1 f_2), (3, .arr 0 0 0 k_3), (4, .int .i64 x_4)]
def kk0_zck_0 {R : Type} (K : X → List V → S → Option R) (e_1 : List V) (f_2 : Fl) (k_3 : Nat) : List V → Option R := (fun e_1' => K (.exit 0) (mkF 0 23 [(3, .arr 0 0 0 k_3)]) [some ⟨e_1', 7, 87, 0⟩])
abbrev it_zck_0 {R : Type} (N : Nat) : Nat → List V → S → (X → List V → S → Option R) → Option R := fun n => iter C (Φ_zdf N) (noLooper) b_zck_0 [0, 1, 0, 1, 1] false ks_zck_0 kx_zck_0 n R
theorem r_zck_0 {R : Type} (N n : Nat) (e_1 : List V) (f_2 : Fl) (k_3 : Nat) (x_4 : Int) (e_5 : List V) (K : X → List V → S → Option R) :
 it_zck_0 N (n + 1) (fr_zck_0 e_1 f_2 k_3 x_4 e_5) [some ⟨e_5, 7, 87, 0⟩] K =
 l_zck_0_step N e_1 f_2 k_3 (fun x_4 e_5 => it_zck_0 N n (fr_zck_0 e_1 f_2 k_3 x_4 e_5) [some ⟨e_5, 7, 87, 0⟩] K) x_4 e_5 (kk0_zck_0 K e_1 f_2 k_3) := by kernel_rfl
theorem w_zck_0 {R : Type} (N : Nat) (e_1 : List V) (f_2 : Fl) (k_3 : Nat) (K : X → List V → S → Option R) : ∀ (n : Nat) (x_4 : Int) (e_5 : List V),
 it_zck_0 N n (fr_zck_0 e_1 f_2 k_3 x_4 e_5) [some ⟨e_5, 7, 87, 0⟩] K = l_zck_0 N e_1 f_2 k_3 (kk0_zck_0 K e_1 f_2 k_3) n x_4 e_5
 | 0, _, _ => rfl
 | n + 1, x_4, e_5 => (r_zck_0 N n e_1 f_2 k_3 x_4 e_5 K).trans (congrArg (fun nx => l_zck_0_step N e_1 f_2 k_3 nx x_4 e_5 (kk0_zck_0 K e_1 f_2 k_3)) (funext fun x_4 => funext fun e_5 => w_zck_0 N e_1 f_2 k_3 K n x_4 e_5))
def i_zck_0 {R : Type} (E : List V) (s : S) (k : List V → Fl → Nat → Int → List V → Option R) : Option R :=
 guardB (frameOk 23 [0, 3, 4] E) <| atList E 0 7 fun e_1 f_2 => must (nth E 3) fun u3 => asArr u3 fun k'1 k'2 k'3 k_3 => isN k'1 0 <| isN k'2 0 <| isN k'3 0 <| atInt E 4 .i64 fun x_4 => asOb s fun o'4 s'5 => obIs o'4 7 87 fun e_5 k'6 => isN k'6 0 <| asEnd s'5 <| k e_1 f_2 k_3 x_4 e_5
theorem i_zck_0_spec {R : Type} {E : List V} {s : S} {k : List V → Fl → Nat → Int → List V → Option R} {r : R} (h : i_zck_0 E s k = some r) : ∃ e_1 f_2 k_3 x_4 e_5, E = fr_zck_0 e_1 f_2 k_3 x_4 e_5 ∧ s = [some ⟨e_5, 7, 87, 0⟩] ∧ k e_1 f_2 k_3 x_4 e_5 = some r := by
 unfold i_zck_0 at h
 obtain ⟨hg, h1⟩ := guardB_some h
 obtain ⟨_, _, hu0, h2⟩ := atList_some h1
 obtain ⟨_, hu3, h3⟩ := must_some h2
 obtain ⟨_, _, _, _, rfl, h4⟩ := asArr_some h3
 obtain ⟨rfl, h5⟩ := isN_some h4
 obtain ⟨rfl, h6⟩ := isN_some h5
 obtain ⟨rfl, h7⟩ := isN_some h6
 obtain ⟨_, hu4, h8⟩ := atInt_some h7
 obtain ⟨_, _, rfl, h9⟩ := asOb_some h8
 obtain ⟨_, _, rfl, h10⟩ := obIs_some h9
 obtain ⟨rfl, h11⟩ := isN_some h10
 obtain ⟨rfl, h12⟩ := asEnd_some h11
 exact ⟨_, _, _, _, _, frame_is hg rfl (slots_cons hu0 (slots_cons hu3 (slots_cons hu4 slots_nil))), rfl, h12⟩
def Λ_zck_0 (N : Nat) : Looper := (noLooper).add [0, 1, 0, 1, 1] fun _ E s K => i_zck_0 (killE ks_zck_0 E) s fun e_1 f_2 k_3 x_4 e_5 => l_zck_0 N e_1 f_2 k_3 (kk0_zck_0 K e_1 f_2 k_3) N x_4 e_5
theorem ok_zck_0 {N : Nat} (hC : Ok Tryz.prog C) (hΦ : CalleeOk Tryz.prog C (Φ_zdf N)) : LoopOk Tryz.prog C (Λ_zck_0 N) b_zck_0 [0, 1, 0, 1, 1] :=
 iter_ok (Λi := noLooper) (tr := false) (ks := ks_zck_0) (kx := kx_zck_0) (N := N) hC hΦ
  (loopsOk_nil (by kernel_rfl))
  fun R E s K r h => by
   have h2 := Looper.add_self.symm.trans h
   obtain ⟨_, _, _, _, _, he, rfl, h3⟩ := i_zck_0_spec h2
   rw [he]
   exact (w_zck_0 N _ _ _ _ N _ _).trans h3
theorem at_zck : loopsAt c_zck [] = [([0, 1, 0, 1, 1], b_zck_0)] := by kernel_rfl
theorem b_zck {R : Type} (N : Nat) (e_1 : List V) (f_2 : Fl) (K : V → S → Option R) : bodyV C (Φ_zdf N) (Λ_zck_0 N) 48 Tryz.f48 [.list 7 e_1 f_2] [] K =
 gb_zck N e_1 f_2 (fun e_3 => K (.list 7 e_3 .sh) []) := by kernel_rfl
theorem loops_zck {N : Nat} (hC : Ok Tryz.prog C) (hΦ : CalleeOk Tryz.prog C (Φ_zdf N)) : LoopsOk Tryz.prog C (Λ_zck_0 N) c_zck [] :=
 loopsOk_of c_zck [] (by
  rw [at_zck]
  intro p hp
  simp only [List.mem_cons, List.mem_nil_iff, or_false] at hp
  rcases hp with rfl
  ·exact (ok_zck_0 hC hΦ))
theorem callee_zck (hC : Ok Tryz.prog C) {N : Nat} (hΦ : CalleeOk Tryz.prog C (Φ_zdf N)) : CalleeOk Tryz.prog C (Φ_zck N) := by
 refine hΦ.add_pure rfl fun R vs K r h => ?_
 unfold f_zck at h
 obtain ⟨_, rfl, h1⟩ := asN1_some h
 obtain ⟨_, _, rfl, h2⟩ := asList_some h1
 obtain ⟨_, h3⟩ := asEnd_some h2
 refine body_pure (fn := Tryz.f48) (c := c_zck) hC hΦ Tryz.func48 (by kernel_rfl) (by kernel_rfl) (loops_zck (N := N) hC hΦ) rfl rfl ?_
 refine (b_zck N _ _ _).trans ?_
 rw [← g_zck_eq]
 exact h3
def f_zdw (N : Nat) : (R : Type) → List V → S → (V → S → Option R) → Option R := fun _ vs s K =>
 asN1 vs fun v'1 => un_laws_Fs v'1 fun e_1 f_2 x_3 => asEnd s <| g_zdw N e_1 f_2 x_3 (fun e_4 x_5 => K (.agg [.list 7 e_4 .sh, .int .i64 x_5]) [])
def Φ_zdw (N : Nat) : Callee := (Φ_zck N).add 14 (f_zdw N)
def c_zdw : Code := bodyOf Tryz.f14
theorem b_zdw {R : Type} (N : Nat) (e_1 : List V) (f_2 : Fl) (x_3 : Int) (K : V → S → Option R) : bodyV C (Φ_zck N) (noLooper) 14 Tryz.f14 [.agg [.list 7 e_1 f_2, .int .i64 x_3]] [] K =
 gb_zdw N e_1 f_2 x_3 (fun e_4 x_5 => K (.agg [.list 7 e_4 .sh, .int .i64 x_5]) []) := by kernel_rfl
theorem callee_zdw (hC : Ok Tryz.prog C) {N : Nat} (hΦ : CalleeOk Tryz.prog C (Φ_zck N)) : CalleeOk Tryz.prog C (Φ_zdw N) := by
 refine hΦ.add_pure rfl fun R vs K r h => ?_
 unfold f_zdw at h
 obtain ⟨_, rfl, h1⟩ := asN1_some h
 obtain ⟨_, _, _, rfl, h2⟩ := un_laws_Fs_some h1
 obtain ⟨_, h3⟩ := asEnd_some h2
 refine body_pure (fn := Tryz.f14) (c := c_zdw) hC hΦ Tryz.func14 (by kernel_rfl) (by kernel_rfl) (loopsOk_nil (Λ := noLooper) (by kernel_rfl)) rfl rfl ?_
 refine (b_zdw N _ _ _ _).trans ?_
 rw [← g_zdw_eq]
 exact h3
def f_zde (N : Nat) : (R : Type) → List V → S → (V → S → Option R) → Option R := fun _ vs s K =>
 asN1 vs fun v'1 => un_laws_Cred v'1 fun x_1 x_2 => asEnd s <| g_zde N x_1 x_2 (fun x_3 x_4 => K (.agg [.int .i64 x_3, .int .i64 x_4]) [])
def Φ_zde (N : Nat) : Callee := (Φ_zdw N).add 15 (f_zde N)
def c_zde : Code := bodyOf Tryz.f15
theorem b_zde {R : Type} (N : Nat) (x_1 x_2 : Int) (K : V → S → Option R) : bodyV C (Φ_zdw N) (noLooper) 15 Tryz.f15 [.agg [.int .i64 x_1, .int .i64 x_2]] [] K =
 gb_zde N x_1 x_2 (fun x_3 x_4 => K (.agg [.int .i64 x_3, .int .i64 x_4]) []) := by kernel_rfl
theorem callee_zde (hC : Ok Tryz.prog C) {N : Nat} (hΦ : CalleeOk Tryz.prog C (Φ_zdw N)) : CalleeOk Tryz.prog C (Φ_zde N) := by
 refine hΦ.add_pure rfl fun R vs K r h => ?_
 unfold f_zde at h
 obtain ⟨_, rfl, h1⟩ := asN1_some h
 obtain ⟨_, _, rfl, h2⟩ := un_laws_Cred_some h1
 obtain ⟨_, h3⟩ := asEnd_some h2
 refine body_pure (fn := Tryz.f15) (c := c_zde) hC hΦ Tryz.func15 (by kernel_rfl) (by kernel_rfl) (loopsOk_nil (Λ := noLooper) (by kernel_rfl)) rfl rfl ?_
 refine (b_zde N _ _ _).trans ?_
 rw [← g_zde_eq]
 exact h3
def f_zcf (N : Nat) : (R : Type) → List V → S → (V → S → Option R) → Option R := fun _ vs s K =>
 asN2 vs fun v'1 v'2 => un_impl_Entry v'1 fun w_1 x_2 => un_impl_Entry v'2 fun w_3 x_4 => asEnd s <| g_zcf N w_1 x_2 w_3 x_4 (fun b_5 => K (.bool b_5) [])
def Φ_zcf (N : Nat) : Callee := (Φ_zde N).add 175 (f_zcf N)
def c_zcf : Code := bodyOf Tryz.f175
theorem b_zcf {R : Type} (N : Nat) (w_1 : ByteArray) (x_2 : Int) (w_3 : ByteArray) (x_4 : Int) (K : V → S → Option R) : bodyV C (Φ_zde N) (noLooper) 175 Tryz.f175 [.agg [.str w_1, .int .i64 x_2], .agg [.str w_3, .int .i64 x_4]] [] K =
 gb_zcf N w_1 x_2 w_3 x_4 (fun b_5 => K (.bool b_5) []) := by kernel_rfl
theorem callee_zcf (hC : Ok Tryz.prog C) {N : Nat} (hΦ : CalleeOk Tryz.prog C (Φ_zde N)) : CalleeOk Tryz.prog C (Φ_zcf N) := by
 refine hΦ.add_pure rfl fun R vs K r h => ?_
 unfold f_zcf at h
 obtain ⟨_, _, rfl, h1⟩ := asN2_some h
 obtain ⟨_, _, rfl, h2⟩ := un_impl_Entry_some h1
 obtain ⟨_, _, rfl, h3⟩ := un_impl_Entry_some h2
 obtain ⟨_, h4⟩ := asEnd_some h3
 refine body_pure (fn := Tryz.f175) (c := c_zcf) hC hΦ Tryz.func175 (by kernel_rfl) (by kernel_rfl) (loopsOk_nil (Λ := noLooper) (by kernel_rfl)) rfl rfl ?_
 refine (b_zcf N _ _ _ _ _).trans ?_
 rw [← g_zcf_eq]
 exact h4
def f_zbt (N : Nat) : (R : Type) → List V → S → (V → S → Option R) → Option R := fun _ vs s K =>
 asN2 vs fun v'1 v'2 => asList 2 v'1 fun e_1 f_2 => asList 2 v'2 fun e_3 f_4 => asEnd s <| g_zbt N e_1 f_2 e_3 f_4 (fun b_5 => K (.bool b_5) [])
def Φ_zbt (N : Nat) : Callee := (Φ_zcf N).add 156 (f_zbt N)
def c_zbt : Code := bodyOf Tryz.f156
def b_zbt_0 : Code := (loopNo c_zbt [] 0).2
def ks_zbt_0 : List Nat := butL 27 [0, 1, 5]
def kx_zbt_0 : List Nat := butL 27 [4]
def fr_zbt_0 (e_1 : List V) (f_2 : Fl) (e_3 : List V) (f_4 : Fl) (x_5 : Int) : List V := mkF 0 27 [(0, .list 2 e_1 f_2), (1, .list 2 e_3 f_4), (5, .int .i64 x_5)]
def kk0_zbt_0 {R : Type} (K : X → List V → S → Option R) (e_1 : List V) (f_2 : Fl) (e_3 : List V) (f_4 : Fl) : Unit → Option R := (fun _ => K .ret (mkF 0 27 [(4, .bool false)]) [])
def kk1_zbt_0 {R : Type} (K : X → List V → S → Option R) (e_1 : List V) (f_2 : Fl) (e_3 : List V) (f_4 : Fl) : Unit → Option R := (fun _ => K (.exit 0) (mkF 0 27 []) [])
abbrev it_zbt_0 {R : Type} (N : Nat) : Nat → List V → S → (X → List V → S → Option R) → Option R := fun n => iter C (Φ_zcf N) (noLooper) b_zbt_0 [0, 1, 0, 1, 1] false ks_zbt_0 kx_zbt_0 n R
theorem r_zbt_0 {R : Type} (N n : Nat) (e_1 : List V) (f_2 : Fl) (e_3 : List V) (f_4 : Fl) (x_5 : Int) (K : X → List V → S → Option R) :
 it_zbt_0 N (n + 1) (fr_zbt_0 e_1 f_2 e_3 f_4 x_5) [] K =
 l_zbt_0_step N e_1 f_2 e_3 f_4 (fun x_5 => it_zbt_0 N n (fr_zbt_0 e_1 f_2 e_3 f_4 x_5) [] K) x_5 (kk0_zbt_0 K e_1 f_2 e_3 f_4) (kk1_zbt_0 K e_1 f_2 e_3 f_4) := by kernel_rfl
theorem w_zbt_0 {R : Type} (N : Nat) (e_1 : List V) (f_2 : Fl) (e_3 : List V) (f_4 : Fl) (K : X → List V → S → Option R) : ∀ (n : Nat) (x_5 : Int),
 it_zbt_0 N n (fr_zbt_0 e_1 f_2 e_3 f_4 x_5) [] K = l_zbt_0 N e_1 f_2 e_3 f_4 (kk0_zbt_0 K e_1 f_2 e_3 f_4) (kk1_zbt_0 K e_1 f_2 e_3 f_4) n x_5
 | 0, _ => rfl
 | n + 1, x_5 => (r_zbt_0 N n e_1 f_2 e_3 f_4 x_5 K).trans (congrArg (fun nx => l_zbt_0_step N e_1 f_2 e_3 f_4 nx x_5 (kk0_zbt_0 K e_1 f_2 e_3 f_4) (kk1_zbt_0 K e_1 f_2 e_3 f_4)) (funext fun x_5 => w_zbt_0 N e_1 f_2 e_3 f_4 K n x_5))
def i_zbt_0 {R : Type} (E : List V) (s : S) (k : List V → Fl → List V → Fl → Int → Option R) : Option R :=
 guardB (frameOk 27 [0, 1, 5] E) <| atList E 0 2 fun e_1 f_2 => atList E 1 2 fun e_3 f_4 => atInt E 5 .i64 fun x_5 => asEnd s <| k e_1 f_2 e_3 f_4 x_5
theorem i_zbt_0_spec {R : Type} {E : List V} {s : S} {k : List V → Fl → List V → Fl → Int → Option R} {r : R} (h : i_zbt_0 E s k = some r) : ∃ e_1 f_2 e_3 f_4 x_5, E = fr_zbt_0 e_1 f_2 e_3 f_4 x_5 ∧ s = [] ∧ k e_1 f_2 e_3 f_4 x_5 = some r := by
 unfold i_zbt_0 at h
 obtain ⟨hg, h1⟩ := guardB_some h
 obtain ⟨_, _, hu0, h2⟩ := atList_some h1
 obtain ⟨_, _, hu1, h3⟩ := atList_some h2
 obtain ⟨_, hu5, h4⟩ := atInt_some h3
 obtain ⟨rfl, h5⟩ := asEnd_some h4
 exact ⟨_, _, _, _, _, frame_is hg rfl (slots_cons hu0 (slots_cons hu1 (slots_cons hu5 slots_nil))), rfl, h5⟩
def Λ_zbt_0 (N : Nat) : Looper := (noLooper).add [0, 1, 0, 1, 1] fun _ E s K => i_zbt_0 (killE ks_zbt_0 E) s fun e_1 f_2 e_3 f_4 x_5 => l_zbt_0 N e_1 f_2 e_3 f_4 (kk0_zbt_0 K e_1 f_2 e_3 f_4) (kk1_zbt_0 K e_1 f_2 e_3 f_4) N x_5
theorem ok_zbt_0 {N : Nat} (hC : Ok Tryz.prog C) (hΦ : CalleeOk Tryz.prog C (Φ_zcf N)) : LoopOk Tryz.prog C (Λ_zbt_0 N) b_zbt_0 [0, 1, 0, 1, 1] :=
 iter_ok (Λi := noLooper) (tr := false) (ks := ks_zbt_0) (kx := kx_zbt_0) (N := N) hC hΦ
  (loopsOk_nil (by kernel_rfl))
  fun R E s K r h => by
   have h2 := Looper.add_self.symm.trans h
   obtain ⟨_, _, _, _, _, he, rfl, h3⟩ := i_zbt_0_spec h2
   rw [he]
   exact (w_zbt_0 N _ _ _ _ _ N _).trans h3
theorem at_zbt : loopsAt c_zbt [] = [([0, 1, 0, 1, 1], b_zbt_0)] := by kernel_rfl
theorem b_zbt {R : Type} (N : Nat) (e_1 : List V) (f_2 : Fl) (e_3 : List V) (f_4 : Fl) (K : V → S → Option R) : bodyV C (Φ_zcf N) (Λ_zbt_0 N) 156 Tryz.f156 [.list 2 e_1 f_2, .list 2 e_3 f_4] [] K =
 gb_zbt N e_1 f_2 e_3 f_4 (fun b_5 => K (.bool b_5) []) := by kernel_rfl
theorem loops_zbt {N : Nat} (hC : Ok Tryz.prog C) (hΦ : CalleeOk Tryz.prog C (Φ_zcf N)) : LoopsOk Tryz.prog C (Λ_zbt_0 N) c_zbt [] :=
 loopsOk_of c_zbt [] (by
  rw [at_zbt]
  intro p hp
  simp only [List.mem_cons, List.mem_nil_iff, or_false] at hp
  rcases hp with rfl
  ·exact (ok_zbt_0 hC hΦ))
theorem callee_zbt (hC : Ok Tryz.prog C) {N : Nat} (hΦ : CalleeOk Tryz.prog C (Φ_zcf N)) : CalleeOk Tryz.prog C (Φ_zbt N) := by
 refine hΦ.add_pure rfl fun R vs K r h => ?_
 unfold f_zbt at h
 obtain ⟨_, _, rfl, h1⟩ := asN2_some h
 obtain ⟨_, _, rfl, h2⟩ := asList_some h1
 obtain ⟨_, _, rfl, h3⟩ := asList_some h2
 obtain ⟨_, h4⟩ := asEnd_some h3
 refine body_pure (fn := Tryz.f156) (c := c_zbt) hC hΦ Tryz.func156 (by kernel_rfl) (by kernel_rfl) (loops_zbt (N := N) hC hΦ) rfl rfl ?_
 refine (b_zbt N _ _ _ _ _).trans ?_
 rw [← g_zbt_eq]
 exact h4
def f_zdc (N : Nat) : (R : Type) → List V → S → (V → S → Option R) → Option R := fun _ vs s K =>
 asN2 vs fun v'1 v'2 => un_impl_Node v'1 fun x_1 x_2 x_3 x_4 x_5 w_6 e_7 f_8 => un_impl_Node v'2 fun x_9 x_10 x_11 x_12 x_13 w_14 e_15 f_16 => asEnd s <| g_zdc N x_1 x_2 x_3 x_4 x_5 w_6 e_7 f_8 x_9 x_10 x_11 x_12 x_13 w_14 e_15 f_16 (fun b_17 => K (.bool b_17) [])
def Φ_zdc (N : Nat) : Callee := (Φ_zbt N).add 105 (f_zdc N)
def c_zdc : Code := bodyOf Tryz.f105
theorem b_zdc {R : Type} (N : Nat) (x_1 x_2 x_3 x_4 x_5 : Int) (w_6 : ByteArray) (e_7 : List V) (f_8 : Fl) (x_9 x_10 x_11 x_12 x_13 : Int) (w_14 : ByteArray) (e_15 : List V) (f_16 : Fl) (K : V → S → Option R) : bodyV C (Φ_zbt N) (noLooper) 105 Tryz.f105 [.agg [.int .i64 x_1, .int .i64 x_2, .int .i64 x_3, .int .i64 x_4, .int .i64 x_5, .str w_6, .list 2 e_7 f_8], .agg [.int .i64 x_9, .int .i64 x_10, .int .i64 x_11, .int .i64 x_12, .int .i64 x_13, .str w_14, .list 2 e_15 f_16]] [] K =
 gb_zdc N x_1 x_2 x_3 x_4 x_5 w_6 e_7 f_8 x_9 x_10 x_11 x_12 x_13 w_14 e_15 f_16 (fun b_17 => K (.bool b_17) []) := by kernel_rfl
theorem callee_zdc (hC : Ok Tryz.prog C) {N : Nat} (hΦ : CalleeOk Tryz.prog C (Φ_zbt N)) : CalleeOk Tryz.prog C (Φ_zdc N) := by
 refine hΦ.add_pure rfl fun R vs K r h => ?_
 unfold f_zdc at h
 obtain ⟨_, _, rfl, h1⟩ := asN2_some h
 obtain ⟨_, _, _, _, _, _, _, _, rfl, h2⟩ := un_impl_Node_some h1
 obtain ⟨_, _, _, _, _, _, _, _, rfl, h3⟩ := un_impl_Node_some h2
 obtain ⟨_, h4⟩ := asEnd_some h3
 refine body_pure (fn := Tryz.f105) (c := c_zdc) hC hΦ Tryz.func105 (by kernel_rfl) (by kernel_rfl) (loopsOk_nil (Λ := noLooper) (by kernel_rfl)) rfl rfl ?_
 refine (b_zdc N _ _ _ _ _ _ _ _ _ _ _ _ _ _ _ _ _).trans ?_
 rw [← g_zdc_eq]
 exact h4
def f_zcg (N : Nat) : (R : Type) → List V → S → (V → S → Option R) → Option R := fun _ vs s K =>
 asN2 vs fun v'1 v'2 => asList 7 v'1 fun e_1 f_2 => asList 7 v'2 fun e_3 f_4 => asEnd s <| g_zcg N e_1 f_2 e_3 f_4 (fun b_5 => K (.bool b_5) [])
def Φ_zcg (N : Nat) : Callee := (Φ_zdc N).add 52 (f_zcg N)
def c_zcg : Code := bodyOf Tryz.f52
def b_zcg_0 : Code := (loopNo c_zcg [] 0).2
def ks_zcg_0 : List Nat := butL 27 [0, 1, 5]
def kx_zcg_0 : List Nat := butL 27 [4]
def fr_zcg_0 (e_1 : List V) (f_2 : Fl) (e_3 : List V) (f_4 : Fl) (x_5 : Int) : List V := mkF 0 27 [(0, .list 7 e_1 f_2), (1, .list 7 e_3 f_4), (5, .int .i64 x_5)]
def kk0_zcg_0 {R : Type} (K : X → List V → S → Option R) (e_1 : List V) (f_2 : Fl) (e_3 : List V) (f_4 : Fl) : Unit → Option R := (fun _ => K .ret (mkF 0 27 [(4, .bool false)]) [])
def kk1_zcg_0 {R : Type} (K : X → List V → S → Option R) (e_1 : List V) (f_2 : Fl) (e_3 : List V) (f_4 : Fl) : Unit → Option R := (fun _ => K (.exit 0) (mkF 0 27 []) [])
abbrev it_zcg_0 {R : Type} (N : Nat) : Nat → List V → S → (X → List V → S → Option R) → Option R := fun n => iter C (Φ_zdc N) (noLooper) b_zcg_0 [0, 1, 0, 1, 1] false ks_zcg_0 kx_zcg_0 n R
theorem r_zcg_0 {R : Type} (N n : Nat) (e_1 : List V) (f_2 : Fl) (e_3 : List V) (f_4 : Fl) (x_5 : Int) (K : X → List V → S → Option R) :
 it_zcg_0 N (n + 1) (fr_zcg_0 e_1 f_2 e_3 f_4 x_5) [] K =
 l_zcg_0_step N e_1 f_2 e_3 f_4 (fun x_5 => it_zcg_0 N n (fr_zcg_0 e_1 f_2 e_3 f_4 x_5) [] K) x_5 (kk0_zcg_0 K e_1 f_2 e_3 f_4) (kk1_zcg_0 K e_1 f_2 e_3 f_4) := by kernel_rfl
theorem w_zcg_0 {R : Type} (N : Nat) (e_1 : List V) (f_2 : Fl) (e_3 : List V) (f_4 : Fl) (K : X → List V → S → Option R) : ∀ (n : Nat) (x_5 : Int),
 it_zcg_0 N n (fr_zcg_0 e_1 f_2 e_3 f_4 x_5) [] K = l_zcg_0 N e_1 f_2 e_3 f_4 (kk0_zcg_0 K e_1 f_2 e_3 f_4) (kk1_zcg_0 K e_1 f_2 e_3 f_4) n x_5
 | 0, _ => rfl
 | n + 1, x_5 => (r_zcg_0 N n e_1 f_2 e_3 f_4 x_5 K).trans (congrArg (fun nx => l_zcg_0_step N e_1 f_2 e_3 f_4 nx x_5 (kk0_zcg_0 K e_1 f_2 e_3 f_4) (kk1_zcg_0 K e_1 f_2 e_3 f_4)) (funext fun x_5 => w_zcg_0 N e_1 f_2 e_3 f_4 K n x_5))
def i_zcg_0 {R : Type} (E : List V) (s : S) (k : List V → Fl → List V → Fl → Int → Option R) : Option R :=
 guardB (frameOk 27 [0, 1, 5] E) <| atList E 0 7 fun e_1 f_2 => atList E 1 7 fun e_3 f_4 => atInt E 5 .i64 fun x_5 => asEnd s <| k e_1 f_2 e_3 f_4 x_5
theorem i_zcg_0_spec {R : Type} {E : List V} {s : S} {k : List V → Fl → List V → Fl → Int → Option R} {r : R} (h : i_zcg_0 E s k = some r) : ∃ e_1 f_2 e_3 f_4 x_5, E = fr_zcg_0 e_1 f_2 e_3 f_4 x_5 ∧ s = [] ∧ k e_1 f_2 e_3 f_4 x_5 = some r := by
 unfold i_zcg_0 at h
 obtain ⟨hg, h1⟩ := guardB_some h
 obtain ⟨_, _, hu0, h2⟩ := atList_some h1
 obtain ⟨_, _, hu1, h3⟩ := atList_some h2
 obtain ⟨_, hu5, h4⟩ := atInt_some h3
 obtain ⟨rfl, h5⟩ := asEnd_some h4
 exact ⟨_, _, _, _, _, frame_is hg rfl (slots_cons hu0 (slots_cons hu1 (slots_cons hu5 slots_nil))), rfl, h5⟩
def Λ_zcg_0 (N : Nat) : Looper := (noLooper).add [0, 1, 0, 1, 1] fun _ E s K => i_zcg_0 (killE ks_zcg_0 E) s fun e_1 f_2 e_3 f_4 x_5 => l_zcg_0 N e_1 f_2 e_3 f_4 (kk0_zcg_0 K e_1 f_2 e_3 f_4) (kk1_zcg_0 K e_1 f_2 e_3 f_4) N x_5
theorem ok_zcg_0 {N : Nat} (hC : Ok Tryz.prog C) (hΦ : CalleeOk Tryz.prog C (Φ_zdc N)) : LoopOk Tryz.prog C (Λ_zcg_0 N) b_zcg_0 [0, 1, 0, 1, 1] :=
 iter_ok (Λi := noLooper) (tr := false) (ks := ks_zcg_0) (kx := kx_zcg_0) (N := N) hC hΦ
  (loopsOk_nil (by kernel_rfl))
  fun R E s K r h => by
   have h2 := Looper.add_self.symm.trans h
   obtain ⟨_, _, _, _, _, he, rfl, h3⟩ := i_zcg_0_spec h2
   rw [he]
   exact (w_zcg_0 N _ _ _ _ _ N _).trans h3
theorem at_zcg : loopsAt c_zcg [] = [([0, 1, 0, 1, 1], b_zcg_0)] := by kernel_rfl
theorem b_zcg {R : Type} (N : Nat) (e_1 : List V) (f_2 : Fl) (e_3 : List V) (f_4 : Fl) (K : V → S → Option R) : bodyV C (Φ_zdc N) (Λ_zcg_0 N) 52 Tryz.f52 [.list 7 e_1 f_2, .list 7 e_3 f_4] [] K =
 gb_zcg N e_1 f_2 e_3 f_4 (fun b_5 => K (.bool b_5) []) := by kernel_rfl
theorem loops_zcg {N : Nat} (hC : Ok Tryz.prog C) (hΦ : CalleeOk Tryz.prog C (Φ_zdc N)) : LoopsOk Tryz.prog C (Λ_zcg_0 N) c_zcg [] :=
 loopsOk_of c_zcg [] (by
  rw [at_zcg]
  intro p hp
  simp only [List.mem_cons, List.mem_nil_iff, or_false] at hp
  rcases hp with rfl
  ·exact (ok_zcg_0 hC hΦ))
theorem callee_zcg (hC : Ok Tryz.prog C) {N : Nat} (hΦ : CalleeOk Tryz.prog C (Φ_zdc N)) : CalleeOk Tryz.prog C (Φ_zcg N) := by
 refine hΦ.add_pure rfl fun R vs K r h => ?_
 unfold f_zcg at h
 obtain ⟨_, _, rfl, h1⟩ := asN2_some h
 obtain ⟨_, _, rfl, h2⟩ := asList_some h1
 obtain ⟨_, _, rfl, h3⟩ := asList_some h2
 obtain ⟨_, h4⟩ := asEnd_some h3
 refine body_pure (fn := Tryz.f52) (c := c_zcg) hC hΦ Tryz.func52 (by kernel_rfl) (by kernel_rfl) (loops_zcg (N := N) hC hΦ) rfl rfl ?_
 refine (b_zcg N _ _ _ _ _).trans ?_
 rw [← g_zcg_eq]
 exact h4
def f_zdu (N : Nat) : (R : Type) → List V → S → (V → S → Option R) → Option R := fun _ vs s K =>
 asN2 vs fun v'1 v'2 => un_impl_Fs v'1 fun e_1 f_2 x_3 => un_impl_Fs v'2 fun e_4 f_5 x_6 => asEnd s <| g_zdu N e_1 f_2 x_3 e_4 f_5 x_6 (fun b_7 => K (.bool b_7) [])
def Φ_zdu (N : Nat) : Callee := (Φ_zcg N).add 18 (f_zdu N)
def c_zdu : Code := bodyOf Tryz.f18
theorem b_zdu {R : Type} (N : Nat) (e_1 : List V) (f_2 : Fl) (x_3 : Int) (e_4 : List V) (f_5 : Fl) (x_6 : Int) (K : V → S → Option R) : bodyV C (Φ_zcg N) (noLooper) 18 Tryz.f18 [.agg [.list 7 e_1 f_2, .int .i64 x_3], .agg [.list 7 e_4 f_5, .int .i64 x_6]] [] K =
 gb_zdu N e_1 f_2 x_3 e_4 f_5 x_6 (fun b_7 => K (.bool b_7) []) := by kernel_rfl
theorem callee_zdu (hC : Ok Tryz.prog C) {N : Nat} (hΦ : CalleeOk Tryz.prog C (Φ_zcg N)) : CalleeOk Tryz.prog C (Φ_zdu N) := by
 refine hΦ.add_pure rfl fun R vs K r h => ?_
 unfold f_zdu at h
 obtain ⟨_, _, rfl, h1⟩ := asN2_some h
 obtain ⟨_, _, _, rfl, h2⟩ := un_impl_Fs_some h1
 obtain ⟨_, _, _, rfl, h3⟩ := un_impl_Fs_some h2
 obtain ⟨_, h4⟩ := asEnd_some h3
 refine body_pure (fn := Tryz.f18) (c := c_zdu) hC hΦ Tryz.func18 (by kernel_rfl) (by kernel_rfl) (loopsOk_nil (Λ := noLooper) (by kernel_rfl)) rfl rfl ?_
 refine (b_zdu N _ _ _ _ _ _ _).trans ?_
 rw [← g_zdu_eq]
 exact h4
def f_zdo (N : Nat) : (R : Type) → List V → S → (V → S → Option R) → Option R := fun _ vs s K =>
 asN2 vs fun v'1 v'2 => asList 1 v'1 fun e_1 f_2 => asInt .i64 v'2 fun x_3 => asEnd s <| g_zdo N e_1 f_2 x_3 (fun b_4 => K (.bool b_4) [])
def Φ_zdo (N : Nat) : Callee := (Φ_zdu N).add 90 (f_zdo N)
def c_zdo : Code := bodyOf Tryz.f90
def b_zdo_0 : Code := (loopNo c_zdo [] 0).2
def ks_zdo_0 : List Nat := butL 17 [1, 7, 8, 9]
def kx_zdo_0 : List Nat := butL 17 [4]
def fr_zdo_0 (x_1 : Int) (e_2 : List V) (f_3 : Fl) (x_4 x_5 : Int) : List V := mkF 0 17 [(1, .int .i64 x_1), (7, .list 1 e_2 f_3), (8, .int .i64 x_4), (9, .int .i64 x_5)]
def kk0_zdo_0 {R : Type} (K : X → List V → S → Option R) (x_1 : Int) (e_2 : List V) (f_3 : Fl) (x_4 : Int) : Unit → Option R := (fun _ => K .ret (mkF 0 17 [(4, .bool true)]) [])
def kk1_zdo_0 {R : Type} (K : X → List V → S → Option R) (x_1 : Int) (e_2 : List V) (f_3 : Fl) (x_4 : Int) : Unit → Option R := (fun _ => K (.exit 0) (mkF 0 17 []) [])
abbrev it_zdo_0 {R : Type} (N : Nat) : Nat → List V → S → (X → List V → S → Option R) → Option R := fun n => iter C (Φ_zdu N) (noLooper) b_zdo_0 [0, 1, 0, 1] false ks_zdo_0 kx_zdo_0 n R
theorem r_zdo_0 {R : Type} (N n : Nat) (x_1 : Int) (e_2 : List V) (f_3 : Fl) (x_4 : Int) (x_5 : Int) (K : X → List V → S → Option R) :
 it_zdo_0 N (n + 1) (fr_zdo_0 x_1 e_2 f_3 x_4 x_5) [] K =
 l_zdo_0_step N x_1 e_2 f_3 x_4 (fun x_5 => it_zdo_0 N n (fr_zdo_0 x_1 e_2 f_3 x_4 x_5) [] K) x_5 (kk0_zdo_0 K x_1 e_2 f_3 x_4) (kk1_zdo_0 K x_1 e_2 f_3 x_4) := by kernel_rfl
theorem w_zdo_0 {R : Type} (N : Nat) (x_1 : Int) (e_2 : List V) (f_3 : Fl) (x_4 : Int) (K : X → List V → S → Option R) : ∀ (n : Nat) (x_5 : Int),
 it_zdo_0 N n (fr_zdo_0 x_1 e_2 f_3 x_4 x_5) [] K = l_zdo_0 N x_1 e_2 f_3 x_4 (kk0_zdo_0 K x_1 e_2 f_3 x_4) (kk1_zdo_0 K x_1 e_2 f_3 x_4) n x_5
 | 0, _ => rfl
 | n + 1, x_5 => (r_zdo_0 N n x_1 e_2 f_3 x_4 x_5 K).trans (congrArg (fun nx => l_zdo_0_step N x_1 e_2 f_3 x_4 nx x_5 (kk0_zdo_0 K x_1 e_2 f_3 x_4) (kk1_zdo_0 K x_1 e_2 f_3 x_4)) (funext fun x_5 => w_zdo_0 N x_1 e_2 f_3 x_4 K n x_5))
def i_zdo_0 {R : Type} (E : List V) (s : S) (k : Int → List V → Fl → Int → Int → Option R) : Option R :=
 guardB (frameOk 17 [1, 7, 8, 9] E) <| atInt E 1 .i64 fun x_1 => atList E 7 1 fun e_2 f_3 => atInt E 8 .i64 fun x_4 => atInt E 9 .i64 fun x_5 => asEnd s <| k x_1 e_2 f_3 x_4 x_5
theorem i_zdo_0_spec {R : Type} {E : List V} {s : S} {k : Int → List V → Fl → Int → Int → Option R} {r : R} (h : i_zdo_0 E s k = some r) : ∃ x_1 e_2 f_3 x_4 x_5, E = fr_zdo_0 x_1 e_2 f_3 x_4 x_5 ∧ s = [] ∧ k x_1 e_2 f_3 x_4 x_5 = some r := by
 unfold i_zdo_0 at h
 obtain ⟨hg, h1⟩ := guardB_some h
 obtain ⟨_, hu1, h2⟩ := atInt_some h1
 obtain ⟨_, _, hu7, h3⟩ := atList_some h2
 obtain ⟨_, hu8, h4⟩ := atInt_some h3
 obtain ⟨_, hu9, h5⟩ := atInt_some h4
 obtain ⟨rfl, h6⟩ := asEnd_some h5
 exact ⟨_, _, _, _, _, frame_is hg rfl (slots_cons hu1 (slots_cons hu7 (slots_cons hu8 (slots_cons hu9 slots_nil)))), rfl, h6⟩
def Λ_zdo_0 (N : Nat) : Looper := (noLooper).add [0, 1, 0, 1] fun _ E s K => i_zdo_0 (killE ks_zdo_0 E) s fun x_1 e_2 f_3 x_4 x_5 => l_zdo_0 N x_1 e_2 f_3 x_4 (kk0_zdo_0 K x_1 e_2 f_3 x_4) (kk1_zdo_0 K x_1 e_2 f_3 x_4) N x_5
theorem ok_zdo_0 {N : Nat} (hC : Ok Tryz.prog C) (hΦ : CalleeOk Tryz.prog C (Φ_zdu N)) : LoopOk Tryz.prog C (Λ_zdo_0 N) b_zdo_0 [0, 1, 0, 1] :=
 iter_ok (Λi := noLooper) (tr := false) (ks := ks_zdo_0) (kx := kx_zdo_0) (N := N) hC hΦ
  (loopsOk_nil (by kernel_rfl))
  fun R E s K r h => by
   have h2 := Looper.add_self.symm.trans h
   obtain ⟨_, _, _, _, _, he, rfl, h3⟩ := i_zdo_0_spec h2
   rw [he]
   exact (w_zdo_0 N _ _ _ _ _ N _).trans h3
theorem at_zdo : loopsAt c_zdo [] = [([0, 1, 0, 1], b_zdo_0)] := by kernel_rfl
theorem b_zdo {R : Type} (N : Nat) (e_1 : List V) (f_2 : Fl) (x_3 : Int) (K : V → S → Option R) : bodyV C (Φ_zdu N) (Λ_zdo_0 N) 90 Tryz.f90 [.list 1 e_1 f_2, .int .i64 x_3] [] K =
 gb_zdo N e_1 f_2 x_3 (fun b_4 => K (.bool b_4) []) := by kernel_rfl
theorem loops_zdo {N : Nat} (hC : Ok Tryz.prog C) (hΦ : CalleeOk Tryz.prog C (Φ_zdu N)) : LoopsOk Tryz.prog C (Λ_zdo_0 N) c_zdo [] :=
 loopsOk_of c_zdo [] (by
  rw [at_zdo]
  intro p hp
  simp only [List.mem_cons, List.mem_nil_iff, or_false] at hp
  rcases hp with rfl
  ·exact (ok_zdo_0 hC hΦ))
theorem callee_zdo (hC : Ok Tryz.prog C) {N : Nat} (hΦ : CalleeOk Tryz.prog C (Φ_zdu N)) : CalleeOk Tryz.prog C (Φ_zdo N) := by
 refine hΦ.add_pure rfl fun R vs K r h => ?_
 unfold f_zdo at h
 obtain ⟨_, _, rfl, h1⟩ := asN2_some h
 obtain ⟨_, _, rfl, h2⟩ := asList_some h1
 obtain ⟨_, rfl, h3⟩ := asInt_some h2
 obtain ⟨_, h4⟩ := asEnd_some h3
 refine body_pure (fn := Tryz.f90) (c := c_zdo) hC hΦ Tryz.func90 (by kernel_rfl) (by kernel_rfl) (loops_zdo (N := N) hC hΦ) rfl rfl ?_
 refine (b_zdo N _ _ _ _).trans ?_
 rw [← g_zdo_eq]
 exact h4
def f_zdx (N : Nat) : (R : Type) → List V → S → (V → S → Option R) → Option R := fun _ vs s K =>
 asN3 vs fun v'1 v'2 v'3 => asInt .i64 v'1 fun x_1 => asInt .i64 v'2 fun x_2 => asInt .i64 v'3 fun x_3 => asEnd s <| g_zdx N x_1 x_2 x_3 (fun b_4 => K (.bool b_4) [])
def Φ_zdx (N : Nat) : Callee := (Φ_zdo N).add 112 (f_zdx N)
def c_zdx : Code := bodyOf Tryz.f112
theorem b_zdx {R : Type} (N : Nat) (x_1 x_2 x_3 : Int) (K : V → S → Option R) : bodyV C (Φ_zdo N) (noLooper) 112 Tryz.f112 [.int .i64 x_1, .int .i64 x_2, .int .i64 x_3] [] K =
 gb_zdx N x_1 x_2 x_3 (fun b_4 => K (.bool b_4) []) := by kernel_rfl
theorem callee_zdx (hC : Ok Tryz.prog C) {N : Nat} (hΦ : CalleeOk Tryz.prog C (Φ_zdo N)) : CalleeOk Tryz.prog C (Φ_zdx N) := by
 refine hΦ.add_pure rfl fun R vs K r h => ?_
 unfold f_zdx at h
 obtain ⟨_, _, _, rfl, h1⟩ := asN3_some h
 obtain ⟨_, rfl, h2⟩ := asInt_some h1
 obtain ⟨_, rfl, h3⟩ := asInt_some h2
 obtain ⟨_, rfl, h4⟩ := asInt_some h3
 obtain ⟨_, h5⟩ := asEnd_some h4
 refine body_pure (fn := Tryz.f112) (c := c_zdx) hC hΦ Tryz.func112 (by kernel_rfl) (by kernel_rfl) (loopsOk_nil (Λ := noLooper) (by kernel_rfl)) rfl rfl ?_
 refine (b_zdx N _ _ _ _).trans ?_
 rw [← g_zdx_eq]
 exact h5
def f_zcp (N : Nat) : (R : Type) → List V → S → (V → S → Option R) → Option R := fun _ vs s K =>
 asN1 vs fun v'1 => un_impl_Fs v'1 fun e_1 f_2 x_3 => asEnd s <| g_zcp N e_1 f_2 x_3 (fun x_4 => K (.int .i64 x_4) [])
def Φ_zcp (N : Nat) : Callee := (Φ_zdx N).add 138 (f_zcp N)
def c_zcp : Code := bodyOf Tryz.f138
def b_zcp_0 : Code := (loopNo c_zcp [] 0).2
def ks_zcp_0 : List Nat := butL 20 [3, 7, 8, 9]
def kx_zcp_0 : List Nat := butL 20 [3]
def fr_zcp_0 (e_2 : List V) (f_3 : Fl) (x_4 : Int) (e_6 : List V) (f_7 : Fl) (x_8 x_1 x_5 : Int) : List V := mkF 0 20 [(3, .int .i64 x_1), (7, .list 7 e_2 f_3), (8, .int .i64 x_4), (9, .int .i64 x_5)]
def kk0_zcp_0 {R : Type} (K : X → List V → S → Option R) (e_2 : List V) (f_3 : Fl) (x_4 : Int) (e_6 : List V) (f_7 : Fl) (x_8 : Int) : Int → Option R := (fun x_1' => K (.exit 0) (mkF 0 20 [(3, .int .i64 (x_1'))]) [some ⟨[.agg [.list 7 e_6 f_7, .int .i64 x_8]], 2, 34, 0⟩])
abbrev it_zcp_0 {R : Type} (N : Nat) : Nat → List V → S → (X → List V → S → Option R) → Option R := fun n => iter C (Φ_zdx N) (noLooper) b_zcp_0 [0, 1, 0, 1, 1] true ks_zcp_0 kx_zcp_0 n R
theorem r_zcp_0 {R : Type} (N n : Nat) (e_2 : List V) (f_3 : Fl) (x_4 : Int) (e_6 : List V) (f_7 : Fl) (x_8 : Int) (x_1 x_5 : Int) (K : X → List V → S → Option R) :
 it_zcp_0 N (n + 1) (fr_zcp_0 e_2 f_3 x_4 e_6 f_7 x_8 x_1 x_5) [some ⟨[.agg [.list 7 e_6 f_7, .int .i64 x_8]], 2, 34, 0⟩] K =
 l_zcp_0_step N e_2 f_3 x_4 e_6 f_7 x_8 (fun x_1 x_5 => it_zcp_0 N n (fr_zcp_0 e_2 f_3 x_4 e_6 f_7 x_8 x_1 x_5) [some ⟨[.agg [.list 7 e_6 f_7, .int .i64 x_8]], 2, 34, 0⟩] K) x_1 x_5 (kk0_zcp_0 K e_2 f_3 x_4 e_6 f_7 x_8) := by kernel_rfl
theorem w_zcp_0 {R : Type} (N : Nat) (e_2 : List V) (f_3 : Fl) (x_4 : Int) (e_6 : List V) (f_7 : Fl) (x_8 : Int) (K : X → List V → S → Option R) : ∀ (n : Nat) (x_1 x_5 : Int),
 it_zcp_0 N n (fr_zcp_0 e_2 f_3 x_4 e_6 f_7 x_8 x_1 x_5) [some ⟨[.agg [.list 7 e_6 f_7, .int .i64 x_8]], 2, 34, 0⟩] K = l_zcp_0 N e_2 f_3 x_4 e_6 f_7 x_8 (kk0_zcp_0 K e_2 f_3 x_4 e_6 f_7 x_8) n x_1 x_5
 | 0, _, _ => rfl
 | n + 1, x_1, x_5 => (r_zcp_0 N n e_2 f_3 x_4 e_6 f_7 x_8 x_1 x_5 K).trans (congrArg (fun nx => l_zcp_0_step N e_2 f_3 x_4 e_6 f_7 x_8 nx x_1 x_5 (kk0_zcp_0 K e_2 f_3 x_4 e_6 f_7 x_8)) (funext fun x_1 => funext fun x_5 => w_zcp_0 N e_2 f_3 x_4 e_6 f_7 x_8 K n x_1 x_5))
def i_zcp_0 {R : Type} (E : List V) (s : S) (k : Int → List V → Fl → Int → Int → List V → Fl → Int → Option R) : Option R :=
 guardB (frameOk 20 [3, 7, 8, 9] E) <| atInt E 3 .i64 fun x_1 => atList E 7 7 fun e_2 f_3 => atInt E 8 .i64 fun x_4 => atInt E 9 .i64 fun x_5 => asOb s fun o'1 s'2 => obIs o'1 2 34 fun e'3 k'4 => isN k'4 0 <| asN1 e'3 fun v'5 => asAgg v'5 fun c'6 => asN2 c'6 fun v'7 v'8 => asList 7 v'7 fun e_6 f_7 => asInt .i64 v'8 fun x_8 => asEnd s'2 <| k x_1 e_2 f_3 x_4 x_5 e_6 f_7 x_8
theorem i_zcp_0_spec {R : Type} {E : List V} {s : S} {k : Int → List V → Fl → Int → Int → List V → Fl → Int → Option R} {r : R} (h : i_zcp_0 E s k = some r) : ∃ x_1 e_2 f_3 x_4 x_5 e_6 f_7 x_8, E = fr_zcp_0 e_2 f_3 x_4 e_6 f_7 x_8 x_1 x_5 ∧ s = [some ⟨[.agg [.list 7 e_6 f_7, .int .i64 x_8]], 2, 34, 0⟩] ∧ k x_1 e_2 f_3 x_4 x_5 e_6 f_7 x_8 = some r := by
 unfold i_zcp_0 at h
 obtain ⟨hg, h1⟩ := guardB_some h
 obtain ⟨_, hu3, h2⟩ := atInt_some h1
 obtain ⟨_, _, hu7, h3⟩ := atList_some h2
 obtain ⟨_, hu8, h4⟩ := atInt_some h3
 obtain ⟨_, hu9, h5⟩ := atInt_some h4
 obtain ⟨_, _, rfl, h6⟩ := asOb_some h5
 obtain ⟨_, _, rfl, h7⟩ := obIs_some h6
 obtain ⟨rfl, h8⟩ := isN_some h7
 obtain ⟨_, rfl, h9⟩ := asN1_some h8
 obtain ⟨_, rfl, h10⟩ := asAgg_some h9
 obtain ⟨_, _, rfl, h11⟩ := asN2_some h10
 obtain ⟨_, _, rfl, h12⟩ := asList_some h11
 obtain ⟨_, rfl, h13⟩ := asInt_some h12
 obtain ⟨rfl, h14⟩ := asEnd_some h13
 exact ⟨_, _, _, _, _, _, _, _, frame_is hg rfl (slots_cons hu3 (slots_cons hu7 (slots_cons hu8 (slots_cons hu9 slots_nil)))), rfl, h14⟩
def Λ_zcp_0 (N : Nat) : Looper := (noLooper).add [0, 1, 0, 1, 1] fun _ E s K => i_zcp_0 (killE ks_zcp_0 E) s fun x_1 e_2 f_3 x_4 x_5 e_6 f_7 x_8 => l_zcp_0 N e_2 f_3 x_4 e_6 f_7 x_8 (kk0_zcp_0 K e_2 f_3 x_4 e_6 f_7 x_8) N x_1 x_5
theorem ok_zcp_0 {N : Nat} (hC : Ok Tryz.prog C) (hΦ : CalleeOk Tryz.prog C (Φ_zdx N)) : LoopOk Tryz.prog C (Λ_zcp_0 N) b_zcp_0 [0, 1, 0, 1, 1] :=
 iter_ok (Λi := noLooper) (tr := true) (ks := ks_zcp_0) (kx := kx_zcp_0) (N := N) hC hΦ
  (loopsOk_nil (by kernel_rfl))
  fun R E s K r h => by
   have h2 := Looper.add_self.symm.trans h
   obtain ⟨_, _, _, _, _, _, _, _, he, rfl, h3⟩ := i_zcp_0_spec h2
   rw [he]
   exact (w_zcp_0 N _ _ _ _ _ _ _ N _ _).trans h3
theorem at_zcp : loopsAt c_zcp [] = [([0, 1, 0, 1, 1], b_zcp_0)] := by kernel_rfl
theorem b_zcp {R : Type} (N : Nat) (e_1 : List V) (f_2 : Fl) (x_3 : Int) (K : V → S → Option R) : bodyV C (Φ_zdx N) (Λ_zcp_0 N) 138 Tryz.f138 [.agg [.list 7 e_1 f_2, .int .i64 x_3]] [] K =
 gb_zcp N e_1 f_2 x_3 (fun x_4 => K (.int .i64 x_4) []) := by kernel_rfl
theorem loops_zcp {N : Nat} (hC : Ok Tryz.prog C) (hΦ : CalleeOk Tryz.prog C (Φ_zdx N)) : LoopsOk Tryz.prog C (Λ_zcp_0 N) c_zcp [] :=
 loopsOk_of c_zcp [] (by
  rw [at_zcp]
  intro p hp
  simp only [List.mem_cons, List.mem_nil_iff, or_false] at hp
  rcases hp with rfl
  ·exact (ok_zcp_0 hC hΦ))
theorem callee_zcp (hC : Ok Tryz.prog C) {N : Nat} (hΦ : CalleeOk Tryz.prog C (Φ_zdx N)) : CalleeOk Tryz.prog C (Φ_zcp N) := by
 refine hΦ.add_pure rfl fun R vs K r h => ?_
 unfold f_zcp at h
 obtain ⟨_, rfl, h1⟩ := asN1_some h
 obtain ⟨_, _, _, rfl, h2⟩ := un_impl_Fs_some h1
 obtain ⟨_, h3⟩ := asEnd_some h2
 refine body_pure (fn := Tryz.f138) (c := c_zcp) hC hΦ Tryz.func138 (by kernel_rfl) (by kernel_rfl) (loops_zcp (N := N) hC hΦ) rfl rfl ?_
 refine (b_zcp N _ _ _ _).trans ?_
 rw [← g_zcp_eq]
 exact h3
def f_zdh (N : Nat) : (R : Type) → List V → S → (V → S → Option R) → Option R := fun _ vs s K =>
 asN1 vs fun v'1 => asInt .i64 v'1 fun x_1 => asEnd s <| g_zdh N x_1 (fun b_2 => K (.bool b_2) [])
def Φ_zdh (N : Nat) : Callee := (Φ_zcp N).add 62 (f_zdh N)
def c_zdh : Code := bodyOf Tryz.f62
theorem b_zdh {R : Type} (N : Nat) (x_1 : Int) (K : V → S → Option R) : bodyV C (Φ_zcp N) (noLooper) 62 Tryz.f62 [.int .i64 x_1] [] K =
 gb_zdh N x_1 (fun b_2 => K (.bool b_2) []) := by kernel_rfl
theorem callee_zdh (hC : Ok Tryz.prog C) {N : Nat} (hΦ : CalleeOk Tryz.prog C (Φ_zcp N)) : CalleeOk Tryz.prog C (Φ_zdh N) := by
 refine hΦ.add_pure rfl fun R vs K r h => ?_
 unfold f_zdh at h
 obtain ⟨_, rfl, h1⟩ := asN1_some h
 obtain ⟨_, rfl, h2⟩ := asInt_some h1
 obtain ⟨_, h3⟩ := asEnd_some h2
 refine body_pure (fn := Tryz.f62) (c := c_zdh) hC hΦ Tryz.func62 (by kernel_rfl) (by kernel_rfl) (loopsOk_nil (Λ := noLooper) (by kernel_rfl)) rfl rfl ?_
 refine (b_zdh N _ _).trans ?_
 rw [← g_zdh_eq]
 exact h3
def f_zcl (N : Nat) : (R : Type) → List V → S → (V → S → Option R) → Option R := fun _ vs s K =>
 asN2 vs fun v'1 v'2 => asStr v'1 fun w_1 => asInt .u8 v'2 fun x_2 => asEnd s <| g_zcl N w_1 x_2 (fun e_3 => K (.list 1 e_3 .sh) [])
def Φ_zcl (N : Nat) : Callee := (Φ_zdh N).add 143 (f_zcl N)
def c_zcl : Code := bodyOf Tryz.f143
def b_zcl_0 : Code := (loopNo c_zcl [] 0).2
def ks_zcl_0 : List Nat := butL 34 [0, 1, 5, 6, 7]
def kx_zcl_0 : List Nat := butL 34 [0, 5, 6]
def fr_zcl_0 (w_1 : ByteArray) (x_2 : Int) (e_3 : List V) (x_4 x_5 : Int) : List V := mkF 0 34 [(0, .str w_1), (1, .int .u8 x_2), (5, .list 1 e_3 (.own 9)), (6, .int .i64 x_4), (7, .int .i64 x_5)]
def kk0_zcl_0 {R : Type} (K : X → List V → S → Option R) (w_1 : ByteArray) (x_2 : Int) : List V → Int → Option R := (fun e_1' x_2' => K (.exit 0) (mkF 0 34 [(0, .str w_1), (5, .list 1 (e_1') (.own 9)), (6, .int .i64 (x_2'))]) [])
abbrev it_zcl_0 {R : Type} (N : Nat) : Nat → List V → S → (X → List V → S → Option R) → Option R := fun n => iter C (Φ_zdh N) (noLooper) b_zcl_0 [0, 1, 0, 1, 1, 1] false ks_zcl_0 kx_zcl_0 n R
theorem r_zcl_0 {R : Type} (N n : Nat) (w_1 : ByteArray) (x_2 : Int) (e_3 : List V) (x_4 x_5 : Int) (K : X → List V → S → Option R) :
 it_zcl_0 N (n + 1) (fr_zcl_0 w_1 x_2 e_3 x_4 x_5) [] K =
 l_zcl_0_step N w_1 x_2 (fun e_3 x_4 x_5 => it_zcl_0 N n (fr_zcl_0 w_1 x_2 e_3 x_4 x_5) [] K) e_3 x_4 x_5 (kk0_zcl_0 K w_1 x_2) := by kernel_rfl
theorem w_zcl_0 {R : Type} (N : Nat) (w_1 : ByteArray) (x_2 : Int) (K : X → List V → S → Option R) : ∀ (n : Nat) (e_3 : List V) (x_4 x_5 : Int),
 it_zcl_0 N n (fr_zcl_0 w_1 x_2 e_3 x_4 x_5) [] K = l_zcl_0 N w_1 x_2 (kk0_zcl_0 K w_1 x_2) n e_3 x_4 x_5
 | 0, _, _, _ => rfl
 | n + 1, e_3, x_4, x_5 => (r_zcl_0 N n w_1 x_2 e_3 x_4 x_5 K).trans (congrArg (fun nx => l_zcl_0_step N w_1 x_2 nx e_3 x_4 x_5 (kk0_zcl_0 K w_1 x_2)) (funext fun e_3 => funext fun x_4 => funext fun x_5 => w_zcl_0 N w_1 x_2 K n e_3 x_4 x_5))
def i_zcl_0 {R : Type} (E : List V) (s : S) (k : ByteArray → Int → List V → Int → Int → Option R) : Option R :=
 guardB (frameOk 34 [0, 1, 5, 6, 7] E) <| atStr E 0 fun w_1 => atInt E 1 .u8 fun x_2 => must (nth E 5) fun u5 => asList 1 u5 fun e_3 f'1 => asOwn 9 f'1 <| atInt E 6 .i64 fun x_4 => atInt E 7 .i64 fun x_5 => asEnd s <| k w_1 x_2 e_3 x_4 x_5
theorem i_zcl_0_spec {R : Type} {E : List V} {s : S} {k : ByteArray → Int → List V → Int → Int → Option R} {r : R} (h : i_zcl_0 E s k = some r) : ∃ w_1 x_2 e_3 x_4 x_5, E = fr_zcl_0 w_1 x_2 e_3 x_4 x_5 ∧ s = [] ∧ k w_1 x_2 e_3 x_4 x_5 = some r := by
 unfold i_zcl_0 at h
 obtain ⟨hg, h1⟩ := guardB_some h
 obtain ⟨_, hu0, h2⟩ := atStr_some h1
 obtain ⟨_, hu1, h3⟩ := atInt_some h2
 obtain ⟨_, hu5, h4⟩ := must_some h3
 obtain ⟨_, _, rfl, h5⟩ := asList_some h4
 obtain ⟨rfl, h6⟩ := asOwn_some h5
 obtain ⟨_, hu6, h7⟩ := atInt_some h6
 obtain ⟨_, hu7, h8⟩ := atInt_some h7
 obtain ⟨rfl, h9⟩ := asEnd_some h8
 exact ⟨_, _, _, _, _, frame_is hg rfl (slots_cons hu0 (slots_cons hu1 (slots_cons hu5 (slots_cons hu6 (slots_cons hu7 slots_nil))))), rfl, h9⟩
def Λ_zcl_0 (N : Nat) : Looper := (noLooper).add [0, 1, 0, 1, 1, 1] fun _ E s K => i_zcl_0 (killE ks_zcl_0 E) s fun w_1 x_2 e_3 x_4 x_5 => l_zcl_0 N w_1 x_2 (kk0_zcl_0 K w_1 x_2) N e_3 x_4 x_5
theorem ok_zcl_0 {N : Nat} (hC : Ok Tryz.prog C) (hΦ : CalleeOk Tryz.prog C (Φ_zdh N)) : LoopOk Tryz.prog C (Λ_zcl_0 N) b_zcl_0 [0, 1, 0, 1, 1, 1] :=
 iter_ok (Λi := noLooper) (tr := false) (ks := ks_zcl_0) (kx := kx_zcl_0) (N := N) hC hΦ
  (loopsOk_nil (by kernel_rfl))
  fun R E s K r h => by
   have h2 := Looper.add_self.symm.trans h
   obtain ⟨_, _, _, _, _, he, rfl, h3⟩ := i_zcl_0_spec h2
   rw [he]
   exact (w_zcl_0 N _ _ _ N _ _ _).trans h3
theorem at_zcl : loopsAt c_zcl [] = [([0, 1, 0, 1, 1, 1], b_zcl_0)] := by kernel_rfl
theorem b_zcl {R : Type} (N : Nat) (w_1 : ByteArray) (x_2 : Int) (K : V → S → Option R) : bodyV C (Φ_zdh N) (Λ_zcl_0 N) 143 Tryz.f143 [.str w_1, .int .u8 x_2] [] K =
 gb_zcl N w_1 x_2 (fun e_3 => K (.list 1 e_3 .sh) []) := by kernel_rfl
theorem loops_zcl {N : Nat} (hC : Ok Tryz.prog C) (hΦ : CalleeOk Tryz.prog C (Φ_zdh N)) : LoopsOk Tryz.prog C (Λ_zcl_0 N) c_zcl [] :=
 loopsOk_of c_zcl [] (by
  rw [at_zcl]
  intro p hp
  simp only [List.mem_cons, List.mem_nil_iff, or_false] at hp
  rcases hp with rfl
  ·exact (ok_zcl_0 hC hΦ))
theorem callee_zcl (hC : Ok Tryz.prog C) {N : Nat} (hΦ : CalleeOk Tryz.prog C (Φ_zdh N)) : CalleeOk Tryz.prog C (Φ_zcl N) := by
 refine hΦ.add_pure rfl fun R vs K r h => ?_
 unfold f_zcl at h
 obtain ⟨_, _, rfl, h1⟩ := asN2_some h
 obtain ⟨_, rfl, h2⟩ := asStr_some h1
 obtain ⟨_, rfl, h3⟩ := asInt_some h2
 obtain ⟨_, h4⟩ := asEnd_some h3
 refine body_pure (fn := Tryz.f143) (c := c_zcl) hC hΦ Tryz.func143 (by kernel_rfl) (by kernel_rfl) (loops_zcl (N := N) hC hΦ) rfl rfl ?_
 refine (b_zcl N _ _ _).trans ?_
 rw [← g_zcl_eq]
 exact h4
def f_zcn (N : Nat) : (R : Type) → List V → S → (V → S → Option R) → Option R := fun _ vs s K =>
 asN1 vs fun v'1 => asStr v'1 fun w_1 => asEnd s <| g_zcn N w_1 (fun e_2 => K (.list 1 e_2 (.own 9)) [])
def Φ_zcn (N : Nat) : Callee := (Φ_zcl N).add 88 (f_zcn N)
def c_zcn : Code := bodyOf Tryz.f88
def b_zcn_0 : Code := (loopNo c_zcn [] 0).2
def ks_zcn_0 : List Nat := butL 21 [3, 7, 8, 9]
def kx_zcn_0 : List Nat := butL 21 [3]
def fr_zcn_0 (e_2 : List V) (x_3 : Int) (e_1 : List V) (x_4 : Int) : List V := mkF 0 21 [(3, .list 1 e_1 (.own 9)), (7, .list 1 e_2 .sh), (8, .int .i64 x_3), (9, .int .i64 x_4)]
def kk0_zcn_0 {R : Type} (K : X → List V → S → Option R) (e_2 : List V) (x_3 : Int) : List V → Option R := (fun e_1' => K (.exit 0) (mkF 0 21 [(3, .list 1 (e_1') (.own 9))]) [])
abbrev it_zcn_0 {R : Type} (N : Nat) : Nat → List V → S → (X → List V → S → Option R) → Option R := fun n => iter C (Φ_zcl N) (noLooper) b_zcn_0 [0, 1, 0, 1, 1] false ks_zcn_0 kx_zcn_0 n R
theorem r_zcn_0 {R : Type} (N n : Nat) (e_2 : List V) (x_3 : Int) (e_1 : List V) (x_4 : Int) (K : X → List V → S → Option R) :
 it_zcn_0 N (n + 1) (fr_zcn_0 e_2 x_3 e_1 x_4) [] K =
 l_zcn_0_step N e_2 x_3 (fun e_1 x_4 => it_zcn_0 N n (fr_zcn_0 e_2 x_3 e_1 x_4) [] K) e_1 x_4 (kk0_zcn_0 K e_2 x_3) := by kernel_rfl
theorem w_zcn_0 {R : Type} (N : Nat) (e_2 : List V) (x_3 : Int) (K : X → List V → S → Option R) : ∀ (n : Nat) (e_1 : List V) (x_4 : Int),
 it_zcn_0 N n (fr_zcn_0 e_2 x_3 e_1 x_4) [] K = l_zcn_0 N e_2 x_3 (kk0_zcn_0 K e_2 x_3) n e_1 x_4
 | 0, _, _ => rfl
 | n + 1, e_1, x_4 => (r_zcn_0 N n e_2 x_3 e_1 x_4 K).trans (congrArg (fun nx => l_zcn_0_step N e_2 x_3 nx e_1 x_4 (kk0_zcn_0 K e_2 x_3)) (funext fun e_1 => funext fun x_4 => w_zcn_0 N e_2 x_3 K n e_1 x_4))
def i_zcn_0 {R : Type} (E : List V) (s : S) (k : List V → List V → Int → Int → Option R) : Option R :=
 guardB (frameOk 21 [3, 7, 8, 9] E) <| must (nth E 3) fun u3 => asList 1 u3 fun e_1 f'1 => asOwn 9 f'1 <| must (nth E 7) fun u7 => asList 1 u7 fun e_2 f'2 => asSh f'2 <| atInt E 8 .i64 fun x_3 => atInt E 9 .i64 fun x_4 => asEnd s <| k e_1 e_2 x_3 x_4
theorem i_zcn_0_spec {R : Type} {E : List V} {s : S} {k : List V → List V → Int → Int → Option R} {r : R} (h : i_zcn_0 E s k = some r) : ∃ e_1 e_2 x_3 x_4, E = fr_zcn_0 e_2 x_3 e_1 x_4 ∧ s = [] ∧ k e_1 e_2 x_3 x_4 = some r := by
 unfold i_zcn_0 at h
 obtain ⟨hg, h1⟩ := guardB_some h
 obtain ⟨_, hu3, h2⟩ := must_some h1
 obtain ⟨_, _, rfl, h3⟩ := asList_some h2
 obtain ⟨rfl, h4⟩ := asOwn_some h3
 obtain ⟨_, hu7, h5⟩ := must_some h4
 obtain ⟨_, _, rfl, h6⟩ := asList_some h5
 obtain ⟨rfl, h7⟩ := asSh_some h6
 obtain ⟨_, hu8, h8⟩ := atInt_some h7
 obtain ⟨_, hu9, h9⟩ := atInt_some h8
 obtain ⟨rfl, h10⟩ := asEnd_some h9
 exact ⟨_, _, _, _, frame_is hg rfl (slots_cons hu3 (slots_cons hu7 (slots_cons hu8 (slots_cons hu9 slots_nil)))), rfl, h10⟩
def Λ_zcn_0 (N : Nat) : Looper := (noLooper).add [0, 1, 0, 1, 1] fun _ E s K => i_zcn_0 (killE ks_zcn_0 E) s fun e_1 e_2 x_3 x_4 => l_zcn_0 N e_2 x_3 (kk0_zcn_0 K e_2 x_3) N e_1 x_4
theorem ok_zcn_0 {N : Nat} (hC : Ok Tryz.prog C) (hΦ : CalleeOk Tryz.prog C (Φ_zcl N)) : LoopOk Tryz.prog C (Λ_zcn_0 N) b_zcn_0 [0, 1, 0, 1, 1] :=
 iter_ok (Λi := noLooper) (tr := false) (ks := ks_zcn_0) (kx := kx_zcn_0) (N := N) hC hΦ
  (loopsOk_nil (by kernel_rfl))
  fun R E s K r h => by
   have h2 := Looper.add_self.symm.trans h
   obtain ⟨_, _, _, _, he, rfl, h3⟩ := i_zcn_0_spec h2
   rw [he]
   exact (w_zcn_0 N _ _ _ N _ _).trans h3
theorem at_zcn : loopsAt c_zcn [] = [([0, 1, 0, 1, 1], b_zcn_0)] := by kernel_rfl
theorem b_zcn {R : Type} (N : Nat) (w_1 : ByteArray) (K : V → S → Option R) : bodyV C (Φ_zcl N) (Λ_zcn_0 N) 88 Tryz.f88 [.str w_1] [] K =
 gb_zcn N w_1 (fun e_2 => K (.list 1 e_2 (.own 9)) []) := by kernel_rfl
theorem loops_zcn {N : Nat} (hC : Ok Tryz.prog C) (hΦ : CalleeOk Tryz.prog C (Φ_zcl N)) : LoopsOk Tryz.prog C (Λ_zcn_0 N) c_zcn [] :=
 loopsOk_of c_zcn [] (by
  rw [at_zcn]
  intro p hp
  simp only [List.mem_cons, List.mem_nil_iff, or_false] at hp
  rcases hp with rfl
  ·exact (ok_zcn_0 hC hΦ))
theorem callee_zcn (hC : Ok Tryz.prog C) {N : Nat} (hΦ : CalleeOk Tryz.prog C (Φ_zcl N)) : CalleeOk Tryz.prog C (Φ_zcn N) := by
 refine hΦ.add_own rfl fun R vs K r h => ?_
 unfold f_zcn at h
 obtain ⟨_, rfl, h1⟩ := asN1_some h
 obtain ⟨_, rfl, h2⟩ := asStr_some h1
 obtain ⟨_, h3⟩ := asEnd_some h2
 refine body_own (fn := Tryz.f88) (c := c_zcn) hC hΦ Tryz.func88 (by kernel_rfl) (by kernel_rfl) (loops_zcn (N := N) hC hΦ) rfl rfl ?_
 refine (b_zcn N _ _).trans ?_
 rw [← g_zcn_eq]
 exact h3
def f_zdj (N : Nat) : (R : Type) → List V → S → (V → S → Option R) → Option R := fun _ vs s K =>
 asN1 vs fun v'1 => asStr v'1 fun w_1 => asEnd s <| g_zdj N w_1 (fun b_2 => K (.bool b_2) [])
def Φ_zdj (N : Nat) : Callee := (Φ_zcn N).add 117 (f_zdj N)
def c_zdj : Code := bodyOf Tryz.f117
def b_zdj_0 : Code := (loopNo c_zdj [] 0).2
def ks_zdj_0 : List Nat := butL 51 [0, 3]
def kx_zdj_0 : List Nat := butL 51 [0, 2]
def fr_zdj_0 (w_1 : ByteArray) (x_2 : Int) : List V := mkF 0 51 [(0, .str w_1), (3, .int .i64 x_2)]
def kk0_zdj_0 {R : Type} (K : X → List V → S → Option R) (w_1 : ByteArray) : Unit → Option R := (fun _ => K .ret (mkF 0 51 [(0, .str w_1), (2, .bool false)]) [])
def kk1_zdj_0 {R : Type} (K : X → List V → S → Option R) (w_1 : ByteArray) : Unit → Option R := (fun _ => K (.exit 0) (mkF 0 51 [(0, .str w_1)]) [])
abbrev it_zdj_0 {R : Type} (N : Nat) : Nat → List V → S → (X → List V → S → Option R) → Option R := fun n => iter C (Φ_zcn N) (noLooper) b_zdj_0 [0, 1, 0, 1] false ks_zdj_0 kx_zdj_0 n R
theorem r_zdj_0 {R : Type} (N n : Nat) (w_1 : ByteArray) (x_2 : Int) (K : X → List V → S → Option R) :
 it_zdj_0 N (n + 1) (fr_zdj_0 w_1 x_2) [] K =
 l_zdj_0_step N w_1 (fun x_2 => it_zdj_0 N n (fr_zdj_0 w_1 x_2) [] K) x_2 (kk0_zdj_0 K w_1) (kk1_zdj_0 K w_1) := by kernel_rfl
theorem w_zdj_0 {R : Type} (N : Nat) (w_1 : ByteArray) (K : X → List V → S → Option R) : ∀ (n : Nat) (x_2 : Int),
 it_zdj_0 N n (fr_zdj_0 w_1 x_2) [] K = l_zdj_0 N w_1 (kk0_zdj_0 K w_1) (kk1_zdj_0 K w_1) n x_2
 | 0, _ => rfl
 | n + 1, x_2 => (r_zdj_0 N n w_1 x_2 K).trans (congrArg (fun nx => l_zdj_0_step N w_1 nx x_2 (kk0_zdj_0 K w_1) (kk1_zdj_0 K w_1)) (funext fun x_2 => w_zdj_0 N w_1 K n x_2))
def i_zdj_0 {R : Type} (E : List V) (s : S) (k : ByteArray → Int → Option R) : Option R :=
 guardB (frameOk 51 [0, 3] E) <| atStr E 0 fun w_1 => atInt E 3 .i64 fun x_2 => asEnd s <| k w_1 x_2
theorem i_zdj_0_spec {R : Type} {E : List V} {s : S} {k : ByteArray → Int → Option R} {r : R} (h : i_zdj_0 E s k = some r) : ∃ w_1 x_2, E = fr_zdj_0 w_1 x_2 ∧ s = [] ∧ k w_1 x_2 = some r := by
 unfold i_zdj_0 at h
 obtain ⟨hg, h1⟩ := guardB_some h
 obtain ⟨_, hu0, h2⟩ := atStr_some h1
 obtain ⟨_, hu3, h3⟩ := atInt_some h2
 obtain ⟨rfl, h4⟩ := asEnd_some h3
 exact ⟨_, _, frame_is hg rfl (slots_cons hu0 (slots_cons hu3 slots_nil)), rfl, h4⟩
def Λ_zdj_0 (N : Nat) : Looper := (noLooper).add [0, 1, 0, 1] fun _ E s K => i_zdj_0 (killE ks_zdj_0 E) s fun w_1 x_2 => l_zdj_0 N w_1 (kk0_zdj_0 K w_1) (kk1_zdj_0 K w_1) N x_2
theorem ok_zdj_0 {N : Nat} (hC : Ok Tryz.prog C) (hΦ : CalleeOk Tryz.prog C (Φ_zcn N)) : LoopOk Tryz.prog C (Λ_zdj_0 N) b_zdj_0 [0, 1, 0, 1] :=
 iter_ok (Λi := noLooper) (tr := false) (ks := ks_zdj_0) (kx := kx_zdj_0) (N := N) hC hΦ
  (loopsOk_nil (by kernel_rfl))
  fun R E s K r h => by
   have h2 := Looper.add_self.symm.trans h
   obtain ⟨_, _, he, rfl, h3⟩ := i_zdj_0_spec h2
   rw [he]
   exact (w_zdj_0 N _ _ N _).trans h3
theorem at_zdj : loopsAt c_zdj [] = [([0, 1, 0, 1], b_zdj_0)] := by kernel_rfl
theorem b_zdj {R : Type} (N : Nat) (w_1 : ByteArray) (K : V → S → Option R) : bodyV C (Φ_zcn N) (Λ_zdj_0 N) 117 Tryz.f117 [.str w_1] [] K =
 gb_zdj N w_1 (fun b_2 => K (.bool b_2) []) := by kernel_rfl
theorem loops_zdj {N : Nat} (hC : Ok Tryz.prog C) (hΦ : CalleeOk Tryz.prog C (Φ_zcn N)) : LoopsOk Tryz.prog C (Λ_zdj_0 N) c_zdj [] :=
 loopsOk_of c_zdj [] (by
  rw [at_zdj]
  intro p hp
  simp only [List.mem_cons, List.mem_nil_iff, or_false] at hp
  rcases hp with rfl
  ·exact (ok_zdj_0 hC hΦ))
theorem callee_zdj (hC : Ok Tryz.prog C) {N : Nat} (hΦ : CalleeOk Tryz.prog C (Φ_zcn N)) : CalleeOk Tryz.prog C (Φ_zdj N) := by
 refine hΦ.add_pure rfl fun R vs K r h => ?_
 unfold f_zdj at h
 obtain ⟨_, rfl, h1⟩ := asN1_some h
 obtain ⟨_, rfl, h2⟩ := asStr_some h1
 obtain ⟨_, h3⟩ := asEnd_some h2
 refine body_pure (fn := Tryz.f117) (c := c_zdj) hC hΦ Tryz.func117 (by kernel_rfl) (by kernel_rfl) (loops_zdj (N := N) hC hΦ) rfl rfl ?_
 refine (b_zdj N _ _).trans ?_
 rw [← g_zdj_eq]
 exact h3
def f_zdk (N : Nat) : (R : Type) → List V → S → (V → S → Option R) → Option R := fun _ vs s K =>
 asN1 vs fun v'1 => asStr v'1 fun w_1 => asEnd s <| g_zdk N w_1 (fun b_2 => K (.bool b_2) [])
def Φ_zdk (N : Nat) : Callee := (Φ_zdj N).add 142 (f_zdk N)
def c_zdk : Code := bodyOf Tryz.f142
def b_zdk_0 : Code := (loopNo c_zdk [] 0).2
def ks_zdk_0 : List Nat := butL 27 [0, 6, 7, 8]
def kx_zdk_0 : List Nat := butL 27 [0, 2]
def fr_zdk_0 (w_1 : ByteArray) (e_2 : List V) (x_3 x_4 : Int) : List V := mkF 0 27 [(0, .str w_1), (6, .list 1 e_2 (.own 9)), (7, .int .i64 x_3), (8, .int .i64 x_4)]
def kk0_zdk_0 {R : Type} (K : X → List V → S → Option R) (w_1 : ByteArray) (e_2 : List V) (x_3 : Int) : Unit → Option R := (fun _ => K .ret (mkF 0 27 [(0, .str w_1), (2, .bool false)]) [])
def kk1_zdk_0 {R : Type} (K : X → List V → S → Option R) (w_1 : ByteArray) (e_2 : List V) (x_3 : Int) : Unit → Option R := (fun _ => K (.exit 0) (mkF 0 27 [(0, .str w_1)]) [])
abbrev it_zdk_0 {R : Type} (N : Nat) : Nat → List V → S → (X → List V → S → Option R) → Option R := fun n => iter C (Φ_zdj N) (noLooper) b_zdk_0 [0, 1, 0, 1] false ks_zdk_0 kx_zdk_0 n R
theorem r_zdk_0 {R : Type} (N n : Nat) (w_1 : ByteArray) (e_2 : List V) (x_3 : Int) (x_4 : Int) (K : X → List V → S → Option R) :
 it_zdk_0 N (n + 1) (fr_zdk_0 w_1 e_2 x_3 x_4) [] K =
 l_zdk_0_step N w_1 e_2 x_3 (fun x_4 => it_zdk_0 N n (fr_zdk_0 w_1 e_2 x_3 x_4) [] K) x_4 (kk0_zdk_0 K w_1 e_2 x_3) (kk1_zdk_0 K w_1 e_2 x_3) := by kernel_rfl
theorem w_zdk_0 {R : Type} (N : Nat) (w_1 : ByteArray) (e_2 : List V) (x_3 : Int) (K : X → List V → S → Option R) : ∀ (n : Nat) (x_4 : Int),
 it_zdk_0 N n (fr_zdk_0 w_1 e_2 x_3 x_4) [] K = l_zdk_0 N w_1 e_2 x_3 (kk0_zdk_0 K w_1 e_2 x_3) (kk1_zdk_0 K w_1 e_2 x_3) n x_4
 | 0, _ => rfl
 | n + 1, x_4 => (r_zdk_0 N n w_1 e_2 x_3 x_4 K).trans (congrArg (fun nx => l_zdk_0_step N w_1 e_2 x_3 nx x_4 (kk0_zdk_0 K w_1 e_2 x_3) (kk1_zdk_0 K w_1 e_2 x_3)) (funext fun x_4 => w_zdk_0 N w_1 e_2 x_3 K n x_4))
def i_zdk_0 {R : Type} (E : List V) (s : S) (k : ByteArray → List V → Int → Int → Option R) : Option R :=
 guardB (frameOk 27 [0, 6, 7, 8] E) <| atStr E 0 fun w_1 => must (nth E 6) fun u6 => asList 1 u6 fun e_2 f'1 => asOwn 9 f'1 <| atInt E 7 .i64 fun x_3 => atInt E 8 .i64 fun x_4 => asEnd s <| k w_1 e_2 x_3 x_4
theorem i_zdk_0_spec {R : Type} {E : List V} {s : S} {k : ByteArray → List V → Int → Int → Option R} {r : R} (h : i_zdk_0 E s k = some r) : ∃ w_1 e_2 x_3 x_4, E = fr_zdk_0 w_1 e_2 x_3 x_4 ∧ s = [] ∧ k w_1 e_2 x_3 x_4 = some r := by
 unfold i_zdk_0 at h
 obtain ⟨hg, h1⟩ := guardB_some h
 obtain ⟨_, hu0, h2⟩ := atStr_some h1
 obtain ⟨_, hu6, h3⟩ := must_some h2
 obtain ⟨_, _, rfl, h4⟩ := asList_some h3
 obtain ⟨rfl, h5⟩ := asOwn_some h4
 obtain ⟨_, hu7, h6⟩ := atInt_some h5
 obtain ⟨_, hu8, h7⟩ := atInt_some h6
 obtain ⟨rfl, h8⟩ := asEnd_some h7
 exact ⟨_, _, _, _, frame_is hg rfl (slots_cons hu0 (slots_cons hu6 (slots_cons hu7 (slots_cons hu8 slots_nil)))), rfl, h8⟩
def Λ_zdk_0 (N : Nat) : Looper := (noLooper).add [0, 1, 0, 1] fun _ E s K => i_zdk_0 (killE ks_zdk_0 E) s fun w_1 e_2 x_3 x_4 => l_zdk_0 N w_1 e_2 x_3 (kk0_zdk_0 K w_1 e_2 x_3) (kk1_zdk_0 K w_1 e_2 x_3) N x_4
theorem ok_zdk_0 {N : Nat} (hC : Ok Tryz.prog C) (hΦ : CalleeOk Tryz.prog C (Φ_zdj N)) : LoopOk Tryz.prog C (Λ_zdk_0 N) b_zdk_0 [0, 1, 0, 1] :=
 iter_ok (Λi := noLooper) (tr := false) (ks := ks_zdk_0) (kx := kx_zdk_0) (N := N) hC hΦ
  (loopsOk_nil (by kernel_rfl))
  fun R E s K r h => by
   have h2 := Looper.add_self.symm.trans h
   obtain ⟨_, _, _, _, he, rfl, h3⟩ := i_zdk_0_spec h2
   rw [he]
   exact (w_zdk_0 N _ _ _ _ N _).trans h3
theorem at_zdk : loopsAt c_zdk [] = [([0, 1, 0, 1], b_zdk_0)] := by kernel_rfl
theorem b_zdk {R : Type} (N : Nat) (w_1 : ByteArray) (K : V → S → Option R) : bodyV C (Φ_zdj N) (Λ_zdk_0 N) 142 Tryz.f142 [.str w_1] [] K =
 gb_zdk N w_1 (fun b_2 => K (.bool b_2) []) := by kernel_rfl
theorem loops_zdk {N : Nat} (hC : Ok Tryz.prog C) (hΦ : CalleeOk Tryz.prog C (Φ_zdj N)) : LoopsOk Tryz.prog C (Λ_zdk_0 N) c_zdk [] :=
 loopsOk_of c_zdk [] (by
  rw [at_zdk]
  intro p hp
  simp only [List.mem_cons, List.mem_nil_iff, or_false] at hp
  rcases hp with rfl
  ·exact (ok_zdk_0 hC hΦ))
theorem callee_zdk (hC : Ok Tryz.prog C) {N : Nat} (hΦ : CalleeOk Tryz.prog C (Φ_zdj N)) : CalleeOk Tryz.prog C (Φ_zdk N) := by
 refine hΦ.add_pure rfl fun R vs K r h => ?_
 unfold f_zdk at h
 obtain ⟨_, rfl, h1⟩ := asN1_some h
 obtain ⟨_, rfl, h2⟩ := asStr_some h1
 obtain ⟨_, h3⟩ := asEnd_some h2
 refine body_pure (fn := Tryz.f142) (c := c_zdk) hC hΦ Tryz.func142 (by kernel_rfl) (by kernel_rfl) (loops_zdk (N := N) hC hΦ) rfl rfl ?_
 refine (b_zdk N _ _).trans ?_
 rw [← g_zdk_eq]
 exact h3
def f_zbj (N : Nat) : (R : Type) → List V → S → (V → S → Option R) → Option R := fun _ vs s K =>
 asN2 vs fun v'1 v'2 => un_impl_Fs v'1 fun e_1 f_2 x_3 => asList 2 v'2 fun e_4 f_5 => asEnd s <| g_zbj N e_1 f_2 x_3 e_4 f_5 (fun b_6 => K (.bool b_6) [])
def Φ_zbj (N : Nat) : Callee := (Φ_zdk N).add 167 (f_zbj N)
def c_zbj : Code := bodyOf Tryz.f167
def b_zbj_0 : Code := (loopNo c_zbj [] 0).2
def ks_zbj_0 : List Nat := butL 54 [1, 2, 7, 8, 9]
def kx_zbj_0 : List Nat := butL 54 [4]
def fr_zbj_0 (e_1 : List V) (f_2 : Fl) (e_3 : List V) (f_4 : Fl) (x_5 : Int) (e_7 : List V) (f_8 : Fl) (x_9 x_6 : Int) : List V := mkF 0 54 [(1, .list 2 e_1 f_2), (2, .ptr 0 0 0 0), (7, .list 2 e_3 f_4), (8, .int .i64 x_5), (9, .int .i64 x_6)]
def kk0_zbj_0 {R : Type} (K : X → List V → S → Option R) (e_1 : List V) (f_2 : Fl) (e_3 : List V) (f_4 : Fl) (x_5 : Int) (e_7 : List V) (f_8 : Fl) (x_9 : Int) : Unit → Option R := (fun _ => K .ret (mkF 0 54 [(4, .bool false)]) [some ⟨[.agg [.list 7 e_7 f_8, .int .i64 x_9]], 2, 34, 0⟩])
def kk1_zbj_0 {R : Type} (K : X → List V → S → Option R) (e_1 : List V) (f_2 : Fl) (e_3 : List V) (f_4 : Fl) (x_5 : Int) (e_7 : List V) (f_8 : Fl) (x_9 : Int) : Unit → Option R := (fun _ => K (.exit 0) (mkF 0 54 []) [some ⟨[.agg [.list 7 e_7 f_8, .int .i64 x_9]], 2, 34, 0⟩])
abbrev it_zbj_0 {R : Type} (N : Nat) : Nat → List V → S → (X → List V → S → Option R) → Option R := fun n => iter C (Φ_zdk N) (noLooper) b_zbj_0 [0, 1, 0, 1] true ks_zbj_0 kx_zbj_0 n R
theorem r_zbj_0 {R : Type} (N n : Nat) (e_1 : List V) (f_2 : Fl) (e_3 : List V) (f_4 : Fl) (x_5 : Int) (e_7 : List V) (f_8 : Fl) (x_9 : Int) (x_6 : Int) (K : X → List V → S → Option R) :
 it_zbj_0 N (n + 1) (fr_zbj_0 e_1 f_2 e_3 f_4 x_5 e_7 f_8 x_9 x_6) [some ⟨[.agg [.list 7 e_7 f_8, .int .i64 x_9]], 2, 34, 0⟩] K =
 l_zbj_0_step N e_1 f_2 e_3 f_4 x_5 e_7 f_8 x_9 (fun x_6 => it_zbj_0 N n (fr_zbj_0 e_1 f_2 e_3 f_4 x_5 e_7 f_8 x_9 x_6) [some ⟨[.agg [.list 7 e_7 f_8, .int .i64 x_9]], 2, 34, 0⟩] K) x_6 (kk0_zbj_0 K e_1 f_2 e_3 f_4 x_5 e_7 f_8 x_9) (kk1_zbj_0 K e_1 f_2 e_3 f_4 x_5 e_7 f_8 x_9) := by kernel_rfl
theorem w_zbj_0 {R : Type} (N : Nat) (e_1 : List V) (f_2 : Fl) (e_3 : List V) (f_4 : Fl) (x_5 : Int) (e_7 : List V) (f_8 : Fl) (x_9 : Int) (K : X → List V → S → Option R) : ∀ (n : Nat) (x_6 : Int),
 it_zbj_0 N n (fr_zbj_0 e_1 f_2 e_3 f_4 x_5 e_7 f_8 x_9 x_6) [some ⟨[.agg [.list 7 e_7 f_8, .int .i64 x_9]], 2, 34, 0⟩] K = l_zbj_0 N e_1 f_2 e_3 f_4 x_5 e_7 f_8 x_9 (kk0_zbj_0 K e_1 f_2 e_3 f_4 x_5 e_7 f_8 x_9) (kk1_zbj_0 K e_1 f_2 e_3 f_4 x_5 e_7 f_8 x_9) n x_6
 | 0, _ => rfl
 | n + 1, x_6 => (r_zbj_0 N n e_1 f_2 e_3 f_4 x_5 e_7 f_8 x_9 x_6 K).trans (congrArg (fun nx => l_zbj_0_step N e_1 f_2 e_3 f_4 x_5 e_7 f_8 x_9 nx x_6 (kk0_zbj_0 K e_1 f_2 e_3 f_4 x_5 e_7 f_8 x_9) (kk1_zbj_0 K e_1 f_2 e_3 f_4 x_5 e_7 f_8 x_9)) (funext fun x_6 => w_zbj_0 N e_1 f_2 e_3 f_4 x_5 e_7 f_8 x_9 K n x_6))
def i_zbj_0 {R : Type} (E : List V) (s : S) (k : List V → Fl → List V → Fl → Int → Int → List V → Fl → Int → Option R) : Option R :=
 guardB (frameOk 54 [1, 2, 7, 8, 9] E) <| atList E 1 2 fun e_1 f_2 => atIs E 2 (.ptr 0 0 0 0) <| atList E 7 2 fun e_3 f_4 => atInt E 8 .i64 fun x_5 => atInt E 9 .i64 fun x_6 => asOb s fun o'1 s'2 => obIs o'1 2 34 fun e'3 k'4 => isN k'4 0 <| asN1 e'3 fun v'5 => asAgg v'5 fun c'6 => asN2 c'6 fun v'7 v'8 => asList 7 v'7 fun e_7 f_8 => asInt .i64 v'8 fun x_9 => asEnd s'2 <| k e_1 f_2 e_3 f_4 x_5 x_6 e_7 f_8 x_9
theorem i_zbj_0_spec {R : Type} {E : List V} {s : S} {k : List V → Fl → List V → Fl → Int → Int → List V → Fl → Int → Option R} {r : R} (h : i_zbj_0 E s k = some r) : ∃ e_1 f_2 e_3 f_4 x_5 x_6 e_7 f_8 x_9, E = fr_zbj_0 e_1 f_2 e_3 f_4 x_5 e_7 f_8 x_9 x_6 ∧ s = [some ⟨[.agg [.list 7 e_7 f_8, .int .i64 x_9]], 2, 34, 0⟩] ∧ k e_1 f_2 e_3 f_4 x_5 x_6 e_7 f_8 x_9 = some r := by
 unfold i_zbj_0 at h
 obtain ⟨hg, h1⟩ := guardB_some h
 obtain ⟨_, _, hu1, h2⟩ := atList_some h1
 obtain ⟨hu2, h3⟩ := atIs_some h2
 obtain ⟨_, _, hu7, h4⟩ := atList_some h3
 obtain ⟨_, hu8, h5⟩ := atInt_some h4
 obtain ⟨_, hu9, h6⟩ := atInt_some h5
 obtain ⟨_, _, rfl, h7⟩ := asOb_some h6
 obtain ⟨_, _, rfl, h8⟩ := obIs_some h7
 obtain ⟨rfl, h9⟩ := isN_some h8
 obtain ⟨_, rfl, h10⟩ := asN1_some h9
 obtain ⟨_, rfl, h11⟩ := asAgg_some h10
 obtain ⟨_, _, rfl, h12⟩ := asN2_some h11
 obtain ⟨_, _, rfl, h13⟩ := asList_some h12
 obtain ⟨_, rfl, h14⟩ := asInt_some h13
 obtain ⟨rfl, h15⟩ := asEnd_some h14
 exact ⟨_, _, _, _, _, _, _, _, _, frame_is hg rfl (slots_cons hu1 (slots_cons hu2 (slots_cons hu7 (slots_cons hu8 (slots_cons hu9 slots_nil))))), rfl, h15⟩
def Λ_zbj_0 (N : Nat) : Looper := (noLooper).add [0, 1, 0, 1] fun _ E s K => i_zbj_0 (killE ks_zbj_0 E) s fun e_1 f_2 e_3 f_4 x_5 x_6 e_7 f_8 x_9 => l_zbj_0 N e_1 f_2 e_3 f_4 x_5 e_7 f_8 x_9 (kk0_zbj_0 K e_1 f_2 e_3 f_4 x_5 e_7 f_8 x_9) (kk1_zbj_0 K e_1 f_2 e_3 f_4 x_5 e_7 f_8 x_9) N x_6
theorem ok_zbj_0 {N : Nat} (hC : Ok Tryz.prog C) (hΦ : CalleeOk Tryz.prog C (Φ_zdk N)) : LoopOk Tryz.prog C (Λ_zbj_0 N) b_zbj_0 [0, 1, 0, 1] :=
 iter_ok (Λi := noLooper) (tr := true) (ks := ks_zbj_0) (kx := kx_zbj_0) (N := N) hC hΦ
  (loopsOk_nil (by kernel_rfl))
  fun R E s K r h => by
   have h2 := Looper.add_self.symm.trans h
   obtain ⟨_, _, _, _, _, _, _, _, _, he, rfl, h3⟩ := i_zbj_0_spec h2
   rw [he]
   exact (w_zbj_0 N _ _ _ _ _ _ _ _ _ N _).trans h3
theorem at_zbj : loopsAt c_zbj [] = [([0, 1, 0, 1], b_zbj_0)] := by kernel_rfl
theorem b_zbj {R : Type} (N : Nat) (e_1 : List V) (f_2 : Fl) (x_3 : Int) (e_4 : List V) (f_5 : Fl) (K : V → S → Option R) : bodyV C (Φ_zdk N) (Λ_zbj_0 N) 167 Tryz.f167 [.agg [.list 7 e_1 f_2, .int .i64 x_3], .list 2 e_4 f_5] [] K =
 gb_zbj N e_1 f_2 x_3 e_4 f_5 (fun b_6 => K (.bool b_6) []) := by kernel_rfl
theorem loops_zbj {N : Nat} (hC : Ok Tryz.prog C) (hΦ : CalleeOk Tryz.prog C (Φ_zdk N)) : LoopsOk Tryz.prog C (Λ_zbj_0 N) c_zbj [] :=
 loopsOk_of c_zbj [] (by
  rw [at_zbj]
  intro p hp
  simp only [List.mem_cons, List.mem_nil_iff, or_false] at hp
  rcases hp with rfl
  ·exact (ok_zbj_0 hC hΦ))
theorem callee_zbj (hC : Ok Tryz.prog C) {N : Nat} (hΦ : CalleeOk Tryz.prog C (Φ_zdk N)) : CalleeOk Tryz.prog C (Φ_zbj N) := by
 refine hΦ.add_pure rfl fun R vs K r h => ?_
 unfold f_zbj at h
 obtain ⟨_, _, rfl, h1⟩ := asN2_some h
 obtain ⟨_, _, _, rfl, h2⟩ := un_impl_Fs_some h1
 obtain ⟨_, _, rfl, h3⟩ := asList_some h2
 obtain ⟨_, h4⟩ := asEnd_some h3
 refine body_pure (fn := Tryz.f167) (c := c_zbj) hC hΦ Tryz.func167 (by kernel_rfl) (by kernel_rfl) (loops_zbj (N := N) hC hΦ) rfl rfl ?_
 refine (b_zbj N _ _ _ _ _ _).trans ?_
 rw [← g_zbj_eq]
 exact h4
def f_zdm (N : Nat) : (R : Type) → List V → S → (V → S → Option R) → Option R := fun _ vs s K =>
 asN2 vs fun v'1 v'2 => un_impl_Fs v'1 fun e_1 f_2 x_3 => un_impl_Node v'2 fun x_4 x_5 x_6 x_7 x_8 w_9 e_10 f_11 => asEnd s <| g_zdm N e_1 f_2 x_3 x_4 x_5 x_6 x_7 x_8 w_9 e_10 f_11 (fun b_12 => K (.bool b_12) [])
def Φ_zdm (N : Nat) : Callee := (Φ_zbj N).add 139 (f_zdm N)
def c_zdm : Code := bodyOf Tryz.f139
theorem b_zdm {R : Type} (N : Nat) (e_1 : List V) (f_2 : Fl) (x_3 x_4 x_5 x_6 x_7 x_8 : Int) (w_9 : ByteArray) (e_10 : List V) (f_11 : Fl) (K : V → S → Option R) : bodyV C (Φ_zbj N) (noLooper) 139 Tryz.f139 [.agg [.list 7 e_1 f_2, .int .i64 x_3], .agg [.int .i64 x_4, .int .i64 x_5, .int .i64 x_6, .int .i64 x_7, .int .i64 x_8, .str w_9, .list 2 e_10 f_11]] [] K =
 gb_zdm N e_1 f_2 x_3 x_4 x_5 x_6 x_7 x_8 w_9 e_10 f_11 (fun b_12 => K (.bool b_12) []) := by kernel_rfl
theorem callee_zdm (hC : Ok Tryz.prog C) {N : Nat} (hΦ : CalleeOk Tryz.prog C (Φ_zbj N)) : CalleeOk Tryz.prog C (Φ_zdm N) := by
 refine hΦ.add_pure rfl fun R vs K r h => ?_
 unfold f_zdm at h
 obtain ⟨_, _, rfl, h1⟩ := asN2_some h
 obtain ⟨_, _, _, rfl, h2⟩ := un_impl_Fs_some h1
 obtain ⟨_, _, _, _, _, _, _, _, rfl, h3⟩ := un_impl_Node_some h2
 obtain ⟨_, h4⟩ := asEnd_some h3
 refine body_pure (fn := Tryz.f139) (c := c_zdm) hC hΦ Tryz.func139 (by kernel_rfl) (by kernel_rfl) (loopsOk_nil (Λ := noLooper) (by kernel_rfl)) rfl rfl ?_
 refine (b_zdm N _ _ _ _ _ _ _ _ _ _ _ _).trans ?_
 rw [← g_zdm_eq]
 exact h4
def f_zdq (N : Nat) : (R : Type) → List V → S → (V → S → Option R) → Option R := fun _ vs s K =>
 asN2 vs fun v'1 v'2 => asList 1 v'1 fun e_1 f_2 => asInt .i64 v'2 fun x_3 => asEnd s <| g_zdq N e_1 f_2 x_3 (fun e_4 => K (.list 1 e_4 .sh) [])
def Φ_zdq (N : Nat) : Callee := (Φ_zdm N).add 91 (f_zdq N)
def c_zdq : Code := bodyOf Tryz.f91
def b_zdq_0 : Code := (loopNo c_zdq [] 0).2
def ks_zdq_0 : List Nat := butL 48 [0, 1, 5]
def kx_zdq_0 : List Nat := butL 48 [0, 1, 5]
def fr_zdq_0 (e_1 : List V) (f_2 : Fl) (x_3 x_4 : Int) : List V := mkF 0 48 [(0, .list 1 e_1 f_2), (1, .int .i64 x_3), (5, .int .i64 x_4)]
def kk0_zdq_0 {R : Type} (K : X → List V → S → Option R) (e_1 : List V) (f_2 : Fl) (x_3 : Int) : Int → Option R := (fun x_1' => K (.exit 0) (mkF 0 48 [(0, .list 1 e_1 f_2), (1, .int .i64 x_3), (5, .int .i64 (x_1'))]) [])
abbrev it_zdq_0 {R : Type} (N : Nat) : Nat → List V → S → (X → List V → S → Option R) → Option R := fun n => iter C (Φ_zdm N) (noLooper) b_zdq_0 [0, 0, 1, 1] false ks_zdq_0 kx_zdq_0 n R
theorem r_zdq_0 {R : Type} (N n : Nat) (e_1 : List V) (f_2 : Fl) (x_3 : Int) (x_4 : Int) (K : X → List V → S → Option R) :
 it_zdq_0 N (n + 1) (fr_zdq_0 e_1 f_2 x_3 x_4) [] K =
 l_zdq_0_step N e_1 f_2 x_3 (fun x_4 => it_zdq_0 N n (fr_zdq_0 e_1 f_2 x_3 x_4) [] K) x_4 (kk0_zdq_0 K e_1 f_2 x_3) := by kernel_rfl
theorem w_zdq_0 {R : Type} (N : Nat) (e_1 : List V) (f_2 : Fl) (x_3 : Int) (K : X → List V → S → Option R) : ∀ (n : Nat) (x_4 : Int),
 it_zdq_0 N n (fr_zdq_0 e_1 f_2 x_3 x_4) [] K = l_zdq_0 N e_1 f_2 x_3 (kk0_zdq_0 K e_1 f_2 x_3) n x_4
 | 0, _ => rfl
 | n + 1, x_4 => (r_zdq_0 N n e_1 f_2 x_3 x_4 K).trans (congrArg (fun nx => l_zdq_0_step N e_1 f_2 x_3 nx x_4 (kk0_zdq_0 K e_1 f_2 x_3)) (funext fun x_4 => w_zdq_0 N e_1 f_2 x_3 K n x_4))
def i_zdq_0 {R : Type} (E : List V) (s : S) (k : List V → Fl → Int → Int → Option R) : Option R :=
 guardB (frameOk 48 [0, 1, 5] E) <| atList E 0 1 fun e_1 f_2 => atInt E 1 .i64 fun x_3 => atInt E 5 .i64 fun x_4 => asEnd s <| k e_1 f_2 x_3 x_4
theorem i_zdq_0_spec {R : Type} {E : List V} {s : S} {k : List V → Fl → Int → Int → Option R} {r : R} (h : i_zdq_0 E s k = some r) : ∃ e_1 f_2 x_3 x_4, E = fr_zdq_0 e_1 f_2 x_3 x_4 ∧ s = [] ∧ k e_1 f_2 x_3 x_4 = some r := by
 unfold i_zdq_0 at h
 obtain ⟨hg, h1⟩ := guardB_some h
 obtain ⟨_, _, hu0, h2⟩ := atList_some h1
 obtain ⟨_, hu1, h3⟩ := atInt_some h2
 obtain ⟨_, hu5, h4⟩ := atInt_some h3
 obtain ⟨rfl, h5⟩ := asEnd_some h4
 exact ⟨_, _, _, _, frame_is hg rfl (slots_cons hu0 (slots_cons hu1 (slots_cons hu5 slots_nil))), rfl, h5⟩
def Λ_zdq_0 (N : Nat) : Looper := (noLooper).add [0, 0, 1, 1] fun _ E s K => i_zdq_0 (killE ks_zdq_0 E) s fun e_1 f_2 x_3 x_4 => l_zdq_0 N e_1 f_2 x_3 (kk0_zdq_0 K e_1 f_2 x_3) N x_4
theorem ok_zdq_0 {N : Nat} (hC : Ok Tryz.prog C) (hΦ : CalleeOk Tryz.prog C (Φ_zdm N)) : LoopOk Tryz.prog C (Λ_zdq_0 N) b_zdq_0 [0, 0, 1, 1] :=
 iter_ok (Λi := noLooper) (tr := false) (ks := ks_zdq_0) (kx := kx_zdq_0) (N := N) hC hΦ
  (loopsOk_nil (by kernel_rfl))
  fun R E s K r h => by
   have h2 := Looper.add_self.symm.trans h
   obtain ⟨_, _, _, _, he, rfl, h3⟩ := i_zdq_0_spec h2
   rw [he]
   exact (w_zdq_0 N _ _ _ _ N _).trans h3
theorem at_zdq : loopsAt c_zdq [] = [([0, 0, 1, 1], b_zdq_0)] := by kernel_rfl
theorem b_zdq {R : Type} (N : Nat) (e_1 : List V) (f_2 : Fl) (x_3 : Int) (K : V → S → Option R) : bodyV C (Φ_zdm N) (Λ_zdq_0 N) 91 Tryz.f91 [.list 1 e_1 f_2, .int .i64 x_3] [] K =
 gb_zdq N e_1 f_2 x_3 (fun e_4 => K (.list 1 e_4 .sh) []) := by kernel_rfl
theorem loops_zdq {N : Nat} (hC : Ok Tryz.prog C) (hΦ : CalleeOk Tryz.prog C (Φ_zdm N)) : LoopsOk Tryz.prog C (Λ_zdq_0 N) c_zdq [] :=
 loopsOk_of c_zdq [] (by
  rw [at_zdq]
  intro p hp
  simp only [List.mem_cons, List.mem_nil_iff, or_false] at hp
  rcases hp with rfl
  ·exact (ok_zdq_0 hC hΦ))
theorem callee_zdq (hC : Ok Tryz.prog C) {N : Nat} (hΦ : CalleeOk Tryz.prog C (Φ_zdm N)) : CalleeOk Tryz.prog C (Φ_zdq N) := by
 refine hΦ.add_pure rfl fun R vs K r h => ?_
 unfold f_zdq at h
 obtain ⟨_, _, rfl, h1⟩ := asN2_some h
 obtain ⟨_, _, rfl, h2⟩ := asList_some h1
 obtain ⟨_, rfl, h3⟩ := asInt_some h2
 obtain ⟨_, h4⟩ := asEnd_some h3
 refine body_pure (fn := Tryz.f91) (c := c_zdq) hC hΦ Tryz.func91 (by kernel_rfl) (by kernel_rfl) (loops_zdq (N := N) hC hΦ) rfl rfl ?_
 refine (b_zdq N _ _ _ _).trans ?_
 rw [← g_zdq_eq]
 exact h4
def f_zdr (N M : Nat) : (R : Type) → List V → S → (V → S → Option R) → Option R := fun _ vs s K =>
 asN3 vs fun v'1 v'2 v'3 => un_impl_Fs v'1 fun e_1 f_2 x_3 => asInt .i64 v'2 fun x_4 => asList 1 v'3 fun e_5 f_6 => asEnd s <| g_zdr N M _ e_1 f_2 x_3 x_4 e_5 f_6 (fun e_7 => K (.list 1 e_7 .sh) [])
def Φ_zdr (N M : Nat) : Callee := (Φ_zdq N).add 140 (f_zdr N M)
def c_zdr : Code := bodyOf Tryz.f140
def b_zdr_0 : Code := (loopNo c_zdr [] 0).2
def ks_zdr_0 : List Nat := butL 34 [2, 3, 21, 22, 23]
def kx_zdr_0 : List Nat := butL 34 [2]
def fr_zdr_0 (e_2 : List V) (f_3 : Fl) (x_4 : Int) (e_6 : List V) (f_7 : Fl) (x_8 : Int) (e_1 : List V) (x_5 : Int) : List V := mkF 0 34 [(2, .list 1 e_1 .sh), (3, .ptr 0 0 0 0), (21, .list 2 e_2 f_3), (22, .int .i64 x_4), (23, .int .i64 x_5)]
def kk0_zdr_0 {R : Type} (K : X → List V → S → Option R) (e_2 : List V) (f_3 : Fl) (x_4 : Int) (e_6 : List V) (f_7 : Fl) (x_8 : Int) : List V → Option R := (fun e_1' => K (.exit 0) (mkF 0 34 [(2, .list 1 (e_1') .sh)]) [some ⟨[.agg [.list 7 e_6 f_7, .int .i64 x_8]], 2, 34, 0⟩])
abbrev it_zdr_0 {R : Type} (N M : Nat) : Nat → List V → S → (X → List V → S → Option R) → Option R := fun n => iter C (Φ_zdr N M) (noLooper) b_zdr_0 [0, 1, 0, 1, 1, 1] true ks_zdr_0 kx_zdr_0 n R
theorem r_zdr_0 {R : Type} (N M n : Nat) (e_2 : List V) (f_3 : Fl) (x_4 : Int) (e_6 : List V) (f_7 : Fl) (x_8 : Int) (e_1 : List V) (x_5 : Int) (K : X → List V → S → Option R) :
 it_zdr_0 N M (n + 1) (fr_zdr_0 e_2 f_3 x_4 e_6 f_7 x_8 e_1 x_5) [some ⟨[.agg [.list 7 e_6 f_7, .int .i64 x_8]], 2, 34, 0⟩] K =
 l_zdr_0_step N (g_zdr N M) e_2 f_3 x_4 e_6 f_7 x_8 (fun e_1 x_5 => it_zdr_0 N M n (fr_zdr_0 e_2 f_3 x_4 e_6 f_7 x_8 e_1 x_5) [some ⟨[.agg [.list 7 e_6 f_7, .int .i64 x_8]], 2, 34, 0⟩] K) e_1 x_5 (kk0_zdr_0 K e_2 f_3 x_4 e_6 f_7 x_8) := by kernel_rfl
theorem w_zdr_0 {R : Type} (N M : Nat) (e_2 : List V) (f_3 : Fl) (x_4 : Int) (e_6 : List V) (f_7 : Fl) (x_8 : Int) (K : X → List V → S → Option R) : ∀ (n : Nat) (e_1 : List V) (x_5 : Int),
 it_zdr_0 N M n (fr_zdr_0 e_2 f_3 x_4 e_6 f_7 x_8 e_1 x_5) [some ⟨[.agg [.list 7 e_6 f_7, .int .i64 x_8]], 2, 34, 0⟩] K = l_zdr_0 N (g_zdr N M) e_2 f_3 x_4 e_6 f_7 x_8 (kk0_zdr_0 K e_2 f_3 x_4 e_6 f_7 x_8) n e_1 x_5
 | 0, _, _ => rfl
 | n + 1, e_1, x_5 => (r_zdr_0 N M n e_2 f_3 x_4 e_6 f_7 x_8 e_1 x_5 K).trans (congrArg (fun nx => l_zdr_0_step N (g_zdr N M) e_2 f_3 x_4 e_6 f_7 x_8 nx e_1 x_5 (kk0_zdr_0 K e_2 f_3 x_4 e_6 f_7 x_8)) (funext fun e_1 => funext fun x_5 => w_zdr_0 N M e_2 f_3 x_4 e_6 f_7 x_8 K n e_1 x_5))
def i_zdr_0 {R : Type} (E : List V) (s : S) (k : List V → List V → Fl → Int → Int → List V → Fl → Int → Option R) : Option R :=
 guardB (frameOk 34 [2, 3, 21, 22, 23] E) <| must (nth E 2) fun u2 => asList 1 u2 fun e_1 f'1 => asSh f'1 <| atIs E 3 (.ptr 0 0 0 0) <| atList E 21 2 fun e_2 f_3 => atInt E 22 .i64 fun x_4 => atInt E 23 .i64 fun x_5 => asOb s fun o'2 s'3 => obIs o'2 2 34 fun e'4 k'5 => isN k'5 0 <| asN1 e'4 fun v'6 => asAgg v'6 fun c'7 => asN2 c'7 fun v'8 v'9 => asList 7 v'8 fun e_6 f_7 => asInt .i64 v'9 fun x_8 => asEnd s'3 <| k e_1 e_2 f_3 x_4 x_5 e_6 f_7 x_8
theorem i_zdr_0_spec {R : Type} {E : List V} {s : S} {k : List V → List V → Fl → Int → Int → List V → Fl → Int → Option R} {r : R} (h : i_zdr_0 E s k = some r) : ∃ e_1 e_2 f_3 x_4 x_5 e_6 f_7 x_8, E = fr_zdr_0 e_2 f_3 x_4 e_6 f_7 x_8 e_1 x_5 ∧ s = [some ⟨[.agg [.list 7 e_6 f_7, .int .i64 x_8]], 2, 34, 0⟩] ∧ k e_1 e_2 f_3 x_4 x_5 e_6 f_7 x_8 = some r := by
 unfold i_zdr_0 at h
 obtain ⟨hg, h1⟩ := guardB_some h
 obtain ⟨_, hu2, h2⟩ := must_some h1
 obtain ⟨_, _, rfl, h3⟩ := asList_some h2
 obtain ⟨rfl, h4⟩ := asSh_some h3
 obtain ⟨hu3, h5⟩ := atIs_some h4
 obtain ⟨_, _, hu21, h6⟩ := atList_some h5
 obtain ⟨_, hu22, h7⟩ := atInt_some h6
 obtain ⟨_, hu23, h8⟩ := atInt_some h7
 obtain ⟨_, _, rfl, h9⟩ := asOb_some h8
 obtain ⟨_, _, rfl, h10⟩ := obIs_some h9
 obtain ⟨rfl, h11⟩ := isN_some h10
 obtain ⟨_, rfl, h12⟩ := asN1_some h11
 obtain ⟨_, rfl, h13⟩ := asAgg_some h12
 obtain ⟨_, _, rfl, h14⟩ := asN2_some h13
 obtain ⟨_, _, rfl, h15⟩ := asList_some h14
 obtain ⟨_, rfl, h16⟩ := asInt_some h15
 obtain ⟨rfl, h17⟩ := asEnd_some h16
 exact ⟨_, _, _, _, _, _, _, _, frame_is hg rfl (slots_cons hu2 (slots_cons hu3 (slots_cons hu21 (slots_cons hu22 (slots_cons hu23 slots_nil))))), rfl, h17⟩
def Λ_zdr_0 (N M : Nat) : Looper := (noLooper).add [0, 1, 0, 1, 1, 1] fun _ E s K => i_zdr_0 (killE ks_zdr_0 E) s fun e_1 e_2 f_3 x_4 x_5 e_6 f_7 x_8 => l_zdr_0 N (g_zdr N M) e_2 f_3 x_4 e_6 f_7 x_8 (kk0_zdr_0 K e_2 f_3 x_4 e_6 f_7 x_8) N e_1 x_5
theorem ok_zdr_0 {N M : Nat} (hC : Ok Tryz.prog C) (hΦ : CalleeOk Tryz.prog C (Φ_zdr N M)) : LoopOk Tryz.prog C (Λ_zdr_0 N M) b_zdr_0 [0, 1, 0, 1, 1, 1] :=
 iter_ok (Λi := noLooper) (tr := true) (ks := ks_zdr_0) (kx := kx_zdr_0) (N := N) hC hΦ
  (loopsOk_nil (by kernel_rfl))
  fun R E s K r h => by
   have h2 := Looper.add_self.symm.trans h
   obtain ⟨_, _, _, _, _, _, _, _, he, rfl, h3⟩ := i_zdr_0_spec h2
   rw [he]
   exact (w_zdr_0 N M _ _ _ _ _ _ _ N _ _).trans h3
theorem at_zdr : loopsAt c_zdr [] = [([0, 1, 0, 1, 1, 1], b_zdr_0)] := by kernel_rfl
theorem b_zdr {R : Type} (N M : Nat) (e_1 : List V) (f_2 : Fl) (x_3 x_4 : Int) (e_5 : List V) (f_6 : Fl) (K : V → S → Option R) : bodyV C (Φ_zdr N M) (Λ_zdr_0 N M) 140 Tryz.f140 [.agg [.list 7 e_1 f_2, .int .i64 x_3], .int .i64 x_4, .list 1 e_5 f_6] [] K =
 gb_zdr N (g_zdr N M) e_1 f_2 x_3 x_4 e_5 f_6 (fun e_7 => K (.list 1 e_7 .sh) []) := by kernel_rfl
theorem loops_zdr {N M : Nat} (hC : Ok Tryz.prog C) (hΦ : CalleeOk Tryz.prog C (Φ_zdr N M)) : LoopsOk Tryz.prog C (Λ_zdr_0 N M) c_zdr [] :=
 loopsOk_of c_zdr [] (by
  rw [at_zdr]
  intro p hp
  simp only [List.mem_cons, List.mem_nil_iff, or_false] at hp
  rcases hp with rfl
  ·exact (ok_zdr_0 hC hΦ))
theorem callee_zdr_M (hC : Ok Tryz.prog C) {N : Nat} (hΦ : CalleeOk Tryz.prog C (Φ_zdq N)) : ∀ M, CalleeOk Tryz.prog C (Φ_zdr N M) := by
 intro M
 induction M with
 | zero =>
  refine hΦ.add_pure rfl fun R vs K r h => ?_
  exfalso
  unfold f_zdr at h
  obtain ⟨_, _, _, rfl, h1⟩ := asN3_some h
  obtain ⟨_, _, _, rfl, h2⟩ := un_impl_Fs_some h1
  obtain ⟨_, rfl, h3⟩ := asInt_some h2
  obtain ⟨_, _, rfl, h4⟩ := asList_some h3
  obtain ⟨_, h5⟩ := asEnd_some h4
  rw [g_zdr_zero] at h5
  cases h5
 | succ M ih =>
  refine hΦ.add_pure rfl fun R vs K r h => ?_
  unfold f_zdr at h
  obtain ⟨_, _, _, rfl, h1⟩ := asN3_some h
  obtain ⟨_, _, _, rfl, h2⟩ := un_impl_Fs_some h1
  obtain ⟨_, rfl, h3⟩ := asInt_some h2
  obtain ⟨_, _, rfl, h4⟩ := asList_some h3
  obtain ⟨_, h5⟩ := asEnd_some h4
  refine body_pure (fn := Tryz.f140) (c := c_zdr) hC ih Tryz.func140 (by kernel_rfl) (by kernel_rfl) (loops_zdr (N := N) (M := M) hC ih) rfl rfl ?_
  refine (b_zdr N M _ _ _ _ _ _ _).trans ?_
  rw [← g_zdr_eq]
  exact h5
theorem callee_zdr (hC : Ok Tryz.prog C) {N : Nat} (hΦ : CalleeOk Tryz.prog C (Φ_zdq N)) : CalleeOk Tryz.prog C (Φ_zdr N N) := callee_zdr_M hC hΦ N
def f_zcq (N : Nat) : (R : Type) → List V → S → (V → S → Option R) → Option R := fun _ vs s K =>
 asN2 vs fun v'1 v'2 => un_impl_Fs v'1 fun e_1 f_2 x_3 => asInt .i64 v'2 fun x_4 => asEnd s <| g_zcq N e_1 f_2 x_3 x_4 (fun x_5 => K (.int .i64 x_5) [])
def Φ_zcq (N : Nat) : Callee := (Φ_zdr N N).add 141 (f_zcq N)
def c_zcq : Code := bodyOf Tryz.f141
def b_zcq_1 : Code := (loopNo c_zcq [] 0).2
def b_zcq_0 : Code := (loopNo b_zcq_1 (0 :: [0, 1, 0, 1, 1]) 0).2
def ks_zcq_0 : List Nat := butL 33 [1, 5, 11, 12, 13, 18, 19, 20]
def kx_zcq_0 : List Nat := butL 33 [1, 5, 11, 12, 13]
def fr_zcq_0 (x_1 : Int) (e_3 : List V) (f_4 : Fl) (x_5 x_6 : Int) (e_7 : List V) (f_8 : Fl) (x_9 : Int) (e_11 : List V) (f_12 : Fl) (x_13 x_14 x_15 x_16 x_17 x_18 : Int) (w_19 : ByteArray) (e_20 : List V) (f_21 : Fl) (x_2 x_10 : Int) : List V := mkF 0 33 [(1, .int .i64 x_1), (5, .int .i64 x_2), (11, .list 7 e_3 f_4), (12, .int .i64 x_5), (13, .int .i64 x_6), (18, .list 2 e_7 f_8), (19, .int .i64 x_9), (20, .int .i64 x_10)]
def kk0_zcq_0 {R : Type} (K : X → List V → S → Option R) (x_1 : Int) (e_3 : List V) (f_4 : Fl) (x_5 : Int) (x_6 : Int) (e_7 : List V) (f_8 : Fl) (x_9 : Int) (e_11 : List V) (f_12 : Fl) (x_13 : Int) (x_14 : Int) (x_15 : Int) (x_16 : Int) (x_17 : Int) (x_18 : Int) (w_19 : ByteArray) (e_20 : List V) (f_21 : Fl) : Int → Option R := (fun x_1' => K (.exit 2) (mkF 0 33 [(1, .int .i64 x_1), (5, .int .i64 (x_1')), (11, .list 7 e_3 f_4), (12, .int .i64 x_5), (13, .int .i64 x_6)]) [some ⟨[.agg [.list 7 e_11 f_12, .int .i64 x_13]], 2, 34, 0⟩, some ⟨[.agg [.int .i64 x_14, .int .i64 x_15, .int .i64 x_16, .int .i64 x_17, .int .i64 x_18, .str w_19, .list 2 e_20 f_21]], 7, 87, 0⟩])
abbrev it_zcq_0 {R : Type} (N : Nat) : Nat → List V → S → (X → List V → S → Option R) → Option R := fun n => iter C (Φ_zdr N N) (noLooper) b_zcq_0 [0, 1, 1, 0, 0, 1, 1, 0, 0, 1, 0, 1, 1] true ks_zcq_0 kx_zcq_0 n R
theorem r_zcq_0 {R : Type} (N n : Nat) (x_1 : Int) (e_3 : List V) (f_4 : Fl) (x_5 x_6 : Int) (e_7 : List V) (f_8 : Fl) (x_9 : Int) (e_11 : List V) (f_12 : Fl) (x_13 x_14 x_15 x_16 x_17 x_18 : Int) (w_19 : ByteArray) (e_20 : List V) (f_21 : Fl) (x_2 x_10 : Int) (K : X → List V → S → Option R) :
 it_zcq_0 N (n + 1) (fr_zcq_0 x_1 e_3 f_4 x_5 x_6 e_7 f_8 x_9 e_11 f_12 x_13 x_14 x_15 x_16 x_17 x_18 w_19 e_20 f_21 x_2 x_10) [some ⟨[.agg [.list 7 e_11 f_12, .int .i64 x_13]], 2, 34, 0⟩, some ⟨[.agg [.int .i64 x_14, .int .i64 x_15, .int .i64 x_16, .int .i64 x_17, .int .i64 x_18, .str w_19, .list 2 e_20 f_21]], 7, 87, 0⟩] K =
 l_zcq_0_step N x_1 e_3 f_4 x_5 x_6 e_7 f_8 x_9 e_11 f_12 x_13 x_14 x_15 x_16 x_17 x_18 w_19 e_20 f_21 (fun x_2 x_10 => it_zcq_0 N n (fr_zcq_0 x_1 e_3 f_4 x_5 x_6 e_7 f_8 x_9 e_11 f_12 x_13 x_14 x_15 x_16 x_17 x_18 w_19 e_20 f_21 x_2 x_10) [some ⟨[.agg [.list 7 e_11 f_12, .int .i64 x_13]], 2, 34, 0⟩, some ⟨[.agg [.int .i64 x_14, .int .i64 x_15, .int .i64 x_16, .int .i64 x_17, .int .i64 x_18, .str w_19, .list 2 e_20 f_21]], 7, 87, 0⟩] K) x_2 x_10 (kk0_zcq_0 K x_1 e_3 f_4 x_5 x_6 e_7 f_8 x_9 e_11 f_12 x_13 x_14 x_15 x_16 x_17 x_18 w_19 e_20 f_21) := by kernel_rfl
theorem w_zcq_0 {R : Type} (N : Nat) (x_1 : Int) (e_3 : List V) (f_4 : Fl) (x_5 x_6 : Int) (e_7 : List V) (f_8 : Fl) (x_9 : Int) (e_11 : List V) (f_12 : Fl) (x_13 x_14 x_15 x_16 x_17 x_18 : Int) (w_19 : ByteArray) (e_20 : List V) (f_21 : Fl) (K : X → List V → S → Option R) : ∀ (n : Nat) (x_2 x_10 : Int),
 it_zcq_0 N n (fr_zcq_0 x_1 e_3 f_4 x_5 x_6 e_7 f_8 x_9 e_11 f_12 x_13 x_14 x_15 x_16 x_17 x_18 w_19 e_20 f_21 x_2 x_10) [some ⟨[.agg [.list 7 e_11 f_12, .int .i64 x_13]], 2, 34, 0⟩, some ⟨[.agg [.int .i64 x_14, .int .i64 x_15, .int .i64 x_16, .int .i64 x_17, .int .i64 x_18, .str w_19, .list 2 e_20 f_21]], 7, 87, 0⟩] K = l_zcq_0 N x_1 e_3 f_4 x_5 x_6 e_7 f_8 x_9 e_11 f_12 x_13 x_14 x_15 x_16 x_17 x_18 w_19 e_20 f_21 (kk0_zcq_0 K x_1 e_3 f_4 x_5 x_6 e_7 f_8 x_9 e_11 f_12 x_13 x_14 x_15 x_16 x_17 x_18 w_19 e_20 f_21) n x_2 x_10
 | 0, _, _ => rfl
 | n + 1, x_2, x_10 => (r_zcq_0 N n x_1 e_3 f_4 x_5 x_6 e_7 f_8 x_9 e_11 f_12 x_13 x_14 x_15 x_16 x_17 x_18 w_19 e_20 f_21 x_2 x_10 K).trans (congrArg (fun nx => l_zcq_0_step N x_1 e_3 f_4 x_5 x_6 e_7 f_8 x_9 e_11 f_12 x_13 x_14 x_15 x_16 x_17 x_18 w_19 e_20 f_21 nx x_2 x_10 (kk0_zcq_0 K x_1 e_3 f_4 x_5 x_6 e_7 f_8 x_9 e_11 f_12 x_13 x_14 x_15 x_16 x_17 x_18 w_19 e_20 f_21)) (funext fun x_2 => funext fun x_10 => w_zcq_0 N x_1 e_3 f_4 x_5 x_6 e_7 f_8 x_9 e_11 f_12 x_13 x_14 x_15 x_16 x_17 x_18 w_19 e_20 f_21 K n x_2 x_10))
def i_zcq_0 {R : Type} (E : List V) (s : S) (k : Int → Int → List V → Fl → Int → Int → List V → Fl → Int → Int → List V → Fl → Int → Int → Int → Int → Int → Int → ByteArray → List V → Fl → Option R) : Option R :=
 guardB (frameOk 33 [1, 5, 11, 12, 13, 18, 19, 20] E) <| atInt E 1 .i64 fun x_1 => atInt E 5 .i64 fun x_2 => atList E 11 7 fun e_3 f_4 => atInt E 12 .i64 fun x_5 => atInt E 13 .i64 fun x_6 => atList E 18 2 fun e_7 f_8 => atInt E 19 .i64 fun x_9 => atInt E 20 .i64 fun x_10 => asOb s fun o'1 s'2 => obIs o'1 2 34 fun e'3 k'4 => isN k'4 0 <| asN1 e'3 fun v'5 => asAgg v'5 fun c'6 => asN2 c'6 fun v'7 v'8 => asList 7 v'7 fun e_11 f_12 => asInt .i64 v'8 fun x_13 => asOb s'2 fun o'9 s'10 => obIs o'9 7 87 fun e'11 k'12 => isN k'12 0 <| asN1 e'11 fun v'13 => asAgg v'13 fun c'14 => asN7 c'14 fun v'15 v'16 v'17 v'18 v'19 v'20 v'21 => asInt .i64 v'15 fun x_14 => asInt .i64 v'16 fun x_15 => asInt .i64 v'17 fun x_16 => asInt .i64 v'18 fun x_17 => asInt .i64 v'19 fun x_18 => asStr v'20 fun w_19 => asList 2 v'21 fun e_20 f_21 => asEnd s'10 <| k x_1 x_2 e_3 f_4 x_5 x_6 e_7 f_8 x_9 x_10 e_11 f_12 x_13 x_14 x_15 x_16 x_17 x_18 w_19 e_20 f_21
theorem i_zcq_0_spec {R : Type} {E : List V} {s : S} {k : Int → Int → List V → Fl → Int → Int → List V → Fl → Int → Int → List V → Fl → Int → Int → Int → Int → Int → Int → ByteArray → List V → Fl → Option R} {r : R} (h : i_zcq_0 E s k = some r) : ∃ x_1 x_2 e_3 f_4 x_5 x_6 e_7 f_8 x_9 x_10 e_11 f_12 x_13 x_14 x_15 x_16 x_17 x_18 w_19 e_20 f_21, E = fr_zcq_0 x_1 e_3 f_4 x_5 x_6 e_7 f_8 x_9 e_11 f_12 x_13 x_14 x_15 x_16 x_17 x_18 w_19 e_20 f_21 x_2 x_10 ∧ s = [some ⟨[.agg [.list 7 e_11 f_12, .int .i64 x_13]], 2, 34, 0⟩, some ⟨[.agg [.int .i64 x_14, .int .i64 x_15, .int .i64 x_16, .int .i64 x_17, .int .i64 x_18, .str w_19, .list 2 e_20 f_21]], 7, 87, 0⟩] ∧ k x_1 x_2 e_3 f_4 x_5 x_6 e_7 f_8 x_9 x_10 e_11 f_12 x_13 x_14 x_15 x_16 x_17 x_18 w_19 e_20 f_21 = some r := by
 unfold i_zcq_0 at h
 obtain ⟨hg, h1⟩ := guardB_some h
 obtain ⟨_, hu1, h2⟩ := atInt_some h1
 obtain ⟨_, hu5, h3⟩ := atInt_some h2
 obtain ⟨_, _, hu11, h4⟩ := atList_some h3
 obtain ⟨_, hu12, h5⟩ := atInt_some h4
 obtain ⟨_, hu13, h6⟩ := atInt_some h5
 obtain ⟨_, _, hu18, h7⟩ := atList_some h6
 obtain ⟨_, hu19, h8⟩ := atInt_some h7
 obtain ⟨_, hu20, h9⟩ := atInt_some h8
 obtain ⟨_, _, rfl, h10⟩ := asOb_some h9
 obtain ⟨_, _, rfl, h11⟩ := obIs_some h10
 obtain ⟨rfl, h12⟩ := isN_some h11
 obtain ⟨_, rfl, h13⟩ := asN1_some h12
 obtain ⟨_, rfl, h14⟩ := asAgg_some h13
 obtain ⟨_, _, rfl, h15⟩ := asN2_some h14
 obtain ⟨_, _, rfl, h16⟩ := asList_some h15
 obtain ⟨_, rfl, h17⟩ := asInt_some h16
 obtain ⟨_, _, rfl, h18⟩ := asOb_some h17
 obtain ⟨_, _, rfl, h19⟩ := obIs_some h18
 obtain ⟨rfl, h20⟩ := isN_some h19
 obtain ⟨_, rfl, h21⟩ := asN1_some h20
 obtain ⟨_, rfl, h22⟩ := asAgg_some h21
 obtain ⟨_, _, _, _, _, _, _, rfl, h23⟩ := asN7_some h22
 obtain ⟨_, rfl, h24⟩ := asInt_some h23
 obtain ⟨_, rfl, h25⟩ := asInt_some h24
 obtain ⟨_, rfl, h26⟩ := asInt_some h25
 obtain ⟨_, rfl, h27⟩ := asInt_some h26
 obtain ⟨_, rfl, h28⟩ := asInt_some h27
 obtain ⟨_, rfl, h29⟩ := asStr_some h28
 obtain ⟨_, _, rfl, h30⟩ := asList_some h29
 obtain ⟨rfl, h31⟩ := asEnd_some h30
 exact ⟨_, _, _, _, _, _, _, _, _, _, _, _, _, _, _, _, _, _, _, _, _, frame_is hg rfl (slots_cons hu1 (slots_cons hu5 (slots_cons hu11 (slots_cons hu12 (slots_cons hu13 (slots_cons hu18 (slots_cons hu19 (slots_cons hu20 slots_nil)))))))), rfl, h31⟩
def Λ_zcq_0 (N : Nat) : Looper := (noLooper).add [0, 1, 1, 0, 0, 1, 1, 0, 0, 1, 0, 1, 1] fun _ E s K => i_zcq_0 (killE ks_zcq_0 E) s fun x_1 x_2 e_3 f_4 x_5 x_6 e_7 f_8 x_9 x_10 e_11 f_12 x_13 x_14 x_15 x_16 x_17 x_18 w_19 e_20 f_21 => l_zcq_0 N x_1 e_3 f_4 x_5 x_6 e_7 f_8 x_9 e_11 f_12 x_13 x_14 x_15 x_16 x_17 x_18 w_19 e_20 f_21 (kk0_zcq_0 K x_1 e_3 f_4 x_5 x_6 e_7 f_8 x_9 e_11 f_12 x_13 x_14 x_15 x_16 x_17 x_18 w_19 e_20 f_21) N x_2 x_10
theorem ok_zcq_0 {N : Nat} (hC : Ok Tryz.prog C) (hΦ : CalleeOk Tryz.prog C (Φ_zdr N N)) : LoopOk Tryz.prog C (Λ_zcq_0 N) b_zcq_0 [0, 1, 1, 0, 0, 1, 1, 0, 0, 1, 0, 1, 1] :=
 iter_ok (Λi := noLooper) (tr := true) (ks := ks_zcq_0) (kx := kx_zcq_0) (N := N) hC hΦ
  (loopsOk_nil (by kernel_rfl))
  fun R E s K r h => by
   have h2 := Looper.add_self.symm.trans h
   obtain ⟨_, _, _, _, _, _, _, _, _, _, _, _, _, _, _, _, _, _, _, _, _, he, rfl, h3⟩ := i_zcq_0_spec h2
   rw [he]
   exact (w_zcq_0 N _ _ _ _ _ _ _ _ _ _ _ _ _ _ _ _ _ _ _ _ N _ _).trans h3
def ks_zcq_1 : List Nat := butL 33 [1, 5, 11, 12, 13]
def kx_zcq_1 : List Nat := butL 33 [5]
def fr_zcq_1 (x_1 : Int) (e_3 : List V) (f_4 : Fl) (x_5 : Int) (e_7 : List V) (f_8 : Fl) (x_9 x_2 x_6 : Int) : List V := mkF 0 33 [(1, .int .i64 x_1), (5, .int .i64 x_2), (11, .list 7 e_3 f_4), (12, .int .i64 x_5), (13, .int .i64 x_6)]
def kk0_zcq_1 {R : Type} (K : X → List V → S → Option R) (x_1 : Int) (e_3 : List V) (f_4 : Fl) (x_5 : Int) (e_7 : List V) (f_8 : Fl) (x_9 : Int) : Int → Option R := (fun x_1' => K (.exit 0) (mkF 0 33 [(5, .int .i64 (x_1'))]) [some ⟨[.agg [.list 7 e_7 f_8, .int .i64 x_9]], 2, 34, 0⟩])
abbrev it_zcq_1 {R : Type} (N : Nat) : Nat → List V → S → (X → List V → S → Option R) → Option R := fun n => iter C (Φ_zdr N N) (Λ_zcq_0 N) b_zcq_1 [0, 1, 0, 1, 1] true ks_zcq_1 kx_zcq_1 n R
theorem r_zcq_1 {R : Type} (N n : Nat) (x_1 : Int) (e_3 : List V) (f_4 : Fl) (x_5 : Int) (e_7 : List V) (f_8 : Fl) (x_9 : Int) (x_2 x_6 : Int) (K : X → List V → S → Option R) :
 it_zcq_1 N (n + 1) (fr_zcq_1 x_1 e_3 f_4 x_5 e_7 f_8 x_9 x_2 x_6) [some ⟨[.agg [.list 7 e_7 f_8, .int .i64 x_9]], 2, 34, 0⟩] K =
 l_zcq_1_step N x_1 e_3 f_4 x_5 e_7 f_8 x_9 (fun x_2 x_6 => it_zcq_1 N n (fr_zcq_1 x_1 e_3 f_4 x_5 e_7 f_8 x_9 x_2 x_6) [some ⟨[.agg [.list 7 e_7 f_8, .int .i64 x_9]], 2, 34, 0⟩] K) x_2 x_6 (kk0_zcq_1 K x_1 e_3 f_4 x_5 e_7 f_8 x_9) := by kernel_rfl
theorem w_zcq_1 {R : Type} (N : Nat) (x_1 : Int) (e_3 : List V) (f_4 : Fl) (x_5 : Int) (e_7 : List V) (f_8 : Fl) (x_9 : Int) (K : X → List V → S → Option R) : ∀ (n : Nat) (x_2 x_6 : Int),
 it_zcq_1 N n (fr_zcq_1 x_1 e_3 f_4 x_5 e_7 f_8 x_9 x_2 x_6) [some ⟨[.agg [.list 7 e_7 f_8, .int .i64 x_9]], 2, 34, 0⟩] K = l_zcq_1 N x_1 e_3 f_4 x_5 e_7 f_8 x_9 (kk0_zcq_1 K x_1 e_3 f_4 x_5 e_7 f_8 x_9) n x_2 x_6
 | 0, _, _ => rfl
 | n + 1, x_2, x_6 => (r_zcq_1 N n x_1 e_3 f_4 x_5 e_7 f_8 x_9 x_2 x_6 K).trans (congrArg (fun nx => l_zcq_1_step N x_1 e_3 f_4 x_5 e_7 f_8 x_9 nx x_2 x_6 (kk0_zcq_1 K x_1 e_3 f_4 x_5 e_7 f_8 x_9)) (funext fun x_2 => funext fun x_6 => w_zcq_1 N x_1 e_3 f_4 x_5 e_7 f_8 x_9 K n x_2 x_6))
def i_zcq_1 {R : Type} (E : List V) (s : S) (k : Int → Int → List V → Fl → Int → Int → List V → Fl → Int → Option R) : Option R :=
 guardB (frameOk 33 [1, 5, 11, 12, 13] E) <| atInt E 1 .i64 fun x_1 => atInt E 5 .i64 fun x_2 => atList E 11 7 fun e_3 f_4 => atInt E 12 .i64 fun x_5 => atInt E 13 .i64 fun x_6 => asOb s fun o'1 s'2 => obIs o'1 2 34 fun e'3 k'4 => isN k'4 0 <| asN1 e'3 fun v'5 => asAgg v'5 fun c'6 => asN2 c'6 fun v'7 v'8 => asList 7 v'7 fun e_7 f_8 => asInt .i64 v'8 fun x_9 => asEnd s'2 <| k x_1 x_2 e_3 f_4 x_5 x_6 e_7 f_8 x_9
theorem i_zcq_1_spec {R : Type} {E : List V} {s : S} {k : Int → Int → List V → Fl → Int → Int → List V → Fl → Int → Option R} {r : R} (h : i_zcq_1 E s k = some r) : ∃ x_1 x_2 e_3 f_4 x_5 x_6 e_7 f_8 x_9, E = fr_zcq_1 x_1 e_3 f_4 x_5 e_7 f_8 x_9 x_2 x_6 ∧ s = [some ⟨[.agg [.list 7 e_7 f_8, .int .i64 x_9]], 2, 34, 0⟩] ∧ k x_1 x_2 e_3 f_4 x_5 x_6 e_7 f_8 x_9 = some r := by
 unfold i_zcq_1 at h
 obtain ⟨hg, h1⟩ := guardB_some h
 obtain ⟨_, hu1, h2⟩ := atInt_some h1
 obtain ⟨_, hu5, h3⟩ := atInt_some h2
 obtain ⟨_, _, hu11, h4⟩ := atList_some h3
 obtain ⟨_, hu12, h5⟩ := atInt_some h4
 obtain ⟨_, hu13, h6⟩ := atInt_some h5
 obtain ⟨_, _, rfl, h7⟩ := asOb_some h6
 obtain ⟨_, _, rfl, h8⟩ := obIs_some h7
 obtain ⟨rfl, h9⟩ := isN_some h8
 obtain ⟨_, rfl, h10⟩ := asN1_some h9
 obtain ⟨_, rfl, h11⟩ := asAgg_some h10
 obtain ⟨_, _, rfl, h12⟩ := asN2_some h11
 obtain ⟨_, _, rfl, h13⟩ := asList_some h12
 obtain ⟨_, rfl, h14⟩ := asInt_some h13
 obtain ⟨rfl, h15⟩ := asEnd_some h14
 exact ⟨_, _, _, _, _, _, _, _, _, frame_is hg rfl (slots_cons hu1 (slots_cons hu5 (slots_cons hu11 (slots_cons hu12 (slots_cons hu13 slots_nil))))), rfl, h15⟩
def Λ_zcq_1 (N : Nat) : Looper := (Λ_zcq_0 N).add [0, 1, 0, 1, 1] fun _ E s K => i_zcq_1 (killE ks_zcq_1 E) s fun x_1 x_2 e_3 f_4 x_5 x_6 e_7 f_8 x_9 => l_zcq_1 N x_1 e_3 f_4 x_5 e_7 f_8 x_9 (kk0_zcq_1 K x_1 e_3 f_4 x_5 e_7 f_8 x_9) N x_2 x_6
theorem in_zcq_1 : loopsAt b_zcq_1 (0 :: [0, 1, 0, 1, 1]) = [([0, 1, 1, 0, 0, 1, 1, 0, 0, 1, 0, 1, 1], b_zcq_0)] := by kernel_rfl
theorem ok_zcq_1 {N : Nat} (hC : Ok Tryz.prog C) (hΦ : CalleeOk Tryz.prog C (Φ_zdr N N)) : LoopOk Tryz.prog C (Λ_zcq_1 N) b_zcq_1 [0, 1, 0, 1, 1] :=
 iter_ok (Λi := Λ_zcq_0 N) (tr := true) (ks := ks_zcq_1) (kx := kx_zcq_1) (N := N) hC hΦ
  (loopsOk_of b_zcq_1 _ (by
   rw [in_zcq_1]
   intro p hp
   simp only [List.mem_cons, List.mem_nil_iff, or_false] at hp
   rcases hp with rfl
   ·exact (ok_zcq_0 hC hΦ)))
  fun R E s K r h => by
   have h2 := Looper.add_self.symm.trans h
   obtain ⟨_, _, _, _, _, _, _, _, _, he, rfl, h3⟩ := i_zcq_1_spec h2
   rw [he]
   exact (w_zcq_1 N _ _ _ _ _ _ _ _ N _ _).trans h3
theorem at_zcq : loopsAt c_zcq [] = [([0, 1, 0, 1, 1], b_zcq_1)] := by kernel_rfl
theorem b_zcq {R : Type} (N : Nat) (e_1 : List V) (f_2 : Fl) (x_3 x_4 : Int) (K : V → S → Option R) : bodyV C (Φ_zdr N N) (Λ_zcq_1 N) 141 Tryz.f141 [.agg [.list 7 e_1 f_2, .int .i64 x_3], .int .i64 x_4] [] K =
 gb_zcq N e_1 f_2 x_3 x_4 (fun x_5 => K (.int .i64 x_5) []) := by kernel_rfl
theorem loops_zcq {N : Nat} (hC : Ok Tryz.prog C) (hΦ : CalleeOk Tryz.prog C (Φ_zdr N N)) : LoopsOk Tryz.prog C (Λ_zcq_1 N) c_zcq [] :=
 loopsOk_of c_zcq [] (by
  rw [at_zcq]
  intro p hp
  simp only [List.mem_cons, List.mem_nil_iff, or_false] at hp
  rcases hp with rfl
  ·exact (ok_zcq_1 hC hΦ))
theorem callee_zcq (hC : Ok Tryz.prog C) {N : Nat} (hΦ : CalleeOk Tryz.prog C (Φ_zdr N N)) : CalleeOk Tryz.prog C (Φ_zcq N) := by
 refine hΦ.add_pure rfl fun R vs K r h => ?_
 unfold f_zcq at h
 obtain ⟨_, _, rfl, h1⟩ := asN2_some h
 obtain ⟨_, _, _, rfl, h2⟩ := un_impl_Fs_some h1
 obtain ⟨_, rfl, h3⟩ := asInt_some h2
 obtain ⟨_, h4⟩ := asEnd_some h3
 refine body_pure (fn := Tryz.f141) (c := c_zcq) hC hΦ Tryz.func141 (by kernel_rfl) (by kernel_rfl) (loops_zcq (N := N) hC hΦ) rfl rfl ?_
 refine (b_zcq N _ _ _ _ _).trans ?_
 rw [← g_zcq_eq]
 exact h4
def f_zdl (N : Nat) : (R : Type) → List V → S → (V → S → Option R) → Option R := fun _ vs s K =>
 asN1 vs fun v'1 => un_impl_Fs v'1 fun e_1 f_2 x_3 => asEnd s <| g_zdl N e_1 f_2 x_3 (fun b_4 => K (.bool b_4) [])
def Φ_zdl (N : Nat) : Callee := (Φ_zcq N).add 85 (f_zdl N)
def c_zdl : Code := bodyOf Tryz.f85
def b_zdl_0 : Code := (loopNo c_zdl [] 0).2
def b_zdl_1 : Code := (loopNo c_zdl [] 1).2
def ks_zdl_0 : List Nat := butL 91 [1, 36, 37, 38]
def kx_zdl_0 : List Nat := butL 91 [1, 2]
def fr_zdl_0 (e_1 : List V) (f_2 : Fl) (x_3 : Int) (e_5 : List V) (f_6 : Fl) (x_7 x_4 : Int) : List V := mkF 0 91 [(1, .ptr 0 0 0 0), (36, .list 7 e_1 f_2), (37, .int .i64 x_3), (38, .int .i64 x_4)]
def kk0_zdl_0 {R : Type} (K : X → List V → S → Option R) (e_1 : List V) (f_2 : Fl) (x_3 : Int) (e_5 : List V) (f_6 : Fl) (x_7 : Int) : Unit → Option R := (fun _ => K .ret (mkF 0 91 [(1, .ptr 0 0 0 0), (2, .bool false)]) [some ⟨[.agg [.list 7 e_5 f_6, .int .i64 x_7]], 2, 34, 0⟩])
def kk1_zdl_0 {R : Type} (K : X → List V → S → Option R) (e_1 : List V) (f_2 : Fl) (x_3 : Int) (e_5 : List V) (f_6 : Fl) (x_7 : Int) : Unit → Option R := (fun _ => K (.exit 0) (mkF 0 91 [(1, .ptr 0 0 0 0)]) [some ⟨[.agg [.list 7 e_5 f_6, .int .i64 x_7]], 2, 34, 0⟩])
abbrev it_zdl_0 {R : Type} (N : Nat) : Nat → List V → S → (X → List V → S → Option R) → Option R := fun n => iter C (Φ_zcq N) (noLooper) b_zdl_0 [0, 1, 0, 1, 1] true ks_zdl_0 kx_zdl_0 n R
theorem r_zdl_0 {R : Type} (N n : Nat) (e_1 : List V) (f_2 : Fl) (x_3 : Int) (e_5 : List V) (f_6 : Fl) (x_7 : Int) (x_4 : Int) (K : X → List V → S → Option R) :
 it_zdl_0 N (n + 1) (fr_zdl_0 e_1 f_2 x_3 e_5 f_6 x_7 x_4) [some ⟨[.agg [.list 7 e_5 f_6, .int .i64 x_7]], 2, 34, 0⟩] K =
 l_zdl_0_step N e_1 f_2 x_3 e_5 f_6 x_7 (fun x_4 => it_zdl_0 N n (fr_zdl_0 e_1 f_2 x_3 e_5 f_6 x_7 x_4) [some ⟨[.agg [.list 7 e_5 f_6, .int .i64 x_7]], 2, 34, 0⟩] K) x_4 (kk0_zdl_0 K e_1 f_2 x_3 e_5 f_6 x_7) (kk1_zdl_0 K e_1 f_2 x_3 e_5 f_6 x_7) := by kernel_rfl
theorem w_zdl_0 {R : Type} (N : Nat) (e_1 : List V) (f_2 : Fl) (x_3 : Int) (e_5 : List V) (f_6 : Fl) (x_7 : Int) (K : X → List V → S → Option R) : ∀ (n : Nat) (x_4 : Int),
 it_zdl_0 N n (fr_zdl_0 e_1 f_2 x_3 e_5 f_6 x_7 x_4) [some ⟨[.agg [.list 7 e_5 f_6, .int .i64 x_7]], 2, 34, 0⟩] K = l_zdl_0 N e_1 f_2 x_3 e_5 f_6 x_7 (kk0_zdl_0 K e_1 f_2 x_3 e_5 f_6 x_7) (kk1_zdl_0 K e_1 f_2 x_3 e_5 f_6 x_7) n x_4
 | 0, _ => rfl
 | n + 1, x_4 => (r_zdl_0 N n e_1 f_2 x_3 e_5 f_6 x_7 x_4 K).trans (congrArg (fun nx => l_zdl_0_step N e_1 f_2 x_3 e_5 f_6 x_7 nx x_4 (kk0_zdl_0 K e_1 f_2 x_3 e_5 f_6 x_7) (kk1_zdl_0 K e_1 f_2 x_3 e_5 f_6 x_7)) (funext fun x_4 => w_zdl_0 N e_1 f_2 x_3 e_5 f_6 x_7 K n x_4))
def i_zdl_0 {R : Type} (E : List V) (s : S) (k : List V → Fl → Int → Int → List V → Fl → Int → Option R) : Option R :=
 guardB (frameOk 91 [1, 36, 37, 38] E) <| atIs E 1 (.ptr 0 0 0 0) <| atList E 36 7 fun e_1 f_2 => atInt E 37 .i64 fun x_3 => atInt E 38 .i64 fun x_4 => asOb s fun o'1 s'2 => obIs o'1 2 34 fun e'3 k'4 => isN k'4 0 <| asN1 e'3 fun v'5 => asAgg v'5 fun c'6 => asN2 c'6 fun v'7 v'8 => asList 7 v'7 fun e_5 f_6 => asInt .i64 v'8 fun x_7 => asEnd s'2 <| k e_1 f_2 x_3 x_4 e_5 f_6 x_7
theorem i_zdl_0_spec {R : Type} {E : List V} {s : S} {k : List V → Fl → Int → Int → List V → Fl → Int → Option R} {r : R} (h : i_zdl_0 E s k = some r) : ∃ e_1 f_2 x_3 x_4 e_5 f_6 x_7, E = fr_zdl_0 e_1 f_2 x_3 e_5 f_6 x_7 x_4 ∧ s = [some ⟨[.agg [.list 7 e_5 f_6, .int .i64 x_7]], 2, 34, 0⟩] ∧ k e_1 f_2 x_3 x_4 e_5 f_6 x_7 = some r := by
 unfold i_zdl_0 at h
 obtain ⟨hg, h1⟩ := guardB_some h
 obtain ⟨hu1, h2⟩ := atIs_some h1
 obtain ⟨_, _, hu36, h3⟩ := atList_some h2
 obtain ⟨_, hu37, h4⟩ := atInt_some h3
 obtain ⟨_, hu38, h5⟩ := atInt_some h4
 obtain ⟨_, _, rfl, h6⟩ := asOb_some h5
 obtain ⟨_, _, rfl, h7⟩ := obIs_some h6
 obtain ⟨rfl, h8⟩ := isN_some h7
 obtain ⟨_, rfl, h9⟩ := asN1_some h8
 obtain ⟨_, rfl, h10⟩ := asAgg_some h9
 obtain ⟨_, _, rfl, h11⟩ := asN2_some h10
 obtain ⟨_, _, rfl, h12⟩ := asList_some h11
 obtain ⟨_, rfl, h13⟩ := asInt_some h12
 obtain ⟨rfl, h14⟩ := asEnd_some h13
 exact ⟨_, _, _, _, _, _, _, frame_is hg rfl (slots_cons hu1 (slots_cons hu36 (slots_cons hu37 (slots_cons hu38 slots_nil)))), rfl, h14⟩
def Λ_zdl_0 (N : Nat) : Looper := (noLooper).add [0, 1, 0, 1, 1] fun _ E s K => i_zdl_0 (killE ks_zdl_0 E) s fun e_1 f_2 x_3 x_4 e_5 f_6 x_7 => l_zdl_0 N e_1 f_2 x_3 e_5 f_6 x_7 (kk0_zdl_0 K e_1 f_2 x_3 e_5 f_6 x_7) (kk1_zdl_0 K e_1 f_2 x_3 e_5 f_6 x_7) N x_4
theorem ok_zdl_0 {N : Nat} (hC : Ok Tryz.prog C) (hΦ : CalleeOk Tryz.prog C (Φ_zcq N)) : LoopOk Tryz.prog C (Λ_zdl_0 N) b_zdl_0 [0, 1, 0, 1, 1] :=
 iter_ok (Λi := noLooper) (tr := true) (ks := ks_zdl_0) (kx := kx_zdl_0) (N := N) hC hΦ
  (loopsOk_nil (by kernel_rfl))
  fun R E s K r h => by
   have h2 := Looper.add_self.symm.trans h
   obtain ⟨_, _, _, _, _, _, _, he, rfl, h3⟩ := i_zdl_0_spec h2
   rw [he]
   exact (w_zdl_0 N _ _ _ _ _ _ _ N _).trans h3
def ks_zdl_1 : List Nat := butL 91 [1, 5, 50, 51, 52]
def kx_zdl_1 : List Nat := butL 91 [2]
def fr_zdl_1 (e_1 e_2 : List V) (f_3 : Fl) (x_4 : Int) (e_6 : List V) (f_7 : Fl) (x_8 x_5 : Int) : List V := mkF 0 91 [(1, .ptr 0 0 0 0), (5, .list 1 e_1 .sh), (50, .list 7 e_2 f_3), (51, .int .i64 x_4), (52, .int .i64 x_5)]
def kk0_zdl_1 {R : Type} (K : X → List V → S → Option R) (e_1 : List V) (e_2 : List V) (f_3 : Fl) (x_4 : Int) (e_6 : List V) (f_7 : Fl) (x_8 : Int) : Unit → Option R := (fun _ => K .ret (mkF 0 91 [(2, .bool false)]) [some ⟨[.agg [.list 7 e_6 f_7, .int .i64 x_8]], 2, 34, 0⟩])
def kk1_zdl_1 {R : Type} (K : X → List V → S → Option R) (e_1 : List V) (e_2 : List V) (f_3 : Fl) (x_4 : Int) (e_6 : List V) (f_7 : Fl) (x_8 : Int) : Unit → Option R := (fun _ => K (.exit 2) (mkF 0 91 []) [some ⟨[.agg [.list 7 e_6 f_7, .int .i64 x_8]], 2, 34, 0⟩])
abbrev it_zdl_1 {R : Type} (N : Nat) : Nat → List V → S → (X → List V → S → Option R) → Option R := fun n => iter C (Φ_zcq N) (Λ_zdl_0 N) b_zdl_1 [0, 1, 0, 1, 1, 1, 1] true ks_zdl_1 kx_zdl_1 n R
theorem r_zdl_1 {R : Type} (N n : Nat) (e_1 e_2 : List V) (f_3 : Fl) (x_4 : Int) (e_6 : List V) (f_7 : Fl) (x_8 : Int) (x_5 : Int) (K : X → List V → S → Option R) :
 it_zdl_1 N (n + 1) (fr_zdl_1 e_1 e_2 f_3 x_4 e_6 f_7 x_8 x_5) [some ⟨[.agg [.list 7 e_6 f_7, .int .i64 x_8]], 2, 34, 0⟩] K =
 l_zdl_1_step N e_1 e_2 f_3 x_4 e_6 f_7 x_8 (fun x_5 => it_zdl_1 N n (fr_zdl_1 e_1 e_2 f_3 x_4 e_6 f_7 x_8 x_5) [some ⟨[.agg [.list 7 e_6 f_7, .int .i64 x_8]], 2, 34, 0⟩] K) x_5 (kk0_zdl_1 K e_1 e_2 f_3 x_4 e_6 f_7 x_8) (kk1_zdl_1 K e_1 e_2 f_3 x_4 e_6 f_7 x_8) := by kernel_rfl
theorem w_zdl_1 {R : Type} (N : Nat) (e_1 e_2 : List V) (f_3 : Fl) (x_4 : Int) (e_6 : List V) (f_7 : Fl) (x_8 : Int) (K : X → List V → S → Option R) : ∀ (n : Nat) (x_5 : Int),
 it_zdl_1 N n (fr_zdl_1 e_1 e_2 f_3 x_4 e_6 f_7 x_8 x_5) [some ⟨[.agg [.list 7 e_6 f_7, .int .i64 x_8]], 2, 34, 0⟩] K = l_zdl_1 N e_1 e_2 f_3 x_4 e_6 f_7 x_8 (kk0_zdl_1 K e_1 e_2 f_3 x_4 e_6 f_7 x_8) (kk1_zdl_1 K e_1 e_2 f_3 x_4 e_6 f_7 x_8) n x_5
 | 0, _ => rfl
 | n + 1, x_5 => (r_zdl_1 N n e_1 e_2 f_3 x_4 e_6 f_7 x_8 x_5 K).trans (congrArg (fun nx => l_zdl_1_step N e_1 e_2 f_3 x_4 e_6 f_7 x_8 nx x_5 (kk0_zdl_1 K e_1 e_2 f_3 x_4 e_6 f_7 x_8) (kk1_zdl_1 K e_1 e_2 f_3 x_4 e_6 f_7 x_8)) (funext fun x_5 => w_zdl_1 N e_1 e_2 f_3 x_4 e_6 f_7 x_8 K n x_5))
def i_zdl_1 {R : Type} (E : List V) (s : S) (k : List V → List V → Fl → Int → Int → List V → Fl → Int → Option R) : Option R :=
 guardB (frameOk 91 [1, 5, 50, 51, 52] E) <| atIs E 1 (.ptr 0 0 0 0) <| must (nth E 5) fun u5 => asList 1 u5 fun e_1 f'1 => asSh f'1 <| atList E 50 7 fun e_2 f_3 => atInt E 51 .i64 fun x_4 => atInt E 52 .i64 fun x_5 => asOb s fun o'2 s'3 => obIs o'2 2 34 fun e'4 k'5 => isN k'5 0 <| asN1 e'4 fun v'6 => asAgg v'6 fun c'7 => asN2 c'7 fun v'8 v'9 => asList 7 v'8 fun e_6 f_7 => asInt .i64 v'9 fun x_8 => asEnd s'3 <| k e_1 e_2 f_3 x_4 x_5 e_6 f_7 x_8
theorem i_zdl_1_spec {R : Type} {E : List V} {s : S} {k : List V → List V → Fl → Int → Int → List V → Fl → Int → Option R} {r : R} (h : i_zdl_1 E s k = some r) : ∃ e_1 e_2 f_3 x_4 x_5 e_6 f_7 x_8, E = fr_zdl_1 e_1 e_2 f_3 x_4 e_6 f_7 x_8 x_5 ∧ s = [some ⟨[.agg [.list 7 e_6 f_7, .int .i64 x_8]], 2, 34, 0⟩] ∧ k e_1 e_2 f_3 x_4 x_5 e_6 f_7 x_8 = some r := by
 unfold i_zdl_1 at h
 obtain ⟨hg, h1⟩ := guardB_some h
 obtain ⟨hu1, h2⟩ := atIs_some h1
 obtain ⟨_, hu5, h3⟩ := must_some h2
 obtain ⟨_, _, rfl, h4⟩ := asList_some h3
 obtain ⟨rfl, h5⟩ := asSh_some h4
 obtain ⟨_, _, hu50, h6⟩ := atList_some h5
 obtain ⟨_, hu51, h7⟩ := atInt_some h6
 obtain ⟨_, hu52, h8⟩ := atInt_some h7
 obtain ⟨_, _, rfl, h9⟩ := asOb_some h8
 obtain ⟨_, _, rfl, h10⟩ := obIs_some h9
 obtain ⟨rfl, h11⟩ := isN_some h10
 obtain ⟨_, rfl, h12⟩ := asN1_some h11
 obtain ⟨_, rfl, h13⟩ := asAgg_some h12
 obtain ⟨_, _, rfl, h14⟩ := asN2_some h13
 obtain ⟨_, _, rfl, h15⟩ := asList_some h14
 obtain ⟨_, rfl, h16⟩ := asInt_some h15
 obtain ⟨rfl, h17⟩ := asEnd_some h16
 exact ⟨_, _, _, _, _, _, _, _, frame_is hg rfl (slots_cons hu1 (slots_cons hu5 (slots_cons hu50 (slots_cons hu51 (slots_cons hu52 slots_nil))))), rfl, h17⟩
def Λ_zdl_1 (N : Nat) : Looper := (Λ_zdl_0 N).add [0, 1, 0, 1, 1, 1, 1] fun _ E s K => i_zdl_1 (killE ks_zdl_1 E) s fun e_1 e_2 f_3 x_4 x_5 e_6 f_7 x_8 => l_zdl_1 N e_1 e_2 f_3 x_4 e_6 f_7 x_8 (kk0_zdl_1 K e_1 e_2 f_3 x_4 e_6 f_7 x_8) (kk1_zdl_1 K e_1 e_2 f_3 x_4 e_6 f_7 x_8) N x_5
theorem ok_zdl_1 {N : Nat} (hC : Ok Tryz.prog C) (hΦ : CalleeOk Tryz.prog C (Φ_zcq N)) : LoopOk Tryz.prog C (Λ_zdl_1 N) b_zdl_1 [0, 1, 0, 1, 1, 1, 1] :=
 iter_ok (Λi := Λ_zdl_0 N) (tr := true) (ks := ks_zdl_1) (kx := kx_zdl_1) (N := N) hC hΦ
  (loopsOk_nil (by kernel_rfl))
  fun R E s K r h => by
   have h2 := Looper.add_self.symm.trans h
   obtain ⟨_, _, _, _, _, _, _, _, he, rfl, h3⟩ := i_zdl_1_spec h2
   rw [he]
   exact (w_zdl_1 N _ _ _ _ _ _ _ _ N _).trans h3
theorem at_zdl : loopsAt c_zdl [] = [([0, 1, 0, 1, 1], b_zdl_0), ([0, 1, 0, 1, 1, 1, 1], b_zdl_1)] := by kernel_rfl
theorem b_zdl {R : Type} (N : Nat) (e_1 : List V) (f_2 : Fl) (x_3 : Int) (K : V → S → Option R) : bodyV C (Φ_zcq N) (Λ_zdl_1 N) 85 Tryz.f85 [.agg [.list 7 e_1 f_2, .int .i64 x_3]] [] K =
 gb_zdl N e_1 f_2 x_3 (fun b_4 => K (.bool b_4) []) := by kernel_rfl
theorem loops_zdl {N : Nat} (hC : Ok Tryz.prog C) (hΦ : CalleeOk Tryz.prog C (Φ_zcq N)) : LoopsOk Tryz.prog C (Λ_zdl_1 N) c_zdl [] :=
 loopsOk_of c_zdl [] (by
  rw [at_zdl]
  intro p hp
  simp only [List.mem_cons, List.mem_nil_iff, or_false] at hp
  rcases hp with rfl | rfl
  ·exact (LoopOk.add (ok_zdl_0 hC hΦ) rfl)
  ·exact (ok_zdl_1 hC hΦ))
theorem callee_zdl (hC : Ok Tryz.prog C) {N : Nat} (hΦ : CalleeOk Tryz.prog C (Φ_zcq N)) : CalleeOk Tryz.prog C (Φ_zdl N) := by
 refine hΦ.add_pure rfl fun R vs K r h => ?_
 unfold f_zdl at h
 obtain ⟨_, rfl, h1⟩ := asN1_some h
 obtain ⟨_, _, _, rfl, h2⟩ := un_impl_Fs_some h1
 obtain ⟨_, h3⟩ := asEnd_some h2
 refine body_pure (fn := Tryz.f85) (c := c_zdl) hC hΦ Tryz.func85 (by kernel_rfl) (by kernel_rfl) (loops_zdl (N := N) hC hΦ) rfl rfl ?_
 refine (b_zdl N _ _ _ _).trans ?_
 rw [← g_zdl_eq]
 exact h3
def f_zdg (N : Nat) : (R : Type) → List V → S → (V → S → Option R) → Option R := fun _ vs s K =>
 asN1 vs fun v'1 => un_impl_Cred v'1 fun x_1 x_2 => asEnd s <| g_zdg N x_1 x_2 (fun b_3 => K (.bool b_3) [])
def Φ_zdg (N : Nat) : Callee := (Φ_zdl N).add 86 (f_zdg N)
def c_zdg : Code := bodyOf Tryz.f86
theorem b_zdg {R : Type} (N : Nat) (x_1 x_2 : Int) (K : V → S → Option R) : bodyV C (Φ_zdl N) (noLooper) 86 Tryz.f86 [.agg [.int .i64 x_1, .int .i64 x_2]] [] K =
 gb_zdg N x_1 x_2 (fun b_3 => K (.bool b_3) []) := by kernel_rfl
theorem callee_zdg (hC : Ok Tryz.prog C) {N : Nat} (hΦ : CalleeOk Tryz.prog C (Φ_zdl N)) : CalleeOk Tryz.prog C (Φ_zdg N) := by
 refine hΦ.add_pure rfl fun R vs K r h => ?_
 unfold f_zdg at h
 obtain ⟨_, rfl, h1⟩ := asN1_some h
 obtain ⟨_, _, rfl, h2⟩ := un_impl_Cred_some h1
 obtain ⟨_, h3⟩ := asEnd_some h2
 refine body_pure (fn := Tryz.f86) (c := c_zdg) hC hΦ Tryz.func86 (by kernel_rfl) (by kernel_rfl) (loopsOk_nil (Λ := noLooper) (by kernel_rfl)) rfl rfl ?_
 refine (b_zdg N _ _ _).trans ?_
 rw [← g_zdg_eq]
 exact h3
def f_zcs (N : Nat) : (R : Type) → List V → S → (V → S → Option R) → Option R := fun _ vs s K =>
 asN2 vs fun v'1 v'2 => un_impl_Fs v'1 fun e_1 f_2 x_3 => un_impl_Cred v'2 fun x_4 x_5 => asEnd s <| g_zcs N e_1 f_2 x_3 x_4 x_5 (fun b_6 => K (.bool b_6) [])
def Φ_zcs (N : Nat) : Callee := (Φ_zdg N).add 45 (f_zcs N)
def c_zcs : Code := bodyOf Tryz.f45
theorem b_zcs {R : Type} (N : Nat) (e_1 : List V) (f_2 : Fl) (x_3 x_4 x_5 : Int) (K : V → S → Option R) : bodyV C (Φ_zdg N) (noLooper) 45 Tryz.f45 [.agg [.list 7 e_1 f_2, .int .i64 x_3], .agg [.int .i64 x_4, .int .i64 x_5]] [] K =
 gb_zcs N e_1 f_2 x_3 x_4 x_5 (fun b_6 => K (.bool b_6) []) := by kernel_rfl
theorem callee_zcs (hC : Ok Tryz.prog C) {N : Nat} (hΦ : CalleeOk Tryz.prog C (Φ_zdg N)) : CalleeOk Tryz.prog C (Φ_zcs N) := by
 refine hΦ.add_pure rfl fun R vs K r h => ?_
 unfold f_zcs at h
 obtain ⟨_, _, rfl, h1⟩ := asN2_some h
 obtain ⟨_, _, _, rfl, h2⟩ := un_impl_Fs_some h1
 obtain ⟨_, _, rfl, h3⟩ := un_impl_Cred_some h2
 obtain ⟨_, h4⟩ := asEnd_some h3
 refine body_pure (fn := Tryz.f45) (c := c_zcs) hC hΦ Tryz.func45 (by kernel_rfl) (by kernel_rfl) (loopsOk_nil (Λ := noLooper) (by kernel_rfl)) rfl rfl ?_
 refine (b_zcs N _ _ _ _ _ _).trans ?_
 rw [← g_zcs_eq]
 exact h4
def f_zco (N : Nat) : (R : Type) → List V → S → (V → S → Option R) → Option R := fun _ vs s K =>
 asN1 vs fun v'1 => asStr v'1 fun w_1 => asEnd s <| g_zco N w_1 (fun b_2 => K (.bool b_2) [])
def Φ_zco (N : Nat) : Callee := (Φ_zcs N).add 87 (f_zco N)
def c_zco : Code := bodyOf Tryz.f87
theorem b_zco {R : Type} (N : Nat) (w_1 : ByteArray) (K : V → S → Option R) : bodyV C (Φ_zcs N) (noLooper) 87 Tryz.f87 [.str w_1] [] K =
 gb_zco N w_1 (fun b_2 => K (.bool b_2) []) := by kernel_rfl
theorem callee_zco (hC : Ok Tryz.prog C) {N : Nat} (hΦ : CalleeOk Tryz.prog C (Φ_zcs N)) : CalleeOk Tryz.prog C (Φ_zco N) := by
 refine hΦ.add_pure rfl fun R vs K r h => ?_
 unfold f_zco at h
 obtain ⟨_, rfl, h1⟩ := asN1_some h
 obtain ⟨_, rfl, h2⟩ := asStr_some h1
 obtain ⟨_, h3⟩ := asEnd_some h2
 refine body_pure (fn := Tryz.f87) (c := c_zco) hC hΦ Tryz.func87 (by kernel_rfl) (by kernel_rfl) (loopsOk_nil (Λ := noLooper) (by kernel_rfl)) rfl rfl ?_
 refine (b_zco N _ _).trans ?_
 rw [← g_zco_eq]
 exact h3
def f_zdp (N : Nat) : (R : Type) → List V → S → (V → S → Option R) → Option R := fun _ vs s K =>
 asN5 vs fun v'1 v'2 v'3 v'4 v'5 => un_impl_Cred v'1 fun x_1 x_2 => asInt .i64 v'2 fun x_3 => asInt .i64 v'3 fun x_4 => asInt .i64 v'4 fun x_5 => asInt .i64 v'5 fun x_6 => asEnd s <| g_zdp N x_1 x_2 x_3 x_4 x_5 x_6 (fun b_7 => K (.bool b_7) [])
def Φ_zdp (N : Nat) : Callee := (Φ_zco N).add 106 (f_zdp N)
def c_zdp : Code := bodyOf Tryz.f106
theorem b_zdp {R : Type} (N : Nat) (x_1 x_2 x_3 x_4 x_5 x_6 : Int) (K : V → S → Option R) : bodyV C (Φ_zco N) (noLooper) 106 Tryz.f106 [.agg [.int .i64 x_1, .int .i64 x_2], .int .i64 x_3, .int .i64 x_4, .int .i64 x_5, .int .i64 x_6] [] K =
 gb_zdp N x_1 x_2 x_3 x_4 x_5 x_6 (fun b_7 => K (.bool b_7) []) := by kernel_rfl
theorem callee_zdp (hC : Ok Tryz.prog C) {N : Nat} (hΦ : CalleeOk Tryz.prog C (Φ_zco N)) : CalleeOk Tryz.prog C (Φ_zdp N) := by
 refine hΦ.add_pure rfl fun R vs K r h => ?_
 unfold f_zdp at h
 obtain ⟨_, _, _, _, _, rfl, h1⟩ := asN5_some h
 obtain ⟨_, _, rfl, h2⟩ := un_impl_Cred_some h1
 obtain ⟨_, rfl, h3⟩ := asInt_some h2
 obtain ⟨_, rfl, h4⟩ := asInt_some h3
 obtain ⟨_, rfl, h5⟩ := asInt_some h4
 obtain ⟨_, rfl, h6⟩ := asInt_some h5
 obtain ⟨_, h7⟩ := asEnd_some h6
 refine body_pure (fn := Tryz.f106) (c := c_zdp) hC hΦ Tryz.func106 (by kernel_rfl) (by kernel_rfl) (loopsOk_nil (Λ := noLooper) (by kernel_rfl)) rfl rfl ?_
 refine (b_zdp N _ _ _ _ _ _ _).trans ?_
 rw [← g_zdp_eq]
 exact h7
def f_zds (N : Nat) : (R : Type) → List V → S → (V → S → Option R) → Option R := fun _ vs s K =>
 asN4 vs fun v'1 v'2 v'3 v'4 => un_impl_Fs v'1 fun e_1 f_2 x_3 => un_impl_Cred v'2 fun x_4 x_5 => asInt .i64 v'3 fun x_6 => asInt .i64 v'4 fun x_7 => asEnd s <| g_zds N e_1 f_2 x_3 x_4 x_5 x_6 x_7 (fun b_8 => K (.bool b_8) [])
def Φ_zds (N : Nat) : Callee := (Φ_zdp N).add 54 (f_zds N)
def c_zds : Code := bodyOf Tryz.f54
theorem b_zds {R : Type} (N : Nat) (e_1 : List V) (f_2 : Fl) (x_3 x_4 x_5 x_6 x_7 : Int) (K : V → S → Option R) : bodyV C (Φ_zdp N) (noLooper) 54 Tryz.f54 [.agg [.list 7 e_1 f_2, .int .i64 x_3], .agg [.int .i64 x_4, .int .i64 x_5], .int .i64 x_6, .int .i64 x_7] [] K =
 gb_zds N e_1 f_2 x_3 x_4 x_5 x_6 x_7 (fun b_8 => K (.bool b_8) []) := by kernel_rfl
theorem callee_zds (hC : Ok Tryz.prog C) {N : Nat} (hΦ : CalleeOk Tryz.prog C (Φ_zdp N)) : CalleeOk Tryz.prog C (Φ_zds N) := by
 refine hΦ.add_pure rfl fun R vs K r h => ?_
 unfold f_zds at h
 obtain ⟨_, _, _, _, rfl, h1⟩ := asN4_some h
 obtain ⟨_, _, _, rfl, h2⟩ := un_impl_Fs_some h1
 obtain ⟨_, _, rfl, h3⟩ := un_impl_Cred_some h2
 obtain ⟨_, rfl, h4⟩ := asInt_some h3
 obtain ⟨_, rfl, h5⟩ := asInt_some h4
 obtain ⟨_, h6⟩ := asEnd_some h5
 refine body_pure (fn := Tryz.f54) (c := c_zds) hC hΦ Tryz.func54 (by kernel_rfl) (by kernel_rfl) (loopsOk_nil (Λ := noLooper) (by kernel_rfl)) rfl rfl ?_
 refine (b_zds N _ _ _ _ _ _ _ _).trans ?_
 rw [← g_zds_eq]
 exact h6
def f_zbw (N : Nat) : (R : Type) → List V → S → (V → S → Option R) → Option R := fun _ vs s K =>
 asN2 vs fun v'1 v'2 => un_impl_Fs v'1 fun e_1 f_2 x_3 => asInt .i64 v'2 fun x_4 => asEnd s <| g_zbw N e_1 f_2 x_3 x_4 (fun x_5 => K (.int .i64 x_5) [])
def Φ_zbw (N : Nat) : Callee := (Φ_zds N).add 109 (f_zbw N)
def c_zbw : Code := bodyOf Tryz.f109
def b_zbw_1 : Code := (loopNo c_zbw [] 0).2
def b_zbw_0 : Code := (loopNo b_zbw_1 (0 :: [0, 1, 0, 1]) 0).2
def ks_zbw_0 : List Nat := butL 31 [1, 5, 10, 11, 12, 18, 19, 20]
def kx_zbw_0 : List Nat := butL 31 [1, 4, 10, 11, 12]
def fr_zbw_0 (x_1 x_2 : Int) (e_3 : List V) (f_4 : Fl) (x_5 x_6 : Int) (e_7 : List V) (f_8 : Fl) (x_9 : Int) (e_11 : List V) (f_12 : Fl) (x_13 x_14 x_15 x_16 x_17 x_18 : Int) (w_19 : ByteArray) (e_20 : List V) (f_21 : Fl) (x_10 : Int) : List V := mkF 0 31 [(1, .int .i64 x_1), (5, .int .i64 x_2), (10, .list 7 e_3 f_4), (11, .int .i64 x_5), (12, .int .i64 x_6), (18, .list 2 e_7 f_8), (19, .int .i64 x_9), (20, .int .i64 x_10)]
def kk0_zbw_0 {R : Type} (K : X → List V → S → Option R) (x_1 : Int) (x_2 : Int) (e_3 : List V) (f_4 : Fl) (x_5 : Int) (x_6 : Int) (e_7 : List V) (f_8 : Fl) (x_9 : Int) (e_11 : List V) (f_12 : Fl) (x_13 : Int) (x_14 : Int) (x_15 : Int) (x_16 : Int) (x_17 : Int) (x_18 : Int) (w_19 : ByteArray) (e_20 : List V) (f_21 : Fl) : Unit → Option R := (fun _ => K .ret (mkF 0 31 [(1, .int .i64 x_1), (4, .int .i64 x_2), (10, .list 7 e_3 f_4), (11, .int .i64 x_5), (12, .int .i64 x_6)]) [some ⟨[.agg [.list 7 e_11 f_12, .int .i64 x_13]], 2, 34, 0⟩, some ⟨[.agg [.int .i64 x_14, .int .i64 x_15, .int .i64 x_16, .int .i64 x_17, .int .i64 x_18, .str w_19, .list 2 e_20 f_21]], 7, 87, 0⟩])
def kk1_zbw_0 {R : Type} (K : X → List V → S → Option R) (x_1 : Int) (x_2 : Int) (e_3 : List V) (f_4 : Fl) (x_5 : Int) (x_6 : Int) (e_7 : List V) (f_8 : Fl) (x_9 : Int) (e_11 : List V) (f_12 : Fl) (x_13 : Int) (x_14 : Int) (x_15 : Int) (x_16 : Int) (x_17 : Int) (x_18 : Int) (w_19 : ByteArray) (e_20 : List V) (f_21 : Fl) : Unit → Option R := (fun _ => K (.exit 2) (mkF 0 31 [(1, .int .i64 x_1), (10, .list 7 e_3 f_4), (11, .int .i64 x_5), (12, .int .i64 x_6)]) [some ⟨[.agg [.list 7 e_11 f_12, .int .i64 x_13]], 2, 34, 0⟩, some ⟨[.agg [.int .i64 x_14, .int .i64 x_15, .int .i64 x_16, .int .i64 x_17, .int .i64 x_18, .str w_19, .list 2 e_20 f_21]], 7, 87, 0⟩])
abbrev it_zbw_0 {R : Type} (N : Nat) : Nat → List V → S → (X → List V → S → Option R) → Option R := fun n => iter C (Φ_zds N) (noLooper) b_zbw_0 [0, 1, 1, 0, 0, 1, 1, 0, 0, 1, 0, 1] true ks_zbw_0 kx_zbw_0 n R
theorem r_zbw_0 {R : Type} (N n : Nat) (x_1 x_2 : Int) (e_3 : List V) (f_4 : Fl) (x_5 x_6 : Int) (e_7 : List V) (f_8 : Fl) (x_9 : Int) (e_11 : List V) (f_12 : Fl) (x_13 x_14 x_15 x_16 x_17 x_18 : Int) (w_19 : ByteArray) (e_20 : List V) (f_21 : Fl) (x_10 : Int) (K : X → List V → S → Option R) :
 it_zbw_0 N (n + 1) (fr_zbw_0 x_1 x_2 e_3 f_4 x_5 x_6 e_7 f_8 x_9 e_11 f_12 x_13 x_14 x_15 x_16 x_17 x_18 w_19 e_20 f_21 x_10) [some ⟨[.agg [.list 7 e_11 f_12, .int .i64 x_13]], 2, 34, 0⟩, some ⟨[.agg [.int .i64 x_14, .int .i64 x_15, .int .i64 x_16, .int .i64 x_17, .int .i64 x_18, .str w_19, .list 2 e_20 f_21]], 7, 87, 0⟩] K =
 l_zbw_0_step N x_1 x_2 e_3 f_4 x_5 x_6 e_7 f_8 x_9 e_11 f_12 x_13 x_14 x_15 x_16 x_17 x_18 w_19 e_20 f_21 (fun x_10 => it_zbw_0 N n (fr_zbw_0 x_1 x_2 e_3 f_4 x_5 x_6 e_7 f_8 x_9 e_11 f_12 x_13 x_14 x_15 x_16 x_17 x_18 w_19 e_20 f_21 x_10) [some ⟨[.agg [.list 7 e_11 f_12, .int .i64 x_13]], 2, 34, 0⟩, some ⟨[.agg [.int .i64 x_14, .int .i64 x_15, .int .i64 x_16, .int .i64 x_17, .int .i64 x_18, .str w_19, .list 2 e_20 f_21]], 7, 87, 0⟩] K) x_10 (kk0_zbw_0 K x_1 x_2 e_3 f_4 x_5 x_6 e_7 f_8 x_9 e_11 f_12 x_13 x_14 x_15 x_16 x_17 x_18 w_19 e_20 f_21) (kk1_zbw_0 K x_1 x_2 e_3 f_4 x_5 x_6 e_7 f_8 x_9 e_11 f_12 x_13 x_14 x_15 x_16 x_17 x_18 w_19 e_20 f_21) := by kernel_rfl
theorem w_zbw_0 {R : Type} (N : Nat) (x_1 x_2 : Int) (e_3 : List V) (f_4 : Fl) (x_5 x_6 : Int) (e_7 : List V) (f_8 : Fl) (x_9 : Int) (e_11 : List V) (f_12 : Fl) (x_13 x_14 x_15 x_16 x_17 x_18 : Int) (w_19 : ByteArray) (e_20 : List V) (f_21 : Fl) (K : X → List V → S → Option R) : ∀ (n : Nat) (x_10 : Int),
 it_zbw_0 N n (fr_zbw_0 x_1 x_2 e_3 f_4 x_5 x_6 e_7 f_8 x_9 e_11 f_12 x_13 x_14 x_15 x_16 x_17 x_18 w_19 e_20 f_21 x_10) [some ⟨[.agg [.list 7 e_11 f_12, .int .i64 x_13]], 2, 34, 0⟩, some ⟨[.agg [.int .i64 x_14, .int .i64 x_15, .int .i64 x_16, .int .i64 x_17, .int .i64 x_18, .str w_19, .list 2 e_20 f_21]], 7, 87, 0⟩] K = l_zbw_0 N x_1 x_2 e_3 f_4 x_5 x_6 e_7 f_8 x_9 e_11 f_12 x_13 x_14 x_15 x_16 x_17 x_18 w_19 e_20 f_21 (kk0_zbw_0 K x_1 x_2 e_3 f_4 x_5 x_6 e_7 f_8 x_9 e_11 f_12 x_13 x_14 x_15 x_16 x_17 x_18 w_19 e_20 f_21) (kk1_zbw_0 K x_1 x_2 e_3 f_4 x_5 x_6 e_7 f_8 x_9 e_11 f_12 x_13 x_14 x_15 x_16 x_17 x_18 w_19 e_20 f_21) n x_10
 | 0, _ => rfl
 | n + 1, x_10 => (r_zbw_0 N n x_1 x_2 e_3 f_4 x_5 x_6 e_7 f_8 x_9 e_11 f_12 x_13 x_14 x_15 x_16 x_17 x_18 w_19 e_20 f_21 x_10 K).trans (congrArg (fun nx => l_zbw_0_step N x_1 x_2 e_3 f_4 x_5 x_6 e_7 f_8 x_9 e_11 f_12 x_13 x_14 x_15 x_16 x_17 x_18 w_19 e_20 f_21 nx x_10 (kk0_zbw_0 K x_1 x_2 e_3 f_4 x_5 x_6 e_7 f_8 x_9 e_11 f_12 x_13 x_14 x_15 x_16 x_17 x_18 w_19 e_20 f_21) (kk1_zbw_0 K x_1 x_2 e_3 f_4 x_5 x_6 e_7 f_8 x_9 e_11 f_12 x_13 x_14 x_15 x_16 x_17 x_18 w_19 e_20 f_21)) (funext fun x_10 => w_zbw_0 N x_1 x_2 e_3 f_4 x_5 x_6 e_7 f_8 x_9 e_11 f_12 x_13 x_14 x_15 x_16 x_17 x_18 w_19 e_20 f_21 K n x_10))
def i_zbw_0 {R : Type} (E : List V) (s : S) (k : Int → Int → List V → Fl → Int → Int → List V → Fl → Int → Int → List V → Fl → Int → Int → Int → Int → Int → Int → ByteArray → List V → Fl → Option R) : Option R :=
 guardB (frameOk 31 [1, 5, 10, 11, 12, 18, 19, 20] E) <| atInt E 1 .i64 fun x_1 => atInt E 5 .i64 fun x_2 => atList E 10 7 fun e_3 f_4 => atInt E 11 .i64 fun x_5 => atInt E 12 .i64 fun x_6 => atList E 18 2 fun e_7 f_8 => atInt E 19 .i64 fun x_9 => atInt E 20 .i64 fun x_10 => asOb s fun o'1 s'2 => obIs o'1 2 34 fun e'3 k'4 => isN k'4 0 <| asN1 e'3 fun v'5 => asAgg v'5 fun c'6 => asN2 c'6 fun v'7 v'8 => asList 7 v'7 fun e_11 f_12 => asInt .i64 v'8 fun x_13 => asOb s'2 fun o'9 s'10 => obIs o'9 7 87 fun e'11 k'12 => isN k'12 0 <| asN1 e'11 fun v'13 => asAgg v'13 fun c'14 => asN7 c'14 fun v'15 v'16 v'17 v'18 v'19 v'20 v'21 => asInt .i64 v'15 fun x_14 => asInt .i64 v'16 fun x_15 => asInt .i64 v'17 fun x_16 => asInt .i64 v'18 fun x_17 => asInt .i64 v'19 fun x_18 => asStr v'20 fun w_19 => asList 2 v'21 fun e_20 f_21 => asEnd s'10 <| k x_1 x_2 e_3 f_4 x_5 x_6 e_7 f_8 x_9 x_10 e_11 f_12 x_13 x_14 x_15 x_16 x_17 x_18 w_19 e_20 f_21
theorem i_zbw_0_spec {R : Type} {E : List V} {s : S} {k : Int → Int → List V → Fl → Int → Int → List V → Fl → Int → Int → List V → Fl → Int → Int → Int → Int → Int → Int → ByteArray → List V → Fl → Option R} {r : R} (h : i_zbw_0 E s k = some r) : ∃ x_1 x_2 e_3 f_4 x_5 x_6 e_7 f_8 x_9 x_10 e_11 f_12 x_13 x_14 x_15 x_16 x_17 x_18 w_19 e_20 f_21, E = fr_zbw_0 x_1 x_2 e_3 f_4 x_5 x_6 e_7 f_8 x_9 e_11 f_12 x_13 x_14 x_15 x_16 x_17 x_18 w_19 e_20 f_21 x_10 ∧ s = [some ⟨[.agg [.list 7 e_11 f_12, .int .i64 x_13]], 2, 34, 0⟩, some ⟨[.agg [.int .i64 x_14, .int .i64 x_15, .int .i64 x_16, .int .i64 x_17, .int .i64 x_18, .str w_19, .list 2 e_20 f_21]], 7, 87, 0⟩] ∧ k x_1 x_2 e_3 f_4 x_5 x_6 e_7 f_8 x_9 x_10 e_11 f_12 x_13 x_14 x_15 x_16 x_17 x_18 w_19 e_20 f_21 = some r := by
 unfold i_zbw_0 at h
 obtain ⟨hg, h1⟩ := guardB_some h
 obtain ⟨_, hu1, h2⟩ := atInt_some h1
 obtain ⟨_, hu5, h3⟩ := atInt_some h2
 obtain ⟨_, _, hu10, h4⟩ := atList_some h3
 obtain ⟨_, hu11, h5⟩ := atInt_some h4
 obtain ⟨_, hu12, h6⟩ := atInt_some h5
 obtain ⟨_, _, hu18, h7⟩ := atList_some h6
 obtain ⟨_, hu19, h8⟩ := atInt_some h7
 obtain ⟨_, hu20, h9⟩ := atInt_some h8
 obtain ⟨_, _, rfl, h10⟩ := asOb_some h9
 obtain ⟨_, _, rfl, h11⟩ := obIs_some h10
 obtain ⟨rfl, h12⟩ := isN_some h11
 obtain ⟨_, rfl, h13⟩ := asN1_some h12
 obtain ⟨_, rfl, h14⟩ := asAgg_some h13
 obtain ⟨_, _, rfl, h15⟩ := asN2_some h14
 obtain ⟨_, _, rfl, h16⟩ := asList_some h15
 obtain ⟨_, rfl, h17⟩ := asInt_some h16
 obtain ⟨_, _, rfl, h18⟩ := asOb_some h17
 obtain ⟨_, _, rfl, h19⟩ := obIs_some h18
 obtain ⟨rfl, h20⟩ := isN_some h19
 obtain ⟨_, rfl, h21⟩ := asN1_some h20
 obtain ⟨_, rfl, h22⟩ := asAgg_some h21
 obtain ⟨_, _, _, _, _, _, _, rfl, h23⟩ := asN7_some h22
 obtain ⟨_, rfl, h24⟩ := asInt_some h23
 obtain ⟨_, rfl, h25⟩ := asInt_some h24
 obtain ⟨_, rfl, h26⟩ := asInt_some h25
 obtain ⟨_, rfl, h27⟩ := asInt_some h26
 obtain ⟨_, rfl, h28⟩ := asInt_some h27
 obtain ⟨_, rfl, h29⟩ := asStr_some h28
 obtain ⟨_, _, rfl, h30⟩ := asList_some h29
 obtain ⟨rfl, h31⟩ := asEnd_some h30
 exact ⟨_, _, _, _, _, _, _, _, _, _, _, _, _, _, _, _, _, _, _, _, _, frame_is hg rfl (slots_cons hu1 (slots_cons hu5 (slots_cons hu10 (slots_cons hu11 (slots_cons hu12 (slots_cons hu18 (slots_cons hu19 (slots_cons hu20 slots_nil)))))))), rfl, h31⟩
def Λ_zbw_0 (N : Nat) : Looper := (noLooper).add [0, 1, 1, 0, 0, 1, 1, 0, 0, 1, 0, 1] fun _ E s K => i_zbw_0 (killE ks_zbw_0 E) s fun x_1 x_2 e_3 f_4 x_5 x_6 e_7 f_8 x_9 x_10 e_11 f_12 x_13 x_14 x_15 x_16 x_17 x_18 w_19 e_20 f_21 => l_zbw_0 N x_1 x_2 e_3 f_4 x_5 x_6 e_7 f_8 x_9 e_11 f_12 x_13 x_14 x_15 x_16 x_17 x_18 w_19 e_20 f_21 (kk0_zbw_0 K x_1 x_2 e_3 f_4 x_5 x_6 e_7 f_8 x_9 e_11 f_12 x_13 x_14 x_15 x_16 x_17 x_18 w_19 e_20 f_21) (kk1_zbw_0 K x_1 x_2 e_3 f_4 x_5 x_6 e_7 f_8 x_9 e_11 f_12 x_13 x_14 x_15 x_16 x_17 x_18 w_19 e_20 f_21) N x_10
theorem ok_zbw_0 {N : Nat} (hC : Ok Tryz.prog C) (hΦ : CalleeOk Tryz.prog C (Φ_zds N)) : LoopOk Tryz.prog C (Λ_zbw_0 N) b_zbw_0 [0, 1, 1, 0, 0, 1, 1, 0, 0, 1, 0, 1] :=
 iter_ok (Λi := noLooper) (tr := true) (ks := ks_zbw_0) (kx := kx_zbw_0) (N := N) hC hΦ
  (loopsOk_nil (by kernel_rfl))
  fun R E s K r h => by
   have h2 := Looper.add_self.symm.trans h
   obtain ⟨_, _, _, _, _, _, _, _, _, _, _, _, _, _, _, _, _, _, _, _, _, he, rfl, h3⟩ := i_zbw_0_spec h2
   rw [he]
   exact (w_zbw_0 N _ _ _ _ _ _ _ _ _ _ _ _ _ _ _ _ _ _ _ _ _ N _).trans h3
def ks_zbw_1 : List Nat := butL 31 [1, 10, 11, 12]
def kx_zbw_1 : List Nat := butL 31 [4]
def fr_zbw_1 (x_1 : Int) (e_2 : List V) (f_3 : Fl) (x_4 : Int) (e_6 : List V) (f_7 : Fl) (x_8 x_5 : Int) : List V := mkF 0 31 [(1, .int .i64 x_1), (10, .list 7 e_2 f_3), (11, .int .i64 x_4), (12, .int .i64 x_5)]
def kk0_zbw_1 {R : Type} (K : X → List V → S → Option R) (x_1 : Int) (e_2 : List V) (f_3 : Fl) (x_4 : Int) (e_6 : List V) (f_7 : Fl) (x_8 : Int) : Int → Option R := (fun x_1' => K .ret (mkF 0 31 [(4, .int .i64 (x_1'))]) [some ⟨[.agg [.list 7 e_6 f_7, .int .i64 x_8]], 2, 34, 0⟩])
def kk1_zbw_1 {R : Type} (K : X → List V → S → Option R) (x_1 : Int) (e_2 : List V) (f_3 : Fl) (x_4 : Int) (e_6 : List V) (f_7 : Fl) (x_8 : Int) : Unit → Option R := (fun _ => K (.exit 0) (mkF 0 31 []) [some ⟨[.agg [.list 7 e_6 f_7, .int .i64 x_8]], 2, 34, 0⟩])
abbrev it_zbw_1 {R : Type} (N : Nat) : Nat → List V → S → (X → List V → S → Option R) → Option R := fun n => iter C (Φ_zds N) (Λ_zbw_0 N) b_zbw_1 [0, 1, 0, 1] true ks_zbw_1 kx_zbw_1 n R
theorem r_zbw_1 {R : Type} (N n : Nat) (x_1 : Int) (e_2 : List V) (f_3 : Fl) (x_4 : Int) (e_6 : List V) (f_7 : Fl) (x_8 : Int) (x_5 : Int) (K : X → List V → S → Option R) :
 it_zbw_1 N (n + 1) (fr_zbw_1 x_1 e_2 f_3 x_4 e_6 f_7 x_8 x_5) [some ⟨[.agg [.list 7 e_6 f_7, .int .i64 x_8]], 2, 34, 0⟩] K =
 l_zbw_1_step N x_1 e_2 f_3 x_4 e_6 f_7 x_8 (fun x_5 => it_zbw_1 N n (fr_zbw_1 x_1 e_2 f_3 x_4 e_6 f_7 x_8 x_5) [some ⟨[.agg [.list 7 e_6 f_7, .int .i64 x_8]], 2, 34, 0⟩] K) x_5 (kk0_zbw_1 K x_1 e_2 f_3 x_4 e_6 f_7 x_8) (kk1_zbw_1 K x_1 e_2 f_3 x_4 e_6 f_7 x_8) := by kernel_rfl
theorem w_zbw_1 {R : Type} (N : Nat) (x_1 : Int) (e_2 : List V) (f_3 : Fl) (x_4 : Int) (e_6 : List V) (f_7 : Fl) (x_8 : Int) (K : X → List V → S → Option R) : ∀ (n : Nat) (x_5 : Int),
 it_zbw_1 N n (fr_zbw_1 x_1 e_2 f_3 x_4 e_6 f_7 x_8 x_5) [some ⟨[.agg [.list 7 e_6 f_7, .int .i64 x_8]], 2, 34, 0⟩] K = l_zbw_1 N x_1 e_2 f_3 x_4 e_6 f_7 x_8 (kk0_zbw_1 K x_1 e_2 f_3 x_4 e_6 f_7 x_8) (kk1_zbw_1 K x_1 e_2 f_3 x_4 e_6 f_7 x_8) n x_5
 | 0, _ => rfl
 | n + 1, x_5 => (r_zbw_1 N n x_1 e_2 f_3 x_4 e_6 f_7 x_8 x_5 K).trans (congrArg (fun nx => l_zbw_1_step N x_1 e_2 f_3 x_4 e_6 f_7 x_8 nx x_5 (kk0_zbw_1 K x_1 e_2 f_3 x_4 e_6 f_7 x_8) (kk1_zbw_1 K x_1 e_2 f_3 x_4 e_6 f_7 x_8)) (funext fun x_5 => w_zbw_1 N x_1 e_2 f_3 x_4 e_6 f_7 x_8 K n x_5))
def i_zbw_1 {R : Type} (E : List V) (s : S) (k : Int → List V → Fl → Int → Int → List V → Fl → Int → Option R) : Option R :=
 guardB (frameOk 31 [1, 10, 11, 12] E) <| atInt E 1 .i64 fun x_1 => atList E 10 7 fun e_2 f_3 => atInt E 11 .i64 fun x_4 => atInt E 12 .i64 fun x_5 => asOb s fun o'1 s'2 => obIs o'1 2 34 fun e'3 k'4 => isN k'4 0 <| asN1 e'3 fun v'5 => asAgg v'5 fun c'6 => asN2 c'6 fun v'7 v'8 => asList 7 v'7 fun e_6 f_7 => asInt .i64 v'8 fun x_8 => asEnd s'2 <| k x_1 e_2 f_3 x_4 x_5 e_6 f_7 x_8
theorem i_zbw_1_spec {R : Type} {E : List V} {s : S} {k : Int → List V → Fl → Int → Int → List V → Fl → Int → Option R} {r : R} (h : i_zbw_1 E s k = some r) : ∃ x_1 e_2 f_3 x_4 x_5 e_6 f_7 x_8, E = fr_zbw_1 x_1 e_2 f_3 x_4 e_6 f_7 x_8 x_5 ∧ s = [some ⟨[.agg [.list 7 e_6 f_7, .int .i64 x_8]], 2, 34, 0⟩] ∧ k x_1 e_2 f_3 x_4 x_5 e_6 f_7 x_8 = some r := by
 unfold i_zbw_1 at h
 obtain ⟨hg, h1⟩ := guardB_some h
 obtain ⟨_, hu1, h2⟩ := atInt_some h1
 obtain ⟨_, _, hu10, h3⟩ := atList_some h2
 obtain ⟨_, hu11, h4⟩ := atInt_some h3
 obtain ⟨_, hu12, h5⟩ := atInt_some h4
 obtain ⟨_, _, rfl, h6⟩ := asOb_some h5
 obtain ⟨_, _, rfl, h7⟩ := obIs_some h6
 obtain ⟨rfl, h8⟩ := isN_some h7
 obtain ⟨_, rfl, h9⟩ := asN1_some h8
 obtain ⟨_, rfl, h10⟩ := asAgg_some h9
 obtain ⟨_, _, rfl, h11⟩ := asN2_some h10
 obtain ⟨_, _, rfl, h12⟩ := asList_some h11
 obtain ⟨_, rfl, h13⟩ := asInt_some h12
 obtain ⟨rfl, h14⟩ := asEnd_some h13
 exact ⟨_, _, _, _, _, _, _, _, frame_is hg rfl (slots_cons hu1 (slots_cons hu10 (slots_cons hu11 (slots_cons hu12 slots_nil)))), rfl, h14⟩
def Λ_zbw_1 (N : Nat) : Looper := (Λ_zbw_0 N).add [0, 1, 0, 1] fun _ E s K => i_zbw_1 (killE ks_zbw_1 E) s fun x_1 e_2 f_3 x_4 x_5 e_6 f_7 x_8 => l_zbw_1 N x_1 e_2 f_3 x_4 e_6 f_7 x_8 (kk0_zbw_1 K x_1 e_2 f_3 x_4 e_6 f_7 x_8) (kk1_zbw_1 K x_1 e_2 f_3 x_4 e_6 f_7 x_8) N x_5
theorem in_zbw_1 : loopsAt b_zbw_1 (0 :: [0, 1, 0, 1]) = [([0, 1, 1, 0, 0, 1, 1, 0, 0, 1, 0, 1], b_zbw_0)] := by kernel_rfl
theorem ok_zbw_1 {N : Nat} (hC : Ok Tryz.prog C) (hΦ : CalleeOk Tryz.prog C (Φ_zds N)) : LoopOk Tryz.prog C (Λ_zbw_1 N) b_zbw_1 [0, 1, 0, 1] :=
 iter_ok (Λi := Λ_zbw_0 N) (tr := true) (ks := ks_zbw_1) (kx := kx_zbw_1) (N := N) hC hΦ
  (loopsOk_of b_zbw_1 _ (by
   rw [in_zbw_1]
   intro p hp
   simp only [List.mem_cons, List.mem_nil_iff, or_false] at hp
   rcases hp with rfl
   ·exact (ok_zbw_0 hC hΦ)))
  fun R E s K r h => by
   have h2 := Looper.add_self.symm.trans h
   obtain ⟨_, _, _, _, _, _, _, _, he, rfl, h3⟩ := i_zbw_1_spec h2
   rw [he]
   exact (w_zbw_1 N _ _ _ _ _ _ _ _ N _).trans h3
theorem at_zbw : loopsAt c_zbw [] = [([0, 1, 0, 1], b_zbw_1)] := by kernel_rfl
theorem b_zbw {R : Type} (N : Nat) (e_1 : List V) (f_2 : Fl) (x_3 x_4 : Int) (K : V → S → Option R) : bodyV C (Φ_zds N) (Λ_zbw_1 N) 109 Tryz.f109 [.agg [.list 7 e_1 f_2, .int .i64 x_3], .int .i64 x_4] [] K =
 gb_zbw N e_1 f_2 x_3 x_4 (fun x_5 => K (.int .i64 x_5) []) := by kernel_rfl
theorem loops_zbw {N : Nat} (hC : Ok Tryz.prog C) (hΦ : CalleeOk Tryz.prog C (Φ_zds N)) : LoopsOk Tryz.prog C (Λ_zbw_1 N) c_zbw [] :=
 loopsOk_of c_zbw [] (by
  rw [at_zbw]
  intro p hp
  simp only [List.mem_cons, List.mem_nil_iff, or_false] at hp
  rcases hp with rfl
  ·exact (ok_zbw_1 hC hΦ))
theorem callee_zbw (hC : Ok Tryz.prog C) {N : Nat} (hΦ : CalleeOk Tryz.prog C (Φ_zds N)) : CalleeOk Tryz.prog C (Φ_zbw N) := by
 refine hΦ.add_pure rfl fun R vs K r h => ?_
 unfold f_zbw at h
 obtain ⟨_, _, rfl, h1⟩ := asN2_some h
 obtain ⟨_, _, _, rfl, h2⟩ := un_impl_Fs_some h1
 obtain ⟨_, rfl, h3⟩ := asInt_some h2
 obtain ⟨_, h4⟩ := asEnd_some h3
 refine body_pure (fn := Tryz.f109) (c := c_zbw) hC hΦ Tryz.func109 (by kernel_rfl) (by kernel_rfl) (loops_zbw (N := N) hC hΦ) rfl rfl ?_
 refine (b_zbw N _ _ _ _ _).trans ?_
 rw [← g_zbw_eq]
 exact h4
def f_zdy (N : Nat) : (R : Type) → List V → S → (V → S → Option R) → Option R := fun _ vs s K =>
 asN2 vs fun v'1 v'2 => asList 2 v'1 fun e_1 f_2 => asStr v'2 fun w_3 => asEnd s <| g_zdy N e_1 f_2 w_3 (fun x_4 => K (.int .i64 x_4) [])
def Φ_zdy (N : Nat) : Callee := (Φ_zbw N).add 123 (f_zdy N)
def c_zdy : Code := bodyOf Tryz.f123
def b_zdy_0 : Code := (loopNo c_zdy [] 0).2
def ks_zdy_0 : List Nat := butL 20 [1, 7, 8, 9]
def kx_zdy_0 : List Nat := butL 20 [4]
def fr_zdy_0 (w_1 : ByteArray) (e_2 : List V) (f_3 : Fl) (x_4 x_5 : Int) : List V := mkF 0 20 [(1, .str w_1), (7, .list 2 e_2 f_3), (8, .int .i64 x_4), (9, .int .i64 x_5)]
def kk0_zdy_0 {R : Type} (K : X → List V → S → Option R) (w_1 : ByteArray) (e_2 : List V) (f_3 : Fl) (x_4 : Int) : Int → Option R := (fun x_1' => K .ret (mkF 0 20 [(4, .int .i64 (x_1'))]) [])
def kk1_zdy_0 {R : Type} (K : X → List V → S → Option R) (w_1 : ByteArray) (e_2 : List V) (f_3 : Fl) (x_4 : Int) : Unit → Option R := (fun _ => K (.exit 0) (mkF 0 20 []) [])
abbrev it_zdy_0 {R : Type} (N : Nat) : Nat → List V → S → (X → List V → S → Option R) → Option R := fun n => iter C (Φ_zbw N) (noLooper) b_zdy_0 [0, 1, 0, 1] true ks_zdy_0 kx_zdy_0 n R
theorem r_zdy_0 {R : Type} (N n : Nat) (w_1 : ByteArray) (e_2 : List V) (f_3 : Fl) (x_4 : Int) (x_5 : Int) (K : X → List V → S → Option R) :
 it_zdy_0 N (n + 1) (fr_zdy_0 w_1 e_2 f_3 x_4 x_5) [] K =
 l_zdy_0_step N w_1 e_2 f_3 x_4 (fun x_5 => it_zdy_0 N n (fr_zdy_0 w_1 e_2 f_3 x_4 x_5) [] K) x_5 (kk0_zdy_0 K w_1 e_2 f_3 x_4) (kk1_zdy_0 K w_1 e_2 f_3 x_4) := by kernel_rfl
theorem w_zdy_0 {R : Type} (N : Nat) (w_1 : ByteArray) (e_2 : List V) (f_3 : Fl) (x_4 : Int) (K : X → List V → S → Option R) : ∀ (n : Nat) (x_5 : Int),
 it_zdy_0 N n (fr_zdy_0 w_1 e_2 f_3 x_4 x_5) [] K = l_zdy_0 N w_1 e_2 f_3 x_4 (kk0_zdy_0 K w_1 e_2 f_3 x_4) (kk1_zdy_0 K w_1 e_2 f_3 x_4) n x_5
 | 0, _ => rfl
 | n + 1, x_5 => (r_zdy_0 N n w_1 e_2 f_3 x_4 x_5 K).trans (congrArg (fun nx => l_zdy_0_step N w_1 e_2 f_3 x_4 nx x_5 (kk0_zdy_0 K w_1 e_2 f_3 x_4) (kk1_zdy_0 K w_1 e_2 f_3 x_4)) (funext fun x_5 => w_zdy_0 N w_1 e_2 f_3 x_4 K n x_5))
def i_zdy_0 {R : Type} (E : List V) (s : S) (k : ByteArray → List V → Fl → Int → Int → Option R) : Option R :=
 guardB (frameOk 20 [1, 7, 8, 9] E) <| atStr E 1 fun w_1 => atList E 7 2 fun e_2 f_3 => atInt E 8 .i64 fun x_4 => atInt E 9 .i64 fun x_5 => asEnd s <| k w_1 e_2 f_3 x_4 x_5
theorem i_zdy_0_spec {R : Type} {E : List V} {s : S} {k : ByteArray → List V → Fl → Int → Int → Option R} {r : R} (h : i_zdy_0 E s k = some r) : ∃ w_1 e_2 f_3 x_4 x_5, E = fr_zdy_0 w_1 e_2 f_3 x_4 x_5 ∧ s = [] ∧ k w_1 e_2 f_3 x_4 x_5 = some r := by
 unfold i_zdy_0 at h
 obtain ⟨hg, h1⟩ := guardB_some h
 obtain ⟨_, hu1, h2⟩ := atStr_some h1
 obtain ⟨_, _, hu7, h3⟩ := atList_some h2
 obtain ⟨_, hu8, h4⟩ := atInt_some h3
 obtain ⟨_, hu9, h5⟩ := atInt_some h4
 obtain ⟨rfl, h6⟩ := asEnd_some h5
 exact ⟨_, _, _, _, _, frame_is hg rfl (slots_cons hu1 (slots_cons hu7 (slots_cons hu8 (slots_cons hu9 slots_nil)))), rfl, h6⟩
def Λ_zdy_0 (N : Nat) : Looper := (noLooper).add [0, 1, 0, 1] fun _ E s K => i_zdy_0 (killE ks_zdy_0 E) s fun w_1 e_2 f_3 x_4 x_5 => l_zdy_0 N w_1 e_2 f_3 x_4 (kk0_zdy_0 K w_1 e_2 f_3 x_4) (kk1_zdy_0 K w_1 e_2 f_3 x_4) N x_5
theorem ok_zdy_0 {N : Nat} (hC : Ok Tryz.prog C) (hΦ : CalleeOk Tryz.prog C (Φ_zbw N)) : LoopOk Tryz.prog C (Λ_zdy_0 N) b_zdy_0 [0, 1, 0, 1] :=
 iter_ok (Λi := noLooper) (tr := true) (ks := ks_zdy_0) (kx := kx_zdy_0) (N := N) hC hΦ
  (loopsOk_nil (by kernel_rfl))
  fun R E s K r h => by
   have h2 := Looper.add_self.symm.trans h
   obtain ⟨_, _, _, _, _, he, rfl, h3⟩ := i_zdy_0_spec h2
   rw [he]
   exact (w_zdy_0 N _ _ _ _ _ N _).trans h3
theorem at_zdy : loopsAt c_zdy [] = [([0, 1, 0, 1], b_zdy_0)] := by kernel_rfl
theorem b_zdy {R : Type} (N : Nat) (e_1 : List V) (f_2 : Fl) (w_3 : ByteArray) (K : V → S → Option R) : bodyV C (Φ_zbw N) (Λ_zdy_0 N) 123 Tryz.f123 [.list 2 e_1 f_2, .str w_3] [] K =
 gb_zdy N e_1 f_2 w_3 (fun x_4 => K (.int .i64 x_4) []) := by kernel_rfl
theorem loops_zdy {N : Nat} (hC : Ok Tryz.prog C) (hΦ : CalleeOk Tryz.prog C (Φ_zbw N)) : LoopsOk Tryz.prog C (Λ_zdy_0 N) c_zdy [] :=
 loopsOk_of c_zdy [] (by
  rw [at_zdy]
  intro p hp
  simp only [List.mem_cons, List.mem_nil_iff, or_false] at hp
  rcases hp with rfl
  ·exact (ok_zdy_0 hC hΦ))
theorem callee_zdy (hC : Ok Tryz.prog C) {N : Nat} (hΦ : CalleeOk Tryz.prog C (Φ_zbw N)) : CalleeOk Tryz.prog C (Φ_zdy N) := by
 refine hΦ.add_pure rfl fun R vs K r h => ?_
 unfold f_zdy at h
 obtain ⟨_, _, rfl, h1⟩ := asN2_some h
 obtain ⟨_, _, rfl, h2⟩ := asList_some h1
 obtain ⟨_, rfl, h3⟩ := asStr_some h2
 obtain ⟨_, h4⟩ := asEnd_some h3
 refine body_pure (fn := Tryz.f123) (c := c_zdy) hC hΦ Tryz.func123 (by kernel_rfl) (by kernel_rfl) (loops_zdy (N := N) hC hΦ) rfl rfl ?_
 refine (b_zdy N _ _ _ _).trans ?_
 rw [← g_zdy_eq]
 exact h4
def f_zbx (N : Nat) : (R : Type) → List V → S → (V → S → Option R) → Option R := fun _ vs s K =>
 asN2 vs fun v'1 v'2 => asPtr v'1 fun o0 k'4 k'5 k'6 => isN k'4 0 <| isN k'5 0 <| isN k'6 0 <| asBool v'2 fun b_1 => asAt s o0 0 fun o'7 => obIs o'7 7 134 fun e'8 k'9 => isN k'9 0 <| asN1 e'8 fun v'10 => un_spec_l4W v'10 fun e_2 f_3 x_4 x_5 x_6 x_7 e_8 f_9 x_10 => guardB (distinct [o0]) <| guardB (okI 1 [true] [some ⟨[.agg [.list 7 e_2 f_3, .int .i64 x_4, .int .i64 x_5, .int .i64 x_6, .int .i64 x_7, .list 1 e_8 f_9, .int .i64 x_10]], 7, 134, 0⟩]) <| g_zbx N b_1 e_2 f_3 x_4 x_5 x_6 x_7 e_8 f_9 x_10 (fun x_901 e_902 f_903 x_904 x_905 x_906 x_907 e_908 f_909 x_910 => FK s [o0] rl K (.int .i64 x_901) [some ⟨[.agg [.list 7 e_902 f_903, .int .i64 x_904, .int .i64 x_905, .int .i64 x_906, .int .i64 x_907, .list 1 e_908 f_909, .int .i64 x_910]], 7, 134, 0⟩])
def Φ_zbx (N : Nat) : Callee := (Φ_zdy N).add 89 (f_zbx N)
def c_zbx : Code := bodyOf Tryz.f89
theorem b_zbx {R : Type} (N : Nat) (b_1 : Bool) (e_2 : List V) (f_3 : Fl) (x_4 x_5 x_6 x_7 : Int) (e_8 : List V) (f_9 : Fl) (x_10 : Int) (K : V → S → Option R) : bodyV C (Φ_zdy N) (noLooper) 89 Tryz.f89 [.ptr 0 0 0 0, .bool b_1] [some ⟨[.agg [.list 7 e_2 f_3, .int .i64 x_4, .int .i64 x_5, .int .i64 x_6, .int .i64 x_7, .list 1 e_8 f_9, .int .i64 x_10]], 7, 134, 0⟩] (GK rl 1 K) =
 gb_zbx N b_1 e_2 f_3 x_4 x_5 x_6 x_7 e_8 f_9 x_10 (fun x_901 e_902 f_903 x_904 x_905 x_906 x_907 e_908 f_909 x_910 => K (.int .i64 x_901) [some ⟨[.agg [.list 7 e_902 f_903, .int .i64 x_904, .int .i64 x_905, .int .i64 x_906, .int .i64 x_907, .list 1 e_908 f_909, .int .i64 x_910]], 7, 134, 0⟩]) := by kernel_rfl
theorem callee_zbx (hC : Ok Tryz.prog C) {N : Nat} (hΦ : CalleeOk Tryz.prog C (Φ_zdy N)) : CalleeOk Tryz.prog C (Φ_zbx N) := by
 refine hΦ.add_shared rfl fun R vs s K r h => ?_
 unfold f_zbx at h
 obtain ⟨_, _, rfl, h1⟩ := asN2_some h
 obtain ⟨o0, _, _, _, rfl, h2⟩ := asPtr_some h1
 obtain ⟨rfl, h3⟩ := isN_some h2
 obtain ⟨rfl, h4⟩ := isN_some h3
 obtain ⟨rfl, h5⟩ := isN_some h4
 obtain ⟨b_1, rfl, h6⟩ := asBool_some h5
 obtain ⟨_, hob0, h7⟩ := asAt_some h6
 obtain ⟨_, _, rfl, h8⟩ := obIs_some h7
 obtain ⟨rfl, h9⟩ := isN_some h8
 obtain ⟨_, rfl, h10⟩ := asN1_some h9
 obtain ⟨e_2, f_3, x_4, x_5, x_6, x_7, e_8, f_9, x_10, rfl, h11⟩ := un_spec_l4W_some h10
 obtain ⟨hdist, h12⟩ := guardB_some h11
 obtain ⟨hin, h13⟩ := guardB_some h12
 refine frames_body (fn := Tryz.f89) (c := c_zbx) (os := [o0]) (rl := rl) (bi := [true]) (s0 := [some ⟨[.agg [.list 7 e_2 f_3, .int .i64 x_4, .int .i64 x_5, .int .i64 x_6, .int .i64 x_7, .list 1 e_8 f_9, .int .i64 x_10]], 7, 134, 0⟩]) (as0 := [.ptr 0 0 0 0, .bool b_1]) hC hΦ Tryz.func89 (by kernel_rfl) (by kernel_rfl) (loopsOk_nil (Λ := noLooper) (by kernel_rfl)) rfl hdist ⟨⟨_, rfl, hob0⟩, trivial⟩ hin rfl rfl ?_
 refine (b_zbx N _ _ _ _ _ _ _ _ _ _ _).trans ?_
 rw [← g_zbx_eq]
 exact h13
def f_zdn (N : Nat) : (R : Type) → List V → S → (V → S → Option R) → Option R := fun _ vs s K =>
 asN4 vs fun v'1 v'2 v'3 v'4 => un_impl_Fs v'1 fun e_1 f_2 x_3 => un_impl_Cred v'2 fun x_4 x_5 => asStr v'3 fun w_6 => asBool v'4 fun b_7 => asEnd s <| g_zdn N e_1 f_2 x_3 x_4 x_5 w_6 b_7 (fun x_8 x_9 => K (.tuple [.int .i64 x_8, .int .i64 x_9]) [])
def Φ_zdn (N : Nat) : Callee := (Φ_zbx N).add 46 (f_zdn N)
def c_zdn : Code := bodyOf Tryz.f46
def b_zdn_0 : Code := (loopNo c_zdn [] 0).2
def ks_zdn_0 : List Nat := butL 60 [3, 4, 10, 11]
def kx_zdn_0 : List Nat := butL 60 [4, 8, 9, 10, 11]
def fr_zdn_0 (b_1 b_2 : Bool) (e_3 : List V) (f_4 : Fl) (x_5 x_6 x_7 : Int) (e_8 : List V) (f_9 : Fl) (x_10 x_11 x_12 x_13 : Int) (e_14 : List V) (f_16 : Fl) (x_15 : Int) : List V := mkF 0 60 [(3, .bool b_1), (4, .ptr 0 0 0 0), (10, .bool b_2), (11, .ptr 2 0 0 0)]
def kk0_zdn_0 {R : Type} (K : X → List V → S → Option R) (b_1 : Bool) (b_2 : Bool) (e_3 : List V) (f_4 : Fl) (x_5 : Int) (x_6 : Int) (x_7 : Int) : Int → List V → Fl → Int → Int → Int → Int → List V → Fl → Int → Option R := (fun x_1' e_2' f_3' x_4' x_5' x_6' x_7' e_8' f_9' x_10' => K .ret (mkF 0 60 [(4, .ptr 0 0 0 0), (8, .int .i64 0), (9, .int .i64 (x_1')), (10, .bool b_2), (11, .ptr 2 0 0 0)]) [some ⟨[.agg [.list 7 e_3 f_4, .int .i64 x_5]], 2, 34, 0⟩, some ⟨[.agg [.int .i64 x_6, .int .i64 x_7]], 2, 36, 0⟩, some ⟨[.agg [.list 7 (e_2') (f_3'), .int .i64 (x_4'), .int .i64 (x_5'), .int .i64 (x_6'), .int .i64 (x_7'), .list 1 (e_8') (f_9'), .int .i64 (x_10')]], 7, 134, 0⟩])
def kk1_zdn_0 {R : Type} (K : X → List V → S → Option R) (b_1 : Bool) (b_2 : Bool) (e_3 : List V) (f_4 : Fl) (x_5 : Int) (x_6 : Int) (x_7 : Int) : List V → Fl → Int → Int → Int → Int → List V → Fl → Int → Option R := (fun e_1' f_2' x_3' x_4' x_5' x_6' e_7' f_8' x_9' => K (.exit 0) (mkF 0 60 [(4, .ptr 0 0 0 0), (10, .bool b_2), (11, .ptr 2 0 0 0)]) [some ⟨[.agg [.list 7 e_3 f_4, .int .i64 x_5]], 2, 34, 0⟩, some ⟨[.agg [.int .i64 x_6, .int .i64 x_7]], 2, 36, 0⟩, some ⟨[.agg [.list 7 (e_1') (f_2'), .int .i64 (x_3'), .int .i64 (x_4'), .int .i64 (x_5'), .int .i64 (x_6'), .list 1 (e_7') (f_8'), .int .i64 (x_9')]], 7, 134, 0⟩])
abbrev it_zdn_0 {R : Type} (N : Nat) : Nat → List V → S → (X → List V → S → Option R) → Option R := fun n => iter C (Φ_zbx N) (noLooper) b_zdn_0 [0, 0, 1, 1, 1, 1] false ks_zdn_0 kx_zdn_0 n R
theorem r_zdn_0 {R : Type} (N n : Nat) (b_1 b_2 : Bool) (e_3 : List V) (f_4 : Fl) (x_5 x_6 x_7 : Int) (e_8 : List V) (f_9 : Fl) (x_10 x_11 x_12 x_13 : Int) (e_14 : List V) (f_16 : Fl) (x_15 : Int) (K : X → List V → S → Option R) :
 it_zdn_0 N (n + 1) (fr_zdn_0 b_1 b_2 e_3 f_4 x_5 x_6 x_7 e_8 f_9 x_10 x_11 x_12 x_13 e_14 f_16 x_15) [some ⟨[.agg [.list 7 e_3 f_4, .int .i64 x_5]], 2, 34, 0⟩, some ⟨[.agg [.int .i64 x_6, .int .i64 x_7]], 2, 36, 0⟩, some ⟨[.agg [.list 7 e_8 f_9, .int .i64 x_10, .int .i64 x_11, .int .i64 x_12, .int .i64 x_13, .list 1 e_14 f_16, .int .i64 x_15]], 7, 134, 0⟩] K =
 l_zdn_0_step N b_1 b_2 e_3 f_4 x_5 x_6 x_7 (fun e_8 f_9 x_10 x_11 x_12 x_13 e_14 f_16 x_15 => it_zdn_0 N n (fr_zdn_0 b_1 b_2 e_3 f_4 x_5 x_6 x_7 e_8 f_9 x_10 x_11 x_12 x_13 e_14 f_16 x_15) [some ⟨[.agg [.list 7 e_3 f_4, .int .i64 x_5]], 2, 34, 0⟩, some ⟨[.agg [.int .i64 x_6, .int .i64 x_7]], 2, 36, 0⟩, some ⟨[.agg [.list 7 e_8 f_9, .int .i64 x_10, .int .i64 x_11, .int .i64 x_12, .int .i64 x_13, .list 1 e_14 f_16, .int .i64 x_15]], 7, 134, 0⟩] K) e_8 f_9 x_10 x_11 x_12 x_13 e_14 f_16 x_15 (kk0_zdn_0 K b_1 b_2 e_3 f_4 x_5 x_6 x_7) (kk1_zdn_0 K b_1 b_2 e_3 f_4 x_5 x_6 x_7) := by kernel_rfl
theorem w_zdn_0 {R : Type} (N : Nat) (b_1 b_2 : Bool) (e_3 : List V) (f_4 : Fl) (x_5 x_6 x_7 : Int) (K : X → List V → S → Option R) : ∀ (n : Nat) (e_8 : List V) (f_9 : Fl) (x_10 x_11 x_12 x_13 : Int) (e_14 : List V) (f_16 : Fl) (x_15 : Int),
 it_zdn_0 N n (fr_zdn_0 b_1 b_2 e_3 f_4 x_5 x_6 x_7 e_8 f_9 x_10 x_11 x_12 x_13 e_14 f_16 x_15) [some ⟨[.agg [.list 7 e_3 f_4, .int .i64 x_5]], 2, 34, 0⟩, some ⟨[.agg [.int .i64 x_6, .int .i64 x_7]], 2, 36, 0⟩, some ⟨[.agg [.list 7 e_8 f_9, .int .i64 x_10, .int .i64 x_11, .int .i64 x_12, .int .i64 x_13, .list 1 e_14 f_16, .int .i64 x_15]], 7, 134, 0⟩] K = l_zdn_0 N b_1 b_2 e_3 f_4 x_5 x_6 x_7 (kk0_zdn_0 K b_1 b_2 e_3 f_4 x_5 x_6 x_7) (kk1_zdn_0 K b_1 b_2 e_3 f_4 x_5 x_6 x_7) n e_8 f_9 x_10 x_11 x_12 x_13 e_14 f_16 x_15
 | 0, _, _, _, _, _, _, _, _, _ => rfl
 | n + 1, e_8, f_9, x_10, x_11, x_12, x_13, e_14, f_16, x_15 => (r_zdn_0 N n b_1 b_2 e_3 f_4 x_5 x_6 x_7 e_8 f_9 x_10 x_11 x_12 x_13 e_14 f_16 x_15 K).trans (congrArg (fun nx => l_zdn_0_step N b_1 b_2 e_3 f_4 x_5 x_6 x_7 nx e_8 f_9 x_10 x_11 x_12 x_13 e_14 f_16 x_15 (kk0_zdn_0 K b_1 b_2 e_3 f_4 x_5 x_6 x_7) (kk1_zdn_0 K b_1 b_2 e_3 f_4 x_5 x_6 x_7)) (funext fun e_8 => funext fun f_9 => funext fun x_10 => funext fun x_11 => funext fun x_12 => funext fun x_13 => funext fun e_14 => funext fun f_16 => funext fun x_15 => w_zdn_0 N b_1 b_2 e_3 f_4 x_5 x_6 x_7 K n e_8 f_9 x_10 x_11 x_12 x_13 e_14 f_16 x_15))
def i_zdn_0 {R : Type} (E : List V) (s : S) (k : Bool → Bool → List V → Fl → Int → Int → Int → List V → Fl → Int → Int → Int → Int → List V → Fl → Int → Option R) : Option R :=
 guardB (frameOk 60 [3, 4, 10, 11] E) <| atBool E 3 fun b_1 => atIs E 4 (.ptr 0 0 0 0) <| atBool E 10 fun b_2 => atIs E 11 (.ptr 2 0 0 0) <| asOb s fun o'1 s'2 => obIs o'1 2 34 fun e'3 k'4 => isN k'4 0 <| asN1 e'3 fun v'5 => asAgg v'5 fun c'6 => asN2 c'6 fun v'7 v'8 => asList 7 v'7 fun e_3 f_4 => asInt .i64 v'8 fun x_5 => asOb s'2 fun o'9 s'10 => obIs o'9 2 36 fun e'11 k'12 => isN k'12 0 <| asN1 e'11 fun v'13 => asAgg v'13 fun c'14 => asN2 c'14 fun v'15 v'16 => asInt .i64 v'15 fun x_6 => asInt .i64 v'16 fun x_7 => asOb s'10 fun o'17 s'18 => obIs o'17 7 134 fun e'19 k'20 => isN k'20 0 <| asN1 e'19 fun v'21 => asAgg v'21 fun c'22 => asN7 c'22 fun v'23 v'24 v'25 v'26 v'27 v'28 v'29 => asList 7 v'23 fun e_8 f_9 => asInt .i64 v'24 fun x_10 => asInt .i64 v'25 fun x_11 => asInt .i64 v'26 fun x_12 => asInt .i64 v'27 fun x_13 => asList 1 v'28 fun e_14 f_16 => asInt .i64 v'29 fun x_15 => asEnd s'18 <| k b_1 b_2 e_3 f_4 x_5 x_6 x_7 e_8 f_9 x_10 x_11 x_12 x_13 e_14 f_16 x_15
theorem i_zdn_0_spec {R : Type} {E : List V} {s : S} {k : Bool → Bool → List V → Fl → Int → Int → Int → List V → Fl → Int → Int → Int → Int → List V → Fl → Int → Option R} {r : R} (h : i_zdn_0 E s k = some r) : ∃ b_1 b_2 e_3 f_4 x_5 x_6 x_7 e_8 f_9 x_10 x_11 x_12 x_13 e_14 f_16 x_15, E = fr_zdn_0 b_1 b_2 e_3 f_4 x_5 x_6 x_7 e_8 f_9 x_10 x_11 x_12 x_13 e_14 f_16 x_15 ∧ s = [some ⟨[.agg [.list 7 e_3 f_4, .int .i64 x_5]], 2, 34, 0⟩, some ⟨[.agg [.int .i64 x_6, .int .i64 x_7]], 2, 36, 0⟩, some ⟨[.agg [.list 7 e_8 f_9, .int .i64 x_10, .int .i64 x_11, .int .i64 x_12, .int .i64 x_13, .list 1 e_14 f_16, .int .i64 x_15]], 7, 134, 0⟩] ∧ k b_1 b_2 e_3 f_4 x_5 x_6 x_7 e_8 f_9 x_10 x_11 x_12 x_13 e_14 f_16 x_15 = some r := by
 unfold i_zdn_0 at h
 obtain ⟨hg, h1⟩ := guardB_some h
 obtain ⟨_, hu3, h2⟩ := atBool_some h1
 obtain ⟨hu4, h3⟩ := atIs_some h2
 obtain ⟨_, hu10, h4⟩ := atBool_some h3
 obtain ⟨hu11, h5⟩ := atIs_some h4
 obtain ⟨_, _, rfl, h6⟩ := asOb_some h5
 obtain ⟨_, _, rfl, h7⟩ := obIs_some h6
 obtain ⟨rfl, h8⟩ := isN_some h7
 obtain ⟨_, rfl, h9⟩ := asN1_some h8
 obtain ⟨_, rfl, h10⟩ := asAgg_some h9
 obtain ⟨_, _, rfl, h11⟩ := asN2_some h10
 obtain ⟨_, _, rfl, h12⟩ := asList_some h11
 obtain ⟨_, rfl, h13⟩ := asInt_some h12
 obtain ⟨_, _, rfl, h14⟩ := asOb_some h13
 obtain ⟨_, _, rfl, h15⟩ := obIs_some h14
 obtain ⟨rfl, h16⟩ := isN_some h15
 obtain ⟨_, rfl, h17⟩ := asN1_some h16
 obtain ⟨_, rfl, h18⟩ := asAgg_some h17
 obtain ⟨_, _, rfl, h19⟩ := asN2_some h18
 obtain ⟨_, rfl, h20⟩ := asInt_some h19
 obtain ⟨_, rfl, h21⟩ := asInt_some h20
 obtain ⟨_, _, rfl, h22⟩ := asOb_some h21
 obtain ⟨_, _, rfl, h23⟩ := obIs_some h22
 obtain ⟨rfl, h24⟩ := isN_some h23
 obtain ⟨_, rfl, h25⟩ := asN1_some h24
 obtain ⟨_, rfl, h26⟩ := asAgg_some h25
 obtain ⟨_, _, _, _, _, _, _, rfl, h27⟩ := asN7_some h26
 obtain ⟨_, _, rfl, h28⟩ := asList_some h27
 obtain ⟨_, rfl, h29⟩ := asInt_some h28
 obtain ⟨_, rfl, h30⟩ := asInt_some h29
 obtain ⟨_, rfl, h31⟩ := asInt_some h30
 obtain ⟨_, rfl, h32⟩ := asInt_some h31
 obtain ⟨_, _, rfl, h33⟩ := asList_some h32
 obtain ⟨_, rfl, h34⟩ := asInt_some h33
 obtain ⟨rfl, h35⟩ := asEnd_some h34
 exact ⟨_, _, _, _, _, _, _, _, _, _, _, _, _, _, _, _, frame_is hg rfl (slots_cons hu3 (slots_cons hu4 (slots_cons hu10 (slots_cons hu11 slots_nil)))), rfl, h35⟩
def Λ_zdn_0 (N : Nat) : Looper := (noLooper).add [0, 0, 1, 1, 1, 1] fun _ E s K => i_zdn_0 (killE ks_zdn_0 E) s fun b_1 b_2 e_3 f_4 x_5 x_6 x_7 e_8 f_9 x_10 x_11 x_12 x_13 e_14 f_16 x_15 => l_zdn_0 N b_1 b_2 e_3 f_4 x_5 x_6 x_7 (kk0_zdn_0 K b_1 b_2 e_3 f_4 x_5 x_6 x_7) (kk1_zdn_0 K b_1 b_2 e_3 f_4 x_5 x_6 x_7) N e_8 f_9 x_10 x_11 x_12 x_13 e_14 f_16 x_15
theorem ok_zdn_0 {N : Nat} (hC : Ok Tryz.prog C) (hΦ : CalleeOk Tryz.prog C (Φ_zbx N)) : LoopOk Tryz.prog C (Λ_zdn_0 N) b_zdn_0 [0, 0, 1, 1, 1, 1] :=
 iter_ok (Λi := noLooper) (tr := false) (ks := ks_zdn_0) (kx := kx_zdn_0) (N := N) hC hΦ
  (loopsOk_nil (by kernel_rfl))
  fun R E s K r h => by
   have h2 := Looper.add_self.symm.trans h
   obtain ⟨_, _, _, _, _, _, _, _, _, _, _, _, _, _, _, _, he, rfl, h3⟩ := i_zdn_0_spec h2
   rw [he]
   exact (w_zdn_0 N _ _ _ _ _ _ _ _ N _ _ _ _ _ _ _ _ _).trans h3
theorem at_zdn : loopsAt c_zdn [] = [([0, 0, 1, 1, 1, 1], b_zdn_0)] := by kernel_rfl
theorem b_zdn {R : Type} (N : Nat) (e_1 : List V) (f_2 : Fl) (x_3 x_4 x_5 : Int) (w_6 : ByteArray) (b_7 : Bool) (K : V → S → Option R) : bodyV C (Φ_zbx N) (Λ_zdn_0 N) 46 Tryz.f46 [.agg [.list 7 e_1 f_2, .int .i64 x_3], .agg [.int .i64 x_4, .int .i64 x_5], .str w_6, .bool b_7] [] K =
 gb_zdn N e_1 f_2 x_3 x_4 x_5 w_6 b_7 (fun x_8 x_9 => K (.tuple [.int .i64 x_8, .int .i64 x_9]) []) := by kernel_rfl
theorem loops_zdn {N : Nat} (hC : Ok Tryz.prog C) (hΦ : CalleeOk Tryz.prog C (Φ_zbx N)) : LoopsOk Tryz.prog C (Λ_zdn_0 N) c_zdn [] :=
 loopsOk_of c_zdn [] (by
  rw [at_zdn]
  intro p hp
  simp only [List.mem_cons, List.mem_nil_iff, or_false] at hp
  rcases hp with rfl
  ·exact (ok_zdn_0 hC hΦ))
theorem callee_zdn (hC : Ok Tryz.prog C) {N : Nat} (hΦ : CalleeOk Tryz.prog C (Φ_zbx N)) : CalleeOk Tryz.prog C (Φ_zdn N) := by
 refine hΦ.add_pure rfl fun R vs K r h => ?_
 unfold f_zdn at h
 obtain ⟨_, _, _, _, rfl, h1⟩ := asN4_some h
 obtain ⟨_, _, _, rfl, h2⟩ := un_impl_Fs_some h1
 obtain ⟨_, _, rfl, h3⟩ := un_impl_Cred_some h2
 obtain ⟨_, rfl, h4⟩ := asStr_some h3
 obtain ⟨_, rfl, h5⟩ := asBool_some h4
 obtain ⟨_, h6⟩ := asEnd_some h5
 refine body_pure (fn := Tryz.f46) (c := c_zdn) hC hΦ Tryz.func46 (by kernel_rfl) (by kernel_rfl) (loops_zdn (N := N) hC hΦ) rfl rfl ?_
 refine (b_zdn N _ _ _ _ _ _ _ _).trans ?_
 rw [← g_zdn_eq]
 exact h6
def f_zcm (N : Nat) : (R : Type) → List V → S → (V → S → Option R) → Option R := fun _ vs s K =>
 asN1 vs fun v'1 => asStr v'1 fun w_1 => asEnd s <| g_zcm N w_1 (fun e_2 => K (.list 1 e_2 .sh) [])
def Φ_zcm (N : Nat) : Callee := (Φ_zdn N).add 129 (f_zcm N)
def c_zcm : Code := bodyOf Tryz.f129
def b_zcm_0 : Code := (loopNo c_zcm [] 0).2
def ks_zcm_0 : List Nat := butL 52 [0, 3, 8, 9, 10]
def kx_zcm_0 : List Nat := butL 52 [3]
def fr_zcm_0 (w_1 : ByteArray) (e_2 : List V) (x_3 : Int) (k_5 k_6 : Nat) (x_4 : Int) (O_9 : Ob) : List V := mkF 0 52 [(0, .str w_1), (3, .arr 1 k_5 0 k_6), (8, .list 1 e_2 (.own 9)), (9, .int .i64 x_3), (10, .int .i64 x_4)]
def kk0_zcm_0 {R : Type} (K : X → List V → S → Option R) (w_1 : ByteArray) (e_2 : List V) (x_3 : Int) : Nat → Nat → Ob → Option R := (fun k_1' k_2' O_3' => K (.exit 0) (mkF 0 52 [(3, .arr 1 (k_1') 0 (k_2'))]) [some ⟨[], 1, 9, 0⟩, some (O_3')])
abbrev it_zcm_0 {R : Type} (N : Nat) : Nat → List V → S → (X → List V → S → Option R) → Option R := fun n => iter C.objs (Φ_zdn N) (noLooper) b_zcm_0 [0, 1, 0, 1, 1] false ks_zcm_0 kx_zcm_0 n R
theorem r_zcm_0 {R : Type} (N n : Nat) (w_1 : ByteArray) (e_2 : List V) (x_3 : Int) (k_5 k_6 : Nat) (x_4 : Int) (O_9 : Ob) (K : X → List V → S → Option R) :
 it_zcm_0 N (n + 1) (fr_zcm_0 w_1 e_2 x_3 k_5 k_6 x_4 O_9) [some ⟨[], 1, 9, 0⟩, some O_9] K =
 l_zcm_0_step N w_1 e_2 x_3 (fun k_5 k_6 x_4 O_9 => it_zcm_0 N n (fr_zcm_0 w_1 e_2 x_3 k_5 k_6 x_4 O_9) [some ⟨[], 1, 9, 0⟩, some O_9] K) k_5 k_6 x_4 O_9 (kk0_zcm_0 K w_1 e_2 x_3) := by kernel_rfl
theorem w_zcm_0 {R : Type} (N : Nat) (w_1 : ByteArray) (e_2 : List V) (x_3 : Int) (K : X → List V → S → Option R) : ∀ (n : Nat) (k_5 k_6 : Nat) (x_4 : Int) (O_9 : Ob),
 it_zcm_0 N n (fr_zcm_0 w_1 e_2 x_3 k_5 k_6 x_4 O_9) [some ⟨[], 1, 9, 0⟩, some O_9] K = l_zcm_0 N w_1 e_2 x_3 (kk0_zcm_0 K w_1 e_2 x_3) n k_5 k_6 x_4 O_9
 | 0, _, _, _, _ => rfl
 | n + 1, k_5, k_6, x_4, O_9 => (r_zcm_0 N n w_1 e_2 x_3 k_5 k_6 x_4 O_9 K).trans (congrArg (fun nx => l_zcm_0_step N w_1 e_2 x_3 nx k_5 k_6 x_4 O_9 (kk0_zcm_0 K w_1 e_2 x_3)) (funext fun k_5 => funext fun k_6 => funext fun x_4 => funext fun O_9 => w_zcm_0 N w_1 e_2 x_3 K n k_5 k_6 x_4 O_9))
def i_zcm_0 {R : Type} (E : List V) (s : S) (k : ByteArray → Nat → Nat → List V → Int → Int → Ob → Option R) : Option R :=
 guardB (frameOk 52 [0, 3, 8, 9, 10] E) <| atStr E 0 fun w_1 => must (nth E 3) fun u3 => asArr u3 fun k'1 k_5 k'2 k_6 => isN k'1 1 <| isN k'2 0 <| must (nth E 8) fun u8 => asList 1 u8 fun e_2 f'3 => asOwn 9 f'3 <| atInt E 9 .i64 fun x_3 => atInt E 10 .i64 fun x_4 => asOb s fun o'4 s'5 => obIs o'4 1 9 fun e'6 k'7 => isN k'7 0 <| asN0 e'6 <| asOb s'5 fun O_9 s'8 => asEnd s'8 <| k w_1 k_5 k_6 e_2 x_3 x_4 O_9
theorem i_zcm_0_spec {R : Type} {E : List V} {s : S} {k : ByteArray → Nat → Nat → List V → Int → Int → Ob → Option R} {r : R} (h : i_zcm_0 E s k = some r) : ∃ w_1 k_5 k_6 e_2 x_3 x_4 O_9, E = fr_zcm_0 w_1 e_2 x_3 k_5 k_6 x_4 O_9 ∧ s = [some ⟨[], 1, 9, 0⟩, some O_9] ∧ k w_1 k_5 k_6 e_2 x_3 x_4 O_9 = some r := by
 unfold i_zcm_0 at h
 obtain ⟨hg, h1⟩ := guardB_some h
 obtain ⟨_, hu0, h2⟩ := atStr_some h1
 obtain ⟨_, hu3, h3⟩ := must_some h2
 obtain ⟨_, _, _, _, rfl, h4⟩ := asArr_some h3
 obtain ⟨rfl, h5⟩ := isN_some h4
 obtain ⟨rfl, h6⟩ := isN_some h5
 obtain ⟨_, hu8, h7⟩ := must_some h6
 obtain ⟨_, _, rfl, h8⟩ := asList_some h7
 obtain ⟨rfl, h9⟩ := asOwn_some h8
 obtain ⟨_, hu9, h10⟩ := atInt_some h9
 obtain ⟨_, hu10, h11⟩ := atInt_some h10
 obtain ⟨_, _, rfl, h12⟩ := asOb_some h11
 obtain ⟨_, _, rfl, h13⟩ := obIs_some h12
 obtain ⟨rfl, h14⟩ := isN_some h13
 obtain ⟨rfl, h15⟩ := asN0_some h14
 obtain ⟨_, _, rfl, h16⟩ := asOb_some h15
 obtain ⟨rfl, h17⟩ := asEnd_some h16
 exact ⟨_, _, _, _, _, _, _, frame_is hg rfl (slots_cons hu0 (slots_cons hu3 (slots_cons hu8 (slots_cons hu9 (slots_cons hu10 slots_nil))))), rfl, h17⟩
def Λ_zcm_0 (N : Nat) : Looper := (noLooper).add [0, 1, 0, 1, 1] fun _ E s K => i_zcm_0 (killE ks_zcm_0 E) s fun w_1 k_5 k_6 e_2 x_3 x_4 O_9 => l_zcm_0 N w_1 e_2 x_3 (kk0_zcm_0 K w_1 e_2 x_3) N k_5 k_6 x_4 O_9
theorem ok_zcm_0 {N : Nat} (hC : Ok Tryz.prog C) (hΦ : CalleeOk Tryz.prog C (Φ_zdn N)) : LoopOk Tryz.prog C.objs (Λ_zcm_0 N) b_zcm_0 [0, 1, 0, 1, 1] :=
 iter_ok (Λi := noLooper) (tr := false) (ks := ks_zcm_0) (kx := kx_zcm_0) (N := N) hC.objs hΦ.objs
  (loopsOk_nil (by kernel_rfl))
  fun R E s K r h => by
   have h2 := Looper.add_self.symm.trans h
   obtain ⟨_, _, _, _, _, _, _, he, rfl, h3⟩ := i_zcm_0_spec h2
   rw [he]
   exact (w_zcm_0 N _ _ _ _ N _ _ _ _).trans h3
theorem at_zcm : loopsAt c_zcm [] = [([0, 1, 0, 1, 1], b_zcm_0)] := by kernel_rfl
theorem b_zcm {R : Type} (N : Nat) (w_1 : ByteArray) (K : V → S → Option R) : bodyV C.objs (Φ_zdn N) (Λ_zcm_0 N) 129 Tryz.f129 [.str w_1] [] K =
 gb_zcm N w_1 (fun e_2 => K (.list 1 e_2 .sh) []) := by kernel_rfl
theorem loops_zcm {N : Nat} (hC : Ok Tryz.prog C) (hΦ : CalleeOk Tryz.prog C (Φ_zdn N)) : LoopsOk Tryz.prog C.objs (Λ_zcm_0 N) c_zcm [] :=
 loopsOk_of c_zcm [] (by
  rw [at_zcm]
  intro p hp
  simp only [List.mem_cons, List.mem_nil_iff, or_false] at hp
  rcases hp with rfl
  ·exact (ok_zcm_0 hC hΦ))
theorem callee_zcm (hC : Ok Tryz.prog C) {N : Nat} (hΦ : CalleeOk Tryz.prog C (Φ_zdn N)) : CalleeOk Tryz.prog C (Φ_zcm N) := by
 refine hΦ.add_pure rfl fun R vs K r h => ?_
 unfold f_zcm at h
 obtain ⟨_, rfl, h1⟩ := asN1_some h
 obtain ⟨_, rfl, h2⟩ := asStr_some h1
 obtain ⟨_, h3⟩ := asEnd_some h2
 refine body_pure (fn := Tryz.f129) (c := c_zcm) hC.objs hΦ.objs Tryz.func129 (by kernel_rfl) (by kernel_rfl) (loops_zcm (N := N) hC hΦ) rfl rfl ?_
 refine (b_zcm N _ _).trans ?_
 rw [← g_zcm_eq]
 exact h3
def f_zdi (N : Nat) : (R : Type) → List V → S → (V → S → Option R) → Option R := fun _ vs s K =>
 asN1 vs fun v'1 => asStr v'1 fun w_1 => asEnd s <| g_zdi N w_1 (fun w_2 => K (.str w_2) [])
def Φ_zdi (N : Nat) : Callee := (Φ_zcm N).add 77 (f_zdi N)
def c_zdi : Code := bodyOf Tryz.f77
theorem b_zdi {R : Type} (N : Nat) (w_1 : ByteArray) (K : V → S → Option R) : bodyV C (Φ_zcm N) (noLooper) 77 Tryz.f77 [.str w_1] [] K =
 gb_zdi N w_1 (fun w_2 => K (.str w_2) []) := by kernel_rfl
theorem callee_zdi (hC : Ok Tryz.prog C) {N : Nat} (hΦ : CalleeOk Tryz.prog C (Φ_zcm N)) : CalleeOk Tryz.prog C (Φ_zdi N) := by
 refine hΦ.add_pure rfl fun R vs K r h => ?_
 unfold f_zdi at h
 obtain ⟨_, rfl, h1⟩ := asN1_some h
 obtain ⟨_, rfl, h2⟩ := asStr_some h1
 obtain ⟨_, h3⟩ := asEnd_some h2
 refine body_pure (fn := Tryz.f77) (c := c_zdi) hC hΦ Tryz.func77 (by kernel_rfl) (by kernel_rfl) (loopsOk_nil (Λ := noLooper) (by kernel_rfl)) rfl rfl ?_
 refine (b_zdi N _ _).trans ?_
 rw [← g_zdi_eq]
 exact h3
def f_zcr (N : Nat) : (R : Type) → List V → S → (V → S → Option R) → Option R := fun _ vs s K =>
 asN1 vs fun v'1 => asStr v'1 fun w_1 => asEnd s <| g_zcr N w_1 (fun w_2 => K (.str w_2) [])
def Φ_zcr (N : Nat) : Callee := (Φ_zdi N).add 118 (f_zcr N)
def c_zcr : Code := bodyOf Tryz.f118
def b_zcr_0 : Code := (loopNo c_zcr [] 0).2
def b_zcr_1 : Code := (loopNo c_zcr [] 1).2
def ks_zcr_0 : List Nat := butL 27 [0, 3]
def kx_zcr_0 : List Nat := butL 27 [0, 3]
def fr_zcr_0 (w_1 : ByteArray) (x_2 : Int) : List V := mkF 0 27 [(0, .str w_1), (3, .int .i64 x_2)]
def kk0_zcr_0 {R : Type} (K : X → List V → S → Option R) (w_1 : ByteArray) : Int → Option R := (fun x_1' => K (.exit 0) (mkF 0 27 [(0, .str w_1), (3, .int .i64 (x_1'))]) [])
abbrev it_zcr_0 {R : Type} (N : Nat) : Nat → List V → S → (X → List V → S → Option R) → Option R := fun n => iter C (Φ_zdi N) (noLooper) b_zcr_0 [0, 0, 1, 1] false ks_zcr_0 kx_zcr_0 n R
theorem r_zcr_0 {R : Type} (N n : Nat) (w_1 : ByteArray) (x_2 : Int) (K : X → List V → S → Option R) :
 it_zcr_0 N (n + 1) (fr_zcr_0 w_1 x_2) [] K =
 l_zcr_0_step N w_1 (fun x_2 => it_zcr_0 N n (fr_zcr_0 w_1 x_2) [] K) x_2 (kk0_zcr_0 K w_1) := by kernel_rfl
theorem w_zcr_0 {R : Type} (N : Nat) (w_1 : ByteArray) (K : X → List V → S → Option R) : ∀ (n : Nat) (x_2 : Int),
 it_zcr_0 N n (fr_zcr_0 w_1 x_2) [] K = l_zcr_0 N w_1 (kk0_zcr_0 K w_1) n x_2
 | 0, _ => rfl
 | n + 1, x_2 => (r_zcr_0 N n w_1 x_2 K).trans (congrArg (fun nx => l_zcr_0_step N w_1 nx x_2 (kk0_zcr_0 K w_1)) (funext fun x_2 => w_zcr_0 N w_1 K n x_2))
def i_zcr_0 {R : Type} (E : List V) (s : S) (k : ByteArray → Int → Option R) : Option R :=
 guardB (frameOk 27 [0, 3] E) <| atStr E 0 fun w_1 => atInt E 3 .i64 fun x_2 => asEnd s <| k w_1 x_2
theorem i_zcr_0_spec {R : Type} {E : List V} {s : S} {k : ByteArray → Int → Option R} {r : R} (h : i_zcr_0 E s k = some r) : ∃ w_1 x_2, E = fr_zcr_0 w_1 x_2 ∧ s = [] ∧ k w_1 x_2 = some r := by
 unfold i_zcr_0 at h
 obtain ⟨hg, h1⟩ := guardB_some h
 obtain ⟨_, hu0, h2⟩ := atStr_some h1
 obtain ⟨_, hu3, h3⟩ := atInt_some h2
 obtain ⟨rfl, h4⟩ := asEnd_some h3
 exact ⟨_, _, frame_is hg rfl (slots_cons hu0 (slots_cons hu3 slots_nil)), rfl, h4⟩
def Λ_zcr_0 (N : Nat) : Looper := (noLooper).add [0, 0, 1, 1] fun _ E s K => i_zcr_0 (killE ks_zcr_0 E) s fun w_1 x_2 => l_zcr_0 N w_1 (kk0_zcr_0 K w_1) N x_2
theorem ok_zcr_0 {N : Nat} (hC : Ok Tryz.prog C) (hΦ : CalleeOk Tryz.prog C (Φ_zdi N)) : LoopOk Tryz.prog C (Λ_zcr_0 N) b_zcr_0 [0, 0, 1, 1] :=
 iter_ok (Λi := noLooper) (tr := false) (ks := ks_zcr_0) (kx := kx_zcr_0) (N := N) hC hΦ
  (loopsOk_nil (by kernel_rfl))
  fun R E s K r h => by
   have h2 := Looper.add_self.symm.trans h
   obtain ⟨_, _, he, rfl, h3⟩ := i_zcr_0_spec h2
   rw [he]
   exact (w_zcr_0 N _ _ N _).trans h3
def ks_zcr_1 : List Nat := butL 27 [0, 3]
def kx_zcr_1 : List Nat := butL 27 [0, 3]
def fr_zcr_1 (w_1 : ByteArray) (x_2 : Int) : List V := mkF 0 27 [(0, .str w_1), (3, .int .i64 x_2)]
def kk0_zcr_1 {R : Type} (K : X → List V → S → Option R) (w_1 : ByteArray) : Int → Option R := (fun x_1' => K (.exit 2) (mkF 0 27 [(0, .str w_1), (3, .int .i64 (x_1'))]) [])
abbrev it_zcr_1 {R : Type} (N : Nat) : Nat → List V → S → (X → List V → S → Option R) → Option R := fun n => iter C (Φ_zdi N) (Λ_zcr_0 N) b_zcr_1 [0, 0, 1, 1, 1] false ks_zcr_1 kx_zcr_1 n R
theorem r_zcr_1 {R : Type} (N n : Nat) (w_1 : ByteArray) (x_2 : Int) (K : X → List V → S → Option R) :
 it_zcr_1 N (n + 1) (fr_zcr_1 w_1 x_2) [] K =
 l_zcr_1_step N w_1 (fun x_2 => it_zcr_1 N n (fr_zcr_1 w_1 x_2) [] K) x_2 (kk0_zcr_1 K w_1) := by kernel_rfl
theorem w_zcr_1 {R : Type} (N : Nat) (w_1 : ByteArray) (K : X → List V → S → Option R) : ∀ (n : Nat) (x_2 : Int),
 it_zcr_1 N n (fr_zcr_1 w_1 x_2) [] K = l_zcr_1 N w_1 (kk0_zcr_1 K w_1) n x_2
 | 0, _ => rfl
 | n + 1, x_2 => (r_zcr_1 N n w_1 x_2 K).trans (congrArg (fun nx => l_zcr_1_step N w_1 nx x_2 (kk0_zcr_1 K w_1)) (funext fun x_2 => w_zcr_1 N w_1 K n x_2))
def i_zcr_1 {R : Type} (E : List V) (s : S) (k : ByteArray → Int → Option R) : Option R :=
 guardB (frameOk 27 [0, 3] E) <| atStr E 0 fun w_1 => atInt E 3 .i64 fun x_2 => asEnd s <| k w_1 x_2
theorem i_zcr_1_spec {R : Type} {E : List V} {s : S} {k : ByteArray → Int → Option R} {r : R} (h : i_zcr_1 E s k = some r) : ∃ w_1 x_2, E = fr_zcr_1 w_1 x_2 ∧ s = [] ∧ k w_1 x_2 = some r := by
 unfold i_zcr_1 at h
 obtain ⟨hg, h1⟩ := guardB_some h
 obtain ⟨_, hu0, h2⟩ := atStr_some h1
 obtain ⟨_, hu3, h3⟩ := atInt_some h2
 obtain ⟨rfl, h4⟩ := asEnd_some h3
 exact ⟨_, _, frame_is hg rfl (slots_cons hu0 (slots_cons hu3 slots_nil)), rfl, h4⟩
def Λ_zcr_1 (N : Nat) : Looper := (Λ_zcr_0 N).add [0, 0, 1, 1, 1] fun _ E s K => i_zcr_1 (killE ks_zcr_1 E) s fun w_1 x_2 => l_zcr_1 N w_1 (kk0_zcr_1 K w_1) N x_2
theorem ok_zcr_1 {N : Nat} (hC : Ok Tryz.prog C) (hΦ : CalleeOk Tryz.prog C (Φ_zdi N)) : LoopOk Tryz.prog C (Λ_zcr_1 N) b_zcr_1 [0, 0, 1, 1, 1] :=
 iter_ok (Λi := Λ_zcr_0 N) (tr := false) (ks := ks_zcr_1) (kx := kx_zcr_1) (N := N) hC hΦ
  (loopsOk_nil (by kernel_rfl))
  fun R E s K r h => by
   have h2 := Looper.add_self.symm.trans h
   obtain ⟨_, _, he, rfl, h3⟩ := i_zcr_1_spec h2
   rw [he]
   exact (w_zcr_1 N _ _ N _).trans h3
theorem at_zcr : loopsAt c_zcr [] = [([0, 0, 1, 1], b_zcr_0), ([0, 0, 1, 1, 1], b_zcr_1)] := by kernel_rfl
theorem b_zcr {R : Type} (N : Nat) (w_1 : ByteArray) (K : V → S → Option R) : bodyV C (Φ_zdi N) (Λ_zcr_1 N) 118 Tryz.f118 [.str w_1] [] K =
 gb_zcr N w_1 (fun w_2 => K (.str w_2) []) := by kernel_rfl
theorem loops_zcr {N : Nat} (hC : Ok Tryz.prog C) (hΦ : CalleeOk Tryz.prog C (Φ_zdi N)) : LoopsOk Tryz.prog C (Λ_zcr_1 N) c_zcr [] :=
 loopsOk_of c_zcr [] (by
  rw [at_zcr]
  intro p hp
  simp only [List.mem_cons, List.mem_nil_iff, or_false] at hp
  rcases hp with rfl | rfl
  ·exact (LoopOk.add (ok_zcr_0 hC hΦ) rfl)
  ·exact (ok_zcr_1 hC hΦ))
theorem callee_zcr (hC : Ok Tryz.prog C) {N : Nat} (hΦ : CalleeOk Tryz.prog C (Φ_zdi N)) : CalleeOk Tryz.prog C (Φ_zcr N) := by
 refine hΦ.add_pure rfl fun R vs K r h => ?_
 unfold f_zcr at h
 obtain ⟨_, rfl, h1⟩ := asN1_some h
 obtain ⟨_, rfl, h2⟩ := asStr_some h1
 obtain ⟨_, h3⟩ := asEnd_some h2
 refine body_pure (fn := Tryz.f118) (c := c_zcr) hC hΦ Tryz.func118 (by kernel_rfl) (by kernel_rfl) (loops_zcr (N := N) hC hΦ) rfl rfl ?_
 refine (b_zcr N _ _).trans ?_
 rw [← g_zcr_eq]
 exact h3
def f_zct (N : Nat) : (R : Type) → List V → S → (V → S → Option R) → Option R := fun _ vs s K =>
 asN3 vs fun v'1 v'2 v'3 => un_impl_Fs v'1 fun e_1 f_2 x_3 => un_impl_Cred v'2 fun x_4 x_5 => asStr v'3 fun w_6 => asEnd s <| g_zct N e_1 f_2 x_3 x_4 x_5 w_6 (fun x_7 w_8 x_9 => K (.tuple [.int .i64 x_7, .str w_8, .int .i64 x_9]) [])
def Φ_zct (N : Nat) : Callee := (Φ_zcr N).add 70 (f_zct N)
def c_zct : Code := bodyOf Tryz.f70
theorem b_zct {R : Type} (N : Nat) (e_1 : List V) (f_2 : Fl) (x_3 x_4 x_5 : Int) (w_6 : ByteArray) (K : V → S → Option R) : bodyV C (Φ_zcr N) (noLooper) 70 Tryz.f70 [.agg [.list 7 e_1 f_2, .int .i64 x_3], .agg [.int .i64 x_4, .int .i64 x_5], .str w_6] [] K =
 gb_zct N e_1 f_2 x_3 x_4 x_5 w_6 (fun x_7 w_8 x_9 => K (.tuple [.int .i64 x_7, .str w_8, .int .i64 x_9]) []) := by kernel_rfl
theorem callee_zct (hC : Ok Tryz.prog C) {N : Nat} (hΦ : CalleeOk Tryz.prog C (Φ_zcr N)) : CalleeOk Tryz.prog C (Φ_zct N) := by
 refine hΦ.add_pure rfl fun R vs K r h => ?_
 unfold f_zct at h
 obtain ⟨_, _, _, rfl, h1⟩ := asN3_some h
 obtain ⟨_, _, _, rfl, h2⟩ := un_impl_Fs_some h1
 obtain ⟨_, _, rfl, h3⟩ := un_impl_Cred_some h2
 obtain ⟨_, rfl, h4⟩ := asStr_some h3
 obtain ⟨_, h5⟩ := asEnd_some h4
 refine body_pure (fn := Tryz.f70) (c := c_zct) hC hΦ Tryz.func70 (by kernel_rfl) (by kernel_rfl) (loopsOk_nil (Λ := noLooper) (by kernel_rfl)) rfl rfl ?_
 refine (b_zct N _ _ _ _ _ _ _).trans ?_
 rw [← g_zct_eq]
 exact h5
def f_zbi (N : Nat) : (R : Type) → List V → S → (V → S → Option R) → Option R := fun _ vs s K =>
 asN3 vs fun v'1 v'2 v'3 => un_impl_Fs v'1 fun e_1 f_2 x_3 => un_impl_Cred v'2 fun x_4 x_5 => asStr v'3 fun w_6 => asEnd s <| g_zbi N e_1 f_2 x_3 x_4 x_5 w_6 (fun x_7 w_8 x_9 b_10 => K (.tuple [.int .i64 x_7, .str w_8, .int .i64 x_9, .bool b_10]) [])
def Φ_zbi (N : Nat) : Callee := (Φ_zct N).add 38 (f_zbi N)
def c_zbi : Code := bodyOf Tryz.f38
theorem b_zbi {R : Type} (N : Nat) (e_1 : List V) (f_2 : Fl) (x_3 x_4 x_5 : Int) (w_6 : ByteArray) (K : V → S → Option R) : bodyV C (Φ_zct N) (noLooper) 38 Tryz.f38 [.agg [.list 7 e_1 f_2, .int .i64 x_3], .agg [.int .i64 x_4, .int .i64 x_5], .str w_6] [] K =
 gb_zbi N e_1 f_2 x_3 x_4 x_5 w_6 (fun x_7 w_8 x_9 b_10 => K (.tuple [.int .i64 x_7, .str w_8, .int .i64 x_9, .bool b_10]) []) := by kernel_rfl
theorem callee_zbi (hC : Ok Tryz.prog C) {N : Nat} (hΦ : CalleeOk Tryz.prog C (Φ_zct N)) : CalleeOk Tryz.prog C (Φ_zbi N) := by
 refine hΦ.add_pure rfl fun R vs K r h => ?_
 unfold f_zbi at h
 obtain ⟨_, _, _, rfl, h1⟩ := asN3_some h
 obtain ⟨_, _, _, rfl, h2⟩ := un_impl_Fs_some h1
 obtain ⟨_, _, rfl, h3⟩ := un_impl_Cred_some h2
 obtain ⟨_, rfl, h4⟩ := asStr_some h3
 obtain ⟨_, h5⟩ := asEnd_some h4
 refine body_pure (fn := Tryz.f38) (c := c_zbi) hC hΦ Tryz.func38 (by kernel_rfl) (by kernel_rfl) (loopsOk_nil (Λ := noLooper) (by kernel_rfl)) rfl rfl ?_
 refine (b_zbi N _ _ _ _ _ _ _).trans ?_
 rw [← g_zbi_eq]
 exact h5
def f_zdb (N : Nat) : (R : Type) → List V → S → (V → S → Option R) → Option R := fun _ vs s K =>
 asN3 vs fun v'1 v'2 v'3 => asInt .i64 v'1 fun x_1 => asInt .i64 v'2 fun x_2 => asInt .i64 v'3 fun x_3 => asEnd s <| g_zdb N x_1 x_2 x_3 (fun b_4 => K (.bool b_4) [])
def Φ_zdb (N : Nat) : Callee := (Φ_zbi N).add 115 (f_zdb N)
def c_zdb : Code := bodyOf Tryz.f115
theorem b_zdb {R : Type} (N : Nat) (x_1 x_2 x_3 : Int) (K : V → S → Option R) : bodyV C (Φ_zbi N) (noLooper) 115 Tryz.f115 [.int .i64 x_1, .int .i64 x_2, .int .i64 x_3] [] K =
 gb_zdb N x_1 x_2 x_3 (fun b_4 => K (.bool b_4) []) := by kernel_rfl
theorem callee_zdb (hC : Ok Tryz.prog C) {N : Nat} (hΦ : CalleeOk Tryz.prog C (Φ_zbi N)) : CalleeOk Tryz.prog C (Φ_zdb N) := by
 refine hΦ.add_pure rfl fun R vs K r h => ?_
 unfold f_zdb at h
 obtain ⟨_, _, _, rfl, h1⟩ := asN3_some h
 obtain ⟨_, rfl, h2⟩ := asInt_some h1
 obtain ⟨_, rfl, h3⟩ := asInt_some h2
 obtain ⟨_, rfl, h4⟩ := asInt_some h3
 obtain ⟨_, h5⟩ := asEnd_some h4
 refine body_pure (fn := Tryz.f115) (c := c_zdb) hC hΦ Tryz.func115 (by kernel_rfl) (by kernel_rfl) (loopsOk_nil (Λ := noLooper) (by kernel_rfl)) rfl rfl ?_
 refine (b_zdb N _ _ _ _).trans ?_
 rw [← g_zdb_eq]
 exact h5
def f_zcz (N : Nat) : (R : Type) → List V → S → (V → S → Option R) → Option R := fun _ vs s K =>
 asN1 vs fun v'1 => asInt .i64 v'1 fun x_1 => asEnd s <| g_zcz N x_1 (fun b_2 => K (.bool b_2) [])
def Φ_zcz (N : Nat) : Callee := (Φ_zdb N).add 145 (f_zcz N)
def c_zcz : Code := bodyOf Tryz.f145
theorem b_zcz {R : Type} (N : Nat) (x_1 : Int) (K : V → S → Option R) : bodyV C (Φ_zdb N) (noLooper) 145 Tryz.f145 [.int .i64 x_1] [] K =
 gb_zcz N x_1 (fun b_2 => K (.bool b_2) []) := by kernel_rfl
theorem callee_zcz (hC : Ok Tryz.prog C) {N : Nat} (hΦ : CalleeOk Tryz.prog C (Φ_zdb N)) : CalleeOk Tryz.prog C (Φ_zcz N) := by
 refine hΦ.add_pure rfl fun R vs K r h => ?_
 unfold f_zcz at h
 obtain ⟨_, rfl, h1⟩ := asN1_some h
 obtain ⟨_, rfl, h2⟩ := asInt_some h1
 obtain ⟨_, h3⟩ := asEnd_some h2
 refine body_pure (fn := Tryz.f145) (c := c_zcz) hC hΦ Tryz.func145 (by kernel_rfl) (by kernel_rfl) (loopsOk_nil (Λ := noLooper) (by kernel_rfl)) rfl rfl ?_
 refine (b_zcz N _ _).trans ?_
 rw [← g_zcz_eq]
 exact h3
def f_zcx (N : Nat) : (R : Type) → List V → S → (V → S → Option R) → Option R := fun _ vs s K =>
 asN1 vs fun v'1 => asInt .i64 v'1 fun x_1 => asEnd s <| g_zcx N x_1 (fun b_2 => K (.bool b_2) [])
def Φ_zcx (N : Nat) : Callee := (Φ_zcz N).add 65 (f_zcx N)
def c_zcx : Code := bodyOf Tryz.f65
theorem b_zcx {R : Type} (N : Nat) (x_1 : Int) (K : V → S → Option R) : bodyV C (Φ_zcz N) (noLooper) 65 Tryz.f65 [.int .i64 x_1] [] K =
 gb_zcx N x_1 (fun b_2 => K (.bool b_2) []) := by kernel_rfl
theorem callee_zcx (hC : Ok Tryz.prog C) {N : Nat} (hΦ : CalleeOk Tryz.prog C (Φ_zcz N)) : CalleeOk Tryz.prog C (Φ_zcx N) := by
 refine hΦ.add_pure rfl fun R vs K r h => ?_
 unfold f_zcx at h
 obtain ⟨_, rfl, h1⟩ := asN1_some h
 obtain ⟨_, rfl, h2⟩ := asInt_some h1
 obtain ⟨_, h3⟩ := asEnd_some h2
 refine body_pure (fn := Tryz.f65) (c := c_zcx) hC hΦ Tryz.func65 (by kernel_rfl) (by kernel_rfl) (loopsOk_nil (Λ := noLooper) (by kernel_rfl)) rfl rfl ?_
 refine (b_zcx N _ _).trans ?_
 rw [← g_zcx_eq]
 exact h3
def f_zcv (N : Nat) : (R : Type) → List V → S → (V → S → Option R) → Option R := fun _ vs s K =>
 asN1 vs fun v'1 => asStr v'1 fun w_1 => asEnd s <| g_zcv N w_1 (fun b_2 => K (.bool b_2) [])
def Φ_zcv (N : Nat) : Callee := (Φ_zcx N).add 136 (f_zcv N)
def c_zcv : Code := bodyOf Tryz.f136
theorem b_zcv {R : Type} (N : Nat) (w_1 : ByteArray) (K : V → S → Option R) : bodyV C (Φ_zcx N) (noLooper) 136 Tryz.f136 [.str w_1] [] K =
 gb_zcv N w_1 (fun b_2 => K (.bool b_2) []) := by kernel_rfl
theorem callee_zcv (hC : Ok Tryz.prog C) {N : Nat} (hΦ : CalleeOk Tryz.prog C (Φ_zcx N)) : CalleeOk Tryz.prog C (Φ_zcv N) := by
 refine hΦ.add_pure rfl fun R vs K r h => ?_
 unfold f_zcv at h
 obtain ⟨_, rfl, h1⟩ := asN1_some h
 obtain ⟨_, rfl, h2⟩ := asStr_some h1
 obtain ⟨_, h3⟩ := asEnd_some h2
 refine body_pure (fn := Tryz.f136) (c := c_zcv) hC hΦ Tryz.func136 (by kernel_rfl) (by kernel_rfl) (loopsOk_nil (Λ := noLooper) (by kernel_rfl)) rfl rfl ?_
 refine (b_zcv N _ _).trans ?_
 rw [← g_zcv_eq]
 exact h3
def f_zbb (N : Nat) : (R : Type) → List V → S → (V → S → Option R) → Option R := fun _ vs s K =>
 asN1 vs fun v'1 => asInt .u8 v'1 fun x_1 => asEnd s <| g_zbb N x_1 (fun b_2 => K (.bool b_2) [])
def Φ_zbb (N : Nat) : Callee := (Φ_zcv N).add 132 (f_zbb N)
def c_zbb : Code := bodyOf Tryz.f132
theorem b_zbb {R : Type} (N : Nat) (x_1 : Int) (K : V → S → Option R) : bodyV C (Φ_zcv N) (noLooper) 132 Tryz.f132 [.int .u8 x_1] [] K =
 gb_zbb N x_1 (fun b_2 => K (.bool b_2) []) := by kernel_rfl
theorem callee_zbb (hC : Ok Tryz.prog C) {N : Nat} (hΦ : CalleeOk Tryz.prog C (Φ_zcv N)) : CalleeOk Tryz.prog C (Φ_zbb N) := by
 refine hΦ.add_pure rfl fun R vs K r h => ?_
 unfold f_zbb at h
 obtain ⟨_, rfl, h1⟩ := asN1_some h
 obtain ⟨_, rfl, h2⟩ := asInt_some h1
 obtain ⟨_, h3⟩ := asEnd_some h2
 refine body_pure (fn := Tryz.f132) (c := c_zbb) hC hΦ Tryz.func132 (by kernel_rfl) (by kernel_rfl) (loopsOk_nil (Λ := noLooper) (by kernel_rfl)) rfl rfl ?_
 refine (b_zbb N _ _).trans ?_
 rw [← g_zbb_eq]
 exact h3
def f_zbh (N : Nat) : (R : Type) → List V → S → (V → S → Option R) → Option R := fun _ vs s K =>
 asN1 vs fun v'1 => asInt .u8 v'1 fun x_1 => asEnd s <| g_zbh N x_1 (fun b_2 => K (.bool b_2) [])
def Φ_zbh (N : Nat) : Callee := (Φ_zbb N).add 181 (f_zbh N)
def c_zbh : Code := bodyOf Tryz.f181
theorem b_zbh {R : Type} (N : Nat) (x_1 : Int) (K : V → S → Option R) : bodyV C (Φ_zbb N) (noLooper) 181 Tryz.f181 [.int .u8 x_1] [] K =
 gb_zbh N x_1 (fun b_2 => K (.bool b_2) []) := by kernel_rfl
theorem callee_zbh (hC : Ok Tryz.prog C) {N : Nat} (hΦ : CalleeOk Tryz.prog C (Φ_zbb N)) : CalleeOk Tryz.prog C (Φ_zbh N) := by
 refine hΦ.add_pure rfl fun R vs K r h => ?_
 unfold f_zbh at h
 obtain ⟨_, rfl, h1⟩ := asN1_some h
 obtain ⟨_, rfl, h2⟩ := asInt_some h1
 obtain ⟨_, h3⟩ := asEnd_some h2
 refine body_pure (fn := Tryz.f181) (c := c_zbh) hC hΦ Tryz.func181 (by kernel_rfl) (by kernel_rfl) (loopsOk_nil (Λ := noLooper) (by kernel_rfl)) rfl rfl ?_
 refine (b_zbh N _ _).trans ?_
 rw [← g_zbh_eq]
 exact h3
def f_zaf (N : Nat) : (R : Type) → List V → S → (V → S → Option R) → Option R := fun _ vs s K =>
 asN2 vs fun v'1 v'2 => asList 1 v'1 fun e_1 f_2 => asFn 181 v'2 fun c'3 => asN0 c'3 <| asEnd s <| g_zaf N e_1 f_2 (fun x_3 => K (.int .i64 x_3) [])
def Φ_zaf (N : Nat) : Callee := (Φ_zbh N).addIf 165 (fun l => isFn 1 181 l) (f_zaf N)
def c_zaf : Code := bodyOf Tryz.f165
def b_zaf_0 : Code := (loopNo c_zaf [] 0).2
def ks_zaf_0 : List Nat := butL 19 [0, 1, 7, 8]
def kx_zaf_0 : List Nat := butL 19 [4]
def fr_zaf_0 (e_1 : List V) (f_2 : Fl) (x_3 x_4 : Int) : List V := mkF 0 19 [(0, .list 1 e_1 f_2), (1, .fn 181 []), (7, .int .i64 x_3), (8, .int .i64 x_4)]
def kk0_zaf_0 {R : Type} (K : X → List V → S → Option R) (e_1 : List V) (f_2 : Fl) (x_3 : Int) : Int → Option R := (fun x_1' => K .ret (mkF 0 19 [(4, .int .i64 (x_1'))]) [])
def kk1_zaf_0 {R : Type} (K : X → List V → S → Option R) (e_1 : List V) (f_2 : Fl) (x_3 : Int) : Unit → Option R := (fun _ => K (.exit 0) (mkF 0 19 []) [])
abbrev it_zaf_0 {R : Type} (N : Nat) : Nat → List V → S → (X → List V → S → Option R) → Option R := fun n => iter C (Φ_zbh N) (noLooper) b_zaf_0 [0, 1, 0, 1] false ks_zaf_0 kx_zaf_0 n R
theorem r_zaf_0 {R : Type} (N n : Nat) (e_1 : List V) (f_2 : Fl) (x_3 : Int) (x_4 : Int) (K : X → List V → S → Option R) :
 it_zaf_0 N (n + 1) (fr_zaf_0 e_1 f_2 x_3 x_4) [] K =
 l_zaf_0_step N e_1 f_2 x_3 (fun x_4 => it_zaf_0 N n (fr_zaf_0 e_1 f_2 x_3 x_4) [] K) x_4 (kk0_zaf_0 K e_1 f_2 x_3) (kk1_zaf_0 K e_1 f_2 x_3) := by kernel_rfl
theorem w_zaf_0 {R : Type} (N : Nat) (e_1 : List V) (f_2 : Fl) (x_3 : Int) (K : X → List V → S → Option R) : ∀ (n : Nat) (x_4 : Int),
 it_zaf_0 N n (fr_zaf_0 e_1 f_2 x_3 x_4) [] K = l_zaf_0 N e_1 f_2 x_3 (kk0_zaf_0 K e_1 f_2 x_3) (kk1_zaf_0 K e_1 f_2 x_3) n x_4
 | 0, _ => rfl
 | n + 1, x_4 => (r_zaf_0 N n e_1 f_2 x_3 x_4 K).trans (congrArg (fun nx => l_zaf_0_step N e_1 f_2 x_3 nx x_4 (kk0_zaf_0 K e_1 f_2 x_3) (kk1_zaf_0 K e_1 f_2 x_3)) (funext fun x_4 => w_zaf_0 N e_1 f_2 x_3 K n x_4))
def i_zaf_0 {R : Type} (E : List V) (s : S) (k : List V → Fl → Int → Int → Option R) : Option R :=
 guardB (frameOk 19 [0, 1, 7, 8] E) <| atList E 0 1 fun e_1 f_2 => must (nth E 1) fun u1 => asFn 181 u1 fun c'1 => asN0 c'1 <| atInt E 7 .i64 fun x_3 => atInt E 8 .i64 fun x_4 => asEnd s <| k e_1 f_2 x_3 x_4
theorem i_zaf_0_spec {R : Type} {E : List V} {s : S} {k : List V → Fl → Int → Int → Option R} {r : R} (h : i_zaf_0 E s k = some r) : ∃ e_1 f_2 x_3 x_4, E = fr_zaf_0 e_1 f_2 x_3 x_4 ∧ s = [] ∧ k e_1 f_2 x_3 x_4 = some r := by
 unfold i_zaf_0 at h
 obtain ⟨hg, h1⟩ := guardB_some h
 obtain ⟨_, _, hu0, h2⟩ := atList_some h1
 obtain ⟨_, hu1, h3⟩ := must_some h2
 obtain ⟨_, rfl, h4⟩ := asFn_some h3
 obtain ⟨rfl, h5⟩ := asN0_some h4
 obtain ⟨_, hu7, h6⟩ := atInt_some h5
 obtain ⟨_, hu8, h7⟩ := atInt_some h6
 obtain ⟨rfl, h8⟩ := asEnd_some h7
 exact ⟨_, _, _, _, frame_is hg rfl (slots_cons hu0 (slots_cons hu1 (slots_cons hu7 (slots_cons hu8 slots_nil)))), rfl, h8⟩
def Λ_zaf_0 (N : Nat) : Looper := (noLooper).add [0, 1, 0, 1] fun _ E s K => i_zaf_0 (killE ks_zaf_0 E) s fun e_1 f_2 x_3 x_4 => l_zaf_0 N e_1 f_2 x_3 (kk0_zaf_0 K e_1 f_2 x_3) (kk1_zaf_0 K e_1 f_2 x_3) N x_4
theorem ok_zaf_0 {N : Nat} (hC : Ok Tryz.prog C) (hΦ : CalleeOk Tryz.prog C (Φ_zbh N)) : LoopOk Tryz.prog C (Λ_zaf_0 N) b_zaf_0 [0, 1, 0, 1] :=
 iter_ok (Λi := noLooper) (tr := false) (ks := ks_zaf_0) (kx := kx_zaf_0) (N := N) hC hΦ
  (loopsOk_nil (by kernel_rfl))
  fun R E s K r h => by
   have h2 := Looper.add_self.symm.trans h
   obtain ⟨_, _, _, _, he, rfl, h3⟩ := i_zaf_0_spec h2
   rw [he]
   exact (w_zaf_0 N _ _ _ _ N _).trans h3
theorem at_zaf : loopsAt c_zaf [] = [([0, 1, 0, 1], b_zaf_0)] := by kernel_rfl
theorem b_zaf {R : Type} (N : Nat) (e_1 : List V) (f_2 : Fl) (K : V → S → Option R) : bodyV C (Φ_zbh N) (Λ_zaf_0 N) 165 Tryz.f165 [.list 1 e_1 f_2, .fn 181 []] [] K =
 gb_zaf N e_1 f_2 (fun x_3 => K (.int .i64 x_3) []) := by kernel_rfl
theorem loops_zaf {N : Nat} (hC : Ok Tryz.prog C) (hΦ : CalleeOk Tryz.prog C (Φ_zbh N)) : LoopsOk Tryz.prog C (Λ_zaf_0 N) c_zaf [] :=
 loopsOk_of c_zaf [] (by
  rw [at_zaf]
  intro p hp
  simp only [List.mem_cons, List.mem_nil_iff, or_false] at hp
  rcases hp with rfl
  ·exact (ok_zaf_0 hC hΦ))
theorem callee_zaf (hC : Ok Tryz.prog C) {N : Nat} (hΦ : CalleeOk Tryz.prog C (Φ_zbh N)) : CalleeOk Tryz.prog C (Φ_zaf N) := by
 refine hΦ.addIf_pure rfl fun R vs K r h => ?_
 unfold f_zaf at h
 obtain ⟨_, _, rfl, h1⟩ := asN2_some h
 obtain ⟨_, _, rfl, h2⟩ := asList_some h1
 obtain ⟨_, rfl, h3⟩ := asFn_some h2
 obtain ⟨rfl, h4⟩ := asN0_some h3
 obtain ⟨_, h5⟩ := asEnd_some h4
 refine body_pure (fn := Tryz.f165) (c := c_zaf) hC hΦ Tryz.func165 (by kernel_rfl) (by kernel_rfl) (loops_zaf (N := N) hC hΦ) rfl rfl ?_
 refine (b_zaf N _ _ _).trans ?_
 rw [← g_zaf_eq]
 exact h5
def f_zae (N : Nat) : (R : Type) → List V → S → (V → S → Option R) → Option R := fun _ vs s K =>
 asN2 vs fun v'1 v'2 => asList 1 v'1 fun e_1 f_2 => asFn 181 v'2 fun c'3 => asN0 c'3 <| asEnd s <| g_zae N e_1 f_2 (fun b_3 => K (.bool b_3) [])
def Φ_zae (N : Nat) : Callee := (Φ_zaf N).addIf 130 (fun l => isFn 1 181 l) (f_zae N)
def c_zae : Code := bodyOf Tryz.f130
theorem b_zae {R : Type} (N : Nat) (e_1 : List V) (f_2 : Fl) (K : V → S → Option R) : bodyV C (Φ_zaf N) (noLooper) 130 Tryz.f130 [.list 1 e_1 f_2, .fn 181 []] [] K =
 gb_zae N e_1 f_2 (fun b_3 => K (.bool b_3) []) := by kernel_rfl
theorem callee_zae (hC : Ok Tryz.prog C) {N : Nat} (hΦ : CalleeOk Tryz.prog C (Φ_zaf N)) : CalleeOk Tryz.prog C (Φ_zae N) := by
 refine hΦ.addIf_pure rfl fun R vs K r h => ?_
 unfold f_zae at h
 obtain ⟨_, _, rfl, h1⟩ := asN2_some h
 obtain ⟨_, _, rfl, h2⟩ := asList_some h1
 obtain ⟨_, rfl, h3⟩ := asFn_some h2
 obtain ⟨rfl, h4⟩ := asN0_some h3
 obtain ⟨_, h5⟩ := asEnd_some h4
 refine body_pure (fn := Tryz.f130) (c := c_zae) hC hΦ Tryz.func130 (by kernel_rfl) (by kernel_rfl) (loopsOk_nil (Λ := noLooper) (by kernel_rfl)) rfl rfl ?_
 refine (b_zae N _ _ _).trans ?_
 rw [← g_zae_eq]
 exact h5
def f_zcy (N : Nat) : (R : Type) → List V → S → (V → S → Option R) → Option R := fun _ vs s K =>
 asN1 vs fun v'1 => asStr v'1 fun w_1 => asEnd s <| g_zcy N w_1 (fun b_2 => K (.bool b_2) [])
def Φ_zcy (N : Nat) : Callee := (Φ_zae N).add 160 (f_zcy N)
def c_zcy : Code := bodyOf Tryz.f160
theorem b_zcy {R : Type} (N : Nat) (w_1 : ByteArray) (K : V → S → Option R) : bodyV C (Φ_zae N) (noLooper) 160 Tryz.f160 [.str w_1] [] K =
 gb_zcy N w_1 (fun b_2 => K (.bool b_2) []) := by kernel_rfl
theorem callee_zcy (hC : Ok Tryz.prog C) {N : Nat} (hΦ : CalleeOk Tryz.prog C (Φ_zae N)) : CalleeOk Tryz.prog C (Φ_zcy N) := by
 refine hΦ.add_pure rfl fun R vs K r h => ?_
 unfold f_zcy at h
 obtain ⟨_, rfl, h1⟩ := asN1_some h
 obtain ⟨_, rfl, h2⟩ := asStr_some h1
 obtain ⟨_, h3⟩ := asEnd_some h2
 refine body_pure (fn := Tryz.f160) (c := c_zcy) hC hΦ Tryz.func160 (by kernel_rfl) (by kernel_rfl) (loopsOk_nil (Λ := noLooper) (by kernel_rfl)) rfl rfl ?_
 refine (b_zcy N _ _).trans ?_
 rw [← g_zcy_eq]
 exact h3
def f_zbr (N : Nat) : (R : Type) → List V → S → (V → S → Option R) → Option R := fun _ vs s K =>
 asN1 vs fun v'1 => asStr v'1 fun w_1 => asEnd s <| g_zbr N w_1 (fun b_2 => K (.bool b_2) [])
def Φ_zbr (N : Nat) : Callee := (Φ_zcy N).add 120 (f_zbr N)
def c_zbr : Code := bodyOf Tryz.f120
theorem b_zbr {R : Type} (N : Nat) (w_1 : ByteArray) (K : V → S → Option R) : bodyV C (Φ_zcy N) (noLooper) 120 Tryz.f120 [.str w_1] [] K =
 gb_zbr N w_1 (fun b_2 => K (.bool b_2) []) := by kernel_rfl
theorem callee_zbr (hC : Ok Tryz.prog C) {N : Nat} (hΦ : CalleeOk Tryz.prog C (Φ_zcy N)) : CalleeOk Tryz.prog C (Φ_zbr N) := by
 refine hΦ.add_pure rfl fun R vs K r h => ?_
 unfold f_zbr at h
 obtain ⟨_, rfl, h1⟩ := asN1_some h
 obtain ⟨_, rfl, h2⟩ := asStr_some h1
 obtain ⟨_, h3⟩ := asEnd_some h2
 refine body_pure (fn := Tryz.f120) (c := c_zbr) hC hΦ Tryz.func120 (by kernel_rfl) (by kernel_rfl) (loopsOk_nil (Λ := noLooper) (by kernel_rfl)) rfl rfl ?_
 refine (b_zbr N _ _).trans ?_
 rw [← g_zbr_eq]
 exact h3
def f_zdt (N : Nat) : (R : Type) → List V → S → (V → S → Option R) → Option R := fun _ vs s K =>
 asN1 vs fun v'1 => asInt .i64 v'1 fun x_1 => asEnd s <| g_zdt N x_1 (fun b_2 => K (.bool b_2) [])
def Φ_zdt (N : Nat) : Callee := (Φ_zbr N).add 149 (f_zdt N)
def c_zdt : Code := bodyOf Tryz.f149
theorem b_zdt {R : Type} (N : Nat) (x_1 : Int) (K : V → S → Option R) : bodyV C (Φ_zbr N) (noLooper) 149 Tryz.f149 [.int .i64 x_1] [] K =
 gb_zdt N x_1 (fun b_2 => K (.bool b_2) []) := by kernel_rfl
theorem callee_zdt (hC : Ok Tryz.prog C) {N : Nat} (hΦ : CalleeOk Tryz.prog C (Φ_zbr N)) : CalleeOk Tryz.prog C (Φ_zdt N) := by
 refine hΦ.add_pure rfl fun R vs K r h => ?_
 unfold f_zdt at h
 obtain ⟨_, rfl, h1⟩ := asN1_some h
 obtain ⟨_, rfl, h2⟩ := asInt_some h1
 obtain ⟨_, h3⟩ := asEnd_some h2
 refine body_pure (fn := Tryz.f149) (c := c_zdt) hC hΦ Tryz.func149 (by kernel_rfl) (by kernel_rfl) (loopsOk_nil (Λ := noLooper) (by kernel_rfl)) rfl rfl ?_
 refine (b_zdt N _ _).trans ?_
 rw [← g_zdt_eq]
 exact h3
def f_zai (N : Nat) : (R : Type) → List V → S → (V → S → Option R) → Option R := fun _ vs s K =>
 asN2 vs fun v'1 v'2 => asStr v'1 fun w_1 => asInt .u8 v'2 fun x_2 => asEnd s <| g_zai N w_1 x_2 (fun x_3 => K (.int .i64 x_3) [])
def Φ_zai (N : Nat) : Callee := (Φ_zdt N).add 207 (f_zai N)
theorem callee_zai (hC : Ok Tryz.prog C) {N : Nat} (hΦ : CalleeOk Tryz.prog C (Φ_zdt N)) : CalleeOk Tryz.prog C (Φ_zai N) := by
 refine hΦ.add_pure rfl fun R vs K r h => ?_
 unfold f_zai at h
 obtain ⟨_, _, rfl, h1⟩ := asN2_some h
 obtain ⟨_, rfl, h2⟩ := asStr_some h1
 obtain ⟨_, rfl, h3⟩ := asInt_some h2
 obtain ⟨_, h4⟩ := asEnd_some h3
 rw [g_zai_eq] at h4
 exact ⟨_, h4, indexByteString_pure Tryz.func207 (by kernel_rfl) (by kernel_rfl) (by kernel_rfl) (by kernel_rfl) _ _⟩
def f_zak (N : Nat) : (R : Type) → List V → S → (V → S → Option R) → Option R := fun _ vs s K =>
 asN2 vs fun v'1 v'2 => asStr v'1 fun w_1 => asInt .u8 v'2 fun x_2 => asEnd s <| g_zak N w_1 x_2 (fun x_3 => K (.int .i64 x_3) [])
def Φ_zak (N : Nat) : Callee := (Φ_zai N).add 205 (f_zak N)
def c_zak : Code := bodyOf Tryz.f205
theorem b_zak {R : Type} (N : Nat) (w_1 : ByteArray) (x_2 : Int) (K : V → S → Option R) : bodyV C (Φ_zai N) (noLooper) 205 Tryz.f205 [.str w_1, .int .u8 x_2] [] K =
 gb_zak N w_1 x_2 (fun x_3 => K (.int .i64 x_3) []) := by kernel_rfl
theorem callee_zak (hC : Ok Tryz.prog C) {N : Nat} (hΦ : CalleeOk Tryz.prog C (Φ_zai N)) : CalleeOk Tryz.prog C (Φ_zak N) := by
 refine hΦ.add_pure rfl fun R vs K r h => ?_
 unfold f_zak at h
 obtain ⟨_, _, rfl, h1⟩ := asN2_some h
 obtain ⟨_, rfl, h2⟩ := asStr_some h1
 obtain ⟨_, rfl, h3⟩ := asInt_some h2
 obtain ⟨_, h4⟩ := asEnd_some h3
 refine body_pure (fn := Tryz.f205) (c := c_zak) hC hΦ Tryz.func205 (by kernel_rfl) (by kernel_rfl) (loopsOk_nil (Λ := noLooper) (by kernel_rfl)) rfl rfl ?_
 refine (b_zak N _ _ _).trans ?_
 rw [← g_zak_eq]
 exact h4
def f_zan (N : Nat) : (R : Type) → List V → S → (V → S → Option R) → Option R := fun _ vs s K =>
 asN2 vs fun v'1 v'2 => asStr v'1 fun w_1 => asStr v'2 fun w_2 => asEnd s <| g_zan N w_1 w_2 (fun x_3 => K (.int .i64 x_3) [])
def Φ_zan (N : Nat) : Callee := (Φ_zak N).add 197 (f_zan N)
def c_zan : Code := bodyOf Tryz.f197
def b_zan_x0_0_1_1_1_1_1_1_1_1 : Code := (loopNo c_zan [] 0).2
theorem at_zan : loopsAt c_zan [] = [([0, 0, 1, 1, 1, 1, 1, 1, 1, 1], b_zan_x0_0_1_1_1_1_1_1_1_1)] := by kernel_rfl
theorem b_zan {R : Type} (N : Nat) (w_1 w_2 : ByteArray) (K : V → S → Option R) : bodyV C (Φ_zak N) (noLooper) 197 Tryz.f197 [.str w_1, .str w_2] [] K =
 gb_zan N w_1 w_2 (fun x_3 => K (.int .i64 x_3) []) := by kernel_rfl
theorem loops_zan {N : Nat} (hC : Ok Tryz.prog C) (hΦ : CalleeOk Tryz.prog C (Φ_zak N)) : LoopsOk Tryz.prog C (noLooper) c_zan [] :=
 loopsOk_of c_zan [] (by
  rw [at_zan]
  intro p hp
  simp only [List.mem_cons, List.mem_nil_iff, or_false] at hp
  rcases hp with rfl
  ·exact noLooper_ok)
theorem callee_zan (hC : Ok Tryz.prog C) {N : Nat} (hΦ : CalleeOk Tryz.prog C (Φ_zak N)) : CalleeOk Tryz.prog C (Φ_zan N) := by
 refine hΦ.add_pure rfl fun R vs K r h => ?_
 unfold f_zan at h
 obtain ⟨_, _, rfl, h1⟩ := asN2_some h
 obtain ⟨_, rfl, h2⟩ := asStr_some h1
 obtain ⟨_, rfl, h3⟩ := asStr_some h2
 obtain ⟨_, h4⟩ := asEnd_some h3
 refine body_pure (fn := Tryz.f197) (c := c_zan) hC hΦ Tryz.func197 (by kernel_rfl) (by kernel_rfl) (loops_zan (N := N) hC hΦ) rfl rfl ?_
 refine (b_zan N _ _ _).trans ?_
 rw [← g_zan_eq]
 exact h4
def f_zbz (N : Nat) : (R : Type) → List V → S → (V → S → Option R) → Option R := fun _ vs s K =>
 asN2 vs fun v'1 v'2 => asStr v'1 fun w_1 => asStr v'2 fun w_2 => asEnd s <| g_zbz N w_1 w_2 (fun x_3 => K (.int .i64 x_3) [])
def Φ_zbz (N : Nat) : Callee := (Φ_zan N).add 189 (f_zbz N)
def c_zbz : Code := bodyOf Tryz.f189
theorem b_zbz {R : Type} (N : Nat) (w_1 w_2 : ByteArray) (K : V → S → Option R) : bodyV C (Φ_zan N) (noLooper) 189 Tryz.f189 [.str w_1, .str w_2] [] K =
 gb_zbz N w_1 w_2 (fun x_3 => K (.int .i64 x_3) []) := by kernel_rfl
theorem callee_zbz (hC : Ok Tryz.prog C) {N : Nat} (hΦ : CalleeOk Tryz.prog C (Φ_zan N)) : CalleeOk Tryz.prog C (Φ_zbz N) := by
 refine hΦ.add_pure rfl fun R vs K r h => ?_
 unfold f_zbz at h
 obtain ⟨_, _, rfl, h1⟩ := asN2_some h
 obtain ⟨_, rfl, h2⟩ := asStr_some h1
 obtain ⟨_, rfl, h3⟩ := asStr_some h2
 obtain ⟨_, h4⟩ := asEnd_some h3
 refine body_pure (fn := Tryz.f189) (c := c_zbz) hC hΦ Tryz.func189 (by kernel_rfl) (by kernel_rfl) (loopsOk_nil (Λ := noLooper) (by kernel_rfl)) rfl rfl ?_
 refine (b_zbz N _ _ _).trans ?_
 rw [← g_zbz_eq]
 exact h4
def f_zal (N : Nat) : (R : Type) → List V → S → (V → S → Option R) → Option R := fun _ vs s K =>
 asN2 vs fun v'1 v'2 => asStr v'1 fun w_1 => asInt .u8 v'2 fun x_2 => asEnd s <| g_zal N w_1 x_2 (fun x_3 => K (.int .i64 x_3) [])
def Φ_zal (N : Nat) : Callee := (Φ_zbz N).add 196 (f_zal N)
theorem callee_zal (hC : Ok Tryz.prog C) {N : Nat} (hΦ : CalleeOk Tryz.prog C (Φ_zbz N)) : CalleeOk Tryz.prog C (Φ_zal N) := by
 refine hΦ.add_pure rfl fun R vs K r h => ?_
 unfold f_zal at h
 obtain ⟨_, _, rfl, h1⟩ := asN2_some h
 obtain ⟨_, rfl, h2⟩ := asStr_some h1
 obtain ⟨_, rfl, h3⟩ := asInt_some h2
 obtain ⟨_, h4⟩ := asEnd_some h3
 rw [g_zal_eq] at h4
 exact ⟨_, h4, countString_pure Tryz.func196 (by kernel_rfl) (by kernel_rfl) (by kernel_rfl) (by kernel_rfl) _ _⟩
def f_zby (N : Nat) : (R : Type) → List V → S → (V → S → Option R) → Option R := fun _ vs s K =>
 asN2 vs fun v'1 v'2 => asStr v'1 fun w_1 => asStr v'2 fun w_2 => asEnd s <| g_zby N w_1 w_2 (fun x_3 => K (.int .i64 x_3) [])
def Φ_zby (N : Nat) : Callee := (Φ_zal N).add 188 (f_zby N)
def c_zby : Code := bodyOf Tryz.f188
def b_zby_0 : Code := (loopNo c_zby [] 0).2
def ks_zby_0 : List Nat := butL 34 [0, 1, 5]
def kx_zby_0 : List Nat := butL 34 [4]
def fr_zby_0 (w_2 w_1 : ByteArray) (x_3 : Int) : List V := mkF 0 34 [(0, .str w_1), (1, .str w_2), (5, .int .i64 x_3)]
def kk0_zby_0 {R : Type} (K : X → List V → S → Option R) (w_2 : ByteArray) : Int → Option R := (fun x_1' => K .ret (mkF 0 34 [(4, .int .i64 (x_1'))]) [])
abbrev it_zby_0 {R : Type} (N : Nat) : Nat → List V → S → (X → List V → S → Option R) → Option R := fun n => iter C (Φ_zal N) (noLooper) b_zby_0 [0, 1, 1, 1, 1] false ks_zby_0 kx_zby_0 n R
theorem r_zby_0 {R : Type} (N n : Nat) (w_2 : ByteArray) (w_1 : ByteArray) (x_3 : Int) (K : X → List V → S → Option R) :
 it_zby_0 N (n + 1) (fr_zby_0 w_2 w_1 x_3) [] K =
 l_zby_0_step N w_2 (fun w_1 x_3 => it_zby_0 N n (fr_zby_0 w_2 w_1 x_3) [] K) w_1 x_3 (kk0_zby_0 K w_2) := by kernel_rfl
theorem w_zby_0 {R : Type} (N : Nat) (w_2 : ByteArray) (K : X → List V → S → Option R) : ∀ (n : Nat) (w_1 : ByteArray) (x_3 : Int),
 it_zby_0 N n (fr_zby_0 w_2 w_1 x_3) [] K = l_zby_0 N w_2 (kk0_zby_0 K w_2) n w_1 x_3
 | 0, _, _ => rfl
 | n + 1, w_1, x_3 => (r_zby_0 N n w_2 w_1 x_3 K).trans (congrArg (fun nx => l_zby_0_step N w_2 nx w_1 x_3 (kk0_zby_0 K w_2)) (funext fun w_1 => funext fun x_3 => w_zby_0 N w_2 K n w_1 x_3))
def i_zby_0 {R : Type} (E : List V) (s : S) (k : ByteArray → ByteArray → Int → Option R) : Option R :=
 guardB (frameOk 34 [0, 1, 5] E) <| atStr E 0 fun w_1 => atStr E 1 fun w_2 => atInt E 5 .i64 fun x_3 => asEnd s <| k w_1 w_2 x_3
theorem i_zby_0_spec {R : Type} {E : List V} {s : S} {k : ByteArray → ByteArray → Int → Option R} {r : R} (h : i_zby_0 E s k = some r) : ∃ w_1 w_2 x_3, E = fr_zby_0 w_2 w_1 x_3 ∧ s = [] ∧ k w_1 w_2 x_3 = some r := by
 unfold i_zby_0 at h
 obtain ⟨hg, h1⟩ := guardB_some h
 obtain ⟨_, hu0, h2⟩ := atStr_some h1
 obtain ⟨_, hu1, h3⟩ := atStr_some h2
 obtain ⟨_, hu5, h4⟩ := atInt_some h3
 obtain ⟨rfl, h5⟩ := asEnd_some h4
 exact ⟨_, _, _, frame_is hg rfl (slots_cons hu0 (slots_cons hu1 (slots_cons hu5 slots_nil))), rfl, h5⟩
def Λ_zby_0 (N : Nat) : Looper := (noLooper).add [0, 1, 1, 1, 1] fun _ E s K => i_zby_0 (killE ks_zby_0 E) s fun w_1 w_2 x_3 => l_zby_0 N w_2 (kk0_zby_0 K w_2) N w_1 x_3
theorem ok_zby_0 {N : Nat} (hC : Ok Tryz.prog C) (hΦ : CalleeOk Tryz.prog C (Φ_zal N)) : LoopOk Tryz.prog C (Λ_zby_0 N) b_zby_0 [0, 1, 1, 1, 1] :=
 iter_ok (Λi := noLooper) (tr := false) (ks := ks_zby_0) (kx := kx_zby_0) (N := N) hC hΦ
  (loopsOk_nil (by kernel_rfl))
  fun R E s K r h => by
   have h2 := Looper.add_self.symm.trans h
   obtain ⟨_, _, _, he, rfl, h3⟩ := i_zby_0_spec h2
   rw [he]
   exact (w_zby_0 N _ _ N _ _).trans h3
theorem at_zby : loopsAt c_zby [] = [([0, 1, 1, 1, 1], b_zby_0)] := by kernel_rfl
theorem b_zby {R : Type} (N : Nat) (w_1 w_2 : ByteArray) (K : V → S → Option R) : bodyV C (Φ_zal N) (Λ_zby_0 N) 188 Tryz.f188 [.str w_1, .str w_2] [] K =
 gb_zby N w_1 w_2 (fun x_3 => K (.int .i64 x_3) []) := by kernel_rfl
theorem loops_zby {N : Nat} (hC : Ok Tryz.prog C) (hΦ : CalleeOk Tryz.prog C (Φ_zal N)) : LoopsOk Tryz.prog C (Λ_zby_0 N) c_zby [] :=
 loopsOk_of c_zby [] (by
  rw [at_zby]
  intro p hp
  simp only [List.mem_cons, List.mem_nil_iff, or_false] at hp
  rcases hp with rfl
  ·exact (ok_zby_0 hC hΦ))
theorem callee_zby (hC : Ok Tryz.prog C) {N : Nat} (hΦ : CalleeOk Tryz.prog C (Φ_zal N)) : CalleeOk Tryz.prog C (Φ_zby N) := by
 refine hΦ.add_pure rfl fun R vs K r h => ?_
 unfold f_zby at h
 obtain ⟨_, _, rfl, h1⟩ := asN2_some h
 obtain ⟨_, rfl, h2⟩ := asStr_some h1
 obtain ⟨_, rfl, h3⟩ := asStr_some h2
 obtain ⟨_, h4⟩ := asEnd_some h3
 refine body_pure (fn := Tryz.f188) (c := c_zby) hC hΦ Tryz.func188 (by kernel_rfl) (by kernel_rfl) (loops_zby (N := N) hC hΦ) rfl rfl ?_
 refine (b_zby N _ _ _).trans ?_
 rw [← g_zby_eq]
 exact h4
def f_zay (N : Nat) : (R : Type) → List V → S → (V → S → Option R) → Option R := fun _ vs s K =>
 asN4 vs fun v'1 v'2 v'3 v'4 => asStr v'1 fun w_1 => asStr v'2 fun w_2 => asInt .i64 v'3 fun x_3 => asInt .i64 v'4 fun x_4 => guardB (distinct []) <| guardB (okI 0 [] []) <| g_zay N w_1 w_2 x_3 x_4 (fun e_901 => FK s [] rl K (.list 1 e_901 .sh) []) (fun k_902 e_903 => FK s [] rl K (.arr 0 0 0 k_902) [some ⟨e_903, 1, 9, 0⟩])
def Φ_zay (N : Nat) : Callee := (Φ_zby N).add 174 (f_zay N)
def c_zay : Code := bodyOf Tryz.f174
def b_zay_0 : Code := (loopNo c_zay [] 0).2
def ks_zay_0 : List Nat := butL 66 [0, 1, 2, 3, 9, 10]
def kx_zay_0 : List Nat := butL 66 [0, 9, 10]
def fr_zay_0 (w_2 : ByteArray) (x_3 x_4 : Int) (k_5 : Nat) (w_1 : ByteArray) (x_6 : Int) (e_7 : List V) : List V := mkF 0 66 [(0, .str w_1), (1, .str w_2), (2, .int .i64 x_3), (3, .int .i64 x_4), (9, .arr 0 0 0 k_5), (10, .int .i64 x_6)]
def kk0_zay_0 {R : Type} (K : X → List V → S → Option R) (w_2 : ByteArray) (x_3 : Int) (x_4 : Int) (k_5 : Nat) : ByteArray → Int → List V → Option R := (fun w_1' x_2' e_3' => K (.exit 0) (mkF 0 66 [(0, .str (w_1')), (9, .arr 0 0 0 k_5), (10, .int .i64 (x_2'))]) [some ⟨e_3', 1, 9, 0⟩])
abbrev it_zay_0 {R : Type} (N : Nat) : Nat → List V → S → (X → List V → S → Option R) → Option R := fun n => iter C (Φ_zby N) (noLooper) b_zay_0 [0, 0, 1, 1, 1, 1, 1, 1, 1, 1] false ks_zay_0 kx_zay_0 n R
theorem r_zay_0 {R : Type} (N n : Nat) (w_2 : ByteArray) (x_3 x_4 : Int) (k_5 : Nat) (w_1 : ByteArray) (x_6 : Int) (e_7 : List V) (K : X → List V → S → Option R) :
 it_zay_0 N (n + 1) (fr_zay_0 w_2 x_3 x_4 k_5 w_1 x_6 e_7) [some ⟨e_7, 1, 9, 0⟩] K =
 l_zay_0_step N w_2 x_3 x_4 k_5 (fun w_1 x_6 e_7 => it_zay_0 N n (fr_zay_0 w_2 x_3 x_4 k_5 w_1 x_6 e_7) [some ⟨e_7, 1, 9, 0⟩] K) w_1 x_6 e_7 (kk0_zay_0 K w_2 x_3 x_4 k_5) := by kernel_rfl
theorem w_zay_0 {R : Type} (N : Nat) (w_2 : ByteArray) (x_3 x_4 : Int) (k_5 : Nat) (K : X → List V → S → Option R) : ∀ (n : Nat) (w_1 : ByteArray) (x_6 : Int) (e_7 : List V),
 it_zay_0 N n (fr_zay_0 w_2 x_3 x_4 k_5 w_1 x_6 e_7) [some ⟨e_7, 1, 9, 0⟩] K = l_zay_0 N w_2 x_3 x_4 k_5 (kk0_zay_0 K w_2 x_3 x_4 k_5) n w_1 x_6 e_7
 | 0, _, _, _ => rfl
 | n + 1, w_1, x_6, e_7 => (r_zay_0 N n w_2 x_3 x_4 k_5 w_1 x_6 e_7 K).trans (congrArg (fun nx => l_zay_0_step N w_2 x_3 x_4 k_5 nx w_1 x_6 e_7 (kk0_zay_0 K w_2 x_3 x_4 k_5)) (funext fun w_1 => funext fun x_6 => funext fun e_7 => w_zay_0 N w_2 x_3 x_4 k_5 K n w_1 x_6 e_7))
def i_zay_0 {R : Type} (E : List V) (s : S) (k : ByteArray → ByteArray → Int → Int → Nat → Int → List V → Option R) : Option R :=
 guardB (frameOk 66 [0, 1, 2, 3, 9, 10] E) <| atStr E 0 fun w_1 => atStr E 1 fun w_2 => atInt E 2 .i64 fun x_3 => atInt E 3 .i64 fun x_4 => must (nth E 9) fun u9 => asArr u9 fun k'1 k'2 k'3 k_5 => isN k'1 0 <| isN k'2 0 <| isN k'3 0 <| atInt E 10 .i64 fun x_6 => asOb s fun o'4 s'5 => obIs o'4 1 9 fun e_7 k'6 => isN k'6 0 <| asEnd s'5 <| k w_1 w_2 x_3 x_4 k_5 x_6 e_7
theorem i_zay_0_spec {R : Type} {E : List V} {s : S} {k : ByteArray → ByteArray → Int → Int → Nat → Int → List V → Option R} {r : R} (h : i_zay_0 E s k = some r) : ∃ w_1 w_2 x_3 x_4 k_5 x_6 e_7, E = fr_zay_0 w_2 x_3 x_4 k_5 w_1 x_6 e_7 ∧ s = [some ⟨e_7, 1, 9, 0⟩] ∧ k w_1 w_2 x_3 x_4 k_5 x_6 e_7 = some r := by
 unfold i_zay_0 at h
 obtain ⟨hg, h1⟩ := guardB_some h
 obtain ⟨_, hu0, h2⟩ := atStr_some h1
 obtain ⟨_, hu1, h3⟩ := atStr_some h2
 obtain ⟨_, hu2, h4⟩ := atInt_some h3
 obtain ⟨_, hu3, h5⟩ := atInt_some h4
 obtain ⟨_, hu9, h6⟩ := must_some h5
 obtain ⟨_, _, _, _, rfl, h7⟩ := asArr_some h6
 obtain ⟨rfl, h8⟩ := isN_some h7
 obtain ⟨rfl, h9⟩ := isN_some h8
 obtain ⟨rfl, h10⟩ := isN_some h9
 obtain ⟨_, hu10, h11⟩ := atInt_some h10
 obtain ⟨_, _, rfl, h12⟩ := asOb_some h11
 obtain ⟨_, _, rfl, h13⟩ := obIs_some h12
 obtain ⟨rfl, h14⟩ := isN_some h13
 obtain ⟨rfl, h15⟩ := asEnd_some h14
 exact ⟨_, _, _, _, _, _, _, frame_is hg rfl (slots_cons hu0 (slots_cons hu1 (slots_cons hu2 (slots_cons hu3 (slots_cons hu9 (slots_cons hu10 slots_nil)))))), rfl, h15⟩
def Λ_zay_0 (N : Nat) : Looper := (noLooper).add [0, 0, 1, 1, 1, 1, 1, 1, 1, 1] fun _ E s K => i_zay_0 (killE ks_zay_0 E) s fun w_1 w_2 x_3 x_4 k_5 x_6 e_7 => l_zay_0 N w_2 x_3 x_4 k_5 (kk0_zay_0 K w_2 x_3 x_4 k_5) N w_1 x_6 e_7
theorem ok_zay_0 {N : Nat} (hC : Ok Tryz.prog C) (hΦ : CalleeOk Tryz.prog C (Φ_zby N)) : LoopOk Tryz.prog C (Λ_zay_0 N) b_zay_0 [0, 0, 1, 1, 1, 1, 1, 1, 1, 1] :=
 iter_ok (Λi := noLooper) (tr := false) (ks := ks_zay_0) (kx := kx_zay_0) (N := N) hC hΦ
  (loopsOk_nil (by kernel_rfl))
  fun R E s K r h => by
   have h2 := Looper.add_self.symm.trans h
   obtain ⟨_, _, _, _, _, _, _, he, rfl, h3⟩ := i_zay_0_spec h2
   rw [he]
   exact (w_zay_0 N _ _ _ _ _ N _ _ _).trans h3
theorem at_zay : loopsAt c_zay [] = [([0, 0, 1, 1, 1, 1, 1, 1, 1, 1], b_zay_0)] := by kernel_rfl
theorem b_zay {R : Type} (N : Nat) (w_1 w_2 : ByteArray) (x_3 x_4 : Int) (K : V → S → Option R) : bodyV C (Φ_zby N) (Λ_zay_0 N) 174 Tryz.f174 [.str w_1, .str w_2, .int .i64 x_3, .int .i64 x_4] [] (GK rl 0 K) =
 gb_zay N w_1 w_2 x_3 x_4 (fun e_901 => K (.list 1 e_901 .sh) []) (fun k_902 e_903 => K (.arr 0 0 0 k_902) [some ⟨e_903, 1, 9, 0⟩]) := by kernel_rfl
theorem loops_zay {N : Nat} (hC : Ok Tryz.prog C) (hΦ : CalleeOk Tryz.prog C (Φ_zby N)) : LoopsOk Tryz.prog C (Λ_zay_0 N) c_zay [] :=
 loopsOk_of c_zay [] (by
  rw [at_zay]
  intro p hp
  simp only [List.mem_cons, List.mem_nil_iff, or_false] at hp
  rcases hp with rfl
  ·exact (ok_zay_0 hC hΦ))
theorem callee_zay (hC : Ok Tryz.prog C) {N : Nat} (hΦ : CalleeOk Tryz.prog C (Φ_zby N)) : CalleeOk Tryz.prog C (Φ_zay N) := by
 refine hΦ.add_shared rfl fun R vs s K r h => ?_
 unfold f_zay at h
 obtain ⟨_, _, _, _, rfl, h1⟩ := asN4_some h
 obtain ⟨w_1, rfl, h2⟩ := asStr_some h1
 obtain ⟨w_2, rfl, h3⟩ := asStr_some h2
 obtain ⟨x_3, rfl, h4⟩ := asInt_some h3
 obtain ⟨x_4, rfl, h5⟩ := asInt_some h4
 obtain ⟨hdist, h6⟩ := guardB_some h5
 obtain ⟨hin, h7⟩ := guardB_some h6
 refine frames_body (fn := Tryz.f174) (c := c_zay) (os := []) (rl := rl) (bi := []) (s0 := []) (as0 := [.str w_1, .str w_2, .int .i64 x_3, .int .i64 x_4]) hC hΦ Tryz.func174 (by kernel_rfl) (by kernel_rfl) (loops_zay (N := N) hC hΦ) rfl hdist trivial hin rfl rfl ?_
 refine (b_zay N _ _ _ _ _).trans ?_
 rw [← g_zay_eq]
 exact h7
def f_zca (N : Nat) : (R : Type) → List V → S → (V → S → Option R) → Option R := fun _ vs s K =>
 asN2 vs fun v'1 v'2 => asStr v'1 fun w_1 => asStr v'2 fun w_2 => guardB (distinct []) <| guardB (okI 0 [] []) <| g_zca N w_1 w_2 (fun e_901 => FK s [] rl K (.list 1 e_901 .sh) []) (fun k_902 e_903 => FK s [] rl K (.arr 0 0 0 k_902) [some ⟨e_903, 1, 9, 0⟩])
def Φ_zca (N : Nat) : Callee := (Φ_zay N).add 153 (f_zca N)
def c_zca : Code := bodyOf Tryz.f153
theorem b_zca {R : Type} (N : Nat) (w_1 w_2 : ByteArray) (K : V → S → Option R) : bodyV C (Φ_zay N) (noLooper) 153 Tryz.f153 [.str w_1, .str w_2] [] (GK rl 0 K) =
 gb_zca N w_1 w_2 (fun e_901 => K (.list 1 e_901 .sh) []) (fun k_902 e_903 => K (.arr 0 0 0 k_902) [some ⟨e_903, 1, 9, 0⟩]) := by kernel_rfl
theorem callee_zca (hC : Ok Tryz.prog C) {N : Nat} (hΦ : CalleeOk Tryz.prog C (Φ_zay N)) : CalleeOk Tryz.prog C (Φ_zca N) := by
 refine hΦ.add_shared rfl fun R vs s K r h => ?_
 unfold f_zca at h
 obtain ⟨_, _, rfl, h1⟩ := asN2_some h
 obtain ⟨w_1, rfl, h2⟩ := asStr_some h1
 obtain ⟨w_2, rfl, h3⟩ := asStr_some h2
 obtain ⟨hdist, h4⟩ := guardB_some h3
 obtain ⟨hin, h5⟩ := guardB_some h4
 refine frames_body (fn := Tryz.f153) (c := c_zca) (os := []) (rl := rl) (bi := []) (s0 := []) (as0 := [.str w_1, .str w_2]) hC hΦ Tryz.func153 (by kernel_rfl) (by kernel_rfl) (loopsOk_nil (Λ := noLooper) (by kernel_rfl)) rfl hdist trivial hin rfl rfl ?_
 refine (b_zca N _ _ _).trans ?_
 rw [← g_zca_eq]
 exact h5
def f_zbc (N : Nat) : (R : Type) → List V → S → (V → S → Option R) → Option R := fun _ vs s K =>
 asN1 vs fun v'1 => asStr v'1 fun w_1 => asEnd s <| g_zbc N w_1 (fun b_2 => K (.bool b_2) [])
def Φ_zbc (N : Nat) : Callee := (Φ_zca N).add 154 (f_zbc N)
def c_zbc : Code := bodyOf Tryz.f154
theorem b_zbc {R : Type} (N : Nat) (w_1 : ByteArray) (K : V → S → Option R) : bodyV C (Φ_zca N) (noLooper) 154 Tryz.f154 [.str w_1] [] K =
 gb_zbc N w_1 (fun b_2 => K (.bool b_2) []) := by kernel_rfl
theorem callee_zbc (hC : Ok Tryz.prog C) {N : Nat} (hΦ : CalleeOk Tryz.prog C (Φ_zca N)) : CalleeOk Tryz.prog C (Φ_zbc N) := by
 refine hΦ.add_pure rfl fun R vs K r h => ?_
 unfold f_zbc at h
 obtain ⟨_, rfl, h1⟩ := asN1_some h
 obtain ⟨_, rfl, h2⟩ := asStr_some h1
 obtain ⟨_, h3⟩ := asEnd_some h2
 refine body_pure (fn := Tryz.f154) (c := c_zbc) hC hΦ Tryz.func154 (by kernel_rfl) (by kernel_rfl) (loopsOk_nil (Λ := noLooper) (by kernel_rfl)) rfl rfl ?_
 refine (b_zbc N _ _).trans ?_
 rw [← g_zbc_eq]
 exact h3
def f_zac (N : Nat) : (R : Type) → List V → S → (V → S → Option R) → Option R := fun _ vs s K =>
 asN2 vs fun v'1 v'2 => asList 1 v'1 fun e_1 f_2 => asFn 154 v'2 fun c'3 => asN0 c'3 <| asEnd s <| g_zac N e_1 f_2 (fun x_3 => K (.int .i64 x_3) [])
def Φ_zac (N : Nat) : Callee := (Φ_zbc N).addIf 173 (fun l => isFn 1 154 l) (f_zac N)
def c_zac : Code := bodyOf Tryz.f173
def b_zac_0 : Code := (loopNo c_zac [] 0).2
def ks_zac_0 : List Nat := butL 19 [0, 1, 7, 8]
def kx_zac_0 : List Nat := butL 19 [4]
def fr_zac_0 (e_1 : List V) (f_2 : Fl) (x_3 x_4 : Int) : List V := mkF 0 19 [(0, .list 1 e_1 f_2), (1, .fn 154 []), (7, .int .i64 x_3), (8, .int .i64 x_4)]
def kk0_zac_0 {R : Type} (K : X → List V → S → Option R) (e_1 : List V) (f_2 : Fl) (x_3 : Int) : Int → Option R := (fun x_1' => K .ret (mkF 0 19 [(4, .int .i64 (x_1'))]) [])
def kk1_zac_0 {R : Type} (K : X → List V → S → Option R) (e_1 : List V) (f_2 : Fl) (x_3 : Int) : Unit → Option R := (fun _ => K (.exit 0) (mkF 0 19 []) [])
abbrev it_zac_0 {R : Type} (N : Nat) : Nat → List V → S → (X → List V → S → Option R) → Option R := fun n => iter C (Φ_zbc N) (noLooper) b_zac_0 [0, 1, 0, 1] false ks_zac_0 kx_zac_0 n R
theorem r_zac_0 {R : Type} (N n : Nat) (e_1 : List V) (f_2 : Fl) (x_3 : Int) (x_4 : Int) (K : X → List V → S → Option R) :
 it_zac_0 N (n + 1) (fr_zac_0 e_1 f_2 x_3 x_4) [] K =
 l_zac_0_step N e_1 f_2 x_3 (fun x_4 => it_zac_0 N n (fr_zac_0 e_1 f_2 x_3 x_4) [] K) x_4 (kk0_zac_0 K e_1 f_2 x_3) (kk1_zac_0 K e_1 f_2 x_3) := by kernel_rfl
theorem w_zac_0 {R : Type} (N : Nat) (e_1 : List V) (f_2 : Fl) (x_3 : Int) (K : X → List V → S → Option R) : ∀ (n : Nat) (x_4 : Int),
 it_zac_0 N n (fr_zac_0 e_1 f_2 x_3 x_4) [] K = l_zac_0 N e_1 f_2 x_3 (kk0_zac_0 K e_1 f_2 x_3) (kk1_zac_0 K e_1 f_2 x_3) n x_4
 | 0, _ => rfl
 | n + 1, x_4 => (r_zac_0 N n e_1 f_2 x_3 x_4 K).trans (congrArg (fun nx => l_zac_0_step N e_1 f_2 x_3 nx x_4 (kk0_zac_0 K e_1 f_2 x_3) (kk1_zac_0 K e_1 f_2 x_3)) (funext fun x_4 => w_zac_0 N e_1 f_2 x_3 K n x_4))
def i_zac_0 {R : Type} (E : List V) (s : S) (k : List V → Fl → Int → Int → Option R) : Option R :=
 guardB (frameOk 19 [0, 1, 7, 8] E) <| atList E 0 1 fun e_1 f_2 => must (nth E 1) fun u1 => asFn 154 u1 fun c'1 => asN0 c'1 <| atInt E 7 .i64 fun x_3 => atInt E 8 .i64 fun x_4 => asEnd s <| k e_1 f_2 x_3 x_4
theorem i_zac_0_spec {R : Type} {E : List V} {s : S} {k : List V → Fl → Int → Int → Option R} {r : R} (h : i_zac_0 E s k = some r) : ∃ e_1 f_2 x_3 x_4, E = fr_zac_0 e_1 f_2 x_3 x_4 ∧ s = [] ∧ k e_1 f_2 x_3 x_4 = some r := by
 unfold i_zac_0 at h
 obtain ⟨hg, h1⟩ := guardB_some h
 obtain ⟨_, _, hu0, h2⟩ := atList_some h1
 obtain ⟨_, hu1, h3⟩ := must_some h2
 obtain ⟨_, rfl, h4⟩ := asFn_some h3
 obtain ⟨rfl, h5⟩ := asN0_some h4
 obtain ⟨_, hu7, h6⟩ := atInt_some h5
 obtain ⟨_, hu8, h7⟩ := atInt_some h6
 obtain ⟨rfl, h8⟩ := asEnd_some h7
 exact ⟨_, _, _, _, frame_is hg rfl (slots_cons hu0 (slots_cons hu1 (slots_cons hu7 (slots_cons hu8 slots_nil)))), rfl, h8⟩
def Λ_zac_0 (N : Nat) : Looper := (noLooper).add [0, 1, 0, 1] fun _ E s K => i_zac_0 (killE ks_zac_0 E) s fun e_1 f_2 x_3 x_4 => l_zac_0 N e_1 f_2 x_3 (kk0_zac_0 K e_1 f_2 x_3) (kk1_zac_0 K e_1 f_2 x_3) N x_4
theorem ok_zac_0 {N : Nat} (hC : Ok Tryz.prog C) (hΦ : CalleeOk Tryz.prog C (Φ_zbc N)) : LoopOk Tryz.prog C (Λ_zac_0 N) b_zac_0 [0, 1, 0, 1] :=
 iter_ok (Λi := noLooper) (tr := false) (ks := ks_zac_0) (kx := kx_zac_0) (N := N) hC hΦ
  (loopsOk_nil (by kernel_rfl))
  fun R E s K r h => by
   have h2 := Looper.add_self.symm.trans h
   obtain ⟨_, _, _, _, he, rfl, h3⟩ := i_zac_0_spec h2
   rw [he]
   exact (w_zac_0 N _ _ _ _ N _).trans h3
theorem at_zac : loopsAt c_zac [] = [([0, 1, 0, 1], b_zac_0)] := by kernel_rfl
theorem b_zac {R : Type} (N : Nat) (e_1 : List V) (f_2 : Fl) (K : V → S → Option R) : bodyV C (Φ_zbc N) (Λ_zac_0 N) 173 Tryz.f173 [.list 1 e_1 f_2, .fn 154 []] [] K =
 gb_zac N e_1 f_2 (fun x_3 => K (.int .i64 x_3) []) := by kernel_rfl
theorem loops_zac {N : Nat} (hC : Ok Tryz.prog C) (hΦ : CalleeOk Tryz.prog C (Φ_zbc N)) : LoopsOk Tryz.prog C (Λ_zac_0 N) c_zac [] :=
 loopsOk_of c_zac [] (by
  rw [at_zac]
  intro p hp
  simp only [List.mem_cons, List.mem_nil_iff, or_false] at hp
  rcases hp with rfl
  ·exact (ok_zac_0 hC hΦ))
theorem callee_zac (hC : Ok Tryz.prog C) {N : Nat} (hΦ : CalleeOk Tryz.prog C (Φ_zbc N)) : CalleeOk Tryz.prog C (Φ_zac N) := by
 refine hΦ.addIf_pure rfl fun R vs K r h => ?_
 unfold f_zac at h
 obtain ⟨_, _, rfl, h1⟩ := asN2_some h
 obtain ⟨_, _, rfl, h2⟩ := asList_some h1
 obtain ⟨_, rfl, h3⟩ := asFn_some h2
 obtain ⟨rfl, h4⟩ := asN0_some h3
 obtain ⟨_, h5⟩ := asEnd_some h4
 refine body_pure (fn := Tryz.f173) (c := c_zac) hC hΦ Tryz.func173 (by kernel_rfl) (by kernel_rfl) (loops_zac (N := N) hC hΦ) rfl rfl ?_
 refine (b_zac N _ _ _).trans ?_
 rw [← g_zac_eq]
 exact h5
def f_zab (N : Nat) : (R : Type) → List V → S → (V → S → Option R) → Option R := fun _ vs s K =>
 asN2 vs fun v'1 v'2 => asArr v'1 fun o0 k'4 k'5 k_1 => isN k'4 0 <| isN k'5 0 <| asFn 154 v'2 fun c'6 => asN0 c'6 <| asAt s o0 0 fun o'7 => obIs o'7 1 9 fun e_2 k'9 => isN k'9 0 <| guardB (distinct [o0]) <| guardB (okI 1 [false] [some ⟨e_2, 1, 9, 0⟩]) <| g_zab N k_1 e_2 (fun k_901 e_902 => FK s [o0] rl K (.arr 0 0 0 k_901) [some ⟨e_902, 1, 9, 0⟩])
def Φ_zab (N : Nat) : Callee := (Φ_zac N).addIf 152 (fun l => isFnC 1 154 l) (f_zab N)
def c_zab : Code := bodyOf Tryz.f152
def b_zab_0 : Code := (loopNo c_zab [] 0).2
def ks_zab_0 : List Nat := butL 42 [0, 1, 5, 6]
def kx_zab_0 : List Nat := butL 42 [0, 5]
def fr_zab_0 (k_1 : Nat) (x_2 x_3 : Int) (e_4 : List V) : List V := mkF 0 42 [(0, .arr 0 0 0 k_1), (1, .fn 154 []), (5, .int .i64 x_2), (6, .int .i64 x_3)]
def kk0_zab_0 {R : Type} (K : X → List V → S → Option R) (k_1 : Nat) : Int → List V → Option R := (fun x_1' e_2' => K (.exit 0) (mkF 0 42 [(0, .arr 0 0 0 k_1), (5, .int .i64 (x_1'))]) [some ⟨e_2', 1, 9, 0⟩])
abbrev it_zab_0 {R : Type} (N : Nat) : Nat → List V → S → (X → List V → S → Option R) → Option R := fun n => iter C (Φ_zac N) (noLooper) b_zab_0 [0, 1, 0, 1, 1, 1] false ks_zab_0 kx_zab_0 n R
theorem r_zab_0 {R : Type} (N n : Nat) (k_1 : Nat) (x_2 x_3 : Int) (e_4 : List V) (K : X → List V → S → Option R) :
 it_zab_0 N (n + 1) (fr_zab_0 k_1 x_2 x_3 e_4) [some ⟨e_4, 1, 9, 0⟩] K =
 l_zab_0_step N k_1 (fun x_2 x_3 e_4 => it_zab_0 N n (fr_zab_0 k_1 x_2 x_3 e_4) [some ⟨e_4, 1, 9, 0⟩] K) x_2 x_3 e_4 (kk0_zab_0 K k_1) := by kernel_rfl
theorem w_zab_0 {R : Type} (N : Nat) (k_1 : Nat) (K : X → List V → S → Option R) : ∀ (n : Nat) (x_2 x_3 : Int) (e_4 : List V),
 it_zab_0 N n (fr_zab_0 k_1 x_2 x_3 e_4) [some ⟨e_4, 1, 9, 0⟩] K = l_zab_0 N k_1 (kk0_zab_0 K k_1) n x_2 x_3 e_4
 | 0, _, _, _ => rfl
 | n + 1, x_2, x_3, e_4 => (r_zab_0 N n k_1 x_2 x_3 e_4 K).trans (congrArg (fun nx => l_zab_0_step N k_1 nx x_2 x_3 e_4 (kk0_zab_0 K k_1)) (funext fun x_2 => funext fun x_3 => funext fun e_4 => w_zab_0 N k_1 K n x_2 x_3 e_4))
def i_zab_0 {R : Type} (E : List V) (s : S) (k : Nat → Int → Int → List V → Option R) : Option R :=
 guardB (frameOk 42 [0, 1, 5, 6] E) <| must (nth E 0) fun u0 => asArr u0 fun k'1 k'2 k'3 k_1 => isN k'1 0 <| isN k'2 0 <| isN k'3 0 <| must (nth E 1) fun u1 => asFn 154 u1 fun c'4 => asN0 c'4 <| atInt E 5 .i64 fun x_2 => atInt E 6 .i64 fun x_3 => asOb s fun o'5 s'6 => obIs o'5 1 9 fun e_4 k'7 => isN k'7 0 <| asEnd s'6 <| k k_1 x_2 x_3 e_4
theorem i_zab_0_spec {R : Type} {E : List V} {s : S} {k : Nat → Int → Int → List V → Option R} {r : R} (h : i_zab_0 E s k = some r) : ∃ k_1 x_2 x_3 e_4, E = fr_zab_0 k_1 x_2 x_3 e_4 ∧ s = [some ⟨e_4, 1, 9, 0⟩] ∧ k k_1 x_2 x_3 e_4 = some r := by
 unfold i_zab_0 at h
 obtain ⟨hg, h1⟩ := guardB_some h
 obtain ⟨_, hu0, h2⟩ := must_some h1
 obtain ⟨_, _, _, _, rfl, h3⟩ := asArr_some h2
 obtain ⟨rfl, h4⟩ := isN_some h3
 obtain ⟨rfl, h5⟩ := isN_some h4
 obtain ⟨rfl, h6⟩ := isN_some h5
 obtain ⟨_, hu1, h7⟩ := must_some h6
 obtain ⟨_, rfl, h8⟩ := asFn_some h7
 obtain ⟨rfl, h9⟩ := asN0_some h8
 obtain ⟨_, hu5, h10⟩ := atInt_some h9
 obtain ⟨_, hu6, h11⟩ := atInt_some h10
 obtain ⟨_, _, rfl, h12⟩ := asOb_some h11
 obtain ⟨_, _, rfl, h13⟩ := obIs_some h12
 obtain ⟨rfl, h14⟩ := isN_some h13
 obtain ⟨rfl, h15⟩ := asEnd_some h14
 exact ⟨_, _, _, _, frame_is hg rfl (slots_cons hu0 (slots_cons hu1 (slots_cons hu5 (slots_cons hu6 slots_nil)))), rfl, h15⟩
def Λ_zab_0 (N : Nat) : Looper := (noLooper).add [0, 1, 0, 1, 1, 1] fun _ E s K => i_zab_0 (killE ks_zab_0 E) s fun k_1 x_2 x_3 e_4 => l_zab_0 N k_1 (kk0_zab_0 K k_1) N x_2 x_3 e_4
theorem ok_zab_0 {N : Nat} (hC : Ok Tryz.prog C) (hΦ : CalleeOk Tryz.prog C (Φ_zac N)) : LoopOk Tryz.prog C (Λ_zab_0 N) b_zab_0 [0, 1, 0, 1, 1, 1] :=
 iter_ok (Λi := noLooper) (tr := false) (ks := ks_zab_0) (kx := kx_zab_0) (N := N) hC hΦ
  (loopsOk_nil (by kernel_rfl))
  fun R E s K r h => by
   have h2 := Looper.add_self.symm.trans h
   obtain ⟨_, _, _, _, he, rfl, h3⟩ := i_zab_0_spec h2
   rw [he]
   exact (w_zab_0 N _ _ N _ _ _).trans h3
theorem at_zab : loopsAt c_zab [] = [([0, 1, 0, 1, 1, 1], b_zab_0)] := by kernel_rfl
theorem b_zab {R : Type} (N : Nat) (k_1 : Nat) (e_2 : List V) (K : V → S → Option R) : bodyV C (Φ_zac N) (Λ_zab_0 N) 152 Tryz.f152 [.arr 0 0 0 k_1, .fn 154 []] [some ⟨e_2, 1, 9, 0⟩] (GK rl 1 K) =
 gb_zab N k_1 e_2 (fun k_901 e_902 => K (.arr 0 0 0 k_901) [some ⟨e_902, 1, 9, 0⟩]) := by kernel_rfl
theorem loops_zab {N : Nat} (hC : Ok Tryz.prog C) (hΦ : CalleeOk Tryz.prog C (Φ_zac N)) : LoopsOk Tryz.prog C (Λ_zab_0 N) c_zab [] :=
 loopsOk_of c_zab [] (by
  rw [at_zab]
  intro p hp
  simp only [List.mem_cons, List.mem_nil_iff, or_false] at hp
  rcases hp with rfl
  ·exact (ok_zab_0 hC hΦ))
theorem callee_zab (hC : Ok Tryz.prog C) {N : Nat} (hΦ : CalleeOk Tryz.prog C (Φ_zac N)) : CalleeOk Tryz.prog C (Φ_zab N) := by
 refine hΦ.addIf_shared rfl fun R vs s K r h => ?_
 unfold f_zab at h
 obtain ⟨_, _, rfl, h1⟩ := asN2_some h
 obtain ⟨o0, _, _, k_1, rfl, h2⟩ := asArr_some h1
 obtain ⟨rfl, h3⟩ := isN_some h2
 obtain ⟨rfl, h4⟩ := isN_some h3
 obtain ⟨_, rfl, h5⟩ := asFn_some h4
 obtain ⟨rfl, h6⟩ := asN0_some h5
 obtain ⟨_, hob0, h7⟩ := asAt_some h6
 obtain ⟨e_2, _, rfl, h8⟩ := obIs_some h7
 obtain ⟨rfl, h9⟩ := isN_some h8
 obtain ⟨hdist, h10⟩ := guardB_some h9
 obtain ⟨hin, h11⟩ := guardB_some h10
 refine frames_body (fn := Tryz.f152) (c := c_zab) (os := [o0]) (rl := rl) (bi := [false]) (s0 := [some ⟨e_2, 1, 9, 0⟩]) (as0 := [.arr 0 0 0 k_1, .fn 154 []]) hC hΦ Tryz.func152 (by kernel_rfl) (by kernel_rfl) (loops_zab (N := N) hC hΦ) rfl hdist ⟨⟨_, rfl, hob0⟩, trivial⟩ hin rfl rfl ?_
 refine (b_zab N _ _ _).trans ?_
 rw [← g_zab_eq]
 exact h11
end
end Go.VM.VL
