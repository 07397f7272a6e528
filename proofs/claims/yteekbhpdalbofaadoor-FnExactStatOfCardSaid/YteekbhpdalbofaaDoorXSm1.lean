/- The functions of the program, told plainly: what each computes, as a function of its letters; and that the machine does the same. Printed by vgen.py, a program of this session's own. -/
import Derived.Test.YteekbhpdalbofaaDoorXS
import Derived.WalkKit
import Derived.Lib.Walk
import Derived.Lib.SliceRun
import Derived.Lib.AppendZerosOnto
import Derived.Test.YteekbhpdalbofaaDoorProg
import Derived.KernelRfl
set_option linter.unusedVariables false
namespace Go.VM.VL
open Go.Proofs
def rl (t : TypeId) : Bool := [9].any (Nat.beq t)
/-! ## the machine -/
def mode (f : FuncId) : Mode :=
  match [36, 69, 70, 89].any (Nat.beq f) with
  | true => .shared
  | false => match [35, 73].any (Nat.beq f) with
    | true => .own
    | false => .pure
noncomputable abbrev C : Cfg := Cfg.of Tryd.prog 9 mode (fun f => [73].any (Nat.beq f))
noncomputable def f_zbw (N : Nat) : (R : Type) → List V → S → (V → S → Option R) → Option R := fun _ vs s K =>
  asN2 vs fun v'1 v'2 => un_laws_Entry v'1 fun w_1 x_2 => asInt .i64 v'2 fun x_3 => asEnd s <| g_zbw N w_1 x_2 x_3 (fun x_4 => K (.int .i64 x_4) [])
noncomputable def Φ_zbw (N : Nat) : Callee := (noCallee).add 76 (f_zbw N)
noncomputable def c_zbw : Code := bodyOf Tryd.f76
theorem b_zbw {R : Type} (N : Nat) (w_1 : ByteArray) (x_2 x_3 : Int) (K : V → S → Option R) : bodyV C (noCallee) (noLooper) 76 Tryd.f76 [.agg [.str w_1, .int .i64 x_2], .int .i64 x_3] [] K =
  gb_zbw N w_1 x_2 x_3 (fun x_4 => K (.int .i64 x_4) []) := by kernel_rfl
theorem callee_zbw (hC : Ok Tryd.prog C) {N : Nat} (hΦ : CalleeOk Tryd.prog C (noCallee)) : CalleeOk Tryd.prog C (Φ_zbw N) := by
  refine hΦ.add_pure rfl fun R vs K r h => ?_
  unfold f_zbw at h
  obtain ⟨_, _, rfl, h1⟩ := asN2_some h
  obtain ⟨_, _, rfl, h2⟩ := un_laws_Entry_some h1
  obtain ⟨_, rfl, h3⟩ := asInt_some h2
  obtain ⟨_, h4⟩ := asEnd_some h3
  refine body_pure (fn := Tryd.f76) (c := c_zbw) hC hΦ Tryd.func76 (by kernel_rfl) (by kernel_rfl) (loopsOk_nil (Λ := noLooper) (by kernel_rfl)) rfl rfl ?_
  refine (b_zbw N _ _ _ _).trans ?_
  rw [← g_zbw_eq]
  exact h4
noncomputable def f_zbj (N : Nat) : (R : Type) → List V → S → (V → S → Option R) → Option R := fun _ vs s K =>
  asN2 vs fun v'1 v'2 => asList 2 v'1 fun e_1 f_2 => asInt .i64 v'2 fun x_3 => asEnd s <| g_zbj N e_1 f_2 x_3 (fun x_4 => K (.int .i64 x_4) [])
noncomputable def Φ_zbj (N : Nat) : Callee := (Φ_zbw N).add 51 (f_zbj N)
noncomputable def c_zbj : Code := bodyOf Tryd.f51
noncomputable def b_zbj_0 : Code := (loopNo c_zbj [] 0).2
def ks_zbj_0 : List Nat := butL 27 [0, 1, 5]
def kx_zbj_0 : List Nat := butL 27 [1, 4]
def fr_zbj_0 (e_1 : List V) (f_2 : Fl) (x_3 x_4 : Int) : List V := mkF 0 27 [(0, .list 2 e_1 f_2), (1, .int .i64 x_3), (5, .int .i64 x_4)]
def kk0_zbj_0 {R : Type} (K : X → List V → S → Option R) (e_1 : List V) (f_2 : Fl) : Int → Option R := (fun x_1' => K .ret (mkF 0 27 [(1, .int .i64 (x_1')), (4, .int .i64 (-1))]) [])
def kk1_zbj_0 {R : Type} (K : X → List V → S → Option R) (e_1 : List V) (f_2 : Fl) : Int → Option R := (fun x_1' => K (.exit 0) (mkF 0 27 [(1, .int .i64 (x_1'))]) [])
noncomputable abbrev it_zbj_0 {R : Type} (N : Nat) : Nat → List V → S → (X → List V → S → Option R) → Option R := fun n => iter C (Φ_zbw N) (noLooper) b_zbj_0 [0, 1, 0, 1, 1, 1] false ks_zbj_0 kx_zbj_0 n R
theorem r_zbj_0 {R : Type} (N n : Nat) (e_1 : List V) (f_2 : Fl) (x_3 x_4 : Int) (K : X → List V → S → Option R) :
  it_zbj_0 N (n + 1) (fr_zbj_0 e_1 f_2 x_3 x_4) [] K =
  l_zbj_0_step N e_1 f_2 (fun x_3 x_4 => it_zbj_0 N n (fr_zbj_0 e_1 f_2 x_3 x_4) [] K) x_3 x_4 (kk0_zbj_0 K e_1 f_2) (kk1_zbj_0 K e_1 f_2) := by kernel_rfl
theorem w_zbj_0 {R : Type} (N : Nat) (e_1 : List V) (f_2 : Fl) (K : X → List V → S → Option R) : ∀ (n : Nat) (x_3 x_4 : Int),
  it_zbj_0 N n (fr_zbj_0 e_1 f_2 x_3 x_4) [] K = l_zbj_0 N e_1 f_2 (kk0_zbj_0 K e_1 f_2) (kk1_zbj_0 K e_1 f_2) n x_3 x_4
  | 0, _, _ => rfl
  | n + 1, x_3, x_4 => (r_zbj_0 N n e_1 f_2 x_3 x_4 K).trans (congrArg (fun nx => l_zbj_0_step N e_1 f_2 nx x_3 x_4 (kk0_zbj_0 K e_1 f_2) (kk1_zbj_0 K e_1 f_2)) (funext fun x_3 => funext fun x_4 => w_zbj_0 N e_1 f_2 K n x_3 x_4))
def i_zbj_0 {R : Type} (E : List V) (s : S) (k : List V → Fl → Int → Int → Option R) : Option R :=
  guardB (frameOk 27 [0, 1, 5] E) <| atList E 0 2 fun e_1 f_2 => atInt E 1 .i64 fun x_3 => atInt E 5 .i64 fun x_4 => asEnd s <| k e_1 f_2 x_3 x_4
theorem i_zbj_0_spec {R : Type} {E : List V} {s : S} {k : List V → Fl → Int → Int → Option R} {r : R} (h : i_zbj_0 E s k = some r) : ∃ e_1 f_2 x_3 x_4, E = fr_zbj_0 e_1 f_2 x_3 x_4 ∧ s = [] ∧ k e_1 f_2 x_3 x_4 = some r := by
  unfold i_zbj_0 at h
  obtain ⟨hg, h1⟩ := guardB_some h
  obtain ⟨_, _, hu0, h2⟩ := atList_some h1
  obtain ⟨_, hu1, h3⟩ := atInt_some h2
  obtain ⟨_, hu5, h4⟩ := atInt_some h3
  obtain ⟨rfl, h5⟩ := asEnd_some h4
  exact ⟨_, _, _, _, frame_is hg rfl (slots_cons hu0 (slots_cons hu1 (slots_cons hu5 slots_nil))), rfl, h5⟩
noncomputable def Λ_zbj_0 (N : Nat) : Looper := (noLooper).add [0, 1, 0, 1, 1, 1] fun _ E s K => i_zbj_0 (killE ks_zbj_0 E) s fun e_1 f_2 x_3 x_4 => l_zbj_0 N e_1 f_2 (kk0_zbj_0 K e_1 f_2) (kk1_zbj_0 K e_1 f_2) N x_3 x_4
theorem ok_zbj_0 {N : Nat} (hC : Ok Tryd.prog C) (hΦ : CalleeOk Tryd.prog C (Φ_zbw N)) : LoopOk Tryd.prog C (Λ_zbj_0 N) b_zbj_0 [0, 1, 0, 1, 1, 1] :=
  iter_ok (Λi := noLooper) (tr := false) (ks := ks_zbj_0) (kx := kx_zbj_0) (N := N) hC hΦ
    (loopsOk_nil (by kernel_rfl))
    fun R E s K r h => by
      have h2 := Looper.add_self.symm.trans h
      obtain ⟨_, _, _, _, he, rfl, h3⟩ := i_zbj_0_spec h2
      rw [he]
      exact (w_zbj_0 N _ _ _ N _ _).trans h3
theorem at_zbj : loopsAt c_zbj [] = [([0, 1, 0, 1, 1, 1], b_zbj_0)] := by kernel_rfl
theorem b_zbj {R : Type} (N : Nat) (e_1 : List V) (f_2 : Fl) (x_3 : Int) (K : V → S → Option R) : bodyV C (Φ_zbw N) (Λ_zbj_0 N) 51 Tryd.f51 [.list 2 e_1 f_2, .int .i64 x_3] [] K =
  gb_zbj N e_1 f_2 x_3 (fun x_4 => K (.int .i64 x_4) []) := by kernel_rfl
theorem loops_zbj {N : Nat} (hC : Ok Tryd.prog C) (hΦ : CalleeOk Tryd.prog C (Φ_zbw N)) : LoopsOk Tryd.prog C (Λ_zbj_0 N) c_zbj [] :=
  loopsOk_of c_zbj [] (by
    rw [at_zbj]
    intro p hp
    simp only [List.mem_cons, List.mem_nil_iff, or_false] at hp
    rcases hp with rfl
    · exact (ok_zbj_0 hC hΦ))
theorem callee_zbj (hC : Ok Tryd.prog C) {N : Nat} (hΦ : CalleeOk Tryd.prog C (Φ_zbw N)) : CalleeOk Tryd.prog C (Φ_zbj N) := by
  refine hΦ.add_pure rfl fun R vs K r h => ?_
  unfold f_zbj at h
  obtain ⟨_, _, rfl, h1⟩ := asN2_some h
  obtain ⟨_, _, rfl, h2⟩ := asList_some h1
  obtain ⟨_, rfl, h3⟩ := asInt_some h2
  obtain ⟨_, h4⟩ := asEnd_some h3
  refine body_pure (fn := Tryd.f51) (c := c_zbj) hC hΦ Tryd.func51 (by kernel_rfl) (by kernel_rfl) (loops_zbj (N := N) hC hΦ) rfl rfl ?_
  refine (b_zbj N _ _ _ _).trans ?_
  rw [← g_zbj_eq]
  exact h4
noncomputable def f_zcr (N : Nat) : (R : Type) → List V → S → (V → S → Option R) → Option R := fun _ vs s K =>
  asN2 vs fun v'1 v'2 => un_laws_Node v'1 fun x_1 x_2 x_3 x_4 x_5 w_6 e_7 f_8 => asInt .i64 v'2 fun x_9 => asEnd s <| g_zcr N x_1 x_2 x_3 x_4 x_5 w_6 e_7 f_8 x_9 (fun x_10 => K (.int .i64 x_10) [])
noncomputable def Φ_zcr (N : Nat) : Callee := (Φ_zbj N).add 31 (f_zcr N)
noncomputable def c_zcr : Code := bodyOf Tryd.f31
theorem b_zcr {R : Type} (N : Nat) (x_1 x_2 x_3 x_4 x_5 : Int) (w_6 : ByteArray) (e_7 : List V) (f_8 : Fl) (x_9 : Int) (K : V → S → Option R) : bodyV C (Φ_zbj N) (noLooper) 31 Tryd.f31 [.agg [.int .i64 x_1, .int .i64 x_2, .int .i64 x_3, .int .i64 x_4, .int .i64 x_5, .str w_6, .list 2 e_7 f_8], .int .i64 x_9] [] K =
  gb_zcr N x_1 x_2 x_3 x_4 x_5 w_6 e_7 f_8 x_9 (fun x_10 => K (.int .i64 x_10) []) := by kernel_rfl
theorem callee_zcr (hC : Ok Tryd.prog C) {N : Nat} (hΦ : CalleeOk Tryd.prog C (Φ_zbj N)) : CalleeOk Tryd.prog C (Φ_zcr N) := by
  refine hΦ.add_pure rfl fun R vs K r h => ?_
  unfold f_zcr at h
  obtain ⟨_, _, rfl, h1⟩ := asN2_some h
  obtain ⟨_, _, _, _, _, _, _, _, rfl, h2⟩ := un_laws_Node_some h1
  obtain ⟨_, rfl, h3⟩ := asInt_some h2
  obtain ⟨_, h4⟩ := asEnd_some h3
  refine body_pure (fn := Tryd.f31) (c := c_zcr) hC hΦ Tryd.func31 (by kernel_rfl) (by kernel_rfl) (loopsOk_nil (Λ := noLooper) (by kernel_rfl)) rfl rfl ?_
  refine (b_zcr N _ _ _ _ _ _ _ _ _ _).trans ?_
  rw [← g_zcr_eq]
  exact h4
noncomputable def f_zbx (N : Nat) : (R : Type) → List V → S → (V → S → Option R) → Option R := fun _ vs s K =>
  asN2 vs fun v'1 v'2 => asList 7 v'1 fun e_1 f_2 => asInt .i64 v'2 fun x_3 => asEnd s <| g_zbx N e_1 f_2 x_3 (fun x_4 => K (.int .i64 x_4) [])
noncomputable def Φ_zbx (N : Nat) : Callee := (Φ_zcr N).add 20 (f_zbx N)
noncomputable def c_zbx : Code := bodyOf Tryd.f20
noncomputable def b_zbx_0 : Code := (loopNo c_zbx [] 0).2
def ks_zbx_0 : List Nat := butL 27 [0, 1, 5]
def kx_zbx_0 : List Nat := butL 27 [1, 4]
def fr_zbx_0 (e_1 : List V) (f_2 : Fl) (x_3 x_4 : Int) : List V := mkF 0 27 [(0, .list 7 e_1 f_2), (1, .int .i64 x_3), (5, .int .i64 x_4)]
def kk0_zbx_0 {R : Type} (K : X → List V → S → Option R) (e_1 : List V) (f_2 : Fl) : Int → Option R := (fun x_1' => K .ret (mkF 0 27 [(1, .int .i64 (x_1')), (4, .int .i64 (-1))]) [])
def kk1_zbx_0 {R : Type} (K : X → List V → S → Option R) (e_1 : List V) (f_2 : Fl) : Int → Option R := (fun x_1' => K (.exit 0) (mkF 0 27 [(1, .int .i64 (x_1'))]) [])
noncomputable abbrev it_zbx_0 {R : Type} (N : Nat) : Nat → List V → S → (X → List V → S → Option R) → Option R := fun n => iter C (Φ_zcr N) (noLooper) b_zbx_0 [0, 1, 0, 1, 1, 1] false ks_zbx_0 kx_zbx_0 n R
theorem r_zbx_0 {R : Type} (N n : Nat) (e_1 : List V) (f_2 : Fl) (x_3 x_4 : Int) (K : X → List V → S → Option R) :
  it_zbx_0 N (n + 1) (fr_zbx_0 e_1 f_2 x_3 x_4) [] K =
  l_zbx_0_step N e_1 f_2 (fun x_3 x_4 => it_zbx_0 N n (fr_zbx_0 e_1 f_2 x_3 x_4) [] K) x_3 x_4 (kk0_zbx_0 K e_1 f_2) (kk1_zbx_0 K e_1 f_2) := by kernel_rfl
theorem w_zbx_0 {R : Type} (N : Nat) (e_1 : List V) (f_2 : Fl) (K : X → List V → S → Option R) : ∀ (n : Nat) (x_3 x_4 : Int),
  it_zbx_0 N n (fr_zbx_0 e_1 f_2 x_3 x_4) [] K = l_zbx_0 N e_1 f_2 (kk0_zbx_0 K e_1 f_2) (kk1_zbx_0 K e_1 f_2) n x_3 x_4
  | 0, _, _ => rfl
  | n + 1, x_3, x_4 => (r_zbx_0 N n e_1 f_2 x_3 x_4 K).trans (congrArg (fun nx => l_zbx_0_step N e_1 f_2 nx x_3 x_4 (kk0_zbx_0 K e_1 f_2) (kk1_zbx_0 K e_1 f_2)) (funext fun x_3 => funext fun x_4 => w_zbx_0 N e_1 f_2 K n x_3 x_4))
def i_zbx_0 {R : Type} (E : List V) (s : S) (k : List V → Fl → Int → Int → Option R) : Option R :=
  guardB (frameOk 27 [0, 1, 5] E) <| atList E 0 7 fun e_1 f_2 => atInt E 1 .i64 fun x_3 => atInt E 5 .i64 fun x_4 => asEnd s <| k e_1 f_2 x_3 x_4
theorem i_zbx_0_spec {R : Type} {E : List V} {s : S} {k : List V → Fl → Int → Int → Option R} {r : R} (h : i_zbx_0 E s k = some r) : ∃ e_1 f_2 x_3 x_4, E = fr_zbx_0 e_1 f_2 x_3 x_4 ∧ s = [] ∧ k e_1 f_2 x_3 x_4 = some r := by
  unfold i_zbx_0 at h
  obtain ⟨hg, h1⟩ := guardB_some h
  obtain ⟨_, _, hu0, h2⟩ := atList_some h1
  obtain ⟨_, hu1, h3⟩ := atInt_some h2
  obtain ⟨_, hu5, h4⟩ := atInt_some h3
  obtain ⟨rfl, h5⟩ := asEnd_some h4
  exact ⟨_, _, _, _, frame_is hg rfl (slots_cons hu0 (slots_cons hu1 (slots_cons hu5 slots_nil))), rfl, h5⟩
noncomputable def Λ_zbx_0 (N : Nat) : Looper := (noLooper).add [0, 1, 0, 1, 1, 1] fun _ E s K => i_zbx_0 (killE ks_zbx_0 E) s fun e_1 f_2 x_3 x_4 => l_zbx_0 N e_1 f_2 (kk0_zbx_0 K e_1 f_2) (kk1_zbx_0 K e_1 f_2) N x_3 x_4
theorem ok_zbx_0 {N : Nat} (hC : Ok Tryd.prog C) (hΦ : CalleeOk Tryd.prog C (Φ_zcr N)) : LoopOk Tryd.prog C (Λ_zbx_0 N) b_zbx_0 [0, 1, 0, 1, 1, 1] :=
  iter_ok (Λi := noLooper) (tr := false) (ks := ks_zbx_0) (kx := kx_zbx_0) (N := N) hC hΦ
    (loopsOk_nil (by kernel_rfl))
    fun R E s K r h => by
      have h2 := Looper.add_self.symm.trans h
      obtain ⟨_, _, _, _, he, rfl, h3⟩ := i_zbx_0_spec h2
      rw [he]
      exact (w_zbx_0 N _ _ _ N _ _).trans h3
theorem at_zbx : loopsAt c_zbx [] = [([0, 1, 0, 1, 1, 1], b_zbx_0)] := by kernel_rfl
theorem b_zbx {R : Type} (N : Nat) (e_1 : List V) (f_2 : Fl) (x_3 : Int) (K : V → S → Option R) : bodyV C (Φ_zcr N) (Λ_zbx_0 N) 20 Tryd.f20 [.list 7 e_1 f_2, .int .i64 x_3] [] K =
  gb_zbx N e_1 f_2 x_3 (fun x_4 => K (.int .i64 x_4) []) := by kernel_rfl
theorem loops_zbx {N : Nat} (hC : Ok Tryd.prog C) (hΦ : CalleeOk Tryd.prog C (Φ_zcr N)) : LoopsOk Tryd.prog C (Λ_zbx_0 N) c_zbx [] :=
  loopsOk_of c_zbx [] (by
    rw [at_zbx]
    intro p hp
    simp only [List.mem_cons, List.mem_nil_iff, or_false] at hp
    rcases hp with rfl
    · exact (ok_zbx_0 hC hΦ))
theorem callee_zbx (hC : Ok Tryd.prog C) {N : Nat} (hΦ : CalleeOk Tryd.prog C (Φ_zcr N)) : CalleeOk Tryd.prog C (Φ_zbx N) := by
  refine hΦ.add_pure rfl fun R vs K r h => ?_
  unfold f_zbx at h
  obtain ⟨_, _, rfl, h1⟩ := asN2_some h
  obtain ⟨_, _, rfl, h2⟩ := asList_some h1
  obtain ⟨_, rfl, h3⟩ := asInt_some h2
  obtain ⟨_, h4⟩ := asEnd_some h3
  refine body_pure (fn := Tryd.f20) (c := c_zbx) hC hΦ Tryd.func20 (by kernel_rfl) (by kernel_rfl) (loops_zbx (N := N) hC hΦ) rfl rfl ?_
  refine (b_zbx N _ _ _ _).trans ?_
  rw [← g_zbx_eq]
  exact h4
noncomputable def f_zdk (N : Nat) : (R : Type) → List V → S → (V → S → Option R) → Option R := fun _ vs s K =>
  asN2 vs fun v'1 v'2 => un_laws_Fs v'1 fun e_1 f_2 x_3 => asInt .i64 v'2 fun x_4 => asEnd s <| g_zdk N e_1 f_2 x_3 x_4 (fun x_5 => K (.int .i64 x_5) [])
noncomputable def Φ_zdk (N : Nat) : Callee := (Φ_zbx N).add 7 (f_zdk N)
noncomputable def c_zdk : Code := bodyOf Tryd.f7
theorem b_zdk {R : Type} (N : Nat) (e_1 : List V) (f_2 : Fl) (x_3 x_4 : Int) (K : V → S → Option R) : bodyV C (Φ_zbx N) (noLooper) 7 Tryd.f7 [.agg [.list 7 e_1 f_2, .int .i64 x_3], .int .i64 x_4] [] K =
  gb_zdk N e_1 f_2 x_3 x_4 (fun x_5 => K (.int .i64 x_5) []) := by kernel_rfl
theorem callee_zdk (hC : Ok Tryd.prog C) {N : Nat} (hΦ : CalleeOk Tryd.prog C (Φ_zbx N)) : CalleeOk Tryd.prog C (Φ_zdk N) := by
  refine hΦ.add_pure rfl fun R vs K r h => ?_
  unfold f_zdk at h
  obtain ⟨_, _, rfl, h1⟩ := asN2_some h
  obtain ⟨_, _, _, rfl, h2⟩ := un_laws_Fs_some h1
  obtain ⟨_, rfl, h3⟩ := asInt_some h2
  obtain ⟨_, h4⟩ := asEnd_some h3
  refine body_pure (fn := Tryd.f7) (c := c_zdk) hC hΦ Tryd.func7 (by kernel_rfl) (by kernel_rfl) (loopsOk_nil (Λ := noLooper) (by kernel_rfl)) rfl rfl ?_
  refine (b_zdk N _ _ _ _ _).trans ?_
  rw [← g_zdk_eq]
  exact h4
noncomputable def f_zby (N : Nat) : (R : Type) → List V → S → (V → S → Option R) → Option R := fun _ vs s K =>
  asN1 vs fun v'1 => un_laws_Entry v'1 fun w_1 x_2 => asEnd s <| g_zby N w_1 x_2 (fun w_3 x_4 => K (.agg [.str w_3, .int .i64 x_4]) [])
noncomputable def Φ_zby (N : Nat) : Callee := (Φ_zdk N).add 81 (f_zby N)
noncomputable def c_zby : Code := bodyOf Tryd.f81
theorem b_zby {R : Type} (N : Nat) (w_1 : ByteArray) (x_2 : Int) (K : V → S → Option R) : bodyV C (Φ_zdk N) (noLooper) 81 Tryd.f81 [.agg [.str w_1, .int .i64 x_2]] [] K =
  gb_zby N w_1 x_2 (fun w_3 x_4 => K (.agg [.str w_3, .int .i64 x_4]) []) := by kernel_rfl
theorem callee_zby (hC : Ok Tryd.prog C) {N : Nat} (hΦ : CalleeOk Tryd.prog C (Φ_zdk N)) : CalleeOk Tryd.prog C (Φ_zby N) := by
  refine hΦ.add_pure rfl fun R vs K r h => ?_
  unfold f_zby at h
  obtain ⟨_, rfl, h1⟩ := asN1_some h
  obtain ⟨_, _, rfl, h2⟩ := un_laws_Entry_some h1
  obtain ⟨_, h3⟩ := asEnd_some h2
  refine body_pure (fn := Tryd.f81) (c := c_zby) hC hΦ Tryd.func81 (by kernel_rfl) (by kernel_rfl) (loopsOk_nil (Λ := noLooper) (by kernel_rfl)) rfl rfl ?_
  refine (b_zby N _ _ _).trans ?_
  rw [← g_zby_eq]
  exact h3
noncomputable def f_zbk (N : Nat) : (R : Type) → List V → S → (V → S → Option R) → Option R := fun _ vs s K =>
  asN1 vs fun v'1 => asList 2 v'1 fun e_1 f_2 => asEnd s <| g_zbk N e_1 f_2 (fun e_3 => K (.list 2 e_3 .sh) [])
noncomputable def Φ_zbk (N : Nat) : Callee := (Φ_zby N).add 61 (f_zbk N)
noncomputable def c_zbk : Code := bodyOf Tryd.f61
noncomputable def b_zbk_0 : Code := (loopNo c_zbk [] 0).2
def ks_zbk_0 : List Nat := butL 23 [0, 3, 4]
def kx_zbk_0 : List Nat := butL 23 [3]
def fr_zbk_0 (e_1 : List V) (f_2 : Fl) (k_3 : Nat) (x_4 : Int) (e_5 : List V) : List V := mkF 0 23 [(0, .list 2 e_1 f_2), (3, .arr 0 0 0 k_3), (4, .int .i64 x_4)]
def kk0_zbk_0 {R : Type} (K : X → List V → S → Option R) (e_1 : List V) (f_2 : Fl) (k_3 : Nat) : List V → Option R := (fun e_1' => K (.exit 0) (mkF 0 23 [(3, .arr 0 0 0 k_3)]) [some ⟨e_1', 2, 86, 0⟩])
noncomputable abbrev it_zbk_0 {R : Type} (N : Nat) : Nat → List V → S → (X → List V → S → Option R) → Option R := fun n => iter C (Φ_zby N) (noLooper) b_zbk_0 [0, 1, 0, 1, 1] false ks_zbk_0 kx_zbk_0 n R
theorem r_zbk_0 {R : Type} (N n : Nat) (e_1 : List V) (f_2 : Fl) (k_3 : Nat) (x_4 : Int) (e_5 : List V) (K : X → List V → S → Option R) :
  it_zbk_0 N (n + 1) (fr_zbk_0 e_1 f_2 k_3 x_4 e_5) [some ⟨e_5, 2, 86, 0⟩] K =
  l_zbk_0_step N e_1 f_2 k_3 (fun x_4 e_5 => it_zbk_0 N n (fr_zbk_0 e_1 f_2 k_3 x_4 e_5) [some ⟨e_5, 2, 86, 0⟩] K) x_4 e_5 (kk0_zbk_0 K e_1 f_2 k_3) := by kernel_rfl
theorem w_zbk_0 {R : Type} (N : Nat) (e_1 : List V) (f_2 : Fl) (k_3 : Nat) (K : X → List V → S → Option R) : ∀ (n : Nat) (x_4 : Int) (e_5 : List V),
  it_zbk_0 N n (fr_zbk_0 e_1 f_2 k_3 x_4 e_5) [some ⟨e_5, 2, 86, 0⟩] K = l_zbk_0 N e_1 f_2 k_3 (kk0_zbk_0 K e_1 f_2 k_3) n x_4 e_5
  | 0, _, _ => rfl
  | n + 1, x_4, e_5 => (r_zbk_0 N n e_1 f_2 k_3 x_4 e_5 K).trans (congrArg (fun nx => l_zbk_0_step N e_1 f_2 k_3 nx x_4 e_5 (kk0_zbk_0 K e_1 f_2 k_3)) (funext fun x_4 => funext fun e_5 => w_zbk_0 N e_1 f_2 k_3 K n x_4 e_5))
def i_zbk_0 {R : Type} (E : List V) (s : S) (k : List V → Fl → Nat → Int → List V → Option R) : Option R :=
  guardB (frameOk 23 [0, 3, 4] E) <| atList E 0 2 fun e_1 f_2 => must (nth E 3) fun u3 => asArr u3 fun k'1 k'2 k'3 k_3 => isN k'1 0 <| isN k'2 0 <| isN k'3 0 <| atInt E 4 .i64 fun x_4 => asOb s fun o'4 s'5 => obIs o'4 2 86 fun e_5 k'6 => isN k'6 0 <| asEnd s'5 <| k e_1 f_2 k_3 x_4 e_5
theorem i_zbk_0_spec {R : Type} {E : List V} {s : S} {k : List V → Fl → Nat → Int → List V → Option R} {r : R} (h : i_zbk_0 E s k = some r) : ∃ e_1 f_2 k_3 x_4 e_5, E = fr_zbk_0 e_1 f_2 k_3 x_4 e_5 ∧ s = [some ⟨e_5, 2, 86, 0⟩] ∧ k e_1 f_2 k_3 x_4 e_5 = some r := by
  unfold i_zbk_0 at h
  obtain ⟨hg, h1⟩ := guardB_some h
  obtain ⟨_, _, hu0, h2⟩ := atList_some h1
  obtain ⟨_, hu3, h3⟩ := must_some h2
  obtain ⟨_, _, _, _, rfl, h4⟩ := asArr_some h3
  obtain ⟨rfl, h5⟩ := isN_some h4
  obtain ⟨rfl, h6⟩ := isN_some h5
  obtain ⟨rfl, h7⟩ := isN_some h6
  obtain ⟨_, hu4, h8⟩ := atInt_some h7
  obtain ⟨_, _, rfl, h9⟩ := asOb_some h8
  obtain ⟨_, _, rfl, h10⟩ := obIs_some h9
  obtain ⟨rfl, h11⟩ := isN_some h10
  obtain ⟨rfl, h12⟩ := asEnd_some h11
  exact ⟨_, _, _, _, _, frame_is hg rfl (slots_cons hu0 (slots_cons hu3 (slots_cons hu4 slots_nil))), rfl, h12⟩
noncomputable def Λ_zbk_0 (N : Nat) : Looper := (noLooper).add [0, 1, 0, 1, 1] fun _ E s K => i_zbk_0 (killE ks_zbk_0 E) s fun e_1 f_2 k_3 x_4 e_5 => l_zbk_0 N e_1 f_2 k_3 (kk0_zbk_0 K e_1 f_2 k_3) N x_4 e_5
theorem ok_zbk_0 {N : Nat} (hC : Ok Tryd.prog C) (hΦ : CalleeOk Tryd.prog C (Φ_zby N)) : LoopOk Tryd.prog C (Λ_zbk_0 N) b_zbk_0 [0, 1, 0, 1, 1] :=
  iter_ok (Λi := noLooper) (tr := false) (ks := ks_zbk_0) (kx := kx_zbk_0) (N := N) hC hΦ
    (loopsOk_nil (by kernel_rfl))
    fun R E s K r h => by
      have h2 := Looper.add_self.symm.trans h
      obtain ⟨_, _, _, _, _, he, rfl, h3⟩ := i_zbk_0_spec h2
      rw [he]
      exact (w_zbk_0 N _ _ _ _ N _ _).trans h3
theorem at_zbk : loopsAt c_zbk [] = [([0, 1, 0, 1, 1], b_zbk_0)] := by kernel_rfl
theorem b_zbk {R : Type} (N : Nat) (e_1 : List V) (f_2 : Fl) (K : V → S → Option R) : bodyV C (Φ_zby N) (Λ_zbk_0 N) 61 Tryd.f61 [.list 2 e_1 f_2] [] K =
  gb_zbk N e_1 f_2 (fun e_3 => K (.list 2 e_3 .sh) []) := by kernel_rfl
theorem loops_zbk {N : Nat} (hC : Ok Tryd.prog C) (hΦ : CalleeOk Tryd.prog C (Φ_zby N)) : LoopsOk Tryd.prog C (Λ_zbk_0 N) c_zbk [] :=
  loopsOk_of c_zbk [] (by
    rw [at_zbk]
    intro p hp
    simp only [List.mem_cons, List.mem_nil_iff, or_false] at hp
    rcases hp with rfl
    · exact (ok_zbk_0 hC hΦ))
theorem callee_zbk (hC : Ok Tryd.prog C) {N : Nat} (hΦ : CalleeOk Tryd.prog C (Φ_zby N)) : CalleeOk Tryd.prog C (Φ_zbk N) := by
  refine hΦ.add_pure rfl fun R vs K r h => ?_
  unfold f_zbk at h
  obtain ⟨_, rfl, h1⟩ := asN1_some h
  obtain ⟨_, _, rfl, h2⟩ := asList_some h1
  obtain ⟨_, h3⟩ := asEnd_some h2
  refine body_pure (fn := Tryd.f61) (c := c_zbk) hC hΦ Tryd.func61 (by kernel_rfl) (by kernel_rfl) (loops_zbk (N := N) hC hΦ) rfl rfl ?_
  refine (b_zbk N _ _ _).trans ?_
  rw [← g_zbk_eq]
  exact h3
noncomputable def f_zct (N : Nat) : (R : Type) → List V → S → (V → S → Option R) → Option R := fun _ vs s K =>
  asN1 vs fun v'1 => un_laws_Node v'1 fun x_1 x_2 x_3 x_4 x_5 w_6 e_7 f_8 => asEnd s <| g_zct N x_1 x_2 x_3 x_4 x_5 w_6 e_7 f_8 (fun x_9 x_10 x_11 x_12 x_13 w_14 e_15 => K (.agg [.int .i64 x_9, .int .i64 x_10, .int .i64 x_11, .int .i64 x_12, .int .i64 x_13, .str w_14, .list 2 e_15 .sh]) [])
noncomputable def Φ_zct (N : Nat) : Callee := (Φ_zbk N).add 37 (f_zct N)
noncomputable def c_zct : Code := bodyOf Tryd.f37
theorem b_zct {R : Type} (N : Nat) (x_1 x_2 x_3 x_4 x_5 : Int) (w_6 : ByteArray) (e_7 : List V) (f_8 : Fl) (K : V → S → Option R) : bodyV C (Φ_zbk N) (noLooper) 37 Tryd.f37 [.agg [.int .i64 x_1, .int .i64 x_2, .int .i64 x_3, .int .i64 x_4, .int .i64 x_5, .str w_6, .list 2 e_7 f_8]] [] K =
  gb_zct N x_1 x_2 x_3 x_4 x_5 w_6 e_7 f_8 (fun x_9 x_10 x_11 x_12 x_13 w_14 e_15 => K (.agg [.int .i64 x_9, .int .i64 x_10, .int .i64 x_11, .int .i64 x_12, .int .i64 x_13, .str w_14, .list 2 e_15 .sh]) []) := by kernel_rfl
theorem callee_zct (hC : Ok Tryd.prog C) {N : Nat} (hΦ : CalleeOk Tryd.prog C (Φ_zbk N)) : CalleeOk Tryd.prog C (Φ_zct N) := by
  refine hΦ.add_pure rfl fun R vs K r h => ?_
  unfold f_zct at h
  obtain ⟨_, rfl, h1⟩ := asN1_some h
  obtain ⟨_, _, _, _, _, _, _, _, rfl, h2⟩ := un_laws_Node_some h1
  obtain ⟨_, h3⟩ := asEnd_some h2
  refine body_pure (fn := Tryd.f37) (c := c_zct) hC hΦ Tryd.func37 (by kernel_rfl) (by kernel_rfl) (loopsOk_nil (Λ := noLooper) (by kernel_rfl)) rfl rfl ?_
  refine (b_zct N _ _ _ _ _ _ _ _ _).trans ?_
  rw [← g_zct_eq]
  exact h3
noncomputable def f_zbz (N : Nat) : (R : Type) → List V → S → (V → S → Option R) → Option R := fun _ vs s K =>
  asN1 vs fun v'1 => asList 7 v'1 fun e_1 f_2 => asEnd s <| g_zbz N e_1 f_2 (fun e_3 => K (.list 7 e_3 .sh) [])
noncomputable def Φ_zbz (N : Nat) : Callee := (Φ_zct N).add 23 (f_zbz N)
noncomputable def c_zbz : Code := bodyOf Tryd.f23
noncomputable def b_zbz_0 : Code := (loopNo c_zbz [] 0).2
def ks_zbz_0 : List Nat := butL 23 [0, 3, 4]
def kx_zbz_0 : List Nat := butL 23 [3]
def fr_zbz_0 (e_1 : List V) (f_2 : Fl) (k_3 : Nat) (x_4 : Int) (e_5 : List V) : List V := mkF 0 23 [(0, .list 7 e_1 f_2), (3, .arr 0 0 0 k_3), (4, .int .i64 x_4)]
def kk0_zbz_0 {R : Type} (K : X → List V → S → Option R) (e_1 : List V) (f_2 : Fl) (k_3 : Nat) : List V → Option R := (fun e_1' => K (.exit 0) (mkF 0 23 [(3, .arr 0 0 0 k_3)]) [some ⟨e_1', 7, 55, 0⟩])
noncomputable abbrev it_zbz_0 {R : Type} (N : Nat) : Nat → List V → S → (X → List V → S → Option R) → Option R := fun n => iter C (Φ_zct N) (noLooper) b_zbz_0 [0, 1, 0, 1, 1] false ks_zbz_0 kx_zbz_0 n R
theorem r_zbz_0 {R : Type} (N n : Nat) (e_1 : List V) (f_2 : Fl) (k_3 : Nat) (x_4 : Int) (e_5 : List V) (K : X → List V → S → Option R) :
  it_zbz_0 N (n + 1) (fr_zbz_0 e_1 f_2 k_3 x_4 e_5) [some ⟨e_5, 7, 55, 0⟩] K =
  l_zbz_0_step N e_1 f_2 k_3 (fun x_4 e_5 => it_zbz_0 N n (fr_zbz_0 e_1 f_2 k_3 x_4 e_5) [some ⟨e_5, 7, 55, 0⟩] K) x_4 e_5 (kk0_zbz_0 K e_1 f_2 k_3) := by kernel_rfl
theorem w_zbz_0 {R : Type} (N : Nat) (e_1 : List V) (f_2 : Fl) (k_3 : Nat) (K : X → List V → S → Option R) : ∀ (n : Nat) (x_4 : Int) (e_5 : List V),
  it_zbz_0 N n (fr_zbz_0 e_1 f_2 k_3 x_4 e_5) [some ⟨e_5, 7, 55, 0⟩] K = l_zbz_0 N e_1 f_2 k_3 (kk0_zbz_0 K e_1 f_2 k_3) n x_4 e_5
  | 0, _, _ => rfl
  | n + 1, x_4, e_5 => (r_zbz_0 N n e_1 f_2 k_3 x_4 e_5 K).trans (congrArg (fun nx => l_zbz_0_step N e_1 f_2 k_3 nx x_4 e_5 (kk0_zbz_0 K e_1 f_2 k_3)) (funext fun x_4 => funext fun e_5 => w_zbz_0 N e_1 f_2 k_3 K n x_4 e_5))
def i_zbz_0 {R : Type} (E : List V) (s : S) (k : List V → Fl → Nat → Int → List V → Option R) : Option R :=
  guardB (frameOk 23 [0, 3, 4] E) <| atList E 0 7 fun e_1 f_2 => must (nth E 3) fun u3 => asArr u3 fun k'1 k'2 k'3 k_3 => isN k'1 0 <| isN k'2 0 <| isN k'3 0 <| atInt E 4 .i64 fun x_4 => asOb s fun o'4 s'5 => obIs o'4 7 55 fun e_5 k'6 => isN k'6 0 <| asEnd s'5 <| k e_1 f_2 k_3 x_4 e_5
theorem i_zbz_0_spec {R : Type} {E : List V} {s : S} {k : List V → Fl → Nat → Int → List V → Option R} {r : R} (h : i_zbz_0 E s k = some r) : ∃ e_1 f_2 k_3 x_4 e_5, E = fr_zbz_0 e_1 f_2 k_3 x_4 e_5 ∧ s = [some ⟨e_5, 7, 55, 0⟩] ∧ k e_1 f_2 k_3 x_4 e_5 = some r := by
  unfold i_zbz_0 at h
  obtain ⟨hg, h1⟩ := guardB_some h
  obtain ⟨_, _, hu0, h2⟩ := atList_some h1
  obtain ⟨_, hu3, h3⟩ := must_some h2
  obtain ⟨_, _, _, _, rfl, h4⟩ := asArr_some h3
  obtain ⟨rfl, h5⟩ := isN_some h4
  obtain ⟨rfl, h6⟩ := isN_some h5
  obtain ⟨rfl, h7⟩ := isN_some h6
  obtain ⟨_, hu4, h8⟩ := atInt_some h7
  obtain ⟨_, _, rfl, h9⟩ := asOb_some h8
  obtain ⟨_, _, rfl, h10⟩ := obIs_some h9
  obtain ⟨rfl, h11⟩ := isN_some h10
  obtain ⟨rfl, h12⟩ := asEnd_some h11
  exact ⟨_, _, _, _, _, frame_is hg rfl (slots_cons hu0 (slots_cons hu3 (slots_cons hu4 slots_nil))), rfl, h12⟩
noncomputable def Λ_zbz_0 (N : Nat) : Looper := (noLooper).add [0, 1, 0, 1, 1] fun _ E s K => i_zbz_0 (killE ks_zbz_0 E) s fun e_1 f_2 k_3 x_4 e_5 => l_zbz_0 N e_1 f_2 k_3 (kk0_zbz_0 K e_1 f_2 k_3) N x_4 e_5
theorem ok_zbz_0 {N : Nat} (hC : Ok Tryd.prog C) (hΦ : CalleeOk Tryd.prog C (Φ_zct N)) : LoopOk Tryd.prog C (Λ_zbz_0 N) b_zbz_0 [0, 1, 0, 1, 1] :=
  iter_ok (Λi := noLooper) (tr := false) (ks := ks_zbz_0) (kx := kx_zbz_0) (N := N) hC hΦ
    (loopsOk_nil (by kernel_rfl))
    fun R E s K r h => by
      have h2 := Looper.add_self.symm.trans h
      obtain ⟨_, _, _, _, _, he, rfl, h3⟩ := i_zbz_0_spec h2
      rw [he]
      exact (w_zbz_0 N _ _ _ _ N _ _).trans h3
theorem at_zbz : loopsAt c_zbz [] = [([0, 1, 0, 1, 1], b_zbz_0)] := by kernel_rfl
theorem b_zbz {R : Type} (N : Nat) (e_1 : List V) (f_2 : Fl) (K : V → S → Option R) : bodyV C (Φ_zct N) (Λ_zbz_0 N) 23 Tryd.f23 [.list 7 e_1 f_2] [] K =
  gb_zbz N e_1 f_2 (fun e_3 => K (.list 7 e_3 .sh) []) := by kernel_rfl
theorem loops_zbz {N : Nat} (hC : Ok Tryd.prog C) (hΦ : CalleeOk Tryd.prog C (Φ_zct N)) : LoopsOk Tryd.prog C (Λ_zbz_0 N) c_zbz [] :=
  loopsOk_of c_zbz [] (by
    rw [at_zbz]
    intro p hp
    simp only [List.mem_cons, List.mem_nil_iff, or_false] at hp
    rcases hp with rfl
    · exact (ok_zbz_0 hC hΦ))
theorem callee_zbz (hC : Ok Tryd.prog C) {N : Nat} (hΦ : CalleeOk Tryd.prog C (Φ_zct N)) : CalleeOk Tryd.prog C (Φ_zbz N) := by
  refine hΦ.add_pure rfl fun R vs K r h => ?_
  unfold f_zbz at h
  obtain ⟨_, rfl, h1⟩ := asN1_some h
  obtain ⟨_, _, rfl, h2⟩ := asList_some h1
  obtain ⟨_, h3⟩ := asEnd_some h2
  refine body_pure (fn := Tryd.f23) (c := c_zbz) hC hΦ Tryd.func23 (by kernel_rfl) (by kernel_rfl) (loops_zbz (N := N) hC hΦ) rfl rfl ?_
  refine (b_zbz N _ _ _).trans ?_
  rw [← g_zbz_eq]
  exact h3
noncomputable def f_zdl (N : Nat) : (R : Type) → List V → S → (V → S → Option R) → Option R := fun _ vs s K =>
  asN1 vs fun v'1 => un_laws_Fs v'1 fun e_1 f_2 x_3 => asEnd s <| g_zdl N e_1 f_2 x_3 (fun e_4 x_5 => K (.agg [.list 7 e_4 .sh, .int .i64 x_5]) [])
noncomputable def Φ_zdl (N : Nat) : Callee := (Φ_zbz N).add 9 (f_zdl N)
noncomputable def c_zdl : Code := bodyOf Tryd.f9
theorem b_zdl {R : Type} (N : Nat) (e_1 : List V) (f_2 : Fl) (x_3 : Int) (K : V → S → Option R) : bodyV C (Φ_zbz N) (noLooper) 9 Tryd.f9 [.agg [.list 7 e_1 f_2, .int .i64 x_3]] [] K =
  gb_zdl N e_1 f_2 x_3 (fun e_4 x_5 => K (.agg [.list 7 e_4 .sh, .int .i64 x_5]) []) := by kernel_rfl
theorem callee_zdl (hC : Ok Tryd.prog C) {N : Nat} (hΦ : CalleeOk Tryd.prog C (Φ_zbz N)) : CalleeOk Tryd.prog C (Φ_zdl N) := by
  refine hΦ.add_pure rfl fun R vs K r h => ?_
  unfold f_zdl at h
  obtain ⟨_, rfl, h1⟩ := asN1_some h
  obtain ⟨_, _, _, rfl, h2⟩ := un_laws_Fs_some h1
  obtain ⟨_, h3⟩ := asEnd_some h2
  refine body_pure (fn := Tryd.f9) (c := c_zdl) hC hΦ Tryd.func9 (by kernel_rfl) (by kernel_rfl) (loopsOk_nil (Λ := noLooper) (by kernel_rfl)) rfl rfl ?_
  refine (b_zdl N _ _ _ _).trans ?_
  rw [← g_zdl_eq]
  exact h3
noncomputable def f_zcs (N : Nat) : (R : Type) → List V → S → (V → S → Option R) → Option R := fun _ vs s K =>
  asN1 vs fun v'1 => un_laws_Cred v'1 fun x_1 x_2 => asEnd s <| g_zcs N x_1 x_2 (fun x_3 x_4 => K (.agg [.int .i64 x_3, .int .i64 x_4]) [])
noncomputable def Φ_zcs (N : Nat) : Callee := (Φ_zdl N).add 10 (f_zcs N)
noncomputable def c_zcs : Code := bodyOf Tryd.f10
theorem b_zcs {R : Type} (N : Nat) (x_1 x_2 : Int) (K : V → S → Option R) : bodyV C (Φ_zdl N) (noLooper) 10 Tryd.f10 [.agg [.int .i64 x_1, .int .i64 x_2]] [] K =
  gb_zcs N x_1 x_2 (fun x_3 x_4 => K (.agg [.int .i64 x_3, .int .i64 x_4]) []) := by kernel_rfl
theorem callee_zcs (hC : Ok Tryd.prog C) {N : Nat} (hΦ : CalleeOk Tryd.prog C (Φ_zdl N)) : CalleeOk Tryd.prog C (Φ_zcs N) := by
  refine hΦ.add_pure rfl fun R vs K r h => ?_
  unfold f_zcs at h
  obtain ⟨_, rfl, h1⟩ := asN1_some h
  obtain ⟨_, _, rfl, h2⟩ := un_laws_Cred_some h1
  obtain ⟨_, h3⟩ := asEnd_some h2
  refine body_pure (fn := Tryd.f10) (c := c_zcs) hC hΦ Tryd.func10 (by kernel_rfl) (by kernel_rfl) (loopsOk_nil (Λ := noLooper) (by kernel_rfl)) rfl rfl ?_
  refine (b_zcs N _ _ _).trans ?_
  rw [← g_zcs_eq]
  exact h3
noncomputable def f_zbu (N : Nat) : (R : Type) → List V → S → (V → S → Option R) → Option R := fun _ vs s K =>
  asN2 vs fun v'1 v'2 => un_impl_Entry v'1 fun w_1 x_2 => un_impl_Entry v'2 fun w_3 x_4 => asEnd s <| g_zbu N w_1 x_2 w_3 x_4 (fun b_5 => K (.bool b_5) [])
noncomputable def Φ_zbu (N : Nat) : Callee := (Φ_zcs N).add 90 (f_zbu N)
noncomputable def c_zbu : Code := bodyOf Tryd.f90
theorem b_zbu {R : Type} (N : Nat) (w_1 : ByteArray) (x_2 : Int) (w_3 : ByteArray) (x_4 : Int) (K : V → S → Option R) : bodyV C (Φ_zcs N) (noLooper) 90 Tryd.f90 [.agg [.str w_1, .int .i64 x_2], .agg [.str w_3, .int .i64 x_4]] [] K =
  gb_zbu N w_1 x_2 w_3 x_4 (fun b_5 => K (.bool b_5) []) := by kernel_rfl
theorem callee_zbu (hC : Ok Tryd.prog C) {N : Nat} (hΦ : CalleeOk Tryd.prog C (Φ_zcs N)) : CalleeOk Tryd.prog C (Φ_zbu N) := by
  refine hΦ.add_pure rfl fun R vs K r h => ?_
  unfold f_zbu at h
  obtain ⟨_, _, rfl, h1⟩ := asN2_some h
  obtain ⟨_, _, rfl, h2⟩ := un_impl_Entry_some h1
  obtain ⟨_, _, rfl, h3⟩ := un_impl_Entry_some h2
  obtain ⟨_, h4⟩ := asEnd_some h3
  refine body_pure (fn := Tryd.f90) (c := c_zbu) hC hΦ Tryd.func90 (by kernel_rfl) (by kernel_rfl) (loopsOk_nil (Λ := noLooper) (by kernel_rfl)) rfl rfl ?_
  refine (b_zbu N _ _ _ _ _).trans ?_
  rw [← g_zbu_eq]
  exact h4
noncomputable def f_zbi (N : Nat) : (R : Type) → List V → S → (V → S → Option R) → Option R := fun _ vs s K =>
  asN2 vs fun v'1 v'2 => asList 2 v'1 fun e_1 f_2 => asList 2 v'2 fun e_3 f_4 => asEnd s <| g_zbi N e_1 f_2 e_3 f_4 (fun b_5 => K (.bool b_5) [])
noncomputable def Φ_zbi (N : Nat) : Callee := (Φ_zbu N).add 74 (f_zbi N)
noncomputable def c_zbi : Code := bodyOf Tryd.f74
noncomputable def b_zbi_0 : Code := (loopNo c_zbi [] 0).2
def ks_zbi_0 : List Nat := butL 27 [0, 1, 5]
def kx_zbi_0 : List Nat := butL 27 [4]
def fr_zbi_0 (e_1 : List V) (f_2 : Fl) (e_3 : List V) (f_4 : Fl) (x_5 : Int) : List V := mkF 0 27 [(0, .list 2 e_1 f_2), (1, .list 2 e_3 f_4), (5, .int .i64 x_5)]
def kk0_zbi_0 {R : Type} (K : X → List V → S → Option R) (e_1 : List V) (f_2 : Fl) (e_3 : List V) (f_4 : Fl) : Unit → Option R := (fun _ => K .ret (mkF 0 27 [(4, .bool false)]) [])
def kk1_zbi_0 {R : Type} (K : X → List V → S → Option R) (e_1 : List V) (f_2 : Fl) (e_3 : List V) (f_4 : Fl) : Unit → Option R := (fun _ => K (.exit 0) (mkF 0 27 []) [])
noncomputable abbrev it_zbi_0 {R : Type} (N : Nat) : Nat → List V → S → (X → List V → S → Option R) → Option R := fun n => iter C (Φ_zbu N) (noLooper) b_zbi_0 [0, 1, 0, 1, 1] false ks_zbi_0 kx_zbi_0 n R
theorem r_zbi_0 {R : Type} (N n : Nat) (e_1 : List V) (f_2 : Fl) (e_3 : List V) (f_4 : Fl) (x_5 : Int) (K : X → List V → S → Option R) :
  it_zbi_0 N (n + 1) (fr_zbi_0 e_1 f_2 e_3 f_4 x_5) [] K =
  l_zbi_0_step N e_1 f_2 e_3 f_4 (fun x_5 => it_zbi_0 N n (fr_zbi_0 e_1 f_2 e_3 f_4 x_5) [] K) x_5 (kk0_zbi_0 K e_1 f_2 e_3 f_4) (kk1_zbi_0 K e_1 f_2 e_3 f_4) := by kernel_rfl
theorem w_zbi_0 {R : Type} (N : Nat) (e_1 : List V) (f_2 : Fl) (e_3 : List V) (f_4 : Fl) (K : X → List V → S → Option R) : ∀ (n : Nat) (x_5 : Int),
  it_zbi_0 N n (fr_zbi_0 e_1 f_2 e_3 f_4 x_5) [] K = l_zbi_0 N e_1 f_2 e_3 f_4 (kk0_zbi_0 K e_1 f_2 e_3 f_4) (kk1_zbi_0 K e_1 f_2 e_3 f_4) n x_5
  | 0, _ => rfl
  | n + 1, x_5 => (r_zbi_0 N n e_1 f_2 e_3 f_4 x_5 K).trans (congrArg (fun nx => l_zbi_0_step N e_1 f_2 e_3 f_4 nx x_5 (kk0_zbi_0 K e_1 f_2 e_3 f_4) (kk1_zbi_0 K e_1 f_2 e_3 f_4)) (funext fun x_5 => w_zbi_0 N e_1 f_2 e_3 f_4 K n x_5))
def i_zbi_0 {R : Type} (E : List V) (s : S) (k : List V → Fl → List V → Fl → Int → Option R) : Option R :=
  guardB (frameOk 27 [0, 1, 5] E) <| atList E 0 2 fun e_1 f_2 => atList E 1 2 fun e_3 f_4 => atInt E 5 .i64 fun x_5 => asEnd s <| k e_1 f_2 e_3 f_4 x_5
theorem i_zbi_0_spec {R : Type} {E : List V} {s : S} {k : List V → Fl → List V → Fl → Int → Option R} {r : R} (h : i_zbi_0 E s k = some r) : ∃ e_1 f_2 e_3 f_4 x_5, E = fr_zbi_0 e_1 f_2 e_3 f_4 x_5 ∧ s = [] ∧ k e_1 f_2 e_3 f_4 x_5 = some r := by
  unfold i_zbi_0 at h
  obtain ⟨hg, h1⟩ := guardB_some h
  obtain ⟨_, _, hu0, h2⟩ := atList_some h1
  obtain ⟨_, _, hu1, h3⟩ := atList_some h2
  obtain ⟨_, hu5, h4⟩ := atInt_some h3
  obtain ⟨rfl, h5⟩ := asEnd_some h4
  exact ⟨_, _, _, _, _, frame_is hg rfl (slots_cons hu0 (slots_cons hu1 (slots_cons hu5 slots_nil))), rfl, h5⟩
noncomputable def Λ_zbi_0 (N : Nat) : Looper := (noLooper).add [0, 1, 0, 1, 1] fun _ E s K => i_zbi_0 (killE ks_zbi_0 E) s fun e_1 f_2 e_3 f_4 x_5 => l_zbi_0 N e_1 f_2 e_3 f_4 (kk0_zbi_0 K e_1 f_2 e_3 f_4) (kk1_zbi_0 K e_1 f_2 e_3 f_4) N x_5
theorem ok_zbi_0 {N : Nat} (hC : Ok Tryd.prog C) (hΦ : CalleeOk Tryd.prog C (Φ_zbu N)) : LoopOk Tryd.prog C (Λ_zbi_0 N) b_zbi_0 [0, 1, 0, 1, 1] :=
  iter_ok (Λi := noLooper) (tr := false) (ks := ks_zbi_0) (kx := kx_zbi_0) (N := N) hC hΦ
    (loopsOk_nil (by kernel_rfl))
    fun R E s K r h => by
      have h2 := Looper.add_self.symm.trans h
      obtain ⟨_, _, _, _, _, he, rfl, h3⟩ := i_zbi_0_spec h2
      rw [he]
      exact (w_zbi_0 N _ _ _ _ _ N _).trans h3
theorem at_zbi : loopsAt c_zbi [] = [([0, 1, 0, 1, 1], b_zbi_0)] := by kernel_rfl
theorem b_zbi {R : Type} (N : Nat) (e_1 : List V) (f_2 : Fl) (e_3 : List V) (f_4 : Fl) (K : V → S → Option R) : bodyV C (Φ_zbu N) (Λ_zbi_0 N) 74 Tryd.f74 [.list 2 e_1 f_2, .list 2 e_3 f_4] [] K =
  gb_zbi N e_1 f_2 e_3 f_4 (fun b_5 => K (.bool b_5) []) := by kernel_rfl
theorem loops_zbi {N : Nat} (hC : Ok Tryd.prog C) (hΦ : CalleeOk Tryd.prog C (Φ_zbu N)) : LoopsOk Tryd.prog C (Λ_zbi_0 N) c_zbi [] :=
  loopsOk_of c_zbi [] (by
    rw [at_zbi]
    intro p hp
    simp only [List.mem_cons, List.mem_nil_iff, or_false] at hp
    rcases hp with rfl
    · exact (ok_zbi_0 hC hΦ))
theorem callee_zbi (hC : Ok Tryd.prog C) {N : Nat} (hΦ : CalleeOk Tryd.prog C (Φ_zbu N)) : CalleeOk Tryd.prog C (Φ_zbi N) := by
  refine hΦ.add_pure rfl fun R vs K r h => ?_
  unfold f_zbi at h
  obtain ⟨_, _, rfl, h1⟩ := asN2_some h
  obtain ⟨_, _, rfl, h2⟩ := asList_some h1
  obtain ⟨_, _, rfl, h3⟩ := asList_some h2
  obtain ⟨_, h4⟩ := asEnd_some h3
  refine body_pure (fn := Tryd.f74) (c := c_zbi) hC hΦ Tryd.func74 (by kernel_rfl) (by kernel_rfl) (loops_zbi (N := N) hC hΦ) rfl rfl ?_
  refine (b_zbi N _ _ _ _ _).trans ?_
  rw [← g_zbi_eq]
  exact h4
noncomputable def f_zcp (N : Nat) : (R : Type) → List V → S → (V → S → Option R) → Option R := fun _ vs s K =>
  asN2 vs fun v'1 v'2 => un_impl_Node v'1 fun x_1 x_2 x_3 x_4 x_5 w_6 e_7 f_8 => un_impl_Node v'2 fun x_9 x_10 x_11 x_12 x_13 w_14 e_15 f_16 => asEnd s <| g_zcp N x_1 x_2 x_3 x_4 x_5 w_6 e_7 f_8 x_9 x_10 x_11 x_12 x_13 w_14 e_15 f_16 (fun b_17 => K (.bool b_17) [])
noncomputable def Φ_zcp (N : Nat) : Callee := (Φ_zbi N).add 48 (f_zcp N)
noncomputable def c_zcp : Code := bodyOf Tryd.f48
theorem b_zcp {R : Type} (N : Nat) (x_1 x_2 x_3 x_4 x_5 : Int) (w_6 : ByteArray) (e_7 : List V) (f_8 : Fl) (x_9 x_10 x_11 x_12 x_13 : Int) (w_14 : ByteArray) (e_15 : List V) (f_16 : Fl) (K : V → S → Option R) : bodyV C (Φ_zbi N) (noLooper) 48 Tryd.f48 [.agg [.int .i64 x_1, .int .i64 x_2, .int .i64 x_3, .int .i64 x_4, .int .i64 x_5, .str w_6, .list 2 e_7 f_8], .agg [.int .i64 x_9, .int .i64 x_10, .int .i64 x_11, .int .i64 x_12, .int .i64 x_13, .str w_14, .list 2 e_15 f_16]] [] K =
  gb_zcp N x_1 x_2 x_3 x_4 x_5 w_6 e_7 f_8 x_9 x_10 x_11 x_12 x_13 w_14 e_15 f_16 (fun b_17 => K (.bool b_17) []) := by kernel_rfl
theorem callee_zcp (hC : Ok Tryd.prog C) {N : Nat} (hΦ : CalleeOk Tryd.prog C (Φ_zbi N)) : CalleeOk Tryd.prog C (Φ_zcp N) := by
  refine hΦ.add_pure rfl fun R vs K r h => ?_
  unfold f_zcp at h
  obtain ⟨_, _, rfl, h1⟩ := asN2_some h
  obtain ⟨_, _, _, _, _, _, _, _, rfl, h2⟩ := un_impl_Node_some h1
  obtain ⟨_, _, _, _, _, _, _, _, rfl, h3⟩ := un_impl_Node_some h2
  obtain ⟨_, h4⟩ := asEnd_some h3
  refine body_pure (fn := Tryd.f48) (c := c_zcp) hC hΦ Tryd.func48 (by kernel_rfl) (by kernel_rfl) (loopsOk_nil (Λ := noLooper) (by kernel_rfl)) rfl rfl ?_
  refine (b_zcp N _ _ _ _ _ _ _ _ _ _ _ _ _ _ _ _ _).trans ?_
  rw [← g_zcp_eq]
  exact h4
noncomputable def f_zbv (N : Nat) : (R : Type) → List V → S → (V → S → Option R) → Option R := fun _ vs s K =>
  asN2 vs fun v'1 v'2 => asList 7 v'1 fun e_1 f_2 => asList 7 v'2 fun e_3 f_4 => asEnd s <| g_zbv N e_1 f_2 e_3 f_4 (fun b_5 => K (.bool b_5) [])
noncomputable def Φ_zbv (N : Nat) : Callee := (Φ_zcp N).add 26 (f_zbv N)
noncomputable def c_zbv : Code := bodyOf Tryd.f26
noncomputable def b_zbv_0 : Code := (loopNo c_zbv [] 0).2
def ks_zbv_0 : List Nat := butL 27 [0, 1, 5]
def kx_zbv_0 : List Nat := butL 27 [4]
def fr_zbv_0 (e_1 : List V) (f_2 : Fl) (e_3 : List V) (f_4 : Fl) (x_5 : Int) : List V := mkF 0 27 [(0, .list 7 e_1 f_2), (1, .list 7 e_3 f_4), (5, .int .i64 x_5)]
def kk0_zbv_0 {R : Type} (K : X → List V → S → Option R) (e_1 : List V) (f_2 : Fl) (e_3 : List V) (f_4 : Fl) : Unit → Option R := (fun _ => K .ret (mkF 0 27 [(4, .bool false)]) [])
def kk1_zbv_0 {R : Type} (K : X → List V → S → Option R) (e_1 : List V) (f_2 : Fl) (e_3 : List V) (f_4 : Fl) : Unit → Option R := (fun _ => K (.exit 0) (mkF 0 27 []) [])
noncomputable abbrev it_zbv_0 {R : Type} (N : Nat) : Nat → List V → S → (X → List V → S → Option R) → Option R := fun n => iter C (Φ_zcp N) (noLooper) b_zbv_0 [0, 1, 0, 1, 1] false ks_zbv_0 kx_zbv_0 n R
theorem r_zbv_0 {R : Type} (N n : Nat) (e_1 : List V) (f_2 : Fl) (e_3 : List V) (f_4 : Fl) (x_5 : Int) (K : X → List V → S → Option R) :
  it_zbv_0 N (n + 1) (fr_zbv_0 e_1 f_2 e_3 f_4 x_5) [] K =
  l_zbv_0_step N e_1 f_2 e_3 f_4 (fun x_5 => it_zbv_0 N n (fr_zbv_0 e_1 f_2 e_3 f_4 x_5) [] K) x_5 (kk0_zbv_0 K e_1 f_2 e_3 f_4) (kk1_zbv_0 K e_1 f_2 e_3 f_4) := by kernel_rfl
theorem w_zbv_0 {R : Type} (N : Nat) (e_1 : List V) (f_2 : Fl) (e_3 : List V) (f_4 : Fl) (K : X → List V → S → Option R) : ∀ (n : Nat) (x_5 : Int),
  it_zbv_0 N n (fr_zbv_0 e_1 f_2 e_3 f_4 x_5) [] K = l_zbv_0 N e_1 f_2 e_3 f_4 (kk0_zbv_0 K e_1 f_2 e_3 f_4) (kk1_zbv_0 K e_1 f_2 e_3 f_4) n x_5
  | 0, _ => rfl
  | n + 1, x_5 => (r_zbv_0 N n e_1 f_2 e_3 f_4 x_5 K).trans (congrArg (fun nx => l_zbv_0_step N e_1 f_2 e_3 f_4 nx x_5 (kk0_zbv_0 K e_1 f_2 e_3 f_4) (kk1_zbv_0 K e_1 f_2 e_3 f_4)) (funext fun x_5 => w_zbv_0 N e_1 f_2 e_3 f_4 K n x_5))
def i_zbv_0 {R : Type} (E : List V) (s : S) (k : List V → Fl → List V → Fl → Int → Option R) : Option R :=
  guardB (frameOk 27 [0, 1, 5] E) <| atList E 0 7 fun e_1 f_2 => atList E 1 7 fun e_3 f_4 => atInt E 5 .i64 fun x_5 => asEnd s <| k e_1 f_2 e_3 f_4 x_5
theorem i_zbv_0_spec {R : Type} {E : List V} {s : S} {k : List V → Fl → List V → Fl → Int → Option R} {r : R} (h : i_zbv_0 E s k = some r) : ∃ e_1 f_2 e_3 f_4 x_5, E = fr_zbv_0 e_1 f_2 e_3 f_4 x_5 ∧ s = [] ∧ k e_1 f_2 e_3 f_4 x_5 = some r := by
  unfold i_zbv_0 at h
  obtain ⟨hg, h1⟩ := guardB_some h
  obtain ⟨_, _, hu0, h2⟩ := atList_some h1
  obtain ⟨_, _, hu1, h3⟩ := atList_some h2
  obtain ⟨_, hu5, h4⟩ := atInt_some h3
  obtain ⟨rfl, h5⟩ := asEnd_some h4
  exact ⟨_, _, _, _, _, frame_is hg rfl (slots_cons hu0 (slots_cons hu1 (slots_cons hu5 slots_nil))), rfl, h5⟩
noncomputable def Λ_zbv_0 (N : Nat) : Looper := (noLooper).add [0, 1, 0, 1, 1] fun _ E s K => i_zbv_0 (killE ks_zbv_0 E) s fun e_1 f_2 e_3 f_4 x_5 => l_zbv_0 N e_1 f_2 e_3 f_4 (kk0_zbv_0 K e_1 f_2 e_3 f_4) (kk1_zbv_0 K e_1 f_2 e_3 f_4) N x_5
theorem ok_zbv_0 {N : Nat} (hC : Ok Tryd.prog C) (hΦ : CalleeOk Tryd.prog C (Φ_zcp N)) : LoopOk Tryd.prog C (Λ_zbv_0 N) b_zbv_0 [0, 1, 0, 1, 1] :=
  iter_ok (Λi := noLooper) (tr := false) (ks := ks_zbv_0) (kx := kx_zbv_0) (N := N) hC hΦ
    (loopsOk_nil (by kernel_rfl))
    fun R E s K r h => by
      have h2 := Looper.add_self.symm.trans h
      obtain ⟨_, _, _, _, _, he, rfl, h3⟩ := i_zbv_0_spec h2
      rw [he]
      exact (w_zbv_0 N _ _ _ _ _ N _).trans h3
theorem at_zbv : loopsAt c_zbv [] = [([0, 1, 0, 1, 1], b_zbv_0)] := by kernel_rfl
theorem b_zbv {R : Type} (N : Nat) (e_1 : List V) (f_2 : Fl) (e_3 : List V) (f_4 : Fl) (K : V → S → Option R) : bodyV C (Φ_zcp N) (Λ_zbv_0 N) 26 Tryd.f26 [.list 7 e_1 f_2, .list 7 e_3 f_4] [] K =
  gb_zbv N e_1 f_2 e_3 f_4 (fun b_5 => K (.bool b_5) []) := by kernel_rfl
theorem loops_zbv {N : Nat} (hC : Ok Tryd.prog C) (hΦ : CalleeOk Tryd.prog C (Φ_zcp N)) : LoopsOk Tryd.prog C (Λ_zbv_0 N) c_zbv [] :=
  loopsOk_of c_zbv [] (by
    rw [at_zbv]
    intro p hp
    simp only [List.mem_cons, List.mem_nil_iff, or_false] at hp
    rcases hp with rfl
    · exact (ok_zbv_0 hC hΦ))
theorem callee_zbv (hC : Ok Tryd.prog C) {N : Nat} (hΦ : CalleeOk Tryd.prog C (Φ_zcp N)) : CalleeOk Tryd.prog C (Φ_zbv N) := by
  refine hΦ.add_pure rfl fun R vs K r h => ?_
  unfold f_zbv at h
  obtain ⟨_, _, rfl, h1⟩ := asN2_some h
  obtain ⟨_, _, rfl, h2⟩ := asList_some h1
  obtain ⟨_, _, rfl, h3⟩ := asList_some h2
  obtain ⟨_, h4⟩ := asEnd_some h3
  refine body_pure (fn := Tryd.f26) (c := c_zbv) hC hΦ Tryd.func26 (by kernel_rfl) (by kernel_rfl) (loops_zbv (N := N) hC hΦ) rfl rfl ?_
  refine (b_zbv N _ _ _ _ _).trans ?_
  rw [← g_zbv_eq]
  exact h4
noncomputable def f_zdj (N : Nat) : (R : Type) → List V → S → (V → S → Option R) → Option R := fun _ vs s K =>
  asN2 vs fun v'1 v'2 => un_impl_Fs v'1 fun e_1 f_2 x_3 => un_impl_Fs v'2 fun e_4 f_5 x_6 => asEnd s <| g_zdj N e_1 f_2 x_3 e_4 f_5 x_6 (fun b_7 => K (.bool b_7) [])
noncomputable def Φ_zdj (N : Nat) : Callee := (Φ_zbv N).add 12 (f_zdj N)
noncomputable def c_zdj : Code := bodyOf Tryd.f12
theorem b_zdj {R : Type} (N : Nat) (e_1 : List V) (f_2 : Fl) (x_3 : Int) (e_4 : List V) (f_5 : Fl) (x_6 : Int) (K : V → S → Option R) : bodyV C (Φ_zbv N) (noLooper) 12 Tryd.f12 [.agg [.list 7 e_1 f_2, .int .i64 x_3], .agg [.list 7 e_4 f_5, .int .i64 x_6]] [] K =
  gb_zdj N e_1 f_2 x_3 e_4 f_5 x_6 (fun b_7 => K (.bool b_7) []) := by kernel_rfl
theorem callee_zdj (hC : Ok Tryd.prog C) {N : Nat} (hΦ : CalleeOk Tryd.prog C (Φ_zbv N)) : CalleeOk Tryd.prog C (Φ_zdj N) := by
  refine hΦ.add_pure rfl fun R vs K r h => ?_
  unfold f_zdj at h
  obtain ⟨_, _, rfl, h1⟩ := asN2_some h
  obtain ⟨_, _, _, rfl, h2⟩ := un_impl_Fs_some h1
  obtain ⟨_, _, _, rfl, h3⟩ := un_impl_Fs_some h2
  obtain ⟨_, h4⟩ := asEnd_some h3
  refine body_pure (fn := Tryd.f12) (c := c_zdj) hC hΦ Tryd.func12 (by kernel_rfl) (by kernel_rfl) (loopsOk_nil (Λ := noLooper) (by kernel_rfl)) rfl rfl ?_
  refine (b_zdj N _ _ _ _ _ _ _).trans ?_
  rw [← g_zdj_eq]
  exact h4
noncomputable def f_zce (N : Nat) : (R : Type) → List V → S → (V → S → Option R) → Option R := fun _ vs s K =>
  asN2 vs fun v'1 v'2 => un_impl_Fs v'1 fun e_1 f_2 x_3 => asInt .i64 v'2 fun x_4 => asEnd s <| g_zce N e_1 f_2 x_3 x_4 (fun x_5 => K (.int .i64 x_5) [])
noncomputable def Φ_zce (N : Nat) : Callee := (Φ_zdj N).add 50 (f_zce N)
noncomputable def c_zce : Code := bodyOf Tryd.f50
noncomputable def b_zce_1 : Code := (loopNo c_zce [] 0).2
noncomputable def b_zce_0 : Code := (loopNo b_zce_1 (0 :: [0, 1, 0, 1, 1]) 0).2
def ks_zce_0 : List Nat := butL 33 [1, 5, 11, 12, 13, 18, 19, 20]
def kx_zce_0 : List Nat := butL 33 [1, 5, 11, 12, 13]
def fr_zce_0 (x_1 : Int) (e_3 : List V) (f_4 : Fl) (x_5 x_6 : Int) (e_7 : List V) (f_8 : Fl) (x_9 : Int) (e_11 : List V) (f_12 : Fl) (x_13 x_14 x_15 x_16 x_17 x_18 : Int) (w_19 : ByteArray) (e_20 : List V) (f_21 : Fl) (x_2 x_10 : Int) : List V := mkF 0 33 [(1, .int .i64 x_1), (5, .int .i64 x_2), (11, .list 7 e_3 f_4), (12, .int .i64 x_5), (13, .int .i64 x_6), (18, .list 2 e_7 f_8), (19, .int .i64 x_9), (20, .int .i64 x_10)]
def kk0_zce_0 {R : Type} (K : X → List V → S → Option R) (x_1 : Int) (e_3 : List V) (f_4 : Fl) (x_5 : Int) (x_6 : Int) (e_7 : List V) (f_8 : Fl) (x_9 : Int) (e_11 : List V) (f_12 : Fl) (x_13 : Int) (x_14 : Int) (x_15 : Int) (x_16 : Int) (x_17 : Int) (x_18 : Int) (w_19 : ByteArray) (e_20 : List V) (f_21 : Fl) : Int → Option R := (fun x_1' => K (.exit 2) (mkF 0 33 [(1, .int .i64 x_1), (5, .int .i64 (x_1')), (11, .list 7 e_3 f_4), (12, .int .i64 x_5), (13, .int .i64 x_6)]) [some ⟨[.agg [.list 7 e_11 f_12, .int .i64 x_13]], 2, 32, 0⟩, some ⟨[.agg [.int .i64 x_14, .int .i64 x_15, .int .i64 x_16, .int .i64 x_17, .int .i64 x_18, .str w_19, .list 2 e_20 f_21]], 7, 55, 0⟩])
noncomputable abbrev it_zce_0 {R : Type} (N : Nat) : Nat → List V → S → (X → List V → S → Option R) → Option R := fun n => iter C (Φ_zdj N) (noLooper) b_zce_0 [0, 1, 1, 0, 0, 1, 1, 0, 0, 1, 0, 1, 1] true ks_zce_0 kx_zce_0 n R
theorem r_zce_0 {R : Type} (N n : Nat) (x_1 : Int) (e_3 : List V) (f_4 : Fl) (x_5 x_6 : Int) (e_7 : List V) (f_8 : Fl) (x_9 : Int) (e_11 : List V) (f_12 : Fl) (x_13 x_14 x_15 x_16 x_17 x_18 : Int) (w_19 : ByteArray) (e_20 : List V) (f_21 : Fl) (x_2 x_10 : Int) (K : X → List V → S → Option R) :
  it_zce_0 N (n + 1) (fr_zce_0 x_1 e_3 f_4 x_5 x_6 e_7 f_8 x_9 e_11 f_12 x_13 x_14 x_15 x_16 x_17 x_18 w_19 e_20 f_21 x_2 x_10) [some ⟨[.agg [.list 7 e_11 f_12, .int .i64 x_13]], 2, 32, 0⟩, some ⟨[.agg [.int .i64 x_14, .int .i64 x_15, .int .i64 x_16, .int .i64 x_17, .int .i64 x_18, .str w_19, .list 2 e_20 f_21]], 7, 55, 0⟩] K =
  l_zce_0_step N x_1 e_3 f_4 x_5 x_6 e_7 f_8 x_9 e_11 f_12 x_13 x_14 x_15 x_16 x_17 x_18 w_19 e_20 f_21 (fun x_2 x_10 => it_zce_0 N n (fr_zce_0 x_1 e_3 f_4 x_5 x_6 e_7 f_8 x_9 e_11 f_12 x_13 x_14 x_15 x_16 x_17 x_18 w_19 e_20 f_21 x_2 x_10) [some ⟨[.agg [.list 7 e_11 f_12, .int .i64 x_13]], 2, 32, 0⟩, some ⟨[.agg [.int .i64 x_14, .int .i64 x_15, .int .i64 x_16, .int .i64 x_17, .int .i64 x_18, .str w_19, .list 2 e_20 f_21]], 7, 55, 0⟩] K) x_2 x_10 (kk0_zce_0 K x_1 e_3 f_4 x_5 x_6 e_7 f_8 x_9 e_11 f_12 x_13 x_14 x_15 x_16 x_17 x_18 w_19 e_20 f_21) := by kernel_rfl
theorem w_zce_0 {R : Type} (N : Nat) (x_1 : Int) (e_3 : List V) (f_4 : Fl) (x_5 x_6 : Int) (e_7 : List V) (f_8 : Fl) (x_9 : Int) (e_11 : List V) (f_12 : Fl) (x_13 x_14 x_15 x_16 x_17 x_18 : Int) (w_19 : ByteArray) (e_20 : List V) (f_21 : Fl) (K : X → List V → S → Option R) : ∀ (n : Nat) (x_2 x_10 : Int),
  it_zce_0 N n (fr_zce_0 x_1 e_3 f_4 x_5 x_6 e_7 f_8 x_9 e_11 f_12 x_13 x_14 x_15 x_16 x_17 x_18 w_19 e_20 f_21 x_2 x_10) [some ⟨[.agg [.list 7 e_11 f_12, .int .i64 x_13]], 2, 32, 0⟩, some ⟨[.agg [.int .i64 x_14, .int .i64 x_15, .int .i64 x_16, .int .i64 x_17, .int .i64 x_18, .str w_19, .list 2 e_20 f_21]], 7, 55, 0⟩] K = l_zce_0 N x_1 e_3 f_4 x_5 x_6 e_7 f_8 x_9 e_11 f_12 x_13 x_14 x_15 x_16 x_17 x_18 w_19 e_20 f_21 (kk0_zce_0 K x_1 e_3 f_4 x_5 x_6 e_7 f_8 x_9 e_11 f_12 x_13 x_14 x_15 x_16 x_17 x_18 w_19 e_20 f_21) n x_2 x_10
  | 0, _, _ => rfl
  | n + 1, x_2, x_10 => (r_zce_0 N n x_1 e_3 f_4 x_5 x_6 e_7 f_8 x_9 e_11 f_12 x_13 x_14 x_15 x_16 x_17 x_18 w_19 e_20 f_21 x_2 x_10 K).trans (congrArg (fun nx => l_zce_0_step N x_1 e_3 f_4 x_5 x_6 e_7 f_8 x_9 e_11 f_12 x_13 x_14 x_15 x_16 x_17 x_18 w_19 e_20 f_21 nx x_2 x_10 (kk0_zce_0 K x_1 e_3 f_4 x_5 x_6 e_7 f_8 x_9 e_11 f_12 x_13 x_14 x_15 x_16 x_17 x_18 w_19 e_20 f_21)) (funext fun x_2 => funext fun x_10 => w_zce_0 N x_1 e_3 f_4 x_5 x_6 e_7 f_8 x_9 e_11 f_12 x_13 x_14 x_15 x_16 x_17 x_18 w_19 e_20 f_21 K n x_2 x_10))
def i_zce_0 {R : Type} (E : List V) (s : S) (k : Int → Int → List V → Fl → Int → Int → List V → Fl → Int → Int → List V → Fl → Int → Int → Int → Int → Int → Int → ByteArray → List V → Fl → Option R) : Option R :=
  guardB (frameOk 33 [1, 5, 11, 12, 13, 18, 19, 20] E) <| atInt E 1 .i64 fun x_1 => atInt E 5 .i64 fun x_2 => atList E 11 7 fun e_3 f_4 => atInt E 12 .i64 fun x_5 => atInt E 13 .i64 fun x_6 => atList E 18 2 fun e_7 f_8 => atInt E 19 .i64 fun x_9 => atInt E 20 .i64 fun x_10 => asOb s fun o'1 s'2 => obIs o'1 2 32 fun e'3 k'4 => isN k'4 0 <| asN1 e'3 fun v'5 => asAgg v'5 fun c'6 => asN2 c'6 fun v'7 v'8 => asList 7 v'7 fun e_11 f_12 => asInt .i64 v'8 fun x_13 => asOb s'2 fun o'9 s'10 => obIs o'9 7 55 fun e'11 k'12 => isN k'12 0 <| asN1 e'11 fun v'13 => asAgg v'13 fun c'14 => asN7 c'14 fun v'15 v'16 v'17 v'18 v'19 v'20 v'21 => asInt .i64 v'15 fun x_14 => asInt .i64 v'16 fun x_15 => asInt .i64 v'17 fun x_16 => asInt .i64 v'18 fun x_17 => asInt .i64 v'19 fun x_18 => asStr v'20 fun w_19 => asList 2 v'21 fun e_20 f_21 => asEnd s'10 <| k x_1 x_2 e_3 f_4 x_5 x_6 e_7 f_8 x_9 x_10 e_11 f_12 x_13 x_14 x_15 x_16 x_17 x_18 w_19 e_20 f_21
theorem i_zce_0_spec {R : Type} {E : List V} {s : S} {k : Int → Int → List V → Fl → Int → Int → List V → Fl → Int → Int → List V → Fl → Int → Int → Int → Int → Int → Int → ByteArray → List V → Fl → Option R} {r : R} (h : i_zce_0 E s k = some r) : ∃ x_1 x_2 e_3 f_4 x_5 x_6 e_7 f_8 x_9 x_10 e_11 f_12 x_13 x_14 x_15 x_16 x_17 x_18 w_19 e_20 f_21, E = fr_zce_0 x_1 e_3 f_4 x_5 x_6 e_7 f_8 x_9 e_11 f_12 x_13 x_14 x_15 x_16 x_17 x_18 w_19 e_20 f_21 x_2 x_10 ∧ s = [some ⟨[.agg [.list 7 e_11 f_12, .int .i64 x_13]], 2, 32, 0⟩, some ⟨[.agg [.int .i64 x_14, .int .i64 x_15, .int .i64 x_16, .int .i64 x_17, .int .i64 x_18, .str w_19, .list 2 e_20 f_21]], 7, 55, 0⟩] ∧ k x_1 x_2 e_3 f_4 x_5 x_6 e_7 f_8 x_9 x_10 e_11 f_12 x_13 x_14 x_15 x_16 x_17 x_18 w_19 e_20 f_21 = some r := by
  unfold i_zce_0 at h
  obtain ⟨hg, h1⟩ := guardB_some h
  obtain ⟨_, hu1, h2⟩ := atInt_some h1
  obtain ⟨_, hu5, h3⟩ := atInt_some h2
  obtain ⟨_, _, hu11, h4⟩ := atList_some h3
  obtain ⟨_, hu12, h5⟩ := atInt_some h4
  obtain ⟨_, hu13, h6⟩ := atInt_some h5
  obtain ⟨_, _, hu18, h7⟩ := atList_some h6
  obtain ⟨_, hu19, h8⟩ := atInt_some h7
  obtain ⟨_, hu20, h9⟩ := atInt_some h8
  obtain ⟨_, _, rfl, h10⟩ := asOb_some h9
  obtain ⟨_, _, rfl, h11⟩ := obIs_some h10
  obtain ⟨rfl, h12⟩ := isN_some h11
  obtain ⟨_, rfl, h13⟩ := asN1_some h12
  obtain ⟨_, rfl, h14⟩ := asAgg_some h13
  obtain ⟨_, _, rfl, h15⟩ := asN2_some h14
  obtain ⟨_, _, rfl, h16⟩ := asList_some h15
  obtain ⟨_, rfl, h17⟩ := asInt_some h16
  obtain ⟨_, _, rfl, h18⟩ := asOb_some h17
  obtain ⟨_, _, rfl, h19⟩ := obIs_some h18
  obtain ⟨rfl, h20⟩ := isN_some h19
  obtain ⟨_, rfl, h21⟩ := asN1_some h20
  obtain ⟨_, rfl, h22⟩ := asAgg_some h21
  obtain ⟨_, _, _, _, _, _, _, rfl, h23⟩ := asN7_some h22
  obtain ⟨_, rfl, h24⟩ := asInt_some h23
  obtain ⟨_, rfl, h25⟩ := asInt_some h24
  obtain ⟨_, rfl, h26⟩ := asInt_some h25
  obtain ⟨_, rfl, h27⟩ := asInt_some h26
  obtain ⟨_, rfl, h28⟩ := asInt_some h27
  obtain ⟨_, rfl, h29⟩ := asStr_some h28
  obtain ⟨_, _, rfl, h30⟩ := asList_some h29
  obtain ⟨rfl, h31⟩ := asEnd_some h30
  exact ⟨_, _, _, _, _, _, _, _, _, _, _, _, _, _, _, _, _, _, _, _, _, frame_is hg rfl (slots_cons hu1 (slots_cons hu5 (slots_cons hu11 (slots_cons hu12 (slots_cons hu13 (slots_cons hu18 (slots_cons hu19 (slots_cons hu20 slots_nil)))))))), rfl, h31⟩
noncomputable def Λ_zce_0 (N : Nat) : Looper := (noLooper).add [0, 1, 1, 0, 0, 1, 1, 0, 0, 1, 0, 1, 1] fun _ E s K => i_zce_0 (killE ks_zce_0 E) s fun x_1 x_2 e_3 f_4 x_5 x_6 e_7 f_8 x_9 x_10 e_11 f_12 x_13 x_14 x_15 x_16 x_17 x_18 w_19 e_20 f_21 => l_zce_0 N x_1 e_3 f_4 x_5 x_6 e_7 f_8 x_9 e_11 f_12 x_13 x_14 x_15 x_16 x_17 x_18 w_19 e_20 f_21 (kk0_zce_0 K x_1 e_3 f_4 x_5 x_6 e_7 f_8 x_9 e_11 f_12 x_13 x_14 x_15 x_16 x_17 x_18 w_19 e_20 f_21) N x_2 x_10
theorem ok_zce_0 {N : Nat} (hC : Ok Tryd.prog C) (hΦ : CalleeOk Tryd.prog C (Φ_zdj N)) : LoopOk Tryd.prog C (Λ_zce_0 N) b_zce_0 [0, 1, 1, 0, 0, 1, 1, 0, 0, 1, 0, 1, 1] :=
  iter_ok (Λi := noLooper) (tr := true) (ks := ks_zce_0) (kx := kx_zce_0) (N := N) hC hΦ
    (loopsOk_nil (by kernel_rfl))
    fun R E s K r h => by
      have h2 := Looper.add_self.symm.trans h
      obtain ⟨_, _, _, _, _, _, _, _, _, _, _, _, _, _, _, _, _, _, _, _, _, he, rfl, h3⟩ := i_zce_0_spec h2
      rw [he]
      exact (w_zce_0 N _ _ _ _ _ _ _ _ _ _ _ _ _ _ _ _ _ _ _ _ N _ _).trans h3
def ks_zce_1 : List Nat := butL 33 [1, 5, 11, 12, 13]
def kx_zce_1 : List Nat := butL 33 [5]
def fr_zce_1 (x_1 : Int) (e_3 : List V) (f_4 : Fl) (x_5 : Int) (e_7 : List V) (f_8 : Fl) (x_9 x_2 x_6 : Int) : List V := mkF 0 33 [(1, .int .i64 x_1), (5, .int .i64 x_2), (11, .list 7 e_3 f_4), (12, .int .i64 x_5), (13, .int .i64 x_6)]
def kk0_zce_1 {R : Type} (K : X → List V → S → Option R) (x_1 : Int) (e_3 : List V) (f_4 : Fl) (x_5 : Int) (e_7 : List V) (f_8 : Fl) (x_9 : Int) : Int → Option R := (fun x_1' => K (.exit 0) (mkF 0 33 [(5, .int .i64 (x_1'))]) [some ⟨[.agg [.list 7 e_7 f_8, .int .i64 x_9]], 2, 32, 0⟩])
noncomputable abbrev it_zce_1 {R : Type} (N : Nat) : Nat → List V → S → (X → List V → S → Option R) → Option R := fun n => iter C (Φ_zdj N) (Λ_zce_0 N) b_zce_1 [0, 1, 0, 1, 1] true ks_zce_1 kx_zce_1 n R
theorem r_zce_1 {R : Type} (N n : Nat) (x_1 : Int) (e_3 : List V) (f_4 : Fl) (x_5 : Int) (e_7 : List V) (f_8 : Fl) (x_9 : Int) (x_2 x_6 : Int) (K : X → List V → S → Option R) :
  it_zce_1 N (n + 1) (fr_zce_1 x_1 e_3 f_4 x_5 e_7 f_8 x_9 x_2 x_6) [some ⟨[.agg [.list 7 e_7 f_8, .int .i64 x_9]], 2, 32, 0⟩] K =
  l_zce_1_step N x_1 e_3 f_4 x_5 e_7 f_8 x_9 (fun x_2 x_6 => it_zce_1 N n (fr_zce_1 x_1 e_3 f_4 x_5 e_7 f_8 x_9 x_2 x_6) [some ⟨[.agg [.list 7 e_7 f_8, .int .i64 x_9]], 2, 32, 0⟩] K) x_2 x_6 (kk0_zce_1 K x_1 e_3 f_4 x_5 e_7 f_8 x_9) := by kernel_rfl
theorem w_zce_1 {R : Type} (N : Nat) (x_1 : Int) (e_3 : List V) (f_4 : Fl) (x_5 : Int) (e_7 : List V) (f_8 : Fl) (x_9 : Int) (K : X → List V → S → Option R) : ∀ (n : Nat) (x_2 x_6 : Int),
  it_zce_1 N n (fr_zce_1 x_1 e_3 f_4 x_5 e_7 f_8 x_9 x_2 x_6) [some ⟨[.agg [.list 7 e_7 f_8, .int .i64 x_9]], 2, 32, 0⟩] K = l_zce_1 N x_1 e_3 f_4 x_5 e_7 f_8 x_9 (kk0_zce_1 K x_1 e_3 f_4 x_5 e_7 f_8 x_9) n x_2 x_6
  | 0, _, _ => rfl
  | n + 1, x_2, x_6 => (r_zce_1 N n x_1 e_3 f_4 x_5 e_7 f_8 x_9 x_2 x_6 K).trans (congrArg (fun nx => l_zce_1_step N x_1 e_3 f_4 x_5 e_7 f_8 x_9 nx x_2 x_6 (kk0_zce_1 K x_1 e_3 f_4 x_5 e_7 f_8 x_9)) (funext fun x_2 => funext fun x_6 => w_zce_1 N x_1 e_3 f_4 x_5 e_7 f_8 x_9 K n x_2 x_6))
def i_zce_1 {R : Type} (E : List V) (s : S) (k : Int → Int → List V → Fl → Int → Int → List V → Fl → Int → Option R) : Option R :=
  guardB (frameOk 33 [1, 5, 11, 12, 13] E) <| atInt E 1 .i64 fun x_1 => atInt E 5 .i64 fun x_2 => atList E 11 7 fun e_3 f_4 => atInt E 12 .i64 fun x_5 => atInt E 13 .i64 fun x_6 => asOb s fun o'1 s'2 => obIs o'1 2 32 fun e'3 k'4 => isN k'4 0 <| asN1 e'3 fun v'5 => asAgg v'5 fun c'6 => asN2 c'6 fun v'7 v'8 => asList 7 v'7 fun e_7 f_8 => asInt .i64 v'8 fun x_9 => asEnd s'2 <| k x_1 x_2 e_3 f_4 x_5 x_6 e_7 f_8 x_9
theorem i_zce_1_spec {R : Type} {E : List V} {s : S} {k : Int → Int → List V → Fl → Int → Int → List V → Fl → Int → Option R} {r : R} (h : i_zce_1 E s k = some r) : ∃ x_1 x_2 e_3 f_4 x_5 x_6 e_7 f_8 x_9, E = fr_zce_1 x_1 e_3 f_4 x_5 e_7 f_8 x_9 x_2 x_6 ∧ s = [some ⟨[.agg [.list 7 e_7 f_8, .int .i64 x_9]], 2, 32, 0⟩] ∧ k x_1 x_2 e_3 f_4 x_5 x_6 e_7 f_8 x_9 = some r := by
  unfold i_zce_1 at h
  obtain ⟨hg, h1⟩ := guardB_some h
  obtain ⟨_, hu1, h2⟩ := atInt_some h1
  obtain ⟨_, hu5, h3⟩ := atInt_some h2
  obtain ⟨_, _, hu11, h4⟩ := atList_some h3
  obtain ⟨_, hu12, h5⟩ := atInt_some h4
  obtain ⟨_, hu13, h6⟩ := atInt_some h5
  obtain ⟨_, _, rfl, h7⟩ := asOb_some h6
  obtain ⟨_, _, rfl, h8⟩ := obIs_some h7
  obtain ⟨rfl, h9⟩ := isN_some h8
  obtain ⟨_, rfl, h10⟩ := asN1_some h9
  obtain ⟨_, rfl, h11⟩ := asAgg_some h10
  obtain ⟨_, _, rfl, h12⟩ := asN2_some h11
  obtain ⟨_, _, rfl, h13⟩ := asList_some h12
  obtain ⟨_, rfl, h14⟩ := asInt_some h13
  obtain ⟨rfl, h15⟩ := asEnd_some h14
  exact ⟨_, _, _, _, _, _, _, _, _, frame_is hg rfl (slots_cons hu1 (slots_cons hu5 (slots_cons hu11 (slots_cons hu12 (slots_cons hu13 slots_nil))))), rfl, h15⟩
noncomputable def Λ_zce_1 (N : Nat) : Looper := (Λ_zce_0 N).add [0, 1, 0, 1, 1] fun _ E s K => i_zce_1 (killE ks_zce_1 E) s fun x_1 x_2 e_3 f_4 x_5 x_6 e_7 f_8 x_9 => l_zce_1 N x_1 e_3 f_4 x_5 e_7 f_8 x_9 (kk0_zce_1 K x_1 e_3 f_4 x_5 e_7 f_8 x_9) N x_2 x_6
theorem in_zce_1 : loopsAt b_zce_1 (0 :: [0, 1, 0, 1, 1]) = [([0, 1, 1, 0, 0, 1, 1, 0, 0, 1, 0, 1, 1], b_zce_0)] := by kernel_rfl
theorem ok_zce_1 {N : Nat} (hC : Ok Tryd.prog C) (hΦ : CalleeOk Tryd.prog C (Φ_zdj N)) : LoopOk Tryd.prog C (Λ_zce_1 N) b_zce_1 [0, 1, 0, 1, 1] :=
  iter_ok (Λi := Λ_zce_0 N) (tr := true) (ks := ks_zce_1) (kx := kx_zce_1) (N := N) hC hΦ
    (loopsOk_of b_zce_1 _ (by
      rw [in_zce_1]
      intro p hp
      simp only [List.mem_cons, List.mem_nil_iff, or_false] at hp
      rcases hp with rfl
      · exact (ok_zce_0 hC hΦ)))
    fun R E s K r h => by
      have h2 := Looper.add_self.symm.trans h
      obtain ⟨_, _, _, _, _, _, _, _, _, he, rfl, h3⟩ := i_zce_1_spec h2
      rw [he]
      exact (w_zce_1 N _ _ _ _ _ _ _ _ N _ _).trans h3
theorem at_zce : loopsAt c_zce [] = [([0, 1, 0, 1, 1], b_zce_1)] := by kernel_rfl
theorem b_zce {R : Type} (N : Nat) (e_1 : List V) (f_2 : Fl) (x_3 x_4 : Int) (K : V → S → Option R) : bodyV C (Φ_zdj N) (Λ_zce_1 N) 50 Tryd.f50 [.agg [.list 7 e_1 f_2, .int .i64 x_3], .int .i64 x_4] [] K =
  gb_zce N e_1 f_2 x_3 x_4 (fun x_5 => K (.int .i64 x_5) []) := by kernel_rfl
theorem loops_zce {N : Nat} (hC : Ok Tryd.prog C) (hΦ : CalleeOk Tryd.prog C (Φ_zdj N)) : LoopsOk Tryd.prog C (Λ_zce_1 N) c_zce [] :=
  loopsOk_of c_zce [] (by
    rw [at_zce]
    intro p hp
    simp only [List.mem_cons, List.mem_nil_iff, or_false] at hp
    rcases hp with rfl
    · exact (ok_zce_1 hC hΦ))
theorem callee_zce (hC : Ok Tryd.prog C) {N : Nat} (hΦ : CalleeOk Tryd.prog C (Φ_zdj N)) : CalleeOk Tryd.prog C (Φ_zce N) := by
  refine hΦ.add_pure rfl fun R vs K r h => ?_
  unfold f_zce at h
  obtain ⟨_, _, rfl, h1⟩ := asN2_some h
  obtain ⟨_, _, _, rfl, h2⟩ := un_impl_Fs_some h1
  obtain ⟨_, rfl, h3⟩ := asInt_some h2
  obtain ⟨_, h4⟩ := asEnd_some h3
  refine body_pure (fn := Tryd.f50) (c := c_zce) hC hΦ Tryd.func50 (by kernel_rfl) (by kernel_rfl) (loops_zce (N := N) hC hΦ) rfl rfl ?_
  refine (b_zce N _ _ _ _ _).trans ?_
  rw [← g_zce_eq]
  exact h4
noncomputable def f_zdm (N : Nat) : (R : Type) → List V → S → (V → S → Option R) → Option R := fun _ vs s K =>
  asN3 vs fun v'1 v'2 v'3 => asInt .i64 v'1 fun x_1 => asInt .i64 v'2 fun x_2 => asInt .i64 v'3 fun x_3 => asEnd s <| g_zdm N x_1 x_2 x_3 (fun b_4 => K (.bool b_4) [])
noncomputable def Φ_zdm (N : Nat) : Callee := (Φ_zce N).add 52 (f_zdm N)
noncomputable def c_zdm : Code := bodyOf Tryd.f52
theorem b_zdm {R : Type} (N : Nat) (x_1 x_2 x_3 : Int) (K : V → S → Option R) : bodyV C (Φ_zce N) (noLooper) 52 Tryd.f52 [.int .i64 x_1, .int .i64 x_2, .int .i64 x_3] [] K =
  gb_zdm N x_1 x_2 x_3 (fun b_4 => K (.bool b_4) []) := by kernel_rfl
theorem callee_zdm (hC : Ok Tryd.prog C) {N : Nat} (hΦ : CalleeOk Tryd.prog C (Φ_zce N)) : CalleeOk Tryd.prog C (Φ_zdm N) := by
  refine hΦ.add_pure rfl fun R vs K r h => ?_
  unfold f_zdm at h
  obtain ⟨_, _, _, rfl, h1⟩ := asN3_some h
  obtain ⟨_, rfl, h2⟩ := asInt_some h1
  obtain ⟨_, rfl, h3⟩ := asInt_some h2
  obtain ⟨_, rfl, h4⟩ := asInt_some h3
  obtain ⟨_, h5⟩ := asEnd_some h4
  refine body_pure (fn := Tryd.f52) (c := c_zdm) hC hΦ Tryd.func52 (by kernel_rfl) (by kernel_rfl) (loopsOk_nil (Λ := noLooper) (by kernel_rfl)) rfl rfl ?_
  refine (b_zdm N _ _ _ _).trans ?_
  rw [← g_zdm_eq]
  exact h5
noncomputable def f_zcd (N : Nat) : (R : Type) → List V → S → (V → S → Option R) → Option R := fun _ vs s K =>
  asN1 vs fun v'1 => un_impl_Fs v'1 fun e_1 f_2 x_3 => asEnd s <| g_zcd N e_1 f_2 x_3 (fun x_4 => K (.int .i64 x_4) [])
noncomputable def Φ_zcd (N : Nat) : Callee := (Φ_zdm N).add 53 (f_zcd N)
noncomputable def c_zcd : Code := bodyOf Tryd.f53
noncomputable def b_zcd_0 : Code := (loopNo c_zcd [] 0).2
def ks_zcd_0 : List Nat := butL 20 [3, 7, 8, 9]
def kx_zcd_0 : List Nat := butL 20 [3]
def fr_zcd_0 (e_2 : List V) (f_3 : Fl) (x_4 : Int) (e_6 : List V) (f_7 : Fl) (x_8 x_1 x_5 : Int) : List V := mkF 0 20 [(3, .int .i64 x_1), (7, .list 7 e_2 f_3), (8, .int .i64 x_4), (9, .int .i64 x_5)]
def kk0_zcd_0 {R : Type} (K : X → List V → S → Option R) (e_2 : List V) (f_3 : Fl) (x_4 : Int) (e_6 : List V) (f_7 : Fl) (x_8 : Int) : Int → Option R := (fun x_1' => K (.exit 0) (mkF 0 20 [(3, .int .i64 (x_1'))]) [some ⟨[.agg [.list 7 e_6 f_7, .int .i64 x_8]], 2, 32, 0⟩])
noncomputable abbrev it_zcd_0 {R : Type} (N : Nat) : Nat → List V → S → (X → List V → S → Option R) → Option R := fun n => iter C (Φ_zdm N) (noLooper) b_zcd_0 [0, 1, 0, 1, 1] true ks_zcd_0 kx_zcd_0 n R
theorem r_zcd_0 {R : Type} (N n : Nat) (e_2 : List V) (f_3 : Fl) (x_4 : Int) (e_6 : List V) (f_7 : Fl) (x_8 : Int) (x_1 x_5 : Int) (K : X → List V → S → Option R) :
  it_zcd_0 N (n + 1) (fr_zcd_0 e_2 f_3 x_4 e_6 f_7 x_8 x_1 x_5) [some ⟨[.agg [.list 7 e_6 f_7, .int .i64 x_8]], 2, 32, 0⟩] K =
  l_zcd_0_step N e_2 f_3 x_4 e_6 f_7 x_8 (fun x_1 x_5 => it_zcd_0 N n (fr_zcd_0 e_2 f_3 x_4 e_6 f_7 x_8 x_1 x_5) [some ⟨[.agg [.list 7 e_6 f_7, .int .i64 x_8]], 2, 32, 0⟩] K) x_1 x_5 (kk0_zcd_0 K e_2 f_3 x_4 e_6 f_7 x_8) := by kernel_rfl
theorem w_zcd_0 {R : Type} (N : Nat) (e_2 : List V) (f_3 : Fl) (x_4 : Int) (e_6 : List V) (f_7 : Fl) (x_8 : Int) (K : X → List V → S → Option R) : ∀ (n : Nat) (x_1 x_5 : Int),
  it_zcd_0 N n (fr_zcd_0 e_2 f_3 x_4 e_6 f_7 x_8 x_1 x_5) [some ⟨[.agg [.list 7 e_6 f_7, .int .i64 x_8]], 2, 32, 0⟩] K = l_zcd_0 N e_2 f_3 x_4 e_6 f_7 x_8 (kk0_zcd_0 K e_2 f_3 x_4 e_6 f_7 x_8) n x_1 x_5
  | 0, _, _ => rfl
  | n + 1, x_1, x_5 => (r_zcd_0 N n e_2 f_3 x_4 e_6 f_7 x_8 x_1 x_5 K).trans (congrArg (fun nx => l_zcd_0_step N e_2 f_3 x_4 e_6 f_7 x_8 nx x_1 x_5 (kk0_zcd_0 K e_2 f_3 x_4 e_6 f_7 x_8)) (funext fun x_1 => funext fun x_5 => w_zcd_0 N e_2 f_3 x_4 e_6 f_7 x_8 K n x_1 x_5))
def i_zcd_0 {R : Type} (E : List V) (s : S) (k : Int → List V → Fl → Int → Int → List V → Fl → Int → Option R) : Option R :=
  guardB (frameOk 20 [3, 7, 8, 9] E) <| atInt E 3 .i64 fun x_1 => atList E 7 7 fun e_2 f_3 => atInt E 8 .i64 fun x_4 => atInt E 9 .i64 fun x_5 => asOb s fun o'1 s'2 => obIs o'1 2 32 fun e'3 k'4 => isN k'4 0 <| asN1 e'3 fun v'5 => asAgg v'5 fun c'6 => asN2 c'6 fun v'7 v'8 => asList 7 v'7 fun e_6 f_7 => asInt .i64 v'8 fun x_8 => asEnd s'2 <| k x_1 e_2 f_3 x_4 x_5 e_6 f_7 x_8
theorem i_zcd_0_spec {R : Type} {E : List V} {s : S} {k : Int → List V → Fl → Int → Int → List V → Fl → Int → Option R} {r : R} (h : i_zcd_0 E s k = some r) : ∃ x_1 e_2 f_3 x_4 x_5 e_6 f_7 x_8, E = fr_zcd_0 e_2 f_3 x_4 e_6 f_7 x_8 x_1 x_5 ∧ s = [some ⟨[.agg [.list 7 e_6 f_7, .int .i64 x_8]], 2, 32, 0⟩] ∧ k x_1 e_2 f_3 x_4 x_5 e_6 f_7 x_8 = some r := by
  unfold i_zcd_0 at h
  obtain ⟨hg, h1⟩ := guardB_some h
  obtain ⟨_, hu3, h2⟩ := atInt_some h1
  obtain ⟨_, _, hu7, h3⟩ := atList_some h2
  obtain ⟨_, hu8, h4⟩ := atInt_some h3
  obtain ⟨_, hu9, h5⟩ := atInt_some h4
  obtain ⟨_, _, rfl, h6⟩ := asOb_some h5
  obtain ⟨_, _, rfl, h7⟩ := obIs_some h6
  obtain ⟨rfl, h8⟩ := isN_some h7
  obtain ⟨_, rfl, h9⟩ := asN1_some h8
  obtain ⟨_, rfl, h10⟩ := asAgg_some h9
  obtain ⟨_, _, rfl, h11⟩ := asN2_some h10
  obtain ⟨_, _, rfl, h12⟩ := asList_some h11
  obtain ⟨_, rfl, h13⟩ := asInt_some h12
  obtain ⟨rfl, h14⟩ := asEnd_some h13
  exact ⟨_, _, _, _, _, _, _, _, frame_is hg rfl (slots_cons hu3 (slots_cons hu7 (slots_cons hu8 (slots_cons hu9 slots_nil)))), rfl, h14⟩
noncomputable def Λ_zcd_0 (N : Nat) : Looper := (noLooper).add [0, 1, 0, 1, 1] fun _ E s K => i_zcd_0 (killE ks_zcd_0 E) s fun x_1 e_2 f_3 x_4 x_5 e_6 f_7 x_8 => l_zcd_0 N e_2 f_3 x_4 e_6 f_7 x_8 (kk0_zcd_0 K e_2 f_3 x_4 e_6 f_7 x_8) N x_1 x_5
theorem ok_zcd_0 {N : Nat} (hC : Ok Tryd.prog C) (hΦ : CalleeOk Tryd.prog C (Φ_zdm N)) : LoopOk Tryd.prog C (Λ_zcd_0 N) b_zcd_0 [0, 1, 0, 1, 1] :=
  iter_ok (Λi := noLooper) (tr := true) (ks := ks_zcd_0) (kx := kx_zcd_0) (N := N) hC hΦ
    (loopsOk_nil (by kernel_rfl))
    fun R E s K r h => by
      have h2 := Looper.add_self.symm.trans h
      obtain ⟨_, _, _, _, _, _, _, _, he, rfl, h3⟩ := i_zcd_0_spec h2
      rw [he]
      exact (w_zcd_0 N _ _ _ _ _ _ _ N _ _).trans h3
theorem at_zcd : loopsAt c_zcd [] = [([0, 1, 0, 1, 1], b_zcd_0)] := by kernel_rfl
theorem b_zcd {R : Type} (N : Nat) (e_1 : List V) (f_2 : Fl) (x_3 : Int) (K : V → S → Option R) : bodyV C (Φ_zdm N) (Λ_zcd_0 N) 53 Tryd.f53 [.agg [.list 7 e_1 f_2, .int .i64 x_3]] [] K =
  gb_zcd N e_1 f_2 x_3 (fun x_4 => K (.int .i64 x_4) []) := by kernel_rfl
theorem loops_zcd {N : Nat} (hC : Ok Tryd.prog C) (hΦ : CalleeOk Tryd.prog C (Φ_zdm N)) : LoopsOk Tryd.prog C (Λ_zcd_0 N) c_zcd [] :=
  loopsOk_of c_zcd [] (by
    rw [at_zcd]
    intro p hp
    simp only [List.mem_cons, List.mem_nil_iff, or_false] at hp
    rcases hp with rfl
    · exact (ok_zcd_0 hC hΦ))
theorem callee_zcd (hC : Ok Tryd.prog C) {N : Nat} (hΦ : CalleeOk Tryd.prog C (Φ_zdm N)) : CalleeOk Tryd.prog C (Φ_zcd N) := by
  refine hΦ.add_pure rfl fun R vs K r h => ?_
  unfold f_zcd at h
  obtain ⟨_, rfl, h1⟩ := asN1_some h
  obtain ⟨_, _, _, rfl, h2⟩ := un_impl_Fs_some h1
  obtain ⟨_, h3⟩ := asEnd_some h2
  refine body_pure (fn := Tryd.f53) (c := c_zcd) hC hΦ Tryd.func53 (by kernel_rfl) (by kernel_rfl) (loops_zcd (N := N) hC hΦ) rfl rfl ?_
  refine (b_zcd N _ _ _ _).trans ?_
  rw [← g_zcd_eq]
  exact h3
noncomputable def f_zca (N : Nat) : (R : Type) → List V → S → (V → S → Option R) → Option R := fun _ vs s K =>
  asN2 vs fun v'1 v'2 => asStr v'1 fun w_1 => asInt .u8 v'2 fun x_2 => asEnd s <| g_zca N w_1 x_2 (fun e_3 => K (.list 1 e_3 .sh) [])
noncomputable def Φ_zca (N : Nat) : Callee := (Φ_zcd N).add 58 (f_zca N)
noncomputable def c_zca : Code := bodyOf Tryd.f58
noncomputable def b_zca_0 : Code := (loopNo c_zca [] 0).2
def ks_zca_0 : List Nat := butL 34 [0, 1, 5, 6, 7]
def kx_zca_0 : List Nat := butL 34 [0, 5, 6]
def fr_zca_0 (w_1 : ByteArray) (x_2 : Int) (e_3 : List V) (x_4 x_5 : Int) : List V := mkF 0 34 [(0, .str w_1), (1, .int .u8 x_2), (5, .list 1 e_3 (.own 9)), (6, .int .i64 x_4), (7, .int .i64 x_5)]
def kk0_zca_0 {R : Type} (K : X → List V → S → Option R) (w_1 : ByteArray) (x_2 : Int) : List V → Int → Option R := (fun e_1' x_2' => K (.exit 0) (mkF 0 34 [(0, .str w_1), (5, .list 1 (e_1') (.own 9)), (6, .int .i64 (x_2'))]) [])
noncomputable abbrev it_zca_0 {R : Type} (N : Nat) : Nat → List V → S → (X → List V → S → Option R) → Option R := fun n => iter C (Φ_zcd N) (noLooper) b_zca_0 [0, 1, 0, 1, 1, 1] false ks_zca_0 kx_zca_0 n R
theorem r_zca_0 {R : Type} (N n : Nat) (w_1 : ByteArray) (x_2 : Int) (e_3 : List V) (x_4 x_5 : Int) (K : X → List V → S → Option R) :
  it_zca_0 N (n + 1) (fr_zca_0 w_1 x_2 e_3 x_4 x_5) [] K =
  l_zca_0_step N w_1 x_2 (fun e_3 x_4 x_5 => it_zca_0 N n (fr_zca_0 w_1 x_2 e_3 x_4 x_5) [] K) e_3 x_4 x_5 (kk0_zca_0 K w_1 x_2) := by kernel_rfl
theorem w_zca_0 {R : Type} (N : Nat) (w_1 : ByteArray) (x_2 : Int) (K : X → List V → S → Option R) : ∀ (n : Nat) (e_3 : List V) (x_4 x_5 : Int),
  it_zca_0 N n (fr_zca_0 w_1 x_2 e_3 x_4 x_5) [] K = l_zca_0 N w_1 x_2 (kk0_zca_0 K w_1 x_2) n e_3 x_4 x_5
  | 0, _, _, _ => rfl
  | n + 1, e_3, x_4, x_5 => (r_zca_0 N n w_1 x_2 e_3 x_4 x_5 K).trans (congrArg (fun nx => l_zca_0_step N w_1 x_2 nx e_3 x_4 x_5 (kk0_zca_0 K w_1 x_2)) (funext fun e_3 => funext fun x_4 => funext fun x_5 => w_zca_0 N w_1 x_2 K n e_3 x_4 x_5))
def i_zca_0 {R : Type} (E : List V) (s : S) (k : ByteArray → Int → List V → Int → Int → Option R) : Option R :=
  guardB (frameOk 34 [0, 1, 5, 6, 7] E) <| atStr E 0 fun w_1 => atInt E 1 .u8 fun x_2 => must (nth E 5) fun u5 => asList 1 u5 fun e_3 f'1 => asOwn 9 f'1 <| atInt E 6 .i64 fun x_4 => atInt E 7 .i64 fun x_5 => asEnd s <| k w_1 x_2 e_3 x_4 x_5
theorem i_zca_0_spec {R : Type} {E : List V} {s : S} {k : ByteArray → Int → List V → Int → Int → Option R} {r : R} (h : i_zca_0 E s k = some r) : ∃ w_1 x_2 e_3 x_4 x_5, E = fr_zca_0 w_1 x_2 e_3 x_4 x_5 ∧ s = [] ∧ k w_1 x_2 e_3 x_4 x_5 = some r := by
  unfold i_zca_0 at h
  obtain ⟨hg, h1⟩ := guardB_some h
  obtain ⟨_, hu0, h2⟩ := atStr_some h1
  obtain ⟨_, hu1, h3⟩ := atInt_some h2
  obtain ⟨_, hu5, h4⟩ := must_some h3
  obtain ⟨_, _, rfl, h5⟩ := asList_some h4
  obtain ⟨rfl, h6⟩ := asOwn_some h5
  obtain ⟨_, hu6, h7⟩ := atInt_some h6
  obtain ⟨_, hu7, h8⟩ := atInt_some h7
  obtain ⟨rfl, h9⟩ := asEnd_some h8
  exact ⟨_, _, _, _, _, frame_is hg rfl (slots_cons hu0 (slots_cons hu1 (slots_cons hu5 (slots_cons hu6 (slots_cons hu7 slots_nil))))), rfl, h9⟩
noncomputable def Λ_zca_0 (N : Nat) : Looper := (noLooper).add [0, 1, 0, 1, 1, 1] fun _ E s K => i_zca_0 (killE ks_zca_0 E) s fun w_1 x_2 e_3 x_4 x_5 => l_zca_0 N w_1 x_2 (kk0_zca_0 K w_1 x_2) N e_3 x_4 x_5
theorem ok_zca_0 {N : Nat} (hC : Ok Tryd.prog C) (hΦ : CalleeOk Tryd.prog C (Φ_zcd N)) : LoopOk Tryd.prog C (Λ_zca_0 N) b_zca_0 [0, 1, 0, 1, 1, 1] :=
  iter_ok (Λi := noLooper) (tr := false) (ks := ks_zca_0) (kx := kx_zca_0) (N := N) hC hΦ
    (loopsOk_nil (by kernel_rfl))
    fun R E s K r h => by
      have h2 := Looper.add_self.symm.trans h
      obtain ⟨_, _, _, _, _, he, rfl, h3⟩ := i_zca_0_spec h2
      rw [he]
      exact (w_zca_0 N _ _ _ N _ _ _).trans h3
theorem at_zca : loopsAt c_zca [] = [([0, 1, 0, 1, 1, 1], b_zca_0)] := by kernel_rfl
theorem b_zca {R : Type} (N : Nat) (w_1 : ByteArray) (x_2 : Int) (K : V → S → Option R) : bodyV C (Φ_zcd N) (Λ_zca_0 N) 58 Tryd.f58 [.str w_1, .int .u8 x_2] [] K =
  gb_zca N w_1 x_2 (fun e_3 => K (.list 1 e_3 .sh) []) := by kernel_rfl
theorem loops_zca {N : Nat} (hC : Ok Tryd.prog C) (hΦ : CalleeOk Tryd.prog C (Φ_zcd N)) : LoopsOk Tryd.prog C (Λ_zca_0 N) c_zca [] :=
  loopsOk_of c_zca [] (by
    rw [at_zca]
    intro p hp
    simp only [List.mem_cons, List.mem_nil_iff, or_false] at hp
    rcases hp with rfl
    · exact (ok_zca_0 hC hΦ))
theorem callee_zca (hC : Ok Tryd.prog C) {N : Nat} (hΦ : CalleeOk Tryd.prog C (Φ_zcd N)) : CalleeOk Tryd.prog C (Φ_zca N) := by
  refine hΦ.add_pure rfl fun R vs K r h => ?_
  unfold f_zca at h
  obtain ⟨_, _, rfl, h1⟩ := asN2_some h
  obtain ⟨_, rfl, h2⟩ := asStr_some h1
  obtain ⟨_, rfl, h3⟩ := asInt_some h2
  obtain ⟨_, h4⟩ := asEnd_some h3
  refine body_pure (fn := Tryd.f58) (c := c_zca) hC hΦ Tryd.func58 (by kernel_rfl) (by kernel_rfl) (loops_zca (N := N) hC hΦ) rfl rfl ?_
  refine (b_zca N _ _ _).trans ?_
  rw [← g_zca_eq]
  exact h4
noncomputable def f_zcb (N : Nat) : (R : Type) → List V → S → (V → S → Option R) → Option R := fun _ vs s K =>
  asN1 vs fun v'1 => asStr v'1 fun w_1 => asEnd s <| g_zcb N w_1 (fun e_2 => K (.list 1 e_2 (.own 9)) [])
noncomputable def Φ_zcb (N : Nat) : Callee := (Φ_zca N).add 35 (f_zcb N)
noncomputable def c_zcb : Code := bodyOf Tryd.f35
noncomputable def b_zcb_0 : Code := (loopNo c_zcb [] 0).2
def ks_zcb_0 : List Nat := butL 21 [3, 7, 8, 9]
def kx_zcb_0 : List Nat := butL 21 [3]
def fr_zcb_0 (e_2 : List V) (x_3 : Int) (e_1 : List V) (x_4 : Int) : List V := mkF 0 21 [(3, .list 1 e_1 (.own 9)), (7, .list 1 e_2 .sh), (8, .int .i64 x_3), (9, .int .i64 x_4)]
def kk0_zcb_0 {R : Type} (K : X → List V → S → Option R) (e_2 : List V) (x_3 : Int) : List V → Option R := (fun e_1' => K (.exit 0) (mkF 0 21 [(3, .list 1 (e_1') (.own 9))]) [])
noncomputable abbrev it_zcb_0 {R : Type} (N : Nat) : Nat → List V → S → (X → List V → S → Option R) → Option R := fun n => iter C (Φ_zca N) (noLooper) b_zcb_0 [0, 1, 0, 1, 1] false ks_zcb_0 kx_zcb_0 n R
theorem r_zcb_0 {R : Type} (N n : Nat) (e_2 : List V) (x_3 : Int) (e_1 : List V) (x_4 : Int) (K : X → List V → S → Option R) :
  it_zcb_0 N (n + 1) (fr_zcb_0 e_2 x_3 e_1 x_4) [] K =
  l_zcb_0_step N e_2 x_3 (fun e_1 x_4 => it_zcb_0 N n (fr_zcb_0 e_2 x_3 e_1 x_4) [] K) e_1 x_4 (kk0_zcb_0 K e_2 x_3) := by kernel_rfl
theorem w_zcb_0 {R : Type} (N : Nat) (e_2 : List V) (x_3 : Int) (K : X → List V → S → Option R) : ∀ (n : Nat) (e_1 : List V) (x_4 : Int),
  it_zcb_0 N n (fr_zcb_0 e_2 x_3 e_1 x_4) [] K = l_zcb_0 N e_2 x_3 (kk0_zcb_0 K e_2 x_3) n e_1 x_4
  | 0, _, _ => rfl
  | n + 1, e_1, x_4 => (r_zcb_0 N n e_2 x_3 e_1 x_4 K).trans (congrArg (fun nx => l_zcb_0_step N e_2 x_3 nx e_1 x_4 (kk0_zcb_0 K e_2 x_3)) (funext fun e_1 => funext fun x_4 => w_zcb_0 N e_2 x_3 K n e_1 x_4))
def i_zcb_0 {R : Type} (E : List V) (s : S) (k : List V → List V → Int → Int → Option R) : Option R :=
  guardB (frameOk 21 [3, 7, 8, 9] E) <| must (nth E 3) fun u3 => asList 1 u3 fun e_1 f'1 => asOwn 9 f'1 <| must (nth E 7) fun u7 => asList 1 u7 fun e_2 f'2 => asSh f'2 <| atInt E 8 .i64 fun x_3 => atInt E 9 .i64 fun x_4 => asEnd s <| k e_1 e_2 x_3 x_4
theorem i_zcb_0_spec {R : Type} {E : List V} {s : S} {k : List V → List V → Int → Int → Option R} {r : R} (h : i_zcb_0 E s k = some r) : ∃ e_1 e_2 x_3 x_4, E = fr_zcb_0 e_2 x_3 e_1 x_4 ∧ s = [] ∧ k e_1 e_2 x_3 x_4 = some r := by
  unfold i_zcb_0 at h
  obtain ⟨hg, h1⟩ := guardB_some h
  obtain ⟨_, hu3, h2⟩ := must_some h1
  obtain ⟨_, _, rfl, h3⟩ := asList_some h2
  obtain ⟨rfl, h4⟩ := asOwn_some h3
  obtain ⟨_, hu7, h5⟩ := must_some h4
  obtain ⟨_, _, rfl, h6⟩ := asList_some h5
  obtain ⟨rfl, h7⟩ := asSh_some h6
  obtain ⟨_, hu8, h8⟩ := atInt_some h7
  obtain ⟨_, hu9, h9⟩ := atInt_some h8
  obtain ⟨rfl, h10⟩ := asEnd_some h9
  exact ⟨_, _, _, _, frame_is hg rfl (slots_cons hu3 (slots_cons hu7 (slots_cons hu8 (slots_cons hu9 slots_nil)))), rfl, h10⟩
noncomputable def Λ_zcb_0 (N : Nat) : Looper := (noLooper).add [0, 1, 0, 1, 1] fun _ E s K => i_zcb_0 (killE ks_zcb_0 E) s fun e_1 e_2 x_3 x_4 => l_zcb_0 N e_2 x_3 (kk0_zcb_0 K e_2 x_3) N e_1 x_4
theorem ok_zcb_0 {N : Nat} (hC : Ok Tryd.prog C) (hΦ : CalleeOk Tryd.prog C (Φ_zca N)) : LoopOk Tryd.prog C (Λ_zcb_0 N) b_zcb_0 [0, 1, 0, 1, 1] :=
  iter_ok (Λi := noLooper) (tr := false) (ks := ks_zcb_0) (kx := kx_zcb_0) (N := N) hC hΦ
    (loopsOk_nil (by kernel_rfl))
    fun R E s K r h => by
      have h2 := Looper.add_self.symm.trans h
      obtain ⟨_, _, _, _, he, rfl, h3⟩ := i_zcb_0_spec h2
      rw [he]
      exact (w_zcb_0 N _ _ _ N _ _).trans h3
theorem at_zcb : loopsAt c_zcb [] = [([0, 1, 0, 1, 1], b_zcb_0)] := by kernel_rfl
theorem b_zcb {R : Type} (N : Nat) (w_1 : ByteArray) (K : V → S → Option R) : bodyV C (Φ_zca N) (Λ_zcb_0 N) 35 Tryd.f35 [.str w_1] [] K =
  gb_zcb N w_1 (fun e_2 => K (.list 1 e_2 (.own 9)) []) := by kernel_rfl
theorem loops_zcb {N : Nat} (hC : Ok Tryd.prog C) (hΦ : CalleeOk Tryd.prog C (Φ_zca N)) : LoopsOk Tryd.prog C (Λ_zcb_0 N) c_zcb [] :=
  loopsOk_of c_zcb [] (by
    rw [at_zcb]
    intro p hp
    simp only [List.mem_cons, List.mem_nil_iff, or_false] at hp
    rcases hp with rfl
    · exact (ok_zcb_0 hC hΦ))
theorem callee_zcb (hC : Ok Tryd.prog C) {N : Nat} (hΦ : CalleeOk Tryd.prog C (Φ_zca N)) : CalleeOk Tryd.prog C (Φ_zcb N) := by
  refine hΦ.add_own rfl fun R vs K r h => ?_
  unfold f_zcb at h
  obtain ⟨_, rfl, h1⟩ := asN1_some h
  obtain ⟨_, rfl, h2⟩ := asStr_some h1
  obtain ⟨_, h3⟩ := asEnd_some h2
  refine body_own (fn := Tryd.f35) (c := c_zcb) hC hΦ Tryd.func35 (by kernel_rfl) (by kernel_rfl) (loops_zcb (N := N) hC hΦ) rfl rfl ?_
  refine (b_zcb N _ _).trans ?_
  rw [← g_zcb_eq]
  exact h3
noncomputable def f_zcx (N : Nat) : (R : Type) → List V → S → (V → S → Option R) → Option R := fun _ vs s K =>
  asN1 vs fun v'1 => asStr v'1 fun w_1 => asEnd s <| g_zcx N w_1 (fun b_2 => K (.bool b_2) [])
noncomputable def Φ_zcx (N : Nat) : Callee := (Φ_zcb N).add 80 (f_zcx N)
noncomputable def c_zcx : Code := bodyOf Tryd.f80
noncomputable def b_zcx_0 : Code := (loopNo c_zcx [] 0).2
def ks_zcx_0 : List Nat := butL 51 [0, 3]
def kx_zcx_0 : List Nat := butL 51 [0, 2]
def fr_zcx_0 (w_1 : ByteArray) (x_2 : Int) : List V := mkF 0 51 [(0, .str w_1), (3, .int .i64 x_2)]
def kk0_zcx_0 {R : Type} (K : X → List V → S → Option R) (w_1 : ByteArray) : Unit → Option R := (fun _ => K .ret (mkF 0 51 [(0, .str w_1), (2, .bool false)]) [])
def kk1_zcx_0 {R : Type} (K : X → List V → S → Option R) (w_1 : ByteArray) : Unit → Option R := (fun _ => K (.exit 0) (mkF 0 51 [(0, .str w_1)]) [])
noncomputable abbrev it_zcx_0 {R : Type} (N : Nat) : Nat → List V → S → (X → List V → S → Option R) → Option R := fun n => iter C (Φ_zcb N) (noLooper) b_zcx_0 [0, 1, 0, 1] false ks_zcx_0 kx_zcx_0 n R
theorem r_zcx_0 {R : Type} (N n : Nat) (w_1 : ByteArray) (x_2 : Int) (K : X → List V → S → Option R) :
  it_zcx_0 N (n + 1) (fr_zcx_0 w_1 x_2) [] K =
  l_zcx_0_step N w_1 (fun x_2 => it_zcx_0 N n (fr_zcx_0 w_1 x_2) [] K) x_2 (kk0_zcx_0 K w_1) (kk1_zcx_0 K w_1) := by kernel_rfl
theorem w_zcx_0 {R : Type} (N : Nat) (w_1 : ByteArray) (K : X → List V → S → Option R) : ∀ (n : Nat) (x_2 : Int),
  it_zcx_0 N n (fr_zcx_0 w_1 x_2) [] K = l_zcx_0 N w_1 (kk0_zcx_0 K w_1) (kk1_zcx_0 K w_1) n x_2
  | 0, _ => rfl
  | n + 1, x_2 => (r_zcx_0 N n w_1 x_2 K).trans (congrArg (fun nx => l_zcx_0_step N w_1 nx x_2 (kk0_zcx_0 K w_1) (kk1_zcx_0 K w_1)) (funext fun x_2 => w_zcx_0 N w_1 K n x_2))
def i_zcx_0 {R : Type} (E : List V) (s : S) (k : ByteArray → Int → Option R) : Option R :=
  guardB (frameOk 51 [0, 3] E) <| atStr E 0 fun w_1 => atInt E 3 .i64 fun x_2 => asEnd s <| k w_1 x_2
theorem i_zcx_0_spec {R : Type} {E : List V} {s : S} {k : ByteArray → Int → Option R} {r : R} (h : i_zcx_0 E s k = some r) : ∃ w_1 x_2, E = fr_zcx_0 w_1 x_2 ∧ s = [] ∧ k w_1 x_2 = some r := by
  unfold i_zcx_0 at h
  obtain ⟨hg, h1⟩ := guardB_some h
  obtain ⟨_, hu0, h2⟩ := atStr_some h1
  obtain ⟨_, hu3, h3⟩ := atInt_some h2
  obtain ⟨rfl, h4⟩ := asEnd_some h3
  exact ⟨_, _, frame_is hg rfl (slots_cons hu0 (slots_cons hu3 slots_nil)), rfl, h4⟩
noncomputable def Λ_zcx_0 (N : Nat) : Looper := (noLooper).add [0, 1, 0, 1] fun _ E s K => i_zcx_0 (killE ks_zcx_0 E) s fun w_1 x_2 => l_zcx_0 N w_1 (kk0_zcx_0 K w_1) (kk1_zcx_0 K w_1) N x_2
theorem ok_zcx_0 {N : Nat} (hC : Ok Tryd.prog C) (hΦ : CalleeOk Tryd.prog C (Φ_zcb N)) : LoopOk Tryd.prog C (Λ_zcx_0 N) b_zcx_0 [0, 1, 0, 1] :=
  iter_ok (Λi := noLooper) (tr := false) (ks := ks_zcx_0) (kx := kx_zcx_0) (N := N) hC hΦ
    (loopsOk_nil (by kernel_rfl))
    fun R E s K r h => by
      have h2 := Looper.add_self.symm.trans h
      obtain ⟨_, _, he, rfl, h3⟩ := i_zcx_0_spec h2
      rw [he]
      exact (w_zcx_0 N _ _ N _).trans h3
theorem at_zcx : loopsAt c_zcx [] = [([0, 1, 0, 1], b_zcx_0)] := by kernel_rfl
theorem b_zcx {R : Type} (N : Nat) (w_1 : ByteArray) (K : V → S → Option R) : bodyV C (Φ_zcb N) (Λ_zcx_0 N) 80 Tryd.f80 [.str w_1] [] K =
  gb_zcx N w_1 (fun b_2 => K (.bool b_2) []) := by kernel_rfl
theorem loops_zcx {N : Nat} (hC : Ok Tryd.prog C) (hΦ : CalleeOk Tryd.prog C (Φ_zcb N)) : LoopsOk Tryd.prog C (Λ_zcx_0 N) c_zcx [] :=
  loopsOk_of c_zcx [] (by
    rw [at_zcx]
    intro p hp
    simp only [List.mem_cons, List.mem_nil_iff, or_false] at hp
    rcases hp with rfl
    · exact (ok_zcx_0 hC hΦ))
theorem callee_zcx (hC : Ok Tryd.prog C) {N : Nat} (hΦ : CalleeOk Tryd.prog C (Φ_zcb N)) : CalleeOk Tryd.prog C (Φ_zcx N) := by
  refine hΦ.add_pure rfl fun R vs K r h => ?_
  unfold f_zcx at h
  obtain ⟨_, rfl, h1⟩ := asN1_some h
  obtain ⟨_, rfl, h2⟩ := asStr_some h1
  obtain ⟨_, h3⟩ := asEnd_some h2
  refine body_pure (fn := Tryd.f80) (c := c_zcx) hC hΦ Tryd.func80 (by kernel_rfl) (by kernel_rfl) (loops_zcx (N := N) hC hΦ) rfl rfl ?_
  refine (b_zcx N _ _).trans ?_
  rw [← g_zcx_eq]
  exact h3
noncomputable def f_zcy (N : Nat) : (R : Type) → List V → S → (V → S → Option R) → Option R := fun _ vs s K =>
  asN1 vs fun v'1 => asStr v'1 fun w_1 => asEnd s <| g_zcy N w_1 (fun b_2 => K (.bool b_2) [])
noncomputable def Φ_zcy (N : Nat) : Callee := (Φ_zcx N).add 57 (f_zcy N)
noncomputable def c_zcy : Code := bodyOf Tryd.f57
noncomputable def b_zcy_0 : Code := (loopNo c_zcy [] 0).2
def ks_zcy_0 : List Nat := butL 27 [0, 6, 7, 8]
def kx_zcy_0 : List Nat := butL 27 [0, 2]
def fr_zcy_0 (w_1 : ByteArray) (e_2 : List V) (x_3 x_4 : Int) : List V := mkF 0 27 [(0, .str w_1), (6, .list 1 e_2 (.own 9)), (7, .int .i64 x_3), (8, .int .i64 x_4)]
def kk0_zcy_0 {R : Type} (K : X → List V → S → Option R) (w_1 : ByteArray) (e_2 : List V) (x_3 : Int) : Unit → Option R := (fun _ => K .ret (mkF 0 27 [(0, .str w_1), (2, .bool false)]) [])
def kk1_zcy_0 {R : Type} (K : X → List V → S → Option R) (w_1 : ByteArray) (e_2 : List V) (x_3 : Int) : Unit → Option R := (fun _ => K (.exit 0) (mkF 0 27 [(0, .str w_1)]) [])
noncomputable abbrev it_zcy_0 {R : Type} (N : Nat) : Nat → List V → S → (X → List V → S → Option R) → Option R := fun n => iter C (Φ_zcx N) (noLooper) b_zcy_0 [0, 1, 0, 1] false ks_zcy_0 kx_zcy_0 n R
theorem r_zcy_0 {R : Type} (N n : Nat) (w_1 : ByteArray) (e_2 : List V) (x_3 : Int) (x_4 : Int) (K : X → List V → S → Option R) :
  it_zcy_0 N (n + 1) (fr_zcy_0 w_1 e_2 x_3 x_4) [] K =
  l_zcy_0_step N w_1 e_2 x_3 (fun x_4 => it_zcy_0 N n (fr_zcy_0 w_1 e_2 x_3 x_4) [] K) x_4 (kk0_zcy_0 K w_1 e_2 x_3) (kk1_zcy_0 K w_1 e_2 x_3) := by kernel_rfl
theorem w_zcy_0 {R : Type} (N : Nat) (w_1 : ByteArray) (e_2 : List V) (x_3 : Int) (K : X → List V → S → Option R) : ∀ (n : Nat) (x_4 : Int),
  it_zcy_0 N n (fr_zcy_0 w_1 e_2 x_3 x_4) [] K = l_zcy_0 N w_1 e_2 x_3 (kk0_zcy_0 K w_1 e_2 x_3) (kk1_zcy_0 K w_1 e_2 x_3) n x_4
  | 0, _ => rfl
  | n + 1, x_4 => (r_zcy_0 N n w_1 e_2 x_3 x_4 K).trans (congrArg (fun nx => l_zcy_0_step N w_1 e_2 x_3 nx x_4 (kk0_zcy_0 K w_1 e_2 x_3) (kk1_zcy_0 K w_1 e_2 x_3)) (funext fun x_4 => w_zcy_0 N w_1 e_2 x_3 K n x_4))
def i_zcy_0 {R : Type} (E : List V) (s : S) (k : ByteArray → List V → Int → Int → Option R) : Option R :=
  guardB (frameOk 27 [0, 6, 7, 8] E) <| atStr E 0 fun w_1 => must (nth E 6) fun u6 => asList 1 u6 fun e_2 f'1 => asOwn 9 f'1 <| atInt E 7 .i64 fun x_3 => atInt E 8 .i64 fun x_4 => asEnd s <| k w_1 e_2 x_3 x_4
theorem i_zcy_0_spec {R : Type} {E : List V} {s : S} {k : ByteArray → List V → Int → Int → Option R} {r : R} (h : i_zcy_0 E s k = some r) : ∃ w_1 e_2 x_3 x_4, E = fr_zcy_0 w_1 e_2 x_3 x_4 ∧ s = [] ∧ k w_1 e_2 x_3 x_4 = some r := by
  unfold i_zcy_0 at h
  obtain ⟨hg, h1⟩ := guardB_some h
  obtain ⟨_, hu0, h2⟩ := atStr_some h1
  obtain ⟨_, hu6, h3⟩ := must_some h2
  obtain ⟨_, _, rfl, h4⟩ := asList_some h3
  obtain ⟨rfl, h5⟩ := asOwn_some h4
  obtain ⟨_, hu7, h6⟩ := atInt_some h5
  obtain ⟨_, hu8, h7⟩ := atInt_some h6
  obtain ⟨rfl, h8⟩ := asEnd_some h7
  exact ⟨_, _, _, _, frame_is hg rfl (slots_cons hu0 (slots_cons hu6 (slots_cons hu7 (slots_cons hu8 slots_nil)))), rfl, h8⟩
noncomputable def Λ_zcy_0 (N : Nat) : Looper := (noLooper).add [0, 1, 0, 1] fun _ E s K => i_zcy_0 (killE ks_zcy_0 E) s fun w_1 e_2 x_3 x_4 => l_zcy_0 N w_1 e_2 x_3 (kk0_zcy_0 K w_1 e_2 x_3) (kk1_zcy_0 K w_1 e_2 x_3) N x_4
theorem ok_zcy_0 {N : Nat} (hC : Ok Tryd.prog C) (hΦ : CalleeOk Tryd.prog C (Φ_zcx N)) : LoopOk Tryd.prog C (Λ_zcy_0 N) b_zcy_0 [0, 1, 0, 1] :=
  iter_ok (Λi := noLooper) (tr := false) (ks := ks_zcy_0) (kx := kx_zcy_0) (N := N) hC hΦ
    (loopsOk_nil (by kernel_rfl))
    fun R E s K r h => by
      have h2 := Looper.add_self.symm.trans h
      obtain ⟨_, _, _, _, he, rfl, h3⟩ := i_zcy_0_spec h2
      rw [he]
      exact (w_zcy_0 N _ _ _ _ N _).trans h3
theorem at_zcy : loopsAt c_zcy [] = [([0, 1, 0, 1], b_zcy_0)] := by kernel_rfl
theorem b_zcy {R : Type} (N : Nat) (w_1 : ByteArray) (K : V → S → Option R) : bodyV C (Φ_zcx N) (Λ_zcy_0 N) 57 Tryd.f57 [.str w_1] [] K =
  gb_zcy N w_1 (fun b_2 => K (.bool b_2) []) := by kernel_rfl
theorem loops_zcy {N : Nat} (hC : Ok Tryd.prog C) (hΦ : CalleeOk Tryd.prog C (Φ_zcx N)) : LoopsOk Tryd.prog C (Λ_zcy_0 N) c_zcy [] :=
  loopsOk_of c_zcy [] (by
    rw [at_zcy]
    intro p hp
    simp only [List.mem_cons, List.mem_nil_iff, or_false] at hp
    rcases hp with rfl
    · exact (ok_zcy_0 hC hΦ))
theorem callee_zcy (hC : Ok Tryd.prog C) {N : Nat} (hΦ : CalleeOk Tryd.prog C (Φ_zcx N)) : CalleeOk Tryd.prog C (Φ_zcy N) := by
  refine hΦ.add_pure rfl fun R vs K r h => ?_
  unfold f_zcy at h
  obtain ⟨_, rfl, h1⟩ := asN1_some h
  obtain ⟨_, rfl, h2⟩ := asStr_some h1
  obtain ⟨_, h3⟩ := asEnd_some h2
  refine body_pure (fn := Tryd.f57) (c := c_zcy) hC hΦ Tryd.func57 (by kernel_rfl) (by kernel_rfl) (loops_zcy (N := N) hC hΦ) rfl rfl ?_
  refine (b_zcy N _ _).trans ?_
  rw [← g_zcy_eq]
  exact h3
noncomputable def f_zcw (N : Nat) : (R : Type) → List V → S → (V → S → Option R) → Option R := fun _ vs s K =>
  asN1 vs fun v'1 => asInt .i64 v'1 fun x_1 => asEnd s <| g_zcw N x_1 (fun b_2 => K (.bool b_2) [])
noncomputable def Φ_zcw (N : Nat) : Callee := (Φ_zcy N).add 77 (f_zcw N)
noncomputable def c_zcw : Code := bodyOf Tryd.f77
theorem b_zcw {R : Type} (N : Nat) (x_1 : Int) (K : V → S → Option R) : bodyV C (Φ_zcy N) (noLooper) 77 Tryd.f77 [.int .i64 x_1] [] K =
  gb_zcw N x_1 (fun b_2 => K (.bool b_2) []) := by kernel_rfl
theorem callee_zcw (hC : Ok Tryd.prog C) {N : Nat} (hΦ : CalleeOk Tryd.prog C (Φ_zcy N)) : CalleeOk Tryd.prog C (Φ_zcw N) := by
  refine hΦ.add_pure rfl fun R vs K r h => ?_
  unfold f_zcw at h
  obtain ⟨_, rfl, h1⟩ := asN1_some h
  obtain ⟨_, rfl, h2⟩ := asInt_some h1
  obtain ⟨_, h3⟩ := asEnd_some h2
  refine body_pure (fn := Tryd.f77) (c := c_zcw) hC hΦ Tryd.func77 (by kernel_rfl) (by kernel_rfl) (loopsOk_nil (Λ := noLooper) (by kernel_rfl)) rfl rfl ?_
  refine (b_zcw N _ _).trans ?_
  rw [← g_zcw_eq]
  exact h3
noncomputable def f_zaz (N : Nat) : (R : Type) → List V → S → (V → S → Option R) → Option R := fun _ vs s K =>
  asN2 vs fun v'1 v'2 => un_impl_Fs v'1 fun e_1 f_2 x_3 => asList 2 v'2 fun e_4 f_5 => asEnd s <| g_zaz N e_1 f_2 x_3 e_4 f_5 (fun b_6 => K (.bool b_6) [])
noncomputable def Φ_zaz (N : Nat) : Callee := (Φ_zcw N).add 78 (f_zaz N)
noncomputable def c_zaz : Code := bodyOf Tryd.f78
noncomputable def b_zaz_0 : Code := (loopNo c_zaz [] 0).2
def ks_zaz_0 : List Nat := butL 54 [1, 2, 7, 8, 9]
def kx_zaz_0 : List Nat := butL 54 [4]
def fr_zaz_0 (e_1 : List V) (f_2 : Fl) (e_3 : List V) (f_4 : Fl) (x_5 : Int) (e_7 : List V) (f_8 : Fl) (x_9 x_6 : Int) : List V := mkF 0 54 [(1, .list 2 e_1 f_2), (2, .ptr 0 0 0 0), (7, .list 2 e_3 f_4), (8, .int .i64 x_5), (9, .int .i64 x_6)]
def kk0_zaz_0 {R : Type} (K : X → List V → S → Option R) (e_1 : List V) (f_2 : Fl) (e_3 : List V) (f_4 : Fl) (x_5 : Int) (e_7 : List V) (f_8 : Fl) (x_9 : Int) : Unit → Option R := (fun _ => K .ret (mkF 0 54 [(4, .bool false)]) [some ⟨[.agg [.list 7 e_7 f_8, .int .i64 x_9]], 2, 32, 0⟩])
def kk1_zaz_0 {R : Type} (K : X → List V → S → Option R) (e_1 : List V) (f_2 : Fl) (e_3 : List V) (f_4 : Fl) (x_5 : Int) (e_7 : List V) (f_8 : Fl) (x_9 : Int) : Unit → Option R := (fun _ => K (.exit 0) (mkF 0 54 []) [some ⟨[.agg [.list 7 e_7 f_8, .int .i64 x_9]], 2, 32, 0⟩])
noncomputable abbrev it_zaz_0 {R : Type} (N : Nat) : Nat → List V → S → (X → List V → S → Option R) → Option R := fun n => iter C (Φ_zcw N) (noLooper) b_zaz_0 [0, 1, 0, 1] true ks_zaz_0 kx_zaz_0 n R
theorem r_zaz_0 {R : Type} (N n : Nat) (e_1 : List V) (f_2 : Fl) (e_3 : List V) (f_4 : Fl) (x_5 : Int) (e_7 : List V) (f_8 : Fl) (x_9 : Int) (x_6 : Int) (K : X → List V → S → Option R) :
  it_zaz_0 N (n + 1) (fr_zaz_0 e_1 f_2 e_3 f_4 x_5 e_7 f_8 x_9 x_6) [some ⟨[.agg [.list 7 e_7 f_8, .int .i64 x_9]], 2, 32, 0⟩] K =
  l_zaz_0_step N e_1 f_2 e_3 f_4 x_5 e_7 f_8 x_9 (fun x_6 => it_zaz_0 N n (fr_zaz_0 e_1 f_2 e_3 f_4 x_5 e_7 f_8 x_9 x_6) [some ⟨[.agg [.list 7 e_7 f_8, .int .i64 x_9]], 2, 32, 0⟩] K) x_6 (kk0_zaz_0 K e_1 f_2 e_3 f_4 x_5 e_7 f_8 x_9) (kk1_zaz_0 K e_1 f_2 e_3 f_4 x_5 e_7 f_8 x_9) := by kernel_rfl
theorem w_zaz_0 {R : Type} (N : Nat) (e_1 : List V) (f_2 : Fl) (e_3 : List V) (f_4 : Fl) (x_5 : Int) (e_7 : List V) (f_8 : Fl) (x_9 : Int) (K : X → List V → S → Option R) : ∀ (n : Nat) (x_6 : Int),
  it_zaz_0 N n (fr_zaz_0 e_1 f_2 e_3 f_4 x_5 e_7 f_8 x_9 x_6) [some ⟨[.agg [.list 7 e_7 f_8, .int .i64 x_9]], 2, 32, 0⟩] K = l_zaz_0 N e_1 f_2 e_3 f_4 x_5 e_7 f_8 x_9 (kk0_zaz_0 K e_1 f_2 e_3 f_4 x_5 e_7 f_8 x_9) (kk1_zaz_0 K e_1 f_2 e_3 f_4 x_5 e_7 f_8 x_9) n x_6
  | 0, _ => rfl
  | n + 1, x_6 => (r_zaz_0 N n e_1 f_2 e_3 f_4 x_5 e_7 f_8 x_9 x_6 K).trans (congrArg (fun nx => l_zaz_0_step N e_1 f_2 e_3 f_4 x_5 e_7 f_8 x_9 nx x_6 (kk0_zaz_0 K e_1 f_2 e_3 f_4 x_5 e_7 f_8 x_9) (kk1_zaz_0 K e_1 f_2 e_3 f_4 x_5 e_7 f_8 x_9)) (funext fun x_6 => w_zaz_0 N e_1 f_2 e_3 f_4 x_5 e_7 f_8 x_9 K n x_6))
def i_zaz_0 {R : Type} (E : List V) (s : S) (k : List V → Fl → List V → Fl → Int → Int → List V → Fl → Int → Option R) : Option R :=
  guardB (frameOk 54 [1, 2, 7, 8, 9] E) <| atList E 1 2 fun e_1 f_2 => atIs E 2 (.ptr 0 0 0 0) <| atList E 7 2 fun e_3 f_4 => atInt E 8 .i64 fun x_5 => atInt E 9 .i64 fun x_6 => asOb s fun o'1 s'2 => obIs o'1 2 32 fun e'3 k'4 => isN k'4 0 <| asN1 e'3 fun v'5 => asAgg v'5 fun c'6 => asN2 c'6 fun v'7 v'8 => asList 7 v'7 fun e_7 f_8 => asInt .i64 v'8 fun x_9 => asEnd s'2 <| k e_1 f_2 e_3 f_4 x_5 x_6 e_7 f_8 x_9
theorem i_zaz_0_spec {R : Type} {E : List V} {s : S} {k : List V → Fl → List V → Fl → Int → Int → List V → Fl → Int → Option R} {r : R} (h : i_zaz_0 E s k = some r) : ∃ e_1 f_2 e_3 f_4 x_5 x_6 e_7 f_8 x_9, E = fr_zaz_0 e_1 f_2 e_3 f_4 x_5 e_7 f_8 x_9 x_6 ∧ s = [some ⟨[.agg [.list 7 e_7 f_8, .int .i64 x_9]], 2, 32, 0⟩] ∧ k e_1 f_2 e_3 f_4 x_5 x_6 e_7 f_8 x_9 = some r := by
  unfold i_zaz_0 at h
  obtain ⟨hg, h1⟩ := guardB_some h
  obtain ⟨_, _, hu1, h2⟩ := atList_some h1
  obtain ⟨hu2, h3⟩ := atIs_some h2
  obtain ⟨_, _, hu7, h4⟩ := atList_some h3
  obtain ⟨_, hu8, h5⟩ := atInt_some h4
  obtain ⟨_, hu9, h6⟩ := atInt_some h5
  obtain ⟨_, _, rfl, h7⟩ := asOb_some h6
  obtain ⟨_, _, rfl, h8⟩ := obIs_some h7
  obtain ⟨rfl, h9⟩ := isN_some h8
  obtain ⟨_, rfl, h10⟩ := asN1_some h9
  obtain ⟨_, rfl, h11⟩ := asAgg_some h10
  obtain ⟨_, _, rfl, h12⟩ := asN2_some h11
  obtain ⟨_, _, rfl, h13⟩ := asList_some h12
  obtain ⟨_, rfl, h14⟩ := asInt_some h13
  obtain ⟨rfl, h15⟩ := asEnd_some h14
  exact ⟨_, _, _, _, _, _, _, _, _, frame_is hg rfl (slots_cons hu1 (slots_cons hu2 (slots_cons hu7 (slots_cons hu8 (slots_cons hu9 slots_nil))))), rfl, h15⟩
noncomputable def Λ_zaz_0 (N : Nat) : Looper := (noLooper).add [0, 1, 0, 1] fun _ E s K => i_zaz_0 (killE ks_zaz_0 E) s fun e_1 f_2 e_3 f_4 x_5 x_6 e_7 f_8 x_9 => l_zaz_0 N e_1 f_2 e_3 f_4 x_5 e_7 f_8 x_9 (kk0_zaz_0 K e_1 f_2 e_3 f_4 x_5 e_7 f_8 x_9) (kk1_zaz_0 K e_1 f_2 e_3 f_4 x_5 e_7 f_8 x_9) N x_6
theorem ok_zaz_0 {N : Nat} (hC : Ok Tryd.prog C) (hΦ : CalleeOk Tryd.prog C (Φ_zcw N)) : LoopOk Tryd.prog C (Λ_zaz_0 N) b_zaz_0 [0, 1, 0, 1] :=
  iter_ok (Λi := noLooper) (tr := true) (ks := ks_zaz_0) (kx := kx_zaz_0) (N := N) hC hΦ
    (loopsOk_nil (by kernel_rfl))
    fun R E s K r h => by
      have h2 := Looper.add_self.symm.trans h
      obtain ⟨_, _, _, _, _, _, _, _, _, he, rfl, h3⟩ := i_zaz_0_spec h2
      rw [he]
      exact (w_zaz_0 N _ _ _ _ _ _ _ _ _ N _).trans h3
theorem at_zaz : loopsAt c_zaz [] = [([0, 1, 0, 1], b_zaz_0)] := by kernel_rfl
theorem b_zaz {R : Type} (N : Nat) (e_1 : List V) (f_2 : Fl) (x_3 : Int) (e_4 : List V) (f_5 : Fl) (K : V → S → Option R) : bodyV C (Φ_zcw N) (Λ_zaz_0 N) 78 Tryd.f78 [.agg [.list 7 e_1 f_2, .int .i64 x_3], .list 2 e_4 f_5] [] K =
  gb_zaz N e_1 f_2 x_3 e_4 f_5 (fun b_6 => K (.bool b_6) []) := by kernel_rfl
theorem loops_zaz {N : Nat} (hC : Ok Tryd.prog C) (hΦ : CalleeOk Tryd.prog C (Φ_zcw N)) : LoopsOk Tryd.prog C (Λ_zaz_0 N) c_zaz [] :=
  loopsOk_of c_zaz [] (by
    rw [at_zaz]
    intro p hp
    simp only [List.mem_cons, List.mem_nil_iff, or_false] at hp
    rcases hp with rfl
    · exact (ok_zaz_0 hC hΦ))
theorem callee_zaz (hC : Ok Tryd.prog C) {N : Nat} (hΦ : CalleeOk Tryd.prog C (Φ_zcw N)) : CalleeOk Tryd.prog C (Φ_zaz N) := by
  refine hΦ.add_pure rfl fun R vs K r h => ?_
  unfold f_zaz at h
  obtain ⟨_, _, rfl, h1⟩ := asN2_some h
  obtain ⟨_, _, _, rfl, h2⟩ := un_impl_Fs_some h1
  obtain ⟨_, _, rfl, h3⟩ := asList_some h2
  obtain ⟨_, h4⟩ := asEnd_some h3
  refine body_pure (fn := Tryd.f78) (c := c_zaz) hC hΦ Tryd.func78 (by kernel_rfl) (by kernel_rfl) (loops_zaz (N := N) hC hΦ) rfl rfl ?_
  refine (b_zaz N _ _ _ _ _ _).trans ?_
  rw [← g_zaz_eq]
  exact h4
noncomputable def f_zda (N : Nat) : (R : Type) → List V → S → (V → S → Option R) → Option R := fun _ vs s K =>
  asN2 vs fun v'1 v'2 => un_impl_Fs v'1 fun e_1 f_2 x_3 => un_impl_Node v'2 fun x_4 x_5 x_6 x_7 x_8 w_9 e_10 f_11 => asEnd s <| g_zda N e_1 f_2 x_3 x_4 x_5 x_6 x_7 x_8 w_9 e_10 f_11 (fun b_12 => K (.bool b_12) [])
noncomputable def Φ_zda (N : Nat) : Callee := (Φ_zaz N).add 54 (f_zda N)
noncomputable def c_zda : Code := bodyOf Tryd.f54
theorem b_zda {R : Type} (N : Nat) (e_1 : List V) (f_2 : Fl) (x_3 x_4 x_5 x_6 x_7 x_8 : Int) (w_9 : ByteArray) (e_10 : List V) (f_11 : Fl) (K : V → S → Option R) : bodyV C (Φ_zaz N) (noLooper) 54 Tryd.f54 [.agg [.list 7 e_1 f_2, .int .i64 x_3], .agg [.int .i64 x_4, .int .i64 x_5, .int .i64 x_6, .int .i64 x_7, .int .i64 x_8, .str w_9, .list 2 e_10 f_11]] [] K =
  gb_zda N e_1 f_2 x_3 x_4 x_5 x_6 x_7 x_8 w_9 e_10 f_11 (fun b_12 => K (.bool b_12) []) := by kernel_rfl
theorem callee_zda (hC : Ok Tryd.prog C) {N : Nat} (hΦ : CalleeOk Tryd.prog C (Φ_zaz N)) : CalleeOk Tryd.prog C (Φ_zda N) := by
  refine hΦ.add_pure rfl fun R vs K r h => ?_
  unfold f_zda at h
  obtain ⟨_, _, rfl, h1⟩ := asN2_some h
  obtain ⟨_, _, _, rfl, h2⟩ := un_impl_Fs_some h1
  obtain ⟨_, _, _, _, _, _, _, _, rfl, h3⟩ := un_impl_Node_some h2
  obtain ⟨_, h4⟩ := asEnd_some h3
  refine body_pure (fn := Tryd.f54) (c := c_zda) hC hΦ Tryd.func54 (by kernel_rfl) (by kernel_rfl) (loopsOk_nil (Λ := noLooper) (by kernel_rfl)) rfl rfl ?_
  refine (b_zda N _ _ _ _ _ _ _ _ _ _ _ _).trans ?_
  rw [← g_zda_eq]
  exact h4
noncomputable def f_zdd (N : Nat) : (R : Type) → List V → S → (V → S → Option R) → Option R := fun _ vs s K =>
  asN2 vs fun v'1 v'2 => asList 1 v'1 fun e_1 f_2 => asInt .i64 v'2 fun x_3 => asEnd s <| g_zdd N e_1 f_2 x_3 (fun b_4 => K (.bool b_4) [])
noncomputable def Φ_zdd (N : Nat) : Callee := (Φ_zda N).add 56 (f_zdd N)
noncomputable def c_zdd : Code := bodyOf Tryd.f56
noncomputable def b_zdd_0 : Code := (loopNo c_zdd [] 0).2
def ks_zdd_0 : List Nat := butL 17 [1, 7, 8, 9]
def kx_zdd_0 : List Nat := butL 17 [4]
def fr_zdd_0 (x_1 : Int) (e_2 : List V) (f_3 : Fl) (x_4 x_5 : Int) : List V := mkF 0 17 [(1, .int .i64 x_1), (7, .list 1 e_2 f_3), (8, .int .i64 x_4), (9, .int .i64 x_5)]
def kk0_zdd_0 {R : Type} (K : X → List V → S → Option R) (x_1 : Int) (e_2 : List V) (f_3 : Fl) (x_4 : Int) : Unit → Option R := (fun _ => K .ret (mkF 0 17 [(4, .bool true)]) [])
def kk1_zdd_0 {R : Type} (K : X → List V → S → Option R) (x_1 : Int) (e_2 : List V) (f_3 : Fl) (x_4 : Int) : Unit → Option R := (fun _ => K (.exit 0) (mkF 0 17 []) [])
noncomputable abbrev it_zdd_0 {R : Type} (N : Nat) : Nat → List V → S → (X → List V → S → Option R) → Option R := fun n => iter C (Φ_zda N) (noLooper) b_zdd_0 [0, 1, 0, 1] false ks_zdd_0 kx_zdd_0 n R
theorem r_zdd_0 {R : Type} (N n : Nat) (x_1 : Int) (e_2 : List V) (f_3 : Fl) (x_4 : Int) (x_5 : Int) (K : X → List V → S → Option R) :
  it_zdd_0 N (n + 1) (fr_zdd_0 x_1 e_2 f_3 x_4 x_5) [] K =
  l_zdd_0_step N x_1 e_2 f_3 x_4 (fun x_5 => it_zdd_0 N n (fr_zdd_0 x_1 e_2 f_3 x_4 x_5) [] K) x_5 (kk0_zdd_0 K x_1 e_2 f_3 x_4) (kk1_zdd_0 K x_1 e_2 f_3 x_4) := by kernel_rfl
theorem w_zdd_0 {R : Type} (N : Nat) (x_1 : Int) (e_2 : List V) (f_3 : Fl) (x_4 : Int) (K : X → List V → S → Option R) : ∀ (n : Nat) (x_5 : Int),
  it_zdd_0 N n (fr_zdd_0 x_1 e_2 f_3 x_4 x_5) [] K = l_zdd_0 N x_1 e_2 f_3 x_4 (kk0_zdd_0 K x_1 e_2 f_3 x_4) (kk1_zdd_0 K x_1 e_2 f_3 x_4) n x_5
  | 0, _ => rfl
  | n + 1, x_5 => (r_zdd_0 N n x_1 e_2 f_3 x_4 x_5 K).trans (congrArg (fun nx => l_zdd_0_step N x_1 e_2 f_3 x_4 nx x_5 (kk0_zdd_0 K x_1 e_2 f_3 x_4) (kk1_zdd_0 K x_1 e_2 f_3 x_4)) (funext fun x_5 => w_zdd_0 N x_1 e_2 f_3 x_4 K n x_5))
def i_zdd_0 {R : Type} (E : List V) (s : S) (k : Int → List V → Fl → Int → Int → Option R) : Option R :=
  guardB (frameOk 17 [1, 7, 8, 9] E) <| atInt E 1 .i64 fun x_1 => atList E 7 1 fun e_2 f_3 => atInt E 8 .i64 fun x_4 => atInt E 9 .i64 fun x_5 => asEnd s <| k x_1 e_2 f_3 x_4 x_5
theorem i_zdd_0_spec {R : Type} {E : List V} {s : S} {k : Int → List V → Fl → Int → Int → Option R} {r : R} (h : i_zdd_0 E s k = some r) : ∃ x_1 e_2 f_3 x_4 x_5, E = fr_zdd_0 x_1 e_2 f_3 x_4 x_5 ∧ s = [] ∧ k x_1 e_2 f_3 x_4 x_5 = some r := by
  unfold i_zdd_0 at h
  obtain ⟨hg, h1⟩ := guardB_some h
  obtain ⟨_, hu1, h2⟩ := atInt_some h1
  obtain ⟨_, _, hu7, h3⟩ := atList_some h2
  obtain ⟨_, hu8, h4⟩ := atInt_some h3
  obtain ⟨_, hu9, h5⟩ := atInt_some h4
  obtain ⟨rfl, h6⟩ := asEnd_some h5
  exact ⟨_, _, _, _, _, frame_is hg rfl (slots_cons hu1 (slots_cons hu7 (slots_cons hu8 (slots_cons hu9 slots_nil)))), rfl, h6⟩
noncomputable def Λ_zdd_0 (N : Nat) : Looper := (noLooper).add [0, 1, 0, 1] fun _ E s K => i_zdd_0 (killE ks_zdd_0 E) s fun x_1 e_2 f_3 x_4 x_5 => l_zdd_0 N x_1 e_2 f_3 x_4 (kk0_zdd_0 K x_1 e_2 f_3 x_4) (kk1_zdd_0 K x_1 e_2 f_3 x_4) N x_5
theorem ok_zdd_0 {N : Nat} (hC : Ok Tryd.prog C) (hΦ : CalleeOk Tryd.prog C (Φ_zda N)) : LoopOk Tryd.prog C (Λ_zdd_0 N) b_zdd_0 [0, 1, 0, 1] :=
  iter_ok (Λi := noLooper) (tr := false) (ks := ks_zdd_0) (kx := kx_zdd_0) (N := N) hC hΦ
    (loopsOk_nil (by kernel_rfl))
    fun R E s K r h => by
      have h2 := Looper.add_self.symm.trans h
      obtain ⟨_, _, _, _, _, he, rfl, h3⟩ := i_zdd_0_spec h2
      rw [he]
      exact (w_zdd_0 N _ _ _ _ _ N _).trans h3
theorem at_zdd : loopsAt c_zdd [] = [([0, 1, 0, 1], b_zdd_0)] := by kernel_rfl
theorem b_zdd {R : Type} (N : Nat) (e_1 : List V) (f_2 : Fl) (x_3 : Int) (K : V → S → Option R) : bodyV C (Φ_zda N) (Λ_zdd_0 N) 56 Tryd.f56 [.list 1 e_1 f_2, .int .i64 x_3] [] K =
  gb_zdd N e_1 f_2 x_3 (fun b_4 => K (.bool b_4) []) := by kernel_rfl
theorem loops_zdd {N : Nat} (hC : Ok Tryd.prog C) (hΦ : CalleeOk Tryd.prog C (Φ_zda N)) : LoopsOk Tryd.prog C (Λ_zdd_0 N) c_zdd [] :=
  loopsOk_of c_zdd [] (by
    rw [at_zdd]
    intro p hp
    simp only [List.mem_cons, List.mem_nil_iff, or_false] at hp
    rcases hp with rfl
    · exact (ok_zdd_0 hC hΦ))
theorem callee_zdd (hC : Ok Tryd.prog C) {N : Nat} (hΦ : CalleeOk Tryd.prog C (Φ_zda N)) : CalleeOk Tryd.prog C (Φ_zdd N) := by
  refine hΦ.add_pure rfl fun R vs K r h => ?_
  unfold f_zdd at h
  obtain ⟨_, _, rfl, h1⟩ := asN2_some h
  obtain ⟨_, _, rfl, h2⟩ := asList_some h1
  obtain ⟨_, rfl, h3⟩ := asInt_some h2
  obtain ⟨_, h4⟩ := asEnd_some h3
  refine body_pure (fn := Tryd.f56) (c := c_zdd) hC hΦ Tryd.func56 (by kernel_rfl) (by kernel_rfl) (loops_zdd (N := N) hC hΦ) rfl rfl ?_
  refine (b_zdd N _ _ _ _).trans ?_
  rw [← g_zdd_eq]
  exact h4
noncomputable def f_zdf (N : Nat) : (R : Type) → List V → S → (V → S → Option R) → Option R := fun _ vs s K =>
  asN2 vs fun v'1 v'2 => asList 1 v'1 fun e_1 f_2 => asInt .i64 v'2 fun x_3 => asEnd s <| g_zdf N e_1 f_2 x_3 (fun e_4 => K (.list 1 e_4 .sh) [])
noncomputable def Φ_zdf (N : Nat) : Callee := (Φ_zdd N).add 79 (f_zdf N)
noncomputable def c_zdf : Code := bodyOf Tryd.f79
noncomputable def b_zdf_0 : Code := (loopNo c_zdf [] 0).2
def ks_zdf_0 : List Nat := butL 48 [0, 1, 5]
def kx_zdf_0 : List Nat := butL 48 [0, 1, 5]
def fr_zdf_0 (e_1 : List V) (f_2 : Fl) (x_3 x_4 : Int) : List V := mkF 0 48 [(0, .list 1 e_1 f_2), (1, .int .i64 x_3), (5, .int .i64 x_4)]
def kk0_zdf_0 {R : Type} (K : X → List V → S → Option R) (e_1 : List V) (f_2 : Fl) (x_3 : Int) : Int → Option R := (fun x_1' => K (.exit 0) (mkF 0 48 [(0, .list 1 e_1 f_2), (1, .int .i64 x_3), (5, .int .i64 (x_1'))]) [])
noncomputable abbrev it_zdf_0 {R : Type} (N : Nat) : Nat → List V → S → (X → List V → S → Option R) → Option R := fun n => iter C (Φ_zdd N) (noLooper) b_zdf_0 [0, 0, 1, 1] false ks_zdf_0 kx_zdf_0 n R
theorem r_zdf_0 {R : Type} (N n : Nat) (e_1 : List V) (f_2 : Fl) (x_3 : Int) (x_4 : Int) (K : X → List V → S → Option R) :
  it_zdf_0 N (n + 1) (fr_zdf_0 e_1 f_2 x_3 x_4) [] K =
  l_zdf_0_step N e_1 f_2 x_3 (fun x_4 => it_zdf_0 N n (fr_zdf_0 e_1 f_2 x_3 x_4) [] K) x_4 (kk0_zdf_0 K e_1 f_2 x_3) := by kernel_rfl
theorem w_zdf_0 {R : Type} (N : Nat) (e_1 : List V) (f_2 : Fl) (x_3 : Int) (K : X → List V → S → Option R) : ∀ (n : Nat) (x_4 : Int),
  it_zdf_0 N n (fr_zdf_0 e_1 f_2 x_3 x_4) [] K = l_zdf_0 N e_1 f_2 x_3 (kk0_zdf_0 K e_1 f_2 x_3) n x_4
  | 0, _ => rfl
  | n + 1, x_4 => (r_zdf_0 N n e_1 f_2 x_3 x_4 K).trans (congrArg (fun nx => l_zdf_0_step N e_1 f_2 x_3 nx x_4 (kk0_zdf_0 K e_1 f_2 x_3)) (funext fun x_4 => w_zdf_0 N e_1 f_2 x_3 K n x_4))
def i_zdf_0 {R : Type} (E : List V) (s : S) (k : List V → Fl → Int → Int → Option R) : Option R :=
  guardB (frameOk 48 [0, 1, 5] E) <| atList E 0 1 fun e_1 f_2 => atInt E 1 .i64 fun x_3 => atInt E 5 .i64 fun x_4 => asEnd s <| k e_1 f_2 x_3 x_4
theorem i_zdf_0_spec {R : Type} {E : List V} {s : S} {k : List V → Fl → Int → Int → Option R} {r : R} (h : i_zdf_0 E s k = some r) : ∃ e_1 f_2 x_3 x_4, E = fr_zdf_0 e_1 f_2 x_3 x_4 ∧ s = [] ∧ k e_1 f_2 x_3 x_4 = some r := by
  unfold i_zdf_0 at h
  obtain ⟨hg, h1⟩ := guardB_some h
  obtain ⟨_, _, hu0, h2⟩ := atList_some h1
  obtain ⟨_, hu1, h3⟩ := atInt_some h2
  obtain ⟨_, hu5, h4⟩ := atInt_some h3
  obtain ⟨rfl, h5⟩ := asEnd_some h4
  exact ⟨_, _, _, _, frame_is hg rfl (slots_cons hu0 (slots_cons hu1 (slots_cons hu5 slots_nil))), rfl, h5⟩
noncomputable def Λ_zdf_0 (N : Nat) : Looper := (noLooper).add [0, 0, 1, 1] fun _ E s K => i_zdf_0 (killE ks_zdf_0 E) s fun e_1 f_2 x_3 x_4 => l_zdf_0 N e_1 f_2 x_3 (kk0_zdf_0 K e_1 f_2 x_3) N x_4
theorem ok_zdf_0 {N : Nat} (hC : Ok Tryd.prog C) (hΦ : CalleeOk Tryd.prog C (Φ_zdd N)) : LoopOk Tryd.prog C (Λ_zdf_0 N) b_zdf_0 [0, 0, 1, 1] :=
  iter_ok (Λi := noLooper) (tr := false) (ks := ks_zdf_0) (kx := kx_zdf_0) (N := N) hC hΦ
    (loopsOk_nil (by kernel_rfl))
    fun R E s K r h => by
      have h2 := Looper.add_self.symm.trans h
      obtain ⟨_, _, _, _, he, rfl, h3⟩ := i_zdf_0_spec h2
      rw [he]
      exact (w_zdf_0 N _ _ _ _ N _).trans h3
theorem at_zdf : loopsAt c_zdf [] = [([0, 0, 1, 1], b_zdf_0)] := by kernel_rfl
theorem b_zdf {R : Type} (N : Nat) (e_1 : List V) (f_2 : Fl) (x_3 : Int) (K : V → S → Option R) : bodyV C (Φ_zdd N) (Λ_zdf_0 N) 79 Tryd.f79 [.list 1 e_1 f_2, .int .i64 x_3] [] K =
  gb_zdf N e_1 f_2 x_3 (fun e_4 => K (.list 1 e_4 .sh) []) := by kernel_rfl
theorem loops_zdf {N : Nat} (hC : Ok Tryd.prog C) (hΦ : CalleeOk Tryd.prog C (Φ_zdd N)) : LoopsOk Tryd.prog C (Λ_zdf_0 N) c_zdf [] :=
  loopsOk_of c_zdf [] (by
    rw [at_zdf]
    intro p hp
    simp only [List.mem_cons, List.mem_nil_iff, or_false] at hp
    rcases hp with rfl
    · exact (ok_zdf_0 hC hΦ))
theorem callee_zdf (hC : Ok Tryd.prog C) {N : Nat} (hΦ : CalleeOk Tryd.prog C (Φ_zdd N)) : CalleeOk Tryd.prog C (Φ_zdf N) := by
  refine hΦ.add_pure rfl fun R vs K r h => ?_
  unfold f_zdf at h
  obtain ⟨_, _, rfl, h1⟩ := asN2_some h
  obtain ⟨_, _, rfl, h2⟩ := asList_some h1
  obtain ⟨_, rfl, h3⟩ := asInt_some h2
  obtain ⟨_, h4⟩ := asEnd_some h3
  refine body_pure (fn := Tryd.f79) (c := c_zdf) hC hΦ Tryd.func79 (by kernel_rfl) (by kernel_rfl) (loops_zdf (N := N) hC hΦ) rfl rfl ?_
  refine (b_zdf N _ _ _ _).trans ?_
  rw [← g_zdf_eq]
  exact h4
noncomputable def f_zdg (N M : Nat) : (R : Type) → List V → S → (V → S → Option R) → Option R := fun _ vs s K =>
  asN3 vs fun v'1 v'2 v'3 => un_impl_Fs v'1 fun e_1 f_2 x_3 => asInt .i64 v'2 fun x_4 => asList 1 v'3 fun e_5 f_6 => asEnd s <| g_zdg N M _ e_1 f_2 x_3 x_4 e_5 f_6 (fun e_7 => K (.list 1 e_7 .sh) [])
noncomputable def Φ_zdg (N M : Nat) : Callee := (Φ_zdf N).add 55 (f_zdg N M)
noncomputable def c_zdg : Code := bodyOf Tryd.f55
noncomputable def b_zdg_0 : Code := (loopNo c_zdg [] 0).2
def ks_zdg_0 : List Nat := butL 34 [2, 3, 21, 22, 23]
def kx_zdg_0 : List Nat := butL 34 [2]
def fr_zdg_0 (e_2 : List V) (f_3 : Fl) (x_4 : Int) (e_6 : List V) (f_7 : Fl) (x_8 : Int) (e_1 : List V) (x_5 : Int) : List V := mkF 0 34 [(2, .list 1 e_1 .sh), (3, .ptr 0 0 0 0), (21, .list 2 e_2 f_3), (22, .int .i64 x_4), (23, .int .i64 x_5)]
def kk0_zdg_0 {R : Type} (K : X → List V → S → Option R) (e_2 : List V) (f_3 : Fl) (x_4 : Int) (e_6 : List V) (f_7 : Fl) (x_8 : Int) : List V → Option R := (fun e_1' => K (.exit 0) (mkF 0 34 [(2, .list 1 (e_1') .sh)]) [some ⟨[.agg [.list 7 e_6 f_7, .int .i64 x_8]], 2, 32, 0⟩])
noncomputable abbrev it_zdg_0 {R : Type} (N M : Nat) : Nat → List V → S → (X → List V → S → Option R) → Option R := fun n => iter C (Φ_zdg N M) (noLooper) b_zdg_0 [0, 1, 0, 1, 1, 1] true ks_zdg_0 kx_zdg_0 n R
theorem r_zdg_0 {R : Type} (N M n : Nat) (e_2 : List V) (f_3 : Fl) (x_4 : Int) (e_6 : List V) (f_7 : Fl) (x_8 : Int) (e_1 : List V) (x_5 : Int) (K : X → List V → S → Option R) :
  it_zdg_0 N M (n + 1) (fr_zdg_0 e_2 f_3 x_4 e_6 f_7 x_8 e_1 x_5) [some ⟨[.agg [.list 7 e_6 f_7, .int .i64 x_8]], 2, 32, 0⟩] K =
  l_zdg_0_step N (g_zdg N M) e_2 f_3 x_4 e_6 f_7 x_8 (fun e_1 x_5 => it_zdg_0 N M n (fr_zdg_0 e_2 f_3 x_4 e_6 f_7 x_8 e_1 x_5) [some ⟨[.agg [.list 7 e_6 f_7, .int .i64 x_8]], 2, 32, 0⟩] K) e_1 x_5 (kk0_zdg_0 K e_2 f_3 x_4 e_6 f_7 x_8) := by kernel_rfl
theorem w_zdg_0 {R : Type} (N M : Nat) (e_2 : List V) (f_3 : Fl) (x_4 : Int) (e_6 : List V) (f_7 : Fl) (x_8 : Int) (K : X → List V → S → Option R) : ∀ (n : Nat) (e_1 : List V) (x_5 : Int),
  it_zdg_0 N M n (fr_zdg_0 e_2 f_3 x_4 e_6 f_7 x_8 e_1 x_5) [some ⟨[.agg [.list 7 e_6 f_7, .int .i64 x_8]], 2, 32, 0⟩] K = l_zdg_0 N (g_zdg N M) e_2 f_3 x_4 e_6 f_7 x_8 (kk0_zdg_0 K e_2 f_3 x_4 e_6 f_7 x_8) n e_1 x_5
  | 0, _, _ => rfl
  | n + 1, e_1, x_5 => (r_zdg_0 N M n e_2 f_3 x_4 e_6 f_7 x_8 e_1 x_5 K).trans (congrArg (fun nx => l_zdg_0_step N (g_zdg N M) e_2 f_3 x_4 e_6 f_7 x_8 nx e_1 x_5 (kk0_zdg_0 K e_2 f_3 x_4 e_6 f_7 x_8)) (funext fun e_1 => funext fun x_5 => w_zdg_0 N M e_2 f_3 x_4 e_6 f_7 x_8 K n e_1 x_5))
def i_zdg_0 {R : Type} (E : List V) (s : S) (k : List V → List V → Fl → Int → Int → List V → Fl → Int → Option R) : Option R :=
  guardB (frameOk 34 [2, 3, 21, 22, 23] E) <| must (nth E 2) fun u2 => asList 1 u2 fun e_1 f'1 => asSh f'1 <| atIs E 3 (.ptr 0 0 0 0) <| atList E 21 2 fun e_2 f_3 => atInt E 22 .i64 fun x_4 => atInt E 23 .i64 fun x_5 => asOb s fun o'2 s'3 => obIs o'2 2 32 fun e'4 k'5 => isN k'5 0 <| asN1 e'4 fun v'6 => asAgg v'6 fun c'7 => asN2 c'7 fun v'8 v'9 => asList 7 v'8 fun e_6 f_7 => asInt .i64 v'9 fun x_8 => asEnd s'3 <| k e_1 e_2 f_3 x_4 x_5 e_6 f_7 x_8
theorem i_zdg_0_spec {R : Type} {E : List V} {s : S} {k : List V → List V → Fl → Int → Int → List V → Fl → Int → Option R} {r : R} (h : i_zdg_0 E s k = some r) : ∃ e_1 e_2 f_3 x_4 x_5 e_6 f_7 x_8, E = fr_zdg_0 e_2 f_3 x_4 e_6 f_7 x_8 e_1 x_5 ∧ s = [some ⟨[.agg [.list 7 e_6 f_7, .int .i64 x_8]], 2, 32, 0⟩] ∧ k e_1 e_2 f_3 x_4 x_5 e_6 f_7 x_8 = some r := by
  unfold i_zdg_0 at h
  obtain ⟨hg, h1⟩ := guardB_some h
  obtain ⟨_, hu2, h2⟩ := must_some h1
  obtain ⟨_, _, rfl, h3⟩ := asList_some h2
  obtain ⟨rfl, h4⟩ := asSh_some h3
  obtain ⟨hu3, h5⟩ := atIs_some h4
  obtain ⟨_, _, hu21, h6⟩ := atList_some h5
  obtain ⟨_, hu22, h7⟩ := atInt_some h6
  obtain ⟨_, hu23, h8⟩ := atInt_some h7
  obtain ⟨_, _, rfl, h9⟩ := asOb_some h8
  obtain ⟨_, _, rfl, h10⟩ := obIs_some h9
  obtain ⟨rfl, h11⟩ := isN_some h10
  obtain ⟨_, rfl, h12⟩ := asN1_some h11
  obtain ⟨_, rfl, h13⟩ := asAgg_some h12
  obtain ⟨_, _, rfl, h14⟩ := asN2_some h13
  obtain ⟨_, _, rfl, h15⟩ := asList_some h14
  obtain ⟨_, rfl, h16⟩ := asInt_some h15
  obtain ⟨rfl, h17⟩ := asEnd_some h16
  exact ⟨_, _, _, _, _, _, _, _, frame_is hg rfl (slots_cons hu2 (slots_cons hu3 (slots_cons hu21 (slots_cons hu22 (slots_cons hu23 slots_nil))))), rfl, h17⟩
noncomputable def Λ_zdg_0 (N M : Nat) : Looper := (noLooper).add [0, 1, 0, 1, 1, 1] fun _ E s K => i_zdg_0 (killE ks_zdg_0 E) s fun e_1 e_2 f_3 x_4 x_5 e_6 f_7 x_8 => l_zdg_0 N (g_zdg N M) e_2 f_3 x_4 e_6 f_7 x_8 (kk0_zdg_0 K e_2 f_3 x_4 e_6 f_7 x_8) N e_1 x_5
theorem ok_zdg_0 {N M : Nat} (hC : Ok Tryd.prog C) (hΦ : CalleeOk Tryd.prog C (Φ_zdg N M)) : LoopOk Tryd.prog C (Λ_zdg_0 N M) b_zdg_0 [0, 1, 0, 1, 1, 1] :=
  iter_ok (Λi := noLooper) (tr := true) (ks := ks_zdg_0) (kx := kx_zdg_0) (N := N) hC hΦ
    (loopsOk_nil (by kernel_rfl))
    fun R E s K r h => by
      have h2 := Looper.add_self.symm.trans h
      obtain ⟨_, _, _, _, _, _, _, _, he, rfl, h3⟩ := i_zdg_0_spec h2
      rw [he]
      exact (w_zdg_0 N M _ _ _ _ _ _ _ N _ _).trans h3
theorem at_zdg : loopsAt c_zdg [] = [([0, 1, 0, 1, 1, 1], b_zdg_0)] := by kernel_rfl
theorem b_zdg {R : Type} (N M : Nat) (e_1 : List V) (f_2 : Fl) (x_3 x_4 : Int) (e_5 : List V) (f_6 : Fl) (K : V → S → Option R) : bodyV C (Φ_zdg N M) (Λ_zdg_0 N M) 55 Tryd.f55 [.agg [.list 7 e_1 f_2, .int .i64 x_3], .int .i64 x_4, .list 1 e_5 f_6] [] K =
  gb_zdg N (g_zdg N M) e_1 f_2 x_3 x_4 e_5 f_6 (fun e_7 => K (.list 1 e_7 .sh) []) := by kernel_rfl
theorem loops_zdg {N M : Nat} (hC : Ok Tryd.prog C) (hΦ : CalleeOk Tryd.prog C (Φ_zdg N M)) : LoopsOk Tryd.prog C (Λ_zdg_0 N M) c_zdg [] :=
  loopsOk_of c_zdg [] (by
    rw [at_zdg]
    intro p hp
    simp only [List.mem_cons, List.mem_nil_iff, or_false] at hp
    rcases hp with rfl
    · exact (ok_zdg_0 hC hΦ))
theorem callee_zdg_M (hC : Ok Tryd.prog C) {N : Nat} (hΦ : CalleeOk Tryd.prog C (Φ_zdf N)) : ∀ M, CalleeOk Tryd.prog C (Φ_zdg N M) := by
  intro M
  induction M with
  | zero =>
    refine hΦ.add_pure rfl fun R vs K r h => ?_
    exfalso
    unfold f_zdg at h
    obtain ⟨_, _, _, rfl, h1⟩ := asN3_some h
    obtain ⟨_, _, _, rfl, h2⟩ := un_impl_Fs_some h1
    obtain ⟨_, rfl, h3⟩ := asInt_some h2
    obtain ⟨_, _, rfl, h4⟩ := asList_some h3
    obtain ⟨_, h5⟩ := asEnd_some h4
    rw [g_zdg_zero] at h5
    cases h5
  | succ M ih =>
    refine hΦ.add_pure rfl fun R vs K r h => ?_
    unfold f_zdg at h
    obtain ⟨_, _, _, rfl, h1⟩ := asN3_some h
    obtain ⟨_, _, _, rfl, h2⟩ := un_impl_Fs_some h1
    obtain ⟨_, rfl, h3⟩ := asInt_some h2
    obtain ⟨_, _, rfl, h4⟩ := asList_some h3
    obtain ⟨_, h5⟩ := asEnd_some h4
    refine body_pure (fn := Tryd.f55) (c := c_zdg) hC ih Tryd.func55 (by kernel_rfl) (by kernel_rfl) (loops_zdg (N := N) (M := M) hC ih) rfl rfl ?_
    refine (b_zdg N M _ _ _ _ _ _ _).trans ?_
    rw [← g_zdg_eq]
    exact h5
theorem callee_zdg (hC : Ok Tryd.prog C) {N : Nat} (hΦ : CalleeOk Tryd.prog C (Φ_zdf N)) : CalleeOk Tryd.prog C (Φ_zdg N N) := callee_zdg_M hC hΦ N
noncomputable def f_zcz (N : Nat) : (R : Type) → List V → S → (V → S → Option R) → Option R := fun _ vs s K =>
  asN1 vs fun v'1 => un_impl_Fs v'1 fun e_1 f_2 x_3 => asEnd s <| g_zcz N e_1 f_2 x_3 (fun b_4 => K (.bool b_4) [])
noncomputable def Φ_zcz (N : Nat) : Callee := (Φ_zdg N N).add 32 (f_zcz N)
noncomputable def c_zcz : Code := bodyOf Tryd.f32
noncomputable def b_zcz_0 : Code := (loopNo c_zcz [] 0).2
noncomputable def b_zcz_1 : Code := (loopNo c_zcz [] 1).2
def ks_zcz_0 : List Nat := butL 91 [1, 36, 37, 38]
def kx_zcz_0 : List Nat := butL 91 [1, 2]
def fr_zcz_0 (e_1 : List V) (f_2 : Fl) (x_3 : Int) (e_5 : List V) (f_6 : Fl) (x_7 x_4 : Int) : List V := mkF 0 91 [(1, .ptr 0 0 0 0), (36, .list 7 e_1 f_2), (37, .int .i64 x_3), (38, .int .i64 x_4)]
def kk0_zcz_0 {R : Type} (K : X → List V → S → Option R) (e_1 : List V) (f_2 : Fl) (x_3 : Int) (e_5 : List V) (f_6 : Fl) (x_7 : Int) : Unit → Option R := (fun _ => K .ret (mkF 0 91 [(1, .ptr 0 0 0 0), (2, .bool false)]) [some ⟨[.agg [.list 7 e_5 f_6, .int .i64 x_7]], 2, 32, 0⟩])
def kk1_zcz_0 {R : Type} (K : X → List V → S → Option R) (e_1 : List V) (f_2 : Fl) (x_3 : Int) (e_5 : List V) (f_6 : Fl) (x_7 : Int) : Unit → Option R := (fun _ => K (.exit 0) (mkF 0 91 [(1, .ptr 0 0 0 0)]) [some ⟨[.agg [.list 7 e_5 f_6, .int .i64 x_7]], 2, 32, 0⟩])
noncomputable abbrev it_zcz_0 {R : Type} (N : Nat) : Nat → List V → S → (X → List V → S → Option R) → Option R := fun n => iter C (Φ_zdg N N) (noLooper) b_zcz_0 [0, 1, 0, 1, 1] true ks_zcz_0 kx_zcz_0 n R
theorem r_zcz_0 {R : Type} (N n : Nat) (e_1 : List V) (f_2 : Fl) (x_3 : Int) (e_5 : List V) (f_6 : Fl) (x_7 : Int) (x_4 : Int) (K : X → List V → S → Option R) :
  it_zcz_0 N (n + 1) (fr_zcz_0 e_1 f_2 x_3 e_5 f_6 x_7 x_4) [some ⟨[.agg [.list 7 e_5 f_6, .int .i64 x_7]], 2, 32, 0⟩] K =
  l_zcz_0_step N e_1 f_2 x_3 e_5 f_6 x_7 (fun x_4 => it_zcz_0 N n (fr_zcz_0 e_1 f_2 x_3 e_5 f_6 x_7 x_4) [some ⟨[.agg [.list 7 e_5 f_6, .int .i64 x_7]], 2, 32, 0⟩] K) x_4 (kk0_zcz_0 K e_1 f_2 x_3 e_5 f_6 x_7) (kk1_zcz_0 K e_1 f_2 x_3 e_5 f_6 x_7) := by kernel_rfl
theorem w_zcz_0 {R : Type} (N : Nat) (e_1 : List V) (f_2 : Fl) (x_3 : Int) (e_5 : List V) (f_6 : Fl) (x_7 : Int) (K : X → List V → S → Option R) : ∀ (n : Nat) (x_4 : Int),
  it_zcz_0 N n (fr_zcz_0 e_1 f_2 x_3 e_5 f_6 x_7 x_4) [some ⟨[.agg [.list 7 e_5 f_6, .int .i64 x_7]], 2, 32, 0⟩] K = l_zcz_0 N e_1 f_2 x_3 e_5 f_6 x_7 (kk0_zcz_0 K e_1 f_2 x_3 e_5 f_6 x_7) (kk1_zcz_0 K e_1 f_2 x_3 e_5 f_6 x_7) n x_4
  | 0, _ => rfl
  | n + 1, x_4 => (r_zcz_0 N n e_1 f_2 x_3 e_5 f_6 x_7 x_4 K).trans (congrArg (fun nx => l_zcz_0_step N e_1 f_2 x_3 e_5 f_6 x_7 nx x_4 (kk0_zcz_0 K e_1 f_2 x_3 e_5 f_6 x_7) (kk1_zcz_0 K e_1 f_2 x_3 e_5 f_6 x_7)) (funext fun x_4 => w_zcz_0 N e_1 f_2 x_3 e_5 f_6 x_7 K n x_4))
def i_zcz_0 {R : Type} (E : List V) (s : S) (k : List V → Fl → Int → Int → List V → Fl → Int → Option R) : Option R :=
  guardB (frameOk 91 [1, 36, 37, 38] E) <| atIs E 1 (.ptr 0 0 0 0) <| atList E 36 7 fun e_1 f_2 => atInt E 37 .i64 fun x_3 => atInt E 38 .i64 fun x_4 => asOb s fun o'1 s'2 => obIs o'1 2 32 fun e'3 k'4 => isN k'4 0 <| asN1 e'3 fun v'5 => asAgg v'5 fun c'6 => asN2 c'6 fun v'7 v'8 => asList 7 v'7 fun e_5 f_6 => asInt .i64 v'8 fun x_7 => asEnd s'2 <| k e_1 f_2 x_3 x_4 e_5 f_6 x_7
theorem i_zcz_0_spec {R : Type} {E : List V} {s : S} {k : List V → Fl → Int → Int → List V → Fl → Int → Option R} {r : R} (h : i_zcz_0 E s k = some r) : ∃ e_1 f_2 x_3 x_4 e_5 f_6 x_7, E = fr_zcz_0 e_1 f_2 x_3 e_5 f_6 x_7 x_4 ∧ s = [some ⟨[.agg [.list 7 e_5 f_6, .int .i64 x_7]], 2, 32, 0⟩] ∧ k e_1 f_2 x_3 x_4 e_5 f_6 x_7 = some r := by
  unfold i_zcz_0 at h
  obtain ⟨hg, h1⟩ := guardB_some h
  obtain ⟨hu1, h2⟩ := atIs_some h1
  obtain ⟨_, _, hu36, h3⟩ := atList_some h2
  obtain ⟨_, hu37, h4⟩ := atInt_some h3
  obtain ⟨_, hu38, h5⟩ := atInt_some h4
  obtain ⟨_, _, rfl, h6⟩ := asOb_some h5
  obtain ⟨_, _, rfl, h7⟩ := obIs_some h6
  obtain ⟨rfl, h8⟩ := isN_some h7
  obtain ⟨_, rfl, h9⟩ := asN1_some h8
  obtain ⟨_, rfl, h10⟩ := asAgg_some h9
  obtain ⟨_, _, rfl, h11⟩ := asN2_some h10
  obtain ⟨_, _, rfl, h12⟩ := asList_some h11
  obtain ⟨_, rfl, h13⟩ := asInt_some h12
  obtain ⟨rfl, h14⟩ := asEnd_some h13
  exact ⟨_, _, _, _, _, _, _, frame_is hg rfl (slots_cons hu1 (slots_cons hu36 (slots_cons hu37 (slots_cons hu38 slots_nil)))), rfl, h14⟩
noncomputable def Λ_zcz_0 (N : Nat) : Looper := (noLooper).add [0, 1, 0, 1, 1] fun _ E s K => i_zcz_0 (killE ks_zcz_0 E) s fun e_1 f_2 x_3 x_4 e_5 f_6 x_7 => l_zcz_0 N e_1 f_2 x_3 e_5 f_6 x_7 (kk0_zcz_0 K e_1 f_2 x_3 e_5 f_6 x_7) (kk1_zcz_0 K e_1 f_2 x_3 e_5 f_6 x_7) N x_4
theorem ok_zcz_0 {N : Nat} (hC : Ok Tryd.prog C) (hΦ : CalleeOk Tryd.prog C (Φ_zdg N N)) : LoopOk Tryd.prog C (Λ_zcz_0 N) b_zcz_0 [0, 1, 0, 1, 1] :=
  iter_ok (Λi := noLooper) (tr := true) (ks := ks_zcz_0) (kx := kx_zcz_0) (N := N) hC hΦ
    (loopsOk_nil (by kernel_rfl))
    fun R E s K r h => by
      have h2 := Looper.add_self.symm.trans h
      obtain ⟨_, _, _, _, _, _, _, he, rfl, h3⟩ := i_zcz_0_spec h2
      rw [he]
      exact (w_zcz_0 N _ _ _ _ _ _ _ N _).trans h3
def ks_zcz_1 : List Nat := butL 91 [1, 5, 50, 51, 52]
def kx_zcz_1 : List Nat := butL 91 [2]
def fr_zcz_1 (e_1 e_2 : List V) (f_3 : Fl) (x_4 : Int) (e_6 : List V) (f_7 : Fl) (x_8 x_5 : Int) : List V := mkF 0 91 [(1, .ptr 0 0 0 0), (5, .list 1 e_1 .sh), (50, .list 7 e_2 f_3), (51, .int .i64 x_4), (52, .int .i64 x_5)]
def kk0_zcz_1 {R : Type} (K : X → List V → S → Option R) (e_1 : List V) (e_2 : List V) (f_3 : Fl) (x_4 : Int) (e_6 : List V) (f_7 : Fl) (x_8 : Int) : Unit → Option R := (fun _ => K .ret (mkF 0 91 [(2, .bool false)]) [some ⟨[.agg [.list 7 e_6 f_7, .int .i64 x_8]], 2, 32, 0⟩])
def kk1_zcz_1 {R : Type} (K : X → List V → S → Option R) (e_1 : List V) (e_2 : List V) (f_3 : Fl) (x_4 : Int) (e_6 : List V) (f_7 : Fl) (x_8 : Int) : Unit → Option R := (fun _ => K (.exit 2) (mkF 0 91 []) [some ⟨[.agg [.list 7 e_6 f_7, .int .i64 x_8]], 2, 32, 0⟩])
noncomputable abbrev it_zcz_1 {R : Type} (N : Nat) : Nat → List V → S → (X → List V → S → Option R) → Option R := fun n => iter C (Φ_zdg N N) (Λ_zcz_0 N) b_zcz_1 [0, 1, 0, 1, 1, 1, 1] true ks_zcz_1 kx_zcz_1 n R
theorem r_zcz_1 {R : Type} (N n : Nat) (e_1 e_2 : List V) (f_3 : Fl) (x_4 : Int) (e_6 : List V) (f_7 : Fl) (x_8 : Int) (x_5 : Int) (K : X → List V → S → Option R) :
  it_zcz_1 N (n + 1) (fr_zcz_1 e_1 e_2 f_3 x_4 e_6 f_7 x_8 x_5) [some ⟨[.agg [.list 7 e_6 f_7, .int .i64 x_8]], 2, 32, 0⟩] K =
  l_zcz_1_step N e_1 e_2 f_3 x_4 e_6 f_7 x_8 (fun x_5 => it_zcz_1 N n (fr_zcz_1 e_1 e_2 f_3 x_4 e_6 f_7 x_8 x_5) [some ⟨[.agg [.list 7 e_6 f_7, .int .i64 x_8]], 2, 32, 0⟩] K) x_5 (kk0_zcz_1 K e_1 e_2 f_3 x_4 e_6 f_7 x_8) (kk1_zcz_1 K e_1 e_2 f_3 x_4 e_6 f_7 x_8) := by kernel_rfl
theorem w_zcz_1 {R : Type} (N : Nat) (e_1 e_2 : List V) (f_3 : Fl) (x_4 : Int) (e_6 : List V) (f_7 : Fl) (x_8 : Int) (K : X → List V → S → Option R) : ∀ (n : Nat) (x_5 : Int),
  it_zcz_1 N n (fr_zcz_1 e_1 e_2 f_3 x_4 e_6 f_7 x_8 x_5) [some ⟨[.agg [.list 7 e_6 f_7, .int .i64 x_8]], 2, 32, 0⟩] K = l_zcz_1 N e_1 e_2 f_3 x_4 e_6 f_7 x_8 (kk0_zcz_1 K e_1 e_2 f_3 x_4 e_6 f_7 x_8) (kk1_zcz_1 K e_1 e_2 f_3 x_4 e_6 f_7 x_8) n x_5
  | 0, _ => rfl
  | n + 1, x_5 => (r_zcz_1 N n e_1 e_2 f_3 x_4 e_6 f_7 x_8 x_5 K).trans (congrArg (fun nx => l_zcz_1_step N e_1 e_2 f_3 x_4 e_6 f_7 x_8 nx x_5 (kk0_zcz_1 K e_1 e_2 f_3 x_4 e_6 f_7 x_8) (kk1_zcz_1 K e_1 e_2 f_3 x_4 e_6 f_7 x_8)) (funext fun x_5 => w_zcz_1 N e_1 e_2 f_3 x_4 e_6 f_7 x_8 K n x_5))
def i_zcz_1 {R : Type} (E : List V) (s : S) (k : List V → List V → Fl → Int → Int → List V → Fl → Int → Option R) : Option R :=
  guardB (frameOk 91 [1, 5, 50, 51, 52] E) <| atIs E 1 (.ptr 0 0 0 0) <| must (nth E 5) fun u5 => asList 1 u5 fun e_1 f'1 => asSh f'1 <| atList E 50 7 fun e_2 f_3 => atInt E 51 .i64 fun x_4 => atInt E 52 .i64 fun x_5 => asOb s fun o'2 s'3 => obIs o'2 2 32 fun e'4 k'5 => isN k'5 0 <| asN1 e'4 fun v'6 => asAgg v'6 fun c'7 => asN2 c'7 fun v'8 v'9 => asList 7 v'8 fun e_6 f_7 => asInt .i64 v'9 fun x_8 => asEnd s'3 <| k e_1 e_2 f_3 x_4 x_5 e_6 f_7 x_8
theorem i_zcz_1_spec {R : Type} {E : List V} {s : S} {k : List V → List V → Fl → Int → Int → List V → Fl → Int → Option R} {r : R} (h : i_zcz_1 E s k = some r) : ∃ e_1 e_2 f_3 x_4 x_5 e_6 f_7 x_8, E = fr_zcz_1 e_1 e_2 f_3 x_4 e_6 f_7 x_8 x_5 ∧ s = [some ⟨[.agg [.list 7 e_6 f_7, .int .i64 x_8]], 2, 32, 0⟩] ∧ k e_1 e_2 f_3 x_4 x_5 e_6 f_7 x_8 = some r := by
  unfold i_zcz_1 at h
  obtain ⟨hg, h1⟩ := guardB_some h
  obtain ⟨hu1, h2⟩ := atIs_some h1
  obtain ⟨_, hu5, h3⟩ := must_some h2
  obtain ⟨_, _, rfl, h4⟩ := asList_some h3
  obtain ⟨rfl, h5⟩ := asSh_some h4
  obtain ⟨_, _, hu50, h6⟩ := atList_some h5
  obtain ⟨_, hu51, h7⟩ := atInt_some h6
  obtain ⟨_, hu52, h8⟩ := atInt_some h7
  obtain ⟨_, _, rfl, h9⟩ := asOb_some h8
  obtain ⟨_, _, rfl, h10⟩ := obIs_some h9
  obtain ⟨rfl, h11⟩ := isN_some h10
  obtain ⟨_, rfl, h12⟩ := asN1_some h11
  obtain ⟨_, rfl, h13⟩ := asAgg_some h12
  obtain ⟨_, _, rfl, h14⟩ := asN2_some h13
  obtain ⟨_, _, rfl, h15⟩ := asList_some h14
  obtain ⟨_, rfl, h16⟩ := asInt_some h15
  obtain ⟨rfl, h17⟩ := asEnd_some h16
  exact ⟨_, _, _, _, _, _, _, _, frame_is hg rfl (slots_cons hu1 (slots_cons hu5 (slots_cons hu50 (slots_cons hu51 (slots_cons hu52 slots_nil))))), rfl, h17⟩
noncomputable def Λ_zcz_1 (N : Nat) : Looper := (Λ_zcz_0 N).add [0, 1, 0, 1, 1, 1, 1] fun _ E s K => i_zcz_1 (killE ks_zcz_1 E) s fun e_1 e_2 f_3 x_4 x_5 e_6 f_7 x_8 => l_zcz_1 N e_1 e_2 f_3 x_4 e_6 f_7 x_8 (kk0_zcz_1 K e_1 e_2 f_3 x_4 e_6 f_7 x_8) (kk1_zcz_1 K e_1 e_2 f_3 x_4 e_6 f_7 x_8) N x_5
theorem ok_zcz_1 {N : Nat} (hC : Ok Tryd.prog C) (hΦ : CalleeOk Tryd.prog C (Φ_zdg N N)) : LoopOk Tryd.prog C (Λ_zcz_1 N) b_zcz_1 [0, 1, 0, 1, 1, 1, 1] :=
  iter_ok (Λi := Λ_zcz_0 N) (tr := true) (ks := ks_zcz_1) (kx := kx_zcz_1) (N := N) hC hΦ
    (loopsOk_nil (by kernel_rfl))
    fun R E s K r h => by
      have h2 := Looper.add_self.symm.trans h
      obtain ⟨_, _, _, _, _, _, _, _, he, rfl, h3⟩ := i_zcz_1_spec h2
      rw [he]
      exact (w_zcz_1 N _ _ _ _ _ _ _ _ N _).trans h3
theorem at_zcz : loopsAt c_zcz [] = [([0, 1, 0, 1, 1], b_zcz_0), ([0, 1, 0, 1, 1, 1, 1], b_zcz_1)] := by kernel_rfl
theorem b_zcz {R : Type} (N : Nat) (e_1 : List V) (f_2 : Fl) (x_3 : Int) (K : V → S → Option R) : bodyV C (Φ_zdg N N) (Λ_zcz_1 N) 32 Tryd.f32 [.agg [.list 7 e_1 f_2, .int .i64 x_3]] [] K =
  gb_zcz N e_1 f_2 x_3 (fun b_4 => K (.bool b_4) []) := by kernel_rfl
theorem loops_zcz {N : Nat} (hC : Ok Tryd.prog C) (hΦ : CalleeOk Tryd.prog C (Φ_zdg N N)) : LoopsOk Tryd.prog C (Λ_zcz_1 N) c_zcz [] :=
  loopsOk_of c_zcz [] (by
    rw [at_zcz]
    intro p hp
    simp only [List.mem_cons, List.mem_nil_iff, or_false] at hp
    rcases hp with rfl | rfl
    · exact (LoopOk.add (ok_zcz_0 hC hΦ) rfl)
    · exact (ok_zcz_1 hC hΦ))
theorem callee_zcz (hC : Ok Tryd.prog C) {N : Nat} (hΦ : CalleeOk Tryd.prog C (Φ_zdg N N)) : CalleeOk Tryd.prog C (Φ_zcz N) := by
  refine hΦ.add_pure rfl fun R vs K r h => ?_
  unfold f_zcz at h
  obtain ⟨_, rfl, h1⟩ := asN1_some h
  obtain ⟨_, _, _, rfl, h2⟩ := un_impl_Fs_some h1
  obtain ⟨_, h3⟩ := asEnd_some h2
  refine body_pure (fn := Tryd.f32) (c := c_zcz) hC hΦ Tryd.func32 (by kernel_rfl) (by kernel_rfl) (loops_zcz (N := N) hC hΦ) rfl rfl ?_
  refine (b_zcz N _ _ _ _).trans ?_
  rw [← g_zcz_eq]
  exact h3
noncomputable def f_zcv (N : Nat) : (R : Type) → List V → S → (V → S → Option R) → Option R := fun _ vs s K =>
  asN1 vs fun v'1 => un_impl_Cred v'1 fun x_1 x_2 => asEnd s <| g_zcv N x_1 x_2 (fun b_3 => K (.bool b_3) [])
noncomputable def Φ_zcv (N : Nat) : Callee := (Φ_zcz N).add 33 (f_zcv N)
noncomputable def c_zcv : Code := bodyOf Tryd.f33
theorem b_zcv {R : Type} (N : Nat) (x_1 x_2 : Int) (K : V → S → Option R) : bodyV C (Φ_zcz N) (noLooper) 33 Tryd.f33 [.agg [.int .i64 x_1, .int .i64 x_2]] [] K =
  gb_zcv N x_1 x_2 (fun b_3 => K (.bool b_3) []) := by kernel_rfl
theorem callee_zcv (hC : Ok Tryd.prog C) {N : Nat} (hΦ : CalleeOk Tryd.prog C (Φ_zcz N)) : CalleeOk Tryd.prog C (Φ_zcv N) := by
  refine hΦ.add_pure rfl fun R vs K r h => ?_
  unfold f_zcv at h
  obtain ⟨_, rfl, h1⟩ := asN1_some h
  obtain ⟨_, _, rfl, h2⟩ := un_impl_Cred_some h1
  obtain ⟨_, h3⟩ := asEnd_some h2
  refine body_pure (fn := Tryd.f33) (c := c_zcv) hC hΦ Tryd.func33 (by kernel_rfl) (by kernel_rfl) (loopsOk_nil (Λ := noLooper) (by kernel_rfl)) rfl rfl ?_
  refine (b_zcv N _ _ _).trans ?_
  rw [← g_zcv_eq]
  exact h3
noncomputable def f_zcf (N : Nat) : (R : Type) → List V → S → (V → S → Option R) → Option R := fun _ vs s K =>
  asN2 vs fun v'1 v'2 => un_impl_Fs v'1 fun e_1 f_2 x_3 => un_impl_Cred v'2 fun x_4 x_5 => asEnd s <| g_zcf N e_1 f_2 x_3 x_4 x_5 (fun b_6 => K (.bool b_6) [])
noncomputable def Φ_zcf (N : Nat) : Callee := (Φ_zcv N).add 21 (f_zcf N)
noncomputable def c_zcf : Code := bodyOf Tryd.f21
theorem b_zcf {R : Type} (N : Nat) (e_1 : List V) (f_2 : Fl) (x_3 x_4 x_5 : Int) (K : V → S → Option R) : bodyV C (Φ_zcv N) (noLooper) 21 Tryd.f21 [.agg [.list 7 e_1 f_2, .int .i64 x_3], .agg [.int .i64 x_4, .int .i64 x_5]] [] K =
  gb_zcf N e_1 f_2 x_3 x_4 x_5 (fun b_6 => K (.bool b_6) []) := by kernel_rfl
theorem callee_zcf (hC : Ok Tryd.prog C) {N : Nat} (hΦ : CalleeOk Tryd.prog C (Φ_zcv N)) : CalleeOk Tryd.prog C (Φ_zcf N) := by
  refine hΦ.add_pure rfl fun R vs K r h => ?_
  unfold f_zcf at h
  obtain ⟨_, _, rfl, h1⟩ := asN2_some h
  obtain ⟨_, _, _, rfl, h2⟩ := un_impl_Fs_some h1
  obtain ⟨_, _, rfl, h3⟩ := un_impl_Cred_some h2
  obtain ⟨_, h4⟩ := asEnd_some h3
  refine body_pure (fn := Tryd.f21) (c := c_zcf) hC hΦ Tryd.func21 (by kernel_rfl) (by kernel_rfl) (loopsOk_nil (Λ := noLooper) (by kernel_rfl)) rfl rfl ?_
  refine (b_zcf N _ _ _ _ _ _).trans ?_
  rw [← g_zcf_eq]
  exact h4
noncomputable def f_zcc (N : Nat) : (R : Type) → List V → S → (V → S → Option R) → Option R := fun _ vs s K =>
  asN1 vs fun v'1 => asStr v'1 fun w_1 => asEnd s <| g_zcc N w_1 (fun b_2 => K (.bool b_2) [])
noncomputable def Φ_zcc (N : Nat) : Callee := (Φ_zcf N).add 34 (f_zcc N)
noncomputable def c_zcc : Code := bodyOf Tryd.f34
theorem b_zcc {R : Type} (N : Nat) (w_1 : ByteArray) (K : V → S → Option R) : bodyV C (Φ_zcf N) (noLooper) 34 Tryd.f34 [.str w_1] [] K =
  gb_zcc N w_1 (fun b_2 => K (.bool b_2) []) := by kernel_rfl
theorem callee_zcc (hC : Ok Tryd.prog C) {N : Nat} (hΦ : CalleeOk Tryd.prog C (Φ_zcf N)) : CalleeOk Tryd.prog C (Φ_zcc N) := by
  refine hΦ.add_pure rfl fun R vs K r h => ?_
  unfold f_zcc at h
  obtain ⟨_, rfl, h1⟩ := asN1_some h
  obtain ⟨_, rfl, h2⟩ := asStr_some h1
  obtain ⟨_, h3⟩ := asEnd_some h2
  refine body_pure (fn := Tryd.f34) (c := c_zcc) hC hΦ Tryd.func34 (by kernel_rfl) (by kernel_rfl) (loopsOk_nil (Λ := noLooper) (by kernel_rfl)) rfl rfl ?_
  refine (b_zcc N _ _).trans ?_
  rw [← g_zcc_eq]
  exact h3
noncomputable def f_zde (N : Nat) : (R : Type) → List V → S → (V → S → Option R) → Option R := fun _ vs s K =>
  asN5 vs fun v'1 v'2 v'3 v'4 v'5 => un_impl_Cred v'1 fun x_1 x_2 => asInt .i64 v'2 fun x_3 => asInt .i64 v'3 fun x_4 => asInt .i64 v'4 fun x_5 => asInt .i64 v'5 fun x_6 => asEnd s <| g_zde N x_1 x_2 x_3 x_4 x_5 x_6 (fun b_7 => K (.bool b_7) [])
noncomputable def Φ_zde (N : Nat) : Callee := (Φ_zcc N).add 75 (f_zde N)
noncomputable def c_zde : Code := bodyOf Tryd.f75
theorem b_zde {R : Type} (N : Nat) (x_1 x_2 x_3 x_4 x_5 x_6 : Int) (K : V → S → Option R) : bodyV C (Φ_zcc N) (noLooper) 75 Tryd.f75 [.agg [.int .i64 x_1, .int .i64 x_2], .int .i64 x_3, .int .i64 x_4, .int .i64 x_5, .int .i64 x_6] [] K =
  gb_zde N x_1 x_2 x_3 x_4 x_5 x_6 (fun b_7 => K (.bool b_7) []) := by kernel_rfl
theorem callee_zde (hC : Ok Tryd.prog C) {N : Nat} (hΦ : CalleeOk Tryd.prog C (Φ_zcc N)) : CalleeOk Tryd.prog C (Φ_zde N) := by
  refine hΦ.add_pure rfl fun R vs K r h => ?_
  unfold f_zde at h
  obtain ⟨_, _, _, _, _, rfl, h1⟩ := asN5_some h
  obtain ⟨_, _, rfl, h2⟩ := un_impl_Cred_some h1
  obtain ⟨_, rfl, h3⟩ := asInt_some h2
  obtain ⟨_, rfl, h4⟩ := asInt_some h3
  obtain ⟨_, rfl, h5⟩ := asInt_some h4
  obtain ⟨_, rfl, h6⟩ := asInt_some h5
  obtain ⟨_, h7⟩ := asEnd_some h6
  refine body_pure (fn := Tryd.f75) (c := c_zde) hC hΦ Tryd.func75 (by kernel_rfl) (by kernel_rfl) (loopsOk_nil (Λ := noLooper) (by kernel_rfl)) rfl rfl ?_
  refine (b_zde N _ _ _ _ _ _ _).trans ?_
  rw [← g_zde_eq]
  exact h7
noncomputable def f_zdh (N : Nat) : (R : Type) → List V → S → (V → S → Option R) → Option R := fun _ vs s K =>
  asN4 vs fun v'1 v'2 v'3 v'4 => un_impl_Fs v'1 fun e_1 f_2 x_3 => un_impl_Cred v'2 fun x_4 x_5 => asInt .i64 v'3 fun x_6 => asInt .i64 v'4 fun x_7 => asEnd s <| g_zdh N e_1 f_2 x_3 x_4 x_5 x_6 x_7 (fun b_8 => K (.bool b_8) [])
noncomputable def Φ_zdh (N : Nat) : Callee := (Φ_zde N).add 49 (f_zdh N)
noncomputable def c_zdh : Code := bodyOf Tryd.f49
theorem b_zdh {R : Type} (N : Nat) (e_1 : List V) (f_2 : Fl) (x_3 x_4 x_5 x_6 x_7 : Int) (K : V → S → Option R) : bodyV C (Φ_zde N) (noLooper) 49 Tryd.f49 [.agg [.list 7 e_1 f_2, .int .i64 x_3], .agg [.int .i64 x_4, .int .i64 x_5], .int .i64 x_6, .int .i64 x_7] [] K =
  gb_zdh N e_1 f_2 x_3 x_4 x_5 x_6 x_7 (fun b_8 => K (.bool b_8) []) := by kernel_rfl
theorem callee_zdh (hC : Ok Tryd.prog C) {N : Nat} (hΦ : CalleeOk Tryd.prog C (Φ_zde N)) : CalleeOk Tryd.prog C (Φ_zdh N) := by
  refine hΦ.add_pure rfl fun R vs K r h => ?_
  unfold f_zdh at h
  obtain ⟨_, _, _, _, rfl, h1⟩ := asN4_some h
  obtain ⟨_, _, _, rfl, h2⟩ := un_impl_Fs_some h1
  obtain ⟨_, _, rfl, h3⟩ := un_impl_Cred_some h2
  obtain ⟨_, rfl, h4⟩ := asInt_some h3
  obtain ⟨_, rfl, h5⟩ := asInt_some h4
  obtain ⟨_, h6⟩ := asEnd_some h5
  refine body_pure (fn := Tryd.f49) (c := c_zdh) hC hΦ Tryd.func49 (by kernel_rfl) (by kernel_rfl) (loopsOk_nil (Λ := noLooper) (by kernel_rfl)) rfl rfl ?_
  refine (b_zdh N _ _ _ _ _ _ _ _).trans ?_
  rw [← g_zdh_eq]
  exact h6
noncomputable def f_zbl (N : Nat) : (R : Type) → List V → S → (V → S → Option R) → Option R := fun _ vs s K =>
  asN2 vs fun v'1 v'2 => un_impl_Fs v'1 fun e_1 f_2 x_3 => asInt .i64 v'2 fun x_4 => asEnd s <| g_zbl N e_1 f_2 x_3 x_4 (fun x_5 => K (.int .i64 x_5) [])
noncomputable def Φ_zbl (N : Nat) : Callee := (Φ_zdh N).add 59 (f_zbl N)
noncomputable def c_zbl : Code := bodyOf Tryd.f59
noncomputable def b_zbl_1 : Code := (loopNo c_zbl [] 0).2
noncomputable def b_zbl_0 : Code := (loopNo b_zbl_1 (0 :: [0, 1, 0, 1]) 0).2
def ks_zbl_0 : List Nat := butL 31 [1, 5, 10, 11, 12, 18, 19, 20]
def kx_zbl_0 : List Nat := butL 31 [1, 4, 10, 11, 12]
def fr_zbl_0 (x_1 x_2 : Int) (e_3 : List V) (f_4 : Fl) (x_5 x_6 : Int) (e_7 : List V) (f_8 : Fl) (x_9 : Int) (e_11 : List V) (f_12 : Fl) (x_13 x_14 x_15 x_16 x_17 x_18 : Int) (w_19 : ByteArray) (e_20 : List V) (f_21 : Fl) (x_10 : Int) : List V := mkF 0 31 [(1, .int .i64 x_1), (5, .int .i64 x_2), (10, .list 7 e_3 f_4), (11, .int .i64 x_5), (12, .int .i64 x_6), (18, .list 2 e_7 f_8), (19, .int .i64 x_9), (20, .int .i64 x_10)]
def kk0_zbl_0 {R : Type} (K : X → List V → S → Option R) (x_1 : Int) (x_2 : Int) (e_3 : List V) (f_4 : Fl) (x_5 : Int) (x_6 : Int) (e_7 : List V) (f_8 : Fl) (x_9 : Int) (e_11 : List V) (f_12 : Fl) (x_13 : Int) (x_14 : Int) (x_15 : Int) (x_16 : Int) (x_17 : Int) (x_18 : Int) (w_19 : ByteArray) (e_20 : List V) (f_21 : Fl) : Unit → Option R := (fun _ => K .ret (mkF 0 31 [(1, .int .i64 x_1), (4, .int .i64 x_2), (10, .list 7 e_3 f_4), (11, .int .i64 x_5), (12, .int .i64 x_6)]) [some ⟨[.agg [.list 7 e_11 f_12, .int .i64 x_13]], 2, 32, 0⟩, some ⟨[.agg [.int .i64 x_14, .int .i64 x_15, .int .i64 x_16, .int .i64 x_17, .int .i64 x_18, .str w_19, .list 2 e_20 f_21]], 7, 55, 0⟩])
def kk1_zbl_0 {R : Type} (K : X → List V → S → Option R) (x_1 : Int) (x_2 : Int) (e_3 : List V) (f_4 : Fl) (x_5 : Int) (x_6 : Int) (e_7 : List V) (f_8 : Fl) (x_9 : Int) (e_11 : List V) (f_12 : Fl) (x_13 : Int) (x_14 : Int) (x_15 : Int) (x_16 : Int) (x_17 : Int) (x_18 : Int) (w_19 : ByteArray) (e_20 : List V) (f_21 : Fl) : Unit → Option R := (fun _ => K (.exit 2) (mkF 0 31 [(1, .int .i64 x_1), (10, .list 7 e_3 f_4), (11, .int .i64 x_5), (12, .int .i64 x_6)]) [some ⟨[.agg [.list 7 e_11 f_12, .int .i64 x_13]], 2, 32, 0⟩, some ⟨[.agg [.int .i64 x_14, .int .i64 x_15, .int .i64 x_16, .int .i64 x_17, .int .i64 x_18, .str w_19, .list 2 e_20 f_21]], 7, 55, 0⟩])
noncomputable abbrev it_zbl_0 {R : Type} (N : Nat) : Nat → List V → S → (X → List V → S → Option R) → Option R := fun n => iter C (Φ_zdh N) (noLooper) b_zbl_0 [0, 1, 1, 0, 0, 1, 1, 0, 0, 1, 0, 1] true ks_zbl_0 kx_zbl_0 n R
theorem r_zbl_0 {R : Type} (N n : Nat) (x_1 x_2 : Int) (e_3 : List V) (f_4 : Fl) (x_5 x_6 : Int) (e_7 : List V) (f_8 : Fl) (x_9 : Int) (e_11 : List V) (f_12 : Fl) (x_13 x_14 x_15 x_16 x_17 x_18 : Int) (w_19 : ByteArray) (e_20 : List V) (f_21 : Fl) (x_10 : Int) (K : X → List V → S → Option R) :
  it_zbl_0 N (n + 1) (fr_zbl_0 x_1 x_2 e_3 f_4 x_5 x_6 e_7 f_8 x_9 e_11 f_12 x_13 x_14 x_15 x_16 x_17 x_18 w_19 e_20 f_21 x_10) [some ⟨[.agg [.list 7 e_11 f_12, .int .i64 x_13]], 2, 32, 0⟩, some ⟨[.agg [.int .i64 x_14, .int .i64 x_15, .int .i64 x_16, .int .i64 x_17, .int .i64 x_18, .str w_19, .list 2 e_20 f_21]], 7, 55, 0⟩] K =
  l_zbl_0_step N x_1 x_2 e_3 f_4 x_5 x_6 e_7 f_8 x_9 e_11 f_12 x_13 x_14 x_15 x_16 x_17 x_18 w_19 e_20 f_21 (fun x_10 => it_zbl_0 N n (fr_zbl_0 x_1 x_2 e_3 f_4 x_5 x_6 e_7 f_8 x_9 e_11 f_12 x_13 x_14 x_15 x_16 x_17 x_18 w_19 e_20 f_21 x_10) [some ⟨[.agg [.list 7 e_11 f_12, .int .i64 x_13]], 2, 32, 0⟩, some ⟨[.agg [.int .i64 x_14, .int .i64 x_15, .int .i64 x_16, .int .i64 x_17, .int .i64 x_18, .str w_19, .list 2 e_20 f_21]], 7, 55, 0⟩] K) x_10 (kk0_zbl_0 K x_1 x_2 e_3 f_4 x_5 x_6 e_7 f_8 x_9 e_11 f_12 x_13 x_14 x_15 x_16 x_17 x_18 w_19 e_20 f_21) (kk1_zbl_0 K x_1 x_2 e_3 f_4 x_5 x_6 e_7 f_8 x_9 e_11 f_12 x_13 x_14 x_15 x_16 x_17 x_18 w_19 e_20 f_21) := by kernel_rfl
theorem w_zbl_0 {R : Type} (N : Nat) (x_1 x_2 : Int) (e_3 : List V) (f_4 : Fl) (x_5 x_6 : Int) (e_7 : List V) (f_8 : Fl) (x_9 : Int) (e_11 : List V) (f_12 : Fl) (x_13 x_14 x_15 x_16 x_17 x_18 : Int) (w_19 : ByteArray) (e_20 : List V) (f_21 : Fl) (K : X → List V → S → Option R) : ∀ (n : Nat) (x_10 : Int),
  it_zbl_0 N n (fr_zbl_0 x_1 x_2 e_3 f_4 x_5 x_6 e_7 f_8 x_9 e_11 f_12 x_13 x_14 x_15 x_16 x_17 x_18 w_19 e_20 f_21 x_10) [some ⟨[.agg [.list 7 e_11 f_12, .int .i64 x_13]], 2, 32, 0⟩, some ⟨[.agg [.int .i64 x_14, .int .i64 x_15, .int .i64 x_16, .int .i64 x_17, .int .i64 x_18, .str w_19, .list 2 e_20 f_21]], 7, 55, 0⟩] K = l_zbl_0 N x_1 x_2 e_3 f_4 x_5 x_6 e_7 f_8 x_9 e_11 f_12 x_13 x_14 x_15 x_16 x_17 x_18 w_19 e_20 f_21 (kk0_zbl_0 K x_1 x_2 e_3 f_4 x_5 x_6 e_7 f_8 x_9 e_11 f_12 x_13 x_14 x_15 x_16 x_17 x_18 w_19 e_20 f_21) (kk1_zbl_0 K x_1 x_2 e_3 f_4 x_5 x_6 e_7 f_8 x_9 e_11 f_12 x_13 x_14 x_15 x_16 x_17 x_18 w_19 e_20 f_21) n x_10
  | 0, _ => rfl
  | n + 1, x_10 => (r_zbl_0 N n x_1 x_2 e_3 f_4 x_5 x_6 e_7 f_8 x_9 e_11 f_12 x_13 x_14 x_15 x_16 x_17 x_18 w_19 e_20 f_21 x_10 K).trans (congrArg (fun nx => l_zbl_0_step N x_1 x_2 e_3 f_4 x_5 x_6 e_7 f_8 x_9 e_11 f_12 x_13 x_14 x_15 x_16 x_17 x_18 w_19 e_20 f_21 nx x_10 (kk0_zbl_0 K x_1 x_2 e_3 f_4 x_5 x_6 e_7 f_8 x_9 e_11 f_12 x_13 x_14 x_15 x_16 x_17 x_18 w_19 e_20 f_21) (kk1_zbl_0 K x_1 x_2 e_3 f_4 x_5 x_6 e_7 f_8 x_9 e_11 f_12 x_13 x_14 x_15 x_16 x_17 x_18 w_19 e_20 f_21)) (funext fun x_10 => w_zbl_0 N x_1 x_2 e_3 f_4 x_5 x_6 e_7 f_8 x_9 e_11 f_12 x_13 x_14 x_15 x_16 x_17 x_18 w_19 e_20 f_21 K n x_10))
def i_zbl_0 {R : Type} (E : List V) (s : S) (k : Int → Int → List V → Fl → Int → Int → List V → Fl → Int → Int → List V → Fl → Int → Int → Int → Int → Int → Int → ByteArray → List V → Fl → Option R) : Option R :=
  guardB (frameOk 31 [1, 5, 10, 11, 12, 18, 19, 20] E) <| atInt E 1 .i64 fun x_1 => atInt E 5 .i64 fun x_2 => atList E 10 7 fun e_3 f_4 => atInt E 11 .i64 fun x_5 => atInt E 12 .i64 fun x_6 => atList E 18 2 fun e_7 f_8 => atInt E 19 .i64 fun x_9 => atInt E 20 .i64 fun x_10 => asOb s fun o'1 s'2 => obIs o'1 2 32 fun e'3 k'4 => isN k'4 0 <| asN1 e'3 fun v'5 => asAgg v'5 fun c'6 => asN2 c'6 fun v'7 v'8 => asList 7 v'7 fun e_11 f_12 => asInt .i64 v'8 fun x_13 => asOb s'2 fun o'9 s'10 => obIs o'9 7 55 fun e'11 k'12 => isN k'12 0 <| asN1 e'11 fun v'13 => asAgg v'13 fun c'14 => asN7 c'14 fun v'15 v'16 v'17 v'18 v'19 v'20 v'21 => asInt .i64 v'15 fun x_14 => asInt .i64 v'16 fun x_15 => asInt .i64 v'17 fun x_16 => asInt .i64 v'18 fun x_17 => asInt .i64 v'19 fun x_18 => asStr v'20 fun w_19 => asList 2 v'21 fun e_20 f_21 => asEnd s'10 <| k x_1 x_2 e_3 f_4 x_5 x_6 e_7 f_8 x_9 x_10 e_11 f_12 x_13 x_14 x_15 x_16 x_17 x_18 w_19 e_20 f_21
theorem i_zbl_0_spec {R : Type} {E : List V} {s : S} {k : Int → Int → List V → Fl → Int → Int → List V → Fl → Int → Int → List V → Fl → Int → Int → Int → Int → Int → Int → ByteArray → List V → Fl → Option R} {r : R} (h : i_zbl_0 E s k = some r) : ∃ x_1 x_2 e_3 f_4 x_5 x_6 e_7 f_8 x_9 x_10 e_11 f_12 x_13 x_14 x_15 x_16 x_17 x_18 w_19 e_20 f_21, E = fr_zbl_0 x_1 x_2 e_3 f_4 x_5 x_6 e_7 f_8 x_9 e_11 f_12 x_13 x_14 x_15 x_16 x_17 x_18 w_19 e_20 f_21 x_10 ∧ s = [some ⟨[.agg [.list 7 e_11 f_12, .int .i64 x_13]], 2, 32, 0⟩, some ⟨[.agg [.int .i64 x_14, .int .i64 x_15, .int .i64 x_16, .int .i64 x_17, .int .i64 x_18, .str w_19, .list 2 e_20 f_21]], 7, 55, 0⟩] ∧ k x_1 x_2 e_3 f_4 x_5 x_6 e_7 f_8 x_9 x_10 e_11 f_12 x_13 x_14 x_15 x_16 x_17 x_18 w_19 e_20 f_21 = some r := by
  unfold i_zbl_0 at h
  obtain ⟨hg, h1⟩ := guardB_some h
  obtain ⟨_, hu1, h2⟩ := atInt_some h1
  obtain ⟨_, hu5, h3⟩ := atInt_some h2
  obtain ⟨_, _, hu10, h4⟩ := atList_some h3
  obtain ⟨_, hu11, h5⟩ := atInt_some h4
  obtain ⟨_, hu12, h6⟩ := atInt_some h5
  obtain ⟨_, _, hu18, h7⟩ := atList_some h6
  obtain ⟨_, hu19, h8⟩ := atInt_some h7
  obtain ⟨_, hu20, h9⟩ := atInt_some h8
  obtain ⟨_, _, rfl, h10⟩ := asOb_some h9
  obtain ⟨_, _, rfl, h11⟩ := obIs_some h10
  obtain ⟨rfl, h12⟩ := isN_some h11
  obtain ⟨_, rfl, h13⟩ := asN1_some h12
  obtain ⟨_, rfl, h14⟩ := asAgg_some h13
  obtain ⟨_, _, rfl, h15⟩ := asN2_some h14
  obtain ⟨_, _, rfl, h16⟩ := asList_some h15
  obtain ⟨_, rfl, h17⟩ := asInt_some h16
  obtain ⟨_, _, rfl, h18⟩ := asOb_some h17
  obtain ⟨_, _, rfl, h19⟩ := obIs_some h18
  obtain ⟨rfl, h20⟩ := isN_some h19
  obtain ⟨_, rfl, h21⟩ := asN1_some h20
  obtain ⟨_, rfl, h22⟩ := asAgg_some h21
  obtain ⟨_, _, _, _, _, _, _, rfl, h23⟩ := asN7_some h22
  obtain ⟨_, rfl, h24⟩ := asInt_some h23
  obtain ⟨_, rfl, h25⟩ := asInt_some h24
  obtain ⟨_, rfl, h26⟩ := asInt_some h25
  obtain ⟨_, rfl, h27⟩ := asInt_some h26
  obtain ⟨_, rfl, h28⟩ := asInt_some h27
  obtain ⟨_, rfl, h29⟩ := asStr_some h28
  obtain ⟨_, _, rfl, h30⟩ := asList_some h29
  obtain ⟨rfl, h31⟩ := asEnd_some h30
  exact ⟨_, _, _, _, _, _, _, _, _, _, _, _, _, _, _, _, _, _, _, _, _, frame_is hg rfl (slots_cons hu1 (slots_cons hu5 (slots_cons hu10 (slots_cons hu11 (slots_cons hu12 (slots_cons hu18 (slots_cons hu19 (slots_cons hu20 slots_nil)))))))), rfl, h31⟩
noncomputable def Λ_zbl_0 (N : Nat) : Looper := (noLooper).add [0, 1, 1, 0, 0, 1, 1, 0, 0, 1, 0, 1] fun _ E s K => i_zbl_0 (killE ks_zbl_0 E) s fun x_1 x_2 e_3 f_4 x_5 x_6 e_7 f_8 x_9 x_10 e_11 f_12 x_13 x_14 x_15 x_16 x_17 x_18 w_19 e_20 f_21 => l_zbl_0 N x_1 x_2 e_3 f_4 x_5 x_6 e_7 f_8 x_9 e_11 f_12 x_13 x_14 x_15 x_16 x_17 x_18 w_19 e_20 f_21 (kk0_zbl_0 K x_1 x_2 e_3 f_4 x_5 x_6 e_7 f_8 x_9 e_11 f_12 x_13 x_14 x_15 x_16 x_17 x_18 w_19 e_20 f_21) (kk1_zbl_0 K x_1 x_2 e_3 f_4 x_5 x_6 e_7 f_8 x_9 e_11 f_12 x_13 x_14 x_15 x_16 x_17 x_18 w_19 e_20 f_21) N x_10
theorem ok_zbl_0 {N : Nat} (hC : Ok Tryd.prog C) (hΦ : CalleeOk Tryd.prog C (Φ_zdh N)) : LoopOk Tryd.prog C (Λ_zbl_0 N) b_zbl_0 [0, 1, 1, 0, 0, 1, 1, 0, 0, 1, 0, 1] :=
  iter_ok (Λi := noLooper) (tr := true) (ks := ks_zbl_0) (kx := kx_zbl_0) (N := N) hC hΦ
    (loopsOk_nil (by kernel_rfl))
    fun R E s K r h => by
      have h2 := Looper.add_self.symm.trans h
      obtain ⟨_, _, _, _, _, _, _, _, _, _, _, _, _, _, _, _, _, _, _, _, _, he, rfl, h3⟩ := i_zbl_0_spec h2
      rw [he]
      exact (w_zbl_0 N _ _ _ _ _ _ _ _ _ _ _ _ _ _ _ _ _ _ _ _ _ N _).trans h3
def ks_zbl_1 : List Nat := butL 31 [1, 10, 11, 12]
def kx_zbl_1 : List Nat := butL 31 [4]
def fr_zbl_1 (x_1 : Int) (e_2 : List V) (f_3 : Fl) (x_4 : Int) (e_6 : List V) (f_7 : Fl) (x_8 x_5 : Int) : List V := mkF 0 31 [(1, .int .i64 x_1), (10, .list 7 e_2 f_3), (11, .int .i64 x_4), (12, .int .i64 x_5)]
def kk0_zbl_1 {R : Type} (K : X → List V → S → Option R) (x_1 : Int) (e_2 : List V) (f_3 : Fl) (x_4 : Int) (e_6 : List V) (f_7 : Fl) (x_8 : Int) : Int → Option R := (fun x_1' => K .ret (mkF 0 31 [(4, .int .i64 (x_1'))]) [some ⟨[.agg [.list 7 e_6 f_7, .int .i64 x_8]], 2, 32, 0⟩])
def kk1_zbl_1 {R : Type} (K : X → List V → S → Option R) (x_1 : Int) (e_2 : List V) (f_3 : Fl) (x_4 : Int) (e_6 : List V) (f_7 : Fl) (x_8 : Int) : Unit → Option R := (fun _ => K (.exit 0) (mkF 0 31 []) [some ⟨[.agg [.list 7 e_6 f_7, .int .i64 x_8]], 2, 32, 0⟩])
noncomputable abbrev it_zbl_1 {R : Type} (N : Nat) : Nat → List V → S → (X → List V → S → Option R) → Option R := fun n => iter C (Φ_zdh N) (Λ_zbl_0 N) b_zbl_1 [0, 1, 0, 1] true ks_zbl_1 kx_zbl_1 n R
theorem r_zbl_1 {R : Type} (N n : Nat) (x_1 : Int) (e_2 : List V) (f_3 : Fl) (x_4 : Int) (e_6 : List V) (f_7 : Fl) (x_8 : Int) (x_5 : Int) (K : X → List V → S → Option R) :
  it_zbl_1 N (n + 1) (fr_zbl_1 x_1 e_2 f_3 x_4 e_6 f_7 x_8 x_5) [some ⟨[.agg [.list 7 e_6 f_7, .int .i64 x_8]], 2, 32, 0⟩] K =
  l_zbl_1_step N x_1 e_2 f_3 x_4 e_6 f_7 x_8 (fun x_5 => it_zbl_1 N n (fr_zbl_1 x_1 e_2 f_3 x_4 e_6 f_7 x_8 x_5) [some ⟨[.agg [.list 7 e_6 f_7, .int .i64 x_8]], 2, 32, 0⟩] K) x_5 (kk0_zbl_1 K x_1 e_2 f_3 x_4 e_6 f_7 x_8) (kk1_zbl_1 K x_1 e_2 f_3 x_4 e_6 f_7 x_8) := by kernel_rfl
theorem w_zbl_1 {R : Type} (N : Nat) (x_1 : Int) (e_2 : List V) (f_3 : Fl) (x_4 : Int) (e_6 : List V) (f_7 : Fl) (x_8 : Int) (K : X → List V → S → Option R) : ∀ (n : Nat) (x_5 : Int),
  it_zbl_1 N n (fr_zbl_1 x_1 e_2 f_3 x_4 e_6 f_7 x_8 x_5) [some ⟨[.agg [.list 7 e_6 f_7, .int .i64 x_8]], 2, 32, 0⟩] K = l_zbl_1 N x_1 e_2 f_3 x_4 e_6 f_7 x_8 (kk0_zbl_1 K x_1 e_2 f_3 x_4 e_6 f_7 x_8) (kk1_zbl_1 K x_1 e_2 f_3 x_4 e_6 f_7 x_8) n x_5
  | 0, _ => rfl
  | n + 1, x_5 => (r_zbl_1 N n x_1 e_2 f_3 x_4 e_6 f_7 x_8 x_5 K).trans (congrArg (fun nx => l_zbl_1_step N x_1 e_2 f_3 x_4 e_6 f_7 x_8 nx x_5 (kk0_zbl_1 K x_1 e_2 f_3 x_4 e_6 f_7 x_8) (kk1_zbl_1 K x_1 e_2 f_3 x_4 e_6 f_7 x_8)) (funext fun x_5 => w_zbl_1 N x_1 e_2 f_3 x_4 e_6 f_7 x_8 K n x_5))
def i_zbl_1 {R : Type} (E : List V) (s : S) (k : Int → List V → Fl → Int → Int → List V → Fl → Int → Option R) : Option R :=
  guardB (frameOk 31 [1, 10, 11, 12] E) <| atInt E 1 .i64 fun x_1 => atList E 10 7 fun e_2 f_3 => atInt E 11 .i64 fun x_4 => atInt E 12 .i64 fun x_5 => asOb s fun o'1 s'2 => obIs o'1 2 32 fun e'3 k'4 => isN k'4 0 <| asN1 e'3 fun v'5 => asAgg v'5 fun c'6 => asN2 c'6 fun v'7 v'8 => asList 7 v'7 fun e_6 f_7 => asInt .i64 v'8 fun x_8 => asEnd s'2 <| k x_1 e_2 f_3 x_4 x_5 e_6 f_7 x_8
theorem i_zbl_1_spec {R : Type} {E : List V} {s : S} {k : Int → List V → Fl → Int → Int → List V → Fl → Int → Option R} {r : R} (h : i_zbl_1 E s k = some r) : ∃ x_1 e_2 f_3 x_4 x_5 e_6 f_7 x_8, E = fr_zbl_1 x_1 e_2 f_3 x_4 e_6 f_7 x_8 x_5 ∧ s = [some ⟨[.agg [.list 7 e_6 f_7, .int .i64 x_8]], 2, 32, 0⟩] ∧ k x_1 e_2 f_3 x_4 x_5 e_6 f_7 x_8 = some r := by
  unfold i_zbl_1 at h
  obtain ⟨hg, h1⟩ := guardB_some h
  obtain ⟨_, hu1, h2⟩ := atInt_some h1
  obtain ⟨_, _, hu10, h3⟩ := atList_some h2
  obtain ⟨_, hu11, h4⟩ := atInt_some h3
  obtain ⟨_, hu12, h5⟩ := atInt_some h4
  obtain ⟨_, _, rfl, h6⟩ := asOb_some h5
  obtain ⟨_, _, rfl, h7⟩ := obIs_some h6
  obtain ⟨rfl, h8⟩ := isN_some h7
  obtain ⟨_, rfl, h9⟩ := asN1_some h8
  obtain ⟨_, rfl, h10⟩ := asAgg_some h9
  obtain ⟨_, _, rfl, h11⟩ := asN2_some h10
  obtain ⟨_, _, rfl, h12⟩ := asList_some h11
  obtain ⟨_, rfl, h13⟩ := asInt_some h12
  obtain ⟨rfl, h14⟩ := asEnd_some h13
  exact ⟨_, _, _, _, _, _, _, _, frame_is hg rfl (slots_cons hu1 (slots_cons hu10 (slots_cons hu11 (slots_cons hu12 slots_nil)))), rfl, h14⟩
noncomputable def Λ_zbl_1 (N : Nat) : Looper := (Λ_zbl_0 N).add [0, 1, 0, 1] fun _ E s K => i_zbl_1 (killE ks_zbl_1 E) s fun x_1 e_2 f_3 x_4 x_5 e_6 f_7 x_8 => l_zbl_1 N x_1 e_2 f_3 x_4 e_6 f_7 x_8 (kk0_zbl_1 K x_1 e_2 f_3 x_4 e_6 f_7 x_8) (kk1_zbl_1 K x_1 e_2 f_3 x_4 e_6 f_7 x_8) N x_5
theorem in_zbl_1 : loopsAt b_zbl_1 (0 :: [0, 1, 0, 1]) = [([0, 1, 1, 0, 0, 1, 1, 0, 0, 1, 0, 1], b_zbl_0)] := by kernel_rfl
theorem ok_zbl_1 {N : Nat} (hC : Ok Tryd.prog C) (hΦ : CalleeOk Tryd.prog C (Φ_zdh N)) : LoopOk Tryd.prog C (Λ_zbl_1 N) b_zbl_1 [0, 1, 0, 1] :=
  iter_ok (Λi := Λ_zbl_0 N) (tr := true) (ks := ks_zbl_1) (kx := kx_zbl_1) (N := N) hC hΦ
    (loopsOk_of b_zbl_1 _ (by
      rw [in_zbl_1]
      intro p hp
      simp only [List.mem_cons, List.mem_nil_iff, or_false] at hp
      rcases hp with rfl
      · exact (ok_zbl_0 hC hΦ)))
    fun R E s K r h => by
      have h2 := Looper.add_self.symm.trans h
      obtain ⟨_, _, _, _, _, _, _, _, he, rfl, h3⟩ := i_zbl_1_spec h2
      rw [he]
      exact (w_zbl_1 N _ _ _ _ _ _ _ _ N _).trans h3
theorem at_zbl : loopsAt c_zbl [] = [([0, 1, 0, 1], b_zbl_1)] := by kernel_rfl
theorem b_zbl {R : Type} (N : Nat) (e_1 : List V) (f_2 : Fl) (x_3 x_4 : Int) (K : V → S → Option R) : bodyV C (Φ_zdh N) (Λ_zbl_1 N) 59 Tryd.f59 [.agg [.list 7 e_1 f_2, .int .i64 x_3], .int .i64 x_4] [] K =
  gb_zbl N e_1 f_2 x_3 x_4 (fun x_5 => K (.int .i64 x_5) []) := by kernel_rfl
theorem loops_zbl {N : Nat} (hC : Ok Tryd.prog C) (hΦ : CalleeOk Tryd.prog C (Φ_zdh N)) : LoopsOk Tryd.prog C (Λ_zbl_1 N) c_zbl [] :=
  loopsOk_of c_zbl [] (by
    rw [at_zbl]
    intro p hp
    simp only [List.mem_cons, List.mem_nil_iff, or_false] at hp
    rcases hp with rfl
    · exact (ok_zbl_1 hC hΦ))
theorem callee_zbl (hC : Ok Tryd.prog C) {N : Nat} (hΦ : CalleeOk Tryd.prog C (Φ_zdh N)) : CalleeOk Tryd.prog C (Φ_zbl N) := by
  refine hΦ.add_pure rfl fun R vs K r h => ?_
  unfold f_zbl at h
  obtain ⟨_, _, rfl, h1⟩ := asN2_some h
  obtain ⟨_, _, _, rfl, h2⟩ := un_impl_Fs_some h1
  obtain ⟨_, rfl, h3⟩ := asInt_some h2
  obtain ⟨_, h4⟩ := asEnd_some h3
  refine body_pure (fn := Tryd.f59) (c := c_zbl) hC hΦ Tryd.func59 (by kernel_rfl) (by kernel_rfl) (loops_zbl (N := N) hC hΦ) rfl rfl ?_
  refine (b_zbl N _ _ _ _ _).trans ?_
  rw [← g_zbl_eq]
  exact h4
noncomputable def f_zdn (N : Nat) : (R : Type) → List V → S → (V → S → Option R) → Option R := fun _ vs s K =>
  asN2 vs fun v'1 v'2 => asList 2 v'1 fun e_1 f_2 => asStr v'2 fun w_3 => asEnd s <| g_zdn N e_1 f_2 w_3 (fun x_4 => K (.int .i64 x_4) [])
noncomputable def Φ_zdn (N : Nat) : Callee := (Φ_zbl N).add 60 (f_zdn N)
noncomputable def c_zdn : Code := bodyOf Tryd.f60
noncomputable def b_zdn_0 : Code := (loopNo c_zdn [] 0).2
def ks_zdn_0 : List Nat := butL 20 [1, 7, 8, 9]
def kx_zdn_0 : List Nat := butL 20 [4]
def fr_zdn_0 (w_1 : ByteArray) (e_2 : List V) (f_3 : Fl) (x_4 x_5 : Int) : List V := mkF 0 20 [(1, .str w_1), (7, .list 2 e_2 f_3), (8, .int .i64 x_4), (9, .int .i64 x_5)]
def kk0_zdn_0 {R : Type} (K : X → List V → S → Option R) (w_1 : ByteArray) (e_2 : List V) (f_3 : Fl) (x_4 : Int) : Int → Option R := (fun x_1' => K .ret (mkF 0 20 [(4, .int .i64 (x_1'))]) [])
def kk1_zdn_0 {R : Type} (K : X → List V → S → Option R) (w_1 : ByteArray) (e_2 : List V) (f_3 : Fl) (x_4 : Int) : Unit → Option R := (fun _ => K (.exit 0) (mkF 0 20 []) [])
noncomputable abbrev it_zdn_0 {R : Type} (N : Nat) : Nat → List V → S → (X → List V → S → Option R) → Option R := fun n => iter C (Φ_zbl N) (noLooper) b_zdn_0 [0, 1, 0, 1] true ks_zdn_0 kx_zdn_0 n R
theorem r_zdn_0 {R : Type} (N n : Nat) (w_1 : ByteArray) (e_2 : List V) (f_3 : Fl) (x_4 : Int) (x_5 : Int) (K : X → List V → S → Option R) :
  it_zdn_0 N (n + 1) (fr_zdn_0 w_1 e_2 f_3 x_4 x_5) [] K =
  l_zdn_0_step N w_1 e_2 f_3 x_4 (fun x_5 => it_zdn_0 N n (fr_zdn_0 w_1 e_2 f_3 x_4 x_5) [] K) x_5 (kk0_zdn_0 K w_1 e_2 f_3 x_4) (kk1_zdn_0 K w_1 e_2 f_3 x_4) := by kernel_rfl
theorem w_zdn_0 {R : Type} (N : Nat) (w_1 : ByteArray) (e_2 : List V) (f_3 : Fl) (x_4 : Int) (K : X → List V → S → Option R) : ∀ (n : Nat) (x_5 : Int),
  it_zdn_0 N n (fr_zdn_0 w_1 e_2 f_3 x_4 x_5) [] K = l_zdn_0 N w_1 e_2 f_3 x_4 (kk0_zdn_0 K w_1 e_2 f_3 x_4) (kk1_zdn_0 K w_1 e_2 f_3 x_4) n x_5
  | 0, _ => rfl
  | n + 1, x_5 => (r_zdn_0 N n w_1 e_2 f_3 x_4 x_5 K).trans (congrArg (fun nx => l_zdn_0_step N w_1 e_2 f_3 x_4 nx x_5 (kk0_zdn_0 K w_1 e_2 f_3 x_4) (kk1_zdn_0 K w_1 e_2 f_3 x_4)) (funext fun x_5 => w_zdn_0 N w_1 e_2 f_3 x_4 K n x_5))
def i_zdn_0 {R : Type} (E : List V) (s : S) (k : ByteArray → List V → Fl → Int → Int → Option R) : Option R :=
  guardB (frameOk 20 [1, 7, 8, 9] E) <| atStr E 1 fun w_1 => atList E 7 2 fun e_2 f_3 => atInt E 8 .i64 fun x_4 => atInt E 9 .i64 fun x_5 => asEnd s <| k w_1 e_2 f_3 x_4 x_5
theorem i_zdn_0_spec {R : Type} {E : List V} {s : S} {k : ByteArray → List V → Fl → Int → Int → Option R} {r : R} (h : i_zdn_0 E s k = some r) : ∃ w_1 e_2 f_3 x_4 x_5, E = fr_zdn_0 w_1 e_2 f_3 x_4 x_5 ∧ s = [] ∧ k w_1 e_2 f_3 x_4 x_5 = some r := by
  unfold i_zdn_0 at h
  obtain ⟨hg, h1⟩ := guardB_some h
  obtain ⟨_, hu1, h2⟩ := atStr_some h1
  obtain ⟨_, _, hu7, h3⟩ := atList_some h2
  obtain ⟨_, hu8, h4⟩ := atInt_some h3
  obtain ⟨_, hu9, h5⟩ := atInt_some h4
  obtain ⟨rfl, h6⟩ := asEnd_some h5
  exact ⟨_, _, _, _, _, frame_is hg rfl (slots_cons hu1 (slots_cons hu7 (slots_cons hu8 (slots_cons hu9 slots_nil)))), rfl, h6⟩
noncomputable def Λ_zdn_0 (N : Nat) : Looper := (noLooper).add [0, 1, 0, 1] fun _ E s K => i_zdn_0 (killE ks_zdn_0 E) s fun w_1 e_2 f_3 x_4 x_5 => l_zdn_0 N w_1 e_2 f_3 x_4 (kk0_zdn_0 K w_1 e_2 f_3 x_4) (kk1_zdn_0 K w_1 e_2 f_3 x_4) N x_5
theorem ok_zdn_0 {N : Nat} (hC : Ok Tryd.prog C) (hΦ : CalleeOk Tryd.prog C (Φ_zbl N)) : LoopOk Tryd.prog C (Λ_zdn_0 N) b_zdn_0 [0, 1, 0, 1] :=
  iter_ok (Λi := noLooper) (tr := true) (ks := ks_zdn_0) (kx := kx_zdn_0) (N := N) hC hΦ
    (loopsOk_nil (by kernel_rfl))
    fun R E s K r h => by
      have h2 := Looper.add_self.symm.trans h
      obtain ⟨_, _, _, _, _, he, rfl, h3⟩ := i_zdn_0_spec h2
      rw [he]
      exact (w_zdn_0 N _ _ _ _ _ N _).trans h3
theorem at_zdn : loopsAt c_zdn [] = [([0, 1, 0, 1], b_zdn_0)] := by kernel_rfl
theorem b_zdn {R : Type} (N : Nat) (e_1 : List V) (f_2 : Fl) (w_3 : ByteArray) (K : V → S → Option R) : bodyV C (Φ_zbl N) (Λ_zdn_0 N) 60 Tryd.f60 [.list 2 e_1 f_2, .str w_3] [] K =
  gb_zdn N e_1 f_2 w_3 (fun x_4 => K (.int .i64 x_4) []) := by kernel_rfl
theorem loops_zdn {N : Nat} (hC : Ok Tryd.prog C) (hΦ : CalleeOk Tryd.prog C (Φ_zbl N)) : LoopsOk Tryd.prog C (Λ_zdn_0 N) c_zdn [] :=
  loopsOk_of c_zdn [] (by
    rw [at_zdn]
    intro p hp
    simp only [List.mem_cons, List.mem_nil_iff, or_false] at hp
    rcases hp with rfl
    · exact (ok_zdn_0 hC hΦ))
theorem callee_zdn (hC : Ok Tryd.prog C) {N : Nat} (hΦ : CalleeOk Tryd.prog C (Φ_zbl N)) : CalleeOk Tryd.prog C (Φ_zdn N) := by
  refine hΦ.add_pure rfl fun R vs K r h => ?_
  unfold f_zdn at h
  obtain ⟨_, _, rfl, h1⟩ := asN2_some h
  obtain ⟨_, _, rfl, h2⟩ := asList_some h1
  obtain ⟨_, rfl, h3⟩ := asStr_some h2
  obtain ⟨_, h4⟩ := asEnd_some h3
  refine body_pure (fn := Tryd.f60) (c := c_zdn) hC hΦ Tryd.func60 (by kernel_rfl) (by kernel_rfl) (loops_zdn (N := N) hC hΦ) rfl rfl ?_
  refine (b_zdn N _ _ _ _).trans ?_
  rw [← g_zdn_eq]
  exact h4
noncomputable def f_zbm (N : Nat) : (R : Type) → List V → S → (V → S → Option R) → Option R := fun _ vs s K =>
  asN2 vs fun v'1 v'2 => asPtr v'1 fun o0 k'4 k'5 k'6 => isN k'4 0 <| isN k'5 0 <| isN k'6 0 <| asBool v'2 fun b_1 => asAt s o0 0 fun o'7 => obIs o'7 7 72 fun e'8 k'9 => isN k'9 0 <| asN1 e'8 fun v'10 => un_spec_l4W v'10 fun e_2 f_3 x_4 x_5 x_6 x_7 e_8 f_9 x_10 => guardB (distinct [o0]) <| guardB (okI 1 [true] [some ⟨[.agg [.list 7 e_2 f_3, .int .i64 x_4, .int .i64 x_5, .int .i64 x_6, .int .i64 x_7, .list 1 e_8 f_9, .int .i64 x_10]], 7, 72, 0⟩]) <| g_zbm N b_1 e_2 f_3 x_4 x_5 x_6 x_7 e_8 f_9 x_10 (fun x_901 e_902 f_903 x_904 x_905 x_906 x_907 e_908 f_909 x_910 => FK s [o0] rl K (.int .i64 x_901) [some ⟨[.agg [.list 7 e_902 f_903, .int .i64 x_904, .int .i64 x_905, .int .i64 x_906, .int .i64 x_907, .list 1 e_908 f_909, .int .i64 x_910]], 7, 72, 0⟩])
noncomputable def Φ_zbm (N : Nat) : Callee := (Φ_zdn N).add 36 (f_zbm N)
noncomputable def c_zbm : Code := bodyOf Tryd.f36
theorem b_zbm {R : Type} (N : Nat) (b_1 : Bool) (e_2 : List V) (f_3 : Fl) (x_4 x_5 x_6 x_7 : Int) (e_8 : List V) (f_9 : Fl) (x_10 : Int) (K : V → S → Option R) : bodyV C (Φ_zdn N) (noLooper) 36 Tryd.f36 [.ptr 0 0 0 0, .bool b_1] [some ⟨[.agg [.list 7 e_2 f_3, .int .i64 x_4, .int .i64 x_5, .int .i64 x_6, .int .i64 x_7, .list 1 e_8 f_9, .int .i64 x_10]], 7, 72, 0⟩] (GK rl 1 K) =
  gb_zbm N b_1 e_2 f_3 x_4 x_5 x_6 x_7 e_8 f_9 x_10 (fun x_901 e_902 f_903 x_904 x_905 x_906 x_907 e_908 f_909 x_910 => K (.int .i64 x_901) [some ⟨[.agg [.list 7 e_902 f_903, .int .i64 x_904, .int .i64 x_905, .int .i64 x_906, .int .i64 x_907, .list 1 e_908 f_909, .int .i64 x_910]], 7, 72, 0⟩]) := by kernel_rfl
theorem callee_zbm (hC : Ok Tryd.prog C) {N : Nat} (hΦ : CalleeOk Tryd.prog C (Φ_zdn N)) : CalleeOk Tryd.prog C (Φ_zbm N) := by
  refine hΦ.add_shared rfl fun R vs s K r h => ?_
  unfold f_zbm at h
  obtain ⟨_, _, rfl, h1⟩ := asN2_some h
  obtain ⟨o0, _, _, _, rfl, h2⟩ := asPtr_some h1
  obtain ⟨rfl, h3⟩ := isN_some h2
  obtain ⟨rfl, h4⟩ := isN_some h3
  obtain ⟨rfl, h5⟩ := isN_some h4
  obtain ⟨b_1, rfl, h6⟩ := asBool_some h5
  obtain ⟨_, hob0, h7⟩ := asAt_some h6
  obtain ⟨_, _, rfl, h8⟩ := obIs_some h7
  obtain ⟨rfl, h9⟩ := isN_some h8
  obtain ⟨_, rfl, h10⟩ := asN1_some h9
  obtain ⟨e_2, f_3, x_4, x_5, x_6, x_7, e_8, f_9, x_10, rfl, h11⟩ := un_spec_l4W_some h10
  obtain ⟨hdist, h12⟩ := guardB_some h11
  obtain ⟨hin, h13⟩ := guardB_some h12
  refine frames_body (fn := Tryd.f36) (c := c_zbm) (os := [o0]) (rl := rl) (bi := [true]) (s0 := [some ⟨[.agg [.list 7 e_2 f_3, .int .i64 x_4, .int .i64 x_5, .int .i64 x_6, .int .i64 x_7, .list 1 e_8 f_9, .int .i64 x_10]], 7, 72, 0⟩]) (as0 := [.ptr 0 0 0 0, .bool b_1]) hC hΦ Tryd.func36 (by kernel_rfl) (by kernel_rfl) (loopsOk_nil (Λ := noLooper) (by kernel_rfl)) rfl hdist ⟨⟨_, rfl, hob0⟩, trivial⟩ hin rfl rfl ?_
  refine (b_zbm N _ _ _ _ _ _ _ _ _ _ _).trans ?_
  rw [← g_zbm_eq]
  exact h13
noncomputable def f_zdb (N : Nat) : (R : Type) → List V → S → (V → S → Option R) → Option R := fun _ vs s K =>
  asN4 vs fun v'1 v'2 v'3 v'4 => un_impl_Fs v'1 fun e_1 f_2 x_3 => un_impl_Cred v'2 fun x_4 x_5 => asStr v'3 fun w_6 => asBool v'4 fun b_7 => asEnd s <| g_zdb N e_1 f_2 x_3 x_4 x_5 w_6 b_7 (fun x_8 x_9 => K (.tuple [.int .i64 x_8, .int .i64 x_9]) [])
noncomputable def Φ_zdb (N : Nat) : Callee := (Φ_zbm N).add 22 (f_zdb N)
noncomputable def c_zdb : Code := bodyOf Tryd.f22
noncomputable def b_zdb_0 : Code := (loopNo c_zdb [] 0).2
def ks_zdb_0 : List Nat := butL 60 [3, 4, 10, 11]
def kx_zdb_0 : List Nat := butL 60 [4, 8, 9, 10, 11]
def fr_zdb_0 (b_1 b_2 : Bool) (e_3 : List V) (f_4 : Fl) (x_5 x_6 x_7 : Int) (e_8 : List V) (f_9 : Fl) (x_10 x_11 x_12 x_13 : Int) (e_14 : List V) (f_16 : Fl) (x_15 : Int) : List V := mkF 0 60 [(3, .bool b_1), (4, .ptr 0 0 0 0), (10, .bool b_2), (11, .ptr 2 0 0 0)]
def kk0_zdb_0 {R : Type} (K : X → List V → S → Option R) (b_1 : Bool) (b_2 : Bool) (e_3 : List V) (f_4 : Fl) (x_5 : Int) (x_6 : Int) (x_7 : Int) : Int → List V → Fl → Int → Int → Int → Int → List V → Fl → Int → Option R := (fun x_1' e_2' f_3' x_4' x_5' x_6' x_7' e_8' f_9' x_10' => K .ret (mkF 0 60 [(4, .ptr 0 0 0 0), (8, .int .i64 0), (9, .int .i64 (x_1')), (10, .bool b_2), (11, .ptr 2 0 0 0)]) [some ⟨[.agg [.list 7 e_3 f_4, .int .i64 x_5]], 2, 32, 0⟩, some ⟨[.agg [.int .i64 x_6, .int .i64 x_7]], 2, 34, 0⟩, some ⟨[.agg [.list 7 (e_2') (f_3'), .int .i64 (x_4'), .int .i64 (x_5'), .int .i64 (x_6'), .int .i64 (x_7'), .list 1 (e_8') (f_9'), .int .i64 (x_10')]], 7, 72, 0⟩])
def kk1_zdb_0 {R : Type} (K : X → List V → S → Option R) (b_1 : Bool) (b_2 : Bool) (e_3 : List V) (f_4 : Fl) (x_5 : Int) (x_6 : Int) (x_7 : Int) : List V → Fl → Int → Int → Int → Int → List V → Fl → Int → Option R := (fun e_1' f_2' x_3' x_4' x_5' x_6' e_7' f_8' x_9' => K (.exit 0) (mkF 0 60 [(4, .ptr 0 0 0 0), (10, .bool b_2), (11, .ptr 2 0 0 0)]) [some ⟨[.agg [.list 7 e_3 f_4, .int .i64 x_5]], 2, 32, 0⟩, some ⟨[.agg [.int .i64 x_6, .int .i64 x_7]], 2, 34, 0⟩, some ⟨[.agg [.list 7 (e_1') (f_2'), .int .i64 (x_3'), .int .i64 (x_4'), .int .i64 (x_5'), .int .i64 (x_6'), .list 1 (e_7') (f_8'), .int .i64 (x_9')]], 7, 72, 0⟩])
noncomputable abbrev it_zdb_0 {R : Type} (N : Nat) : Nat → List V → S → (X → List V → S → Option R) → Option R := fun n => iter C (Φ_zbm N) (noLooper) b_zdb_0 [0, 0, 1, 1, 1, 1] false ks_zdb_0 kx_zdb_0 n R
theorem r_zdb_0 {R : Type} (N n : Nat) (b_1 b_2 : Bool) (e_3 : List V) (f_4 : Fl) (x_5 x_6 x_7 : Int) (e_8 : List V) (f_9 : Fl) (x_10 x_11 x_12 x_13 : Int) (e_14 : List V) (f_16 : Fl) (x_15 : Int) (K : X → List V → S → Option R) :
  it_zdb_0 N (n + 1) (fr_zdb_0 b_1 b_2 e_3 f_4 x_5 x_6 x_7 e_8 f_9 x_10 x_11 x_12 x_13 e_14 f_16 x_15) [some ⟨[.agg [.list 7 e_3 f_4, .int .i64 x_5]], 2, 32, 0⟩, some ⟨[.agg [.int .i64 x_6, .int .i64 x_7]], 2, 34, 0⟩, some ⟨[.agg [.list 7 e_8 f_9, .int .i64 x_10, .int .i64 x_11, .int .i64 x_12, .int .i64 x_13, .list 1 e_14 f_16, .int .i64 x_15]], 7, 72, 0⟩] K =
  l_zdb_0_step N b_1 b_2 e_3 f_4 x_5 x_6 x_7 (fun e_8 f_9 x_10 x_11 x_12 x_13 e_14 f_16 x_15 => it_zdb_0 N n (fr_zdb_0 b_1 b_2 e_3 f_4 x_5 x_6 x_7 e_8 f_9 x_10 x_11 x_12 x_13 e_14 f_16 x_15) [some ⟨[.agg [.list 7 e_3 f_4, .int .i64 x_5]], 2, 32, 0⟩, some ⟨[.agg [.int .i64 x_6, .int .i64 x_7]], 2, 34, 0⟩, some ⟨[.agg [.list 7 e_8 f_9, .int .i64 x_10, .int .i64 x_11, .int .i64 x_12, .int .i64 x_13, .list 1 e_14 f_16, .int .i64 x_15]], 7, 72, 0⟩] K) e_8 f_9 x_10 x_11 x_12 x_13 e_14 f_16 x_15 (kk0_zdb_0 K b_1 b_2 e_3 f_4 x_5 x_6 x_7) (kk1_zdb_0 K b_1 b_2 e_3 f_4 x_5 x_6 x_7) := by kernel_rfl
theorem w_zdb_0 {R : Type} (N : Nat) (b_1 b_2 : Bool) (e_3 : List V) (f_4 : Fl) (x_5 x_6 x_7 : Int) (K : X → List V → S → Option R) : ∀ (n : Nat) (e_8 : List V) (f_9 : Fl) (x_10 x_11 x_12 x_13 : Int) (e_14 : List V) (f_16 : Fl) (x_15 : Int),
  it_zdb_0 N n (fr_zdb_0 b_1 b_2 e_3 f_4 x_5 x_6 x_7 e_8 f_9 x_10 x_11 x_12 x_13 e_14 f_16 x_15) [some ⟨[.agg [.list 7 e_3 f_4, .int .i64 x_5]], 2, 32, 0⟩, some ⟨[.agg [.int .i64 x_6, .int .i64 x_7]], 2, 34, 0⟩, some ⟨[.agg [.list 7 e_8 f_9, .int .i64 x_10, .int .i64 x_11, .int .i64 x_12, .int .i64 x_13, .list 1 e_14 f_16, .int .i64 x_15]], 7, 72, 0⟩] K = l_zdb_0 N b_1 b_2 e_3 f_4 x_5 x_6 x_7 (kk0_zdb_0 K b_1 b_2 e_3 f_4 x_5 x_6 x_7) (kk1_zdb_0 K b_1 b_2 e_3 f_4 x_5 x_6 x_7) n e_8 f_9 x_10 x_11 x_12 x_13 e_14 f_16 x_15
  | 0, _, _, _, _, _, _, _, _, _ => rfl
  | n + 1, e_8, f_9, x_10, x_11, x_12, x_13, e_14, f_16, x_15 => (r_zdb_0 N n b_1 b_2 e_3 f_4 x_5 x_6 x_7 e_8 f_9 x_10 x_11 x_12 x_13 e_14 f_16 x_15 K).trans (congrArg (fun nx => l_zdb_0_step N b_1 b_2 e_3 f_4 x_5 x_6 x_7 nx e_8 f_9 x_10 x_11 x_12 x_13 e_14 f_16 x_15 (kk0_zdb_0 K b_1 b_2 e_3 f_4 x_5 x_6 x_7) (kk1_zdb_0 K b_1 b_2 e_3 f_4 x_5 x_6 x_7)) (funext fun e_8 => funext fun f_9 => funext fun x_10 => funext fun x_11 => funext fun x_12 => funext fun x_13 => funext fun e_14 => funext fun f_16 => funext fun x_15 => w_zdb_0 N b_1 b_2 e_3 f_4 x_5 x_6 x_7 K n e_8 f_9 x_10 x_11 x_12 x_13 e_14 f_16 x_15))
def i_zdb_0 {R : Type} (E : List V) (s : S) (k : Bool → Bool → List V → Fl → Int → Int → Int → List V → Fl → Int → Int → Int → Int → List V → Fl → Int → Option R) : Option R :=
  guardB (frameOk 60 [3, 4, 10, 11] E) <| atBool E 3 fun b_1 => atIs E 4 (.ptr 0 0 0 0) <| atBool E 10 fun b_2 => atIs E 11 (.ptr 2 0 0 0) <| asOb s fun o'1 s'2 => obIs o'1 2 32 fun e'3 k'4 => isN k'4 0 <| asN1 e'3 fun v'5 => asAgg v'5 fun c'6 => asN2 c'6 fun v'7 v'8 => asList 7 v'7 fun e_3 f_4 => asInt .i64 v'8 fun x_5 => asOb s'2 fun o'9 s'10 => obIs o'9 2 34 fun e'11 k'12 => isN k'12 0 <| asN1 e'11 fun v'13 => asAgg v'13 fun c'14 => asN2 c'14 fun v'15 v'16 => asInt .i64 v'15 fun x_6 => asInt .i64 v'16 fun x_7 => asOb s'10 fun o'17 s'18 => obIs o'17 7 72 fun e'19 k'20 => isN k'20 0 <| asN1 e'19 fun v'21 => asAgg v'21 fun c'22 => asN7 c'22 fun v'23 v'24 v'25 v'26 v'27 v'28 v'29 => asList 7 v'23 fun e_8 f_9 => asInt .i64 v'24 fun x_10 => asInt .i64 v'25 fun x_11 => asInt .i64 v'26 fun x_12 => asInt .i64 v'27 fun x_13 => asList 1 v'28 fun e_14 f_16 => asInt .i64 v'29 fun x_15 => asEnd s'18 <| k b_1 b_2 e_3 f_4 x_5 x_6 x_7 e_8 f_9 x_10 x_11 x_12 x_13 e_14 f_16 x_15
theorem i_zdb_0_spec {R : Type} {E : List V} {s : S} {k : Bool → Bool → List V → Fl → Int → Int → Int → List V → Fl → Int → Int → Int → Int → List V → Fl → Int → Option R} {r : R} (h : i_zdb_0 E s k = some r) : ∃ b_1 b_2 e_3 f_4 x_5 x_6 x_7 e_8 f_9 x_10 x_11 x_12 x_13 e_14 f_16 x_15, E = fr_zdb_0 b_1 b_2 e_3 f_4 x_5 x_6 x_7 e_8 f_9 x_10 x_11 x_12 x_13 e_14 f_16 x_15 ∧ s = [some ⟨[.agg [.list 7 e_3 f_4, .int .i64 x_5]], 2, 32, 0⟩, some ⟨[.agg [.int .i64 x_6, .int .i64 x_7]], 2, 34, 0⟩, some ⟨[.agg [.list 7 e_8 f_9, .int .i64 x_10, .int .i64 x_11, .int .i64 x_12, .int .i64 x_13, .list 1 e_14 f_16, .int .i64 x_15]], 7, 72, 0⟩] ∧ k b_1 b_2 e_3 f_4 x_5 x_6 x_7 e_8 f_9 x_10 x_11 x_12 x_13 e_14 f_16 x_15 = some r := by
  unfold i_zdb_0 at h
  obtain ⟨hg, h1⟩ := guardB_some h
  obtain ⟨_, hu3, h2⟩ := atBool_some h1
  obtain ⟨hu4, h3⟩ := atIs_some h2
  obtain ⟨_, hu10, h4⟩ := atBool_some h3
  obtain ⟨hu11, h5⟩ := atIs_some h4
  obtain ⟨_, _, rfl, h6⟩ := asOb_some h5
  obtain ⟨_, _, rfl, h7⟩ := obIs_some h6
  obtain ⟨rfl, h8⟩ := isN_some h7
  obtain ⟨_, rfl, h9⟩ := asN1_some h8
  obtain ⟨_, rfl, h10⟩ := asAgg_some h9
  obtain ⟨_, _, rfl, h11⟩ := asN2_some h10
  obtain ⟨_, _, rfl, h12⟩ := asList_some h11
  obtain ⟨_, rfl, h13⟩ := asInt_some h12
  obtain ⟨_, _, rfl, h14⟩ := asOb_some h13
  obtain ⟨_, _, rfl, h15⟩ := obIs_some h14
  obtain ⟨rfl, h16⟩ := isN_some h15
  obtain ⟨_, rfl, h17⟩ := asN1_some h16
  obtain ⟨_, rfl, h18⟩ := asAgg_some h17
  obtain ⟨_, _, rfl, h19⟩ := asN2_some h18
  obtain ⟨_, rfl, h20⟩ := asInt_some h19
  obtain ⟨_, rfl, h21⟩ := asInt_some h20
  obtain ⟨_, _, rfl, h22⟩ := asOb_some h21
  obtain ⟨_, _, rfl, h23⟩ := obIs_some h22
  obtain ⟨rfl, h24⟩ := isN_some h23
  obtain ⟨_, rfl, h25⟩ := asN1_some h24
  obtain ⟨_, rfl, h26⟩ := asAgg_some h25
  obtain ⟨_, _, _, _, _, _, _, rfl, h27⟩ := asN7_some h26
  obtain ⟨_, _, rfl, h28⟩ := asList_some h27
  obtain ⟨_, rfl, h29⟩ := asInt_some h28
  obtain ⟨_, rfl, h30⟩ := asInt_some h29
  obtain ⟨_, rfl, h31⟩ := asInt_some h30
  obtain ⟨_, rfl, h32⟩ := asInt_some h31
  obtain ⟨_, _, rfl, h33⟩ := asList_some h32
  obtain ⟨_, rfl, h34⟩ := asInt_some h33
  obtain ⟨rfl, h35⟩ := asEnd_some h34
  exact ⟨_, _, _, _, _, _, _, _, _, _, _, _, _, _, _, _, frame_is hg rfl (slots_cons hu3 (slots_cons hu4 (slots_cons hu10 (slots_cons hu11 slots_nil)))), rfl, h35⟩
noncomputable def Λ_zdb_0 (N : Nat) : Looper := (noLooper).add [0, 0, 1, 1, 1, 1] fun _ E s K => i_zdb_0 (killE ks_zdb_0 E) s fun b_1 b_2 e_3 f_4 x_5 x_6 x_7 e_8 f_9 x_10 x_11 x_12 x_13 e_14 f_16 x_15 => l_zdb_0 N b_1 b_2 e_3 f_4 x_5 x_6 x_7 (kk0_zdb_0 K b_1 b_2 e_3 f_4 x_5 x_6 x_7) (kk1_zdb_0 K b_1 b_2 e_3 f_4 x_5 x_6 x_7) N e_8 f_9 x_10 x_11 x_12 x_13 e_14 f_16 x_15
theorem ok_zdb_0 {N : Nat} (hC : Ok Tryd.prog C) (hΦ : CalleeOk Tryd.prog C (Φ_zbm N)) : LoopOk Tryd.prog C (Λ_zdb_0 N) b_zdb_0 [0, 0, 1, 1, 1, 1] :=
  iter_ok (Λi := noLooper) (tr := false) (ks := ks_zdb_0) (kx := kx_zdb_0) (N := N) hC hΦ
    (loopsOk_nil (by kernel_rfl))
    fun R E s K r h => by
      have h2 := Looper.add_self.symm.trans h
      obtain ⟨_, _, _, _, _, _, _, _, _, _, _, _, _, _, _, _, he, rfl, h3⟩ := i_zdb_0_spec h2
      rw [he]
      exact (w_zdb_0 N _ _ _ _ _ _ _ _ N _ _ _ _ _ _ _ _ _).trans h3
theorem at_zdb : loopsAt c_zdb [] = [([0, 0, 1, 1, 1, 1], b_zdb_0)] := by kernel_rfl
theorem b_zdb {R : Type} (N : Nat) (e_1 : List V) (f_2 : Fl) (x_3 x_4 x_5 : Int) (w_6 : ByteArray) (b_7 : Bool) (K : V → S → Option R) : bodyV C (Φ_zbm N) (Λ_zdb_0 N) 22 Tryd.f22 [.agg [.list 7 e_1 f_2, .int .i64 x_3], .agg [.int .i64 x_4, .int .i64 x_5], .str w_6, .bool b_7] [] K =
  gb_zdb N e_1 f_2 x_3 x_4 x_5 w_6 b_7 (fun x_8 x_9 => K (.tuple [.int .i64 x_8, .int .i64 x_9]) []) := by kernel_rfl
theorem loops_zdb {N : Nat} (hC : Ok Tryd.prog C) (hΦ : CalleeOk Tryd.prog C (Φ_zbm N)) : LoopsOk Tryd.prog C (Λ_zdb_0 N) c_zdb [] :=
  loopsOk_of c_zdb [] (by
    rw [at_zdb]
    intro p hp
    simp only [List.mem_cons, List.mem_nil_iff, or_false] at hp
    rcases hp with rfl
    · exact (ok_zdb_0 hC hΦ))
theorem callee_zdb (hC : Ok Tryd.prog C) {N : Nat} (hΦ : CalleeOk Tryd.prog C (Φ_zbm N)) : CalleeOk Tryd.prog C (Φ_zdb N) := by
  refine hΦ.add_pure rfl fun R vs K r h => ?_
  unfold f_zdb at h
  obtain ⟨_, _, _, _, rfl, h1⟩ := asN4_some h
  obtain ⟨_, _, _, rfl, h2⟩ := un_impl_Fs_some h1
  obtain ⟨_, _, rfl, h3⟩ := un_impl_Cred_some h2
  obtain ⟨_, rfl, h4⟩ := asStr_some h3
  obtain ⟨_, rfl, h5⟩ := asBool_some h4
  obtain ⟨_, h6⟩ := asEnd_some h5
  refine body_pure (fn := Tryd.f22) (c := c_zdb) hC hΦ Tryd.func22 (by kernel_rfl) (by kernel_rfl) (loops_zdb (N := N) hC hΦ) rfl rfl ?_
  refine (b_zdb N _ _ _ _ _ _ _ _).trans ?_
  rw [← g_zdb_eq]
  exact h6
noncomputable def f_zdc (N : Nat) : (R : Type) → List V → S → (V → S → Option R) → Option R := fun _ vs s K =>
  asN2 vs fun v'1 v'2 => un_impl_Fs v'1 fun e_1 f_2 x_3 => asInt .i64 v'2 fun x_4 => asEnd s <| g_zdc N e_1 f_2 x_3 x_4 (fun x_5 x_6 x_7 x_8 x_9 x_10 x_11 x_12 => K (.agg [.int .i64 x_5, .int .i64 x_6, .int .i64 x_7, .int .i64 x_8, .int .i64 x_9, .int .i64 x_10, .int .i64 x_11, .int .i64 x_12]) [])
noncomputable def Φ_zdc (N : Nat) : Callee := (Φ_zdb N).add 29 (f_zdc N)
noncomputable def c_zdc : Code := bodyOf Tryd.f29
theorem b_zdc {R : Type} (N : Nat) (e_1 : List V) (f_2 : Fl) (x_3 x_4 : Int) (K : V → S → Option R) : bodyV C (Φ_zdb N) (noLooper) 29 Tryd.f29 [.agg [.list 7 e_1 f_2, .int .i64 x_3], .int .i64 x_4] [] K =
  gb_zdc N e_1 f_2 x_3 x_4 (fun x_5 x_6 x_7 x_8 x_9 x_10 x_11 x_12 => K (.agg [.int .i64 x_5, .int .i64 x_6, .int .i64 x_7, .int .i64 x_8, .int .i64 x_9, .int .i64 x_10, .int .i64 x_11, .int .i64 x_12]) []) := by kernel_rfl
theorem callee_zdc (hC : Ok Tryd.prog C) {N : Nat} (hΦ : CalleeOk Tryd.prog C (Φ_zdb N)) : CalleeOk Tryd.prog C (Φ_zdc N) := by
  refine hΦ.add_pure rfl fun R vs K r h => ?_
  unfold f_zdc at h
  obtain ⟨_, _, rfl, h1⟩ := asN2_some h
  obtain ⟨_, _, _, rfl, h2⟩ := un_impl_Fs_some h1
  obtain ⟨_, rfl, h3⟩ := asInt_some h2
  obtain ⟨_, h4⟩ := asEnd_some h3
  refine body_pure (fn := Tryd.f29) (c := c_zdc) hC hΦ Tryd.func29 (by kernel_rfl) (by kernel_rfl) (loopsOk_nil (Λ := noLooper) (by kernel_rfl)) rfl rfl ?_
  refine (b_zdc N _ _ _ _ _).trans ?_
  rw [← g_zdc_eq]
  exact h4
noncomputable def f_zcu (N : Nat) : (R : Type) → List V → S → (V → S → Option R) → Option R := fun _ vs s K =>
  asN4 vs fun v'1 v'2 v'3 v'4 => un_impl_Fs v'1 fun e_1 f_2 x_3 => un_impl_Cred v'2 fun x_4 x_5 => asStr v'3 fun w_6 => asBool v'4 fun b_7 => asEnd s <| g_zcu N e_1 f_2 x_3 x_4 x_5 w_6 b_7 (fun x_8 x_9 x_10 x_11 x_12 x_13 x_14 x_15 x_16 b_17 => K (.tuple [.agg [.int .i64 x_8, .int .i64 x_9, .int .i64 x_10, .int .i64 x_11, .int .i64 x_12, .int .i64 x_13, .int .i64 x_14, .int .i64 x_15], .int .i64 x_16, .bool b_17]) [])
noncomputable def Φ_zcu (N : Nat) : Callee := (Φ_zdc N).add 17 (f_zcu N)
noncomputable def c_zcu : Code := bodyOf Tryd.f17
theorem b_zcu {R : Type} (N : Nat) (e_1 : List V) (f_2 : Fl) (x_3 x_4 x_5 : Int) (w_6 : ByteArray) (b_7 : Bool) (K : V → S → Option R) : bodyV C (Φ_zdc N) (noLooper) 17 Tryd.f17 [.agg [.list 7 e_1 f_2, .int .i64 x_3], .agg [.int .i64 x_4, .int .i64 x_5], .str w_6, .bool b_7] [] K =
  gb_zcu N e_1 f_2 x_3 x_4 x_5 w_6 b_7 (fun x_8 x_9 x_10 x_11 x_12 x_13 x_14 x_15 x_16 b_17 => K (.tuple [.agg [.int .i64 x_8, .int .i64 x_9, .int .i64 x_10, .int .i64 x_11, .int .i64 x_12, .int .i64 x_13, .int .i64 x_14, .int .i64 x_15], .int .i64 x_16, .bool b_17]) []) := by kernel_rfl
theorem callee_zcu (hC : Ok Tryd.prog C) {N : Nat} (hΦ : CalleeOk Tryd.prog C (Φ_zdc N)) : CalleeOk Tryd.prog C (Φ_zcu N) := by
  refine hΦ.add_pure rfl fun R vs K r h => ?_
  unfold f_zcu at h
  obtain ⟨_, _, _, _, rfl, h1⟩ := asN4_some h
  obtain ⟨_, _, _, rfl, h2⟩ := un_impl_Fs_some h1
  obtain ⟨_, _, rfl, h3⟩ := un_impl_Cred_some h2
  obtain ⟨_, rfl, h4⟩ := asStr_some h3
  obtain ⟨_, rfl, h5⟩ := asBool_some h4
  obtain ⟨_, h6⟩ := asEnd_some h5
  refine body_pure (fn := Tryd.f17) (c := c_zcu) hC hΦ Tryd.func17 (by kernel_rfl) (by kernel_rfl) (loopsOk_nil (Λ := noLooper) (by kernel_rfl)) rfl rfl ?_
  refine (b_zcu N _ _ _ _ _ _ _ _).trans ?_
  rw [← g_zcu_eq]
  exact h6
noncomputable def f_zbd (N : Nat) : (R : Type) → List V → S → (V → S → Option R) → Option R := fun _ vs s K =>
  asN1 vs fun v'1 => un_impl_Fs v'1 fun e_1 f_2 x_3 => asEnd s <| g_zbd N e_1 f_2 x_3 (fun e_4 => K (.list 1 e_4 .sh) [])
noncomputable def Φ_zbd (N : Nat) : Callee := (Φ_zcu N).add 30 (f_zbd N)
noncomputable def c_zbd : Code := bodyOf Tryd.f30
noncomputable def b_zbd_1 : Code := (loopNo c_zbd [] 0).2
noncomputable def b_zbd_0 : Code := (loopNo b_zbd_1 (0 :: [0, 1, 0, 1, 1]) 0).2
def ks_zbd_0 : List Nat := butL 36 [3, 13, 14, 15, 20, 21, 22]
def kx_zbd_0 : List Nat := butL 36 [3, 13, 14, 15]
def fr_zbd_0 (k_1 : Nat) (e_2 : List V) (f_3 : Fl) (x_4 x_5 : Int) (e_6 : List V) (f_7 : Fl) (x_8 : Int) (e_10 : List V) (f_11 : Fl) (x_12 x_14 x_15 x_16 x_17 x_18 : Int) (w_19 : ByteArray) (e_20 : List V) (f_21 : Fl) (x_9 : Int) (e_13 : List V) : List V := mkF 0 36 [(3, .arr 1 0 0 k_1), (13, .list 7 e_2 f_3), (14, .int .i64 x_4), (15, .int .i64 x_5), (20, .list 2 e_6 f_7), (21, .int .i64 x_8), (22, .int .i64 x_9)]
def kk0_zbd_0 {R : Type} (K : X → List V → S → Option R) (k_1 : Nat) (e_2 : List V) (f_3 : Fl) (x_4 : Int) (x_5 : Int) (e_6 : List V) (f_7 : Fl) (x_8 : Int) (e_10 : List V) (f_11 : Fl) (x_12 : Int) (x_14 : Int) (x_15 : Int) (x_16 : Int) (x_17 : Int) (x_18 : Int) (w_19 : ByteArray) (e_20 : List V) (f_21 : Fl) : List V → Option R := (fun e_1' => K (.exit 2) (mkF 0 36 [(3, .arr 1 0 0 k_1), (13, .list 7 e_2 f_3), (14, .int .i64 x_4), (15, .int .i64 x_5)]) [some ⟨[.agg [.list 7 e_10 f_11, .int .i64 x_12]], 2, 32, 0⟩, some ⟨e_1', 1, 3, 0⟩, some ⟨[.agg [.int .i64 x_14, .int .i64 x_15, .int .i64 x_16, .int .i64 x_17, .int .i64 x_18, .str w_19, .list 2 e_20 f_21]], 7, 55, 0⟩])
noncomputable abbrev it_zbd_0 {R : Type} (N : Nat) : Nat → List V → S → (X → List V → S → Option R) → Option R := fun n => iter C (Φ_zcu N) (noLooper) b_zbd_0 [0, 1, 1, 0, 0, 1, 1, 0, 0, 1, 0, 1, 1] true ks_zbd_0 kx_zbd_0 n R
theorem r_zbd_0 {R : Type} (N n : Nat) (k_1 : Nat) (e_2 : List V) (f_3 : Fl) (x_4 x_5 : Int) (e_6 : List V) (f_7 : Fl) (x_8 : Int) (e_10 : List V) (f_11 : Fl) (x_12 x_14 x_15 x_16 x_17 x_18 : Int) (w_19 : ByteArray) (e_20 : List V) (f_21 : Fl) (x_9 : Int) (e_13 : List V) (K : X → List V → S → Option R) :
  it_zbd_0 N (n + 1) (fr_zbd_0 k_1 e_2 f_3 x_4 x_5 e_6 f_7 x_8 e_10 f_11 x_12 x_14 x_15 x_16 x_17 x_18 w_19 e_20 f_21 x_9 e_13) [some ⟨[.agg [.list 7 e_10 f_11, .int .i64 x_12]], 2, 32, 0⟩, some ⟨e_13, 1, 3, 0⟩, some ⟨[.agg [.int .i64 x_14, .int .i64 x_15, .int .i64 x_16, .int .i64 x_17, .int .i64 x_18, .str w_19, .list 2 e_20 f_21]], 7, 55, 0⟩] K =
  l_zbd_0_step N k_1 e_2 f_3 x_4 x_5 e_6 f_7 x_8 e_10 f_11 x_12 x_14 x_15 x_16 x_17 x_18 w_19 e_20 f_21 (fun x_9 e_13 => it_zbd_0 N n (fr_zbd_0 k_1 e_2 f_3 x_4 x_5 e_6 f_7 x_8 e_10 f_11 x_12 x_14 x_15 x_16 x_17 x_18 w_19 e_20 f_21 x_9 e_13) [some ⟨[.agg [.list 7 e_10 f_11, .int .i64 x_12]], 2, 32, 0⟩, some ⟨e_13, 1, 3, 0⟩, some ⟨[.agg [.int .i64 x_14, .int .i64 x_15, .int .i64 x_16, .int .i64 x_17, .int .i64 x_18, .str w_19, .list 2 e_20 f_21]], 7, 55, 0⟩] K) x_9 e_13 (kk0_zbd_0 K k_1 e_2 f_3 x_4 x_5 e_6 f_7 x_8 e_10 f_11 x_12 x_14 x_15 x_16 x_17 x_18 w_19 e_20 f_21) := by kernel_rfl
theorem w_zbd_0 {R : Type} (N : Nat) (k_1 : Nat) (e_2 : List V) (f_3 : Fl) (x_4 x_5 : Int) (e_6 : List V) (f_7 : Fl) (x_8 : Int) (e_10 : List V) (f_11 : Fl) (x_12 x_14 x_15 x_16 x_17 x_18 : Int) (w_19 : ByteArray) (e_20 : List V) (f_21 : Fl) (K : X → List V → S → Option R) : ∀ (n : Nat) (x_9 : Int) (e_13 : List V),
  it_zbd_0 N n (fr_zbd_0 k_1 e_2 f_3 x_4 x_5 e_6 f_7 x_8 e_10 f_11 x_12 x_14 x_15 x_16 x_17 x_18 w_19 e_20 f_21 x_9 e_13) [some ⟨[.agg [.list 7 e_10 f_11, .int .i64 x_12]], 2, 32, 0⟩, some ⟨e_13, 1, 3, 0⟩, some ⟨[.agg [.int .i64 x_14, .int .i64 x_15, .int .i64 x_16, .int .i64 x_17, .int .i64 x_18, .str w_19, .list 2 e_20 f_21]], 7, 55, 0⟩] K = l_zbd_0 N k_1 e_2 f_3 x_4 x_5 e_6 f_7 x_8 e_10 f_11 x_12 x_14 x_15 x_16 x_17 x_18 w_19 e_20 f_21 (kk0_zbd_0 K k_1 e_2 f_3 x_4 x_5 e_6 f_7 x_8 e_10 f_11 x_12 x_14 x_15 x_16 x_17 x_18 w_19 e_20 f_21) n x_9 e_13
  | 0, _, _ => rfl
  | n + 1, x_9, e_13 => (r_zbd_0 N n k_1 e_2 f_3 x_4 x_5 e_6 f_7 x_8 e_10 f_11 x_12 x_14 x_15 x_16 x_17 x_18 w_19 e_20 f_21 x_9 e_13 K).trans (congrArg (fun nx => l_zbd_0_step N k_1 e_2 f_3 x_4 x_5 e_6 f_7 x_8 e_10 f_11 x_12 x_14 x_15 x_16 x_17 x_18 w_19 e_20 f_21 nx x_9 e_13 (kk0_zbd_0 K k_1 e_2 f_3 x_4 x_5 e_6 f_7 x_8 e_10 f_11 x_12 x_14 x_15 x_16 x_17 x_18 w_19 e_20 f_21)) (funext fun x_9 => funext fun e_13 => w_zbd_0 N k_1 e_2 f_3 x_4 x_5 e_6 f_7 x_8 e_10 f_11 x_12 x_14 x_15 x_16 x_17 x_18 w_19 e_20 f_21 K n x_9 e_13))
def i_zbd_0 {R : Type} (E : List V) (s : S) (k : Nat → List V → Fl → Int → Int → List V → Fl → Int → Int → List V → Fl → Int → List V → Int → Int → Int → Int → Int → ByteArray → List V → Fl → Option R) : Option R :=
  guardB (frameOk 36 [3, 13, 14, 15, 20, 21, 22] E) <| must (nth E 3) fun u3 => asArr u3 fun k'1 k'2 k'3 k_1 => isN k'1 1 <| isN k'2 0 <| isN k'3 0 <| atList E 13 7 fun e_2 f_3 => atInt E 14 .i64 fun x_4 => atInt E 15 .i64 fun x_5 => atList E 20 2 fun e_6 f_7 => atInt E 21 .i64 fun x_8 => atInt E 22 .i64 fun x_9 => asOb s fun o'4 s'5 => obIs o'4 2 32 fun e'6 k'7 => isN k'7 0 <| asN1 e'6 fun v'8 => asAgg v'8 fun c'9 => asN2 c'9 fun v'10 v'11 => asList 7 v'10 fun e_10 f_11 => asInt .i64 v'11 fun x_12 => asOb s'5 fun o'12 s'13 => obIs o'12 1 3 fun e_13 k'14 => isN k'14 0 <| asOb s'13 fun o'15 s'16 => obIs o'15 7 55 fun e'17 k'18 => isN k'18 0 <| asN1 e'17 fun v'19 => asAgg v'19 fun c'20 => asN7 c'20 fun v'21 v'22 v'23 v'24 v'25 v'26 v'27 => asInt .i64 v'21 fun x_14 => asInt .i64 v'22 fun x_15 => asInt .i64 v'23 fun x_16 => asInt .i64 v'24 fun x_17 => asInt .i64 v'25 fun x_18 => asStr v'26 fun w_19 => asList 2 v'27 fun e_20 f_21 => asEnd s'16 <| k k_1 e_2 f_3 x_4 x_5 e_6 f_7 x_8 x_9 e_10 f_11 x_12 e_13 x_14 x_15 x_16 x_17 x_18 w_19 e_20 f_21
theorem i_zbd_0_spec {R : Type} {E : List V} {s : S} {k : Nat → List V → Fl → Int → Int → List V → Fl → Int → Int → List V → Fl → Int → List V → Int → Int → Int → Int → Int → ByteArray → List V → Fl → Option R} {r : R} (h : i_zbd_0 E s k = some r) : ∃ k_1 e_2 f_3 x_4 x_5 e_6 f_7 x_8 x_9 e_10 f_11 x_12 e_13 x_14 x_15 x_16 x_17 x_18 w_19 e_20 f_21, E = fr_zbd_0 k_1 e_2 f_3 x_4 x_5 e_6 f_7 x_8 e_10 f_11 x_12 x_14 x_15 x_16 x_17 x_18 w_19 e_20 f_21 x_9 e_13 ∧ s = [some ⟨[.agg [.list 7 e_10 f_11, .int .i64 x_12]], 2, 32, 0⟩, some ⟨e_13, 1, 3, 0⟩, some ⟨[.agg [.int .i64 x_14, .int .i64 x_15, .int .i64 x_16, .int .i64 x_17, .int .i64 x_18, .str w_19, .list 2 e_20 f_21]], 7, 55, 0⟩] ∧ k k_1 e_2 f_3 x_4 x_5 e_6 f_7 x_8 x_9 e_10 f_11 x_12 e_13 x_14 x_15 x_16 x_17 x_18 w_19 e_20 f_21 = some r := by
  unfold i_zbd_0 at h
  obtain ⟨hg, h1⟩ := guardB_some h
  obtain ⟨_, hu3, h2⟩ := must_some h1
  obtain ⟨_, _, _, _, rfl, h3⟩ := asArr_some h2
  obtain ⟨rfl, h4⟩ := isN_some h3
  obtain ⟨rfl, h5⟩ := isN_some h4
  obtain ⟨rfl, h6⟩ := isN_some h5
  obtain ⟨_, _, hu13, h7⟩ := atList_some h6
  obtain ⟨_, hu14, h8⟩ := atInt_some h7
  obtain ⟨_, hu15, h9⟩ := atInt_some h8
  obtain ⟨_, _, hu20, h10⟩ := atList_some h9
  obtain ⟨_, hu21, h11⟩ := atInt_some h10
  obtain ⟨_, hu22, h12⟩ := atInt_some h11
  obtain ⟨_, _, rfl, h13⟩ := asOb_some h12
  obtain ⟨_, _, rfl, h14⟩ := obIs_some h13
  obtain ⟨rfl, h15⟩ := isN_some h14
  obtain ⟨_, rfl, h16⟩ := asN1_some h15
  obtain ⟨_, rfl, h17⟩ := asAgg_some h16
  obtain ⟨_, _, rfl, h18⟩ := asN2_some h17
  obtain ⟨_, _, rfl, h19⟩ := asList_some h18
  obtain ⟨_, rfl, h20⟩ := asInt_some h19
  obtain ⟨_, _, rfl, h21⟩ := asOb_some h20
  obtain ⟨_, _, rfl, h22⟩ := obIs_some h21
  obtain ⟨rfl, h23⟩ := isN_some h22
  obtain ⟨_, _, rfl, h24⟩ := asOb_some h23
  obtain ⟨_, _, rfl, h25⟩ := obIs_some h24
  obtain ⟨rfl, h26⟩ := isN_some h25
  obtain ⟨_, rfl, h27⟩ := asN1_some h26
  obtain ⟨_, rfl, h28⟩ := asAgg_some h27
  obtain ⟨_, _, _, _, _, _, _, rfl, h29⟩ := asN7_some h28
  obtain ⟨_, rfl, h30⟩ := asInt_some h29
  obtain ⟨_, rfl, h31⟩ := asInt_some h30
  obtain ⟨_, rfl, h32⟩ := asInt_some h31
  obtain ⟨_, rfl, h33⟩ := asInt_some h32
  obtain ⟨_, rfl, h34⟩ := asInt_some h33
  obtain ⟨_, rfl, h35⟩ := asStr_some h34
  obtain ⟨_, _, rfl, h36⟩ := asList_some h35
  obtain ⟨rfl, h37⟩ := asEnd_some h36
  exact ⟨_, _, _, _, _, _, _, _, _, _, _, _, _, _, _, _, _, _, _, _, _, frame_is hg rfl (slots_cons hu3 (slots_cons hu13 (slots_cons hu14 (slots_cons hu15 (slots_cons hu20 (slots_cons hu21 (slots_cons hu22 slots_nil))))))), rfl, h37⟩
noncomputable def Λ_zbd_0 (N : Nat) : Looper := (noLooper).add [0, 1, 1, 0, 0, 1, 1, 0, 0, 1, 0, 1, 1] fun _ E s K => i_zbd_0 (killE ks_zbd_0 E) s fun k_1 e_2 f_3 x_4 x_5 e_6 f_7 x_8 x_9 e_10 f_11 x_12 e_13 x_14 x_15 x_16 x_17 x_18 w_19 e_20 f_21 => l_zbd_0 N k_1 e_2 f_3 x_4 x_5 e_6 f_7 x_8 e_10 f_11 x_12 x_14 x_15 x_16 x_17 x_18 w_19 e_20 f_21 (kk0_zbd_0 K k_1 e_2 f_3 x_4 x_5 e_6 f_7 x_8 e_10 f_11 x_12 x_14 x_15 x_16 x_17 x_18 w_19 e_20 f_21) N x_9 e_13
theorem ok_zbd_0 {N : Nat} (hC : Ok Tryd.prog C) (hΦ : CalleeOk Tryd.prog C (Φ_zcu N)) : LoopOk Tryd.prog C (Λ_zbd_0 N) b_zbd_0 [0, 1, 1, 0, 0, 1, 1, 0, 0, 1, 0, 1, 1] :=
  iter_ok (Λi := noLooper) (tr := true) (ks := ks_zbd_0) (kx := kx_zbd_0) (N := N) hC hΦ
    (loopsOk_nil (by kernel_rfl))
    fun R E s K r h => by
      have h2 := Looper.add_self.symm.trans h
      obtain ⟨_, _, _, _, _, _, _, _, _, _, _, _, _, _, _, _, _, _, _, _, _, he, rfl, h3⟩ := i_zbd_0_spec h2
      rw [he]
      exact (w_zbd_0 N _ _ _ _ _ _ _ _ _ _ _ _ _ _ _ _ _ _ _ _ N _ _).trans h3
def ks_zbd_1 : List Nat := butL 36 [3, 13, 14, 15]
def kx_zbd_1 : List Nat := butL 36 [3]
def fr_zbd_1 (k_1 : Nat) (e_2 : List V) (f_3 : Fl) (x_4 : Int) (e_6 : List V) (f_7 : Fl) (x_8 x_5 : Int) (e_9 : List V) : List V := mkF 0 36 [(3, .arr 1 0 0 k_1), (13, .list 7 e_2 f_3), (14, .int .i64 x_4), (15, .int .i64 x_5)]
def kk0_zbd_1 {R : Type} (K : X → List V → S → Option R) (k_1 : Nat) (e_2 : List V) (f_3 : Fl) (x_4 : Int) (e_6 : List V) (f_7 : Fl) (x_8 : Int) : List V → Option R := (fun e_1' => K (.exit 0) (mkF 0 36 [(3, .arr 1 0 0 k_1)]) [some ⟨[.agg [.list 7 e_6 f_7, .int .i64 x_8]], 2, 32, 0⟩, some ⟨e_1', 1, 3, 0⟩])
noncomputable abbrev it_zbd_1 {R : Type} (N : Nat) : Nat → List V → S → (X → List V → S → Option R) → Option R := fun n => iter C (Φ_zcu N) (Λ_zbd_0 N) b_zbd_1 [0, 1, 0, 1, 1] true ks_zbd_1 kx_zbd_1 n R
theorem r_zbd_1 {R : Type} (N n : Nat) (k_1 : Nat) (e_2 : List V) (f_3 : Fl) (x_4 : Int) (e_6 : List V) (f_7 : Fl) (x_8 : Int) (x_5 : Int) (e_9 : List V) (K : X → List V → S → Option R) :
  it_zbd_1 N (n + 1) (fr_zbd_1 k_1 e_2 f_3 x_4 e_6 f_7 x_8 x_5 e_9) [some ⟨[.agg [.list 7 e_6 f_7, .int .i64 x_8]], 2, 32, 0⟩, some ⟨e_9, 1, 3, 0⟩] K =
  l_zbd_1_step N k_1 e_2 f_3 x_4 e_6 f_7 x_8 (fun x_5 e_9 => it_zbd_1 N n (fr_zbd_1 k_1 e_2 f_3 x_4 e_6 f_7 x_8 x_5 e_9) [some ⟨[.agg [.list 7 e_6 f_7, .int .i64 x_8]], 2, 32, 0⟩, some ⟨e_9, 1, 3, 0⟩] K) x_5 e_9 (kk0_zbd_1 K k_1 e_2 f_3 x_4 e_6 f_7 x_8) := by kernel_rfl
theorem w_zbd_1 {R : Type} (N : Nat) (k_1 : Nat) (e_2 : List V) (f_3 : Fl) (x_4 : Int) (e_6 : List V) (f_7 : Fl) (x_8 : Int) (K : X → List V → S → Option R) : ∀ (n : Nat) (x_5 : Int) (e_9 : List V),
  it_zbd_1 N n (fr_zbd_1 k_1 e_2 f_3 x_4 e_6 f_7 x_8 x_5 e_9) [some ⟨[.agg [.list 7 e_6 f_7, .int .i64 x_8]], 2, 32, 0⟩, some ⟨e_9, 1, 3, 0⟩] K = l_zbd_1 N k_1 e_2 f_3 x_4 e_6 f_7 x_8 (kk0_zbd_1 K k_1 e_2 f_3 x_4 e_6 f_7 x_8) n x_5 e_9
  | 0, _, _ => rfl
  | n + 1, x_5, e_9 => (r_zbd_1 N n k_1 e_2 f_3 x_4 e_6 f_7 x_8 x_5 e_9 K).trans (congrArg (fun nx => l_zbd_1_step N k_1 e_2 f_3 x_4 e_6 f_7 x_8 nx x_5 e_9 (kk0_zbd_1 K k_1 e_2 f_3 x_4 e_6 f_7 x_8)) (funext fun x_5 => funext fun e_9 => w_zbd_1 N k_1 e_2 f_3 x_4 e_6 f_7 x_8 K n x_5 e_9))
def i_zbd_1 {R : Type} (E : List V) (s : S) (k : Nat → List V → Fl → Int → Int → List V → Fl → Int → List V → Option R) : Option R :=
  guardB (frameOk 36 [3, 13, 14, 15] E) <| must (nth E 3) fun u3 => asArr u3 fun k'1 k'2 k'3 k_1 => isN k'1 1 <| isN k'2 0 <| isN k'3 0 <| atList E 13 7 fun e_2 f_3 => atInt E 14 .i64 fun x_4 => atInt E 15 .i64 fun x_5 => asOb s fun o'4 s'5 => obIs o'4 2 32 fun e'6 k'7 => isN k'7 0 <| asN1 e'6 fun v'8 => asAgg v'8 fun c'9 => asN2 c'9 fun v'10 v'11 => asList 7 v'10 fun e_6 f_7 => asInt .i64 v'11 fun x_8 => asOb s'5 fun o'12 s'13 => obIs o'12 1 3 fun e_9 k'14 => isN k'14 0 <| asEnd s'13 <| k k_1 e_2 f_3 x_4 x_5 e_6 f_7 x_8 e_9
theorem i_zbd_1_spec {R : Type} {E : List V} {s : S} {k : Nat → List V → Fl → Int → Int → List V → Fl → Int → List V → Option R} {r : R} (h : i_zbd_1 E s k = some r) : ∃ k_1 e_2 f_3 x_4 x_5 e_6 f_7 x_8 e_9, E = fr_zbd_1 k_1 e_2 f_3 x_4 e_6 f_7 x_8 x_5 e_9 ∧ s = [some ⟨[.agg [.list 7 e_6 f_7, .int .i64 x_8]], 2, 32, 0⟩, some ⟨e_9, 1, 3, 0⟩] ∧ k k_1 e_2 f_3 x_4 x_5 e_6 f_7 x_8 e_9 = some r := by
  unfold i_zbd_1 at h
  obtain ⟨hg, h1⟩ := guardB_some h
  obtain ⟨_, hu3, h2⟩ := must_some h1
  obtain ⟨_, _, _, _, rfl, h3⟩ := asArr_some h2
  obtain ⟨rfl, h4⟩ := isN_some h3
  obtain ⟨rfl, h5⟩ := isN_some h4
  obtain ⟨rfl, h6⟩ := isN_some h5
  obtain ⟨_, _, hu13, h7⟩ := atList_some h6
  obtain ⟨_, hu14, h8⟩ := atInt_some h7
  obtain ⟨_, hu15, h9⟩ := atInt_some h8
  obtain ⟨_, _, rfl, h10⟩ := asOb_some h9
  obtain ⟨_, _, rfl, h11⟩ := obIs_some h10
  obtain ⟨rfl, h12⟩ := isN_some h11
  obtain ⟨_, rfl, h13⟩ := asN1_some h12
  obtain ⟨_, rfl, h14⟩ := asAgg_some h13
  obtain ⟨_, _, rfl, h15⟩ := asN2_some h14
  obtain ⟨_, _, rfl, h16⟩ := asList_some h15
  obtain ⟨_, rfl, h17⟩ := asInt_some h16
  obtain ⟨_, _, rfl, h18⟩ := asOb_some h17
  obtain ⟨_, _, rfl, h19⟩ := obIs_some h18
  obtain ⟨rfl, h20⟩ := isN_some h19
  obtain ⟨rfl, h21⟩ := asEnd_some h20
  exact ⟨_, _, _, _, _, _, _, _, _, frame_is hg rfl (slots_cons hu3 (slots_cons hu13 (slots_cons hu14 (slots_cons hu15 slots_nil)))), rfl, h21⟩
noncomputable def Λ_zbd_1 (N : Nat) : Looper := (Λ_zbd_0 N).add [0, 1, 0, 1, 1] fun _ E s K => i_zbd_1 (killE ks_zbd_1 E) s fun k_1 e_2 f_3 x_4 x_5 e_6 f_7 x_8 e_9 => l_zbd_1 N k_1 e_2 f_3 x_4 e_6 f_7 x_8 (kk0_zbd_1 K k_1 e_2 f_3 x_4 e_6 f_7 x_8) N x_5 e_9
theorem in_zbd_1 : loopsAt b_zbd_1 (0 :: [0, 1, 0, 1, 1]) = [([0, 1, 1, 0, 0, 1, 1, 0, 0, 1, 0, 1, 1], b_zbd_0)] := by kernel_rfl
theorem ok_zbd_1 {N : Nat} (hC : Ok Tryd.prog C) (hΦ : CalleeOk Tryd.prog C (Φ_zcu N)) : LoopOk Tryd.prog C (Λ_zbd_1 N) b_zbd_1 [0, 1, 0, 1, 1] :=
  iter_ok (Λi := Λ_zbd_0 N) (tr := true) (ks := ks_zbd_1) (kx := kx_zbd_1) (N := N) hC hΦ
    (loopsOk_of b_zbd_1 _ (by
      rw [in_zbd_1]
      intro p hp
      simp only [List.mem_cons, List.mem_nil_iff, or_false] at hp
      rcases hp with rfl
      · exact (ok_zbd_0 hC hΦ)))
    fun R E s K r h => by
      have h2 := Looper.add_self.symm.trans h
      obtain ⟨_, _, _, _, _, _, _, _, _, he, rfl, h3⟩ := i_zbd_1_spec h2
      rw [he]
      exact (w_zbd_1 N _ _ _ _ _ _ _ _ N _ _).trans h3
theorem at_zbd : loopsAt c_zbd [] = [([0, 1, 0, 1, 1], b_zbd_1)] := by kernel_rfl
theorem b_zbd {R : Type} (N : Nat) (e_1 : List V) (f_2 : Fl) (x_3 : Int) (K : V → S → Option R) : bodyV C (Φ_zcu N) (Λ_zbd_1 N) 30 Tryd.f30 [.agg [.list 7 e_1 f_2, .int .i64 x_3]] [] K =
  gb_zbd N e_1 f_2 x_3 (fun e_4 => K (.list 1 e_4 .sh) []) := by kernel_rfl
theorem loops_zbd {N : Nat} (hC : Ok Tryd.prog C) (hΦ : CalleeOk Tryd.prog C (Φ_zcu N)) : LoopsOk Tryd.prog C (Λ_zbd_1 N) c_zbd [] :=
  loopsOk_of c_zbd [] (by
    rw [at_zbd]
    intro p hp
    simp only [List.mem_cons, List.mem_nil_iff, or_false] at hp
    rcases hp with rfl
    · exact (ok_zbd_1 hC hΦ))
theorem callee_zbd (hC : Ok Tryd.prog C) {N : Nat} (hΦ : CalleeOk Tryd.prog C (Φ_zcu N)) : CalleeOk Tryd.prog C (Φ_zbd N) := by
  refine hΦ.add_pure rfl fun R vs K r h => ?_
  unfold f_zbd at h
  obtain ⟨_, rfl, h1⟩ := asN1_some h
  obtain ⟨_, _, _, rfl, h2⟩ := un_impl_Fs_some h1
  obtain ⟨_, h3⟩ := asEnd_some h2
  refine body_pure (fn := Tryd.f30) (c := c_zbd) hC hΦ Tryd.func30 (by kernel_rfl) (by kernel_rfl) (loops_zbd (N := N) hC hΦ) rfl rfl ?_
  refine (b_zbd N _ _ _ _).trans ?_
  rw [← g_zbd_eq]
  exact h3
noncomputable def f_zco (N : Nat) : (R : Type) → List V → S → (V → S → Option R) → Option R := fun _ vs s K =>
  asN3 vs fun v'1 v'2 v'3 => asInt .i64 v'1 fun x_1 => asInt .i64 v'2 fun x_2 => asInt .i64 v'3 fun x_3 => asEnd s <| g_zco N x_1 x_2 x_3 (fun b_4 => K (.bool b_4) [])
noncomputable def Φ_zco (N : Nat) : Callee := (Φ_zbd N).add 62 (f_zco N)
noncomputable def c_zco : Code := bodyOf Tryd.f62
theorem b_zco {R : Type} (N : Nat) (x_1 x_2 x_3 : Int) (K : V → S → Option R) : bodyV C (Φ_zbd N) (noLooper) 62 Tryd.f62 [.int .i64 x_1, .int .i64 x_2, .int .i64 x_3] [] K =
  gb_zco N x_1 x_2 x_3 (fun b_4 => K (.bool b_4) []) := by kernel_rfl
theorem callee_zco (hC : Ok Tryd.prog C) {N : Nat} (hΦ : CalleeOk Tryd.prog C (Φ_zbd N)) : CalleeOk Tryd.prog C (Φ_zco N) := by
  refine hΦ.add_pure rfl fun R vs K r h => ?_
  unfold f_zco at h
  obtain ⟨_, _, _, rfl, h1⟩ := asN3_some h
  obtain ⟨_, rfl, h2⟩ := asInt_some h1
  obtain ⟨_, rfl, h3⟩ := asInt_some h2
  obtain ⟨_, rfl, h4⟩ := asInt_some h3
  obtain ⟨_, h5⟩ := asEnd_some h4
  refine body_pure (fn := Tryd.f62) (c := c_zco) hC hΦ Tryd.func62 (by kernel_rfl) (by kernel_rfl) (loopsOk_nil (Λ := noLooper) (by kernel_rfl)) rfl rfl ?_
  refine (b_zco N _ _ _ _).trans ?_
  rw [← g_zco_eq]
  exact h5
noncomputable def f_zcm (N : Nat) : (R : Type) → List V → S → (V → S → Option R) → Option R := fun _ vs s K =>
  asN1 vs fun v'1 => asInt .i64 v'1 fun x_1 => asEnd s <| g_zcm N x_1 (fun b_2 => K (.bool b_2) [])
noncomputable def Φ_zcm (N : Nat) : Callee := (Φ_zco N).add 63 (f_zcm N)
noncomputable def c_zcm : Code := bodyOf Tryd.f63
theorem b_zcm {R : Type} (N : Nat) (x_1 : Int) (K : V → S → Option R) : bodyV C (Φ_zco N) (noLooper) 63 Tryd.f63 [.int .i64 x_1] [] K =
  gb_zcm N x_1 (fun b_2 => K (.bool b_2) []) := by kernel_rfl
theorem callee_zcm (hC : Ok Tryd.prog C) {N : Nat} (hΦ : CalleeOk Tryd.prog C (Φ_zco N)) : CalleeOk Tryd.prog C (Φ_zcm N) := by
  refine hΦ.add_pure rfl fun R vs K r h => ?_
  unfold f_zcm at h
  obtain ⟨_, rfl, h1⟩ := asN1_some h
  obtain ⟨_, rfl, h2⟩ := asInt_some h1
  obtain ⟨_, h3⟩ := asEnd_some h2
  refine body_pure (fn := Tryd.f63) (c := c_zcm) hC hΦ Tryd.func63 (by kernel_rfl) (by kernel_rfl) (loopsOk_nil (Λ := noLooper) (by kernel_rfl)) rfl rfl ?_
  refine (b_zcm N _ _).trans ?_
  rw [← g_zcm_eq]
  exact h3
noncomputable def f_zdi (N : Nat) : (R : Type) → List V → S → (V → S → Option R) → Option R := fun _ vs s K =>
  asN1 vs fun v'1 => asInt .i64 v'1 fun x_1 => asEnd s <| g_zdi N x_1 (fun b_2 => K (.bool b_2) [])
noncomputable def Φ_zdi (N : Nat) : Callee := (Φ_zcm N).add 66 (f_zdi N)
noncomputable def c_zdi : Code := bodyOf Tryd.f66
theorem b_zdi {R : Type} (N : Nat) (x_1 : Int) (K : V → S → Option R) : bodyV C (Φ_zcm N) (noLooper) 66 Tryd.f66 [.int .i64 x_1] [] K =
  gb_zdi N x_1 (fun b_2 => K (.bool b_2) []) := by kernel_rfl
theorem callee_zdi (hC : Ok Tryd.prog C) {N : Nat} (hΦ : CalleeOk Tryd.prog C (Φ_zcm N)) : CalleeOk Tryd.prog C (Φ_zdi N) := by
  refine hΦ.add_pure rfl fun R vs K r h => ?_
  unfold f_zdi at h
  obtain ⟨_, rfl, h1⟩ := asN1_some h
  obtain ⟨_, rfl, h2⟩ := asInt_some h1
  obtain ⟨_, h3⟩ := asEnd_some h2
  refine body_pure (fn := Tryd.f66) (c := c_zdi) hC hΦ Tryd.func66 (by kernel_rfl) (by kernel_rfl) (loopsOk_nil (Λ := noLooper) (by kernel_rfl)) rfl rfl ?_
  refine (b_zdi N _ _).trans ?_
  rw [← g_zdi_eq]
  exact h3
noncomputable def f_zag (N : Nat) : (R : Type) → List V → S → (V → S → Option R) → Option R := fun _ vs s K =>
  asN2 vs fun v'1 v'2 => asStr v'1 fun w_1 => asInt .u8 v'2 fun x_2 => asEnd s <| g_zag N w_1 x_2 (fun x_3 => K (.int .i64 x_3) [])
noncomputable def Φ_zag (N : Nat) : Callee := (Φ_zdi N).add 111 (f_zag N)
theorem callee_zag (hC : Ok Tryd.prog C) {N : Nat} (hΦ : CalleeOk Tryd.prog C (Φ_zdi N)) : CalleeOk Tryd.prog C (Φ_zag N) := by
  refine hΦ.add_pure rfl fun R vs K r h => ?_
  unfold f_zag at h
  obtain ⟨_, _, rfl, h1⟩ := asN2_some h
  obtain ⟨_, rfl, h2⟩ := asStr_some h1
  obtain ⟨_, rfl, h3⟩ := asInt_some h2
  obtain ⟨_, h4⟩ := asEnd_some h3
  rw [g_zag_eq] at h4
  exact ⟨_, h4, indexByteString_pure Tryd.func111 (by kernel_rfl) (by kernel_rfl) (by kernel_rfl) (by kernel_rfl) _ _⟩
noncomputable def f_zai (N : Nat) : (R : Type) → List V → S → (V → S → Option R) → Option R := fun _ vs s K =>
  asN2 vs fun v'1 v'2 => asStr v'1 fun w_1 => asInt .u8 v'2 fun x_2 => asEnd s <| g_zai N w_1 x_2 (fun x_3 => K (.int .i64 x_3) [])
noncomputable def Φ_zai (N : Nat) : Callee := (Φ_zag N).add 107 (f_zai N)
noncomputable def c_zai : Code := bodyOf Tryd.f107
theorem b_zai {R : Type} (N : Nat) (w_1 : ByteArray) (x_2 : Int) (K : V → S → Option R) : bodyV C (Φ_zag N) (noLooper) 107 Tryd.f107 [.str w_1, .int .u8 x_2] [] K =
  gb_zai N w_1 x_2 (fun x_3 => K (.int .i64 x_3) []) := by kernel_rfl
theorem callee_zai (hC : Ok Tryd.prog C) {N : Nat} (hΦ : CalleeOk Tryd.prog C (Φ_zag N)) : CalleeOk Tryd.prog C (Φ_zai N) := by
  refine hΦ.add_pure rfl fun R vs K r h => ?_
  unfold f_zai at h
  obtain ⟨_, _, rfl, h1⟩ := asN2_some h
  obtain ⟨_, rfl, h2⟩ := asStr_some h1
  obtain ⟨_, rfl, h3⟩ := asInt_some h2
  obtain ⟨_, h4⟩ := asEnd_some h3
  refine body_pure (fn := Tryd.f107) (c := c_zai) hC hΦ Tryd.func107 (by kernel_rfl) (by kernel_rfl) (loopsOk_nil (Λ := noLooper) (by kernel_rfl)) rfl rfl ?_
  refine (b_zai N _ _ _).trans ?_
  rw [← g_zai_eq]
  exact h4
noncomputable def f_zal (N : Nat) : (R : Type) → List V → S → (V → S → Option R) → Option R := fun _ vs s K =>
  asN2 vs fun v'1 v'2 => asStr v'1 fun w_1 => asStr v'2 fun w_2 => asEnd s <| g_zal N w_1 w_2 (fun x_3 => K (.int .i64 x_3) [])
noncomputable def Φ_zal (N : Nat) : Callee := (Φ_zai N).add 104 (f_zal N)
noncomputable def c_zal : Code := bodyOf Tryd.f104
noncomputable def b_zal_x0_0_1_1_1_1_1_1_1_1 : Code := (loopNo c_zal [] 0).2
theorem at_zal : loopsAt c_zal [] = [([0, 0, 1, 1, 1, 1, 1, 1, 1, 1], b_zal_x0_0_1_1_1_1_1_1_1_1)] := by kernel_rfl
theorem b_zal {R : Type} (N : Nat) (w_1 w_2 : ByteArray) (K : V → S → Option R) : bodyV C (Φ_zai N) (noLooper) 104 Tryd.f104 [.str w_1, .str w_2] [] K =
  gb_zal N w_1 w_2 (fun x_3 => K (.int .i64 x_3) []) := by kernel_rfl
theorem loops_zal {N : Nat} (hC : Ok Tryd.prog C) (hΦ : CalleeOk Tryd.prog C (Φ_zai N)) : LoopsOk Tryd.prog C (noLooper) c_zal [] :=
  loopsOk_of c_zal [] (by
    rw [at_zal]
    intro p hp
    simp only [List.mem_cons, List.mem_nil_iff, or_false] at hp
    rcases hp with rfl
    · exact noLooper_ok)
theorem callee_zal (hC : Ok Tryd.prog C) {N : Nat} (hΦ : CalleeOk Tryd.prog C (Φ_zai N)) : CalleeOk Tryd.prog C (Φ_zal N) := by
  refine hΦ.add_pure rfl fun R vs K r h => ?_
  unfold f_zal at h
  obtain ⟨_, _, rfl, h1⟩ := asN2_some h
  obtain ⟨_, rfl, h2⟩ := asStr_some h1
  obtain ⟨_, rfl, h3⟩ := asStr_some h2
  obtain ⟨_, h4⟩ := asEnd_some h3
  refine body_pure (fn := Tryd.f104) (c := c_zal) hC hΦ Tryd.func104 (by kernel_rfl) (by kernel_rfl) (loops_zal (N := N) hC hΦ) rfl rfl ?_
  refine (b_zal N _ _ _).trans ?_
  rw [← g_zal_eq]
  exact h4
noncomputable def f_zbo (N : Nat) : (R : Type) → List V → S → (V → S → Option R) → Option R := fun _ vs s K =>
  asN2 vs fun v'1 v'2 => asStr v'1 fun w_1 => asStr v'2 fun w_2 => asEnd s <| g_zbo N w_1 w_2 (fun x_3 => K (.int .i64 x_3) [])
noncomputable def Φ_zbo (N : Nat) : Callee := (Φ_zal N).add 97 (f_zbo N)
noncomputable def c_zbo : Code := bodyOf Tryd.f97
theorem b_zbo {R : Type} (N : Nat) (w_1 w_2 : ByteArray) (K : V → S → Option R) : bodyV C (Φ_zal N) (noLooper) 97 Tryd.f97 [.str w_1, .str w_2] [] K =
  gb_zbo N w_1 w_2 (fun x_3 => K (.int .i64 x_3) []) := by kernel_rfl
theorem callee_zbo (hC : Ok Tryd.prog C) {N : Nat} (hΦ : CalleeOk Tryd.prog C (Φ_zal N)) : CalleeOk Tryd.prog C (Φ_zbo N) := by
  refine hΦ.add_pure rfl fun R vs K r h => ?_
  unfold f_zbo at h
  obtain ⟨_, _, rfl, h1⟩ := asN2_some h
  obtain ⟨_, rfl, h2⟩ := asStr_some h1
  obtain ⟨_, rfl, h3⟩ := asStr_some h2
  obtain ⟨_, h4⟩ := asEnd_some h3
  refine body_pure (fn := Tryd.f97) (c := c_zbo) hC hΦ Tryd.func97 (by kernel_rfl) (by kernel_rfl) (loopsOk_nil (Λ := noLooper) (by kernel_rfl)) rfl rfl ?_
  refine (b_zbo N _ _ _).trans ?_
  rw [← g_zbo_eq]
  exact h4
noncomputable def f_zaj (N : Nat) : (R : Type) → List V → S → (V → S → Option R) → Option R := fun _ vs s K =>
  asN2 vs fun v'1 v'2 => asStr v'1 fun w_1 => asInt .u8 v'2 fun x_2 => asEnd s <| g_zaj N w_1 x_2 (fun x_3 => K (.int .i64 x_3) [])
noncomputable def Φ_zaj (N : Nat) : Callee := (Φ_zbo N).add 103 (f_zaj N)
theorem callee_zaj (hC : Ok Tryd.prog C) {N : Nat} (hΦ : CalleeOk Tryd.prog C (Φ_zbo N)) : CalleeOk Tryd.prog C (Φ_zaj N) := by
  refine hΦ.add_pure rfl fun R vs K r h => ?_
  unfold f_zaj at h
  obtain ⟨_, _, rfl, h1⟩ := asN2_some h
  obtain ⟨_, rfl, h2⟩ := asStr_some h1
  obtain ⟨_, rfl, h3⟩ := asInt_some h2
  obtain ⟨_, h4⟩ := asEnd_some h3
  rw [g_zaj_eq] at h4
  exact ⟨_, h4, countString_pure Tryd.func103 (by kernel_rfl) (by kernel_rfl) (by kernel_rfl) (by kernel_rfl) _ _⟩
noncomputable def f_zbn (N : Nat) : (R : Type) → List V → S → (V → S → Option R) → Option R := fun _ vs s K =>
  asN2 vs fun v'1 v'2 => asStr v'1 fun w_1 => asStr v'2 fun w_2 => asEnd s <| g_zbn N w_1 w_2 (fun x_3 => K (.int .i64 x_3) [])
noncomputable def Φ_zbn (N : Nat) : Callee := (Φ_zaj N).add 96 (f_zbn N)
noncomputable def c_zbn : Code := bodyOf Tryd.f96
noncomputable def b_zbn_0 : Code := (loopNo c_zbn [] 0).2
def ks_zbn_0 : List Nat := butL 34 [0, 1, 5]
def kx_zbn_0 : List Nat := butL 34 [4]
def fr_zbn_0 (w_2 w_1 : ByteArray) (x_3 : Int) : List V := mkF 0 34 [(0, .str w_1), (1, .str w_2), (5, .int .i64 x_3)]
def kk0_zbn_0 {R : Type} (K : X → List V → S → Option R) (w_2 : ByteArray) : Int → Option R := (fun x_1' => K .ret (mkF 0 34 [(4, .int .i64 (x_1'))]) [])
noncomputable abbrev it_zbn_0 {R : Type} (N : Nat) : Nat → List V → S → (X → List V → S → Option R) → Option R := fun n => iter C (Φ_zaj N) (noLooper) b_zbn_0 [0, 1, 1, 1, 1] false ks_zbn_0 kx_zbn_0 n R
theorem r_zbn_0 {R : Type} (N n : Nat) (w_2 : ByteArray) (w_1 : ByteArray) (x_3 : Int) (K : X → List V → S → Option R) :
  it_zbn_0 N (n + 1) (fr_zbn_0 w_2 w_1 x_3) [] K =
  l_zbn_0_step N w_2 (fun w_1 x_3 => it_zbn_0 N n (fr_zbn_0 w_2 w_1 x_3) [] K) w_1 x_3 (kk0_zbn_0 K w_2) := by kernel_rfl
theorem w_zbn_0 {R : Type} (N : Nat) (w_2 : ByteArray) (K : X → List V → S → Option R) : ∀ (n : Nat) (w_1 : ByteArray) (x_3 : Int),
  it_zbn_0 N n (fr_zbn_0 w_2 w_1 x_3) [] K = l_zbn_0 N w_2 (kk0_zbn_0 K w_2) n w_1 x_3
  | 0, _, _ => rfl
  | n + 1, w_1, x_3 => (r_zbn_0 N n w_2 w_1 x_3 K).trans (congrArg (fun nx => l_zbn_0_step N w_2 nx w_1 x_3 (kk0_zbn_0 K w_2)) (funext fun w_1 => funext fun x_3 => w_zbn_0 N w_2 K n w_1 x_3))
def i_zbn_0 {R : Type} (E : List V) (s : S) (k : ByteArray → ByteArray → Int → Option R) : Option R :=
  guardB (frameOk 34 [0, 1, 5] E) <| atStr E 0 fun w_1 => atStr E 1 fun w_2 => atInt E 5 .i64 fun x_3 => asEnd s <| k w_1 w_2 x_3
theorem i_zbn_0_spec {R : Type} {E : List V} {s : S} {k : ByteArray → ByteArray → Int → Option R} {r : R} (h : i_zbn_0 E s k = some r) : ∃ w_1 w_2 x_3, E = fr_zbn_0 w_2 w_1 x_3 ∧ s = [] ∧ k w_1 w_2 x_3 = some r := by
  unfold i_zbn_0 at h
  obtain ⟨hg, h1⟩ := guardB_some h
  obtain ⟨_, hu0, h2⟩ := atStr_some h1
  obtain ⟨_, hu1, h3⟩ := atStr_some h2
  obtain ⟨_, hu5, h4⟩ := atInt_some h3
  obtain ⟨rfl, h5⟩ := asEnd_some h4
  exact ⟨_, _, _, frame_is hg rfl (slots_cons hu0 (slots_cons hu1 (slots_cons hu5 slots_nil))), rfl, h5⟩
noncomputable def Λ_zbn_0 (N : Nat) : Looper := (noLooper).add [0, 1, 1, 1, 1] fun _ E s K => i_zbn_0 (killE ks_zbn_0 E) s fun w_1 w_2 x_3 => l_zbn_0 N w_2 (kk0_zbn_0 K w_2) N w_1 x_3
theorem ok_zbn_0 {N : Nat} (hC : Ok Tryd.prog C) (hΦ : CalleeOk Tryd.prog C (Φ_zaj N)) : LoopOk Tryd.prog C (Λ_zbn_0 N) b_zbn_0 [0, 1, 1, 1, 1] :=
  iter_ok (Λi := noLooper) (tr := false) (ks := ks_zbn_0) (kx := kx_zbn_0) (N := N) hC hΦ
    (loopsOk_nil (by kernel_rfl))
    fun R E s K r h => by
      have h2 := Looper.add_self.symm.trans h
      obtain ⟨_, _, _, he, rfl, h3⟩ := i_zbn_0_spec h2
      rw [he]
      exact (w_zbn_0 N _ _ N _ _).trans h3
theorem at_zbn : loopsAt c_zbn [] = [([0, 1, 1, 1, 1], b_zbn_0)] := by kernel_rfl
theorem b_zbn {R : Type} (N : Nat) (w_1 w_2 : ByteArray) (K : V → S → Option R) : bodyV C (Φ_zaj N) (Λ_zbn_0 N) 96 Tryd.f96 [.str w_1, .str w_2] [] K =
  gb_zbn N w_1 w_2 (fun x_3 => K (.int .i64 x_3) []) := by kernel_rfl
theorem loops_zbn {N : Nat} (hC : Ok Tryd.prog C) (hΦ : CalleeOk Tryd.prog C (Φ_zaj N)) : LoopsOk Tryd.prog C (Λ_zbn_0 N) c_zbn [] :=
  loopsOk_of c_zbn [] (by
    rw [at_zbn]
    intro p hp
    simp only [List.mem_cons, List.mem_nil_iff, or_false] at hp
    rcases hp with rfl
    · exact (ok_zbn_0 hC hΦ))
theorem callee_zbn (hC : Ok Tryd.prog C) {N : Nat} (hΦ : CalleeOk Tryd.prog C (Φ_zaj N)) : CalleeOk Tryd.prog C (Φ_zbn N) := by
  refine hΦ.add_pure rfl fun R vs K r h => ?_
  unfold f_zbn at h
  obtain ⟨_, _, rfl, h1⟩ := asN2_some h
  obtain ⟨_, rfl, h2⟩ := asStr_some h1
  obtain ⟨_, rfl, h3⟩ := asStr_some h2
  obtain ⟨_, h4⟩ := asEnd_some h3
  refine body_pure (fn := Tryd.f96) (c := c_zbn) hC hΦ Tryd.func96 (by kernel_rfl) (by kernel_rfl) (loops_zbn (N := N) hC hΦ) rfl rfl ?_
  refine (b_zbn N _ _ _).trans ?_
  rw [← g_zbn_eq]
  exact h4
noncomputable def f_zaq (N : Nat) : (R : Type) → List V → S → (V → S → Option R) → Option R := fun _ vs s K =>
  asN4 vs fun v'1 v'2 v'3 v'4 => asStr v'1 fun w_1 => asStr v'2 fun w_2 => asInt .i64 v'3 fun x_3 => asInt .i64 v'4 fun x_4 => guardB (distinct []) <| guardB (okI 0 [] []) <| g_zaq N w_1 w_2 x_3 x_4 (fun e_901 => FK s [] rl K (.list 1 e_901 .sh) []) (fun k_902 e_903 => FK s [] rl K (.arr 0 0 0 k_902) [some ⟨e_903, 1, 9, 0⟩])
noncomputable def Φ_zaq (N : Nat) : Callee := (Φ_zbn N).add 89 (f_zaq N)
noncomputable def c_zaq : Code := bodyOf Tryd.f89
noncomputable def b_zaq_0 : Code := (loopNo c_zaq [] 0).2
def ks_zaq_0 : List Nat := butL 66 [0, 1, 2, 3, 9, 10]
def kx_zaq_0 : List Nat := butL 66 [0, 9, 10]
def fr_zaq_0 (w_2 : ByteArray) (x_3 x_4 : Int) (k_5 : Nat) (w_1 : ByteArray) (x_6 : Int) (e_7 : List V) : List V := mkF 0 66 [(0, .str w_1), (1, .str w_2), (2, .int .i64 x_3), (3, .int .i64 x_4), (9, .arr 0 0 0 k_5), (10, .int .i64 x_6)]
def kk0_zaq_0 {R : Type} (K : X → List V → S → Option R) (w_2 : ByteArray) (x_3 : Int) (x_4 : Int) (k_5 : Nat) : ByteArray → Int → List V → Option R := (fun w_1' x_2' e_3' => K (.exit 0) (mkF 0 66 [(0, .str (w_1')), (9, .arr 0 0 0 k_5), (10, .int .i64 (x_2'))]) [some ⟨e_3', 1, 9, 0⟩])
noncomputable abbrev it_zaq_0 {R : Type} (N : Nat) : Nat → List V → S → (X → List V → S → Option R) → Option R := fun n => iter C (Φ_zbn N) (noLooper) b_zaq_0 [0, 0, 1, 1, 1, 1, 1, 1, 1, 1] false ks_zaq_0 kx_zaq_0 n R
theorem r_zaq_0 {R : Type} (N n : Nat) (w_2 : ByteArray) (x_3 x_4 : Int) (k_5 : Nat) (w_1 : ByteArray) (x_6 : Int) (e_7 : List V) (K : X → List V → S → Option R) :
  it_zaq_0 N (n + 1) (fr_zaq_0 w_2 x_3 x_4 k_5 w_1 x_6 e_7) [some ⟨e_7, 1, 9, 0⟩] K =
  l_zaq_0_step N w_2 x_3 x_4 k_5 (fun w_1 x_6 e_7 => it_zaq_0 N n (fr_zaq_0 w_2 x_3 x_4 k_5 w_1 x_6 e_7) [some ⟨e_7, 1, 9, 0⟩] K) w_1 x_6 e_7 (kk0_zaq_0 K w_2 x_3 x_4 k_5) := by kernel_rfl
theorem w_zaq_0 {R : Type} (N : Nat) (w_2 : ByteArray) (x_3 x_4 : Int) (k_5 : Nat) (K : X → List V → S → Option R) : ∀ (n : Nat) (w_1 : ByteArray) (x_6 : Int) (e_7 : List V),
  it_zaq_0 N n (fr_zaq_0 w_2 x_3 x_4 k_5 w_1 x_6 e_7) [some ⟨e_7, 1, 9, 0⟩] K = l_zaq_0 N w_2 x_3 x_4 k_5 (kk0_zaq_0 K w_2 x_3 x_4 k_5) n w_1 x_6 e_7
  | 0, _, _, _ => rfl
  | n + 1, w_1, x_6, e_7 => (r_zaq_0 N n w_2 x_3 x_4 k_5 w_1 x_6 e_7 K).trans (congrArg (fun nx => l_zaq_0_step N w_2 x_3 x_4 k_5 nx w_1 x_6 e_7 (kk0_zaq_0 K w_2 x_3 x_4 k_5)) (funext fun w_1 => funext fun x_6 => funext fun e_7 => w_zaq_0 N w_2 x_3 x_4 k_5 K n w_1 x_6 e_7))
def i_zaq_0 {R : Type} (E : List V) (s : S) (k : ByteArray → ByteArray → Int → Int → Nat → Int → List V → Option R) : Option R :=
  guardB (frameOk 66 [0, 1, 2, 3, 9, 10] E) <| atStr E 0 fun w_1 => atStr E 1 fun w_2 => atInt E 2 .i64 fun x_3 => atInt E 3 .i64 fun x_4 => must (nth E 9) fun u9 => asArr u9 fun k'1 k'2 k'3 k_5 => isN k'1 0 <| isN k'2 0 <| isN k'3 0 <| atInt E 10 .i64 fun x_6 => asOb s fun o'4 s'5 => obIs o'4 1 9 fun e_7 k'6 => isN k'6 0 <| asEnd s'5 <| k w_1 w_2 x_3 x_4 k_5 x_6 e_7
theorem i_zaq_0_spec {R : Type} {E : List V} {s : S} {k : ByteArray → ByteArray → Int → Int → Nat → Int → List V → Option R} {r : R} (h : i_zaq_0 E s k = some r) : ∃ w_1 w_2 x_3 x_4 k_5 x_6 e_7, E = fr_zaq_0 w_2 x_3 x_4 k_5 w_1 x_6 e_7 ∧ s = [some ⟨e_7, 1, 9, 0⟩] ∧ k w_1 w_2 x_3 x_4 k_5 x_6 e_7 = some r := by
  unfold i_zaq_0 at h
  obtain ⟨hg, h1⟩ := guardB_some h
  obtain ⟨_, hu0, h2⟩ := atStr_some h1
  obtain ⟨_, hu1, h3⟩ := atStr_some h2
  obtain ⟨_, hu2, h4⟩ := atInt_some h3
  obtain ⟨_, hu3, h5⟩ := atInt_some h4
  obtain ⟨_, hu9, h6⟩ := must_some h5
  obtain ⟨_, _, _, _, rfl, h7⟩ := asArr_some h6
  obtain ⟨rfl, h8⟩ := isN_some h7
  obtain ⟨rfl, h9⟩ := isN_some h8
  obtain ⟨rfl, h10⟩ := isN_some h9
  obtain ⟨_, hu10, h11⟩ := atInt_some h10
  obtain ⟨_, _, rfl, h12⟩ := asOb_some h11
  obtain ⟨_, _, rfl, h13⟩ := obIs_some h12
  obtain ⟨rfl, h14⟩ := isN_some h13
  obtain ⟨rfl, h15⟩ := asEnd_some h14
  exact ⟨_, _, _, _, _, _, _, frame_is hg rfl (slots_cons hu0 (slots_cons hu1 (slots_cons hu2 (slots_cons hu3 (slots_cons hu9 (slots_cons hu10 slots_nil)))))), rfl, h15⟩
noncomputable def Λ_zaq_0 (N : Nat) : Looper := (noLooper).add [0, 0, 1, 1, 1, 1, 1, 1, 1, 1] fun _ E s K => i_zaq_0 (killE ks_zaq_0 E) s fun w_1 w_2 x_3 x_4 k_5 x_6 e_7 => l_zaq_0 N w_2 x_3 x_4 k_5 (kk0_zaq_0 K w_2 x_3 x_4 k_5) N w_1 x_6 e_7
theorem ok_zaq_0 {N : Nat} (hC : Ok Tryd.prog C) (hΦ : CalleeOk Tryd.prog C (Φ_zbn N)) : LoopOk Tryd.prog C (Λ_zaq_0 N) b_zaq_0 [0, 0, 1, 1, 1, 1, 1, 1, 1, 1] :=
  iter_ok (Λi := noLooper) (tr := false) (ks := ks_zaq_0) (kx := kx_zaq_0) (N := N) hC hΦ
    (loopsOk_nil (by kernel_rfl))
    fun R E s K r h => by
      have h2 := Looper.add_self.symm.trans h
      obtain ⟨_, _, _, _, _, _, _, he, rfl, h3⟩ := i_zaq_0_spec h2
      rw [he]
      exact (w_zaq_0 N _ _ _ _ _ N _ _ _).trans h3
theorem at_zaq : loopsAt c_zaq [] = [([0, 0, 1, 1, 1, 1, 1, 1, 1, 1], b_zaq_0)] := by kernel_rfl
theorem b_zaq {R : Type} (N : Nat) (w_1 w_2 : ByteArray) (x_3 x_4 : Int) (K : V → S → Option R) : bodyV C (Φ_zbn N) (Λ_zaq_0 N) 89 Tryd.f89 [.str w_1, .str w_2, .int .i64 x_3, .int .i64 x_4] [] (GK rl 0 K) =
  gb_zaq N w_1 w_2 x_3 x_4 (fun e_901 => K (.list 1 e_901 .sh) []) (fun k_902 e_903 => K (.arr 0 0 0 k_902) [some ⟨e_903, 1, 9, 0⟩]) := by kernel_rfl
theorem loops_zaq {N : Nat} (hC : Ok Tryd.prog C) (hΦ : CalleeOk Tryd.prog C (Φ_zbn N)) : LoopsOk Tryd.prog C (Λ_zaq_0 N) c_zaq [] :=
  loopsOk_of c_zaq [] (by
    rw [at_zaq]
    intro p hp
    simp only [List.mem_cons, List.mem_nil_iff, or_false] at hp
    rcases hp with rfl
    · exact (ok_zaq_0 hC hΦ))
theorem callee_zaq (hC : Ok Tryd.prog C) {N : Nat} (hΦ : CalleeOk Tryd.prog C (Φ_zbn N)) : CalleeOk Tryd.prog C (Φ_zaq N) := by
  refine hΦ.add_shared rfl fun R vs s K r h => ?_
  unfold f_zaq at h
  obtain ⟨_, _, _, _, rfl, h1⟩ := asN4_some h
  obtain ⟨w_1, rfl, h2⟩ := asStr_some h1
  obtain ⟨w_2, rfl, h3⟩ := asStr_some h2
  obtain ⟨x_3, rfl, h4⟩ := asInt_some h3
  obtain ⟨x_4, rfl, h5⟩ := asInt_some h4
  obtain ⟨hdist, h6⟩ := guardB_some h5
  obtain ⟨hin, h7⟩ := guardB_some h6
  refine frames_body (fn := Tryd.f89) (c := c_zaq) (os := []) (rl := rl) (bi := []) (s0 := []) (as0 := [.str w_1, .str w_2, .int .i64 x_3, .int .i64 x_4]) hC hΦ Tryd.func89 (by kernel_rfl) (by kernel_rfl) (loops_zaq (N := N) hC hΦ) rfl hdist trivial hin rfl rfl ?_
  refine (b_zaq N _ _ _ _ _).trans ?_
  rw [← g_zaq_eq]
  exact h7
noncomputable def f_zbp (N : Nat) : (R : Type) → List V → S → (V → S → Option R) → Option R := fun _ vs s K =>
  asN2 vs fun v'1 v'2 => asStr v'1 fun w_1 => asStr v'2 fun w_2 => guardB (distinct []) <| guardB (okI 0 [] []) <| g_zbp N w_1 w_2 (fun e_901 => FK s [] rl K (.list 1 e_901 .sh) []) (fun k_902 e_903 => FK s [] rl K (.arr 0 0 0 k_902) [some ⟨e_903, 1, 9, 0⟩])
noncomputable def Φ_zbp (N : Nat) : Callee := (Φ_zaq N).add 70 (f_zbp N)
noncomputable def c_zbp : Code := bodyOf Tryd.f70
theorem b_zbp {R : Type} (N : Nat) (w_1 w_2 : ByteArray) (K : V → S → Option R) : bodyV C (Φ_zaq N) (noLooper) 70 Tryd.f70 [.str w_1, .str w_2] [] (GK rl 0 K) =
  gb_zbp N w_1 w_2 (fun e_901 => K (.list 1 e_901 .sh) []) (fun k_902 e_903 => K (.arr 0 0 0 k_902) [some ⟨e_903, 1, 9, 0⟩]) := by kernel_rfl
theorem callee_zbp (hC : Ok Tryd.prog C) {N : Nat} (hΦ : CalleeOk Tryd.prog C (Φ_zaq N)) : CalleeOk Tryd.prog C (Φ_zbp N) := by
  refine hΦ.add_shared rfl fun R vs s K r h => ?_
  unfold f_zbp at h
  obtain ⟨_, _, rfl, h1⟩ := asN2_some h
  obtain ⟨w_1, rfl, h2⟩ := asStr_some h1
  obtain ⟨w_2, rfl, h3⟩ := asStr_some h2
  obtain ⟨hdist, h4⟩ := guardB_some h3
  obtain ⟨hin, h5⟩ := guardB_some h4
  refine frames_body (fn := Tryd.f70) (c := c_zbp) (os := []) (rl := rl) (bi := []) (s0 := []) (as0 := [.str w_1, .str w_2]) hC hΦ Tryd.func70 (by kernel_rfl) (by kernel_rfl) (loopsOk_nil (Λ := noLooper) (by kernel_rfl)) rfl hdist trivial hin rfl rfl ?_
  refine (b_zbp N _ _ _).trans ?_
  rw [← g_zbp_eq]
  exact h5
noncomputable def f_zau (N : Nat) : (R : Type) → List V → S → (V → S → Option R) → Option R := fun _ vs s K =>
  asN1 vs fun v'1 => asStr v'1 fun w_1 => asEnd s <| g_zau N w_1 (fun b_2 => K (.bool b_2) [])
noncomputable def Φ_zau (N : Nat) : Callee := (Φ_zbp N).add 71 (f_zau N)
noncomputable def c_zau : Code := bodyOf Tryd.f71
theorem b_zau {R : Type} (N : Nat) (w_1 : ByteArray) (K : V → S → Option R) : bodyV C (Φ_zbp N) (noLooper) 71 Tryd.f71 [.str w_1] [] K =
  gb_zau N w_1 (fun b_2 => K (.bool b_2) []) := by kernel_rfl
theorem callee_zau (hC : Ok Tryd.prog C) {N : Nat} (hΦ : CalleeOk Tryd.prog C (Φ_zbp N)) : CalleeOk Tryd.prog C (Φ_zau N) := by
  refine hΦ.add_pure rfl fun R vs K r h => ?_
  unfold f_zau at h
  obtain ⟨_, rfl, h1⟩ := asN1_some h
  obtain ⟨_, rfl, h2⟩ := asStr_some h1
  obtain ⟨_, h3⟩ := asEnd_some h2
  refine body_pure (fn := Tryd.f71) (c := c_zau) hC hΦ Tryd.func71 (by kernel_rfl) (by kernel_rfl) (loopsOk_nil (Λ := noLooper) (by kernel_rfl)) rfl rfl ?_
  refine (b_zau N _ _).trans ?_
  rw [← g_zau_eq]
  exact h3
noncomputable def f_zac (N : Nat) : (R : Type) → List V → S → (V → S → Option R) → Option R := fun _ vs s K =>
  asN2 vs fun v'1 v'2 => asList 1 v'1 fun e_1 f_2 => asFn 71 v'2 fun c'3 => asN0 c'3 <| asEnd s <| g_zac N e_1 f_2 (fun x_3 => K (.int .i64 x_3) [])
noncomputable def Φ_zac (N : Nat) : Callee := (Φ_zau N).addIf 88 (fun l => isFn 1 71 l) (f_zac N)
noncomputable def c_zac : Code := bodyOf Tryd.f88
noncomputable def b_zac_0 : Code := (loopNo c_zac [] 0).2
def ks_zac_0 : List Nat := butL 19 [0, 1, 7, 8]
def kx_zac_0 : List Nat := butL 19 [4]
def fr_zac_0 (e_1 : List V) (f_2 : Fl) (x_3 x_4 : Int) : List V := mkF 0 19 [(0, .list 1 e_1 f_2), (1, .fn 71 []), (7, .int .i64 x_3), (8, .int .i64 x_4)]
def kk0_zac_0 {R : Type} (K : X → List V → S → Option R) (e_1 : List V) (f_2 : Fl) (x_3 : Int) : Int → Option R := (fun x_1' => K .ret (mkF 0 19 [(4, .int .i64 (x_1'))]) [])
def kk1_zac_0 {R : Type} (K : X → List V → S → Option R) (e_1 : List V) (f_2 : Fl) (x_3 : Int) : Unit → Option R := (fun _ => K (.exit 0) (mkF 0 19 []) [])
noncomputable abbrev it_zac_0 {R : Type} (N : Nat) : Nat → List V → S → (X → List V → S → Option R) → Option R := fun n => iter C (Φ_zau N) (noLooper) b_zac_0 [0, 1, 0, 1] false ks_zac_0 kx_zac_0 n R
theorem r_zac_0 {R : Type} (N n : Nat) (e_1 : List V) (f_2 : Fl) (x_3 : Int) (x_4 : Int) (K : X → List V → S → Option R) :
  it_zac_0 N (n + 1) (fr_zac_0 e_1 f_2 x_3 x_4) [] K =
  l_zac_0_step N e_1 f_2 x_3 (fun x_4 => it_zac_0 N n (fr_zac_0 e_1 f_2 x_3 x_4) [] K) x_4 (kk0_zac_0 K e_1 f_2 x_3) (kk1_zac_0 K e_1 f_2 x_3) := by kernel_rfl
theorem w_zac_0 {R : Type} (N : Nat) (e_1 : List V) (f_2 : Fl) (x_3 : Int) (K : X → List V → S → Option R) : ∀ (n : Nat) (x_4 : Int),
  it_zac_0 N n (fr_zac_0 e_1 f_2 x_3 x_4) [] K = l_zac_0 N e_1 f_2 x_3 (kk0_zac_0 K e_1 f_2 x_3) (kk1_zac_0 K e_1 f_2 x_3) n x_4
  | 0, _ => rfl
  | n + 1, x_4 => (r_zac_0 N n e_1 f_2 x_3 x_4 K).trans (congrArg (fun nx => l_zac_0_step N e_1 f_2 x_3 nx x_4 (kk0_zac_0 K e_1 f_2 x_3) (kk1_zac_0 K e_1 f_2 x_3)) (funext fun x_4 => w_zac_0 N e_1 f_2 x_3 K n x_4))
def i_zac_0 {R : Type} (E : List V) (s : S) (k : List V → Fl → Int → Int → Option R) : Option R :=
  guardB (frameOk 19 [0, 1, 7, 8] E) <| atList E 0 1 fun e_1 f_2 => must (nth E 1) fun u1 => asFn 71 u1 fun c'1 => asN0 c'1 <| atInt E 7 .i64 fun x_3 => atInt E 8 .i64 fun x_4 => asEnd s <| k e_1 f_2 x_3 x_4
theorem i_zac_0_spec {R : Type} {E : List V} {s : S} {k : List V → Fl → Int → Int → Option R} {r : R} (h : i_zac_0 E s k = some r) : ∃ e_1 f_2 x_3 x_4, E = fr_zac_0 e_1 f_2 x_3 x_4 ∧ s = [] ∧ k e_1 f_2 x_3 x_4 = some r := by
  unfold i_zac_0 at h
  obtain ⟨hg, h1⟩ := guardB_some h
  obtain ⟨_, _, hu0, h2⟩ := atList_some h1
  obtain ⟨_, hu1, h3⟩ := must_some h2
  obtain ⟨_, rfl, h4⟩ := asFn_some h3
  obtain ⟨rfl, h5⟩ := asN0_some h4
  obtain ⟨_, hu7, h6⟩ := atInt_some h5
  obtain ⟨_, hu8, h7⟩ := atInt_some h6
  obtain ⟨rfl, h8⟩ := asEnd_some h7
  exact ⟨_, _, _, _, frame_is hg rfl (slots_cons hu0 (slots_cons hu1 (slots_cons hu7 (slots_cons hu8 slots_nil)))), rfl, h8⟩
noncomputable def Λ_zac_0 (N : Nat) : Looper := (noLooper).add [0, 1, 0, 1] fun _ E s K => i_zac_0 (killE ks_zac_0 E) s fun e_1 f_2 x_3 x_4 => l_zac_0 N e_1 f_2 x_3 (kk0_zac_0 K e_1 f_2 x_3) (kk1_zac_0 K e_1 f_2 x_3) N x_4
theorem ok_zac_0 {N : Nat} (hC : Ok Tryd.prog C) (hΦ : CalleeOk Tryd.prog C (Φ_zau N)) : LoopOk Tryd.prog C (Λ_zac_0 N) b_zac_0 [0, 1, 0, 1] :=
  iter_ok (Λi := noLooper) (tr := false) (ks := ks_zac_0) (kx := kx_zac_0) (N := N) hC hΦ
    (loopsOk_nil (by kernel_rfl))
    fun R E s K r h => by
      have h2 := Looper.add_self.symm.trans h
      obtain ⟨_, _, _, _, he, rfl, h3⟩ := i_zac_0_spec h2
      rw [he]
      exact (w_zac_0 N _ _ _ _ N _).trans h3
theorem at_zac : loopsAt c_zac [] = [([0, 1, 0, 1], b_zac_0)] := by kernel_rfl
theorem b_zac {R : Type} (N : Nat) (e_1 : List V) (f_2 : Fl) (K : V → S → Option R) : bodyV C (Φ_zau N) (Λ_zac_0 N) 88 Tryd.f88 [.list 1 e_1 f_2, .fn 71 []] [] K =
  gb_zac N e_1 f_2 (fun x_3 => K (.int .i64 x_3) []) := by kernel_rfl
theorem loops_zac {N : Nat} (hC : Ok Tryd.prog C) (hΦ : CalleeOk Tryd.prog C (Φ_zau N)) : LoopsOk Tryd.prog C (Λ_zac_0 N) c_zac [] :=
  loopsOk_of c_zac [] (by
    rw [at_zac]
    intro p hp
    simp only [List.mem_cons, List.mem_nil_iff, or_false] at hp
    rcases hp with rfl
    · exact (ok_zac_0 hC hΦ))
theorem callee_zac (hC : Ok Tryd.prog C) {N : Nat} (hΦ : CalleeOk Tryd.prog C (Φ_zau N)) : CalleeOk Tryd.prog C (Φ_zac N) := by
  refine hΦ.addIf_pure rfl fun R vs K r h => ?_
  unfold f_zac at h
  obtain ⟨_, _, rfl, h1⟩ := asN2_some h
  obtain ⟨_, _, rfl, h2⟩ := asList_some h1
  obtain ⟨_, rfl, h3⟩ := asFn_some h2
  obtain ⟨rfl, h4⟩ := asN0_some h3
  obtain ⟨_, h5⟩ := asEnd_some h4
  refine body_pure (fn := Tryd.f88) (c := c_zac) hC hΦ Tryd.func88 (by kernel_rfl) (by kernel_rfl) (loops_zac (N := N) hC hΦ) rfl rfl ?_
  refine (b_zac N _ _ _).trans ?_
  rw [← g_zac_eq]
  exact h5
noncomputable def f_zab (N : Nat) : (R : Type) → List V → S → (V → S → Option R) → Option R := fun _ vs s K =>
  asN2 vs fun v'1 v'2 => asArr v'1 fun o0 k'4 k'5 k_1 => isN k'4 0 <| isN k'5 0 <| asFn 71 v'2 fun c'6 => asN0 c'6 <| asAt s o0 0 fun o'7 => obIs o'7 1 9 fun e_2 k'9 => isN k'9 0 <| guardB (distinct [o0]) <| guardB (okI 1 [false] [some ⟨e_2, 1, 9, 0⟩]) <| g_zab N k_1 e_2 (fun k_901 e_902 => FK s [o0] rl K (.arr 0 0 0 k_901) [some ⟨e_902, 1, 9, 0⟩])
noncomputable def Φ_zab (N : Nat) : Callee := (Φ_zac N).addIf 69 (fun l => isFnC 1 71 l) (f_zab N)
noncomputable def c_zab : Code := bodyOf Tryd.f69
noncomputable def b_zab_0 : Code := (loopNo c_zab [] 0).2
def ks_zab_0 : List Nat := butL 42 [0, 1, 5, 6]
def kx_zab_0 : List Nat := butL 42 [0, 5]
def fr_zab_0 (k_1 : Nat) (x_2 x_3 : Int) (e_4 : List V) : List V := mkF 0 42 [(0, .arr 0 0 0 k_1), (1, .fn 71 []), (5, .int .i64 x_2), (6, .int .i64 x_3)]
def kk0_zab_0 {R : Type} (K : X → List V → S → Option R) (k_1 : Nat) : Int → List V → Option R := (fun x_1' e_2' => K (.exit 0) (mkF 0 42 [(0, .arr 0 0 0 k_1), (5, .int .i64 (x_1'))]) [some ⟨e_2', 1, 9, 0⟩])
noncomputable abbrev it_zab_0 {R : Type} (N : Nat) : Nat → List V → S → (X → List V → S → Option R) → Option R := fun n => iter C (Φ_zac N) (noLooper) b_zab_0 [0, 1, 0, 1, 1, 1] false ks_zab_0 kx_zab_0 n R
theorem r_zab_0 {R : Type} (N n : Nat) (k_1 : Nat) (x_2 x_3 : Int) (e_4 : List V) (K : X → List V → S → Option R) :
  it_zab_0 N (n + 1) (fr_zab_0 k_1 x_2 x_3 e_4) [some ⟨e_4, 1, 9, 0⟩] K =
  l_zab_0_step N k_1 (fun x_2 x_3 e_4 => it_zab_0 N n (fr_zab_0 k_1 x_2 x_3 e_4) [some ⟨e_4, 1, 9, 0⟩] K) x_2 x_3 e_4 (kk0_zab_0 K k_1) := by kernel_rfl
theorem w_zab_0 {R : Type} (N : Nat) (k_1 : Nat) (K : X → List V → S → Option R) : ∀ (n : Nat) (x_2 x_3 : Int) (e_4 : List V),
  it_zab_0 N n (fr_zab_0 k_1 x_2 x_3 e_4) [some ⟨e_4, 1, 9, 0⟩] K = l_zab_0 N k_1 (kk0_zab_0 K k_1) n x_2 x_3 e_4
  | 0, _, _, _ => rfl
  | n + 1, x_2, x_3, e_4 => (r_zab_0 N n k_1 x_2 x_3 e_4 K).trans (congrArg (fun nx => l_zab_0_step N k_1 nx x_2 x_3 e_4 (kk0_zab_0 K k_1)) (funext fun x_2 => funext fun x_3 => funext fun e_4 => w_zab_0 N k_1 K n x_2 x_3 e_4))
def i_zab_0 {R : Type} (E : List V) (s : S) (k : Nat → Int → Int → List V → Option R) : Option R :=
  guardB (frameOk 42 [0, 1, 5, 6] E) <| must (nth E 0) fun u0 => asArr u0 fun k'1 k'2 k'3 k_1 => isN k'1 0 <| isN k'2 0 <| isN k'3 0 <| must (nth E 1) fun u1 => asFn 71 u1 fun c'4 => asN0 c'4 <| atInt E 5 .i64 fun x_2 => atInt E 6 .i64 fun x_3 => asOb s fun o'5 s'6 => obIs o'5 1 9 fun e_4 k'7 => isN k'7 0 <| asEnd s'6 <| k k_1 x_2 x_3 e_4
theorem i_zab_0_spec {R : Type} {E : List V} {s : S} {k : Nat → Int → Int → List V → Option R} {r : R} (h : i_zab_0 E s k = some r) : ∃ k_1 x_2 x_3 e_4, E = fr_zab_0 k_1 x_2 x_3 e_4 ∧ s = [some ⟨e_4, 1, 9, 0⟩] ∧ k k_1 x_2 x_3 e_4 = some r := by
  unfold i_zab_0 at h
  obtain ⟨hg, h1⟩ := guardB_some h
  obtain ⟨_, hu0, h2⟩ := must_some h1
  obtain ⟨_, _, _, _, rfl, h3⟩ := asArr_some h2
  obtain ⟨rfl, h4⟩ := isN_some h3
  obtain ⟨rfl, h5⟩ := isN_some h4
  obtain ⟨rfl, h6⟩ := isN_some h5
  obtain ⟨_, hu1, h7⟩ := must_some h6
  obtain ⟨_, rfl, h8⟩ := asFn_some h7
  obtain ⟨rfl, h9⟩ := asN0_some h8
  obtain ⟨_, hu5, h10⟩ := atInt_some h9
  obtain ⟨_, hu6, h11⟩ := atInt_some h10
  obtain ⟨_, _, rfl, h12⟩ := asOb_some h11
  obtain ⟨_, _, rfl, h13⟩ := obIs_some h12
  obtain ⟨rfl, h14⟩ := isN_some h13
  obtain ⟨rfl, h15⟩ := asEnd_some h14
  exact ⟨_, _, _, _, frame_is hg rfl (slots_cons hu0 (slots_cons hu1 (slots_cons hu5 (slots_cons hu6 slots_nil)))), rfl, h15⟩
noncomputable def Λ_zab_0 (N : Nat) : Looper := (noLooper).add [0, 1, 0, 1, 1, 1] fun _ E s K => i_zab_0 (killE ks_zab_0 E) s fun k_1 x_2 x_3 e_4 => l_zab_0 N k_1 (kk0_zab_0 K k_1) N x_2 x_3 e_4
theorem ok_zab_0 {N : Nat} (hC : Ok Tryd.prog C) (hΦ : CalleeOk Tryd.prog C (Φ_zac N)) : LoopOk Tryd.prog C (Λ_zab_0 N) b_zab_0 [0, 1, 0, 1, 1, 1] :=
  iter_ok (Λi := noLooper) (tr := false) (ks := ks_zab_0) (kx := kx_zab_0) (N := N) hC hΦ
    (loopsOk_nil (by kernel_rfl))
    fun R E s K r h => by
      have h2 := Looper.add_self.symm.trans h
      obtain ⟨_, _, _, _, he, rfl, h3⟩ := i_zab_0_spec h2
      rw [he]
      exact (w_zab_0 N _ _ N _ _ _).trans h3
theorem at_zab : loopsAt c_zab [] = [([0, 1, 0, 1, 1, 1], b_zab_0)] := by kernel_rfl
theorem b_zab {R : Type} (N : Nat) (k_1 : Nat) (e_2 : List V) (K : V → S → Option R) : bodyV C (Φ_zac N) (Λ_zab_0 N) 69 Tryd.f69 [.arr 0 0 0 k_1, .fn 71 []] [some ⟨e_2, 1, 9, 0⟩] (GK rl 1 K) =
  gb_zab N k_1 e_2 (fun k_901 e_902 => K (.arr 0 0 0 k_901) [some ⟨e_902, 1, 9, 0⟩]) := by kernel_rfl
theorem loops_zab {N : Nat} (hC : Ok Tryd.prog C) (hΦ : CalleeOk Tryd.prog C (Φ_zac N)) : LoopsOk Tryd.prog C (Λ_zab_0 N) c_zab [] :=
  loopsOk_of c_zab [] (by
    rw [at_zab]
    intro p hp
    simp only [List.mem_cons, List.mem_nil_iff, or_false] at hp
    rcases hp with rfl
    · exact (ok_zab_0 hC hΦ))
theorem callee_zab (hC : Ok Tryd.prog C) {N : Nat} (hΦ : CalleeOk Tryd.prog C (Φ_zac N)) : CalleeOk Tryd.prog C (Φ_zab N) := by
  refine hΦ.addIf_shared rfl fun R vs s K r h => ?_
  unfold f_zab at h
  obtain ⟨_, _, rfl, h1⟩ := asN2_some h
  obtain ⟨o0, _, _, k_1, rfl, h2⟩ := asArr_some h1
  obtain ⟨rfl, h3⟩ := isN_some h2
  obtain ⟨rfl, h4⟩ := isN_some h3
  obtain ⟨_, rfl, h5⟩ := asFn_some h4
  obtain ⟨rfl, h6⟩ := asN0_some h5
  obtain ⟨_, hob0, h7⟩ := asAt_some h6
  obtain ⟨e_2, _, rfl, h8⟩ := obIs_some h7
  obtain ⟨rfl, h9⟩ := isN_some h8
  obtain ⟨hdist, h10⟩ := guardB_some h9
  obtain ⟨hin, h11⟩ := guardB_some h10
  refine frames_body (fn := Tryd.f69) (c := c_zab) (os := [o0]) (rl := rl) (bi := [false]) (s0 := [some ⟨e_2, 1, 9, 0⟩]) (as0 := [.arr 0 0 0 k_1, .fn 71 []]) hC hΦ Tryd.func69 (by kernel_rfl) (by kernel_rfl) (loops_zab (N := N) hC hΦ) rfl hdist ⟨⟨_, rfl, hob0⟩, trivial⟩ hin rfl rfl ?_
  refine (b_zab N _ _ _).trans ?_
  rw [← g_zab_eq]
  exact h11
noncomputable def f_zbt (N : Nat) : (R : Type) → List V → S → (V → S → Option R) → Option R := fun _ vs s K =>
  asN1 vs fun v'1 => asStr v'1 fun w_1 => asEnd s <| g_zbt N w_1 (fun e_2 => K (.list 1 e_2 .sh) [])
noncomputable def Φ_zbt (N : Nat) : Callee := (Φ_zab N).add 42 (f_zbt N)
noncomputable def c_zbt : Code := bodyOf Tryd.f42
theorem b_zbt {R : Type} (N : Nat) (w_1 : ByteArray) (K : V → S → Option R) : bodyV C (Φ_zab N) (noLooper) 42 Tryd.f42 [.str w_1] [] K =
  gb_zbt N w_1 (fun e_2 => K (.list 1 e_2 .sh) []) := by kernel_rfl
theorem callee_zbt (hC : Ok Tryd.prog C) {N : Nat} (hΦ : CalleeOk Tryd.prog C (Φ_zab N)) : CalleeOk Tryd.prog C (Φ_zbt N) := by
  refine hΦ.add_pure rfl fun R vs K r h => ?_
  unfold f_zbt at h
  obtain ⟨_, rfl, h1⟩ := asN1_some h
  obtain ⟨_, rfl, h2⟩ := asStr_some h1
  obtain ⟨_, h3⟩ := asEnd_some h2
  refine body_pure (fn := Tryd.f42) (c := c_zbt) hC hΦ Tryd.func42 (by kernel_rfl) (by kernel_rfl) (loopsOk_nil (Λ := noLooper) (by kernel_rfl)) rfl rfl ?_
  refine (b_zbt N _ _).trans ?_
  rw [← g_zbt_eq]
  exact h3
noncomputable def f_zat (N : Nat) : (R : Type) → List V → S → (V → S → Option R) → Option R := fun _ vs s K =>
  asN1 vs fun v'1 => asInt .u8 v'1 fun x_1 => asEnd s <| g_zat N x_1 (fun b_2 => K (.bool b_2) [])
noncomputable def Φ_zat (N : Nat) : Callee := (Φ_zbt N).add 100 (f_zat N)
noncomputable def c_zat : Code := bodyOf Tryd.f100
theorem b_zat {R : Type} (N : Nat) (x_1 : Int) (K : V → S → Option R) : bodyV C (Φ_zbt N) (noLooper) 100 Tryd.f100 [.int .u8 x_1] [] K =
  gb_zat N x_1 (fun b_2 => K (.bool b_2) []) := by kernel_rfl
theorem callee_zat (hC : Ok Tryd.prog C) {N : Nat} (hΦ : CalleeOk Tryd.prog C (Φ_zbt N)) : CalleeOk Tryd.prog C (Φ_zat N) := by
  refine hΦ.add_pure rfl fun R vs K r h => ?_
  unfold f_zat at h
  obtain ⟨_, rfl, h1⟩ := asN1_some h
  obtain ⟨_, rfl, h2⟩ := asInt_some h1
  obtain ⟨_, h3⟩ := asEnd_some h2
  refine body_pure (fn := Tryd.f100) (c := c_zat) hC hΦ Tryd.func100 (by kernel_rfl) (by kernel_rfl) (loopsOk_nil (Λ := noLooper) (by kernel_rfl)) rfl rfl ?_
  refine (b_zat N _ _).trans ?_
  rw [← g_zat_eq]
  exact h3
noncomputable def f_zay (N : Nat) : (R : Type) → List V → S → (V → S → Option R) → Option R := fun _ vs s K =>
  asN1 vs fun v'1 => asInt .u8 v'1 fun x_1 => asEnd s <| g_zay N x_1 (fun b_2 => K (.bool b_2) [])
noncomputable def Φ_zay (N : Nat) : Callee := (Φ_zat N).add 99 (f_zay N)
noncomputable def c_zay : Code := bodyOf Tryd.f99
theorem b_zay {R : Type} (N : Nat) (x_1 : Int) (K : V → S → Option R) : bodyV C (Φ_zat N) (noLooper) 99 Tryd.f99 [.int .u8 x_1] [] K =
  gb_zay N x_1 (fun b_2 => K (.bool b_2) []) := by kernel_rfl
theorem callee_zay (hC : Ok Tryd.prog C) {N : Nat} (hΦ : CalleeOk Tryd.prog C (Φ_zat N)) : CalleeOk Tryd.prog C (Φ_zay N) := by
  refine hΦ.add_pure rfl fun R vs K r h => ?_
  unfold f_zay at h
  obtain ⟨_, rfl, h1⟩ := asN1_some h
  obtain ⟨_, rfl, h2⟩ := asInt_some h1
  obtain ⟨_, h3⟩ := asEnd_some h2
  refine body_pure (fn := Tryd.f99) (c := c_zay) hC hΦ Tryd.func99 (by kernel_rfl) (by kernel_rfl) (loopsOk_nil (Λ := noLooper) (by kernel_rfl)) rfl rfl ?_
  refine (b_zay N _ _).trans ?_
  rw [← g_zay_eq]
  exact h3
noncomputable def f_zaf (N : Nat) : (R : Type) → List V → S → (V → S → Option R) → Option R := fun _ vs s K =>
  asN2 vs fun v'1 v'2 => asList 1 v'1 fun e_1 f_2 => asFn 99 v'2 fun c'3 => asN0 c'3 <| asEnd s <| g_zaf N e_1 f_2 (fun x_3 => K (.int .i64 x_3) [])
noncomputable def Φ_zaf (N : Nat) : Callee := (Φ_zay N).addIf 105 (fun l => isFn 1 99 l) (f_zaf N)
noncomputable def c_zaf : Code := bodyOf Tryd.f105
noncomputable def b_zaf_0 : Code := (loopNo c_zaf [] 0).2
def ks_zaf_0 : List Nat := butL 19 [0, 1, 7, 8]
def kx_zaf_0 : List Nat := butL 19 [4]
def fr_zaf_0 (e_1 : List V) (f_2 : Fl) (x_3 x_4 : Int) : List V := mkF 0 19 [(0, .list 1 e_1 f_2), (1, .fn 99 []), (7, .int .i64 x_3), (8, .int .i64 x_4)]
def kk0_zaf_0 {R : Type} (K : X → List V → S → Option R) (e_1 : List V) (f_2 : Fl) (x_3 : Int) : Int → Option R := (fun x_1' => K .ret (mkF 0 19 [(4, .int .i64 (x_1'))]) [])
def kk1_zaf_0 {R : Type} (K : X → List V → S → Option R) (e_1 : List V) (f_2 : Fl) (x_3 : Int) : Unit → Option R := (fun _ => K (.exit 0) (mkF 0 19 []) [])
noncomputable abbrev it_zaf_0 {R : Type} (N : Nat) : Nat → List V → S → (X → List V → S → Option R) → Option R := fun n => iter C (Φ_zay N) (noLooper) b_zaf_0 [0, 1, 0, 1] false ks_zaf_0 kx_zaf_0 n R
theorem r_zaf_0 {R : Type} (N n : Nat) (e_1 : List V) (f_2 : Fl) (x_3 : Int) (x_4 : Int) (K : X → List V → S → Option R) :
  it_zaf_0 N (n + 1) (fr_zaf_0 e_1 f_2 x_3 x_4) [] K =
  l_zaf_0_step N e_1 f_2 x_3 (fun x_4 => it_zaf_0 N n (fr_zaf_0 e_1 f_2 x_3 x_4) [] K) x_4 (kk0_zaf_0 K e_1 f_2 x_3) (kk1_zaf_0 K e_1 f_2 x_3) := by kernel_rfl
theorem w_zaf_0 {R : Type} (N : Nat) (e_1 : List V) (f_2 : Fl) (x_3 : Int) (K : X → List V → S → Option R) : ∀ (n : Nat) (x_4 : Int),
  it_zaf_0 N n (fr_zaf_0 e_1 f_2 x_3 x_4) [] K = l_zaf_0 N e_1 f_2 x_3 (kk0_zaf_0 K e_1 f_2 x_3) (kk1_zaf_0 K e_1 f_2 x_3) n x_4
  | 0, _ => rfl
  | n + 1, x_4 => (r_zaf_0 N n e_1 f_2 x_3 x_4 K).trans (congrArg (fun nx => l_zaf_0_step N e_1 f_2 x_3 nx x_4 (kk0_zaf_0 K e_1 f_2 x_3) (kk1_zaf_0 K e_1 f_2 x_3)) (funext fun x_4 => w_zaf_0 N e_1 f_2 x_3 K n x_4))
def i_zaf_0 {R : Type} (E : List V) (s : S) (k : List V → Fl → Int → Int → Option R) : Option R :=
  guardB (frameOk 19 [0, 1, 7, 8] E) <| atList E 0 1 fun e_1 f_2 => must (nth E 1) fun u1 => asFn 99 u1 fun c'1 => asN0 c'1 <| atInt E 7 .i64 fun x_3 => atInt E 8 .i64 fun x_4 => asEnd s <| k e_1 f_2 x_3 x_4
theorem i_zaf_0_spec {R : Type} {E : List V} {s : S} {k : List V → Fl → Int → Int → Option R} {r : R} (h : i_zaf_0 E s k = some r) : ∃ e_1 f_2 x_3 x_4, E = fr_zaf_0 e_1 f_2 x_3 x_4 ∧ s = [] ∧ k e_1 f_2 x_3 x_4 = some r := by
  unfold i_zaf_0 at h
  obtain ⟨hg, h1⟩ := guardB_some h
  obtain ⟨_, _, hu0, h2⟩ := atList_some h1
  obtain ⟨_, hu1, h3⟩ := must_some h2
  obtain ⟨_, rfl, h4⟩ := asFn_some h3
  obtain ⟨rfl, h5⟩ := asN0_some h4
  obtain ⟨_, hu7, h6⟩ := atInt_some h5
  obtain ⟨_, hu8, h7⟩ := atInt_some h6
  obtain ⟨rfl, h8⟩ := asEnd_some h7
  exact ⟨_, _, _, _, frame_is hg rfl (slots_cons hu0 (slots_cons hu1 (slots_cons hu7 (slots_cons hu8 slots_nil)))), rfl, h8⟩
noncomputable def Λ_zaf_0 (N : Nat) : Looper := (noLooper).add [0, 1, 0, 1] fun _ E s K => i_zaf_0 (killE ks_zaf_0 E) s fun e_1 f_2 x_3 x_4 => l_zaf_0 N e_1 f_2 x_3 (kk0_zaf_0 K e_1 f_2 x_3) (kk1_zaf_0 K e_1 f_2 x_3) N x_4
theorem ok_zaf_0 {N : Nat} (hC : Ok Tryd.prog C) (hΦ : CalleeOk Tryd.prog C (Φ_zay N)) : LoopOk Tryd.prog C (Λ_zaf_0 N) b_zaf_0 [0, 1, 0, 1] :=
  iter_ok (Λi := noLooper) (tr := false) (ks := ks_zaf_0) (kx := kx_zaf_0) (N := N) hC hΦ
    (loopsOk_nil (by kernel_rfl))
    fun R E s K r h => by
      have h2 := Looper.add_self.symm.trans h
      obtain ⟨_, _, _, _, he, rfl, h3⟩ := i_zaf_0_spec h2
      rw [he]
      exact (w_zaf_0 N _ _ _ _ N _).trans h3
theorem at_zaf : loopsAt c_zaf [] = [([0, 1, 0, 1], b_zaf_0)] := by kernel_rfl
theorem b_zaf {R : Type} (N : Nat) (e_1 : List V) (f_2 : Fl) (K : V → S → Option R) : bodyV C (Φ_zay N) (Λ_zaf_0 N) 105 Tryd.f105 [.list 1 e_1 f_2, .fn 99 []] [] K =
  gb_zaf N e_1 f_2 (fun x_3 => K (.int .i64 x_3) []) := by kernel_rfl
theorem loops_zaf {N : Nat} (hC : Ok Tryd.prog C) (hΦ : CalleeOk Tryd.prog C (Φ_zay N)) : LoopsOk Tryd.prog C (Λ_zaf_0 N) c_zaf [] :=
  loopsOk_of c_zaf [] (by
    rw [at_zaf]
    intro p hp
    simp only [List.mem_cons, List.mem_nil_iff, or_false] at hp
    rcases hp with rfl
    · exact (ok_zaf_0 hC hΦ))
theorem callee_zaf (hC : Ok Tryd.prog C) {N : Nat} (hΦ : CalleeOk Tryd.prog C (Φ_zay N)) : CalleeOk Tryd.prog C (Φ_zaf N) := by
  refine hΦ.addIf_pure rfl fun R vs K r h => ?_
  unfold f_zaf at h
  obtain ⟨_, _, rfl, h1⟩ := asN2_some h
  obtain ⟨_, _, rfl, h2⟩ := asList_some h1
  obtain ⟨_, rfl, h3⟩ := asFn_some h2
  obtain ⟨rfl, h4⟩ := asN0_some h3
  obtain ⟨_, h5⟩ := asEnd_some h4
  refine body_pure (fn := Tryd.f105) (c := c_zaf) hC hΦ Tryd.func105 (by kernel_rfl) (by kernel_rfl) (loops_zaf (N := N) hC hΦ) rfl rfl ?_
  refine (b_zaf N _ _ _).trans ?_
  rw [← g_zaf_eq]
  exact h5
noncomputable def f_zae (N : Nat) : (R : Type) → List V → S → (V → S → Option R) → Option R := fun _ vs s K =>
  asN2 vs fun v'1 v'2 => asList 1 v'1 fun e_1 f_2 => asFn 99 v'2 fun c'3 => asN0 c'3 <| asEnd s <| g_zae N e_1 f_2 (fun b_3 => K (.bool b_3) [])
noncomputable def Φ_zae (N : Nat) : Callee := (Φ_zaf N).addIf 98 (fun l => isFn 1 99 l) (f_zae N)
noncomputable def c_zae : Code := bodyOf Tryd.f98
theorem b_zae {R : Type} (N : Nat) (e_1 : List V) (f_2 : Fl) (K : V → S → Option R) : bodyV C (Φ_zaf N) (noLooper) 98 Tryd.f98 [.list 1 e_1 f_2, .fn 99 []] [] K =
  gb_zae N e_1 f_2 (fun b_3 => K (.bool b_3) []) := by kernel_rfl
theorem callee_zae (hC : Ok Tryd.prog C) {N : Nat} (hΦ : CalleeOk Tryd.prog C (Φ_zaf N)) : CalleeOk Tryd.prog C (Φ_zae N) := by
  refine hΦ.addIf_pure rfl fun R vs K r h => ?_
  unfold f_zae at h
  obtain ⟨_, _, rfl, h1⟩ := asN2_some h
  obtain ⟨_, _, rfl, h2⟩ := asList_some h1
  obtain ⟨_, rfl, h3⟩ := asFn_some h2
  obtain ⟨rfl, h4⟩ := asN0_some h3
  obtain ⟨_, h5⟩ := asEnd_some h4
  refine body_pure (fn := Tryd.f98) (c := c_zae) hC hΦ Tryd.func98 (by kernel_rfl) (by kernel_rfl) (loopsOk_nil (Λ := noLooper) (by kernel_rfl)) rfl rfl ?_
  refine (b_zae N _ _ _).trans ?_
  rw [← g_zae_eq]
  exact h5
noncomputable def f_zcl (N : Nat) : (R : Type) → List V → S → (V → S → Option R) → Option R := fun _ vs s K =>
  asN1 vs fun v'1 => asStr v'1 fun w_1 => asEnd s <| g_zcl N w_1 (fun b_2 => K (.bool b_2) [])
noncomputable def Φ_zcl (N : Nat) : Callee := (Φ_zae N).add 91 (f_zcl N)
noncomputable def c_zcl : Code := bodyOf Tryd.f91
theorem b_zcl {R : Type} (N : Nat) (w_1 : ByteArray) (K : V → S → Option R) : bodyV C (Φ_zae N) (noLooper) 91 Tryd.f91 [.str w_1] [] K =
  gb_zcl N w_1 (fun b_2 => K (.bool b_2) []) := by kernel_rfl
theorem callee_zcl (hC : Ok Tryd.prog C) {N : Nat} (hΦ : CalleeOk Tryd.prog C (Φ_zae N)) : CalleeOk Tryd.prog C (Φ_zcl N) := by
  refine hΦ.add_pure rfl fun R vs K r h => ?_
  unfold f_zcl at h
  obtain ⟨_, rfl, h1⟩ := asN1_some h
  obtain ⟨_, rfl, h2⟩ := asStr_some h1
  obtain ⟨_, h3⟩ := asEnd_some h2
  refine body_pure (fn := Tryd.f91) (c := c_zcl) hC hΦ Tryd.func91 (by kernel_rfl) (by kernel_rfl) (loopsOk_nil (Λ := noLooper) (by kernel_rfl)) rfl rfl ?_
  refine (b_zcl N _ _).trans ?_
  rw [← g_zcl_eq]
  exact h3
end Go.VM.VL
