/- The functions of the program, told plainly: what each computes, as a function of its letters; and that the machine does the same. Printed by vgen.py, a program of this session's own. -/
import Derived.Test.YtgjcdpfclpiooaaDoorXRm1
set_option linter.unusedVariables false
namespace Go.VM.VL
open Go.Proofs


/-! ### loop.example/g00756/impl.isLong$1 -/
noncomputable def f_impl_isLong_c1 (N : Nat) : (R : Type) → List V → S → (V → S → Option R) → Option R := fun _ vs s K =>
  asN1 vs fun v'1 => asStr v'1 fun w_1 => asEnd s <| g_impl_isLong_c1 N w_1 (fun b_2 => K (.bool b_2) [])
noncomputable def Φ_impl_isLong_c1 (N : Nat) : Callee := (Φ_impl_isPart N).add 94 (f_impl_isLong_c1 N)
noncomputable def c_impl_isLong_c1 : Code := bodyOf Tryd.f94
theorem b_impl_isLong_c1 {R : Type} (N : Nat) (w_1 : ByteArray) (K : V → S → Option R) : bodyV C (Φ_impl_isPart N) (noLooper) 94 Tryd.f94 [.str w_1] [] K =
  gb_impl_isLong_c1 N w_1 (fun b_2 => K (.bool b_2) []) := by kernel_rfl
theorem callee_impl_isLong_c1 (hC : Ok Tryd.prog C) {N : Nat} (hΦ : CalleeOk Tryd.prog C (Φ_impl_isPart N)) : CalleeOk Tryd.prog C (Φ_impl_isLong_c1 N) := by
  refine hΦ.add_pure rfl fun R vs K r h => ?_
  unfold f_impl_isLong_c1 at h
  obtain ⟨_, rfl, h1⟩ := asN1_some h
  obtain ⟨_, rfl, h2⟩ := asStr_some h1
  obtain ⟨_, h3⟩ := asEnd_some h2
  refine body_pure (fn := Tryd.f94) (c := c_impl_isLong_c1) hC hΦ Tryd.func94 (by kernel_rfl) (by kernel_rfl) (loopsOk_nil (Λ := noLooper) (by kernel_rfl)) rfl rfl ?_
  refine (b_impl_isLong_c1 N _ _).trans ?_
  rw [← g_impl_isLong_c1_eq]
  exact h3

/-! ### slices.IndexFunc[[]string,string] -/
noncomputable def f_slIFl (N : Nat) : (R : Type) → List V → S → (V → S → Option R) → Option R := fun _ vs s K =>
  asN2 vs fun v'1 v'2 => asList 1 v'1 fun e_1 f_2 => asFn 94 v'2 fun c'3 => asN0 c'3 <| asEnd s <| g_slIFl N e_1 f_2 (fun x_3 => K (.int .i64 x_3) [])
noncomputable def Φ_slIFl (N : Nat) : Callee := (Φ_impl_isLong_c1 N).addIf 88 (fun l => isFn 1 94 l) (f_slIFl N)
noncomputable def c_slIFl : Code := bodyOf Tryd.f88
noncomputable def b_slIFl_0 : Code := (loopNo c_slIFl [] 0).2
def ks_slIFl_0 : List Nat := butL 19 [0, 1, 7, 8]
def kx_slIFl_0 : List Nat := butL 19 [4]
def fr_slIFl_0 (e_1 : List V) (f_2 : Fl) (x_3 x_4 : Int) : List V := mkF 0 19 [(0, .list 1 e_1 f_2), (1, .fn 94 []), (7, .int .i64 x_3), (8, .int .i64 x_4)]
def kk0_slIFl_0 {R : Type} (K : X → List V → S → Option R) (e_1 : List V) (f_2 : Fl) (x_3 : Int) : Int → Option R := (fun x_1' => K .ret (mkF 0 19 [(4, .int .i64 (x_1'))]) [])
def kk1_slIFl_0 {R : Type} (K : X → List V → S → Option R) (e_1 : List V) (f_2 : Fl) (x_3 : Int) : Unit → Option R := (fun _ => K (.exit 0) (mkF 0 19 []) [])
noncomputable abbrev it_slIFl_0 {R : Type} (N : Nat) : Nat → List V → S → (X → List V → S → Option R) → Option R := fun n => iter C (Φ_impl_isLong_c1 N) (noLooper) b_slIFl_0 [0, 1, 0, 1] false ks_slIFl_0 kx_slIFl_0 n R
theorem r_slIFl_0 {R : Type} (N n : Nat) (e_1 : List V) (f_2 : Fl) (x_3 : Int) (x_4 : Int) (K : X → List V → S → Option R) :
  it_slIFl_0 N (n + 1) (fr_slIFl_0 e_1 f_2 x_3 x_4) [] K =
  l_slIFl_0_step N e_1 f_2 x_3 (fun x_4 => it_slIFl_0 N n (fr_slIFl_0 e_1 f_2 x_3 x_4) [] K) x_4 (kk0_slIFl_0 K e_1 f_2 x_3) (kk1_slIFl_0 K e_1 f_2 x_3) := by kernel_rfl
theorem w_slIFl_0 {R : Type} (N : Nat) (e_1 : List V) (f_2 : Fl) (x_3 : Int) (K : X → List V → S → Option R) : ∀ (n : Nat) (x_4 : Int),
  it_slIFl_0 N n (fr_slIFl_0 e_1 f_2 x_3 x_4) [] K = l_slIFl_0 N e_1 f_2 x_3 (kk0_slIFl_0 K e_1 f_2 x_3) (kk1_slIFl_0 K e_1 f_2 x_3) n x_4
  | 0, _ => rfl
  | n + 1, x_4 => (r_slIFl_0 N n e_1 f_2 x_3 x_4 K).trans (congrArg (fun nx => l_slIFl_0_step N e_1 f_2 x_3 nx x_4 (kk0_slIFl_0 K e_1 f_2 x_3) (kk1_slIFl_0 K e_1 f_2 x_3)) (funext fun x_4 => w_slIFl_0 N e_1 f_2 x_3 K n x_4))
def i_slIFl_0 {R : Type} (E : List V) (s : S) (k : List V → Fl → Int → Int → Option R) : Option R :=
  guardB (frameOk 19 [0, 1, 7, 8] E) <| atList E 0 1 fun e_1 f_2 => must (nth E 1) fun u1 => asFn 94 u1 fun c'1 => asN0 c'1 <| atInt E 7 .i64 fun x_3 => atInt E 8 .i64 fun x_4 => asEnd s <| k e_1 f_2 x_3 x_4
theorem i_slIFl_0_spec {R : Type} {E : List V} {s : S} {k : List V → Fl → Int → Int → Option R} {r : R} (h : i_slIFl_0 E s k = some r) : ∃ e_1 f_2 x_3 x_4, E = fr_slIFl_0 e_1 f_2 x_3 x_4 ∧ s = [] ∧ k e_1 f_2 x_3 x_4 = some r := by
  unfold i_slIFl_0 at h
  obtain ⟨hg, h1⟩ := guardB_some h
  obtain ⟨_, _, hu0, h2⟩ := atList_some h1
  obtain ⟨_, hu1, h3⟩ := must_some h2
  obtain ⟨_, rfl, h4⟩ := asFn_some h3
  obtain ⟨rfl, h5⟩ := asN0_some h4
  obtain ⟨_, hu7, h6⟩ := atInt_some h5
  obtain ⟨_, hu8, h7⟩ := atInt_some h6
  obtain ⟨rfl, h8⟩ := asEnd_some h7
  exact ⟨_, _, _, _, frame_is hg rfl (slots_cons hu0 (slots_cons hu1 (slots_cons hu7 (slots_cons hu8 slots_nil)))), rfl, h8⟩
noncomputable def Λ_slIFl_0 (N : Nat) : Looper := (noLooper).add [0, 1, 0, 1] fun _ E s K => i_slIFl_0 (killE ks_slIFl_0 E) s fun e_1 f_2 x_3 x_4 => l_slIFl_0 N e_1 f_2 x_3 (kk0_slIFl_0 K e_1 f_2 x_3) (kk1_slIFl_0 K e_1 f_2 x_3) N x_4
theorem ok_slIFl_0 {N : Nat} (hC : Ok Tryd.prog C) (hΦ : CalleeOk Tryd.prog C (Φ_impl_isLong_c1 N)) : LoopOk Tryd.prog C (Λ_slIFl_0 N) b_slIFl_0 [0, 1, 0, 1] :=
  iter_ok (Λi := noLooper) (tr := false) (ks := ks_slIFl_0) (kx := kx_slIFl_0) (N := N) hC hΦ
    (loopsOk_nil (by kernel_rfl))
    fun R E s K r h => by
      have h2 := Looper.add_self.symm.trans h
      obtain ⟨_, _, _, _, he, rfl, h3⟩ := i_slIFl_0_spec h2
      rw [he]
      exact (w_slIFl_0 N _ _ _ _ N _).trans h3
theorem at_slIFl : loopsAt c_slIFl [] = [([0, 1, 0, 1], b_slIFl_0)] := by kernel_rfl
theorem b_slIFl {R : Type} (N : Nat) (e_1 : List V) (f_2 : Fl) (K : V → S → Option R) : bodyV C (Φ_impl_isLong_c1 N) (Λ_slIFl_0 N) 88 Tryd.f88 [.list 1 e_1 f_2, .fn 94 []] [] K =
  gb_slIFl N e_1 f_2 (fun x_3 => K (.int .i64 x_3) []) := by kernel_rfl
theorem loops_slIFl {N : Nat} (hC : Ok Tryd.prog C) (hΦ : CalleeOk Tryd.prog C (Φ_impl_isLong_c1 N)) : LoopsOk Tryd.prog C (Λ_slIFl_0 N) c_slIFl [] :=
  loopsOk_of c_slIFl [] (by
    rw [at_slIFl]
    intro p hp
    simp only [List.mem_cons, List.mem_nil_iff, or_false] at hp
    rcases hp with rfl
    · exact (ok_slIFl_0 hC hΦ))
theorem callee_slIFl (hC : Ok Tryd.prog C) {N : Nat} (hΦ : CalleeOk Tryd.prog C (Φ_impl_isLong_c1 N)) : CalleeOk Tryd.prog C (Φ_slIFl N) := by
  refine hΦ.addIf_pure rfl fun R vs K r h => ?_
  unfold f_slIFl at h
  obtain ⟨_, _, rfl, h1⟩ := asN2_some h
  obtain ⟨_, _, rfl, h2⟩ := asList_some h1
  obtain ⟨_, rfl, h3⟩ := asFn_some h2
  obtain ⟨rfl, h4⟩ := asN0_some h3
  obtain ⟨_, h5⟩ := asEnd_some h4
  refine body_pure (fn := Tryd.f88) (c := c_slIFl) hC hΦ Tryd.func88 (by kernel_rfl) (by kernel_rfl) (loops_slIFl (N := N) hC hΦ) rfl rfl ?_
  refine (b_slIFl N _ _ _).trans ?_
  rw [← g_slIFl_eq]
  exact h5

/-! ### slices.ContainsFunc[[]string,string] -/
noncomputable def f_slCFl (N : Nat) : (R : Type) → List V → S → (V → S → Option R) → Option R := fun _ vs s K =>
  asN2 vs fun v'1 v'2 => asList 1 v'1 fun e_1 f_2 => asFn 94 v'2 fun c'3 => asN0 c'3 <| asEnd s <| g_slCFl N e_1 f_2 (fun b_3 => K (.bool b_3) [])
noncomputable def Φ_slCFl (N : Nat) : Callee := (Φ_slIFl N).addIf 93 (fun l => isFn 1 94 l) (f_slCFl N)
noncomputable def c_slCFl : Code := bodyOf Tryd.f93
theorem b_slCFl {R : Type} (N : Nat) (e_1 : List V) (f_2 : Fl) (K : V → S → Option R) : bodyV C (Φ_slIFl N) (noLooper) 93 Tryd.f93 [.list 1 e_1 f_2, .fn 94 []] [] K =
  gb_slCFl N e_1 f_2 (fun b_3 => K (.bool b_3) []) := by kernel_rfl
theorem callee_slCFl (hC : Ok Tryd.prog C) {N : Nat} (hΦ : CalleeOk Tryd.prog C (Φ_slIFl N)) : CalleeOk Tryd.prog C (Φ_slCFl N) := by
  refine hΦ.addIf_pure rfl fun R vs K r h => ?_
  unfold f_slCFl at h
  obtain ⟨_, _, rfl, h1⟩ := asN2_some h
  obtain ⟨_, _, rfl, h2⟩ := asList_some h1
  obtain ⟨_, rfl, h3⟩ := asFn_some h2
  obtain ⟨rfl, h4⟩ := asN0_some h3
  obtain ⟨_, h5⟩ := asEnd_some h4
  refine body_pure (fn := Tryd.f93) (c := c_slCFl) hC hΦ Tryd.func93 (by kernel_rfl) (by kernel_rfl) (loopsOk_nil (Λ := noLooper) (by kernel_rfl)) rfl rfl ?_
  refine (b_slCFl N _ _ _).trans ?_
  rw [← g_slCFl_eq]
  exact h5

/-! ### loop.example/g00756/impl.isLong -/
noncomputable def f_impl_isLong (N : Nat) : (R : Type) → List V → S → (V → S → Option R) → Option R := fun _ vs s K =>
  asN1 vs fun v'1 => asStr v'1 fun w_1 => asEnd s <| g_impl_isLong N w_1 (fun b_2 => K (.bool b_2) [])
noncomputable def Φ_impl_isLong (N : Nat) : Callee := (Φ_slCFl N).add 87 (f_impl_isLong N)
noncomputable def c_impl_isLong : Code := bodyOf Tryd.f87
theorem b_impl_isLong {R : Type} (N : Nat) (w_1 : ByteArray) (K : V → S → Option R) : bodyV C (Φ_slCFl N) (noLooper) 87 Tryd.f87 [.str w_1] [] K =
  gb_impl_isLong N w_1 (fun b_2 => K (.bool b_2) []) := by kernel_rfl
theorem callee_impl_isLong (hC : Ok Tryd.prog C) {N : Nat} (hΦ : CalleeOk Tryd.prog C (Φ_slCFl N)) : CalleeOk Tryd.prog C (Φ_impl_isLong N) := by
  refine hΦ.add_pure rfl fun R vs K r h => ?_
  unfold f_impl_isLong at h
  obtain ⟨_, rfl, h1⟩ := asN1_some h
  obtain ⟨_, rfl, h2⟩ := asStr_some h1
  obtain ⟨_, h3⟩ := asEnd_some h2
  refine body_pure (fn := Tryd.f87) (c := c_impl_isLong) hC hΦ Tryd.func87 (by kernel_rfl) (by kernel_rfl) (loopsOk_nil (Λ := noLooper) (by kernel_rfl)) rfl rfl ?_
  refine (b_impl_isLong N _ _).trans ?_
  rw [← g_impl_isLong_eq]
  exact h3

/-! ### loop.example/g00756/impl.GoodPath -/
noncomputable def f_impl_GoodPath (N : Nat) : (R : Type) → List V → S → (V → S → Option R) → Option R := fun _ vs s K =>
  asN1 vs fun v'1 => asStr v'1 fun w_1 => asEnd s <| g_impl_GoodPath N w_1 (fun b_2 => K (.bool b_2) [])
noncomputable def Φ_impl_GoodPath (N : Nat) : Callee := (Φ_impl_isLong N).add 67 (f_impl_GoodPath N)
noncomputable def c_impl_GoodPath : Code := bodyOf Tryd.f67
theorem b_impl_GoodPath {R : Type} (N : Nat) (w_1 : ByteArray) (K : V → S → Option R) : bodyV C (Φ_impl_isLong N) (noLooper) 67 Tryd.f67 [.str w_1] [] K =
  gb_impl_GoodPath N w_1 (fun b_2 => K (.bool b_2) []) := by kernel_rfl
theorem callee_impl_GoodPath (hC : Ok Tryd.prog C) {N : Nat} (hΦ : CalleeOk Tryd.prog C (Φ_impl_isLong N)) : CalleeOk Tryd.prog C (Φ_impl_GoodPath N) := by
  refine hΦ.add_pure rfl fun R vs K r h => ?_
  unfold f_impl_GoodPath at h
  obtain ⟨_, rfl, h1⟩ := asN1_some h
  obtain ⟨_, rfl, h2⟩ := asStr_some h1
  obtain ⟨_, h3⟩ := asEnd_some h2
  refine body_pure (fn := Tryd.f67) (c := c_impl_GoodPath) hC hΦ Tryd.func67 (by kernel_rfl) (by kernel_rfl) (loopsOk_nil (Λ := noLooper) (by kernel_rfl)) rfl rfl ?_
  refine (b_impl_GoodPath N _ _).trans ?_
  rw [← g_impl_GoodPath_eq]
  exact h3

/-! ### (loop.example/g00756/impl.Node).isFree -/
noncomputable def f_impl_Node_isFree (N : Nat) : (R : Type) → List V → S → (V → S → Option R) → Option R := fun _ vs s K =>
  asN1 vs fun v'1 => un_impl_Node v'1 fun x_1 x_2 x_3 x_4 x_5 w_6 e_7 f_8 => asEnd s <| g_impl_Node_isFree N x_1 x_2 x_3 x_4 x_5 w_6 e_7 f_8 (fun b_9 => K (.bool b_9) [])
noncomputable def Φ_impl_Node_isFree (N : Nat) : Callee := (Φ_impl_GoodPath N).add 82 (f_impl_Node_isFree N)
noncomputable def c_impl_Node_isFree : Code := bodyOf Tryd.f82
theorem b_impl_Node_isFree {R : Type} (N : Nat) (x_1 x_2 x_3 x_4 x_5 : Int) (w_6 : ByteArray) (e_7 : List V) (f_8 : Fl) (K : V → S → Option R) : bodyV C (Φ_impl_GoodPath N) (noLooper) 82 Tryd.f82 [.agg [.int .i64 x_1, .int .i64 x_2, .int .i64 x_3, .int .i64 x_4, .int .i64 x_5, .str w_6, .list 2 e_7 f_8]] [] K =
  gb_impl_Node_isFree N x_1 x_2 x_3 x_4 x_5 w_6 e_7 f_8 (fun b_9 => K (.bool b_9) []) := by kernel_rfl
theorem callee_impl_Node_isFree (hC : Ok Tryd.prog C) {N : Nat} (hΦ : CalleeOk Tryd.prog C (Φ_impl_GoodPath N)) : CalleeOk Tryd.prog C (Φ_impl_Node_isFree N) := by
  refine hΦ.add_pure rfl fun R vs K r h => ?_
  unfold f_impl_Node_isFree at h
  obtain ⟨_, rfl, h1⟩ := asN1_some h
  obtain ⟨_, _, _, _, _, _, _, _, rfl, h2⟩ := un_impl_Node_some h1
  obtain ⟨_, h3⟩ := asEnd_some h2
  refine body_pure (fn := Tryd.f82) (c := c_impl_Node_isFree) hC hΦ Tryd.func82 (by kernel_rfl) (by kernel_rfl) (loopsOk_nil (Λ := noLooper) (by kernel_rfl)) rfl rfl ?_
  refine (b_impl_Node_isFree N _ _ _ _ _ _ _ _ _).trans ?_
  rw [← g_impl_Node_isFree_eq]
  exact h3

/-! ### loop.example/g00756/impl.isMode -/
noncomputable def f_impl_isMode (N : Nat) : (R : Type) → List V → S → (V → S → Option R) → Option R := fun _ vs s K =>
  asN1 vs fun v'1 => asInt .i64 v'1 fun x_1 => asEnd s <| g_impl_isMode N x_1 (fun b_2 => K (.bool b_2) [])
noncomputable def Φ_impl_isMode (N : Nat) : Callee := (Φ_impl_Node_isFree N).add 83 (f_impl_isMode N)
noncomputable def c_impl_isMode : Code := bodyOf Tryd.f83
theorem b_impl_isMode {R : Type} (N : Nat) (x_1 : Int) (K : V → S → Option R) : bodyV C (Φ_impl_Node_isFree N) (noLooper) 83 Tryd.f83 [.int .i64 x_1] [] K =
  gb_impl_isMode N x_1 (fun b_2 => K (.bool b_2) []) := by kernel_rfl
theorem callee_impl_isMode (hC : Ok Tryd.prog C) {N : Nat} (hΦ : CalleeOk Tryd.prog C (Φ_impl_Node_isFree N)) : CalleeOk Tryd.prog C (Φ_impl_isMode N) := by
  refine hΦ.add_pure rfl fun R vs K r h => ?_
  unfold f_impl_isMode at h
  obtain ⟨_, rfl, h1⟩ := asN1_some h
  obtain ⟨_, rfl, h2⟩ := asInt_some h1
  obtain ⟨_, h3⟩ := asEnd_some h2
  refine body_pure (fn := Tryd.f83) (c := c_impl_isMode) hC hΦ Tryd.func83 (by kernel_rfl) (by kernel_rfl) (loopsOk_nil (Λ := noLooper) (by kernel_rfl)) rfl rfl ?_
  refine (b_impl_isMode N _ _).trans ?_
  rw [← g_impl_isMode_eq]
  exact h3

/-! ### loop.example/g00756/impl.isTime -/
noncomputable def f_impl_isTime (N : Nat) : (R : Type) → List V → S → (V → S → Option R) → Option R := fun _ vs s K =>
  asN1 vs fun v'1 => asInt .i64 v'1 fun x_1 => asEnd s <| g_impl_isTime N x_1 (fun b_2 => K (.bool b_2) [])
noncomputable def Φ_impl_isTime (N : Nat) : Callee := (Φ_impl_isMode N).add 84 (f_impl_isTime N)
noncomputable def c_impl_isTime : Code := bodyOf Tryd.f84
theorem b_impl_isTime {R : Type} (N : Nat) (x_1 : Int) (K : V → S → Option R) : bodyV C (Φ_impl_isMode N) (noLooper) 84 Tryd.f84 [.int .i64 x_1] [] K =
  gb_impl_isTime N x_1 (fun b_2 => K (.bool b_2) []) := by kernel_rfl
theorem callee_impl_isTime (hC : Ok Tryd.prog C) {N : Nat} (hΦ : CalleeOk Tryd.prog C (Φ_impl_isMode N)) : CalleeOk Tryd.prog C (Φ_impl_isTime N) := by
  refine hΦ.add_pure rfl fun R vs K r h => ?_
  unfold f_impl_isTime at h
  obtain ⟨_, rfl, h1⟩ := asN1_some h
  obtain ⟨_, rfl, h2⟩ := asInt_some h1
  obtain ⟨_, h3⟩ := asEnd_some h2
  refine body_pure (fn := Tryd.f84) (c := c_impl_isTime) hC hΦ Tryd.func84 (by kernel_rfl) (by kernel_rfl) (loopsOk_nil (Λ := noLooper) (by kernel_rfl)) rfl rfl ?_
  refine (b_impl_isTime N _ _).trans ?_
  rw [← g_impl_isTime_eq]
  exact h3

/-! ### loop.example/g00756/impl.isDots -/
noncomputable def f_impl_isDots (N : Nat) : (R : Type) → List V → S → (V → S → Option R) → Option R := fun _ vs s K =>
  asN1 vs fun v'1 => asStr v'1 fun w_1 => asEnd s <| g_impl_isDots N w_1 (fun b_2 => K (.bool b_2) [])
noncomputable def Φ_impl_isDots (N : Nat) : Callee := (Φ_impl_isTime N).add 92 (f_impl_isDots N)
noncomputable def c_impl_isDots : Code := bodyOf Tryd.f92
theorem b_impl_isDots {R : Type} (N : Nat) (w_1 : ByteArray) (K : V → S → Option R) : bodyV C (Φ_impl_isTime N) (noLooper) 92 Tryd.f92 [.str w_1] [] K =
  gb_impl_isDots N w_1 (fun b_2 => K (.bool b_2) []) := by kernel_rfl
theorem callee_impl_isDots (hC : Ok Tryd.prog C) {N : Nat} (hΦ : CalleeOk Tryd.prog C (Φ_impl_isTime N)) : CalleeOk Tryd.prog C (Φ_impl_isDots N) := by
  refine hΦ.add_pure rfl fun R vs K r h => ?_
  unfold f_impl_isDots at h
  obtain ⟨_, rfl, h1⟩ := asN1_some h
  obtain ⟨_, rfl, h2⟩ := asStr_some h1
  obtain ⟨_, h3⟩ := asEnd_some h2
  refine body_pure (fn := Tryd.f92) (c := c_impl_isDots) hC hΦ Tryd.func92 (by kernel_rfl) (by kernel_rfl) (loopsOk_nil (Λ := noLooper) (by kernel_rfl)) rfl rfl ?_
  refine (b_impl_isDots N _ _).trans ?_
  rw [← g_impl_isDots_eq]
  exact h3

/-! ### loop.example/g00756/impl.GoodName -/
noncomputable def f_impl_GoodName (N : Nat) : (R : Type) → List V → S → (V → S → Option R) → Option R := fun _ vs s K =>
  asN1 vs fun v'1 => asStr v'1 fun w_1 => asEnd s <| g_impl_GoodName N w_1 (fun b_2 => K (.bool b_2) [])
noncomputable def Φ_impl_GoodName (N : Nat) : Callee := (Φ_impl_isDots N).add 85 (f_impl_GoodName N)
noncomputable def c_impl_GoodName : Code := bodyOf Tryd.f85
theorem b_impl_GoodName {R : Type} (N : Nat) (w_1 : ByteArray) (K : V → S → Option R) : bodyV C (Φ_impl_isDots N) (noLooper) 85 Tryd.f85 [.str w_1] [] K =
  gb_impl_GoodName N w_1 (fun b_2 => K (.bool b_2) []) := by kernel_rfl
theorem callee_impl_GoodName (hC : Ok Tryd.prog C) {N : Nat} (hΦ : CalleeOk Tryd.prog C (Φ_impl_isDots N)) : CalleeOk Tryd.prog C (Φ_impl_GoodName N) := by
  refine hΦ.add_pure rfl fun R vs K r h => ?_
  unfold f_impl_GoodName at h
  obtain ⟨_, rfl, h1⟩ := asN1_some h
  obtain ⟨_, rfl, h2⟩ := asStr_some h1
  obtain ⟨_, h3⟩ := asEnd_some h2
  refine body_pure (fn := Tryd.f85) (c := c_impl_GoodName) hC hΦ Tryd.func85 (by kernel_rfl) (by kernel_rfl) (loopsOk_nil (Λ := noLooper) (by kernel_rfl)) rfl rfl ?_
  refine (b_impl_GoodName N _ _).trans ?_
  rw [← g_impl_GoodName_eq]
  exact h3

/-! ### (loop.example/g00756/impl.Fs).isThere -/
noncomputable def f_impl_Fs_isThere (N : Nat) : (R : Type) → List V → S → (V → S → Option R) → Option R := fun _ vs s K =>
  asN2 vs fun v'1 v'2 => un_impl_Fs v'1 fun e_1 f_2 x_3 => asInt .i64 v'2 fun x_4 => asEnd s <| g_impl_Fs_isThere N e_1 f_2 x_3 x_4 (fun b_5 => K (.bool b_5) [])
noncomputable def Φ_impl_Fs_isThere (N : Nat) : Callee := (Φ_impl_GoodName N).add 86 (f_impl_Fs_isThere N)
noncomputable def c_impl_Fs_isThere : Code := bodyOf Tryd.f86
theorem b_impl_Fs_isThere {R : Type} (N : Nat) (e_1 : List V) (f_2 : Fl) (x_3 x_4 : Int) (K : V → S → Option R) : bodyV C (Φ_impl_GoodName N) (noLooper) 86 Tryd.f86 [.agg [.list 7 e_1 f_2, .int .i64 x_3], .int .i64 x_4] [] K =
  gb_impl_Fs_isThere N e_1 f_2 x_3 x_4 (fun b_5 => K (.bool b_5) []) := by kernel_rfl
theorem callee_impl_Fs_isThere (hC : Ok Tryd.prog C) {N : Nat} (hΦ : CalleeOk Tryd.prog C (Φ_impl_GoodName N)) : CalleeOk Tryd.prog C (Φ_impl_Fs_isThere N) := by
  refine hΦ.add_pure rfl fun R vs K r h => ?_
  unfold f_impl_Fs_isThere at h
  obtain ⟨_, _, rfl, h1⟩ := asN2_some h
  obtain ⟨_, _, _, rfl, h2⟩ := un_impl_Fs_some h1
  obtain ⟨_, rfl, h3⟩ := asInt_some h2
  obtain ⟨_, h4⟩ := asEnd_some h3
  refine body_pure (fn := Tryd.f86) (c := c_impl_Fs_isThere) hC hΦ Tryd.func86 (by kernel_rfl) (by kernel_rfl) (loopsOk_nil (Λ := noLooper) (by kernel_rfl)) rfl rfl ?_
  refine (b_impl_Fs_isThere N _ _ _ _ _).trans ?_
  rw [← g_impl_Fs_isThere_eq]
  exact h4

/-! ### (loop.example/g00756/impl.Fs).isNode -/
noncomputable def f_impl_Fs_isNode (N : Nat) : (R : Type) → List V → S → (V → S → Option R) → Option R := fun _ vs s K =>
  asN2 vs fun v'1 v'2 => un_impl_Fs v'1 fun e_1 f_2 x_3 => un_impl_Node v'2 fun x_4 x_5 x_6 x_7 x_8 w_9 e_10 f_11 => asEnd s <| g_impl_Fs_isNode N e_1 f_2 x_3 x_4 x_5 x_6 x_7 x_8 w_9 e_10 f_11 (fun b_12 => K (.bool b_12) [])
noncomputable def Φ_impl_Fs_isNode (N : Nat) : Callee := (Φ_impl_Fs_isThere N).add 64 (f_impl_Fs_isNode N)
noncomputable def c_impl_Fs_isNode : Code := bodyOf Tryd.f64
noncomputable def b_impl_Fs_isNode_0 : Code := (loopNo c_impl_Fs_isNode [] 0).2
def ks_impl_Fs_isNode_0 : List Nat := butL 99 [2, 3, 61, 62, 63]
def kx_impl_Fs_isNode_0 : List Nat := butL 99 [3, 4]
def fr_impl_Fs_isNode_0 (e_1 : List V) (f_2 : Fl) (x_3 : Int) (e_5 : List V) (f_6 : Fl) (x_7 x_8 x_9 x_10 x_11 x_12 : Int) (w_13 : ByteArray) (e_14 : List V) (f_15 : Fl) (x_4 : Int) : List V := mkF 0 99 [(2, .ptr 0 0 0 0), (3, .ptr 1 0 0 0), (61, .list 2 e_1 f_2), (62, .int .i64 x_3), (63, .int .i64 x_4)]
def kk0_impl_Fs_isNode_0 {R : Type} (K : X → List V → S → Option R) (e_1 : List V) (f_2 : Fl) (x_3 : Int) (e_5 : List V) (f_6 : Fl) (x_7 : Int) (x_8 : Int) (x_9 : Int) (x_10 : Int) (x_11 : Int) (x_12 : Int) (w_13 : ByteArray) (e_14 : List V) (f_15 : Fl) : Unit → Option R := (fun _ => K .ret (mkF 0 99 [(3, .ptr 1 0 0 0), (4, .bool false)]) [some ⟨[.agg [.list 7 e_5 f_6, .int .i64 x_7]], 2, 32, 0⟩, some ⟨[.agg [.int .i64 x_8, .int .i64 x_9, .int .i64 x_10, .int .i64 x_11, .int .i64 x_12, .str w_13, .list 2 e_14 f_15]], 7, 55, 0⟩])
def kk1_impl_Fs_isNode_0 {R : Type} (K : X → List V → S → Option R) (e_1 : List V) (f_2 : Fl) (x_3 : Int) (e_5 : List V) (f_6 : Fl) (x_7 : Int) (x_8 : Int) (x_9 : Int) (x_10 : Int) (x_11 : Int) (x_12 : Int) (w_13 : ByteArray) (e_14 : List V) (f_15 : Fl) : Unit → Option R := (fun _ => K (.exit 1) (mkF 0 99 [(3, .ptr 1 0 0 0)]) [some ⟨[.agg [.list 7 e_5 f_6, .int .i64 x_7]], 2, 32, 0⟩, some ⟨[.agg [.int .i64 x_8, .int .i64 x_9, .int .i64 x_10, .int .i64 x_11, .int .i64 x_12, .str w_13, .list 2 e_14 f_15]], 7, 55, 0⟩])
noncomputable abbrev it_impl_Fs_isNode_0 {R : Type} (N : Nat) : Nat → List V → S → (X → List V → S → Option R) → Option R := fun n => iter C (Φ_impl_Fs_isThere N) (noLooper) b_impl_Fs_isNode_0 [0, 1, 0, 0, 1, 1, 1, 1, 1, 0, 1, 0, 1, 1, 1] true ks_impl_Fs_isNode_0 kx_impl_Fs_isNode_0 n R
theorem r_impl_Fs_isNode_0 {R : Type} (N n : Nat) (e_1 : List V) (f_2 : Fl) (x_3 : Int) (e_5 : List V) (f_6 : Fl) (x_7 x_8 x_9 x_10 x_11 x_12 : Int) (w_13 : ByteArray) (e_14 : List V) (f_15 : Fl) (x_4 : Int) (K : X → List V → S → Option R) :
  it_impl_Fs_isNode_0 N (n + 1) (fr_impl_Fs_isNode_0 e_1 f_2 x_3 e_5 f_6 x_7 x_8 x_9 x_10 x_11 x_12 w_13 e_14 f_15 x_4) [some ⟨[.agg [.list 7 e_5 f_6, .int .i64 x_7]], 2, 32, 0⟩, some ⟨[.agg [.int .i64 x_8, .int .i64 x_9, .int .i64 x_10, .int .i64 x_11, .int .i64 x_12, .str w_13, .list 2 e_14 f_15]], 7, 55, 0⟩] K =
  l_impl_Fs_isNode_0_step N e_1 f_2 x_3 e_5 f_6 x_7 x_8 x_9 x_10 x_11 x_12 w_13 e_14 f_15 (fun x_4 => it_impl_Fs_isNode_0 N n (fr_impl_Fs_isNode_0 e_1 f_2 x_3 e_5 f_6 x_7 x_8 x_9 x_10 x_11 x_12 w_13 e_14 f_15 x_4) [some ⟨[.agg [.list 7 e_5 f_6, .int .i64 x_7]], 2, 32, 0⟩, some ⟨[.agg [.int .i64 x_8, .int .i64 x_9, .int .i64 x_10, .int .i64 x_11, .int .i64 x_12, .str w_13, .list 2 e_14 f_15]], 7, 55, 0⟩] K) x_4 (kk0_impl_Fs_isNode_0 K e_1 f_2 x_3 e_5 f_6 x_7 x_8 x_9 x_10 x_11 x_12 w_13 e_14 f_15) (kk1_impl_Fs_isNode_0 K e_1 f_2 x_3 e_5 f_6 x_7 x_8 x_9 x_10 x_11 x_12 w_13 e_14 f_15) := by kernel_rfl
theorem w_impl_Fs_isNode_0 {R : Type} (N : Nat) (e_1 : List V) (f_2 : Fl) (x_3 : Int) (e_5 : List V) (f_6 : Fl) (x_7 x_8 x_9 x_10 x_11 x_12 : Int) (w_13 : ByteArray) (e_14 : List V) (f_15 : Fl) (K : X → List V → S → Option R) : ∀ (n : Nat) (x_4 : Int),
  it_impl_Fs_isNode_0 N n (fr_impl_Fs_isNode_0 e_1 f_2 x_3 e_5 f_6 x_7 x_8 x_9 x_10 x_11 x_12 w_13 e_14 f_15 x_4) [some ⟨[.agg [.list 7 e_5 f_6, .int .i64 x_7]], 2, 32, 0⟩, some ⟨[.agg [.int .i64 x_8, .int .i64 x_9, .int .i64 x_10, .int .i64 x_11, .int .i64 x_12, .str w_13, .list 2 e_14 f_15]], 7, 55, 0⟩] K = l_impl_Fs_isNode_0 N e_1 f_2 x_3 e_5 f_6 x_7 x_8 x_9 x_10 x_11 x_12 w_13 e_14 f_15 (kk0_impl_Fs_isNode_0 K e_1 f_2 x_3 e_5 f_6 x_7 x_8 x_9 x_10 x_11 x_12 w_13 e_14 f_15) (kk1_impl_Fs_isNode_0 K e_1 f_2 x_3 e_5 f_6 x_7 x_8 x_9 x_10 x_11 x_12 w_13 e_14 f_15) n x_4
  | 0, _ => rfl
  | n + 1, x_4 => (r_impl_Fs_isNode_0 N n e_1 f_2 x_3 e_5 f_6 x_7 x_8 x_9 x_10 x_11 x_12 w_13 e_14 f_15 x_4 K).trans (congrArg (fun nx => l_impl_Fs_isNode_0_step N e_1 f_2 x_3 e_5 f_6 x_7 x_8 x_9 x_10 x_11 x_12 w_13 e_14 f_15 nx x_4 (kk0_impl_Fs_isNode_0 K e_1 f_2 x_3 e_5 f_6 x_7 x_8 x_9 x_10 x_11 x_12 w_13 e_14 f_15) (kk1_impl_Fs_isNode_0 K e_1 f_2 x_3 e_5 f_6 x_7 x_8 x_9 x_10 x_11 x_12 w_13 e_14 f_15)) (funext fun x_4 => w_impl_Fs_isNode_0 N e_1 f_2 x_3 e_5 f_6 x_7 x_8 x_9 x_10 x_11 x_12 w_13 e_14 f_15 K n x_4))
def i_impl_Fs_isNode_0 {R : Type} (E : List V) (s : S) (k : List V → Fl → Int → Int → List V → Fl → Int → Int → Int → Int → Int → Int → ByteArray → List V → Fl → Option R) : Option R :=
  guardB (frameOk 99 [2, 3, 61, 62, 63] E) <| atIs E 2 (.ptr 0 0 0 0) <| atIs E 3 (.ptr 1 0 0 0) <| atList E 61 2 fun e_1 f_2 => atInt E 62 .i64 fun x_3 => atInt E 63 .i64 fun x_4 => asOb s fun o'1 s'2 => obIs o'1 2 32 fun e'3 k'4 => isN k'4 0 <| asN1 e'3 fun v'5 => asAgg v'5 fun c'6 => asN2 c'6 fun v'7 v'8 => asList 7 v'7 fun e_5 f_6 => asInt .i64 v'8 fun x_7 => asOb s'2 fun o'9 s'10 => obIs o'9 7 55 fun e'11 k'12 => isN k'12 0 <| asN1 e'11 fun v'13 => asAgg v'13 fun c'14 => asN7 c'14 fun v'15 v'16 v'17 v'18 v'19 v'20 v'21 => asInt .i64 v'15 fun x_8 => asInt .i64 v'16 fun x_9 => asInt .i64 v'17 fun x_10 => asInt .i64 v'18 fun x_11 => asInt .i64 v'19 fun x_12 => asStr v'20 fun w_13 => asList 2 v'21 fun e_14 f_15 => asEnd s'10 <| k e_1 f_2 x_3 x_4 e_5 f_6 x_7 x_8 x_9 x_10 x_11 x_12 w_13 e_14 f_15
theorem i_impl_Fs_isNode_0_spec {R : Type} {E : List V} {s : S} {k : List V → Fl → Int → Int → List V → Fl → Int → Int → Int → Int → Int → Int → ByteArray → List V → Fl → Option R} {r : R} (h : i_impl_Fs_isNode_0 E s k = some r) : ∃ e_1 f_2 x_3 x_4 e_5 f_6 x_7 x_8 x_9 x_10 x_11 x_12 w_13 e_14 f_15, E = fr_impl_Fs_isNode_0 e_1 f_2 x_3 e_5 f_6 x_7 x_8 x_9 x_10 x_11 x_12 w_13 e_14 f_15 x_4 ∧ s = [some ⟨[.agg [.list 7 e_5 f_6, .int .i64 x_7]], 2, 32, 0⟩, some ⟨[.agg [.int .i64 x_8, .int .i64 x_9, .int .i64 x_10, .int .i64 x_11, .int .i64 x_12, .str w_13, .list 2 e_14 f_15]], 7, 55, 0⟩] ∧ k e_1 f_2 x_3 x_4 e_5 f_6 x_7 x_8 x_9 x_10 x_11 x_12 w_13 e_14 f_15 = some r := by
  unfold i_impl_Fs_isNode_0 at h
  obtain ⟨hg, h1⟩ := guardB_some h
  obtain ⟨hu2, h2⟩ := atIs_some h1
  obtain ⟨hu3, h3⟩ := atIs_some h2
  obtain ⟨_, _, hu61, h4⟩ := atList_some h3
  obtain ⟨_, hu62, h5⟩ := atInt_some h4
  obtain ⟨_, hu63, h6⟩ := atInt_some h5
  obtain ⟨_, _, rfl, h7⟩ := asOb_some h6
  obtain ⟨_, _, rfl, h8⟩ := obIs_some h7
  obtain ⟨rfl, h9⟩ := isN_some h8
  obtain ⟨_, rfl, h10⟩ := asN1_some h9
  obtain ⟨_, rfl, h11⟩ := asAgg_some h10
  obtain ⟨_, _, rfl, h12⟩ := asN2_some h11
  obtain ⟨_, _, rfl, h13⟩ := asList_some h12
  obtain ⟨_, rfl, h14⟩ := asInt_some h13
  obtain ⟨_, _, rfl, h15⟩ := asOb_some h14
  obtain ⟨_, _, rfl, h16⟩ := obIs_some h15
  obtain ⟨rfl, h17⟩ := isN_some h16
  obtain ⟨_, rfl, h18⟩ := asN1_some h17
  obtain ⟨_, rfl, h19⟩ := asAgg_some h18
  obtain ⟨_, _, _, _, _, _, _, rfl, h20⟩ := asN7_some h19
  obtain ⟨_, rfl, h21⟩ := asInt_some h20
  obtain ⟨_, rfl, h22⟩ := asInt_some h21
  obtain ⟨_, rfl, h23⟩ := asInt_some h22
  obtain ⟨_, rfl, h24⟩ := asInt_some h23
  obtain ⟨_, rfl, h25⟩ := asInt_some h24
  obtain ⟨_, rfl, h26⟩ := asStr_some h25
  obtain ⟨_, _, rfl, h27⟩ := asList_some h26
  obtain ⟨rfl, h28⟩ := asEnd_some h27
  exact ⟨_, _, _, _, _, _, _, _, _, _, _, _, _, _, _, frame_is hg rfl (slots_cons hu2 (slots_cons hu3 (slots_cons hu61 (slots_cons hu62 (slots_cons hu63 slots_nil))))), rfl, h28⟩
noncomputable def Λ_impl_Fs_isNode_0 (N : Nat) : Looper := (noLooper).add [0, 1, 0, 0, 1, 1, 1, 1, 1, 0, 1, 0, 1, 1, 1] fun _ E s K => i_impl_Fs_isNode_0 (killE ks_impl_Fs_isNode_0 E) s fun e_1 f_2 x_3 x_4 e_5 f_6 x_7 x_8 x_9 x_10 x_11 x_12 w_13 e_14 f_15 => l_impl_Fs_isNode_0 N e_1 f_2 x_3 e_5 f_6 x_7 x_8 x_9 x_10 x_11 x_12 w_13 e_14 f_15 (kk0_impl_Fs_isNode_0 K e_1 f_2 x_3 e_5 f_6 x_7 x_8 x_9 x_10 x_11 x_12 w_13 e_14 f_15) (kk1_impl_Fs_isNode_0 K e_1 f_2 x_3 e_5 f_6 x_7 x_8 x_9 x_10 x_11 x_12 w_13 e_14 f_15) N x_4
theorem ok_impl_Fs_isNode_0 {N : Nat} (hC : Ok Tryd.prog C) (hΦ : CalleeOk Tryd.prog C (Φ_impl_Fs_isThere N)) : LoopOk Tryd.prog C (Λ_impl_Fs_isNode_0 N) b_impl_Fs_isNode_0 [0, 1, 0, 0, 1, 1, 1, 1, 1, 0, 1, 0, 1, 1, 1] :=
  iter_ok (Λi := noLooper) (tr := true) (ks := ks_impl_Fs_isNode_0) (kx := kx_impl_Fs_isNode_0) (N := N) hC hΦ
    (loopsOk_nil (by kernel_rfl))
    fun R E s K r h => by
      have h2 := Looper.add_self.symm.trans h
      obtain ⟨_, _, _, _, _, _, _, _, _, _, _, _, _, _, _, he, rfl, h3⟩ := i_impl_Fs_isNode_0_spec h2
      rw [he]
      exact (w_impl_Fs_isNode_0 N _ _ _ _ _ _ _ _ _ _ _ _ _ _ _ N _).trans h3
theorem at_impl_Fs_isNode : loopsAt c_impl_Fs_isNode [] = [([0, 1, 0, 0, 1, 1, 1, 1, 1, 0, 1, 0, 1, 1, 1], b_impl_Fs_isNode_0)] := by kernel_rfl
theorem b_impl_Fs_isNode {R : Type} (N : Nat) (e_1 : List V) (f_2 : Fl) (x_3 x_4 x_5 x_6 x_7 x_8 : Int) (w_9 : ByteArray) (e_10 : List V) (f_11 : Fl) (K : V → S → Option R) : bodyV C (Φ_impl_Fs_isThere N) (Λ_impl_Fs_isNode_0 N) 64 Tryd.f64 [.agg [.list 7 e_1 f_2, .int .i64 x_3], .agg [.int .i64 x_4, .int .i64 x_5, .int .i64 x_6, .int .i64 x_7, .int .i64 x_8, .str w_9, .list 2 e_10 f_11]] [] K =
  gb_impl_Fs_isNode N e_1 f_2 x_3 x_4 x_5 x_6 x_7 x_8 w_9 e_10 f_11 (fun b_12 => K (.bool b_12) []) := by kernel_rfl
theorem loops_impl_Fs_isNode {N : Nat} (hC : Ok Tryd.prog C) (hΦ : CalleeOk Tryd.prog C (Φ_impl_Fs_isThere N)) : LoopsOk Tryd.prog C (Λ_impl_Fs_isNode_0 N) c_impl_Fs_isNode [] :=
  loopsOk_of c_impl_Fs_isNode [] (by
    rw [at_impl_Fs_isNode]
    intro p hp
    simp only [List.mem_cons, List.mem_nil_iff, or_false] at hp
    rcases hp with rfl
    · exact (ok_impl_Fs_isNode_0 hC hΦ))
theorem callee_impl_Fs_isNode (hC : Ok Tryd.prog C) {N : Nat} (hΦ : CalleeOk Tryd.prog C (Φ_impl_Fs_isThere N)) : CalleeOk Tryd.prog C (Φ_impl_Fs_isNode N) := by
  refine hΦ.add_pure rfl fun R vs K r h => ?_
  unfold f_impl_Fs_isNode at h
  obtain ⟨_, _, rfl, h1⟩ := asN2_some h
  obtain ⟨_, _, _, rfl, h2⟩ := un_impl_Fs_some h1
  obtain ⟨_, _, _, _, _, _, _, _, rfl, h3⟩ := un_impl_Node_some h2
  obtain ⟨_, h4⟩ := asEnd_some h3
  refine body_pure (fn := Tryd.f64) (c := c_impl_Fs_isNode) hC hΦ Tryd.func64 (by kernel_rfl) (by kernel_rfl) (loops_impl_Fs_isNode (N := N) hC hΦ) rfl rfl ?_
  refine (b_impl_Fs_isNode N _ _ _ _ _ _ _ _ _ _ _ _).trans ?_
  rw [← g_impl_Fs_isNode_eq]
  exact h4

/-! ### (loop.example/g00756/impl.Fs).bytesIn -/
noncomputable def f_impl_Fs_bytesIn (N : Nat) : (R : Type) → List V → S → (V → S → Option R) → Option R := fun _ vs s K =>
  asN1 vs fun v'1 => un_impl_Fs v'1 fun e_1 f_2 x_3 => asEnd s <| g_impl_Fs_bytesIn N e_1 f_2 x_3 (fun x_4 => K (.int .i64 x_4) [])
noncomputable def Φ_impl_Fs_bytesIn (N : Nat) : Callee := (Φ_impl_Fs_isNode N).add 65 (f_impl_Fs_bytesIn N)
noncomputable def c_impl_Fs_bytesIn : Code := bodyOf Tryd.f65
noncomputable def b_impl_Fs_bytesIn_0 : Code := (loopNo c_impl_Fs_bytesIn [] 0).2
def ks_impl_Fs_bytesIn_0 : List Nat := butL 20 [3, 7, 8, 9]
def kx_impl_Fs_bytesIn_0 : List Nat := butL 20 [3]
def fr_impl_Fs_bytesIn_0 (e_2 : List V) (f_3 : Fl) (x_4 : Int) (e_6 : List V) (f_7 : Fl) (x_8 x_1 x_5 : Int) : List V := mkF 0 20 [(3, .int .i64 x_1), (7, .list 7 e_2 f_3), (8, .int .i64 x_4), (9, .int .i64 x_5)]
def kk0_impl_Fs_bytesIn_0 {R : Type} (K : X → List V → S → Option R) (e_2 : List V) (f_3 : Fl) (x_4 : Int) (e_6 : List V) (f_7 : Fl) (x_8 : Int) : Int → Option R := (fun x_1' => K (.exit 0) (mkF 0 20 [(3, .int .i64 (x_1'))]) [some ⟨[.agg [.list 7 e_6 f_7, .int .i64 x_8]], 2, 32, 0⟩])
noncomputable abbrev it_impl_Fs_bytesIn_0 {R : Type} (N : Nat) : Nat → List V → S → (X → List V → S → Option R) → Option R := fun n => iter C (Φ_impl_Fs_isNode N) (noLooper) b_impl_Fs_bytesIn_0 [0, 1, 0, 1, 1] true ks_impl_Fs_bytesIn_0 kx_impl_Fs_bytesIn_0 n R
theorem r_impl_Fs_bytesIn_0 {R : Type} (N n : Nat) (e_2 : List V) (f_3 : Fl) (x_4 : Int) (e_6 : List V) (f_7 : Fl) (x_8 : Int) (x_1 x_5 : Int) (K : X → List V → S → Option R) :
  it_impl_Fs_bytesIn_0 N (n + 1) (fr_impl_Fs_bytesIn_0 e_2 f_3 x_4 e_6 f_7 x_8 x_1 x_5) [some ⟨[.agg [.list 7 e_6 f_7, .int .i64 x_8]], 2, 32, 0⟩] K =
  l_impl_Fs_bytesIn_0_step N e_2 f_3 x_4 e_6 f_7 x_8 (fun x_1 x_5 => it_impl_Fs_bytesIn_0 N n (fr_impl_Fs_bytesIn_0 e_2 f_3 x_4 e_6 f_7 x_8 x_1 x_5) [some ⟨[.agg [.list 7 e_6 f_7, .int .i64 x_8]], 2, 32, 0⟩] K) x_1 x_5 (kk0_impl_Fs_bytesIn_0 K e_2 f_3 x_4 e_6 f_7 x_8) := by kernel_rfl
theorem w_impl_Fs_bytesIn_0 {R : Type} (N : Nat) (e_2 : List V) (f_3 : Fl) (x_4 : Int) (e_6 : List V) (f_7 : Fl) (x_8 : Int) (K : X → List V → S → Option R) : ∀ (n : Nat) (x_1 x_5 : Int),
  it_impl_Fs_bytesIn_0 N n (fr_impl_Fs_bytesIn_0 e_2 f_3 x_4 e_6 f_7 x_8 x_1 x_5) [some ⟨[.agg [.list 7 e_6 f_7, .int .i64 x_8]], 2, 32, 0⟩] K = l_impl_Fs_bytesIn_0 N e_2 f_3 x_4 e_6 f_7 x_8 (kk0_impl_Fs_bytesIn_0 K e_2 f_3 x_4 e_6 f_7 x_8) n x_1 x_5
  | 0, _, _ => rfl
  | n + 1, x_1, x_5 => (r_impl_Fs_bytesIn_0 N n e_2 f_3 x_4 e_6 f_7 x_8 x_1 x_5 K).trans (congrArg (fun nx => l_impl_Fs_bytesIn_0_step N e_2 f_3 x_4 e_6 f_7 x_8 nx x_1 x_5 (kk0_impl_Fs_bytesIn_0 K e_2 f_3 x_4 e_6 f_7 x_8)) (funext fun x_1 => funext fun x_5 => w_impl_Fs_bytesIn_0 N e_2 f_3 x_4 e_6 f_7 x_8 K n x_1 x_5))
def i_impl_Fs_bytesIn_0 {R : Type} (E : List V) (s : S) (k : Int → List V → Fl → Int → Int → List V → Fl → Int → Option R) : Option R :=
  guardB (frameOk 20 [3, 7, 8, 9] E) <| atInt E 3 .i64 fun x_1 => atList E 7 7 fun e_2 f_3 => atInt E 8 .i64 fun x_4 => atInt E 9 .i64 fun x_5 => asOb s fun o'1 s'2 => obIs o'1 2 32 fun e'3 k'4 => isN k'4 0 <| asN1 e'3 fun v'5 => asAgg v'5 fun c'6 => asN2 c'6 fun v'7 v'8 => asList 7 v'7 fun e_6 f_7 => asInt .i64 v'8 fun x_8 => asEnd s'2 <| k x_1 e_2 f_3 x_4 x_5 e_6 f_7 x_8
theorem i_impl_Fs_bytesIn_0_spec {R : Type} {E : List V} {s : S} {k : Int → List V → Fl → Int → Int → List V → Fl → Int → Option R} {r : R} (h : i_impl_Fs_bytesIn_0 E s k = some r) : ∃ x_1 e_2 f_3 x_4 x_5 e_6 f_7 x_8, E = fr_impl_Fs_bytesIn_0 e_2 f_3 x_4 e_6 f_7 x_8 x_1 x_5 ∧ s = [some ⟨[.agg [.list 7 e_6 f_7, .int .i64 x_8]], 2, 32, 0⟩] ∧ k x_1 e_2 f_3 x_4 x_5 e_6 f_7 x_8 = some r := by
  unfold i_impl_Fs_bytesIn_0 at h
  obtain ⟨hg, h1⟩ := guardB_some h
  obtain ⟨_, hu3, h2⟩ := atInt_some h1
  obtain ⟨_, _, hu7, h3⟩ := atList_some h2
  obtain ⟨_, hu8, h4⟩ := atInt_some h3
  obtain ⟨_, hu9, h5⟩ := atInt_some h4
  obtain ⟨_, _, rfl, h6⟩ := asOb_some h5
  obtain ⟨_, _, rfl, h7⟩ := obIs_some h6
  obtain ⟨rfl, h8⟩ := isN_some h7
  obtain ⟨_, rfl, h9⟩ := asN1_some h8
  obtain ⟨_, rfl, h10⟩ := asAgg_some h9
  obtain ⟨_, _, rfl, h11⟩ := asN2_some h10
  obtain ⟨_, _, rfl, h12⟩ := asList_some h11
  obtain ⟨_, rfl, h13⟩ := asInt_some h12
  obtain ⟨rfl, h14⟩ := asEnd_some h13
  exact ⟨_, _, _, _, _, _, _, _, frame_is hg rfl (slots_cons hu3 (slots_cons hu7 (slots_cons hu8 (slots_cons hu9 slots_nil)))), rfl, h14⟩
noncomputable def Λ_impl_Fs_bytesIn_0 (N : Nat) : Looper := (noLooper).add [0, 1, 0, 1, 1] fun _ E s K => i_impl_Fs_bytesIn_0 (killE ks_impl_Fs_bytesIn_0 E) s fun x_1 e_2 f_3 x_4 x_5 e_6 f_7 x_8 => l_impl_Fs_bytesIn_0 N e_2 f_3 x_4 e_6 f_7 x_8 (kk0_impl_Fs_bytesIn_0 K e_2 f_3 x_4 e_6 f_7 x_8) N x_1 x_5
theorem ok_impl_Fs_bytesIn_0 {N : Nat} (hC : Ok Tryd.prog C) (hΦ : CalleeOk Tryd.prog C (Φ_impl_Fs_isNode N)) : LoopOk Tryd.prog C (Λ_impl_Fs_bytesIn_0 N) b_impl_Fs_bytesIn_0 [0, 1, 0, 1, 1] :=
  iter_ok (Λi := noLooper) (tr := true) (ks := ks_impl_Fs_bytesIn_0) (kx := kx_impl_Fs_bytesIn_0) (N := N) hC hΦ
    (loopsOk_nil (by kernel_rfl))
    fun R E s K r h => by
      have h2 := Looper.add_self.symm.trans h
      obtain ⟨_, _, _, _, _, _, _, _, he, rfl, h3⟩ := i_impl_Fs_bytesIn_0_spec h2
      rw [he]
      exact (w_impl_Fs_bytesIn_0 N _ _ _ _ _ _ _ N _ _).trans h3
theorem at_impl_Fs_bytesIn : loopsAt c_impl_Fs_bytesIn [] = [([0, 1, 0, 1, 1], b_impl_Fs_bytesIn_0)] := by kernel_rfl
theorem b_impl_Fs_bytesIn {R : Type} (N : Nat) (e_1 : List V) (f_2 : Fl) (x_3 : Int) (K : V → S → Option R) : bodyV C (Φ_impl_Fs_isNode N) (Λ_impl_Fs_bytesIn_0 N) 65 Tryd.f65 [.agg [.list 7 e_1 f_2, .int .i64 x_3]] [] K =
  gb_impl_Fs_bytesIn N e_1 f_2 x_3 (fun x_4 => K (.int .i64 x_4) []) := by kernel_rfl
theorem loops_impl_Fs_bytesIn {N : Nat} (hC : Ok Tryd.prog C) (hΦ : CalleeOk Tryd.prog C (Φ_impl_Fs_isNode N)) : LoopsOk Tryd.prog C (Λ_impl_Fs_bytesIn_0 N) c_impl_Fs_bytesIn [] :=
  loopsOk_of c_impl_Fs_bytesIn [] (by
    rw [at_impl_Fs_bytesIn]
    intro p hp
    simp only [List.mem_cons, List.mem_nil_iff, or_false] at hp
    rcases hp with rfl
    · exact (ok_impl_Fs_bytesIn_0 hC hΦ))
theorem callee_impl_Fs_bytesIn (hC : Ok Tryd.prog C) {N : Nat} (hΦ : CalleeOk Tryd.prog C (Φ_impl_Fs_isNode N)) : CalleeOk Tryd.prog C (Φ_impl_Fs_bytesIn N) := by
  refine hΦ.add_pure rfl fun R vs K r h => ?_
  unfold f_impl_Fs_bytesIn at h
  obtain ⟨_, rfl, h1⟩ := asN1_some h
  obtain ⟨_, _, _, rfl, h2⟩ := un_impl_Fs_some h1
  obtain ⟨_, h3⟩ := asEnd_some h2
  refine body_pure (fn := Tryd.f65) (c := c_impl_Fs_bytesIn) hC hΦ Tryd.func65 (by kernel_rfl) (by kernel_rfl) (loops_impl_Fs_bytesIn (N := N) hC hΦ) rfl rfl ?_
  refine (b_impl_Fs_bytesIn N _ _ _ _).trans ?_
  rw [← g_impl_Fs_bytesIn_eq]
  exact h3

/-! ### loop.example/g00756/impl.GoodFs -/
noncomputable def f_impl_GoodFs (N : Nat) : (R : Type) → List V → S → (V → S → Option R) → Option R := fun _ vs s K =>
  asN1 vs fun v'1 => un_impl_Fs v'1 fun e_1 f_2 x_3 => asEnd s <| g_impl_GoodFs N e_1 f_2 x_3 (fun b_4 => K (.bool b_4) [])
noncomputable def Φ_impl_GoodFs (N : Nat) : Callee := (Φ_impl_Fs_bytesIn N).add 38 (f_impl_GoodFs N)
noncomputable def c_impl_GoodFs : Code := bodyOf Tryd.f38
noncomputable def b_impl_GoodFs_0 : Code := (loopNo c_impl_GoodFs [] 0).2
noncomputable def b_impl_GoodFs_1 : Code := (loopNo c_impl_GoodFs [] 1).2
noncomputable def b_impl_GoodFs_3 : Code := (loopNo c_impl_GoodFs [] 2).2
noncomputable def b_impl_GoodFs_4 : Code := (loopNo c_impl_GoodFs [] 3).2
noncomputable def b_impl_GoodFs_2 : Code := (loopNo b_impl_GoodFs_3 (0 :: [0, 1, 0, 1, 1, 1, 1, 1, 1, 1, 1]) 0).2
def ks_impl_GoodFs_0 : List Nat := butL 156 [1, 36, 37, 38]
def kx_impl_GoodFs_0 : List Nat := butL 156 [1, 2]
def fr_impl_GoodFs_0 (e_1 : List V) (f_2 : Fl) (x_3 : Int) (e_5 : List V) (f_6 : Fl) (x_7 x_4 : Int) : List V := mkF 0 156 [(1, .ptr 0 0 0 0), (36, .list 7 e_1 f_2), (37, .int .i64 x_3), (38, .int .i64 x_4)]
def kk0_impl_GoodFs_0 {R : Type} (K : X → List V → S → Option R) (e_1 : List V) (f_2 : Fl) (x_3 : Int) (e_5 : List V) (f_6 : Fl) (x_7 : Int) : Unit → Option R := (fun _ => K .ret (mkF 0 156 [(1, .ptr 0 0 0 0), (2, .bool false)]) [some ⟨[.agg [.list 7 e_5 f_6, .int .i64 x_7]], 2, 32, 0⟩])
def kk1_impl_GoodFs_0 {R : Type} (K : X → List V → S → Option R) (e_1 : List V) (f_2 : Fl) (x_3 : Int) (e_5 : List V) (f_6 : Fl) (x_7 : Int) : Unit → Option R := (fun _ => K (.exit 0) (mkF 0 156 [(1, .ptr 0 0 0 0)]) [some ⟨[.agg [.list 7 e_5 f_6, .int .i64 x_7]], 2, 32, 0⟩])
noncomputable abbrev it_impl_GoodFs_0 {R : Type} (N : Nat) : Nat → List V → S → (X → List V → S → Option R) → Option R := fun n => iter C (Φ_impl_Fs_bytesIn N) (noLooper) b_impl_GoodFs_0 [0, 1, 0, 1, 1] true ks_impl_GoodFs_0 kx_impl_GoodFs_0 n R
theorem r_impl_GoodFs_0 {R : Type} (N n : Nat) (e_1 : List V) (f_2 : Fl) (x_3 : Int) (e_5 : List V) (f_6 : Fl) (x_7 : Int) (x_4 : Int) (K : X → List V → S → Option R) :
  it_impl_GoodFs_0 N (n + 1) (fr_impl_GoodFs_0 e_1 f_2 x_3 e_5 f_6 x_7 x_4) [some ⟨[.agg [.list 7 e_5 f_6, .int .i64 x_7]], 2, 32, 0⟩] K =
  l_impl_GoodFs_0_step N e_1 f_2 x_3 e_5 f_6 x_7 (fun x_4 => it_impl_GoodFs_0 N n (fr_impl_GoodFs_0 e_1 f_2 x_3 e_5 f_6 x_7 x_4) [some ⟨[.agg [.list 7 e_5 f_6, .int .i64 x_7]], 2, 32, 0⟩] K) x_4 (kk0_impl_GoodFs_0 K e_1 f_2 x_3 e_5 f_6 x_7) (kk1_impl_GoodFs_0 K e_1 f_2 x_3 e_5 f_6 x_7) := by kernel_rfl
theorem w_impl_GoodFs_0 {R : Type} (N : Nat) (e_1 : List V) (f_2 : Fl) (x_3 : Int) (e_5 : List V) (f_6 : Fl) (x_7 : Int) (K : X → List V → S → Option R) : ∀ (n : Nat) (x_4 : Int),
  it_impl_GoodFs_0 N n (fr_impl_GoodFs_0 e_1 f_2 x_3 e_5 f_6 x_7 x_4) [some ⟨[.agg [.list 7 e_5 f_6, .int .i64 x_7]], 2, 32, 0⟩] K = l_impl_GoodFs_0 N e_1 f_2 x_3 e_5 f_6 x_7 (kk0_impl_GoodFs_0 K e_1 f_2 x_3 e_5 f_6 x_7) (kk1_impl_GoodFs_0 K e_1 f_2 x_3 e_5 f_6 x_7) n x_4
  | 0, _ => rfl
  | n + 1, x_4 => (r_impl_GoodFs_0 N n e_1 f_2 x_3 e_5 f_6 x_7 x_4 K).trans (congrArg (fun nx => l_impl_GoodFs_0_step N e_1 f_2 x_3 e_5 f_6 x_7 nx x_4 (kk0_impl_GoodFs_0 K e_1 f_2 x_3 e_5 f_6 x_7) (kk1_impl_GoodFs_0 K e_1 f_2 x_3 e_5 f_6 x_7)) (funext fun x_4 => w_impl_GoodFs_0 N e_1 f_2 x_3 e_5 f_6 x_7 K n x_4))
def i_impl_GoodFs_0 {R : Type} (E : List V) (s : S) (k : List V → Fl → Int → Int → List V → Fl → Int → Option R) : Option R :=
  guardB (frameOk 156 [1, 36, 37, 38] E) <| atIs E 1 (.ptr 0 0 0 0) <| atList E 36 7 fun e_1 f_2 => atInt E 37 .i64 fun x_3 => atInt E 38 .i64 fun x_4 => asOb s fun o'1 s'2 => obIs o'1 2 32 fun e'3 k'4 => isN k'4 0 <| asN1 e'3 fun v'5 => asAgg v'5 fun c'6 => asN2 c'6 fun v'7 v'8 => asList 7 v'7 fun e_5 f_6 => asInt .i64 v'8 fun x_7 => asEnd s'2 <| k e_1 f_2 x_3 x_4 e_5 f_6 x_7
theorem i_impl_GoodFs_0_spec {R : Type} {E : List V} {s : S} {k : List V → Fl → Int → Int → List V → Fl → Int → Option R} {r : R} (h : i_impl_GoodFs_0 E s k = some r) : ∃ e_1 f_2 x_3 x_4 e_5 f_6 x_7, E = fr_impl_GoodFs_0 e_1 f_2 x_3 e_5 f_6 x_7 x_4 ∧ s = [some ⟨[.agg [.list 7 e_5 f_6, .int .i64 x_7]], 2, 32, 0⟩] ∧ k e_1 f_2 x_3 x_4 e_5 f_6 x_7 = some r := by
  unfold i_impl_GoodFs_0 at h
  obtain ⟨hg, h1⟩ := guardB_some h
  obtain ⟨hu1, h2⟩ := atIs_some h1
  obtain ⟨_, _, hu36, h3⟩ := atList_some h2
  obtain ⟨_, hu37, h4⟩ := atInt_some h3
  obtain ⟨_, hu38, h5⟩ := atInt_some h4
  obtain ⟨_, _, rfl, h6⟩ := asOb_some h5
  obtain ⟨_, _, rfl, h7⟩ := obIs_some h6
  obtain ⟨rfl, h8⟩ := isN_some h7
  obtain ⟨_, rfl, h9⟩ := asN1_some h8
  obtain ⟨_, rfl, h10⟩ := asAgg_some h9
  obtain ⟨_, _, rfl, h11⟩ := asN2_some h10
  obtain ⟨_, _, rfl, h12⟩ := asList_some h11
  obtain ⟨_, rfl, h13⟩ := asInt_some h12
  obtain ⟨rfl, h14⟩ := asEnd_some h13
  exact ⟨_, _, _, _, _, _, _, frame_is hg rfl (slots_cons hu1 (slots_cons hu36 (slots_cons hu37 (slots_cons hu38 slots_nil)))), rfl, h14⟩
noncomputable def Λ_impl_GoodFs_0 (N : Nat) : Looper := (noLooper).add [0, 1, 0, 1, 1] fun _ E s K => i_impl_GoodFs_0 (killE ks_impl_GoodFs_0 E) s fun e_1 f_2 x_3 x_4 e_5 f_6 x_7 => l_impl_GoodFs_0 N e_1 f_2 x_3 e_5 f_6 x_7 (kk0_impl_GoodFs_0 K e_1 f_2 x_3 e_5 f_6 x_7) (kk1_impl_GoodFs_0 K e_1 f_2 x_3 e_5 f_6 x_7) N x_4
theorem ok_impl_GoodFs_0 {N : Nat} (hC : Ok Tryd.prog C) (hΦ : CalleeOk Tryd.prog C (Φ_impl_Fs_bytesIn N)) : LoopOk Tryd.prog C (Λ_impl_GoodFs_0 N) b_impl_GoodFs_0 [0, 1, 0, 1, 1] :=
  iter_ok (Λi := noLooper) (tr := true) (ks := ks_impl_GoodFs_0) (kx := kx_impl_GoodFs_0) (N := N) hC hΦ
    (loopsOk_nil (by kernel_rfl))
    fun R E s K r h => by
      have h2 := Looper.add_self.symm.trans h
      obtain ⟨_, _, _, _, _, _, _, he, rfl, h3⟩ := i_impl_GoodFs_0_spec h2
      rw [he]
      exact (w_impl_GoodFs_0 N _ _ _ _ _ _ _ N _).trans h3
def ks_impl_GoodFs_1 : List Nat := butL 156 [1, 5, 55, 56, 57]
def kx_impl_GoodFs_1 : List Nat := butL 156 [1, 2]
def fr_impl_GoodFs_1 (e_1 e_2 : List V) (f_3 : Fl) (x_4 : Int) (e_6 : List V) (f_7 : Fl) (x_8 x_5 : Int) : List V := mkF 0 156 [(1, .ptr 0 0 0 0), (5, .list 1 e_1 .sh), (55, .list 7 e_2 f_3), (56, .int .i64 x_4), (57, .int .i64 x_5)]
def kk0_impl_GoodFs_1 {R : Type} (K : X → List V → S → Option R) (e_1 : List V) (e_2 : List V) (f_3 : Fl) (x_4 : Int) (e_6 : List V) (f_7 : Fl) (x_8 : Int) : Unit → Option R := (fun _ => K .ret (mkF 0 156 [(1, .ptr 0 0 0 0), (2, .bool false)]) [some ⟨[.agg [.list 7 e_6 f_7, .int .i64 x_8]], 2, 32, 0⟩])
def kk1_impl_GoodFs_1 {R : Type} (K : X → List V → S → Option R) (e_1 : List V) (e_2 : List V) (f_3 : Fl) (x_4 : Int) (e_6 : List V) (f_7 : Fl) (x_8 : Int) : Unit → Option R := (fun _ => K (.exit 2) (mkF 0 156 [(1, .ptr 0 0 0 0)]) [some ⟨[.agg [.list 7 e_6 f_7, .int .i64 x_8]], 2, 32, 0⟩])
noncomputable abbrev it_impl_GoodFs_1 {R : Type} (N : Nat) : Nat → List V → S → (X → List V → S → Option R) → Option R := fun n => iter C (Φ_impl_Fs_bytesIn N) (Λ_impl_GoodFs_0 N) b_impl_GoodFs_1 [0, 1, 0, 1, 1, 1, 1, 1] true ks_impl_GoodFs_1 kx_impl_GoodFs_1 n R
theorem r_impl_GoodFs_1 {R : Type} (N n : Nat) (e_1 e_2 : List V) (f_3 : Fl) (x_4 : Int) (e_6 : List V) (f_7 : Fl) (x_8 : Int) (x_5 : Int) (K : X → List V → S → Option R) :
  it_impl_GoodFs_1 N (n + 1) (fr_impl_GoodFs_1 e_1 e_2 f_3 x_4 e_6 f_7 x_8 x_5) [some ⟨[.agg [.list 7 e_6 f_7, .int .i64 x_8]], 2, 32, 0⟩] K =
  l_impl_GoodFs_1_step N e_1 e_2 f_3 x_4 e_6 f_7 x_8 (fun x_5 => it_impl_GoodFs_1 N n (fr_impl_GoodFs_1 e_1 e_2 f_3 x_4 e_6 f_7 x_8 x_5) [some ⟨[.agg [.list 7 e_6 f_7, .int .i64 x_8]], 2, 32, 0⟩] K) x_5 (kk0_impl_GoodFs_1 K e_1 e_2 f_3 x_4 e_6 f_7 x_8) (kk1_impl_GoodFs_1 K e_1 e_2 f_3 x_4 e_6 f_7 x_8) := by kernel_rfl
theorem w_impl_GoodFs_1 {R : Type} (N : Nat) (e_1 e_2 : List V) (f_3 : Fl) (x_4 : Int) (e_6 : List V) (f_7 : Fl) (x_8 : Int) (K : X → List V → S → Option R) : ∀ (n : Nat) (x_5 : Int),
  it_impl_GoodFs_1 N n (fr_impl_GoodFs_1 e_1 e_2 f_3 x_4 e_6 f_7 x_8 x_5) [some ⟨[.agg [.list 7 e_6 f_7, .int .i64 x_8]], 2, 32, 0⟩] K = l_impl_GoodFs_1 N e_1 e_2 f_3 x_4 e_6 f_7 x_8 (kk0_impl_GoodFs_1 K e_1 e_2 f_3 x_4 e_6 f_7 x_8) (kk1_impl_GoodFs_1 K e_1 e_2 f_3 x_4 e_6 f_7 x_8) n x_5
  | 0, _ => rfl
  | n + 1, x_5 => (r_impl_GoodFs_1 N n e_1 e_2 f_3 x_4 e_6 f_7 x_8 x_5 K).trans (congrArg (fun nx => l_impl_GoodFs_1_step N e_1 e_2 f_3 x_4 e_6 f_7 x_8 nx x_5 (kk0_impl_GoodFs_1 K e_1 e_2 f_3 x_4 e_6 f_7 x_8) (kk1_impl_GoodFs_1 K e_1 e_2 f_3 x_4 e_6 f_7 x_8)) (funext fun x_5 => w_impl_GoodFs_1 N e_1 e_2 f_3 x_4 e_6 f_7 x_8 K n x_5))
def i_impl_GoodFs_1 {R : Type} (E : List V) (s : S) (k : List V → List V → Fl → Int → Int → List V → Fl → Int → Option R) : Option R :=
  guardB (frameOk 156 [1, 5, 55, 56, 57] E) <| atIs E 1 (.ptr 0 0 0 0) <| must (nth E 5) fun u5 => asList 1 u5 fun e_1 f'1 => asSh f'1 <| atList E 55 7 fun e_2 f_3 => atInt E 56 .i64 fun x_4 => atInt E 57 .i64 fun x_5 => asOb s fun o'2 s'3 => obIs o'2 2 32 fun e'4 k'5 => isN k'5 0 <| asN1 e'4 fun v'6 => asAgg v'6 fun c'7 => asN2 c'7 fun v'8 v'9 => asList 7 v'8 fun e_6 f_7 => asInt .i64 v'9 fun x_8 => asEnd s'3 <| k e_1 e_2 f_3 x_4 x_5 e_6 f_7 x_8
theorem i_impl_GoodFs_1_spec {R : Type} {E : List V} {s : S} {k : List V → List V → Fl → Int → Int → List V → Fl → Int → Option R} {r : R} (h : i_impl_GoodFs_1 E s k = some r) : ∃ e_1 e_2 f_3 x_4 x_5 e_6 f_7 x_8, E = fr_impl_GoodFs_1 e_1 e_2 f_3 x_4 e_6 f_7 x_8 x_5 ∧ s = [some ⟨[.agg [.list 7 e_6 f_7, .int .i64 x_8]], 2, 32, 0⟩] ∧ k e_1 e_2 f_3 x_4 x_5 e_6 f_7 x_8 = some r := by
  unfold i_impl_GoodFs_1 at h
  obtain ⟨hg, h1⟩ := guardB_some h
  obtain ⟨hu1, h2⟩ := atIs_some h1
  obtain ⟨_, hu5, h3⟩ := must_some h2
  obtain ⟨_, _, rfl, h4⟩ := asList_some h3
  obtain ⟨rfl, h5⟩ := asSh_some h4
  obtain ⟨_, _, hu55, h6⟩ := atList_some h5
  obtain ⟨_, hu56, h7⟩ := atInt_some h6
  obtain ⟨_, hu57, h8⟩ := atInt_some h7
  obtain ⟨_, _, rfl, h9⟩ := asOb_some h8
  obtain ⟨_, _, rfl, h10⟩ := obIs_some h9
  obtain ⟨rfl, h11⟩ := isN_some h10
  obtain ⟨_, rfl, h12⟩ := asN1_some h11
  obtain ⟨_, rfl, h13⟩ := asAgg_some h12
  obtain ⟨_, _, rfl, h14⟩ := asN2_some h13
  obtain ⟨_, _, rfl, h15⟩ := asList_some h14
  obtain ⟨_, rfl, h16⟩ := asInt_some h15
  obtain ⟨rfl, h17⟩ := asEnd_some h16
  exact ⟨_, _, _, _, _, _, _, _, frame_is hg rfl (slots_cons hu1 (slots_cons hu5 (slots_cons hu55 (slots_cons hu56 (slots_cons hu57 slots_nil))))), rfl, h17⟩
noncomputable def Λ_impl_GoodFs_1 (N : Nat) : Looper := (Λ_impl_GoodFs_0 N).add [0, 1, 0, 1, 1, 1, 1, 1] fun _ E s K => i_impl_GoodFs_1 (killE ks_impl_GoodFs_1 E) s fun e_1 e_2 f_3 x_4 x_5 e_6 f_7 x_8 => l_impl_GoodFs_1 N e_1 e_2 f_3 x_4 e_6 f_7 x_8 (kk0_impl_GoodFs_1 K e_1 e_2 f_3 x_4 e_6 f_7 x_8) (kk1_impl_GoodFs_1 K e_1 e_2 f_3 x_4 e_6 f_7 x_8) N x_5
theorem ok_impl_GoodFs_1 {N : Nat} (hC : Ok Tryd.prog C) (hΦ : CalleeOk Tryd.prog C (Φ_impl_Fs_bytesIn N)) : LoopOk Tryd.prog C (Λ_impl_GoodFs_1 N) b_impl_GoodFs_1 [0, 1, 0, 1, 1, 1, 1, 1] :=
  iter_ok (Λi := Λ_impl_GoodFs_0 N) (tr := true) (ks := ks_impl_GoodFs_1) (kx := kx_impl_GoodFs_1) (N := N) hC hΦ
    (loopsOk_nil (by kernel_rfl))
    fun R E s K r h => by
      have h2 := Looper.add_self.symm.trans h
      obtain ⟨_, _, _, _, _, _, _, _, he, rfl, h3⟩ := i_impl_GoodFs_1_spec h2
      rw [he]
      exact (w_impl_GoodFs_1 N _ _ _ _ _ _ _ _ N _).trans h3
def ks_impl_GoodFs_2 : List Nat := butL 156 [1, 9, 10, 11, 109, 110, 111]
def kx_impl_GoodFs_2 : List Nat := butL 156 [1, 9, 10, 11]
def fr_impl_GoodFs_2 (k_1 : Nat) (x_3 : Int) (e_4 : List V) (f_5 : Fl) (x_6 : Int) (e_8 : List V) (f_9 : Fl) (x_10 : Int) (e_2 : List V) (x_7 : Int) (e_11 : List V) : List V := mkF 0 156 [(1, .ptr 0 0 0 0), (9, .arr 1 0 0 k_1), (10, .list 1 e_2 (.own 3)), (11, .int .i64 x_3), (109, .list 2 e_4 f_5), (110, .int .i64 x_6), (111, .int .i64 x_7)]
def kk0_impl_GoodFs_2 {R : Type} (K : X → List V → S → Option R) (k_1 : Nat) (x_3 : Int) (e_4 : List V) (f_5 : Fl) (x_6 : Int) (e_8 : List V) (f_9 : Fl) (x_10 : Int) : List V → List V → Option R := (fun e_1' e_2' => K (.exit 7) (mkF 0 156 [(1, .ptr 0 0 0 0), (9, .arr 1 0 0 k_1), (10, .list 1 (e_1') (.own 3)), (11, .int .i64 x_3)]) [some ⟨[.agg [.list 7 e_8 f_9, .int .i64 x_10]], 2, 32, 0⟩, some ⟨e_2', 1, 4, 0⟩])
noncomputable abbrev it_impl_GoodFs_2 {R : Type} (N : Nat) : Nat → List V → S → (X → List V → S → Option R) → Option R := fun n => iter C (Φ_impl_Fs_bytesIn N) (Λ_impl_GoodFs_1 N) b_impl_GoodFs_2 [0, 1, 1, 0, 0, 1, 0, 0, 1, 0, 1, 1, 1, 1, 1, 1, 1, 1] true ks_impl_GoodFs_2 kx_impl_GoodFs_2 n R
theorem r_impl_GoodFs_2 {R : Type} (N n : Nat) (k_1 : Nat) (x_3 : Int) (e_4 : List V) (f_5 : Fl) (x_6 : Int) (e_8 : List V) (f_9 : Fl) (x_10 : Int) (e_2 : List V) (x_7 : Int) (e_11 : List V) (K : X → List V → S → Option R) :
  it_impl_GoodFs_2 N (n + 1) (fr_impl_GoodFs_2 k_1 x_3 e_4 f_5 x_6 e_8 f_9 x_10 e_2 x_7 e_11) [some ⟨[.agg [.list 7 e_8 f_9, .int .i64 x_10]], 2, 32, 0⟩, some ⟨e_11, 1, 4, 0⟩] K =
  l_impl_GoodFs_2_step N k_1 x_3 e_4 f_5 x_6 e_8 f_9 x_10 (fun e_2 x_7 e_11 => it_impl_GoodFs_2 N n (fr_impl_GoodFs_2 k_1 x_3 e_4 f_5 x_6 e_8 f_9 x_10 e_2 x_7 e_11) [some ⟨[.agg [.list 7 e_8 f_9, .int .i64 x_10]], 2, 32, 0⟩, some ⟨e_11, 1, 4, 0⟩] K) e_2 x_7 e_11 (kk0_impl_GoodFs_2 K k_1 x_3 e_4 f_5 x_6 e_8 f_9 x_10) := by kernel_rfl
theorem w_impl_GoodFs_2 {R : Type} (N : Nat) (k_1 : Nat) (x_3 : Int) (e_4 : List V) (f_5 : Fl) (x_6 : Int) (e_8 : List V) (f_9 : Fl) (x_10 : Int) (K : X → List V → S → Option R) : ∀ (n : Nat) (e_2 : List V) (x_7 : Int) (e_11 : List V),
  it_impl_GoodFs_2 N n (fr_impl_GoodFs_2 k_1 x_3 e_4 f_5 x_6 e_8 f_9 x_10 e_2 x_7 e_11) [some ⟨[.agg [.list 7 e_8 f_9, .int .i64 x_10]], 2, 32, 0⟩, some ⟨e_11, 1, 4, 0⟩] K = l_impl_GoodFs_2 N k_1 x_3 e_4 f_5 x_6 e_8 f_9 x_10 (kk0_impl_GoodFs_2 K k_1 x_3 e_4 f_5 x_6 e_8 f_9 x_10) n e_2 x_7 e_11
  | 0, _, _, _ => rfl
  | n + 1, e_2, x_7, e_11 => (r_impl_GoodFs_2 N n k_1 x_3 e_4 f_5 x_6 e_8 f_9 x_10 e_2 x_7 e_11 K).trans (congrArg (fun nx => l_impl_GoodFs_2_step N k_1 x_3 e_4 f_5 x_6 e_8 f_9 x_10 nx e_2 x_7 e_11 (kk0_impl_GoodFs_2 K k_1 x_3 e_4 f_5 x_6 e_8 f_9 x_10)) (funext fun e_2 => funext fun x_7 => funext fun e_11 => w_impl_GoodFs_2 N k_1 x_3 e_4 f_5 x_6 e_8 f_9 x_10 K n e_2 x_7 e_11))
def i_impl_GoodFs_2 {R : Type} (E : List V) (s : S) (k : Nat → List V → Int → List V → Fl → Int → Int → List V → Fl → Int → List V → Option R) : Option R :=
  guardB (frameOk 156 [1, 9, 10, 11, 109, 110, 111] E) <| atIs E 1 (.ptr 0 0 0 0) <| must (nth E 9) fun u9 => asArr u9 fun k'1 k'2 k'3 k_1 => isN k'1 1 <| isN k'2 0 <| isN k'3 0 <| must (nth E 10) fun u10 => asList 1 u10 fun e_2 f'4 => asOwn 3 f'4 <| atInt E 11 .i64 fun x_3 => atList E 109 2 fun e_4 f_5 => atInt E 110 .i64 fun x_6 => atInt E 111 .i64 fun x_7 => asOb s fun o'5 s'6 => obIs o'5 2 32 fun e'7 k'8 => isN k'8 0 <| asN1 e'7 fun v'9 => asAgg v'9 fun c'10 => asN2 c'10 fun v'11 v'12 => asList 7 v'11 fun e_8 f_9 => asInt .i64 v'12 fun x_10 => asOb s'6 fun o'13 s'14 => obIs o'13 1 4 fun e_11 k'15 => isN k'15 0 <| asEnd s'14 <| k k_1 e_2 x_3 e_4 f_5 x_6 x_7 e_8 f_9 x_10 e_11
theorem i_impl_GoodFs_2_spec {R : Type} {E : List V} {s : S} {k : Nat → List V → Int → List V → Fl → Int → Int → List V → Fl → Int → List V → Option R} {r : R} (h : i_impl_GoodFs_2 E s k = some r) : ∃ k_1 e_2 x_3 e_4 f_5 x_6 x_7 e_8 f_9 x_10 e_11, E = fr_impl_GoodFs_2 k_1 x_3 e_4 f_5 x_6 e_8 f_9 x_10 e_2 x_7 e_11 ∧ s = [some ⟨[.agg [.list 7 e_8 f_9, .int .i64 x_10]], 2, 32, 0⟩, some ⟨e_11, 1, 4, 0⟩] ∧ k k_1 e_2 x_3 e_4 f_5 x_6 x_7 e_8 f_9 x_10 e_11 = some r := by
  unfold i_impl_GoodFs_2 at h
  obtain ⟨hg, h1⟩ := guardB_some h
  obtain ⟨hu1, h2⟩ := atIs_some h1
  obtain ⟨_, hu9, h3⟩ := must_some h2
  obtain ⟨_, _, _, _, rfl, h4⟩ := asArr_some h3
  obtain ⟨rfl, h5⟩ := isN_some h4
  obtain ⟨rfl, h6⟩ := isN_some h5
  obtain ⟨rfl, h7⟩ := isN_some h6
  obtain ⟨_, hu10, h8⟩ := must_some h7
  obtain ⟨_, _, rfl, h9⟩ := asList_some h8
  obtain ⟨rfl, h10⟩ := asOwn_some h9
  obtain ⟨_, hu11, h11⟩ := atInt_some h10
  obtain ⟨_, _, hu109, h12⟩ := atList_some h11
  obtain ⟨_, hu110, h13⟩ := atInt_some h12
  obtain ⟨_, hu111, h14⟩ := atInt_some h13
  obtain ⟨_, _, rfl, h15⟩ := asOb_some h14
  obtain ⟨_, _, rfl, h16⟩ := obIs_some h15
  obtain ⟨rfl, h17⟩ := isN_some h16
  obtain ⟨_, rfl, h18⟩ := asN1_some h17
  obtain ⟨_, rfl, h19⟩ := asAgg_some h18
  obtain ⟨_, _, rfl, h20⟩ := asN2_some h19
  obtain ⟨_, _, rfl, h21⟩ := asList_some h20
  obtain ⟨_, rfl, h22⟩ := asInt_some h21
  obtain ⟨_, _, rfl, h23⟩ := asOb_some h22
  obtain ⟨_, _, rfl, h24⟩ := obIs_some h23
  obtain ⟨rfl, h25⟩ := isN_some h24
  obtain ⟨rfl, h26⟩ := asEnd_some h25
  exact ⟨_, _, _, _, _, _, _, _, _, _, _, frame_is hg rfl (slots_cons hu1 (slots_cons hu9 (slots_cons hu10 (slots_cons hu11 (slots_cons hu109 (slots_cons hu110 (slots_cons hu111 slots_nil))))))), rfl, h26⟩
noncomputable def Λ_impl_GoodFs_2 (N : Nat) : Looper := (Λ_impl_GoodFs_1 N).add [0, 1, 1, 0, 0, 1, 0, 0, 1, 0, 1, 1, 1, 1, 1, 1, 1, 1] fun _ E s K => i_impl_GoodFs_2 (killE ks_impl_GoodFs_2 E) s fun k_1 e_2 x_3 e_4 f_5 x_6 x_7 e_8 f_9 x_10 e_11 => l_impl_GoodFs_2 N k_1 x_3 e_4 f_5 x_6 e_8 f_9 x_10 (kk0_impl_GoodFs_2 K k_1 x_3 e_4 f_5 x_6 e_8 f_9 x_10) N e_2 x_7 e_11
theorem ok_impl_GoodFs_2 {N : Nat} (hC : Ok Tryd.prog C) (hΦ : CalleeOk Tryd.prog C (Φ_impl_Fs_bytesIn N)) : LoopOk Tryd.prog C (Λ_impl_GoodFs_2 N) b_impl_GoodFs_2 [0, 1, 1, 0, 0, 1, 0, 0, 1, 0, 1, 1, 1, 1, 1, 1, 1, 1] :=
  iter_ok (Λi := Λ_impl_GoodFs_1 N) (tr := true) (ks := ks_impl_GoodFs_2) (kx := kx_impl_GoodFs_2) (N := N) hC hΦ
    (loopsOk_nil (by kernel_rfl))
    fun R E s K r h => by
      have h2 := Looper.add_self.symm.trans h
      obtain ⟨_, _, _, _, _, _, _, _, _, _, _, he, rfl, h3⟩ := i_impl_GoodFs_2_spec h2
      rw [he]
      exact (w_impl_GoodFs_2 N _ _ _ _ _ _ _ _ _ N _ _ _).trans h3
def ks_impl_GoodFs_3 : List Nat := butL 156 [1, 9, 10, 11]
def kx_impl_GoodFs_3 : List Nat := butL 156 [1, 9]
def fr_impl_GoodFs_3 (k_1 : Nat) (e_4 : List V) (f_5 : Fl) (x_6 : Int) (e_2 : List V) (x_3 : Int) (e_7 : List V) : List V := mkF 0 156 [(1, .ptr 0 0 0 0), (9, .arr 1 0 0 k_1), (10, .list 1 e_2 (.own 3)), (11, .int .i64 x_3)]
def kk0_impl_GoodFs_3 {R : Type} (K : X → List V → S → Option R) (k_1 : Nat) (e_4 : List V) (f_5 : Fl) (x_6 : Int) : List V → Option R := (fun e_1' => K (.exit 5) (mkF 0 156 [(1, .ptr 0 0 0 0), (9, .arr 1 0 0 k_1)]) [some ⟨[.agg [.list 7 e_4 f_5, .int .i64 x_6]], 2, 32, 0⟩, some ⟨e_1', 1, 4, 0⟩])
noncomputable abbrev it_impl_GoodFs_3 {R : Type} (N : Nat) : Nat → List V → S → (X → List V → S → Option R) → Option R := fun n => iter C (Φ_impl_Fs_bytesIn N) (Λ_impl_GoodFs_2 N) b_impl_GoodFs_3 [0, 1, 0, 1, 1, 1, 1, 1, 1, 1, 1] false ks_impl_GoodFs_3 kx_impl_GoodFs_3 n R
theorem r_impl_GoodFs_3 {R : Type} (N n : Nat) (k_1 : Nat) (e_4 : List V) (f_5 : Fl) (x_6 : Int) (e_2 : List V) (x_3 : Int) (e_7 : List V) (K : X → List V → S → Option R) :
  it_impl_GoodFs_3 N (n + 1) (fr_impl_GoodFs_3 k_1 e_4 f_5 x_6 e_2 x_3 e_7) [some ⟨[.agg [.list 7 e_4 f_5, .int .i64 x_6]], 2, 32, 0⟩, some ⟨e_7, 1, 4, 0⟩] K =
  l_impl_GoodFs_3_step N k_1 e_4 f_5 x_6 (fun e_2 x_3 e_7 => it_impl_GoodFs_3 N n (fr_impl_GoodFs_3 k_1 e_4 f_5 x_6 e_2 x_3 e_7) [some ⟨[.agg [.list 7 e_4 f_5, .int .i64 x_6]], 2, 32, 0⟩, some ⟨e_7, 1, 4, 0⟩] K) e_2 x_3 e_7 (kk0_impl_GoodFs_3 K k_1 e_4 f_5 x_6) := by kernel_rfl
theorem w_impl_GoodFs_3 {R : Type} (N : Nat) (k_1 : Nat) (e_4 : List V) (f_5 : Fl) (x_6 : Int) (K : X → List V → S → Option R) : ∀ (n : Nat) (e_2 : List V) (x_3 : Int) (e_7 : List V),
  it_impl_GoodFs_3 N n (fr_impl_GoodFs_3 k_1 e_4 f_5 x_6 e_2 x_3 e_7) [some ⟨[.agg [.list 7 e_4 f_5, .int .i64 x_6]], 2, 32, 0⟩, some ⟨e_7, 1, 4, 0⟩] K = l_impl_GoodFs_3 N k_1 e_4 f_5 x_6 (kk0_impl_GoodFs_3 K k_1 e_4 f_5 x_6) n e_2 x_3 e_7
  | 0, _, _, _ => rfl
  | n + 1, e_2, x_3, e_7 => (r_impl_GoodFs_3 N n k_1 e_4 f_5 x_6 e_2 x_3 e_7 K).trans (congrArg (fun nx => l_impl_GoodFs_3_step N k_1 e_4 f_5 x_6 nx e_2 x_3 e_7 (kk0_impl_GoodFs_3 K k_1 e_4 f_5 x_6)) (funext fun e_2 => funext fun x_3 => funext fun e_7 => w_impl_GoodFs_3 N k_1 e_4 f_5 x_6 K n e_2 x_3 e_7))
def i_impl_GoodFs_3 {R : Type} (E : List V) (s : S) (k : Nat → List V → Int → List V → Fl → Int → List V → Option R) : Option R :=
  guardB (frameOk 156 [1, 9, 10, 11] E) <| atIs E 1 (.ptr 0 0 0 0) <| must (nth E 9) fun u9 => asArr u9 fun k'1 k'2 k'3 k_1 => isN k'1 1 <| isN k'2 0 <| isN k'3 0 <| must (nth E 10) fun u10 => asList 1 u10 fun e_2 f'4 => asOwn 3 f'4 <| atInt E 11 .i64 fun x_3 => asOb s fun o'5 s'6 => obIs o'5 2 32 fun e'7 k'8 => isN k'8 0 <| asN1 e'7 fun v'9 => asAgg v'9 fun c'10 => asN2 c'10 fun v'11 v'12 => asList 7 v'11 fun e_4 f_5 => asInt .i64 v'12 fun x_6 => asOb s'6 fun o'13 s'14 => obIs o'13 1 4 fun e_7 k'15 => isN k'15 0 <| asEnd s'14 <| k k_1 e_2 x_3 e_4 f_5 x_6 e_7
theorem i_impl_GoodFs_3_spec {R : Type} {E : List V} {s : S} {k : Nat → List V → Int → List V → Fl → Int → List V → Option R} {r : R} (h : i_impl_GoodFs_3 E s k = some r) : ∃ k_1 e_2 x_3 e_4 f_5 x_6 e_7, E = fr_impl_GoodFs_3 k_1 e_4 f_5 x_6 e_2 x_3 e_7 ∧ s = [some ⟨[.agg [.list 7 e_4 f_5, .int .i64 x_6]], 2, 32, 0⟩, some ⟨e_7, 1, 4, 0⟩] ∧ k k_1 e_2 x_3 e_4 f_5 x_6 e_7 = some r := by
  unfold i_impl_GoodFs_3 at h
  obtain ⟨hg, h1⟩ := guardB_some h
  obtain ⟨hu1, h2⟩ := atIs_some h1
  obtain ⟨_, hu9, h3⟩ := must_some h2
  obtain ⟨_, _, _, _, rfl, h4⟩ := asArr_some h3
  obtain ⟨rfl, h5⟩ := isN_some h4
  obtain ⟨rfl, h6⟩ := isN_some h5
  obtain ⟨rfl, h7⟩ := isN_some h6
  obtain ⟨_, hu10, h8⟩ := must_some h7
  obtain ⟨_, _, rfl, h9⟩ := asList_some h8
  obtain ⟨rfl, h10⟩ := asOwn_some h9
  obtain ⟨_, hu11, h11⟩ := atInt_some h10
  obtain ⟨_, _, rfl, h12⟩ := asOb_some h11
  obtain ⟨_, _, rfl, h13⟩ := obIs_some h12
  obtain ⟨rfl, h14⟩ := isN_some h13
  obtain ⟨_, rfl, h15⟩ := asN1_some h14
  obtain ⟨_, rfl, h16⟩ := asAgg_some h15
  obtain ⟨_, _, rfl, h17⟩ := asN2_some h16
  obtain ⟨_, _, rfl, h18⟩ := asList_some h17
  obtain ⟨_, rfl, h19⟩ := asInt_some h18
  obtain ⟨_, _, rfl, h20⟩ := asOb_some h19
  obtain ⟨_, _, rfl, h21⟩ := obIs_some h20
  obtain ⟨rfl, h22⟩ := isN_some h21
  obtain ⟨rfl, h23⟩ := asEnd_some h22
  exact ⟨_, _, _, _, _, _, _, frame_is hg rfl (slots_cons hu1 (slots_cons hu9 (slots_cons hu10 (slots_cons hu11 slots_nil)))), rfl, h23⟩
noncomputable def Λ_impl_GoodFs_3 (N : Nat) : Looper := (Λ_impl_GoodFs_2 N).add [0, 1, 0, 1, 1, 1, 1, 1, 1, 1, 1] fun _ E s K => i_impl_GoodFs_3 (killE ks_impl_GoodFs_3 E) s fun k_1 e_2 x_3 e_4 f_5 x_6 e_7 => l_impl_GoodFs_3 N k_1 e_4 f_5 x_6 (kk0_impl_GoodFs_3 K k_1 e_4 f_5 x_6) N e_2 x_3 e_7
theorem in_impl_GoodFs_3 : loopsAt b_impl_GoodFs_3 (0 :: [0, 1, 0, 1, 1, 1, 1, 1, 1, 1, 1]) = [([0, 1, 1, 0, 0, 1, 0, 0, 1, 0, 1, 1, 1, 1, 1, 1, 1, 1], b_impl_GoodFs_2)] := by kernel_rfl
theorem ok_impl_GoodFs_3 {N : Nat} (hC : Ok Tryd.prog C) (hΦ : CalleeOk Tryd.prog C (Φ_impl_Fs_bytesIn N)) : LoopOk Tryd.prog C (Λ_impl_GoodFs_3 N) b_impl_GoodFs_3 [0, 1, 0, 1, 1, 1, 1, 1, 1, 1, 1] :=
  iter_ok (Λi := Λ_impl_GoodFs_2 N) (tr := false) (ks := ks_impl_GoodFs_3) (kx := kx_impl_GoodFs_3) (N := N) hC hΦ
    (loopsOk_of b_impl_GoodFs_3 _ (by
      rw [in_impl_GoodFs_3]
      intro p hp
      simp only [List.mem_cons, List.mem_nil_iff, or_false] at hp
      rcases hp with rfl
      · exact (ok_impl_GoodFs_2 hC hΦ)))
    fun R E s K r h => by
      have h2 := Looper.add_self.symm.trans h
      obtain ⟨_, _, _, _, _, _, _, he, rfl, h3⟩ := i_impl_GoodFs_3_spec h2
      rw [he]
      exact (w_impl_GoodFs_3 N _ _ _ _ _ N _ _ _).trans h3
def ks_impl_GoodFs_4 : List Nat := butL 156 [9, 138, 139, 140]
def kx_impl_GoodFs_4 : List Nat := butL 156 [2]
def fr_impl_GoodFs_4 (k_1 : Nat) (e_2 : List V) (f_3 : Fl) (x_4 : Int) (e_6 : List V) (f_7 : Fl) (x_8 x_5 : Int) (e_9 : List V) : List V := mkF 0 156 [(9, .arr 1 0 0 k_1), (138, .list 7 e_2 f_3), (139, .int .i64 x_4), (140, .int .i64 x_5)]
def kk0_impl_GoodFs_4 {R : Type} (K : X → List V → S → Option R) (k_1 : Nat) (e_2 : List V) (f_3 : Fl) (x_4 : Int) (e_6 : List V) (f_7 : Fl) (x_8 : Int) : List V → Option R := (fun e_1' => K .ret (mkF 0 156 [(2, .bool false)]) [some ⟨[.agg [.list 7 e_6 f_7, .int .i64 x_8]], 2, 32, 0⟩, some ⟨e_1', 1, 4, 0⟩])
def kk1_impl_GoodFs_4 {R : Type} (K : X → List V → S → Option R) (k_1 : Nat) (e_2 : List V) (f_3 : Fl) (x_4 : Int) (e_6 : List V) (f_7 : Fl) (x_8 : Int) : List V → Option R := (fun e_1' => K (.exit 9) (mkF 0 156 []) [some ⟨[.agg [.list 7 e_6 f_7, .int .i64 x_8]], 2, 32, 0⟩, some ⟨e_1', 1, 4, 0⟩])
noncomputable abbrev it_impl_GoodFs_4 {R : Type} (N : Nat) : Nat → List V → S → (X → List V → S → Option R) → Option R := fun n => iter C (Φ_impl_Fs_bytesIn N) (Λ_impl_GoodFs_3 N) b_impl_GoodFs_4 [0, 1, 0, 1, 1, 1, 1, 1, 1, 1, 1, 1] true ks_impl_GoodFs_4 kx_impl_GoodFs_4 n R
theorem r_impl_GoodFs_4 {R : Type} (N n : Nat) (k_1 : Nat) (e_2 : List V) (f_3 : Fl) (x_4 : Int) (e_6 : List V) (f_7 : Fl) (x_8 : Int) (x_5 : Int) (e_9 : List V) (K : X → List V → S → Option R) :
  it_impl_GoodFs_4 N (n + 1) (fr_impl_GoodFs_4 k_1 e_2 f_3 x_4 e_6 f_7 x_8 x_5 e_9) [some ⟨[.agg [.list 7 e_6 f_7, .int .i64 x_8]], 2, 32, 0⟩, some ⟨e_9, 1, 4, 0⟩] K =
  l_impl_GoodFs_4_step N k_1 e_2 f_3 x_4 e_6 f_7 x_8 (fun x_5 e_9 => it_impl_GoodFs_4 N n (fr_impl_GoodFs_4 k_1 e_2 f_3 x_4 e_6 f_7 x_8 x_5 e_9) [some ⟨[.agg [.list 7 e_6 f_7, .int .i64 x_8]], 2, 32, 0⟩, some ⟨e_9, 1, 4, 0⟩] K) x_5 e_9 (kk0_impl_GoodFs_4 K k_1 e_2 f_3 x_4 e_6 f_7 x_8) (kk1_impl_GoodFs_4 K k_1 e_2 f_3 x_4 e_6 f_7 x_8) := by kernel_rfl
theorem w_impl_GoodFs_4 {R : Type} (N : Nat) (k_1 : Nat) (e_2 : List V) (f_3 : Fl) (x_4 : Int) (e_6 : List V) (f_7 : Fl) (x_8 : Int) (K : X → List V → S → Option R) : ∀ (n : Nat) (x_5 : Int) (e_9 : List V),
  it_impl_GoodFs_4 N n (fr_impl_GoodFs_4 k_1 e_2 f_3 x_4 e_6 f_7 x_8 x_5 e_9) [some ⟨[.agg [.list 7 e_6 f_7, .int .i64 x_8]], 2, 32, 0⟩, some ⟨e_9, 1, 4, 0⟩] K = l_impl_GoodFs_4 N k_1 e_2 f_3 x_4 e_6 f_7 x_8 (kk0_impl_GoodFs_4 K k_1 e_2 f_3 x_4 e_6 f_7 x_8) (kk1_impl_GoodFs_4 K k_1 e_2 f_3 x_4 e_6 f_7 x_8) n x_5 e_9
  | 0, _, _ => rfl
  | n + 1, x_5, e_9 => (r_impl_GoodFs_4 N n k_1 e_2 f_3 x_4 e_6 f_7 x_8 x_5 e_9 K).trans (congrArg (fun nx => l_impl_GoodFs_4_step N k_1 e_2 f_3 x_4 e_6 f_7 x_8 nx x_5 e_9 (kk0_impl_GoodFs_4 K k_1 e_2 f_3 x_4 e_6 f_7 x_8) (kk1_impl_GoodFs_4 K k_1 e_2 f_3 x_4 e_6 f_7 x_8)) (funext fun x_5 => funext fun e_9 => w_impl_GoodFs_4 N k_1 e_2 f_3 x_4 e_6 f_7 x_8 K n x_5 e_9))
def i_impl_GoodFs_4 {R : Type} (E : List V) (s : S) (k : Nat → List V → Fl → Int → Int → List V → Fl → Int → List V → Option R) : Option R :=
  guardB (frameOk 156 [9, 138, 139, 140] E) <| must (nth E 9) fun u9 => asArr u9 fun k'1 k'2 k'3 k_1 => isN k'1 1 <| isN k'2 0 <| isN k'3 0 <| atList E 138 7 fun e_2 f_3 => atInt E 139 .i64 fun x_4 => atInt E 140 .i64 fun x_5 => asOb s fun o'4 s'5 => obIs o'4 2 32 fun e'6 k'7 => isN k'7 0 <| asN1 e'6 fun v'8 => asAgg v'8 fun c'9 => asN2 c'9 fun v'10 v'11 => asList 7 v'10 fun e_6 f_7 => asInt .i64 v'11 fun x_8 => asOb s'5 fun o'12 s'13 => obIs o'12 1 4 fun e_9 k'14 => isN k'14 0 <| asEnd s'13 <| k k_1 e_2 f_3 x_4 x_5 e_6 f_7 x_8 e_9
theorem i_impl_GoodFs_4_spec {R : Type} {E : List V} {s : S} {k : Nat → List V → Fl → Int → Int → List V → Fl → Int → List V → Option R} {r : R} (h : i_impl_GoodFs_4 E s k = some r) : ∃ k_1 e_2 f_3 x_4 x_5 e_6 f_7 x_8 e_9, E = fr_impl_GoodFs_4 k_1 e_2 f_3 x_4 e_6 f_7 x_8 x_5 e_9 ∧ s = [some ⟨[.agg [.list 7 e_6 f_7, .int .i64 x_8]], 2, 32, 0⟩, some ⟨e_9, 1, 4, 0⟩] ∧ k k_1 e_2 f_3 x_4 x_5 e_6 f_7 x_8 e_9 = some r := by
  unfold i_impl_GoodFs_4 at h
  obtain ⟨hg, h1⟩ := guardB_some h
  obtain ⟨_, hu9, h2⟩ := must_some h1
  obtain ⟨_, _, _, _, rfl, h3⟩ := asArr_some h2
  obtain ⟨rfl, h4⟩ := isN_some h3
  obtain ⟨rfl, h5⟩ := isN_some h4
  obtain ⟨rfl, h6⟩ := isN_some h5
  obtain ⟨_, _, hu138, h7⟩ := atList_some h6
  obtain ⟨_, hu139, h8⟩ := atInt_some h7
  obtain ⟨_, hu140, h9⟩ := atInt_some h8
  obtain ⟨_, _, rfl, h10⟩ := asOb_some h9
  obtain ⟨_, _, rfl, h11⟩ := obIs_some h10
  obtain ⟨rfl, h12⟩ := isN_some h11
  obtain ⟨_, rfl, h13⟩ := asN1_some h12
  obtain ⟨_, rfl, h14⟩ := asAgg_some h13
  obtain ⟨_, _, rfl, h15⟩ := asN2_some h14
  obtain ⟨_, _, rfl, h16⟩ := asList_some h15
  obtain ⟨_, rfl, h17⟩ := asInt_some h16
  obtain ⟨_, _, rfl, h18⟩ := asOb_some h17
  obtain ⟨_, _, rfl, h19⟩ := obIs_some h18
  obtain ⟨rfl, h20⟩ := isN_some h19
  obtain ⟨rfl, h21⟩ := asEnd_some h20
  exact ⟨_, _, _, _, _, _, _, _, _, frame_is hg rfl (slots_cons hu9 (slots_cons hu138 (slots_cons hu139 (slots_cons hu140 slots_nil)))), rfl, h21⟩
noncomputable def Λ_impl_GoodFs_4 (N : Nat) : Looper := (Λ_impl_GoodFs_3 N).add [0, 1, 0, 1, 1, 1, 1, 1, 1, 1, 1, 1] fun _ E s K => i_impl_GoodFs_4 (killE ks_impl_GoodFs_4 E) s fun k_1 e_2 f_3 x_4 x_5 e_6 f_7 x_8 e_9 => l_impl_GoodFs_4 N k_1 e_2 f_3 x_4 e_6 f_7 x_8 (kk0_impl_GoodFs_4 K k_1 e_2 f_3 x_4 e_6 f_7 x_8) (kk1_impl_GoodFs_4 K k_1 e_2 f_3 x_4 e_6 f_7 x_8) N x_5 e_9
theorem ok_impl_GoodFs_4 {N : Nat} (hC : Ok Tryd.prog C) (hΦ : CalleeOk Tryd.prog C (Φ_impl_Fs_bytesIn N)) : LoopOk Tryd.prog C (Λ_impl_GoodFs_4 N) b_impl_GoodFs_4 [0, 1, 0, 1, 1, 1, 1, 1, 1, 1, 1, 1] :=
  iter_ok (Λi := Λ_impl_GoodFs_3 N) (tr := true) (ks := ks_impl_GoodFs_4) (kx := kx_impl_GoodFs_4) (N := N) hC hΦ
    (loopsOk_nil (by kernel_rfl))
    fun R E s K r h => by
      have h2 := Looper.add_self.symm.trans h
      obtain ⟨_, _, _, _, _, _, _, _, _, he, rfl, h3⟩ := i_impl_GoodFs_4_spec h2
      rw [he]
      exact (w_impl_GoodFs_4 N _ _ _ _ _ _ _ _ N _ _).trans h3
theorem at_impl_GoodFs : loopsAt c_impl_GoodFs [] = [([0, 1, 0, 1, 1], b_impl_GoodFs_0), ([0, 1, 0, 1, 1, 1, 1, 1], b_impl_GoodFs_1), ([0, 1, 0, 1, 1, 1, 1, 1, 1, 1, 1], b_impl_GoodFs_3), ([0, 1, 0, 1, 1, 1, 1, 1, 1, 1, 1, 1], b_impl_GoodFs_4)] := by kernel_rfl
theorem b_impl_GoodFs {R : Type} (N : Nat) (e_1 : List V) (f_2 : Fl) (x_3 : Int) (K : V → S → Option R) : bodyV C (Φ_impl_Fs_bytesIn N) (Λ_impl_GoodFs_4 N) 38 Tryd.f38 [.agg [.list 7 e_1 f_2, .int .i64 x_3]] [] K =
  gb_impl_GoodFs N e_1 f_2 x_3 (fun b_4 => K (.bool b_4) []) := by kernel_rfl
theorem loops_impl_GoodFs {N : Nat} (hC : Ok Tryd.prog C) (hΦ : CalleeOk Tryd.prog C (Φ_impl_Fs_bytesIn N)) : LoopsOk Tryd.prog C (Λ_impl_GoodFs_4 N) c_impl_GoodFs [] :=
  loopsOk_of c_impl_GoodFs [] (by
    rw [at_impl_GoodFs]
    intro p hp
    simp only [List.mem_cons, List.mem_nil_iff, or_false] at hp
    rcases hp with rfl | rfl | rfl | rfl
    · exact (LoopOk.add (LoopOk.add (LoopOk.add (LoopOk.add (ok_impl_GoodFs_0 hC hΦ) rfl) rfl) rfl) rfl)
    · exact (LoopOk.add (LoopOk.add (LoopOk.add (ok_impl_GoodFs_1 hC hΦ) rfl) rfl) rfl)
    · exact (LoopOk.add (ok_impl_GoodFs_3 hC hΦ) rfl)
    · exact (ok_impl_GoodFs_4 hC hΦ))
theorem callee_impl_GoodFs (hC : Ok Tryd.prog C) {N : Nat} (hΦ : CalleeOk Tryd.prog C (Φ_impl_Fs_bytesIn N)) : CalleeOk Tryd.prog C (Φ_impl_GoodFs N) := by
  refine hΦ.add_pure rfl fun R vs K r h => ?_
  unfold f_impl_GoodFs at h
  obtain ⟨_, rfl, h1⟩ := asN1_some h
  obtain ⟨_, _, _, rfl, h2⟩ := un_impl_Fs_some h1
  obtain ⟨_, h3⟩ := asEnd_some h2
  refine body_pure (fn := Tryd.f38) (c := c_impl_GoodFs) hC hΦ Tryd.func38 (by kernel_rfl) (by kernel_rfl) (loops_impl_GoodFs (N := N) hC hΦ) rfl rfl ?_
  refine (b_impl_GoodFs N _ _ _ _).trans ?_
  rw [← g_impl_GoodFs_eq]
  exact h3

/-! ### loop.example/g00756/impl.GoodCred -/
noncomputable def f_impl_GoodCred (N : Nat) : (R : Type) → List V → S → (V → S → Option R) → Option R := fun _ vs s K =>
  asN1 vs fun v'1 => un_impl_Cred v'1 fun x_1 x_2 => asEnd s <| g_impl_GoodCred N x_1 x_2 (fun b_3 => K (.bool b_3) [])
noncomputable def Φ_impl_GoodCred (N : Nat) : Callee := (Φ_impl_GoodFs N).add 39 (f_impl_GoodCred N)
noncomputable def c_impl_GoodCred : Code := bodyOf Tryd.f39
theorem b_impl_GoodCred {R : Type} (N : Nat) (x_1 x_2 : Int) (K : V → S → Option R) : bodyV C (Φ_impl_GoodFs N) (noLooper) 39 Tryd.f39 [.agg [.int .i64 x_1, .int .i64 x_2]] [] K =
  gb_impl_GoodCred N x_1 x_2 (fun b_3 => K (.bool b_3) []) := by kernel_rfl
theorem callee_impl_GoodCred (hC : Ok Tryd.prog C) {N : Nat} (hΦ : CalleeOk Tryd.prog C (Φ_impl_GoodFs N)) : CalleeOk Tryd.prog C (Φ_impl_GoodCred N) := by
  refine hΦ.add_pure rfl fun R vs K r h => ?_
  unfold f_impl_GoodCred at h
  obtain ⟨_, rfl, h1⟩ := asN1_some h
  obtain ⟨_, _, rfl, h2⟩ := un_impl_Cred_some h1
  obtain ⟨_, h3⟩ := asEnd_some h2
  refine body_pure (fn := Tryd.f39) (c := c_impl_GoodCred) hC hΦ Tryd.func39 (by kernel_rfl) (by kernel_rfl) (loopsOk_nil (Λ := noLooper) (by kernel_rfl)) rfl rfl ?_
  refine (b_impl_GoodCred N _ _ _).trans ?_
  rw [← g_impl_GoodCred_eq]
  exact h3

/-! ### loop.example/g00756/impl.isAsked -/
noncomputable def f_impl_isAsked (N : Nat) : (R : Type) → List V → S → (V → S → Option R) → Option R := fun _ vs s K =>
  asN2 vs fun v'1 v'2 => un_impl_Fs v'1 fun e_1 f_2 x_3 => un_impl_Cred v'2 fun x_4 x_5 => asEnd s <| g_impl_isAsked N e_1 f_2 x_3 x_4 x_5 (fun b_6 => K (.bool b_6) [])
noncomputable def Φ_impl_isAsked (N : Nat) : Callee := (Φ_impl_GoodCred N).add 24 (f_impl_isAsked N)
noncomputable def c_impl_isAsked : Code := bodyOf Tryd.f24
theorem b_impl_isAsked {R : Type} (N : Nat) (e_1 : List V) (f_2 : Fl) (x_3 x_4 x_5 : Int) (K : V → S → Option R) : bodyV C (Φ_impl_GoodCred N) (noLooper) 24 Tryd.f24 [.agg [.list 7 e_1 f_2, .int .i64 x_3], .agg [.int .i64 x_4, .int .i64 x_5]] [] K =
  gb_impl_isAsked N e_1 f_2 x_3 x_4 x_5 (fun b_6 => K (.bool b_6) []) := by kernel_rfl
theorem callee_impl_isAsked (hC : Ok Tryd.prog C) {N : Nat} (hΦ : CalleeOk Tryd.prog C (Φ_impl_GoodCred N)) : CalleeOk Tryd.prog C (Φ_impl_isAsked N) := by
  refine hΦ.add_pure rfl fun R vs K r h => ?_
  unfold f_impl_isAsked at h
  obtain ⟨_, _, rfl, h1⟩ := asN2_some h
  obtain ⟨_, _, _, rfl, h2⟩ := un_impl_Fs_some h1
  obtain ⟨_, _, rfl, h3⟩ := un_impl_Cred_some h2
  obtain ⟨_, h4⟩ := asEnd_some h3
  refine body_pure (fn := Tryd.f24) (c := c_impl_isAsked) hC hΦ Tryd.func24 (by kernel_rfl) (by kernel_rfl) (loopsOk_nil (Λ := noLooper) (by kernel_rfl)) rfl rfl ?_
  refine (b_impl_isAsked N _ _ _ _ _ _).trans ?_
  rw [← g_impl_isAsked_eq]
  exact h4

/-! ### loop.example/g00756/impl.isWhole -/
noncomputable def f_impl_isWhole (N : Nat) : (R : Type) → List V → S → (V → S → Option R) → Option R := fun _ vs s K =>
  asN1 vs fun v'1 => asStr v'1 fun w_1 => asEnd s <| g_impl_isWhole N w_1 (fun b_2 => K (.bool b_2) [])
noncomputable def Φ_impl_isWhole (N : Nat) : Callee := (Φ_impl_isAsked N).add 40 (f_impl_isWhole N)
noncomputable def c_impl_isWhole : Code := bodyOf Tryd.f40
theorem b_impl_isWhole {R : Type} (N : Nat) (w_1 : ByteArray) (K : V → S → Option R) : bodyV C (Φ_impl_isAsked N) (noLooper) 40 Tryd.f40 [.str w_1] [] K =
  gb_impl_isWhole N w_1 (fun b_2 => K (.bool b_2) []) := by kernel_rfl
theorem callee_impl_isWhole (hC : Ok Tryd.prog C) {N : Nat} (hΦ : CalleeOk Tryd.prog C (Φ_impl_isAsked N)) : CalleeOk Tryd.prog C (Φ_impl_isWhole N) := by
  refine hΦ.add_pure rfl fun R vs K r h => ?_
  unfold f_impl_isWhole at h
  obtain ⟨_, rfl, h1⟩ := asN1_some h
  obtain ⟨_, rfl, h2⟩ := asStr_some h1
  obtain ⟨_, h3⟩ := asEnd_some h2
  refine body_pure (fn := Tryd.f40) (c := c_impl_isWhole) hC hΦ Tryd.func40 (by kernel_rfl) (by kernel_rfl) (loopsOk_nil (Λ := noLooper) (by kernel_rfl)) rfl rfl ?_
  refine (b_impl_isWhole N _ _).trans ?_
  rw [← g_impl_isWhole_eq]
  exact h3

/-! ### internal/stringslite.HasSuffix -/
noncomputable def f_sli_HasSuffix (N : Nat) : (R : Type) → List V → S → (V → S → Option R) → Option R := fun _ vs s K =>
  asN2 vs fun v'1 v'2 => asStr v'1 fun w_1 => asStr v'2 fun w_2 => asEnd s <| g_sli_HasSuffix N w_1 w_2 (fun b_3 => K (.bool b_3) [])
noncomputable def Φ_sli_HasSuffix (N : Nat) : Callee := (Φ_impl_isWhole N).add 68 (f_sli_HasSuffix N)
noncomputable def c_sli_HasSuffix : Code := bodyOf Tryd.f68
theorem b_sli_HasSuffix {R : Type} (N : Nat) (w_1 w_2 : ByteArray) (K : V → S → Option R) : bodyV C (Φ_impl_isWhole N) (noLooper) 68 Tryd.f68 [.str w_1, .str w_2] [] K =
  gb_sli_HasSuffix N w_1 w_2 (fun b_3 => K (.bool b_3) []) := by kernel_rfl
theorem callee_sli_HasSuffix (hC : Ok Tryd.prog C) {N : Nat} (hΦ : CalleeOk Tryd.prog C (Φ_impl_isWhole N)) : CalleeOk Tryd.prog C (Φ_sli_HasSuffix N) := by
  refine hΦ.add_pure rfl fun R vs K r h => ?_
  unfold f_sli_HasSuffix at h
  obtain ⟨_, _, rfl, h1⟩ := asN2_some h
  obtain ⟨_, rfl, h2⟩ := asStr_some h1
  obtain ⟨_, rfl, h3⟩ := asStr_some h2
  obtain ⟨_, h4⟩ := asEnd_some h3
  refine body_pure (fn := Tryd.f68) (c := c_sli_HasSuffix) hC hΦ Tryd.func68 (by kernel_rfl) (by kernel_rfl) (loopsOk_nil (Λ := noLooper) (by kernel_rfl)) rfl rfl ?_
  refine (b_sli_HasSuffix N _ _ _).trans ?_
  rw [← g_sli_HasSuffix_eq]
  exact h4

/-! ### strings.HasSuffix -/
noncomputable def f_strings_HasSuffix (N : Nat) : (R : Type) → List V → S → (V → S → Option R) → Option R := fun _ vs s K =>
  asN2 vs fun v'1 v'2 => asStr v'1 fun w_1 => asStr v'2 fun w_2 => asEnd s <| g_strings_HasSuffix N w_1 w_2 (fun b_3 => K (.bool b_3) [])
noncomputable def Φ_strings_HasSuffix (N : Nat) : Callee := (Φ_sli_HasSuffix N).add 41 (f_strings_HasSuffix N)
noncomputable def c_strings_HasSuffix : Code := bodyOf Tryd.f41
theorem b_strings_HasSuffix {R : Type} (N : Nat) (w_1 w_2 : ByteArray) (K : V → S → Option R) : bodyV C (Φ_sli_HasSuffix N) (noLooper) 41 Tryd.f41 [.str w_1, .str w_2] [] K =
  gb_strings_HasSuffix N w_1 w_2 (fun b_3 => K (.bool b_3) []) := by kernel_rfl
theorem callee_strings_HasSuffix (hC : Ok Tryd.prog C) {N : Nat} (hΦ : CalleeOk Tryd.prog C (Φ_sli_HasSuffix N)) : CalleeOk Tryd.prog C (Φ_strings_HasSuffix N) := by
  refine hΦ.add_pure rfl fun R vs K r h => ?_
  unfold f_strings_HasSuffix at h
  obtain ⟨_, _, rfl, h1⟩ := asN2_some h
  obtain ⟨_, rfl, h2⟩ := asStr_some h1
  obtain ⟨_, rfl, h3⟩ := asStr_some h2
  obtain ⟨_, h4⟩ := asEnd_some h3
  refine body_pure (fn := Tryd.f41) (c := c_strings_HasSuffix) hC hΦ Tryd.func41 (by kernel_rfl) (by kernel_rfl) (loopsOk_nil (Λ := noLooper) (by kernel_rfl)) rfl rfl ?_
  refine (b_strings_HasSuffix N _ _ _).trans ?_
  rw [← g_strings_HasSuffix_eq]
  exact h4

/-! ### (loop.example/g00756/impl.Fs).isDir -/
noncomputable def f_impl_Fs_isDir (N : Nat) : (R : Type) → List V → S → (V → S → Option R) → Option R := fun _ vs s K =>
  asN2 vs fun v'1 v'2 => un_impl_Fs v'1 fun e_1 f_2 x_3 => asInt .i64 v'2 fun x_4 => asEnd s <| g_impl_Fs_isDir N e_1 f_2 x_3 x_4 (fun b_5 => K (.bool b_5) [])
noncomputable def Φ_impl_Fs_isDir (N : Nat) : Callee := (Φ_strings_HasSuffix N).add 43 (f_impl_Fs_isDir N)
noncomputable def c_impl_Fs_isDir : Code := bodyOf Tryd.f43
theorem b_impl_Fs_isDir {R : Type} (N : Nat) (e_1 : List V) (f_2 : Fl) (x_3 x_4 : Int) (K : V → S → Option R) : bodyV C (Φ_strings_HasSuffix N) (noLooper) 43 Tryd.f43 [.agg [.list 7 e_1 f_2, .int .i64 x_3], .int .i64 x_4] [] K =
  gb_impl_Fs_isDir N e_1 f_2 x_3 x_4 (fun b_5 => K (.bool b_5) []) := by kernel_rfl
theorem callee_impl_Fs_isDir (hC : Ok Tryd.prog C) {N : Nat} (hΦ : CalleeOk Tryd.prog C (Φ_strings_HasSuffix N)) : CalleeOk Tryd.prog C (Φ_impl_Fs_isDir N) := by
  refine hΦ.add_pure rfl fun R vs K r h => ?_
  unfold f_impl_Fs_isDir at h
  obtain ⟨_, _, rfl, h1⟩ := asN2_some h
  obtain ⟨_, _, _, rfl, h2⟩ := un_impl_Fs_some h1
  obtain ⟨_, rfl, h3⟩ := asInt_some h2
  obtain ⟨_, h4⟩ := asEnd_some h3
  refine body_pure (fn := Tryd.f43) (c := c_impl_Fs_isDir) hC hΦ Tryd.func43 (by kernel_rfl) (by kernel_rfl) (loopsOk_nil (Λ := noLooper) (by kernel_rfl)) rfl rfl ?_
  refine (b_impl_Fs_isDir N _ _ _ _ _).trans ?_
  rw [← g_impl_Fs_isDir_eq]
  exact h4

/-! ### (loop.example/g00756/impl.Cred).may -/
noncomputable def f_impl_Cred_may (N : Nat) : (R : Type) → List V → S → (V → S → Option R) → Option R := fun _ vs s K =>
  asN5 vs fun v'1 v'2 v'3 v'4 v'5 => un_impl_Cred v'1 fun x_1 x_2 => asInt .i64 v'2 fun x_3 => asInt .i64 v'3 fun x_4 => asInt .i64 v'4 fun x_5 => asInt .i64 v'5 fun x_6 => asEnd s <| g_impl_Cred_may N x_1 x_2 x_3 x_4 x_5 x_6 (fun b_7 => K (.bool b_7) [])
noncomputable def Φ_impl_Cred_may (N : Nat) : Callee := (Φ_impl_Fs_isDir N).add 72 (f_impl_Cred_may N)
noncomputable def c_impl_Cred_may : Code := bodyOf Tryd.f72
theorem b_impl_Cred_may {R : Type} (N : Nat) (x_1 x_2 x_3 x_4 x_5 x_6 : Int) (K : V → S → Option R) : bodyV C (Φ_impl_Fs_isDir N) (noLooper) 72 Tryd.f72 [.agg [.int .i64 x_1, .int .i64 x_2], .int .i64 x_3, .int .i64 x_4, .int .i64 x_5, .int .i64 x_6] [] K =
  gb_impl_Cred_may N x_1 x_2 x_3 x_4 x_5 x_6 (fun b_7 => K (.bool b_7) []) := by kernel_rfl
theorem callee_impl_Cred_may (hC : Ok Tryd.prog C) {N : Nat} (hΦ : CalleeOk Tryd.prog C (Φ_impl_Fs_isDir N)) : CalleeOk Tryd.prog C (Φ_impl_Cred_may N) := by
  refine hΦ.add_pure rfl fun R vs K r h => ?_
  unfold f_impl_Cred_may at h
  obtain ⟨_, _, _, _, _, rfl, h1⟩ := asN5_some h
  obtain ⟨_, _, rfl, h2⟩ := un_impl_Cred_some h1
  obtain ⟨_, rfl, h3⟩ := asInt_some h2
  obtain ⟨_, rfl, h4⟩ := asInt_some h3
  obtain ⟨_, rfl, h5⟩ := asInt_some h4
  obtain ⟨_, rfl, h6⟩ := asInt_some h5
  obtain ⟨_, h7⟩ := asEnd_some h6
  refine body_pure (fn := Tryd.f72) (c := c_impl_Cred_may) hC hΦ Tryd.func72 (by kernel_rfl) (by kernel_rfl) (loopsOk_nil (Λ := noLooper) (by kernel_rfl)) rfl rfl ?_
  refine (b_impl_Cred_may N _ _ _ _ _ _ _).trans ?_
  rw [← g_impl_Cred_may_eq]
  exact h7

/-! ### (loop.example/g00756/impl.Fs).mayAt -/
noncomputable def f_impl_Fs_mayAt (N : Nat) : (R : Type) → List V → S → (V → S → Option R) → Option R := fun _ vs s K =>
  asN4 vs fun v'1 v'2 v'3 v'4 => un_impl_Fs v'1 fun e_1 f_2 x_3 => un_impl_Cred v'2 fun x_4 x_5 => asInt .i64 v'3 fun x_6 => asInt .i64 v'4 fun x_7 => asEnd s <| g_impl_Fs_mayAt N e_1 f_2 x_3 x_4 x_5 x_6 x_7 (fun b_8 => K (.bool b_8) [])
noncomputable def Φ_impl_Fs_mayAt (N : Nat) : Callee := (Φ_impl_Cred_may N).add 44 (f_impl_Fs_mayAt N)
noncomputable def c_impl_Fs_mayAt : Code := bodyOf Tryd.f44
theorem b_impl_Fs_mayAt {R : Type} (N : Nat) (e_1 : List V) (f_2 : Fl) (x_3 x_4 x_5 x_6 x_7 : Int) (K : V → S → Option R) : bodyV C (Φ_impl_Cred_may N) (noLooper) 44 Tryd.f44 [.agg [.list 7 e_1 f_2, .int .i64 x_3], .agg [.int .i64 x_4, .int .i64 x_5], .int .i64 x_6, .int .i64 x_7] [] K =
  gb_impl_Fs_mayAt N e_1 f_2 x_3 x_4 x_5 x_6 x_7 (fun b_8 => K (.bool b_8) []) := by kernel_rfl
theorem callee_impl_Fs_mayAt (hC : Ok Tryd.prog C) {N : Nat} (hΦ : CalleeOk Tryd.prog C (Φ_impl_Cred_may N)) : CalleeOk Tryd.prog C (Φ_impl_Fs_mayAt N) := by
  refine hΦ.add_pure rfl fun R vs K r h => ?_
  unfold f_impl_Fs_mayAt at h
  obtain ⟨_, _, _, _, rfl, h1⟩ := asN4_some h
  obtain ⟨_, _, _, rfl, h2⟩ := un_impl_Fs_some h1
  obtain ⟨_, _, rfl, h3⟩ := un_impl_Cred_some h2
  obtain ⟨_, rfl, h4⟩ := asInt_some h3
  obtain ⟨_, rfl, h5⟩ := asInt_some h4
  obtain ⟨_, h6⟩ := asEnd_some h5
  refine body_pure (fn := Tryd.f44) (c := c_impl_Fs_mayAt) hC hΦ Tryd.func44 (by kernel_rfl) (by kernel_rfl) (loopsOk_nil (Λ := noLooper) (by kernel_rfl)) rfl rfl ?_
  refine (b_impl_Fs_mayAt N _ _ _ _ _ _ _ _).trans ?_
  rw [← g_impl_Fs_mayAt_eq]
  exact h6

/-! ### (loop.example/g00756/impl.Fs).parent -/
noncomputable def f_impl_Fs_parent (N : Nat) : (R : Type) → List V → S → (V → S → Option R) → Option R := fun _ vs s K =>
  asN2 vs fun v'1 v'2 => un_impl_Fs v'1 fun e_1 f_2 x_3 => asInt .i64 v'2 fun x_4 => asEnd s <| g_impl_Fs_parent N e_1 f_2 x_3 x_4 (fun x_5 w_6 => K (.tuple [.int .i64 x_5, .str w_6]) [])
noncomputable def Φ_impl_Fs_parent (N : Nat) : Callee := (Φ_impl_Fs_mayAt N).add 45 (f_impl_Fs_parent N)
noncomputable def c_impl_Fs_parent : Code := bodyOf Tryd.f45
noncomputable def b_impl_Fs_parent_1 : Code := (loopNo c_impl_Fs_parent [] 0).2
noncomputable def b_impl_Fs_parent_0 : Code := (loopNo b_impl_Fs_parent_1 (0 :: [0, 1, 0, 1]) 0).2
def ks_impl_Fs_parent_0 : List Nat := butL 34 [1, 6, 11, 12, 13, 19, 20, 21]
def kx_impl_Fs_parent_0 : List Nat := butL 34 [1, 4, 5, 11, 12, 13]
def fr_impl_Fs_parent_0 (x_1 x_2 : Int) (e_3 : List V) (f_4 : Fl) (x_5 x_6 : Int) (e_7 : List V) (f_8 : Fl) (x_9 : Int) (e_11 : List V) (f_12 : Fl) (x_13 x_14 x_15 x_16 x_17 x_18 : Int) (w_19 : ByteArray) (e_20 : List V) (f_21 : Fl) (x_10 : Int) : List V := mkF 0 34 [(1, .int .i64 x_1), (6, .int .i64 x_2), (11, .list 7 e_3 f_4), (12, .int .i64 x_5), (13, .int .i64 x_6), (19, .list 2 e_7 f_8), (20, .int .i64 x_9), (21, .int .i64 x_10)]
def kk0_impl_Fs_parent_0 {R : Type} (K : X → List V → S → Option R) (x_1 : Int) (x_2 : Int) (e_3 : List V) (f_4 : Fl) (x_5 : Int) (x_6 : Int) (e_7 : List V) (f_8 : Fl) (x_9 : Int) (e_11 : List V) (f_12 : Fl) (x_13 : Int) (x_14 : Int) (x_15 : Int) (x_16 : Int) (x_17 : Int) (x_18 : Int) (w_19 : ByteArray) (e_20 : List V) (f_21 : Fl) : ByteArray → Option R := (fun w_1' => K .ret (mkF 0 34 [(1, .int .i64 x_1), (4, .int .i64 x_2), (5, .str (w_1')), (11, .list 7 e_3 f_4), (12, .int .i64 x_5), (13, .int .i64 x_6)]) [some ⟨[.agg [.list 7 e_11 f_12, .int .i64 x_13]], 2, 32, 0⟩, some ⟨[.agg [.int .i64 x_14, .int .i64 x_15, .int .i64 x_16, .int .i64 x_17, .int .i64 x_18, .str w_19, .list 2 e_20 f_21]], 7, 55, 0⟩])
def kk1_impl_Fs_parent_0 {R : Type} (K : X → List V → S → Option R) (x_1 : Int) (x_2 : Int) (e_3 : List V) (f_4 : Fl) (x_5 : Int) (x_6 : Int) (e_7 : List V) (f_8 : Fl) (x_9 : Int) (e_11 : List V) (f_12 : Fl) (x_13 : Int) (x_14 : Int) (x_15 : Int) (x_16 : Int) (x_17 : Int) (x_18 : Int) (w_19 : ByteArray) (e_20 : List V) (f_21 : Fl) : Unit → Option R := (fun _ => K (.exit 2) (mkF 0 34 [(1, .int .i64 x_1), (11, .list 7 e_3 f_4), (12, .int .i64 x_5), (13, .int .i64 x_6)]) [some ⟨[.agg [.list 7 e_11 f_12, .int .i64 x_13]], 2, 32, 0⟩, some ⟨[.agg [.int .i64 x_14, .int .i64 x_15, .int .i64 x_16, .int .i64 x_17, .int .i64 x_18, .str w_19, .list 2 e_20 f_21]], 7, 55, 0⟩])
noncomputable abbrev it_impl_Fs_parent_0 {R : Type} (N : Nat) : Nat → List V → S → (X → List V → S → Option R) → Option R := fun n => iter C (Φ_impl_Fs_mayAt N) (noLooper) b_impl_Fs_parent_0 [0, 1, 1, 0, 0, 1, 1, 0, 0, 1, 0, 1] true ks_impl_Fs_parent_0 kx_impl_Fs_parent_0 n R
theorem r_impl_Fs_parent_0 {R : Type} (N n : Nat) (x_1 x_2 : Int) (e_3 : List V) (f_4 : Fl) (x_5 x_6 : Int) (e_7 : List V) (f_8 : Fl) (x_9 : Int) (e_11 : List V) (f_12 : Fl) (x_13 x_14 x_15 x_16 x_17 x_18 : Int) (w_19 : ByteArray) (e_20 : List V) (f_21 : Fl) (x_10 : Int) (K : X → List V → S → Option R) :
  it_impl_Fs_parent_0 N (n + 1) (fr_impl_Fs_parent_0 x_1 x_2 e_3 f_4 x_5 x_6 e_7 f_8 x_9 e_11 f_12 x_13 x_14 x_15 x_16 x_17 x_18 w_19 e_20 f_21 x_10) [some ⟨[.agg [.list 7 e_11 f_12, .int .i64 x_13]], 2, 32, 0⟩, some ⟨[.agg [.int .i64 x_14, .int .i64 x_15, .int .i64 x_16, .int .i64 x_17, .int .i64 x_18, .str w_19, .list 2 e_20 f_21]], 7, 55, 0⟩] K =
  l_impl_Fs_parent_0_step N x_1 x_2 e_3 f_4 x_5 x_6 e_7 f_8 x_9 e_11 f_12 x_13 x_14 x_15 x_16 x_17 x_18 w_19 e_20 f_21 (fun x_10 => it_impl_Fs_parent_0 N n (fr_impl_Fs_parent_0 x_1 x_2 e_3 f_4 x_5 x_6 e_7 f_8 x_9 e_11 f_12 x_13 x_14 x_15 x_16 x_17 x_18 w_19 e_20 f_21 x_10) [some ⟨[.agg [.list 7 e_11 f_12, .int .i64 x_13]], 2, 32, 0⟩, some ⟨[.agg [.int .i64 x_14, .int .i64 x_15, .int .i64 x_16, .int .i64 x_17, .int .i64 x_18, .str w_19, .list 2 e_20 f_21]], 7, 55, 0⟩] K) x_10 (kk0_impl_Fs_parent_0 K x_1 x_2 e_3 f_4 x_5 x_6 e_7 f_8 x_9 e_11 f_12 x_13 x_14 x_15 x_16 x_17 x_18 w_19 e_20 f_21) (kk1_impl_Fs_parent_0 K x_1 x_2 e_3 f_4 x_5 x_6 e_7 f_8 x_9 e_11 f_12 x_13 x_14 x_15 x_16 x_17 x_18 w_19 e_20 f_21) := by kernel_rfl
theorem w_impl_Fs_parent_0 {R : Type} (N : Nat) (x_1 x_2 : Int) (e_3 : List V) (f_4 : Fl) (x_5 x_6 : Int) (e_7 : List V) (f_8 : Fl) (x_9 : Int) (e_11 : List V) (f_12 : Fl) (x_13 x_14 x_15 x_16 x_17 x_18 : Int) (w_19 : ByteArray) (e_20 : List V) (f_21 : Fl) (K : X → List V → S → Option R) : ∀ (n : Nat) (x_10 : Int),
  it_impl_Fs_parent_0 N n (fr_impl_Fs_parent_0 x_1 x_2 e_3 f_4 x_5 x_6 e_7 f_8 x_9 e_11 f_12 x_13 x_14 x_15 x_16 x_17 x_18 w_19 e_20 f_21 x_10) [some ⟨[.agg [.list 7 e_11 f_12, .int .i64 x_13]], 2, 32, 0⟩, some ⟨[.agg [.int .i64 x_14, .int .i64 x_15, .int .i64 x_16, .int .i64 x_17, .int .i64 x_18, .str w_19, .list 2 e_20 f_21]], 7, 55, 0⟩] K = l_impl_Fs_parent_0 N x_1 x_2 e_3 f_4 x_5 x_6 e_7 f_8 x_9 e_11 f_12 x_13 x_14 x_15 x_16 x_17 x_18 w_19 e_20 f_21 (kk0_impl_Fs_parent_0 K x_1 x_2 e_3 f_4 x_5 x_6 e_7 f_8 x_9 e_11 f_12 x_13 x_14 x_15 x_16 x_17 x_18 w_19 e_20 f_21) (kk1_impl_Fs_parent_0 K x_1 x_2 e_3 f_4 x_5 x_6 e_7 f_8 x_9 e_11 f_12 x_13 x_14 x_15 x_16 x_17 x_18 w_19 e_20 f_21) n x_10
  | 0, _ => rfl
  | n + 1, x_10 => (r_impl_Fs_parent_0 N n x_1 x_2 e_3 f_4 x_5 x_6 e_7 f_8 x_9 e_11 f_12 x_13 x_14 x_15 x_16 x_17 x_18 w_19 e_20 f_21 x_10 K).trans (congrArg (fun nx => l_impl_Fs_parent_0_step N x_1 x_2 e_3 f_4 x_5 x_6 e_7 f_8 x_9 e_11 f_12 x_13 x_14 x_15 x_16 x_17 x_18 w_19 e_20 f_21 nx x_10 (kk0_impl_Fs_parent_0 K x_1 x_2 e_3 f_4 x_5 x_6 e_7 f_8 x_9 e_11 f_12 x_13 x_14 x_15 x_16 x_17 x_18 w_19 e_20 f_21) (kk1_impl_Fs_parent_0 K x_1 x_2 e_3 f_4 x_5 x_6 e_7 f_8 x_9 e_11 f_12 x_13 x_14 x_15 x_16 x_17 x_18 w_19 e_20 f_21)) (funext fun x_10 => w_impl_Fs_parent_0 N x_1 x_2 e_3 f_4 x_5 x_6 e_7 f_8 x_9 e_11 f_12 x_13 x_14 x_15 x_16 x_17 x_18 w_19 e_20 f_21 K n x_10))
def i_impl_Fs_parent_0 {R : Type} (E : List V) (s : S) (k : Int → Int → List V → Fl → Int → Int → List V → Fl → Int → Int → List V → Fl → Int → Int → Int → Int → Int → Int → ByteArray → List V → Fl → Option R) : Option R :=
  guardB (frameOk 34 [1, 6, 11, 12, 13, 19, 20, 21] E) <| atInt E 1 .i64 fun x_1 => atInt E 6 .i64 fun x_2 => atList E 11 7 fun e_3 f_4 => atInt E 12 .i64 fun x_5 => atInt E 13 .i64 fun x_6 => atList E 19 2 fun e_7 f_8 => atInt E 20 .i64 fun x_9 => atInt E 21 .i64 fun x_10 => asOb s fun o'1 s'2 => obIs o'1 2 32 fun e'3 k'4 => isN k'4 0 <| asN1 e'3 fun v'5 => asAgg v'5 fun c'6 => asN2 c'6 fun v'7 v'8 => asList 7 v'7 fun e_11 f_12 => asInt .i64 v'8 fun x_13 => asOb s'2 fun o'9 s'10 => obIs o'9 7 55 fun e'11 k'12 => isN k'12 0 <| asN1 e'11 fun v'13 => asAgg v'13 fun c'14 => asN7 c'14 fun v'15 v'16 v'17 v'18 v'19 v'20 v'21 => asInt .i64 v'15 fun x_14 => asInt .i64 v'16 fun x_15 => asInt .i64 v'17 fun x_16 => asInt .i64 v'18 fun x_17 => asInt .i64 v'19 fun x_18 => asStr v'20 fun w_19 => asList 2 v'21 fun e_20 f_21 => asEnd s'10 <| k x_1 x_2 e_3 f_4 x_5 x_6 e_7 f_8 x_9 x_10 e_11 f_12 x_13 x_14 x_15 x_16 x_17 x_18 w_19 e_20 f_21
theorem i_impl_Fs_parent_0_spec {R : Type} {E : List V} {s : S} {k : Int → Int → List V → Fl → Int → Int → List V → Fl → Int → Int → List V → Fl → Int → Int → Int → Int → Int → Int → ByteArray → List V → Fl → Option R} {r : R} (h : i_impl_Fs_parent_0 E s k = some r) : ∃ x_1 x_2 e_3 f_4 x_5 x_6 e_7 f_8 x_9 x_10 e_11 f_12 x_13 x_14 x_15 x_16 x_17 x_18 w_19 e_20 f_21, E = fr_impl_Fs_parent_0 x_1 x_2 e_3 f_4 x_5 x_6 e_7 f_8 x_9 e_11 f_12 x_13 x_14 x_15 x_16 x_17 x_18 w_19 e_20 f_21 x_10 ∧ s = [some ⟨[.agg [.list 7 e_11 f_12, .int .i64 x_13]], 2, 32, 0⟩, some ⟨[.agg [.int .i64 x_14, .int .i64 x_15, .int .i64 x_16, .int .i64 x_17, .int .i64 x_18, .str w_19, .list 2 e_20 f_21]], 7, 55, 0⟩] ∧ k x_1 x_2 e_3 f_4 x_5 x_6 e_7 f_8 x_9 x_10 e_11 f_12 x_13 x_14 x_15 x_16 x_17 x_18 w_19 e_20 f_21 = some r := by
  unfold i_impl_Fs_parent_0 at h
  obtain ⟨hg, h1⟩ := guardB_some h
  obtain ⟨_, hu1, h2⟩ := atInt_some h1
  obtain ⟨_, hu6, h3⟩ := atInt_some h2
  obtain ⟨_, _, hu11, h4⟩ := atList_some h3
  obtain ⟨_, hu12, h5⟩ := atInt_some h4
  obtain ⟨_, hu13, h6⟩ := atInt_some h5
  obtain ⟨_, _, hu19, h7⟩ := atList_some h6
  obtain ⟨_, hu20, h8⟩ := atInt_some h7
  obtain ⟨_, hu21, h9⟩ := atInt_some h8
  obtain ⟨_, _, rfl, h10⟩ := asOb_some h9
  obtain ⟨_, _, rfl, h11⟩ := obIs_some h10
  obtain ⟨rfl, h12⟩ := isN_some h11
  obtain ⟨_, rfl, h13⟩ := asN1_some h12
  obtain ⟨_, rfl, h14⟩ := asAgg_some h13
  obtain ⟨_, _, rfl, h15⟩ := asN2_some h14
  obtain ⟨_, _, rfl, h16⟩ := asList_some h15
  obtain ⟨_, rfl, h17⟩ := asInt_some h16
  obtain ⟨_, _, rfl, h18⟩ := asOb_some h17
  obtain ⟨_, _, rfl, h19⟩ := obIs_some h18
  obtain ⟨rfl, h20⟩ := isN_some h19
  obtain ⟨_, rfl, h21⟩ := asN1_some h20
  obtain ⟨_, rfl, h22⟩ := asAgg_some h21
  obtain ⟨_, _, _, _, _, _, _, rfl, h23⟩ := asN7_some h22
  obtain ⟨_, rfl, h24⟩ := asInt_some h23
  obtain ⟨_, rfl, h25⟩ := asInt_some h24
  obtain ⟨_, rfl, h26⟩ := asInt_some h25
  obtain ⟨_, rfl, h27⟩ := asInt_some h26
  obtain ⟨_, rfl, h28⟩ := asInt_some h27
  obtain ⟨_, rfl, h29⟩ := asStr_some h28
  obtain ⟨_, _, rfl, h30⟩ := asList_some h29
  obtain ⟨rfl, h31⟩ := asEnd_some h30
  exact ⟨_, _, _, _, _, _, _, _, _, _, _, _, _, _, _, _, _, _, _, _, _, frame_is hg rfl (slots_cons hu1 (slots_cons hu6 (slots_cons hu11 (slots_cons hu12 (slots_cons hu13 (slots_cons hu19 (slots_cons hu20 (slots_cons hu21 slots_nil)))))))), rfl, h31⟩
noncomputable def Λ_impl_Fs_parent_0 (N : Nat) : Looper := (noLooper).add [0, 1, 1, 0, 0, 1, 1, 0, 0, 1, 0, 1] fun _ E s K => i_impl_Fs_parent_0 (killE ks_impl_Fs_parent_0 E) s fun x_1 x_2 e_3 f_4 x_5 x_6 e_7 f_8 x_9 x_10 e_11 f_12 x_13 x_14 x_15 x_16 x_17 x_18 w_19 e_20 f_21 => l_impl_Fs_parent_0 N x_1 x_2 e_3 f_4 x_5 x_6 e_7 f_8 x_9 e_11 f_12 x_13 x_14 x_15 x_16 x_17 x_18 w_19 e_20 f_21 (kk0_impl_Fs_parent_0 K x_1 x_2 e_3 f_4 x_5 x_6 e_7 f_8 x_9 e_11 f_12 x_13 x_14 x_15 x_16 x_17 x_18 w_19 e_20 f_21) (kk1_impl_Fs_parent_0 K x_1 x_2 e_3 f_4 x_5 x_6 e_7 f_8 x_9 e_11 f_12 x_13 x_14 x_15 x_16 x_17 x_18 w_19 e_20 f_21) N x_10
theorem ok_impl_Fs_parent_0 {N : Nat} (hC : Ok Tryd.prog C) (hΦ : CalleeOk Tryd.prog C (Φ_impl_Fs_mayAt N)) : LoopOk Tryd.prog C (Λ_impl_Fs_parent_0 N) b_impl_Fs_parent_0 [0, 1, 1, 0, 0, 1, 1, 0, 0, 1, 0, 1] :=
  iter_ok (Λi := noLooper) (tr := true) (ks := ks_impl_Fs_parent_0) (kx := kx_impl_Fs_parent_0) (N := N) hC hΦ
    (loopsOk_nil (by kernel_rfl))
    fun R E s K r h => by
      have h2 := Looper.add_self.symm.trans h
      obtain ⟨_, _, _, _, _, _, _, _, _, _, _, _, _, _, _, _, _, _, _, _, _, he, rfl, h3⟩ := i_impl_Fs_parent_0_spec h2
      rw [he]
      exact (w_impl_Fs_parent_0 N _ _ _ _ _ _ _ _ _ _ _ _ _ _ _ _ _ _ _ _ _ N _).trans h3
def ks_impl_Fs_parent_1 : List Nat := butL 34 [1, 11, 12, 13]
def kx_impl_Fs_parent_1 : List Nat := butL 34 [4, 5]
def fr_impl_Fs_parent_1 (x_1 : Int) (e_2 : List V) (f_3 : Fl) (x_4 : Int) (e_6 : List V) (f_7 : Fl) (x_8 x_5 : Int) : List V := mkF 0 34 [(1, .int .i64 x_1), (11, .list 7 e_2 f_3), (12, .int .i64 x_4), (13, .int .i64 x_5)]
def kk0_impl_Fs_parent_1 {R : Type} (K : X → List V → S → Option R) (x_1 : Int) (e_2 : List V) (f_3 : Fl) (x_4 : Int) (e_6 : List V) (f_7 : Fl) (x_8 : Int) : Int → ByteArray → Option R := (fun x_1' w_2' => K .ret (mkF 0 34 [(4, .int .i64 (x_1')), (5, .str (w_2'))]) [some ⟨[.agg [.list 7 e_6 f_7, .int .i64 x_8]], 2, 32, 0⟩])
def kk1_impl_Fs_parent_1 {R : Type} (K : X → List V → S → Option R) (x_1 : Int) (e_2 : List V) (f_3 : Fl) (x_4 : Int) (e_6 : List V) (f_7 : Fl) (x_8 : Int) : Unit → Option R := (fun _ => K (.exit 0) (mkF 0 34 []) [some ⟨[.agg [.list 7 e_6 f_7, .int .i64 x_8]], 2, 32, 0⟩])
noncomputable abbrev it_impl_Fs_parent_1 {R : Type} (N : Nat) : Nat → List V → S → (X → List V → S → Option R) → Option R := fun n => iter C (Φ_impl_Fs_mayAt N) (Λ_impl_Fs_parent_0 N) b_impl_Fs_parent_1 [0, 1, 0, 1] true ks_impl_Fs_parent_1 kx_impl_Fs_parent_1 n R
theorem r_impl_Fs_parent_1 {R : Type} (N n : Nat) (x_1 : Int) (e_2 : List V) (f_3 : Fl) (x_4 : Int) (e_6 : List V) (f_7 : Fl) (x_8 : Int) (x_5 : Int) (K : X → List V → S → Option R) :
  it_impl_Fs_parent_1 N (n + 1) (fr_impl_Fs_parent_1 x_1 e_2 f_3 x_4 e_6 f_7 x_8 x_5) [some ⟨[.agg [.list 7 e_6 f_7, .int .i64 x_8]], 2, 32, 0⟩] K =
  l_impl_Fs_parent_1_step N x_1 e_2 f_3 x_4 e_6 f_7 x_8 (fun x_5 => it_impl_Fs_parent_1 N n (fr_impl_Fs_parent_1 x_1 e_2 f_3 x_4 e_6 f_7 x_8 x_5) [some ⟨[.agg [.list 7 e_6 f_7, .int .i64 x_8]], 2, 32, 0⟩] K) x_5 (kk0_impl_Fs_parent_1 K x_1 e_2 f_3 x_4 e_6 f_7 x_8) (kk1_impl_Fs_parent_1 K x_1 e_2 f_3 x_4 e_6 f_7 x_8) := by kernel_rfl
theorem w_impl_Fs_parent_1 {R : Type} (N : Nat) (x_1 : Int) (e_2 : List V) (f_3 : Fl) (x_4 : Int) (e_6 : List V) (f_7 : Fl) (x_8 : Int) (K : X → List V → S → Option R) : ∀ (n : Nat) (x_5 : Int),
  it_impl_Fs_parent_1 N n (fr_impl_Fs_parent_1 x_1 e_2 f_3 x_4 e_6 f_7 x_8 x_5) [some ⟨[.agg [.list 7 e_6 f_7, .int .i64 x_8]], 2, 32, 0⟩] K = l_impl_Fs_parent_1 N x_1 e_2 f_3 x_4 e_6 f_7 x_8 (kk0_impl_Fs_parent_1 K x_1 e_2 f_3 x_4 e_6 f_7 x_8) (kk1_impl_Fs_parent_1 K x_1 e_2 f_3 x_4 e_6 f_7 x_8) n x_5
  | 0, _ => rfl
  | n + 1, x_5 => (r_impl_Fs_parent_1 N n x_1 e_2 f_3 x_4 e_6 f_7 x_8 x_5 K).trans (congrArg (fun nx => l_impl_Fs_parent_1_step N x_1 e_2 f_3 x_4 e_6 f_7 x_8 nx x_5 (kk0_impl_Fs_parent_1 K x_1 e_2 f_3 x_4 e_6 f_7 x_8) (kk1_impl_Fs_parent_1 K x_1 e_2 f_3 x_4 e_6 f_7 x_8)) (funext fun x_5 => w_impl_Fs_parent_1 N x_1 e_2 f_3 x_4 e_6 f_7 x_8 K n x_5))
def i_impl_Fs_parent_1 {R : Type} (E : List V) (s : S) (k : Int → List V → Fl → Int → Int → List V → Fl → Int → Option R) : Option R :=
  guardB (frameOk 34 [1, 11, 12, 13] E) <| atInt E 1 .i64 fun x_1 => atList E 11 7 fun e_2 f_3 => atInt E 12 .i64 fun x_4 => atInt E 13 .i64 fun x_5 => asOb s fun o'1 s'2 => obIs o'1 2 32 fun e'3 k'4 => isN k'4 0 <| asN1 e'3 fun v'5 => asAgg v'5 fun c'6 => asN2 c'6 fun v'7 v'8 => asList 7 v'7 fun e_6 f_7 => asInt .i64 v'8 fun x_8 => asEnd s'2 <| k x_1 e_2 f_3 x_4 x_5 e_6 f_7 x_8
theorem i_impl_Fs_parent_1_spec {R : Type} {E : List V} {s : S} {k : Int → List V → Fl → Int → Int → List V → Fl → Int → Option R} {r : R} (h : i_impl_Fs_parent_1 E s k = some r) : ∃ x_1 e_2 f_3 x_4 x_5 e_6 f_7 x_8, E = fr_impl_Fs_parent_1 x_1 e_2 f_3 x_4 e_6 f_7 x_8 x_5 ∧ s = [some ⟨[.agg [.list 7 e_6 f_7, .int .i64 x_8]], 2, 32, 0⟩] ∧ k x_1 e_2 f_3 x_4 x_5 e_6 f_7 x_8 = some r := by
  unfold i_impl_Fs_parent_1 at h
  obtain ⟨hg, h1⟩ := guardB_some h
  obtain ⟨_, hu1, h2⟩ := atInt_some h1
  obtain ⟨_, _, hu11, h3⟩ := atList_some h2
  obtain ⟨_, hu12, h4⟩ := atInt_some h3
  obtain ⟨_, hu13, h5⟩ := atInt_some h4
  obtain ⟨_, _, rfl, h6⟩ := asOb_some h5
  obtain ⟨_, _, rfl, h7⟩ := obIs_some h6
  obtain ⟨rfl, h8⟩ := isN_some h7
  obtain ⟨_, rfl, h9⟩ := asN1_some h8
  obtain ⟨_, rfl, h10⟩ := asAgg_some h9
  obtain ⟨_, _, rfl, h11⟩ := asN2_some h10
  obtain ⟨_, _, rfl, h12⟩ := asList_some h11
  obtain ⟨_, rfl, h13⟩ := asInt_some h12
  obtain ⟨rfl, h14⟩ := asEnd_some h13
  exact ⟨_, _, _, _, _, _, _, _, frame_is hg rfl (slots_cons hu1 (slots_cons hu11 (slots_cons hu12 (slots_cons hu13 slots_nil)))), rfl, h14⟩
noncomputable def Λ_impl_Fs_parent_1 (N : Nat) : Looper := (Λ_impl_Fs_parent_0 N).add [0, 1, 0, 1] fun _ E s K => i_impl_Fs_parent_1 (killE ks_impl_Fs_parent_1 E) s fun x_1 e_2 f_3 x_4 x_5 e_6 f_7 x_8 => l_impl_Fs_parent_1 N x_1 e_2 f_3 x_4 e_6 f_7 x_8 (kk0_impl_Fs_parent_1 K x_1 e_2 f_3 x_4 e_6 f_7 x_8) (kk1_impl_Fs_parent_1 K x_1 e_2 f_3 x_4 e_6 f_7 x_8) N x_5
theorem in_impl_Fs_parent_1 : loopsAt b_impl_Fs_parent_1 (0 :: [0, 1, 0, 1]) = [([0, 1, 1, 0, 0, 1, 1, 0, 0, 1, 0, 1], b_impl_Fs_parent_0)] := by kernel_rfl
theorem ok_impl_Fs_parent_1 {N : Nat} (hC : Ok Tryd.prog C) (hΦ : CalleeOk Tryd.prog C (Φ_impl_Fs_mayAt N)) : LoopOk Tryd.prog C (Λ_impl_Fs_parent_1 N) b_impl_Fs_parent_1 [0, 1, 0, 1] :=
  iter_ok (Λi := Λ_impl_Fs_parent_0 N) (tr := true) (ks := ks_impl_Fs_parent_1) (kx := kx_impl_Fs_parent_1) (N := N) hC hΦ
    (loopsOk_of b_impl_Fs_parent_1 _ (by
      rw [in_impl_Fs_parent_1]
      intro p hp
      simp only [List.mem_cons, List.mem_nil_iff, or_false] at hp
      rcases hp with rfl
      · exact (ok_impl_Fs_parent_0 hC hΦ)))
    fun R E s K r h => by
      have h2 := Looper.add_self.symm.trans h
      obtain ⟨_, _, _, _, _, _, _, _, he, rfl, h3⟩ := i_impl_Fs_parent_1_spec h2
      rw [he]
      exact (w_impl_Fs_parent_1 N _ _ _ _ _ _ _ _ N _).trans h3
theorem at_impl_Fs_parent : loopsAt c_impl_Fs_parent [] = [([0, 1, 0, 1], b_impl_Fs_parent_1)] := by kernel_rfl
theorem b_impl_Fs_parent {R : Type} (N : Nat) (e_1 : List V) (f_2 : Fl) (x_3 x_4 : Int) (K : V → S → Option R) : bodyV C (Φ_impl_Fs_mayAt N) (Λ_impl_Fs_parent_1 N) 45 Tryd.f45 [.agg [.list 7 e_1 f_2, .int .i64 x_3], .int .i64 x_4] [] K =
  gb_impl_Fs_parent N e_1 f_2 x_3 x_4 (fun x_5 w_6 => K (.tuple [.int .i64 x_5, .str w_6]) []) := by kernel_rfl
theorem loops_impl_Fs_parent {N : Nat} (hC : Ok Tryd.prog C) (hΦ : CalleeOk Tryd.prog C (Φ_impl_Fs_mayAt N)) : LoopsOk Tryd.prog C (Λ_impl_Fs_parent_1 N) c_impl_Fs_parent [] :=
  loopsOk_of c_impl_Fs_parent [] (by
    rw [at_impl_Fs_parent]
    intro p hp
    simp only [List.mem_cons, List.mem_nil_iff, or_false] at hp
    rcases hp with rfl
    · exact (ok_impl_Fs_parent_1 hC hΦ))
theorem callee_impl_Fs_parent (hC : Ok Tryd.prog C) {N : Nat} (hΦ : CalleeOk Tryd.prog C (Φ_impl_Fs_mayAt N)) : CalleeOk Tryd.prog C (Φ_impl_Fs_parent N) := by
  refine hΦ.add_pure rfl fun R vs K r h => ?_
  unfold f_impl_Fs_parent at h
  obtain ⟨_, _, rfl, h1⟩ := asN2_some h
  obtain ⟨_, _, _, rfl, h2⟩ := un_impl_Fs_some h1
  obtain ⟨_, rfl, h3⟩ := asInt_some h2
  obtain ⟨_, h4⟩ := asEnd_some h3
  refine body_pure (fn := Tryd.f45) (c := c_impl_Fs_parent) hC hΦ Tryd.func45 (by kernel_rfl) (by kernel_rfl) (loops_impl_Fs_parent (N := N) hC hΦ) rfl rfl ?_
  refine (b_impl_Fs_parent N _ _ _ _ _).trans ?_
  rw [← g_impl_Fs_parent_eq]
  exact h4

/-! ### (loop.example/g00756/impl.Fs).entry -/
noncomputable def f_impl_Fs_entry (N : Nat) : (R : Type) → List V → S → (V → S → Option R) → Option R := fun _ vs s K =>
  asN3 vs fun v'1 v'2 v'3 => un_impl_Fs v'1 fun e_1 f_2 x_3 => asInt .i64 v'2 fun x_4 => asStr v'3 fun w_5 => asEnd s <| g_impl_Fs_entry N e_1 f_2 x_3 x_4 w_5 (fun x_6 => K (.int .i64 x_6) [])
noncomputable def Φ_impl_Fs_entry (N : Nat) : Callee := (Φ_impl_Fs_parent N).add 46 (f_impl_Fs_entry N)
noncomputable def c_impl_Fs_entry : Code := bodyOf Tryd.f46
noncomputable def b_impl_Fs_entry_0 : Code := (loopNo c_impl_Fs_entry [] 0).2
def ks_impl_Fs_entry_0 : List Nat := butL 27 [2, 14, 15, 16]
def kx_impl_Fs_entry_0 : List Nat := butL 27 [6]
def fr_impl_Fs_entry_0 (w_1 : ByteArray) (e_2 : List V) (f_3 : Fl) (x_4 : Int) (e_6 : List V) (f_7 : Fl) (x_8 x_5 : Int) : List V := mkF 0 27 [(2, .str w_1), (14, .list 2 e_2 f_3), (15, .int .i64 x_4), (16, .int .i64 x_5)]
def kk0_impl_Fs_entry_0 {R : Type} (K : X → List V → S → Option R) (w_1 : ByteArray) (e_2 : List V) (f_3 : Fl) (x_4 : Int) (e_6 : List V) (f_7 : Fl) (x_8 : Int) : Int → Option R := (fun x_1' => K .ret (mkF 0 27 [(6, .int .i64 (x_1'))]) [some ⟨[.agg [.list 7 e_6 f_7, .int .i64 x_8]], 2, 32, 0⟩])
def kk1_impl_Fs_entry_0 {R : Type} (K : X → List V → S → Option R) (w_1 : ByteArray) (e_2 : List V) (f_3 : Fl) (x_4 : Int) (e_6 : List V) (f_7 : Fl) (x_8 : Int) : Unit → Option R := (fun _ => K (.exit 0) (mkF 0 27 []) [some ⟨[.agg [.list 7 e_6 f_7, .int .i64 x_8]], 2, 32, 0⟩])
noncomputable abbrev it_impl_Fs_entry_0 {R : Type} (N : Nat) : Nat → List V → S → (X → List V → S → Option R) → Option R := fun n => iter C (Φ_impl_Fs_parent N) (noLooper) b_impl_Fs_entry_0 [0, 1, 0, 1] true ks_impl_Fs_entry_0 kx_impl_Fs_entry_0 n R
theorem r_impl_Fs_entry_0 {R : Type} (N n : Nat) (w_1 : ByteArray) (e_2 : List V) (f_3 : Fl) (x_4 : Int) (e_6 : List V) (f_7 : Fl) (x_8 : Int) (x_5 : Int) (K : X → List V → S → Option R) :
  it_impl_Fs_entry_0 N (n + 1) (fr_impl_Fs_entry_0 w_1 e_2 f_3 x_4 e_6 f_7 x_8 x_5) [some ⟨[.agg [.list 7 e_6 f_7, .int .i64 x_8]], 2, 32, 0⟩] K =
  l_impl_Fs_entry_0_step N w_1 e_2 f_3 x_4 e_6 f_7 x_8 (fun x_5 => it_impl_Fs_entry_0 N n (fr_impl_Fs_entry_0 w_1 e_2 f_3 x_4 e_6 f_7 x_8 x_5) [some ⟨[.agg [.list 7 e_6 f_7, .int .i64 x_8]], 2, 32, 0⟩] K) x_5 (kk0_impl_Fs_entry_0 K w_1 e_2 f_3 x_4 e_6 f_7 x_8) (kk1_impl_Fs_entry_0 K w_1 e_2 f_3 x_4 e_6 f_7 x_8) := by kernel_rfl
theorem w_impl_Fs_entry_0 {R : Type} (N : Nat) (w_1 : ByteArray) (e_2 : List V) (f_3 : Fl) (x_4 : Int) (e_6 : List V) (f_7 : Fl) (x_8 : Int) (K : X → List V → S → Option R) : ∀ (n : Nat) (x_5 : Int),
  it_impl_Fs_entry_0 N n (fr_impl_Fs_entry_0 w_1 e_2 f_3 x_4 e_6 f_7 x_8 x_5) [some ⟨[.agg [.list 7 e_6 f_7, .int .i64 x_8]], 2, 32, 0⟩] K = l_impl_Fs_entry_0 N w_1 e_2 f_3 x_4 e_6 f_7 x_8 (kk0_impl_Fs_entry_0 K w_1 e_2 f_3 x_4 e_6 f_7 x_8) (kk1_impl_Fs_entry_0 K w_1 e_2 f_3 x_4 e_6 f_7 x_8) n x_5
  | 0, _ => rfl
  | n + 1, x_5 => (r_impl_Fs_entry_0 N n w_1 e_2 f_3 x_4 e_6 f_7 x_8 x_5 K).trans (congrArg (fun nx => l_impl_Fs_entry_0_step N w_1 e_2 f_3 x_4 e_6 f_7 x_8 nx x_5 (kk0_impl_Fs_entry_0 K w_1 e_2 f_3 x_4 e_6 f_7 x_8) (kk1_impl_Fs_entry_0 K w_1 e_2 f_3 x_4 e_6 f_7 x_8)) (funext fun x_5 => w_impl_Fs_entry_0 N w_1 e_2 f_3 x_4 e_6 f_7 x_8 K n x_5))
def i_impl_Fs_entry_0 {R : Type} (E : List V) (s : S) (k : ByteArray → List V → Fl → Int → Int → List V → Fl → Int → Option R) : Option R :=
  guardB (frameOk 27 [2, 14, 15, 16] E) <| atStr E 2 fun w_1 => atList E 14 2 fun e_2 f_3 => atInt E 15 .i64 fun x_4 => atInt E 16 .i64 fun x_5 => asOb s fun o'1 s'2 => obIs o'1 2 32 fun e'3 k'4 => isN k'4 0 <| asN1 e'3 fun v'5 => asAgg v'5 fun c'6 => asN2 c'6 fun v'7 v'8 => asList 7 v'7 fun e_6 f_7 => asInt .i64 v'8 fun x_8 => asEnd s'2 <| k w_1 e_2 f_3 x_4 x_5 e_6 f_7 x_8
theorem i_impl_Fs_entry_0_spec {R : Type} {E : List V} {s : S} {k : ByteArray → List V → Fl → Int → Int → List V → Fl → Int → Option R} {r : R} (h : i_impl_Fs_entry_0 E s k = some r) : ∃ w_1 e_2 f_3 x_4 x_5 e_6 f_7 x_8, E = fr_impl_Fs_entry_0 w_1 e_2 f_3 x_4 e_6 f_7 x_8 x_5 ∧ s = [some ⟨[.agg [.list 7 e_6 f_7, .int .i64 x_8]], 2, 32, 0⟩] ∧ k w_1 e_2 f_3 x_4 x_5 e_6 f_7 x_8 = some r := by
  unfold i_impl_Fs_entry_0 at h
  obtain ⟨hg, h1⟩ := guardB_some h
  obtain ⟨_, hu2, h2⟩ := atStr_some h1
  obtain ⟨_, _, hu14, h3⟩ := atList_some h2
  obtain ⟨_, hu15, h4⟩ := atInt_some h3
  obtain ⟨_, hu16, h5⟩ := atInt_some h4
  obtain ⟨_, _, rfl, h6⟩ := asOb_some h5
  obtain ⟨_, _, rfl, h7⟩ := obIs_some h6
  obtain ⟨rfl, h8⟩ := isN_some h7
  obtain ⟨_, rfl, h9⟩ := asN1_some h8
  obtain ⟨_, rfl, h10⟩ := asAgg_some h9
  obtain ⟨_, _, rfl, h11⟩ := asN2_some h10
  obtain ⟨_, _, rfl, h12⟩ := asList_some h11
  obtain ⟨_, rfl, h13⟩ := asInt_some h12
  obtain ⟨rfl, h14⟩ := asEnd_some h13
  exact ⟨_, _, _, _, _, _, _, _, frame_is hg rfl (slots_cons hu2 (slots_cons hu14 (slots_cons hu15 (slots_cons hu16 slots_nil)))), rfl, h14⟩
noncomputable def Λ_impl_Fs_entry_0 (N : Nat) : Looper := (noLooper).add [0, 1, 0, 1] fun _ E s K => i_impl_Fs_entry_0 (killE ks_impl_Fs_entry_0 E) s fun w_1 e_2 f_3 x_4 x_5 e_6 f_7 x_8 => l_impl_Fs_entry_0 N w_1 e_2 f_3 x_4 e_6 f_7 x_8 (kk0_impl_Fs_entry_0 K w_1 e_2 f_3 x_4 e_6 f_7 x_8) (kk1_impl_Fs_entry_0 K w_1 e_2 f_3 x_4 e_6 f_7 x_8) N x_5
theorem ok_impl_Fs_entry_0 {N : Nat} (hC : Ok Tryd.prog C) (hΦ : CalleeOk Tryd.prog C (Φ_impl_Fs_parent N)) : LoopOk Tryd.prog C (Λ_impl_Fs_entry_0 N) b_impl_Fs_entry_0 [0, 1, 0, 1] :=
  iter_ok (Λi := noLooper) (tr := true) (ks := ks_impl_Fs_entry_0) (kx := kx_impl_Fs_entry_0) (N := N) hC hΦ
    (loopsOk_nil (by kernel_rfl))
    fun R E s K r h => by
      have h2 := Looper.add_self.symm.trans h
      obtain ⟨_, _, _, _, _, _, _, _, he, rfl, h3⟩ := i_impl_Fs_entry_0_spec h2
      rw [he]
      exact (w_impl_Fs_entry_0 N _ _ _ _ _ _ _ _ N _).trans h3
theorem at_impl_Fs_entry : loopsAt c_impl_Fs_entry [] = [([0, 1, 0, 1], b_impl_Fs_entry_0)] := by kernel_rfl
theorem b_impl_Fs_entry {R : Type} (N : Nat) (e_1 : List V) (f_2 : Fl) (x_3 x_4 : Int) (w_5 : ByteArray) (K : V → S → Option R) : bodyV C (Φ_impl_Fs_parent N) (Λ_impl_Fs_entry_0 N) 46 Tryd.f46 [.agg [.list 7 e_1 f_2, .int .i64 x_3], .int .i64 x_4, .str w_5] [] K =
  gb_impl_Fs_entry N e_1 f_2 x_3 x_4 w_5 (fun x_6 => K (.int .i64 x_6) []) := by kernel_rfl
theorem loops_impl_Fs_entry {N : Nat} (hC : Ok Tryd.prog C) (hΦ : CalleeOk Tryd.prog C (Φ_impl_Fs_parent N)) : LoopsOk Tryd.prog C (Λ_impl_Fs_entry_0 N) c_impl_Fs_entry [] :=
  loopsOk_of c_impl_Fs_entry [] (by
    rw [at_impl_Fs_entry]
    intro p hp
    simp only [List.mem_cons, List.mem_nil_iff, or_false] at hp
    rcases hp with rfl
    · exact (ok_impl_Fs_entry_0 hC hΦ))
theorem callee_impl_Fs_entry (hC : Ok Tryd.prog C) {N : Nat} (hΦ : CalleeOk Tryd.prog C (Φ_impl_Fs_parent N)) : CalleeOk Tryd.prog C (Φ_impl_Fs_entry N) := by
  refine hΦ.add_pure rfl fun R vs K r h => ?_
  unfold f_impl_Fs_entry at h
  obtain ⟨_, _, _, rfl, h1⟩ := asN3_some h
  obtain ⟨_, _, _, rfl, h2⟩ := un_impl_Fs_some h1
  obtain ⟨_, rfl, h3⟩ := asInt_some h2
  obtain ⟨_, rfl, h4⟩ := asStr_some h3
  obtain ⟨_, h5⟩ := asEnd_some h4
  refine body_pure (fn := Tryd.f46) (c := c_impl_Fs_entry) hC hΦ Tryd.func46 (by kernel_rfl) (by kernel_rfl) (loops_impl_Fs_entry (N := N) hC hΦ) rfl rfl ?_
  refine (b_impl_Fs_entry N _ _ _ _ _ _).trans ?_
  rw [← g_impl_Fs_entry_eq]
  exact h5

/-! ### slices.Grow[[]string,string] -/
noncomputable def f_slGr (N : Nat) : (R : Type) → List V → S → (V → S → Option R) → Option R := fun _ vs s K =>
  asN2 vs fun v'1 v'2 => asNils v'1 <| asInt .i64 v'2 fun x_1 => asEnd s <| g_slGr N x_1 (fun e_2 => K (.list 1 e_2 (.own 9)) [])
noncomputable def Φ_slGr (N : Nat) : Callee := (Φ_impl_Fs_entry N).add 73 (f_slGr N)
open Go.RowKit Go.Lib in
set_option maxRecDepth 100000 in
theorem grow0_slGr (w : World) : Calls Tryd.prog 73 #[.slice none 0 0, .int .i64 0] w fun e w' => e = .returned (.slice none 0 0) ∧ w' = w := by
  go_enter Tryd.func73, Tryd.ntmps73
  go_wp2
  go_ret
  exact ⟨rfl, rfl⟩
open Go.RowKit Go.Lib in
set_option maxRecDepth 100000 in
set_option maxHeartbeats 1000000 in
theorem grow1_slGr (w : World) (n : Nat) (i0 : TypeInfo) (z : Value) (hn : 0 < n) (hi0 : Tryd.prog.info? 9 = some i0) (hz0 : i0.zero = some z) (hs0 : 0 < i0.size) (hbig : n * i0.bytes ≤ 140737488355328) (h63 : n ≤ 4611686018427387904) :
    Calls Tryd.prog 73 #[.slice none 0 0, .int .i64 n] w fun e w' =>
      e = .returned (.slice (some ⟨w.heap.size, 0, none⟩) 0 (grownCap w n 0 9)) ∧
      w' = w.drew.alloc (.cells (Builtin.zeroCells z.cells n ++ Builtin.zeroCells z.cells (grownCap w n 0 9 - n)) 9) := by
  have h1 : ¬ ((n : Int) < 0) := by omega
  have h3 : wrap64 ((n : Int) - (0 - 0)) = (n : Int) := by unfold wrap64; omega
  have h4 : (n : Int) > 0 := by omega
  have hold : (Builtin.firstCells i0.size 0 (.slice none 0 0)).run Tryd.prog w.drew = .ok (#[] : Array Value) w.drew := run_firstCells_none w.drew i0.size 0 0 0
  have hrz : ∀ ty, (Builtin.append_ #[69, 3] ty #[.slice none 0 0, .int .i64 (n : Int)]).run Tryd.prog w =
      .ok (.slice (some ⟨w.heap.size, 0, none⟩) n (grownCap w n 0 9)) (w.drew.alloc (.cells (Builtin.zeroCells z.cells n ++ Builtin.zeroCells z.cells (grownCap w n 0 9 - n)) 9)) := fun ty => by
    have h := Lib.run_append_grow_zeros w 69 3 ty 9 i0 z .i64 .i64 Tryd.underlying69 Tryd.underlying3 hi0 hz0 none 0 0 [] hold n (by omega) hs0 (by omega) (by omega)
      (by omega) (by have := growslice_fits (old := 0) (need := n) hn hbig; simpa using this)
    simpa using h
  have hGn : n ≤ grownCap w n 0 9 := grownCap_ge w _ _ _
  obtain ⟨G, hG⟩ : ∃ G, G = grownCap w n 0 9 := ⟨_, rfl⟩
  rw [← hG] at hrz hGn ⊢
  have hG63 : G ≤ 9223372036854775807 := by
    have := grownCap_le_maxLen w n 0 9 (by unfold maxLen; omega)
    rw [← hG] at this
    unfold maxLen at this
    omega
  clear hold hG
  go_enter Tryd.func73, Tryd.ntmps73
  go_wp2_with (at_builtin; refine Lib.wpList_append_run _ rfl _ _ _ _ rfl _ _ rfl rfl _ _ (hrz _) ?_)
  all_goals (go_ret; exact ⟨rfl, rfl⟩)
theorem callee_slGr (hC : Ok Tryd.prog C) {N : Nat} (hΦ : CalleeOk Tryd.prog C (Φ_impl_Fs_entry N)) : CalleeOk Tryd.prog C (Φ_slGr N) := by
  refine hΦ.add_own rfl fun R vs K r h => ?_
  unfold f_slGr at h
  obtain ⟨_, _, rfl, h1⟩ := asN2_some h
  obtain ⟨rfl, h2⟩ := asNils_some h1
  obtain ⟨_, rfl, h3⟩ := asInt_some h2
  obtain ⟨_, h4⟩ := asEnd_some h3
  rw [g_slGr_eq] at h4
  unfold gb_slGr at h4
  split at h4 <;> first | (cases h4; done) | skip
  rename_i hcond
  exact ⟨_, h4, grow_owned hC (e := 9) (by kernel_rfl) Tryd.func73 (by kernel_rfl) (by kernel_rfl) grow0_slGr grow1_slGr (B := 16) (sz := 1) (by kernel_rfl) (by kernel_rfl) hcond⟩

/-! ### slices.Concat[[]string,string] -/
noncomputable def f_slCc (N : Nat) : (R : Type) → List V → S → (V → S → Option R) → Option R := fun _ vs s K =>
  asN1 vs fun v'1 => asList 1 v'1 fun e_1 f_2 => asEnd s <| g_slCc N e_1 f_2 (fun e_3 => K (.list 1 e_3 .sh) [])
noncomputable def Φ_slCc (N : Nat) : Callee := (Φ_slGr N).add 47 (f_slCc N)
noncomputable def c_slCc : Code := bodyOf Tryd.f47
noncomputable def b_slCc_0 : Code := (loopNo c_slCc [] 0).2
noncomputable def b_slCc_1 : Code := (loopNo c_slCc [] 1).2
def ks_slCc_0 : List Nat := butL 36 [0, 3, 9, 10, 11]
def kx_slCc_0 : List Nat := butL 36 [0, 3]
def fr_slCc_0 (e_1 : List V) (f_2 : Fl) (e_4 : List V) (f_5 : Fl) (x_6 x_3 x_7 : Int) : List V := mkF 0 36 [(0, .list 1 e_1 f_2), (3, .int .i64 x_3), (9, .list 1 e_4 f_5), (10, .int .i64 x_6), (11, .int .i64 x_7)]
def kk0_slCc_0 {R : Type} (K : X → List V → S → Option R) (e_1 : List V) (f_2 : Fl) (e_4 : List V) (f_5 : Fl) (x_6 : Int) : Int → Option R := (fun x_1' => K (.exit 0) (mkF 0 36 [(0, .list 1 e_1 f_2), (3, .int .i64 (x_1'))]) [])
noncomputable abbrev it_slCc_0 {R : Type} (N : Nat) : Nat → List V → S → (X → List V → S → Option R) → Option R := fun n => iter C (Φ_slGr N) (noLooper) b_slCc_0 [0, 1, 0, 1, 1] false ks_slCc_0 kx_slCc_0 n R
theorem r_slCc_0 {R : Type} (N n : Nat) (e_1 : List V) (f_2 : Fl) (e_4 : List V) (f_5 : Fl) (x_6 : Int) (x_3 x_7 : Int) (K : X → List V → S → Option R) :
  it_slCc_0 N (n + 1) (fr_slCc_0 e_1 f_2 e_4 f_5 x_6 x_3 x_7) [] K =
  l_slCc_0_step N e_1 f_2 e_4 f_5 x_6 (fun x_3 x_7 => it_slCc_0 N n (fr_slCc_0 e_1 f_2 e_4 f_5 x_6 x_3 x_7) [] K) x_3 x_7 (kk0_slCc_0 K e_1 f_2 e_4 f_5 x_6) := by kernel_rfl
theorem w_slCc_0 {R : Type} (N : Nat) (e_1 : List V) (f_2 : Fl) (e_4 : List V) (f_5 : Fl) (x_6 : Int) (K : X → List V → S → Option R) : ∀ (n : Nat) (x_3 x_7 : Int),
  it_slCc_0 N n (fr_slCc_0 e_1 f_2 e_4 f_5 x_6 x_3 x_7) [] K = l_slCc_0 N e_1 f_2 e_4 f_5 x_6 (kk0_slCc_0 K e_1 f_2 e_4 f_5 x_6) n x_3 x_7
  | 0, _, _ => rfl
  | n + 1, x_3, x_7 => (r_slCc_0 N n e_1 f_2 e_4 f_5 x_6 x_3 x_7 K).trans (congrArg (fun nx => l_slCc_0_step N e_1 f_2 e_4 f_5 x_6 nx x_3 x_7 (kk0_slCc_0 K e_1 f_2 e_4 f_5 x_6)) (funext fun x_3 => funext fun x_7 => w_slCc_0 N e_1 f_2 e_4 f_5 x_6 K n x_3 x_7))
def i_slCc_0 {R : Type} (E : List V) (s : S) (k : List V → Fl → Int → List V → Fl → Int → Int → Option R) : Option R :=
  guardB (frameOk 36 [0, 3, 9, 10, 11] E) <| atList E 0 1 fun e_1 f_2 => atInt E 3 .i64 fun x_3 => atList E 9 1 fun e_4 f_5 => atInt E 10 .i64 fun x_6 => atInt E 11 .i64 fun x_7 => asEnd s <| k e_1 f_2 x_3 e_4 f_5 x_6 x_7
theorem i_slCc_0_spec {R : Type} {E : List V} {s : S} {k : List V → Fl → Int → List V → Fl → Int → Int → Option R} {r : R} (h : i_slCc_0 E s k = some r) : ∃ e_1 f_2 x_3 e_4 f_5 x_6 x_7, E = fr_slCc_0 e_1 f_2 e_4 f_5 x_6 x_3 x_7 ∧ s = [] ∧ k e_1 f_2 x_3 e_4 f_5 x_6 x_7 = some r := by
  unfold i_slCc_0 at h
  obtain ⟨hg, h1⟩ := guardB_some h
  obtain ⟨_, _, hu0, h2⟩ := atList_some h1
  obtain ⟨_, hu3, h3⟩ := atInt_some h2
  obtain ⟨_, _, hu9, h4⟩ := atList_some h3
  obtain ⟨_, hu10, h5⟩ := atInt_some h4
  obtain ⟨_, hu11, h6⟩ := atInt_some h5
  obtain ⟨rfl, h7⟩ := asEnd_some h6
  exact ⟨_, _, _, _, _, _, _, frame_is hg rfl (slots_cons hu0 (slots_cons hu3 (slots_cons hu9 (slots_cons hu10 (slots_cons hu11 slots_nil))))), rfl, h7⟩
noncomputable def Λ_slCc_0 (N : Nat) : Looper := (noLooper).add [0, 1, 0, 1, 1] fun _ E s K => i_slCc_0 (killE ks_slCc_0 E) s fun e_1 f_2 x_3 e_4 f_5 x_6 x_7 => l_slCc_0 N e_1 f_2 e_4 f_5 x_6 (kk0_slCc_0 K e_1 f_2 e_4 f_5 x_6) N x_3 x_7
theorem ok_slCc_0 {N : Nat} (hC : Ok Tryd.prog C) (hΦ : CalleeOk Tryd.prog C (Φ_slGr N)) : LoopOk Tryd.prog C (Λ_slCc_0 N) b_slCc_0 [0, 1, 0, 1, 1] :=
  iter_ok (Λi := noLooper) (tr := false) (ks := ks_slCc_0) (kx := kx_slCc_0) (N := N) hC hΦ
    (loopsOk_nil (by kernel_rfl))
    fun R E s K r h => by
      have h2 := Looper.add_self.symm.trans h
      obtain ⟨_, _, _, _, _, _, _, he, rfl, h3⟩ := i_slCc_0_spec h2
      rw [he]
      exact (w_slCc_0 N _ _ _ _ _ _ N _ _).trans h3
def ks_slCc_1 : List Nat := butL 36 [6, 25, 26, 27]
def kx_slCc_1 : List Nat := butL 36 [6]
def fr_slCc_1 (e_2 : List V) (f_3 : Fl) (x_4 : Int) (e_1 : List V) (x_5 : Int) : List V := mkF 0 36 [(6, .list 1 e_1 (.own 9)), (25, .list 1 e_2 f_3), (26, .int .i64 x_4), (27, .int .i64 x_5)]
def kk0_slCc_1 {R : Type} (K : X → List V → S → Option R) (e_2 : List V) (f_3 : Fl) (x_4 : Int) : List V → Option R := (fun e_1' => K (.exit 2) (mkF 0 36 [(6, .list 1 (e_1') (.own 9))]) [])
noncomputable abbrev it_slCc_1 {R : Type} (N : Nat) : Nat → List V → S → (X → List V → S → Option R) → Option R := fun n => iter C (Φ_slGr N) (Λ_slCc_0 N) b_slCc_1 [0, 1, 0, 1, 1, 1, 1] false ks_slCc_1 kx_slCc_1 n R
theorem r_slCc_1 {R : Type} (N n : Nat) (e_2 : List V) (f_3 : Fl) (x_4 : Int) (e_1 : List V) (x_5 : Int) (K : X → List V → S → Option R) :
  it_slCc_1 N (n + 1) (fr_slCc_1 e_2 f_3 x_4 e_1 x_5) [] K =
  l_slCc_1_step N e_2 f_3 x_4 (fun e_1 x_5 => it_slCc_1 N n (fr_slCc_1 e_2 f_3 x_4 e_1 x_5) [] K) e_1 x_5 (kk0_slCc_1 K e_2 f_3 x_4) := by kernel_rfl
theorem w_slCc_1 {R : Type} (N : Nat) (e_2 : List V) (f_3 : Fl) (x_4 : Int) (K : X → List V → S → Option R) : ∀ (n : Nat) (e_1 : List V) (x_5 : Int),
  it_slCc_1 N n (fr_slCc_1 e_2 f_3 x_4 e_1 x_5) [] K = l_slCc_1 N e_2 f_3 x_4 (kk0_slCc_1 K e_2 f_3 x_4) n e_1 x_5
  | 0, _, _ => rfl
  | n + 1, e_1, x_5 => (r_slCc_1 N n e_2 f_3 x_4 e_1 x_5 K).trans (congrArg (fun nx => l_slCc_1_step N e_2 f_3 x_4 nx e_1 x_5 (kk0_slCc_1 K e_2 f_3 x_4)) (funext fun e_1 => funext fun x_5 => w_slCc_1 N e_2 f_3 x_4 K n e_1 x_5))
def i_slCc_1 {R : Type} (E : List V) (s : S) (k : List V → List V → Fl → Int → Int → Option R) : Option R :=
  guardB (frameOk 36 [6, 25, 26, 27] E) <| must (nth E 6) fun u6 => asList 1 u6 fun e_1 f'1 => asOwn 9 f'1 <| atList E 25 1 fun e_2 f_3 => atInt E 26 .i64 fun x_4 => atInt E 27 .i64 fun x_5 => asEnd s <| k e_1 e_2 f_3 x_4 x_5
theorem i_slCc_1_spec {R : Type} {E : List V} {s : S} {k : List V → List V → Fl → Int → Int → Option R} {r : R} (h : i_slCc_1 E s k = some r) : ∃ e_1 e_2 f_3 x_4 x_5, E = fr_slCc_1 e_2 f_3 x_4 e_1 x_5 ∧ s = [] ∧ k e_1 e_2 f_3 x_4 x_5 = some r := by
  unfold i_slCc_1 at h
  obtain ⟨hg, h1⟩ := guardB_some h
  obtain ⟨_, hu6, h2⟩ := must_some h1
  obtain ⟨_, _, rfl, h3⟩ := asList_some h2
  obtain ⟨rfl, h4⟩ := asOwn_some h3
  obtain ⟨_, _, hu25, h5⟩ := atList_some h4
  obtain ⟨_, hu26, h6⟩ := atInt_some h5
  obtain ⟨_, hu27, h7⟩ := atInt_some h6
  obtain ⟨rfl, h8⟩ := asEnd_some h7
  exact ⟨_, _, _, _, _, frame_is hg rfl (slots_cons hu6 (slots_cons hu25 (slots_cons hu26 (slots_cons hu27 slots_nil)))), rfl, h8⟩
noncomputable def Λ_slCc_1 (N : Nat) : Looper := (Λ_slCc_0 N).add [0, 1, 0, 1, 1, 1, 1] fun _ E s K => i_slCc_1 (killE ks_slCc_1 E) s fun e_1 e_2 f_3 x_4 x_5 => l_slCc_1 N e_2 f_3 x_4 (kk0_slCc_1 K e_2 f_3 x_4) N e_1 x_5
theorem ok_slCc_1 {N : Nat} (hC : Ok Tryd.prog C) (hΦ : CalleeOk Tryd.prog C (Φ_slGr N)) : LoopOk Tryd.prog C (Λ_slCc_1 N) b_slCc_1 [0, 1, 0, 1, 1, 1, 1] :=
  iter_ok (Λi := Λ_slCc_0 N) (tr := false) (ks := ks_slCc_1) (kx := kx_slCc_1) (N := N) hC hΦ
    (loopsOk_nil (by kernel_rfl))
    fun R E s K r h => by
      have h2 := Looper.add_self.symm.trans h
      obtain ⟨_, _, _, _, _, he, rfl, h3⟩ := i_slCc_1_spec h2
      rw [he]
      exact (w_slCc_1 N _ _ _ _ N _ _).trans h3
theorem at_slCc : loopsAt c_slCc [] = [([0, 1, 0, 1, 1], b_slCc_0), ([0, 1, 0, 1, 1, 1, 1], b_slCc_1)] := by kernel_rfl
theorem b_slCc {R : Type} (N : Nat) (e_1 : List V) (f_2 : Fl) (K : V → S → Option R) : bodyV C (Φ_slGr N) (Λ_slCc_1 N) 47 Tryd.f47 [.list 1 e_1 f_2] [] K =
  gb_slCc N e_1 f_2 (fun e_3 => K (.list 1 e_3 .sh) []) := by kernel_rfl
theorem loops_slCc {N : Nat} (hC : Ok Tryd.prog C) (hΦ : CalleeOk Tryd.prog C (Φ_slGr N)) : LoopsOk Tryd.prog C (Λ_slCc_1 N) c_slCc [] :=
  loopsOk_of c_slCc [] (by
    rw [at_slCc]
    intro p hp
    simp only [List.mem_cons, List.mem_nil_iff, or_false] at hp
    rcases hp with rfl | rfl
    · exact (LoopOk.add (ok_slCc_0 hC hΦ) rfl)
    · exact (ok_slCc_1 hC hΦ))
theorem callee_slCc (hC : Ok Tryd.prog C) {N : Nat} (hΦ : CalleeOk Tryd.prog C (Φ_slGr N)) : CalleeOk Tryd.prog C (Φ_slCc N) := by
  refine hΦ.add_pure rfl fun R vs K r h => ?_
  unfold f_slCc at h
  obtain ⟨_, rfl, h1⟩ := asN1_some h
  obtain ⟨_, _, rfl, h2⟩ := asList_some h1
  obtain ⟨_, h3⟩ := asEnd_some h2
  refine body_pure (fn := Tryd.f47) (c := c_slCc) hC hΦ Tryd.func47 (by kernel_rfl) (by kernel_rfl) (loops_slCc (N := N) hC hΦ) rfl rfl ?_
  refine (b_slCc N _ _ _).trans ?_
  rw [← g_slCc_eq]
  exact h3

/-! ### (loop.example/g00756/impl.Fs).find -/
noncomputable def f_impl_Fs_find (N : Nat) : (R : Type) → List V → S → (V → S → Option R) → Option R := fun _ vs s K =>
  asN4 vs fun v'1 v'2 v'3 v'4 => un_impl_Fs v'1 fun e_1 f_2 x_3 => un_impl_Cred v'2 fun x_4 x_5 => asStr v'3 fun w_6 => asBool v'4 fun b_7 => asEnd s <| g_impl_Fs_find N e_1 f_2 x_3 x_4 x_5 w_6 b_7 (fun x_8 x_9 => K (.tuple [.int .i64 x_8, .int .i64 x_9]) [])
noncomputable def Φ_impl_Fs_find (N : Nat) : Callee := (Φ_slCc N).add 25 (f_impl_Fs_find N)
noncomputable def c_impl_Fs_find : Code := bodyOf Tryd.f25
noncomputable def b_impl_Fs_find_0 : Code := (loopNo c_impl_Fs_find [] 0).2
def ks_impl_Fs_find_0 : List Nat := butL 103 [3, 4, 5, 10, 11, 12, 13]
def kx_impl_Fs_find_0 : List Nat := butL 103 [4, 8, 9, 10, 12]
def fr_impl_Fs_find_0 (b_1 b_2 : Bool) (e_6 : List V) (f_7 : Fl) (x_8 x_9 x_10 : Int) (e_3 : List V) (x_4 x_5 : Int) : List V := mkF 0 103 [(3, .bool b_1), (4, .ptr 0 0 0 0), (5, .ptr 1 0 0 0), (10, .bool b_2), (11, .list 1 e_3 .sh), (12, .int .i64 x_4), (13, .int .i64 x_5)]
def kk0_impl_Fs_find_0 {R : Type} (K : X → List V → S → Option R) (b_1 : Bool) (b_2 : Bool) (e_6 : List V) (f_7 : Fl) (x_8 : Int) (x_9 : Int) (x_10 : Int) : Int → Int → Option R := (fun x_2' x_1' => K .ret (mkF 0 103 [(4, .ptr 0 0 0 0), (8, .int .i64 0), (9, .int .i64 (x_2')), (10, .bool b_2), (12, .int .i64 (x_1'))]) [some ⟨[.agg [.list 7 e_6 f_7, .int .i64 x_8]], 2, 32, 0⟩, some ⟨[.agg [.int .i64 x_9, .int .i64 x_10]], 2, 34, 0⟩])
def kk1_impl_Fs_find_0 {R : Type} (K : X → List V → S → Option R) (b_1 : Bool) (b_2 : Bool) (e_6 : List V) (f_7 : Fl) (x_8 : Int) (x_9 : Int) (x_10 : Int) : Int → Option R := (fun x_1' => K (.exit 0) (mkF 0 103 [(4, .ptr 0 0 0 0), (10, .bool b_2), (12, .int .i64 (x_1'))]) [some ⟨[.agg [.list 7 e_6 f_7, .int .i64 x_8]], 2, 32, 0⟩, some ⟨[.agg [.int .i64 x_9, .int .i64 x_10]], 2, 34, 0⟩])
noncomputable abbrev it_impl_Fs_find_0 {R : Type} (N : Nat) : Nat → List V → S → (X → List V → S → Option R) → Option R := fun n => iter C (Φ_slCc N) (noLooper) b_impl_Fs_find_0 [0, 0, 1, 1, 1, 1] true ks_impl_Fs_find_0 kx_impl_Fs_find_0 n R
theorem r_impl_Fs_find_0 {R : Type} (N n : Nat) (b_1 b_2 : Bool) (e_6 : List V) (f_7 : Fl) (x_8 x_9 x_10 : Int) (e_3 : List V) (x_4 x_5 : Int) (K : X → List V → S → Option R) :
  it_impl_Fs_find_0 N (n + 1) (fr_impl_Fs_find_0 b_1 b_2 e_6 f_7 x_8 x_9 x_10 e_3 x_4 x_5) [some ⟨[.agg [.list 7 e_6 f_7, .int .i64 x_8]], 2, 32, 0⟩, some ⟨[.agg [.int .i64 x_9, .int .i64 x_10]], 2, 34, 0⟩] K =
  l_impl_Fs_find_0_step N b_1 b_2 e_6 f_7 x_8 x_9 x_10 (fun e_3 x_4 x_5 => it_impl_Fs_find_0 N n (fr_impl_Fs_find_0 b_1 b_2 e_6 f_7 x_8 x_9 x_10 e_3 x_4 x_5) [some ⟨[.agg [.list 7 e_6 f_7, .int .i64 x_8]], 2, 32, 0⟩, some ⟨[.agg [.int .i64 x_9, .int .i64 x_10]], 2, 34, 0⟩] K) e_3 x_4 x_5 (kk0_impl_Fs_find_0 K b_1 b_2 e_6 f_7 x_8 x_9 x_10) (kk1_impl_Fs_find_0 K b_1 b_2 e_6 f_7 x_8 x_9 x_10) := by kernel_rfl
theorem w_impl_Fs_find_0 {R : Type} (N : Nat) (b_1 b_2 : Bool) (e_6 : List V) (f_7 : Fl) (x_8 x_9 x_10 : Int) (K : X → List V → S → Option R) : ∀ (n : Nat) (e_3 : List V) (x_4 x_5 : Int),
  it_impl_Fs_find_0 N n (fr_impl_Fs_find_0 b_1 b_2 e_6 f_7 x_8 x_9 x_10 e_3 x_4 x_5) [some ⟨[.agg [.list 7 e_6 f_7, .int .i64 x_8]], 2, 32, 0⟩, some ⟨[.agg [.int .i64 x_9, .int .i64 x_10]], 2, 34, 0⟩] K = l_impl_Fs_find_0 N b_1 b_2 e_6 f_7 x_8 x_9 x_10 (kk0_impl_Fs_find_0 K b_1 b_2 e_6 f_7 x_8 x_9 x_10) (kk1_impl_Fs_find_0 K b_1 b_2 e_6 f_7 x_8 x_9 x_10) n e_3 x_4 x_5
  | 0, _, _, _ => rfl
  | n + 1, e_3, x_4, x_5 => (r_impl_Fs_find_0 N n b_1 b_2 e_6 f_7 x_8 x_9 x_10 e_3 x_4 x_5 K).trans (congrArg (fun nx => l_impl_Fs_find_0_step N b_1 b_2 e_6 f_7 x_8 x_9 x_10 nx e_3 x_4 x_5 (kk0_impl_Fs_find_0 K b_1 b_2 e_6 f_7 x_8 x_9 x_10) (kk1_impl_Fs_find_0 K b_1 b_2 e_6 f_7 x_8 x_9 x_10)) (funext fun e_3 => funext fun x_4 => funext fun x_5 => w_impl_Fs_find_0 N b_1 b_2 e_6 f_7 x_8 x_9 x_10 K n e_3 x_4 x_5))
def i_impl_Fs_find_0 {R : Type} (E : List V) (s : S) (k : Bool → Bool → List V → Int → Int → List V → Fl → Int → Int → Int → Option R) : Option R :=
  guardB (frameOk 103 [3, 4, 5, 10, 11, 12, 13] E) <| atBool E 3 fun b_1 => atIs E 4 (.ptr 0 0 0 0) <| atIs E 5 (.ptr 1 0 0 0) <| atBool E 10 fun b_2 => must (nth E 11) fun u11 => asList 1 u11 fun e_3 f'1 => asSh f'1 <| atInt E 12 .i64 fun x_4 => atInt E 13 .i64 fun x_5 => asOb s fun o'2 s'3 => obIs o'2 2 32 fun e'4 k'5 => isN k'5 0 <| asN1 e'4 fun v'6 => asAgg v'6 fun c'7 => asN2 c'7 fun v'8 v'9 => asList 7 v'8 fun e_6 f_7 => asInt .i64 v'9 fun x_8 => asOb s'3 fun o'10 s'11 => obIs o'10 2 34 fun e'12 k'13 => isN k'13 0 <| asN1 e'12 fun v'14 => asAgg v'14 fun c'15 => asN2 c'15 fun v'16 v'17 => asInt .i64 v'16 fun x_9 => asInt .i64 v'17 fun x_10 => asEnd s'11 <| k b_1 b_2 e_3 x_4 x_5 e_6 f_7 x_8 x_9 x_10
theorem i_impl_Fs_find_0_spec {R : Type} {E : List V} {s : S} {k : Bool → Bool → List V → Int → Int → List V → Fl → Int → Int → Int → Option R} {r : R} (h : i_impl_Fs_find_0 E s k = some r) : ∃ b_1 b_2 e_3 x_4 x_5 e_6 f_7 x_8 x_9 x_10, E = fr_impl_Fs_find_0 b_1 b_2 e_6 f_7 x_8 x_9 x_10 e_3 x_4 x_5 ∧ s = [some ⟨[.agg [.list 7 e_6 f_7, .int .i64 x_8]], 2, 32, 0⟩, some ⟨[.agg [.int .i64 x_9, .int .i64 x_10]], 2, 34, 0⟩] ∧ k b_1 b_2 e_3 x_4 x_5 e_6 f_7 x_8 x_9 x_10 = some r := by
  unfold i_impl_Fs_find_0 at h
  obtain ⟨hg, h1⟩ := guardB_some h
  obtain ⟨_, hu3, h2⟩ := atBool_some h1
  obtain ⟨hu4, h3⟩ := atIs_some h2
  obtain ⟨hu5, h4⟩ := atIs_some h3
  obtain ⟨_, hu10, h5⟩ := atBool_some h4
  obtain ⟨_, hu11, h6⟩ := must_some h5
  obtain ⟨_, _, rfl, h7⟩ := asList_some h6
  obtain ⟨rfl, h8⟩ := asSh_some h7
  obtain ⟨_, hu12, h9⟩ := atInt_some h8
  obtain ⟨_, hu13, h10⟩ := atInt_some h9
  obtain ⟨_, _, rfl, h11⟩ := asOb_some h10
  obtain ⟨_, _, rfl, h12⟩ := obIs_some h11
  obtain ⟨rfl, h13⟩ := isN_some h12
  obtain ⟨_, rfl, h14⟩ := asN1_some h13
  obtain ⟨_, rfl, h15⟩ := asAgg_some h14
  obtain ⟨_, _, rfl, h16⟩ := asN2_some h15
  obtain ⟨_, _, rfl, h17⟩ := asList_some h16
  obtain ⟨_, rfl, h18⟩ := asInt_some h17
  obtain ⟨_, _, rfl, h19⟩ := asOb_some h18
  obtain ⟨_, _, rfl, h20⟩ := obIs_some h19
  obtain ⟨rfl, h21⟩ := isN_some h20
  obtain ⟨_, rfl, h22⟩ := asN1_some h21
  obtain ⟨_, rfl, h23⟩ := asAgg_some h22
  obtain ⟨_, _, rfl, h24⟩ := asN2_some h23
  obtain ⟨_, rfl, h25⟩ := asInt_some h24
  obtain ⟨_, rfl, h26⟩ := asInt_some h25
  obtain ⟨rfl, h27⟩ := asEnd_some h26
  exact ⟨_, _, _, _, _, _, _, _, _, _, frame_is hg rfl (slots_cons hu3 (slots_cons hu4 (slots_cons hu5 (slots_cons hu10 (slots_cons hu11 (slots_cons hu12 (slots_cons hu13 slots_nil))))))), rfl, h27⟩
noncomputable def Λ_impl_Fs_find_0 (N : Nat) : Looper := (noLooper).add [0, 0, 1, 1, 1, 1] fun _ E s K => i_impl_Fs_find_0 (killE ks_impl_Fs_find_0 E) s fun b_1 b_2 e_3 x_4 x_5 e_6 f_7 x_8 x_9 x_10 => l_impl_Fs_find_0 N b_1 b_2 e_6 f_7 x_8 x_9 x_10 (kk0_impl_Fs_find_0 K b_1 b_2 e_6 f_7 x_8 x_9 x_10) (kk1_impl_Fs_find_0 K b_1 b_2 e_6 f_7 x_8 x_9 x_10) N e_3 x_4 x_5
theorem ok_impl_Fs_find_0 {N : Nat} (hC : Ok Tryd.prog C) (hΦ : CalleeOk Tryd.prog C (Φ_slCc N)) : LoopOk Tryd.prog C (Λ_impl_Fs_find_0 N) b_impl_Fs_find_0 [0, 0, 1, 1, 1, 1] :=
  iter_ok (Λi := noLooper) (tr := true) (ks := ks_impl_Fs_find_0) (kx := kx_impl_Fs_find_0) (N := N) hC hΦ
    (loopsOk_nil (by kernel_rfl))
    fun R E s K r h => by
      have h2 := Looper.add_self.symm.trans h
      obtain ⟨_, _, _, _, _, _, _, _, _, _, he, rfl, h3⟩ := i_impl_Fs_find_0_spec h2
      rw [he]
      exact (w_impl_Fs_find_0 N _ _ _ _ _ _ _ _ N _ _ _).trans h3
theorem at_impl_Fs_find : loopsAt c_impl_Fs_find [] = [([0, 0, 1, 1, 1, 1], b_impl_Fs_find_0)] := by kernel_rfl
theorem b_impl_Fs_find {R : Type} (N : Nat) (e_1 : List V) (f_2 : Fl) (x_3 x_4 x_5 : Int) (w_6 : ByteArray) (b_7 : Bool) (K : V → S → Option R) : bodyV C (Φ_slCc N) (Λ_impl_Fs_find_0 N) 25 Tryd.f25 [.agg [.list 7 e_1 f_2, .int .i64 x_3], .agg [.int .i64 x_4, .int .i64 x_5], .str w_6, .bool b_7] [] K =
  gb_impl_Fs_find N e_1 f_2 x_3 x_4 x_5 w_6 b_7 (fun x_8 x_9 => K (.tuple [.int .i64 x_8, .int .i64 x_9]) []) := by kernel_rfl
theorem loops_impl_Fs_find {N : Nat} (hC : Ok Tryd.prog C) (hΦ : CalleeOk Tryd.prog C (Φ_slCc N)) : LoopsOk Tryd.prog C (Λ_impl_Fs_find_0 N) c_impl_Fs_find [] :=
  loopsOk_of c_impl_Fs_find [] (by
    rw [at_impl_Fs_find]
    intro p hp
    simp only [List.mem_cons, List.mem_nil_iff, or_false] at hp
    rcases hp with rfl
    · exact (ok_impl_Fs_find_0 hC hΦ))
theorem callee_impl_Fs_find (hC : Ok Tryd.prog C) {N : Nat} (hΦ : CalleeOk Tryd.prog C (Φ_slCc N)) : CalleeOk Tryd.prog C (Φ_impl_Fs_find N) := by
  refine hΦ.add_pure rfl fun R vs K r h => ?_
  unfold f_impl_Fs_find at h
  obtain ⟨_, _, _, _, rfl, h1⟩ := asN4_some h
  obtain ⟨_, _, _, rfl, h2⟩ := un_impl_Fs_some h1
  obtain ⟨_, _, rfl, h3⟩ := un_impl_Cred_some h2
  obtain ⟨_, rfl, h4⟩ := asStr_some h3
  obtain ⟨_, rfl, h5⟩ := asBool_some h4
  obtain ⟨_, h6⟩ := asEnd_some h5
  refine body_pure (fn := Tryd.f25) (c := c_impl_Fs_find) hC hΦ Tryd.func25 (by kernel_rfl) (by kernel_rfl) (loops_impl_Fs_find (N := N) hC hΦ) rfl rfl ?_
  refine (b_impl_Fs_find N _ _ _ _ _ _ _ _).trans ?_
  rw [← g_impl_Fs_find_eq]
  exact h6

/-! ### (loop.example/g00756/impl.Fs).file -/
noncomputable def f_impl_Fs_file (N : Nat) : (R : Type) → List V → S → (V → S → Option R) → Option R := fun _ vs s K =>
  asN4 vs fun v'1 v'2 v'3 v'4 => un_impl_Fs v'1 fun e_1 f_2 x_3 => un_impl_Cred v'2 fun x_4 x_5 => asStr v'3 fun w_6 => asInt .i64 v'4 fun x_7 => asEnd s <| g_impl_Fs_file N e_1 f_2 x_3 x_4 x_5 w_6 x_7 (fun x_8 x_9 => K (.tuple [.int .i64 x_8, .int .i64 x_9]) [])
noncomputable def Φ_impl_Fs_file (N : Nat) : Callee := (Φ_impl_Fs_find N).add 28 (f_impl_Fs_file N)
noncomputable def c_impl_Fs_file : Code := bodyOf Tryd.f28
theorem b_impl_Fs_file {R : Type} (N : Nat) (e_1 : List V) (f_2 : Fl) (x_3 x_4 x_5 : Int) (w_6 : ByteArray) (x_7 : Int) (K : V → S → Option R) : bodyV C (Φ_impl_Fs_find N) (noLooper) 28 Tryd.f28 [.agg [.list 7 e_1 f_2, .int .i64 x_3], .agg [.int .i64 x_4, .int .i64 x_5], .str w_6, .int .i64 x_7] [] K =
  gb_impl_Fs_file N e_1 f_2 x_3 x_4 x_5 w_6 x_7 (fun x_8 x_9 => K (.tuple [.int .i64 x_8, .int .i64 x_9]) []) := by kernel_rfl
theorem callee_impl_Fs_file (hC : Ok Tryd.prog C) {N : Nat} (hΦ : CalleeOk Tryd.prog C (Φ_impl_Fs_find N)) : CalleeOk Tryd.prog C (Φ_impl_Fs_file N) := by
  refine hΦ.add_pure rfl fun R vs K r h => ?_
  unfold f_impl_Fs_file at h
  obtain ⟨_, _, _, _, rfl, h1⟩ := asN4_some h
  obtain ⟨_, _, _, rfl, h2⟩ := un_impl_Fs_some h1
  obtain ⟨_, _, rfl, h3⟩ := un_impl_Cred_some h2
  obtain ⟨_, rfl, h4⟩ := asStr_some h3
  obtain ⟨_, rfl, h5⟩ := asInt_some h4
  obtain ⟨_, h6⟩ := asEnd_some h5
  refine body_pure (fn := Tryd.f28) (c := c_impl_Fs_file) hC hΦ Tryd.func28 (by kernel_rfl) (by kernel_rfl) (loopsOk_nil (Λ := noLooper) (by kernel_rfl)) rfl rfl ?_
  refine (b_impl_Fs_file N _ _ _ _ _ _ _ _).trans ?_
  rw [← g_impl_Fs_file_eq]
  exact h6

/-! ### loop.example/g00756/impl.ReadFile -/
noncomputable def f_impl_ReadFile (N : Nat) : (R : Type) → List V → S → (V → S → Option R) → Option R := fun _ vs s K =>
  asN3 vs fun v'1 v'2 v'3 => un_impl_Fs v'1 fun e_1 f_2 x_3 => un_impl_Cred v'2 fun x_4 x_5 => asStr v'3 fun w_6 => asEnd s <| g_impl_ReadFile N e_1 f_2 x_3 x_4 x_5 w_6 (fun w_7 x_8 b_9 => K (.tuple [.str w_7, .int .i64 x_8, .bool b_9]) [])
noncomputable def Φ_impl_ReadFile (N : Nat) : Callee := (Φ_impl_Fs_file N).add 16 (f_impl_ReadFile N)
noncomputable def c_impl_ReadFile : Code := bodyOf Tryd.f16
theorem b_impl_ReadFile {R : Type} (N : Nat) (e_1 : List V) (f_2 : Fl) (x_3 x_4 x_5 : Int) (w_6 : ByteArray) (K : V → S → Option R) : bodyV C (Φ_impl_Fs_file N) (noLooper) 16 Tryd.f16 [.agg [.list 7 e_1 f_2, .int .i64 x_3], .agg [.int .i64 x_4, .int .i64 x_5], .str w_6] [] K =
  gb_impl_ReadFile N e_1 f_2 x_3 x_4 x_5 w_6 (fun w_7 x_8 b_9 => K (.tuple [.str w_7, .int .i64 x_8, .bool b_9]) []) := by kernel_rfl
theorem callee_impl_ReadFile (hC : Ok Tryd.prog C) {N : Nat} (hΦ : CalleeOk Tryd.prog C (Φ_impl_Fs_file N)) : CalleeOk Tryd.prog C (Φ_impl_ReadFile N) := by
  refine hΦ.add_pure rfl fun R vs K r h => ?_
  unfold f_impl_ReadFile at h
  obtain ⟨_, _, _, rfl, h1⟩ := asN3_some h
  obtain ⟨_, _, _, rfl, h2⟩ := un_impl_Fs_some h1
  obtain ⟨_, _, rfl, h3⟩ := un_impl_Cred_some h2
  obtain ⟨_, rfl, h4⟩ := asStr_some h3
  obtain ⟨_, h5⟩ := asEnd_some h4
  refine body_pure (fn := Tryd.f16) (c := c_impl_ReadFile) hC hΦ Tryd.func16 (by kernel_rfl) (by kernel_rfl) (loopsOk_nil (Λ := noLooper) (by kernel_rfl)) rfl rfl ?_
  refine (b_impl_ReadFile N _ _ _ _ _ _ _).trans ?_
  rw [← g_impl_ReadFile_eq]
  exact h5

/-! ### loop.example/g00756/laws.FnExactReadFile -/
noncomputable def f_laws_FnExactReadFile (N : Nat) : (R : Type) → List V → S → (V → S → Option R) → Option R := fun _ vs s K =>
  asN3 vs fun v'1 v'2 v'3 => un_laws_Fs v'1 fun e_1 f_2 x_3 => un_laws_Cred v'2 fun x_4 x_5 => asStr v'3 fun w_6 => asEnd s <| g_laws_FnExactReadFile N e_1 f_2 x_3 x_4 x_5 w_6 (fun b_7 => K (.bool b_7) [])
noncomputable def Φ_laws_FnExactReadFile (N : Nat) : Callee := (Φ_impl_ReadFile N).add 5 (f_laws_FnExactReadFile N)
noncomputable def c_laws_FnExactReadFile : Code := bodyOf Tryd.f5
theorem b_laws_FnExactReadFile {R : Type} (N : Nat) (e_1 : List V) (f_2 : Fl) (x_3 x_4 x_5 : Int) (w_6 : ByteArray) (K : V → S → Option R) : bodyV C (Φ_impl_ReadFile N) (noLooper) 5 Tryd.f5 [.agg [.list 7 e_1 f_2, .int .i64 x_3], .agg [.int .i64 x_4, .int .i64 x_5], .str w_6] [] K =
  gb_laws_FnExactReadFile N e_1 f_2 x_3 x_4 x_5 w_6 (fun b_7 => K (.bool b_7) []) := by kernel_rfl
theorem callee_laws_FnExactReadFile (hC : Ok Tryd.prog C) {N : Nat} (hΦ : CalleeOk Tryd.prog C (Φ_impl_ReadFile N)) : CalleeOk Tryd.prog C (Φ_laws_FnExactReadFile N) := by
  refine hΦ.add_pure rfl fun R vs K r h => ?_
  unfold f_laws_FnExactReadFile at h
  obtain ⟨_, _, _, rfl, h1⟩ := asN3_some h
  obtain ⟨_, _, _, rfl, h2⟩ := un_laws_Fs_some h1
  obtain ⟨_, _, rfl, h3⟩ := un_laws_Cred_some h2
  obtain ⟨_, rfl, h4⟩ := asStr_some h3
  obtain ⟨_, h5⟩ := asEnd_some h4
  refine body_pure (fn := Tryd.f5) (c := c_laws_FnExactReadFile) hC hΦ Tryd.func5 (by kernel_rfl) (by kernel_rfl) (loopsOk_nil (Λ := noLooper) (by kernel_rfl)) rfl rfl ?_
  refine (b_laws_FnExactReadFile N _ _ _ _ _ _ _).trans ?_
  rw [← g_laws_FnExactReadFile_eq]
  exact h5
theorem callee_laws_FnExactReadFile_prev (hC : Ok Tryd.prog C) (N : Nat) : CalleeOk Tryd.prog C (Φ_impl_ReadFile N) :=
  have h0 := noCallee_ok Tryd.prog C
  have h1 := callee_laws_szEntry hC (N := N) h0
  have h2 := callee_laws_szEntryS hC (N := N) h1
  have h3 := callee_laws_szNode hC (N := N) h2
  have h4 := callee_laws_szNodeS hC (N := N) h3
  have h5 := callee_laws_szFs hC (N := N) h4
  have h6 := callee_laws_toEntry hC (N := N) h5
  have h7 := callee_laws_toEntryS hC (N := N) h6
  have h8 := callee_laws_toNode hC (N := N) h7
  have h9 := callee_laws_toNodeS hC (N := N) h8
  have h10 := callee_laws_toFs hC (N := N) h9
  have h11 := callee_laws_toCred hC (N := N) h10
  have h12 := callee_laws_eqEntry hC (N := N) h11
  have h13 := callee_laws_eqEntryS hC (N := N) h12
  have h14 := callee_laws_eqNode hC (N := N) h13
  have h15 := callee_laws_eqNodeS hC (N := N) h14
  have h16 := callee_laws_eqFs hC (N := N) h15
  have h17 := callee_spec_l3Links hC (N := N) h16
  have h18 := callee_spec_l1In hC (N := N) h17
  have h19 := callee_spec_l3Bytes hC (N := N) h18
  have h20 := callee_spec_l1Split hC (N := N) h19
  have h21 := callee_spec_l2Parts hC (N := N) h20
  have h22 := callee_spec_l2Name hC (N := N) h21
  have h23 := callee_spec_l2Path hC (N := N) h22
  have h24 := callee_spec_l1Mode hC (N := N) h23
  have h25 := callee_spec_l3Entries hC (N := N) h24
  have h26 := callee_spec_l3Node hC (N := N) h25
  have h27 := callee_spec_l1Has hC (N := N) h26
  have h28 := callee_spec_l1Put hC (N := N) h27
  have h29 := callee_spec_l3Met hC (N := N) h28
  have h30 := callee_spec_l3Good hC (N := N) h29
  have h31 := callee_spec_l1Cred hC (N := N) h30
  have h32 := callee_spec_l4Asked hC (N := N) h31
  have h33 := callee_spec_l2Whole hC (N := N) h32
  have h34 := callee_spec_l1May hC (N := N) h33
  have h35 := callee_spec_l4May hC (N := N) h34
  have h36 := callee_spec_l3Parent hC (N := N) h35
  have h37 := callee_spec_l3At hC (N := N) h36
  have h38 := callee_spec_l4W_step hC (N := N) h37
  have h39 := callee_spec_l4Find hC (N := N) h38
  have h40 := callee_spec_l6File hC (N := N) h39
  have h41 := callee_spec_ReadFile hC (N := N) h40
  have h42 := callee_impl_Fs_links hC (N := N) h41
  have h43 := callee_impl_within hC (N := N) h42
  have h44 := callee_impl_isRoom hC (N := N) h43
  have h45 := callee_impl_isId hC (N := N) h44
  have h46 := callee_byg_IndexByteString hC (N := N) h45
  have h47 := callee_sli_IndexByte hC (N := N) h46
  have h48 := callee_sli_Index hC (N := N) h47
  have h49 := callee_strings_Index hC (N := N) h48
  have h50 := callee_byg_CountString hC (N := N) h49
  have h51 := callee_strings_Count hC (N := N) h50
  have h52 := callee_strings_genSplit hC (N := N) h51
  have h53 := callee_strings_Split hC (N := N) h52
  have h54 := callee_impl_partsOf_c1 hC (N := N) h53
  have h55 := callee_slIFp hC (N := N) h54
  have h56 := callee_slDFp hC (N := N) h55
  have h57 := callee_impl_partsOf hC (N := N) h56
  have h58 := callee_impl_isNameByte hC (N := N) h57
  have h59 := callee_impl_isPart_c1 hC (N := N) h58
  have h60 := callee_slIFb hC (N := N) h59
  have h61 := callee_slCFb hC (N := N) h60
  have h62 := callee_impl_isPart hC (N := N) h61
  have h63 := callee_impl_isLong_c1 hC (N := N) h62
  have h64 := callee_slIFl hC (N := N) h63
  have h65 := callee_slCFl hC (N := N) h64
  have h66 := callee_impl_isLong hC (N := N) h65
  have h67 := callee_impl_GoodPath hC (N := N) h66
  have h68 := callee_impl_Node_isFree hC (N := N) h67
  have h69 := callee_impl_isMode hC (N := N) h68
  have h70 := callee_impl_isTime hC (N := N) h69
  have h71 := callee_impl_isDots hC (N := N) h70
  have h72 := callee_impl_GoodName hC (N := N) h71
  have h73 := callee_impl_Fs_isThere hC (N := N) h72
  have h74 := callee_impl_Fs_isNode hC (N := N) h73
  have h75 := callee_impl_Fs_bytesIn hC (N := N) h74
  have h76 := callee_impl_GoodFs hC (N := N) h75
  have h77 := callee_impl_GoodCred hC (N := N) h76
  have h78 := callee_impl_isAsked hC (N := N) h77
  have h79 := callee_impl_isWhole hC (N := N) h78
  have h80 := callee_sli_HasSuffix hC (N := N) h79
  have h81 := callee_strings_HasSuffix hC (N := N) h80
  have h82 := callee_impl_Fs_isDir hC (N := N) h81
  have h83 := callee_impl_Cred_may hC (N := N) h82
  have h84 := callee_impl_Fs_mayAt hC (N := N) h83
  have h85 := callee_impl_Fs_parent hC (N := N) h84
  have h86 := callee_impl_Fs_entry hC (N := N) h85
  have h87 := callee_slGr hC (N := N) h86
  have h88 := callee_slCc hC (N := N) h87
  have h89 := callee_impl_Fs_find hC (N := N) h88
  have h90 := callee_impl_Fs_file hC (N := N) h89
  have h91 := callee_impl_ReadFile hC (N := N) h90
  h91

end Go.VM.VL
