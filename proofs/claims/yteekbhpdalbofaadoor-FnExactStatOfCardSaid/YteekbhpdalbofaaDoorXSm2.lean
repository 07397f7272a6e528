/- The functions of the program, told plainly: what each computes, as a function of its letters; and that the machine does the same. Printed by vgen.py, a program of this session's own. -/
import Derived.Test.YteekbhpdalbofaaDoorXSm1
set_option linter.unusedVariables false
namespace Go.VM.VL
open Go.Proofs
noncomputable def f_zax (N : Nat) : (R : Type) → List V → S → (V → S → Option R) → Option R := fun _ vs s K =>
  asN1 vs fun v'1 => asStr v'1 fun w_1 => asEnd s <| g_zax N w_1 (fun b_2 => K (.bool b_2) [])
noncomputable def Φ_zax (N : Nat) : Callee := (Φ_zcl N).add 94 (f_zax N)
noncomputable def c_zax : Code := bodyOf Tryd.f94
theorem b_zax {R : Type} (N : Nat) (w_1 : ByteArray) (K : V → S → Option R) : bodyV C (Φ_zcl N) (noLooper) 94 Tryd.f94 [.str w_1] [] K =
  gb_zax N w_1 (fun b_2 => K (.bool b_2) []) := by kernel_rfl
theorem callee_zax (hC : Ok Tryd.prog C) {N : Nat} (hΦ : CalleeOk Tryd.prog C (Φ_zcl N)) : CalleeOk Tryd.prog C (Φ_zax N) := by
  refine hΦ.add_pure rfl fun R vs K r h => ?_
  unfold f_zax at h
  obtain ⟨_, rfl, h1⟩ := asN1_some h
  obtain ⟨_, rfl, h2⟩ := asStr_some h1
  obtain ⟨_, h3⟩ := asEnd_some h2
  refine body_pure (fn := Tryd.f94) (c := c_zax) hC hΦ Tryd.func94 (by kernel_rfl) (by kernel_rfl) (loopsOk_nil (Λ := noLooper) (by kernel_rfl)) rfl rfl ?_
  refine (b_zax N _ _).trans ?_
  rw [← g_zax_eq]
  exact h3
noncomputable def f_zad (N : Nat) : (R : Type) → List V → S → (V → S → Option R) → Option R := fun _ vs s K =>
  asN2 vs fun v'1 v'2 => asList 1 v'1 fun e_1 f_2 => asFn 94 v'2 fun c'3 => asN0 c'3 <| asEnd s <| g_zad N e_1 f_2 (fun x_3 => K (.int .i64 x_3) [])
noncomputable def Φ_zad (N : Nat) : Callee := (Φ_zax N).addIf 88 (fun l => isFn 1 94 l) (f_zad N)
noncomputable def c_zad : Code := bodyOf Tryd.f88
noncomputable def b_zad_0 : Code := (loopNo c_zad [] 0).2
def ks_zad_0 : List Nat := butL 19 [0, 1, 7, 8]
def kx_zad_0 : List Nat := butL 19 [4]
def fr_zad_0 (e_1 : List V) (f_2 : Fl) (x_3 x_4 : Int) : List V := mkF 0 19 [(0, .list 1 e_1 f_2), (1, .fn 94 []), (7, .int .i64 x_3), (8, .int .i64 x_4)]
def kk0_zad_0 {R : Type} (K : X → List V → S → Option R) (e_1 : List V) (f_2 : Fl) (x_3 : Int) : Int → Option R := (fun x_1' => K .ret (mkF 0 19 [(4, .int .i64 (x_1'))]) [])
def kk1_zad_0 {R : Type} (K : X → List V → S → Option R) (e_1 : List V) (f_2 : Fl) (x_3 : Int) : Unit → Option R := (fun _ => K (.exit 0) (mkF 0 19 []) [])
noncomputable abbrev it_zad_0 {R : Type} (N : Nat) : Nat → List V → S → (X → List V → S → Option R) → Option R := fun n => iter C (Φ_zax N) (noLooper) b_zad_0 [0, 1, 0, 1] false ks_zad_0 kx_zad_0 n R
theorem r_zad_0 {R : Type} (N n : Nat) (e_1 : List V) (f_2 : Fl) (x_3 : Int) (x_4 : Int) (K : X → List V → S → Option R) :
  it_zad_0 N (n + 1) (fr_zad_0 e_1 f_2 x_3 x_4) [] K =
  l_zad_0_step N e_1 f_2 x_3 (fun x_4 => it_zad_0 N n (fr_zad_0 e_1 f_2 x_3 x_4) [] K) x_4 (kk0_zad_0 K e_1 f_2 x_3) (kk1_zad_0 K e_1 f_2 x_3) := by kernel_rfl
theorem w_zad_0 {R : Type} (N : Nat) (e_1 : List V) (f_2 : Fl) (x_3 : Int) (K : X → List V → S → Option R) : ∀ (n : Nat) (x_4 : Int),
  it_zad_0 N n (fr_zad_0 e_1 f_2 x_3 x_4) [] K = l_zad_0 N e_1 f_2 x_3 (kk0_zad_0 K e_1 f_2 x_3) (kk1_zad_0 K e_1 f_2 x_3) n x_4
  | 0, _ => rfl
  | n + 1, x_4 => (r_zad_0 N n e_1 f_2 x_3 x_4 K).trans (congrArg (fun nx => l_zad_0_step N e_1 f_2 x_3 nx x_4 (kk0_zad_0 K e_1 f_2 x_3) (kk1_zad_0 K e_1 f_2 x_3)) (funext fun x_4 => w_zad_0 N e_1 f_2 x_3 K n x_4))
def i_zad_0 {R : Type} (E : List V) (s : S) (k : List V → Fl → Int → Int → Option R) : Option R :=
  guardB (frameOk 19 [0, 1, 7, 8] E) <| atList E 0 1 fun e_1 f_2 => must (nth E 1) fun u1 => asFn 94 u1 fun c'1 => asN0 c'1 <| atInt E 7 .i64 fun x_3 => atInt E 8 .i64 fun x_4 => asEnd s <| k e_1 f_2 x_3 x_4
theorem i_zad_0_spec {R : Type} {E : List V} {s : S} {k : List V → Fl → Int → Int → Option R} {r : R} (h : i_zad_0 E s k = some r) : ∃ e_1 f_2 x_3 x_4, E = fr_zad_0 e_1 f_2 x_3 x_4 ∧ s = [] ∧ k e_1 f_2 x_3 x_4 = some r := by
  unfold i_zad_0 at h
  obtain ⟨hg, h1⟩ := guardB_some h
  obtain ⟨_, _, hu0, h2⟩ := atList_some h1
  obtain ⟨_, hu1, h3⟩ := must_some h2
  obtain ⟨_, rfl, h4⟩ := asFn_some h3
  obtain ⟨rfl, h5⟩ := asN0_some h4
  obtain ⟨_, hu7, h6⟩ := atInt_some h5
  obtain ⟨_, hu8, h7⟩ := atInt_some h6
  obtain ⟨rfl, h8⟩ := asEnd_some h7
  exact ⟨_, _, _, _, frame_is hg rfl (slots_cons hu0 (slots_cons hu1 (slots_cons hu7 (slots_cons hu8 slots_nil)))), rfl, h8⟩
noncomputable def Λ_zad_0 (N : Nat) : Looper := (noLooper).add [0, 1, 0, 1] fun _ E s K => i_zad_0 (killE ks_zad_0 E) s fun e_1 f_2 x_3 x_4 => l_zad_0 N e_1 f_2 x_3 (kk0_zad_0 K e_1 f_2 x_3) (kk1_zad_0 K e_1 f_2 x_3) N x_4
theorem ok_zad_0 {N : Nat} (hC : Ok Tryd.prog C) (hΦ : CalleeOk Tryd.prog C (Φ_zax N)) : LoopOk Tryd.prog C (Λ_zad_0 N) b_zad_0 [0, 1, 0, 1] :=
  iter_ok (Λi := noLooper) (tr := false) (ks := ks_zad_0) (kx := kx_zad_0) (N := N) hC hΦ
    (loopsOk_nil (by kernel_rfl))
    fun R E s K r h => by
      have h2 := Looper.add_self.symm.trans h
      obtain ⟨_, _, _, _, he, rfl, h3⟩ := i_zad_0_spec h2
      rw [he]
      exact (w_zad_0 N _ _ _ _ N _).trans h3
theorem at_zad : loopsAt c_zad [] = [([0, 1, 0, 1], b_zad_0)] := by kernel_rfl
theorem b_zad {R : Type} (N : Nat) (e_1 : List V) (f_2 : Fl) (K : V → S → Option R) : bodyV C (Φ_zax N) (Λ_zad_0 N) 88 Tryd.f88 [.list 1 e_1 f_2, .fn 94 []] [] K =
  gb_zad N e_1 f_2 (fun x_3 => K (.int .i64 x_3) []) := by kernel_rfl
theorem loops_zad {N : Nat} (hC : Ok Tryd.prog C) (hΦ : CalleeOk Tryd.prog C (Φ_zax N)) : LoopsOk Tryd.prog C (Λ_zad_0 N) c_zad [] :=
  loopsOk_of c_zad [] (by
    rw [at_zad]
    intro p hp
    simp only [List.mem_cons, List.mem_nil_iff, or_false] at hp
    rcases hp with rfl
    · exact (ok_zad_0 hC hΦ))
theorem callee_zad (hC : Ok Tryd.prog C) {N : Nat} (hΦ : CalleeOk Tryd.prog C (Φ_zax N)) : CalleeOk Tryd.prog C (Φ_zad N) := by
  refine hΦ.addIf_pure rfl fun R vs K r h => ?_
  unfold f_zad at h
  obtain ⟨_, _, rfl, h1⟩ := asN2_some h
  obtain ⟨_, _, rfl, h2⟩ := asList_some h1
  obtain ⟨_, rfl, h3⟩ := asFn_some h2
  obtain ⟨rfl, h4⟩ := asN0_some h3
  obtain ⟨_, h5⟩ := asEnd_some h4
  refine body_pure (fn := Tryd.f88) (c := c_zad) hC hΦ Tryd.func88 (by kernel_rfl) (by kernel_rfl) (loops_zad (N := N) hC hΦ) rfl rfl ?_
  refine (b_zad N _ _ _).trans ?_
  rw [← g_zad_eq]
  exact h5
noncomputable def f_zaa (N : Nat) : (R : Type) → List V → S → (V → S → Option R) → Option R := fun _ vs s K =>
  asN2 vs fun v'1 v'2 => asList 1 v'1 fun e_1 f_2 => asFn 94 v'2 fun c'3 => asN0 c'3 <| asEnd s <| g_zaa N e_1 f_2 (fun b_3 => K (.bool b_3) [])
noncomputable def Φ_zaa (N : Nat) : Callee := (Φ_zad N).addIf 93 (fun l => isFn 1 94 l) (f_zaa N)
noncomputable def c_zaa : Code := bodyOf Tryd.f93
theorem b_zaa {R : Type} (N : Nat) (e_1 : List V) (f_2 : Fl) (K : V → S → Option R) : bodyV C (Φ_zad N) (noLooper) 93 Tryd.f93 [.list 1 e_1 f_2, .fn 94 []] [] K =
  gb_zaa N e_1 f_2 (fun b_3 => K (.bool b_3) []) := by kernel_rfl
theorem callee_zaa (hC : Ok Tryd.prog C) {N : Nat} (hΦ : CalleeOk Tryd.prog C (Φ_zad N)) : CalleeOk Tryd.prog C (Φ_zaa N) := by
  refine hΦ.addIf_pure rfl fun R vs K r h => ?_
  unfold f_zaa at h
  obtain ⟨_, _, rfl, h1⟩ := asN2_some h
  obtain ⟨_, _, rfl, h2⟩ := asList_some h1
  obtain ⟨_, rfl, h3⟩ := asFn_some h2
  obtain ⟨rfl, h4⟩ := asN0_some h3
  obtain ⟨_, h5⟩ := asEnd_some h4
  refine body_pure (fn := Tryd.f93) (c := c_zaa) hC hΦ Tryd.func93 (by kernel_rfl) (by kernel_rfl) (loopsOk_nil (Λ := noLooper) (by kernel_rfl)) rfl rfl ?_
  refine (b_zaa N _ _ _).trans ?_
  rw [← g_zaa_eq]
  exact h5
noncomputable def f_zcj (N : Nat) : (R : Type) → List V → S → (V → S → Option R) → Option R := fun _ vs s K =>
  asN1 vs fun v'1 => asStr v'1 fun w_1 => asEnd s <| g_zcj N w_1 (fun b_2 => K (.bool b_2) [])
noncomputable def Φ_zcj (N : Nat) : Callee := (Φ_zaa N).add 87 (f_zcj N)
noncomputable def c_zcj : Code := bodyOf Tryd.f87
theorem b_zcj {R : Type} (N : Nat) (w_1 : ByteArray) (K : V → S → Option R) : bodyV C (Φ_zaa N) (noLooper) 87 Tryd.f87 [.str w_1] [] K =
  gb_zcj N w_1 (fun b_2 => K (.bool b_2) []) := by kernel_rfl
theorem callee_zcj (hC : Ok Tryd.prog C) {N : Nat} (hΦ : CalleeOk Tryd.prog C (Φ_zaa N)) : CalleeOk Tryd.prog C (Φ_zcj N) := by
  refine hΦ.add_pure rfl fun R vs K r h => ?_
  unfold f_zcj at h
  obtain ⟨_, rfl, h1⟩ := asN1_some h
  obtain ⟨_, rfl, h2⟩ := asStr_some h1
  obtain ⟨_, h3⟩ := asEnd_some h2
  refine body_pure (fn := Tryd.f87) (c := c_zcj) hC hΦ Tryd.func87 (by kernel_rfl) (by kernel_rfl) (loopsOk_nil (Λ := noLooper) (by kernel_rfl)) rfl rfl ?_
  refine (b_zcj N _ _).trans ?_
  rw [← g_zcj_eq]
  exact h3
noncomputable def f_zbh (N : Nat) : (R : Type) → List V → S → (V → S → Option R) → Option R := fun _ vs s K =>
  asN1 vs fun v'1 => asStr v'1 fun w_1 => asEnd s <| g_zbh N w_1 (fun b_2 => K (.bool b_2) [])
noncomputable def Φ_zbh (N : Nat) : Callee := (Φ_zcj N).add 67 (f_zbh N)
noncomputable def c_zbh : Code := bodyOf Tryd.f67
theorem b_zbh {R : Type} (N : Nat) (w_1 : ByteArray) (K : V → S → Option R) : bodyV C (Φ_zcj N) (noLooper) 67 Tryd.f67 [.str w_1] [] K =
  gb_zbh N w_1 (fun b_2 => K (.bool b_2) []) := by kernel_rfl
theorem callee_zbh (hC : Ok Tryd.prog C) {N : Nat} (hΦ : CalleeOk Tryd.prog C (Φ_zcj N)) : CalleeOk Tryd.prog C (Φ_zbh N) := by
  refine hΦ.add_pure rfl fun R vs K r h => ?_
  unfold f_zbh at h
  obtain ⟨_, rfl, h1⟩ := asN1_some h
  obtain ⟨_, rfl, h2⟩ := asStr_some h1
  obtain ⟨_, h3⟩ := asEnd_some h2
  refine body_pure (fn := Tryd.f67) (c := c_zbh) hC hΦ Tryd.func67 (by kernel_rfl) (by kernel_rfl) (loopsOk_nil (Λ := noLooper) (by kernel_rfl)) rfl rfl ?_
  refine (b_zbh N _ _).trans ?_
  rw [← g_zbh_eq]
  exact h3
noncomputable def f_zap (N : Nat) : (R : Type) → List V → S → (V → S → Option R) → Option R := fun _ vs s K =>
  asN1 vs fun v'1 => un_impl_Node v'1 fun x_1 x_2 x_3 x_4 x_5 w_6 e_7 f_8 => asEnd s <| g_zap N x_1 x_2 x_3 x_4 x_5 w_6 e_7 f_8 (fun b_9 => K (.bool b_9) [])
noncomputable def Φ_zap (N : Nat) : Callee := (Φ_zbh N).add 82 (f_zap N)
noncomputable def c_zap : Code := bodyOf Tryd.f82
theorem b_zap {R : Type} (N : Nat) (x_1 x_2 x_3 x_4 x_5 : Int) (w_6 : ByteArray) (e_7 : List V) (f_8 : Fl) (K : V → S → Option R) : bodyV C (Φ_zbh N) (noLooper) 82 Tryd.f82 [.agg [.int .i64 x_1, .int .i64 x_2, .int .i64 x_3, .int .i64 x_4, .int .i64 x_5, .str w_6, .list 2 e_7 f_8]] [] K =
  gb_zap N x_1 x_2 x_3 x_4 x_5 w_6 e_7 f_8 (fun b_9 => K (.bool b_9) []) := by kernel_rfl
theorem callee_zap (hC : Ok Tryd.prog C) {N : Nat} (hΦ : CalleeOk Tryd.prog C (Φ_zbh N)) : CalleeOk Tryd.prog C (Φ_zap N) := by
  refine hΦ.add_pure rfl fun R vs K r h => ?_
  unfold f_zap at h
  obtain ⟨_, rfl, h1⟩ := asN1_some h
  obtain ⟨_, _, _, _, _, _, _, _, rfl, h2⟩ := un_impl_Node_some h1
  obtain ⟨_, h3⟩ := asEnd_some h2
  refine body_pure (fn := Tryd.f82) (c := c_zap) hC hΦ Tryd.func82 (by kernel_rfl) (by kernel_rfl) (loopsOk_nil (Λ := noLooper) (by kernel_rfl)) rfl rfl ?_
  refine (b_zap N _ _ _ _ _ _ _ _ _).trans ?_
  rw [← g_zap_eq]
  exact h3
noncomputable def f_zck (N : Nat) : (R : Type) → List V → S → (V → S → Option R) → Option R := fun _ vs s K =>
  asN1 vs fun v'1 => asInt .i64 v'1 fun x_1 => asEnd s <| g_zck N x_1 (fun b_2 => K (.bool b_2) [])
noncomputable def Φ_zck (N : Nat) : Callee := (Φ_zap N).add 83 (f_zck N)
noncomputable def c_zck : Code := bodyOf Tryd.f83
theorem b_zck {R : Type} (N : Nat) (x_1 : Int) (K : V → S → Option R) : bodyV C (Φ_zap N) (noLooper) 83 Tryd.f83 [.int .i64 x_1] [] K =
  gb_zck N x_1 (fun b_2 => K (.bool b_2) []) := by kernel_rfl
theorem callee_zck (hC : Ok Tryd.prog C) {N : Nat} (hΦ : CalleeOk Tryd.prog C (Φ_zap N)) : CalleeOk Tryd.prog C (Φ_zck N) := by
  refine hΦ.add_pure rfl fun R vs K r h => ?_
  unfold f_zck at h
  obtain ⟨_, rfl, h1⟩ := asN1_some h
  obtain ⟨_, rfl, h2⟩ := asInt_some h1
  obtain ⟨_, h3⟩ := asEnd_some h2
  refine body_pure (fn := Tryd.f83) (c := c_zck) hC hΦ Tryd.func83 (by kernel_rfl) (by kernel_rfl) (loopsOk_nil (Λ := noLooper) (by kernel_rfl)) rfl rfl ?_
  refine (b_zck N _ _).trans ?_
  rw [← g_zck_eq]
  exact h3
noncomputable def f_zcn (N : Nat) : (R : Type) → List V → S → (V → S → Option R) → Option R := fun _ vs s K =>
  asN1 vs fun v'1 => asInt .i64 v'1 fun x_1 => asEnd s <| g_zcn N x_1 (fun b_2 => K (.bool b_2) [])
noncomputable def Φ_zcn (N : Nat) : Callee := (Φ_zck N).add 84 (f_zcn N)
noncomputable def c_zcn : Code := bodyOf Tryd.f84
theorem b_zcn {R : Type} (N : Nat) (x_1 : Int) (K : V → S → Option R) : bodyV C (Φ_zck N) (noLooper) 84 Tryd.f84 [.int .i64 x_1] [] K =
  gb_zcn N x_1 (fun b_2 => K (.bool b_2) []) := by kernel_rfl
theorem callee_zcn (hC : Ok Tryd.prog C) {N : Nat} (hΦ : CalleeOk Tryd.prog C (Φ_zck N)) : CalleeOk Tryd.prog C (Φ_zcn N) := by
  refine hΦ.add_pure rfl fun R vs K r h => ?_
  unfold f_zcn at h
  obtain ⟨_, rfl, h1⟩ := asN1_some h
  obtain ⟨_, rfl, h2⟩ := asInt_some h1
  obtain ⟨_, h3⟩ := asEnd_some h2
  refine body_pure (fn := Tryd.f84) (c := c_zcn) hC hΦ Tryd.func84 (by kernel_rfl) (by kernel_rfl) (loopsOk_nil (Λ := noLooper) (by kernel_rfl)) rfl rfl ?_
  refine (b_zcn N _ _).trans ?_
  rw [← g_zcn_eq]
  exact h3
noncomputable def f_zci (N : Nat) : (R : Type) → List V → S → (V → S → Option R) → Option R := fun _ vs s K =>
  asN1 vs fun v'1 => asStr v'1 fun w_1 => asEnd s <| g_zci N w_1 (fun b_2 => K (.bool b_2) [])
noncomputable def Φ_zci (N : Nat) : Callee := (Φ_zcn N).add 92 (f_zci N)
noncomputable def c_zci : Code := bodyOf Tryd.f92
theorem b_zci {R : Type} (N : Nat) (w_1 : ByteArray) (K : V → S → Option R) : bodyV C (Φ_zcn N) (noLooper) 92 Tryd.f92 [.str w_1] [] K =
  gb_zci N w_1 (fun b_2 => K (.bool b_2) []) := by kernel_rfl
theorem callee_zci (hC : Ok Tryd.prog C) {N : Nat} (hΦ : CalleeOk Tryd.prog C (Φ_zcn N)) : CalleeOk Tryd.prog C (Φ_zci N) := by
  refine hΦ.add_pure rfl fun R vs K r h => ?_
  unfold f_zci at h
  obtain ⟨_, rfl, h1⟩ := asN1_some h
  obtain ⟨_, rfl, h2⟩ := asStr_some h1
  obtain ⟨_, h3⟩ := asEnd_some h2
  refine body_pure (fn := Tryd.f92) (c := c_zci) hC hΦ Tryd.func92 (by kernel_rfl) (by kernel_rfl) (loopsOk_nil (Λ := noLooper) (by kernel_rfl)) rfl rfl ?_
  refine (b_zci N _ _).trans ?_
  rw [← g_zci_eq]
  exact h3
noncomputable def f_zbg (N : Nat) : (R : Type) → List V → S → (V → S → Option R) → Option R := fun _ vs s K =>
  asN1 vs fun v'1 => asStr v'1 fun w_1 => asEnd s <| g_zbg N w_1 (fun b_2 => K (.bool b_2) [])
noncomputable def Φ_zbg (N : Nat) : Callee := (Φ_zci N).add 85 (f_zbg N)
noncomputable def c_zbg : Code := bodyOf Tryd.f85
theorem b_zbg {R : Type} (N : Nat) (w_1 : ByteArray) (K : V → S → Option R) : bodyV C (Φ_zci N) (noLooper) 85 Tryd.f85 [.str w_1] [] K =
  gb_zbg N w_1 (fun b_2 => K (.bool b_2) []) := by kernel_rfl
theorem callee_zbg (hC : Ok Tryd.prog C) {N : Nat} (hΦ : CalleeOk Tryd.prog C (Φ_zci N)) : CalleeOk Tryd.prog C (Φ_zbg N) := by
  refine hΦ.add_pure rfl fun R vs K r h => ?_
  unfold f_zbg at h
  obtain ⟨_, rfl, h1⟩ := asN1_some h
  obtain ⟨_, rfl, h2⟩ := asStr_some h1
  obtain ⟨_, h3⟩ := asEnd_some h2
  refine body_pure (fn := Tryd.f85) (c := c_zbg) hC hΦ Tryd.func85 (by kernel_rfl) (by kernel_rfl) (loopsOk_nil (Λ := noLooper) (by kernel_rfl)) rfl rfl ?_
  refine (b_zbg N _ _).trans ?_
  rw [← g_zbg_eq]
  exact h3
noncomputable def f_zas (N : Nat) : (R : Type) → List V → S → (V → S → Option R) → Option R := fun _ vs s K =>
  asN2 vs fun v'1 v'2 => un_impl_Fs v'1 fun e_1 f_2 x_3 => asInt .i64 v'2 fun x_4 => asEnd s <| g_zas N e_1 f_2 x_3 x_4 (fun b_5 => K (.bool b_5) [])
noncomputable def Φ_zas (N : Nat) : Callee := (Φ_zbg N).add 86 (f_zas N)
noncomputable def c_zas : Code := bodyOf Tryd.f86
theorem b_zas {R : Type} (N : Nat) (e_1 : List V) (f_2 : Fl) (x_3 x_4 : Int) (K : V → S → Option R) : bodyV C (Φ_zbg N) (noLooper) 86 Tryd.f86 [.agg [.list 7 e_1 f_2, .int .i64 x_3], .int .i64 x_4] [] K =
  gb_zas N e_1 f_2 x_3 x_4 (fun b_5 => K (.bool b_5) []) := by kernel_rfl
theorem callee_zas (hC : Ok Tryd.prog C) {N : Nat} (hΦ : CalleeOk Tryd.prog C (Φ_zbg N)) : CalleeOk Tryd.prog C (Φ_zas N) := by
  refine hΦ.add_pure rfl fun R vs K r h => ?_
  unfold f_zas at h
  obtain ⟨_, _, rfl, h1⟩ := asN2_some h
  obtain ⟨_, _, _, rfl, h2⟩ := un_impl_Fs_some h1
  obtain ⟨_, rfl, h3⟩ := asInt_some h2
  obtain ⟨_, h4⟩ := asEnd_some h3
  refine body_pure (fn := Tryd.f86) (c := c_zas) hC hΦ Tryd.func86 (by kernel_rfl) (by kernel_rfl) (loopsOk_nil (Λ := noLooper) (by kernel_rfl)) rfl rfl ?_
  refine (b_zas N _ _ _ _ _).trans ?_
  rw [← g_zas_eq]
  exact h4
noncomputable def f_zav (N : Nat) : (R : Type) → List V → S → (V → S → Option R) → Option R := fun _ vs s K =>
  asN2 vs fun v'1 v'2 => un_impl_Fs v'1 fun e_1 f_2 x_3 => un_impl_Node v'2 fun x_4 x_5 x_6 x_7 x_8 w_9 e_10 f_11 => asEnd s <| g_zav N e_1 f_2 x_3 x_4 x_5 x_6 x_7 x_8 w_9 e_10 f_11 (fun b_12 => K (.bool b_12) [])
noncomputable def Φ_zav (N : Nat) : Callee := (Φ_zas N).add 64 (f_zav N)
noncomputable def c_zav : Code := bodyOf Tryd.f64
noncomputable def b_zav_0 : Code := (loopNo c_zav [] 0).2
def ks_zav_0 : List Nat := butL 99 [2, 3, 61, 62, 63]
def kx_zav_0 : List Nat := butL 99 [3, 4]
def fr_zav_0 (e_1 : List V) (f_2 : Fl) (x_3 : Int) (e_5 : List V) (f_6 : Fl) (x_7 x_8 x_9 x_10 x_11 x_12 : Int) (w_13 : ByteArray) (e_14 : List V) (f_15 : Fl) (x_4 : Int) : List V := mkF 0 99 [(2, .ptr 0 0 0 0), (3, .ptr 1 0 0 0), (61, .list 2 e_1 f_2), (62, .int .i64 x_3), (63, .int .i64 x_4)]
def kk0_zav_0 {R : Type} (K : X → List V → S → Option R) (e_1 : List V) (f_2 : Fl) (x_3 : Int) (e_5 : List V) (f_6 : Fl) (x_7 : Int) (x_8 : Int) (x_9 : Int) (x_10 : Int) (x_11 : Int) (x_12 : Int) (w_13 : ByteArray) (e_14 : List V) (f_15 : Fl) : Unit → Option R := (fun _ => K .ret (mkF 0 99 [(3, .ptr 1 0 0 0), (4, .bool false)]) [some ⟨[.agg [.list 7 e_5 f_6, .int .i64 x_7]], 2, 32, 0⟩, some ⟨[.agg [.int .i64 x_8, .int .i64 x_9, .int .i64 x_10, .int .i64 x_11, .int .i64 x_12, .str w_13, .list 2 e_14 f_15]], 7, 55, 0⟩])
def kk1_zav_0 {R : Type} (K : X → List V → S → Option R) (e_1 : List V) (f_2 : Fl) (x_3 : Int) (e_5 : List V) (f_6 : Fl) (x_7 : Int) (x_8 : Int) (x_9 : Int) (x_10 : Int) (x_11 : Int) (x_12 : Int) (w_13 : ByteArray) (e_14 : List V) (f_15 : Fl) : Unit → Option R := (fun _ => K (.exit 1) (mkF 0 99 [(3, .ptr 1 0 0 0)]) [some ⟨[.agg [.list 7 e_5 f_6, .int .i64 x_7]], 2, 32, 0⟩, some ⟨[.agg [.int .i64 x_8, .int .i64 x_9, .int .i64 x_10, .int .i64 x_11, .int .i64 x_12, .str w_13, .list 2 e_14 f_15]], 7, 55, 0⟩])
noncomputable abbrev it_zav_0 {R : Type} (N : Nat) : Nat → List V → S → (X → List V → S → Option R) → Option R := fun n => iter C (Φ_zas N) (noLooper) b_zav_0 [0, 1, 0, 0, 1, 1, 1, 1, 1, 0, 1, 0, 1, 1, 1] true ks_zav_0 kx_zav_0 n R
theorem r_zav_0 {R : Type} (N n : Nat) (e_1 : List V) (f_2 : Fl) (x_3 : Int) (e_5 : List V) (f_6 : Fl) (x_7 x_8 x_9 x_10 x_11 x_12 : Int) (w_13 : ByteArray) (e_14 : List V) (f_15 : Fl) (x_4 : Int) (K : X → List V → S → Option R) :
  it_zav_0 N (n + 1) (fr_zav_0 e_1 f_2 x_3 e_5 f_6 x_7 x_8 x_9 x_10 x_11 x_12 w_13 e_14 f_15 x_4) [some ⟨[.agg [.list 7 e_5 f_6, .int .i64 x_7]], 2, 32, 0⟩, some ⟨[.agg [.int .i64 x_8, .int .i64 x_9, .int .i64 x_10, .int .i64 x_11, .int .i64 x_12, .str w_13, .list 2 e_14 f_15]], 7, 55, 0⟩] K =
  l_zav_0_step N e_1 f_2 x_3 e_5 f_6 x_7 x_8 x_9 x_10 x_11 x_12 w_13 e_14 f_15 (fun x_4 => it_zav_0 N n (fr_zav_0 e_1 f_2 x_3 e_5 f_6 x_7 x_8 x_9 x_10 x_11 x_12 w_13 e_14 f_15 x_4) [some ⟨[.agg [.list 7 e_5 f_6, .int .i64 x_7]], 2, 32, 0⟩, some ⟨[.agg [.int .i64 x_8, .int .i64 x_9, .int .i64 x_10, .int .i64 x_11, .int .i64 x_12, .str w_13, .list 2 e_14 f_15]], 7, 55, 0⟩] K) x_4 (kk0_zav_0 K e_1 f_2 x_3 e_5 f_6 x_7 x_8 x_9 x_10 x_11 x_12 w_13 e_14 f_15) (kk1_zav_0 K e_1 f_2 x_3 e_5 f_6 x_7 x_8 x_9 x_10 x_11 x_12 w_13 e_14 f_15) := by kernel_rfl
theorem w_zav_0 {R : Type} (N : Nat) (e_1 : List V) (f_2 : Fl) (x_3 : Int) (e_5 : List V) (f_6 : Fl) (x_7 x_8 x_9 x_10 x_11 x_12 : Int) (w_13 : ByteArray) (e_14 : List V) (f_15 : Fl) (K : X → List V → S → Option R) : ∀ (n : Nat) (x_4 : Int),
  it_zav_0 N n (fr_zav_0 e_1 f_2 x_3 e_5 f_6 x_7 x_8 x_9 x_10 x_11 x_12 w_13 e_14 f_15 x_4) [some ⟨[.agg [.list 7 e_5 f_6, .int .i64 x_7]], 2, 32, 0⟩, some ⟨[.agg [.int .i64 x_8, .int .i64 x_9, .int .i64 x_10, .int .i64 x_11, .int .i64 x_12, .str w_13, .list 2 e_14 f_15]], 7, 55, 0⟩] K = l_zav_0 N e_1 f_2 x_3 e_5 f_6 x_7 x_8 x_9 x_10 x_11 x_12 w_13 e_14 f_15 (kk0_zav_0 K e_1 f_2 x_3 e_5 f_6 x_7 x_8 x_9 x_10 x_11 x_12 w_13 e_14 f_15) (kk1_zav_0 K e_1 f_2 x_3 e_5 f_6 x_7 x_8 x_9 x_10 x_11 x_12 w_13 e_14 f_15) n x_4
  | 0, _ => rfl
  | n + 1, x_4 => (r_zav_0 N n e_1 f_2 x_3 e_5 f_6 x_7 x_8 x_9 x_10 x_11 x_12 w_13 e_14 f_15 x_4 K).trans (congrArg (fun nx => l_zav_0_step N e_1 f_2 x_3 e_5 f_6 x_7 x_8 x_9 x_10 x_11 x_12 w_13 e_14 f_15 nx x_4 (kk0_zav_0 K e_1 f_2 x_3 e_5 f_6 x_7 x_8 x_9 x_10 x_11 x_12 w_13 e_14 f_15) (kk1_zav_0 K e_1 f_2 x_3 e_5 f_6 x_7 x_8 x_9 x_10 x_11 x_12 w_13 e_14 f_15)) (funext fun x_4 => w_zav_0 N e_1 f_2 x_3 e_5 f_6 x_7 x_8 x_9 x_10 x_11 x_12 w_13 e_14 f_15 K n x_4))
def i_zav_0 {R : Type} (E : List V) (s : S) (k : List V → Fl → Int → Int → List V → Fl → Int → Int → Int → Int → Int → Int → ByteArray → List V → Fl → Option R) : Option R :=
  guardB (frameOk 99 [2, 3, 61, 62, 63] E) <| atIs E 2 (.ptr 0 0 0 0) <| atIs E 3 (.ptr 1 0 0 0) <| atList E 61 2 fun e_1 f_2 => atInt E 62 .i64 fun x_3 => atInt E 63 .i64 fun x_4 => asOb s fun o'1 s'2 => obIs o'1 2 32 fun e'3 k'4 => isN k'4 0 <| asN1 e'3 fun v'5 => asAgg v'5 fun c'6 => asN2 c'6 fun v'7 v'8 => asList 7 v'7 fun e_5 f_6 => asInt .i64 v'8 fun x_7 => asOb s'2 fun o'9 s'10 => obIs o'9 7 55 fun e'11 k'12 => isN k'12 0 <| asN1 e'11 fun v'13 => asAgg v'13 fun c'14 => asN7 c'14 fun v'15 v'16 v'17 v'18 v'19 v'20 v'21 => asInt .i64 v'15 fun x_8 => asInt .i64 v'16 fun x_9 => asInt .i64 v'17 fun x_10 => asInt .i64 v'18 fun x_11 => asInt .i64 v'19 fun x_12 => asStr v'20 fun w_13 => asList 2 v'21 fun e_14 f_15 => asEnd s'10 <| k e_1 f_2 x_3 x_4 e_5 f_6 x_7 x_8 x_9 x_10 x_11 x_12 w_13 e_14 f_15
theorem i_zav_0_spec {R : Type} {E : List V} {s : S} {k : List V → Fl → Int → Int → List V → Fl → Int → Int → Int → Int → Int → Int → ByteArray → List V → Fl → Option R} {r : R} (h : i_zav_0 E s k = some r) : ∃ e_1 f_2 x_3 x_4 e_5 f_6 x_7 x_8 x_9 x_10 x_11 x_12 w_13 e_14 f_15, E = fr_zav_0 e_1 f_2 x_3 e_5 f_6 x_7 x_8 x_9 x_10 x_11 x_12 w_13 e_14 f_15 x_4 ∧ s = [some ⟨[.agg [.list 7 e_5 f_6, .int .i64 x_7]], 2, 32, 0⟩, some ⟨[.agg [.int .i64 x_8, .int .i64 x_9, .int .i64 x_10, .int .i64 x_11, .int .i64 x_12, .str w_13, .list 2 e_14 f_15]], 7, 55, 0⟩] ∧ k e_1 f_2 x_3 x_4 e_5 f_6 x_7 x_8 x_9 x_10 x_11 x_12 w_13 e_14 f_15 = some r := by
  unfold i_zav_0 at h
  obtain ⟨hg, h1⟩ := guardB_some h
  obtain ⟨hu2, h2⟩ := atIs_some h1
  obtain ⟨hu3, h3⟩ := atIs_some h2
  obtain ⟨_, _, hu61, h4⟩ := atList_some h3
  obtain ⟨_, hu62, h5⟩ := atInt_some h4
  obtain ⟨_, hu63, h6⟩ := atInt_some h5
  obtain ⟨_, _, rfl, h7⟩ := asOb_some h6
  obtain ⟨_, _, rfl, h8⟩ := obIs_some h7
  obtain ⟨rfl, h9⟩ := isN_some h8
  obtain ⟨_, rfl, h10⟩ := asN1_some h9
  obtain ⟨_, rfl, h11⟩ := asAgg_some h10
  obtain ⟨_, _, rfl, h12⟩ := asN2_some h11
  obtain ⟨_, _, rfl, h13⟩ := asList_some h12
  obtain ⟨_, rfl, h14⟩ := asInt_some h13
  obtain ⟨_, _, rfl, h15⟩ := asOb_some h14
  obtain ⟨_, _, rfl, h16⟩ := obIs_some h15
  obtain ⟨rfl, h17⟩ := isN_some h16
  obtain ⟨_, rfl, h18⟩ := asN1_some h17
  obtain ⟨_, rfl, h19⟩ := asAgg_some h18
  obtain ⟨_, _, _, _, _, _, _, rfl, h20⟩ := asN7_some h19
  obtain ⟨_, rfl, h21⟩ := asInt_some h20
  obtain ⟨_, rfl, h22⟩ := asInt_some h21
  obtain ⟨_, rfl, h23⟩ := asInt_some h22
  obtain ⟨_, rfl, h24⟩ := asInt_some h23
  obtain ⟨_, rfl, h25⟩ := asInt_some h24
  obtain ⟨_, rfl, h26⟩ := asStr_some h25
  obtain ⟨_, _, rfl, h27⟩ := asList_some h26
  obtain ⟨rfl, h28⟩ := asEnd_some h27
  exact ⟨_, _, _, _, _, _, _, _, _, _, _, _, _, _, _, frame_is hg rfl (slots_cons hu2 (slots_cons hu3 (slots_cons hu61 (slots_cons hu62 (slots_cons hu63 slots_nil))))), rfl, h28⟩
noncomputable def Λ_zav_0 (N : Nat) : Looper := (noLooper).add [0, 1, 0, 0, 1, 1, 1, 1, 1, 0, 1, 0, 1, 1, 1] fun _ E s K => i_zav_0 (killE ks_zav_0 E) s fun e_1 f_2 x_3 x_4 e_5 f_6 x_7 x_8 x_9 x_10 x_11 x_12 w_13 e_14 f_15 => l_zav_0 N e_1 f_2 x_3 e_5 f_6 x_7 x_8 x_9 x_10 x_11 x_12 w_13 e_14 f_15 (kk0_zav_0 K e_1 f_2 x_3 e_5 f_6 x_7 x_8 x_9 x_10 x_11 x_12 w_13 e_14 f_15) (kk1_zav_0 K e_1 f_2 x_3 e_5 f_6 x_7 x_8 x_9 x_10 x_11 x_12 w_13 e_14 f_15) N x_4
theorem ok_zav_0 {N : Nat} (hC : Ok Tryd.prog C) (hΦ : CalleeOk Tryd.prog C (Φ_zas N)) : LoopOk Tryd.prog C (Λ_zav_0 N) b_zav_0 [0, 1, 0, 0, 1, 1, 1, 1, 1, 0, 1, 0, 1, 1, 1] :=
  iter_ok (Λi := noLooper) (tr := true) (ks := ks_zav_0) (kx := kx_zav_0) (N := N) hC hΦ
    (loopsOk_nil (by kernel_rfl))
    fun R E s K r h => by
      have h2 := Looper.add_self.symm.trans h
      obtain ⟨_, _, _, _, _, _, _, _, _, _, _, _, _, _, _, he, rfl, h3⟩ := i_zav_0_spec h2
      rw [he]
      exact (w_zav_0 N _ _ _ _ _ _ _ _ _ _ _ _ _ _ _ N _).trans h3
theorem at_zav : loopsAt c_zav [] = [([0, 1, 0, 0, 1, 1, 1, 1, 1, 0, 1, 0, 1, 1, 1], b_zav_0)] := by kernel_rfl
theorem b_zav {R : Type} (N : Nat) (e_1 : List V) (f_2 : Fl) (x_3 x_4 x_5 x_6 x_7 x_8 : Int) (w_9 : ByteArray) (e_10 : List V) (f_11 : Fl) (K : V → S → Option R) : bodyV C (Φ_zas N) (Λ_zav_0 N) 64 Tryd.f64 [.agg [.list 7 e_1 f_2, .int .i64 x_3], .agg [.int .i64 x_4, .int .i64 x_5, .int .i64 x_6, .int .i64 x_7, .int .i64 x_8, .str w_9, .list 2 e_10 f_11]] [] K =
  gb_zav N e_1 f_2 x_3 x_4 x_5 x_6 x_7 x_8 w_9 e_10 f_11 (fun b_12 => K (.bool b_12) []) := by kernel_rfl
theorem loops_zav {N : Nat} (hC : Ok Tryd.prog C) (hΦ : CalleeOk Tryd.prog C (Φ_zas N)) : LoopsOk Tryd.prog C (Λ_zav_0 N) c_zav [] :=
  loopsOk_of c_zav [] (by
    rw [at_zav]
    intro p hp
    simp only [List.mem_cons, List.mem_nil_iff, or_false] at hp
    rcases hp with rfl
    · exact (ok_zav_0 hC hΦ))
theorem callee_zav (hC : Ok Tryd.prog C) {N : Nat} (hΦ : CalleeOk Tryd.prog C (Φ_zas N)) : CalleeOk Tryd.prog C (Φ_zav N) := by
  refine hΦ.add_pure rfl fun R vs K r h => ?_
  unfold f_zav at h
  obtain ⟨_, _, rfl, h1⟩ := asN2_some h
  obtain ⟨_, _, _, rfl, h2⟩ := un_impl_Fs_some h1
  obtain ⟨_, _, _, _, _, _, _, _, rfl, h3⟩ := un_impl_Node_some h2
  obtain ⟨_, h4⟩ := asEnd_some h3
  refine body_pure (fn := Tryd.f64) (c := c_zav) hC hΦ Tryd.func64 (by kernel_rfl) (by kernel_rfl) (loops_zav (N := N) hC hΦ) rfl rfl ?_
  refine (b_zav N _ _ _ _ _ _ _ _ _ _ _ _).trans ?_
  rw [← g_zav_eq]
  exact h4
noncomputable def f_zar (N : Nat) : (R : Type) → List V → S → (V → S → Option R) → Option R := fun _ vs s K =>
  asN1 vs fun v'1 => un_impl_Fs v'1 fun e_1 f_2 x_3 => asEnd s <| g_zar N e_1 f_2 x_3 (fun x_4 => K (.int .i64 x_4) [])
noncomputable def Φ_zar (N : Nat) : Callee := (Φ_zav N).add 65 (f_zar N)
noncomputable def c_zar : Code := bodyOf Tryd.f65
noncomputable def b_zar_0 : Code := (loopNo c_zar [] 0).2
def ks_zar_0 : List Nat := butL 20 [3, 7, 8, 9]
def kx_zar_0 : List Nat := butL 20 [3]
def fr_zar_0 (e_2 : List V) (f_3 : Fl) (x_4 : Int) (e_6 : List V) (f_7 : Fl) (x_8 x_1 x_5 : Int) : List V := mkF 0 20 [(3, .int .i64 x_1), (7, .list 7 e_2 f_3), (8, .int .i64 x_4), (9, .int .i64 x_5)]
def kk0_zar_0 {R : Type} (K : X → List V → S → Option R) (e_2 : List V) (f_3 : Fl) (x_4 : Int) (e_6 : List V) (f_7 : Fl) (x_8 : Int) : Int → Option R := (fun x_1' => K (.exit 0) (mkF 0 20 [(3, .int .i64 (x_1'))]) [some ⟨[.agg [.list 7 e_6 f_7, .int .i64 x_8]], 2, 32, 0⟩])
noncomputable abbrev it_zar_0 {R : Type} (N : Nat) : Nat → List V → S → (X → List V → S → Option R) → Option R := fun n => iter C (Φ_zav N) (noLooper) b_zar_0 [0, 1, 0, 1, 1] true ks_zar_0 kx_zar_0 n R
theorem r_zar_0 {R : Type} (N n : Nat) (e_2 : List V) (f_3 : Fl) (x_4 : Int) (e_6 : List V) (f_7 : Fl) (x_8 : Int) (x_1 x_5 : Int) (K : X → List V → S → Option R) :
  it_zar_0 N (n + 1) (fr_zar_0 e_2 f_3 x_4 e_6 f_7 x_8 x_1 x_5) [some ⟨[.agg [.list 7 e_6 f_7, .int .i64 x_8]], 2, 32, 0⟩] K =
  l_zar_0_step N e_2 f_3 x_4 e_6 f_7 x_8 (fun x_1 x_5 => it_zar_0 N n (fr_zar_0 e_2 f_3 x_4 e_6 f_7 x_8 x_1 x_5) [some ⟨[.agg [.list 7 e_6 f_7, .int .i64 x_8]], 2, 32, 0⟩] K) x_1 x_5 (kk0_zar_0 K e_2 f_3 x_4 e_6 f_7 x_8) := by kernel_rfl
theorem w_zar_0 {R : Type} (N : Nat) (e_2 : List V) (f_3 : Fl) (x_4 : Int) (e_6 : List V) (f_7 : Fl) (x_8 : Int) (K : X → List V → S → Option R) : ∀ (n : Nat) (x_1 x_5 : Int),
  it_zar_0 N n (fr_zar_0 e_2 f_3 x_4 e_6 f_7 x_8 x_1 x_5) [some ⟨[.agg [.list 7 e_6 f_7, .int .i64 x_8]], 2, 32, 0⟩] K = l_zar_0 N e_2 f_3 x_4 e_6 f_7 x_8 (kk0_zar_0 K e_2 f_3 x_4 e_6 f_7 x_8) n x_1 x_5
  | 0, _, _ => rfl
  | n + 1, x_1, x_5 => (r_zar_0 N n e_2 f_3 x_4 e_6 f_7 x_8 x_1 x_5 K).trans (congrArg (fun nx => l_zar_0_step N e_2 f_3 x_4 e_6 f_7 x_8 nx x_1 x_5 (kk0_zar_0 K e_2 f_3 x_4 e_6 f_7 x_8)) (funext fun x_1 => funext fun x_5 => w_zar_0 N e_2 f_3 x_4 e_6 f_7 x_8 K n x_1 x_5))
def i_zar_0 {R : Type} (E : List V) (s : S) (k : Int → List V → Fl → Int → Int → List V → Fl → Int → Option R) : Option R :=
  guardB (frameOk 20 [3, 7, 8, 9] E) <| atInt E 3 .i64 fun x_1 => atList E 7 7 fun e_2 f_3 => atInt E 8 .i64 fun x_4 => atInt E 9 .i64 fun x_5 => asOb s fun o'1 s'2 => obIs o'1 2 32 fun e'3 k'4 => isN k'4 0 <| asN1 e'3 fun v'5 => asAgg v'5 fun c'6 => asN2 c'6 fun v'7 v'8 => asList 7 v'7 fun e_6 f_7 => asInt .i64 v'8 fun x_8 => asEnd s'2 <| k x_1 e_2 f_3 x_4 x_5 e_6 f_7 x_8
theorem i_zar_0_spec {R : Type} {E : List V} {s : S} {k : Int → List V → Fl → Int → Int → List V → Fl → Int → Option R} {r : R} (h : i_zar_0 E s k = some r) : ∃ x_1 e_2 f_3 x_4 x_5 e_6 f_7 x_8, E = fr_zar_0 e_2 f_3 x_4 e_6 f_7 x_8 x_1 x_5 ∧ s = [some ⟨[.agg [.list 7 e_6 f_7, .int .i64 x_8]], 2, 32, 0⟩] ∧ k x_1 e_2 f_3 x_4 x_5 e_6 f_7 x_8 = some r := by
  unfold i_zar_0 at h
  obtain ⟨hg, h1⟩ := guardB_some h
  obtain ⟨_, hu3, h2⟩ := atInt_some h1
  obtain ⟨_, _, hu7, h3⟩ := atList_some h2
  obtain ⟨_, hu8, h4⟩ := atInt_some h3
  obtain ⟨_, hu9, h5⟩ := atInt_some h4
  obtain ⟨_, _, rfl, h6⟩ := asOb_some h5
  obtain ⟨_, _, rfl, h7⟩ := obIs_some h6
  obtain ⟨rfl, h8⟩ := isN_some h7
  obtain ⟨_, rfl, h9⟩ := asN1_some h8
  obtain ⟨_, rfl, h10⟩ := asAgg_some h9
  obtain ⟨_, _, rfl, h11⟩ := asN2_some h10
  obtain ⟨_, _, rfl, h12⟩ := asList_some h11
  obtain ⟨_, rfl, h13⟩ := asInt_some h12
  obtain ⟨rfl, h14⟩ := asEnd_some h13
  exact ⟨_, _, _, _, _, _, _, _, frame_is hg rfl (slots_cons hu3 (slots_cons hu7 (slots_cons hu8 (slots_cons hu9 slots_nil)))), rfl, h14⟩
noncomputable def Λ_zar_0 (N : Nat) : Looper := (noLooper).add [0, 1, 0, 1, 1] fun _ E s K => i_zar_0 (killE ks_zar_0 E) s fun x_1 e_2 f_3 x_4 x_5 e_6 f_7 x_8 => l_zar_0 N e_2 f_3 x_4 e_6 f_7 x_8 (kk0_zar_0 K e_2 f_3 x_4 e_6 f_7 x_8) N x_1 x_5
theorem ok_zar_0 {N : Nat} (hC : Ok Tryd.prog C) (hΦ : CalleeOk Tryd.prog C (Φ_zav N)) : LoopOk Tryd.prog C (Λ_zar_0 N) b_zar_0 [0, 1, 0, 1, 1] :=
  iter_ok (Λi := noLooper) (tr := true) (ks := ks_zar_0) (kx := kx_zar_0) (N := N) hC hΦ
    (loopsOk_nil (by kernel_rfl))
    fun R E s K r h => by
      have h2 := Looper.add_self.symm.trans h
      obtain ⟨_, _, _, _, _, _, _, _, he, rfl, h3⟩ := i_zar_0_spec h2
      rw [he]
      exact (w_zar_0 N _ _ _ _ _ _ _ N _ _).trans h3
theorem at_zar : loopsAt c_zar [] = [([0, 1, 0, 1, 1], b_zar_0)] := by kernel_rfl
theorem b_zar {R : Type} (N : Nat) (e_1 : List V) (f_2 : Fl) (x_3 : Int) (K : V → S → Option R) : bodyV C (Φ_zav N) (Λ_zar_0 N) 65 Tryd.f65 [.agg [.list 7 e_1 f_2, .int .i64 x_3]] [] K =
  gb_zar N e_1 f_2 x_3 (fun x_4 => K (.int .i64 x_4) []) := by kernel_rfl
theorem loops_zar {N : Nat} (hC : Ok Tryd.prog C) (hΦ : CalleeOk Tryd.prog C (Φ_zav N)) : LoopsOk Tryd.prog C (Λ_zar_0 N) c_zar [] :=
  loopsOk_of c_zar [] (by
    rw [at_zar]
    intro p hp
    simp only [List.mem_cons, List.mem_nil_iff, or_false] at hp
    rcases hp with rfl
    · exact (ok_zar_0 hC hΦ))
theorem callee_zar (hC : Ok Tryd.prog C) {N : Nat} (hΦ : CalleeOk Tryd.prog C (Φ_zav N)) : CalleeOk Tryd.prog C (Φ_zar N) := by
  refine hΦ.add_pure rfl fun R vs K r h => ?_
  unfold f_zar at h
  obtain ⟨_, rfl, h1⟩ := asN1_some h
  obtain ⟨_, _, _, rfl, h2⟩ := un_impl_Fs_some h1
  obtain ⟨_, h3⟩ := asEnd_some h2
  refine body_pure (fn := Tryd.f65) (c := c_zar) hC hΦ Tryd.func65 (by kernel_rfl) (by kernel_rfl) (loops_zar (N := N) hC hΦ) rfl rfl ?_
  refine (b_zar N _ _ _ _).trans ?_
  rw [← g_zar_eq]
  exact h3
noncomputable def f_zcg (N : Nat) : (R : Type) → List V → S → (V → S → Option R) → Option R := fun _ vs s K =>
  asN1 vs fun v'1 => un_impl_Fs v'1 fun e_1 f_2 x_3 => asEnd s <| g_zcg N e_1 f_2 x_3 (fun b_4 => K (.bool b_4) [])
noncomputable def Φ_zcg (N : Nat) : Callee := (Φ_zar N).add 38 (f_zcg N)
noncomputable def c_zcg : Code := bodyOf Tryd.f38
noncomputable def b_zcg_0 : Code := (loopNo c_zcg [] 0).2
noncomputable def b_zcg_1 : Code := (loopNo c_zcg [] 1).2
noncomputable def b_zcg_3 : Code := (loopNo c_zcg [] 2).2
noncomputable def b_zcg_4 : Code := (loopNo c_zcg [] 3).2
noncomputable def b_zcg_2 : Code := (loopNo b_zcg_3 (0 :: [0, 1, 0, 1, 1, 1, 1, 1, 1, 1, 1]) 0).2
def ks_zcg_0 : List Nat := butL 156 [1, 36, 37, 38]
def kx_zcg_0 : List Nat := butL 156 [1, 2]
def fr_zcg_0 (e_1 : List V) (f_2 : Fl) (x_3 : Int) (e_5 : List V) (f_6 : Fl) (x_7 x_4 : Int) : List V := mkF 0 156 [(1, .ptr 0 0 0 0), (36, .list 7 e_1 f_2), (37, .int .i64 x_3), (38, .int .i64 x_4)]
def kk0_zcg_0 {R : Type} (K : X → List V → S → Option R) (e_1 : List V) (f_2 : Fl) (x_3 : Int) (e_5 : List V) (f_6 : Fl) (x_7 : Int) : Unit → Option R := (fun _ => K .ret (mkF 0 156 [(1, .ptr 0 0 0 0), (2, .bool false)]) [some ⟨[.agg [.list 7 e_5 f_6, .int .i64 x_7]], 2, 32, 0⟩])
def kk1_zcg_0 {R : Type} (K : X → List V → S → Option R) (e_1 : List V) (f_2 : Fl) (x_3 : Int) (e_5 : List V) (f_6 : Fl) (x_7 : Int) : Unit → Option R := (fun _ => K (.exit 0) (mkF 0 156 [(1, .ptr 0 0 0 0)]) [some ⟨[.agg [.list 7 e_5 f_6, .int .i64 x_7]], 2, 32, 0⟩])
noncomputable abbrev it_zcg_0 {R : Type} (N : Nat) : Nat → List V → S → (X → List V → S → Option R) → Option R := fun n => iter C (Φ_zar N) (noLooper) b_zcg_0 [0, 1, 0, 1, 1] true ks_zcg_0 kx_zcg_0 n R
theorem r_zcg_0 {R : Type} (N n : Nat) (e_1 : List V) (f_2 : Fl) (x_3 : Int) (e_5 : List V) (f_6 : Fl) (x_7 : Int) (x_4 : Int) (K : X → List V → S → Option R) :
  it_zcg_0 N (n + 1) (fr_zcg_0 e_1 f_2 x_3 e_5 f_6 x_7 x_4) [some ⟨[.agg [.list 7 e_5 f_6, .int .i64 x_7]], 2, 32, 0⟩] K =
  l_zcg_0_step N e_1 f_2 x_3 e_5 f_6 x_7 (fun x_4 => it_zcg_0 N n (fr_zcg_0 e_1 f_2 x_3 e_5 f_6 x_7 x_4) [some ⟨[.agg [.list 7 e_5 f_6, .int .i64 x_7]], 2, 32, 0⟩] K) x_4 (kk0_zcg_0 K e_1 f_2 x_3 e_5 f_6 x_7) (kk1_zcg_0 K e_1 f_2 x_3 e_5 f_6 x_7) := by kernel_rfl
theorem w_zcg_0 {R : Type} (N : Nat) (e_1 : List V) (f_2 : Fl) (x_3 : Int) (e_5 : List V) (f_6 : Fl) (x_7 : Int) (K : X → List V → S → Option R) : ∀ (n : Nat) (x_4 : Int),
  it_zcg_0 N n (fr_zcg_0 e_1 f_2 x_3 e_5 f_6 x_7 x_4) [some ⟨[.agg [.list 7 e_5 f_6, .int .i64 x_7]], 2, 32, 0⟩] K = l_zcg_0 N e_1 f_2 x_3 e_5 f_6 x_7 (kk0_zcg_0 K e_1 f_2 x_3 e_5 f_6 x_7) (kk1_zcg_0 K e_1 f_2 x_3 e_5 f_6 x_7) n x_4
  | 0, _ => rfl
  | n + 1, x_4 => (r_zcg_0 N n e_1 f_2 x_3 e_5 f_6 x_7 x_4 K).trans (congrArg (fun nx => l_zcg_0_step N e_1 f_2 x_3 e_5 f_6 x_7 nx x_4 (kk0_zcg_0 K e_1 f_2 x_3 e_5 f_6 x_7) (kk1_zcg_0 K e_1 f_2 x_3 e_5 f_6 x_7)) (funext fun x_4 => w_zcg_0 N e_1 f_2 x_3 e_5 f_6 x_7 K n x_4))
def i_zcg_0 {R : Type} (E : List V) (s : S) (k : List V → Fl → Int → Int → List V → Fl → Int → Option R) : Option R :=
  guardB (frameOk 156 [1, 36, 37, 38] E) <| atIs E 1 (.ptr 0 0 0 0) <| atList E 36 7 fun e_1 f_2 => atInt E 37 .i64 fun x_3 => atInt E 38 .i64 fun x_4 => asOb s fun o'1 s'2 => obIs o'1 2 32 fun e'3 k'4 => isN k'4 0 <| asN1 e'3 fun v'5 => asAgg v'5 fun c'6 => asN2 c'6 fun v'7 v'8 => asList 7 v'7 fun e_5 f_6 => asInt .i64 v'8 fun x_7 => asEnd s'2 <| k e_1 f_2 x_3 x_4 e_5 f_6 x_7
theorem i_zcg_0_spec {R : Type} {E : List V} {s : S} {k : List V → Fl → Int → Int → List V → Fl → Int → Option R} {r : R} (h : i_zcg_0 E s k = some r) : ∃ e_1 f_2 x_3 x_4 e_5 f_6 x_7, E = fr_zcg_0 e_1 f_2 x_3 e_5 f_6 x_7 x_4 ∧ s = [some ⟨[.agg [.list 7 e_5 f_6, .int .i64 x_7]], 2, 32, 0⟩] ∧ k e_1 f_2 x_3 x_4 e_5 f_6 x_7 = some r := by
  unfold i_zcg_0 at h
  obtain ⟨hg, h1⟩ := guardB_some h
  obtain ⟨hu1, h2⟩ := atIs_some h1
  obtain ⟨_, _, hu36, h3⟩ := atList_some h2
  obtain ⟨_, hu37, h4⟩ := atInt_some h3
  obtain ⟨_, hu38, h5⟩ := atInt_some h4
  obtain ⟨_, _, rfl, h6⟩ := asOb_some h5
  obtain ⟨_, _, rfl, h7⟩ := obIs_some h6
  obtain ⟨rfl, h8⟩ := isN_some h7
  obtain ⟨_, rfl, h9⟩ := asN1_some h8
  obtain ⟨_, rfl, h10⟩ := asAgg_some h9
  obtain ⟨_, _, rfl, h11⟩ := asN2_some h10
  obtain ⟨_, _, rfl, h12⟩ := asList_some h11
  obtain ⟨_, rfl, h13⟩ := asInt_some h12
  obtain ⟨rfl, h14⟩ := asEnd_some h13
  exact ⟨_, _, _, _, _, _, _, frame_is hg rfl (slots_cons hu1 (slots_cons hu36 (slots_cons hu37 (slots_cons hu38 slots_nil)))), rfl, h14⟩
noncomputable def Λ_zcg_0 (N : Nat) : Looper := (noLooper).add [0, 1, 0, 1, 1] fun _ E s K => i_zcg_0 (killE ks_zcg_0 E) s fun e_1 f_2 x_3 x_4 e_5 f_6 x_7 => l_zcg_0 N e_1 f_2 x_3 e_5 f_6 x_7 (kk0_zcg_0 K e_1 f_2 x_3 e_5 f_6 x_7) (kk1_zcg_0 K e_1 f_2 x_3 e_5 f_6 x_7) N x_4
theorem ok_zcg_0 {N : Nat} (hC : Ok Tryd.prog C) (hΦ : CalleeOk Tryd.prog C (Φ_zar N)) : LoopOk Tryd.prog C (Λ_zcg_0 N) b_zcg_0 [0, 1, 0, 1, 1] :=
  iter_ok (Λi := noLooper) (tr := true) (ks := ks_zcg_0) (kx := kx_zcg_0) (N := N) hC hΦ
    (loopsOk_nil (by kernel_rfl))
    fun R E s K r h => by
      have h2 := Looper.add_self.symm.trans h
      obtain ⟨_, _, _, _, _, _, _, he, rfl, h3⟩ := i_zcg_0_spec h2
      rw [he]
      exact (w_zcg_0 N _ _ _ _ _ _ _ N _).trans h3
def ks_zcg_1 : List Nat := butL 156 [1, 5, 55, 56, 57]
def kx_zcg_1 : List Nat := butL 156 [1, 2]
def fr_zcg_1 (e_1 e_2 : List V) (f_3 : Fl) (x_4 : Int) (e_6 : List V) (f_7 : Fl) (x_8 x_5 : Int) : List V := mkF 0 156 [(1, .ptr 0 0 0 0), (5, .list 1 e_1 .sh), (55, .list 7 e_2 f_3), (56, .int .i64 x_4), (57, .int .i64 x_5)]
def kk0_zcg_1 {R : Type} (K : X → List V → S → Option R) (e_1 : List V) (e_2 : List V) (f_3 : Fl) (x_4 : Int) (e_6 : List V) (f_7 : Fl) (x_8 : Int) : Unit → Option R := (fun _ => K .ret (mkF 0 156 [(1, .ptr 0 0 0 0), (2, .bool false)]) [some ⟨[.agg [.list 7 e_6 f_7, .int .i64 x_8]], 2, 32, 0⟩])
def kk1_zcg_1 {R : Type} (K : X → List V → S → Option R) (e_1 : List V) (e_2 : List V) (f_3 : Fl) (x_4 : Int) (e_6 : List V) (f_7 : Fl) (x_8 : Int) : Unit → Option R := (fun _ => K (.exit 2) (mkF 0 156 [(1, .ptr 0 0 0 0)]) [some ⟨[.agg [.list 7 e_6 f_7, .int .i64 x_8]], 2, 32, 0⟩])
noncomputable abbrev it_zcg_1 {R : Type} (N : Nat) : Nat → List V → S → (X → List V → S → Option R) → Option R := fun n => iter C (Φ_zar N) (Λ_zcg_0 N) b_zcg_1 [0, 1, 0, 1, 1, 1, 1, 1] true ks_zcg_1 kx_zcg_1 n R
theorem r_zcg_1 {R : Type} (N n : Nat) (e_1 e_2 : List V) (f_3 : Fl) (x_4 : Int) (e_6 : List V) (f_7 : Fl) (x_8 : Int) (x_5 : Int) (K : X → List V → S → Option R) :
  it_zcg_1 N (n + 1) (fr_zcg_1 e_1 e_2 f_3 x_4 e_6 f_7 x_8 x_5) [some ⟨[.agg [.list 7 e_6 f_7, .int .i64 x_8]], 2, 32, 0⟩] K =
  l_zcg_1_step N e_1 e_2 f_3 x_4 e_6 f_7 x_8 (fun x_5 => it_zcg_1 N n (fr_zcg_1 e_1 e_2 f_3 x_4 e_6 f_7 x_8 x_5) [some ⟨[.agg [.list 7 e_6 f_7, .int .i64 x_8]], 2, 32, 0⟩] K) x_5 (kk0_zcg_1 K e_1 e_2 f_3 x_4 e_6 f_7 x_8) (kk1_zcg_1 K e_1 e_2 f_3 x_4 e_6 f_7 x_8) := by kernel_rfl
theorem w_zcg_1 {R : Type} (N : Nat) (e_1 e_2 : List V) (f_3 : Fl) (x_4 : Int) (e_6 : List V) (f_7 : Fl) (x_8 : Int) (K : X → List V → S → Option R) : ∀ (n : Nat) (x_5 : Int),
  it_zcg_1 N n (fr_zcg_1 e_1 e_2 f_3 x_4 e_6 f_7 x_8 x_5) [some ⟨[.agg [.list 7 e_6 f_7, .int .i64 x_8]], 2, 32, 0⟩] K = l_zcg_1 N e_1 e_2 f_3 x_4 e_6 f_7 x_8 (kk0_zcg_1 K e_1 e_2 f_3 x_4 e_6 f_7 x_8) (kk1_zcg_1 K e_1 e_2 f_3 x_4 e_6 f_7 x_8) n x_5
  | 0, _ => rfl
  | n + 1, x_5 => (r_zcg_1 N n e_1 e_2 f_3 x_4 e_6 f_7 x_8 x_5 K).trans (congrArg (fun nx => l_zcg_1_step N e_1 e_2 f_3 x_4 e_6 f_7 x_8 nx x_5 (kk0_zcg_1 K e_1 e_2 f_3 x_4 e_6 f_7 x_8) (kk1_zcg_1 K e_1 e_2 f_3 x_4 e_6 f_7 x_8)) (funext fun x_5 => w_zcg_1 N e_1 e_2 f_3 x_4 e_6 f_7 x_8 K n x_5))
def i_zcg_1 {R : Type} (E : List V) (s : S) (k : List V → List V → Fl → Int → Int → List V → Fl → Int → Option R) : Option R :=
  guardB (frameOk 156 [1, 5, 55, 56, 57] E) <| atIs E 1 (.ptr 0 0 0 0) <| must (nth E 5) fun u5 => asList 1 u5 fun e_1 f'1 => asSh f'1 <| atList E 55 7 fun e_2 f_3 => atInt E 56 .i64 fun x_4 => atInt E 57 .i64 fun x_5 => asOb s fun o'2 s'3 => obIs o'2 2 32 fun e'4 k'5 => isN k'5 0 <| asN1 e'4 fun v'6 => asAgg v'6 fun c'7 => asN2 c'7 fun v'8 v'9 => asList 7 v'8 fun e_6 f_7 => asInt .i64 v'9 fun x_8 => asEnd s'3 <| k e_1 e_2 f_3 x_4 x_5 e_6 f_7 x_8
theorem i_zcg_1_spec {R : Type} {E : List V} {s : S} {k : List V → List V → Fl → Int → Int → List V → Fl → Int → Option R} {r : R} (h : i_zcg_1 E s k = some r) : ∃ e_1 e_2 f_3 x_4 x_5 e_6 f_7 x_8, E = fr_zcg_1 e_1 e_2 f_3 x_4 e_6 f_7 x_8 x_5 ∧ s = [some ⟨[.agg [.list 7 e_6 f_7, .int .i64 x_8]], 2, 32, 0⟩] ∧ k e_1 e_2 f_3 x_4 x_5 e_6 f_7 x_8 = some r := by
  unfold i_zcg_1 at h
  obtain ⟨hg, h1⟩ := guardB_some h
  obtain ⟨hu1, h2⟩ := atIs_some h1
  obtain ⟨_, hu5, h3⟩ := must_some h2
  obtain ⟨_, _, rfl, h4⟩ := asList_some h3
  obtain ⟨rfl, h5⟩ := asSh_some h4
  obtain ⟨_, _, hu55, h6⟩ := atList_some h5
  obtain ⟨_, hu56, h7⟩ := atInt_some h6
  obtain ⟨_, hu57, h8⟩ := atInt_some h7
  obtain ⟨_, _, rfl, h9⟩ := asOb_some h8
  obtain ⟨_, _, rfl, h10⟩ := obIs_some h9
  obtain ⟨rfl, h11⟩ := isN_some h10
  obtain ⟨_, rfl, h12⟩ := asN1_some h11
  obtain ⟨_, rfl, h13⟩ := asAgg_some h12
  obtain ⟨_, _, rfl, h14⟩ := asN2_some h13
  obtain ⟨_, _, rfl, h15⟩ := asList_some h14
  obtain ⟨_, rfl, h16⟩ := asInt_some h15
  obtain ⟨rfl, h17⟩ := asEnd_some h16
  exact ⟨_, _, _, _, _, _, _, _, frame_is hg rfl (slots_cons hu1 (slots_cons hu5 (slots_cons hu55 (slots_cons hu56 (slots_cons hu57 slots_nil))))), rfl, h17⟩
noncomputable def Λ_zcg_1 (N : Nat) : Looper := (Λ_zcg_0 N).add [0, 1, 0, 1, 1, 1, 1, 1] fun _ E s K => i_zcg_1 (killE ks_zcg_1 E) s fun e_1 e_2 f_3 x_4 x_5 e_6 f_7 x_8 => l_zcg_1 N e_1 e_2 f_3 x_4 e_6 f_7 x_8 (kk0_zcg_1 K e_1 e_2 f_3 x_4 e_6 f_7 x_8) (kk1_zcg_1 K e_1 e_2 f_3 x_4 e_6 f_7 x_8) N x_5
theorem ok_zcg_1 {N : Nat} (hC : Ok Tryd.prog C) (hΦ : CalleeOk Tryd.prog C (Φ_zar N)) : LoopOk Tryd.prog C (Λ_zcg_1 N) b_zcg_1 [0, 1, 0, 1, 1, 1, 1, 1] :=
  iter_ok (Λi := Λ_zcg_0 N) (tr := true) (ks := ks_zcg_1) (kx := kx_zcg_1) (N := N) hC hΦ
    (loopsOk_nil (by kernel_rfl))
    fun R E s K r h => by
      have h2 := Looper.add_self.symm.trans h
      obtain ⟨_, _, _, _, _, _, _, _, he, rfl, h3⟩ := i_zcg_1_spec h2
      rw [he]
      exact (w_zcg_1 N _ _ _ _ _ _ _ _ N _).trans h3
def ks_zcg_2 : List Nat := butL 156 [1, 9, 10, 11, 109, 110, 111]
def kx_zcg_2 : List Nat := butL 156 [1, 9, 10, 11]
def fr_zcg_2 (k_1 : Nat) (x_3 : Int) (e_4 : List V) (f_5 : Fl) (x_6 : Int) (e_8 : List V) (f_9 : Fl) (x_10 : Int) (e_2 : List V) (x_7 : Int) (e_11 : List V) : List V := mkF 0 156 [(1, .ptr 0 0 0 0), (9, .arr 1 0 0 k_1), (10, .list 1 e_2 (.own 3)), (11, .int .i64 x_3), (109, .list 2 e_4 f_5), (110, .int .i64 x_6), (111, .int .i64 x_7)]
def kk0_zcg_2 {R : Type} (K : X → List V → S → Option R) (k_1 : Nat) (x_3 : Int) (e_4 : List V) (f_5 : Fl) (x_6 : Int) (e_8 : List V) (f_9 : Fl) (x_10 : Int) : List V → List V → Option R := (fun e_1' e_2' => K (.exit 7) (mkF 0 156 [(1, .ptr 0 0 0 0), (9, .arr 1 0 0 k_1), (10, .list 1 (e_1') (.own 3)), (11, .int .i64 x_3)]) [some ⟨[.agg [.list 7 e_8 f_9, .int .i64 x_10]], 2, 32, 0⟩, some ⟨e_2', 1, 4, 0⟩])
noncomputable abbrev it_zcg_2 {R : Type} (N : Nat) : Nat → List V → S → (X → List V → S → Option R) → Option R := fun n => iter C (Φ_zar N) (Λ_zcg_1 N) b_zcg_2 [0, 1, 1, 0, 0, 1, 0, 0, 1, 0, 1, 1, 1, 1, 1, 1, 1, 1] true ks_zcg_2 kx_zcg_2 n R
theorem r_zcg_2 {R : Type} (N n : Nat) (k_1 : Nat) (x_3 : Int) (e_4 : List V) (f_5 : Fl) (x_6 : Int) (e_8 : List V) (f_9 : Fl) (x_10 : Int) (e_2 : List V) (x_7 : Int) (e_11 : List V) (K : X → List V → S → Option R) :
  it_zcg_2 N (n + 1) (fr_zcg_2 k_1 x_3 e_4 f_5 x_6 e_8 f_9 x_10 e_2 x_7 e_11) [some ⟨[.agg [.list 7 e_8 f_9, .int .i64 x_10]], 2, 32, 0⟩, some ⟨e_11, 1, 4, 0⟩] K =
  l_zcg_2_step N k_1 x_3 e_4 f_5 x_6 e_8 f_9 x_10 (fun e_2 x_7 e_11 => it_zcg_2 N n (fr_zcg_2 k_1 x_3 e_4 f_5 x_6 e_8 f_9 x_10 e_2 x_7 e_11) [some ⟨[.agg [.list 7 e_8 f_9, .int .i64 x_10]], 2, 32, 0⟩, some ⟨e_11, 1, 4, 0⟩] K) e_2 x_7 e_11 (kk0_zcg_2 K k_1 x_3 e_4 f_5 x_6 e_8 f_9 x_10) := by kernel_rfl
theorem w_zcg_2 {R : Type} (N : Nat) (k_1 : Nat) (x_3 : Int) (e_4 : List V) (f_5 : Fl) (x_6 : Int) (e_8 : List V) (f_9 : Fl) (x_10 : Int) (K : X → List V → S → Option R) : ∀ (n : Nat) (e_2 : List V) (x_7 : Int) (e_11 : List V),
  it_zcg_2 N n (fr_zcg_2 k_1 x_3 e_4 f_5 x_6 e_8 f_9 x_10 e_2 x_7 e_11) [some ⟨[.agg [.list 7 e_8 f_9, .int .i64 x_10]], 2, 32, 0⟩, some ⟨e_11, 1, 4, 0⟩] K = l_zcg_2 N k_1 x_3 e_4 f_5 x_6 e_8 f_9 x_10 (kk0_zcg_2 K k_1 x_3 e_4 f_5 x_6 e_8 f_9 x_10) n e_2 x_7 e_11
  | 0, _, _, _ => rfl
  | n + 1, e_2, x_7, e_11 => (r_zcg_2 N n k_1 x_3 e_4 f_5 x_6 e_8 f_9 x_10 e_2 x_7 e_11 K).trans (congrArg (fun nx => l_zcg_2_step N k_1 x_3 e_4 f_5 x_6 e_8 f_9 x_10 nx e_2 x_7 e_11 (kk0_zcg_2 K k_1 x_3 e_4 f_5 x_6 e_8 f_9 x_10)) (funext fun e_2 => funext fun x_7 => funext fun e_11 => w_zcg_2 N k_1 x_3 e_4 f_5 x_6 e_8 f_9 x_10 K n e_2 x_7 e_11))
def i_zcg_2 {R : Type} (E : List V) (s : S) (k : Nat → List V → Int → List V → Fl → Int → Int → List V → Fl → Int → List V → Option R) : Option R :=
  guardB (frameOk 156 [1, 9, 10, 11, 109, 110, 111] E) <| atIs E 1 (.ptr 0 0 0 0) <| must (nth E 9) fun u9 => asArr u9 fun k'1 k'2 k'3 k_1 => isN k'1 1 <| isN k'2 0 <| isN k'3 0 <| must (nth E 10) fun u10 => asList 1 u10 fun e_2 f'4 => asOwn 3 f'4 <| atInt E 11 .i64 fun x_3 => atList E 109 2 fun e_4 f_5 => atInt E 110 .i64 fun x_6 => atInt E 111 .i64 fun x_7 => asOb s fun o'5 s'6 => obIs o'5 2 32 fun e'7 k'8 => isN k'8 0 <| asN1 e'7 fun v'9 => asAgg v'9 fun c'10 => asN2 c'10 fun v'11 v'12 => asList 7 v'11 fun e_8 f_9 => asInt .i64 v'12 fun x_10 => asOb s'6 fun o'13 s'14 => obIs o'13 1 4 fun e_11 k'15 => isN k'15 0 <| asEnd s'14 <| k k_1 e_2 x_3 e_4 f_5 x_6 x_7 e_8 f_9 x_10 e_11
theorem i_zcg_2_spec {R : Type} {E : List V} {s : S} {k : Nat → List V → Int → List V → Fl → Int → Int → List V → Fl → Int → List V → Option R} {r : R} (h : i_zcg_2 E s k = some r) : ∃ k_1 e_2 x_3 e_4 f_5 x_6 x_7 e_8 f_9 x_10 e_11, E = fr_zcg_2 k_1 x_3 e_4 f_5 x_6 e_8 f_9 x_10 e_2 x_7 e_11 ∧ s = [some ⟨[.agg [.list 7 e_8 f_9, .int .i64 x_10]], 2, 32, 0⟩, some ⟨e_11, 1, 4, 0⟩] ∧ k k_1 e_2 x_3 e_4 f_5 x_6 x_7 e_8 f_9 x_10 e_11 = some r := by
  unfold i_zcg_2 at h
  obtain ⟨hg, h1⟩ := guardB_some h
  obtain ⟨hu1, h2⟩ := atIs_some h1
  obtain ⟨_, hu9, h3⟩ := must_some h2
  obtain ⟨_, _, _, _, rfl, h4⟩ := asArr_some h3
  obtain ⟨rfl, h5⟩ := isN_some h4
  obtain ⟨rfl, h6⟩ := isN_some h5
  obtain ⟨rfl, h7⟩ := isN_some h6
  obtain ⟨_, hu10, h8⟩ := must_some h7
  obtain ⟨_, _, rfl, h9⟩ := asList_some h8
  obtain ⟨rfl, h10⟩ := asOwn_some h9
  obtain ⟨_, hu11, h11⟩ := atInt_some h10
  obtain ⟨_, _, hu109, h12⟩ := atList_some h11
  obtain ⟨_, hu110, h13⟩ := atInt_some h12
  obtain ⟨_, hu111, h14⟩ := atInt_some h13
  obtain ⟨_, _, rfl, h15⟩ := asOb_some h14
  obtain ⟨_, _, rfl, h16⟩ := obIs_some h15
  obtain ⟨rfl, h17⟩ := isN_some h16
  obtain ⟨_, rfl, h18⟩ := asN1_some h17
  obtain ⟨_, rfl, h19⟩ := asAgg_some h18
  obtain ⟨_, _, rfl, h20⟩ := asN2_some h19
  obtain ⟨_, _, rfl, h21⟩ := asList_some h20
  obtain ⟨_, rfl, h22⟩ := asInt_some h21
  obtain ⟨_, _, rfl, h23⟩ := asOb_some h22
  obtain ⟨_, _, rfl, h24⟩ := obIs_some h23
  obtain ⟨rfl, h25⟩ := isN_some h24
  obtain ⟨rfl, h26⟩ := asEnd_some h25
  exact ⟨_, _, _, _, _, _, _, _, _, _, _, frame_is hg rfl (slots_cons hu1 (slots_cons hu9 (slots_cons hu10 (slots_cons hu11 (slots_cons hu109 (slots_cons hu110 (slots_cons hu111 slots_nil))))))), rfl, h26⟩
noncomputable def Λ_zcg_2 (N : Nat) : Looper := (Λ_zcg_1 N).add [0, 1, 1, 0, 0, 1, 0, 0, 1, 0, 1, 1, 1, 1, 1, 1, 1, 1] fun _ E s K => i_zcg_2 (killE ks_zcg_2 E) s fun k_1 e_2 x_3 e_4 f_5 x_6 x_7 e_8 f_9 x_10 e_11 => l_zcg_2 N k_1 x_3 e_4 f_5 x_6 e_8 f_9 x_10 (kk0_zcg_2 K k_1 x_3 e_4 f_5 x_6 e_8 f_9 x_10) N e_2 x_7 e_11
theorem ok_zcg_2 {N : Nat} (hC : Ok Tryd.prog C) (hΦ : CalleeOk Tryd.prog C (Φ_zar N)) : LoopOk Tryd.prog C (Λ_zcg_2 N) b_zcg_2 [0, 1, 1, 0, 0, 1, 0, 0, 1, 0, 1, 1, 1, 1, 1, 1, 1, 1] :=
  iter_ok (Λi := Λ_zcg_1 N) (tr := true) (ks := ks_zcg_2) (kx := kx_zcg_2) (N := N) hC hΦ
    (loopsOk_nil (by kernel_rfl))
    fun R E s K r h => by
      have h2 := Looper.add_self.symm.trans h
      obtain ⟨_, _, _, _, _, _, _, _, _, _, _, he, rfl, h3⟩ := i_zcg_2_spec h2
      rw [he]
      exact (w_zcg_2 N _ _ _ _ _ _ _ _ _ N _ _ _).trans h3
def ks_zcg_3 : List Nat := butL 156 [1, 9, 10, 11]
def kx_zcg_3 : List Nat := butL 156 [1, 9]
def fr_zcg_3 (k_1 : Nat) (e_4 : List V) (f_5 : Fl) (x_6 : Int) (e_2 : List V) (x_3 : Int) (e_7 : List V) : List V := mkF 0 156 [(1, .ptr 0 0 0 0), (9, .arr 1 0 0 k_1), (10, .list 1 e_2 (.own 3)), (11, .int .i64 x_3)]
def kk0_zcg_3 {R : Type} (K : X → List V → S → Option R) (k_1 : Nat) (e_4 : List V) (f_5 : Fl) (x_6 : Int) : List V → Option R := (fun e_1' => K (.exit 5) (mkF 0 156 [(1, .ptr 0 0 0 0), (9, .arr 1 0 0 k_1)]) [some ⟨[.agg [.list 7 e_4 f_5, .int .i64 x_6]], 2, 32, 0⟩, some ⟨e_1', 1, 4, 0⟩])
noncomputable abbrev it_zcg_3 {R : Type} (N : Nat) : Nat → List V → S → (X → List V → S → Option R) → Option R := fun n => iter C (Φ_zar N) (Λ_zcg_2 N) b_zcg_3 [0, 1, 0, 1, 1, 1, 1, 1, 1, 1, 1] false ks_zcg_3 kx_zcg_3 n R
theorem r_zcg_3 {R : Type} (N n : Nat) (k_1 : Nat) (e_4 : List V) (f_5 : Fl) (x_6 : Int) (e_2 : List V) (x_3 : Int) (e_7 : List V) (K : X → List V → S → Option R) :
  it_zcg_3 N (n + 1) (fr_zcg_3 k_1 e_4 f_5 x_6 e_2 x_3 e_7) [some ⟨[.agg [.list 7 e_4 f_5, .int .i64 x_6]], 2, 32, 0⟩, some ⟨e_7, 1, 4, 0⟩] K =
  l_zcg_3_step N k_1 e_4 f_5 x_6 (fun e_2 x_3 e_7 => it_zcg_3 N n (fr_zcg_3 k_1 e_4 f_5 x_6 e_2 x_3 e_7) [some ⟨[.agg [.list 7 e_4 f_5, .int .i64 x_6]], 2, 32, 0⟩, some ⟨e_7, 1, 4, 0⟩] K) e_2 x_3 e_7 (kk0_zcg_3 K k_1 e_4 f_5 x_6) := by kernel_rfl
theorem w_zcg_3 {R : Type} (N : Nat) (k_1 : Nat) (e_4 : List V) (f_5 : Fl) (x_6 : Int) (K : X → List V → S → Option R) : ∀ (n : Nat) (e_2 : List V) (x_3 : Int) (e_7 : List V),
  it_zcg_3 N n (fr_zcg_3 k_1 e_4 f_5 x_6 e_2 x_3 e_7) [some ⟨[.agg [.list 7 e_4 f_5, .int .i64 x_6]], 2, 32, 0⟩, some ⟨e_7, 1, 4, 0⟩] K = l_zcg_3 N k_1 e_4 f_5 x_6 (kk0_zcg_3 K k_1 e_4 f_5 x_6) n e_2 x_3 e_7
  | 0, _, _, _ => rfl
  | n + 1, e_2, x_3, e_7 => (r_zcg_3 N n k_1 e_4 f_5 x_6 e_2 x_3 e_7 K).trans (congrArg (fun nx => l_zcg_3_step N k_1 e_4 f_5 x_6 nx e_2 x_3 e_7 (kk0_zcg_3 K k_1 e_4 f_5 x_6)) (funext fun e_2 => funext fun x_3 => funext fun e_7 => w_zcg_3 N k_1 e_4 f_5 x_6 K n e_2 x_3 e_7))
def i_zcg_3 {R : Type} (E : List V) (s : S) (k : Nat → List V → Int → List V → Fl → Int → List V → Option R) : Option R :=
  guardB (frameOk 156 [1, 9, 10, 11] E) <| atIs E 1 (.ptr 0 0 0 0) <| must (nth E 9) fun u9 => asArr u9 fun k'1 k'2 k'3 k_1 => isN k'1 1 <| isN k'2 0 <| isN k'3 0 <| must (nth E 10) fun u10 => asList 1 u10 fun e_2 f'4 => asOwn 3 f'4 <| atInt E 11 .i64 fun x_3 => asOb s fun o'5 s'6 => obIs o'5 2 32 fun e'7 k'8 => isN k'8 0 <| asN1 e'7 fun v'9 => asAgg v'9 fun c'10 => asN2 c'10 fun v'11 v'12 => asList 7 v'11 fun e_4 f_5 => asInt .i64 v'12 fun x_6 => asOb s'6 fun o'13 s'14 => obIs o'13 1 4 fun e_7 k'15 => isN k'15 0 <| asEnd s'14 <| k k_1 e_2 x_3 e_4 f_5 x_6 e_7
theorem i_zcg_3_spec {R : Type} {E : List V} {s : S} {k : Nat → List V → Int → List V → Fl → Int → List V → Option R} {r : R} (h : i_zcg_3 E s k = some r) : ∃ k_1 e_2 x_3 e_4 f_5 x_6 e_7, E = fr_zcg_3 k_1 e_4 f_5 x_6 e_2 x_3 e_7 ∧ s = [some ⟨[.agg [.list 7 e_4 f_5, .int .i64 x_6]], 2, 32, 0⟩, some ⟨e_7, 1, 4, 0⟩] ∧ k k_1 e_2 x_3 e_4 f_5 x_6 e_7 = some r := by
  unfold i_zcg_3 at h
  obtain ⟨hg, h1⟩ := guardB_some h
  obtain ⟨hu1, h2⟩ := atIs_some h1
  obtain ⟨_, hu9, h3⟩ := must_some h2
  obtain ⟨_, _, _, _, rfl, h4⟩ := asArr_some h3
  obtain ⟨rfl, h5⟩ := isN_some h4
  obtain ⟨rfl, h6⟩ := isN_some h5
  obtain ⟨rfl, h7⟩ := isN_some h6
  obtain ⟨_, hu10, h8⟩ := must_some h7
  obtain ⟨_, _, rfl, h9⟩ := asList_some h8
  obtain ⟨rfl, h10⟩ := asOwn_some h9
  obtain ⟨_, hu11, h11⟩ := atInt_some h10
  obtain ⟨_, _, rfl, h12⟩ := asOb_some h11
  obtain ⟨_, _, rfl, h13⟩ := obIs_some h12
  obtain ⟨rfl, h14⟩ := isN_some h13
  obtain ⟨_, rfl, h15⟩ := asN1_some h14
  obtain ⟨_, rfl, h16⟩ := asAgg_some h15
  obtain ⟨_, _, rfl, h17⟩ := asN2_some h16
  obtain ⟨_, _, rfl, h18⟩ := asList_some h17
  obtain ⟨_, rfl, h19⟩ := asInt_some h18
  obtain ⟨_, _, rfl, h20⟩ := asOb_some h19
  obtain ⟨_, _, rfl, h21⟩ := obIs_some h20
  obtain ⟨rfl, h22⟩ := isN_some h21
  obtain ⟨rfl, h23⟩ := asEnd_some h22
  exact ⟨_, _, _, _, _, _, _, frame_is hg rfl (slots_cons hu1 (slots_cons hu9 (slots_cons hu10 (slots_cons hu11 slots_nil)))), rfl, h23⟩
noncomputable def Λ_zcg_3 (N : Nat) : Looper := (Λ_zcg_2 N).add [0, 1, 0, 1, 1, 1, 1, 1, 1, 1, 1] fun _ E s K => i_zcg_3 (killE ks_zcg_3 E) s fun k_1 e_2 x_3 e_4 f_5 x_6 e_7 => l_zcg_3 N k_1 e_4 f_5 x_6 (kk0_zcg_3 K k_1 e_4 f_5 x_6) N e_2 x_3 e_7
theorem in_zcg_3 : loopsAt b_zcg_3 (0 :: [0, 1, 0, 1, 1, 1, 1, 1, 1, 1, 1]) = [([0, 1, 1, 0, 0, 1, 0, 0, 1, 0, 1, 1, 1, 1, 1, 1, 1, 1], b_zcg_2)] := by kernel_rfl
theorem ok_zcg_3 {N : Nat} (hC : Ok Tryd.prog C) (hΦ : CalleeOk Tryd.prog C (Φ_zar N)) : LoopOk Tryd.prog C (Λ_zcg_3 N) b_zcg_3 [0, 1, 0, 1, 1, 1, 1, 1, 1, 1, 1] :=
  iter_ok (Λi := Λ_zcg_2 N) (tr := false) (ks := ks_zcg_3) (kx := kx_zcg_3) (N := N) hC hΦ
    (loopsOk_of b_zcg_3 _ (by
      rw [in_zcg_3]
      intro p hp
      simp only [List.mem_cons, List.mem_nil_iff, or_false] at hp
      rcases hp with rfl
      · exact (ok_zcg_2 hC hΦ)))
    fun R E s K r h => by
      have h2 := Looper.add_self.symm.trans h
      obtain ⟨_, _, _, _, _, _, _, he, rfl, h3⟩ := i_zcg_3_spec h2
      rw [he]
      exact (w_zcg_3 N _ _ _ _ _ N _ _ _).trans h3
def ks_zcg_4 : List Nat := butL 156 [9, 138, 139, 140]
def kx_zcg_4 : List Nat := butL 156 [2]
def fr_zcg_4 (k_1 : Nat) (e_2 : List V) (f_3 : Fl) (x_4 : Int) (e_6 : List V) (f_7 : Fl) (x_8 x_5 : Int) (e_9 : List V) : List V := mkF 0 156 [(9, .arr 1 0 0 k_1), (138, .list 7 e_2 f_3), (139, .int .i64 x_4), (140, .int .i64 x_5)]
def kk0_zcg_4 {R : Type} (K : X → List V → S → Option R) (k_1 : Nat) (e_2 : List V) (f_3 : Fl) (x_4 : Int) (e_6 : List V) (f_7 : Fl) (x_8 : Int) : List V → Option R := (fun e_1' => K .ret (mkF 0 156 [(2, .bool false)]) [some ⟨[.agg [.list 7 e_6 f_7, .int .i64 x_8]], 2, 32, 0⟩, some ⟨e_1', 1, 4, 0⟩])
def kk1_zcg_4 {R : Type} (K : X → List V → S → Option R) (k_1 : Nat) (e_2 : List V) (f_3 : Fl) (x_4 : Int) (e_6 : List V) (f_7 : Fl) (x_8 : Int) : List V → Option R := (fun e_1' => K (.exit 9) (mkF 0 156 []) [some ⟨[.agg [.list 7 e_6 f_7, .int .i64 x_8]], 2, 32, 0⟩, some ⟨e_1', 1, 4, 0⟩])
noncomputable abbrev it_zcg_4 {R : Type} (N : Nat) : Nat → List V → S → (X → List V → S → Option R) → Option R := fun n => iter C (Φ_zar N) (Λ_zcg_3 N) b_zcg_4 [0, 1, 0, 1, 1, 1, 1, 1, 1, 1, 1, 1] true ks_zcg_4 kx_zcg_4 n R
theorem r_zcg_4 {R : Type} (N n : Nat) (k_1 : Nat) (e_2 : List V) (f_3 : Fl) (x_4 : Int) (e_6 : List V) (f_7 : Fl) (x_8 : Int) (x_5 : Int) (e_9 : List V) (K : X → List V → S → Option R) :
  it_zcg_4 N (n + 1) (fr_zcg_4 k_1 e_2 f_3 x_4 e_6 f_7 x_8 x_5 e_9) [some ⟨[.agg [.list 7 e_6 f_7, .int .i64 x_8]], 2, 32, 0⟩, some ⟨e_9, 1, 4, 0⟩] K =
  l_zcg_4_step N k_1 e_2 f_3 x_4 e_6 f_7 x_8 (fun x_5 e_9 => it_zcg_4 N n (fr_zcg_4 k_1 e_2 f_3 x_4 e_6 f_7 x_8 x_5 e_9) [some ⟨[.agg [.list 7 e_6 f_7, .int .i64 x_8]], 2, 32, 0⟩, some ⟨e_9, 1, 4, 0⟩] K) x_5 e_9 (kk0_zcg_4 K k_1 e_2 f_3 x_4 e_6 f_7 x_8) (kk1_zcg_4 K k_1 e_2 f_3 x_4 e_6 f_7 x_8) := by kernel_rfl
theorem w_zcg_4 {R : Type} (N : Nat) (k_1 : Nat) (e_2 : List V) (f_3 : Fl) (x_4 : Int) (e_6 : List V) (f_7 : Fl) (x_8 : Int) (K : X → List V → S → Option R) : ∀ (n : Nat) (x_5 : Int) (e_9 : List V),
  it_zcg_4 N n (fr_zcg_4 k_1 e_2 f_3 x_4 e_6 f_7 x_8 x_5 e_9) [some ⟨[.agg [.list 7 e_6 f_7, .int .i64 x_8]], 2, 32, 0⟩, some ⟨e_9, 1, 4, 0⟩] K = l_zcg_4 N k_1 e_2 f_3 x_4 e_6 f_7 x_8 (kk0_zcg_4 K k_1 e_2 f_3 x_4 e_6 f_7 x_8) (kk1_zcg_4 K k_1 e_2 f_3 x_4 e_6 f_7 x_8) n x_5 e_9
  | 0, _, _ => rfl
  | n + 1, x_5, e_9 => (r_zcg_4 N n k_1 e_2 f_3 x_4 e_6 f_7 x_8 x_5 e_9 K).trans (congrArg (fun nx => l_zcg_4_step N k_1 e_2 f_3 x_4 e_6 f_7 x_8 nx x_5 e_9 (kk0_zcg_4 K k_1 e_2 f_3 x_4 e_6 f_7 x_8) (kk1_zcg_4 K k_1 e_2 f_3 x_4 e_6 f_7 x_8)) (funext fun x_5 => funext fun e_9 => w_zcg_4 N k_1 e_2 f_3 x_4 e_6 f_7 x_8 K n x_5 e_9))
def i_zcg_4 {R : Type} (E : List V) (s : S) (k : Nat → List V → Fl → Int → Int → List V → Fl → Int → List V → Option R) : Option R :=
  guardB (frameOk 156 [9, 138, 139, 140] E) <| must (nth E 9) fun u9 => asArr u9 fun k'1 k'2 k'3 k_1 => isN k'1 1 <| isN k'2 0 <| isN k'3 0 <| atList E 138 7 fun e_2 f_3 => atInt E 139 .i64 fun x_4 => atInt E 140 .i64 fun x_5 => asOb s fun o'4 s'5 => obIs o'4 2 32 fun e'6 k'7 => isN k'7 0 <| asN1 e'6 fun v'8 => asAgg v'8 fun c'9 => asN2 c'9 fun v'10 v'11 => asList 7 v'10 fun e_6 f_7 => asInt .i64 v'11 fun x_8 => asOb s'5 fun o'12 s'13 => obIs o'12 1 4 fun e_9 k'14 => isN k'14 0 <| asEnd s'13 <| k k_1 e_2 f_3 x_4 x_5 e_6 f_7 x_8 e_9
theorem i_zcg_4_spec {R : Type} {E : List V} {s : S} {k : Nat → List V → Fl → Int → Int → List V → Fl → Int → List V → Option R} {r : R} (h : i_zcg_4 E s k = some r) : ∃ k_1 e_2 f_3 x_4 x_5 e_6 f_7 x_8 e_9, E = fr_zcg_4 k_1 e_2 f_3 x_4 e_6 f_7 x_8 x_5 e_9 ∧ s = [some ⟨[.agg [.list 7 e_6 f_7, .int .i64 x_8]], 2, 32, 0⟩, some ⟨e_9, 1, 4, 0⟩] ∧ k k_1 e_2 f_3 x_4 x_5 e_6 f_7 x_8 e_9 = some r := by
  unfold i_zcg_4 at h
  obtain ⟨hg, h1⟩ := guardB_some h
  obtain ⟨_, hu9, h2⟩ := must_some h1
  obtain ⟨_, _, _, _, rfl, h3⟩ := asArr_some h2
  obtain ⟨rfl, h4⟩ := isN_some h3
  obtain ⟨rfl, h5⟩ := isN_some h4
  obtain ⟨rfl, h6⟩ := isN_some h5
  obtain ⟨_, _, hu138, h7⟩ := atList_some h6
  obtain ⟨_, hu139, h8⟩ := atInt_some h7
  obtain ⟨_, hu140, h9⟩ := atInt_some h8
  obtain ⟨_, _, rfl, h10⟩ := asOb_some h9
  obtain ⟨_, _, rfl, h11⟩ := obIs_some h10
  obtain ⟨rfl, h12⟩ := isN_some h11
  obtain ⟨_, rfl, h13⟩ := asN1_some h12
  obtain ⟨_, rfl, h14⟩ := asAgg_some h13
  obtain ⟨_, _, rfl, h15⟩ := asN2_some h14
  obtain ⟨_, _, rfl, h16⟩ := asList_some h15
  obtain ⟨_, rfl, h17⟩ := asInt_some h16
  obtain ⟨_, _, rfl, h18⟩ := asOb_some h17
  obtain ⟨_, _, rfl, h19⟩ := obIs_some h18
  obtain ⟨rfl, h20⟩ := isN_some h19
  obtain ⟨rfl, h21⟩ := asEnd_some h20
  exact ⟨_, _, _, _, _, _, _, _, _, frame_is hg rfl (slots_cons hu9 (slots_cons hu138 (slots_cons hu139 (slots_cons hu140 slots_nil)))), rfl, h21⟩
noncomputable def Λ_zcg_4 (N : Nat) : Looper := (Λ_zcg_3 N).add [0, 1, 0, 1, 1, 1, 1, 1, 1, 1, 1, 1] fun _ E s K => i_zcg_4 (killE ks_zcg_4 E) s fun k_1 e_2 f_3 x_4 x_5 e_6 f_7 x_8 e_9 => l_zcg_4 N k_1 e_2 f_3 x_4 e_6 f_7 x_8 (kk0_zcg_4 K k_1 e_2 f_3 x_4 e_6 f_7 x_8) (kk1_zcg_4 K k_1 e_2 f_3 x_4 e_6 f_7 x_8) N x_5 e_9
theorem ok_zcg_4 {N : Nat} (hC : Ok Tryd.prog C) (hΦ : CalleeOk Tryd.prog C (Φ_zar N)) : LoopOk Tryd.prog C (Λ_zcg_4 N) b_zcg_4 [0, 1, 0, 1, 1, 1, 1, 1, 1, 1, 1, 1] :=
  iter_ok (Λi := Λ_zcg_3 N) (tr := true) (ks := ks_zcg_4) (kx := kx_zcg_4) (N := N) hC hΦ
    (loopsOk_nil (by kernel_rfl))
    fun R E s K r h => by
      have h2 := Looper.add_self.symm.trans h
      obtain ⟨_, _, _, _, _, _, _, _, _, he, rfl, h3⟩ := i_zcg_4_spec h2
      rw [he]
      exact (w_zcg_4 N _ _ _ _ _ _ _ _ N _ _).trans h3
theorem at_zcg : loopsAt c_zcg [] = [([0, 1, 0, 1, 1], b_zcg_0), ([0, 1, 0, 1, 1, 1, 1, 1], b_zcg_1), ([0, 1, 0, 1, 1, 1, 1, 1, 1, 1, 1], b_zcg_3), ([0, 1, 0, 1, 1, 1, 1, 1, 1, 1, 1, 1], b_zcg_4)] := by kernel_rfl
theorem b_zcg {R : Type} (N : Nat) (e_1 : List V) (f_2 : Fl) (x_3 : Int) (K : V → S → Option R) : bodyV C (Φ_zar N) (Λ_zcg_4 N) 38 Tryd.f38 [.agg [.list 7 e_1 f_2, .int .i64 x_3]] [] K =
  gb_zcg N e_1 f_2 x_3 (fun b_4 => K (.bool b_4) []) := by kernel_rfl
theorem loops_zcg {N : Nat} (hC : Ok Tryd.prog C) (hΦ : CalleeOk Tryd.prog C (Φ_zar N)) : LoopsOk Tryd.prog C (Λ_zcg_4 N) c_zcg [] :=
  loopsOk_of c_zcg [] (by
    rw [at_zcg]
    intro p hp
    simp only [List.mem_cons, List.mem_nil_iff, or_false] at hp
    rcases hp with rfl | rfl | rfl | rfl
    · exact (LoopOk.add (LoopOk.add (LoopOk.add (LoopOk.add (ok_zcg_0 hC hΦ) rfl) rfl) rfl) rfl)
    · exact (LoopOk.add (LoopOk.add (LoopOk.add (ok_zcg_1 hC hΦ) rfl) rfl) rfl)
    · exact (LoopOk.add (ok_zcg_3 hC hΦ) rfl)
    · exact (ok_zcg_4 hC hΦ))
theorem callee_zcg (hC : Ok Tryd.prog C) {N : Nat} (hΦ : CalleeOk Tryd.prog C (Φ_zar N)) : CalleeOk Tryd.prog C (Φ_zcg N) := by
  refine hΦ.add_pure rfl fun R vs K r h => ?_
  unfold f_zcg at h
  obtain ⟨_, rfl, h1⟩ := asN1_some h
  obtain ⟨_, _, _, rfl, h2⟩ := un_impl_Fs_some h1
  obtain ⟨_, h3⟩ := asEnd_some h2
  refine body_pure (fn := Tryd.f38) (c := c_zcg) hC hΦ Tryd.func38 (by kernel_rfl) (by kernel_rfl) (loops_zcg (N := N) hC hΦ) rfl rfl ?_
  refine (b_zcg N _ _ _ _).trans ?_
  rw [← g_zcg_eq]
  exact h3
noncomputable def f_zbf (N : Nat) : (R : Type) → List V → S → (V → S → Option R) → Option R := fun _ vs s K =>
  asN1 vs fun v'1 => un_impl_Cred v'1 fun x_1 x_2 => asEnd s <| g_zbf N x_1 x_2 (fun b_3 => K (.bool b_3) [])
noncomputable def Φ_zbf (N : Nat) : Callee := (Φ_zcg N).add 39 (f_zbf N)
noncomputable def c_zbf : Code := bodyOf Tryd.f39
theorem b_zbf {R : Type} (N : Nat) (x_1 x_2 : Int) (K : V → S → Option R) : bodyV C (Φ_zcg N) (noLooper) 39 Tryd.f39 [.agg [.int .i64 x_1, .int .i64 x_2]] [] K =
  gb_zbf N x_1 x_2 (fun b_3 => K (.bool b_3) []) := by kernel_rfl
theorem callee_zbf (hC : Ok Tryd.prog C) {N : Nat} (hΦ : CalleeOk Tryd.prog C (Φ_zcg N)) : CalleeOk Tryd.prog C (Φ_zbf N) := by
  refine hΦ.add_pure rfl fun R vs K r h => ?_
  unfold f_zbf at h
  obtain ⟨_, rfl, h1⟩ := asN1_some h
  obtain ⟨_, _, rfl, h2⟩ := un_impl_Cred_some h1
  obtain ⟨_, h3⟩ := asEnd_some h2
  refine body_pure (fn := Tryd.f39) (c := c_zbf) hC hΦ Tryd.func39 (by kernel_rfl) (by kernel_rfl) (loopsOk_nil (Λ := noLooper) (by kernel_rfl)) rfl rfl ?_
  refine (b_zbf N _ _ _).trans ?_
  rw [← g_zbf_eq]
  exact h3
noncomputable def f_zbr (N : Nat) : (R : Type) → List V → S → (V → S → Option R) → Option R := fun _ vs s K =>
  asN2 vs fun v'1 v'2 => un_impl_Fs v'1 fun e_1 f_2 x_3 => un_impl_Cred v'2 fun x_4 x_5 => asEnd s <| g_zbr N e_1 f_2 x_3 x_4 x_5 (fun b_6 => K (.bool b_6) [])
noncomputable def Φ_zbr (N : Nat) : Callee := (Φ_zbf N).add 24 (f_zbr N)
noncomputable def c_zbr : Code := bodyOf Tryd.f24
theorem b_zbr {R : Type} (N : Nat) (e_1 : List V) (f_2 : Fl) (x_3 x_4 x_5 : Int) (K : V → S → Option R) : bodyV C (Φ_zbf N) (noLooper) 24 Tryd.f24 [.agg [.list 7 e_1 f_2, .int .i64 x_3], .agg [.int .i64 x_4, .int .i64 x_5]] [] K =
  gb_zbr N e_1 f_2 x_3 x_4 x_5 (fun b_6 => K (.bool b_6) []) := by kernel_rfl
theorem callee_zbr (hC : Ok Tryd.prog C) {N : Nat} (hΦ : CalleeOk Tryd.prog C (Φ_zbf N)) : CalleeOk Tryd.prog C (Φ_zbr N) := by
  refine hΦ.add_pure rfl fun R vs K r h => ?_
  unfold f_zbr at h
  obtain ⟨_, _, rfl, h1⟩ := asN2_some h
  obtain ⟨_, _, _, rfl, h2⟩ := un_impl_Fs_some h1
  obtain ⟨_, _, rfl, h3⟩ := un_impl_Cred_some h2
  obtain ⟨_, h4⟩ := asEnd_some h3
  refine body_pure (fn := Tryd.f24) (c := c_zbr) hC hΦ Tryd.func24 (by kernel_rfl) (by kernel_rfl) (loopsOk_nil (Λ := noLooper) (by kernel_rfl)) rfl rfl ?_
  refine (b_zbr N _ _ _ _ _ _).trans ?_
  rw [← g_zbr_eq]
  exact h4
noncomputable def f_zbs (N : Nat) : (R : Type) → List V → S → (V → S → Option R) → Option R := fun _ vs s K =>
  asN1 vs fun v'1 => asStr v'1 fun w_1 => asEnd s <| g_zbs N w_1 (fun b_2 => K (.bool b_2) [])
noncomputable def Φ_zbs (N : Nat) : Callee := (Φ_zbr N).add 40 (f_zbs N)
noncomputable def c_zbs : Code := bodyOf Tryd.f40
theorem b_zbs {R : Type} (N : Nat) (w_1 : ByteArray) (K : V → S → Option R) : bodyV C (Φ_zbr N) (noLooper) 40 Tryd.f40 [.str w_1] [] K =
  gb_zbs N w_1 (fun b_2 => K (.bool b_2) []) := by kernel_rfl
theorem callee_zbs (hC : Ok Tryd.prog C) {N : Nat} (hΦ : CalleeOk Tryd.prog C (Φ_zbr N)) : CalleeOk Tryd.prog C (Φ_zbs N) := by
  refine hΦ.add_pure rfl fun R vs K r h => ?_
  unfold f_zbs at h
  obtain ⟨_, rfl, h1⟩ := asN1_some h
  obtain ⟨_, rfl, h2⟩ := asStr_some h1
  obtain ⟨_, h3⟩ := asEnd_some h2
  refine body_pure (fn := Tryd.f40) (c := c_zbs) hC hΦ Tryd.func40 (by kernel_rfl) (by kernel_rfl) (loopsOk_nil (Λ := noLooper) (by kernel_rfl)) rfl rfl ?_
  refine (b_zbs N _ _).trans ?_
  rw [← g_zbs_eq]
  exact h3
noncomputable def f_zah (N : Nat) : (R : Type) → List V → S → (V → S → Option R) → Option R := fun _ vs s K =>
  asN2 vs fun v'1 v'2 => asStr v'1 fun w_1 => asStr v'2 fun w_2 => asEnd s <| g_zah N w_1 w_2 (fun b_3 => K (.bool b_3) [])
noncomputable def Φ_zah (N : Nat) : Callee := (Φ_zbs N).add 68 (f_zah N)
noncomputable def c_zah : Code := bodyOf Tryd.f68
theorem b_zah {R : Type} (N : Nat) (w_1 w_2 : ByteArray) (K : V → S → Option R) : bodyV C (Φ_zbs N) (noLooper) 68 Tryd.f68 [.str w_1, .str w_2] [] K =
  gb_zah N w_1 w_2 (fun b_3 => K (.bool b_3) []) := by kernel_rfl
theorem callee_zah (hC : Ok Tryd.prog C) {N : Nat} (hΦ : CalleeOk Tryd.prog C (Φ_zbs N)) : CalleeOk Tryd.prog C (Φ_zah N) := by
  refine hΦ.add_pure rfl fun R vs K r h => ?_
  unfold f_zah at h
  obtain ⟨_, _, rfl, h1⟩ := asN2_some h
  obtain ⟨_, rfl, h2⟩ := asStr_some h1
  obtain ⟨_, rfl, h3⟩ := asStr_some h2
  obtain ⟨_, h4⟩ := asEnd_some h3
  refine body_pure (fn := Tryd.f68) (c := c_zah) hC hΦ Tryd.func68 (by kernel_rfl) (by kernel_rfl) (loopsOk_nil (Λ := noLooper) (by kernel_rfl)) rfl rfl ?_
  refine (b_zah N _ _ _).trans ?_
  rw [← g_zah_eq]
  exact h4
noncomputable def f_zao (N : Nat) : (R : Type) → List V → S → (V → S → Option R) → Option R := fun _ vs s K =>
  asN2 vs fun v'1 v'2 => asStr v'1 fun w_1 => asStr v'2 fun w_2 => asEnd s <| g_zao N w_1 w_2 (fun b_3 => K (.bool b_3) [])
noncomputable def Φ_zao (N : Nat) : Callee := (Φ_zah N).add 41 (f_zao N)
noncomputable def c_zao : Code := bodyOf Tryd.f41
theorem b_zao {R : Type} (N : Nat) (w_1 w_2 : ByteArray) (K : V → S → Option R) : bodyV C (Φ_zah N) (noLooper) 41 Tryd.f41 [.str w_1, .str w_2] [] K =
  gb_zao N w_1 w_2 (fun b_3 => K (.bool b_3) []) := by kernel_rfl
theorem callee_zao (hC : Ok Tryd.prog C) {N : Nat} (hΦ : CalleeOk Tryd.prog C (Φ_zah N)) : CalleeOk Tryd.prog C (Φ_zao N) := by
  refine hΦ.add_pure rfl fun R vs K r h => ?_
  unfold f_zao at h
  obtain ⟨_, _, rfl, h1⟩ := asN2_some h
  obtain ⟨_, rfl, h2⟩ := asStr_some h1
  obtain ⟨_, rfl, h3⟩ := asStr_some h2
  obtain ⟨_, h4⟩ := asEnd_some h3
  refine body_pure (fn := Tryd.f41) (c := c_zao) hC hΦ Tryd.func41 (by kernel_rfl) (by kernel_rfl) (loopsOk_nil (Λ := noLooper) (by kernel_rfl)) rfl rfl ?_
  refine (b_zao N _ _ _).trans ?_
  rw [← g_zao_eq]
  exact h4
noncomputable def f_zbc (N : Nat) : (R : Type) → List V → S → (V → S → Option R) → Option R := fun _ vs s K =>
  asN2 vs fun v'1 v'2 => un_impl_Fs v'1 fun e_1 f_2 x_3 => asInt .i64 v'2 fun x_4 => asEnd s <| g_zbc N e_1 f_2 x_3 x_4 (fun b_5 => K (.bool b_5) [])
noncomputable def Φ_zbc (N : Nat) : Callee := (Φ_zao N).add 43 (f_zbc N)
noncomputable def c_zbc : Code := bodyOf Tryd.f43
theorem b_zbc {R : Type} (N : Nat) (e_1 : List V) (f_2 : Fl) (x_3 x_4 : Int) (K : V → S → Option R) : bodyV C (Φ_zao N) (noLooper) 43 Tryd.f43 [.agg [.list 7 e_1 f_2, .int .i64 x_3], .int .i64 x_4] [] K =
  gb_zbc N e_1 f_2 x_3 x_4 (fun b_5 => K (.bool b_5) []) := by kernel_rfl
theorem callee_zbc (hC : Ok Tryd.prog C) {N : Nat} (hΦ : CalleeOk Tryd.prog C (Φ_zao N)) : CalleeOk Tryd.prog C (Φ_zbc N) := by
  refine hΦ.add_pure rfl fun R vs K r h => ?_
  unfold f_zbc at h
  obtain ⟨_, _, rfl, h1⟩ := asN2_some h
  obtain ⟨_, _, _, rfl, h2⟩ := un_impl_Fs_some h1
  obtain ⟨_, rfl, h3⟩ := asInt_some h2
  obtain ⟨_, h4⟩ := asEnd_some h3
  refine body_pure (fn := Tryd.f43) (c := c_zbc) hC hΦ Tryd.func43 (by kernel_rfl) (by kernel_rfl) (loopsOk_nil (Λ := noLooper) (by kernel_rfl)) rfl rfl ?_
  refine (b_zbc N _ _ _ _ _).trans ?_
  rw [← g_zbc_eq]
  exact h4
noncomputable def f_zba (N : Nat) : (R : Type) → List V → S → (V → S → Option R) → Option R := fun _ vs s K =>
  asN5 vs fun v'1 v'2 v'3 v'4 v'5 => un_impl_Cred v'1 fun x_1 x_2 => asInt .i64 v'2 fun x_3 => asInt .i64 v'3 fun x_4 => asInt .i64 v'4 fun x_5 => asInt .i64 v'5 fun x_6 => asEnd s <| g_zba N x_1 x_2 x_3 x_4 x_5 x_6 (fun b_7 => K (.bool b_7) [])
noncomputable def Φ_zba (N : Nat) : Callee := (Φ_zbc N).add 72 (f_zba N)
noncomputable def c_zba : Code := bodyOf Tryd.f72
theorem b_zba {R : Type} (N : Nat) (x_1 x_2 x_3 x_4 x_5 x_6 : Int) (K : V → S → Option R) : bodyV C (Φ_zbc N) (noLooper) 72 Tryd.f72 [.agg [.int .i64 x_1, .int .i64 x_2], .int .i64 x_3, .int .i64 x_4, .int .i64 x_5, .int .i64 x_6] [] K =
  gb_zba N x_1 x_2 x_3 x_4 x_5 x_6 (fun b_7 => K (.bool b_7) []) := by kernel_rfl
theorem callee_zba (hC : Ok Tryd.prog C) {N : Nat} (hΦ : CalleeOk Tryd.prog C (Φ_zbc N)) : CalleeOk Tryd.prog C (Φ_zba N) := by
  refine hΦ.add_pure rfl fun R vs K r h => ?_
  unfold f_zba at h
  obtain ⟨_, _, _, _, _, rfl, h1⟩ := asN5_some h
  obtain ⟨_, _, rfl, h2⟩ := un_impl_Cred_some h1
  obtain ⟨_, rfl, h3⟩ := asInt_some h2
  obtain ⟨_, rfl, h4⟩ := asInt_some h3
  obtain ⟨_, rfl, h5⟩ := asInt_some h4
  obtain ⟨_, rfl, h6⟩ := asInt_some h5
  obtain ⟨_, h7⟩ := asEnd_some h6
  refine body_pure (fn := Tryd.f72) (c := c_zba) hC hΦ Tryd.func72 (by kernel_rfl) (by kernel_rfl) (loopsOk_nil (Λ := noLooper) (by kernel_rfl)) rfl rfl ?_
  refine (b_zba N _ _ _ _ _ _ _).trans ?_
  rw [← g_zba_eq]
  exact h7
noncomputable def f_zbe (N : Nat) : (R : Type) → List V → S → (V → S → Option R) → Option R := fun _ vs s K =>
  asN4 vs fun v'1 v'2 v'3 v'4 => un_impl_Fs v'1 fun e_1 f_2 x_3 => un_impl_Cred v'2 fun x_4 x_5 => asInt .i64 v'3 fun x_6 => asInt .i64 v'4 fun x_7 => asEnd s <| g_zbe N e_1 f_2 x_3 x_4 x_5 x_6 x_7 (fun b_8 => K (.bool b_8) [])
noncomputable def Φ_zbe (N : Nat) : Callee := (Φ_zba N).add 44 (f_zbe N)
noncomputable def c_zbe : Code := bodyOf Tryd.f44
theorem b_zbe {R : Type} (N : Nat) (e_1 : List V) (f_2 : Fl) (x_3 x_4 x_5 x_6 x_7 : Int) (K : V → S → Option R) : bodyV C (Φ_zba N) (noLooper) 44 Tryd.f44 [.agg [.list 7 e_1 f_2, .int .i64 x_3], .agg [.int .i64 x_4, .int .i64 x_5], .int .i64 x_6, .int .i64 x_7] [] K =
  gb_zbe N e_1 f_2 x_3 x_4 x_5 x_6 x_7 (fun b_8 => K (.bool b_8) []) := by kernel_rfl
theorem callee_zbe (hC : Ok Tryd.prog C) {N : Nat} (hΦ : CalleeOk Tryd.prog C (Φ_zba N)) : CalleeOk Tryd.prog C (Φ_zbe N) := by
  refine hΦ.add_pure rfl fun R vs K r h => ?_
  unfold f_zbe at h
  obtain ⟨_, _, _, _, rfl, h1⟩ := asN4_some h
  obtain ⟨_, _, _, rfl, h2⟩ := un_impl_Fs_some h1
  obtain ⟨_, _, rfl, h3⟩ := un_impl_Cred_some h2
  obtain ⟨_, rfl, h4⟩ := asInt_some h3
  obtain ⟨_, rfl, h5⟩ := asInt_some h4
  obtain ⟨_, h6⟩ := asEnd_some h5
  refine body_pure (fn := Tryd.f44) (c := c_zbe) hC hΦ Tryd.func44 (by kernel_rfl) (by kernel_rfl) (loopsOk_nil (Λ := noLooper) (by kernel_rfl)) rfl rfl ?_
  refine (b_zbe N _ _ _ _ _ _ _ _).trans ?_
  rw [← g_zbe_eq]
  exact h6
noncomputable def f_zaw (N : Nat) : (R : Type) → List V → S → (V → S → Option R) → Option R := fun _ vs s K =>
  asN2 vs fun v'1 v'2 => un_impl_Fs v'1 fun e_1 f_2 x_3 => asInt .i64 v'2 fun x_4 => asEnd s <| g_zaw N e_1 f_2 x_3 x_4 (fun x_5 w_6 => K (.tuple [.int .i64 x_5, .str w_6]) [])
noncomputable def Φ_zaw (N : Nat) : Callee := (Φ_zbe N).add 45 (f_zaw N)
noncomputable def c_zaw : Code := bodyOf Tryd.f45
noncomputable def b_zaw_1 : Code := (loopNo c_zaw [] 0).2
noncomputable def b_zaw_0 : Code := (loopNo b_zaw_1 (0 :: [0, 1, 0, 1]) 0).2
def ks_zaw_0 : List Nat := butL 34 [1, 6, 11, 12, 13, 19, 20, 21]
def kx_zaw_0 : List Nat := butL 34 [1, 4, 5, 11, 12, 13]
def fr_zaw_0 (x_1 x_2 : Int) (e_3 : List V) (f_4 : Fl) (x_5 x_6 : Int) (e_7 : List V) (f_8 : Fl) (x_9 : Int) (e_11 : List V) (f_12 : Fl) (x_13 x_14 x_15 x_16 x_17 x_18 : Int) (w_19 : ByteArray) (e_20 : List V) (f_21 : Fl) (x_10 : Int) : List V := mkF 0 34 [(1, .int .i64 x_1), (6, .int .i64 x_2), (11, .list 7 e_3 f_4), (12, .int .i64 x_5), (13, .int .i64 x_6), (19, .list 2 e_7 f_8), (20, .int .i64 x_9), (21, .int .i64 x_10)]
def kk0_zaw_0 {R : Type} (K : X → List V → S → Option R) (x_1 : Int) (x_2 : Int) (e_3 : List V) (f_4 : Fl) (x_5 : Int) (x_6 : Int) (e_7 : List V) (f_8 : Fl) (x_9 : Int) (e_11 : List V) (f_12 : Fl) (x_13 : Int) (x_14 : Int) (x_15 : Int) (x_16 : Int) (x_17 : Int) (x_18 : Int) (w_19 : ByteArray) (e_20 : List V) (f_21 : Fl) : ByteArray → Option R := (fun w_1' => K .ret (mkF 0 34 [(1, .int .i64 x_1), (4, .int .i64 x_2), (5, .str (w_1')), (11, .list 7 e_3 f_4), (12, .int .i64 x_5), (13, .int .i64 x_6)]) [some ⟨[.agg [.list 7 e_11 f_12, .int .i64 x_13]], 2, 32, 0⟩, some ⟨[.agg [.int .i64 x_14, .int .i64 x_15, .int .i64 x_16, .int .i64 x_17, .int .i64 x_18, .str w_19, .list 2 e_20 f_21]], 7, 55, 0⟩])
def kk1_zaw_0 {R : Type} (K : X → List V → S → Option R) (x_1 : Int) (x_2 : Int) (e_3 : List V) (f_4 : Fl) (x_5 : Int) (x_6 : Int) (e_7 : List V) (f_8 : Fl) (x_9 : Int) (e_11 : List V) (f_12 : Fl) (x_13 : Int) (x_14 : Int) (x_15 : Int) (x_16 : Int) (x_17 : Int) (x_18 : Int) (w_19 : ByteArray) (e_20 : List V) (f_21 : Fl) : Unit → Option R := (fun _ => K (.exit 2) (mkF 0 34 [(1, .int .i64 x_1), (11, .list 7 e_3 f_4), (12, .int .i64 x_5), (13, .int .i64 x_6)]) [some ⟨[.agg [.list 7 e_11 f_12, .int .i64 x_13]], 2, 32, 0⟩, some ⟨[.agg [.int .i64 x_14, .int .i64 x_15, .int .i64 x_16, .int .i64 x_17, .int .i64 x_18, .str w_19, .list 2 e_20 f_21]], 7, 55, 0⟩])
noncomputable abbrev it_zaw_0 {R : Type} (N : Nat) : Nat → List V → S → (X → List V → S → Option R) → Option R := fun n => iter C (Φ_zbe N) (noLooper) b_zaw_0 [0, 1, 1, 0, 0, 1, 1, 0, 0, 1, 0, 1] true ks_zaw_0 kx_zaw_0 n R
theorem r_zaw_0 {R : Type} (N n : Nat) (x_1 x_2 : Int) (e_3 : List V) (f_4 : Fl) (x_5 x_6 : Int) (e_7 : List V) (f_8 : Fl) (x_9 : Int) (e_11 : List V) (f_12 : Fl) (x_13 x_14 x_15 x_16 x_17 x_18 : Int) (w_19 : ByteArray) (e_20 : List V) (f_21 : Fl) (x_10 : Int) (K : X → List V → S → Option R) :
  it_zaw_0 N (n + 1) (fr_zaw_0 x_1 x_2 e_3 f_4 x_5 x_6 e_7 f_8 x_9 e_11 f_12 x_13 x_14 x_15 x_16 x_17 x_18 w_19 e_20 f_21 x_10) [some ⟨[.agg [.list 7 e_11 f_12, .int .i64 x_13]], 2, 32, 0⟩, some ⟨[.agg [.int .i64 x_14, .int .i64 x_15, .int .i64 x_16, .int .i64 x_17, .int .i64 x_18, .str w_19, .list 2 e_20 f_21]], 7, 55, 0⟩] K =
  l_zaw_0_step N x_1 x_2 e_3 f_4 x_5 x_6 e_7 f_8 x_9 e_11 f_12 x_13 x_14 x_15 x_16 x_17 x_18 w_19 e_20 f_21 (fun x_10 => it_zaw_0 N n (fr_zaw_0 x_1 x_2 e_3 f_4 x_5 x_6 e_7 f_8 x_9 e_11 f_12 x_13 x_14 x_15 x_16 x_17 x_18 w_19 e_20 f_21 x_10) [some ⟨[.agg [.list 7 e_11 f_12, .int .i64 x_13]], 2, 32, 0⟩, some ⟨[.agg [.int .i64 x_14, .int .i64 x_15, .int .i64 x_16, .int .i64 x_17, .int .i64 x_18, .str w_19, .list 2 e_20 f_21]], 7, 55, 0⟩] K) x_10 (kk0_zaw_0 K x_1 x_2 e_3 f_4 x_5 x_6 e_7 f_8 x_9 e_11 f_12 x_13 x_14 x_15 x_16 x_17 x_18 w_19 e_20 f_21) (kk1_zaw_0 K x_1 x_2 e_3 f_4 x_5 x_6 e_7 f_8 x_9 e_11 f_12 x_13 x_14 x_15 x_16 x_17 x_18 w_19 e_20 f_21) := by kernel_rfl
theorem w_zaw_0 {R : Type} (N : Nat) (x_1 x_2 : Int) (e_3 : List V) (f_4 : Fl) (x_5 x_6 : Int) (e_7 : List V) (f_8 : Fl) (x_9 : Int) (e_11 : List V) (f_12 : Fl) (x_13 x_14 x_15 x_16 x_17 x_18 : Int) (w_19 : ByteArray) (e_20 : List V) (f_21 : Fl) (K : X → List V → S → Option R) : ∀ (n : Nat) (x_10 : Int),
  it_zaw_0 N n (fr_zaw_0 x_1 x_2 e_3 f_4 x_5 x_6 e_7 f_8 x_9 e_11 f_12 x_13 x_14 x_15 x_16 x_17 x_18 w_19 e_20 f_21 x_10) [some ⟨[.agg [.list 7 e_11 f_12, .int .i64 x_13]], 2, 32, 0⟩, some ⟨[.agg [.int .i64 x_14, .int .i64 x_15, .int .i64 x_16, .int .i64 x_17, .int .i64 x_18, .str w_19, .list 2 e_20 f_21]], 7, 55, 0⟩] K = l_zaw_0 N x_1 x_2 e_3 f_4 x_5 x_6 e_7 f_8 x_9 e_11 f_12 x_13 x_14 x_15 x_16 x_17 x_18 w_19 e_20 f_21 (kk0_zaw_0 K x_1 x_2 e_3 f_4 x_5 x_6 e_7 f_8 x_9 e_11 f_12 x_13 x_14 x_15 x_16 x_17 x_18 w_19 e_20 f_21) (kk1_zaw_0 K x_1 x_2 e_3 f_4 x_5 x_6 e_7 f_8 x_9 e_11 f_12 x_13 x_14 x_15 x_16 x_17 x_18 w_19 e_20 f_21) n x_10
  | 0, _ => rfl
  | n + 1, x_10 => (r_zaw_0 N n x_1 x_2 e_3 f_4 x_5 x_6 e_7 f_8 x_9 e_11 f_12 x_13 x_14 x_15 x_16 x_17 x_18 w_19 e_20 f_21 x_10 K).trans (congrArg (fun nx => l_zaw_0_step N x_1 x_2 e_3 f_4 x_5 x_6 e_7 f_8 x_9 e_11 f_12 x_13 x_14 x_15 x_16 x_17 x_18 w_19 e_20 f_21 nx x_10 (kk0_zaw_0 K x_1 x_2 e_3 f_4 x_5 x_6 e_7 f_8 x_9 e_11 f_12 x_13 x_14 x_15 x_16 x_17 x_18 w_19 e_20 f_21) (kk1_zaw_0 K x_1 x_2 e_3 f_4 x_5 x_6 e_7 f_8 x_9 e_11 f_12 x_13 x_14 x_15 x_16 x_17 x_18 w_19 e_20 f_21)) (funext fun x_10 => w_zaw_0 N x_1 x_2 e_3 f_4 x_5 x_6 e_7 f_8 x_9 e_11 f_12 x_13 x_14 x_15 x_16 x_17 x_18 w_19 e_20 f_21 K n x_10))
def i_zaw_0 {R : Type} (E : List V) (s : S) (k : Int → Int → List V → Fl → Int → Int → List V → Fl → Int → Int → List V → Fl → Int → Int → Int → Int → Int → Int → ByteArray → List V → Fl → Option R) : Option R :=
  guardB (frameOk 34 [1, 6, 11, 12, 13, 19, 20, 21] E) <| atInt E 1 .i64 fun x_1 => atInt E 6 .i64 fun x_2 => atList E 11 7 fun e_3 f_4 => atInt E 12 .i64 fun x_5 => atInt E 13 .i64 fun x_6 => atList E 19 2 fun e_7 f_8 => atInt E 20 .i64 fun x_9 => atInt E 21 .i64 fun x_10 => asOb s fun o'1 s'2 => obIs o'1 2 32 fun e'3 k'4 => isN k'4 0 <| asN1 e'3 fun v'5 => asAgg v'5 fun c'6 => asN2 c'6 fun v'7 v'8 => asList 7 v'7 fun e_11 f_12 => asInt .i64 v'8 fun x_13 => asOb s'2 fun o'9 s'10 => obIs o'9 7 55 fun e'11 k'12 => isN k'12 0 <| asN1 e'11 fun v'13 => asAgg v'13 fun c'14 => asN7 c'14 fun v'15 v'16 v'17 v'18 v'19 v'20 v'21 => asInt .i64 v'15 fun x_14 => asInt .i64 v'16 fun x_15 => asInt .i64 v'17 fun x_16 => asInt .i64 v'18 fun x_17 => asInt .i64 v'19 fun x_18 => asStr v'20 fun w_19 => asList 2 v'21 fun e_20 f_21 => asEnd s'10 <| k x_1 x_2 e_3 f_4 x_5 x_6 e_7 f_8 x_9 x_10 e_11 f_12 x_13 x_14 x_15 x_16 x_17 x_18 w_19 e_20 f_21
theorem i_zaw_0_spec {R : Type} {E : List V} {s : S} {k : Int → Int → List V → Fl → Int → Int → List V → Fl → Int → Int → List V → Fl → Int → Int → Int → Int → Int → Int → ByteArray → List V → Fl → Option R} {r : R} (h : i_zaw_0 E s k = some r) : ∃ x_1 x_2 e_3 f_4 x_5 x_6 e_7 f_8 x_9 x_10 e_11 f_12 x_13 x_14 x_15 x_16 x_17 x_18 w_19 e_20 f_21, E = fr_zaw_0 x_1 x_2 e_3 f_4 x_5 x_6 e_7 f_8 x_9 e_11 f_12 x_13 x_14 x_15 x_16 x_17 x_18 w_19 e_20 f_21 x_10 ∧ s = [some ⟨[.agg [.list 7 e_11 f_12, .int .i64 x_13]], 2, 32, 0⟩, some ⟨[.agg [.int .i64 x_14, .int .i64 x_15, .int .i64 x_16, .int .i64 x_17, .int .i64 x_18, .str w_19, .list 2 e_20 f_21]], 7, 55, 0⟩] ∧ k x_1 x_2 e_3 f_4 x_5 x_6 e_7 f_8 x_9 x_10 e_11 f_12 x_13 x_14 x_15 x_16 x_17 x_18 w_19 e_20 f_21 = some r := by
  unfold i_zaw_0 at h
  obtain ⟨hg, h1⟩ := guardB_some h
  obtain ⟨_, hu1, h2⟩ := atInt_some h1
  obtain ⟨_, hu6, h3⟩ := atInt_some h2
  obtain ⟨_, _, hu11, h4⟩ := atList_some h3
  obtain ⟨_, hu12, h5⟩ := atInt_some h4
  obtain ⟨_, hu13, h6⟩ := atInt_some h5
  obtain ⟨_, _, hu19, h7⟩ := atList_some h6
  obtain ⟨_, hu20, h8⟩ := atInt_some h7
  obtain ⟨_, hu21, h9⟩ := atInt_some h8
  obtain ⟨_, _, rfl, h10⟩ := asOb_some h9
  obtain ⟨_, _, rfl, h11⟩ := obIs_some h10
  obtain ⟨rfl, h12⟩ := isN_some h11
  obtain ⟨_, rfl, h13⟩ := asN1_some h12
  obtain ⟨_, rfl, h14⟩ := asAgg_some h13
  obtain ⟨_, _, rfl, h15⟩ := asN2_some h14
  obtain ⟨_, _, rfl, h16⟩ := asList_some h15
  obtain ⟨_, rfl, h17⟩ := asInt_some h16
  obtain ⟨_, _, rfl, h18⟩ := asOb_some h17
  obtain ⟨_, _, rfl, h19⟩ := obIs_some h18
  obtain ⟨rfl, h20⟩ := isN_some h19
  obtain ⟨_, rfl, h21⟩ := asN1_some h20
  obtain ⟨_, rfl, h22⟩ := asAgg_some h21
  obtain ⟨_, _, _, _, _, _, _, rfl, h23⟩ := asN7_some h22
  obtain ⟨_, rfl, h24⟩ := asInt_some h23
  obtain ⟨_, rfl, h25⟩ := asInt_some h24
  obtain ⟨_, rfl, h26⟩ := asInt_some h25
  obtain ⟨_, rfl, h27⟩ := asInt_some h26
  obtain ⟨_, rfl, h28⟩ := asInt_some h27
  obtain ⟨_, rfl, h29⟩ := asStr_some h28
  obtain ⟨_, _, rfl, h30⟩ := asList_some h29
  obtain ⟨rfl, h31⟩ := asEnd_some h30
  exact ⟨_, _, _, _, _, _, _, _, _, _, _, _, _, _, _, _, _, _, _, _, _, frame_is hg rfl (slots_cons hu1 (slots_cons hu6 (slots_cons hu11 (slots_cons hu12 (slots_cons hu13 (slots_cons hu19 (slots_cons hu20 (slots_cons hu21 slots_nil)))))))), rfl, h31⟩
noncomputable def Λ_zaw_0 (N : Nat) : Looper := (noLooper).add [0, 1, 1, 0, 0, 1, 1, 0, 0, 1, 0, 1] fun _ E s K => i_zaw_0 (killE ks_zaw_0 E) s fun x_1 x_2 e_3 f_4 x_5 x_6 e_7 f_8 x_9 x_10 e_11 f_12 x_13 x_14 x_15 x_16 x_17 x_18 w_19 e_20 f_21 => l_zaw_0 N x_1 x_2 e_3 f_4 x_5 x_6 e_7 f_8 x_9 e_11 f_12 x_13 x_14 x_15 x_16 x_17 x_18 w_19 e_20 f_21 (kk0_zaw_0 K x_1 x_2 e_3 f_4 x_5 x_6 e_7 f_8 x_9 e_11 f_12 x_13 x_14 x_15 x_16 x_17 x_18 w_19 e_20 f_21) (kk1_zaw_0 K x_1 x_2 e_3 f_4 x_5 x_6 e_7 f_8 x_9 e_11 f_12 x_13 x_14 x_15 x_16 x_17 x_18 w_19 e_20 f_21) N x_10
theorem ok_zaw_0 {N : Nat} (hC : Ok Tryd.prog C) (hΦ : CalleeOk Tryd.prog C (Φ_zbe N)) : LoopOk Tryd.prog C (Λ_zaw_0 N) b_zaw_0 [0, 1, 1, 0, 0, 1, 1, 0, 0, 1, 0, 1] :=
  iter_ok (Λi := noLooper) (tr := true) (ks := ks_zaw_0) (kx := kx_zaw_0) (N := N) hC hΦ
    (loopsOk_nil (by kernel_rfl))
    fun R E s K r h => by
      have h2 := Looper.add_self.symm.trans h
      obtain ⟨_, _, _, _, _, _, _, _, _, _, _, _, _, _, _, _, _, _, _, _, _, he, rfl, h3⟩ := i_zaw_0_spec h2
      rw [he]
      exact (w_zaw_0 N _ _ _ _ _ _ _ _ _ _ _ _ _ _ _ _ _ _ _ _ _ N _).trans h3
def ks_zaw_1 : List Nat := butL 34 [1, 11, 12, 13]
def kx_zaw_1 : List Nat := butL 34 [4, 5]
def fr_zaw_1 (x_1 : Int) (e_2 : List V) (f_3 : Fl) (x_4 : Int) (e_6 : List V) (f_7 : Fl) (x_8 x_5 : Int) : List V := mkF 0 34 [(1, .int .i64 x_1), (11, .list 7 e_2 f_3), (12, .int .i64 x_4), (13, .int .i64 x_5)]
def kk0_zaw_1 {R : Type} (K : X → List V → S → Option R) (x_1 : Int) (e_2 : List V) (f_3 : Fl) (x_4 : Int) (e_6 : List V) (f_7 : Fl) (x_8 : Int) : Int → ByteArray → Option R := (fun x_1' w_2' => K .ret (mkF 0 34 [(4, .int .i64 (x_1')), (5, .str (w_2'))]) [some ⟨[.agg [.list 7 e_6 f_7, .int .i64 x_8]], 2, 32, 0⟩])
def kk1_zaw_1 {R : Type} (K : X → List V → S → Option R) (x_1 : Int) (e_2 : List V) (f_3 : Fl) (x_4 : Int) (e_6 : List V) (f_7 : Fl) (x_8 : Int) : Unit → Option R := (fun _ => K (.exit 0) (mkF 0 34 []) [some ⟨[.agg [.list 7 e_6 f_7, .int .i64 x_8]], 2, 32, 0⟩])
noncomputable abbrev it_zaw_1 {R : Type} (N : Nat) : Nat → List V → S → (X → List V → S → Option R) → Option R := fun n => iter C (Φ_zbe N) (Λ_zaw_0 N) b_zaw_1 [0, 1, 0, 1] true ks_zaw_1 kx_zaw_1 n R
theorem r_zaw_1 {R : Type} (N n : Nat) (x_1 : Int) (e_2 : List V) (f_3 : Fl) (x_4 : Int) (e_6 : List V) (f_7 : Fl) (x_8 : Int) (x_5 : Int) (K : X → List V → S → Option R) :
  it_zaw_1 N (n + 1) (fr_zaw_1 x_1 e_2 f_3 x_4 e_6 f_7 x_8 x_5) [some ⟨[.agg [.list 7 e_6 f_7, .int .i64 x_8]], 2, 32, 0⟩] K =
  l_zaw_1_step N x_1 e_2 f_3 x_4 e_6 f_7 x_8 (fun x_5 => it_zaw_1 N n (fr_zaw_1 x_1 e_2 f_3 x_4 e_6 f_7 x_8 x_5) [some ⟨[.agg [.list 7 e_6 f_7, .int .i64 x_8]], 2, 32, 0⟩] K) x_5 (kk0_zaw_1 K x_1 e_2 f_3 x_4 e_6 f_7 x_8) (kk1_zaw_1 K x_1 e_2 f_3 x_4 e_6 f_7 x_8) := by kernel_rfl
theorem w_zaw_1 {R : Type} (N : Nat) (x_1 : Int) (e_2 : List V) (f_3 : Fl) (x_4 : Int) (e_6 : List V) (f_7 : Fl) (x_8 : Int) (K : X → List V → S → Option R) : ∀ (n : Nat) (x_5 : Int),
  it_zaw_1 N n (fr_zaw_1 x_1 e_2 f_3 x_4 e_6 f_7 x_8 x_5) [some ⟨[.agg [.list 7 e_6 f_7, .int .i64 x_8]], 2, 32, 0⟩] K = l_zaw_1 N x_1 e_2 f_3 x_4 e_6 f_7 x_8 (kk0_zaw_1 K x_1 e_2 f_3 x_4 e_6 f_7 x_8) (kk1_zaw_1 K x_1 e_2 f_3 x_4 e_6 f_7 x_8) n x_5
  | 0, _ => rfl
  | n + 1, x_5 => (r_zaw_1 N n x_1 e_2 f_3 x_4 e_6 f_7 x_8 x_5 K).trans (congrArg (fun nx => l_zaw_1_step N x_1 e_2 f_3 x_4 e_6 f_7 x_8 nx x_5 (kk0_zaw_1 K x_1 e_2 f_3 x_4 e_6 f_7 x_8) (kk1_zaw_1 K x_1 e_2 f_3 x_4 e_6 f_7 x_8)) (funext fun x_5 => w_zaw_1 N x_1 e_2 f_3 x_4 e_6 f_7 x_8 K n x_5))
def i_zaw_1 {R : Type} (E : List V) (s : S) (k : Int → List V → Fl → Int → Int → List V → Fl → Int → Option R) : Option R :=
  guardB (frameOk 34 [1, 11, 12, 13] E) <| atInt E 1 .i64 fun x_1 => atList E 11 7 fun e_2 f_3 => atInt E 12 .i64 fun x_4 => atInt E 13 .i64 fun x_5 => asOb s fun o'1 s'2 => obIs o'1 2 32 fun e'3 k'4 => isN k'4 0 <| asN1 e'3 fun v'5 => asAgg v'5 fun c'6 => asN2 c'6 fun v'7 v'8 => asList 7 v'7 fun e_6 f_7 => asInt .i64 v'8 fun x_8 => asEnd s'2 <| k x_1 e_2 f_3 x_4 x_5 e_6 f_7 x_8
theorem i_zaw_1_spec {R : Type} {E : List V} {s : S} {k : Int → List V → Fl → Int → Int → List V → Fl → Int → Option R} {r : R} (h : i_zaw_1 E s k = some r) : ∃ x_1 e_2 f_3 x_4 x_5 e_6 f_7 x_8, E = fr_zaw_1 x_1 e_2 f_3 x_4 e_6 f_7 x_8 x_5 ∧ s = [some ⟨[.agg [.list 7 e_6 f_7, .int .i64 x_8]], 2, 32, 0⟩] ∧ k x_1 e_2 f_3 x_4 x_5 e_6 f_7 x_8 = some r := by
  unfold i_zaw_1 at h
  obtain ⟨hg, h1⟩ := guardB_some h
  obtain ⟨_, hu1, h2⟩ := atInt_some h1
  obtain ⟨_, _, hu11, h3⟩ := atList_some h2
  obtain ⟨_, hu12, h4⟩ := atInt_some h3
  obtain ⟨_, hu13, h5⟩ := atInt_some h4
  obtain ⟨_, _, rfl, h6⟩ := asOb_some h5
  obtain ⟨_, _, rfl, h7⟩ := obIs_some h6
  obtain ⟨rfl, h8⟩ := isN_some h7
  obtain ⟨_, rfl, h9⟩ := asN1_some h8
  obtain ⟨_, rfl, h10⟩ := asAgg_some h9
  obtain ⟨_, _, rfl, h11⟩ := asN2_some h10
  obtain ⟨_, _, rfl, h12⟩ := asList_some h11
  obtain ⟨_, rfl, h13⟩ := asInt_some h12
  obtain ⟨rfl, h14⟩ := asEnd_some h13
  exact ⟨_, _, _, _, _, _, _, _, frame_is hg rfl (slots_cons hu1 (slots_cons hu11 (slots_cons hu12 (slots_cons hu13 slots_nil)))), rfl, h14⟩
noncomputable def Λ_zaw_1 (N : Nat) : Looper := (Λ_zaw_0 N).add [0, 1, 0, 1] fun _ E s K => i_zaw_1 (killE ks_zaw_1 E) s fun x_1 e_2 f_3 x_4 x_5 e_6 f_7 x_8 => l_zaw_1 N x_1 e_2 f_3 x_4 e_6 f_7 x_8 (kk0_zaw_1 K x_1 e_2 f_3 x_4 e_6 f_7 x_8) (kk1_zaw_1 K x_1 e_2 f_3 x_4 e_6 f_7 x_8) N x_5
theorem in_zaw_1 : loopsAt b_zaw_1 (0 :: [0, 1, 0, 1]) = [([0, 1, 1, 0, 0, 1, 1, 0, 0, 1, 0, 1], b_zaw_0)] := by kernel_rfl
theorem ok_zaw_1 {N : Nat} (hC : Ok Tryd.prog C) (hΦ : CalleeOk Tryd.prog C (Φ_zbe N)) : LoopOk Tryd.prog C (Λ_zaw_1 N) b_zaw_1 [0, 1, 0, 1] :=
  iter_ok (Λi := Λ_zaw_0 N) (tr := true) (ks := ks_zaw_1) (kx := kx_zaw_1) (N := N) hC hΦ
    (loopsOk_of b_zaw_1 _ (by
      rw [in_zaw_1]
      intro p hp
      simp only [List.mem_cons, List.mem_nil_iff, or_false] at hp
      rcases hp with rfl
      · exact (ok_zaw_0 hC hΦ)))
    fun R E s K r h => by
      have h2 := Looper.add_self.symm.trans h
      obtain ⟨_, _, _, _, _, _, _, _, he, rfl, h3⟩ := i_zaw_1_spec h2
      rw [he]
      exact (w_zaw_1 N _ _ _ _ _ _ _ _ N _).trans h3
theorem at_zaw : loopsAt c_zaw [] = [([0, 1, 0, 1], b_zaw_1)] := by kernel_rfl
theorem b_zaw {R : Type} (N : Nat) (e_1 : List V) (f_2 : Fl) (x_3 x_4 : Int) (K : V → S → Option R) : bodyV C (Φ_zbe N) (Λ_zaw_1 N) 45 Tryd.f45 [.agg [.list 7 e_1 f_2, .int .i64 x_3], .int .i64 x_4] [] K =
  gb_zaw N e_1 f_2 x_3 x_4 (fun x_5 w_6 => K (.tuple [.int .i64 x_5, .str w_6]) []) := by kernel_rfl
theorem loops_zaw {N : Nat} (hC : Ok Tryd.prog C) (hΦ : CalleeOk Tryd.prog C (Φ_zbe N)) : LoopsOk Tryd.prog C (Λ_zaw_1 N) c_zaw [] :=
  loopsOk_of c_zaw [] (by
    rw [at_zaw]
    intro p hp
    simp only [List.mem_cons, List.mem_nil_iff, or_false] at hp
    rcases hp with rfl
    · exact (ok_zaw_1 hC hΦ))
theorem callee_zaw (hC : Ok Tryd.prog C) {N : Nat} (hΦ : CalleeOk Tryd.prog C (Φ_zbe N)) : CalleeOk Tryd.prog C (Φ_zaw N) := by
  refine hΦ.add_pure rfl fun R vs K r h => ?_
  unfold f_zaw at h
  obtain ⟨_, _, rfl, h1⟩ := asN2_some h
  obtain ⟨_, _, _, rfl, h2⟩ := un_impl_Fs_some h1
  obtain ⟨_, rfl, h3⟩ := asInt_some h2
  obtain ⟨_, h4⟩ := asEnd_some h3
  refine body_pure (fn := Tryd.f45) (c := c_zaw) hC hΦ Tryd.func45 (by kernel_rfl) (by kernel_rfl) (loops_zaw (N := N) hC hΦ) rfl rfl ?_
  refine (b_zaw N _ _ _ _ _).trans ?_
  rw [← g_zaw_eq]
  exact h4
noncomputable def f_zbb (N : Nat) : (R : Type) → List V → S → (V → S → Option R) → Option R := fun _ vs s K =>
  asN3 vs fun v'1 v'2 v'3 => un_impl_Fs v'1 fun e_1 f_2 x_3 => asInt .i64 v'2 fun x_4 => asStr v'3 fun w_5 => asEnd s <| g_zbb N e_1 f_2 x_3 x_4 w_5 (fun x_6 => K (.int .i64 x_6) [])
noncomputable def Φ_zbb (N : Nat) : Callee := (Φ_zaw N).add 46 (f_zbb N)
noncomputable def c_zbb : Code := bodyOf Tryd.f46
noncomputable def b_zbb_0 : Code := (loopNo c_zbb [] 0).2
def ks_zbb_0 : List Nat := butL 27 [2, 14, 15, 16]
def kx_zbb_0 : List Nat := butL 27 [6]
def fr_zbb_0 (w_1 : ByteArray) (e_2 : List V) (f_3 : Fl) (x_4 : Int) (e_6 : List V) (f_7 : Fl) (x_8 x_5 : Int) : List V := mkF 0 27 [(2, .str w_1), (14, .list 2 e_2 f_3), (15, .int .i64 x_4), (16, .int .i64 x_5)]
def kk0_zbb_0 {R : Type} (K : X → List V → S → Option R) (w_1 : ByteArray) (e_2 : List V) (f_3 : Fl) (x_4 : Int) (e_6 : List V) (f_7 : Fl) (x_8 : Int) : Int → Option R := (fun x_1' => K .ret (mkF 0 27 [(6, .int .i64 (x_1'))]) [some ⟨[.agg [.list 7 e_6 f_7, .int .i64 x_8]], 2, 32, 0⟩])
def kk1_zbb_0 {R : Type} (K : X → List V → S → Option R) (w_1 : ByteArray) (e_2 : List V) (f_3 : Fl) (x_4 : Int) (e_6 : List V) (f_7 : Fl) (x_8 : Int) : Unit → Option R := (fun _ => K (.exit 0) (mkF 0 27 []) [some ⟨[.agg [.list 7 e_6 f_7, .int .i64 x_8]], 2, 32, 0⟩])
noncomputable abbrev it_zbb_0 {R : Type} (N : Nat) : Nat → List V → S → (X → List V → S → Option R) → Option R := fun n => iter C (Φ_zaw N) (noLooper) b_zbb_0 [0, 1, 0, 1] true ks_zbb_0 kx_zbb_0 n R
theorem r_zbb_0 {R : Type} (N n : Nat) (w_1 : ByteArray) (e_2 : List V) (f_3 : Fl) (x_4 : Int) (e_6 : List V) (f_7 : Fl) (x_8 : Int) (x_5 : Int) (K : X → List V → S → Option R) :
  it_zbb_0 N (n + 1) (fr_zbb_0 w_1 e_2 f_3 x_4 e_6 f_7 x_8 x_5) [some ⟨[.agg [.list 7 e_6 f_7, .int .i64 x_8]], 2, 32, 0⟩] K =
  l_zbb_0_step N w_1 e_2 f_3 x_4 e_6 f_7 x_8 (fun x_5 => it_zbb_0 N n (fr_zbb_0 w_1 e_2 f_3 x_4 e_6 f_7 x_8 x_5) [some ⟨[.agg [.list 7 e_6 f_7, .int .i64 x_8]], 2, 32, 0⟩] K) x_5 (kk0_zbb_0 K w_1 e_2 f_3 x_4 e_6 f_7 x_8) (kk1_zbb_0 K w_1 e_2 f_3 x_4 e_6 f_7 x_8) := by kernel_rfl
theorem w_zbb_0 {R : Type} (N : Nat) (w_1 : ByteArray) (e_2 : List V) (f_3 : Fl) (x_4 : Int) (e_6 : List V) (f_7 : Fl) (x_8 : Int) (K : X → List V → S → Option R) : ∀ (n : Nat) (x_5 : Int),
  it_zbb_0 N n (fr_zbb_0 w_1 e_2 f_3 x_4 e_6 f_7 x_8 x_5) [some ⟨[.agg [.list 7 e_6 f_7, .int .i64 x_8]], 2, 32, 0⟩] K = l_zbb_0 N w_1 e_2 f_3 x_4 e_6 f_7 x_8 (kk0_zbb_0 K w_1 e_2 f_3 x_4 e_6 f_7 x_8) (kk1_zbb_0 K w_1 e_2 f_3 x_4 e_6 f_7 x_8) n x_5
  | 0, _ => rfl
  | n + 1, x_5 => (r_zbb_0 N n w_1 e_2 f_3 x_4 e_6 f_7 x_8 x_5 K).trans (congrArg (fun nx => l_zbb_0_step N w_1 e_2 f_3 x_4 e_6 f_7 x_8 nx x_5 (kk0_zbb_0 K w_1 e_2 f_3 x_4 e_6 f_7 x_8) (kk1_zbb_0 K w_1 e_2 f_3 x_4 e_6 f_7 x_8)) (funext fun x_5 => w_zbb_0 N w_1 e_2 f_3 x_4 e_6 f_7 x_8 K n x_5))
def i_zbb_0 {R : Type} (E : List V) (s : S) (k : ByteArray → List V → Fl → Int → Int → List V → Fl → Int → Option R) : Option R :=
  guardB (frameOk 27 [2, 14, 15, 16] E) <| atStr E 2 fun w_1 => atList E 14 2 fun e_2 f_3 => atInt E 15 .i64 fun x_4 => atInt E 16 .i64 fun x_5 => asOb s fun o'1 s'2 => obIs o'1 2 32 fun e'3 k'4 => isN k'4 0 <| asN1 e'3 fun v'5 => asAgg v'5 fun c'6 => asN2 c'6 fun v'7 v'8 => asList 7 v'7 fun e_6 f_7 => asInt .i64 v'8 fun x_8 => asEnd s'2 <| k w_1 e_2 f_3 x_4 x_5 e_6 f_7 x_8
theorem i_zbb_0_spec {R : Type} {E : List V} {s : S} {k : ByteArray → List V → Fl → Int → Int → List V → Fl → Int → Option R} {r : R} (h : i_zbb_0 E s k = some r) : ∃ w_1 e_2 f_3 x_4 x_5 e_6 f_7 x_8, E = fr_zbb_0 w_1 e_2 f_3 x_4 e_6 f_7 x_8 x_5 ∧ s = [some ⟨[.agg [.list 7 e_6 f_7, .int .i64 x_8]], 2, 32, 0⟩] ∧ k w_1 e_2 f_3 x_4 x_5 e_6 f_7 x_8 = some r := by
  unfold i_zbb_0 at h
  obtain ⟨hg, h1⟩ := guardB_some h
  obtain ⟨_, hu2, h2⟩ := atStr_some h1
  obtain ⟨_, _, hu14, h3⟩ := atList_some h2
  obtain ⟨_, hu15, h4⟩ := atInt_some h3
  obtain ⟨_, hu16, h5⟩ := atInt_some h4
  obtain ⟨_, _, rfl, h6⟩ := asOb_some h5
  obtain ⟨_, _, rfl, h7⟩ := obIs_some h6
  obtain ⟨rfl, h8⟩ := isN_some h7
  obtain ⟨_, rfl, h9⟩ := asN1_some h8
  obtain ⟨_, rfl, h10⟩ := asAgg_some h9
  obtain ⟨_, _, rfl, h11⟩ := asN2_some h10
  obtain ⟨_, _, rfl, h12⟩ := asList_some h11
  obtain ⟨_, rfl, h13⟩ := asInt_some h12
  obtain ⟨rfl, h14⟩ := asEnd_some h13
  exact ⟨_, _, _, _, _, _, _, _, frame_is hg rfl (slots_cons hu2 (slots_cons hu14 (slots_cons hu15 (slots_cons hu16 slots_nil)))), rfl, h14⟩
noncomputable def Λ_zbb_0 (N : Nat) : Looper := (noLooper).add [0, 1, 0, 1] fun _ E s K => i_zbb_0 (killE ks_zbb_0 E) s fun w_1 e_2 f_3 x_4 x_5 e_6 f_7 x_8 => l_zbb_0 N w_1 e_2 f_3 x_4 e_6 f_7 x_8 (kk0_zbb_0 K w_1 e_2 f_3 x_4 e_6 f_7 x_8) (kk1_zbb_0 K w_1 e_2 f_3 x_4 e_6 f_7 x_8) N x_5
theorem ok_zbb_0 {N : Nat} (hC : Ok Tryd.prog C) (hΦ : CalleeOk Tryd.prog C (Φ_zaw N)) : LoopOk Tryd.prog C (Λ_zbb_0 N) b_zbb_0 [0, 1, 0, 1] :=
  iter_ok (Λi := noLooper) (tr := true) (ks := ks_zbb_0) (kx := kx_zbb_0) (N := N) hC hΦ
    (loopsOk_nil (by kernel_rfl))
    fun R E s K r h => by
      have h2 := Looper.add_self.symm.trans h
      obtain ⟨_, _, _, _, _, _, _, _, he, rfl, h3⟩ := i_zbb_0_spec h2
      rw [he]
      exact (w_zbb_0 N _ _ _ _ _ _ _ _ N _).trans h3
theorem at_zbb : loopsAt c_zbb [] = [([0, 1, 0, 1], b_zbb_0)] := by kernel_rfl
theorem b_zbb {R : Type} (N : Nat) (e_1 : List V) (f_2 : Fl) (x_3 x_4 : Int) (w_5 : ByteArray) (K : V → S → Option R) : bodyV C (Φ_zaw N) (Λ_zbb_0 N) 46 Tryd.f46 [.agg [.list 7 e_1 f_2, .int .i64 x_3], .int .i64 x_4, .str w_5] [] K =
  gb_zbb N e_1 f_2 x_3 x_4 w_5 (fun x_6 => K (.int .i64 x_6) []) := by kernel_rfl
theorem loops_zbb {N : Nat} (hC : Ok Tryd.prog C) (hΦ : CalleeOk Tryd.prog C (Φ_zaw N)) : LoopsOk Tryd.prog C (Λ_zbb_0 N) c_zbb [] :=
  loopsOk_of c_zbb [] (by
    rw [at_zbb]
    intro p hp
    simp only [List.mem_cons, List.mem_nil_iff, or_false] at hp
    rcases hp with rfl
    · exact (ok_zbb_0 hC hΦ))
theorem callee_zbb (hC : Ok Tryd.prog C) {N : Nat} (hΦ : CalleeOk Tryd.prog C (Φ_zaw N)) : CalleeOk Tryd.prog C (Φ_zbb N) := by
  refine hΦ.add_pure rfl fun R vs K r h => ?_
  unfold f_zbb at h
  obtain ⟨_, _, _, rfl, h1⟩ := asN3_some h
  obtain ⟨_, _, _, rfl, h2⟩ := un_impl_Fs_some h1
  obtain ⟨_, rfl, h3⟩ := asInt_some h2
  obtain ⟨_, rfl, h4⟩ := asStr_some h3
  obtain ⟨_, h5⟩ := asEnd_some h4
  refine body_pure (fn := Tryd.f46) (c := c_zbb) hC hΦ Tryd.func46 (by kernel_rfl) (by kernel_rfl) (loops_zbb (N := N) hC hΦ) rfl rfl ?_
  refine (b_zbb N _ _ _ _ _ _).trans ?_
  rw [← g_zbb_eq]
  exact h5
noncomputable def f_zam (N : Nat) : (R : Type) → List V → S → (V → S → Option R) → Option R := fun _ vs s K =>
  asN2 vs fun v'1 v'2 => asNils v'1 <| asInt .i64 v'2 fun x_1 => asEnd s <| g_zam N x_1 (fun e_2 => K (.list 1 e_2 (.own 9)) [])
noncomputable def Φ_zam (N : Nat) : Callee := (Φ_zbb N).add 73 (f_zam N)
open Go.RowKit Go.Lib in
set_option maxRecDepth 100000 in
theorem grow0_zam (w : World) : Calls Tryd.prog 73 #[.slice none 0 0, .int .i64 0] w fun e w' => e = .returned (.slice none 0 0) ∧ w' = w := by
  go_enter Tryd.func73, Tryd.ntmps73
  go_wp2
  go_ret
  exact ⟨rfl, rfl⟩
open Go.RowKit Go.Lib in
set_option maxRecDepth 100000 in
set_option maxHeartbeats 1000000 in
theorem grow1_zam (w : World) (n : Nat) (i0 : TypeInfo) (z : Value) (hn : 0 < n) (hi0 : Tryd.prog.info? 9 = some i0) (hz0 : i0.zero = some z) (hs0 : 0 < i0.size) (hbig : n * i0.bytes ≤ 140737488355328) (h63 : n ≤ 4611686018427387904) :
    Calls Tryd.prog 73 #[.slice none 0 0, .int .i64 n] w fun e w' =>
      e = .returned (.slice (some ⟨w.heap.size, 0, none⟩) 0 (grownCap w n 0 9)) ∧
      w' = w.drew.alloc (.cells (Builtin.zeroCells z.cells n ++ Builtin.zeroCells z.cells (grownCap w n 0 9 - n)) 9) := by
  have h1 : ¬ ((n : Int) < 0) := by omega
  have h3 : wrap64 ((n : Int) - (0 - 0)) = (n : Int) := by unfold wrap64; omega
  have h4 : (n : Int) > 0 := by omega
  have hold : (Builtin.firstCells i0.size 0 (.slice none 0 0)).run Tryd.prog w.drew = .ok (#[] : Array Value) w.drew := run_firstCells_none w.drew i0.size 0 0 0
  have hrz : ∀ ty, (Builtin.append_ #[69, 3] ty #[.slice none 0 0, .int .i64 (n : Int)]).run Tryd.prog w =
      .ok (.slice (some ⟨w.heap.size, 0, none⟩) n (grownCap w n 0 9)) (w.drew.alloc (.cells (Builtin.zeroCells z.cells n ++ Builtin.zeroCells z.cells (grownCap w n 0 9 - n)) 9)) := fun ty => by
    have h := Lib.run_append_grow_zeros w 69 3 ty 9 i0 z .i64 .i64 Tryd.underlying69 Tryd.underlying3 hi0 hz0 none 0 0 [] hold n (by omega) hs0 (by omega) (by omega)
      (by omega) (by have := growslice_fits (old := 0) (need := n) hn hbig; simpa using this)
    simpa using h
  have hGn : n ≤ grownCap w n 0 9 := grownCap_ge w _ _ _
  obtain ⟨G, hG⟩ : ∃ G, G = grownCap w n 0 9 := ⟨_, rfl⟩
  rw [← hG] at hrz hGn ⊢
  have hG63 : G ≤ 9223372036854775807 := by
    have := grownCap_le_maxLen w n 0 9 (by unfold maxLen; omega)
    rw [← hG] at this
    unfold maxLen at this
    omega
  clear hold hG
  go_enter Tryd.func73, Tryd.ntmps73
  go_wp2_with (at_builtin; refine Lib.wpList_append_run _ rfl _ _ _ _ rfl _ _ rfl rfl _ _ (hrz _) ?_)
  all_goals (go_ret; exact ⟨rfl, rfl⟩)
theorem callee_zam (hC : Ok Tryd.prog C) {N : Nat} (hΦ : CalleeOk Tryd.prog C (Φ_zbb N)) : CalleeOk Tryd.prog C (Φ_zam N) := by
  refine hΦ.add_own rfl fun R vs K r h => ?_
  unfold f_zam at h
  obtain ⟨_, _, rfl, h1⟩ := asN2_some h
  obtain ⟨rfl, h2⟩ := asNils_some h1
  obtain ⟨_, rfl, h3⟩ := asInt_some h2
  obtain ⟨_, h4⟩ := asEnd_some h3
  rw [g_zam_eq] at h4
  unfold gb_zam at h4
  split at h4 <;> first | (cases h4; done) | skip
  rename_i hcond
  exact ⟨_, h4, grow_owned hC (e := 9) (by kernel_rfl) Tryd.func73 (by kernel_rfl) (by kernel_rfl) grow0_zam grow1_zam (B := 16) (sz := 1) (by kernel_rfl) (by kernel_rfl) hcond⟩
noncomputable def f_zak (N : Nat) : (R : Type) → List V → S → (V → S → Option R) → Option R := fun _ vs s K =>
  asN1 vs fun v'1 => asList 1 v'1 fun e_1 f_2 => asEnd s <| g_zak N e_1 f_2 (fun e_3 => K (.list 1 e_3 .sh) [])
noncomputable def Φ_zak (N : Nat) : Callee := (Φ_zam N).add 47 (f_zak N)
noncomputable def c_zak : Code := bodyOf Tryd.f47
noncomputable def b_zak_0 : Code := (loopNo c_zak [] 0).2
noncomputable def b_zak_1 : Code := (loopNo c_zak [] 1).2
def ks_zak_0 : List Nat := butL 36 [0, 3, 9, 10, 11]
def kx_zak_0 : List Nat := butL 36 [0, 3]
def fr_zak_0 (e_1 : List V) (f_2 : Fl) (e_4 : List V) (f_5 : Fl) (x_6 x_3 x_7 : Int) : List V := mkF 0 36 [(0, .list 1 e_1 f_2), (3, .int .i64 x_3), (9, .list 1 e_4 f_5), (10, .int .i64 x_6), (11, .int .i64 x_7)]
def kk0_zak_0 {R : Type} (K : X → List V → S → Option R) (e_1 : List V) (f_2 : Fl) (e_4 : List V) (f_5 : Fl) (x_6 : Int) : Int → Option R := (fun x_1' => K (.exit 0) (mkF 0 36 [(0, .list 1 e_1 f_2), (3, .int .i64 (x_1'))]) [])
noncomputable abbrev it_zak_0 {R : Type} (N : Nat) : Nat → List V → S → (X → List V → S → Option R) → Option R := fun n => iter C (Φ_zam N) (noLooper) b_zak_0 [0, 1, 0, 1, 1] false ks_zak_0 kx_zak_0 n R
theorem r_zak_0 {R : Type} (N n : Nat) (e_1 : List V) (f_2 : Fl) (e_4 : List V) (f_5 : Fl) (x_6 : Int) (x_3 x_7 : Int) (K : X → List V → S → Option R) :
  it_zak_0 N (n + 1) (fr_zak_0 e_1 f_2 e_4 f_5 x_6 x_3 x_7) [] K =
  l_zak_0_step N e_1 f_2 e_4 f_5 x_6 (fun x_3 x_7 => it_zak_0 N n (fr_zak_0 e_1 f_2 e_4 f_5 x_6 x_3 x_7) [] K) x_3 x_7 (kk0_zak_0 K e_1 f_2 e_4 f_5 x_6) := by kernel_rfl
theorem w_zak_0 {R : Type} (N : Nat) (e_1 : List V) (f_2 : Fl) (e_4 : List V) (f_5 : Fl) (x_6 : Int) (K : X → List V → S → Option R) : ∀ (n : Nat) (x_3 x_7 : Int),
  it_zak_0 N n (fr_zak_0 e_1 f_2 e_4 f_5 x_6 x_3 x_7) [] K = l_zak_0 N e_1 f_2 e_4 f_5 x_6 (kk0_zak_0 K e_1 f_2 e_4 f_5 x_6) n x_3 x_7
  | 0, _, _ => rfl
  | n + 1, x_3, x_7 => (r_zak_0 N n e_1 f_2 e_4 f_5 x_6 x_3 x_7 K).trans (congrArg (fun nx => l_zak_0_step N e_1 f_2 e_4 f_5 x_6 nx x_3 x_7 (kk0_zak_0 K e_1 f_2 e_4 f_5 x_6)) (funext fun x_3 => funext fun x_7 => w_zak_0 N e_1 f_2 e_4 f_5 x_6 K n x_3 x_7))
def i_zak_0 {R : Type} (E : List V) (s : S) (k : List V → Fl → Int → List V → Fl → Int → Int → Option R) : Option R :=
  guardB (frameOk 36 [0, 3, 9, 10, 11] E) <| atList E 0 1 fun e_1 f_2 => atInt E 3 .i64 fun x_3 => atList E 9 1 fun e_4 f_5 => atInt E 10 .i64 fun x_6 => atInt E 11 .i64 fun x_7 => asEnd s <| k e_1 f_2 x_3 e_4 f_5 x_6 x_7
theorem i_zak_0_spec {R : Type} {E : List V} {s : S} {k : List V → Fl → Int → List V → Fl → Int → Int → Option R} {r : R} (h : i_zak_0 E s k = some r) : ∃ e_1 f_2 x_3 e_4 f_5 x_6 x_7, E = fr_zak_0 e_1 f_2 e_4 f_5 x_6 x_3 x_7 ∧ s = [] ∧ k e_1 f_2 x_3 e_4 f_5 x_6 x_7 = some r := by
  unfold i_zak_0 at h
  obtain ⟨hg, h1⟩ := guardB_some h
  obtain ⟨_, _, hu0, h2⟩ := atList_some h1
  obtain ⟨_, hu3, h3⟩ := atInt_some h2
  obtain ⟨_, _, hu9, h4⟩ := atList_some h3
  obtain ⟨_, hu10, h5⟩ := atInt_some h4
  obtain ⟨_, hu11, h6⟩ := atInt_some h5
  obtain ⟨rfl, h7⟩ := asEnd_some h6
  exact ⟨_, _, _, _, _, _, _, frame_is hg rfl (slots_cons hu0 (slots_cons hu3 (slots_cons hu9 (slots_cons hu10 (slots_cons hu11 slots_nil))))), rfl, h7⟩
noncomputable def Λ_zak_0 (N : Nat) : Looper := (noLooper).add [0, 1, 0, 1, 1] fun _ E s K => i_zak_0 (killE ks_zak_0 E) s fun e_1 f_2 x_3 e_4 f_5 x_6 x_7 => l_zak_0 N e_1 f_2 e_4 f_5 x_6 (kk0_zak_0 K e_1 f_2 e_4 f_5 x_6) N x_3 x_7
theorem ok_zak_0 {N : Nat} (hC : Ok Tryd.prog C) (hΦ : CalleeOk Tryd.prog C (Φ_zam N)) : LoopOk Tryd.prog C (Λ_zak_0 N) b_zak_0 [0, 1, 0, 1, 1] :=
  iter_ok (Λi := noLooper) (tr := false) (ks := ks_zak_0) (kx := kx_zak_0) (N := N) hC hΦ
    (loopsOk_nil (by kernel_rfl))
    fun R E s K r h => by
      have h2 := Looper.add_self.symm.trans h
      obtain ⟨_, _, _, _, _, _, _, he, rfl, h3⟩ := i_zak_0_spec h2
      rw [he]
      exact (w_zak_0 N _ _ _ _ _ _ N _ _).trans h3
def ks_zak_1 : List Nat := butL 36 [6, 25, 26, 27]
def kx_zak_1 : List Nat := butL 36 [6]
def fr_zak_1 (e_2 : List V) (f_3 : Fl) (x_4 : Int) (e_1 : List V) (x_5 : Int) : List V := mkF 0 36 [(6, .list 1 e_1 (.own 9)), (25, .list 1 e_2 f_3), (26, .int .i64 x_4), (27, .int .i64 x_5)]
def kk0_zak_1 {R : Type} (K : X → List V → S → Option R) (e_2 : List V) (f_3 : Fl) (x_4 : Int) : List V → Option R := (fun e_1' => K (.exit 2) (mkF 0 36 [(6, .list 1 (e_1') (.own 9))]) [])
noncomputable abbrev it_zak_1 {R : Type} (N : Nat) : Nat → List V → S → (X → List V → S → Option R) → Option R := fun n => iter C (Φ_zam N) (Λ_zak_0 N) b_zak_1 [0, 1, 0, 1, 1, 1, 1] false ks_zak_1 kx_zak_1 n R
theorem r_zak_1 {R : Type} (N n : Nat) (e_2 : List V) (f_3 : Fl) (x_4 : Int) (e_1 : List V) (x_5 : Int) (K : X → List V → S → Option R) :
  it_zak_1 N (n + 1) (fr_zak_1 e_2 f_3 x_4 e_1 x_5) [] K =
  l_zak_1_step N e_2 f_3 x_4 (fun e_1 x_5 => it_zak_1 N n (fr_zak_1 e_2 f_3 x_4 e_1 x_5) [] K) e_1 x_5 (kk0_zak_1 K e_2 f_3 x_4) := by kernel_rfl
theorem w_zak_1 {R : Type} (N : Nat) (e_2 : List V) (f_3 : Fl) (x_4 : Int) (K : X → List V → S → Option R) : ∀ (n : Nat) (e_1 : List V) (x_5 : Int),
  it_zak_1 N n (fr_zak_1 e_2 f_3 x_4 e_1 x_5) [] K = l_zak_1 N e_2 f_3 x_4 (kk0_zak_1 K e_2 f_3 x_4) n e_1 x_5
  | 0, _, _ => rfl
  | n + 1, e_1, x_5 => (r_zak_1 N n e_2 f_3 x_4 e_1 x_5 K).trans (congrArg (fun nx => l_zak_1_step N e_2 f_3 x_4 nx e_1 x_5 (kk0_zak_1 K e_2 f_3 x_4)) (funext fun e_1 => funext fun x_5 => w_zak_1 N e_2 f_3 x_4 K n e_1 x_5))
def i_zak_1 {R : Type} (E : List V) (s : S) (k : List V → List V → Fl → Int → Int → Option R) : Option R :=
  guardB (frameOk 36 [6, 25, 26, 27] E) <| must (nth E 6) fun u6 => asList 1 u6 fun e_1 f'1 => asOwn 9 f'1 <| atList E 25 1 fun e_2 f_3 => atInt E 26 .i64 fun x_4 => atInt E 27 .i64 fun x_5 => asEnd s <| k e_1 e_2 f_3 x_4 x_5
theorem i_zak_1_spec {R : Type} {E : List V} {s : S} {k : List V → List V → Fl → Int → Int → Option R} {r : R} (h : i_zak_1 E s k = some r) : ∃ e_1 e_2 f_3 x_4 x_5, E = fr_zak_1 e_2 f_3 x_4 e_1 x_5 ∧ s = [] ∧ k e_1 e_2 f_3 x_4 x_5 = some r := by
  unfold i_zak_1 at h
  obtain ⟨hg, h1⟩ := guardB_some h
  obtain ⟨_, hu6, h2⟩ := must_some h1
  obtain ⟨_, _, rfl, h3⟩ := asList_some h2
  obtain ⟨rfl, h4⟩ := asOwn_some h3
  obtain ⟨_, _, hu25, h5⟩ := atList_some h4
  obtain ⟨_, hu26, h6⟩ := atInt_some h5
  obtain ⟨_, hu27, h7⟩ := atInt_some h6
  obtain ⟨rfl, h8⟩ := asEnd_some h7
  exact ⟨_, _, _, _, _, frame_is hg rfl (slots_cons hu6 (slots_cons hu25 (slots_cons hu26 (slots_cons hu27 slots_nil)))), rfl, h8⟩
noncomputable def Λ_zak_1 (N : Nat) : Looper := (Λ_zak_0 N).add [0, 1, 0, 1, 1, 1, 1] fun _ E s K => i_zak_1 (killE ks_zak_1 E) s fun e_1 e_2 f_3 x_4 x_5 => l_zak_1 N e_2 f_3 x_4 (kk0_zak_1 K e_2 f_3 x_4) N e_1 x_5
theorem ok_zak_1 {N : Nat} (hC : Ok Tryd.prog C) (hΦ : CalleeOk Tryd.prog C (Φ_zam N)) : LoopOk Tryd.prog C (Λ_zak_1 N) b_zak_1 [0, 1, 0, 1, 1, 1, 1] :=
  iter_ok (Λi := Λ_zak_0 N) (tr := false) (ks := ks_zak_1) (kx := kx_zak_1) (N := N) hC hΦ
    (loopsOk_nil (by kernel_rfl))
    fun R E s K r h => by
      have h2 := Looper.add_self.symm.trans h
      obtain ⟨_, _, _, _, _, he, rfl, h3⟩ := i_zak_1_spec h2
      rw [he]
      exact (w_zak_1 N _ _ _ _ N _ _).trans h3
theorem at_zak : loopsAt c_zak [] = [([0, 1, 0, 1, 1], b_zak_0), ([0, 1, 0, 1, 1, 1, 1], b_zak_1)] := by kernel_rfl
theorem b_zak {R : Type} (N : Nat) (e_1 : List V) (f_2 : Fl) (K : V → S → Option R) : bodyV C (Φ_zam N) (Λ_zak_1 N) 47 Tryd.f47 [.list 1 e_1 f_2] [] K =
  gb_zak N e_1 f_2 (fun e_3 => K (.list 1 e_3 .sh) []) := by kernel_rfl
theorem loops_zak {N : Nat} (hC : Ok Tryd.prog C) (hΦ : CalleeOk Tryd.prog C (Φ_zam N)) : LoopsOk Tryd.prog C (Λ_zak_1 N) c_zak [] :=
  loopsOk_of c_zak [] (by
    rw [at_zak]
    intro p hp
    simp only [List.mem_cons, List.mem_nil_iff, or_false] at hp
    rcases hp with rfl | rfl
    · exact (LoopOk.add (ok_zak_0 hC hΦ) rfl)
    · exact (ok_zak_1 hC hΦ))
theorem callee_zak (hC : Ok Tryd.prog C) {N : Nat} (hΦ : CalleeOk Tryd.prog C (Φ_zam N)) : CalleeOk Tryd.prog C (Φ_zak N) := by
  refine hΦ.add_pure rfl fun R vs K r h => ?_
  unfold f_zak at h
  obtain ⟨_, rfl, h1⟩ := asN1_some h
  obtain ⟨_, _, rfl, h2⟩ := asList_some h1
  obtain ⟨_, h3⟩ := asEnd_some h2
  refine body_pure (fn := Tryd.f47) (c := c_zak) hC hΦ Tryd.func47 (by kernel_rfl) (by kernel_rfl) (loops_zak (N := N) hC hΦ) rfl rfl ?_
  refine (b_zak N _ _ _).trans ?_
  rw [← g_zak_eq]
  exact h3
noncomputable def f_zbq (N : Nat) : (R : Type) → List V → S → (V → S → Option R) → Option R := fun _ vs s K =>
  asN4 vs fun v'1 v'2 v'3 v'4 => un_impl_Fs v'1 fun e_1 f_2 x_3 => un_impl_Cred v'2 fun x_4 x_5 => asStr v'3 fun w_6 => asBool v'4 fun b_7 => asEnd s <| g_zbq N e_1 f_2 x_3 x_4 x_5 w_6 b_7 (fun x_8 x_9 => K (.tuple [.int .i64 x_8, .int .i64 x_9]) [])
noncomputable def Φ_zbq (N : Nat) : Callee := (Φ_zak N).add 25 (f_zbq N)
noncomputable def c_zbq : Code := bodyOf Tryd.f25
noncomputable def b_zbq_0 : Code := (loopNo c_zbq [] 0).2
def ks_zbq_0 : List Nat := butL 103 [3, 4, 5, 10, 11, 12, 13]
def kx_zbq_0 : List Nat := butL 103 [4, 8, 9, 10, 12]
def fr_zbq_0 (b_1 b_2 : Bool) (e_6 : List V) (f_7 : Fl) (x_8 x_9 x_10 : Int) (e_3 : List V) (x_4 x_5 : Int) : List V := mkF 0 103 [(3, .bool b_1), (4, .ptr 0 0 0 0), (5, .ptr 1 0 0 0), (10, .bool b_2), (11, .list 1 e_3 .sh), (12, .int .i64 x_4), (13, .int .i64 x_5)]
def kk0_zbq_0 {R : Type} (K : X → List V → S → Option R) (b_1 : Bool) (b_2 : Bool) (e_6 : List V) (f_7 : Fl) (x_8 : Int) (x_9 : Int) (x_10 : Int) : Int → Int → Option R := (fun x_2' x_1' => K .ret (mkF 0 103 [(4, .ptr 0 0 0 0), (8, .int .i64 0), (9, .int .i64 (x_2')), (10, .bool b_2), (12, .int .i64 (x_1'))]) [some ⟨[.agg [.list 7 e_6 f_7, .int .i64 x_8]], 2, 32, 0⟩, some ⟨[.agg [.int .i64 x_9, .int .i64 x_10]], 2, 34, 0⟩])
def kk1_zbq_0 {R : Type} (K : X → List V → S → Option R) (b_1 : Bool) (b_2 : Bool) (e_6 : List V) (f_7 : Fl) (x_8 : Int) (x_9 : Int) (x_10 : Int) : Int → Option R := (fun x_1' => K (.exit 0) (mkF 0 103 [(4, .ptr 0 0 0 0), (10, .bool b_2), (12, .int .i64 (x_1'))]) [some ⟨[.agg [.list 7 e_6 f_7, .int .i64 x_8]], 2, 32, 0⟩, some ⟨[.agg [.int .i64 x_9, .int .i64 x_10]], 2, 34, 0⟩])
noncomputable abbrev it_zbq_0 {R : Type} (N : Nat) : Nat → List V → S → (X → List V → S → Option R) → Option R := fun n => iter C (Φ_zak N) (noLooper) b_zbq_0 [0, 0, 1, 1, 1, 1] true ks_zbq_0 kx_zbq_0 n R
theorem r_zbq_0 {R : Type} (N n : Nat) (b_1 b_2 : Bool) (e_6 : List V) (f_7 : Fl) (x_8 x_9 x_10 : Int) (e_3 : List V) (x_4 x_5 : Int) (K : X → List V → S → Option R) :
  it_zbq_0 N (n + 1) (fr_zbq_0 b_1 b_2 e_6 f_7 x_8 x_9 x_10 e_3 x_4 x_5) [some ⟨[.agg [.list 7 e_6 f_7, .int .i64 x_8]], 2, 32, 0⟩, some ⟨[.agg [.int .i64 x_9, .int .i64 x_10]], 2, 34, 0⟩] K =
  l_zbq_0_step N b_1 b_2 e_6 f_7 x_8 x_9 x_10 (fun e_3 x_4 x_5 => it_zbq_0 N n (fr_zbq_0 b_1 b_2 e_6 f_7 x_8 x_9 x_10 e_3 x_4 x_5) [some ⟨[.agg [.list 7 e_6 f_7, .int .i64 x_8]], 2, 32, 0⟩, some ⟨[.agg [.int .i64 x_9, .int .i64 x_10]], 2, 34, 0⟩] K) e_3 x_4 x_5 (kk0_zbq_0 K b_1 b_2 e_6 f_7 x_8 x_9 x_10) (kk1_zbq_0 K b_1 b_2 e_6 f_7 x_8 x_9 x_10) := by kernel_rfl
theorem w_zbq_0 {R : Type} (N : Nat) (b_1 b_2 : Bool) (e_6 : List V) (f_7 : Fl) (x_8 x_9 x_10 : Int) (K : X → List V → S → Option R) : ∀ (n : Nat) (e_3 : List V) (x_4 x_5 : Int),
  it_zbq_0 N n (fr_zbq_0 b_1 b_2 e_6 f_7 x_8 x_9 x_10 e_3 x_4 x_5) [some ⟨[.agg [.list 7 e_6 f_7, .int .i64 x_8]], 2, 32, 0⟩, some ⟨[.agg [.int .i64 x_9, .int .i64 x_10]], 2, 34, 0⟩] K = l_zbq_0 N b_1 b_2 e_6 f_7 x_8 x_9 x_10 (kk0_zbq_0 K b_1 b_2 e_6 f_7 x_8 x_9 x_10) (kk1_zbq_0 K b_1 b_2 e_6 f_7 x_8 x_9 x_10) n e_3 x_4 x_5
  | 0, _, _, _ => rfl
  | n + 1, e_3, x_4, x_5 => (r_zbq_0 N n b_1 b_2 e_6 f_7 x_8 x_9 x_10 e_3 x_4 x_5 K).trans (congrArg (fun nx => l_zbq_0_step N b_1 b_2 e_6 f_7 x_8 x_9 x_10 nx e_3 x_4 x_5 (kk0_zbq_0 K b_1 b_2 e_6 f_7 x_8 x_9 x_10) (kk1_zbq_0 K b_1 b_2 e_6 f_7 x_8 x_9 x_10)) (funext fun e_3 => funext fun x_4 => funext fun x_5 => w_zbq_0 N b_1 b_2 e_6 f_7 x_8 x_9 x_10 K n e_3 x_4 x_5))
def i_zbq_0 {R : Type} (E : List V) (s : S) (k : Bool → Bool → List V → Int → Int → List V → Fl → Int → Int → Int → Option R) : Option R :=
  guardB (frameOk 103 [3, 4, 5, 10, 11, 12, 13] E) <| atBool E 3 fun b_1 => atIs E 4 (.ptr 0 0 0 0) <| atIs E 5 (.ptr 1 0 0 0) <| atBool E 10 fun b_2 => must (nth E 11) fun u11 => asList 1 u11 fun e_3 f'1 => asSh f'1 <| atInt E 12 .i64 fun x_4 => atInt E 13 .i64 fun x_5 => asOb s fun o'2 s'3 => obIs o'2 2 32 fun e'4 k'5 => isN k'5 0 <| asN1 e'4 fun v'6 => asAgg v'6 fun c'7 => asN2 c'7 fun v'8 v'9 => asList 7 v'8 fun e_6 f_7 => asInt .i64 v'9 fun x_8 => asOb s'3 fun o'10 s'11 => obIs o'10 2 34 fun e'12 k'13 => isN k'13 0 <| asN1 e'12 fun v'14 => asAgg v'14 fun c'15 => asN2 c'15 fun v'16 v'17 => asInt .i64 v'16 fun x_9 => asInt .i64 v'17 fun x_10 => asEnd s'11 <| k b_1 b_2 e_3 x_4 x_5 e_6 f_7 x_8 x_9 x_10
theorem i_zbq_0_spec {R : Type} {E : List V} {s : S} {k : Bool → Bool → List V → Int → Int → List V → Fl → Int → Int → Int → Option R} {r : R} (h : i_zbq_0 E s k = some r) : ∃ b_1 b_2 e_3 x_4 x_5 e_6 f_7 x_8 x_9 x_10, E = fr_zbq_0 b_1 b_2 e_6 f_7 x_8 x_9 x_10 e_3 x_4 x_5 ∧ s = [some ⟨[.agg [.list 7 e_6 f_7, .int .i64 x_8]], 2, 32, 0⟩, some ⟨[.agg [.int .i64 x_9, .int .i64 x_10]], 2, 34, 0⟩] ∧ k b_1 b_2 e_3 x_4 x_5 e_6 f_7 x_8 x_9 x_10 = some r := by
  unfold i_zbq_0 at h
  obtain ⟨hg, h1⟩ := guardB_some h
  obtain ⟨_, hu3, h2⟩ := atBool_some h1
  obtain ⟨hu4, h3⟩ := atIs_some h2
  obtain ⟨hu5, h4⟩ := atIs_some h3
  obtain ⟨_, hu10, h5⟩ := atBool_some h4
  obtain ⟨_, hu11, h6⟩ := must_some h5
  obtain ⟨_, _, rfl, h7⟩ := asList_some h6
  obtain ⟨rfl, h8⟩ := asSh_some h7
  obtain ⟨_, hu12, h9⟩ := atInt_some h8
  obtain ⟨_, hu13, h10⟩ := atInt_some h9
  obtain ⟨_, _, rfl, h11⟩ := asOb_some h10
  obtain ⟨_, _, rfl, h12⟩ := obIs_some h11
  obtain ⟨rfl, h13⟩ := isN_some h12
  obtain ⟨_, rfl, h14⟩ := asN1_some h13
  obtain ⟨_, rfl, h15⟩ := asAgg_some h14
  obtain ⟨_, _, rfl, h16⟩ := asN2_some h15
  obtain ⟨_, _, rfl, h17⟩ := asList_some h16
  obtain ⟨_, rfl, h18⟩ := asInt_some h17
  obtain ⟨_, _, rfl, h19⟩ := asOb_some h18
  obtain ⟨_, _, rfl, h20⟩ := obIs_some h19
  obtain ⟨rfl, h21⟩ := isN_some h20
  obtain ⟨_, rfl, h22⟩ := asN1_some h21
  obtain ⟨_, rfl, h23⟩ := asAgg_some h22
  obtain ⟨_, _, rfl, h24⟩ := asN2_some h23
  obtain ⟨_, rfl, h25⟩ := asInt_some h24
  obtain ⟨_, rfl, h26⟩ := asInt_some h25
  obtain ⟨rfl, h27⟩ := asEnd_some h26
  exact ⟨_, _, _, _, _, _, _, _, _, _, frame_is hg rfl (slots_cons hu3 (slots_cons hu4 (slots_cons hu5 (slots_cons hu10 (slots_cons hu11 (slots_cons hu12 (slots_cons hu13 slots_nil))))))), rfl, h27⟩
noncomputable def Λ_zbq_0 (N : Nat) : Looper := (noLooper).add [0, 0, 1, 1, 1, 1] fun _ E s K => i_zbq_0 (killE ks_zbq_0 E) s fun b_1 b_2 e_3 x_4 x_5 e_6 f_7 x_8 x_9 x_10 => l_zbq_0 N b_1 b_2 e_6 f_7 x_8 x_9 x_10 (kk0_zbq_0 K b_1 b_2 e_6 f_7 x_8 x_9 x_10) (kk1_zbq_0 K b_1 b_2 e_6 f_7 x_8 x_9 x_10) N e_3 x_4 x_5
theorem ok_zbq_0 {N : Nat} (hC : Ok Tryd.prog C) (hΦ : CalleeOk Tryd.prog C (Φ_zak N)) : LoopOk Tryd.prog C (Λ_zbq_0 N) b_zbq_0 [0, 0, 1, 1, 1, 1] :=
  iter_ok (Λi := noLooper) (tr := true) (ks := ks_zbq_0) (kx := kx_zbq_0) (N := N) hC hΦ
    (loopsOk_nil (by kernel_rfl))
    fun R E s K r h => by
      have h2 := Looper.add_self.symm.trans h
      obtain ⟨_, _, _, _, _, _, _, _, _, _, he, rfl, h3⟩ := i_zbq_0_spec h2
      rw [he]
      exact (w_zbq_0 N _ _ _ _ _ _ _ _ N _ _ _).trans h3
theorem at_zbq : loopsAt c_zbq [] = [([0, 0, 1, 1, 1, 1], b_zbq_0)] := by kernel_rfl
theorem b_zbq {R : Type} (N : Nat) (e_1 : List V) (f_2 : Fl) (x_3 x_4 x_5 : Int) (w_6 : ByteArray) (b_7 : Bool) (K : V → S → Option R) : bodyV C (Φ_zak N) (Λ_zbq_0 N) 25 Tryd.f25 [.agg [.list 7 e_1 f_2, .int .i64 x_3], .agg [.int .i64 x_4, .int .i64 x_5], .str w_6, .bool b_7] [] K =
  gb_zbq N e_1 f_2 x_3 x_4 x_5 w_6 b_7 (fun x_8 x_9 => K (.tuple [.int .i64 x_8, .int .i64 x_9]) []) := by kernel_rfl
theorem loops_zbq {N : Nat} (hC : Ok Tryd.prog C) (hΦ : CalleeOk Tryd.prog C (Φ_zak N)) : LoopsOk Tryd.prog C (Λ_zbq_0 N) c_zbq [] :=
  loopsOk_of c_zbq [] (by
    rw [at_zbq]
    intro p hp
    simp only [List.mem_cons, List.mem_nil_iff, or_false] at hp
    rcases hp with rfl
    · exact (ok_zbq_0 hC hΦ))
theorem callee_zbq (hC : Ok Tryd.prog C) {N : Nat} (hΦ : CalleeOk Tryd.prog C (Φ_zak N)) : CalleeOk Tryd.prog C (Φ_zbq N) := by
  refine hΦ.add_pure rfl fun R vs K r h => ?_
  unfold f_zbq at h
  obtain ⟨_, _, _, _, rfl, h1⟩ := asN4_some h
  obtain ⟨_, _, _, rfl, h2⟩ := un_impl_Fs_some h1
  obtain ⟨_, _, rfl, h3⟩ := un_impl_Cred_some h2
  obtain ⟨_, rfl, h4⟩ := asStr_some h3
  obtain ⟨_, rfl, h5⟩ := asBool_some h4
  obtain ⟨_, h6⟩ := asEnd_some h5
  refine body_pure (fn := Tryd.f25) (c := c_zbq) hC hΦ Tryd.func25 (by kernel_rfl) (by kernel_rfl) (loops_zbq (N := N) hC hΦ) rfl rfl ?_
  refine (b_zbq N _ _ _ _ _ _ _ _).trans ?_
  rw [← g_zbq_eq]
  exact h6
noncomputable def f_zch (N : Nat) : (R : Type) → List V → S → (V → S → Option R) → Option R := fun _ vs s K =>
  asN4 vs fun v'1 v'2 v'3 v'4 => un_impl_Fs v'1 fun e_1 f_2 x_3 => un_impl_Cred v'2 fun x_4 x_5 => asStr v'3 fun w_6 => asBool v'4 fun b_7 => asEnd s <| g_zch N e_1 f_2 x_3 x_4 x_5 w_6 b_7 (fun x_8 x_9 x_10 x_11 x_12 x_13 x_14 x_15 x_16 b_17 => K (.tuple [.agg [.int .i64 x_8, .int .i64 x_9, .int .i64 x_10, .int .i64 x_11, .int .i64 x_12, .int .i64 x_13, .int .i64 x_14, .int .i64 x_15], .int .i64 x_16, .bool b_17]) [])
noncomputable def Φ_zch (N : Nat) : Callee := (Φ_zbq N).add 18 (f_zch N)
noncomputable def c_zch : Code := bodyOf Tryd.f18
theorem b_zch {R : Type} (N : Nat) (e_1 : List V) (f_2 : Fl) (x_3 x_4 x_5 : Int) (w_6 : ByteArray) (b_7 : Bool) (K : V → S → Option R) : bodyV C (Φ_zbq N) (noLooper) 18 Tryd.f18 [.agg [.list 7 e_1 f_2, .int .i64 x_3], .agg [.int .i64 x_4, .int .i64 x_5], .str w_6, .bool b_7] [] K =
  gb_zch N e_1 f_2 x_3 x_4 x_5 w_6 b_7 (fun x_8 x_9 x_10 x_11 x_12 x_13 x_14 x_15 x_16 b_17 => K (.tuple [.agg [.int .i64 x_8, .int .i64 x_9, .int .i64 x_10, .int .i64 x_11, .int .i64 x_12, .int .i64 x_13, .int .i64 x_14, .int .i64 x_15], .int .i64 x_16, .bool b_17]) []) := by kernel_rfl
theorem callee_zch (hC : Ok Tryd.prog C) {N : Nat} (hΦ : CalleeOk Tryd.prog C (Φ_zbq N)) : CalleeOk Tryd.prog C (Φ_zch N) := by
  refine hΦ.add_pure rfl fun R vs K r h => ?_
  unfold f_zch at h
  obtain ⟨_, _, _, _, rfl, h1⟩ := asN4_some h
  obtain ⟨_, _, _, rfl, h2⟩ := un_impl_Fs_some h1
  obtain ⟨_, _, rfl, h3⟩ := un_impl_Cred_some h2
  obtain ⟨_, rfl, h4⟩ := asStr_some h3
  obtain ⟨_, rfl, h5⟩ := asBool_some h4
  obtain ⟨_, h6⟩ := asEnd_some h5
  refine body_pure (fn := Tryd.f18) (c := c_zch) hC hΦ Tryd.func18 (by kernel_rfl) (by kernel_rfl) (loopsOk_nil (Λ := noLooper) (by kernel_rfl)) rfl rfl ?_
  refine (b_zch N _ _ _ _ _ _ _ _).trans ?_
  rw [← g_zch_eq]
  exact h6
noncomputable def f_zcq (N : Nat) : (R : Type) → List V → S → (V → S → Option R) → Option R := fun _ vs s K =>
  asN2 vs fun v'1 v'2 => un_impl_Stat v'1 fun x_1 x_2 x_3 x_4 x_5 x_6 x_7 x_8 => un_impl_Stat v'2 fun x_9 x_10 x_11 x_12 x_13 x_14 x_15 x_16 => asEnd s <| g_zcq N x_1 x_2 x_3 x_4 x_5 x_6 x_7 x_8 x_9 x_10 x_11 x_12 x_13 x_14 x_15 x_16 (fun b_17 => K (.bool b_17) [])
noncomputable def Φ_zcq (N : Nat) : Callee := (Φ_zch N).add 19 (f_zcq N)
noncomputable def c_zcq : Code := bodyOf Tryd.f19
theorem b_zcq {R : Type} (N : Nat) (x_1 x_2 x_3 x_4 x_5 x_6 x_7 x_8 x_9 x_10 x_11 x_12 x_13 x_14 x_15 x_16 : Int) (K : V → S → Option R) : bodyV C (Φ_zch N) (noLooper) 19 Tryd.f19 [.agg [.int .i64 x_1, .int .i64 x_2, .int .i64 x_3, .int .i64 x_4, .int .i64 x_5, .int .i64 x_6, .int .i64 x_7, .int .i64 x_8], .agg [.int .i64 x_9, .int .i64 x_10, .int .i64 x_11, .int .i64 x_12, .int .i64 x_13, .int .i64 x_14, .int .i64 x_15, .int .i64 x_16]] [] K =
  gb_zcq N x_1 x_2 x_3 x_4 x_5 x_6 x_7 x_8 x_9 x_10 x_11 x_12 x_13 x_14 x_15 x_16 (fun b_17 => K (.bool b_17) []) := by kernel_rfl
theorem callee_zcq (hC : Ok Tryd.prog C) {N : Nat} (hΦ : CalleeOk Tryd.prog C (Φ_zch N)) : CalleeOk Tryd.prog C (Φ_zcq N) := by
  refine hΦ.add_pure rfl fun R vs K r h => ?_
  unfold f_zcq at h
  obtain ⟨_, _, rfl, h1⟩ := asN2_some h
  obtain ⟨_, _, _, _, _, _, _, _, rfl, h2⟩ := un_impl_Stat_some h1
  obtain ⟨_, _, _, _, _, _, _, _, rfl, h3⟩ := un_impl_Stat_some h2
  obtain ⟨_, h4⟩ := asEnd_some h3
  refine body_pure (fn := Tryd.f19) (c := c_zcq) hC hΦ Tryd.func19 (by kernel_rfl) (by kernel_rfl) (loopsOk_nil (Λ := noLooper) (by kernel_rfl)) rfl rfl ?_
  refine (b_zcq N _ _ _ _ _ _ _ _ _ _ _ _ _ _ _ _ _).trans ?_
  rw [← g_zcq_eq]
  exact h4
noncomputable def f_zan (N : Nat) : (R : Type) → List V → S → (V → S → Option R) → Option R := fun _ vs s K =>
  asN4 vs fun v'1 v'2 v'3 v'4 => un_laws_Fs v'1 fun e_1 f_2 x_3 => un_laws_Cred v'2 fun x_4 x_5 => asStr v'3 fun w_6 => asBool v'4 fun b_7 => asEnd s <| g_zan N e_1 f_2 x_3 x_4 x_5 w_6 b_7 (fun b_8 => K (.bool b_8) [])
noncomputable def Φ_zan (N : Nat) : Callee := (Φ_zcq N).add 6 (f_zan N)
noncomputable def c_zan : Code := bodyOf Tryd.f6
theorem b_zan {R : Type} (N : Nat) (e_1 : List V) (f_2 : Fl) (x_3 x_4 x_5 : Int) (w_6 : ByteArray) (b_7 : Bool) (K : V → S → Option R) : bodyV C (Φ_zcq N) (noLooper) 6 Tryd.f6 [.agg [.list 7 e_1 f_2, .int .i64 x_3], .agg [.int .i64 x_4, .int .i64 x_5], .str w_6, .bool b_7] [] K =
  gb_zan N e_1 f_2 x_3 x_4 x_5 w_6 b_7 (fun b_8 => K (.bool b_8) []) := by kernel_rfl
theorem callee_zan (hC : Ok Tryd.prog C) {N : Nat} (hΦ : CalleeOk Tryd.prog C (Φ_zcq N)) : CalleeOk Tryd.prog C (Φ_zan N) := by
  refine hΦ.add_pure rfl fun R vs K r h => ?_
  unfold f_zan at h
  obtain ⟨_, _, _, _, rfl, h1⟩ := asN4_some h
  obtain ⟨_, _, _, rfl, h2⟩ := un_laws_Fs_some h1
  obtain ⟨_, _, rfl, h3⟩ := un_laws_Cred_some h2
  obtain ⟨_, rfl, h4⟩ := asStr_some h3
  obtain ⟨_, rfl, h5⟩ := asBool_some h4
  obtain ⟨_, h6⟩ := asEnd_some h5
  refine body_pure (fn := Tryd.f6) (c := c_zan) hC hΦ Tryd.func6 (by kernel_rfl) (by kernel_rfl) (loopsOk_nil (Λ := noLooper) (by kernel_rfl)) rfl rfl ?_
  refine (b_zan N _ _ _ _ _ _ _ _).trans ?_
  rw [← g_zan_eq]
  exact h6
theorem callee_zan_prev (hC : Ok Tryd.prog C) (N : Nat) : CalleeOk Tryd.prog C (Φ_zcq N) :=
  have h0 := noCallee_ok Tryd.prog C
  have h1 := callee_zbw hC (N := N) h0
  have h2 := callee_zbj hC (N := N) h1
  have h3 := callee_zcr hC (N := N) h2
  have h4 := callee_zbx hC (N := N) h3
  have h5 := callee_zdk hC (N := N) h4
  have h6 := callee_zby hC (N := N) h5
  have h7 := callee_zbk hC (N := N) h6
  have h8 := callee_zct hC (N := N) h7
  have h9 := callee_zbz hC (N := N) h8
  have h10 := callee_zdl hC (N := N) h9
  have h11 := callee_zcs hC (N := N) h10
  have h12 := callee_zbu hC (N := N) h11
  have h13 := callee_zbi hC (N := N) h12
  have h14 := callee_zcp hC (N := N) h13
  have h15 := callee_zbv hC (N := N) h14
  have h16 := callee_zdj hC (N := N) h15
  have h17 := callee_zce hC (N := N) h16
  have h18 := callee_zdm hC (N := N) h17
  have h19 := callee_zcd hC (N := N) h18
  have h20 := callee_zca hC (N := N) h19
  have h21 := callee_zcb hC (N := N) h20
  have h22 := callee_zcx hC (N := N) h21
  have h23 := callee_zcy hC (N := N) h22
  have h24 := callee_zcw hC (N := N) h23
  have h25 := callee_zaz hC (N := N) h24
  have h26 := callee_zda hC (N := N) h25
  have h27 := callee_zdd hC (N := N) h26
  have h28 := callee_zdf hC (N := N) h27
  have h29 := callee_zdg hC (N := N) h28
  have h30 := callee_zcz hC (N := N) h29
  have h31 := callee_zcv hC (N := N) h30
  have h32 := callee_zcf hC (N := N) h31
  have h33 := callee_zcc hC (N := N) h32
  have h34 := callee_zde hC (N := N) h33
  have h35 := callee_zdh hC (N := N) h34
  have h36 := callee_zbl hC (N := N) h35
  have h37 := callee_zdn hC (N := N) h36
  have h38 := callee_zbm hC (N := N) h37
  have h39 := callee_zdb hC (N := N) h38
  have h40 := callee_zdc hC (N := N) h39
  have h41 := callee_zcu hC (N := N) h40
  have h42 := callee_zbd hC (N := N) h41
  have h43 := callee_zco hC (N := N) h42
  have h44 := callee_zcm hC (N := N) h43
  have h45 := callee_zdi hC (N := N) h44
  have h46 := callee_zag hC (N := N) h45
  have h47 := callee_zai hC (N := N) h46
  have h48 := callee_zal hC (N := N) h47
  have h49 := callee_zbo hC (N := N) h48
  have h50 := callee_zaj hC (N := N) h49
  have h51 := callee_zbn hC (N := N) h50
  have h52 := callee_zaq hC (N := N) h51
  have h53 := callee_zbp hC (N := N) h52
  have h54 := callee_zau hC (N := N) h53
  have h55 := callee_zac hC (N := N) h54
  have h56 := callee_zab hC (N := N) h55
  have h57 := callee_zbt hC (N := N) h56
  have h58 := callee_zat hC (N := N) h57
  have h59 := callee_zay hC (N := N) h58
  have h60 := callee_zaf hC (N := N) h59
  have h61 := callee_zae hC (N := N) h60
  have h62 := callee_zcl hC (N := N) h61
  have h63 := callee_zax hC (N := N) h62
  have h64 := callee_zad hC (N := N) h63
  have h65 := callee_zaa hC (N := N) h64
  have h66 := callee_zcj hC (N := N) h65
  have h67 := callee_zbh hC (N := N) h66
  have h68 := callee_zap hC (N := N) h67
  have h69 := callee_zck hC (N := N) h68
  have h70 := callee_zcn hC (N := N) h69
  have h71 := callee_zci hC (N := N) h70
  have h72 := callee_zbg hC (N := N) h71
  have h73 := callee_zas hC (N := N) h72
  have h74 := callee_zav hC (N := N) h73
  have h75 := callee_zar hC (N := N) h74
  have h76 := callee_zcg hC (N := N) h75
  have h77 := callee_zbf hC (N := N) h76
  have h78 := callee_zbr hC (N := N) h77
  have h79 := callee_zbs hC (N := N) h78
  have h80 := callee_zah hC (N := N) h79
  have h81 := callee_zao hC (N := N) h80
  have h82 := callee_zbc hC (N := N) h81
  have h83 := callee_zba hC (N := N) h82
  have h84 := callee_zbe hC (N := N) h83
  have h85 := callee_zaw hC (N := N) h84
  have h86 := callee_zbb hC (N := N) h85
  have h87 := callee_zam hC (N := N) h86
  have h88 := callee_zak hC (N := N) h87
  have h89 := callee_zbq hC (N := N) h88
  have h90 := callee_zch hC (N := N) h89
  have h91 := callee_zcq hC (N := N) h90
  h91
end Go.VM.VL
