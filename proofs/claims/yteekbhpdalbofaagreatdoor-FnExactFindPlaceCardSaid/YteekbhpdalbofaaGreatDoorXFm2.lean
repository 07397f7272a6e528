/- The functions of the program, told plainly: what each computes, as a function of its letters; and that the machine does the same. Printed by vgen.py, a program of this session's own. -/
import Derived.Test.YteekbhpdalbofaaGreatDoorXFm1
set_option linter.unusedVariables false
namespace Go.VM.VL
noncomputable section
open Go.Proofs
def f_zce (N : Nat) : (R : Type) → List V → S → (V → S → Option R) → Option R := fun _ vs s K =>
 asN1 vs fun v'1 => asStr v'1 fun w_1 => asEnd s <| g_zce N w_1 (fun e_2 => K (.list 1 e_2 .sh) [])
def Φ_zce (N : Nat) : Callee := (Φ_zab N).add 98 (f_zce N)
def c_zce : Code := bodyOf Tryz.f98
theorem b_zce {R : Type} (N : Nat) (w_1 : ByteArray) (K : V → S → Option R) : bodyV C (Φ_zab N) (noLooper) 98 Tryz.f98 [.str w_1] [] K =
 gb_zce N w_1 (fun e_2 => K (.list 1 e_2 .sh) []) := by kernel_rfl
theorem callee_zce (hC : Ok Tryz.prog C) {N : Nat} (hΦ : CalleeOk Tryz.prog C (Φ_zab N)) : CalleeOk Tryz.prog C (Φ_zce N) := by
 refine hΦ.add_pure rfl fun R vs K r h => ?_
 unfold f_zce at h
 obtain ⟨_, rfl, h1⟩ := asN1_some h
 obtain ⟨_, rfl, h2⟩ := asStr_some h1
 obtain ⟨_, h3⟩ := asEnd_some h2
 refine body_pure (fn := Tryz.f98) (c := c_zce) hC hΦ Tryz.func98 (by kernel_rfl) (by kernel_rfl) (loopsOk_nil (Λ := noLooper) (by kernel_rfl)) rfl rfl ?_
 refine (b_zce N _ _).trans ?_
 rw [← g_zce_eq]
 exact h3
def f_zbg (N : Nat) : (R : Type) → List V → S → (V → S → Option R) → Option R := fun _ vs s K =>
 asN1 vs fun v'1 => asStr v'1 fun w_1 => asEnd s <| g_zbg N w_1 (fun b_2 => K (.bool b_2) [])
def Φ_zbg (N : Nat) : Callee := (Φ_zce N).add 186 (f_zbg N)
def c_zbg : Code := bodyOf Tryz.f186
theorem b_zbg {R : Type} (N : Nat) (w_1 : ByteArray) (K : V → S → Option R) : bodyV C (Φ_zce N) (noLooper) 186 Tryz.f186 [.str w_1] [] K =
 gb_zbg N w_1 (fun b_2 => K (.bool b_2) []) := by kernel_rfl
theorem callee_zbg (hC : Ok Tryz.prog C) {N : Nat} (hΦ : CalleeOk Tryz.prog C (Φ_zce N)) : CalleeOk Tryz.prog C (Φ_zbg N) := by
 refine hΦ.add_pure rfl fun R vs K r h => ?_
 unfold f_zbg at h
 obtain ⟨_, rfl, h1⟩ := asN1_some h
 obtain ⟨_, rfl, h2⟩ := asStr_some h1
 obtain ⟨_, h3⟩ := asEnd_some h2
 refine body_pure (fn := Tryz.f186) (c := c_zbg) hC hΦ Tryz.func186 (by kernel_rfl) (by kernel_rfl) (loopsOk_nil (Λ := noLooper) (by kernel_rfl)) rfl rfl ?_
 refine (b_zbg N _ _).trans ?_
 rw [← g_zbg_eq]
 exact h3
def f_zad (N : Nat) : (R : Type) → List V → S → (V → S → Option R) → Option R := fun _ vs s K =>
 asN2 vs fun v'1 v'2 => asList 1 v'1 fun e_1 f_2 => asFn 186 v'2 fun c'3 => asN0 c'3 <| asEnd s <| g_zad N e_1 f_2 (fun x_3 => K (.int .i64 x_3) [])
def Φ_zad (N : Nat) : Callee := (Φ_zbg N).addIf 173 (fun l => isFn 1 186 l) (f_zad N)
def c_zad : Code := bodyOf Tryz.f173
def b_zad_0 : Code := (loopNo c_zad [] 0).2
def ks_zad_0 : List Nat := butL 19 [0, 1, 7, 8]
def kx_zad_0 : List Nat := butL 19 [4]
def fr_zad_0 (e_1 : List V) (f_2 : Fl) (x_3 x_4 : Int) : List V := mkF 0 19 [(0, .list 1 e_1 f_2), (1, .fn 186 []), (7, .int .i64 x_3), (8, .int .i64 x_4)]
def kk0_zad_0 {R : Type} (K : X → List V → S → Option R) (e_1 : List V) (f_2 : Fl) (x_3 : Int) : Int → Option R := (fun x_1' => K .ret (mkF 0 19 [(4, .int .i64 (x_1'))]) [])
def kk1_zad_0 {R : Type} (K : X → List V → S → Option R) (e_1 : List V) (f_2 : Fl) (x_3 : Int) : Unit → Option R := (fun _ => K (.exit 0) (mkF 0 19 []) [])
abbrev it_zad_0 {R : Type} (N : Nat) : Nat → List V → S → (X → List V → S → Option R) → Option R := fun n => iter C (Φ_zbg N) (noLooper) b_zad_0 [0, 1, 0, 1] false ks_zad_0 kx_zad_0 n R
theorem r_zad_0 {R : Type} (N n : Nat) (e_1 : List V) (f_2 : Fl) (x_3 : Int) (x_4 : Int) (K : X → List V → S → Option R) :
 it_zad_0 N (n + 1) (fr_zad_0 e_1 f_2 x_3 x_4) [] K =
 l_zad_0_step N e_1 f_2 x_3 (fun x_4 => it_zad_0 N n (fr_zad_0 e_1 f_2 x_3 x_4) [] K) x_4 (kk0_zad_0 K e_1 f_2 x_3) (kk1_zad_0 K e_1 f_2 x_3) := by kernel_rfl
theorem w_zad_0 {R : Type} (N : Nat) (e_1 : List V) (f_2 : Fl) (x_3 : Int) (K : X → List V → S → Option R) : ∀ (n : Nat) (x_4 : Int),
 it_zad_0 N n (fr_zad_0 e_1 f_2 x_3 x_4) [] K = l_zad_0 N e_1 f_2 x_3 (kk0_zad_0 K e_1 f_2 x_3) (kk1_zad_0 K e_1 f_2 x_3) n x_4
 | 0, _ => rfl
 | n + 1, x_4 => (r_zad_0 N n e_1 f_2 x_3 x_4 K).trans (congrArg (fun nx => l_zad_0_step N e_1 f_2 x_3 nx x_4 (kk0_zad_0 K e_1 f_2 x_3) (kk1_zad_0 K e_1 f_2 x_3)) (funext fun x_4 => w_zad_0 N e_1 f_2 x_3 K n x_4))
def i_zad_0 {R : Type} (E : List V) (s : S) (k : List V → Fl → Int → Int → Option R) : Option R :=
 guardB (frameOk 19 [0, 1, 7, 8] E) <| atList E 0 1 fun e_1 f_2 => must (nth E 1) fun u1 => asFn 186 u1 fun c'1 => asN0 c'1 <| atInt E 7 .i64 fun x_3 => atInt E 8 .i64 fun x_4 => asEnd s <| k e_1 f_2 x_3 x_4
theorem i_zad_0_spec {R : Type} {E : List V} {s : S} {k : List V → Fl → Int → Int → Option R} {r : R} (h : i_zad_0 E s k = some r) : ∃ e_1 f_2 x_3 x_4, E = fr_zad_0 e_1 f_2 x_3 x_4 ∧ s = [] ∧ k e_1 f_2 x_3 x_4 = some r := by
 unfold i_zad_0 at h
 obtain ⟨hg, h1⟩ := guardB_some h
 obtain ⟨_, _, hu0, h2⟩ := atList_some h1
 obtain ⟨_, hu1, h3⟩ := must_some h2
 obtain ⟨_, rfl, h4⟩ := asFn_some h3
 obtain ⟨rfl, h5⟩ := asN0_some h4
 obtain ⟨_, hu7, h6⟩ := atInt_some h5
 obtain ⟨_, hu8, h7⟩ := atInt_some h6
 obtain ⟨rfl, h8⟩ := asEnd_some h7
 exact ⟨_, _, _, _, frame_is hg rfl (slots_cons hu0 (slots_cons hu1 (slots_cons hu7 (slots_cons hu8 slots_nil)))), rfl, h8⟩
def Λ_zad_0 (N : Nat) : Looper := (noLooper).add [0, 1, 0, 1] fun _ E s K => i_zad_0 (killE ks_zad_0 E) s fun e_1 f_2 x_3 x_4 => l_zad_0 N e_1 f_2 x_3 (kk0_zad_0 K e_1 f_2 x_3) (kk1_zad_0 K e_1 f_2 x_3) N x_4
theorem ok_zad_0 {N : Nat} (hC : Ok Tryz.prog C) (hΦ : CalleeOk Tryz.prog C (Φ_zbg N)) : LoopOk Tryz.prog C (Λ_zad_0 N) b_zad_0 [0, 1, 0, 1] :=
 iter_ok (Λi := noLooper) (tr := false) (ks := ks_zad_0) (kx := kx_zad_0) (N := N) hC hΦ
  (loopsOk_nil (by kernel_rfl))
  fun R E s K r h => by
   have h2 := Looper.add_self.symm.trans h
   obtain ⟨_, _, _, _, he, rfl, h3⟩ := i_zad_0_spec h2
   rw [he]
   exact (w_zad_0 N _ _ _ _ N _).trans h3
theorem at_zad : loopsAt c_zad [] = [([0, 1, 0, 1], b_zad_0)] := by kernel_rfl
theorem b_zad {R : Type} (N : Nat) (e_1 : List V) (f_2 : Fl) (K : V → S → Option R) : bodyV C (Φ_zbg N) (Λ_zad_0 N) 173 Tryz.f173 [.list 1 e_1 f_2, .fn 186 []] [] K =
 gb_zad N e_1 f_2 (fun x_3 => K (.int .i64 x_3) []) := by kernel_rfl
theorem loops_zad {N : Nat} (hC : Ok Tryz.prog C) (hΦ : CalleeOk Tryz.prog C (Φ_zbg N)) : LoopsOk Tryz.prog C (Λ_zad_0 N) c_zad [] :=
 loopsOk_of c_zad [] (by
  rw [at_zad]
  intro p hp
  simp only [List.mem_cons, List.mem_nil_iff, or_false] at hp
  rcases hp with rfl
  ·exact (ok_zad_0 hC hΦ))
theorem callee_zad (hC : Ok Tryz.prog C) {N : Nat} (hΦ : CalleeOk Tryz.prog C (Φ_zbg N)) : CalleeOk Tryz.prog C (Φ_zad N) := by
 refine hΦ.addIf_pure rfl fun R vs K r h => ?_
 unfold f_zad at h
 obtain ⟨_, _, rfl, h1⟩ := asN2_some h
 obtain ⟨_, _, rfl, h2⟩ := asList_some h1
 obtain ⟨_, rfl, h3⟩ := asFn_some h2
 obtain ⟨rfl, h4⟩ := asN0_some h3
 obtain ⟨_, h5⟩ := asEnd_some h4
 refine body_pure (fn := Tryz.f173) (c := c_zad) hC hΦ Tryz.func173 (by kernel_rfl) (by kernel_rfl) (loops_zad (N := N) hC hΦ) rfl rfl ?_
 refine (b_zad N _ _ _).trans ?_
 rw [← g_zad_eq]
 exact h5
def f_zaa (N : Nat) : (R : Type) → List V → S → (V → S → Option R) → Option R := fun _ vs s K =>
 asN2 vs fun v'1 v'2 => asList 1 v'1 fun e_1 f_2 => asFn 186 v'2 fun c'3 => asN0 c'3 <| asEnd s <| g_zaa N e_1 f_2 (fun b_3 => K (.bool b_3) [])
def Φ_zaa (N : Nat) : Callee := (Φ_zad N).addIf 185 (fun l => isFn 1 186 l) (f_zaa N)
def c_zaa : Code := bodyOf Tryz.f185
theorem b_zaa {R : Type} (N : Nat) (e_1 : List V) (f_2 : Fl) (K : V → S → Option R) : bodyV C (Φ_zad N) (noLooper) 185 Tryz.f185 [.list 1 e_1 f_2, .fn 186 []] [] K =
 gb_zaa N e_1 f_2 (fun b_3 => K (.bool b_3) []) := by kernel_rfl
theorem callee_zaa (hC : Ok Tryz.prog C) {N : Nat} (hΦ : CalleeOk Tryz.prog C (Φ_zad N)) : CalleeOk Tryz.prog C (Φ_zaa N) := by
 refine hΦ.addIf_pure rfl fun R vs K r h => ?_
 unfold f_zaa at h
 obtain ⟨_, _, rfl, h1⟩ := asN2_some h
 obtain ⟨_, _, rfl, h2⟩ := asList_some h1
 obtain ⟨_, rfl, h3⟩ := asFn_some h2
 obtain ⟨rfl, h4⟩ := asN0_some h3
 obtain ⟨_, h5⟩ := asEnd_some h4
 refine body_pure (fn := Tryz.f185) (c := c_zaa) hC hΦ Tryz.func185 (by kernel_rfl) (by kernel_rfl) (loopsOk_nil (Λ := noLooper) (by kernel_rfl)) rfl rfl ?_
 refine (b_zaa N _ _ _).trans ?_
 rw [← g_zaa_eq]
 exact h5
def f_zcw (N : Nat) : (R : Type) → List V → S → (V → S → Option R) → Option R := fun _ vs s K =>
 asN1 vs fun v'1 => asStr v'1 fun w_1 => asEnd s <| g_zcw N w_1 (fun b_2 => K (.bool b_2) [])
def Φ_zcw (N : Nat) : Callee := (Φ_zaa N).add 172 (f_zcw N)
def c_zcw : Code := bodyOf Tryz.f172
theorem b_zcw {R : Type} (N : Nat) (w_1 : ByteArray) (K : V → S → Option R) : bodyV C (Φ_zaa N) (noLooper) 172 Tryz.f172 [.str w_1] [] K =
 gb_zcw N w_1 (fun b_2 => K (.bool b_2) []) := by kernel_rfl
theorem callee_zcw (hC : Ok Tryz.prog C) {N : Nat} (hΦ : CalleeOk Tryz.prog C (Φ_zaa N)) : CalleeOk Tryz.prog C (Φ_zcw N) := by
 refine hΦ.add_pure rfl fun R vs K r h => ?_
 unfold f_zcw at h
 obtain ⟨_, rfl, h1⟩ := asN1_some h
 obtain ⟨_, rfl, h2⟩ := asStr_some h1
 obtain ⟨_, h3⟩ := asEnd_some h2
 refine body_pure (fn := Tryz.f172) (c := c_zcw) hC hΦ Tryz.func172 (by kernel_rfl) (by kernel_rfl) (loopsOk_nil (Λ := noLooper) (by kernel_rfl)) rfl rfl ?_
 refine (b_zcw N _ _).trans ?_
 rw [← g_zcw_eq]
 exact h3
def f_zbs (N : Nat) : (R : Type) → List V → S → (V → S → Option R) → Option R := fun _ vs s K =>
 asN1 vs fun v'1 => asStr v'1 fun w_1 => asEnd s <| g_zbs N w_1 (fun b_2 => K (.bool b_2) [])
def Φ_zbs (N : Nat) : Callee := (Φ_zcw N).add 150 (f_zbs N)
def c_zbs : Code := bodyOf Tryz.f150
theorem b_zbs {R : Type} (N : Nat) (w_1 : ByteArray) (K : V → S → Option R) : bodyV C (Φ_zcw N) (noLooper) 150 Tryz.f150 [.str w_1] [] K =
 gb_zbs N w_1 (fun b_2 => K (.bool b_2) []) := by kernel_rfl
theorem callee_zbs (hC : Ok Tryz.prog C) {N : Nat} (hΦ : CalleeOk Tryz.prog C (Φ_zcw N)) : CalleeOk Tryz.prog C (Φ_zbs N) := by
 refine hΦ.add_pure rfl fun R vs K r h => ?_
 unfold f_zbs at h
 obtain ⟨_, rfl, h1⟩ := asN1_some h
 obtain ⟨_, rfl, h2⟩ := asStr_some h1
 obtain ⟨_, h3⟩ := asEnd_some h2
 refine body_pure (fn := Tryz.f150) (c := c_zbs) hC hΦ Tryz.func150 (by kernel_rfl) (by kernel_rfl) (loopsOk_nil (Λ := noLooper) (by kernel_rfl)) rfl rfl ?_
 refine (b_zbs N _ _).trans ?_
 rw [← g_zbs_eq]
 exact h3
def f_zax (N : Nat) : (R : Type) → List V → S → (V → S → Option R) → Option R := fun _ vs s K =>
 asN1 vs fun v'1 => un_impl_Node v'1 fun x_1 x_2 x_3 x_4 x_5 w_6 e_7 f_8 => asEnd s <| g_zax N x_1 x_2 x_3 x_4 x_5 w_6 e_7 f_8 (fun b_9 => K (.bool b_9) [])
def Φ_zax (N : Nat) : Callee := (Φ_zbs N).add 169 (f_zax N)
def c_zax : Code := bodyOf Tryz.f169
theorem b_zax {R : Type} (N : Nat) (x_1 x_2 x_3 x_4 x_5 : Int) (w_6 : ByteArray) (e_7 : List V) (f_8 : Fl) (K : V → S → Option R) : bodyV C (Φ_zbs N) (noLooper) 169 Tryz.f169 [.agg [.int .i64 x_1, .int .i64 x_2, .int .i64 x_3, .int .i64 x_4, .int .i64 x_5, .str w_6, .list 2 e_7 f_8]] [] K =
 gb_zax N x_1 x_2 x_3 x_4 x_5 w_6 e_7 f_8 (fun b_9 => K (.bool b_9) []) := by kernel_rfl
theorem callee_zax (hC : Ok Tryz.prog C) {N : Nat} (hΦ : CalleeOk Tryz.prog C (Φ_zbs N)) : CalleeOk Tryz.prog C (Φ_zax N) := by
 refine hΦ.add_pure rfl fun R vs K r h => ?_
 unfold f_zax at h
 obtain ⟨_, rfl, h1⟩ := asN1_some h
 obtain ⟨_, _, _, _, _, _, _, _, rfl, h2⟩ := un_impl_Node_some h1
 obtain ⟨_, h3⟩ := asEnd_some h2
 refine body_pure (fn := Tryz.f169) (c := c_zax) hC hΦ Tryz.func169 (by kernel_rfl) (by kernel_rfl) (loopsOk_nil (Λ := noLooper) (by kernel_rfl)) rfl rfl ?_
 refine (b_zax N _ _ _ _ _ _ _ _ _).trans ?_
 rw [← g_zax_eq]
 exact h3
def f_zda (N : Nat) : (R : Type) → List V → S → (V → S → Option R) → Option R := fun _ vs s K =>
 asN1 vs fun v'1 => asInt .i64 v'1 fun x_1 => asEnd s <| g_zda N x_1 (fun b_2 => K (.bool b_2) [])
def Φ_zda (N : Nat) : Callee := (Φ_zax N).add 170 (f_zda N)
def c_zda : Code := bodyOf Tryz.f170
theorem b_zda {R : Type} (N : Nat) (x_1 : Int) (K : V → S → Option R) : bodyV C (Φ_zax N) (noLooper) 170 Tryz.f170 [.int .i64 x_1] [] K =
 gb_zda N x_1 (fun b_2 => K (.bool b_2) []) := by kernel_rfl
theorem callee_zda (hC : Ok Tryz.prog C) {N : Nat} (hΦ : CalleeOk Tryz.prog C (Φ_zax N)) : CalleeOk Tryz.prog C (Φ_zda N) := by
 refine hΦ.add_pure rfl fun R vs K r h => ?_
 unfold f_zda at h
 obtain ⟨_, rfl, h1⟩ := asN1_some h
 obtain ⟨_, rfl, h2⟩ := asInt_some h1
 obtain ⟨_, h3⟩ := asEnd_some h2
 refine body_pure (fn := Tryz.f170) (c := c_zda) hC hΦ Tryz.func170 (by kernel_rfl) (by kernel_rfl) (loopsOk_nil (Λ := noLooper) (by kernel_rfl)) rfl rfl ?_
 refine (b_zda N _ _).trans ?_
 rw [← g_zda_eq]
 exact h3
def f_zba (N : Nat) : (R : Type) → List V → S → (V → S → Option R) → Option R := fun _ vs s K =>
 asN2 vs fun v'1 v'2 => un_impl_Fs v'1 fun e_1 f_2 x_3 => asInt .i64 v'2 fun x_4 => asEnd s <| g_zba N e_1 f_2 x_3 x_4 (fun b_5 => K (.bool b_5) [])
def Φ_zba (N : Nat) : Callee := (Φ_zda N).add 171 (f_zba N)
def c_zba : Code := bodyOf Tryz.f171
theorem b_zba {R : Type} (N : Nat) (e_1 : List V) (f_2 : Fl) (x_3 x_4 : Int) (K : V → S → Option R) : bodyV C (Φ_zda N) (noLooper) 171 Tryz.f171 [.agg [.list 7 e_1 f_2, .int .i64 x_3], .int .i64 x_4] [] K =
 gb_zba N e_1 f_2 x_3 x_4 (fun b_5 => K (.bool b_5) []) := by kernel_rfl
theorem callee_zba (hC : Ok Tryz.prog C) {N : Nat} (hΦ : CalleeOk Tryz.prog C (Φ_zda N)) : CalleeOk Tryz.prog C (Φ_zba N) := by
 refine hΦ.add_pure rfl fun R vs K r h => ?_
 unfold f_zba at h
 obtain ⟨_, _, rfl, h1⟩ := asN2_some h
 obtain ⟨_, _, _, rfl, h2⟩ := un_impl_Fs_some h1
 obtain ⟨_, rfl, h3⟩ := asInt_some h2
 obtain ⟨_, h4⟩ := asEnd_some h3
 refine body_pure (fn := Tryz.f171) (c := c_zba) hC hΦ Tryz.func171 (by kernel_rfl) (by kernel_rfl) (loopsOk_nil (Λ := noLooper) (by kernel_rfl)) rfl rfl ?_
 refine (b_zba N _ _ _ _ _).trans ?_
 rw [← g_zba_eq]
 exact h4
def f_zbe (N : Nat) : (R : Type) → List V → S → (V → S → Option R) → Option R := fun _ vs s K =>
 asN2 vs fun v'1 v'2 => un_impl_Fs v'1 fun e_1 f_2 x_3 => un_impl_Node v'2 fun x_4 x_5 x_6 x_7 x_8 w_9 e_10 f_11 => asEnd s <| g_zbe N e_1 f_2 x_3 x_4 x_5 x_6 x_7 x_8 w_9 e_10 f_11 (fun b_12 => K (.bool b_12) [])
def Φ_zbe (N : Nat) : Callee := (Φ_zba N).add 146 (f_zbe N)
def c_zbe : Code := bodyOf Tryz.f146
def b_zbe_0 : Code := (loopNo c_zbe [] 0).2
def ks_zbe_0 : List Nat := butL 99 [2, 3, 61, 62, 63]
def kx_zbe_0 : List Nat := butL 99 [3, 4]
def fr_zbe_0 (e_1 : List V) (f_2 : Fl) (x_3 : Int) (e_5 : List V) (f_6 : Fl) (x_7 x_8 x_9 x_10 x_11 x_12 : Int) (w_13 : ByteArray) (e_14 : List V) (f_15 : Fl) (x_4 : Int) : List V := mkF 0 99 [(2, .ptr 0 0 0 0), (3, .ptr 1 0 0 0), (61, .list 2 e_1 f_2), (62, .int .i64 x_3), (63, .int .i64 x_4)]
def kk0_zbe_0 {R : Type} (K : X → List V → S → Option R) (e_1 : List V) (f_2 : Fl) (x_3 : Int) (e_5 : List V) (f_6 : Fl) (x_7 : Int) (x_8 : Int) (x_9 : Int) (x_10 : Int) (x_11 : Int) (x_12 : Int) (w_13 : ByteArray) (e_14 : List V) (f_15 : Fl) : Unit → Option R := (fun _ => K .ret (mkF 0 99 [(3, .ptr 1 0 0 0), (4, .bool false)]) [some ⟨[.agg [.list 7 e_5 f_6, .int .i64 x_7]], 2, 34, 0⟩, some ⟨[.agg [.int .i64 x_8, .int .i64 x_9, .int .i64 x_10, .int .i64 x_11, .int .i64 x_12, .str w_13, .list 2 e_14 f_15]], 7, 87, 0⟩])
def kk1_zbe_0 {R : Type} (K : X → List V → S → Option R) (e_1 : List V) (f_2 : Fl) (x_3 : Int) (e_5 : List V) (f_6 : Fl) (x_7 : Int) (x_8 : Int) (x_9 : Int) (x_10 : Int) (x_11 : Int) (x_12 : Int) (w_13 : ByteArray) (e_14 : List V) (f_15 : Fl) : Unit → Option R := (fun _ => K (.exit 1) (mkF 0 99 [(3, .ptr 1 0 0 0)]) [some ⟨[.agg [.list 7 e_5 f_6, .int .i64 x_7]], 2, 34, 0⟩, some ⟨[.agg [.int .i64 x_8, .int .i64 x_9, .int .i64 x_10, .int .i64 x_11, .int .i64 x_12, .str w_13, .list 2 e_14 f_15]], 7, 87, 0⟩])
abbrev it_zbe_0 {R : Type} (N : Nat) : Nat → List V → S → (X → List V → S → Option R) → Option R := fun n => iter C (Φ_zba N) (noLooper) b_zbe_0 [0, 1, 0, 0, 1, 1, 1, 1, 1, 0, 1, 0, 1, 1, 1] true ks_zbe_0 kx_zbe_0 n R
theorem r_zbe_0 {R : Type} (N n : Nat) (e_1 : List V) (f_2 : Fl) (x_3 : Int) (e_5 : List V) (f_6 : Fl) (x_7 x_8 x_9 x_10 x_11 x_12 : Int) (w_13 : ByteArray) (e_14 : List V) (f_15 : Fl) (x_4 : Int) (K : X → List V → S → Option R) :
 it_zbe_0 N (n + 1) (fr_zbe_0 e_1 f_2 x_3 e_5 f_6 x_7 x_8 x_9 x_10 x_11 x_12 w_13 e_14 f_15 x_4) [some ⟨[.agg [.list 7 e_5 f_6, .int .i64 x_7]], 2, 34, 0⟩, some ⟨[.agg [.int .i64 x_8, .int .i64 x_9, .int .i64 x_10, .int .i64 x_11, .int .i64 x_12, .str w_13, .list 2 e_14 f_15]], 7, 87, 0⟩] K =
 l_zbe_0_step N e_1 f_2 x_3 e_5 f_6 x_7 x_8 x_9 x_10 x_11 x_12 w_13 e_14 f_15 (fun x_4 => it_zbe_0 N n (fr_zbe_0 e_1 f_2 x_3 e_5 f_6 x_7 x_8 x_9 x_10 x_11 x_12 w_13 e_14 f_15 x_4) [some ⟨[.agg [.list 7 e_5 f_6, .int .i64 x_7]], 2, 34, 0⟩, some ⟨[.agg [.int .i64 x_8, .int .i64 x_9, .int .i64 x_10, .int .i64 x_11, .int .i64 x_12, .str w_13, .list 2 e_14 f_15]], 7, 87, 0⟩] K) x_4 (kk0_zbe_0 K e_1 f_2 x_3 e_5 f_6 x_7 x_8 x_9 x_10 x_11 x_12 w_13 e_14 f_15) (kk1_zbe_0 K e_1 f_2 x_3 e_5 f_6 x_7 x_8 x_9 x_10 x_11 x_12 w_13 e_14 f_15) := by kernel_rfl
theorem w_zbe_0 {R : Type} (N : Nat) (e_1 : List V) (f_2 : Fl) (x_3 : Int) (e_5 : List V) (f_6 : Fl) (x_7 x_8 x_9 x_10 x_11 x_12 : Int) (w_13 : ByteArray) (e_14 : List V) (f_15 : Fl) (K : X → List V → S → Option R) : ∀ (n : Nat) (x_4 : Int),
 it_zbe_0 N n (fr_zbe_0 e_1 f_2 x_3 e_5 f_6 x_7 x_8 x_9 x_10 x_11 x_12 w_13 e_14 f_15 x_4) [some ⟨[.agg [.list 7 e_5 f_6, .int .i64 x_7]], 2, 34, 0⟩, some ⟨[.agg [.int .i64 x_8, .int .i64 x_9, .int .i64 x_10, .int .i64 x_11, .int .i64 x_12, .str w_13, .list 2 e_14 f_15]], 7, 87, 0⟩] K = l_zbe_0 N e_1 f_2 x_3 e_5 f_6 x_7 x_8 x_9 x_10 x_11 x_12 w_13 e_14 f_15 (kk0_zbe_0 K e_1 f_2 x_3 e_5 f_6 x_7 x_8 x_9 x_10 x_11 x_12 w_13 e_14 f_15) (kk1_zbe_0 K e_1 f_2 x_3 e_5 f_6 x_7 x_8 x_9 x_10 x_11 x_12 w_13 e_14 f_15) n x_4
 | 0, _ => rfl
 | n + 1, x_4 => (r_zbe_0 N n e_1 f_2 x_3 e_5 f_6 x_7 x_8 x_9 x_10 x_11 x_12 w_13 e_14 f_15 x_4 K).trans (congrArg (fun nx => l_zbe_0_step N e_1 f_2 x_3 e_5 f_6 x_7 x_8 x_9 x_10 x_11 x_12 w_13 e_14 f_15 nx x_4 (kk0_zbe_0 K e_1 f_2 x_3 e_5 f_6 x_7 x_8 x_9 x_10 x_11 x_12 w_13 e_14 f_15) (kk1_zbe_0 K e_1 f_2 x_3 e_5 f_6 x_7 x_8 x_9 x_10 x_11 x_12 w_13 e_14 f_15)) (funext fun x_4 => w_zbe_0 N e_1 f_2 x_3 e_5 f_6 x_7 x_8 x_9 x_10 x_11 x_12 w_13 e_14 f_15 K n x_4))
def i_zbe_0 {R : Type} (E : List V) (s : S) (k : List V → Fl → Int → Int → List V → Fl → Int → Int → Int → Int → Int → Int → ByteArray → List V → Fl → Option R) : Option R :=
 guardB (frameOk 99 [2, 3, 61, 62, 63] E) <| atIs E 2 (.ptr 0 0 0 0) <| atIs E 3 (.ptr 1 0 0 0) <| atList E 61 2 fun e_1 f_2 => atInt E 62 .i64 fun x_3 => atInt E 63 .i64 fun x_4 => asOb s fun o'1 s'2 => obIs o'1 2 34 fun e'3 k'4 => isN k'4 0 <| asN1 e'3 fun v'5 => asAgg v'5 fun c'6 => asN2 c'6 fun v'7 v'8 => asList 7 v'7 fun e_5 f_6 => asInt .i64 v'8 fun x_7 => asOb s'2 fun o'9 s'10 => obIs o'9 7 87 fun e'11 k'12 => isN k'12 0 <| asN1 e'11 fun v'13 => asAgg v'13 fun c'14 => asN7 c'14 fun v'15 v'16 v'17 v'18 v'19 v'20 v'21 => asInt .i64 v'15 fun x_8 => asInt .i64 v'16 fun x_9 => asInt .i64 v'17 fun x_10 => asInt .i64 v'18 fun x_11 => asInt .i64 v'19 fun x_12 => asStr v'20 fun w_13 => asList 2 v'21 fun e_14 f_15 => asEnd s'10 <| k e_1 f_2 x_3 x_4 e_5 f_6 x_7 x_8 x_9 x_10 x_11 x_12 w_13 e_14 f_15
theorem i_zbe_0_spec {R : Type} {E : List V} {s : S} {k : List V → Fl → Int → Int → List V → Fl → Int → Int → Int → Int → Int → Int → ByteArray → List V → Fl → Option R} {r : R} (h : i_zbe_0 E s k = some r) : ∃ e_1 f_2 x_3 x_4 e_5 f_6 x_7 x_8 x_9 x_10 x_11 x_12 w_13 e_14 f_15, E = fr_zbe_0 e_1 f_2 x_3 e_5 f_6 x_7 x_8 x_9 x_10 x_11 x_12 w_13 e_14 f_15 x_4 ∧ s = [some ⟨[.agg [.list 7 e_5 f_6, .int .i64 x_7]], 2, 34, 0⟩, some ⟨[.agg [.int .i64 x_8, .int .i64 x_9, .int .i64 x_10, .int .i64 x_11, .int .i64 x_12, .str w_13, .list 2 e_14 f_15]], 7, 87, 0⟩] ∧ k e_1 f_2 x_3 x_4 e_5 f_6 x_7 x_8 x_9 x_10 x_11 x_12 w_13 e_14 f_15 = some r := by
 unfold i_zbe_0 at h
 obtain ⟨hg, h1⟩ := guardB_some h
 obtain ⟨hu2, h2⟩ := atIs_some h1
 obtain ⟨hu3, h3⟩ := atIs_some h2
 obtain ⟨_, _, hu61, h4⟩ := atList_some h3
 obtain ⟨_, hu62, h5⟩ := atInt_some h4
 obtain ⟨_, hu63, h6⟩ := atInt_some h5
 obtain ⟨_, _, rfl, h7⟩ := asOb_some h6
 obtain ⟨_, _, rfl, h8⟩ := obIs_some h7
 obtain ⟨rfl, h9⟩ := isN_some h8
 obtain ⟨_, rfl, h10⟩ := asN1_some h9
 obtain ⟨_, rfl, h11⟩ := asAgg_some h10
 obtain ⟨_, _, rfl, h12⟩ := asN2_some h11
 obtain ⟨_, _, rfl, h13⟩ := asList_some h12
 obtain ⟨_, rfl, h14⟩ := asInt_some h13
 obtain ⟨_, _, rfl, h15⟩ := asOb_some h14
 obtain ⟨_, _, rfl, h16⟩ := obIs_some h15
 obtain ⟨rfl, h17⟩ := isN_some h16
 obtain ⟨_, rfl, h18⟩ := asN1_some h17
 obtain ⟨_, rfl, h19⟩ := asAgg_some h18
 obtain ⟨_, _, _, _, _, _, _, rfl, h20⟩ := asN7_some h19
 obtain ⟨_, rfl, h21⟩ := asInt_some h20
 obtain ⟨_, rfl, h22⟩ := asInt_some h21
 obtain ⟨_, rfl, h23⟩ := asInt_some h22
 obtain ⟨_, rfl, h24⟩ := asInt_some h23
 obtain ⟨_, rfl, h25⟩ := asInt_some h24
 obtain ⟨_, rfl, h26⟩ := asStr_some h25
 obtain ⟨_, _, rfl, h27⟩ := asList_some h26
 obtain ⟨rfl, h28⟩ := asEnd_some h27
 exact ⟨_, _, _, _, _, _, _, _, _, _, _, _, _, _, _, frame_is hg rfl (slots_cons hu2 (slots_cons hu3 (slots_cons hu61 (slots_cons hu62 (slots_cons hu63 slots_nil))))), rfl, h28⟩
def Λ_zbe_0 (N : Nat) : Looper := (noLooper).add [0, 1, 0, 0, 1, 1, 1, 1, 1, 0, 1, 0, 1, 1, 1] fun _ E s K => i_zbe_0 (killE ks_zbe_0 E) s fun e_1 f_2 x_3 x_4 e_5 f_6 x_7 x_8 x_9 x_10 x_11 x_12 w_13 e_14 f_15 => l_zbe_0 N e_1 f_2 x_3 e_5 f_6 x_7 x_8 x_9 x_10 x_11 x_12 w_13 e_14 f_15 (kk0_zbe_0 K e_1 f_2 x_3 e_5 f_6 x_7 x_8 x_9 x_10 x_11 x_12 w_13 e_14 f_15) (kk1_zbe_0 K e_1 f_2 x_3 e_5 f_6 x_7 x_8 x_9 x_10 x_11 x_12 w_13 e_14 f_15) N x_4
theorem ok_zbe_0 {N : Nat} (hC : Ok Tryz.prog C) (hΦ : CalleeOk Tryz.prog C (Φ_zba N)) : LoopOk Tryz.prog C (Λ_zbe_0 N) b_zbe_0 [0, 1, 0, 0, 1, 1, 1, 1, 1, 0, 1, 0, 1, 1, 1] :=
 iter_ok (Λi := noLooper) (tr := true) (ks := ks_zbe_0) (kx := kx_zbe_0) (N := N) hC hΦ
  (loopsOk_nil (by kernel_rfl))
  fun R E s K r h => by
   have h2 := Looper.add_self.symm.trans h
   obtain ⟨_, _, _, _, _, _, _, _, _, _, _, _, _, _, _, he, rfl, h3⟩ := i_zbe_0_spec h2
   rw [he]
   exact (w_zbe_0 N _ _ _ _ _ _ _ _ _ _ _ _ _ _ _ N _).trans h3
theorem at_zbe : loopsAt c_zbe [] = [([0, 1, 0, 0, 1, 1, 1, 1, 1, 0, 1, 0, 1, 1, 1], b_zbe_0)] := by kernel_rfl
theorem b_zbe {R : Type} (N : Nat) (e_1 : List V) (f_2 : Fl) (x_3 x_4 x_5 x_6 x_7 x_8 : Int) (w_9 : ByteArray) (e_10 : List V) (f_11 : Fl) (K : V → S → Option R) : bodyV C (Φ_zba N) (Λ_zbe_0 N) 146 Tryz.f146 [.agg [.list 7 e_1 f_2, .int .i64 x_3], .agg [.int .i64 x_4, .int .i64 x_5, .int .i64 x_6, .int .i64 x_7, .int .i64 x_8, .str w_9, .list 2 e_10 f_11]] [] K =
 gb_zbe N e_1 f_2 x_3 x_4 x_5 x_6 x_7 x_8 w_9 e_10 f_11 (fun b_12 => K (.bool b_12) []) := by kernel_rfl
theorem loops_zbe {N : Nat} (hC : Ok Tryz.prog C) (hΦ : CalleeOk Tryz.prog C (Φ_zba N)) : LoopsOk Tryz.prog C (Λ_zbe_0 N) c_zbe [] :=
 loopsOk_of c_zbe [] (by
  rw [at_zbe]
  intro p hp
  simp only [List.mem_cons, List.mem_nil_iff, or_false] at hp
  rcases hp with rfl
  ·exact (ok_zbe_0 hC hΦ))
theorem callee_zbe (hC : Ok Tryz.prog C) {N : Nat} (hΦ : CalleeOk Tryz.prog C (Φ_zba N)) : CalleeOk Tryz.prog C (Φ_zbe N) := by
 refine hΦ.add_pure rfl fun R vs K r h => ?_
 unfold f_zbe at h
 obtain ⟨_, _, rfl, h1⟩ := asN2_some h
 obtain ⟨_, _, _, rfl, h2⟩ := un_impl_Fs_some h1
 obtain ⟨_, _, _, _, _, _, _, _, rfl, h3⟩ := un_impl_Node_some h2
 obtain ⟨_, h4⟩ := asEnd_some h3
 refine body_pure (fn := Tryz.f146) (c := c_zbe) hC hΦ Tryz.func146 (by kernel_rfl) (by kernel_rfl) (loops_zbe (N := N) hC hΦ) rfl rfl ?_
 refine (b_zbe N _ _ _ _ _ _ _ _ _ _ _ _).trans ?_
 rw [← g_zbe_eq]
 exact h4
def f_zaz (N : Nat) : (R : Type) → List V → S → (V → S → Option R) → Option R := fun _ vs s K =>
 asN1 vs fun v'1 => un_impl_Fs v'1 fun e_1 f_2 x_3 => asEnd s <| g_zaz N e_1 f_2 x_3 (fun x_4 => K (.int .i64 x_4) [])
def Φ_zaz (N : Nat) : Callee := (Φ_zbe N).add 147 (f_zaz N)
def c_zaz : Code := bodyOf Tryz.f147
def b_zaz_0 : Code := (loopNo c_zaz [] 0).2
def ks_zaz_0 : List Nat := butL 20 [3, 7, 8, 9]
def kx_zaz_0 : List Nat := butL 20 [3]
def fr_zaz_0 (e_2 : List V) (f_3 : Fl) (x_4 : Int) (e_6 : List V) (f_7 : Fl) (x_8 x_1 x_5 : Int) : List V := mkF 0 20 [(3, .int .i64 x_1), (7, .list 7 e_2 f_3), (8, .int .i64 x_4), (9, .int .i64 x_5)]
def kk0_zaz_0 {R : Type} (K : X → List V → S → Option R) (e_2 : List V) (f_3 : Fl) (x_4 : Int) (e_6 : List V) (f_7 : Fl) (x_8 : Int) : Int → Option R := (fun x_1' => K (.exit 0) (mkF 0 20 [(3, .int .i64 (x_1'))]) [some ⟨[.agg [.list 7 e_6 f_7, .int .i64 x_8]], 2, 34, 0⟩])
abbrev it_zaz_0 {R : Type} (N : Nat) : Nat → List V → S → (X → List V → S → Option R) → Option R := fun n => iter C (Φ_zbe N) (noLooper) b_zaz_0 [0, 1, 0, 1, 1] true ks_zaz_0 kx_zaz_0 n R
theorem r_zaz_0 {R : Type} (N n : Nat) (e_2 : List V) (f_3 : Fl) (x_4 : Int) (e_6 : List V) (f_7 : Fl) (x_8 : Int) (x_1 x_5 : Int) (K : X → List V → S → Option R) :
 it_zaz_0 N (n + 1) (fr_zaz_0 e_2 f_3 x_4 e_6 f_7 x_8 x_1 x_5) [some ⟨[.agg [.list 7 e_6 f_7, .int .i64 x_8]], 2, 34, 0⟩] K =
 l_zaz_0_step N e_2 f_3 x_4 e_6 f_7 x_8 (fun x_1 x_5 => it_zaz_0 N n (fr_zaz_0 e_2 f_3 x_4 e_6 f_7 x_8 x_1 x_5) [some ⟨[.agg [.list 7 e_6 f_7, .int .i64 x_8]], 2, 34, 0⟩] K) x_1 x_5 (kk0_zaz_0 K e_2 f_3 x_4 e_6 f_7 x_8) := by kernel_rfl
theorem w_zaz_0 {R : Type} (N : Nat) (e_2 : List V) (f_3 : Fl) (x_4 : Int) (e_6 : List V) (f_7 : Fl) (x_8 : Int) (K : X → List V → S → Option R) : ∀ (n : Nat) (x_1 x_5 : Int),
 it_zaz_0 N n (fr_zaz_0 e_2 f_3 x_4 e_6 f_7 x_8 x_1 x_5) [some ⟨[.agg [.list 7 e_6 f_7, .int .i64 x_8]], 2, 34, 0⟩] K = l_zaz_0 N e_2 f_3 x_4 e_6 f_7 x_8 (kk0_zaz_0 K e_2 f_3 x_4 e_6 f_7 x_8) n x_1 x_5
 | 0, _, _ => rfl
 | n + 1, x_1, x_5 => (r_zaz_0 N n e_2 f_3 x_4 e_6 f_7 x_8 x_1 x_5 K).trans (congrArg (fun nx => l_zaz_0_step N e_2 f_3 x_4 e_6 f_7 x_8 nx x_1 x_5 (kk0_zaz_0 K e_2 f_3 x_4 e_6 f_7 x_8)) (funext fun x_1 => funext fun x_5 => w_zaz_0 N e_2 f_3 x_4 e_6 f_7 x_8 K n x_1 x_5))
def i_zaz_0 {R : Type} (E : List V) (s : S) (k : Int → List V → Fl → Int → Int → List V → Fl → Int → Option R) : Option R :=
 guardB (frameOk 20 [3, 7, 8, 9] E) <| atInt E 3 .i64 fun x_1 => atList E 7 7 fun e_2 f_3 => atInt E 8 .i64 fun x_4 => atInt E 9 .i64 fun x_5 => asOb s fun o'1 s'2 => obIs o'1 2 34 fun e'3 k'4 => isN k'4 0 <| asN1 e'3 fun v'5 => asAgg v'5 fun c'6 => asN2 c'6 fun v'7 v'8 => asList 7 v'7 fun e_6 f_7 => asInt .i64 v'8 fun x_8 => asEnd s'2 <| k x_1 e_2 f_3 x_4 x_5 e_6 f_7 x_8
theorem i_zaz_0_spec {R : Type} {E : List V} {s : S} {k : Int → List V → Fl → Int → Int → List V → Fl → Int → Option R} {r : R} (h : i_zaz_0 E s k = some r) : ∃ x_1 e_2 f_3 x_4 x_5 e_6 f_7 x_8, E = fr_zaz_0 e_2 f_3 x_4 e_6 f_7 x_8 x_1 x_5 ∧ s = [some ⟨[.agg [.list 7 e_6 f_7, .int .i64 x_8]], 2, 34, 0⟩] ∧ k x_1 e_2 f_3 x_4 x_5 e_6 f_7 x_8 = some r := by
 unfold i_zaz_0 at h
 obtain ⟨hg, h1⟩ := guardB_some h
 obtain ⟨_, hu3, h2⟩ := atInt_some h1
 obtain ⟨_, _, hu7, h3⟩ := atList_some h2
 obtain ⟨_, hu8, h4⟩ := atInt_some h3
 obtain ⟨_, hu9, h5⟩ := atInt_some h4
 obtain ⟨_, _, rfl, h6⟩ := asOb_some h5
 obtain ⟨_, _, rfl, h7⟩ := obIs_some h6
 obtain ⟨rfl, h8⟩ := isN_some h7
 obtain ⟨_, rfl, h9⟩ := asN1_some h8
 obtain ⟨_, rfl, h10⟩ := asAgg_some h9
 obtain ⟨_, _, rfl, h11⟩ := asN2_some h10
 obtain ⟨_, _, rfl, h12⟩ := asList_some h11
 obtain ⟨_, rfl, h13⟩ := asInt_some h12
 obtain ⟨rfl, h14⟩ := asEnd_some h13
 exact ⟨_, _, _, _, _, _, _, _, frame_is hg rfl (slots_cons hu3 (slots_cons hu7 (slots_cons hu8 (slots_cons hu9 slots_nil)))), rfl, h14⟩
def Λ_zaz_0 (N : Nat) : Looper := (noLooper).add [0, 1, 0, 1, 1] fun _ E s K => i_zaz_0 (killE ks_zaz_0 E) s fun x_1 e_2 f_3 x_4 x_5 e_6 f_7 x_8 => l_zaz_0 N e_2 f_3 x_4 e_6 f_7 x_8 (kk0_zaz_0 K e_2 f_3 x_4 e_6 f_7 x_8) N x_1 x_5
theorem ok_zaz_0 {N : Nat} (hC : Ok Tryz.prog C) (hΦ : CalleeOk Tryz.prog C (Φ_zbe N)) : LoopOk Tryz.prog C (Λ_zaz_0 N) b_zaz_0 [0, 1, 0, 1, 1] :=
 iter_ok (Λi := noLooper) (tr := true) (ks := ks_zaz_0) (kx := kx_zaz_0) (N := N) hC hΦ
  (loopsOk_nil (by kernel_rfl))
  fun R E s K r h => by
   have h2 := Looper.add_self.symm.trans h
   obtain ⟨_, _, _, _, _, _, _, _, he, rfl, h3⟩ := i_zaz_0_spec h2
   rw [he]
   exact (w_zaz_0 N _ _ _ _ _ _ _ N _ _).trans h3
theorem at_zaz : loopsAt c_zaz [] = [([0, 1, 0, 1, 1], b_zaz_0)] := by kernel_rfl
theorem b_zaz {R : Type} (N : Nat) (e_1 : List V) (f_2 : Fl) (x_3 : Int) (K : V → S → Option R) : bodyV C (Φ_zbe N) (Λ_zaz_0 N) 147 Tryz.f147 [.agg [.list 7 e_1 f_2, .int .i64 x_3]] [] K =
 gb_zaz N e_1 f_2 x_3 (fun x_4 => K (.int .i64 x_4) []) := by kernel_rfl
theorem loops_zaz {N : Nat} (hC : Ok Tryz.prog C) (hΦ : CalleeOk Tryz.prog C (Φ_zbe N)) : LoopsOk Tryz.prog C (Λ_zaz_0 N) c_zaz [] :=
 loopsOk_of c_zaz [] (by
  rw [at_zaz]
  intro p hp
  simp only [List.mem_cons, List.mem_nil_iff, or_false] at hp
  rcases hp with rfl
  ·exact (ok_zaz_0 hC hΦ))
theorem callee_zaz (hC : Ok Tryz.prog C) {N : Nat} (hΦ : CalleeOk Tryz.prog C (Φ_zbe N)) : CalleeOk Tryz.prog C (Φ_zaz N) := by
 refine hΦ.add_pure rfl fun R vs K r h => ?_
 unfold f_zaz at h
 obtain ⟨_, rfl, h1⟩ := asN1_some h
 obtain ⟨_, _, _, rfl, h2⟩ := un_impl_Fs_some h1
 obtain ⟨_, h3⟩ := asEnd_some h2
 refine body_pure (fn := Tryz.f147) (c := c_zaz) hC hΦ Tryz.func147 (by kernel_rfl) (by kernel_rfl) (loops_zaz (N := N) hC hΦ) rfl rfl ?_
 refine (b_zaz N _ _ _ _).trans ?_
 rw [← g_zaz_eq]
 exact h3
def f_zbn (N : Nat) : (R : Type) → List V → S → (V → S → Option R) → Option R := fun _ vs s K =>
 asN1 vs fun v'1 => un_impl_Fs v'1 fun e_1 f_2 x_3 => asEnd s <| g_zbn N e_1 f_2 x_3 (fun e_4 => K (.list 1 e_4 .sh) [])
def Φ_zbn (N : Nat) : Callee := (Φ_zaz N).add 148 (f_zbn N)
def c_zbn : Code := bodyOf Tryz.f148
def b_zbn_1 : Code := (loopNo c_zbn [] 0).2
def b_zbn_0 : Code := (loopNo b_zbn_1 (0 :: [0, 1, 0, 1, 1]) 0).2
def ks_zbn_0 : List Nat := butL 36 [3, 13, 14, 15, 20, 21, 22]
def kx_zbn_0 : List Nat := butL 36 [3, 13, 14, 15]
def fr_zbn_0 (k_1 : Nat) (e_2 : List V) (f_3 : Fl) (x_4 x_5 : Int) (e_6 : List V) (f_7 : Fl) (x_8 : Int) (e_10 : List V) (f_11 : Fl) (x_12 x_14 x_15 x_16 x_17 x_18 : Int) (w_19 : ByteArray) (e_20 : List V) (f_21 : Fl) (x_9 : Int) (e_13 : List V) : List V := mkF 0 36 [(3, .arr 1 0 0 k_1), (13, .list 7 e_2 f_3), (14, .int .i64 x_4), (15, .int .i64 x_5), (20, .list 2 e_6 f_7), (21, .int .i64 x_8), (22, .int .i64 x_9)]
def kk0_zbn_0 {R : Type} (K : X → List V → S → Option R) (k_1 : Nat) (e_2 : List V) (f_3 : Fl) (x_4 : Int) (x_5 : Int) (e_6 : List V) (f_7 : Fl) (x_8 : Int) (e_10 : List V) (f_11 : Fl) (x_12 : Int) (x_14 : Int) (x_15 : Int) (x_16 : Int) (x_17 : Int) (x_18 : Int) (w_19 : ByteArray) (e_20 : List V) (f_21 : Fl) : List V → Option R := (fun e_1' => K (.exit 2) (mkF 0 36 [(3, .arr 1 0 0 k_1), (13, .list 7 e_2 f_3), (14, .int .i64 x_4), (15, .int .i64 x_5)]) [some ⟨[.agg [.list 7 e_10 f_11, .int .i64 x_12]], 2, 34, 0⟩, some ⟨e_1', 1, 3, 0⟩, some ⟨[.agg [.int .i64 x_14, .int .i64 x_15, .int .i64 x_16, .int .i64 x_17, .int .i64 x_18, .str w_19, .list 2 e_20 f_21]], 7, 87, 0⟩])
abbrev it_zbn_0 {R : Type} (N : Nat) : Nat → List V → S → (X → List V → S → Option R) → Option R := fun n => iter C (Φ_zaz N) (noLooper) b_zbn_0 [0, 1, 1, 0, 0, 1, 1, 0, 0, 1, 0, 1, 1] true ks_zbn_0 kx_zbn_0 n R
theorem r_zbn_0 {R : Type} (N n : Nat) (k_1 : Nat) (e_2 : List V) (f_3 : Fl) (x_4 x_5 : Int) (e_6 : List V) (f_7 : Fl) (x_8 : Int) (e_10 : List V) (f_11 : Fl) (x_12 x_14 x_15 x_16 x_17 x_18 : Int) (w_19 : ByteArray) (e_20 : List V) (f_21 : Fl) (x_9 : Int) (e_13 : List V) (K : X → List V → S → Option R) :
 it_zbn_0 N (n + 1) (fr_zbn_0 k_1 e_2 f_3 x_4 x_5 e_6 f_7 x_8 e_10 f_11 x_12 x_14 x_15 x_16 x_17 x_18 w_19 e_20 f_21 x_9 e_13) [some ⟨[.agg [.list 7 e_10 f_11, .int .i64 x_12]], 2, 34, 0⟩, some ⟨e_13, 1, 3, 0⟩, some ⟨[.agg [.int .i64 x_14, .int .i64 x_15, .int .i64 x_16, .int .i64 x_17, .int .i64 x_18, .str w_19, .list 2 e_20 f_21]], 7, 87, 0⟩] K =
 l_zbn_0_step N k_1 e_2 f_3 x_4 x_5 e_6 f_7 x_8 e_10 f_11 x_12 x_14 x_15 x_16 x_17 x_18 w_19 e_20 f_21 (fun x_9 e_13 => it_zbn_0 N n (fr_zbn_0 k_1 e_2 f_3 x_4 x_5 e_6 f_7 x_8 e_10 f_11 x_12 x_14 x_15 x_16 x_17 x_18 w_19 e_20 f_21 x_9 e_13) [some ⟨[.agg [.list 7 e_10 f_11, .int .i64 x_12]], 2, 34, 0⟩, some ⟨e_13, 1, 3, 0⟩, some ⟨[.agg [.int .i64 x_14, .int .i64 x_15, .int .i64 x_16, .int .i64 x_17, .int .i64 x_18, .str w_19, .list 2 e_20 f_21]], 7, 87, 0⟩] K) x_9 e_13 (kk0_zbn_0 K k_1 e_2 f_3 x_4 x_5 e_6 f_7 x_8 e_10 f_11 x_12 x_14 x_15 x_16 x_17 x_18 w_19 e_20 f_21) := by kernel_rfl
theorem w_zbn_0 {R : Type} (N : Nat) (k_1 : Nat) (e_2 : List V) (f_3 : Fl) (x_4 x_5 : Int) (e_6 : List V) (f_7 : Fl) (x_8 : Int) (e_10 : List V) (f_11 : Fl) (x_12 x_14 x_15 x_16 x_17 x_18 : Int) (w_19 : ByteArray) (e_20 : List V) (f_21 : Fl) (K : X → List V → S → Option R) : ∀ (n : Nat) (x_9 : Int) (e_13 : List V),
 it_zbn_0 N n (fr_zbn_0 k_1 e_2 f_3 x_4 x_5 e_6 f_7 x_8 e_10 f_11 x_12 x_14 x_15 x_16 x_17 x_18 w_19 e_20 f_21 x_9 e_13) [some ⟨[.agg [.list 7 e_10 f_11, .int .i64 x_12]], 2, 34, 0⟩, some ⟨e_13, 1, 3, 0⟩, some ⟨[.agg [.int .i64 x_14, .int .i64 x_15, .int .i64 x_16, .int .i64 x_17, .int .i64 x_18, .str w_19, .list 2 e_20 f_21]], 7, 87, 0⟩] K = l_zbn_0 N k_1 e_2 f_3 x_4 x_5 e_6 f_7 x_8 e_10 f_11 x_12 x_14 x_15 x_16 x_17 x_18 w_19 e_20 f_21 (kk0_zbn_0 K k_1 e_2 f_3 x_4 x_5 e_6 f_7 x_8 e_10 f_11 x_12 x_14 x_15 x_16 x_17 x_18 w_19 e_20 f_21) n x_9 e_13
 | 0, _, _ => rfl
 | n + 1, x_9, e_13 => (r_zbn_0 N n k_1 e_2 f_3 x_4 x_5 e_6 f_7 x_8 e_10 f_11 x_12 x_14 x_15 x_16 x_17 x_18 w_19 e_20 f_21 x_9 e_13 K).trans (congrArg (fun nx => l_zbn_0_step N k_1 e_2 f_3 x_4 x_5 e_6 f_7 x_8 e_10 f_11 x_12 x_14 x_15 x_16 x_17 x_18 w_19 e_20 f_21 nx x_9 e_13 (kk0_zbn_0 K k_1 e_2 f_3 x_4 x_5 e_6 f_7 x_8 e_10 f_11 x_12 x_14 x_15 x_16 x_17 x_18 w_19 e_20 f_21)) (funext fun x_9 => funext fun e_13 => w_zbn_0 N k_1 e_2 f_3 x_4 x_5 e_6 f_7 x_8 e_10 f_11 x_12 x_14 x_15 x_16 x_17 x_18 w_19 e_20 f_21 K n x_9 e_13))
def i_zbn_0 {R : Type} (E : List V) (s : S) (k : Nat → List V → Fl → Int → Int → List V → Fl → Int → Int → List V → Fl → Int → List V → Int → Int → Int → Int → Int → ByteArray → List V → Fl → Option R) : Option R :=
 guardB (frameOk 36 [3, 13, 14, 15, 20, 21, 22] E) <| must (nth E 3) fun u3 => asArr u3 fun k'1 k'2 k'3 k_1 => isN k'1 1 <| isN k'2 0 <| isN k'3 0 <| atList E 13 7 fun e_2 f_3 => atInt E 14 .i64 fun x_4 => atInt E 15 .i64 fun x_5 => atList E 20 2 fun e_6 f_7 => atInt E 21 .i64 fun x_8 => atInt E 22 .i64 fun x_9 => asOb s fun o'4 s'5 => obIs o'4 2 34 fun e'6 k'7 => isN k'7 0 <| asN1 e'6 fun v'8 => asAgg v'8 fun c'9 => asN2 c'9 fun v'10 v'11 => asList 7 v'10 fun e_10 f_11 => asInt .i64 v'11 fun x_12 => asOb s'5 fun o'12 s'13 => obIs o'12 1 3 fun e_13 k'14 => isN k'14 0 <| asOb s'13 fun o'15 s'16 => obIs o'15 7 87 fun e'17 k'18 => isN k'18 0 <| asN1 e'17 fun v'19 => asAgg v'19 fun c'20 => asN7 c'20 fun v'21 v'22 v'23 v'24 v'25 v'26 v'27 => asInt .i64 v'21 fun x_14 => asInt .i64 v'22 fun x_15 => asInt .i64 v'23 fun x_16 => asInt .i64 v'24 fun x_17 => asInt .i64 v'25 fun x_18 => asStr v'26 fun w_19 => asList 2 v'27 fun e_20 f_21 => asEnd s'16 <| k k_1 e_2 f_3 x_4 x_5 e_6 f_7 x_8 x_9 e_10 f_11 x_12 e_13 x_14 x_15 x_16 x_17 x_18 w_19 e_20 f_21
theorem i_zbn_0_spec {R : Type} {E : List V} {s : S} {k : Nat → List V → Fl → Int → Int → List V → Fl → Int → Int → List V → Fl → Int → List V → Int → Int → Int → Int → Int → ByteArray → List V → Fl → Option R} {r : R} (h : i_zbn_0 E s k = some r) : ∃ k_1 e_2 f_3 x_4 x_5 e_6 f_7 x_8 x_9 e_10 f_11 x_12 e_13 x_14 x_15 x_16 x_17 x_18 w_19 e_20 f_21, E = fr_zbn_0 k_1 e_2 f_3 x_4 x_5 e_6 f_7 x_8 e_10 f_11 x_12 x_14 x_15 x_16 x_17 x_18 w_19 e_20 f_21 x_9 e_13 ∧ s = [some ⟨[.agg [.list 7 e_10 f_11, .int .i64 x_12]], 2, 34, 0⟩, some ⟨e_13, 1, 3, 0⟩, some ⟨[.agg [.int .i64 x_14, .int .i64 x_15, .int .i64 x_16, .int .i64 x_17, .int .i64 x_18, .str w_19, .list 2 e_20 f_21]], 7, 87, 0⟩] ∧ k k_1 e_2 f_3 x_4 x_5 e_6 f_7 x_8 x_9 e_10 f_11 x_12 e_13 x_14 x_15 x_16 x_17 x_18 w_19 e_20 f_21 = some r := by
 unfold i_zbn_0 at h
 obtain ⟨hg, h1⟩ := guardB_some h
 obtain ⟨_, hu3, h2⟩ := must_some h1
 obtain ⟨_, _, _, _, rfl, h3⟩ := asArr_some h2
 obtain ⟨rfl, h4⟩ := isN_some h3
 obtain ⟨rfl, h5⟩ := isN_some h4
 obtain ⟨rfl, h6⟩ := isN_some h5
 obtain ⟨_, _, hu13, h7⟩ := atList_some h6
 obtain ⟨_, hu14, h8⟩ := atInt_some h7
 obtain ⟨_, hu15, h9⟩ := atInt_some h8
 obtain ⟨_, _, hu20, h10⟩ := atList_some h9
 obtain ⟨_, hu21, h11⟩ := atInt_some h10
 obtain ⟨_, hu22, h12⟩ := atInt_some h11
 obtain ⟨_, _, rfl, h13⟩ := asOb_some h12
 obtain ⟨_, _, rfl, h14⟩ := obIs_some h13
 obtain ⟨rfl, h15⟩ := isN_some h14
 obtain ⟨_, rfl, h16⟩ := asN1_some h15
 obtain ⟨_, rfl, h17⟩ := asAgg_some h16
 obtain ⟨_, _, rfl, h18⟩ := asN2_some h17
 obtain ⟨_, _, rfl, h19⟩ := asList_some h18
 obtain ⟨_, rfl, h20⟩ := asInt_some h19
 obtain ⟨_, _, rfl, h21⟩ := asOb_some h20
 obtain ⟨_, _, rfl, h22⟩ := obIs_some h21
 obtain ⟨rfl, h23⟩ := isN_some h22
 obtain ⟨_, _, rfl, h24⟩ := asOb_some h23
 obtain ⟨_, _, rfl, h25⟩ := obIs_some h24
 obtain ⟨rfl, h26⟩ := isN_some h25
 obtain ⟨_, rfl, h27⟩ := asN1_some h26
 obtain ⟨_, rfl, h28⟩ := asAgg_some h27
 obtain ⟨_, _, _, _, _, _, _, rfl, h29⟩ := asN7_some h28
 obtain ⟨_, rfl, h30⟩ := asInt_some h29
 obtain ⟨_, rfl, h31⟩ := asInt_some h30
 obtain ⟨_, rfl, h32⟩ := asInt_some h31
 obtain ⟨_, rfl, h33⟩ := asInt_some h32
 obtain ⟨_, rfl, h34⟩ := asInt_some h33
 obtain ⟨_, rfl, h35⟩ := asStr_some h34
 obtain ⟨_, _, rfl, h36⟩ := asList_some h35
 obtain ⟨rfl, h37⟩ := asEnd_some h36
 exact ⟨_, _, _, _, _, _, _, _, _, _, _, _, _, _, _, _, _, _, _, _, _, frame_is hg rfl (slots_cons hu3 (slots_cons hu13 (slots_cons hu14 (slots_cons hu15 (slots_cons hu20 (slots_cons hu21 (slots_cons hu22 slots_nil))))))), rfl, h37⟩
def Λ_zbn_0 (N : Nat) : Looper := (noLooper).add [0, 1, 1, 0, 0, 1, 1, 0, 0, 1, 0, 1, 1] fun _ E s K => i_zbn_0 (killE ks_zbn_0 E) s fun k_1 e_2 f_3 x_4 x_5 e_6 f_7 x_8 x_9 e_10 f_11 x_12 e_13 x_14 x_15 x_16 x_17 x_18 w_19 e_20 f_21 => l_zbn_0 N k_1 e_2 f_3 x_4 x_5 e_6 f_7 x_8 e_10 f_11 x_12 x_14 x_15 x_16 x_17 x_18 w_19 e_20 f_21 (kk0_zbn_0 K k_1 e_2 f_3 x_4 x_5 e_6 f_7 x_8 e_10 f_11 x_12 x_14 x_15 x_16 x_17 x_18 w_19 e_20 f_21) N x_9 e_13
theorem ok_zbn_0 {N : Nat} (hC : Ok Tryz.prog C) (hΦ : CalleeOk Tryz.prog C (Φ_zaz N)) : LoopOk Tryz.prog C (Λ_zbn_0 N) b_zbn_0 [0, 1, 1, 0, 0, 1, 1, 0, 0, 1, 0, 1, 1] :=
 iter_ok (Λi := noLooper) (tr := true) (ks := ks_zbn_0) (kx := kx_zbn_0) (N := N) hC hΦ
  (loopsOk_nil (by kernel_rfl))
  fun R E s K r h => by
   have h2 := Looper.add_self.symm.trans h
   obtain ⟨_, _, _, _, _, _, _, _, _, _, _, _, _, _, _, _, _, _, _, _, _, he, rfl, h3⟩ := i_zbn_0_spec h2
   rw [he]
   exact (w_zbn_0 N _ _ _ _ _ _ _ _ _ _ _ _ _ _ _ _ _ _ _ _ N _ _).trans h3
def ks_zbn_1 : List Nat := butL 36 [3, 13, 14, 15]
def kx_zbn_1 : List Nat := butL 36 [3]
def fr_zbn_1 (k_1 : Nat) (e_2 : List V) (f_3 : Fl) (x_4 : Int) (e_6 : List V) (f_7 : Fl) (x_8 x_5 : Int) (e_9 : List V) : List V := mkF 0 36 [(3, .arr 1 0 0 k_1), (13, .list 7 e_2 f_3), (14, .int .i64 x_4), (15, .int .i64 x_5)]
def kk0_zbn_1 {R : Type} (K : X → List V → S → Option R) (k_1 : Nat) (e_2 : List V) (f_3 : Fl) (x_4 : Int) (e_6 : List V) (f_7 : Fl) (x_8 : Int) : List V → Option R := (fun e_1' => K (.exit 0) (mkF 0 36 [(3, .arr 1 0 0 k_1)]) [some ⟨[.agg [.list 7 e_6 f_7, .int .i64 x_8]], 2, 34, 0⟩, some ⟨e_1', 1, 3, 0⟩])
abbrev it_zbn_1 {R : Type} (N : Nat) : Nat → List V → S → (X → List V → S → Option R) → Option R := fun n => iter C (Φ_zaz N) (Λ_zbn_0 N) b_zbn_1 [0, 1, 0, 1, 1] true ks_zbn_1 kx_zbn_1 n R
theorem r_zbn_1 {R : Type} (N n : Nat) (k_1 : Nat) (e_2 : List V) (f_3 : Fl) (x_4 : Int) (e_6 : List V) (f_7 : Fl) (x_8 : Int) (x_5 : Int) (e_9 : List V) (K : X → List V → S → Option R) :
 it_zbn_1 N (n + 1) (fr_zbn_1 k_1 e_2 f_3 x_4 e_6 f_7 x_8 x_5 e_9) [some ⟨[.agg [.list 7 e_6 f_7, .int .i64 x_8]], 2, 34, 0⟩, some ⟨e_9, 1, 3, 0⟩] K =
 l_zbn_1_step N k_1 e_2 f_3 x_4 e_6 f_7 x_8 (fun x_5 e_9 => it_zbn_1 N n (fr_zbn_1 k_1 e_2 f_3 x_4 e_6 f_7 x_8 x_5 e_9) [some ⟨[.agg [.list 7 e_6 f_7, .int .i64 x_8]], 2, 34, 0⟩, some ⟨e_9, 1, 3, 0⟩] K) x_5 e_9 (kk0_zbn_1 K k_1 e_2 f_3 x_4 e_6 f_7 x_8) := by kernel_rfl
theorem w_zbn_1 {R : Type} (N : Nat) (k_1 : Nat) (e_2 : List V) (f_3 : Fl) (x_4 : Int) (e_6 : List V) (f_7 : Fl) (x_8 : Int) (K : X → List V → S → Option R) : ∀ (n : Nat) (x_5 : Int) (e_9 : List V),
 it_zbn_1 N n (fr_zbn_1 k_1 e_2 f_3 x_4 e_6 f_7 x_8 x_5 e_9) [some ⟨[.agg [.list 7 e_6 f_7, .int .i64 x_8]], 2, 34, 0⟩, some ⟨e_9, 1, 3, 0⟩] K = l_zbn_1 N k_1 e_2 f_3 x_4 e_6 f_7 x_8 (kk0_zbn_1 K k_1 e_2 f_3 x_4 e_6 f_7 x_8) n x_5 e_9
 | 0, _, _ => rfl
 | n + 1, x_5, e_9 => (r_zbn_1 N n k_1 e_2 f_3 x_4 e_6 f_7 x_8 x_5 e_9 K).trans (congrArg (fun nx => l_zbn_1_step N k_1 e_2 f_3 x_4 e_6 f_7 x_8 nx x_5 e_9 (kk0_zbn_1 K k_1 e_2 f_3 x_4 e_6 f_7 x_8)) (funext fun x_5 => funext fun e_9 => w_zbn_1 N k_1 e_2 f_3 x_4 e_6 f_7 x_8 K n x_5 e_9))
def i_zbn_1 {R : Type} (E : List V) (s : S) (k : Nat → List V → Fl → Int → Int → List V → Fl → Int → List V → Option R) : Option R :=
 guardB (frameOk 36 [3, 13, 14, 15] E) <| must (nth E 3) fun u3 => asArr u3 fun k'1 k'2 k'3 k_1 => isN k'1 1 <| isN k'2 0 <| isN k'3 0 <| atList E 13 7 fun e_2 f_3 => atInt E 14 .i64 fun x_4 => atInt E 15 .i64 fun x_5 => asOb s fun o'4 s'5 => obIs o'4 2 34 fun e'6 k'7 => isN k'7 0 <| asN1 e'6 fun v'8 => asAgg v'8 fun c'9 => asN2 c'9 fun v'10 v'11 => asList 7 v'10 fun e_6 f_7 => asInt .i64 v'11 fun x_8 => asOb s'5 fun o'12 s'13 => obIs o'12 1 3 fun e_9 k'14 => isN k'14 0 <| asEnd s'13 <| k k_1 e_2 f_3 x_4 x_5 e_6 f_7 x_8 e_9
theorem i_zbn_1_spec {R : Type} {E : List V} {s : S} {k : Nat → List V → Fl → Int → Int → List V → Fl → Int → List V → Option R} {r : R} (h : i_zbn_1 E s k = some r) : ∃ k_1 e_2 f_3 x_4 x_5 e_6 f_7 x_8 e_9, E = fr_zbn_1 k_1 e_2 f_3 x_4 e_6 f_7 x_8 x_5 e_9 ∧ s = [some ⟨[.agg [.list 7 e_6 f_7, .int .i64 x_8]], 2, 34, 0⟩, some ⟨e_9, 1, 3, 0⟩] ∧ k k_1 e_2 f_3 x_4 x_5 e_6 f_7 x_8 e_9 = some r := by
 unfold i_zbn_1 at h
 obtain ⟨hg, h1⟩ := guardB_some h
 obtain ⟨_, hu3, h2⟩ := must_some h1
 obtain ⟨_, _, _, _, rfl, h3⟩ := asArr_some h2
 obtain ⟨rfl, h4⟩ := isN_some h3
 obtain ⟨rfl, h5⟩ := isN_some h4
 obtain ⟨rfl, h6⟩ := isN_some h5
 obtain ⟨_, _, hu13, h7⟩ := atList_some h6
 obtain ⟨_, hu14, h8⟩ := atInt_some h7
 obtain ⟨_, hu15, h9⟩ := atInt_some h8
 obtain ⟨_, _, rfl, h10⟩ := asOb_some h9
 obtain ⟨_, _, rfl, h11⟩ := obIs_some h10
 obtain ⟨rfl, h12⟩ := isN_some h11
 obtain ⟨_, rfl, h13⟩ := asN1_some h12
 obtain ⟨_, rfl, h14⟩ := asAgg_some h13
 obtain ⟨_, _, rfl, h15⟩ := asN2_some h14
 obtain ⟨_, _, rfl, h16⟩ := asList_some h15
 obtain ⟨_, rfl, h17⟩ := asInt_some h16
 obtain ⟨_, _, rfl, h18⟩ := asOb_some h17
 obtain ⟨_, _, rfl, h19⟩ := obIs_some h18
 obtain ⟨rfl, h20⟩ := isN_some h19
 obtain ⟨rfl, h21⟩ := asEnd_some h20
 exact ⟨_, _, _, _, _, _, _, _, _, frame_is hg rfl (slots_cons hu3 (slots_cons hu13 (slots_cons hu14 (slots_cons hu15 slots_nil)))), rfl, h21⟩
def Λ_zbn_1 (N : Nat) : Looper := (Λ_zbn_0 N).add [0, 1, 0, 1, 1] fun _ E s K => i_zbn_1 (killE ks_zbn_1 E) s fun k_1 e_2 f_3 x_4 x_5 e_6 f_7 x_8 e_9 => l_zbn_1 N k_1 e_2 f_3 x_4 e_6 f_7 x_8 (kk0_zbn_1 K k_1 e_2 f_3 x_4 e_6 f_7 x_8) N x_5 e_9
theorem in_zbn_1 : loopsAt b_zbn_1 (0 :: [0, 1, 0, 1, 1]) = [([0, 1, 1, 0, 0, 1, 1, 0, 0, 1, 0, 1, 1], b_zbn_0)] := by kernel_rfl
theorem ok_zbn_1 {N : Nat} (hC : Ok Tryz.prog C) (hΦ : CalleeOk Tryz.prog C (Φ_zaz N)) : LoopOk Tryz.prog C (Λ_zbn_1 N) b_zbn_1 [0, 1, 0, 1, 1] :=
 iter_ok (Λi := Λ_zbn_0 N) (tr := true) (ks := ks_zbn_1) (kx := kx_zbn_1) (N := N) hC hΦ
  (loopsOk_of b_zbn_1 _ (by
   rw [in_zbn_1]
   intro p hp
   simp only [List.mem_cons, List.mem_nil_iff, or_false] at hp
   rcases hp with rfl
   ·exact (ok_zbn_0 hC hΦ)))
  fun R E s K r h => by
   have h2 := Looper.add_self.symm.trans h
   obtain ⟨_, _, _, _, _, _, _, _, _, he, rfl, h3⟩ := i_zbn_1_spec h2
   rw [he]
   exact (w_zbn_1 N _ _ _ _ _ _ _ _ N _ _).trans h3
theorem at_zbn : loopsAt c_zbn [] = [([0, 1, 0, 1, 1], b_zbn_1)] := by kernel_rfl
theorem b_zbn {R : Type} (N : Nat) (e_1 : List V) (f_2 : Fl) (x_3 : Int) (K : V → S → Option R) : bodyV C (Φ_zaz N) (Λ_zbn_1 N) 148 Tryz.f148 [.agg [.list 7 e_1 f_2, .int .i64 x_3]] [] K =
 gb_zbn N e_1 f_2 x_3 (fun e_4 => K (.list 1 e_4 .sh) []) := by kernel_rfl
theorem loops_zbn {N : Nat} (hC : Ok Tryz.prog C) (hΦ : CalleeOk Tryz.prog C (Φ_zaz N)) : LoopsOk Tryz.prog C (Λ_zbn_1 N) c_zbn [] :=
 loopsOk_of c_zbn [] (by
  rw [at_zbn]
  intro p hp
  simp only [List.mem_cons, List.mem_nil_iff, or_false] at hp
  rcases hp with rfl
  ·exact (ok_zbn_1 hC hΦ))
theorem callee_zbn (hC : Ok Tryz.prog C) {N : Nat} (hΦ : CalleeOk Tryz.prog C (Φ_zaz N)) : CalleeOk Tryz.prog C (Φ_zbn N) := by
 refine hΦ.add_pure rfl fun R vs K r h => ?_
 unfold f_zbn at h
 obtain ⟨_, rfl, h1⟩ := asN1_some h
 obtain ⟨_, _, _, rfl, h2⟩ := un_impl_Fs_some h1
 obtain ⟨_, h3⟩ := asEnd_some h2
 refine body_pure (fn := Tryz.f148) (c := c_zbn) hC hΦ Tryz.func148 (by kernel_rfl) (by kernel_rfl) (loops_zbn (N := N) hC hΦ) rfl rfl ?_
 refine (b_zbn N _ _ _ _).trans ?_
 rw [← g_zbn_eq]
 exact h3
def f_zcu (N : Nat) : (R : Type) → List V → S → (V → S → Option R) → Option R := fun _ vs s K =>
 asN1 vs fun v'1 => un_impl_Fs v'1 fun e_1 f_2 x_3 => asEnd s <| g_zcu N e_1 f_2 x_3 (fun b_4 => K (.bool b_4) [])
def Φ_zcu (N : Nat) : Callee := (Φ_zbn N).add 94 (f_zcu N)
def c_zcu : Code := bodyOf Tryz.f94
def b_zcu_0 : Code := (loopNo c_zcu [] 0).2
def b_zcu_1 : Code := (loopNo c_zcu [] 1).2
def b_zcu_3 : Code := (loopNo c_zcu [] 2).2
def b_zcu_4 : Code := (loopNo c_zcu [] 3).2
def b_zcu_2 : Code := (loopNo b_zcu_3 (0 :: [0, 1, 0, 1, 1, 1, 1, 1, 1, 1, 1]) 0).2
def ks_zcu_0 : List Nat := butL 156 [1, 36, 37, 38]
def kx_zcu_0 : List Nat := butL 156 [1, 2]
def fr_zcu_0 (e_1 : List V) (f_2 : Fl) (x_3 : Int) (e_5 : List V) (f_6 : Fl) (x_7 x_4 : Int) : List V := mkF 0 156 [(1, .ptr 0 0 0 0), (36, .list 7 e_1 f_2), (37, .int .i64 x_3), (38, .int .i64 x_4)]
def kk0_zcu_0 {R : Type} (K : X → List V → S → Option R) (e_1 : List V) (f_2 : Fl) (x_3 : Int) (e_5 : List V) (f_6 : Fl) (x_7 : Int) : Unit → Option R := (fun _ => K .ret (mkF 0 156 [(1, .ptr 0 0 0 0), (2, .bool false)]) [some ⟨[.agg [.list 7 e_5 f_6, .int .i64 x_7]], 2, 34, 0⟩])
def kk1_zcu_0 {R : Type} (K : X → List V → S → Option R) (e_1 : List V) (f_2 : Fl) (x_3 : Int) (e_5 : List V) (f_6 : Fl) (x_7 : Int) : Unit → Option R := (fun _ => K (.exit 0) (mkF 0 156 [(1, .ptr 0 0 0 0)]) [some ⟨[.agg [.list 7 e_5 f_6, .int .i64 x_7]], 2, 34, 0⟩])
abbrev it_zcu_0 {R : Type} (N : Nat) : Nat → List V → S → (X → List V → S → Option R) → Option R := fun n => iter C (Φ_zbn N) (noLooper) b_zcu_0 [0, 1, 0, 1, 1] true ks_zcu_0 kx_zcu_0 n R
theorem r_zcu_0 {R : Type} (N n : Nat) (e_1 : List V) (f_2 : Fl) (x_3 : Int) (e_5 : List V) (f_6 : Fl) (x_7 : Int) (x_4 : Int) (K : X → List V → S → Option R) :
 it_zcu_0 N (n + 1) (fr_zcu_0 e_1 f_2 x_3 e_5 f_6 x_7 x_4) [some ⟨[.agg [.list 7 e_5 f_6, .int .i64 x_7]], 2, 34, 0⟩] K =
 l_zcu_0_step N e_1 f_2 x_3 e_5 f_6 x_7 (fun x_4 => it_zcu_0 N n (fr_zcu_0 e_1 f_2 x_3 e_5 f_6 x_7 x_4) [some ⟨[.agg [.list 7 e_5 f_6, .int .i64 x_7]], 2, 34, 0⟩] K) x_4 (kk0_zcu_0 K e_1 f_2 x_3 e_5 f_6 x_7) (kk1_zcu_0 K e_1 f_2 x_3 e_5 f_6 x_7) := by kernel_rfl
theorem w_zcu_0 {R : Type} (N : Nat) (e_1 : List V) (f_2 : Fl) (x_3 : Int) (e_5 : List V) (f_6 : Fl) (x_7 : Int) (K : X → List V → S → Option R) : ∀ (n : Nat) (x_4 : Int),
 it_zcu_0 N n (fr_zcu_0 e_1 f_2 x_3 e_5 f_6 x_7 x_4) [some ⟨[.agg [.list 7 e_5 f_6, .int .i64 x_7]], 2, 34, 0⟩] K = l_zcu_0 N e_1 f_2 x_3 e_5 f_6 x_7 (kk0_zcu_0 K e_1 f_2 x_3 e_5 f_6 x_7) (kk1_zcu_0 K e_1 f_2 x_3 e_5 f_6 x_7) n x_4
 | 0, _ => rfl
 | n + 1, x_4 => (r_zcu_0 N n e_1 f_2 x_3 e_5 f_6 x_7 x_4 K).trans (congrArg (fun nx => l_zcu_0_step N e_1 f_2 x_3 e_5 f_6 x_7 nx x_4 (kk0_zcu_0 K e_1 f_2 x_3 e_5 f_6 x_7) (kk1_zcu_0 K e_1 f_2 x_3 e_5 f_6 x_7)) (funext fun x_4 => w_zcu_0 N e_1 f_2 x_3 e_5 f_6 x_7 K n x_4))
def i_zcu_0 {R : Type} (E : List V) (s : S) (k : List V → Fl → Int → Int → List V → Fl → Int → Option R) : Option R :=
 guardB (frameOk 156 [1, 36, 37, 38] E) <| atIs E 1 (.ptr 0 0 0 0) <| atList E 36 7 fun e_1 f_2 => atInt E 37 .i64 fun x_3 => atInt E 38 .i64 fun x_4 => asOb s fun o'1 s'2 => obIs o'1 2 34 fun e'3 k'4 => isN k'4 0 <| asN1 e'3 fun v'5 => asAgg v'5 fun c'6 => asN2 c'6 fun v'7 v'8 => asList 7 v'7 fun e_5 f_6 => asInt .i64 v'8 fun x_7 => asEnd s'2 <| k e_1 f_2 x_3 x_4 e_5 f_6 x_7
theorem i_zcu_0_spec {R : Type} {E : List V} {s : S} {k : List V → Fl → Int → Int → List V → Fl → Int → Option R} {r : R} (h : i_zcu_0 E s k = some r) : ∃ e_1 f_2 x_3 x_4 e_5 f_6 x_7, E = fr_zcu_0 e_1 f_2 x_3 e_5 f_6 x_7 x_4 ∧ s = [some ⟨[.agg [.list 7 e_5 f_6, .int .i64 x_7]], 2, 34, 0⟩] ∧ k e_1 f_2 x_3 x_4 e_5 f_6 x_7 = some r := by
 unfold i_zcu_0 at h
 obtain ⟨hg, h1⟩ := guardB_some h
 obtain ⟨hu1, h2⟩ := atIs_some h1
 obtain ⟨_, _, hu36, h3⟩ := atList_some h2
 obtain ⟨_, hu37, h4⟩ := atInt_some h3
 obtain ⟨_, hu38, h5⟩ := atInt_some h4
 obtain ⟨_, _, rfl, h6⟩ := asOb_some h5
 obtain ⟨_, _, rfl, h7⟩ := obIs_some h6
 obtain ⟨rfl, h8⟩ := isN_some h7
 obtain ⟨_, rfl, h9⟩ := asN1_some h8
 obtain ⟨_, rfl, h10⟩ := asAgg_some h9
 obtain ⟨_, _, rfl, h11⟩ := asN2_some h10
 obtain ⟨_, _, rfl, h12⟩ := asList_some h11
 obtain ⟨_, rfl, h13⟩ := asInt_some h12
 obtain ⟨rfl, h14⟩ := asEnd_some h13
 exact ⟨_, _, _, _, _, _, _, frame_is hg rfl (slots_cons hu1 (slots_cons hu36 (slots_cons hu37 (slots_cons hu38 slots_nil)))), rfl, h14⟩
def Λ_zcu_0 (N : Nat) : Looper := (noLooper).add [0, 1, 0, 1, 1] fun _ E s K => i_zcu_0 (killE ks_zcu_0 E) s fun e_1 f_2 x_3 x_4 e_5 f_6 x_7 => l_zcu_0 N e_1 f_2 x_3 e_5 f_6 x_7 (kk0_zcu_0 K e_1 f_2 x_3 e_5 f_6 x_7) (kk1_zcu_0 K e_1 f_2 x_3 e_5 f_6 x_7) N x_4
theorem ok_zcu_0 {N : Nat} (hC : Ok Tryz.prog C) (hΦ : CalleeOk Tryz.prog C (Φ_zbn N)) : LoopOk Tryz.prog C (Λ_zcu_0 N) b_zcu_0 [0, 1, 0, 1, 1] :=
 iter_ok (Λi := noLooper) (tr := true) (ks := ks_zcu_0) (kx := kx_zcu_0) (N := N) hC hΦ
  (loopsOk_nil (by kernel_rfl))
  fun R E s K r h => by
   have h2 := Looper.add_self.symm.trans h
   obtain ⟨_, _, _, _, _, _, _, he, rfl, h3⟩ := i_zcu_0_spec h2
   rw [he]
   exact (w_zcu_0 N _ _ _ _ _ _ _ N _).trans h3
def ks_zcu_1 : List Nat := butL 156 [1, 5, 55, 56, 57]
def kx_zcu_1 : List Nat := butL 156 [1, 2]
def fr_zcu_1 (e_1 e_2 : List V) (f_3 : Fl) (x_4 : Int) (e_6 : List V) (f_7 : Fl) (x_8 x_5 : Int) : List V := mkF 0 156 [(1, .ptr 0 0 0 0), (5, .list 1 e_1 .sh), (55, .list 7 e_2 f_3), (56, .int .i64 x_4), (57, .int .i64 x_5)]
def kk0_zcu_1 {R : Type} (K : X → List V → S → Option R) (e_1 : List V) (e_2 : List V) (f_3 : Fl) (x_4 : Int) (e_6 : List V) (f_7 : Fl) (x_8 : Int) : Unit → Option R := (fun _ => K .ret (mkF 0 156 [(1, .ptr 0 0 0 0), (2, .bool false)]) [some ⟨[.agg [.list 7 e_6 f_7, .int .i64 x_8]], 2, 34, 0⟩])
def kk1_zcu_1 {R : Type} (K : X → List V → S → Option R) (e_1 : List V) (e_2 : List V) (f_3 : Fl) (x_4 : Int) (e_6 : List V) (f_7 : Fl) (x_8 : Int) : Unit → Option R := (fun _ => K (.exit 2) (mkF 0 156 [(1, .ptr 0 0 0 0)]) [some ⟨[.agg [.list 7 e_6 f_7, .int .i64 x_8]], 2, 34, 0⟩])
abbrev it_zcu_1 {R : Type} (N : Nat) : Nat → List V → S → (X → List V → S → Option R) → Option R := fun n => iter C (Φ_zbn N) (Λ_zcu_0 N) b_zcu_1 [0, 1, 0, 1, 1, 1, 1, 1] true ks_zcu_1 kx_zcu_1 n R
theorem r_zcu_1 {R : Type} (N n : Nat) (e_1 e_2 : List V) (f_3 : Fl) (x_4 : Int) (e_6 : List V) (f_7 : Fl) (x_8 : Int) (x_5 : Int) (K : X → List V → S → Option R) :
 it_zcu_1 N (n + 1) (fr_zcu_1 e_1 e_2 f_3 x_4 e_6 f_7 x_8 x_5) [some ⟨[.agg [.list 7 e_6 f_7, .int .i64 x_8]], 2, 34, 0⟩] K =
 l_zcu_1_step N e_1 e_2 f_3 x_4 e_6 f_7 x_8 (fun x_5 => it_zcu_1 N n (fr_zcu_1 e_1 e_2 f_3 x_4 e_6 f_7 x_8 x_5) [some ⟨[.agg [.list 7 e_6 f_7, .int .i64 x_8]], 2, 34, 0⟩] K) x_5 (kk0_zcu_1 K e_1 e_2 f_3 x_4 e_6 f_7 x_8) (kk1_zcu_1 K e_1 e_2 f_3 x_4 e_6 f_7 x_8) := by kernel_rfl
theorem w_zcu_1 {R : Type} (N : Nat) (e_1 e_2 : List V) (f_3 : Fl) (x_4 : Int) (e_6 : List V) (f_7 : Fl) (x_8 : Int) (K : X → List V → S → Option R) : ∀ (n : Nat) (x_5 : Int),
 it_zcu_1 N n (fr_zcu_1 e_1 e_2 f_3 x_4 e_6 f_7 x_8 x_5) [some ⟨[.agg [.list 7 e_6 f_7, .int .i64 x_8]], 2, 34, 0⟩] K = l_zcu_1 N e_1 e_2 f_3 x_4 e_6 f_7 x_8 (kk0_zcu_1 K e_1 e_2 f_3 x_4 e_6 f_7 x_8) (kk1_zcu_1 K e_1 e_2 f_3 x_4 e_6 f_7 x_8) n x_5
 | 0, _ => rfl
 | n + 1, x_5 => (r_zcu_1 N n e_1 e_2 f_3 x_4 e_6 f_7 x_8 x_5 K).trans (congrArg (fun nx => l_zcu_1_step N e_1 e_2 f_3 x_4 e_6 f_7 x_8 nx x_5 (kk0_zcu_1 K e_1 e_2 f_3 x_4 e_6 f_7 x_8) (kk1_zcu_1 K e_1 e_2 f_3 x_4 e_6 f_7 x_8)) (funext fun x_5 => w_zcu_1 N e_1 e_2 f_3 x_4 e_6 f_7 x_8 K n x_5))
def i_zcu_1 {R : Type} (E : List V) (s : S) (k : List V → List V → Fl → Int → Int → List V → Fl → Int → Option R) : Option R :=
 guardB (frameOk 156 [1, 5, 55, 56, 57] E) <| atIs E 1 (.ptr 0 0 0 0) <| must (nth E 5) fun u5 => asList 1 u5 fun e_1 f'1 => asSh f'1 <| atList E 55 7 fun e_2 f_3 => atInt E 56 .i64 fun x_4 => atInt E 57 .i64 fun x_5 => asOb s fun o'2 s'3 => obIs o'2 2 34 fun e'4 k'5 => isN k'5 0 <| asN1 e'4 fun v'6 => asAgg v'6 fun c'7 => asN2 c'7 fun v'8 v'9 => asList 7 v'8 fun e_6 f_7 => asInt .i64 v'9 fun x_8 => asEnd s'3 <| k e_1 e_2 f_3 x_4 x_5 e_6 f_7 x_8
theorem i_zcu_1_spec {R : Type} {E : List V} {s : S} {k : List V → List V → Fl → Int → Int → List V → Fl → Int → Option R} {r : R} (h : i_zcu_1 E s k = some r) : ∃ e_1 e_2 f_3 x_4 x_5 e_6 f_7 x_8, E = fr_zcu_1 e_1 e_2 f_3 x_4 e_6 f_7 x_8 x_5 ∧ s = [some ⟨[.agg [.list 7 e_6 f_7, .int .i64 x_8]], 2, 34, 0⟩] ∧ k e_1 e_2 f_3 x_4 x_5 e_6 f_7 x_8 = some r := by
 unfold i_zcu_1 at h
 obtain ⟨hg, h1⟩ := guardB_some h
 obtain ⟨hu1, h2⟩ := atIs_some h1
 obtain ⟨_, hu5, h3⟩ := must_some h2
 obtain ⟨_, _, rfl, h4⟩ := asList_some h3
 obtain ⟨rfl, h5⟩ := asSh_some h4
 obtain ⟨_, _, hu55, h6⟩ := atList_some h5
 obtain ⟨_, hu56, h7⟩ := atInt_some h6
 obtain ⟨_, hu57, h8⟩ := atInt_some h7
 obtain ⟨_, _, rfl, h9⟩ := asOb_some h8
 obtain ⟨_, _, rfl, h10⟩ := obIs_some h9
 obtain ⟨rfl, h11⟩ := isN_some h10
 obtain ⟨_, rfl, h12⟩ := asN1_some h11
 obtain ⟨_, rfl, h13⟩ := asAgg_some h12
 obtain ⟨_, _, rfl, h14⟩ := asN2_some h13
 obtain ⟨_, _, rfl, h15⟩ := asList_some h14
 obtain ⟨_, rfl, h16⟩ := asInt_some h15
 obtain ⟨rfl, h17⟩ := asEnd_some h16
 exact ⟨_, _, _, _, _, _, _, _, frame_is hg rfl (slots_cons hu1 (slots_cons hu5 (slots_cons hu55 (slots_cons hu56 (slots_cons hu57 slots_nil))))), rfl, h17⟩
def Λ_zcu_1 (N : Nat) : Looper := (Λ_zcu_0 N).add [0, 1, 0, 1, 1, 1, 1, 1] fun _ E s K => i_zcu_1 (killE ks_zcu_1 E) s fun e_1 e_2 f_3 x_4 x_5 e_6 f_7 x_8 => l_zcu_1 N e_1 e_2 f_3 x_4 e_6 f_7 x_8 (kk0_zcu_1 K e_1 e_2 f_3 x_4 e_6 f_7 x_8) (kk1_zcu_1 K e_1 e_2 f_3 x_4 e_6 f_7 x_8) N x_5
theorem ok_zcu_1 {N : Nat} (hC : Ok Tryz.prog C) (hΦ : CalleeOk Tryz.prog C (Φ_zbn N)) : LoopOk Tryz.prog C (Λ_zcu_1 N) b_zcu_1 [0, 1, 0, 1, 1, 1, 1, 1] :=
 iter_ok (Λi := Λ_zcu_0 N) (tr := true) (ks := ks_zcu_1) (kx := kx_zcu_1) (N := N) hC hΦ
  (loopsOk_nil (by kernel_rfl))
  fun R E s K r h => by
   have h2 := Looper.add_self.symm.trans h
   obtain ⟨_, _, _, _, _, _, _, _, he, rfl, h3⟩ := i_zcu_1_spec h2
   rw [he]
   exact (w_zcu_1 N _ _ _ _ _ _ _ _ N _).trans h3
def ks_zcu_2 : List Nat := butL 156 [1, 9, 10, 11, 109, 110, 111]
def kx_zcu_2 : List Nat := butL 156 [1, 9, 10, 11]
def fr_zcu_2 (k_1 : Nat) (x_3 : Int) (e_4 : List V) (f_5 : Fl) (x_6 : Int) (e_8 : List V) (f_9 : Fl) (x_10 : Int) (e_2 : List V) (x_7 : Int) (e_11 : List V) : List V := mkF 0 156 [(1, .ptr 0 0 0 0), (9, .arr 1 0 0 k_1), (10, .list 1 e_2 (.own 3)), (11, .int .i64 x_3), (109, .list 2 e_4 f_5), (110, .int .i64 x_6), (111, .int .i64 x_7)]
def kk0_zcu_2 {R : Type} (K : X → List V → S → Option R) (k_1 : Nat) (x_3 : Int) (e_4 : List V) (f_5 : Fl) (x_6 : Int) (e_8 : List V) (f_9 : Fl) (x_10 : Int) : List V → List V → Option R := (fun e_1' e_2' => K (.exit 7) (mkF 0 156 [(1, .ptr 0 0 0 0), (9, .arr 1 0 0 k_1), (10, .list 1 (e_1') (.own 3)), (11, .int .i64 x_3)]) [some ⟨[.agg [.list 7 e_8 f_9, .int .i64 x_10]], 2, 34, 0⟩, some ⟨e_2', 1, 4, 0⟩])
abbrev it_zcu_2 {R : Type} (N : Nat) : Nat → List V → S → (X → List V → S → Option R) → Option R := fun n => iter C (Φ_zbn N) (Λ_zcu_1 N) b_zcu_2 [0, 1, 1, 0, 0, 1, 0, 0, 1, 0, 1, 1, 1, 1, 1, 1, 1, 1] true ks_zcu_2 kx_zcu_2 n R
theorem r_zcu_2 {R : Type} (N n : Nat) (k_1 : Nat) (x_3 : Int) (e_4 : List V) (f_5 : Fl) (x_6 : Int) (e_8 : List V) (f_9 : Fl) (x_10 : Int) (e_2 : List V) (x_7 : Int) (e_11 : List V) (K : X → List V → S → Option R) :
 it_zcu_2 N (n + 1) (fr_zcu_2 k_1 x_3 e_4 f_5 x_6 e_8 f_9 x_10 e_2 x_7 e_11) [some ⟨[.agg [.list 7 e_8 f_9, .int .i64 x_10]], 2, 34, 0⟩, some ⟨e_11, 1, 4, 0⟩] K =
 l_zcu_2_step N k_1 x_3 e_4 f_5 x_6 e_8 f_9 x_10 (fun e_2 x_7 e_11 => it_zcu_2 N n (fr_zcu_2 k_1 x_3 e_4 f_5 x_6 e_8 f_9 x_10 e_2 x_7 e_11) [some ⟨[.agg [.list 7 e_8 f_9, .int .i64 x_10]], 2, 34, 0⟩, some ⟨e_11, 1, 4, 0⟩] K) e_2 x_7 e_11 (kk0_zcu_2 K k_1 x_3 e_4 f_5 x_6 e_8 f_9 x_10) := by kernel_rfl
theorem w_zcu_2 {R : Type} (N : Nat) (k_1 : Nat) (x_3 : Int) (e_4 : List V) (f_5 : Fl) (x_6 : Int) (e_8 : List V) (f_9 : Fl) (x_10 : Int) (K : X → List V → S → Option R) : ∀ (n : Nat) (e_2 : List V) (x_7 : Int) (e_11 : List V),
 it_zcu_2 N n (fr_zcu_2 k_1 x_3 e_4 f_5 x_6 e_8 f_9 x_10 e_2 x_7 e_11) [some ⟨[.agg [.list 7 e_8 f_9, .int .i64 x_10]], 2, 34, 0⟩, some ⟨e_11, 1, 4, 0⟩] K = l_zcu_2 N k_1 x_3 e_4 f_5 x_6 e_8 f_9 x_10 (kk0_zcu_2 K k_1 x_3 e_4 f_5 x_6 e_8 f_9 x_10) n e_2 x_7 e_11
 | 0, _, _, _ => rfl
 | n + 1, e_2, x_7, e_11 => (r_zcu_2 N n k_1 x_3 e_4 f_5 x_6 e_8 f_9 x_10 e_2 x_7 e_11 K).trans (congrArg (fun nx => l_zcu_2_step N k_1 x_3 e_4 f_5 x_6 e_8 f_9 x_10 nx e_2 x_7 e_11 (kk0_zcu_2 K k_1 x_3 e_4 f_5 x_6 e_8 f_9 x_10)) (funext fun e_2 => funext fun x_7 => funext fun e_11 => w_zcu_2 N k_1 x_3 e_4 f_5 x_6 e_8 f_9 x_10 K n e_2 x_7 e_11))
def i_zcu_2 {R : Type} (E : List V) (s : S) (k : Nat → List V → Int → List V → Fl → Int → Int → List V → Fl → Int → List V → Option R) : Option R :=
 guardB (frameOk 156 [1, 9, 10, 11, 109, 110, 111] E) <| atIs E 1 (.ptr 0 0 0 0) <| must (nth E 9) fun u9 => asArr u9 fun k'1 k'2 k'3 k_1 => isN k'1 1 <| isN k'2 0 <| isN k'3 0 <| must (nth E 10) fun u10 => asList 1 u10 fun e_2 f'4 => asOwn 3 f'4 <| atInt E 11 .i64 fun x_3 => atList E 109 2 fun e_4 f_5 => atInt E 110 .i64 fun x_6 => atInt E 111 .i64 fun x_7 => asOb s fun o'5 s'6 => obIs o'5 2 34 fun e'7 k'8 => isN k'8 0 <| asN1 e'7 fun v'9 => asAgg v'9 fun c'10 => asN2 c'10 fun v'11 v'12 => asList 7 v'11 fun e_8 f_9 => asInt .i64 v'12 fun x_10 => asOb s'6 fun o'13 s'14 => obIs o'13 1 4 fun e_11 k'15 => isN k'15 0 <| asEnd s'14 <| k k_1 e_2 x_3 e_4 f_5 x_6 x_7 e_8 f_9 x_10 e_11
theorem i_zcu_2_spec {R : Type} {E : List V} {s : S} {k : Nat → List V → Int → List V → Fl → Int → Int → List V → Fl → Int → List V → Option R} {r : R} (h : i_zcu_2 E s k = some r) : ∃ k_1 e_2 x_3 e_4 f_5 x_6 x_7 e_8 f_9 x_10 e_11, E = fr_zcu_2 k_1 x_3 e_4 f_5 x_6 e_8 f_9 x_10 e_2 x_7 e_11 ∧ s = [some ⟨[.agg [.list 7 e_8 f_9, .int .i64 x_10]], 2, 34, 0⟩, some ⟨e_11, 1, 4, 0⟩] ∧ k k_1 e_2 x_3 e_4 f_5 x_6 x_7 e_8 f_9 x_10 e_11 = some r := by
 unfold i_zcu_2 at h
 obtain ⟨hg, h1⟩ := guardB_some h
 obtain ⟨hu1, h2⟩ := atIs_some h1
 obtain ⟨_, hu9, h3⟩ := must_some h2
 obtain ⟨_, _, _, _, rfl, h4⟩ := asArr_some h3
 obtain ⟨rfl, h5⟩ := isN_some h4
 obtain ⟨rfl, h6⟩ := isN_some h5
 obtain ⟨rfl, h7⟩ := isN_some h6
 obtain ⟨_, hu10, h8⟩ := must_some h7
 obtain ⟨_, _, rfl, h9⟩ := asList_some h8
 obtain ⟨rfl, h10⟩ := asOwn_some h9
 obtain ⟨_, hu11, h11⟩ := atInt_some h10
 obtain ⟨_, _, hu109, h12⟩ := atList_some h11
 obtain ⟨_, hu110, h13⟩ := atInt_some h12
 obtain ⟨_, hu111, h14⟩ := atInt_some h13
 obtain ⟨_, _, rfl, h15⟩ := asOb_some h14
 obtain ⟨_, _, rfl, h16⟩ := obIs_some h15
 obtain ⟨rfl, h17⟩ := isN_some h16
 obtain ⟨_, rfl, h18⟩ := asN1_some h17
 obtain ⟨_, rfl, h19⟩ := asAgg_some h18
 obtain ⟨_, _, rfl, h20⟩ := asN2_some h19
 obtain ⟨_, _, rfl, h21⟩ := asList_some h20
 obtain ⟨_, rfl, h22⟩ := asInt_some h21
 obtain ⟨_, _, rfl, h23⟩ := asOb_some h22
 obtain ⟨_, _, rfl, h24⟩ := obIs_some h23
 obtain ⟨rfl, h25⟩ := isN_some h24
 obtain ⟨rfl, h26⟩ := asEnd_some h25
 exact ⟨_, _, _, _, _, _, _, _, _, _, _, frame_is hg rfl (slots_cons hu1 (slots_cons hu9 (slots_cons hu10 (slots_cons hu11 (slots_cons hu109 (slots_cons hu110 (slots_cons hu111 slots_nil))))))), rfl, h26⟩
def Λ_zcu_2 (N : Nat) : Looper := (Λ_zcu_1 N).add [0, 1, 1, 0, 0, 1, 0, 0, 1, 0, 1, 1, 1, 1, 1, 1, 1, 1] fun _ E s K => i_zcu_2 (killE ks_zcu_2 E) s fun k_1 e_2 x_3 e_4 f_5 x_6 x_7 e_8 f_9 x_10 e_11 => l_zcu_2 N k_1 x_3 e_4 f_5 x_6 e_8 f_9 x_10 (kk0_zcu_2 K k_1 x_3 e_4 f_5 x_6 e_8 f_9 x_10) N e_2 x_7 e_11
theorem ok_zcu_2 {N : Nat} (hC : Ok Tryz.prog C) (hΦ : CalleeOk Tryz.prog C (Φ_zbn N)) : LoopOk Tryz.prog C (Λ_zcu_2 N) b_zcu_2 [0, 1, 1, 0, 0, 1, 0, 0, 1, 0, 1, 1, 1, 1, 1, 1, 1, 1] :=
 iter_ok (Λi := Λ_zcu_1 N) (tr := true) (ks := ks_zcu_2) (kx := kx_zcu_2) (N := N) hC hΦ
  (loopsOk_nil (by kernel_rfl))
  fun R E s K r h => by
   have h2 := Looper.add_self.symm.trans h
   obtain ⟨_, _, _, _, _, _, _, _, _, _, _, he, rfl, h3⟩ := i_zcu_2_spec h2
   rw [he]
   exact (w_zcu_2 N _ _ _ _ _ _ _ _ _ N _ _ _).trans h3
def ks_zcu_3 : List Nat := butL 156 [1, 9, 10, 11]
def kx_zcu_3 : List Nat := butL 156 [1, 9]
def fr_zcu_3 (k_1 : Nat) (e_4 : List V) (f_5 : Fl) (x_6 : Int) (e_2 : List V) (x_3 : Int) (e_7 : List V) : List V := mkF 0 156 [(1, .ptr 0 0 0 0), (9, .arr 1 0 0 k_1), (10, .list 1 e_2 (.own 3)), (11, .int .i64 x_3)]
def kk0_zcu_3 {R : Type} (K : X → List V → S → Option R) (k_1 : Nat) (e_4 : List V) (f_5 : Fl) (x_6 : Int) : List V → Option R := (fun e_1' => K (.exit 5) (mkF 0 156 [(1, .ptr 0 0 0 0), (9, .arr 1 0 0 k_1)]) [some ⟨[.agg [.list 7 e_4 f_5, .int .i64 x_6]], 2, 34, 0⟩, some ⟨e_1', 1, 4, 0⟩])
abbrev it_zcu_3 {R : Type} (N : Nat) : Nat → List V → S → (X → List V → S → Option R) → Option R := fun n => iter C (Φ_zbn N) (Λ_zcu_2 N) b_zcu_3 [0, 1, 0, 1, 1, 1, 1, 1, 1, 1, 1] false ks_zcu_3 kx_zcu_3 n R
theorem r_zcu_3 {R : Type} (N n : Nat) (k_1 : Nat) (e_4 : List V) (f_5 : Fl) (x_6 : Int) (e_2 : List V) (x_3 : Int) (e_7 : List V) (K : X → List V → S → Option R) :
 it_zcu_3 N (n + 1) (fr_zcu_3 k_1 e_4 f_5 x_6 e_2 x_3 e_7) [some ⟨[.agg [.list 7 e_4 f_5, .int .i64 x_6]], 2, 34, 0⟩, some ⟨e_7, 1, 4, 0⟩] K =
 l_zcu_3_step N k_1 e_4 f_5 x_6 (fun e_2 x_3 e_7 => it_zcu_3 N n (fr_zcu_3 k_1 e_4 f_5 x_6 e_2 x_3 e_7) [some ⟨[.agg [.list 7 e_4 f_5, .int .i64 x_6]], 2, 34, 0⟩, some ⟨e_7, 1, 4, 0⟩] K) e_2 x_3 e_7 (kk0_zcu_3 K k_1 e_4 f_5 x_6) := by kernel_rfl
theorem w_zcu_3 {R : Type} (N : Nat) (k_1 : Nat) (e_4 : List V) (f_5 : Fl) (x_6 : Int) (K : X → List V → S → Option R) : ∀ (n : Nat) (e_2 : List V) (x_3 : Int) (e_7 : List V),
 it_zcu_3 N n (fr_zcu_3 k_1 e_4 f_5 x_6 e_2 x_3 e_7) [some ⟨[.agg [.list 7 e_4 f_5, .int .i64 x_6]], 2, 34, 0⟩, some ⟨e_7, 1, 4, 0⟩] K = l_zcu_3 N k_1 e_4 f_5 x_6 (kk0_zcu_3 K k_1 e_4 f_5 x_6) n e_2 x_3 e_7
 | 0, _, _, _ => rfl
 | n + 1, e_2, x_3, e_7 => (r_zcu_3 N n k_1 e_4 f_5 x_6 e_2 x_3 e_7 K).trans (congrArg (fun nx => l_zcu_3_step N k_1 e_4 f_5 x_6 nx e_2 x_3 e_7 (kk0_zcu_3 K k_1 e_4 f_5 x_6)) (funext fun e_2 => funext fun x_3 => funext fun e_7 => w_zcu_3 N k_1 e_4 f_5 x_6 K n e_2 x_3 e_7))
def i_zcu_3 {R : Type} (E : List V) (s : S) (k : Nat → List V → Int → List V → Fl → Int → List V → Option R) : Option R :=
 guardB (frameOk 156 [1, 9, 10, 11] E) <| atIs E 1 (.ptr 0 0 0 0) <| must (nth E 9) fun u9 => asArr u9 fun k'1 k'2 k'3 k_1 => isN k'1 1 <| isN k'2 0 <| isN k'3 0 <| must (nth E 10) fun u10 => asList 1 u10 fun e_2 f'4 => asOwn 3 f'4 <| atInt E 11 .i64 fun x_3 => asOb s fun o'5 s'6 => obIs o'5 2 34 fun e'7 k'8 => isN k'8 0 <| asN1 e'7 fun v'9 => asAgg v'9 fun c'10 => asN2 c'10 fun v'11 v'12 => asList 7 v'11 fun e_4 f_5 => asInt .i64 v'12 fun x_6 => asOb s'6 fun o'13 s'14 => obIs o'13 1 4 fun e_7 k'15 => isN k'15 0 <| asEnd s'14 <| k k_1 e_2 x_3 e_4 f_5 x_6 e_7
theorem i_zcu_3_spec {R : Type} {E : List V} {s : S} {k : Nat → List V → Int → List V → Fl → Int → List V → Option R} {r : R} (h : i_zcu_3 E s k = some r) : ∃ k_1 e_2 x_3 e_4 f_5 x_6 e_7, E = fr_zcu_3 k_1 e_4 f_5 x_6 e_2 x_3 e_7 ∧ s = [some ⟨[.agg [.list 7 e_4 f_5, .int .i64 x_6]], 2, 34, 0⟩, some ⟨e_7, 1, 4, 0⟩] ∧ k k_1 e_2 x_3 e_4 f_5 x_6 e_7 = some r := by
 unfold i_zcu_3 at h
 obtain ⟨hg, h1⟩ := guardB_some h
 obtain ⟨hu1, h2⟩ := atIs_some h1
 obtain ⟨_, hu9, h3⟩ := must_some h2
 obtain ⟨_, _, _, _, rfl, h4⟩ := asArr_some h3
 obtain ⟨rfl, h5⟩ := isN_some h4
 obtain ⟨rfl, h6⟩ := isN_some h5
 obtain ⟨rfl, h7⟩ := isN_some h6
 obtain ⟨_, hu10, h8⟩ := must_some h7
 obtain ⟨_, _, rfl, h9⟩ := asList_some h8
 obtain ⟨rfl, h10⟩ := asOwn_some h9
 obtain ⟨_, hu11, h11⟩ := atInt_some h10
 obtain ⟨_, _, rfl, h12⟩ := asOb_some h11
 obtain ⟨_, _, rfl, h13⟩ := obIs_some h12
 obtain ⟨rfl, h14⟩ := isN_some h13
 obtain ⟨_, rfl, h15⟩ := asN1_some h14
 obtain ⟨_, rfl, h16⟩ := asAgg_some h15
 obtain ⟨_, _, rfl, h17⟩ := asN2_some h16
 obtain ⟨_, _, rfl, h18⟩ := asList_some h17
 obtain ⟨_, rfl, h19⟩ := asInt_some h18
 obtain ⟨_, _, rfl, h20⟩ := asOb_some h19
 obtain ⟨_, _, rfl, h21⟩ := obIs_some h20
 obtain ⟨rfl, h22⟩ := isN_some h21
 obtain ⟨rfl, h23⟩ := asEnd_some h22
 exact ⟨_, _, _, _, _, _, _, frame_is hg rfl (slots_cons hu1 (slots_cons hu9 (slots_cons hu10 (slots_cons hu11 slots_nil)))), rfl, h23⟩
def Λ_zcu_3 (N : Nat) : Looper := (Λ_zcu_2 N).add [0, 1, 0, 1, 1, 1, 1, 1, 1, 1, 1] fun _ E s K => i_zcu_3 (killE ks_zcu_3 E) s fun k_1 e_2 x_3 e_4 f_5 x_6 e_7 => l_zcu_3 N k_1 e_4 f_5 x_6 (kk0_zcu_3 K k_1 e_4 f_5 x_6) N e_2 x_3 e_7
theorem in_zcu_3 : loopsAt b_zcu_3 (0 :: [0, 1, 0, 1, 1, 1, 1, 1, 1, 1, 1]) = [([0, 1, 1, 0, 0, 1, 0, 0, 1, 0, 1, 1, 1, 1, 1, 1, 1, 1], b_zcu_2)] := by kernel_rfl
theorem ok_zcu_3 {N : Nat} (hC : Ok Tryz.prog C) (hΦ : CalleeOk Tryz.prog C (Φ_zbn N)) : LoopOk Tryz.prog C (Λ_zcu_3 N) b_zcu_3 [0, 1, 0, 1, 1, 1, 1, 1, 1, 1, 1] :=
 iter_ok (Λi := Λ_zcu_2 N) (tr := false) (ks := ks_zcu_3) (kx := kx_zcu_3) (N := N) hC hΦ
  (loopsOk_of b_zcu_3 _ (by
   rw [in_zcu_3]
   intro p hp
   simp only [List.mem_cons, List.mem_nil_iff, or_false] at hp
   rcases hp with rfl
   ·exact (ok_zcu_2 hC hΦ)))
  fun R E s K r h => by
   have h2 := Looper.add_self.symm.trans h
   obtain ⟨_, _, _, _, _, _, _, he, rfl, h3⟩ := i_zcu_3_spec h2
   rw [he]
   exact (w_zcu_3 N _ _ _ _ _ N _ _ _).trans h3
def ks_zcu_4 : List Nat := butL 156 [9, 138, 139, 140]
def kx_zcu_4 : List Nat := butL 156 [2]
def fr_zcu_4 (k_1 : Nat) (e_2 : List V) (f_3 : Fl) (x_4 : Int) (e_6 : List V) (f_7 : Fl) (x_8 x_5 : Int) (e_9 : List V) : List V := mkF 0 156 [(9, .arr 1 0 0 k_1), (138, .list 7 e_2 f_3), (139, .int .i64 x_4), (140, .int .i64 x_5)]
def kk0_zcu_4 {R : Type} (K : X → List V → S → Option R) (k_1 : Nat) (e_2 : List V) (f_3 : Fl) (x_4 : Int) (e_6 : List V) (f_7 : Fl) (x_8 : Int) : List V → Option R := (fun e_1' => K .ret (mkF 0 156 [(2, .bool false)]) [some ⟨[.agg [.list 7 e_6 f_7, .int .i64 x_8]], 2, 34, 0⟩, some ⟨e_1', 1, 4, 0⟩])
def kk1_zcu_4 {R : Type} (K : X → List V → S → Option R) (k_1 : Nat) (e_2 : List V) (f_3 : Fl) (x_4 : Int) (e_6 : List V) (f_7 : Fl) (x_8 : Int) : List V → Option R := (fun e_1' => K (.exit 9) (mkF 0 156 []) [some ⟨[.agg [.list 7 e_6 f_7, .int .i64 x_8]], 2, 34, 0⟩, some ⟨e_1', 1, 4, 0⟩])
abbrev it_zcu_4 {R : Type} (N : Nat) : Nat → List V → S → (X → List V → S → Option R) → Option R := fun n => iter C (Φ_zbn N) (Λ_zcu_3 N) b_zcu_4 [0, 1, 0, 1, 1, 1, 1, 1, 1, 1, 1, 1] true ks_zcu_4 kx_zcu_4 n R
theorem r_zcu_4 {R : Type} (N n : Nat) (k_1 : Nat) (e_2 : List V) (f_3 : Fl) (x_4 : Int) (e_6 : List V) (f_7 : Fl) (x_8 : Int) (x_5 : Int) (e_9 : List V) (K : X → List V → S → Option R) :
 it_zcu_4 N (n + 1) (fr_zcu_4 k_1 e_2 f_3 x_4 e_6 f_7 x_8 x_5 e_9) [some ⟨[.agg [.list 7 e_6 f_7, .int .i64 x_8]], 2, 34, 0⟩, some ⟨e_9, 1, 4, 0⟩] K =
 l_zcu_4_step N k_1 e_2 f_3 x_4 e_6 f_7 x_8 (fun x_5 e_9 => it_zcu_4 N n (fr_zcu_4 k_1 e_2 f_3 x_4 e_6 f_7 x_8 x_5 e_9) [some ⟨[.agg [.list 7 e_6 f_7, .int .i64 x_8]], 2, 34, 0⟩, some ⟨e_9, 1, 4, 0⟩] K) x_5 e_9 (kk0_zcu_4 K k_1 e_2 f_3 x_4 e_6 f_7 x_8) (kk1_zcu_4 K k_1 e_2 f_3 x_4 e_6 f_7 x_8) := by kernel_rfl
theorem w_zcu_4 {R : Type} (N : Nat) (k_1 : Nat) (e_2 : List V) (f_3 : Fl) (x_4 : Int) (e_6 : List V) (f_7 : Fl) (x_8 : Int) (K : X → List V → S → Option R) : ∀ (n : Nat) (x_5 : Int) (e_9 : List V),
 it_zcu_4 N n (fr_zcu_4 k_1 e_2 f_3 x_4 e_6 f_7 x_8 x_5 e_9) [some ⟨[.agg [.list 7 e_6 f_7, .int .i64 x_8]], 2, 34, 0⟩, some ⟨e_9, 1, 4, 0⟩] K = l_zcu_4 N k_1 e_2 f_3 x_4 e_6 f_7 x_8 (kk0_zcu_4 K k_1 e_2 f_3 x_4 e_6 f_7 x_8) (kk1_zcu_4 K k_1 e_2 f_3 x_4 e_6 f_7 x_8) n x_5 e_9
 | 0, _, _ => rfl
 | n + 1, x_5, e_9 => (r_zcu_4 N n k_1 e_2 f_3 x_4 e_6 f_7 x_8 x_5 e_9 K).trans (congrArg (fun nx => l_zcu_4_step N k_1 e_2 f_3 x_4 e_6 f_7 x_8 nx x_5 e_9 (kk0_zcu_4 K k_1 e_2 f_3 x_4 e_6 f_7 x_8) (kk1_zcu_4 K k_1 e_2 f_3 x_4 e_6 f_7 x_8)) (funext fun x_5 => funext fun e_9 => w_zcu_4 N k_1 e_2 f_3 x_4 e_6 f_7 x_8 K n x_5 e_9))
def i_zcu_4 {R : Type} (E : List V) (s : S) (k : Nat → List V → Fl → Int → Int → List V → Fl → Int → List V → Option R) : Option R :=
 guardB (frameOk 156 [9, 138, 139, 140] E) <| must (nth E 9) fun u9 => asArr u9 fun k'1 k'2 k'3 k_1 => isN k'1 1 <| isN k'2 0 <| isN k'3 0 <| atList E 138 7 fun e_2 f_3 => atInt E 139 .i64 fun x_4 => atInt E 140 .i64 fun x_5 => asOb s fun o'4 s'5 => obIs o'4 2 34 fun e'6 k'7 => isN k'7 0 <| asN1 e'6 fun v'8 => asAgg v'8 fun c'9 => asN2 c'9 fun v'10 v'11 => asList 7 v'10 fun e_6 f_7 => asInt .i64 v'11 fun x_8 => asOb s'5 fun o'12 s'13 => obIs o'12 1 4 fun e_9 k'14 => isN k'14 0 <| asEnd s'13 <| k k_1 e_2 f_3 x_4 x_5 e_6 f_7 x_8 e_9
theorem i_zcu_4_spec {R : Type} {E : List V} {s : S} {k : Nat → List V → Fl → Int → Int → List V → Fl → Int → List V → Option R} {r : R} (h : i_zcu_4 E s k = some r) : ∃ k_1 e_2 f_3 x_4 x_5 e_6 f_7 x_8 e_9, E = fr_zcu_4 k_1 e_2 f_3 x_4 e_6 f_7 x_8 x_5 e_9 ∧ s = [some ⟨[.agg [.list 7 e_6 f_7, .int .i64 x_8]], 2, 34, 0⟩, some ⟨e_9, 1, 4, 0⟩] ∧ k k_1 e_2 f_3 x_4 x_5 e_6 f_7 x_8 e_9 = some r := by
 unfold i_zcu_4 at h
 obtain ⟨hg, h1⟩ := guardB_some h
 obtain ⟨_, hu9, h2⟩ := must_some h1
 obtain ⟨_, _, _, _, rfl, h3⟩ := asArr_some h2
 obtain ⟨rfl, h4⟩ := isN_some h3
 obtain ⟨rfl, h5⟩ := isN_some h4
 obtain ⟨rfl, h6⟩ := isN_some h5
 obtain ⟨_, _, hu138, h7⟩ := atList_some h6
 obtain ⟨_, hu139, h8⟩ := atInt_some h7
 obtain ⟨_, hu140, h9⟩ := atInt_some h8
 obtain ⟨_, _, rfl, h10⟩ := asOb_some h9
 obtain ⟨_, _, rfl, h11⟩ := obIs_some h10
 obtain ⟨rfl, h12⟩ := isN_some h11
 obtain ⟨_, rfl, h13⟩ := asN1_some h12
 obtain ⟨_, rfl, h14⟩ := asAgg_some h13
 obtain ⟨_, _, rfl, h15⟩ := asN2_some h14
 obtain ⟨_, _, rfl, h16⟩ := asList_some h15
 obtain ⟨_, rfl, h17⟩ := asInt_some h16
 obtain ⟨_, _, rfl, h18⟩ := asOb_some h17
 obtain ⟨_, _, rfl, h19⟩ := obIs_some h18
 obtain ⟨rfl, h20⟩ := isN_some h19
 obtain ⟨rfl, h21⟩ := asEnd_some h20
 exact ⟨_, _, _, _, _, _, _, _, _, frame_is hg rfl (slots_cons hu9 (slots_cons hu138 (slots_cons hu139 (slots_cons hu140 slots_nil)))), rfl, h21⟩
def Λ_zcu_4 (N : Nat) : Looper := (Λ_zcu_3 N).add [0, 1, 0, 1, 1, 1, 1, 1, 1, 1, 1, 1] fun _ E s K => i_zcu_4 (killE ks_zcu_4 E) s fun k_1 e_2 f_3 x_4 x_5 e_6 f_7 x_8 e_9 => l_zcu_4 N k_1 e_2 f_3 x_4 e_6 f_7 x_8 (kk0_zcu_4 K k_1 e_2 f_3 x_4 e_6 f_7 x_8) (kk1_zcu_4 K k_1 e_2 f_3 x_4 e_6 f_7 x_8) N x_5 e_9
theorem ok_zcu_4 {N : Nat} (hC : Ok Tryz.prog C) (hΦ : CalleeOk Tryz.prog C (Φ_zbn N)) : LoopOk Tryz.prog C (Λ_zcu_4 N) b_zcu_4 [0, 1, 0, 1, 1, 1, 1, 1, 1, 1, 1, 1] :=
 iter_ok (Λi := Λ_zcu_3 N) (tr := true) (ks := ks_zcu_4) (kx := kx_zcu_4) (N := N) hC hΦ
  (loopsOk_nil (by kernel_rfl))
  fun R E s K r h => by
   have h2 := Looper.add_self.symm.trans h
   obtain ⟨_, _, _, _, _, _, _, _, _, he, rfl, h3⟩ := i_zcu_4_spec h2
   rw [he]
   exact (w_zcu_4 N _ _ _ _ _ _ _ _ N _ _).trans h3
theorem at_zcu : loopsAt c_zcu [] = [([0, 1, 0, 1, 1], b_zcu_0), ([0, 1, 0, 1, 1, 1, 1, 1], b_zcu_1), ([0, 1, 0, 1, 1, 1, 1, 1, 1, 1, 1], b_zcu_3), ([0, 1, 0, 1, 1, 1, 1, 1, 1, 1, 1, 1], b_zcu_4)] := by kernel_rfl
theorem b_zcu {R : Type} (N : Nat) (e_1 : List V) (f_2 : Fl) (x_3 : Int) (K : V → S → Option R) : bodyV C (Φ_zbn N) (Λ_zcu_4 N) 94 Tryz.f94 [.agg [.list 7 e_1 f_2, .int .i64 x_3]] [] K =
 gb_zcu N e_1 f_2 x_3 (fun b_4 => K (.bool b_4) []) := by kernel_rfl
theorem loops_zcu {N : Nat} (hC : Ok Tryz.prog C) (hΦ : CalleeOk Tryz.prog C (Φ_zbn N)) : LoopsOk Tryz.prog C (Λ_zcu_4 N) c_zcu [] :=
 loopsOk_of c_zcu [] (by
  rw [at_zcu]
  intro p hp
  simp only [List.mem_cons, List.mem_nil_iff, or_false] at hp
  rcases hp with rfl | rfl | rfl | rfl
  ·exact (LoopOk.add (LoopOk.add (LoopOk.add (LoopOk.add (ok_zcu_0 hC hΦ) rfl) rfl) rfl) rfl)
  ·exact (LoopOk.add (LoopOk.add (LoopOk.add (ok_zcu_1 hC hΦ) rfl) rfl) rfl)
  ·exact (LoopOk.add (ok_zcu_3 hC hΦ) rfl)
  ·exact (ok_zcu_4 hC hΦ))
theorem callee_zcu (hC : Ok Tryz.prog C) {N : Nat} (hΦ : CalleeOk Tryz.prog C (Φ_zbn N)) : CalleeOk Tryz.prog C (Φ_zcu N) := by
 refine hΦ.add_pure rfl fun R vs K r h => ?_
 unfold f_zcu at h
 obtain ⟨_, rfl, h1⟩ := asN1_some h
 obtain ⟨_, _, _, rfl, h2⟩ := un_impl_Fs_some h1
 obtain ⟨_, h3⟩ := asEnd_some h2
 refine body_pure (fn := Tryz.f94) (c := c_zcu) hC hΦ Tryz.func94 (by kernel_rfl) (by kernel_rfl) (loops_zcu (N := N) hC hΦ) rfl rfl ?_
 refine (b_zcu N _ _ _ _).trans ?_
 rw [← g_zcu_eq]
 exact h3
def f_zbq (N : Nat) : (R : Type) → List V → S → (V → S → Option R) → Option R := fun _ vs s K =>
 asN1 vs fun v'1 => un_impl_Cred v'1 fun x_1 x_2 => asEnd s <| g_zbq N x_1 x_2 (fun b_3 => K (.bool b_3) [])
def Φ_zbq (N : Nat) : Callee := (Φ_zcu N).add 95 (f_zbq N)
def c_zbq : Code := bodyOf Tryz.f95
theorem b_zbq {R : Type} (N : Nat) (x_1 x_2 : Int) (K : V → S → Option R) : bodyV C (Φ_zcu N) (noLooper) 95 Tryz.f95 [.agg [.int .i64 x_1, .int .i64 x_2]] [] K =
 gb_zbq N x_1 x_2 (fun b_3 => K (.bool b_3) []) := by kernel_rfl
theorem callee_zbq (hC : Ok Tryz.prog C) {N : Nat} (hΦ : CalleeOk Tryz.prog C (Φ_zcu N)) : CalleeOk Tryz.prog C (Φ_zbq N) := by
 refine hΦ.add_pure rfl fun R vs K r h => ?_
 unfold f_zbq at h
 obtain ⟨_, rfl, h1⟩ := asN1_some h
 obtain ⟨_, _, rfl, h2⟩ := un_impl_Cred_some h1
 obtain ⟨_, h3⟩ := asEnd_some h2
 refine body_pure (fn := Tryz.f95) (c := c_zbq) hC hΦ Tryz.func95 (by kernel_rfl) (by kernel_rfl) (loopsOk_nil (Λ := noLooper) (by kernel_rfl)) rfl rfl ?_
 refine (b_zbq N _ _ _).trans ?_
 rw [← g_zbq_eq]
 exact h3
def f_zcc (N : Nat) : (R : Type) → List V → S → (V → S → Option R) → Option R := fun _ vs s K =>
 asN2 vs fun v'1 v'2 => un_impl_Fs v'1 fun e_1 f_2 x_3 => un_impl_Cred v'2 fun x_4 x_5 => asEnd s <| g_zcc N e_1 f_2 x_3 x_4 x_5 (fun b_6 => K (.bool b_6) [])
def Φ_zcc (N : Nat) : Callee := (Φ_zbq N).add 49 (f_zcc N)
def c_zcc : Code := bodyOf Tryz.f49
theorem b_zcc {R : Type} (N : Nat) (e_1 : List V) (f_2 : Fl) (x_3 x_4 x_5 : Int) (K : V → S → Option R) : bodyV C (Φ_zbq N) (noLooper) 49 Tryz.f49 [.agg [.list 7 e_1 f_2, .int .i64 x_3], .agg [.int .i64 x_4, .int .i64 x_5]] [] K =
 gb_zcc N e_1 f_2 x_3 x_4 x_5 (fun b_6 => K (.bool b_6) []) := by kernel_rfl
theorem callee_zcc (hC : Ok Tryz.prog C) {N : Nat} (hΦ : CalleeOk Tryz.prog C (Φ_zbq N)) : CalleeOk Tryz.prog C (Φ_zcc N) := by
 refine hΦ.add_pure rfl fun R vs K r h => ?_
 unfold f_zcc at h
 obtain ⟨_, _, rfl, h1⟩ := asN2_some h
 obtain ⟨_, _, _, rfl, h2⟩ := un_impl_Fs_some h1
 obtain ⟨_, _, rfl, h3⟩ := un_impl_Cred_some h2
 obtain ⟨_, h4⟩ := asEnd_some h3
 refine body_pure (fn := Tryz.f49) (c := c_zcc) hC hΦ Tryz.func49 (by kernel_rfl) (by kernel_rfl) (loopsOk_nil (Λ := noLooper) (by kernel_rfl)) rfl rfl ?_
 refine (b_zcc N _ _ _ _ _ _).trans ?_
 rw [← g_zcc_eq]
 exact h4
def f_zbk (N : Nat) : (R : Type) → List V → S → (V → S → Option R) → Option R := fun _ vs s K =>
 asN5 vs fun v'1 v'2 v'3 v'4 v'5 => un_impl_Cred v'1 fun x_1 x_2 => asInt .i64 v'2 fun x_3 => asInt .i64 v'3 fun x_4 => asInt .i64 v'4 fun x_5 => asInt .i64 v'5 fun x_6 => asEnd s <| g_zbk N x_1 x_2 x_3 x_4 x_5 x_6 (fun b_7 => K (.bool b_7) [])
def Φ_zbk (N : Nat) : Callee := (Φ_zcc N).add 107 (f_zbk N)
def c_zbk : Code := bodyOf Tryz.f107
theorem b_zbk {R : Type} (N : Nat) (x_1 x_2 x_3 x_4 x_5 x_6 : Int) (K : V → S → Option R) : bodyV C (Φ_zcc N) (noLooper) 107 Tryz.f107 [.agg [.int .i64 x_1, .int .i64 x_2], .int .i64 x_3, .int .i64 x_4, .int .i64 x_5, .int .i64 x_6] [] K =
 gb_zbk N x_1 x_2 x_3 x_4 x_5 x_6 (fun b_7 => K (.bool b_7) []) := by kernel_rfl
theorem callee_zbk (hC : Ok Tryz.prog C) {N : Nat} (hΦ : CalleeOk Tryz.prog C (Φ_zcc N)) : CalleeOk Tryz.prog C (Φ_zbk N) := by
 refine hΦ.add_pure rfl fun R vs K r h => ?_
 unfold f_zbk at h
 obtain ⟨_, _, _, _, _, rfl, h1⟩ := asN5_some h
 obtain ⟨_, _, rfl, h2⟩ := un_impl_Cred_some h1
 obtain ⟨_, rfl, h3⟩ := asInt_some h2
 obtain ⟨_, rfl, h4⟩ := asInt_some h3
 obtain ⟨_, rfl, h5⟩ := asInt_some h4
 obtain ⟨_, rfl, h6⟩ := asInt_some h5
 obtain ⟨_, h7⟩ := asEnd_some h6
 refine body_pure (fn := Tryz.f107) (c := c_zbk) hC hΦ Tryz.func107 (by kernel_rfl) (by kernel_rfl) (loopsOk_nil (Λ := noLooper) (by kernel_rfl)) rfl rfl ?_
 refine (b_zbk N _ _ _ _ _ _ _).trans ?_
 rw [← g_zbk_eq]
 exact h7
def f_zbo (N : Nat) : (R : Type) → List V → S → (V → S → Option R) → Option R := fun _ vs s K =>
 asN4 vs fun v'1 v'2 v'3 v'4 => un_impl_Fs v'1 fun e_1 f_2 x_3 => un_impl_Cred v'2 fun x_4 x_5 => asInt .i64 v'3 fun x_6 => asInt .i64 v'4 fun x_7 => asEnd s <| g_zbo N e_1 f_2 x_3 x_4 x_5 x_6 x_7 (fun b_8 => K (.bool b_8) [])
def Φ_zbo (N : Nat) : Callee := (Φ_zbk N).add 56 (f_zbo N)
def c_zbo : Code := bodyOf Tryz.f56
theorem b_zbo {R : Type} (N : Nat) (e_1 : List V) (f_2 : Fl) (x_3 x_4 x_5 x_6 x_7 : Int) (K : V → S → Option R) : bodyV C (Φ_zbk N) (noLooper) 56 Tryz.f56 [.agg [.list 7 e_1 f_2, .int .i64 x_3], .agg [.int .i64 x_4, .int .i64 x_5], .int .i64 x_6, .int .i64 x_7] [] K =
 gb_zbo N e_1 f_2 x_3 x_4 x_5 x_6 x_7 (fun b_8 => K (.bool b_8) []) := by kernel_rfl
theorem callee_zbo (hC : Ok Tryz.prog C) {N : Nat} (hΦ : CalleeOk Tryz.prog C (Φ_zbk N)) : CalleeOk Tryz.prog C (Φ_zbo N) := by
 refine hΦ.add_pure rfl fun R vs K r h => ?_
 unfold f_zbo at h
 obtain ⟨_, _, _, _, rfl, h1⟩ := asN4_some h
 obtain ⟨_, _, _, rfl, h2⟩ := un_impl_Fs_some h1
 obtain ⟨_, _, rfl, h3⟩ := un_impl_Cred_some h2
 obtain ⟨_, rfl, h4⟩ := asInt_some h3
 obtain ⟨_, rfl, h5⟩ := asInt_some h4
 obtain ⟨_, h6⟩ := asEnd_some h5
 refine body_pure (fn := Tryz.f56) (c := c_zbo) hC hΦ Tryz.func56 (by kernel_rfl) (by kernel_rfl) (loopsOk_nil (Λ := noLooper) (by kernel_rfl)) rfl rfl ?_
 refine (b_zbo N _ _ _ _ _ _ _ _).trans ?_
 rw [← g_zbo_eq]
 exact h6
def f_zcd (N : Nat) : (R : Type) → List V → S → (V → S → Option R) → Option R := fun _ vs s K =>
 asN1 vs fun v'1 => asStr v'1 fun w_1 => asEnd s <| g_zcd N w_1 (fun b_2 => K (.bool b_2) [])
def Φ_zcd (N : Nat) : Callee := (Φ_zbo N).add 96 (f_zcd N)
def c_zcd : Code := bodyOf Tryz.f96
theorem b_zcd {R : Type} (N : Nat) (w_1 : ByteArray) (K : V → S → Option R) : bodyV C (Φ_zbo N) (noLooper) 96 Tryz.f96 [.str w_1] [] K =
 gb_zcd N w_1 (fun b_2 => K (.bool b_2) []) := by kernel_rfl
theorem callee_zcd (hC : Ok Tryz.prog C) {N : Nat} (hΦ : CalleeOk Tryz.prog C (Φ_zbo N)) : CalleeOk Tryz.prog C (Φ_zcd N) := by
 refine hΦ.add_pure rfl fun R vs K r h => ?_
 unfold f_zcd at h
 obtain ⟨_, rfl, h1⟩ := asN1_some h
 obtain ⟨_, rfl, h2⟩ := asStr_some h1
 obtain ⟨_, h3⟩ := asEnd_some h2
 refine body_pure (fn := Tryz.f96) (c := c_zcd) hC hΦ Tryz.func96 (by kernel_rfl) (by kernel_rfl) (loopsOk_nil (Λ := noLooper) (by kernel_rfl)) rfl rfl ?_
 refine (b_zcd N _ _).trans ?_
 rw [← g_zcd_eq]
 exact h3
def f_zaj (N : Nat) : (R : Type) → List V → S → (V → S → Option R) → Option R := fun _ vs s K =>
 asN2 vs fun v'1 v'2 => asStr v'1 fun w_1 => asStr v'2 fun w_2 => asEnd s <| g_zaj N w_1 w_2 (fun b_3 => K (.bool b_3) [])
def Φ_zaj (N : Nat) : Callee := (Φ_zcd N).add 151 (f_zaj N)
def c_zaj : Code := bodyOf Tryz.f151
theorem b_zaj {R : Type} (N : Nat) (w_1 w_2 : ByteArray) (K : V → S → Option R) : bodyV C (Φ_zcd N) (noLooper) 151 Tryz.f151 [.str w_1, .str w_2] [] K =
 gb_zaj N w_1 w_2 (fun b_3 => K (.bool b_3) []) := by kernel_rfl
theorem callee_zaj (hC : Ok Tryz.prog C) {N : Nat} (hΦ : CalleeOk Tryz.prog C (Φ_zcd N)) : CalleeOk Tryz.prog C (Φ_zaj N) := by
 refine hΦ.add_pure rfl fun R vs K r h => ?_
 unfold f_zaj at h
 obtain ⟨_, _, rfl, h1⟩ := asN2_some h
 obtain ⟨_, rfl, h2⟩ := asStr_some h1
 obtain ⟨_, rfl, h3⟩ := asStr_some h2
 obtain ⟨_, h4⟩ := asEnd_some h3
 refine body_pure (fn := Tryz.f151) (c := c_zaj) hC hΦ Tryz.func151 (by kernel_rfl) (by kernel_rfl) (loopsOk_nil (Λ := noLooper) (by kernel_rfl)) rfl rfl ?_
 refine (b_zaj N _ _ _).trans ?_
 rw [← g_zaj_eq]
 exact h4
def f_zau (N : Nat) : (R : Type) → List V → S → (V → S → Option R) → Option R := fun _ vs s K =>
 asN2 vs fun v'1 v'2 => asStr v'1 fun w_1 => asStr v'2 fun w_2 => asEnd s <| g_zau N w_1 w_2 (fun b_3 => K (.bool b_3) [])
def Φ_zau (N : Nat) : Callee := (Φ_zaj N).add 97 (f_zau N)
def c_zau : Code := bodyOf Tryz.f97
theorem b_zau {R : Type} (N : Nat) (w_1 w_2 : ByteArray) (K : V → S → Option R) : bodyV C (Φ_zaj N) (noLooper) 97 Tryz.f97 [.str w_1, .str w_2] [] K =
 gb_zau N w_1 w_2 (fun b_3 => K (.bool b_3) []) := by kernel_rfl
theorem callee_zau (hC : Ok Tryz.prog C) {N : Nat} (hΦ : CalleeOk Tryz.prog C (Φ_zaj N)) : CalleeOk Tryz.prog C (Φ_zau N) := by
 refine hΦ.add_pure rfl fun R vs K r h => ?_
 unfold f_zau at h
 obtain ⟨_, _, rfl, h1⟩ := asN2_some h
 obtain ⟨_, rfl, h2⟩ := asStr_some h1
 obtain ⟨_, rfl, h3⟩ := asStr_some h2
 obtain ⟨_, h4⟩ := asEnd_some h3
 refine body_pure (fn := Tryz.f97) (c := c_zau) hC hΦ Tryz.func97 (by kernel_rfl) (by kernel_rfl) (loopsOk_nil (Λ := noLooper) (by kernel_rfl)) rfl rfl ?_
 refine (b_zau N _ _ _).trans ?_
 rw [← g_zau_eq]
 exact h4
def f_zbm (N : Nat) : (R : Type) → List V → S → (V → S → Option R) → Option R := fun _ vs s K =>
 asN2 vs fun v'1 v'2 => un_impl_Fs v'1 fun e_1 f_2 x_3 => asInt .i64 v'2 fun x_4 => asEnd s <| g_zbm N e_1 f_2 x_3 x_4 (fun b_5 => K (.bool b_5) [])
def Φ_zbm (N : Nat) : Callee := (Φ_zau N).add 99 (f_zbm N)
def c_zbm : Code := bodyOf Tryz.f99
theorem b_zbm {R : Type} (N : Nat) (e_1 : List V) (f_2 : Fl) (x_3 x_4 : Int) (K : V → S → Option R) : bodyV C (Φ_zau N) (noLooper) 99 Tryz.f99 [.agg [.list 7 e_1 f_2, .int .i64 x_3], .int .i64 x_4] [] K =
 gb_zbm N e_1 f_2 x_3 x_4 (fun b_5 => K (.bool b_5) []) := by kernel_rfl
theorem callee_zbm (hC : Ok Tryz.prog C) {N : Nat} (hΦ : CalleeOk Tryz.prog C (Φ_zau N)) : CalleeOk Tryz.prog C (Φ_zbm N) := by
 refine hΦ.add_pure rfl fun R vs K r h => ?_
 unfold f_zbm at h
 obtain ⟨_, _, rfl, h1⟩ := asN2_some h
 obtain ⟨_, _, _, rfl, h2⟩ := un_impl_Fs_some h1
 obtain ⟨_, rfl, h3⟩ := asInt_some h2
 obtain ⟨_, h4⟩ := asEnd_some h3
 refine body_pure (fn := Tryz.f99) (c := c_zbm) hC hΦ Tryz.func99 (by kernel_rfl) (by kernel_rfl) (loopsOk_nil (Λ := noLooper) (by kernel_rfl)) rfl rfl ?_
 refine (b_zbm N _ _ _ _ _).trans ?_
 rw [← g_zbm_eq]
 exact h4
def f_zbf (N : Nat) : (R : Type) → List V → S → (V → S → Option R) → Option R := fun _ vs s K =>
 asN2 vs fun v'1 v'2 => un_impl_Fs v'1 fun e_1 f_2 x_3 => asInt .i64 v'2 fun x_4 => asEnd s <| g_zbf N e_1 f_2 x_3 x_4 (fun x_5 w_6 => K (.tuple [.int .i64 x_5, .str w_6]) [])
def Φ_zbf (N : Nat) : Callee := (Φ_zbm N).add 100 (f_zbf N)
def c_zbf : Code := bodyOf Tryz.f100
def b_zbf_1 : Code := (loopNo c_zbf [] 0).2
def b_zbf_0 : Code := (loopNo b_zbf_1 (0 :: [0, 1, 0, 1]) 0).2
def ks_zbf_0 : List Nat := butL 34 [1, 6, 11, 12, 13, 19, 20, 21]
def kx_zbf_0 : List Nat := butL 34 [1, 4, 5, 11, 12, 13]
def fr_zbf_0 (x_1 x_2 : Int) (e_3 : List V) (f_4 : Fl) (x_5 x_6 : Int) (e_7 : List V) (f_8 : Fl) (x_9 : Int) (e_11 : List V) (f_12 : Fl) (x_13 x_14 x_15 x_16 x_17 x_18 : Int) (w_19 : ByteArray) (e_20 : List V) (f_21 : Fl) (x_10 : Int) : List V := mkF 0 34 [(1, .int .i64 x_1), (6, .int .i64 x_2), (11, .list 7 e_3 f_4), (12, .int .i64 x_5), (13, .int .i64 x_6), (19, .list 2 e_7 f_8), (20, .int .i64 x_9), (21, .int .i64 x_10)]
def kk0_zbf_0 {R : Type} (K : X → List V → S → Option R) (x_1 : Int) (x_2 : Int) (e_3 : List V) (f_4 : Fl) (x_5 : Int) (x_6 : Int) (e_7 : List V) (f_8 : Fl) (x_9 : Int) (e_11 : List V) (f_12 : Fl) (x_13 : Int) (x_14 : Int) (x_15 : Int) (x_16 : Int) (x_17 : Int) (x_18 : Int) (w_19 : ByteArray) (e_20 : List V) (f_21 : Fl) : ByteArray → Option R := (fun w_1' => K .ret (mkF 0 34 [(1, .int .i64 x_1), (4, .int .i64 x_2), (5, .str (w_1')), (11, .list 7 e_3 f_4), (12, .int .i64 x_5), (13, .int .i64 x_6)]) [some ⟨[.agg [.list 7 e_11 f_12, .int .i64 x_13]], 2, 34, 0⟩, some ⟨[.agg [.int .i64 x_14, .int .i64 x_15, .int .i64 x_16, .int .i64 x_17, .int .i64 x_18, .str w_19, .list 2 e_20 f_21]], 7, 87, 0⟩])
def kk1_zbf_0 {R : Type} (K : X → List V → S → Option R) (x_1 : Int) (x_2 : Int) (e_3 : List V) (f_4 : Fl) (x_5 : Int) (x_6 : Int) (e_7 : List V) (f_8 : Fl) (x_9 : Int) (e_11 : List V) (f_12 : Fl) (x_13 : Int) (x_14 : Int) (x_15 : Int) (x_16 : Int) (x_17 : Int) (x_18 : Int) (w_19 : ByteArray) (e_20 : List V) (f_21 : Fl) : Unit → Option R := (fun _ => K (.exit 2) (mkF 0 34 [(1, .int .i64 x_1), (11, .list 7 e_3 f_4), (12, .int .i64 x_5), (13, .int .i64 x_6)]) [some ⟨[.agg [.list 7 e_11 f_12, .int .i64 x_13]], 2, 34, 0⟩, some ⟨[.agg [.int .i64 x_14, .int .i64 x_15, .int .i64 x_16, .int .i64 x_17, .int .i64 x_18, .str w_19, .list 2 e_20 f_21]], 7, 87, 0⟩])
abbrev it_zbf_0 {R : Type} (N : Nat) : Nat → List V → S → (X → List V → S → Option R) → Option R := fun n => iter C (Φ_zbm N) (noLooper) b_zbf_0 [0, 1, 1, 0, 0, 1, 1, 0, 0, 1, 0, 1] true ks_zbf_0 kx_zbf_0 n R
theorem r_zbf_0 {R : Type} (N n : Nat) (x_1 x_2 : Int) (e_3 : List V) (f_4 : Fl) (x_5 x_6 : Int) (e_7 : List V) (f_8 : Fl) (x_9 : Int) (e_11 : List V) (f_12 : Fl) (x_13 x_14 x_15 x_16 x_17 x_18 : Int) (w_19 : ByteArray) (e_20 : List V) (f_21 : Fl) (x_10 : Int) (K : X → List V → S → Option R) :
 it_zbf_0 N (n + 1) (fr_zbf_0 x_1 x_2 e_3 f_4 x_5 x_6 e_7 f_8 x_9 e_11 f_12 x_13 x_14 x_15 x_16 x_17 x_18 w_19 e_20 f_21 x_10) [some ⟨[.agg [.list 7 e_11 f_12, .int .i64 x_13]], 2, 34, 0⟩, some ⟨[.agg [.int .i64 x_14, .int .i64 x_15, .int .i64 x_16, .int .i64 x_17, .int .i64 x_18, .str w_19, .list 2 e_20 f_21]], 7, 87, 0⟩] K =
 l_zbf_0_step N x_1 x_2 e_3 f_4 x_5 x_6 e_7 f_8 x_9 e_11 f_12 x_13 x_14 x_15 x_16 x_17 x_18 w_19 e_20 f_21 (fun x_10 => it_zbf_0 N n (fr_zbf_0 x_1 x_2 e_3 f_4 x_5 x_6 e_7 f_8 x_9 e_11 f_12 x_13 x_14 x_15 x_16 x_17 x_18 w_19 e_20 f_21 x_10) [some ⟨[.agg [.list 7 e_11 f_12, .int .i64 x_13]], 2, 34, 0⟩, some ⟨[.agg [.int .i64 x_14, .int .i64 x_15, .int .i64 x_16, .int .i64 x_17, .int .i64 x_18, .str w_19, .list 2 e_20 f_21]], 7, 87, 0⟩] K) x_10 (kk0_zbf_0 K x_1 x_2 e_3 f_4 x_5 x_6 e_7 f_8 x_9 e_11 f_12 x_13 x_14 x_15 x_16 x_17 x_18 w_19 e_20 f_21) (kk1_zbf_0 K x_1 x_2 e_3 f_4 x_5 x_6 e_7 f_8 x_9 e_11 f_12 x_13 x_14 x_15 x_16 x_17 x_18 w_19 e_20 f_21) := by kernel_rfl
theorem w_zbf_0 {R : Type} (N : Nat) (x_1 x_2 : Int) (e_3 : List V) (f_4 : Fl) (x_5 x_6 : Int) (e_7 : List V) (f_8 : Fl) (x_9 : Int) (e_11 : List V) (f_12 : Fl) (x_13 x_14 x_15 x_16 x_17 x_18 : Int) (w_19 : ByteArray) (e_20 : List V) (f_21 : Fl) (K : X → List V → S → Option R) : ∀ (n : Nat) (x_10 : Int),
 it_zbf_0 N n (fr_zbf_0 x_1 x_2 e_3 f_4 x_5 x_6 e_7 f_8 x_9 e_11 f_12 x_13 x_14 x_15 x_16 x_17 x_18 w_19 e_20 f_21 x_10) [some ⟨[.agg [.list 7 e_11 f_12, .int .i64 x_13]], 2, 34, 0⟩, some ⟨[.agg [.int .i64 x_14, .int .i64 x_15, .int .i64 x_16, .int .i64 x_17, .int .i64 x_18, .str w_19, .list 2 e_20 f_21]], 7, 87, 0⟩] K = l_zbf_0 N x_1 x_2 e_3 f_4 x_5 x_6 e_7 f_8 x_9 e_11 f_12 x_13 x_14 x_15 x_16 x_17 x_18 w_19 e_20 f_21 (kk0_zbf_0 K x_1 x_2 e_3 f_4 x_5 x_6 e_7 f_8 x_9 e_11 f_12 x_13 x_14 x_15 x_16 x_17 x_18 w_19 e_20 f_21) (kk1_zbf_0 K x_1 x_2 e_3 f_4 x_5 x_6 e_7 f_8 x_9 e_11 f_12 x_13 x_14 x_15 x_16 x_17 x_18 w_19 e_20 f_21) n x_10
 | 0, _ => rfl
 | n + 1, x_10 => (r_zbf_0 N n x_1 x_2 e_3 f_4 x_5 x_6 e_7 f_8 x_9 e_11 f_12 x_13 x_14 x_15 x_16 x_17 x_18 w_19 e_20 f_21 x_10 K).trans (congrArg (fun nx => l_zbf_0_step N x_1 x_2 e_3 f_4 x_5 x_6 e_7 f_8 x_9 e_11 f_12 x_13 x_14 x_15 x_16 x_17 x_18 w_19 e_20 f_21 nx x_10 (kk0_zbf_0 K x_1 x_2 e_3 f_4 x_5 x_6 e_7 f_8 x_9 e_11 f_12 x_13 x_14 x_15 x_16 x_17 x_18 w_19 e_20 f_21) (kk1_zbf_0 K x_1 x_2 e_3 f_4 x_5 x_6 e_7 f_8 x_9 e_11 f_12 x_13 x_14 x_15 x_16 x_17 x_18 w_19 e_20 f_21)) (funext fun x_10 => w_zbf_0 N x_1 x_2 e_3 f_4 x_5 x_6 e_7 f_8 x_9 e_11 f_12 x_13 x_14 x_15 x_16 x_17 x_18 w_19 e_20 f_21 K n x_10))
def i_zbf_0 {R : Type} (E : List V) (s : S) (k : Int → Int → List V → Fl → Int → Int → List V → Fl → Int → Int → List V → Fl → Int → Int → Int → Int → Int → Int → ByteArray → List V → Fl → Option R) : Option R :=
 guardB (frameOk 34 [1, 6, 11, 12, 13, 19, 20, 21] E) <| atInt E 1 .i64 fun x_1 => atInt E 6 .i64 fun x_2 => atList E 11 7 fun e_3 f_4 => atInt E 12 .i64 fun x_5 => atInt E 13 .i64 fun x_6 => atList E 19 2 fun e_7 f_8 => atInt E 20 .i64 fun x_9 => atInt E 21 .i64 fun x_10 => asOb s fun o'1 s'2 => obIs o'1 2 34 fun e'3 k'4 => isN k'4 0 <| asN1 e'3 fun v'5 => asAgg v'5 fun c'6 => asN2 c'6 fun v'7 v'8 => asList 7 v'7 fun e_11 f_12 => asInt .i64 v'8 fun x_13 => asOb s'2 fun o'9 s'10 => obIs o'9 7 87 fun e'11 k'12 => isN k'12 0 <| asN1 e'11 fun v'13 => asAgg v'13 fun c'14 => asN7 c'14 fun v'15 v'16 v'17 v'18 v'19 v'20 v'21 => asInt .i64 v'15 fun x_14 => asInt .i64 v'16 fun x_15 => asInt .i64 v'17 fun x_16 => asInt .i64 v'18 fun x_17 => asInt .i64 v'19 fun x_18 => asStr v'20 fun w_19 => asList 2 v'21 fun e_20 f_21 => asEnd s'10 <| k x_1 x_2 e_3 f_4 x_5 x_6 e_7 f_8 x_9 x_10 e_11 f_12 x_13 x_14 x_15 x_16 x_17 x_18 w_19 e_20 f_21
theorem i_zbf_0_spec {R : Type} {E : List V} {s : S} {k : Int → Int → List V → Fl → Int → Int → List V → Fl → Int → Int → List V → Fl → Int → Int → Int → Int → Int → Int → ByteArray → List V → Fl → Option R} {r : R} (h : i_zbf_0 E s k = some r) : ∃ x_1 x_2 e_3 f_4 x_5 x_6 e_7 f_8 x_9 x_10 e_11 f_12 x_13 x_14 x_15 x_16 x_17 x_18 w_19 e_20 f_21, E = fr_zbf_0 x_1 x_2 e_3 f_4 x_5 x_6 e_7 f_8 x_9 e_11 f_12 x_13 x_14 x_15 x_16 x_17 x_18 w_19 e_20 f_21 x_10 ∧ s = [some ⟨[.agg [.list 7 e_11 f_12, .int .i64 x_13]], 2, 34, 0⟩, some ⟨[.agg [.int .i64 x_14, .int .i64 x_15, .int .i64 x_16, .int .i64 x_17, .int .i64 x_18, .str w_19, .list 2 e_20 f_21]], 7, 87, 0⟩] ∧ k x_1 x_2 e_3 f_4 x_5 x_6 e_7 f_8 x_9 x_10 e_11 f_12 x_13 x_14 x_15 x_16 x_17 x_18 w_19 e_20 f_21 = some r := by
 unfold i_zbf_0 at h
 obtain ⟨hg, h1⟩ := guardB_some h
 obtain ⟨_, hu1, h2⟩ := atInt_some h1
 obtain ⟨_, hu6, h3⟩ := atInt_some h2
 obtain ⟨_, _, hu11, h4⟩ := atList_some h3
 obtain ⟨_, hu12, h5⟩ := atInt_some h4
 obtain ⟨_, hu13, h6⟩ := atInt_some h5
 obtain ⟨_, _, hu19, h7⟩ := atList_some h6
 obtain ⟨_, hu20, h8⟩ := atInt_some h7
 obtain ⟨_, hu21, h9⟩ := atInt_some h8
 obtain ⟨_, _, rfl, h10⟩ := asOb_some h9
 obtain ⟨_, _, rfl, h11⟩ := obIs_some h10
 obtain ⟨rfl, h12⟩ := isN_some h11
 obtain ⟨_, rfl, h13⟩ := asN1_some h12
 obtain ⟨_, rfl, h14⟩ := asAgg_some h13
 obtain ⟨_, _, rfl, h15⟩ := asN2_some h14
 obtain ⟨_, _, rfl, h16⟩ := asList_some h15
 obtain ⟨_, rfl, h17⟩ := asInt_some h16
 obtain ⟨_, _, rfl, h18⟩ := asOb_some h17
 obtain ⟨_, _, rfl, h19⟩ := obIs_some h18
 obtain ⟨rfl, h20⟩ := isN_some h19
 obtain ⟨_, rfl, h21⟩ := asN1_some h20
 obtain ⟨_, rfl, h22⟩ := asAgg_some h21
 obtain ⟨_, _, _, _, _, _, _, rfl, h23⟩ := asN7_some h22
 obtain ⟨_, rfl, h24⟩ := asInt_some h23
 obtain ⟨_, rfl, h25⟩ := asInt_some h24
 obtain ⟨_, rfl, h26⟩ := asInt_some h25
 obtain ⟨_, rfl, h27⟩ := asInt_some h26
 obtain ⟨_, rfl, h28⟩ := asInt_some h27
 obtain ⟨_, rfl, h29⟩ := asStr_some h28
 obtain ⟨_, _, rfl, h30⟩ := asList_some h29
 obtain ⟨rfl, h31⟩ := asEnd_some h30
 exact ⟨_, _, _, _, _, _, _, _, _, _, _, _, _, _, _, _, _, _, _, _, _, frame_is hg rfl (slots_cons hu1 (slots_cons hu6 (slots_cons hu11 (slots_cons hu12 (slots_cons hu13 (slots_cons hu19 (slots_cons hu20 (slots_cons hu21 slots_nil)))))))), rfl, h31⟩
def Λ_zbf_0 (N : Nat) : Looper := (noLooper).add [0, 1, 1, 0, 0, 1, 1, 0, 0, 1, 0, 1] fun _ E s K => i_zbf_0 (killE ks_zbf_0 E) s fun x_1 x_2 e_3 f_4 x_5 x_6 e_7 f_8 x_9 x_10 e_11 f_12 x_13 x_14 x_15 x_16 x_17 x_18 w_19 e_20 f_21 => l_zbf_0 N x_1 x_2 e_3 f_4 x_5 x_6 e_7 f_8 x_9 e_11 f_12 x_13 x_14 x_15 x_16 x_17 x_18 w_19 e_20 f_21 (kk0_zbf_0 K x_1 x_2 e_3 f_4 x_5 x_6 e_7 f_8 x_9 e_11 f_12 x_13 x_14 x_15 x_16 x_17 x_18 w_19 e_20 f_21) (kk1_zbf_0 K x_1 x_2 e_3 f_4 x_5 x_6 e_7 f_8 x_9 e_11 f_12 x_13 x_14 x_15 x_16 x_17 x_18 w_19 e_20 f_21) N x_10
theorem ok_zbf_0 {N : Nat} (hC : Ok Tryz.prog C) (hΦ : CalleeOk Tryz.prog C (Φ_zbm N)) : LoopOk Tryz.prog C (Λ_zbf_0 N) b_zbf_0 [0, 1, 1, 0, 0, 1, 1, 0, 0, 1, 0, 1] :=
 iter_ok (Λi := noLooper) (tr := true) (ks := ks_zbf_0) (kx := kx_zbf_0) (N := N) hC hΦ
  (loopsOk_nil (by kernel_rfl))
  fun R E s K r h => by
   have h2 := Looper.add_self.symm.trans h
   obtain ⟨_, _, _, _, _, _, _, _, _, _, _, _, _, _, _, _, _, _, _, _, _, he, rfl, h3⟩ := i_zbf_0_spec h2
   rw [he]
   exact (w_zbf_0 N _ _ _ _ _ _ _ _ _ _ _ _ _ _ _ _ _ _ _ _ _ N _).trans h3
def ks_zbf_1 : List Nat := butL 34 [1, 11, 12, 13]
def kx_zbf_1 : List Nat := butL 34 [4, 5]
def fr_zbf_1 (x_1 : Int) (e_2 : List V) (f_3 : Fl) (x_4 : Int) (e_6 : List V) (f_7 : Fl) (x_8 x_5 : Int) : List V := mkF 0 34 [(1, .int .i64 x_1), (11, .list 7 e_2 f_3), (12, .int .i64 x_4), (13, .int .i64 x_5)]
def kk0_zbf_1 {R : Type} (K : X → List V → S → Option R) (x_1 : Int) (e_2 : List V) (f_3 : Fl) (x_4 : Int) (e_6 : List V) (f_7 : Fl) (x_8 : Int) : Int → ByteArray → Option R := (fun x_1' w_2' => K .ret (mkF 0 34 [(4, .int .i64 (x_1')), (5, .str (w_2'))]) [some ⟨[.agg [.list 7 e_6 f_7, .int .i64 x_8]], 2, 34, 0⟩])
def kk1_zbf_1 {R : Type} (K : X → List V → S → Option R) (x_1 : Int) (e_2 : List V) (f_3 : Fl) (x_4 : Int) (e_6 : List V) (f_7 : Fl) (x_8 : Int) : Unit → Option R := (fun _ => K (.exit 0) (mkF 0 34 []) [some ⟨[.agg [.list 7 e_6 f_7, .int .i64 x_8]], 2, 34, 0⟩])
abbrev it_zbf_1 {R : Type} (N : Nat) : Nat → List V → S → (X → List V → S → Option R) → Option R := fun n => iter C (Φ_zbm N) (Λ_zbf_0 N) b_zbf_1 [0, 1, 0, 1] true ks_zbf_1 kx_zbf_1 n R
theorem r_zbf_1 {R : Type} (N n : Nat) (x_1 : Int) (e_2 : List V) (f_3 : Fl) (x_4 : Int) (e_6 : List V) (f_7 : Fl) (x_8 : Int) (x_5 : Int) (K : X → List V → S → Option R) :
 it_zbf_1 N (n + 1) (fr_zbf_1 x_1 e_2 f_3 x_4 e_6 f_7 x_8 x_5) [some ⟨[.agg [.list 7 e_6 f_7, .int .i64 x_8]], 2, 34, 0⟩] K =
 l_zbf_1_step N x_1 e_2 f_3 x_4 e_6 f_7 x_8 (fun x_5 => it_zbf_1 N n (fr_zbf_1 x_1 e_2 f_3 x_4 e_6 f_7 x_8 x_5) [some ⟨[.agg [.list 7 e_6 f_7, .int .i64 x_8]], 2, 34, 0⟩] K) x_5 (kk0_zbf_1 K x_1 e_2 f_3 x_4 e_6 f_7 x_8) (kk1_zbf_1 K x_1 e_2 f_3 x_4 e_6 f_7 x_8) := by kernel_rfl
theorem w_zbf_1 {R : Type} (N : Nat) (x_1 : Int) (e_2 : List V) (f_3 : Fl) (x_4 : Int) (e_6 : List V) (f_7 : Fl) (x_8 : Int) (K : X → List V → S → Option R) : ∀ (n : Nat) (x_5 : Int),
 it_zbf_1 N n (fr_zbf_1 x_1 e_2 f_3 x_4 e_6 f_7 x_8 x_5) [some ⟨[.agg [.list 7 e_6 f_7, .int .i64 x_8]], 2, 34, 0⟩] K = l_zbf_1 N x_1 e_2 f_3 x_4 e_6 f_7 x_8 (kk0_zbf_1 K x_1 e_2 f_3 x_4 e_6 f_7 x_8) (kk1_zbf_1 K x_1 e_2 f_3 x_4 e_6 f_7 x_8) n x_5
 | 0, _ => rfl
 | n + 1, x_5 => (r_zbf_1 N n x_1 e_2 f_3 x_4 e_6 f_7 x_8 x_5 K).trans (congrArg (fun nx => l_zbf_1_step N x_1 e_2 f_3 x_4 e_6 f_7 x_8 nx x_5 (kk0_zbf_1 K x_1 e_2 f_3 x_4 e_6 f_7 x_8) (kk1_zbf_1 K x_1 e_2 f_3 x_4 e_6 f_7 x_8)) (funext fun x_5 => w_zbf_1 N x_1 e_2 f_3 x_4 e_6 f_7 x_8 K n x_5))
def i_zbf_1 {R : Type} (E : List V) (s : S) (k : Int → List V → Fl → Int → Int → List V → Fl → Int → Option R) : Option R :=
 guardB (frameOk 34 [1, 11, 12, 13] E) <| atInt E 1 .i64 fun x_1 => atList E 11 7 fun e_2 f_3 => atInt E 12 .i64 fun x_4 => atInt E 13 .i64 fun x_5 => asOb s fun o'1 s'2 => obIs o'1 2 34 fun e'3 k'4 => isN k'4 0 <| asN1 e'3 fun v'5 => asAgg v'5 fun c'6 => asN2 c'6 fun v'7 v'8 => asList 7 v'7 fun e_6 f_7 => asInt .i64 v'8 fun x_8 => asEnd s'2 <| k x_1 e_2 f_3 x_4 x_5 e_6 f_7 x_8
theorem i_zbf_1_spec {R : Type} {E : List V} {s : S} {k : Int → List V → Fl → Int → Int → List V → Fl → Int → Option R} {r : R} (h : i_zbf_1 E s k = some r) : ∃ x_1 e_2 f_3 x_4 x_5 e_6 f_7 x_8, E = fr_zbf_1 x_1 e_2 f_3 x_4 e_6 f_7 x_8 x_5 ∧ s = [some ⟨[.agg [.list 7 e_6 f_7, .int .i64 x_8]], 2, 34, 0⟩] ∧ k x_1 e_2 f_3 x_4 x_5 e_6 f_7 x_8 = some r := by
 unfold i_zbf_1 at h
 obtain ⟨hg, h1⟩ := guardB_some h
 obtain ⟨_, hu1, h2⟩ := atInt_some h1
 obtain ⟨_, _, hu11, h3⟩ := atList_some h2
 obtain ⟨_, hu12, h4⟩ := atInt_some h3
 obtain ⟨_, hu13, h5⟩ := atInt_some h4
 obtain ⟨_, _, rfl, h6⟩ := asOb_some h5
 obtain ⟨_, _, rfl, h7⟩ := obIs_some h6
 obtain ⟨rfl, h8⟩ := isN_some h7
 obtain ⟨_, rfl, h9⟩ := asN1_some h8
 obtain ⟨_, rfl, h10⟩ := asAgg_some h9
 obtain ⟨_, _, rfl, h11⟩ := asN2_some h10
 obtain ⟨_, _, rfl, h12⟩ := asList_some h11
 obtain ⟨_, rfl, h13⟩ := asInt_some h12
 obtain ⟨rfl, h14⟩ := asEnd_some h13
 exact ⟨_, _, _, _, _, _, _, _, frame_is hg rfl (slots_cons hu1 (slots_cons hu11 (slots_cons hu12 (slots_cons hu13 slots_nil)))), rfl, h14⟩
def Λ_zbf_1 (N : Nat) : Looper := (Λ_zbf_0 N).add [0, 1, 0, 1] fun _ E s K => i_zbf_1 (killE ks_zbf_1 E) s fun x_1 e_2 f_3 x_4 x_5 e_6 f_7 x_8 => l_zbf_1 N x_1 e_2 f_3 x_4 e_6 f_7 x_8 (kk0_zbf_1 K x_1 e_2 f_3 x_4 e_6 f_7 x_8) (kk1_zbf_1 K x_1 e_2 f_3 x_4 e_6 f_7 x_8) N x_5
theorem in_zbf_1 : loopsAt b_zbf_1 (0 :: [0, 1, 0, 1]) = [([0, 1, 1, 0, 0, 1, 1, 0, 0, 1, 0, 1], b_zbf_0)] := by kernel_rfl
theorem ok_zbf_1 {N : Nat} (hC : Ok Tryz.prog C) (hΦ : CalleeOk Tryz.prog C (Φ_zbm N)) : LoopOk Tryz.prog C (Λ_zbf_1 N) b_zbf_1 [0, 1, 0, 1] :=
 iter_ok (Λi := Λ_zbf_0 N) (tr := true) (ks := ks_zbf_1) (kx := kx_zbf_1) (N := N) hC hΦ
  (loopsOk_of b_zbf_1 _ (by
   rw [in_zbf_1]
   intro p hp
   simp only [List.mem_cons, List.mem_nil_iff, or_false] at hp
   rcases hp with rfl
   ·exact (ok_zbf_0 hC hΦ)))
  fun R E s K r h => by
   have h2 := Looper.add_self.symm.trans h
   obtain ⟨_, _, _, _, _, _, _, _, he, rfl, h3⟩ := i_zbf_1_spec h2
   rw [he]
   exact (w_zbf_1 N _ _ _ _ _ _ _ _ N _).trans h3
theorem at_zbf : loopsAt c_zbf [] = [([0, 1, 0, 1], b_zbf_1)] := by kernel_rfl
theorem b_zbf {R : Type} (N : Nat) (e_1 : List V) (f_2 : Fl) (x_3 x_4 : Int) (K : V → S → Option R) : bodyV C (Φ_zbm N) (Λ_zbf_1 N) 100 Tryz.f100 [.agg [.list 7 e_1 f_2, .int .i64 x_3], .int .i64 x_4] [] K =
 gb_zbf N e_1 f_2 x_3 x_4 (fun x_5 w_6 => K (.tuple [.int .i64 x_5, .str w_6]) []) := by kernel_rfl
theorem loops_zbf {N : Nat} (hC : Ok Tryz.prog C) (hΦ : CalleeOk Tryz.prog C (Φ_zbm N)) : LoopsOk Tryz.prog C (Λ_zbf_1 N) c_zbf [] :=
 loopsOk_of c_zbf [] (by
  rw [at_zbf]
  intro p hp
  simp only [List.mem_cons, List.mem_nil_iff, or_false] at hp
  rcases hp with rfl
  ·exact (ok_zbf_1 hC hΦ))
theorem callee_zbf (hC : Ok Tryz.prog C) {N : Nat} (hΦ : CalleeOk Tryz.prog C (Φ_zbm N)) : CalleeOk Tryz.prog C (Φ_zbf N) := by
 refine hΦ.add_pure rfl fun R vs K r h => ?_
 unfold f_zbf at h
 obtain ⟨_, _, rfl, h1⟩ := asN2_some h
 obtain ⟨_, _, _, rfl, h2⟩ := un_impl_Fs_some h1
 obtain ⟨_, rfl, h3⟩ := asInt_some h2
 obtain ⟨_, h4⟩ := asEnd_some h3
 refine body_pure (fn := Tryz.f100) (c := c_zbf) hC hΦ Tryz.func100 (by kernel_rfl) (by kernel_rfl) (loops_zbf (N := N) hC hΦ) rfl rfl ?_
 refine (b_zbf N _ _ _ _ _).trans ?_
 rw [← g_zbf_eq]
 exact h4
def f_zbl (N : Nat) : (R : Type) → List V → S → (V → S → Option R) → Option R := fun _ vs s K =>
 asN3 vs fun v'1 v'2 v'3 => un_impl_Fs v'1 fun e_1 f_2 x_3 => asInt .i64 v'2 fun x_4 => asStr v'3 fun w_5 => asEnd s <| g_zbl N e_1 f_2 x_3 x_4 w_5 (fun x_6 => K (.int .i64 x_6) [])
def Φ_zbl (N : Nat) : Callee := (Φ_zbf N).add 101 (f_zbl N)
def c_zbl : Code := bodyOf Tryz.f101
def b_zbl_0 : Code := (loopNo c_zbl [] 0).2
def ks_zbl_0 : List Nat := butL 27 [2, 14, 15, 16]
def kx_zbl_0 : List Nat := butL 27 [6]
def fr_zbl_0 (w_1 : ByteArray) (e_2 : List V) (f_3 : Fl) (x_4 : Int) (e_6 : List V) (f_7 : Fl) (x_8 x_5 : Int) : List V := mkF 0 27 [(2, .str w_1), (14, .list 2 e_2 f_3), (15, .int .i64 x_4), (16, .int .i64 x_5)]
def kk0_zbl_0 {R : Type} (K : X → List V → S → Option R) (w_1 : ByteArray) (e_2 : List V) (f_3 : Fl) (x_4 : Int) (e_6 : List V) (f_7 : Fl) (x_8 : Int) : Int → Option R := (fun x_1' => K .ret (mkF 0 27 [(6, .int .i64 (x_1'))]) [some ⟨[.agg [.list 7 e_6 f_7, .int .i64 x_8]], 2, 34, 0⟩])
def kk1_zbl_0 {R : Type} (K : X → List V → S → Option R) (w_1 : ByteArray) (e_2 : List V) (f_3 : Fl) (x_4 : Int) (e_6 : List V) (f_7 : Fl) (x_8 : Int) : Unit → Option R := (fun _ => K (.exit 0) (mkF 0 27 []) [some ⟨[.agg [.list 7 e_6 f_7, .int .i64 x_8]], 2, 34, 0⟩])
abbrev it_zbl_0 {R : Type} (N : Nat) : Nat → List V → S → (X → List V → S → Option R) → Option R := fun n => iter C (Φ_zbf N) (noLooper) b_zbl_0 [0, 1, 0, 1] true ks_zbl_0 kx_zbl_0 n R
theorem r_zbl_0 {R : Type} (N n : Nat) (w_1 : ByteArray) (e_2 : List V) (f_3 : Fl) (x_4 : Int) (e_6 : List V) (f_7 : Fl) (x_8 : Int) (x_5 : Int) (K : X → List V → S → Option R) :
 it_zbl_0 N (n + 1) (fr_zbl_0 w_1 e_2 f_3 x_4 e_6 f_7 x_8 x_5) [some ⟨[.agg [.list 7 e_6 f_7, .int .i64 x_8]], 2, 34, 0⟩] K =
 l_zbl_0_step N w_1 e_2 f_3 x_4 e_6 f_7 x_8 (fun x_5 => it_zbl_0 N n (fr_zbl_0 w_1 e_2 f_3 x_4 e_6 f_7 x_8 x_5) [some ⟨[.agg [.list 7 e_6 f_7, .int .i64 x_8]], 2, 34, 0⟩] K) x_5 (kk0_zbl_0 K w_1 e_2 f_3 x_4 e_6 f_7 x_8) (kk1_zbl_0 K w_1 e_2 f_3 x_4 e_6 f_7 x_8) := by kernel_rfl
theorem w_zbl_0 {R : Type} (N : Nat) (w_1 : ByteArray) (e_2 : List V) (f_3 : Fl) (x_4 : Int) (e_6 : List V) (f_7 : Fl) (x_8 : Int) (K : X → List V → S → Option R) : ∀ (n : Nat) (x_5 : Int),
 it_zbl_0 N n (fr_zbl_0 w_1 e_2 f_3 x_4 e_6 f_7 x_8 x_5) [some ⟨[.agg [.list 7 e_6 f_7, .int .i64 x_8]], 2, 34, 0⟩] K = l_zbl_0 N w_1 e_2 f_3 x_4 e_6 f_7 x_8 (kk0_zbl_0 K w_1 e_2 f_3 x_4 e_6 f_7 x_8) (kk1_zbl_0 K w_1 e_2 f_3 x_4 e_6 f_7 x_8) n x_5
 | 0, _ => rfl
 | n + 1, x_5 => (r_zbl_0 N n w_1 e_2 f_3 x_4 e_6 f_7 x_8 x_5 K).trans (congrArg (fun nx => l_zbl_0_step N w_1 e_2 f_3 x_4 e_6 f_7 x_8 nx x_5 (kk0_zbl_0 K w_1 e_2 f_3 x_4 e_6 f_7 x_8) (kk1_zbl_0 K w_1 e_2 f_3 x_4 e_6 f_7 x_8)) (funext fun x_5 => w_zbl_0 N w_1 e_2 f_3 x_4 e_6 f_7 x_8 K n x_5))
def i_zbl_0 {R : Type} (E : List V) (s : S) (k : ByteArray → List V → Fl → Int → Int → List V → Fl → Int → Option R) : Option R :=
 guardB (frameOk 27 [2, 14, 15, 16] E) <| atStr E 2 fun w_1 => atList E 14 2 fun e_2 f_3 => atInt E 15 .i64 fun x_4 => atInt E 16 .i64 fun x_5 => asOb s fun o'1 s'2 => obIs o'1 2 34 fun e'3 k'4 => isN k'4 0 <| asN1 e'3 fun v'5 => asAgg v'5 fun c'6 => asN2 c'6 fun v'7 v'8 => asList 7 v'7 fun e_6 f_7 => asInt .i64 v'8 fun x_8 => asEnd s'2 <| k w_1 e_2 f_3 x_4 x_5 e_6 f_7 x_8
theorem i_zbl_0_spec {R : Type} {E : List V} {s : S} {k : ByteArray → List V → Fl → Int → Int → List V → Fl → Int → Option R} {r : R} (h : i_zbl_0 E s k = some r) : ∃ w_1 e_2 f_3 x_4 x_5 e_6 f_7 x_8, E = fr_zbl_0 w_1 e_2 f_3 x_4 e_6 f_7 x_8 x_5 ∧ s = [some ⟨[.agg [.list 7 e_6 f_7, .int .i64 x_8]], 2, 34, 0⟩] ∧ k w_1 e_2 f_3 x_4 x_5 e_6 f_7 x_8 = some r := by
 unfold i_zbl_0 at h
 obtain ⟨hg, h1⟩ := guardB_some h
 obtain ⟨_, hu2, h2⟩ := atStr_some h1
 obtain ⟨_, _, hu14, h3⟩ := atList_some h2
 obtain ⟨_, hu15, h4⟩ := atInt_some h3
 obtain ⟨_, hu16, h5⟩ := atInt_some h4
 obtain ⟨_, _, rfl, h6⟩ := asOb_some h5
 obtain ⟨_, _, rfl, h7⟩ := obIs_some h6
 obtain ⟨rfl, h8⟩ := isN_some h7
 obtain ⟨_, rfl, h9⟩ := asN1_some h8
 obtain ⟨_, rfl, h10⟩ := asAgg_some h9
 obtain ⟨_, _, rfl, h11⟩ := asN2_some h10
 obtain ⟨_, _, rfl, h12⟩ := asList_some h11
 obtain ⟨_, rfl, h13⟩ := asInt_some h12
 obtain ⟨rfl, h14⟩ := asEnd_some h13
 exact ⟨_, _, _, _, _, _, _, _, frame_is hg rfl (slots_cons hu2 (slots_cons hu14 (slots_cons hu15 (slots_cons hu16 slots_nil)))), rfl, h14⟩
def Λ_zbl_0 (N : Nat) : Looper := (noLooper).add [0, 1, 0, 1] fun _ E s K => i_zbl_0 (killE ks_zbl_0 E) s fun w_1 e_2 f_3 x_4 x_5 e_6 f_7 x_8 => l_zbl_0 N w_1 e_2 f_3 x_4 e_6 f_7 x_8 (kk0_zbl_0 K w_1 e_2 f_3 x_4 e_6 f_7 x_8) (kk1_zbl_0 K w_1 e_2 f_3 x_4 e_6 f_7 x_8) N x_5
theorem ok_zbl_0 {N : Nat} (hC : Ok Tryz.prog C) (hΦ : CalleeOk Tryz.prog C (Φ_zbf N)) : LoopOk Tryz.prog C (Λ_zbl_0 N) b_zbl_0 [0, 1, 0, 1] :=
 iter_ok (Λi := noLooper) (tr := true) (ks := ks_zbl_0) (kx := kx_zbl_0) (N := N) hC hΦ
  (loopsOk_nil (by kernel_rfl))
  fun R E s K r h => by
   have h2 := Looper.add_self.symm.trans h
   obtain ⟨_, _, _, _, _, _, _, _, he, rfl, h3⟩ := i_zbl_0_spec h2
   rw [he]
   exact (w_zbl_0 N _ _ _ _ _ _ _ _ N _).trans h3
theorem at_zbl : loopsAt c_zbl [] = [([0, 1, 0, 1], b_zbl_0)] := by kernel_rfl
theorem b_zbl {R : Type} (N : Nat) (e_1 : List V) (f_2 : Fl) (x_3 x_4 : Int) (w_5 : ByteArray) (K : V → S → Option R) : bodyV C (Φ_zbf N) (Λ_zbl_0 N) 101 Tryz.f101 [.agg [.list 7 e_1 f_2, .int .i64 x_3], .int .i64 x_4, .str w_5] [] K =
 gb_zbl N e_1 f_2 x_3 x_4 w_5 (fun x_6 => K (.int .i64 x_6) []) := by kernel_rfl
theorem loops_zbl {N : Nat} (hC : Ok Tryz.prog C) (hΦ : CalleeOk Tryz.prog C (Φ_zbf N)) : LoopsOk Tryz.prog C (Λ_zbl_0 N) c_zbl [] :=
 loopsOk_of c_zbl [] (by
  rw [at_zbl]
  intro p hp
  simp only [List.mem_cons, List.mem_nil_iff, or_false] at hp
  rcases hp with rfl
  ·exact (ok_zbl_0 hC hΦ))
theorem callee_zbl (hC : Ok Tryz.prog C) {N : Nat} (hΦ : CalleeOk Tryz.prog C (Φ_zbf N)) : CalleeOk Tryz.prog C (Φ_zbl N) := by
 refine hΦ.add_pure rfl fun R vs K r h => ?_
 unfold f_zbl at h
 obtain ⟨_, _, _, rfl, h1⟩ := asN3_some h
 obtain ⟨_, _, _, rfl, h2⟩ := un_impl_Fs_some h1
 obtain ⟨_, rfl, h3⟩ := asInt_some h2
 obtain ⟨_, rfl, h4⟩ := asStr_some h3
 obtain ⟨_, h5⟩ := asEnd_some h4
 refine body_pure (fn := Tryz.f101) (c := c_zbl) hC hΦ Tryz.func101 (by kernel_rfl) (by kernel_rfl) (loops_zbl (N := N) hC hΦ) rfl rfl ?_
 refine (b_zbl N _ _ _ _ _ _).trans ?_
 rw [← g_zbl_eq]
 exact h5
def f_zao (N : Nat) : (R : Type) → List V → S → (V → S → Option R) → Option R := fun _ vs s K =>
 asN2 vs fun v'1 v'2 => asNils v'1 <| asInt .i64 v'2 fun x_1 => asEnd s <| g_zao N x_1 (fun e_2 => K (.list 1 e_2 (.own 9)) [])
def Φ_zao (N : Nat) : Callee := (Φ_zbl N).add 155 (f_zao N)
open Go.RowKit Go.Lib in
set_option maxRecDepth 100000 in
theorem grow0_zao (w : World) : Calls Tryz.prog 155 #[.slice none 0 0, .int .i64 0] w fun e w' => e = .returned (.slice none 0 0) ∧ w' = w := by
 go_enter Tryz.func155, Tryz.ntmps155
 go_wp2
 go_ret
 exact ⟨rfl, rfl⟩
open Go.RowKit Go.Lib in
set_option maxRecDepth 100000 in
set_option maxHeartbeats 1000000 in
theorem grow1_zao (w : World) (n : Nat) (i0 : TypeInfo) (z : Value) (hn : 0 < n) (hi0 : Tryz.prog.info? 9 = some i0) (hz0 : i0.zero = some z) (hs0 : 0 < i0.size) (hbig : n * i0.bytes ≤ 140737488355328) (h63 : n ≤ 4611686018427387904) :
  Calls Tryz.prog 155 #[.slice none 0 0, .int .i64 n] w fun e w' =>
   e = .returned (.slice (some ⟨w.heap.size, 0, none⟩) 0 (grownCap w n 0 9)) ∧
   w' = w.drew.alloc (.cells (Builtin.zeroCells z.cells n ++ Builtin.zeroCells z.cells (grownCap w n 0 9 - n)) 9) := by
 have h1 : ¬ ((n : Int) < 0) := by omega
 have h3 : wrap64 ((n : Int) - (0 - 0)) = (n : Int) := by unfold wrap64; omega
 have h4 : (n : Int) > 0 := by omega
 have hold : (Builtin.firstCells i0.size 0 (.slice none 0 0)).run Tryz.prog w.drew = .ok (#[] : Array Value) w.drew := run_firstCells_none w.drew i0.size 0 0 0
 have hrz : ∀ ty, (Builtin.append_ #[27, 3] ty #[.slice none 0 0, .int .i64 (n : Int)]).run Tryz.prog w =
   .ok (.slice (some ⟨w.heap.size, 0, none⟩) n (grownCap w n 0 9)) (w.drew.alloc (.cells (Builtin.zeroCells z.cells n ++ Builtin.zeroCells z.cells (grownCap w n 0 9 - n)) 9)) := fun ty => by
  have h := Lib.run_append_grow_zeros w 27 3 ty 9 i0 z .i64 .i64 Tryz.underlying27 Tryz.underlying3 hi0 hz0 none 0 0 [] hold n (by omega) hs0 (by omega) (by omega)
   (by omega) (by have := growslice_fits (old := 0) (need := n) hn hbig; simpa using this)
  simpa using h
 have hGn : n ≤ grownCap w n 0 9 := grownCap_ge w _ _ _
 obtain ⟨G, hG⟩ : ∃ G, G = grownCap w n 0 9 := ⟨_, rfl⟩
 rw [← hG] at hrz hGn ⊢
 have hG63 : G ≤ 9223372036854775807 := by
  have := grownCap_le_maxLen w n 0 9 (by unfold maxLen; omega)
  rw [← hG] at this
  unfold maxLen at this
  omega
 clear hold hG
 go_enter Tryz.func155, Tryz.ntmps155
 go_wp2_with (at_builtin; refine Lib.wpList_append_run _ rfl _ _ _ _ rfl _ _ rfl rfl _ _ (hrz _) ?_)
 all_goals (go_ret; exact ⟨rfl, rfl⟩)
theorem callee_zao (hC : Ok Tryz.prog C) {N : Nat} (hΦ : CalleeOk Tryz.prog C (Φ_zbl N)) : CalleeOk Tryz.prog C (Φ_zao N) := by
 refine hΦ.add_own rfl fun R vs K r h => ?_
 unfold f_zao at h
 obtain ⟨_, _, rfl, h1⟩ := asN2_some h
 obtain ⟨rfl, h2⟩ := asNils_some h1
 obtain ⟨_, rfl, h3⟩ := asInt_some h2
 obtain ⟨_, h4⟩ := asEnd_some h3
 rw [g_zao_eq] at h4
 unfold gb_zao at h4
 split at h4 <;> first | (cases h4; done) | skip
 rename_i hcond
 exact ⟨_, h4, grow_owned hC (e := 9) (by kernel_rfl) Tryz.func155 (by kernel_rfl) (by kernel_rfl) grow0_zao grow1_zao (B := 16) (sz := 1) (by kernel_rfl) (by kernel_rfl) hcond⟩
def f_zam (N : Nat) : (R : Type) → List V → S → (V → S → Option R) → Option R := fun _ vs s K =>
 asN1 vs fun v'1 => asList 1 v'1 fun e_1 f_2 => asEnd s <| g_zam N e_1 f_2 (fun e_3 => K (.list 1 e_3 .sh) [])
def Φ_zam (N : Nat) : Callee := (Φ_zao N).add 102 (f_zam N)
def c_zam : Code := bodyOf Tryz.f102
def b_zam_0 : Code := (loopNo c_zam [] 0).2
def b_zam_1 : Code := (loopNo c_zam [] 1).2
def ks_zam_0 : List Nat := butL 36 [0, 3, 9, 10, 11]
def kx_zam_0 : List Nat := butL 36 [0, 3]
def fr_zam_0 (e_1 : List V) (f_2 : Fl) (e_4 : List V) (f_5 : Fl) (x_6 x_3 x_7 : Int) : List V := mkF 0 36 [(0, .list 1 e_1 f_2), (3, .int .i64 x_3), (9, .list 1 e_4 f_5), (10, .int .i64 x_6), (11, .int .i64 x_7)]
def kk0_zam_0 {R : Type} (K : X → List V → S → Option R) (e_1 : List V) (f_2 : Fl) (e_4 : List V) (f_5 : Fl) (x_6 : Int) : Int → Option R := (fun x_1' => K (.exit 0) (mkF 0 36 [(0, .list 1 e_1 f_2), (3, .int .i64 (x_1'))]) [])
abbrev it_zam_0 {R : Type} (N : Nat) : Nat → List V → S → (X → List V → S → Option R) → Option R := fun n => iter C (Φ_zao N) (noLooper) b_zam_0 [0, 1, 0, 1, 1] false ks_zam_0 kx_zam_0 n R
theorem r_zam_0 {R : Type} (N n : Nat) (e_1 : List V) (f_2 : Fl) (e_4 : List V) (f_5 : Fl) (x_6 : Int) (x_3 x_7 : Int) (K : X → List V → S → Option R) :
 it_zam_0 N (n + 1) (fr_zam_0 e_1 f_2 e_4 f_5 x_6 x_3 x_7) [] K =
 l_zam_0_step N e_1 f_2 e_4 f_5 x_6 (fun x_3 x_7 => it_zam_0 N n (fr_zam_0 e_1 f_2 e_4 f_5 x_6 x_3 x_7) [] K) x_3 x_7 (kk0_zam_0 K e_1 f_2 e_4 f_5 x_6) := by kernel_rfl
theorem w_zam_0 {R : Type} (N : Nat) (e_1 : List V) (f_2 : Fl) (e_4 : List V) (f_5 : Fl) (x_6 : Int) (K : X → List V → S → Option R) : ∀ (n : Nat) (x_3 x_7 : Int),
 it_zam_0 N n (fr_zam_0 e_1 f_2 e_4 f_5 x_6 x_3 x_7) [] K = l_zam_0 N e_1 f_2 e_4 f_5 x_6 (kk0_zam_0 K e_1 f_2 e_4 f_5 x_6) n x_3 x_7
 | 0, _, _ => rfl
 | n + 1, x_3, x_7 => (r_zam_0 N n e_1 f_2 e_4 f_5 x_6 x_3 x_7 K).trans (congrArg (fun nx => l_zam_0_step N e_1 f_2 e_4 f_5 x_6 nx x_3 x_7 (kk0_zam_0 K e_1 f_2 e_4 f_5 x_6)) (funext fun x_3 => funext fun x_7 => w_zam_0 N e_1 f_2 e_4 f_5 x_6 K n x_3 x_7))
def i_zam_0 {R : Type} (E : List V) (s : S) (k : List V → Fl → Int → List V → Fl → Int → Int → Option R) : Option R :=
 guardB (frameOk 36 [0, 3, 9, 10, 11] E) <| atList E 0 1 fun e_1 f_2 => atInt E 3 .i64 fun x_3 => atList E 9 1 fun e_4 f_5 => atInt E 10 .i64 fun x_6 => atInt E 11 .i64 fun x_7 => asEnd s <| k e_1 f_2 x_3 e_4 f_5 x_6 x_7
theorem i_zam_0_spec {R : Type} {E : List V} {s : S} {k : List V → Fl → Int → List V → Fl → Int → Int → Option R} {r : R} (h : i_zam_0 E s k = some r) : ∃ e_1 f_2 x_3 e_4 f_5 x_6 x_7, E = fr_zam_0 e_1 f_2 e_4 f_5 x_6 x_3 x_7 ∧ s = [] ∧ k e_1 f_2 x_3 e_4 f_5 x_6 x_7 = some r := by
 unfold i_zam_0 at h
 obtain ⟨hg, h1⟩ := guardB_some h
 obtain ⟨_, _, hu0, h2⟩ := atList_some h1
 obtain ⟨_, hu3, h3⟩ := atInt_some h2
 obtain ⟨_, _, hu9, h4⟩ := atList_some h3
 obtain ⟨_, hu10, h5⟩ := atInt_some h4
 obtain ⟨_, hu11, h6⟩ := atInt_some h5
 obtain ⟨rfl, h7⟩ := asEnd_some h6
 exact ⟨_, _, _, _, _, _, _, frame_is hg rfl (slots_cons hu0 (slots_cons hu3 (slots_cons hu9 (slots_cons hu10 (slots_cons hu11 slots_nil))))), rfl, h7⟩
def Λ_zam_0 (N : Nat) : Looper := (noLooper).add [0, 1, 0, 1, 1] fun _ E s K => i_zam_0 (killE ks_zam_0 E) s fun e_1 f_2 x_3 e_4 f_5 x_6 x_7 => l_zam_0 N e_1 f_2 e_4 f_5 x_6 (kk0_zam_0 K e_1 f_2 e_4 f_5 x_6) N x_3 x_7
theorem ok_zam_0 {N : Nat} (hC : Ok Tryz.prog C) (hΦ : CalleeOk Tryz.prog C (Φ_zao N)) : LoopOk Tryz.prog C (Λ_zam_0 N) b_zam_0 [0, 1, 0, 1, 1] :=
 iter_ok (Λi := noLooper) (tr := false) (ks := ks_zam_0) (kx := kx_zam_0) (N := N) hC hΦ
  (loopsOk_nil (by kernel_rfl))
  fun R E s K r h => by
   have h2 := Looper.add_self.symm.trans h
   obtain ⟨_, _, _, _, _, _, _, he, rfl, h3⟩ := i_zam_0_spec h2
   rw [he]
   exact (w_zam_0 N _ _ _ _ _ _ N _ _).trans h3
def ks_zam_1 : List Nat := butL 36 [6, 25, 26, 27]
def kx_zam_1 : List Nat := butL 36 [6]
def fr_zam_1 (e_2 : List V) (f_3 : Fl) (x_4 : Int) (e_1 : List V) (x_5 : Int) : List V := mkF 0 36 [(6, .list 1 e_1 (.own 9)), (25, .list 1 e_2 f_3), (26, .int .i64 x_4), (27, .int .i64 x_5)]
def kk0_zam_1 {R : Type} (K : X → List V → S → Option R) (e_2 : List V) (f_3 : Fl) (x_4 : Int) : List V → Option R := (fun e_1' => K (.exit 2) (mkF 0 36 [(6, .list 1 (e_1') (.own 9))]) [])
abbrev it_zam_1 {R : Type} (N : Nat) : Nat → List V → S → (X → List V → S → Option R) → Option R := fun n => iter C (Φ_zao N) (Λ_zam_0 N) b_zam_1 [0, 1, 0, 1, 1, 1, 1] false ks_zam_1 kx_zam_1 n R
theorem r_zam_1 {R : Type} (N n : Nat) (e_2 : List V) (f_3 : Fl) (x_4 : Int) (e_1 : List V) (x_5 : Int) (K : X → List V → S → Option R) :
 it_zam_1 N (n + 1) (fr_zam_1 e_2 f_3 x_4 e_1 x_5) [] K =
 l_zam_1_step N e_2 f_3 x_4 (fun e_1 x_5 => it_zam_1 N n (fr_zam_1 e_2 f_3 x_4 e_1 x_5) [] K) e_1 x_5 (kk0_zam_1 K e_2 f_3 x_4) := by kernel_rfl
theorem w_zam_1 {R : Type} (N : Nat) (e_2 : List V) (f_3 : Fl) (x_4 : Int) (K : X → List V → S → Option R) : ∀ (n : Nat) (e_1 : List V) (x_5 : Int),
 it_zam_1 N n (fr_zam_1 e_2 f_3 x_4 e_1 x_5) [] K = l_zam_1 N e_2 f_3 x_4 (kk0_zam_1 K e_2 f_3 x_4) n e_1 x_5
 | 0, _, _ => rfl
 | n + 1, e_1, x_5 => (r_zam_1 N n e_2 f_3 x_4 e_1 x_5 K).trans (congrArg (fun nx => l_zam_1_step N e_2 f_3 x_4 nx e_1 x_5 (kk0_zam_1 K e_2 f_3 x_4)) (funext fun e_1 => funext fun x_5 => w_zam_1 N e_2 f_3 x_4 K n e_1 x_5))
def i_zam_1 {R : Type} (E : List V) (s : S) (k : List V → List V → Fl → Int → Int → Option R) : Option R :=
 guardB (frameOk 36 [6, 25, 26, 27] E) <| must (nth E 6) fun u6 => asList 1 u6 fun e_1 f'1 => asOwn 9 f'1 <| atList E 25 1 fun e_2 f_3 => atInt E 26 .i64 fun x_4 => atInt E 27 .i64 fun x_5 => asEnd s <| k e_1 e_2 f_3 x_4 x_5
theorem i_zam_1_spec {R : Type} {E : List V} {s : S} {k : List V → List V → Fl → Int → Int → Option R} {r : R} (h : i_zam_1 E s k = some r) : ∃ e_1 e_2 f_3 x_4 x_5, E = fr_zam_1 e_2 f_3 x_4 e_1 x_5 ∧ s = [] ∧ k e_1 e_2 f_3 x_4 x_5 = some r := by
 unfold i_zam_1 at h
 obtain ⟨hg, h1⟩ := guardB_some h
 obtain ⟨_, hu6, h2⟩ := must_some h1
 obtain ⟨_, _, rfl, h3⟩ := asList_some h2
 obtain ⟨rfl, h4⟩ := asOwn_some h3
 obtain ⟨_, _, hu25, h5⟩ := atList_some h4
 obtain ⟨_, hu26, h6⟩ := atInt_some h5
 obtain ⟨_, hu27, h7⟩ := atInt_some h6
 obtain ⟨rfl, h8⟩ := asEnd_some h7
 exact ⟨_, _, _, _, _, frame_is hg rfl (slots_cons hu6 (slots_cons hu25 (slots_cons hu26 (slots_cons hu27 slots_nil)))), rfl, h8⟩
def Λ_zam_1 (N : Nat) : Looper := (Λ_zam_0 N).add [0, 1, 0, 1, 1, 1, 1] fun _ E s K => i_zam_1 (killE ks_zam_1 E) s fun e_1 e_2 f_3 x_4 x_5 => l_zam_1 N e_2 f_3 x_4 (kk0_zam_1 K e_2 f_3 x_4) N e_1 x_5
theorem ok_zam_1 {N : Nat} (hC : Ok Tryz.prog C) (hΦ : CalleeOk Tryz.prog C (Φ_zao N)) : LoopOk Tryz.prog C (Λ_zam_1 N) b_zam_1 [0, 1, 0, 1, 1, 1, 1] :=
 iter_ok (Λi := Λ_zam_0 N) (tr := false) (ks := ks_zam_1) (kx := kx_zam_1) (N := N) hC hΦ
  (loopsOk_nil (by kernel_rfl))
  fun R E s K r h => by
   have h2 := Looper.add_self.symm.trans h
   obtain ⟨_, _, _, _, _, he, rfl, h3⟩ := i_zam_1_spec h2
   rw [he]
   exact (w_zam_1 N _ _ _ _ N _ _).trans h3
theorem at_zam : loopsAt c_zam [] = [([0, 1, 0, 1, 1], b_zam_0), ([0, 1, 0, 1, 1, 1, 1], b_zam_1)] := by kernel_rfl
theorem b_zam {R : Type} (N : Nat) (e_1 : List V) (f_2 : Fl) (K : V → S → Option R) : bodyV C (Φ_zao N) (Λ_zam_1 N) 102 Tryz.f102 [.list 1 e_1 f_2] [] K =
 gb_zam N e_1 f_2 (fun e_3 => K (.list 1 e_3 .sh) []) := by kernel_rfl
theorem loops_zam {N : Nat} (hC : Ok Tryz.prog C) (hΦ : CalleeOk Tryz.prog C (Φ_zao N)) : LoopsOk Tryz.prog C (Λ_zam_1 N) c_zam [] :=
 loopsOk_of c_zam [] (by
  rw [at_zam]
  intro p hp
  simp only [List.mem_cons, List.mem_nil_iff, or_false] at hp
  rcases hp with rfl | rfl
  ·exact (LoopOk.add (ok_zam_0 hC hΦ) rfl)
  ·exact (ok_zam_1 hC hΦ))
theorem callee_zam (hC : Ok Tryz.prog C) {N : Nat} (hΦ : CalleeOk Tryz.prog C (Φ_zao N)) : CalleeOk Tryz.prog C (Φ_zam N) := by
 refine hΦ.add_pure rfl fun R vs K r h => ?_
 unfold f_zam at h
 obtain ⟨_, rfl, h1⟩ := asN1_some h
 obtain ⟨_, _, rfl, h2⟩ := asList_some h1
 obtain ⟨_, h3⟩ := asEnd_some h2
 refine body_pure (fn := Tryz.f102) (c := c_zam) hC hΦ Tryz.func102 (by kernel_rfl) (by kernel_rfl) (loops_zam (N := N) hC hΦ) rfl rfl ?_
 refine (b_zam N _ _ _).trans ?_
 rw [← g_zam_eq]
 exact h3
def f_zcb (N : Nat) : (R : Type) → List V → S → (V → S → Option R) → Option R := fun _ vs s K =>
 asN4 vs fun v'1 v'2 v'3 v'4 => un_impl_Fs v'1 fun e_1 f_2 x_3 => un_impl_Cred v'2 fun x_4 x_5 => asStr v'3 fun w_6 => asBool v'4 fun b_7 => asEnd s <| g_zcb N e_1 f_2 x_3 x_4 x_5 w_6 b_7 (fun x_8 x_9 => K (.tuple [.int .i64 x_8, .int .i64 x_9]) [])
def Φ_zcb (N : Nat) : Callee := (Φ_zam N).add 50 (f_zcb N)
def c_zcb : Code := bodyOf Tryz.f50
def b_zcb_0 : Code := (loopNo c_zcb [] 0).2
def ks_zcb_0 : List Nat := butL 103 [3, 4, 5, 10, 11, 12, 13]
def kx_zcb_0 : List Nat := butL 103 [4, 8, 9, 10, 12]
def fr_zcb_0 (b_1 b_2 : Bool) (e_6 : List V) (f_7 : Fl) (x_8 x_9 x_10 : Int) (e_3 : List V) (x_4 x_5 : Int) : List V := mkF 0 103 [(3, .bool b_1), (4, .ptr 0 0 0 0), (5, .ptr 1 0 0 0), (10, .bool b_2), (11, .list 1 e_3 .sh), (12, .int .i64 x_4), (13, .int .i64 x_5)]
def kk0_zcb_0 {R : Type} (K : X → List V → S → Option R) (b_1 : Bool) (b_2 : Bool) (e_6 : List V) (f_7 : Fl) (x_8 : Int) (x_9 : Int) (x_10 : Int) : Int → Int → Option R := (fun x_2' x_1' => K .ret (mkF 0 103 [(4, .ptr 0 0 0 0), (8, .int .i64 0), (9, .int .i64 (x_2')), (10, .bool b_2), (12, .int .i64 (x_1'))]) [some ⟨[.agg [.list 7 e_6 f_7, .int .i64 x_8]], 2, 34, 0⟩, some ⟨[.agg [.int .i64 x_9, .int .i64 x_10]], 2, 36, 0⟩])
def kk1_zcb_0 {R : Type} (K : X → List V → S → Option R) (b_1 : Bool) (b_2 : Bool) (e_6 : List V) (f_7 : Fl) (x_8 : Int) (x_9 : Int) (x_10 : Int) : Int → Option R := (fun x_1' => K (.exit 0) (mkF 0 103 [(4, .ptr 0 0 0 0), (10, .bool b_2), (12, .int .i64 (x_1'))]) [some ⟨[.agg [.list 7 e_6 f_7, .int .i64 x_8]], 2, 34, 0⟩, some ⟨[.agg [.int .i64 x_9, .int .i64 x_10]], 2, 36, 0⟩])
abbrev it_zcb_0 {R : Type} (N : Nat) : Nat → List V → S → (X → List V → S → Option R) → Option R := fun n => iter C (Φ_zam N) (noLooper) b_zcb_0 [0, 0, 1, 1, 1, 1] true ks_zcb_0 kx_zcb_0 n R
theorem r_zcb_0 {R : Type} (N n : Nat) (b_1 b_2 : Bool) (e_6 : List V) (f_7 : Fl) (x_8 x_9 x_10 : Int) (e_3 : List V) (x_4 x_5 : Int) (K : X → List V → S → Option R) :
 it_zcb_0 N (n + 1) (fr_zcb_0 b_1 b_2 e_6 f_7 x_8 x_9 x_10 e_3 x_4 x_5) [some ⟨[.agg [.list 7 e_6 f_7, .int .i64 x_8]], 2, 34, 0⟩, some ⟨[.agg [.int .i64 x_9, .int .i64 x_10]], 2, 36, 0⟩] K =
 l_zcb_0_step N b_1 b_2 e_6 f_7 x_8 x_9 x_10 (fun e_3 x_4 x_5 => it_zcb_0 N n (fr_zcb_0 b_1 b_2 e_6 f_7 x_8 x_9 x_10 e_3 x_4 x_5) [some ⟨[.agg [.list 7 e_6 f_7, .int .i64 x_8]], 2, 34, 0⟩, some ⟨[.agg [.int .i64 x_9, .int .i64 x_10]], 2, 36, 0⟩] K) e_3 x_4 x_5 (kk0_zcb_0 K b_1 b_2 e_6 f_7 x_8 x_9 x_10) (kk1_zcb_0 K b_1 b_2 e_6 f_7 x_8 x_9 x_10) := by kernel_rfl
theorem w_zcb_0 {R : Type} (N : Nat) (b_1 b_2 : Bool) (e_6 : List V) (f_7 : Fl) (x_8 x_9 x_10 : Int) (K : X → List V → S → Option R) : ∀ (n : Nat) (e_3 : List V) (x_4 x_5 : Int),
 it_zcb_0 N n (fr_zcb_0 b_1 b_2 e_6 f_7 x_8 x_9 x_10 e_3 x_4 x_5) [some ⟨[.agg [.list 7 e_6 f_7, .int .i64 x_8]], 2, 34, 0⟩, some ⟨[.agg [.int .i64 x_9, .int .i64 x_10]], 2, 36, 0⟩] K = l_zcb_0 N b_1 b_2 e_6 f_7 x_8 x_9 x_10 (kk0_zcb_0 K b_1 b_2 e_6 f_7 x_8 x_9 x_10) (kk1_zcb_0 K b_1 b_2 e_6 f_7 x_8 x_9 x_10) n e_3 x_4 x_5
 | 0, _, _, _ => rfl
 | n + 1, e_3, x_4, x_5 => (r_zcb_0 N n b_1 b_2 e_6 f_7 x_8 x_9 x_10 e_3 x_4 x_5 K).trans (congrArg (fun nx => l_zcb_0_step N b_1 b_2 e_6 f_7 x_8 x_9 x_10 nx e_3 x_4 x_5 (kk0_zcb_0 K b_1 b_2 e_6 f_7 x_8 x_9 x_10) (kk1_zcb_0 K b_1 b_2 e_6 f_7 x_8 x_9 x_10)) (funext fun e_3 => funext fun x_4 => funext fun x_5 => w_zcb_0 N b_1 b_2 e_6 f_7 x_8 x_9 x_10 K n e_3 x_4 x_5))
def i_zcb_0 {R : Type} (E : List V) (s : S) (k : Bool → Bool → List V → Int → Int → List V → Fl → Int → Int → Int → Option R) : Option R :=
 guardB (frameOk 103 [3, 4, 5, 10, 11, 12, 13] E) <| atBool E 3 fun b_1 => atIs E 4 (.ptr 0 0 0 0) <| atIs E 5 (.ptr 1 0 0 0) <| atBool E 10 fun b_2 => must (nth E 11) fun u11 => asList 1 u11 fun e_3 f'1 => asSh f'1 <| atInt E 12 .i64 fun x_4 => atInt E 13 .i64 fun x_5 => asOb s fun o'2 s'3 => obIs o'2 2 34 fun e'4 k'5 => isN k'5 0 <| asN1 e'4 fun v'6 => asAgg v'6 fun c'7 => asN2 c'7 fun v'8 v'9 => asList 7 v'8 fun e_6 f_7 => asInt .i64 v'9 fun x_8 => asOb s'3 fun o'10 s'11 => obIs o'10 2 36 fun e'12 k'13 => isN k'13 0 <| asN1 e'12 fun v'14 => asAgg v'14 fun c'15 => asN2 c'15 fun v'16 v'17 => asInt .i64 v'16 fun x_9 => asInt .i64 v'17 fun x_10 => asEnd s'11 <| k b_1 b_2 e_3 x_4 x_5 e_6 f_7 x_8 x_9 x_10
theorem i_zcb_0_spec {R : Type} {E : List V} {s : S} {k : Bool → Bool → List V → Int → Int → List V → Fl → Int → Int → Int → Option R} {r : R} (h : i_zcb_0 E s k = some r) : ∃ b_1 b_2 e_3 x_4 x_5 e_6 f_7 x_8 x_9 x_10, E = fr_zcb_0 b_1 b_2 e_6 f_7 x_8 x_9 x_10 e_3 x_4 x_5 ∧ s = [some ⟨[.agg [.list 7 e_6 f_7, .int .i64 x_8]], 2, 34, 0⟩, some ⟨[.agg [.int .i64 x_9, .int .i64 x_10]], 2, 36, 0⟩] ∧ k b_1 b_2 e_3 x_4 x_5 e_6 f_7 x_8 x_9 x_10 = some r := by
 unfold i_zcb_0 at h
 obtain ⟨hg, h1⟩ := guardB_some h
 obtain ⟨_, hu3, h2⟩ := atBool_some h1
 obtain ⟨hu4, h3⟩ := atIs_some h2
 obtain ⟨hu5, h4⟩ := atIs_some h3
 obtain ⟨_, hu10, h5⟩ := atBool_some h4
 obtain ⟨_, hu11, h6⟩ := must_some h5
 obtain ⟨_, _, rfl, h7⟩ := asList_some h6
 obtain ⟨rfl, h8⟩ := asSh_some h7
 obtain ⟨_, hu12, h9⟩ := atInt_some h8
 obtain ⟨_, hu13, h10⟩ := atInt_some h9
 obtain ⟨_, _, rfl, h11⟩ := asOb_some h10
 obtain ⟨_, _, rfl, h12⟩ := obIs_some h11
 obtain ⟨rfl, h13⟩ := isN_some h12
 obtain ⟨_, rfl, h14⟩ := asN1_some h13
 obtain ⟨_, rfl, h15⟩ := asAgg_some h14
 obtain ⟨_, _, rfl, h16⟩ := asN2_some h15
 obtain ⟨_, _, rfl, h17⟩ := asList_some h16
 obtain ⟨_, rfl, h18⟩ := asInt_some h17
 obtain ⟨_, _, rfl, h19⟩ := asOb_some h18
 obtain ⟨_, _, rfl, h20⟩ := obIs_some h19
 obtain ⟨rfl, h21⟩ := isN_some h20
 obtain ⟨_, rfl, h22⟩ := asN1_some h21
 obtain ⟨_, rfl, h23⟩ := asAgg_some h22
 obtain ⟨_, _, rfl, h24⟩ := asN2_some h23
 obtain ⟨_, rfl, h25⟩ := asInt_some h24
 obtain ⟨_, rfl, h26⟩ := asInt_some h25
 obtain ⟨rfl, h27⟩ := asEnd_some h26
 exact ⟨_, _, _, _, _, _, _, _, _, _, frame_is hg rfl (slots_cons hu3 (slots_cons hu4 (slots_cons hu5 (slots_cons hu10 (slots_cons hu11 (slots_cons hu12 (slots_cons hu13 slots_nil))))))), rfl, h27⟩
def Λ_zcb_0 (N : Nat) : Looper := (noLooper).add [0, 0, 1, 1, 1, 1] fun _ E s K => i_zcb_0 (killE ks_zcb_0 E) s fun b_1 b_2 e_3 x_4 x_5 e_6 f_7 x_8 x_9 x_10 => l_zcb_0 N b_1 b_2 e_6 f_7 x_8 x_9 x_10 (kk0_zcb_0 K b_1 b_2 e_6 f_7 x_8 x_9 x_10) (kk1_zcb_0 K b_1 b_2 e_6 f_7 x_8 x_9 x_10) N e_3 x_4 x_5
theorem ok_zcb_0 {N : Nat} (hC : Ok Tryz.prog C) (hΦ : CalleeOk Tryz.prog C (Φ_zam N)) : LoopOk Tryz.prog C (Λ_zcb_0 N) b_zcb_0 [0, 0, 1, 1, 1, 1] :=
 iter_ok (Λi := noLooper) (tr := true) (ks := ks_zcb_0) (kx := kx_zcb_0) (N := N) hC hΦ
  (loopsOk_nil (by kernel_rfl))
  fun R E s K r h => by
   have h2 := Looper.add_self.symm.trans h
   obtain ⟨_, _, _, _, _, _, _, _, _, _, he, rfl, h3⟩ := i_zcb_0_spec h2
   rw [he]
   exact (w_zcb_0 N _ _ _ _ _ _ _ _ N _ _ _).trans h3
theorem at_zcb : loopsAt c_zcb [] = [([0, 0, 1, 1, 1, 1], b_zcb_0)] := by kernel_rfl
theorem b_zcb {R : Type} (N : Nat) (e_1 : List V) (f_2 : Fl) (x_3 x_4 x_5 : Int) (w_6 : ByteArray) (b_7 : Bool) (K : V → S → Option R) : bodyV C (Φ_zam N) (Λ_zcb_0 N) 50 Tryz.f50 [.agg [.list 7 e_1 f_2, .int .i64 x_3], .agg [.int .i64 x_4, .int .i64 x_5], .str w_6, .bool b_7] [] K =
 gb_zcb N e_1 f_2 x_3 x_4 x_5 w_6 b_7 (fun x_8 x_9 => K (.tuple [.int .i64 x_8, .int .i64 x_9]) []) := by kernel_rfl
theorem loops_zcb {N : Nat} (hC : Ok Tryz.prog C) (hΦ : CalleeOk Tryz.prog C (Φ_zam N)) : LoopsOk Tryz.prog C (Λ_zcb_0 N) c_zcb [] :=
 loopsOk_of c_zcb [] (by
  rw [at_zcb]
  intro p hp
  simp only [List.mem_cons, List.mem_nil_iff, or_false] at hp
  rcases hp with rfl
  ·exact (ok_zcb_0 hC hΦ))
theorem callee_zcb (hC : Ok Tryz.prog C) {N : Nat} (hΦ : CalleeOk Tryz.prog C (Φ_zam N)) : CalleeOk Tryz.prog C (Φ_zcb N) := by
 refine hΦ.add_pure rfl fun R vs K r h => ?_
 unfold f_zcb at h
 obtain ⟨_, _, _, _, rfl, h1⟩ := asN4_some h
 obtain ⟨_, _, _, rfl, h2⟩ := un_impl_Fs_some h1
 obtain ⟨_, _, rfl, h3⟩ := un_impl_Cred_some h2
 obtain ⟨_, rfl, h4⟩ := asStr_some h3
 obtain ⟨_, rfl, h5⟩ := asBool_some h4
 obtain ⟨_, h6⟩ := asEnd_some h5
 refine body_pure (fn := Tryz.f50) (c := c_zcb) hC hΦ Tryz.func50 (by kernel_rfl) (by kernel_rfl) (loops_zcb (N := N) hC hΦ) rfl rfl ?_
 refine (b_zcb N _ _ _ _ _ _ _ _).trans ?_
 rw [← g_zcb_eq]
 exact h6
def f_zag (N : Nat) : (R : Type) → List V → S → (V → S → Option R) → Option R := fun _ vs s K =>
 asN2 vs fun v'1 v'2 => asStr v'1 fun w_1 => asInt .u8 v'2 fun x_2 => asEnd s <| g_zag N w_1 x_2 (fun x_3 => K (.int .i64 x_3) [])
def Φ_zag (N : Nat) : Callee := (Φ_zcb N).add 159 (f_zag N)
def c_zag : Code := bodyOf Tryz.f159
def b_zag_0 : Code := (loopNo c_zag [] 0).2
def ks_zag_0 : List Nat := butL 19 [0, 1, 5]
def kx_zag_0 : List Nat := butL 19 [4]
def fr_zag_0 (w_1 : ByteArray) (x_2 x_3 : Int) : List V := mkF 0 19 [(0, .str w_1), (1, .int .u8 x_2), (5, .int .i64 x_3)]
def kk0_zag_0 {R : Type} (K : X → List V → S → Option R) (w_1 : ByteArray) (x_2 : Int) : Int → Option R := (fun x_1' => K .ret (mkF 0 19 [(4, .int .i64 (x_1'))]) [])
def kk1_zag_0 {R : Type} (K : X → List V → S → Option R) (w_1 : ByteArray) (x_2 : Int) : Unit → Option R := (fun _ => K (.exit 0) (mkF 0 19 []) [])
abbrev it_zag_0 {R : Type} (N : Nat) : Nat → List V → S → (X → List V → S → Option R) → Option R := fun n => iter C (Φ_zcb N) (noLooper) b_zag_0 [0, 1, 0, 1] false ks_zag_0 kx_zag_0 n R
theorem r_zag_0 {R : Type} (N n : Nat) (w_1 : ByteArray) (x_2 : Int) (x_3 : Int) (K : X → List V → S → Option R) :
 it_zag_0 N (n + 1) (fr_zag_0 w_1 x_2 x_3) [] K =
 l_zag_0_step N w_1 x_2 (fun x_3 => it_zag_0 N n (fr_zag_0 w_1 x_2 x_3) [] K) x_3 (kk0_zag_0 K w_1 x_2) (kk1_zag_0 K w_1 x_2) := by kernel_rfl
theorem w_zag_0 {R : Type} (N : Nat) (w_1 : ByteArray) (x_2 : Int) (K : X → List V → S → Option R) : ∀ (n : Nat) (x_3 : Int),
 it_zag_0 N n (fr_zag_0 w_1 x_2 x_3) [] K = l_zag_0 N w_1 x_2 (kk0_zag_0 K w_1 x_2) (kk1_zag_0 K w_1 x_2) n x_3
 | 0, _ => rfl
 | n + 1, x_3 => (r_zag_0 N n w_1 x_2 x_3 K).trans (congrArg (fun nx => l_zag_0_step N w_1 x_2 nx x_3 (kk0_zag_0 K w_1 x_2) (kk1_zag_0 K w_1 x_2)) (funext fun x_3 => w_zag_0 N w_1 x_2 K n x_3))
def i_zag_0 {R : Type} (E : List V) (s : S) (k : ByteArray → Int → Int → Option R) : Option R :=
 guardB (frameOk 19 [0, 1, 5] E) <| atStr E 0 fun w_1 => atInt E 1 .u8 fun x_2 => atInt E 5 .i64 fun x_3 => asEnd s <| k w_1 x_2 x_3
theorem i_zag_0_spec {R : Type} {E : List V} {s : S} {k : ByteArray → Int → Int → Option R} {r : R} (h : i_zag_0 E s k = some r) : ∃ w_1 x_2 x_3, E = fr_zag_0 w_1 x_2 x_3 ∧ s = [] ∧ k w_1 x_2 x_3 = some r := by
 unfold i_zag_0 at h
 obtain ⟨hg, h1⟩ := guardB_some h
 obtain ⟨_, hu0, h2⟩ := atStr_some h1
 obtain ⟨_, hu1, h3⟩ := atInt_some h2
 obtain ⟨_, hu5, h4⟩ := atInt_some h3
 obtain ⟨rfl, h5⟩ := asEnd_some h4
 exact ⟨_, _, _, frame_is hg rfl (slots_cons hu0 (slots_cons hu1 (slots_cons hu5 slots_nil))), rfl, h5⟩
def Λ_zag_0 (N : Nat) : Looper := (noLooper).add [0, 1, 0, 1] fun _ E s K => i_zag_0 (killE ks_zag_0 E) s fun w_1 x_2 x_3 => l_zag_0 N w_1 x_2 (kk0_zag_0 K w_1 x_2) (kk1_zag_0 K w_1 x_2) N x_3
theorem ok_zag_0 {N : Nat} (hC : Ok Tryz.prog C) (hΦ : CalleeOk Tryz.prog C (Φ_zcb N)) : LoopOk Tryz.prog C (Λ_zag_0 N) b_zag_0 [0, 1, 0, 1] :=
 iter_ok (Λi := noLooper) (tr := false) (ks := ks_zag_0) (kx := kx_zag_0) (N := N) hC hΦ
  (loopsOk_nil (by kernel_rfl))
  fun R E s K r h => by
   have h2 := Looper.add_self.symm.trans h
   obtain ⟨_, _, _, he, rfl, h3⟩ := i_zag_0_spec h2
   rw [he]
   exact (w_zag_0 N _ _ _ N _).trans h3
theorem at_zag : loopsAt c_zag [] = [([0, 1, 0, 1], b_zag_0)] := by kernel_rfl
theorem b_zag {R : Type} (N : Nat) (w_1 : ByteArray) (x_2 : Int) (K : V → S → Option R) : bodyV C (Φ_zcb N) (Λ_zag_0 N) 159 Tryz.f159 [.str w_1, .int .u8 x_2] [] K =
 gb_zag N w_1 x_2 (fun x_3 => K (.int .i64 x_3) []) := by kernel_rfl
theorem loops_zag {N : Nat} (hC : Ok Tryz.prog C) (hΦ : CalleeOk Tryz.prog C (Φ_zcb N)) : LoopsOk Tryz.prog C (Λ_zag_0 N) c_zag [] :=
 loopsOk_of c_zag [] (by
  rw [at_zag]
  intro p hp
  simp only [List.mem_cons, List.mem_nil_iff, or_false] at hp
  rcases hp with rfl
  ·exact (ok_zag_0 hC hΦ))
theorem callee_zag (hC : Ok Tryz.prog C) {N : Nat} (hΦ : CalleeOk Tryz.prog C (Φ_zcb N)) : CalleeOk Tryz.prog C (Φ_zag N) := by
 refine hΦ.add_pure rfl fun R vs K r h => ?_
 unfold f_zag at h
 obtain ⟨_, _, rfl, h1⟩ := asN2_some h
 obtain ⟨_, rfl, h2⟩ := asStr_some h1
 obtain ⟨_, rfl, h3⟩ := asInt_some h2
 obtain ⟨_, h4⟩ := asEnd_some h3
 refine body_pure (fn := Tryz.f159) (c := c_zag) hC hΦ Tryz.func159 (by kernel_rfl) (by kernel_rfl) (loops_zag (N := N) hC hΦ) rfl rfl ?_
 refine (b_zag N _ _ _).trans ?_
 rw [← g_zag_eq]
 exact h4
def f_zas (N : Nat) : (R : Type) → List V → S → (V → S → Option R) → Option R := fun _ vs s K =>
 asN2 vs fun v'1 v'2 => asStr v'1 fun w_1 => asInt .u8 v'2 fun x_2 => asEnd s <| g_zas N w_1 x_2 (fun x_3 => K (.int .i64 x_3) [])
def Φ_zas (N : Nat) : Callee := (Φ_zag N).add 119 (f_zas N)
def c_zas : Code := bodyOf Tryz.f119
theorem b_zas {R : Type} (N : Nat) (w_1 : ByteArray) (x_2 : Int) (K : V → S → Option R) : bodyV C (Φ_zag N) (noLooper) 119 Tryz.f119 [.str w_1, .int .u8 x_2] [] K =
 gb_zas N w_1 x_2 (fun x_3 => K (.int .i64 x_3) []) := by kernel_rfl
theorem callee_zas (hC : Ok Tryz.prog C) {N : Nat} (hΦ : CalleeOk Tryz.prog C (Φ_zag N)) : CalleeOk Tryz.prog C (Φ_zas N) := by
 refine hΦ.add_pure rfl fun R vs K r h => ?_
 unfold f_zas at h
 obtain ⟨_, _, rfl, h1⟩ := asN2_some h
 obtain ⟨_, rfl, h2⟩ := asStr_some h1
 obtain ⟨_, rfl, h3⟩ := asInt_some h2
 obtain ⟨_, h4⟩ := asEnd_some h3
 refine body_pure (fn := Tryz.f119) (c := c_zas) hC hΦ Tryz.func119 (by kernel_rfl) (by kernel_rfl) (loopsOk_nil (Λ := noLooper) (by kernel_rfl)) rfl rfl ?_
 refine (b_zas N _ _ _).trans ?_
 rw [← g_zas_eq]
 exact h4
def f_zat (N : Nat) : (R : Type) → List V → S → (V → S → Option R) → Option R := fun _ vs s K =>
 asN2 vs fun v'1 v'2 => asStr v'1 fun w_1 => asInt .u8 v'2 fun x_2 => asEnd s <| g_zat N w_1 x_2 (fun w_3 => K (.str w_3) [])
def Φ_zat (N : Nat) : Callee := (Φ_zas N).add 161 (f_zat N)
def c_zat : Code := bodyOf Tryz.f161
def b_zat_0 : Code := (loopNo c_zat [] 0).2
def ks_zat_0 : List Nat := butL 23 [0, 1]
def kx_zat_0 : List Nat := butL 23 [0]
def fr_zat_0 (x_2 : Int) (w_1 : ByteArray) : List V := mkF 0 23 [(0, .str w_1), (1, .int .u8 x_2)]
def kk0_zat_0 {R : Type} (K : X → List V → S → Option R) (x_2 : Int) : ByteArray → Option R := (fun w_1' => K (.exit 0) (mkF 0 23 [(0, .str (w_1'))]) [])
abbrev it_zat_0 {R : Type} (N : Nat) : Nat → List V → S → (X → List V → S → Option R) → Option R := fun n => iter C (Φ_zas N) (noLooper) b_zat_0 [0, 0, 1] false ks_zat_0 kx_zat_0 n R
theorem r_zat_0 {R : Type} (N n : Nat) (x_2 : Int) (w_1 : ByteArray) (K : X → List V → S → Option R) :
 it_zat_0 N (n + 1) (fr_zat_0 x_2 w_1) [] K =
 l_zat_0_step N x_2 (fun w_1 => it_zat_0 N n (fr_zat_0 x_2 w_1) [] K) w_1 (kk0_zat_0 K x_2) := by kernel_rfl
theorem w_zat_0 {R : Type} (N : Nat) (x_2 : Int) (K : X → List V → S → Option R) : ∀ (n : Nat) (w_1 : ByteArray),
 it_zat_0 N n (fr_zat_0 x_2 w_1) [] K = l_zat_0 N x_2 (kk0_zat_0 K x_2) n w_1
 | 0, _ => rfl
 | n + 1, w_1 => (r_zat_0 N n x_2 w_1 K).trans (congrArg (fun nx => l_zat_0_step N x_2 nx w_1 (kk0_zat_0 K x_2)) (funext fun w_1 => w_zat_0 N x_2 K n w_1))
def i_zat_0 {R : Type} (E : List V) (s : S) (k : ByteArray → Int → Option R) : Option R :=
 guardB (frameOk 23 [0, 1] E) <| atStr E 0 fun w_1 => atInt E 1 .u8 fun x_2 => asEnd s <| k w_1 x_2
theorem i_zat_0_spec {R : Type} {E : List V} {s : S} {k : ByteArray → Int → Option R} {r : R} (h : i_zat_0 E s k = some r) : ∃ w_1 x_2, E = fr_zat_0 x_2 w_1 ∧ s = [] ∧ k w_1 x_2 = some r := by
 unfold i_zat_0 at h
 obtain ⟨hg, h1⟩ := guardB_some h
 obtain ⟨_, hu0, h2⟩ := atStr_some h1
 obtain ⟨_, hu1, h3⟩ := atInt_some h2
 obtain ⟨rfl, h4⟩ := asEnd_some h3
 exact ⟨_, _, frame_is hg rfl (slots_cons hu0 (slots_cons hu1 slots_nil)), rfl, h4⟩
def Λ_zat_0 (N : Nat) : Looper := (noLooper).add [0, 0, 1] fun _ E s K => i_zat_0 (killE ks_zat_0 E) s fun w_1 x_2 => l_zat_0 N x_2 (kk0_zat_0 K x_2) N w_1
theorem ok_zat_0 {N : Nat} (hC : Ok Tryz.prog C) (hΦ : CalleeOk Tryz.prog C (Φ_zas N)) : LoopOk Tryz.prog C (Λ_zat_0 N) b_zat_0 [0, 0, 1] :=
 iter_ok (Λi := noLooper) (tr := false) (ks := ks_zat_0) (kx := kx_zat_0) (N := N) hC hΦ
  (loopsOk_nil (by kernel_rfl))
  fun R E s K r h => by
   have h2 := Looper.add_self.symm.trans h
   obtain ⟨_, _, he, rfl, h3⟩ := i_zat_0_spec h2
   rw [he]
   exact (w_zat_0 N _ _ N _).trans h3
theorem at_zat : loopsAt c_zat [] = [([0, 0, 1], b_zat_0)] := by kernel_rfl
theorem b_zat {R : Type} (N : Nat) (w_1 : ByteArray) (x_2 : Int) (K : V → S → Option R) : bodyV C (Φ_zas N) (Λ_zat_0 N) 161 Tryz.f161 [.str w_1, .int .u8 x_2] [] K =
 gb_zat N w_1 x_2 (fun w_3 => K (.str w_3) []) := by kernel_rfl
theorem loops_zat {N : Nat} (hC : Ok Tryz.prog C) (hΦ : CalleeOk Tryz.prog C (Φ_zas N)) : LoopsOk Tryz.prog C (Λ_zat_0 N) c_zat [] :=
 loopsOk_of c_zat [] (by
  rw [at_zat]
  intro p hp
  simp only [List.mem_cons, List.mem_nil_iff, or_false] at hp
  rcases hp with rfl
  ·exact (ok_zat_0 hC hΦ))
theorem callee_zat (hC : Ok Tryz.prog C) {N : Nat} (hΦ : CalleeOk Tryz.prog C (Φ_zas N)) : CalleeOk Tryz.prog C (Φ_zat N) := by
 refine hΦ.add_pure rfl fun R vs K r h => ?_
 unfold f_zat at h
 obtain ⟨_, _, rfl, h1⟩ := asN2_some h
 obtain ⟨_, rfl, h2⟩ := asStr_some h1
 obtain ⟨_, rfl, h3⟩ := asInt_some h2
 obtain ⟨_, h4⟩ := asEnd_some h3
 refine body_pure (fn := Tryz.f161) (c := c_zat) hC hΦ Tryz.func161 (by kernel_rfl) (by kernel_rfl) (loops_zat (N := N) hC hΦ) rfl rfl ?_
 refine (b_zat N _ _ _).trans ?_
 rw [← g_zat_eq]
 exact h4
def f_zap (N : Nat) : (R : Type) → List V → S → (V → S → Option R) → Option R := fun _ vs s K =>
 asN1 vs fun v'1 => asInt .u8 v'1 fun x_1 => asEnd s <| g_zap N x_1 (fun b_2 => K (.bool b_2) [])
def Φ_zap (N : Nat) : Callee := (Φ_zat N).add 192 (f_zap N)
def c_zap : Code := bodyOf Tryz.f192
theorem b_zap {R : Type} (N : Nat) (x_1 : Int) (K : V → S → Option R) : bodyV C (Φ_zat N) (noLooper) 192 Tryz.f192 [.int .u8 x_1] [] K =
 gb_zap N x_1 (fun b_2 => K (.bool b_2) []) := by kernel_rfl
theorem callee_zap (hC : Ok Tryz.prog C) {N : Nat} (hΦ : CalleeOk Tryz.prog C (Φ_zat N)) : CalleeOk Tryz.prog C (Φ_zap N) := by
 refine hΦ.add_pure rfl fun R vs K r h => ?_
 unfold f_zap at h
 obtain ⟨_, rfl, h1⟩ := asN1_some h
 obtain ⟨_, rfl, h2⟩ := asInt_some h1
 obtain ⟨_, h3⟩ := asEnd_some h2
 refine body_pure (fn := Tryz.f192) (c := c_zap) hC hΦ Tryz.func192 (by kernel_rfl) (by kernel_rfl) (loopsOk_nil (Λ := noLooper) (by kernel_rfl)) rfl rfl ?_
 refine (b_zap N _ _).trans ?_
 rw [← g_zap_eq]
 exact h3
def f_zah (N : Nat) : (R : Type) → List V → S → (V → S → Option R) → Option R := fun _ vs s K =>
 asN1 vs fun v'1 => asStr v'1 fun w_1 => asEnd s <| g_zah N w_1 (fun x_2 x_3 => K (.tuple [.int .i32 x_2, .int .i64 x_3]) [])
def Φ_zah (N : Nat) : Callee := (Φ_zap N).add 183 (f_zah N)
def c_zah : Code := bodyOf Tryz.f183
def b_zah_0 : Code := (loopNo c_zah [] 0).2
def ks_zah_0 : List Nat := butL 51 [0, 4, 5, 6]
def kx_zah_0 : List Nat := butL 51 [0, 4, 5]
def fr_zah_0 (w_1 : ByteArray) (x_2 x_4 x_3 : Int) : List V := mkF 0 51 [(0, .str w_1), (4, .int .i64 x_2), (5, .int .i64 x_3), (6, .int .i64 x_4)]
def kk0_zah_0 {R : Type} (K : X → List V → S → Option R) (w_1 : ByteArray) (x_2 : Int) (x_4 : Int) : Int → Option R := (fun x_1' => K (.exit 0) (mkF 0 51 [(0, .str w_1), (4, .int .i64 x_2), (5, .int .i64 (x_1'))]) [])
abbrev it_zah_0 {R : Type} (N : Nat) : Nat → List V → S → (X → List V → S → Option R) → Option R := fun n => iter C (Φ_zap N) (noLooper) b_zah_0 [0, 1, 0, 1, 1, 1, 1, 1, 1, 1] false ks_zah_0 kx_zah_0 n R
theorem r_zah_0 {R : Type} (N n : Nat) (w_1 : ByteArray) (x_2 x_4 : Int) (x_3 : Int) (K : X → List V → S → Option R) :
 it_zah_0 N (n + 1) (fr_zah_0 w_1 x_2 x_4 x_3) [] K =
 l_zah_0_step N w_1 x_2 x_4 (fun x_3 => it_zah_0 N n (fr_zah_0 w_1 x_2 x_4 x_3) [] K) x_3 (kk0_zah_0 K w_1 x_2 x_4) := by kernel_rfl
theorem w_zah_0 {R : Type} (N : Nat) (w_1 : ByteArray) (x_2 x_4 : Int) (K : X → List V → S → Option R) : ∀ (n : Nat) (x_3 : Int),
 it_zah_0 N n (fr_zah_0 w_1 x_2 x_4 x_3) [] K = l_zah_0 N w_1 x_2 x_4 (kk0_zah_0 K w_1 x_2 x_4) n x_3
 | 0, _ => rfl
 | n + 1, x_3 => (r_zah_0 N n w_1 x_2 x_4 x_3 K).trans (congrArg (fun nx => l_zah_0_step N w_1 x_2 x_4 nx x_3 (kk0_zah_0 K w_1 x_2 x_4)) (funext fun x_3 => w_zah_0 N w_1 x_2 x_4 K n x_3))
def i_zah_0 {R : Type} (E : List V) (s : S) (k : ByteArray → Int → Int → Int → Option R) : Option R :=
 guardB (frameOk 51 [0, 4, 5, 6] E) <| atStr E 0 fun w_1 => atInt E 4 .i64 fun x_2 => atInt E 5 .i64 fun x_3 => atInt E 6 .i64 fun x_4 => asEnd s <| k w_1 x_2 x_3 x_4
theorem i_zah_0_spec {R : Type} {E : List V} {s : S} {k : ByteArray → Int → Int → Int → Option R} {r : R} (h : i_zah_0 E s k = some r) : ∃ w_1 x_2 x_3 x_4, E = fr_zah_0 w_1 x_2 x_4 x_3 ∧ s = [] ∧ k w_1 x_2 x_3 x_4 = some r := by
 unfold i_zah_0 at h
 obtain ⟨hg, h1⟩ := guardB_some h
 obtain ⟨_, hu0, h2⟩ := atStr_some h1
 obtain ⟨_, hu4, h3⟩ := atInt_some h2
 obtain ⟨_, hu5, h4⟩ := atInt_some h3
 obtain ⟨_, hu6, h5⟩ := atInt_some h4
 obtain ⟨rfl, h6⟩ := asEnd_some h5
 exact ⟨_, _, _, _, frame_is hg rfl (slots_cons hu0 (slots_cons hu4 (slots_cons hu5 (slots_cons hu6 slots_nil)))), rfl, h6⟩
def Λ_zah_0 (N : Nat) : Looper := (noLooper).add [0, 1, 0, 1, 1, 1, 1, 1, 1, 1] fun _ E s K => i_zah_0 (killE ks_zah_0 E) s fun w_1 x_2 x_3 x_4 => l_zah_0 N w_1 x_2 x_4 (kk0_zah_0 K w_1 x_2 x_4) N x_3
theorem ok_zah_0 {N : Nat} (hC : Ok Tryz.prog C) (hΦ : CalleeOk Tryz.prog C (Φ_zap N)) : LoopOk Tryz.prog C (Λ_zah_0 N) b_zah_0 [0, 1, 0, 1, 1, 1, 1, 1, 1, 1] :=
 iter_ok (Λi := noLooper) (tr := false) (ks := ks_zah_0) (kx := kx_zah_0) (N := N) hC hΦ
  (loopsOk_nil (by kernel_rfl))
  fun R E s K r h => by
   have h2 := Looper.add_self.symm.trans h
   obtain ⟨_, _, _, _, he, rfl, h3⟩ := i_zah_0_spec h2
   rw [he]
   exact (w_zah_0 N _ _ _ _ N _).trans h3
theorem at_zah : loopsAt c_zah [] = [([0, 1, 0, 1, 1, 1, 1, 1, 1, 1], b_zah_0)] := by kernel_rfl
theorem b_zah {R : Type} (N : Nat) (w_1 : ByteArray) (K : V → S → Option R) : bodyV C (Φ_zap N) (Λ_zah_0 N) 183 Tryz.f183 [.str w_1] [] K =
 gb_zah N w_1 (fun x_2 x_3 => K (.tuple [.int .i32 x_2, .int .i64 x_3]) []) := by kernel_rfl
theorem loops_zah {N : Nat} (hC : Ok Tryz.prog C) (hΦ : CalleeOk Tryz.prog C (Φ_zap N)) : LoopsOk Tryz.prog C (Λ_zah_0 N) c_zah [] :=
 loopsOk_of c_zah [] (by
  rw [at_zah]
  intro p hp
  simp only [List.mem_cons, List.mem_nil_iff, or_false] at hp
  rcases hp with rfl
  ·exact (ok_zah_0 hC hΦ))
theorem callee_zah (hC : Ok Tryz.prog C) {N : Nat} (hΦ : CalleeOk Tryz.prog C (Φ_zap N)) : CalleeOk Tryz.prog C (Φ_zah N) := by
 refine hΦ.add_pure rfl fun R vs K r h => ?_
 unfold f_zah at h
 obtain ⟨_, rfl, h1⟩ := asN1_some h
 obtain ⟨_, rfl, h2⟩ := asStr_some h1
 obtain ⟨_, h3⟩ := asEnd_some h2
 refine body_pure (fn := Tryz.f183) (c := c_zah) hC hΦ Tryz.func183 (by kernel_rfl) (by kernel_rfl) (loops_zah (N := N) hC hΦ) rfl rfl ?_
 refine (b_zah N _ _).trans ?_
 rw [← g_zah_eq]
 exact h3
def f_zav (N : Nat) : (R : Type) → List V → S → (V → S → Option R) → Option R := fun _ vs s K =>
 asN2 vs fun v'1 v'2 => asStr v'1 fun w_1 => asInt .u8 v'2 fun x_2 => asEnd s <| g_zav N w_1 x_2 (fun x_3 => K (.int .i64 x_3) [])
def Φ_zav (N : Nat) : Callee := (Φ_zah N).add 201 (f_zav N)
def c_zav : Code := bodyOf Tryz.f201
theorem b_zav {R : Type} (N : Nat) (w_1 : ByteArray) (x_2 : Int) (K : V → S → Option R) : bodyV C (Φ_zah N) (noLooper) 201 Tryz.f201 [.str w_1, .int .u8 x_2] [] K =
 gb_zav N w_1 x_2 (fun x_3 => K (.int .i64 x_3) []) := by kernel_rfl
theorem callee_zav (hC : Ok Tryz.prog C) {N : Nat} (hΦ : CalleeOk Tryz.prog C (Φ_zah N)) : CalleeOk Tryz.prog C (Φ_zav N) := by
 refine hΦ.add_pure rfl fun R vs K r h => ?_
 unfold f_zav at h
 obtain ⟨_, _, rfl, h1⟩ := asN2_some h
 obtain ⟨_, rfl, h2⟩ := asStr_some h1
 obtain ⟨_, rfl, h3⟩ := asInt_some h2
 obtain ⟨_, h4⟩ := asEnd_some h3
 refine body_pure (fn := Tryz.f201) (c := c_zav) hC hΦ Tryz.func201 (by kernel_rfl) (by kernel_rfl) (loopsOk_nil (Λ := noLooper) (by kernel_rfl)) rfl rfl ?_
 refine (b_zav N _ _ _).trans ?_
 rw [← g_zav_eq]
 exact h4
def f_zaq (N : Nat) : (R : Type) → List V → S → (V → S → Option R) → Option R := fun _ vs s K =>
 asN1 vs fun v'1 => asInt .i32 v'1 fun x_1 => asEnd s <| g_zaq N x_1 (fun b_2 => K (.bool b_2) [])
def Φ_zaq (N : Nat) : Callee := (Φ_zav N).add 202 (f_zaq N)
def c_zaq : Code := bodyOf Tryz.f202
theorem b_zaq {R : Type} (N : Nat) (x_1 : Int) (K : V → S → Option R) : bodyV C (Φ_zav N) (noLooper) 202 Tryz.f202 [.int .i32 x_1] [] K =
 gb_zaq N x_1 (fun b_2 => K (.bool b_2) []) := by kernel_rfl
theorem callee_zaq (hC : Ok Tryz.prog C) {N : Nat} (hΦ : CalleeOk Tryz.prog C (Φ_zav N)) : CalleeOk Tryz.prog C (Φ_zaq N) := by
 refine hΦ.add_pure rfl fun R vs K r h => ?_
 unfold f_zaq at h
 obtain ⟨_, rfl, h1⟩ := asN1_some h
 obtain ⟨_, rfl, h2⟩ := asInt_some h1
 obtain ⟨_, h3⟩ := asEnd_some h2
 refine body_pure (fn := Tryz.f202) (c := c_zaq) hC hΦ Tryz.func202 (by kernel_rfl) (by kernel_rfl) (loopsOk_nil (Λ := noLooper) (by kernel_rfl)) rfl rfl ?_
 refine (b_zaq N _ _).trans ?_
 rw [← g_zaq_eq]
 exact h3
def f_zaw (N : Nat) : (R : Type) → List V → S → (V → S → Option R) → Option R := fun _ vs s K =>
 asN2 vs fun v'1 v'2 => asStr v'1 fun w_1 => asStr v'2 fun w_2 => asEnd s <| g_zaw N w_1 w_2 (fun w_3 => K (.str w_3) [])
def Φ_zaw (N : Nat) : Callee := (Φ_zaq N).add 121 (f_zaw N)
def c_zaw : Code := bodyOf Tryz.f121
theorem b_zaw {R : Type} (N : Nat) (w_1 w_2 : ByteArray) (K : V → S → Option R) : bodyV C (Φ_zaq N) (noLooper) 121 Tryz.f121 [.str w_1, .str w_2] [] K =
 gb_zaw N w_1 w_2 (fun w_3 => K (.str w_3) []) := by kernel_rfl
theorem callee_zaw (hC : Ok Tryz.prog C) {N : Nat} (hΦ : CalleeOk Tryz.prog C (Φ_zaq N)) : CalleeOk Tryz.prog C (Φ_zaw N) := by
 refine hΦ.add_pure rfl fun R vs K r h => ?_
 unfold f_zaw at h
 obtain ⟨_, _, rfl, h1⟩ := asN2_some h
 obtain ⟨_, rfl, h2⟩ := asStr_some h1
 obtain ⟨_, rfl, h3⟩ := asStr_some h2
 obtain ⟨_, h4⟩ := asEnd_some h3
 refine body_pure (fn := Tryz.f121) (c := c_zaw) hC hΦ Tryz.func121 (by kernel_rfl) (by kernel_rfl) (loopsOk_nil (Λ := noLooper) (by kernel_rfl)) rfl rfl ?_
 refine (b_zaw N _ _ _).trans ?_
 rw [← g_zaw_eq]
 exact h4
def f_zbp (N : Nat) : (R : Type) → List V → S → (V → S → Option R) → Option R := fun _ vs s K =>
 asN3 vs fun v'1 v'2 v'3 => un_impl_Fs v'1 fun e_1 f_2 x_3 => un_impl_Cred v'2 fun x_4 x_5 => asStr v'3 fun w_6 => asEnd s <| g_zbp N e_1 f_2 x_3 x_4 x_5 w_6 (fun x_7 w_8 x_9 => K (.tuple [.int .i64 x_7, .str w_8, .int .i64 x_9]) [])
def Φ_zbp (N : Nat) : Callee := (Φ_zaw N).add 71 (f_zbp N)
def c_zbp : Code := bodyOf Tryz.f71
theorem b_zbp {R : Type} (N : Nat) (e_1 : List V) (f_2 : Fl) (x_3 x_4 x_5 : Int) (w_6 : ByteArray) (K : V → S → Option R) : bodyV C (Φ_zaw N) (noLooper) 71 Tryz.f71 [.agg [.list 7 e_1 f_2, .int .i64 x_3], .agg [.int .i64 x_4, .int .i64 x_5], .str w_6] [] K =
 gb_zbp N e_1 f_2 x_3 x_4 x_5 w_6 (fun x_7 w_8 x_9 => K (.tuple [.int .i64 x_7, .str w_8, .int .i64 x_9]) []) := by kernel_rfl
theorem callee_zbp (hC : Ok Tryz.prog C) {N : Nat} (hΦ : CalleeOk Tryz.prog C (Φ_zaw N)) : CalleeOk Tryz.prog C (Φ_zbp N) := by
 refine hΦ.add_pure rfl fun R vs K r h => ?_
 unfold f_zbp at h
 obtain ⟨_, _, _, rfl, h1⟩ := asN3_some h
 obtain ⟨_, _, _, rfl, h2⟩ := un_impl_Fs_some h1
 obtain ⟨_, _, rfl, h3⟩ := un_impl_Cred_some h2
 obtain ⟨_, rfl, h4⟩ := asStr_some h3
 obtain ⟨_, h5⟩ := asEnd_some h4
 refine body_pure (fn := Tryz.f71) (c := c_zbp) hC hΦ Tryz.func71 (by kernel_rfl) (by kernel_rfl) (loopsOk_nil (Λ := noLooper) (by kernel_rfl)) rfl rfl ?_
 refine (b_zbp N _ _ _ _ _ _ _).trans ?_
 rw [← g_zbp_eq]
 exact h5
def f_zbd (N : Nat) : (R : Type) → List V → S → (V → S → Option R) → Option R := fun _ vs s K =>
 asN3 vs fun v'1 v'2 v'3 => un_impl_Fs v'1 fun e_1 f_2 x_3 => un_impl_Cred v'2 fun x_4 x_5 => asStr v'3 fun w_6 => asEnd s <| g_zbd N e_1 f_2 x_3 x_4 x_5 w_6 (fun x_7 w_8 x_9 b_10 => K (.tuple [.int .i64 x_7, .str w_8, .int .i64 x_9, .bool b_10]) [])
def Φ_zbd (N : Nat) : Callee := (Φ_zbp N).add 39 (f_zbd N)
def c_zbd : Code := bodyOf Tryz.f39
theorem b_zbd {R : Type} (N : Nat) (e_1 : List V) (f_2 : Fl) (x_3 x_4 x_5 : Int) (w_6 : ByteArray) (K : V → S → Option R) : bodyV C (Φ_zbp N) (noLooper) 39 Tryz.f39 [.agg [.list 7 e_1 f_2, .int .i64 x_3], .agg [.int .i64 x_4, .int .i64 x_5], .str w_6] [] K =
 gb_zbd N e_1 f_2 x_3 x_4 x_5 w_6 (fun x_7 w_8 x_9 b_10 => K (.tuple [.int .i64 x_7, .str w_8, .int .i64 x_9, .bool b_10]) []) := by kernel_rfl
theorem callee_zbd (hC : Ok Tryz.prog C) {N : Nat} (hΦ : CalleeOk Tryz.prog C (Φ_zbp N)) : CalleeOk Tryz.prog C (Φ_zbd N) := by
 refine hΦ.add_pure rfl fun R vs K r h => ?_
 unfold f_zbd at h
 obtain ⟨_, _, _, rfl, h1⟩ := asN3_some h
 obtain ⟨_, _, _, rfl, h2⟩ := un_impl_Fs_some h1
 obtain ⟨_, _, rfl, h3⟩ := un_impl_Cred_some h2
 obtain ⟨_, rfl, h4⟩ := asStr_some h3
 obtain ⟨_, h5⟩ := asEnd_some h4
 refine body_pure (fn := Tryz.f39) (c := c_zbd) hC hΦ Tryz.func39 (by kernel_rfl) (by kernel_rfl) (loopsOk_nil (Λ := noLooper) (by kernel_rfl)) rfl rfl ?_
 refine (b_zbd N _ _ _ _ _ _ _).trans ?_
 rw [← g_zbd_eq]
 exact h5
def f_zar (N : Nat) : (R : Type) → List V → S → (V → S → Option R) → Option R := fun _ vs s K =>
 asN3 vs fun v'1 v'2 v'3 => un_laws_Fs v'1 fun e_1 f_2 x_3 => un_laws_Cred v'2 fun x_4 x_5 => asStr v'3 fun w_6 => asEnd s <| g_zar N e_1 f_2 x_3 x_4 x_5 w_6 (fun b_7 => K (.bool b_7) [])
def Φ_zar (N : Nat) : Callee := (Φ_zbd N).add 8 (f_zar N)
def c_zar : Code := bodyOf Tryz.f8
theorem b_zar {R : Type} (N : Nat) (e_1 : List V) (f_2 : Fl) (x_3 x_4 x_5 : Int) (w_6 : ByteArray) (K : V → S → Option R) : bodyV C (Φ_zbd N) (noLooper) 8 Tryz.f8 [.agg [.list 7 e_1 f_2, .int .i64 x_3], .agg [.int .i64 x_4, .int .i64 x_5], .str w_6] [] K =
 gb_zar N e_1 f_2 x_3 x_4 x_5 w_6 (fun b_7 => K (.bool b_7) []) := by kernel_rfl
theorem callee_zar (hC : Ok Tryz.prog C) {N : Nat} (hΦ : CalleeOk Tryz.prog C (Φ_zbd N)) : CalleeOk Tryz.prog C (Φ_zar N) := by
 refine hΦ.add_pure rfl fun R vs K r h => ?_
 unfold f_zar at h
 obtain ⟨_, _, _, rfl, h1⟩ := asN3_some h
 obtain ⟨_, _, _, rfl, h2⟩ := un_laws_Fs_some h1
 obtain ⟨_, _, rfl, h3⟩ := un_laws_Cred_some h2
 obtain ⟨_, rfl, h4⟩ := asStr_some h3
 obtain ⟨_, h5⟩ := asEnd_some h4
 refine body_pure (fn := Tryz.f8) (c := c_zar) hC hΦ Tryz.func8 (by kernel_rfl) (by kernel_rfl) (loopsOk_nil (Λ := noLooper) (by kernel_rfl)) rfl rfl ?_
 refine (b_zar N _ _ _ _ _ _ _).trans ?_
 rw [← g_zar_eq]
 exact h5
theorem callee_zar_prev (hC : Ok Tryz.prog C) (N : Nat) : CalleeOk Tryz.prog C (Φ_zbd N) :=
 have h0 := noCallee_ok Tryz.prog C
 have h1 := callee_zch hC (N := N) h0
 have h2 := callee_zbu hC (N := N) h1
 have h3 := callee_zdd hC (N := N) h2
 have h4 := callee_zci hC (N := N) h3
 have h5 := callee_zdv hC (N := N) h4
 have h6 := callee_zcj hC (N := N) h5
 have h7 := callee_zbv hC (N := N) h6
 have h8 := callee_zdf hC (N := N) h7
 have h9 := callee_zck hC (N := N) h8
 have h10 := callee_zdw hC (N := N) h9
 have h11 := callee_zde hC (N := N) h10
 have h12 := callee_zcf hC (N := N) h11
 have h13 := callee_zbt hC (N := N) h12
 have h14 := callee_zdc hC (N := N) h13
 have h15 := callee_zcg hC (N := N) h14
 have h16 := callee_zdu hC (N := N) h15
 have h17 := callee_zdo hC (N := N) h16
 have h18 := callee_zdx hC (N := N) h17
 have h19 := callee_zcp hC (N := N) h18
 have h20 := callee_zdh hC (N := N) h19
 have h21 := callee_zcl hC (N := N) h20
 have h22 := callee_zcn hC (N := N) h21
 have h23 := callee_zdj hC (N := N) h22
 have h24 := callee_zdk hC (N := N) h23
 have h25 := callee_zbj hC (N := N) h24
 have h26 := callee_zdm hC (N := N) h25
 have h27 := callee_zdq hC (N := N) h26
 have h28 := callee_zdr hC (N := N) h27
 have h29 := callee_zcq hC (N := N) h28
 have h30 := callee_zdl hC (N := N) h29
 have h31 := callee_zdg hC (N := N) h30
 have h32 := callee_zcs hC (N := N) h31
 have h33 := callee_zco hC (N := N) h32
 have h34 := callee_zdp hC (N := N) h33
 have h35 := callee_zds hC (N := N) h34
 have h36 := callee_zbw hC (N := N) h35
 have h37 := callee_zdy hC (N := N) h36
 have h38 := callee_zbx hC (N := N) h37
 have h39 := callee_zdn hC (N := N) h38
 have h40 := callee_zcm hC (N := N) h39
 have h41 := callee_zdi hC (N := N) h40
 have h42 := callee_zcr hC (N := N) h41
 have h43 := callee_zct hC (N := N) h42
 have h44 := callee_zbi hC (N := N) h43
 have h45 := callee_zdb hC (N := N) h44
 have h46 := callee_zcz hC (N := N) h45
 have h47 := callee_zcx hC (N := N) h46
 have h48 := callee_zcv hC (N := N) h47
 have h49 := callee_zbb hC (N := N) h48
 have h50 := callee_zbh hC (N := N) h49
 have h51 := callee_zaf hC (N := N) h50
 have h52 := callee_zae hC (N := N) h51
 have h53 := callee_zcy hC (N := N) h52
 have h54 := callee_zbr hC (N := N) h53
 have h55 := callee_zdt hC (N := N) h54
 have h56 := callee_zai hC (N := N) h55
 have h57 := callee_zak hC (N := N) h56
 have h58 := callee_zan hC (N := N) h57
 have h59 := callee_zbz hC (N := N) h58
 have h60 := callee_zal hC (N := N) h59
 have h61 := callee_zby hC (N := N) h60
 have h62 := callee_zay hC (N := N) h61
 have h63 := callee_zca hC (N := N) h62
 have h64 := callee_zbc hC (N := N) h63
 have h65 := callee_zac hC (N := N) h64
 have h66 := callee_zab hC (N := N) h65
 have h67 := callee_zce hC (N := N) h66
 have h68 := callee_zbg hC (N := N) h67
 have h69 := callee_zad hC (N := N) h68
 have h70 := callee_zaa hC (N := N) h69
 have h71 := callee_zcw hC (N := N) h70
 have h72 := callee_zbs hC (N := N) h71
 have h73 := callee_zax hC (N := N) h72
 have h74 := callee_zda hC (N := N) h73
 have h75 := callee_zba hC (N := N) h74
 have h76 := callee_zbe hC (N := N) h75
 have h77 := callee_zaz hC (N := N) h76
 have h78 := callee_zbn hC (N := N) h77
 have h79 := callee_zcu hC (N := N) h78
 have h80 := callee_zbq hC (N := N) h79
 have h81 := callee_zcc hC (N := N) h80
 have h82 := callee_zbk hC (N := N) h81
 have h83 := callee_zbo hC (N := N) h82
 have h84 := callee_zcd hC (N := N) h83
 have h85 := callee_zaj hC (N := N) h84
 have h86 := callee_zau hC (N := N) h85
 have h87 := callee_zbm hC (N := N) h86
 have h88 := callee_zbf hC (N := N) h87
 have h89 := callee_zbl hC (N := N) h88
 have h90 := callee_zao hC (N := N) h89
 have h91 := callee_zam hC (N := N) h90
 have h92 := callee_zcb hC (N := N) h91
 have h93 := callee_zag hC (N := N) h92
 have h94 := callee_zas hC (N := N) h93
 have h95 := callee_zat hC (N := N) h94
 have h96 := callee_zap hC (N := N) h95
 have h97 := callee_zah hC (N := N) h96
 have h98 := callee_zav hC (N := N) h97
 have h99 := callee_zaq hC (N := N) h98
 have h100 := callee_zaw hC (N := N) h99
 have h101 := callee_zbp hC (N := N) h100
 have h102 := callee_zbd hC (N := N) h101
 h102
end
end Go.VM.VL
