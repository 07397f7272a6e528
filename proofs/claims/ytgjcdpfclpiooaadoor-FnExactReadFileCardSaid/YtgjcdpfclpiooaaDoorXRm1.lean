/- The functions of the program, told plainly: what each computes, as a function of its letters; and that the machine does the same. Printed by vgen.py, a program of this session's own. -/
import Derived.Test.YtgjcdpfclpiooaaDoorXR
import Derived.WalkKit
import Derived.Lib.Walk
import Derived.Lib.SliceRun
import Derived.Lib.AppendZerosOnto
import Derived.Test.YtgjcdpfclpiooaaDoorProg
import Derived.KernelRfl
set_option linter.unusedVariables false
namespace Go.VM.VL
open Go.Proofs

def rl (t : TypeId) : Bool := [9].any (Nat.beq t)

/-! ## the machine -/
def mode (f : FuncId) : Mode :=
  match [36, 69, 70, 89].any (Nat.beq f) with
  | true => .shared
  | false => match [35, 73].any (Nat.beq f) with
    | true => .own
    | false => .pure
noncomputable abbrev C : Cfg := Cfg.of Tryd.prog 9 mode (fun f => [73].any (Nat.beq f))

/-! ### loop.example/g00756/laws.szEntry -/
noncomputable def f_laws_szEntry (N : Nat) : (R : Type) → List V → S → (V → S → Option R) → Option R := fun _ vs s K =>
  asN2 vs fun v'1 v'2 => un_laws_Entry v'1 fun w_1 x_2 => asInt .i64 v'2 fun x_3 => asEnd s <| g_laws_szEntry N w_1 x_2 x_3 (fun x_4 => K (.int .i64 x_4) [])
noncomputable def Φ_laws_szEntry (N : Nat) : Callee := (noCallee).add 76 (f_laws_szEntry N)
noncomputable def c_laws_szEntry : Code := bodyOf Tryd.f76
theorem b_laws_szEntry {R : Type} (N : Nat) (w_1 : ByteArray) (x_2 x_3 : Int) (K : V → S → Option R) : bodyV C (noCallee) (noLooper) 76 Tryd.f76 [.agg [.str w_1, .int .i64 x_2], .int .i64 x_3] [] K =
  gb_laws_szEntry N w_1 x_2 x_3 (fun x_4 => K (.int .i64 x_4) []) := by kernel_rfl
theorem callee_laws_szEntry (hC : Ok Tryd.prog C) {N : Nat} (hΦ : CalleeOk Tryd.prog C (noCallee)) : CalleeOk Tryd.prog C (Φ_laws_szEntry N) := by
  refine hΦ.add_pure rfl fun R vs K r h => ?_
  unfold f_laws_szEntry at h
  obtain ⟨_, _, rfl, h1⟩ := asN2_some h
  obtain ⟨_, _, rfl, h2⟩ := un_laws_Entry_some h1
  obtain ⟨_, rfl, h3⟩ := asInt_some h2
  obtain ⟨_, h4⟩ := asEnd_some h3
  refine body_pure (fn := Tryd.f76) (c := c_laws_szEntry) hC hΦ Tryd.func76 (by kernel_rfl) (by kernel_rfl) (loopsOk_nil (Λ := noLooper) (by kernel_rfl)) rfl rfl ?_
  refine (b_laws_szEntry N _ _ _ _).trans ?_
  rw [← g_laws_szEntry_eq]
  exact h4

/-! ### loop.example/g00756/laws.szEntryS -/
noncomputable def f_laws_szEntryS (N : Nat) : (R : Type) → List V → S → (V → S → Option R) → Option R := fun _ vs s K =>
  asN2 vs fun v'1 v'2 => asList 2 v'1 fun e_1 f_2 => asInt .i64 v'2 fun x_3 => asEnd s <| g_laws_szEntryS N e_1 f_2 x_3 (fun x_4 => K (.int .i64 x_4) [])
noncomputable def Φ_laws_szEntryS (N : Nat) : Callee := (Φ_laws_szEntry N).add 51 (f_laws_szEntryS N)
noncomputable def c_laws_szEntryS : Code := bodyOf Tryd.f51
noncomputable def b_laws_szEntryS_0 : Code := (loopNo c_laws_szEntryS [] 0).2
def ks_laws_szEntryS_0 : List Nat := butL 27 [0, 1, 5]
def kx_laws_szEntryS_0 : List Nat := butL 27 [1, 4]
def fr_laws_szEntryS_0 (e_1 : List V) (f_2 : Fl) (x_3 x_4 : Int) : List V := mkF 0 27 [(0, .list 2 e_1 f_2), (1, .int .i64 x_3), (5, .int .i64 x_4)]
def kk0_laws_szEntryS_0 {R : Type} (K : X → List V → S → Option R) (e_1 : List V) (f_2 : Fl) : Int → Option R := (fun x_1' => K .ret (mkF 0 27 [(1, .int .i64 (x_1')), (4, .int .i64 (-1))]) [])
def kk1_laws_szEntryS_0 {R : Type} (K : X → List V → S → Option R) (e_1 : List V) (f_2 : Fl) : Int → Option R := (fun x_1' => K (.exit 0) (mkF 0 27 [(1, .int .i64 (x_1'))]) [])
noncomputable abbrev it_laws_szEntryS_0 {R : Type} (N : Nat) : Nat → List V → S → (X → List V → S → Option R) → Option R := fun n => iter C (Φ_laws_szEntry N) (noLooper) b_laws_szEntryS_0 [0, 1, 0, 1, 1, 1] false ks_laws_szEntryS_0 kx_laws_szEntryS_0 n R
theorem r_laws_szEntryS_0 {R : Type} (N n : Nat) (e_1 : List V) (f_2 : Fl) (x_3 x_4 : Int) (K : X → List V → S → Option R) :
  it_laws_szEntryS_0 N (n + 1) (fr_laws_szEntryS_0 e_1 f_2 x_3 x_4) [] K =
  l_laws_szEntryS_0_step N e_1 f_2 (fun x_3 x_4 => it_laws_szEntryS_0 N n (fr_laws_szEntryS_0 e_1 f_2 x_3 x_4) [] K) x_3 x_4 (kk0_laws_szEntryS_0 K e_1 f_2) (kk1_laws_szEntryS_0 K e_1 f_2) := by kernel_rfl
theorem w_laws_szEntryS_0 {R : Type} (N : Nat) (e_1 : List V) (f_2 : Fl) (K : X → List V → S → Option R) : ∀ (n : Nat) (x_3 x_4 : Int),
  it_laws_szEntryS_0 N n (fr_laws_szEntryS_0 e_1 f_2 x_3 x_4) [] K = l_laws_szEntryS_0 N e_1 f_2 (kk0_laws_szEntryS_0 K e_1 f_2) (kk1_laws_szEntryS_0 K e_1 f_2) n x_3 x_4
  | 0, _, _ => rfl
  | n + 1, x_3, x_4 => (r_laws_szEntryS_0 N n e_1 f_2 x_3 x_4 K).trans (congrArg (fun nx => l_laws_szEntryS_0_step N e_1 f_2 nx x_3 x_4 (kk0_laws_szEntryS_0 K e_1 f_2) (kk1_laws_szEntryS_0 K e_1 f_2)) (funext fun x_3 => funext fun x_4 => w_laws_szEntryS_0 N e_1 f_2 K n x_3 x_4))
def i_laws_szEntryS_0 {R : Type} (E : List V) (s : S) (k : List V → Fl → Int → Int → Option R) : Option R :=
  guardB (frameOk 27 [0, 1, 5] E) <| atList E 0 2 fun e_1 f_2 => atInt E 1 .i64 fun x_3 => atInt E 5 .i64 fun x_4 => asEnd s <| k e_1 f_2 x_3 x_4
theorem i_laws_szEntryS_0_spec {R : Type} {E : List V} {s : S} {k : List V → Fl → Int → Int → Option R} {r : R} (h : i_laws_szEntryS_0 E s k = some r) : ∃ e_1 f_2 x_3 x_4, E = fr_laws_szEntryS_0 e_1 f_2 x_3 x_4 ∧ s = [] ∧ k e_1 f_2 x_3 x_4 = some r := by
  unfold i_laws_szEntryS_0 at h
  obtain ⟨hg, h1⟩ := guardB_some h
  obtain ⟨_, _, hu0, h2⟩ := atList_some h1
  obtain ⟨_, hu1, h3⟩ := atInt_some h2
  obtain ⟨_, hu5, h4⟩ := atInt_some h3
  obtain ⟨rfl, h5⟩ := asEnd_some h4
  exact ⟨_, _, _, _, frame_is hg rfl (slots_cons hu0 (slots_cons hu1 (slots_cons hu5 slots_nil))), rfl, h5⟩
noncomputable def Λ_laws_szEntryS_0 (N : Nat) : Looper := (noLooper).add [0, 1, 0, 1, 1, 1] fun _ E s K => i_laws_szEntryS_0 (killE ks_laws_szEntryS_0 E) s fun e_1 f_2 x_3 x_4 => l_laws_szEntryS_0 N e_1 f_2 (kk0_laws_szEntryS_0 K e_1 f_2) (kk1_laws_szEntryS_0 K e_1 f_2) N x_3 x_4
theorem ok_laws_szEntryS_0 {N : Nat} (hC : Ok Tryd.prog C) (hΦ : CalleeOk Tryd.prog C (Φ_laws_szEntry N)) : LoopOk Tryd.prog C (Λ_laws_szEntryS_0 N) b_laws_szEntryS_0 [0, 1, 0, 1, 1, 1] :=
  iter_ok (Λi := noLooper) (tr := false) (ks := ks_laws_szEntryS_0) (kx := kx_laws_szEntryS_0) (N := N) hC hΦ
    (loopsOk_nil (by kernel_rfl))
    fun R E s K r h => by
      have h2 := Looper.add_self.symm.trans h
      obtain ⟨_, _, _, _, he, rfl, h3⟩ := i_laws_szEntryS_0_spec h2
      rw [he]
      exact (w_laws_szEntryS_0 N _ _ _ N _ _).trans h3
theorem at_laws_szEntryS : loopsAt c_laws_szEntryS [] = [([0, 1, 0, 1, 1, 1], b_laws_szEntryS_0)] := by kernel_rfl
theorem b_laws_szEntryS {R : Type} (N : Nat) (e_1 : List V) (f_2 : Fl) (x_3 : Int) (K : V → S → Option R) : bodyV C (Φ_laws_szEntry N) (Λ_laws_szEntryS_0 N) 51 Tryd.f51 [.list 2 e_1 f_2, .int .i64 x_3] [] K =
  gb_laws_szEntryS N e_1 f_2 x_3 (fun x_4 => K (.int .i64 x_4) []) := by kernel_rfl
theorem loops_laws_szEntryS {N : Nat} (hC : Ok Tryd.prog C) (hΦ : CalleeOk Tryd.prog C (Φ_laws_szEntry N)) : LoopsOk Tryd.prog C (Λ_laws_szEntryS_0 N) c_laws_szEntryS [] :=
  loopsOk_of c_laws_szEntryS [] (by
    rw [at_laws_szEntryS]
    intro p hp
    simp only [List.mem_cons, List.mem_nil_iff, or_false] at hp
    rcases hp with rfl
    · exact (ok_laws_szEntryS_0 hC hΦ))
theorem callee_laws_szEntryS (hC : Ok Tryd.prog C) {N : Nat} (hΦ : CalleeOk Tryd.prog C (Φ_laws_szEntry N)) : CalleeOk Tryd.prog C (Φ_laws_szEntryS N) := by
  refine hΦ.add_pure rfl fun R vs K r h => ?_
  unfold f_laws_szEntryS at h
  obtain ⟨_, _, rfl, h1⟩ := asN2_some h
  obtain ⟨_, _, rfl, h2⟩ := asList_some h1
  obtain ⟨_, rfl, h3⟩ := asInt_some h2
  obtain ⟨_, h4⟩ := asEnd_some h3
  refine body_pure (fn := Tryd.f51) (c := c_laws_szEntryS) hC hΦ Tryd.func51 (by kernel_rfl) (by kernel_rfl) (loops_laws_szEntryS (N := N) hC hΦ) rfl rfl ?_
  refine (b_laws_szEntryS N _ _ _ _).trans ?_
  rw [← g_laws_szEntryS_eq]
  exact h4

/-! ### loop.example/g00756/laws.szNode -/
noncomputable def f_laws_szNode (N : Nat) : (R : Type) → List V → S → (V → S → Option R) → Option R := fun _ vs s K =>
  asN2 vs fun v'1 v'2 => un_laws_Node v'1 fun x_1 x_2 x_3 x_4 x_5 w_6 e_7 f_8 => asInt .i64 v'2 fun x_9 => asEnd s <| g_laws_szNode N x_1 x_2 x_3 x_4 x_5 w_6 e_7 f_8 x_9 (fun x_10 => K (.int .i64 x_10) [])
noncomputable def Φ_laws_szNode (N : Nat) : Callee := (Φ_laws_szEntryS N).add 31 (f_laws_szNode N)
noncomputable def c_laws_szNode : Code := bodyOf Tryd.f31
theorem b_laws_szNode {R : Type} (N : Nat) (x_1 x_2 x_3 x_4 x_5 : Int) (w_6 : ByteArray) (e_7 : List V) (f_8 : Fl) (x_9 : Int) (K : V → S → Option R) : bodyV C (Φ_laws_szEntryS N) (noLooper) 31 Tryd.f31 [.agg [.int .i64 x_1, .int .i64 x_2, .int .i64 x_3, .int .i64 x_4, .int .i64 x_5, .str w_6, .list 2 e_7 f_8], .int .i64 x_9] [] K =
  gb_laws_szNode N x_1 x_2 x_3 x_4 x_5 w_6 e_7 f_8 x_9 (fun x_10 => K (.int .i64 x_10) []) := by kernel_rfl
theorem callee_laws_szNode (hC : Ok Tryd.prog C) {N : Nat} (hΦ : CalleeOk Tryd.prog C (Φ_laws_szEntryS N)) : CalleeOk Tryd.prog C (Φ_laws_szNode N) := by
  refine hΦ.add_pure rfl fun R vs K r h => ?_
  unfold f_laws_szNode at h
  obtain ⟨_, _, rfl, h1⟩ := asN2_some h
  obtain ⟨_, _, _, _, _, _, _, _, rfl, h2⟩ := un_laws_Node_some h1
  obtain ⟨_, rfl, h3⟩ := asInt_some h2
  obtain ⟨_, h4⟩ := asEnd_some h3
  refine body_pure (fn := Tryd.f31) (c := c_laws_szNode) hC hΦ Tryd.func31 (by kernel_rfl) (by kernel_rfl) (loopsOk_nil (Λ := noLooper) (by kernel_rfl)) rfl rfl ?_
  refine (b_laws_szNode N _ _ _ _ _ _ _ _ _ _).trans ?_
  rw [← g_laws_szNode_eq]
  exact h4

/-! ### loop.example/g00756/laws.szNodeS -/
noncomputable def f_laws_szNodeS (N : Nat) : (R : Type) → List V → S → (V → S → Option R) → Option R := fun _ vs s K =>
  asN2 vs fun v'1 v'2 => asList 7 v'1 fun e_1 f_2 => asInt .i64 v'2 fun x_3 => asEnd s <| g_laws_szNodeS N e_1 f_2 x_3 (fun x_4 => K (.int .i64 x_4) [])
noncomputable def Φ_laws_szNodeS (N : Nat) : Callee := (Φ_laws_szNode N).add 20 (f_laws_szNodeS N)
noncomputable def c_laws_szNodeS : Code := bodyOf Tryd.f20
noncomputable def b_laws_szNodeS_0 : Code := (loopNo c_laws_szNodeS [] 0).2
def ks_laws_szNodeS_0 : List Nat := butL 27 [0, 1, 5]
def kx_laws_szNodeS_0 : List Nat := butL 27 [1, 4]
def fr_laws_szNodeS_0 (e_1 : List V) (f_2 : Fl) (x_3 x_4 : Int) : List V := mkF 0 27 [(0, .list 7 e_1 f_2), (1, .int .i64 x_3), (5, .int .i64 x_4)]
def kk0_laws_szNodeS_0 {R : Type} (K : X → List V → S → Option R) (e_1 : List V) (f_2 : Fl) : Int → Option R := (fun x_1' => K .ret (mkF 0 27 [(1, .int .i64 (x_1')), (4, .int .i64 (-1))]) [])
def kk1_laws_szNodeS_0 {R : Type} (K : X → List V → S → Option R) (e_1 : List V) (f_2 : Fl) : Int → Option R := (fun x_1' => K (.exit 0) (mkF 0 27 [(1, .int .i64 (x_1'))]) [])
noncomputable abbrev it_laws_szNodeS_0 {R : Type} (N : Nat) : Nat → List V → S → (X → List V → S → Option R) → Option R := fun n => iter C (Φ_laws_szNode N) (noLooper) b_laws_szNodeS_0 [0, 1, 0, 1, 1, 1] false ks_laws_szNodeS_0 kx_laws_szNodeS_0 n R
theorem r_laws_szNodeS_0 {R : Type} (N n : Nat) (e_1 : List V) (f_2 : Fl) (x_3 x_4 : Int) (K : X → List V → S → Option R) :
  it_laws_szNodeS_0 N (n + 1) (fr_laws_szNodeS_0 e_1 f_2 x_3 x_4) [] K =
  l_laws_szNodeS_0_step N e_1 f_2 (fun x_3 x_4 => it_laws_szNodeS_0 N n (fr_laws_szNodeS_0 e_1 f_2 x_3 x_4) [] K) x_3 x_4 (kk0_laws_szNodeS_0 K e_1 f_2) (kk1_laws_szNodeS_0 K e_1 f_2) := by kernel_rfl
theorem w_laws_szNodeS_0 {R : Type} (N : Nat) (e_1 : List V) (f_2 : Fl) (K : X → List V → S → Option R) : ∀ (n : Nat) (x_3 x_4 : Int),
  it_laws_szNodeS_0 N n (fr_laws_szNodeS_0 e_1 f_2 x_3 x_4) [] K = l_laws_szNodeS_0 N e_1 f_2 (kk0_laws_szNodeS_0 K e_1 f_2) (kk1_laws_szNodeS_0 K e_1 f_2) n x_3 x_4
  | 0, _, _ => rfl
  | n + 1, x_3, x_4 => (r_laws_szNodeS_0 N n e_1 f_2 x_3 x_4 K).trans (congrArg (fun nx => l_laws_szNodeS_0_step N e_1 f_2 nx x_3 x_4 (kk0_laws_szNodeS_0 K e_1 f_2) (kk1_laws_szNodeS_0 K e_1 f_2)) (funext fun x_3 => funext fun x_4 => w_laws_szNodeS_0 N e_1 f_2 K n x_3 x_4))
def i_laws_szNodeS_0 {R : Type} (E : List V) (s : S) (k : List V → Fl → Int → Int → Option R) : Option R :=
  guardB (frameOk 27 [0, 1, 5] E) <| atList E 0 7 fun e_1 f_2 => atInt E 1 .i64 fun x_3 => atInt E 5 .i64 fun x_4 => asEnd s <| k e_1 f_2 x_3 x_4
theorem i_laws_szNodeS_0_spec {R : Type} {E : List V} {s : S} {k : List V → Fl → Int → Int → Option R} {r : R} (h : i_laws_szNodeS_0 E s k = some r) : ∃ e_1 f_2 x_3 x_4, E = fr_laws_szNodeS_0 e_1 f_2 x_3 x_4 ∧ s = [] ∧ k e_1 f_2 x_3 x_4 = some r := by
  unfold i_laws_szNodeS_0 at h
  obtain ⟨hg, h1⟩ := guardB_some h
  obtain ⟨_, _, hu0, h2⟩ := atList_some h1
  obtain ⟨_, hu1, h3⟩ := atInt_some h2
  obtain ⟨_, hu5, h4⟩ := atInt_some h3
  obtain ⟨rfl, h5⟩ := asEnd_some h4
  exact ⟨_, _, _, _, frame_is hg rfl (slots_cons hu0 (slots_cons hu1 (slots_cons hu5 slots_nil))), rfl, h5⟩
noncomputable def Λ_laws_szNodeS_0 (N : Nat) : Looper := (noLooper).add [0, 1, 0, 1, 1, 1] fun _ E s K => i_laws_szNodeS_0 (killE ks_laws_szNodeS_0 E) s fun e_1 f_2 x_3 x_4 => l_laws_szNodeS_0 N e_1 f_2 (kk0_laws_szNodeS_0 K e_1 f_2) (kk1_laws_szNodeS_0 K e_1 f_2) N x_3 x_4
theorem ok_laws_szNodeS_0 {N : Nat} (hC : Ok Tryd.prog C) (hΦ : CalleeOk Tryd.prog C (Φ_laws_szNode N)) : LoopOk Tryd.prog C (Λ_laws_szNodeS_0 N) b_laws_szNodeS_0 [0, 1, 0, 1, 1, 1] :=
  iter_ok (Λi := noLooper) (tr := false) (ks := ks_laws_szNodeS_0) (kx := kx_laws_szNodeS_0) (N := N) hC hΦ
    (loopsOk_nil (by kernel_rfl))
    fun R E s K r h => by
      have h2 := Looper.add_self.symm.trans h
      obtain ⟨_, _, _, _, he, rfl, h3⟩ := i_laws_szNodeS_0_spec h2
      rw [he]
      exact (w_laws_szNodeS_0 N _ _ _ N _ _).trans h3
theorem at_laws_szNodeS : loopsAt c_laws_szNodeS [] = [([0, 1, 0, 1, 1, 1], b_laws_szNodeS_0)] := by kernel_rfl
theorem b_laws_szNodeS {R : Type} (N : Nat) (e_1 : List V) (f_2 : Fl) (x_3 : Int) (K : V → S → Option R) : bodyV C (Φ_laws_szNode N) (Λ_laws_szNodeS_0 N) 20 Tryd.f20 [.list 7 e_1 f_2, .int .i64 x_3] [] K =
  gb_laws_szNodeS N e_1 f_2 x_3 (fun x_4 => K (.int .i64 x_4) []) := by kernel_rfl
theorem loops_laws_szNodeS {N : Nat} (hC : Ok Tryd.prog C) (hΦ : CalleeOk Tryd.prog C (Φ_laws_szNode N)) : LoopsOk Tryd.prog C (Λ_laws_szNodeS_0 N) c_laws_szNodeS [] :=
  loopsOk_of c_laws_szNodeS [] (by
    rw [at_laws_szNodeS]
    intro p hp
    simp only [List.mem_cons, List.mem_nil_iff, or_false] at hp
    rcases hp with rfl
    · exact (ok_laws_szNodeS_0 hC hΦ))
theorem callee_laws_szNodeS (hC : Ok Tryd.prog C) {N : Nat} (hΦ : CalleeOk Tryd.prog C (Φ_laws_szNode N)) : CalleeOk Tryd.prog C (Φ_laws_szNodeS N) := by
  refine hΦ.add_pure rfl fun R vs K r h => ?_
  unfold f_laws_szNodeS at h
  obtain ⟨_, _, rfl, h1⟩ := asN2_some h
  obtain ⟨_, _, rfl, h2⟩ := asList_some h1
  obtain ⟨_, rfl, h3⟩ := asInt_some h2
  obtain ⟨_, h4⟩ := asEnd_some h3
  refine body_pure (fn := Tryd.f20) (c := c_laws_szNodeS) hC hΦ Tryd.func20 (by kernel_rfl) (by kernel_rfl) (loops_laws_szNodeS (N := N) hC hΦ) rfl rfl ?_
  refine (b_laws_szNodeS N _ _ _ _).trans ?_
  rw [← g_laws_szNodeS_eq]
  exact h4

/-! ### loop.example/g00756/laws.szFs -/
noncomputable def f_laws_szFs (N : Nat) : (R : Type) → List V → S → (V → S → Option R) → Option R := fun _ vs s K =>
  asN2 vs fun v'1 v'2 => un_laws_Fs v'1 fun e_1 f_2 x_3 => asInt .i64 v'2 fun x_4 => asEnd s <| g_laws_szFs N e_1 f_2 x_3 x_4 (fun x_5 => K (.int .i64 x_5) [])
noncomputable def Φ_laws_szFs (N : Nat) : Callee := (Φ_laws_szNodeS N).add 7 (f_laws_szFs N)
noncomputable def c_laws_szFs : Code := bodyOf Tryd.f7
theorem b_laws_szFs {R : Type} (N : Nat) (e_1 : List V) (f_2 : Fl) (x_3 x_4 : Int) (K : V → S → Option R) : bodyV C (Φ_laws_szNodeS N) (noLooper) 7 Tryd.f7 [.agg [.list 7 e_1 f_2, .int .i64 x_3], .int .i64 x_4] [] K =
  gb_laws_szFs N e_1 f_2 x_3 x_4 (fun x_5 => K (.int .i64 x_5) []) := by kernel_rfl
theorem callee_laws_szFs (hC : Ok Tryd.prog C) {N : Nat} (hΦ : CalleeOk Tryd.prog C (Φ_laws_szNodeS N)) : CalleeOk Tryd.prog C (Φ_laws_szFs N) := by
  refine hΦ.add_pure rfl fun R vs K r h => ?_
  unfold f_laws_szFs at h
  obtain ⟨_, _, rfl, h1⟩ := asN2_some h
  obtain ⟨_, _, _, rfl, h2⟩ := un_laws_Fs_some h1
  obtain ⟨_, rfl, h3⟩ := asInt_some h2
  obtain ⟨_, h4⟩ := asEnd_some h3
  refine body_pure (fn := Tryd.f7) (c := c_laws_szFs) hC hΦ Tryd.func7 (by kernel_rfl) (by kernel_rfl) (loopsOk_nil (Λ := noLooper) (by kernel_rfl)) rfl rfl ?_
  refine (b_laws_szFs N _ _ _ _ _).trans ?_
  rw [← g_laws_szFs_eq]
  exact h4

/-! ### loop.example/g00756/laws.toEntry -/
noncomputable def f_laws_toEntry (N : Nat) : (R : Type) → List V → S → (V → S → Option R) → Option R := fun _ vs s K =>
  asN1 vs fun v'1 => un_laws_Entry v'1 fun w_1 x_2 => asEnd s <| g_laws_toEntry N w_1 x_2 (fun w_3 x_4 => K (.agg [.str w_3, .int .i64 x_4]) [])
noncomputable def Φ_laws_toEntry (N : Nat) : Callee := (Φ_laws_szFs N).add 81 (f_laws_toEntry N)
noncomputable def c_laws_toEntry : Code := bodyOf Tryd.f81
theorem b_laws_toEntry {R : Type} (N : Nat) (w_1 : ByteArray) (x_2 : Int) (K : V → S → Option R) : bodyV C (Φ_laws_szFs N) (noLooper) 81 Tryd.f81 [.agg [.str w_1, .int .i64 x_2]] [] K =
  gb_laws_toEntry N w_1 x_2 (fun w_3 x_4 => K (.agg [.str w_3, .int .i64 x_4]) []) := by kernel_rfl
theorem callee_laws_toEntry (hC : Ok Tryd.prog C) {N : Nat} (hΦ : CalleeOk Tryd.prog C (Φ_laws_szFs N)) : CalleeOk Tryd.prog C (Φ_laws_toEntry N) := by
  refine hΦ.add_pure rfl fun R vs K r h => ?_
  unfold f_laws_toEntry at h
  obtain ⟨_, rfl, h1⟩ := asN1_some h
  obtain ⟨_, _, rfl, h2⟩ := un_laws_Entry_some h1
  obtain ⟨_, h3⟩ := asEnd_some h2
  refine body_pure (fn := Tryd.f81) (c := c_laws_toEntry) hC hΦ Tryd.func81 (by kernel_rfl) (by kernel_rfl) (loopsOk_nil (Λ := noLooper) (by kernel_rfl)) rfl rfl ?_
  refine (b_laws_toEntry N _ _ _).trans ?_
  rw [← g_laws_toEntry_eq]
  exact h3

/-! ### loop.example/g00756/laws.toEntryS -/
noncomputable def f_laws_toEntryS (N : Nat) : (R : Type) → List V → S → (V → S → Option R) → Option R := fun _ vs s K =>
  asN1 vs fun v'1 => asList 2 v'1 fun e_1 f_2 => asEnd s <| g_laws_toEntryS N e_1 f_2 (fun e_3 => K (.list 2 e_3 .sh) [])
noncomputable def Φ_laws_toEntryS (N : Nat) : Callee := (Φ_laws_toEntry N).add 61 (f_laws_toEntryS N)
noncomputable def c_laws_toEntryS : Code := bodyOf Tryd.f61
noncomputable def b_laws_toEntryS_0 : Code := (loopNo c_laws_toEntryS [] 0).2
def ks_laws_toEntryS_0 : List Nat := butL 23 [0, 3, 4]
def kx_laws_toEntryS_0 : List Nat := butL 23 [3]
def fr_laws_toEntryS_0 (e_1 : List V) (f_2 : Fl) (k_3 : Nat) (x_4 : Int) (e_5 : List V) : List V := mkF 0 23 [(0, .list 2 e_1 f_2), (3, .arr 0 0 0 k_3), (4, .int .i64 x_4)]
def kk0_laws_toEntryS_0 {R : Type} (K : X → List V → S → Option R) (e_1 : List V) (f_2 : Fl) (k_3 : Nat) : List V → Option R := (fun e_1' => K (.exit 0) (mkF 0 23 [(3, .arr 0 0 0 k_3)]) [some ⟨e_1', 2, 86, 0⟩])
noncomputable abbrev it_laws_toEntryS_0 {R : Type} (N : Nat) : Nat → List V → S → (X → List V → S → Option R) → Option R := fun n => iter C (Φ_laws_toEntry N) (noLooper) b_laws_toEntryS_0 [0, 1, 0, 1, 1] false ks_laws_toEntryS_0 kx_laws_toEntryS_0 n R
theorem r_laws_toEntryS_0 {R : Type} (N n : Nat) (e_1 : List V) (f_2 : Fl) (k_3 : Nat) (x_4 : Int) (e_5 : List V) (K : X → List V → S → Option R) :
  it_laws_toEntryS_0 N (n + 1) (fr_laws_toEntryS_0 e_1 f_2 k_3 x_4 e_5) [some ⟨e_5, 2, 86, 0⟩] K =
  l_laws_toEntryS_0_step N e_1 f_2 k_3 (fun x_4 e_5 => it_laws_toEntryS_0 N n (fr_laws_toEntryS_0 e_1 f_2 k_3 x_4 e_5) [some ⟨e_5, 2, 86, 0⟩] K) x_4 e_5 (kk0_laws_toEntryS_0 K e_1 f_2 k_3) := by kernel_rfl
theorem w_laws_toEntryS_0 {R : Type} (N : Nat) (e_1 : List V) (f_2 : Fl) (k_3 : Nat) (K : X → List V → S → Option R) : ∀ (n : Nat) (x_4 : Int) (e_5 : List V),
  it_laws_toEntryS_0 N n (fr_laws_toEntryS_0 e_1 f_2 k_3 x_4 e_5) [some ⟨e_5, 2, 86, 0⟩] K = l_laws_toEntryS_0 N e_1 f_2 k_3 (kk0_laws_toEntryS_0 K e_1 f_2 k_3) n x_4 e_5
  | 0, _, _ => rfl
  | n + 1, x_4, e_5 => (r_laws_toEntryS_0 N n e_1 f_2 k_3 x_4 e_5 K).trans (congrArg (fun nx => l_laws_toEntryS_0_step N e_1 f_2 k_3 nx x_4 e_5 (kk0_laws_toEntryS_0 K e_1 f_2 k_3)) (funext fun x_4 => funext fun e_5 => w_laws_toEntryS_0 N e_1 f_2 k_3 K n x_4 e_5))
def i_laws_toEntryS_0 {R : Type} (E : List V) (s : S) (k : List V → Fl → Nat → Int → List V → Option R) : Option R :=
  guardB (frameOk 23 [0, 3, 4] E) <| atList E 0 2 fun e_1 f_2 => must (nth E 3) fun u3 => asArr u3 fun k'1 k'2 k'3 k_3 => isN k'1 0 <| isN k'2 0 <| isN k'3 0 <| atInt E 4 .i64 fun x_4 => asOb s fun o'4 s'5 => obIs o'4 2 86 fun e_5 k'6 => isN k'6 0 <| asEnd s'5 <| k e_1 f_2 k_3 x_4 e_5
theorem i_laws_toEntryS_0_spec {R : Type} {E : List V} {s : S} {k : List V → Fl → Nat → Int → List V → Option R} {r : R} (h : i_laws_toEntryS_0 E s k = some r) : ∃ e_1 f_2 k_3 x_4 e_5, E = fr_laws_toEntryS_0 e_1 f_2 k_3 x_4 e_5 ∧ s = [some ⟨e_5, 2, 86, 0⟩] ∧ k e_1 f_2 k_3 x_4 e_5 = some r := by
  unfold i_laws_toEntryS_0 at h
  obtain ⟨hg, h1⟩ := guardB_some h
  obtain ⟨_, _, hu0, h2⟩ := atList_some h1
  obtain ⟨_, hu3, h3⟩ := must_some h2
  obtain ⟨_, _, _, _, rfl, h4⟩ := asArr_some h3
  obtain ⟨rfl, h5⟩ := isN_some h4
  obtain ⟨rfl, h6⟩ := isN_some h5
  obtain ⟨rfl, h7⟩ := isN_some h6
  obtain ⟨_, hu4, h8⟩ := atInt_some h7
  obtain ⟨_, _, rfl, h9⟩ := asOb_some h8
  obtain ⟨_, _, rfl, h10⟩ := obIs_some h9
  obtain ⟨rfl, h11⟩ := isN_some h10
  obtain ⟨rfl, h12⟩ := asEnd_some h11
  exact ⟨_, _, _, _, _, frame_is hg rfl (slots_cons hu0 (slots_cons hu3 (slots_cons hu4 slots_nil))), rfl, h12⟩
noncomputable def Λ_laws_toEntryS_0 (N : Nat) : Looper := (noLooper).add [0, 1, 0, 1, 1] fun _ E s K => i_laws_toEntryS_0 (killE ks_laws_toEntryS_0 E) s fun e_1 f_2 k_3 x_4 e_5 => l_laws_toEntryS_0 N e_1 f_2 k_3 (kk0_laws_toEntryS_0 K e_1 f_2 k_3) N x_4 e_5
theorem ok_laws_toEntryS_0 {N : Nat} (hC : Ok Tryd.prog C) (hΦ : CalleeOk Tryd.prog C (Φ_laws_toEntry N)) : LoopOk Tryd.prog C (Λ_laws_toEntryS_0 N) b_laws_toEntryS_0 [0, 1, 0, 1, 1] :=
  iter_ok (Λi := noLooper) (tr := false) (ks := ks_laws_toEntryS_0) (kx := kx_laws_toEntryS_0) (N := N) hC hΦ
    (loopsOk_nil (by kernel_rfl))
    fun R E s K r h => by
      have h2 := Looper.add_self.symm.trans h
      obtain ⟨_, _, _, _, _, he, rfl, h3⟩ := i_laws_toEntryS_0_spec h2
      rw [he]
      exact (w_laws_toEntryS_0 N _ _ _ _ N _ _).trans h3
theorem at_laws_toEntryS : loopsAt c_laws_toEntryS [] = [([0, 1, 0, 1, 1], b_laws_toEntryS_0)] := by kernel_rfl
theorem b_laws_toEntryS {R : Type} (N : Nat) (e_1 : List V) (f_2 : Fl) (K : V → S → Option R) : bodyV C (Φ_laws_toEntry N) (Λ_laws_toEntryS_0 N) 61 Tryd.f61 [.list 2 e_1 f_2] [] K =
  gb_laws_toEntryS N e_1 f_2 (fun e_3 => K (.list 2 e_3 .sh) []) := by kernel_rfl
theorem loops_laws_toEntryS {N : Nat} (hC : Ok Tryd.prog C) (hΦ : CalleeOk Tryd.prog C (Φ_laws_toEntry N)) : LoopsOk Tryd.prog C (Λ_laws_toEntryS_0 N) c_laws_toEntryS [] :=
  loopsOk_of c_laws_toEntryS [] (by
    rw [at_laws_toEntryS]
    intro p hp
    simp only [List.mem_cons, List.mem_nil_iff, or_false] at hp
    rcases hp with rfl
    · exact (ok_laws_toEntryS_0 hC hΦ))
theorem callee_laws_toEntryS (hC : Ok Tryd.prog C) {N : Nat} (hΦ : CalleeOk Tryd.prog C (Φ_laws_toEntry N)) : CalleeOk Tryd.prog C (Φ_laws_toEntryS N) := by
  refine hΦ.add_pure rfl fun R vs K r h => ?_
  unfold f_laws_toEntryS at h
  obtain ⟨_, rfl, h1⟩ := asN1_some h
  obtain ⟨_, _, rfl, h2⟩ := asList_some h1
  obtain ⟨_, h3⟩ := asEnd_some h2
  refine body_pure (fn := Tryd.f61) (c := c_laws_toEntryS) hC hΦ Tryd.func61 (by kernel_rfl) (by kernel_rfl) (loops_laws_toEntryS (N := N) hC hΦ) rfl rfl ?_
  refine (b_laws_toEntryS N _ _ _).trans ?_
  rw [← g_laws_toEntryS_eq]
  exact h3

/-! ### loop.example/g00756/laws.toNode -/
noncomputable def f_laws_toNode (N : Nat) : (R : Type) → List V → S → (V → S → Option R) → Option R := fun _ vs s K =>
  asN1 vs fun v'1 => un_laws_Node v'1 fun x_1 x_2 x_3 x_4 x_5 w_6 e_7 f_8 => asEnd s <| g_laws_toNode N x_1 x_2 x_3 x_4 x_5 w_6 e_7 f_8 (fun x_9 x_10 x_11 x_12 x_13 w_14 e_15 => K (.agg [.int .i64 x_9, .int .i64 x_10, .int .i64 x_11, .int .i64 x_12, .int .i64 x_13, .str w_14, .list 2 e_15 .sh]) [])
noncomputable def Φ_laws_toNode (N : Nat) : Callee := (Φ_laws_toEntryS N).add 37 (f_laws_toNode N)
noncomputable def c_laws_toNode : Code := bodyOf Tryd.f37
theorem b_laws_toNode {R : Type} (N : Nat) (x_1 x_2 x_3 x_4 x_5 : Int) (w_6 : ByteArray) (e_7 : List V) (f_8 : Fl) (K : V → S → Option R) : bodyV C (Φ_laws_toEntryS N) (noLooper) 37 Tryd.f37 [.agg [.int .i64 x_1, .int .i64 x_2, .int .i64 x_3, .int .i64 x_4, .int .i64 x_5, .str w_6, .list 2 e_7 f_8]] [] K =
  gb_laws_toNode N x_1 x_2 x_3 x_4 x_5 w_6 e_7 f_8 (fun x_9 x_10 x_11 x_12 x_13 w_14 e_15 => K (.agg [.int .i64 x_9, .int .i64 x_10, .int .i64 x_11, .int .i64 x_12, .int .i64 x_13, .str w_14, .list 2 e_15 .sh]) []) := by kernel_rfl
theorem callee_laws_toNode (hC : Ok Tryd.prog C) {N : Nat} (hΦ : CalleeOk Tryd.prog C (Φ_laws_toEntryS N)) : CalleeOk Tryd.prog C (Φ_laws_toNode N) := by
  refine hΦ.add_pure rfl fun R vs K r h => ?_
  unfold f_laws_toNode at h
  obtain ⟨_, rfl, h1⟩ := asN1_some h
  obtain ⟨_, _, _, _, _, _, _, _, rfl, h2⟩ := un_laws_Node_some h1
  obtain ⟨_, h3⟩ := asEnd_some h2
  refine body_pure (fn := Tryd.f37) (c := c_laws_toNode) hC hΦ Tryd.func37 (by kernel_rfl) (by kernel_rfl) (loopsOk_nil (Λ := noLooper) (by kernel_rfl)) rfl rfl ?_
  refine (b_laws_toNode N _ _ _ _ _ _ _ _ _).trans ?_
  rw [← g_laws_toNode_eq]
  exact h3

/-! ### loop.example/g00756/laws.toNodeS -/
noncomputable def f_laws_toNodeS (N : Nat) : (R : Type) → List V → S → (V → S → Option R) → Option R := fun _ vs s K =>
  asN1 vs fun v'1 => asList 7 v'1 fun e_1 f_2 => asEnd s <| g_laws_toNodeS N e_1 f_2 (fun e_3 => K (.list 7 e_3 .sh) [])
noncomputable def Φ_laws_toNodeS (N : Nat) : Callee := (Φ_laws_toNode N).add 23 (f_laws_toNodeS N)
noncomputable def c_laws_toNodeS : Code := bodyOf Tryd.f23
noncomputable def b_laws_toNodeS_0 : Code := (loopNo c_laws_toNodeS [] 0).2
def ks_laws_toNodeS_0 : List Nat := butL 23 [0, 3, 4]
def kx_laws_toNodeS_0 : List Nat := butL 23 [3]
def fr_laws_toNodeS_0 (e_1 : List V) (f_2 : Fl) (k_3 : Nat) (x_4 : Int) (e_5 : List V) : List V := mkF 0 23 [(0, .list 7 e_1 f_2), (3, .arr 0 0 0 k_3), (4, .int .i64 x_4)]
def kk0_laws_toNodeS_0 {R : Type} (K : X → List V → S → Option R) (e_1 : List V) (f_2 : Fl) (k_3 : Nat) : List V → Option R := (fun e_1' => K (.exit 0) (mkF 0 23 [(3, .arr 0 0 0 k_3)]) [some ⟨e_1', 7, 55, 0⟩])
noncomputable abbrev it_laws_toNodeS_0 {R : Type} (N : Nat) : Nat → List V → S → (X → List V → S → Option R) → Option R := fun n => iter C (Φ_laws_toNode N) (noLooper) b_laws_toNodeS_0 [0, 1, 0, 1, 1] false ks_laws_toNodeS_0 kx_laws_toNodeS_0 n R
theorem r_laws_toNodeS_0 {R : Type} (N n : Nat) (e_1 : List V) (f_2 : Fl) (k_3 : Nat) (x_4 : Int) (e_5 : List V) (K : X → List V → S → Option R) :
  it_laws_toNodeS_0 N (n + 1) (fr_laws_toNodeS_0 e_1 f_2 k_3 x_4 e_5) [some ⟨e_5, 7, 55, 0⟩] K =
  l_laws_toNodeS_0_step N e_1 f_2 k_3 (fun x_4 e_5 => it_laws_toNodeS_0 N n (fr_laws_toNodeS_0 e_1 f_2 k_3 x_4 e_5) [some ⟨e_5, 7, 55, 0⟩] K) x_4 e_5 (kk0_laws_toNodeS_0 K e_1 f_2 k_3) := by kernel_rfl
theorem w_laws_toNodeS_0 {R : Type} (N : Nat) (e_1 : List V) (f_2 : Fl) (k_3 : Nat) (K : X → List V → S → Option R) : ∀ (n : Nat) (x_4 : Int) (e_5 : List V),
  it_laws_toNodeS_0 N n (fr_laws_toNodeS_0 e_1 f_2 k_3 x_4 e_5) [some ⟨e_5, 7, 55, 0⟩] K = l_laws_toNodeS_0 N e_1 f_2 k_3 (kk0_laws_toNodeS_0 K e_1 f_2 k_3) n x_4 e_5
  | 0, _, _ => rfl
  | n + 1, x_4, e_5 => (r_laws_toNodeS_0 N n e_1 f_2 k_3 x_4 e_5 K).trans (congrArg (fun nx => l_laws_toNodeS_0_step N e_1 f_2 k_3 nx x_4 e_5 (kk0_laws_toNodeS_0 K e_1 f_2 k_3)) (funext fun x_4 => funext fun e_5 => w_laws_toNodeS_0 N e_1 f_2 k_3 K n x_4 e_5))
def i_laws_toNodeS_0 {R : Type} (E : List V) (s : S) (k : List V → Fl → Nat → Int → List V → Option R) : Option R :=
  guardB (frameOk 23 [0, 3, 4] E) <| atList E 0 7 fun e_1 f_2 => must (nth E 3) fun u3 => asArr u3 fun k'1 k'2 k'3 k_3 => isN k'1 0 <| isN k'2 0 <| isN k'3 0 <| atInt E 4 .i64 fun x_4 => asOb s fun o'4 s'5 => obIs o'4 7 55 fun e_5 k'6 => isN k'6 0 <| asEnd s'5 <| k e_1 f_2 k_3 x_4 e_5
theorem i_laws_toNodeS_0_spec {R : Type} {E : List V} {s : S} {k : List V → Fl → Nat → Int → List V → Option R} {r : R} (h : i_laws_toNodeS_0 E s k = some r) : ∃ e_1 f_2 k_3 x_4 e_5, E = fr_laws_toNodeS_0 e_1 f_2 k_3 x_4 e_5 ∧ s = [some ⟨e_5, 7, 55, 0⟩] ∧ k e_1 f_2 k_3 x_4 e_5 = some r := by
  unfold i_laws_toNodeS_0 at h
  obtain ⟨hg, h1⟩ := guardB_some h
  obtain ⟨_, _, hu0, h2⟩ := atList_some h1
  obtain ⟨_, hu3, h3⟩ := must_some h2
  obtain ⟨_, _, _, _, rfl, h4⟩ := asArr_some h3
  obtain ⟨rfl, h5⟩ := isN_some h4
  obtain ⟨rfl, h6⟩ := isN_some h5
  obtain ⟨rfl, h7⟩ := isN_some h6
  obtain ⟨_, hu4, h8⟩ := atInt_some h7
  obtain ⟨_, _, rfl, h9⟩ := asOb_some h8
  obtain ⟨_, _, rfl, h10⟩ := obIs_some h9
  obtain ⟨rfl, h11⟩ := isN_some h10
  obtain ⟨rfl, h12⟩ := asEnd_some h11
  exact ⟨_, _, _, _, _, frame_is hg rfl (slots_cons hu0 (slots_cons hu3 (slots_cons hu4 slots_nil))), rfl, h12⟩
noncomputable def Λ_laws_toNodeS_0 (N : Nat) : Looper := (noLooper).add [0, 1, 0, 1, 1] fun _ E s K => i_laws_toNodeS_0 (killE ks_laws_toNodeS_0 E) s fun e_1 f_2 k_3 x_4 e_5 => l_laws_toNodeS_0 N e_1 f_2 k_3 (kk0_laws_toNodeS_0 K e_1 f_2 k_3) N x_4 e_5
theorem ok_laws_toNodeS_0 {N : Nat} (hC : Ok Tryd.prog C) (hΦ : CalleeOk Tryd.prog C (Φ_laws_toNode N)) : LoopOk Tryd.prog C (Λ_laws_toNodeS_0 N) b_laws_toNodeS_0 [0, 1, 0, 1, 1] :=
  iter_ok (Λi := noLooper) (tr := false) (ks := ks_laws_toNodeS_0) (kx := kx_laws_toNodeS_0) (N := N) hC hΦ
    (loopsOk_nil (by kernel_rfl))
    fun R E s K r h => by
      have h2 := Looper.add_self.symm.trans h
      obtain ⟨_, _, _, _, _, he, rfl, h3⟩ := i_laws_toNodeS_0_spec h2
      rw [he]
      exact (w_laws_toNodeS_0 N _ _ _ _ N _ _).trans h3
theorem at_laws_toNodeS : loopsAt c_laws_toNodeS [] = [([0, 1, 0, 1, 1], b_laws_toNodeS_0)] := by kernel_rfl
theorem b_laws_toNodeS {R : Type} (N : Nat) (e_1 : List V) (f_2 : Fl) (K : V → S → Option R) : bodyV C (Φ_laws_toNode N) (Λ_laws_toNodeS_0 N) 23 Tryd.f23 [.list 7 e_1 f_2] [] K =
  gb_laws_toNodeS N e_1 f_2 (fun e_3 => K (.list 7 e_3 .sh) []) := by kernel_rfl
theorem loops_laws_toNodeS {N : Nat} (hC : Ok Tryd.prog C) (hΦ : CalleeOk Tryd.prog C (Φ_laws_toNode N)) : LoopsOk Tryd.prog C (Λ_laws_toNodeS_0 N) c_laws_toNodeS [] :=
  loopsOk_of c_laws_toNodeS [] (by
    rw [at_laws_toNodeS]
    intro p hp
    simp only [List.mem_cons, List.mem_nil_iff, or_false] at hp
    rcases hp with rfl
    · exact (ok_laws_toNodeS_0 hC hΦ))
theorem callee_laws_toNodeS (hC : Ok Tryd.prog C) {N : Nat} (hΦ : CalleeOk Tryd.prog C (Φ_laws_toNode N)) : CalleeOk Tryd.prog C (Φ_laws_toNodeS N) := by
  refine hΦ.add_pure rfl fun R vs K r h => ?_
  unfold f_laws_toNodeS at h
  obtain ⟨_, rfl, h1⟩ := asN1_some h
  obtain ⟨_, _, rfl, h2⟩ := asList_some h1
  obtain ⟨_, h3⟩ := asEnd_some h2
  refine body_pure (fn := Tryd.f23) (c := c_laws_toNodeS) hC hΦ Tryd.func23 (by kernel_rfl) (by kernel_rfl) (loops_laws_toNodeS (N := N) hC hΦ) rfl rfl ?_
  refine (b_laws_toNodeS N _ _ _).trans ?_
  rw [← g_laws_toNodeS_eq]
  exact h3

/-! ### loop.example/g00756/laws.toFs -/
noncomputable def f_laws_toFs (N : Nat) : (R : Type) → List V → S → (V → S → Option R) → Option R := fun _ vs s K =>
  asN1 vs fun v'1 => un_laws_Fs v'1 fun e_1 f_2 x_3 => asEnd s <| g_laws_toFs N e_1 f_2 x_3 (fun e_4 x_5 => K (.agg [.list 7 e_4 .sh, .int .i64 x_5]) [])
noncomputable def Φ_laws_toFs (N : Nat) : Callee := (Φ_laws_toNodeS N).add 9 (f_laws_toFs N)
noncomputable def c_laws_toFs : Code := bodyOf Tryd.f9
theorem b_laws_toFs {R : Type} (N : Nat) (e_1 : List V) (f_2 : Fl) (x_3 : Int) (K : V → S → Option R) : bodyV C (Φ_laws_toNodeS N) (noLooper) 9 Tryd.f9 [.agg [.list 7 e_1 f_2, .int .i64 x_3]] [] K =
  gb_laws_toFs N e_1 f_2 x_3 (fun e_4 x_5 => K (.agg [.list 7 e_4 .sh, .int .i64 x_5]) []) := by kernel_rfl
theorem callee_laws_toFs (hC : Ok Tryd.prog C) {N : Nat} (hΦ : CalleeOk Tryd.prog C (Φ_laws_toNodeS N)) : CalleeOk Tryd.prog C (Φ_laws_toFs N) := by
  refine hΦ.add_pure rfl fun R vs K r h => ?_
  unfold f_laws_toFs at h
  obtain ⟨_, rfl, h1⟩ := asN1_some h
  obtain ⟨_, _, _, rfl, h2⟩ := un_laws_Fs_some h1
  obtain ⟨_, h3⟩ := asEnd_some h2
  refine body_pure (fn := Tryd.f9) (c := c_laws_toFs) hC hΦ Tryd.func9 (by kernel_rfl) (by kernel_rfl) (loopsOk_nil (Λ := noLooper) (by kernel_rfl)) rfl rfl ?_
  refine (b_laws_toFs N _ _ _ _).trans ?_
  rw [← g_laws_toFs_eq]
  exact h3

/-! ### loop.example/g00756/laws.toCred -/
noncomputable def f_laws_toCred (N : Nat) : (R : Type) → List V → S → (V → S → Option R) → Option R := fun _ vs s K =>
  asN1 vs fun v'1 => un_laws_Cred v'1 fun x_1 x_2 => asEnd s <| g_laws_toCred N x_1 x_2 (fun x_3 x_4 => K (.agg [.int .i64 x_3, .int .i64 x_4]) [])
noncomputable def Φ_laws_toCred (N : Nat) : Callee := (Φ_laws_toFs N).add 10 (f_laws_toCred N)
noncomputable def c_laws_toCred : Code := bodyOf Tryd.f10
theorem b_laws_toCred {R : Type} (N : Nat) (x_1 x_2 : Int) (K : V → S → Option R) : bodyV C (Φ_laws_toFs N) (noLooper) 10 Tryd.f10 [.agg [.int .i64 x_1, .int .i64 x_2]] [] K =
  gb_laws_toCred N x_1 x_2 (fun x_3 x_4 => K (.agg [.int .i64 x_3, .int .i64 x_4]) []) := by kernel_rfl
theorem callee_laws_toCred (hC : Ok Tryd.prog C) {N : Nat} (hΦ : CalleeOk Tryd.prog C (Φ_laws_toFs N)) : CalleeOk Tryd.prog C (Φ_laws_toCred N) := by
  refine hΦ.add_pure rfl fun R vs K r h => ?_
  unfold f_laws_toCred at h
  obtain ⟨_, rfl, h1⟩ := asN1_some h
  obtain ⟨_, _, rfl, h2⟩ := un_laws_Cred_some h1
  obtain ⟨_, h3⟩ := asEnd_some h2
  refine body_pure (fn := Tryd.f10) (c := c_laws_toCred) hC hΦ Tryd.func10 (by kernel_rfl) (by kernel_rfl) (loopsOk_nil (Λ := noLooper) (by kernel_rfl)) rfl rfl ?_
  refine (b_laws_toCred N _ _ _).trans ?_
  rw [← g_laws_toCred_eq]
  exact h3

/-! ### loop.example/g00756/laws.eqEntry -/
noncomputable def f_laws_eqEntry (N : Nat) : (R : Type) → List V → S → (V → S → Option R) → Option R := fun _ vs s K =>
  asN2 vs fun v'1 v'2 => un_impl_Entry v'1 fun w_1 x_2 => un_impl_Entry v'2 fun w_3 x_4 => asEnd s <| g_laws_eqEntry N w_1 x_2 w_3 x_4 (fun b_5 => K (.bool b_5) [])
noncomputable def Φ_laws_eqEntry (N : Nat) : Callee := (Φ_laws_toCred N).add 90 (f_laws_eqEntry N)
noncomputable def c_laws_eqEntry : Code := bodyOf Tryd.f90
theorem b_laws_eqEntry {R : Type} (N : Nat) (w_1 : ByteArray) (x_2 : Int) (w_3 : ByteArray) (x_4 : Int) (K : V → S → Option R) : bodyV C (Φ_laws_toCred N) (noLooper) 90 Tryd.f90 [.agg [.str w_1, .int .i64 x_2], .agg [.str w_3, .int .i64 x_4]] [] K =
  gb_laws_eqEntry N w_1 x_2 w_3 x_4 (fun b_5 => K (.bool b_5) []) := by kernel_rfl
theorem callee_laws_eqEntry (hC : Ok Tryd.prog C) {N : Nat} (hΦ : CalleeOk Tryd.prog C (Φ_laws_toCred N)) : CalleeOk Tryd.prog C (Φ_laws_eqEntry N) := by
  refine hΦ.add_pure rfl fun R vs K r h => ?_
  unfold f_laws_eqEntry at h
  obtain ⟨_, _, rfl, h1⟩ := asN2_some h
  obtain ⟨_, _, rfl, h2⟩ := un_impl_Entry_some h1
  obtain ⟨_, _, rfl, h3⟩ := un_impl_Entry_some h2
  obtain ⟨_, h4⟩ := asEnd_some h3
  refine body_pure (fn := Tryd.f90) (c := c_laws_eqEntry) hC hΦ Tryd.func90 (by kernel_rfl) (by kernel_rfl) (loopsOk_nil (Λ := noLooper) (by kernel_rfl)) rfl rfl ?_
  refine (b_laws_eqEntry N _ _ _ _ _).trans ?_
  rw [← g_laws_eqEntry_eq]
  exact h4

/-! ### loop.example/g00756/laws.eqEntryS -/
noncomputable def f_laws_eqEntryS (N : Nat) : (R : Type) → List V → S → (V → S → Option R) → Option R := fun _ vs s K =>
  asN2 vs fun v'1 v'2 => asList 2 v'1 fun e_1 f_2 => asList 2 v'2 fun e_3 f_4 => asEnd s <| g_laws_eqEntryS N e_1 f_2 e_3 f_4 (fun b_5 => K (.bool b_5) [])
noncomputable def Φ_laws_eqEntryS (N : Nat) : Callee := (Φ_laws_eqEntry N).add 74 (f_laws_eqEntryS N)
noncomputable def c_laws_eqEntryS : Code := bodyOf Tryd.f74
noncomputable def b_laws_eqEntryS_0 : Code := (loopNo c_laws_eqEntryS [] 0).2
def ks_laws_eqEntryS_0 : List Nat := butL 27 [0, 1, 5]
def kx_laws_eqEntryS_0 : List Nat := butL 27 [4]
def fr_laws_eqEntryS_0 (e_1 : List V) (f_2 : Fl) (e_3 : List V) (f_4 : Fl) (x_5 : Int) : List V := mkF 0 27 [(0, .list 2 e_1 f_2), (1, .list 2 e_3 f_4), (5, .int .i64 x_5)]
def kk0_laws_eqEntryS_0 {R : Type} (K : X → List V → S → Option R) (e_1 : List V) (f_2 : Fl) (e_3 : List V) (f_4 : Fl) : Unit → Option R := (fun _ => K .ret (mkF 0 27 [(4, .bool false)]) [])
def kk1_laws_eqEntryS_0 {R : Type} (K : X → List V → S → Option R) (e_1 : List V) (f_2 : Fl) (e_3 : List V) (f_4 : Fl) : Unit → Option R := (fun _ => K (.exit 0) (mkF 0 27 []) [])
noncomputable abbrev it_laws_eqEntryS_0 {R : Type} (N : Nat) : Nat → List V → S → (X → List V → S → Option R) → Option R := fun n => iter C (Φ_laws_eqEntry N) (noLooper) b_laws_eqEntryS_0 [0, 1, 0, 1, 1] false ks_laws_eqEntryS_0 kx_laws_eqEntryS_0 n R
theorem r_laws_eqEntryS_0 {R : Type} (N n : Nat) (e_1 : List V) (f_2 : Fl) (e_3 : List V) (f_4 : Fl) (x_5 : Int) (K : X → List V → S → Option R) :
  it_laws_eqEntryS_0 N (n + 1) (fr_laws_eqEntryS_0 e_1 f_2 e_3 f_4 x_5) [] K =
  l_laws_eqEntryS_0_step N e_1 f_2 e_3 f_4 (fun x_5 => it_laws_eqEntryS_0 N n (fr_laws_eqEntryS_0 e_1 f_2 e_3 f_4 x_5) [] K) x_5 (kk0_laws_eqEntryS_0 K e_1 f_2 e_3 f_4) (kk1_laws_eqEntryS_0 K e_1 f_2 e_3 f_4) := by kernel_rfl
theorem w_laws_eqEntryS_0 {R : Type} (N : Nat) (e_1 : List V) (f_2 : Fl) (e_3 : List V) (f_4 : Fl) (K : X → List V → S → Option R) : ∀ (n : Nat) (x_5 : Int),
  it_laws_eqEntryS_0 N n (fr_laws_eqEntryS_0 e_1 f_2 e_3 f_4 x_5) [] K = l_laws_eqEntryS_0 N e_1 f_2 e_3 f_4 (kk0_laws_eqEntryS_0 K e_1 f_2 e_3 f_4) (kk1_laws_eqEntryS_0 K e_1 f_2 e_3 f_4) n x_5
  | 0, _ => rfl
  | n + 1, x_5 => (r_laws_eqEntryS_0 N n e_1 f_2 e_3 f_4 x_5 K).trans (congrArg (fun nx => l_laws_eqEntryS_0_step N e_1 f_2 e_3 f_4 nx x_5 (kk0_laws_eqEntryS_0 K e_1 f_2 e_3 f_4) (kk1_laws_eqEntryS_0 K e_1 f_2 e_3 f_4)) (funext fun x_5 => w_laws_eqEntryS_0 N e_1 f_2 e_3 f_4 K n x_5))
def i_laws_eqEntryS_0 {R : Type} (E : List V) (s : S) (k : List V → Fl → List V → Fl → Int → Option R) : Option R :=
  guardB (frameOk 27 [0, 1, 5] E) <| atList E 0 2 fun e_1 f_2 => atList E 1 2 fun e_3 f_4 => atInt E 5 .i64 fun x_5 => asEnd s <| k e_1 f_2 e_3 f_4 x_5
theorem i_laws_eqEntryS_0_spec {R : Type} {E : List V} {s : S} {k : List V → Fl → List V → Fl → Int → Option R} {r : R} (h : i_laws_eqEntryS_0 E s k = some r) : ∃ e_1 f_2 e_3 f_4 x_5, E = fr_laws_eqEntryS_0 e_1 f_2 e_3 f_4 x_5 ∧ s = [] ∧ k e_1 f_2 e_3 f_4 x_5 = some r := by
  unfold i_laws_eqEntryS_0 at h
  obtain ⟨hg, h1⟩ := guardB_some h
  obtain ⟨_, _, hu0, h2⟩ := atList_some h1
  obtain ⟨_, _, hu1, h3⟩ := atList_some h2
  obtain ⟨_, hu5, h4⟩ := atInt_some h3
  obtain ⟨rfl, h5⟩ := asEnd_some h4
  exact ⟨_, _, _, _, _, frame_is hg rfl (slots_cons hu0 (slots_cons hu1 (slots_cons hu5 slots_nil))), rfl, h5⟩
noncomputable def Λ_laws_eqEntryS_0 (N : Nat) : Looper := (noLooper).add [0, 1, 0, 1, 1] fun _ E s K => i_laws_eqEntryS_0 (killE ks_laws_eqEntryS_0 E) s fun e_1 f_2 e_3 f_4 x_5 => l_laws_eqEntryS_0 N e_1 f_2 e_3 f_4 (kk0_laws_eqEntryS_0 K e_1 f_2 e_3 f_4) (kk1_laws_eqEntryS_0 K e_1 f_2 e_3 f_4) N x_5
theorem ok_laws_eqEntryS_0 {N : Nat} (hC : Ok Tryd.prog C) (hΦ : CalleeOk Tryd.prog C (Φ_laws_eqEntry N)) : LoopOk Tryd.prog C (Λ_laws_eqEntryS_0 N) b_laws_eqEntryS_0 [0, 1, 0, 1, 1] :=
  iter_ok (Λi := noLooper) (tr := false) (ks := ks_laws_eqEntryS_0) (kx := kx_laws_eqEntryS_0) (N := N) hC hΦ
    (loopsOk_nil (by kernel_rfl))
    fun R E s K r h => by
      have h2 := Looper.add_self.symm.trans h
      obtain ⟨_, _, _, _, _, he, rfl, h3⟩ := i_laws_eqEntryS_0_spec h2
      rw [he]
      exact (w_laws_eqEntryS_0 N _ _ _ _ _ N _).trans h3
theorem at_laws_eqEntryS : loopsAt c_laws_eqEntryS [] = [([0, 1, 0, 1, 1], b_laws_eqEntryS_0)] := by kernel_rfl
theorem b_laws_eqEntryS {R : Type} (N : Nat) (e_1 : List V) (f_2 : Fl) (e_3 : List V) (f_4 : Fl) (K : V → S → Option R) : bodyV C (Φ_laws_eqEntry N) (Λ_laws_eqEntryS_0 N) 74 Tryd.f74 [.list 2 e_1 f_2, .list 2 e_3 f_4] [] K =
  gb_laws_eqEntryS N e_1 f_2 e_3 f_4 (fun b_5 => K (.bool b_5) []) := by kernel_rfl
theorem loops_laws_eqEntryS {N : Nat} (hC : Ok Tryd.prog C) (hΦ : CalleeOk Tryd.prog C (Φ_laws_eqEntry N)) : LoopsOk Tryd.prog C (Λ_laws_eqEntryS_0 N) c_laws_eqEntryS [] :=
  loopsOk_of c_laws_eqEntryS [] (by
    rw [at_laws_eqEntryS]
    intro p hp
    simp only [List.mem_cons, List.mem_nil_iff, or_false] at hp
    rcases hp with rfl
    · exact (ok_laws_eqEntryS_0 hC hΦ))
theorem callee_laws_eqEntryS (hC : Ok Tryd.prog C) {N : Nat} (hΦ : CalleeOk Tryd.prog C (Φ_laws_eqEntry N)) : CalleeOk Tryd.prog C (Φ_laws_eqEntryS N) := by
  refine hΦ.add_pure rfl fun R vs K r h => ?_
  unfold f_laws_eqEntryS at h
  obtain ⟨_, _, rfl, h1⟩ := asN2_some h
  obtain ⟨_, _, rfl, h2⟩ := asList_some h1
  obtain ⟨_, _, rfl, h3⟩ := asList_some h2
  obtain ⟨_, h4⟩ := asEnd_some h3
  refine body_pure (fn := Tryd.f74) (c := c_laws_eqEntryS) hC hΦ Tryd.func74 (by kernel_rfl) (by kernel_rfl) (loops_laws_eqEntryS (N := N) hC hΦ) rfl rfl ?_
  refine (b_laws_eqEntryS N _ _ _ _ _).trans ?_
  rw [← g_laws_eqEntryS_eq]
  exact h4

/-! ### loop.example/g00756/laws.eqNode -/
noncomputable def f_laws_eqNode (N : Nat) : (R : Type) → List V → S → (V → S → Option R) → Option R := fun _ vs s K =>
  asN2 vs fun v'1 v'2 => un_impl_Node v'1 fun x_1 x_2 x_3 x_4 x_5 w_6 e_7 f_8 => un_impl_Node v'2 fun x_9 x_10 x_11 x_12 x_13 w_14 e_15 f_16 => asEnd s <| g_laws_eqNode N x_1 x_2 x_3 x_4 x_5 w_6 e_7 f_8 x_9 x_10 x_11 x_12 x_13 w_14 e_15 f_16 (fun b_17 => K (.bool b_17) [])
noncomputable def Φ_laws_eqNode (N : Nat) : Callee := (Φ_laws_eqEntryS N).add 48 (f_laws_eqNode N)
noncomputable def c_laws_eqNode : Code := bodyOf Tryd.f48
theorem b_laws_eqNode {R : Type} (N : Nat) (x_1 x_2 x_3 x_4 x_5 : Int) (w_6 : ByteArray) (e_7 : List V) (f_8 : Fl) (x_9 x_10 x_11 x_12 x_13 : Int) (w_14 : ByteArray) (e_15 : List V) (f_16 : Fl) (K : V → S → Option R) : bodyV C (Φ_laws_eqEntryS N) (noLooper) 48 Tryd.f48 [.agg [.int .i64 x_1, .int .i64 x_2, .int .i64 x_3, .int .i64 x_4, .int .i64 x_5, .str w_6, .list 2 e_7 f_8], .agg [.int .i64 x_9, .int .i64 x_10, .int .i64 x_11, .int .i64 x_12, .int .i64 x_13, .str w_14, .list 2 e_15 f_16]] [] K =
  gb_laws_eqNode N x_1 x_2 x_3 x_4 x_5 w_6 e_7 f_8 x_9 x_10 x_11 x_12 x_13 w_14 e_15 f_16 (fun b_17 => K (.bool b_17) []) := by kernel_rfl
theorem callee_laws_eqNode (hC : Ok Tryd.prog C) {N : Nat} (hΦ : CalleeOk Tryd.prog C (Φ_laws_eqEntryS N)) : CalleeOk Tryd.prog C (Φ_laws_eqNode N) := by
  refine hΦ.add_pure rfl fun R vs K r h => ?_
  unfold f_laws_eqNode at h
  obtain ⟨_, _, rfl, h1⟩ := asN2_some h
  obtain ⟨_, _, _, _, _, _, _, _, rfl, h2⟩ := un_impl_Node_some h1
  obtain ⟨_, _, _, _, _, _, _, _, rfl, h3⟩ := un_impl_Node_some h2
  obtain ⟨_, h4⟩ := asEnd_some h3
  refine body_pure (fn := Tryd.f48) (c := c_laws_eqNode) hC hΦ Tryd.func48 (by kernel_rfl) (by kernel_rfl) (loopsOk_nil (Λ := noLooper) (by kernel_rfl)) rfl rfl ?_
  refine (b_laws_eqNode N _ _ _ _ _ _ _ _ _ _ _ _ _ _ _ _ _).trans ?_
  rw [← g_laws_eqNode_eq]
  exact h4

/-! ### loop.example/g00756/laws.eqNodeS -/
noncomputable def f_laws_eqNodeS (N : Nat) : (R : Type) → List V → S → (V → S → Option R) → Option R := fun _ vs s K =>
  asN2 vs fun v'1 v'2 => asList 7 v'1 fun e_1 f_2 => asList 7 v'2 fun e_3 f_4 => asEnd s <| g_laws_eqNodeS N e_1 f_2 e_3 f_4 (fun b_5 => K (.bool b_5) [])
noncomputable def Φ_laws_eqNodeS (N : Nat) : Callee := (Φ_laws_eqNode N).add 26 (f_laws_eqNodeS N)
noncomputable def c_laws_eqNodeS : Code := bodyOf Tryd.f26
noncomputable def b_laws_eqNodeS_0 : Code := (loopNo c_laws_eqNodeS [] 0).2
def ks_laws_eqNodeS_0 : List Nat := butL 27 [0, 1, 5]
def kx_laws_eqNodeS_0 : List Nat := butL 27 [4]
def fr_laws_eqNodeS_0 (e_1 : List V) (f_2 : Fl) (e_3 : List V) (f_4 : Fl) (x_5 : Int) : List V := mkF 0 27 [(0, .list 7 e_1 f_2), (1, .list 7 e_3 f_4), (5, .int .i64 x_5)]
def kk0_laws_eqNodeS_0 {R : Type} (K : X → List V → S → Option R) (e_1 : List V) (f_2 : Fl) (e_3 : List V) (f_4 : Fl) : Unit → Option R := (fun _ => K .ret (mkF 0 27 [(4, .bool false)]) [])
def kk1_laws_eqNodeS_0 {R : Type} (K : X → List V → S → Option R) (e_1 : List V) (f_2 : Fl) (e_3 : List V) (f_4 : Fl) : Unit → Option R := (fun _ => K (.exit 0) (mkF 0 27 []) [])
noncomputable abbrev it_laws_eqNodeS_0 {R : Type} (N : Nat) : Nat → List V → S → (X → List V → S → Option R) → Option R := fun n => iter C (Φ_laws_eqNode N) (noLooper) b_laws_eqNodeS_0 [0, 1, 0, 1, 1] false ks_laws_eqNodeS_0 kx_laws_eqNodeS_0 n R
theorem r_laws_eqNodeS_0 {R : Type} (N n : Nat) (e_1 : List V) (f_2 : Fl) (e_3 : List V) (f_4 : Fl) (x_5 : Int) (K : X → List V → S → Option R) :
  it_laws_eqNodeS_0 N (n + 1) (fr_laws_eqNodeS_0 e_1 f_2 e_3 f_4 x_5) [] K =
  l_laws_eqNodeS_0_step N e_1 f_2 e_3 f_4 (fun x_5 => it_laws_eqNodeS_0 N n (fr_laws_eqNodeS_0 e_1 f_2 e_3 f_4 x_5) [] K) x_5 (kk0_laws_eqNodeS_0 K e_1 f_2 e_3 f_4) (kk1_laws_eqNodeS_0 K e_1 f_2 e_3 f_4) := by kernel_rfl
theorem w_laws_eqNodeS_0 {R : Type} (N : Nat) (e_1 : List V) (f_2 : Fl) (e_3 : List V) (f_4 : Fl) (K : X → List V → S → Option R) : ∀ (n : Nat) (x_5 : Int),
  it_laws_eqNodeS_0 N n (fr_laws_eqNodeS_0 e_1 f_2 e_3 f_4 x_5) [] K = l_laws_eqNodeS_0 N e_1 f_2 e_3 f_4 (kk0_laws_eqNodeS_0 K e_1 f_2 e_3 f_4) (kk1_laws_eqNodeS_0 K e_1 f_2 e_3 f_4) n x_5
  | 0, _ => rfl
  | n + 1, x_5 => (r_laws_eqNodeS_0 N n e_1 f_2 e_3 f_4 x_5 K).trans (congrArg (fun nx => l_laws_eqNodeS_0_step N e_1 f_2 e_3 f_4 nx x_5 (kk0_laws_eqNodeS_0 K e_1 f_2 e_3 f_4) (kk1_laws_eqNodeS_0 K e_1 f_2 e_3 f_4)) (funext fun x_5 => w_laws_eqNodeS_0 N e_1 f_2 e_3 f_4 K n x_5))
def i_laws_eqNodeS_0 {R : Type} (E : List V) (s : S) (k : List V → Fl → List V → Fl → Int → Option R) : Option R :=
  guardB (frameOk 27 [0, 1, 5] E) <| atList E 0 7 fun e_1 f_2 => atList E 1 7 fun e_3 f_4 => atInt E 5 .i64 fun x_5 => asEnd s <| k e_1 f_2 e_3 f_4 x_5
theorem i_laws_eqNodeS_0_spec {R : Type} {E : List V} {s : S} {k : List V → Fl → List V → Fl → Int → Option R} {r : R} (h : i_laws_eqNodeS_0 E s k = some r) : ∃ e_1 f_2 e_3 f_4 x_5, E = fr_laws_eqNodeS_0 e_1 f_2 e_3 f_4 x_5 ∧ s = [] ∧ k e_1 f_2 e_3 f_4 x_5 = some r := by
  unfold i_laws_eqNodeS_0 at h
  obtain ⟨hg, h1⟩ := guardB_some h
  obtain ⟨_, _, hu0, h2⟩ := atList_some h1
  obtain ⟨_, _, hu1, h3⟩ := atList_some h2
  obtain ⟨_, hu5, h4⟩ := atInt_some h3
  obtain ⟨rfl, h5⟩ := asEnd_some h4
  exact ⟨_, _, _, _, _, frame_is hg rfl (slots_cons hu0 (slots_cons hu1 (slots_cons hu5 slots_nil))), rfl, h5⟩
noncomputable def Λ_laws_eqNodeS_0 (N : Nat) : Looper := (noLooper).add [0, 1, 0, 1, 1] fun _ E s K => i_laws_eqNodeS_0 (killE ks_laws_eqNodeS_0 E) s fun e_1 f_2 e_3 f_4 x_5 => l_laws_eqNodeS_0 N e_1 f_2 e_3 f_4 (kk0_laws_eqNodeS_0 K e_1 f_2 e_3 f_4) (kk1_laws_eqNodeS_0 K e_1 f_2 e_3 f_4) N x_5
theorem ok_laws_eqNodeS_0 {N : Nat} (hC : Ok Tryd.prog C) (hΦ : CalleeOk Tryd.prog C (Φ_laws_eqNode N)) : LoopOk Tryd.prog C (Λ_laws_eqNodeS_0 N) b_laws_eqNodeS_0 [0, 1, 0, 1, 1] :=
  iter_ok (Λi := noLooper) (tr := false) (ks := ks_laws_eqNodeS_0) (kx := kx_laws_eqNodeS_0) (N := N) hC hΦ
    (loopsOk_nil (by kernel_rfl))
    fun R E s K r h => by
      have h2 := Looper.add_self.symm.trans h
      obtain ⟨_, _, _, _, _, he, rfl, h3⟩ := i_laws_eqNodeS_0_spec h2
      rw [he]
      exact (w_laws_eqNodeS_0 N _ _ _ _ _ N _).trans h3
theorem at_laws_eqNodeS : loopsAt c_laws_eqNodeS [] = [([0, 1, 0, 1, 1], b_laws_eqNodeS_0)] := by kernel_rfl
theorem b_laws_eqNodeS {R : Type} (N : Nat) (e_1 : List V) (f_2 : Fl) (e_3 : List V) (f_4 : Fl) (K : V → S → Option R) : bodyV C (Φ_laws_eqNode N) (Λ_laws_eqNodeS_0 N) 26 Tryd.f26 [.list 7 e_1 f_2, .list 7 e_3 f_4] [] K =
  gb_laws_eqNodeS N e_1 f_2 e_3 f_4 (fun b_5 => K (.bool b_5) []) := by kernel_rfl
theorem loops_laws_eqNodeS {N : Nat} (hC : Ok Tryd.prog C) (hΦ : CalleeOk Tryd.prog C (Φ_laws_eqNode N)) : LoopsOk Tryd.prog C (Λ_laws_eqNodeS_0 N) c_laws_eqNodeS [] :=
  loopsOk_of c_laws_eqNodeS [] (by
    rw [at_laws_eqNodeS]
    intro p hp
    simp only [List.mem_cons, List.mem_nil_iff, or_false] at hp
    rcases hp with rfl
    · exact (ok_laws_eqNodeS_0 hC hΦ))
theorem callee_laws_eqNodeS (hC : Ok Tryd.prog C) {N : Nat} (hΦ : CalleeOk Tryd.prog C (Φ_laws_eqNode N)) : CalleeOk Tryd.prog C (Φ_laws_eqNodeS N) := by
  refine hΦ.add_pure rfl fun R vs K r h => ?_
  unfold f_laws_eqNodeS at h
  obtain ⟨_, _, rfl, h1⟩ := asN2_some h
  obtain ⟨_, _, rfl, h2⟩ := asList_some h1
  obtain ⟨_, _, rfl, h3⟩ := asList_some h2
  obtain ⟨_, h4⟩ := asEnd_some h3
  refine body_pure (fn := Tryd.f26) (c := c_laws_eqNodeS) hC hΦ Tryd.func26 (by kernel_rfl) (by kernel_rfl) (loops_laws_eqNodeS (N := N) hC hΦ) rfl rfl ?_
  refine (b_laws_eqNodeS N _ _ _ _ _).trans ?_
  rw [← g_laws_eqNodeS_eq]
  exact h4

/-! ### loop.example/g00756/laws.eqFs -/
noncomputable def f_laws_eqFs (N : Nat) : (R : Type) → List V → S → (V → S → Option R) → Option R := fun _ vs s K =>
  asN2 vs fun v'1 v'2 => un_impl_Fs v'1 fun e_1 f_2 x_3 => un_impl_Fs v'2 fun e_4 f_5 x_6 => asEnd s <| g_laws_eqFs N e_1 f_2 x_3 e_4 f_5 x_6 (fun b_7 => K (.bool b_7) [])
noncomputable def Φ_laws_eqFs (N : Nat) : Callee := (Φ_laws_eqNodeS N).add 12 (f_laws_eqFs N)
noncomputable def c_laws_eqFs : Code := bodyOf Tryd.f12
theorem b_laws_eqFs {R : Type} (N : Nat) (e_1 : List V) (f_2 : Fl) (x_3 : Int) (e_4 : List V) (f_5 : Fl) (x_6 : Int) (K : V → S → Option R) : bodyV C (Φ_laws_eqNodeS N) (noLooper) 12 Tryd.f12 [.agg [.list 7 e_1 f_2, .int .i64 x_3], .agg [.list 7 e_4 f_5, .int .i64 x_6]] [] K =
  gb_laws_eqFs N e_1 f_2 x_3 e_4 f_5 x_6 (fun b_7 => K (.bool b_7) []) := by kernel_rfl
theorem callee_laws_eqFs (hC : Ok Tryd.prog C) {N : Nat} (hΦ : CalleeOk Tryd.prog C (Φ_laws_eqNodeS N)) : CalleeOk Tryd.prog C (Φ_laws_eqFs N) := by
  refine hΦ.add_pure rfl fun R vs K r h => ?_
  unfold f_laws_eqFs at h
  obtain ⟨_, _, rfl, h1⟩ := asN2_some h
  obtain ⟨_, _, _, rfl, h2⟩ := un_impl_Fs_some h1
  obtain ⟨_, _, _, rfl, h3⟩ := un_impl_Fs_some h2
  obtain ⟨_, h4⟩ := asEnd_some h3
  refine body_pure (fn := Tryd.f12) (c := c_laws_eqFs) hC hΦ Tryd.func12 (by kernel_rfl) (by kernel_rfl) (loopsOk_nil (Λ := noLooper) (by kernel_rfl)) rfl rfl ?_
  refine (b_laws_eqFs N _ _ _ _ _ _ _).trans ?_
  rw [← g_laws_eqFs_eq]
  exact h4

/-! ### loop.example/g00756/spec.l3Links -/
noncomputable def f_spec_l3Links (N : Nat) : (R : Type) → List V → S → (V → S → Option R) → Option R := fun _ vs s K =>
  asN2 vs fun v'1 v'2 => un_impl_Fs v'1 fun e_1 f_2 x_3 => asInt .i64 v'2 fun x_4 => asEnd s <| g_spec_l3Links N e_1 f_2 x_3 x_4 (fun x_5 => K (.int .i64 x_5) [])
noncomputable def Φ_spec_l3Links (N : Nat) : Callee := (Φ_laws_eqFs N).add 50 (f_spec_l3Links N)
noncomputable def c_spec_l3Links : Code := bodyOf Tryd.f50
noncomputable def b_spec_l3Links_1 : Code := (loopNo c_spec_l3Links [] 0).2
noncomputable def b_spec_l3Links_0 : Code := (loopNo b_spec_l3Links_1 (0 :: [0, 1, 0, 1, 1]) 0).2
def ks_spec_l3Links_0 : List Nat := butL 33 [1, 5, 11, 12, 13, 18, 19, 20]
def kx_spec_l3Links_0 : List Nat := butL 33 [1, 5, 11, 12, 13]
def fr_spec_l3Links_0 (x_1 : Int) (e_3 : List V) (f_4 : Fl) (x_5 x_6 : Int) (e_7 : List V) (f_8 : Fl) (x_9 : Int) (e_11 : List V) (f_12 : Fl) (x_13 x_14 x_15 x_16 x_17 x_18 : Int) (w_19 : ByteArray) (e_20 : List V) (f_21 : Fl) (x_2 x_10 : Int) : List V := mkF 0 33 [(1, .int .i64 x_1), (5, .int .i64 x_2), (11, .list 7 e_3 f_4), (12, .int .i64 x_5), (13, .int .i64 x_6), (18, .list 2 e_7 f_8), (19, .int .i64 x_9), (20, .int .i64 x_10)]
def kk0_spec_l3Links_0 {R : Type} (K : X → List V → S → Option R) (x_1 : Int) (e_3 : List V) (f_4 : Fl) (x_5 : Int) (x_6 : Int) (e_7 : List V) (f_8 : Fl) (x_9 : Int) (e_11 : List V) (f_12 : Fl) (x_13 : Int) (x_14 : Int) (x_15 : Int) (x_16 : Int) (x_17 : Int) (x_18 : Int) (w_19 : ByteArray) (e_20 : List V) (f_21 : Fl) : Int → Option R := (fun x_1' => K (.exit 2) (mkF 0 33 [(1, .int .i64 x_1), (5, .int .i64 (x_1')), (11, .list 7 e_3 f_4), (12, .int .i64 x_5), (13, .int .i64 x_6)]) [some ⟨[.agg [.list 7 e_11 f_12, .int .i64 x_13]], 2, 32, 0⟩, some ⟨[.agg [.int .i64 x_14, .int .i64 x_15, .int .i64 x_16, .int .i64 x_17, .int .i64 x_18, .str w_19, .list 2 e_20 f_21]], 7, 55, 0⟩])
noncomputable abbrev it_spec_l3Links_0 {R : Type} (N : Nat) : Nat → List V → S → (X → List V → S → Option R) → Option R := fun n => iter C (Φ_laws_eqFs N) (noLooper) b_spec_l3Links_0 [0, 1, 1, 0, 0, 1, 1, 0, 0, 1, 0, 1, 1] true ks_spec_l3Links_0 kx_spec_l3Links_0 n R
theorem r_spec_l3Links_0 {R : Type} (N n : Nat) (x_1 : Int) (e_3 : List V) (f_4 : Fl) (x_5 x_6 : Int) (e_7 : List V) (f_8 : Fl) (x_9 : Int) (e_11 : List V) (f_12 : Fl) (x_13 x_14 x_15 x_16 x_17 x_18 : Int) (w_19 : ByteArray) (e_20 : List V) (f_21 : Fl) (x_2 x_10 : Int) (K : X → List V → S → Option R) :
  it_spec_l3Links_0 N (n + 1) (fr_spec_l3Links_0 x_1 e_3 f_4 x_5 x_6 e_7 f_8 x_9 e_11 f_12 x_13 x_14 x_15 x_16 x_17 x_18 w_19 e_20 f_21 x_2 x_10) [some ⟨[.agg [.list 7 e_11 f_12, .int .i64 x_13]], 2, 32, 0⟩, some ⟨[.agg [.int .i64 x_14, .int .i64 x_15, .int .i64 x_16, .int .i64 x_17, .int .i64 x_18, .str w_19, .list 2 e_20 f_21]], 7, 55, 0⟩] K =
  l_spec_l3Links_0_step N x_1 e_3 f_4 x_5 x_6 e_7 f_8 x_9 e_11 f_12 x_13 x_14 x_15 x_16 x_17 x_18 w_19 e_20 f_21 (fun x_2 x_10 => it_spec_l3Links_0 N n (fr_spec_l3Links_0 x_1 e_3 f_4 x_5 x_6 e_7 f_8 x_9 e_11 f_12 x_13 x_14 x_15 x_16 x_17 x_18 w_19 e_20 f_21 x_2 x_10) [some ⟨[.agg [.list 7 e_11 f_12, .int .i64 x_13]], 2, 32, 0⟩, some ⟨[.agg [.int .i64 x_14, .int .i64 x_15, .int .i64 x_16, .int .i64 x_17, .int .i64 x_18, .str w_19, .list 2 e_20 f_21]], 7, 55, 0⟩] K) x_2 x_10 (kk0_spec_l3Links_0 K x_1 e_3 f_4 x_5 x_6 e_7 f_8 x_9 e_11 f_12 x_13 x_14 x_15 x_16 x_17 x_18 w_19 e_20 f_21) := by kernel_rfl
theorem w_spec_l3Links_0 {R : Type} (N : Nat) (x_1 : Int) (e_3 : List V) (f_4 : Fl) (x_5 x_6 : Int) (e_7 : List V) (f_8 : Fl) (x_9 : Int) (e_11 : List V) (f_12 : Fl) (x_13 x_14 x_15 x_16 x_17 x_18 : Int) (w_19 : ByteArray) (e_20 : List V) (f_21 : Fl) (K : X → List V → S → Option R) : ∀ (n : Nat) (x_2 x_10 : Int),
  it_spec_l3Links_0 N n (fr_spec_l3Links_0 x_1 e_3 f_4 x_5 x_6 e_7 f_8 x_9 e_11 f_12 x_13 x_14 x_15 x_16 x_17 x_18 w_19 e_20 f_21 x_2 x_10) [some ⟨[.agg [.list 7 e_11 f_12, .int .i64 x_13]], 2, 32, 0⟩, some ⟨[.agg [.int .i64 x_14, .int .i64 x_15, .int .i64 x_16, .int .i64 x_17, .int .i64 x_18, .str w_19, .list 2 e_20 f_21]], 7, 55, 0⟩] K = l_spec_l3Links_0 N x_1 e_3 f_4 x_5 x_6 e_7 f_8 x_9 e_11 f_12 x_13 x_14 x_15 x_16 x_17 x_18 w_19 e_20 f_21 (kk0_spec_l3Links_0 K x_1 e_3 f_4 x_5 x_6 e_7 f_8 x_9 e_11 f_12 x_13 x_14 x_15 x_16 x_17 x_18 w_19 e_20 f_21) n x_2 x_10
  | 0, _, _ => rfl
  | n + 1, x_2, x_10 => (r_spec_l3Links_0 N n x_1 e_3 f_4 x_5 x_6 e_7 f_8 x_9 e_11 f_12 x_13 x_14 x_15 x_16 x_17 x_18 w_19 e_20 f_21 x_2 x_10 K).trans (congrArg (fun nx => l_spec_l3Links_0_step N x_1 e_3 f_4 x_5 x_6 e_7 f_8 x_9 e_11 f_12 x_13 x_14 x_15 x_16 x_17 x_18 w_19 e_20 f_21 nx x_2 x_10 (kk0_spec_l3Links_0 K x_1 e_3 f_4 x_5 x_6 e_7 f_8 x_9 e_11 f_12 x_13 x_14 x_15 x_16 x_17 x_18 w_19 e_20 f_21)) (funext fun x_2 => funext fun x_10 => w_spec_l3Links_0 N x_1 e_3 f_4 x_5 x_6 e_7 f_8 x_9 e_11 f_12 x_13 x_14 x_15 x_16 x_17 x_18 w_19 e_20 f_21 K n x_2 x_10))
def i_spec_l3Links_0 {R : Type} (E : List V) (s : S) (k : Int → Int → List V → Fl → Int → Int → List V → Fl → Int → Int → List V → Fl → Int → Int → Int → Int → Int → Int → ByteArray → List V → Fl → Option R) : Option R :=
  guardB (frameOk 33 [1, 5, 11, 12, 13, 18, 19, 20] E) <| atInt E 1 .i64 fun x_1 => atInt E 5 .i64 fun x_2 => atList E 11 7 fun e_3 f_4 => atInt E 12 .i64 fun x_5 => atInt E 13 .i64 fun x_6 => atList E 18 2 fun e_7 f_8 => atInt E 19 .i64 fun x_9 => atInt E 20 .i64 fun x_10 => asOb s fun o'1 s'2 => obIs o'1 2 32 fun e'3 k'4 => isN k'4 0 <| asN1 e'3 fun v'5 => asAgg v'5 fun c'6 => asN2 c'6 fun v'7 v'8 => asList 7 v'7 fun e_11 f_12 => asInt .i64 v'8 fun x_13 => asOb s'2 fun o'9 s'10 => obIs o'9 7 55 fun e'11 k'12 => isN k'12 0 <| asN1 e'11 fun v'13 => asAgg v'13 fun c'14 => asN7 c'14 fun v'15 v'16 v'17 v'18 v'19 v'20 v'21 => asInt .i64 v'15 fun x_14 => asInt .i64 v'16 fun x_15 => asInt .i64 v'17 fun x_16 => asInt .i64 v'18 fun x_17 => asInt .i64 v'19 fun x_18 => asStr v'20 fun w_19 => asList 2 v'21 fun e_20 f_21 => asEnd s'10 <| k x_1 x_2 e_3 f_4 x_5 x_6 e_7 f_8 x_9 x_10 e_11 f_12 x_13 x_14 x_15 x_16 x_17 x_18 w_19 e_20 f_21
theorem i_spec_l3Links_0_spec {R : Type} {E : List V} {s : S} {k : Int → Int → List V → Fl → Int → Int → List V → Fl → Int → Int → List V → Fl → Int → Int → Int → Int → Int → Int → ByteArray → List V → Fl → Option R} {r : R} (h : i_spec_l3Links_0 E s k = some r) : ∃ x_1 x_2 e_3 f_4 x_5 x_6 e_7 f_8 x_9 x_10 e_11 f_12 x_13 x_14 x_15 x_16 x_17 x_18 w_19 e_20 f_21, E = fr_spec_l3Links_0 x_1 e_3 f_4 x_5 x_6 e_7 f_8 x_9 e_11 f_12 x_13 x_14 x_15 x_16 x_17 x_18 w_19 e_20 f_21 x_2 x_10 ∧ s = [some ⟨[.agg [.list 7 e_11 f_12, .int .i64 x_13]], 2, 32, 0⟩, some ⟨[.agg [.int .i64 x_14, .int .i64 x_15, .int .i64 x_16, .int .i64 x_17, .int .i64 x_18, .str w_19, .list 2 e_20 f_21]], 7, 55, 0⟩] ∧ k x_1 x_2 e_3 f_4 x_5 x_6 e_7 f_8 x_9 x_10 e_11 f_12 x_13 x_14 x_15 x_16 x_17 x_18 w_19 e_20 f_21 = some r := by
  unfold i_spec_l3Links_0 at h
  obtain ⟨hg, h1⟩ := guardB_some h
  obtain ⟨_, hu1, h2⟩ := atInt_some h1
  obtain ⟨_, hu5, h3⟩ := atInt_some h2
  obtain ⟨_, _, hu11, h4⟩ := atList_some h3
  obtain ⟨_, hu12, h5⟩ := atInt_some h4
  obtain ⟨_, hu13, h6⟩ := atInt_some h5
  obtain ⟨_, _, hu18, h7⟩ := atList_some h6
  obtain ⟨_, hu19, h8⟩ := atInt_some h7
  obtain ⟨_, hu20, h9⟩ := atInt_some h8
  obtain ⟨_, _, rfl, h10⟩ := asOb_some h9
  obtain ⟨_, _, rfl, h11⟩ := obIs_some h10
  obtain ⟨rfl, h12⟩ := isN_some h11
  obtain ⟨_, rfl, h13⟩ := asN1_some h12
  obtain ⟨_, rfl, h14⟩ := asAgg_some h13
  obtain ⟨_, _, rfl, h15⟩ := asN2_some h14
  obtain ⟨_, _, rfl, h16⟩ := asList_some h15
  obtain ⟨_, rfl, h17⟩ := asInt_some h16
  obtain ⟨_, _, rfl, h18⟩ := asOb_some h17
  obtain ⟨_, _, rfl, h19⟩ := obIs_some h18
  obtain ⟨rfl, h20⟩ := isN_some h19
  obtain ⟨_, rfl, h21⟩ := asN1_some h20
  obtain ⟨_, rfl, h22⟩ := asAgg_some h21
  obtain ⟨_, _, _, _, _, _, _, rfl, h23⟩ := asN7_some h22
  obtain ⟨_, rfl, h24⟩ := asInt_some h23
  obtain ⟨_, rfl, h25⟩ := asInt_some h24
  obtain ⟨_, rfl, h26⟩ := asInt_some h25
  obtain ⟨_, rfl, h27⟩ := asInt_some h26
  obtain ⟨_, rfl, h28⟩ := asInt_some h27
  obtain ⟨_, rfl, h29⟩ := asStr_some h28
  obtain ⟨_, _, rfl, h30⟩ := asList_some h29
  obtain ⟨rfl, h31⟩ := asEnd_some h30
  exact ⟨_, _, _, _, _, _, _, _, _, _, _, _, _, _, _, _, _, _, _, _, _, frame_is hg rfl (slots_cons hu1 (slots_cons hu5 (slots_cons hu11 (slots_cons hu12 (slots_cons hu13 (slots_cons hu18 (slots_cons hu19 (slots_cons hu20 slots_nil)))))))), rfl, h31⟩
noncomputable def Λ_spec_l3Links_0 (N : Nat) : Looper := (noLooper).add [0, 1, 1, 0, 0, 1, 1, 0, 0, 1, 0, 1, 1] fun _ E s K => i_spec_l3Links_0 (killE ks_spec_l3Links_0 E) s fun x_1 x_2 e_3 f_4 x_5 x_6 e_7 f_8 x_9 x_10 e_11 f_12 x_13 x_14 x_15 x_16 x_17 x_18 w_19 e_20 f_21 => l_spec_l3Links_0 N x_1 e_3 f_4 x_5 x_6 e_7 f_8 x_9 e_11 f_12 x_13 x_14 x_15 x_16 x_17 x_18 w_19 e_20 f_21 (kk0_spec_l3Links_0 K x_1 e_3 f_4 x_5 x_6 e_7 f_8 x_9 e_11 f_12 x_13 x_14 x_15 x_16 x_17 x_18 w_19 e_20 f_21) N x_2 x_10
theorem ok_spec_l3Links_0 {N : Nat} (hC : Ok Tryd.prog C) (hΦ : CalleeOk Tryd.prog C (Φ_laws_eqFs N)) : LoopOk Tryd.prog C (Λ_spec_l3Links_0 N) b_spec_l3Links_0 [0, 1, 1, 0, 0, 1, 1, 0, 0, 1, 0, 1, 1] :=
  iter_ok (Λi := noLooper) (tr := true) (ks := ks_spec_l3Links_0) (kx := kx_spec_l3Links_0) (N := N) hC hΦ
    (loopsOk_nil (by kernel_rfl))
    fun R E s K r h => by
      have h2 := Looper.add_self.symm.trans h
      obtain ⟨_, _, _, _, _, _, _, _, _, _, _, _, _, _, _, _, _, _, _, _, _, he, rfl, h3⟩ := i_spec_l3Links_0_spec h2
      rw [he]
      exact (w_spec_l3Links_0 N _ _ _ _ _ _ _ _ _ _ _ _ _ _ _ _ _ _ _ _ N _ _).trans h3
def ks_spec_l3Links_1 : List Nat := butL 33 [1, 5, 11, 12, 13]
def kx_spec_l3Links_1 : List Nat := butL 33 [5]
def fr_spec_l3Links_1 (x_1 : Int) (e_3 : List V) (f_4 : Fl) (x_5 : Int) (e_7 : List V) (f_8 : Fl) (x_9 x_2 x_6 : Int) : List V := mkF 0 33 [(1, .int .i64 x_1), (5, .int .i64 x_2), (11, .list 7 e_3 f_4), (12, .int .i64 x_5), (13, .int .i64 x_6)]
def kk0_spec_l3Links_1 {R : Type} (K : X → List V → S → Option R) (x_1 : Int) (e_3 : List V) (f_4 : Fl) (x_5 : Int) (e_7 : List V) (f_8 : Fl) (x_9 : Int) : Int → Option R := (fun x_1' => K (.exit 0) (mkF 0 33 [(5, .int .i64 (x_1'))]) [some ⟨[.agg [.list 7 e_7 f_8, .int .i64 x_9]], 2, 32, 0⟩])
noncomputable abbrev it_spec_l3Links_1 {R : Type} (N : Nat) : Nat → List V → S → (X → List V → S → Option R) → Option R := fun n => iter C (Φ_laws_eqFs N) (Λ_spec_l3Links_0 N) b_spec_l3Links_1 [0, 1, 0, 1, 1] true ks_spec_l3Links_1 kx_spec_l3Links_1 n R
theorem r_spec_l3Links_1 {R : Type} (N n : Nat) (x_1 : Int) (e_3 : List V) (f_4 : Fl) (x_5 : Int) (e_7 : List V) (f_8 : Fl) (x_9 : Int) (x_2 x_6 : Int) (K : X → List V → S → Option R) :
  it_spec_l3Links_1 N (n + 1) (fr_spec_l3Links_1 x_1 e_3 f_4 x_5 e_7 f_8 x_9 x_2 x_6) [some ⟨[.agg [.list 7 e_7 f_8, .int .i64 x_9]], 2, 32, 0⟩] K =
  l_spec_l3Links_1_step N x_1 e_3 f_4 x_5 e_7 f_8 x_9 (fun x_2 x_6 => it_spec_l3Links_1 N n (fr_spec_l3Links_1 x_1 e_3 f_4 x_5 e_7 f_8 x_9 x_2 x_6) [some ⟨[.agg [.list 7 e_7 f_8, .int .i64 x_9]], 2, 32, 0⟩] K) x_2 x_6 (kk0_spec_l3Links_1 K x_1 e_3 f_4 x_5 e_7 f_8 x_9) := by kernel_rfl
theorem w_spec_l3Links_1 {R : Type} (N : Nat) (x_1 : Int) (e_3 : List V) (f_4 : Fl) (x_5 : Int) (e_7 : List V) (f_8 : Fl) (x_9 : Int) (K : X → List V → S → Option R) : ∀ (n : Nat) (x_2 x_6 : Int),
  it_spec_l3Links_1 N n (fr_spec_l3Links_1 x_1 e_3 f_4 x_5 e_7 f_8 x_9 x_2 x_6) [some ⟨[.agg [.list 7 e_7 f_8, .int .i64 x_9]], 2, 32, 0⟩] K = l_spec_l3Links_1 N x_1 e_3 f_4 x_5 e_7 f_8 x_9 (kk0_spec_l3Links_1 K x_1 e_3 f_4 x_5 e_7 f_8 x_9) n x_2 x_6
  | 0, _, _ => rfl
  | n + 1, x_2, x_6 => (r_spec_l3Links_1 N n x_1 e_3 f_4 x_5 e_7 f_8 x_9 x_2 x_6 K).trans (congrArg (fun nx => l_spec_l3Links_1_step N x_1 e_3 f_4 x_5 e_7 f_8 x_9 nx x_2 x_6 (kk0_spec_l3Links_1 K x_1 e_3 f_4 x_5 e_7 f_8 x_9)) (funext fun x_2 => funext fun x_6 => w_spec_l3Links_1 N x_1 e_3 f_4 x_5 e_7 f_8 x_9 K n x_2 x_6))
def i_spec_l3Links_1 {R : Type} (E : List V) (s : S) (k : Int → Int → List V → Fl → Int → Int → List V → Fl → Int → Option R) : Option R :=
  guardB (frameOk 33 [1, 5, 11, 12, 13] E) <| atInt E 1 .i64 fun x_1 => atInt E 5 .i64 fun x_2 => atList E 11 7 fun e_3 f_4 => atInt E 12 .i64 fun x_5 => atInt E 13 .i64 fun x_6 => asOb s fun o'1 s'2 => obIs o'1 2 32 fun e'3 k'4 => isN k'4 0 <| asN1 e'3 fun v'5 => asAgg v'5 fun c'6 => asN2 c'6 fun v'7 v'8 => asList 7 v'7 fun e_7 f_8 => asInt .i64 v'8 fun x_9 => asEnd s'2 <| k x_1 x_2 e_3 f_4 x_5 x_6 e_7 f_8 x_9
theorem i_spec_l3Links_1_spec {R : Type} {E : List V} {s : S} {k : Int → Int → List V → Fl → Int → Int → List V → Fl → Int → Option R} {r : R} (h : i_spec_l3Links_1 E s k = some r) : ∃ x_1 x_2 e_3 f_4 x_5 x_6 e_7 f_8 x_9, E = fr_spec_l3Links_1 x_1 e_3 f_4 x_5 e_7 f_8 x_9 x_2 x_6 ∧ s = [some ⟨[.agg [.list 7 e_7 f_8, .int .i64 x_9]], 2, 32, 0⟩] ∧ k x_1 x_2 e_3 f_4 x_5 x_6 e_7 f_8 x_9 = some r := by
  unfold i_spec_l3Links_1 at h
  obtain ⟨hg, h1⟩ := guardB_some h
  obtain ⟨_, hu1, h2⟩ := atInt_some h1
  obtain ⟨_, hu5, h3⟩ := atInt_some h2
  obtain ⟨_, _, hu11, h4⟩ := atList_some h3
  obtain ⟨_, hu12, h5⟩ := atInt_some h4
  obtain ⟨_, hu13, h6⟩ := atInt_some h5
  obtain ⟨_, _, rfl, h7⟩ := asOb_some h6
  obtain ⟨_, _, rfl, h8⟩ := obIs_some h7
  obtain ⟨rfl, h9⟩ := isN_some h8
  obtain ⟨_, rfl, h10⟩ := asN1_some h9
  obtain ⟨_, rfl, h11⟩ := asAgg_some h10
  obtain ⟨_, _, rfl, h12⟩ := asN2_some h11
  obtain ⟨_, _, rfl, h13⟩ := asList_some h12
  obtain ⟨_, rfl, h14⟩ := asInt_some h13
  obtain ⟨rfl, h15⟩ := asEnd_some h14
  exact ⟨_, _, _, _, _, _, _, _, _, frame_is hg rfl (slots_cons hu1 (slots_cons hu5 (slots_cons hu11 (slots_cons hu12 (slots_cons hu13 slots_nil))))), rfl, h15⟩
noncomputable def Λ_spec_l3Links_1 (N : Nat) : Looper := (Λ_spec_l3Links_0 N).add [0, 1, 0, 1, 1] fun _ E s K => i_spec_l3Links_1 (killE ks_spec_l3Links_1 E) s fun x_1 x_2 e_3 f_4 x_5 x_6 e_7 f_8 x_9 => l_spec_l3Links_1 N x_1 e_3 f_4 x_5 e_7 f_8 x_9 (kk0_spec_l3Links_1 K x_1 e_3 f_4 x_5 e_7 f_8 x_9) N x_2 x_6
theorem in_spec_l3Links_1 : loopsAt b_spec_l3Links_1 (0 :: [0, 1, 0, 1, 1]) = [([0, 1, 1, 0, 0, 1, 1, 0, 0, 1, 0, 1, 1], b_spec_l3Links_0)] := by kernel_rfl
theorem ok_spec_l3Links_1 {N : Nat} (hC : Ok Tryd.prog C) (hΦ : CalleeOk Tryd.prog C (Φ_laws_eqFs N)) : LoopOk Tryd.prog C (Λ_spec_l3Links_1 N) b_spec_l3Links_1 [0, 1, 0, 1, 1] :=
  iter_ok (Λi := Λ_spec_l3Links_0 N) (tr := true) (ks := ks_spec_l3Links_1) (kx := kx_spec_l3Links_1) (N := N) hC hΦ
    (loopsOk_of b_spec_l3Links_1 _ (by
      rw [in_spec_l3Links_1]
      intro p hp
      simp only [List.mem_cons, List.mem_nil_iff, or_false] at hp
      rcases hp with rfl
      · exact (ok_spec_l3Links_0 hC hΦ)))
    fun R E s K r h => by
      have h2 := Looper.add_self.symm.trans h
      obtain ⟨_, _, _, _, _, _, _, _, _, he, rfl, h3⟩ := i_spec_l3Links_1_spec h2
      rw [he]
      exact (w_spec_l3Links_1 N _ _ _ _ _ _ _ _ N _ _).trans h3
theorem at_spec_l3Links : loopsAt c_spec_l3Links [] = [([0, 1, 0, 1, 1], b_spec_l3Links_1)] := by kernel_rfl
theorem b_spec_l3Links {R : Type} (N : Nat) (e_1 : List V) (f_2 : Fl) (x_3 x_4 : Int) (K : V → S → Option R) : bodyV C (Φ_laws_eqFs N) (Λ_spec_l3Links_1 N) 50 Tryd.f50 [.agg [.list 7 e_1 f_2, .int .i64 x_3], .int .i64 x_4] [] K =
  gb_spec_l3Links N e_1 f_2 x_3 x_4 (fun x_5 => K (.int .i64 x_5) []) := by kernel_rfl
theorem loops_spec_l3Links {N : Nat} (hC : Ok Tryd.prog C) (hΦ : CalleeOk Tryd.prog C (Φ_laws_eqFs N)) : LoopsOk Tryd.prog C (Λ_spec_l3Links_1 N) c_spec_l3Links [] :=
  loopsOk_of c_spec_l3Links [] (by
    rw [at_spec_l3Links]
    intro p hp
    simp only [List.mem_cons, List.mem_nil_iff, or_false] at hp
    rcases hp with rfl
    · exact (ok_spec_l3Links_1 hC hΦ))
theorem callee_spec_l3Links (hC : Ok Tryd.prog C) {N : Nat} (hΦ : CalleeOk Tryd.prog C (Φ_laws_eqFs N)) : CalleeOk Tryd.prog C (Φ_spec_l3Links N) := by
  refine hΦ.add_pure rfl fun R vs K r h => ?_
  unfold f_spec_l3Links at h
  obtain ⟨_, _, rfl, h1⟩ := asN2_some h
  obtain ⟨_, _, _, rfl, h2⟩ := un_impl_Fs_some h1
  obtain ⟨_, rfl, h3⟩ := asInt_some h2
  obtain ⟨_, h4⟩ := asEnd_some h3
  refine body_pure (fn := Tryd.f50) (c := c_spec_l3Links) hC hΦ Tryd.func50 (by kernel_rfl) (by kernel_rfl) (loops_spec_l3Links (N := N) hC hΦ) rfl rfl ?_
  refine (b_spec_l3Links N _ _ _ _ _).trans ?_
  rw [← g_spec_l3Links_eq]
  exact h4

/-! ### loop.example/g00756/spec.l1In -/
noncomputable def f_spec_l1In (N : Nat) : (R : Type) → List V → S → (V → S → Option R) → Option R := fun _ vs s K =>
  asN3 vs fun v'1 v'2 v'3 => asInt .i64 v'1 fun x_1 => asInt .i64 v'2 fun x_2 => asInt .i64 v'3 fun x_3 => asEnd s <| g_spec_l1In N x_1 x_2 x_3 (fun b_4 => K (.bool b_4) [])
noncomputable def Φ_spec_l1In (N : Nat) : Callee := (Φ_spec_l3Links N).add 52 (f_spec_l1In N)
noncomputable def c_spec_l1In : Code := bodyOf Tryd.f52
theorem b_spec_l1In {R : Type} (N : Nat) (x_1 x_2 x_3 : Int) (K : V → S → Option R) : bodyV C (Φ_spec_l3Links N) (noLooper) 52 Tryd.f52 [.int .i64 x_1, .int .i64 x_2, .int .i64 x_3] [] K =
  gb_spec_l1In N x_1 x_2 x_3 (fun b_4 => K (.bool b_4) []) := by kernel_rfl
theorem callee_spec_l1In (hC : Ok Tryd.prog C) {N : Nat} (hΦ : CalleeOk Tryd.prog C (Φ_spec_l3Links N)) : CalleeOk Tryd.prog C (Φ_spec_l1In N) := by
  refine hΦ.add_pure rfl fun R vs K r h => ?_
  unfold f_spec_l1In at h
  obtain ⟨_, _, _, rfl, h1⟩ := asN3_some h
  obtain ⟨_, rfl, h2⟩ := asInt_some h1
  obtain ⟨_, rfl, h3⟩ := asInt_some h2
  obtain ⟨_, rfl, h4⟩ := asInt_some h3
  obtain ⟨_, h5⟩ := asEnd_some h4
  refine body_pure (fn := Tryd.f52) (c := c_spec_l1In) hC hΦ Tryd.func52 (by kernel_rfl) (by kernel_rfl) (loopsOk_nil (Λ := noLooper) (by kernel_rfl)) rfl rfl ?_
  refine (b_spec_l1In N _ _ _ _).trans ?_
  rw [← g_spec_l1In_eq]
  exact h5

/-! ### loop.example/g00756/spec.l3Bytes -/
noncomputable def f_spec_l3Bytes (N : Nat) : (R : Type) → List V → S → (V → S → Option R) → Option R := fun _ vs s K =>
  asN1 vs fun v'1 => un_impl_Fs v'1 fun e_1 f_2 x_3 => asEnd s <| g_spec_l3Bytes N e_1 f_2 x_3 (fun x_4 => K (.int .i64 x_4) [])
noncomputable def Φ_spec_l3Bytes (N : Nat) : Callee := (Φ_spec_l1In N).add 53 (f_spec_l3Bytes N)
noncomputable def c_spec_l3Bytes : Code := bodyOf Tryd.f53
noncomputable def b_spec_l3Bytes_0 : Code := (loopNo c_spec_l3Bytes [] 0).2
def ks_spec_l3Bytes_0 : List Nat := butL 20 [3, 7, 8, 9]
def kx_spec_l3Bytes_0 : List Nat := butL 20 [3]
def fr_spec_l3Bytes_0 (e_2 : List V) (f_3 : Fl) (x_4 : Int) (e_6 : List V) (f_7 : Fl) (x_8 x_1 x_5 : Int) : List V := mkF 0 20 [(3, .int .i64 x_1), (7, .list 7 e_2 f_3), (8, .int .i64 x_4), (9, .int .i64 x_5)]
def kk0_spec_l3Bytes_0 {R : Type} (K : X → List V → S → Option R) (e_2 : List V) (f_3 : Fl) (x_4 : Int) (e_6 : List V) (f_7 : Fl) (x_8 : Int) : Int → Option R := (fun x_1' => K (.exit 0) (mkF 0 20 [(3, .int .i64 (x_1'))]) [some ⟨[.agg [.list 7 e_6 f_7, .int .i64 x_8]], 2, 32, 0⟩])
noncomputable abbrev it_spec_l3Bytes_0 {R : Type} (N : Nat) : Nat → List V → S → (X → List V → S → Option R) → Option R := fun n => iter C (Φ_spec_l1In N) (noLooper) b_spec_l3Bytes_0 [0, 1, 0, 1, 1] true ks_spec_l3Bytes_0 kx_spec_l3Bytes_0 n R
theorem r_spec_l3Bytes_0 {R : Type} (N n : Nat) (e_2 : List V) (f_3 : Fl) (x_4 : Int) (e_6 : List V) (f_7 : Fl) (x_8 : Int) (x_1 x_5 : Int) (K : X → List V → S → Option R) :
  it_spec_l3Bytes_0 N (n + 1) (fr_spec_l3Bytes_0 e_2 f_3 x_4 e_6 f_7 x_8 x_1 x_5) [some ⟨[.agg [.list 7 e_6 f_7, .int .i64 x_8]], 2, 32, 0⟩] K =
  l_spec_l3Bytes_0_step N e_2 f_3 x_4 e_6 f_7 x_8 (fun x_1 x_5 => it_spec_l3Bytes_0 N n (fr_spec_l3Bytes_0 e_2 f_3 x_4 e_6 f_7 x_8 x_1 x_5) [some ⟨[.agg [.list 7 e_6 f_7, .int .i64 x_8]], 2, 32, 0⟩] K) x_1 x_5 (kk0_spec_l3Bytes_0 K e_2 f_3 x_4 e_6 f_7 x_8) := by kernel_rfl
theorem w_spec_l3Bytes_0 {R : Type} (N : Nat) (e_2 : List V) (f_3 : Fl) (x_4 : Int) (e_6 : List V) (f_7 : Fl) (x_8 : Int) (K : X → List V → S → Option R) : ∀ (n : Nat) (x_1 x_5 : Int),
  it_spec_l3Bytes_0 N n (fr_spec_l3Bytes_0 e_2 f_3 x_4 e_6 f_7 x_8 x_1 x_5) [some ⟨[.agg [.list 7 e_6 f_7, .int .i64 x_8]], 2, 32, 0⟩] K = l_spec_l3Bytes_0 N e_2 f_3 x_4 e_6 f_7 x_8 (kk0_spec_l3Bytes_0 K e_2 f_3 x_4 e_6 f_7 x_8) n x_1 x_5
  | 0, _, _ => rfl
  | n + 1, x_1, x_5 => (r_spec_l3Bytes_0 N n e_2 f_3 x_4 e_6 f_7 x_8 x_1 x_5 K).trans (congrArg (fun nx => l_spec_l3Bytes_0_step N e_2 f_3 x_4 e_6 f_7 x_8 nx x_1 x_5 (kk0_spec_l3Bytes_0 K e_2 f_3 x_4 e_6 f_7 x_8)) (funext fun x_1 => funext fun x_5 => w_spec_l3Bytes_0 N e_2 f_3 x_4 e_6 f_7 x_8 K n x_1 x_5))
def i_spec_l3Bytes_0 {R : Type} (E : List V) (s : S) (k : Int → List V → Fl → Int → Int → List V → Fl → Int → Option R) : Option R :=
  guardB (frameOk 20 [3, 7, 8, 9] E) <| atInt E 3 .i64 fun x_1 => atList E 7 7 fun e_2 f_3 => atInt E 8 .i64 fun x_4 => atInt E 9 .i64 fun x_5 => asOb s fun o'1 s'2 => obIs o'1 2 32 fun e'3 k'4 => isN k'4 0 <| asN1 e'3 fun v'5 => asAgg v'5 fun c'6 => asN2 c'6 fun v'7 v'8 => asList 7 v'7 fun e_6 f_7 => asInt .i64 v'8 fun x_8 => asEnd s'2 <| k x_1 e_2 f_3 x_4 x_5 e_6 f_7 x_8
theorem i_spec_l3Bytes_0_spec {R : Type} {E : List V} {s : S} {k : Int → List V → Fl → Int → Int → List V → Fl → Int → Option R} {r : R} (h : i_spec_l3Bytes_0 E s k = some r) : ∃ x_1 e_2 f_3 x_4 x_5 e_6 f_7 x_8, E = fr_spec_l3Bytes_0 e_2 f_3 x_4 e_6 f_7 x_8 x_1 x_5 ∧ s = [some ⟨[.agg [.list 7 e_6 f_7, .int .i64 x_8]], 2, 32, 0⟩] ∧ k x_1 e_2 f_3 x_4 x_5 e_6 f_7 x_8 = some r := by
  unfold i_spec_l3Bytes_0 at h
  obtain ⟨hg, h1⟩ := guardB_some h
  obtain ⟨_, hu3, h2⟩ := atInt_some h1
  obtain ⟨_, _, hu7, h3⟩ := atList_some h2
  obtain ⟨_, hu8, h4⟩ := atInt_some h3
  obtain ⟨_, hu9, h5⟩ := atInt_some h4
  obtain ⟨_, _, rfl, h6⟩ := asOb_some h5
  obtain ⟨_, _, rfl, h7⟩ := obIs_some h6
  obtain ⟨rfl, h8⟩ := isN_some h7
  obtain ⟨_, rfl, h9⟩ := asN1_some h8
  obtain ⟨_, rfl, h10⟩ := asAgg_some h9
  obtain ⟨_, _, rfl, h11⟩ := asN2_some h10
  obtain ⟨_, _, rfl, h12⟩ := asList_some h11
  obtain ⟨_, rfl, h13⟩ := asInt_some h12
  obtain ⟨rfl, h14⟩ := asEnd_some h13
  exact ⟨_, _, _, _, _, _, _, _, frame_is hg rfl (slots_cons hu3 (slots_cons hu7 (slots_cons hu8 (slots_cons hu9 slots_nil)))), rfl, h14⟩
noncomputable def Λ_spec_l3Bytes_0 (N : Nat) : Looper := (noLooper).add [0, 1, 0, 1, 1] fun _ E s K => i_spec_l3Bytes_0 (killE ks_spec_l3Bytes_0 E) s fun x_1 e_2 f_3 x_4 x_5 e_6 f_7 x_8 => l_spec_l3Bytes_0 N e_2 f_3 x_4 e_6 f_7 x_8 (kk0_spec_l3Bytes_0 K e_2 f_3 x_4 e_6 f_7 x_8) N x_1 x_5
theorem ok_spec_l3Bytes_0 {N : Nat} (hC : Ok Tryd.prog C) (hΦ : CalleeOk Tryd.prog C (Φ_spec_l1In N)) : LoopOk Tryd.prog C (Λ_spec_l3Bytes_0 N) b_spec_l3Bytes_0 [0, 1, 0, 1, 1] :=
  iter_ok (Λi := noLooper) (tr := true) (ks := ks_spec_l3Bytes_0) (kx := kx_spec_l3Bytes_0) (N := N) hC hΦ
    (loopsOk_nil (by kernel_rfl))
    fun R E s K r h => by
      have h2 := Looper.add_self.symm.trans h
      obtain ⟨_, _, _, _, _, _, _, _, he, rfl, h3⟩ := i_spec_l3Bytes_0_spec h2
      rw [he]
      exact (w_spec_l3Bytes_0 N _ _ _ _ _ _ _ N _ _).trans h3
theorem at_spec_l3Bytes : loopsAt c_spec_l3Bytes [] = [([0, 1, 0, 1, 1], b_spec_l3Bytes_0)] := by kernel_rfl
theorem b_spec_l3Bytes {R : Type} (N : Nat) (e_1 : List V) (f_2 : Fl) (x_3 : Int) (K : V → S → Option R) : bodyV C (Φ_spec_l1In N) (Λ_spec_l3Bytes_0 N) 53 Tryd.f53 [.agg [.list 7 e_1 f_2, .int .i64 x_3]] [] K =
  gb_spec_l3Bytes N e_1 f_2 x_3 (fun x_4 => K (.int .i64 x_4) []) := by kernel_rfl
theorem loops_spec_l3Bytes {N : Nat} (hC : Ok Tryd.prog C) (hΦ : CalleeOk Tryd.prog C (Φ_spec_l1In N)) : LoopsOk Tryd.prog C (Λ_spec_l3Bytes_0 N) c_spec_l3Bytes [] :=
  loopsOk_of c_spec_l3Bytes [] (by
    rw [at_spec_l3Bytes]
    intro p hp
    simp only [List.mem_cons, List.mem_nil_iff, or_false] at hp
    rcases hp with rfl
    · exact (ok_spec_l3Bytes_0 hC hΦ))
theorem callee_spec_l3Bytes (hC : Ok Tryd.prog C) {N : Nat} (hΦ : CalleeOk Tryd.prog C (Φ_spec_l1In N)) : CalleeOk Tryd.prog C (Φ_spec_l3Bytes N) := by
  refine hΦ.add_pure rfl fun R vs K r h => ?_
  unfold f_spec_l3Bytes at h
  obtain ⟨_, rfl, h1⟩ := asN1_some h
  obtain ⟨_, _, _, rfl, h2⟩ := un_impl_Fs_some h1
  obtain ⟨_, h3⟩ := asEnd_some h2
  refine body_pure (fn := Tryd.f53) (c := c_spec_l3Bytes) hC hΦ Tryd.func53 (by kernel_rfl) (by kernel_rfl) (loops_spec_l3Bytes (N := N) hC hΦ) rfl rfl ?_
  refine (b_spec_l3Bytes N _ _ _ _).trans ?_
  rw [← g_spec_l3Bytes_eq]
  exact h3

/-! ### loop.example/g00756/spec.l1Split -/
noncomputable def f_spec_l1Split (N : Nat) : (R : Type) → List V → S → (V → S → Option R) → Option R := fun _ vs s K =>
  asN2 vs fun v'1 v'2 => asStr v'1 fun w_1 => asInt .u8 v'2 fun x_2 => asEnd s <| g_spec_l1Split N w_1 x_2 (fun e_3 => K (.list 1 e_3 .sh) [])
noncomputable def Φ_spec_l1Split (N : Nat) : Callee := (Φ_spec_l3Bytes N).add 58 (f_spec_l1Split N)
noncomputable def c_spec_l1Split : Code := bodyOf Tryd.f58
noncomputable def b_spec_l1Split_0 : Code := (loopNo c_spec_l1Split [] 0).2
def ks_spec_l1Split_0 : List Nat := butL 34 [0, 1, 5, 6, 7]
def kx_spec_l1Split_0 : List Nat := butL 34 [0, 5, 6]
def fr_spec_l1Split_0 (w_1 : ByteArray) (x_2 : Int) (e_3 : List V) (x_4 x_5 : Int) : List V := mkF 0 34 [(0, .str w_1), (1, .int .u8 x_2), (5, .list 1 e_3 (.own 9)), (6, .int .i64 x_4), (7, .int .i64 x_5)]
def kk0_spec_l1Split_0 {R : Type} (K : X → List V → S → Option R) (w_1 : ByteArray) (x_2 : Int) : List V → Int → Option R := (fun e_1' x_2' => K (.exit 0) (mkF 0 34 [(0, .str w_1), (5, .list 1 (e_1') (.own 9)), (6, .int .i64 (x_2'))]) [])
noncomputable abbrev it_spec_l1Split_0 {R : Type} (N : Nat) : Nat → List V → S → (X → List V → S → Option R) → Option R := fun n => iter C (Φ_spec_l3Bytes N) (noLooper) b_spec_l1Split_0 [0, 1, 0, 1, 1, 1] false ks_spec_l1Split_0 kx_spec_l1Split_0 n R
theorem r_spec_l1Split_0 {R : Type} (N n : Nat) (w_1 : ByteArray) (x_2 : Int) (e_3 : List V) (x_4 x_5 : Int) (K : X → List V → S → Option R) :
  it_spec_l1Split_0 N (n + 1) (fr_spec_l1Split_0 w_1 x_2 e_3 x_4 x_5) [] K =
  l_spec_l1Split_0_step N w_1 x_2 (fun e_3 x_4 x_5 => it_spec_l1Split_0 N n (fr_spec_l1Split_0 w_1 x_2 e_3 x_4 x_5) [] K) e_3 x_4 x_5 (kk0_spec_l1Split_0 K w_1 x_2) := by kernel_rfl
theorem w_spec_l1Split_0 {R : Type} (N : Nat) (w_1 : ByteArray) (x_2 : Int) (K : X → List V → S → Option R) : ∀ (n : Nat) (e_3 : List V) (x_4 x_5 : Int),
  it_spec_l1Split_0 N n (fr_spec_l1Split_0 w_1 x_2 e_3 x_4 x_5) [] K = l_spec_l1Split_0 N w_1 x_2 (kk0_spec_l1Split_0 K w_1 x_2) n e_3 x_4 x_5
  | 0, _, _, _ => rfl
  | n + 1, e_3, x_4, x_5 => (r_spec_l1Split_0 N n w_1 x_2 e_3 x_4 x_5 K).trans (congrArg (fun nx => l_spec_l1Split_0_step N w_1 x_2 nx e_3 x_4 x_5 (kk0_spec_l1Split_0 K w_1 x_2)) (funext fun e_3 => funext fun x_4 => funext fun x_5 => w_spec_l1Split_0 N w_1 x_2 K n e_3 x_4 x_5))
def i_spec_l1Split_0 {R : Type} (E : List V) (s : S) (k : ByteArray → Int → List V → Int → Int → Option R) : Option R :=
  guardB (frameOk 34 [0, 1, 5, 6, 7] E) <| atStr E 0 fun w_1 => atInt E 1 .u8 fun x_2 => must (nth E 5) fun u5 => asList 1 u5 fun e_3 f'1 => asOwn 9 f'1 <| atInt E 6 .i64 fun x_4 => atInt E 7 .i64 fun x_5 => asEnd s <| k w_1 x_2 e_3 x_4 x_5
theorem i_spec_l1Split_0_spec {R : Type} {E : List V} {s : S} {k : ByteArray → Int → List V → Int → Int → Option R} {r : R} (h : i_spec_l1Split_0 E s k = some r) : ∃ w_1 x_2 e_3 x_4 x_5, E = fr_spec_l1Split_0 w_1 x_2 e_3 x_4 x_5 ∧ s = [] ∧ k w_1 x_2 e_3 x_4 x_5 = some r := by
  unfold i_spec_l1Split_0 at h
  obtain ⟨hg, h1⟩ := guardB_some h
  obtain ⟨_, hu0, h2⟩ := atStr_some h1
  obtain ⟨_, hu1, h3⟩ := atInt_some h2
  obtain ⟨_, hu5, h4⟩ := must_some h3
  obtain ⟨_, _, rfl, h5⟩ := asList_some h4
  obtain ⟨rfl, h6⟩ := asOwn_some h5
  obtain ⟨_, hu6, h7⟩ := atInt_some h6
  obtain ⟨_, hu7, h8⟩ := atInt_some h7
  obtain ⟨rfl, h9⟩ := asEnd_some h8
  exact ⟨_, _, _, _, _, frame_is hg rfl (slots_cons hu0 (slots_cons hu1 (slots_cons hu5 (slots_cons hu6 (slots_cons hu7 slots_nil))))), rfl, h9⟩
noncomputable def Λ_spec_l1Split_0 (N : Nat) : Looper := (noLooper).add [0, 1, 0, 1, 1, 1] fun _ E s K => i_spec_l1Split_0 (killE ks_spec_l1Split_0 E) s fun w_1 x_2 e_3 x_4 x_5 => l_spec_l1Split_0 N w_1 x_2 (kk0_spec_l1Split_0 K w_1 x_2) N e_3 x_4 x_5
theorem ok_spec_l1Split_0 {N : Nat} (hC : Ok Tryd.prog C) (hΦ : CalleeOk Tryd.prog C (Φ_spec_l3Bytes N)) : LoopOk Tryd.prog C (Λ_spec_l1Split_0 N) b_spec_l1Split_0 [0, 1, 0, 1, 1, 1] :=
  iter_ok (Λi := noLooper) (tr := false) (ks := ks_spec_l1Split_0) (kx := kx_spec_l1Split_0) (N := N) hC hΦ
    (loopsOk_nil (by kernel_rfl))
    fun R E s K r h => by
      have h2 := Looper.add_self.symm.trans h
      obtain ⟨_, _, _, _, _, he, rfl, h3⟩ := i_spec_l1Split_0_spec h2
      rw [he]
      exact (w_spec_l1Split_0 N _ _ _ N _ _ _).trans h3
theorem at_spec_l1Split : loopsAt c_spec_l1Split [] = [([0, 1, 0, 1, 1, 1], b_spec_l1Split_0)] := by kernel_rfl
theorem b_spec_l1Split {R : Type} (N : Nat) (w_1 : ByteArray) (x_2 : Int) (K : V → S → Option R) : bodyV C (Φ_spec_l3Bytes N) (Λ_spec_l1Split_0 N) 58 Tryd.f58 [.str w_1, .int .u8 x_2] [] K =
  gb_spec_l1Split N w_1 x_2 (fun e_3 => K (.list 1 e_3 .sh) []) := by kernel_rfl
theorem loops_spec_l1Split {N : Nat} (hC : Ok Tryd.prog C) (hΦ : CalleeOk Tryd.prog C (Φ_spec_l3Bytes N)) : LoopsOk Tryd.prog C (Λ_spec_l1Split_0 N) c_spec_l1Split [] :=
  loopsOk_of c_spec_l1Split [] (by
    rw [at_spec_l1Split]
    intro p hp
    simp only [List.mem_cons, List.mem_nil_iff, or_false] at hp
    rcases hp with rfl
    · exact (ok_spec_l1Split_0 hC hΦ))
theorem callee_spec_l1Split (hC : Ok Tryd.prog C) {N : Nat} (hΦ : CalleeOk Tryd.prog C (Φ_spec_l3Bytes N)) : CalleeOk Tryd.prog C (Φ_spec_l1Split N) := by
  refine hΦ.add_pure rfl fun R vs K r h => ?_
  unfold f_spec_l1Split at h
  obtain ⟨_, _, rfl, h1⟩ := asN2_some h
  obtain ⟨_, rfl, h2⟩ := asStr_some h1
  obtain ⟨_, rfl, h3⟩ := asInt_some h2
  obtain ⟨_, h4⟩ := asEnd_some h3
  refine body_pure (fn := Tryd.f58) (c := c_spec_l1Split) hC hΦ Tryd.func58 (by kernel_rfl) (by kernel_rfl) (loops_spec_l1Split (N := N) hC hΦ) rfl rfl ?_
  refine (b_spec_l1Split N _ _ _).trans ?_
  rw [← g_spec_l1Split_eq]
  exact h4

/-! ### loop.example/g00756/spec.l2Parts -/
noncomputable def f_spec_l2Parts (N : Nat) : (R : Type) → List V → S → (V → S → Option R) → Option R := fun _ vs s K =>
  asN1 vs fun v'1 => asStr v'1 fun w_1 => asEnd s <| g_spec_l2Parts N w_1 (fun e_2 => K (.list 1 e_2 (.own 9)) [])
noncomputable def Φ_spec_l2Parts (N : Nat) : Callee := (Φ_spec_l1Split N).add 35 (f_spec_l2Parts N)
noncomputable def c_spec_l2Parts : Code := bodyOf Tryd.f35
noncomputable def b_spec_l2Parts_0 : Code := (loopNo c_spec_l2Parts [] 0).2
def ks_spec_l2Parts_0 : List Nat := butL 21 [3, 7, 8, 9]
def kx_spec_l2Parts_0 : List Nat := butL 21 [3]
def fr_spec_l2Parts_0 (e_2 : List V) (x_3 : Int) (e_1 : List V) (x_4 : Int) : List V := mkF 0 21 [(3, .list 1 e_1 (.own 9)), (7, .list 1 e_2 .sh), (8, .int .i64 x_3), (9, .int .i64 x_4)]
def kk0_spec_l2Parts_0 {R : Type} (K : X → List V → S → Option R) (e_2 : List V) (x_3 : Int) : List V → Option R := (fun e_1' => K (.exit 0) (mkF 0 21 [(3, .list 1 (e_1') (.own 9))]) [])
noncomputable abbrev it_spec_l2Parts_0 {R : Type} (N : Nat) : Nat → List V → S → (X → List V → S → Option R) → Option R := fun n => iter C (Φ_spec_l1Split N) (noLooper) b_spec_l2Parts_0 [0, 1, 0, 1, 1] false ks_spec_l2Parts_0 kx_spec_l2Parts_0 n R
theorem r_spec_l2Parts_0 {R : Type} (N n : Nat) (e_2 : List V) (x_3 : Int) (e_1 : List V) (x_4 : Int) (K : X → List V → S → Option R) :
  it_spec_l2Parts_0 N (n + 1) (fr_spec_l2Parts_0 e_2 x_3 e_1 x_4) [] K =
  l_spec_l2Parts_0_step N e_2 x_3 (fun e_1 x_4 => it_spec_l2Parts_0 N n (fr_spec_l2Parts_0 e_2 x_3 e_1 x_4) [] K) e_1 x_4 (kk0_spec_l2Parts_0 K e_2 x_3) := by kernel_rfl
theorem w_spec_l2Parts_0 {R : Type} (N : Nat) (e_2 : List V) (x_3 : Int) (K : X → List V → S → Option R) : ∀ (n : Nat) (e_1 : List V) (x_4 : Int),
  it_spec_l2Parts_0 N n (fr_spec_l2Parts_0 e_2 x_3 e_1 x_4) [] K = l_spec_l2Parts_0 N e_2 x_3 (kk0_spec_l2Parts_0 K e_2 x_3) n e_1 x_4
  | 0, _, _ => rfl
  | n + 1, e_1, x_4 => (r_spec_l2Parts_0 N n e_2 x_3 e_1 x_4 K).trans (congrArg (fun nx => l_spec_l2Parts_0_step N e_2 x_3 nx e_1 x_4 (kk0_spec_l2Parts_0 K e_2 x_3)) (funext fun e_1 => funext fun x_4 => w_spec_l2Parts_0 N e_2 x_3 K n e_1 x_4))
def i_spec_l2Parts_0 {R : Type} (E : List V) (s : S) (k : List V → List V → Int → Int → Option R) : Option R :=
  guardB (frameOk 21 [3, 7, 8, 9] E) <| must (nth E 3) fun u3 => asList 1 u3 fun e_1 f'1 => asOwn 9 f'1 <| must (nth E 7) fun u7 => asList 1 u7 fun e_2 f'2 => asSh f'2 <| atInt E 8 .i64 fun x_3 => atInt E 9 .i64 fun x_4 => asEnd s <| k e_1 e_2 x_3 x_4
theorem i_spec_l2Parts_0_spec {R : Type} {E : List V} {s : S} {k : List V → List V → Int → Int → Option R} {r : R} (h : i_spec_l2Parts_0 E s k = some r) : ∃ e_1 e_2 x_3 x_4, E = fr_spec_l2Parts_0 e_2 x_3 e_1 x_4 ∧ s = [] ∧ k e_1 e_2 x_3 x_4 = some r := by
  unfold i_spec_l2Parts_0 at h
  obtain ⟨hg, h1⟩ := guardB_some h
  obtain ⟨_, hu3, h2⟩ := must_some h1
  obtain ⟨_, _, rfl, h3⟩ := asList_some h2
  obtain ⟨rfl, h4⟩ := asOwn_some h3
  obtain ⟨_, hu7, h5⟩ := must_some h4
  obtain ⟨_, _, rfl, h6⟩ := asList_some h5
  obtain ⟨rfl, h7⟩ := asSh_some h6
  obtain ⟨_, hu8, h8⟩ := atInt_some h7
  obtain ⟨_, hu9, h9⟩ := atInt_some h8
  obtain ⟨rfl, h10⟩ := asEnd_some h9
  exact ⟨_, _, _, _, frame_is hg rfl (slots_cons hu3 (slots_cons hu7 (slots_cons hu8 (slots_cons hu9 slots_nil)))), rfl, h10⟩
noncomputable def Λ_spec_l2Parts_0 (N : Nat) : Looper := (noLooper).add [0, 1, 0, 1, 1] fun _ E s K => i_spec_l2Parts_0 (killE ks_spec_l2Parts_0 E) s fun e_1 e_2 x_3 x_4 => l_spec_l2Parts_0 N e_2 x_3 (kk0_spec_l2Parts_0 K e_2 x_3) N e_1 x_4
theorem ok_spec_l2Parts_0 {N : Nat} (hC : Ok Tryd.prog C) (hΦ : CalleeOk Tryd.prog C (Φ_spec_l1Split N)) : LoopOk Tryd.prog C (Λ_spec_l2Parts_0 N) b_spec_l2Parts_0 [0, 1, 0, 1, 1] :=
  iter_ok (Λi := noLooper) (tr := false) (ks := ks_spec_l2Parts_0) (kx := kx_spec_l2Parts_0) (N := N) hC hΦ
    (loopsOk_nil (by kernel_rfl))
    fun R E s K r h => by
      have h2 := Looper.add_self.symm.trans h
      obtain ⟨_, _, _, _, he, rfl, h3⟩ := i_spec_l2Parts_0_spec h2
      rw [he]
      exact (w_spec_l2Parts_0 N _ _ _ N _ _).trans h3
theorem at_spec_l2Parts : loopsAt c_spec_l2Parts [] = [([0, 1, 0, 1, 1], b_spec_l2Parts_0)] := by kernel_rfl
theorem b_spec_l2Parts {R : Type} (N : Nat) (w_1 : ByteArray) (K : V → S → Option R) : bodyV C (Φ_spec_l1Split N) (Λ_spec_l2Parts_0 N) 35 Tryd.f35 [.str w_1] [] K =
  gb_spec_l2Parts N w_1 (fun e_2 => K (.list 1 e_2 (.own 9)) []) := by kernel_rfl
theorem loops_spec_l2Parts {N : Nat} (hC : Ok Tryd.prog C) (hΦ : CalleeOk Tryd.prog C (Φ_spec_l1Split N)) : LoopsOk Tryd.prog C (Λ_spec_l2Parts_0 N) c_spec_l2Parts [] :=
  loopsOk_of c_spec_l2Parts [] (by
    rw [at_spec_l2Parts]
    intro p hp
    simp only [List.mem_cons, List.mem_nil_iff, or_false] at hp
    rcases hp with rfl
    · exact (ok_spec_l2Parts_0 hC hΦ))
theorem callee_spec_l2Parts (hC : Ok Tryd.prog C) {N : Nat} (hΦ : CalleeOk Tryd.prog C (Φ_spec_l1Split N)) : CalleeOk Tryd.prog C (Φ_spec_l2Parts N) := by
  refine hΦ.add_own rfl fun R vs K r h => ?_
  unfold f_spec_l2Parts at h
  obtain ⟨_, rfl, h1⟩ := asN1_some h
  obtain ⟨_, rfl, h2⟩ := asStr_some h1
  obtain ⟨_, h3⟩ := asEnd_some h2
  refine body_own (fn := Tryd.f35) (c := c_spec_l2Parts) hC hΦ Tryd.func35 (by kernel_rfl) (by kernel_rfl) (loops_spec_l2Parts (N := N) hC hΦ) rfl rfl ?_
  refine (b_spec_l2Parts N _ _).trans ?_
  rw [← g_spec_l2Parts_eq]
  exact h3

/-! ### loop.example/g00756/spec.l2Name -/
noncomputable def f_spec_l2Name (N : Nat) : (R : Type) → List V → S → (V → S → Option R) → Option R := fun _ vs s K =>
  asN1 vs fun v'1 => asStr v'1 fun w_1 => asEnd s <| g_spec_l2Name N w_1 (fun b_2 => K (.bool b_2) [])
noncomputable def Φ_spec_l2Name (N : Nat) : Callee := (Φ_spec_l2Parts N).add 80 (f_spec_l2Name N)
noncomputable def c_spec_l2Name : Code := bodyOf Tryd.f80
noncomputable def b_spec_l2Name_0 : Code := (loopNo c_spec_l2Name [] 0).2
def ks_spec_l2Name_0 : List Nat := butL 51 [0, 3]
def kx_spec_l2Name_0 : List Nat := butL 51 [0, 2]
def fr_spec_l2Name_0 (w_1 : ByteArray) (x_2 : Int) : List V := mkF 0 51 [(0, .str w_1), (3, .int .i64 x_2)]
def kk0_spec_l2Name_0 {R : Type} (K : X → List V → S → Option R) (w_1 : ByteArray) : Unit → Option R := (fun _ => K .ret (mkF 0 51 [(0, .str w_1), (2, .bool false)]) [])
def kk1_spec_l2Name_0 {R : Type} (K : X → List V → S → Option R) (w_1 : ByteArray) : Unit → Option R := (fun _ => K (.exit 0) (mkF 0 51 [(0, .str w_1)]) [])
noncomputable abbrev it_spec_l2Name_0 {R : Type} (N : Nat) : Nat → List V → S → (X → List V → S → Option R) → Option R := fun n => iter C (Φ_spec_l2Parts N) (noLooper) b_spec_l2Name_0 [0, 1, 0, 1] false ks_spec_l2Name_0 kx_spec_l2Name_0 n R
theorem r_spec_l2Name_0 {R : Type} (N n : Nat) (w_1 : ByteArray) (x_2 : Int) (K : X → List V → S → Option R) :
  it_spec_l2Name_0 N (n + 1) (fr_spec_l2Name_0 w_1 x_2) [] K =
  l_spec_l2Name_0_step N w_1 (fun x_2 => it_spec_l2Name_0 N n (fr_spec_l2Name_0 w_1 x_2) [] K) x_2 (kk0_spec_l2Name_0 K w_1) (kk1_spec_l2Name_0 K w_1) := by kernel_rfl
theorem w_spec_l2Name_0 {R : Type} (N : Nat) (w_1 : ByteArray) (K : X → List V → S → Option R) : ∀ (n : Nat) (x_2 : Int),
  it_spec_l2Name_0 N n (fr_spec_l2Name_0 w_1 x_2) [] K = l_spec_l2Name_0 N w_1 (kk0_spec_l2Name_0 K w_1) (kk1_spec_l2Name_0 K w_1) n x_2
  | 0, _ => rfl
  | n + 1, x_2 => (r_spec_l2Name_0 N n w_1 x_2 K).trans (congrArg (fun nx => l_spec_l2Name_0_step N w_1 nx x_2 (kk0_spec_l2Name_0 K w_1) (kk1_spec_l2Name_0 K w_1)) (funext fun x_2 => w_spec_l2Name_0 N w_1 K n x_2))
def i_spec_l2Name_0 {R : Type} (E : List V) (s : S) (k : ByteArray → Int → Option R) : Option R :=
  guardB (frameOk 51 [0, 3] E) <| atStr E 0 fun w_1 => atInt E 3 .i64 fun x_2 => asEnd s <| k w_1 x_2
theorem i_spec_l2Name_0_spec {R : Type} {E : List V} {s : S} {k : ByteArray → Int → Option R} {r : R} (h : i_spec_l2Name_0 E s k = some r) : ∃ w_1 x_2, E = fr_spec_l2Name_0 w_1 x_2 ∧ s = [] ∧ k w_1 x_2 = some r := by
  unfold i_spec_l2Name_0 at h
  obtain ⟨hg, h1⟩ := guardB_some h
  obtain ⟨_, hu0, h2⟩ := atStr_some h1
  obtain ⟨_, hu3, h3⟩ := atInt_some h2
  obtain ⟨rfl, h4⟩ := asEnd_some h3
  exact ⟨_, _, frame_is hg rfl (slots_cons hu0 (slots_cons hu3 slots_nil)), rfl, h4⟩
noncomputable def Λ_spec_l2Name_0 (N : Nat) : Looper := (noLooper).add [0, 1, 0, 1] fun _ E s K => i_spec_l2Name_0 (killE ks_spec_l2Name_0 E) s fun w_1 x_2 => l_spec_l2Name_0 N w_1 (kk0_spec_l2Name_0 K w_1) (kk1_spec_l2Name_0 K w_1) N x_2
theorem ok_spec_l2Name_0 {N : Nat} (hC : Ok Tryd.prog C) (hΦ : CalleeOk Tryd.prog C (Φ_spec_l2Parts N)) : LoopOk Tryd.prog C (Λ_spec_l2Name_0 N) b_spec_l2Name_0 [0, 1, 0, 1] :=
  iter_ok (Λi := noLooper) (tr := false) (ks := ks_spec_l2Name_0) (kx := kx_spec_l2Name_0) (N := N) hC hΦ
    (loopsOk_nil (by kernel_rfl))
    fun R E s K r h => by
      have h2 := Looper.add_self.symm.trans h
      obtain ⟨_, _, he, rfl, h3⟩ := i_spec_l2Name_0_spec h2
      rw [he]
      exact (w_spec_l2Name_0 N _ _ N _).trans h3
theorem at_spec_l2Name : loopsAt c_spec_l2Name [] = [([0, 1, 0, 1], b_spec_l2Name_0)] := by kernel_rfl
theorem b_spec_l2Name {R : Type} (N : Nat) (w_1 : ByteArray) (K : V → S → Option R) : bodyV C (Φ_spec_l2Parts N) (Λ_spec_l2Name_0 N) 80 Tryd.f80 [.str w_1] [] K =
  gb_spec_l2Name N w_1 (fun b_2 => K (.bool b_2) []) := by kernel_rfl
theorem loops_spec_l2Name {N : Nat} (hC : Ok Tryd.prog C) (hΦ : CalleeOk Tryd.prog C (Φ_spec_l2Parts N)) : LoopsOk Tryd.prog C (Λ_spec_l2Name_0 N) c_spec_l2Name [] :=
  loopsOk_of c_spec_l2Name [] (by
    rw [at_spec_l2Name]
    intro p hp
    simp only [List.mem_cons, List.mem_nil_iff, or_false] at hp
    rcases hp with rfl
    · exact (ok_spec_l2Name_0 hC hΦ))
theorem callee_spec_l2Name (hC : Ok Tryd.prog C) {N : Nat} (hΦ : CalleeOk Tryd.prog C (Φ_spec_l2Parts N)) : CalleeOk Tryd.prog C (Φ_spec_l2Name N) := by
  refine hΦ.add_pure rfl fun R vs K r h => ?_
  unfold f_spec_l2Name at h
  obtain ⟨_, rfl, h1⟩ := asN1_some h
  obtain ⟨_, rfl, h2⟩ := asStr_some h1
  obtain ⟨_, h3⟩ := asEnd_some h2
  refine body_pure (fn := Tryd.f80) (c := c_spec_l2Name) hC hΦ Tryd.func80 (by kernel_rfl) (by kernel_rfl) (loops_spec_l2Name (N := N) hC hΦ) rfl rfl ?_
  refine (b_spec_l2Name N _ _).trans ?_
  rw [← g_spec_l2Name_eq]
  exact h3

/-! ### loop.example/g00756/spec.l2Path -/
noncomputable def f_spec_l2Path (N : Nat) : (R : Type) → List V → S → (V → S → Option R) → Option R := fun _ vs s K =>
  asN1 vs fun v'1 => asStr v'1 fun w_1 => asEnd s <| g_spec_l2Path N w_1 (fun b_2 => K (.bool b_2) [])
noncomputable def Φ_spec_l2Path (N : Nat) : Callee := (Φ_spec_l2Name N).add 57 (f_spec_l2Path N)
noncomputable def c_spec_l2Path : Code := bodyOf Tryd.f57
noncomputable def b_spec_l2Path_0 : Code := (loopNo c_spec_l2Path [] 0).2
def ks_spec_l2Path_0 : List Nat := butL 27 [0, 6, 7, 8]
def kx_spec_l2Path_0 : List Nat := butL 27 [0, 2]
def fr_spec_l2Path_0 (w_1 : ByteArray) (e_2 : List V) (x_3 x_4 : Int) : List V := mkF 0 27 [(0, .str w_1), (6, .list 1 e_2 (.own 9)), (7, .int .i64 x_3), (8, .int .i64 x_4)]
def kk0_spec_l2Path_0 {R : Type} (K : X → List V → S → Option R) (w_1 : ByteArray) (e_2 : List V) (x_3 : Int) : Unit → Option R := (fun _ => K .ret (mkF 0 27 [(0, .str w_1), (2, .bool false)]) [])
def kk1_spec_l2Path_0 {R : Type} (K : X → List V → S → Option R) (w_1 : ByteArray) (e_2 : List V) (x_3 : Int) : Unit → Option R := (fun _ => K (.exit 0) (mkF 0 27 [(0, .str w_1)]) [])
noncomputable abbrev it_spec_l2Path_0 {R : Type} (N : Nat) : Nat → List V → S → (X → List V → S → Option R) → Option R := fun n => iter C (Φ_spec_l2Name N) (noLooper) b_spec_l2Path_0 [0, 1, 0, 1] false ks_spec_l2Path_0 kx_spec_l2Path_0 n R
theorem r_spec_l2Path_0 {R : Type} (N n : Nat) (w_1 : ByteArray) (e_2 : List V) (x_3 : Int) (x_4 : Int) (K : X → List V → S → Option R) :
  it_spec_l2Path_0 N (n + 1) (fr_spec_l2Path_0 w_1 e_2 x_3 x_4) [] K =
  l_spec_l2Path_0_step N w_1 e_2 x_3 (fun x_4 => it_spec_l2Path_0 N n (fr_spec_l2Path_0 w_1 e_2 x_3 x_4) [] K) x_4 (kk0_spec_l2Path_0 K w_1 e_2 x_3) (kk1_spec_l2Path_0 K w_1 e_2 x_3) := by kernel_rfl
theorem w_spec_l2Path_0 {R : Type} (N : Nat) (w_1 : ByteArray) (e_2 : List V) (x_3 : Int) (K : X → List V → S → Option R) : ∀ (n : Nat) (x_4 : Int),
  it_spec_l2Path_0 N n (fr_spec_l2Path_0 w_1 e_2 x_3 x_4) [] K = l_spec_l2Path_0 N w_1 e_2 x_3 (kk0_spec_l2Path_0 K w_1 e_2 x_3) (kk1_spec_l2Path_0 K w_1 e_2 x_3) n x_4
  | 0, _ => rfl
  | n + 1, x_4 => (r_spec_l2Path_0 N n w_1 e_2 x_3 x_4 K).trans (congrArg (fun nx => l_spec_l2Path_0_step N w_1 e_2 x_3 nx x_4 (kk0_spec_l2Path_0 K w_1 e_2 x_3) (kk1_spec_l2Path_0 K w_1 e_2 x_3)) (funext fun x_4 => w_spec_l2Path_0 N w_1 e_2 x_3 K n x_4))
def i_spec_l2Path_0 {R : Type} (E : List V) (s : S) (k : ByteArray → List V → Int → Int → Option R) : Option R :=
  guardB (frameOk 27 [0, 6, 7, 8] E) <| atStr E 0 fun w_1 => must (nth E 6) fun u6 => asList 1 u6 fun e_2 f'1 => asOwn 9 f'1 <| atInt E 7 .i64 fun x_3 => atInt E 8 .i64 fun x_4 => asEnd s <| k w_1 e_2 x_3 x_4
theorem i_spec_l2Path_0_spec {R : Type} {E : List V} {s : S} {k : ByteArray → List V → Int → Int → Option R} {r : R} (h : i_spec_l2Path_0 E s k = some r) : ∃ w_1 e_2 x_3 x_4, E = fr_spec_l2Path_0 w_1 e_2 x_3 x_4 ∧ s = [] ∧ k w_1 e_2 x_3 x_4 = some r := by
  unfold i_spec_l2Path_0 at h
  obtain ⟨hg, h1⟩ := guardB_some h
  obtain ⟨_, hu0, h2⟩ := atStr_some h1
  obtain ⟨_, hu6, h3⟩ := must_some h2
  obtain ⟨_, _, rfl, h4⟩ := asList_some h3
  obtain ⟨rfl, h5⟩ := asOwn_some h4
  obtain ⟨_, hu7, h6⟩ := atInt_some h5
  obtain ⟨_, hu8, h7⟩ := atInt_some h6
  obtain ⟨rfl, h8⟩ := asEnd_some h7
  exact ⟨_, _, _, _, frame_is hg rfl (slots_cons hu0 (slots_cons hu6 (slots_cons hu7 (slots_cons hu8 slots_nil)))), rfl, h8⟩
noncomputable def Λ_spec_l2Path_0 (N : Nat) : Looper := (noLooper).add [0, 1, 0, 1] fun _ E s K => i_spec_l2Path_0 (killE ks_spec_l2Path_0 E) s fun w_1 e_2 x_3 x_4 => l_spec_l2Path_0 N w_1 e_2 x_3 (kk0_spec_l2Path_0 K w_1 e_2 x_3) (kk1_spec_l2Path_0 K w_1 e_2 x_3) N x_4
theorem ok_spec_l2Path_0 {N : Nat} (hC : Ok Tryd.prog C) (hΦ : CalleeOk Tryd.prog C (Φ_spec_l2Name N)) : LoopOk Tryd.prog C (Λ_spec_l2Path_0 N) b_spec_l2Path_0 [0, 1, 0, 1] :=
  iter_ok (Λi := noLooper) (tr := false) (ks := ks_spec_l2Path_0) (kx := kx_spec_l2Path_0) (N := N) hC hΦ
    (loopsOk_nil (by kernel_rfl))
    fun R E s K r h => by
      have h2 := Looper.add_self.symm.trans h
      obtain ⟨_, _, _, _, he, rfl, h3⟩ := i_spec_l2Path_0_spec h2
      rw [he]
      exact (w_spec_l2Path_0 N _ _ _ _ N _).trans h3
theorem at_spec_l2Path : loopsAt c_spec_l2Path [] = [([0, 1, 0, 1], b_spec_l2Path_0)] := by kernel_rfl
theorem b_spec_l2Path {R : Type} (N : Nat) (w_1 : ByteArray) (K : V → S → Option R) : bodyV C (Φ_spec_l2Name N) (Λ_spec_l2Path_0 N) 57 Tryd.f57 [.str w_1] [] K =
  gb_spec_l2Path N w_1 (fun b_2 => K (.bool b_2) []) := by kernel_rfl
theorem loops_spec_l2Path {N : Nat} (hC : Ok Tryd.prog C) (hΦ : CalleeOk Tryd.prog C (Φ_spec_l2Name N)) : LoopsOk Tryd.prog C (Λ_spec_l2Path_0 N) c_spec_l2Path [] :=
  loopsOk_of c_spec_l2Path [] (by
    rw [at_spec_l2Path]
    intro p hp
    simp only [List.mem_cons, List.mem_nil_iff, or_false] at hp
    rcases hp with rfl
    · exact (ok_spec_l2Path_0 hC hΦ))
theorem callee_spec_l2Path (hC : Ok Tryd.prog C) {N : Nat} (hΦ : CalleeOk Tryd.prog C (Φ_spec_l2Name N)) : CalleeOk Tryd.prog C (Φ_spec_l2Path N) := by
  refine hΦ.add_pure rfl fun R vs K r h => ?_
  unfold f_spec_l2Path at h
  obtain ⟨_, rfl, h1⟩ := asN1_some h
  obtain ⟨_, rfl, h2⟩ := asStr_some h1
  obtain ⟨_, h3⟩ := asEnd_some h2
  refine body_pure (fn := Tryd.f57) (c := c_spec_l2Path) hC hΦ Tryd.func57 (by kernel_rfl) (by kernel_rfl) (loops_spec_l2Path (N := N) hC hΦ) rfl rfl ?_
  refine (b_spec_l2Path N _ _).trans ?_
  rw [← g_spec_l2Path_eq]
  exact h3

/-! ### loop.example/g00756/spec.l1Mode -/
noncomputable def f_spec_l1Mode (N : Nat) : (R : Type) → List V → S → (V → S → Option R) → Option R := fun _ vs s K =>
  asN1 vs fun v'1 => asInt .i64 v'1 fun x_1 => asEnd s <| g_spec_l1Mode N x_1 (fun b_2 => K (.bool b_2) [])
noncomputable def Φ_spec_l1Mode (N : Nat) : Callee := (Φ_spec_l2Path N).add 77 (f_spec_l1Mode N)
noncomputable def c_spec_l1Mode : Code := bodyOf Tryd.f77
theorem b_spec_l1Mode {R : Type} (N : Nat) (x_1 : Int) (K : V → S → Option R) : bodyV C (Φ_spec_l2Path N) (noLooper) 77 Tryd.f77 [.int .i64 x_1] [] K =
  gb_spec_l1Mode N x_1 (fun b_2 => K (.bool b_2) []) := by kernel_rfl
theorem callee_spec_l1Mode (hC : Ok Tryd.prog C) {N : Nat} (hΦ : CalleeOk Tryd.prog C (Φ_spec_l2Path N)) : CalleeOk Tryd.prog C (Φ_spec_l1Mode N) := by
  refine hΦ.add_pure rfl fun R vs K r h => ?_
  unfold f_spec_l1Mode at h
  obtain ⟨_, rfl, h1⟩ := asN1_some h
  obtain ⟨_, rfl, h2⟩ := asInt_some h1
  obtain ⟨_, h3⟩ := asEnd_some h2
  refine body_pure (fn := Tryd.f77) (c := c_spec_l1Mode) hC hΦ Tryd.func77 (by kernel_rfl) (by kernel_rfl) (loopsOk_nil (Λ := noLooper) (by kernel_rfl)) rfl rfl ?_
  refine (b_spec_l1Mode N _ _).trans ?_
  rw [← g_spec_l1Mode_eq]
  exact h3

/-! ### loop.example/g00756/spec.l3Entries -/
noncomputable def f_spec_l3Entries (N : Nat) : (R : Type) → List V → S → (V → S → Option R) → Option R := fun _ vs s K =>
  asN2 vs fun v'1 v'2 => un_impl_Fs v'1 fun e_1 f_2 x_3 => asList 2 v'2 fun e_4 f_5 => asEnd s <| g_spec_l3Entries N e_1 f_2 x_3 e_4 f_5 (fun b_6 => K (.bool b_6) [])
noncomputable def Φ_spec_l3Entries (N : Nat) : Callee := (Φ_spec_l1Mode N).add 78 (f_spec_l3Entries N)
noncomputable def c_spec_l3Entries : Code := bodyOf Tryd.f78
noncomputable def b_spec_l3Entries_0 : Code := (loopNo c_spec_l3Entries [] 0).2
def ks_spec_l3Entries_0 : List Nat := butL 54 [1, 2, 7, 8, 9]
def kx_spec_l3Entries_0 : List Nat := butL 54 [4]
def fr_spec_l3Entries_0 (e_1 : List V) (f_2 : Fl) (e_3 : List V) (f_4 : Fl) (x_5 : Int) (e_7 : List V) (f_8 : Fl) (x_9 x_6 : Int) : List V := mkF 0 54 [(1, .list 2 e_1 f_2), (2, .ptr 0 0 0 0), (7, .list 2 e_3 f_4), (8, .int .i64 x_5), (9, .int .i64 x_6)]
def kk0_spec_l3Entries_0 {R : Type} (K : X → List V → S → Option R) (e_1 : List V) (f_2 : Fl) (e_3 : List V) (f_4 : Fl) (x_5 : Int) (e_7 : List V) (f_8 : Fl) (x_9 : Int) : Unit → Option R := (fun _ => K .ret (mkF 0 54 [(4, .bool false)]) [some ⟨[.agg [.list 7 e_7 f_8, .int .i64 x_9]], 2, 32, 0⟩])
def kk1_spec_l3Entries_0 {R : Type} (K : X → List V → S → Option R) (e_1 : List V) (f_2 : Fl) (e_3 : List V) (f_4 : Fl) (x_5 : Int) (e_7 : List V) (f_8 : Fl) (x_9 : Int) : Unit → Option R := (fun _ => K (.exit 0) (mkF 0 54 []) [some ⟨[.agg [.list 7 e_7 f_8, .int .i64 x_9]], 2, 32, 0⟩])
noncomputable abbrev it_spec_l3Entries_0 {R : Type} (N : Nat) : Nat → List V → S → (X → List V → S → Option R) → Option R := fun n => iter C (Φ_spec_l1Mode N) (noLooper) b_spec_l3Entries_0 [0, 1, 0, 1] true ks_spec_l3Entries_0 kx_spec_l3Entries_0 n R
theorem r_spec_l3Entries_0 {R : Type} (N n : Nat) (e_1 : List V) (f_2 : Fl) (e_3 : List V) (f_4 : Fl) (x_5 : Int) (e_7 : List V) (f_8 : Fl) (x_9 : Int) (x_6 : Int) (K : X → List V → S → Option R) :
  it_spec_l3Entries_0 N (n + 1) (fr_spec_l3Entries_0 e_1 f_2 e_3 f_4 x_5 e_7 f_8 x_9 x_6) [some ⟨[.agg [.list 7 e_7 f_8, .int .i64 x_9]], 2, 32, 0⟩] K =
  l_spec_l3Entries_0_step N e_1 f_2 e_3 f_4 x_5 e_7 f_8 x_9 (fun x_6 => it_spec_l3Entries_0 N n (fr_spec_l3Entries_0 e_1 f_2 e_3 f_4 x_5 e_7 f_8 x_9 x_6) [some ⟨[.agg [.list 7 e_7 f_8, .int .i64 x_9]], 2, 32, 0⟩] K) x_6 (kk0_spec_l3Entries_0 K e_1 f_2 e_3 f_4 x_5 e_7 f_8 x_9) (kk1_spec_l3Entries_0 K e_1 f_2 e_3 f_4 x_5 e_7 f_8 x_9) := by kernel_rfl
theorem w_spec_l3Entries_0 {R : Type} (N : Nat) (e_1 : List V) (f_2 : Fl) (e_3 : List V) (f_4 : Fl) (x_5 : Int) (e_7 : List V) (f_8 : Fl) (x_9 : Int) (K : X → List V → S → Option R) : ∀ (n : Nat) (x_6 : Int),
  it_spec_l3Entries_0 N n (fr_spec_l3Entries_0 e_1 f_2 e_3 f_4 x_5 e_7 f_8 x_9 x_6) [some ⟨[.agg [.list 7 e_7 f_8, .int .i64 x_9]], 2, 32, 0⟩] K = l_spec_l3Entries_0 N e_1 f_2 e_3 f_4 x_5 e_7 f_8 x_9 (kk0_spec_l3Entries_0 K e_1 f_2 e_3 f_4 x_5 e_7 f_8 x_9) (kk1_spec_l3Entries_0 K e_1 f_2 e_3 f_4 x_5 e_7 f_8 x_9) n x_6
  | 0, _ => rfl
  | n + 1, x_6 => (r_spec_l3Entries_0 N n e_1 f_2 e_3 f_4 x_5 e_7 f_8 x_9 x_6 K).trans (congrArg (fun nx => l_spec_l3Entries_0_step N e_1 f_2 e_3 f_4 x_5 e_7 f_8 x_9 nx x_6 (kk0_spec_l3Entries_0 K e_1 f_2 e_3 f_4 x_5 e_7 f_8 x_9) (kk1_spec_l3Entries_0 K e_1 f_2 e_3 f_4 x_5 e_7 f_8 x_9)) (funext fun x_6 => w_spec_l3Entries_0 N e_1 f_2 e_3 f_4 x_5 e_7 f_8 x_9 K n x_6))
def i_spec_l3Entries_0 {R : Type} (E : List V) (s : S) (k : List V → Fl → List V → Fl → Int → Int → List V → Fl → Int → Option R) : Option R :=
  guardB (frameOk 54 [1, 2, 7, 8, 9] E) <| atList E 1 2 fun e_1 f_2 => atIs E 2 (.ptr 0 0 0 0) <| atList E 7 2 fun e_3 f_4 => atInt E 8 .i64 fun x_5 => atInt E 9 .i64 fun x_6 => asOb s fun o'1 s'2 => obIs o'1 2 32 fun e'3 k'4 => isN k'4 0 <| asN1 e'3 fun v'5 => asAgg v'5 fun c'6 => asN2 c'6 fun v'7 v'8 => asList 7 v'7 fun e_7 f_8 => asInt .i64 v'8 fun x_9 => asEnd s'2 <| k e_1 f_2 e_3 f_4 x_5 x_6 e_7 f_8 x_9
theorem i_spec_l3Entries_0_spec {R : Type} {E : List V} {s : S} {k : List V → Fl → List V → Fl → Int → Int → List V → Fl → Int → Option R} {r : R} (h : i_spec_l3Entries_0 E s k = some r) : ∃ e_1 f_2 e_3 f_4 x_5 x_6 e_7 f_8 x_9, E = fr_spec_l3Entries_0 e_1 f_2 e_3 f_4 x_5 e_7 f_8 x_9 x_6 ∧ s = [some ⟨[.agg [.list 7 e_7 f_8, .int .i64 x_9]], 2, 32, 0⟩] ∧ k e_1 f_2 e_3 f_4 x_5 x_6 e_7 f_8 x_9 = some r := by
  unfold i_spec_l3Entries_0 at h
  obtain ⟨hg, h1⟩ := guardB_some h
  obtain ⟨_, _, hu1, h2⟩ := atList_some h1
  obtain ⟨hu2, h3⟩ := atIs_some h2
  obtain ⟨_, _, hu7, h4⟩ := atList_some h3
  obtain ⟨_, hu8, h5⟩ := atInt_some h4
  obtain ⟨_, hu9, h6⟩ := atInt_some h5
  obtain ⟨_, _, rfl, h7⟩ := asOb_some h6
  obtain ⟨_, _, rfl, h8⟩ := obIs_some h7
  obtain ⟨rfl, h9⟩ := isN_some h8
  obtain ⟨_, rfl, h10⟩ := asN1_some h9
  obtain ⟨_, rfl, h11⟩ := asAgg_some h10
  obtain ⟨_, _, rfl, h12⟩ := asN2_some h11
  obtain ⟨_, _, rfl, h13⟩ := asList_some h12
  obtain ⟨_, rfl, h14⟩ := asInt_some h13
  obtain ⟨rfl, h15⟩ := asEnd_some h14
  exact ⟨_, _, _, _, _, _, _, _, _, frame_is hg rfl (slots_cons hu1 (slots_cons hu2 (slots_cons hu7 (slots_cons hu8 (slots_cons hu9 slots_nil))))), rfl, h15⟩
noncomputable def Λ_spec_l3Entries_0 (N : Nat) : Looper := (noLooper).add [0, 1, 0, 1] fun _ E s K => i_spec_l3Entries_0 (killE ks_spec_l3Entries_0 E) s fun e_1 f_2 e_3 f_4 x_5 x_6 e_7 f_8 x_9 => l_spec_l3Entries_0 N e_1 f_2 e_3 f_4 x_5 e_7 f_8 x_9 (kk0_spec_l3Entries_0 K e_1 f_2 e_3 f_4 x_5 e_7 f_8 x_9) (kk1_spec_l3Entries_0 K e_1 f_2 e_3 f_4 x_5 e_7 f_8 x_9) N x_6
theorem ok_spec_l3Entries_0 {N : Nat} (hC : Ok Tryd.prog C) (hΦ : CalleeOk Tryd.prog C (Φ_spec_l1Mode N)) : LoopOk Tryd.prog C (Λ_spec_l3Entries_0 N) b_spec_l3Entries_0 [0, 1, 0, 1] :=
  iter_ok (Λi := noLooper) (tr := true) (ks := ks_spec_l3Entries_0) (kx := kx_spec_l3Entries_0) (N := N) hC hΦ
    (loopsOk_nil (by kernel_rfl))
    fun R E s K r h => by
      have h2 := Looper.add_self.symm.trans h
      obtain ⟨_, _, _, _, _, _, _, _, _, he, rfl, h3⟩ := i_spec_l3Entries_0_spec h2
      rw [he]
      exact (w_spec_l3Entries_0 N _ _ _ _ _ _ _ _ _ N _).trans h3
theorem at_spec_l3Entries : loopsAt c_spec_l3Entries [] = [([0, 1, 0, 1], b_spec_l3Entries_0)] := by kernel_rfl
theorem b_spec_l3Entries {R : Type} (N : Nat) (e_1 : List V) (f_2 : Fl) (x_3 : Int) (e_4 : List V) (f_5 : Fl) (K : V → S → Option R) : bodyV C (Φ_spec_l1Mode N) (Λ_spec_l3Entries_0 N) 78 Tryd.f78 [.agg [.list 7 e_1 f_2, .int .i64 x_3], .list 2 e_4 f_5] [] K =
  gb_spec_l3Entries N e_1 f_2 x_3 e_4 f_5 (fun b_6 => K (.bool b_6) []) := by kernel_rfl
theorem loops_spec_l3Entries {N : Nat} (hC : Ok Tryd.prog C) (hΦ : CalleeOk Tryd.prog C (Φ_spec_l1Mode N)) : LoopsOk Tryd.prog C (Λ_spec_l3Entries_0 N) c_spec_l3Entries [] :=
  loopsOk_of c_spec_l3Entries [] (by
    rw [at_spec_l3Entries]
    intro p hp
    simp only [List.mem_cons, List.mem_nil_iff, or_false] at hp
    rcases hp with rfl
    · exact (ok_spec_l3Entries_0 hC hΦ))
theorem callee_spec_l3Entries (hC : Ok Tryd.prog C) {N : Nat} (hΦ : CalleeOk Tryd.prog C (Φ_spec_l1Mode N)) : CalleeOk Tryd.prog C (Φ_spec_l3Entries N) := by
  refine hΦ.add_pure rfl fun R vs K r h => ?_
  unfold f_spec_l3Entries at h
  obtain ⟨_, _, rfl, h1⟩ := asN2_some h
  obtain ⟨_, _, _, rfl, h2⟩ := un_impl_Fs_some h1
  obtain ⟨_, _, rfl, h3⟩ := asList_some h2
  obtain ⟨_, h4⟩ := asEnd_some h3
  refine body_pure (fn := Tryd.f78) (c := c_spec_l3Entries) hC hΦ Tryd.func78 (by kernel_rfl) (by kernel_rfl) (loops_spec_l3Entries (N := N) hC hΦ) rfl rfl ?_
  refine (b_spec_l3Entries N _ _ _ _ _ _).trans ?_
  rw [← g_spec_l3Entries_eq]
  exact h4

/-! ### loop.example/g00756/spec.l3Node -/
noncomputable def f_spec_l3Node (N : Nat) : (R : Type) → List V → S → (V → S → Option R) → Option R := fun _ vs s K =>
  asN2 vs fun v'1 v'2 => un_impl_Fs v'1 fun e_1 f_2 x_3 => un_impl_Node v'2 fun x_4 x_5 x_6 x_7 x_8 w_9 e_10 f_11 => asEnd s <| g_spec_l3Node N e_1 f_2 x_3 x_4 x_5 x_6 x_7 x_8 w_9 e_10 f_11 (fun b_12 => K (.bool b_12) [])
noncomputable def Φ_spec_l3Node (N : Nat) : Callee := (Φ_spec_l3Entries N).add 54 (f_spec_l3Node N)
noncomputable def c_spec_l3Node : Code := bodyOf Tryd.f54
theorem b_spec_l3Node {R : Type} (N : Nat) (e_1 : List V) (f_2 : Fl) (x_3 x_4 x_5 x_6 x_7 x_8 : Int) (w_9 : ByteArray) (e_10 : List V) (f_11 : Fl) (K : V → S → Option R) : bodyV C (Φ_spec_l3Entries N) (noLooper) 54 Tryd.f54 [.agg [.list 7 e_1 f_2, .int .i64 x_3], .agg [.int .i64 x_4, .int .i64 x_5, .int .i64 x_6, .int .i64 x_7, .int .i64 x_8, .str w_9, .list 2 e_10 f_11]] [] K =
  gb_spec_l3Node N e_1 f_2 x_3 x_4 x_5 x_6 x_7 x_8 w_9 e_10 f_11 (fun b_12 => K (.bool b_12) []) := by kernel_rfl
theorem callee_spec_l3Node (hC : Ok Tryd.prog C) {N : Nat} (hΦ : CalleeOk Tryd.prog C (Φ_spec_l3Entries N)) : CalleeOk Tryd.prog C (Φ_spec_l3Node N) := by
  refine hΦ.add_pure rfl fun R vs K r h => ?_
  unfold f_spec_l3Node at h
  obtain ⟨_, _, rfl, h1⟩ := asN2_some h
  obtain ⟨_, _, _, rfl, h2⟩ := un_impl_Fs_some h1
  obtain ⟨_, _, _, _, _, _, _, _, rfl, h3⟩ := un_impl_Node_some h2
  obtain ⟨_, h4⟩ := asEnd_some h3
  refine body_pure (fn := Tryd.f54) (c := c_spec_l3Node) hC hΦ Tryd.func54 (by kernel_rfl) (by kernel_rfl) (loopsOk_nil (Λ := noLooper) (by kernel_rfl)) rfl rfl ?_
  refine (b_spec_l3Node N _ _ _ _ _ _ _ _ _ _ _ _).trans ?_
  rw [← g_spec_l3Node_eq]
  exact h4

/-! ### loop.example/g00756/spec.l1Has -/
noncomputable def f_spec_l1Has (N : Nat) : (R : Type) → List V → S → (V → S → Option R) → Option R := fun _ vs s K =>
  asN2 vs fun v'1 v'2 => asList 1 v'1 fun e_1 f_2 => asInt .i64 v'2 fun x_3 => asEnd s <| g_spec_l1Has N e_1 f_2 x_3 (fun b_4 => K (.bool b_4) [])
noncomputable def Φ_spec_l1Has (N : Nat) : Callee := (Φ_spec_l3Node N).add 56 (f_spec_l1Has N)
noncomputable def c_spec_l1Has : Code := bodyOf Tryd.f56
noncomputable def b_spec_l1Has_0 : Code := (loopNo c_spec_l1Has [] 0).2
def ks_spec_l1Has_0 : List Nat := butL 17 [1, 7, 8, 9]
def kx_spec_l1Has_0 : List Nat := butL 17 [4]
def fr_spec_l1Has_0 (x_1 : Int) (e_2 : List V) (f_3 : Fl) (x_4 x_5 : Int) : List V := mkF 0 17 [(1, .int .i64 x_1), (7, .list 1 e_2 f_3), (8, .int .i64 x_4), (9, .int .i64 x_5)]
def kk0_spec_l1Has_0 {R : Type} (K : X → List V → S → Option R) (x_1 : Int) (e_2 : List V) (f_3 : Fl) (x_4 : Int) : Unit → Option R := (fun _ => K .ret (mkF 0 17 [(4, .bool true)]) [])
def kk1_spec_l1Has_0 {R : Type} (K : X → List V → S → Option R) (x_1 : Int) (e_2 : List V) (f_3 : Fl) (x_4 : Int) : Unit → Option R := (fun _ => K (.exit 0) (mkF 0 17 []) [])
noncomputable abbrev it_spec_l1Has_0 {R : Type} (N : Nat) : Nat → List V → S → (X → List V → S → Option R) → Option R := fun n => iter C (Φ_spec_l3Node N) (noLooper) b_spec_l1Has_0 [0, 1, 0, 1] false ks_spec_l1Has_0 kx_spec_l1Has_0 n R
theorem r_spec_l1Has_0 {R : Type} (N n : Nat) (x_1 : Int) (e_2 : List V) (f_3 : Fl) (x_4 : Int) (x_5 : Int) (K : X → List V → S → Option R) :
  it_spec_l1Has_0 N (n + 1) (fr_spec_l1Has_0 x_1 e_2 f_3 x_4 x_5) [] K =
  l_spec_l1Has_0_step N x_1 e_2 f_3 x_4 (fun x_5 => it_spec_l1Has_0 N n (fr_spec_l1Has_0 x_1 e_2 f_3 x_4 x_5) [] K) x_5 (kk0_spec_l1Has_0 K x_1 e_2 f_3 x_4) (kk1_spec_l1Has_0 K x_1 e_2 f_3 x_4) := by kernel_rfl
theorem w_spec_l1Has_0 {R : Type} (N : Nat) (x_1 : Int) (e_2 : List V) (f_3 : Fl) (x_4 : Int) (K : X → List V → S → Option R) : ∀ (n : Nat) (x_5 : Int),
  it_spec_l1Has_0 N n (fr_spec_l1Has_0 x_1 e_2 f_3 x_4 x_5) [] K = l_spec_l1Has_0 N x_1 e_2 f_3 x_4 (kk0_spec_l1Has_0 K x_1 e_2 f_3 x_4) (kk1_spec_l1Has_0 K x_1 e_2 f_3 x_4) n x_5
  | 0, _ => rfl
  | n + 1, x_5 => (r_spec_l1Has_0 N n x_1 e_2 f_3 x_4 x_5 K).trans (congrArg (fun nx => l_spec_l1Has_0_step N x_1 e_2 f_3 x_4 nx x_5 (kk0_spec_l1Has_0 K x_1 e_2 f_3 x_4) (kk1_spec_l1Has_0 K x_1 e_2 f_3 x_4)) (funext fun x_5 => w_spec_l1Has_0 N x_1 e_2 f_3 x_4 K n x_5))
def i_spec_l1Has_0 {R : Type} (E : List V) (s : S) (k : Int → List V → Fl → Int → Int → Option R) : Option R :=
  guardB (frameOk 17 [1, 7, 8, 9] E) <| atInt E 1 .i64 fun x_1 => atList E 7 1 fun e_2 f_3 => atInt E 8 .i64 fun x_4 => atInt E 9 .i64 fun x_5 => asEnd s <| k x_1 e_2 f_3 x_4 x_5
theorem i_spec_l1Has_0_spec {R : Type} {E : List V} {s : S} {k : Int → List V → Fl → Int → Int → Option R} {r : R} (h : i_spec_l1Has_0 E s k = some r) : ∃ x_1 e_2 f_3 x_4 x_5, E = fr_spec_l1Has_0 x_1 e_2 f_3 x_4 x_5 ∧ s = [] ∧ k x_1 e_2 f_3 x_4 x_5 = some r := by
  unfold i_spec_l1Has_0 at h
  obtain ⟨hg, h1⟩ := guardB_some h
  obtain ⟨_, hu1, h2⟩ := atInt_some h1
  obtain ⟨_, _, hu7, h3⟩ := atList_some h2
  obtain ⟨_, hu8, h4⟩ := atInt_some h3
  obtain ⟨_, hu9, h5⟩ := atInt_some h4
  obtain ⟨rfl, h6⟩ := asEnd_some h5
  exact ⟨_, _, _, _, _, frame_is hg rfl (slots_cons hu1 (slots_cons hu7 (slots_cons hu8 (slots_cons hu9 slots_nil)))), rfl, h6⟩
noncomputable def Λ_spec_l1Has_0 (N : Nat) : Looper := (noLooper).add [0, 1, 0, 1] fun _ E s K => i_spec_l1Has_0 (killE ks_spec_l1Has_0 E) s fun x_1 e_2 f_3 x_4 x_5 => l_spec_l1Has_0 N x_1 e_2 f_3 x_4 (kk0_spec_l1Has_0 K x_1 e_2 f_3 x_4) (kk1_spec_l1Has_0 K x_1 e_2 f_3 x_4) N x_5
theorem ok_spec_l1Has_0 {N : Nat} (hC : Ok Tryd.prog C) (hΦ : CalleeOk Tryd.prog C (Φ_spec_l3Node N)) : LoopOk Tryd.prog C (Λ_spec_l1Has_0 N) b_spec_l1Has_0 [0, 1, 0, 1] :=
  iter_ok (Λi := noLooper) (tr := false) (ks := ks_spec_l1Has_0) (kx := kx_spec_l1Has_0) (N := N) hC hΦ
    (loopsOk_nil (by kernel_rfl))
    fun R E s K r h => by
      have h2 := Looper.add_self.symm.trans h
      obtain ⟨_, _, _, _, _, he, rfl, h3⟩ := i_spec_l1Has_0_spec h2
      rw [he]
      exact (w_spec_l1Has_0 N _ _ _ _ _ N _).trans h3
theorem at_spec_l1Has : loopsAt c_spec_l1Has [] = [([0, 1, 0, 1], b_spec_l1Has_0)] := by kernel_rfl
theorem b_spec_l1Has {R : Type} (N : Nat) (e_1 : List V) (f_2 : Fl) (x_3 : Int) (K : V → S → Option R) : bodyV C (Φ_spec_l3Node N) (Λ_spec_l1Has_0 N) 56 Tryd.f56 [.list 1 e_1 f_2, .int .i64 x_3] [] K =
  gb_spec_l1Has N e_1 f_2 x_3 (fun b_4 => K (.bool b_4) []) := by kernel_rfl
theorem loops_spec_l1Has {N : Nat} (hC : Ok Tryd.prog C) (hΦ : CalleeOk Tryd.prog C (Φ_spec_l3Node N)) : LoopsOk Tryd.prog C (Λ_spec_l1Has_0 N) c_spec_l1Has [] :=
  loopsOk_of c_spec_l1Has [] (by
    rw [at_spec_l1Has]
    intro p hp
    simp only [List.mem_cons, List.mem_nil_iff, or_false] at hp
    rcases hp with rfl
    · exact (ok_spec_l1Has_0 hC hΦ))
theorem callee_spec_l1Has (hC : Ok Tryd.prog C) {N : Nat} (hΦ : CalleeOk Tryd.prog C (Φ_spec_l3Node N)) : CalleeOk Tryd.prog C (Φ_spec_l1Has N) := by
  refine hΦ.add_pure rfl fun R vs K r h => ?_
  unfold f_spec_l1Has at h
  obtain ⟨_, _, rfl, h1⟩ := asN2_some h
  obtain ⟨_, _, rfl, h2⟩ := asList_some h1
  obtain ⟨_, rfl, h3⟩ := asInt_some h2
  obtain ⟨_, h4⟩ := asEnd_some h3
  refine body_pure (fn := Tryd.f56) (c := c_spec_l1Has) hC hΦ Tryd.func56 (by kernel_rfl) (by kernel_rfl) (loops_spec_l1Has (N := N) hC hΦ) rfl rfl ?_
  refine (b_spec_l1Has N _ _ _ _).trans ?_
  rw [← g_spec_l1Has_eq]
  exact h4

/-! ### loop.example/g00756/spec.l1Put -/
noncomputable def f_spec_l1Put (N : Nat) : (R : Type) → List V → S → (V → S → Option R) → Option R := fun _ vs s K =>
  asN2 vs fun v'1 v'2 => asList 1 v'1 fun e_1 f_2 => asInt .i64 v'2 fun x_3 => asEnd s <| g_spec_l1Put N e_1 f_2 x_3 (fun e_4 => K (.list 1 e_4 .sh) [])
noncomputable def Φ_spec_l1Put (N : Nat) : Callee := (Φ_spec_l1Has N).add 79 (f_spec_l1Put N)
noncomputable def c_spec_l1Put : Code := bodyOf Tryd.f79
noncomputable def b_spec_l1Put_0 : Code := (loopNo c_spec_l1Put [] 0).2
def ks_spec_l1Put_0 : List Nat := butL 48 [0, 1, 5]
def kx_spec_l1Put_0 : List Nat := butL 48 [0, 1, 5]
def fr_spec_l1Put_0 (e_1 : List V) (f_2 : Fl) (x_3 x_4 : Int) : List V := mkF 0 48 [(0, .list 1 e_1 f_2), (1, .int .i64 x_3), (5, .int .i64 x_4)]
def kk0_spec_l1Put_0 {R : Type} (K : X → List V → S → Option R) (e_1 : List V) (f_2 : Fl) (x_3 : Int) : Int → Option R := (fun x_1' => K (.exit 0) (mkF 0 48 [(0, .list 1 e_1 f_2), (1, .int .i64 x_3), (5, .int .i64 (x_1'))]) [])
noncomputable abbrev it_spec_l1Put_0 {R : Type} (N : Nat) : Nat → List V → S → (X → List V → S → Option R) → Option R := fun n => iter C (Φ_spec_l1Has N) (noLooper) b_spec_l1Put_0 [0, 0, 1, 1] false ks_spec_l1Put_0 kx_spec_l1Put_0 n R
theorem r_spec_l1Put_0 {R : Type} (N n : Nat) (e_1 : List V) (f_2 : Fl) (x_3 : Int) (x_4 : Int) (K : X → List V → S → Option R) :
  it_spec_l1Put_0 N (n + 1) (fr_spec_l1Put_0 e_1 f_2 x_3 x_4) [] K =
  l_spec_l1Put_0_step N e_1 f_2 x_3 (fun x_4 => it_spec_l1Put_0 N n (fr_spec_l1Put_0 e_1 f_2 x_3 x_4) [] K) x_4 (kk0_spec_l1Put_0 K e_1 f_2 x_3) := by kernel_rfl
theorem w_spec_l1Put_0 {R : Type} (N : Nat) (e_1 : List V) (f_2 : Fl) (x_3 : Int) (K : X → List V → S → Option R) : ∀ (n : Nat) (x_4 : Int),
  it_spec_l1Put_0 N n (fr_spec_l1Put_0 e_1 f_2 x_3 x_4) [] K = l_spec_l1Put_0 N e_1 f_2 x_3 (kk0_spec_l1Put_0 K e_1 f_2 x_3) n x_4
  | 0, _ => rfl
  | n + 1, x_4 => (r_spec_l1Put_0 N n e_1 f_2 x_3 x_4 K).trans (congrArg (fun nx => l_spec_l1Put_0_step N e_1 f_2 x_3 nx x_4 (kk0_spec_l1Put_0 K e_1 f_2 x_3)) (funext fun x_4 => w_spec_l1Put_0 N e_1 f_2 x_3 K n x_4))
def i_spec_l1Put_0 {R : Type} (E : List V) (s : S) (k : List V → Fl → Int → Int → Option R) : Option R :=
  guardB (frameOk 48 [0, 1, 5] E) <| atList E 0 1 fun e_1 f_2 => atInt E 1 .i64 fun x_3 => atInt E 5 .i64 fun x_4 => asEnd s <| k e_1 f_2 x_3 x_4
theorem i_spec_l1Put_0_spec {R : Type} {E : List V} {s : S} {k : List V → Fl → Int → Int → Option R} {r : R} (h : i_spec_l1Put_0 E s k = some r) : ∃ e_1 f_2 x_3 x_4, E = fr_spec_l1Put_0 e_1 f_2 x_3 x_4 ∧ s = [] ∧ k e_1 f_2 x_3 x_4 = some r := by
  unfold i_spec_l1Put_0 at h
  obtain ⟨hg, h1⟩ := guardB_some h
  obtain ⟨_, _, hu0, h2⟩ := atList_some h1
  obtain ⟨_, hu1, h3⟩ := atInt_some h2
  obtain ⟨_, hu5, h4⟩ := atInt_some h3
  obtain ⟨rfl, h5⟩ := asEnd_some h4
  exact ⟨_, _, _, _, frame_is hg rfl (slots_cons hu0 (slots_cons hu1 (slots_cons hu5 slots_nil))), rfl, h5⟩
noncomputable def Λ_spec_l1Put_0 (N : Nat) : Looper := (noLooper).add [0, 0, 1, 1] fun _ E s K => i_spec_l1Put_0 (killE ks_spec_l1Put_0 E) s fun e_1 f_2 x_3 x_4 => l_spec_l1Put_0 N e_1 f_2 x_3 (kk0_spec_l1Put_0 K e_1 f_2 x_3) N x_4
theorem ok_spec_l1Put_0 {N : Nat} (hC : Ok Tryd.prog C) (hΦ : CalleeOk Tryd.prog C (Φ_spec_l1Has N)) : LoopOk Tryd.prog C (Λ_spec_l1Put_0 N) b_spec_l1Put_0 [0, 0, 1, 1] :=
  iter_ok (Λi := noLooper) (tr := false) (ks := ks_spec_l1Put_0) (kx := kx_spec_l1Put_0) (N := N) hC hΦ
    (loopsOk_nil (by kernel_rfl))
    fun R E s K r h => by
      have h2 := Looper.add_self.symm.trans h
      obtain ⟨_, _, _, _, he, rfl, h3⟩ := i_spec_l1Put_0_spec h2
      rw [he]
      exact (w_spec_l1Put_0 N _ _ _ _ N _).trans h3
theorem at_spec_l1Put : loopsAt c_spec_l1Put [] = [([0, 0, 1, 1], b_spec_l1Put_0)] := by kernel_rfl
theorem b_spec_l1Put {R : Type} (N : Nat) (e_1 : List V) (f_2 : Fl) (x_3 : Int) (K : V → S → Option R) : bodyV C (Φ_spec_l1Has N) (Λ_spec_l1Put_0 N) 79 Tryd.f79 [.list 1 e_1 f_2, .int .i64 x_3] [] K =
  gb_spec_l1Put N e_1 f_2 x_3 (fun e_4 => K (.list 1 e_4 .sh) []) := by kernel_rfl
theorem loops_spec_l1Put {N : Nat} (hC : Ok Tryd.prog C) (hΦ : CalleeOk Tryd.prog C (Φ_spec_l1Has N)) : LoopsOk Tryd.prog C (Λ_spec_l1Put_0 N) c_spec_l1Put [] :=
  loopsOk_of c_spec_l1Put [] (by
    rw [at_spec_l1Put]
    intro p hp
    simp only [List.mem_cons, List.mem_nil_iff, or_false] at hp
    rcases hp with rfl
    · exact (ok_spec_l1Put_0 hC hΦ))
theorem callee_spec_l1Put (hC : Ok Tryd.prog C) {N : Nat} (hΦ : CalleeOk Tryd.prog C (Φ_spec_l1Has N)) : CalleeOk Tryd.prog C (Φ_spec_l1Put N) := by
  refine hΦ.add_pure rfl fun R vs K r h => ?_
  unfold f_spec_l1Put at h
  obtain ⟨_, _, rfl, h1⟩ := asN2_some h
  obtain ⟨_, _, rfl, h2⟩ := asList_some h1
  obtain ⟨_, rfl, h3⟩ := asInt_some h2
  obtain ⟨_, h4⟩ := asEnd_some h3
  refine body_pure (fn := Tryd.f79) (c := c_spec_l1Put) hC hΦ Tryd.func79 (by kernel_rfl) (by kernel_rfl) (loops_spec_l1Put (N := N) hC hΦ) rfl rfl ?_
  refine (b_spec_l1Put N _ _ _ _).trans ?_
  rw [← g_spec_l1Put_eq]
  exact h4

/-! ### loop.example/g00756/spec.l3Met -/
noncomputable def f_spec_l3Met (N M : Nat) : (R : Type) → List V → S → (V → S → Option R) → Option R := fun _ vs s K =>
  asN3 vs fun v'1 v'2 v'3 => un_impl_Fs v'1 fun e_1 f_2 x_3 => asInt .i64 v'2 fun x_4 => asList 1 v'3 fun e_5 f_6 => asEnd s <| g_spec_l3Met N M _ e_1 f_2 x_3 x_4 e_5 f_6 (fun e_7 => K (.list 1 e_7 .sh) [])
noncomputable def Φ_spec_l3Met (N M : Nat) : Callee := (Φ_spec_l1Put N).add 55 (f_spec_l3Met N M)
noncomputable def c_spec_l3Met : Code := bodyOf Tryd.f55
noncomputable def b_spec_l3Met_0 : Code := (loopNo c_spec_l3Met [] 0).2
def ks_spec_l3Met_0 : List Nat := butL 34 [2, 3, 21, 22, 23]
def kx_spec_l3Met_0 : List Nat := butL 34 [2]
def fr_spec_l3Met_0 (e_2 : List V) (f_3 : Fl) (x_4 : Int) (e_6 : List V) (f_7 : Fl) (x_8 : Int) (e_1 : List V) (x_5 : Int) : List V := mkF 0 34 [(2, .list 1 e_1 .sh), (3, .ptr 0 0 0 0), (21, .list 2 e_2 f_3), (22, .int .i64 x_4), (23, .int .i64 x_5)]
def kk0_spec_l3Met_0 {R : Type} (K : X → List V → S → Option R) (e_2 : List V) (f_3 : Fl) (x_4 : Int) (e_6 : List V) (f_7 : Fl) (x_8 : Int) : List V → Option R := (fun e_1' => K (.exit 0) (mkF 0 34 [(2, .list 1 (e_1') .sh)]) [some ⟨[.agg [.list 7 e_6 f_7, .int .i64 x_8]], 2, 32, 0⟩])
noncomputable abbrev it_spec_l3Met_0 {R : Type} (N M : Nat) : Nat → List V → S → (X → List V → S → Option R) → Option R := fun n => iter C (Φ_spec_l3Met N M) (noLooper) b_spec_l3Met_0 [0, 1, 0, 1, 1, 1] true ks_spec_l3Met_0 kx_spec_l3Met_0 n R
theorem r_spec_l3Met_0 {R : Type} (N M n : Nat) (e_2 : List V) (f_3 : Fl) (x_4 : Int) (e_6 : List V) (f_7 : Fl) (x_8 : Int) (e_1 : List V) (x_5 : Int) (K : X → List V → S → Option R) :
  it_spec_l3Met_0 N M (n + 1) (fr_spec_l3Met_0 e_2 f_3 x_4 e_6 f_7 x_8 e_1 x_5) [some ⟨[.agg [.list 7 e_6 f_7, .int .i64 x_8]], 2, 32, 0⟩] K =
  l_spec_l3Met_0_step N (g_spec_l3Met N M) e_2 f_3 x_4 e_6 f_7 x_8 (fun e_1 x_5 => it_spec_l3Met_0 N M n (fr_spec_l3Met_0 e_2 f_3 x_4 e_6 f_7 x_8 e_1 x_5) [some ⟨[.agg [.list 7 e_6 f_7, .int .i64 x_8]], 2, 32, 0⟩] K) e_1 x_5 (kk0_spec_l3Met_0 K e_2 f_3 x_4 e_6 f_7 x_8) := by kernel_rfl
theorem w_spec_l3Met_0 {R : Type} (N M : Nat) (e_2 : List V) (f_3 : Fl) (x_4 : Int) (e_6 : List V) (f_7 : Fl) (x_8 : Int) (K : X → List V → S → Option R) : ∀ (n : Nat) (e_1 : List V) (x_5 : Int),
  it_spec_l3Met_0 N M n (fr_spec_l3Met_0 e_2 f_3 x_4 e_6 f_7 x_8 e_1 x_5) [some ⟨[.agg [.list 7 e_6 f_7, .int .i64 x_8]], 2, 32, 0⟩] K = l_spec_l3Met_0 N (g_spec_l3Met N M) e_2 f_3 x_4 e_6 f_7 x_8 (kk0_spec_l3Met_0 K e_2 f_3 x_4 e_6 f_7 x_8) n e_1 x_5
  | 0, _, _ => rfl
  | n + 1, e_1, x_5 => (r_spec_l3Met_0 N M n e_2 f_3 x_4 e_6 f_7 x_8 e_1 x_5 K).trans (congrArg (fun nx => l_spec_l3Met_0_step N (g_spec_l3Met N M) e_2 f_3 x_4 e_6 f_7 x_8 nx e_1 x_5 (kk0_spec_l3Met_0 K e_2 f_3 x_4 e_6 f_7 x_8)) (funext fun e_1 => funext fun x_5 => w_spec_l3Met_0 N M e_2 f_3 x_4 e_6 f_7 x_8 K n e_1 x_5))
def i_spec_l3Met_0 {R : Type} (E : List V) (s : S) (k : List V → List V → Fl → Int → Int → List V → Fl → Int → Option R) : Option R :=
  guardB (frameOk 34 [2, 3, 21, 22, 23] E) <| must (nth E 2) fun u2 => asList 1 u2 fun e_1 f'1 => asSh f'1 <| atIs E 3 (.ptr 0 0 0 0) <| atList E 21 2 fun e_2 f_3 => atInt E 22 .i64 fun x_4 => atInt E 23 .i64 fun x_5 => asOb s fun o'2 s'3 => obIs o'2 2 32 fun e'4 k'5 => isN k'5 0 <| asN1 e'4 fun v'6 => asAgg v'6 fun c'7 => asN2 c'7 fun v'8 v'9 => asList 7 v'8 fun e_6 f_7 => asInt .i64 v'9 fun x_8 => asEnd s'3 <| k e_1 e_2 f_3 x_4 x_5 e_6 f_7 x_8
theorem i_spec_l3Met_0_spec {R : Type} {E : List V} {s : S} {k : List V → List V → Fl → Int → Int → List V → Fl → Int → Option R} {r : R} (h : i_spec_l3Met_0 E s k = some r) : ∃ e_1 e_2 f_3 x_4 x_5 e_6 f_7 x_8, E = fr_spec_l3Met_0 e_2 f_3 x_4 e_6 f_7 x_8 e_1 x_5 ∧ s = [some ⟨[.agg [.list 7 e_6 f_7, .int .i64 x_8]], 2, 32, 0⟩] ∧ k e_1 e_2 f_3 x_4 x_5 e_6 f_7 x_8 = some r := by
  unfold i_spec_l3Met_0 at h
  obtain ⟨hg, h1⟩ := guardB_some h
  obtain ⟨_, hu2, h2⟩ := must_some h1
  obtain ⟨_, _, rfl, h3⟩ := asList_some h2
  obtain ⟨rfl, h4⟩ := asSh_some h3
  obtain ⟨hu3, h5⟩ := atIs_some h4
  obtain ⟨_, _, hu21, h6⟩ := atList_some h5
  obtain ⟨_, hu22, h7⟩ := atInt_some h6
  obtain ⟨_, hu23, h8⟩ := atInt_some h7
  obtain ⟨_, _, rfl, h9⟩ := asOb_some h8
  obtain ⟨_, _, rfl, h10⟩ := obIs_some h9
  obtain ⟨rfl, h11⟩ := isN_some h10
  obtain ⟨_, rfl, h12⟩ := asN1_some h11
  obtain ⟨_, rfl, h13⟩ := asAgg_some h12
  obtain ⟨_, _, rfl, h14⟩ := asN2_some h13
  obtain ⟨_, _, rfl, h15⟩ := asList_some h14
  obtain ⟨_, rfl, h16⟩ := asInt_some h15
  obtain ⟨rfl, h17⟩ := asEnd_some h16
  exact ⟨_, _, _, _, _, _, _, _, frame_is hg rfl (slots_cons hu2 (slots_cons hu3 (slots_cons hu21 (slots_cons hu22 (slots_cons hu23 slots_nil))))), rfl, h17⟩
noncomputable def Λ_spec_l3Met_0 (N M : Nat) : Looper := (noLooper).add [0, 1, 0, 1, 1, 1] fun _ E s K => i_spec_l3Met_0 (killE ks_spec_l3Met_0 E) s fun e_1 e_2 f_3 x_4 x_5 e_6 f_7 x_8 => l_spec_l3Met_0 N (g_spec_l3Met N M) e_2 f_3 x_4 e_6 f_7 x_8 (kk0_spec_l3Met_0 K e_2 f_3 x_4 e_6 f_7 x_8) N e_1 x_5
theorem ok_spec_l3Met_0 {N M : Nat} (hC : Ok Tryd.prog C) (hΦ : CalleeOk Tryd.prog C (Φ_spec_l3Met N M)) : LoopOk Tryd.prog C (Λ_spec_l3Met_0 N M) b_spec_l3Met_0 [0, 1, 0, 1, 1, 1] :=
  iter_ok (Λi := noLooper) (tr := true) (ks := ks_spec_l3Met_0) (kx := kx_spec_l3Met_0) (N := N) hC hΦ
    (loopsOk_nil (by kernel_rfl))
    fun R E s K r h => by
      have h2 := Looper.add_self.symm.trans h
      obtain ⟨_, _, _, _, _, _, _, _, he, rfl, h3⟩ := i_spec_l3Met_0_spec h2
      rw [he]
      exact (w_spec_l3Met_0 N M _ _ _ _ _ _ _ N _ _).trans h3
theorem at_spec_l3Met : loopsAt c_spec_l3Met [] = [([0, 1, 0, 1, 1, 1], b_spec_l3Met_0)] := by kernel_rfl
theorem b_spec_l3Met {R : Type} (N M : Nat) (e_1 : List V) (f_2 : Fl) (x_3 x_4 : Int) (e_5 : List V) (f_6 : Fl) (K : V → S → Option R) : bodyV C (Φ_spec_l3Met N M) (Λ_spec_l3Met_0 N M) 55 Tryd.f55 [.agg [.list 7 e_1 f_2, .int .i64 x_3], .int .i64 x_4, .list 1 e_5 f_6] [] K =
  gb_spec_l3Met N (g_spec_l3Met N M) e_1 f_2 x_3 x_4 e_5 f_6 (fun e_7 => K (.list 1 e_7 .sh) []) := by kernel_rfl
theorem loops_spec_l3Met {N M : Nat} (hC : Ok Tryd.prog C) (hΦ : CalleeOk Tryd.prog C (Φ_spec_l3Met N M)) : LoopsOk Tryd.prog C (Λ_spec_l3Met_0 N M) c_spec_l3Met [] :=
  loopsOk_of c_spec_l3Met [] (by
    rw [at_spec_l3Met]
    intro p hp
    simp only [List.mem_cons, List.mem_nil_iff, or_false] at hp
    rcases hp with rfl
    · exact (ok_spec_l3Met_0 hC hΦ))
theorem callee_spec_l3Met_M (hC : Ok Tryd.prog C) {N : Nat} (hΦ : CalleeOk Tryd.prog C (Φ_spec_l1Put N)) : ∀ M, CalleeOk Tryd.prog C (Φ_spec_l3Met N M) := by
  intro M
  induction M with
  | zero =>
    refine hΦ.add_pure rfl fun R vs K r h => ?_
    exfalso
    unfold f_spec_l3Met at h
    obtain ⟨_, _, _, rfl, h1⟩ := asN3_some h
    obtain ⟨_, _, _, rfl, h2⟩ := un_impl_Fs_some h1
    obtain ⟨_, rfl, h3⟩ := asInt_some h2
    obtain ⟨_, _, rfl, h4⟩ := asList_some h3
    obtain ⟨_, h5⟩ := asEnd_some h4
    rw [g_spec_l3Met_zero] at h5
    cases h5
  | succ M ih =>
    refine hΦ.add_pure rfl fun R vs K r h => ?_
    unfold f_spec_l3Met at h
    obtain ⟨_, _, _, rfl, h1⟩ := asN3_some h
    obtain ⟨_, _, _, rfl, h2⟩ := un_impl_Fs_some h1
    obtain ⟨_, rfl, h3⟩ := asInt_some h2
    obtain ⟨_, _, rfl, h4⟩ := asList_some h3
    obtain ⟨_, h5⟩ := asEnd_some h4
    refine body_pure (fn := Tryd.f55) (c := c_spec_l3Met) hC ih Tryd.func55 (by kernel_rfl) (by kernel_rfl) (loops_spec_l3Met (N := N) (M := M) hC ih) rfl rfl ?_
    refine (b_spec_l3Met N M _ _ _ _ _ _ _).trans ?_
    rw [← g_spec_l3Met_eq]
    exact h5
theorem callee_spec_l3Met (hC : Ok Tryd.prog C) {N : Nat} (hΦ : CalleeOk Tryd.prog C (Φ_spec_l1Put N)) : CalleeOk Tryd.prog C (Φ_spec_l3Met N N) := callee_spec_l3Met_M hC hΦ N

/-! ### loop.example/g00756/spec.l3Good -/
noncomputable def f_spec_l3Good (N : Nat) : (R : Type) → List V → S → (V → S → Option R) → Option R := fun _ vs s K =>
  asN1 vs fun v'1 => un_impl_Fs v'1 fun e_1 f_2 x_3 => asEnd s <| g_spec_l3Good N e_1 f_2 x_3 (fun b_4 => K (.bool b_4) [])
noncomputable def Φ_spec_l3Good (N : Nat) : Callee := (Φ_spec_l3Met N N).add 32 (f_spec_l3Good N)
noncomputable def c_spec_l3Good : Code := bodyOf Tryd.f32
noncomputable def b_spec_l3Good_0 : Code := (loopNo c_spec_l3Good [] 0).2
noncomputable def b_spec_l3Good_1 : Code := (loopNo c_spec_l3Good [] 1).2
def ks_spec_l3Good_0 : List Nat := butL 91 [1, 36, 37, 38]
def kx_spec_l3Good_0 : List Nat := butL 91 [1, 2]
def fr_spec_l3Good_0 (e_1 : List V) (f_2 : Fl) (x_3 : Int) (e_5 : List V) (f_6 : Fl) (x_7 x_4 : Int) : List V := mkF 0 91 [(1, .ptr 0 0 0 0), (36, .list 7 e_1 f_2), (37, .int .i64 x_3), (38, .int .i64 x_4)]
def kk0_spec_l3Good_0 {R : Type} (K : X → List V → S → Option R) (e_1 : List V) (f_2 : Fl) (x_3 : Int) (e_5 : List V) (f_6 : Fl) (x_7 : Int) : Unit → Option R := (fun _ => K .ret (mkF 0 91 [(1, .ptr 0 0 0 0), (2, .bool false)]) [some ⟨[.agg [.list 7 e_5 f_6, .int .i64 x_7]], 2, 32, 0⟩])
def kk1_spec_l3Good_0 {R : Type} (K : X → List V → S → Option R) (e_1 : List V) (f_2 : Fl) (x_3 : Int) (e_5 : List V) (f_6 : Fl) (x_7 : Int) : Unit → Option R := (fun _ => K (.exit 0) (mkF 0 91 [(1, .ptr 0 0 0 0)]) [some ⟨[.agg [.list 7 e_5 f_6, .int .i64 x_7]], 2, 32, 0⟩])
noncomputable abbrev it_spec_l3Good_0 {R : Type} (N : Nat) : Nat → List V → S → (X → List V → S → Option R) → Option R := fun n => iter C (Φ_spec_l3Met N N) (noLooper) b_spec_l3Good_0 [0, 1, 0, 1, 1] true ks_spec_l3Good_0 kx_spec_l3Good_0 n R
theorem r_spec_l3Good_0 {R : Type} (N n : Nat) (e_1 : List V) (f_2 : Fl) (x_3 : Int) (e_5 : List V) (f_6 : Fl) (x_7 : Int) (x_4 : Int) (K : X → List V → S → Option R) :
  it_spec_l3Good_0 N (n + 1) (fr_spec_l3Good_0 e_1 f_2 x_3 e_5 f_6 x_7 x_4) [some ⟨[.agg [.list 7 e_5 f_6, .int .i64 x_7]], 2, 32, 0⟩] K =
  l_spec_l3Good_0_step N e_1 f_2 x_3 e_5 f_6 x_7 (fun x_4 => it_spec_l3Good_0 N n (fr_spec_l3Good_0 e_1 f_2 x_3 e_5 f_6 x_7 x_4) [some ⟨[.agg [.list 7 e_5 f_6, .int .i64 x_7]], 2, 32, 0⟩] K) x_4 (kk0_spec_l3Good_0 K e_1 f_2 x_3 e_5 f_6 x_7) (kk1_spec_l3Good_0 K e_1 f_2 x_3 e_5 f_6 x_7) := by kernel_rfl
theorem w_spec_l3Good_0 {R : Type} (N : Nat) (e_1 : List V) (f_2 : Fl) (x_3 : Int) (e_5 : List V) (f_6 : Fl) (x_7 : Int) (K : X → List V → S → Option R) : ∀ (n : Nat) (x_4 : Int),
  it_spec_l3Good_0 N n (fr_spec_l3Good_0 e_1 f_2 x_3 e_5 f_6 x_7 x_4) [some ⟨[.agg [.list 7 e_5 f_6, .int .i64 x_7]], 2, 32, 0⟩] K = l_spec_l3Good_0 N e_1 f_2 x_3 e_5 f_6 x_7 (kk0_spec_l3Good_0 K e_1 f_2 x_3 e_5 f_6 x_7) (kk1_spec_l3Good_0 K e_1 f_2 x_3 e_5 f_6 x_7) n x_4
  | 0, _ => rfl
  | n + 1, x_4 => (r_spec_l3Good_0 N n e_1 f_2 x_3 e_5 f_6 x_7 x_4 K).trans (congrArg (fun nx => l_spec_l3Good_0_step N e_1 f_2 x_3 e_5 f_6 x_7 nx x_4 (kk0_spec_l3Good_0 K e_1 f_2 x_3 e_5 f_6 x_7) (kk1_spec_l3Good_0 K e_1 f_2 x_3 e_5 f_6 x_7)) (funext fun x_4 => w_spec_l3Good_0 N e_1 f_2 x_3 e_5 f_6 x_7 K n x_4))
def i_spec_l3Good_0 {R : Type} (E : List V) (s : S) (k : List V → Fl → Int → Int → List V → Fl → Int → Option R) : Option R :=
  guardB (frameOk 91 [1, 36, 37, 38] E) <| atIs E 1 (.ptr 0 0 0 0) <| atList E 36 7 fun e_1 f_2 => atInt E 37 .i64 fun x_3 => atInt E 38 .i64 fun x_4 => asOb s fun o'1 s'2 => obIs o'1 2 32 fun e'3 k'4 => isN k'4 0 <| asN1 e'3 fun v'5 => asAgg v'5 fun c'6 => asN2 c'6 fun v'7 v'8 => asList 7 v'7 fun e_5 f_6 => asInt .i64 v'8 fun x_7 => asEnd s'2 <| k e_1 f_2 x_3 x_4 e_5 f_6 x_7
theorem i_spec_l3Good_0_spec {R : Type} {E : List V} {s : S} {k : List V → Fl → Int → Int → List V → Fl → Int → Option R} {r : R} (h : i_spec_l3Good_0 E s k = some r) : ∃ e_1 f_2 x_3 x_4 e_5 f_6 x_7, E = fr_spec_l3Good_0 e_1 f_2 x_3 e_5 f_6 x_7 x_4 ∧ s = [some ⟨[.agg [.list 7 e_5 f_6, .int .i64 x_7]], 2, 32, 0⟩] ∧ k e_1 f_2 x_3 x_4 e_5 f_6 x_7 = some r := by
  unfold i_spec_l3Good_0 at h
  obtain ⟨hg, h1⟩ := guardB_some h
  obtain ⟨hu1, h2⟩ := atIs_some h1
  obtain ⟨_, _, hu36, h3⟩ := atList_some h2
  obtain ⟨_, hu37, h4⟩ := atInt_some h3
  obtain ⟨_, hu38, h5⟩ := atInt_some h4
  obtain ⟨_, _, rfl, h6⟩ := asOb_some h5
  obtain ⟨_, _, rfl, h7⟩ := obIs_some h6
  obtain ⟨rfl, h8⟩ := isN_some h7
  obtain ⟨_, rfl, h9⟩ := asN1_some h8
  obtain ⟨_, rfl, h10⟩ := asAgg_some h9
  obtain ⟨_, _, rfl, h11⟩ := asN2_some h10
  obtain ⟨_, _, rfl, h12⟩ := asList_some h11
  obtain ⟨_, rfl, h13⟩ := asInt_some h12
  obtain ⟨rfl, h14⟩ := asEnd_some h13
  exact ⟨_, _, _, _, _, _, _, frame_is hg rfl (slots_cons hu1 (slots_cons hu36 (slots_cons hu37 (slots_cons hu38 slots_nil)))), rfl, h14⟩
noncomputable def Λ_spec_l3Good_0 (N : Nat) : Looper := (noLooper).add [0, 1, 0, 1, 1] fun _ E s K => i_spec_l3Good_0 (killE ks_spec_l3Good_0 E) s fun e_1 f_2 x_3 x_4 e_5 f_6 x_7 => l_spec_l3Good_0 N e_1 f_2 x_3 e_5 f_6 x_7 (kk0_spec_l3Good_0 K e_1 f_2 x_3 e_5 f_6 x_7) (kk1_spec_l3Good_0 K e_1 f_2 x_3 e_5 f_6 x_7) N x_4
theorem ok_spec_l3Good_0 {N : Nat} (hC : Ok Tryd.prog C) (hΦ : CalleeOk Tryd.prog C (Φ_spec_l3Met N N)) : LoopOk Tryd.prog C (Λ_spec_l3Good_0 N) b_spec_l3Good_0 [0, 1, 0, 1, 1] :=
  iter_ok (Λi := noLooper) (tr := true) (ks := ks_spec_l3Good_0) (kx := kx_spec_l3Good_0) (N := N) hC hΦ
    (loopsOk_nil (by kernel_rfl))
    fun R E s K r h => by
      have h2 := Looper.add_self.symm.trans h
      obtain ⟨_, _, _, _, _, _, _, he, rfl, h3⟩ := i_spec_l3Good_0_spec h2
      rw [he]
      exact (w_spec_l3Good_0 N _ _ _ _ _ _ _ N _).trans h3
def ks_spec_l3Good_1 : List Nat := butL 91 [1, 5, 50, 51, 52]
def kx_spec_l3Good_1 : List Nat := butL 91 [2]
def fr_spec_l3Good_1 (e_1 e_2 : List V) (f_3 : Fl) (x_4 : Int) (e_6 : List V) (f_7 : Fl) (x_8 x_5 : Int) : List V := mkF 0 91 [(1, .ptr 0 0 0 0), (5, .list 1 e_1 .sh), (50, .list 7 e_2 f_3), (51, .int .i64 x_4), (52, .int .i64 x_5)]
def kk0_spec_l3Good_1 {R : Type} (K : X → List V → S → Option R) (e_1 : List V) (e_2 : List V) (f_3 : Fl) (x_4 : Int) (e_6 : List V) (f_7 : Fl) (x_8 : Int) : Unit → Option R := (fun _ => K .ret (mkF 0 91 [(2, .bool false)]) [some ⟨[.agg [.list 7 e_6 f_7, .int .i64 x_8]], 2, 32, 0⟩])
def kk1_spec_l3Good_1 {R : Type} (K : X → List V → S → Option R) (e_1 : List V) (e_2 : List V) (f_3 : Fl) (x_4 : Int) (e_6 : List V) (f_7 : Fl) (x_8 : Int) : Unit → Option R := (fun _ => K (.exit 2) (mkF 0 91 []) [some ⟨[.agg [.list 7 e_6 f_7, .int .i64 x_8]], 2, 32, 0⟩])
noncomputable abbrev it_spec_l3Good_1 {R : Type} (N : Nat) : Nat → List V → S → (X → List V → S → Option R) → Option R := fun n => iter C (Φ_spec_l3Met N N) (Λ_spec_l3Good_0 N) b_spec_l3Good_1 [0, 1, 0, 1, 1, 1, 1] true ks_spec_l3Good_1 kx_spec_l3Good_1 n R
theorem r_spec_l3Good_1 {R : Type} (N n : Nat) (e_1 e_2 : List V) (f_3 : Fl) (x_4 : Int) (e_6 : List V) (f_7 : Fl) (x_8 : Int) (x_5 : Int) (K : X → List V → S → Option R) :
  it_spec_l3Good_1 N (n + 1) (fr_spec_l3Good_1 e_1 e_2 f_3 x_4 e_6 f_7 x_8 x_5) [some ⟨[.agg [.list 7 e_6 f_7, .int .i64 x_8]], 2, 32, 0⟩] K =
  l_spec_l3Good_1_step N e_1 e_2 f_3 x_4 e_6 f_7 x_8 (fun x_5 => it_spec_l3Good_1 N n (fr_spec_l3Good_1 e_1 e_2 f_3 x_4 e_6 f_7 x_8 x_5) [some ⟨[.agg [.list 7 e_6 f_7, .int .i64 x_8]], 2, 32, 0⟩] K) x_5 (kk0_spec_l3Good_1 K e_1 e_2 f_3 x_4 e_6 f_7 x_8) (kk1_spec_l3Good_1 K e_1 e_2 f_3 x_4 e_6 f_7 x_8) := by kernel_rfl
theorem w_spec_l3Good_1 {R : Type} (N : Nat) (e_1 e_2 : List V) (f_3 : Fl) (x_4 : Int) (e_6 : List V) (f_7 : Fl) (x_8 : Int) (K : X → List V → S → Option R) : ∀ (n : Nat) (x_5 : Int),
  it_spec_l3Good_1 N n (fr_spec_l3Good_1 e_1 e_2 f_3 x_4 e_6 f_7 x_8 x_5) [some ⟨[.agg [.list 7 e_6 f_7, .int .i64 x_8]], 2, 32, 0⟩] K = l_spec_l3Good_1 N e_1 e_2 f_3 x_4 e_6 f_7 x_8 (kk0_spec_l3Good_1 K e_1 e_2 f_3 x_4 e_6 f_7 x_8) (kk1_spec_l3Good_1 K e_1 e_2 f_3 x_4 e_6 f_7 x_8) n x_5
  | 0, _ => rfl
  | n + 1, x_5 => (r_spec_l3Good_1 N n e_1 e_2 f_3 x_4 e_6 f_7 x_8 x_5 K).trans (congrArg (fun nx => l_spec_l3Good_1_step N e_1 e_2 f_3 x_4 e_6 f_7 x_8 nx x_5 (kk0_spec_l3Good_1 K e_1 e_2 f_3 x_4 e_6 f_7 x_8) (kk1_spec_l3Good_1 K e_1 e_2 f_3 x_4 e_6 f_7 x_8)) (funext fun x_5 => w_spec_l3Good_1 N e_1 e_2 f_3 x_4 e_6 f_7 x_8 K n x_5))
def i_spec_l3Good_1 {R : Type} (E : List V) (s : S) (k : List V → List V → Fl → Int → Int → List V → Fl → Int → Option R) : Option R :=
  guardB (frameOk 91 [1, 5, 50, 51, 52] E) <| atIs E 1 (.ptr 0 0 0 0) <| must (nth E 5) fun u5 => asList 1 u5 fun e_1 f'1 => asSh f'1 <| atList E 50 7 fun e_2 f_3 => atInt E 51 .i64 fun x_4 => atInt E 52 .i64 fun x_5 => asOb s fun o'2 s'3 => obIs o'2 2 32 fun e'4 k'5 => isN k'5 0 <| asN1 e'4 fun v'6 => asAgg v'6 fun c'7 => asN2 c'7 fun v'8 v'9 => asList 7 v'8 fun e_6 f_7 => asInt .i64 v'9 fun x_8 => asEnd s'3 <| k e_1 e_2 f_3 x_4 x_5 e_6 f_7 x_8
theorem i_spec_l3Good_1_spec {R : Type} {E : List V} {s : S} {k : List V → List V → Fl → Int → Int → List V → Fl → Int → Option R} {r : R} (h : i_spec_l3Good_1 E s k = some r) : ∃ e_1 e_2 f_3 x_4 x_5 e_6 f_7 x_8, E = fr_spec_l3Good_1 e_1 e_2 f_3 x_4 e_6 f_7 x_8 x_5 ∧ s = [some ⟨[.agg [.list 7 e_6 f_7, .int .i64 x_8]], 2, 32, 0⟩] ∧ k e_1 e_2 f_3 x_4 x_5 e_6 f_7 x_8 = some r := by
  unfold i_spec_l3Good_1 at h
  obtain ⟨hg, h1⟩ := guardB_some h
  obtain ⟨hu1, h2⟩ := atIs_some h1
  obtain ⟨_, hu5, h3⟩ := must_some h2
  obtain ⟨_, _, rfl, h4⟩ := asList_some h3
  obtain ⟨rfl, h5⟩ := asSh_some h4
  obtain ⟨_, _, hu50, h6⟩ := atList_some h5
  obtain ⟨_, hu51, h7⟩ := atInt_some h6
  obtain ⟨_, hu52, h8⟩ := atInt_some h7
  obtain ⟨_, _, rfl, h9⟩ := asOb_some h8
  obtain ⟨_, _, rfl, h10⟩ := obIs_some h9
  obtain ⟨rfl, h11⟩ := isN_some h10
  obtain ⟨_, rfl, h12⟩ := asN1_some h11
  obtain ⟨_, rfl, h13⟩ := asAgg_some h12
  obtain ⟨_, _, rfl, h14⟩ := asN2_some h13
  obtain ⟨_, _, rfl, h15⟩ := asList_some h14
  obtain ⟨_, rfl, h16⟩ := asInt_some h15
  obtain ⟨rfl, h17⟩ := asEnd_some h16
  exact ⟨_, _, _, _, _, _, _, _, frame_is hg rfl (slots_cons hu1 (slots_cons hu5 (slots_cons hu50 (slots_cons hu51 (slots_cons hu52 slots_nil))))), rfl, h17⟩
noncomputable def Λ_spec_l3Good_1 (N : Nat) : Looper := (Λ_spec_l3Good_0 N).add [0, 1, 0, 1, 1, 1, 1] fun _ E s K => i_spec_l3Good_1 (killE ks_spec_l3Good_1 E) s fun e_1 e_2 f_3 x_4 x_5 e_6 f_7 x_8 => l_spec_l3Good_1 N e_1 e_2 f_3 x_4 e_6 f_7 x_8 (kk0_spec_l3Good_1 K e_1 e_2 f_3 x_4 e_6 f_7 x_8) (kk1_spec_l3Good_1 K e_1 e_2 f_3 x_4 e_6 f_7 x_8) N x_5
theorem ok_spec_l3Good_1 {N : Nat} (hC : Ok Tryd.prog C) (hΦ : CalleeOk Tryd.prog C (Φ_spec_l3Met N N)) : LoopOk Tryd.prog C (Λ_spec_l3Good_1 N) b_spec_l3Good_1 [0, 1, 0, 1, 1, 1, 1] :=
  iter_ok (Λi := Λ_spec_l3Good_0 N) (tr := true) (ks := ks_spec_l3Good_1) (kx := kx_spec_l3Good_1) (N := N) hC hΦ
    (loopsOk_nil (by kernel_rfl))
    fun R E s K r h => by
      have h2 := Looper.add_self.symm.trans h
      obtain ⟨_, _, _, _, _, _, _, _, he, rfl, h3⟩ := i_spec_l3Good_1_spec h2
      rw [he]
      exact (w_spec_l3Good_1 N _ _ _ _ _ _ _ _ N _).trans h3
theorem at_spec_l3Good : loopsAt c_spec_l3Good [] = [([0, 1, 0, 1, 1], b_spec_l3Good_0), ([0, 1, 0, 1, 1, 1, 1], b_spec_l3Good_1)] := by kernel_rfl
theorem b_spec_l3Good {R : Type} (N : Nat) (e_1 : List V) (f_2 : Fl) (x_3 : Int) (K : V → S → Option R) : bodyV C (Φ_spec_l3Met N N) (Λ_spec_l3Good_1 N) 32 Tryd.f32 [.agg [.list 7 e_1 f_2, .int .i64 x_3]] [] K =
  gb_spec_l3Good N e_1 f_2 x_3 (fun b_4 => K (.bool b_4) []) := by kernel_rfl
theorem loops_spec_l3Good {N : Nat} (hC : Ok Tryd.prog C) (hΦ : CalleeOk Tryd.prog C (Φ_spec_l3Met N N)) : LoopsOk Tryd.prog C (Λ_spec_l3Good_1 N) c_spec_l3Good [] :=
  loopsOk_of c_spec_l3Good [] (by
    rw [at_spec_l3Good]
    intro p hp
    simp only [List.mem_cons, List.mem_nil_iff, or_false] at hp
    rcases hp with rfl | rfl
    · exact (LoopOk.add (ok_spec_l3Good_0 hC hΦ) rfl)
    · exact (ok_spec_l3Good_1 hC hΦ))
theorem callee_spec_l3Good (hC : Ok Tryd.prog C) {N : Nat} (hΦ : CalleeOk Tryd.prog C (Φ_spec_l3Met N N)) : CalleeOk Tryd.prog C (Φ_spec_l3Good N) := by
  refine hΦ.add_pure rfl fun R vs K r h => ?_
  unfold f_spec_l3Good at h
  obtain ⟨_, rfl, h1⟩ := asN1_some h
  obtain ⟨_, _, _, rfl, h2⟩ := un_impl_Fs_some h1
  obtain ⟨_, h3⟩ := asEnd_some h2
  refine body_pure (fn := Tryd.f32) (c := c_spec_l3Good) hC hΦ Tryd.func32 (by kernel_rfl) (by kernel_rfl) (loops_spec_l3Good (N := N) hC hΦ) rfl rfl ?_
  refine (b_spec_l3Good N _ _ _ _).trans ?_
  rw [← g_spec_l3Good_eq]
  exact h3

/-! ### loop.example/g00756/spec.l1Cred -/
noncomputable def f_spec_l1Cred (N : Nat) : (R : Type) → List V → S → (V → S → Option R) → Option R := fun _ vs s K =>
  asN1 vs fun v'1 => un_impl_Cred v'1 fun x_1 x_2 => asEnd s <| g_spec_l1Cred N x_1 x_2 (fun b_3 => K (.bool b_3) [])
noncomputable def Φ_spec_l1Cred (N : Nat) : Callee := (Φ_spec_l3Good N).add 33 (f_spec_l1Cred N)
noncomputable def c_spec_l1Cred : Code := bodyOf Tryd.f33
theorem b_spec_l1Cred {R : Type} (N : Nat) (x_1 x_2 : Int) (K : V → S → Option R) : bodyV C (Φ_spec_l3Good N) (noLooper) 33 Tryd.f33 [.agg [.int .i64 x_1, .int .i64 x_2]] [] K =
  gb_spec_l1Cred N x_1 x_2 (fun b_3 => K (.bool b_3) []) := by kernel_rfl
theorem callee_spec_l1Cred (hC : Ok Tryd.prog C) {N : Nat} (hΦ : CalleeOk Tryd.prog C (Φ_spec_l3Good N)) : CalleeOk Tryd.prog C (Φ_spec_l1Cred N) := by
  refine hΦ.add_pure rfl fun R vs K r h => ?_
  unfold f_spec_l1Cred at h
  obtain ⟨_, rfl, h1⟩ := asN1_some h
  obtain ⟨_, _, rfl, h2⟩ := un_impl_Cred_some h1
  obtain ⟨_, h3⟩ := asEnd_some h2
  refine body_pure (fn := Tryd.f33) (c := c_spec_l1Cred) hC hΦ Tryd.func33 (by kernel_rfl) (by kernel_rfl) (loopsOk_nil (Λ := noLooper) (by kernel_rfl)) rfl rfl ?_
  refine (b_spec_l1Cred N _ _ _).trans ?_
  rw [← g_spec_l1Cred_eq]
  exact h3

/-! ### loop.example/g00756/spec.l4Asked -/
noncomputable def f_spec_l4Asked (N : Nat) : (R : Type) → List V → S → (V → S → Option R) → Option R := fun _ vs s K =>
  asN2 vs fun v'1 v'2 => un_impl_Fs v'1 fun e_1 f_2 x_3 => un_impl_Cred v'2 fun x_4 x_5 => asEnd s <| g_spec_l4Asked N e_1 f_2 x_3 x_4 x_5 (fun b_6 => K (.bool b_6) [])
noncomputable def Φ_spec_l4Asked (N : Nat) : Callee := (Φ_spec_l1Cred N).add 21 (f_spec_l4Asked N)
noncomputable def c_spec_l4Asked : Code := bodyOf Tryd.f21
theorem b_spec_l4Asked {R : Type} (N : Nat) (e_1 : List V) (f_2 : Fl) (x_3 x_4 x_5 : Int) (K : V → S → Option R) : bodyV C (Φ_spec_l1Cred N) (noLooper) 21 Tryd.f21 [.agg [.list 7 e_1 f_2, .int .i64 x_3], .agg [.int .i64 x_4, .int .i64 x_5]] [] K =
  gb_spec_l4Asked N e_1 f_2 x_3 x_4 x_5 (fun b_6 => K (.bool b_6) []) := by kernel_rfl
theorem callee_spec_l4Asked (hC : Ok Tryd.prog C) {N : Nat} (hΦ : CalleeOk Tryd.prog C (Φ_spec_l1Cred N)) : CalleeOk Tryd.prog C (Φ_spec_l4Asked N) := by
  refine hΦ.add_pure rfl fun R vs K r h => ?_
  unfold f_spec_l4Asked at h
  obtain ⟨_, _, rfl, h1⟩ := asN2_some h
  obtain ⟨_, _, _, rfl, h2⟩ := un_impl_Fs_some h1
  obtain ⟨_, _, rfl, h3⟩ := un_impl_Cred_some h2
  obtain ⟨_, h4⟩ := asEnd_some h3
  refine body_pure (fn := Tryd.f21) (c := c_spec_l4Asked) hC hΦ Tryd.func21 (by kernel_rfl) (by kernel_rfl) (loopsOk_nil (Λ := noLooper) (by kernel_rfl)) rfl rfl ?_
  refine (b_spec_l4Asked N _ _ _ _ _ _).trans ?_
  rw [← g_spec_l4Asked_eq]
  exact h4

/-! ### loop.example/g00756/spec.l2Whole -/
noncomputable def f_spec_l2Whole (N : Nat) : (R : Type) → List V → S → (V → S → Option R) → Option R := fun _ vs s K =>
  asN1 vs fun v'1 => asStr v'1 fun w_1 => asEnd s <| g_spec_l2Whole N w_1 (fun b_2 => K (.bool b_2) [])
noncomputable def Φ_spec_l2Whole (N : Nat) : Callee := (Φ_spec_l4Asked N).add 34 (f_spec_l2Whole N)
noncomputable def c_spec_l2Whole : Code := bodyOf Tryd.f34
theorem b_spec_l2Whole {R : Type} (N : Nat) (w_1 : ByteArray) (K : V → S → Option R) : bodyV C (Φ_spec_l4Asked N) (noLooper) 34 Tryd.f34 [.str w_1] [] K =
  gb_spec_l2Whole N w_1 (fun b_2 => K (.bool b_2) []) := by kernel_rfl
theorem callee_spec_l2Whole (hC : Ok Tryd.prog C) {N : Nat} (hΦ : CalleeOk Tryd.prog C (Φ_spec_l4Asked N)) : CalleeOk Tryd.prog C (Φ_spec_l2Whole N) := by
  refine hΦ.add_pure rfl fun R vs K r h => ?_
  unfold f_spec_l2Whole at h
  obtain ⟨_, rfl, h1⟩ := asN1_some h
  obtain ⟨_, rfl, h2⟩ := asStr_some h1
  obtain ⟨_, h3⟩ := asEnd_some h2
  refine body_pure (fn := Tryd.f34) (c := c_spec_l2Whole) hC hΦ Tryd.func34 (by kernel_rfl) (by kernel_rfl) (loopsOk_nil (Λ := noLooper) (by kernel_rfl)) rfl rfl ?_
  refine (b_spec_l2Whole N _ _).trans ?_
  rw [← g_spec_l2Whole_eq]
  exact h3

/-! ### loop.example/g00756/spec.l1May -/
noncomputable def f_spec_l1May (N : Nat) : (R : Type) → List V → S → (V → S → Option R) → Option R := fun _ vs s K =>
  asN5 vs fun v'1 v'2 v'3 v'4 v'5 => un_impl_Cred v'1 fun x_1 x_2 => asInt .i64 v'2 fun x_3 => asInt .i64 v'3 fun x_4 => asInt .i64 v'4 fun x_5 => asInt .i64 v'5 fun x_6 => asEnd s <| g_spec_l1May N x_1 x_2 x_3 x_4 x_5 x_6 (fun b_7 => K (.bool b_7) [])
noncomputable def Φ_spec_l1May (N : Nat) : Callee := (Φ_spec_l2Whole N).add 75 (f_spec_l1May N)
noncomputable def c_spec_l1May : Code := bodyOf Tryd.f75
theorem b_spec_l1May {R : Type} (N : Nat) (x_1 x_2 x_3 x_4 x_5 x_6 : Int) (K : V → S → Option R) : bodyV C (Φ_spec_l2Whole N) (noLooper) 75 Tryd.f75 [.agg [.int .i64 x_1, .int .i64 x_2], .int .i64 x_3, .int .i64 x_4, .int .i64 x_5, .int .i64 x_6] [] K =
  gb_spec_l1May N x_1 x_2 x_3 x_4 x_5 x_6 (fun b_7 => K (.bool b_7) []) := by kernel_rfl
theorem callee_spec_l1May (hC : Ok Tryd.prog C) {N : Nat} (hΦ : CalleeOk Tryd.prog C (Φ_spec_l2Whole N)) : CalleeOk Tryd.prog C (Φ_spec_l1May N) := by
  refine hΦ.add_pure rfl fun R vs K r h => ?_
  unfold f_spec_l1May at h
  obtain ⟨_, _, _, _, _, rfl, h1⟩ := asN5_some h
  obtain ⟨_, _, rfl, h2⟩ := un_impl_Cred_some h1
  obtain ⟨_, rfl, h3⟩ := asInt_some h2
  obtain ⟨_, rfl, h4⟩ := asInt_some h3
  obtain ⟨_, rfl, h5⟩ := asInt_some h4
  obtain ⟨_, rfl, h6⟩ := asInt_some h5
  obtain ⟨_, h7⟩ := asEnd_some h6
  refine body_pure (fn := Tryd.f75) (c := c_spec_l1May) hC hΦ Tryd.func75 (by kernel_rfl) (by kernel_rfl) (loopsOk_nil (Λ := noLooper) (by kernel_rfl)) rfl rfl ?_
  refine (b_spec_l1May N _ _ _ _ _ _ _).trans ?_
  rw [← g_spec_l1May_eq]
  exact h7

/-! ### loop.example/g00756/spec.l4May -/
noncomputable def f_spec_l4May (N : Nat) : (R : Type) → List V → S → (V → S → Option R) → Option R := fun _ vs s K =>
  asN4 vs fun v'1 v'2 v'3 v'4 => un_impl_Fs v'1 fun e_1 f_2 x_3 => un_impl_Cred v'2 fun x_4 x_5 => asInt .i64 v'3 fun x_6 => asInt .i64 v'4 fun x_7 => asEnd s <| g_spec_l4May N e_1 f_2 x_3 x_4 x_5 x_6 x_7 (fun b_8 => K (.bool b_8) [])
noncomputable def Φ_spec_l4May (N : Nat) : Callee := (Φ_spec_l1May N).add 49 (f_spec_l4May N)
noncomputable def c_spec_l4May : Code := bodyOf Tryd.f49
theorem b_spec_l4May {R : Type} (N : Nat) (e_1 : List V) (f_2 : Fl) (x_3 x_4 x_5 x_6 x_7 : Int) (K : V → S → Option R) : bodyV C (Φ_spec_l1May N) (noLooper) 49 Tryd.f49 [.agg [.list 7 e_1 f_2, .int .i64 x_3], .agg [.int .i64 x_4, .int .i64 x_5], .int .i64 x_6, .int .i64 x_7] [] K =
  gb_spec_l4May N e_1 f_2 x_3 x_4 x_5 x_6 x_7 (fun b_8 => K (.bool b_8) []) := by kernel_rfl
theorem callee_spec_l4May (hC : Ok Tryd.prog C) {N : Nat} (hΦ : CalleeOk Tryd.prog C (Φ_spec_l1May N)) : CalleeOk Tryd.prog C (Φ_spec_l4May N) := by
  refine hΦ.add_pure rfl fun R vs K r h => ?_
  unfold f_spec_l4May at h
  obtain ⟨_, _, _, _, rfl, h1⟩ := asN4_some h
  obtain ⟨_, _, _, rfl, h2⟩ := un_impl_Fs_some h1
  obtain ⟨_, _, rfl, h3⟩ := un_impl_Cred_some h2
  obtain ⟨_, rfl, h4⟩ := asInt_some h3
  obtain ⟨_, rfl, h5⟩ := asInt_some h4
  obtain ⟨_, h6⟩ := asEnd_some h5
  refine body_pure (fn := Tryd.f49) (c := c_spec_l4May) hC hΦ Tryd.func49 (by kernel_rfl) (by kernel_rfl) (loopsOk_nil (Λ := noLooper) (by kernel_rfl)) rfl rfl ?_
  refine (b_spec_l4May N _ _ _ _ _ _ _ _).trans ?_
  rw [← g_spec_l4May_eq]
  exact h6

/-! ### loop.example/g00756/spec.l3Parent -/
noncomputable def f_spec_l3Parent (N : Nat) : (R : Type) → List V → S → (V → S → Option R) → Option R := fun _ vs s K =>
  asN2 vs fun v'1 v'2 => un_impl_Fs v'1 fun e_1 f_2 x_3 => asInt .i64 v'2 fun x_4 => asEnd s <| g_spec_l3Parent N e_1 f_2 x_3 x_4 (fun x_5 => K (.int .i64 x_5) [])
noncomputable def Φ_spec_l3Parent (N : Nat) : Callee := (Φ_spec_l4May N).add 59 (f_spec_l3Parent N)
noncomputable def c_spec_l3Parent : Code := bodyOf Tryd.f59
noncomputable def b_spec_l3Parent_1 : Code := (loopNo c_spec_l3Parent [] 0).2
noncomputable def b_spec_l3Parent_0 : Code := (loopNo b_spec_l3Parent_1 (0 :: [0, 1, 0, 1]) 0).2
def ks_spec_l3Parent_0 : List Nat := butL 31 [1, 5, 10, 11, 12, 18, 19, 20]
def kx_spec_l3Parent_0 : List Nat := butL 31 [1, 4, 10, 11, 12]
def fr_spec_l3Parent_0 (x_1 x_2 : Int) (e_3 : List V) (f_4 : Fl) (x_5 x_6 : Int) (e_7 : List V) (f_8 : Fl) (x_9 : Int) (e_11 : List V) (f_12 : Fl) (x_13 x_14 x_15 x_16 x_17 x_18 : Int) (w_19 : ByteArray) (e_20 : List V) (f_21 : Fl) (x_10 : Int) : List V := mkF 0 31 [(1, .int .i64 x_1), (5, .int .i64 x_2), (10, .list 7 e_3 f_4), (11, .int .i64 x_5), (12, .int .i64 x_6), (18, .list 2 e_7 f_8), (19, .int .i64 x_9), (20, .int .i64 x_10)]
def kk0_spec_l3Parent_0 {R : Type} (K : X → List V → S → Option R) (x_1 : Int) (x_2 : Int) (e_3 : List V) (f_4 : Fl) (x_5 : Int) (x_6 : Int) (e_7 : List V) (f_8 : Fl) (x_9 : Int) (e_11 : List V) (f_12 : Fl) (x_13 : Int) (x_14 : Int) (x_15 : Int) (x_16 : Int) (x_17 : Int) (x_18 : Int) (w_19 : ByteArray) (e_20 : List V) (f_21 : Fl) : Unit → Option R := (fun _ => K .ret (mkF 0 31 [(1, .int .i64 x_1), (4, .int .i64 x_2), (10, .list 7 e_3 f_4), (11, .int .i64 x_5), (12, .int .i64 x_6)]) [some ⟨[.agg [.list 7 e_11 f_12, .int .i64 x_13]], 2, 32, 0⟩, some ⟨[.agg [.int .i64 x_14, .int .i64 x_15, .int .i64 x_16, .int .i64 x_17, .int .i64 x_18, .str w_19, .list 2 e_20 f_21]], 7, 55, 0⟩])
def kk1_spec_l3Parent_0 {R : Type} (K : X → List V → S → Option R) (x_1 : Int) (x_2 : Int) (e_3 : List V) (f_4 : Fl) (x_5 : Int) (x_6 : Int) (e_7 : List V) (f_8 : Fl) (x_9 : Int) (e_11 : List V) (f_12 : Fl) (x_13 : Int) (x_14 : Int) (x_15 : Int) (x_16 : Int) (x_17 : Int) (x_18 : Int) (w_19 : ByteArray) (e_20 : List V) (f_21 : Fl) : Unit → Option R := (fun _ => K (.exit 2) (mkF 0 31 [(1, .int .i64 x_1), (10, .list 7 e_3 f_4), (11, .int .i64 x_5), (12, .int .i64 x_6)]) [some ⟨[.agg [.list 7 e_11 f_12, .int .i64 x_13]], 2, 32, 0⟩, some ⟨[.agg [.int .i64 x_14, .int .i64 x_15, .int .i64 x_16, .int .i64 x_17, .int .i64 x_18, .str w_19, .list 2 e_20 f_21]], 7, 55, 0⟩])
noncomputable abbrev it_spec_l3Parent_0 {R : Type} (N : Nat) : Nat → List V → S → (X → List V → S → Option R) → Option R := fun n => iter C (Φ_spec_l4May N) (noLooper) b_spec_l3Parent_0 [0, 1, 1, 0, 0, 1, 1, 0, 0, 1, 0, 1] true ks_spec_l3Parent_0 kx_spec_l3Parent_0 n R
theorem r_spec_l3Parent_0 {R : Type} (N n : Nat) (x_1 x_2 : Int) (e_3 : List V) (f_4 : Fl) (x_5 x_6 : Int) (e_7 : List V) (f_8 : Fl) (x_9 : Int) (e_11 : List V) (f_12 : Fl) (x_13 x_14 x_15 x_16 x_17 x_18 : Int) (w_19 : ByteArray) (e_20 : List V) (f_21 : Fl) (x_10 : Int) (K : X → List V → S → Option R) :
  it_spec_l3Parent_0 N (n + 1) (fr_spec_l3Parent_0 x_1 x_2 e_3 f_4 x_5 x_6 e_7 f_8 x_9 e_11 f_12 x_13 x_14 x_15 x_16 x_17 x_18 w_19 e_20 f_21 x_10) [some ⟨[.agg [.list 7 e_11 f_12, .int .i64 x_13]], 2, 32, 0⟩, some ⟨[.agg [.int .i64 x_14, .int .i64 x_15, .int .i64 x_16, .int .i64 x_17, .int .i64 x_18, .str w_19, .list 2 e_20 f_21]], 7, 55, 0⟩] K =
  l_spec_l3Parent_0_step N x_1 x_2 e_3 f_4 x_5 x_6 e_7 f_8 x_9 e_11 f_12 x_13 x_14 x_15 x_16 x_17 x_18 w_19 e_20 f_21 (fun x_10 => it_spec_l3Parent_0 N n (fr_spec_l3Parent_0 x_1 x_2 e_3 f_4 x_5 x_6 e_7 f_8 x_9 e_11 f_12 x_13 x_14 x_15 x_16 x_17 x_18 w_19 e_20 f_21 x_10) [some ⟨[.agg [.list 7 e_11 f_12, .int .i64 x_13]], 2, 32, 0⟩, some ⟨[.agg [.int .i64 x_14, .int .i64 x_15, .int .i64 x_16, .int .i64 x_17, .int .i64 x_18, .str w_19, .list 2 e_20 f_21]], 7, 55, 0⟩] K) x_10 (kk0_spec_l3Parent_0 K x_1 x_2 e_3 f_4 x_5 x_6 e_7 f_8 x_9 e_11 f_12 x_13 x_14 x_15 x_16 x_17 x_18 w_19 e_20 f_21) (kk1_spec_l3Parent_0 K x_1 x_2 e_3 f_4 x_5 x_6 e_7 f_8 x_9 e_11 f_12 x_13 x_14 x_15 x_16 x_17 x_18 w_19 e_20 f_21) := by kernel_rfl
theorem w_spec_l3Parent_0 {R : Type} (N : Nat) (x_1 x_2 : Int) (e_3 : List V) (f_4 : Fl) (x_5 x_6 : Int) (e_7 : List V) (f_8 : Fl) (x_9 : Int) (e_11 : List V) (f_12 : Fl) (x_13 x_14 x_15 x_16 x_17 x_18 : Int) (w_19 : ByteArray) (e_20 : List V) (f_21 : Fl) (K : X → List V → S → Option R) : ∀ (n : Nat) (x_10 : Int),
  it_spec_l3Parent_0 N n (fr_spec_l3Parent_0 x_1 x_2 e_3 f_4 x_5 x_6 e_7 f_8 x_9 e_11 f_12 x_13 x_14 x_15 x_16 x_17 x_18 w_19 e_20 f_21 x_10) [some ⟨[.agg [.list 7 e_11 f_12, .int .i64 x_13]], 2, 32, 0⟩, some ⟨[.agg [.int .i64 x_14, .int .i64 x_15, .int .i64 x_16, .int .i64 x_17, .int .i64 x_18, .str w_19, .list 2 e_20 f_21]], 7, 55, 0⟩] K = l_spec_l3Parent_0 N x_1 x_2 e_3 f_4 x_5 x_6 e_7 f_8 x_9 e_11 f_12 x_13 x_14 x_15 x_16 x_17 x_18 w_19 e_20 f_21 (kk0_spec_l3Parent_0 K x_1 x_2 e_3 f_4 x_5 x_6 e_7 f_8 x_9 e_11 f_12 x_13 x_14 x_15 x_16 x_17 x_18 w_19 e_20 f_21) (kk1_spec_l3Parent_0 K x_1 x_2 e_3 f_4 x_5 x_6 e_7 f_8 x_9 e_11 f_12 x_13 x_14 x_15 x_16 x_17 x_18 w_19 e_20 f_21) n x_10
  | 0, _ => rfl
  | n + 1, x_10 => (r_spec_l3Parent_0 N n x_1 x_2 e_3 f_4 x_5 x_6 e_7 f_8 x_9 e_11 f_12 x_13 x_14 x_15 x_16 x_17 x_18 w_19 e_20 f_21 x_10 K).trans (congrArg (fun nx => l_spec_l3Parent_0_step N x_1 x_2 e_3 f_4 x_5 x_6 e_7 f_8 x_9 e_11 f_12 x_13 x_14 x_15 x_16 x_17 x_18 w_19 e_20 f_21 nx x_10 (kk0_spec_l3Parent_0 K x_1 x_2 e_3 f_4 x_5 x_6 e_7 f_8 x_9 e_11 f_12 x_13 x_14 x_15 x_16 x_17 x_18 w_19 e_20 f_21) (kk1_spec_l3Parent_0 K x_1 x_2 e_3 f_4 x_5 x_6 e_7 f_8 x_9 e_11 f_12 x_13 x_14 x_15 x_16 x_17 x_18 w_19 e_20 f_21)) (funext fun x_10 => w_spec_l3Parent_0 N x_1 x_2 e_3 f_4 x_5 x_6 e_7 f_8 x_9 e_11 f_12 x_13 x_14 x_15 x_16 x_17 x_18 w_19 e_20 f_21 K n x_10))
def i_spec_l3Parent_0 {R : Type} (E : List V) (s : S) (k : Int → Int → List V → Fl → Int → Int → List V → Fl → Int → Int → List V → Fl → Int → Int → Int → Int → Int → Int → ByteArray → List V → Fl → Option R) : Option R :=
  guardB (frameOk 31 [1, 5, 10, 11, 12, 18, 19, 20] E) <| atInt E 1 .i64 fun x_1 => atInt E 5 .i64 fun x_2 => atList E 10 7 fun e_3 f_4 => atInt E 11 .i64 fun x_5 => atInt E 12 .i64 fun x_6 => atList E 18 2 fun e_7 f_8 => atInt E 19 .i64 fun x_9 => atInt E 20 .i64 fun x_10 => asOb s fun o'1 s'2 => obIs o'1 2 32 fun e'3 k'4 => isN k'4 0 <| asN1 e'3 fun v'5 => asAgg v'5 fun c'6 => asN2 c'6 fun v'7 v'8 => asList 7 v'7 fun e_11 f_12 => asInt .i64 v'8 fun x_13 => asOb s'2 fun o'9 s'10 => obIs o'9 7 55 fun e'11 k'12 => isN k'12 0 <| asN1 e'11 fun v'13 => asAgg v'13 fun c'14 => asN7 c'14 fun v'15 v'16 v'17 v'18 v'19 v'20 v'21 => asInt .i64 v'15 fun x_14 => asInt .i64 v'16 fun x_15 => asInt .i64 v'17 fun x_16 => asInt .i64 v'18 fun x_17 => asInt .i64 v'19 fun x_18 => asStr v'20 fun w_19 => asList 2 v'21 fun e_20 f_21 => asEnd s'10 <| k x_1 x_2 e_3 f_4 x_5 x_6 e_7 f_8 x_9 x_10 e_11 f_12 x_13 x_14 x_15 x_16 x_17 x_18 w_19 e_20 f_21
theorem i_spec_l3Parent_0_spec {R : Type} {E : List V} {s : S} {k : Int → Int → List V → Fl → Int → Int → List V → Fl → Int → Int → List V → Fl → Int → Int → Int → Int → Int → Int → ByteArray → List V → Fl → Option R} {r : R} (h : i_spec_l3Parent_0 E s k = some r) : ∃ x_1 x_2 e_3 f_4 x_5 x_6 e_7 f_8 x_9 x_10 e_11 f_12 x_13 x_14 x_15 x_16 x_17 x_18 w_19 e_20 f_21, E = fr_spec_l3Parent_0 x_1 x_2 e_3 f_4 x_5 x_6 e_7 f_8 x_9 e_11 f_12 x_13 x_14 x_15 x_16 x_17 x_18 w_19 e_20 f_21 x_10 ∧ s = [some ⟨[.agg [.list 7 e_11 f_12, .int .i64 x_13]], 2, 32, 0⟩, some ⟨[.agg [.int .i64 x_14, .int .i64 x_15, .int .i64 x_16, .int .i64 x_17, .int .i64 x_18, .str w_19, .list 2 e_20 f_21]], 7, 55, 0⟩] ∧ k x_1 x_2 e_3 f_4 x_5 x_6 e_7 f_8 x_9 x_10 e_11 f_12 x_13 x_14 x_15 x_16 x_17 x_18 w_19 e_20 f_21 = some r := by
  unfold i_spec_l3Parent_0 at h
  obtain ⟨hg, h1⟩ := guardB_some h
  obtain ⟨_, hu1, h2⟩ := atInt_some h1
  obtain ⟨_, hu5, h3⟩ := atInt_some h2
  obtain ⟨_, _, hu10, h4⟩ := atList_some h3
  obtain ⟨_, hu11, h5⟩ := atInt_some h4
  obtain ⟨_, hu12, h6⟩ := atInt_some h5
  obtain ⟨_, _, hu18, h7⟩ := atList_some h6
  obtain ⟨_, hu19, h8⟩ := atInt_some h7
  obtain ⟨_, hu20, h9⟩ := atInt_some h8
  obtain ⟨_, _, rfl, h10⟩ := asOb_some h9
  obtain ⟨_, _, rfl, h11⟩ := obIs_some h10
  obtain ⟨rfl, h12⟩ := isN_some h11
  obtain ⟨_, rfl, h13⟩ := asN1_some h12
  obtain ⟨_, rfl, h14⟩ := asAgg_some h13
  obtain ⟨_, _, rfl, h15⟩ := asN2_some h14
  obtain ⟨_, _, rfl, h16⟩ := asList_some h15
  obtain ⟨_, rfl, h17⟩ := asInt_some h16
  obtain ⟨_, _, rfl, h18⟩ := asOb_some h17
  obtain ⟨_, _, rfl, h19⟩ := obIs_some h18
  obtain ⟨rfl, h20⟩ := isN_some h19
  obtain ⟨_, rfl, h21⟩ := asN1_some h20
  obtain ⟨_, rfl, h22⟩ := asAgg_some h21
  obtain ⟨_, _, _, _, _, _, _, rfl, h23⟩ := asN7_some h22
  obtain ⟨_, rfl, h24⟩ := asInt_some h23
  obtain ⟨_, rfl, h25⟩ := asInt_some h24
  obtain ⟨_, rfl, h26⟩ := asInt_some h25
  obtain ⟨_, rfl, h27⟩ := asInt_some h26
  obtain ⟨_, rfl, h28⟩ := asInt_some h27
  obtain ⟨_, rfl, h29⟩ := asStr_some h28
  obtain ⟨_, _, rfl, h30⟩ := asList_some h29
  obtain ⟨rfl, h31⟩ := asEnd_some h30
  exact ⟨_, _, _, _, _, _, _, _, _, _, _, _, _, _, _, _, _, _, _, _, _, frame_is hg rfl (slots_cons hu1 (slots_cons hu5 (slots_cons hu10 (slots_cons hu11 (slots_cons hu12 (slots_cons hu18 (slots_cons hu19 (slots_cons hu20 slots_nil)))))))), rfl, h31⟩
noncomputable def Λ_spec_l3Parent_0 (N : Nat) : Looper := (noLooper).add [0, 1, 1, 0, 0, 1, 1, 0, 0, 1, 0, 1] fun _ E s K => i_spec_l3Parent_0 (killE ks_spec_l3Parent_0 E) s fun x_1 x_2 e_3 f_4 x_5 x_6 e_7 f_8 x_9 x_10 e_11 f_12 x_13 x_14 x_15 x_16 x_17 x_18 w_19 e_20 f_21 => l_spec_l3Parent_0 N x_1 x_2 e_3 f_4 x_5 x_6 e_7 f_8 x_9 e_11 f_12 x_13 x_14 x_15 x_16 x_17 x_18 w_19 e_20 f_21 (kk0_spec_l3Parent_0 K x_1 x_2 e_3 f_4 x_5 x_6 e_7 f_8 x_9 e_11 f_12 x_13 x_14 x_15 x_16 x_17 x_18 w_19 e_20 f_21) (kk1_spec_l3Parent_0 K x_1 x_2 e_3 f_4 x_5 x_6 e_7 f_8 x_9 e_11 f_12 x_13 x_14 x_15 x_16 x_17 x_18 w_19 e_20 f_21) N x_10
theorem ok_spec_l3Parent_0 {N : Nat} (hC : Ok Tryd.prog C) (hΦ : CalleeOk Tryd.prog C (Φ_spec_l4May N)) : LoopOk Tryd.prog C (Λ_spec_l3Parent_0 N) b_spec_l3Parent_0 [0, 1, 1, 0, 0, 1, 1, 0, 0, 1, 0, 1] :=
  iter_ok (Λi := noLooper) (tr := true) (ks := ks_spec_l3Parent_0) (kx := kx_spec_l3Parent_0) (N := N) hC hΦ
    (loopsOk_nil (by kernel_rfl))
    fun R E s K r h => by
      have h2 := Looper.add_self.symm.trans h
      obtain ⟨_, _, _, _, _, _, _, _, _, _, _, _, _, _, _, _, _, _, _, _, _, he, rfl, h3⟩ := i_spec_l3Parent_0_spec h2
      rw [he]
      exact (w_spec_l3Parent_0 N _ _ _ _ _ _ _ _ _ _ _ _ _ _ _ _ _ _ _ _ _ N _).trans h3
def ks_spec_l3Parent_1 : List Nat := butL 31 [1, 10, 11, 12]
def kx_spec_l3Parent_1 : List Nat := butL 31 [4]
def fr_spec_l3Parent_1 (x_1 : Int) (e_2 : List V) (f_3 : Fl) (x_4 : Int) (e_6 : List V) (f_7 : Fl) (x_8 x_5 : Int) : List V := mkF 0 31 [(1, .int .i64 x_1), (10, .list 7 e_2 f_3), (11, .int .i64 x_4), (12, .int .i64 x_5)]
def kk0_spec_l3Parent_1 {R : Type} (K : X → List V → S → Option R) (x_1 : Int) (e_2 : List V) (f_3 : Fl) (x_4 : Int) (e_6 : List V) (f_7 : Fl) (x_8 : Int) : Int → Option R := (fun x_1' => K .ret (mkF 0 31 [(4, .int .i64 (x_1'))]) [some ⟨[.agg [.list 7 e_6 f_7, .int .i64 x_8]], 2, 32, 0⟩])
def kk1_spec_l3Parent_1 {R : Type} (K : X → List V → S → Option R) (x_1 : Int) (e_2 : List V) (f_3 : Fl) (x_4 : Int) (e_6 : List V) (f_7 : Fl) (x_8 : Int) : Unit → Option R := (fun _ => K (.exit 0) (mkF 0 31 []) [some ⟨[.agg [.list 7 e_6 f_7, .int .i64 x_8]], 2, 32, 0⟩])
noncomputable abbrev it_spec_l3Parent_1 {R : Type} (N : Nat) : Nat → List V → S → (X → List V → S → Option R) → Option R := fun n => iter C (Φ_spec_l4May N) (Λ_spec_l3Parent_0 N) b_spec_l3Parent_1 [0, 1, 0, 1] true ks_spec_l3Parent_1 kx_spec_l3Parent_1 n R
theorem r_spec_l3Parent_1 {R : Type} (N n : Nat) (x_1 : Int) (e_2 : List V) (f_3 : Fl) (x_4 : Int) (e_6 : List V) (f_7 : Fl) (x_8 : Int) (x_5 : Int) (K : X → List V → S → Option R) :
  it_spec_l3Parent_1 N (n + 1) (fr_spec_l3Parent_1 x_1 e_2 f_3 x_4 e_6 f_7 x_8 x_5) [some ⟨[.agg [.list 7 e_6 f_7, .int .i64 x_8]], 2, 32, 0⟩] K =
  l_spec_l3Parent_1_step N x_1 e_2 f_3 x_4 e_6 f_7 x_8 (fun x_5 => it_spec_l3Parent_1 N n (fr_spec_l3Parent_1 x_1 e_2 f_3 x_4 e_6 f_7 x_8 x_5) [some ⟨[.agg [.list 7 e_6 f_7, .int .i64 x_8]], 2, 32, 0⟩] K) x_5 (kk0_spec_l3Parent_1 K x_1 e_2 f_3 x_4 e_6 f_7 x_8) (kk1_spec_l3Parent_1 K x_1 e_2 f_3 x_4 e_6 f_7 x_8) := by kernel_rfl
theorem w_spec_l3Parent_1 {R : Type} (N : Nat) (x_1 : Int) (e_2 : List V) (f_3 : Fl) (x_4 : Int) (e_6 : List V) (f_7 : Fl) (x_8 : Int) (K : X → List V → S → Option R) : ∀ (n : Nat) (x_5 : Int),
  it_spec_l3Parent_1 N n (fr_spec_l3Parent_1 x_1 e_2 f_3 x_4 e_6 f_7 x_8 x_5) [some ⟨[.agg [.list 7 e_6 f_7, .int .i64 x_8]], 2, 32, 0⟩] K = l_spec_l3Parent_1 N x_1 e_2 f_3 x_4 e_6 f_7 x_8 (kk0_spec_l3Parent_1 K x_1 e_2 f_3 x_4 e_6 f_7 x_8) (kk1_spec_l3Parent_1 K x_1 e_2 f_3 x_4 e_6 f_7 x_8) n x_5
  | 0, _ => rfl
  | n + 1, x_5 => (r_spec_l3Parent_1 N n x_1 e_2 f_3 x_4 e_6 f_7 x_8 x_5 K).trans (congrArg (fun nx => l_spec_l3Parent_1_step N x_1 e_2 f_3 x_4 e_6 f_7 x_8 nx x_5 (kk0_spec_l3Parent_1 K x_1 e_2 f_3 x_4 e_6 f_7 x_8) (kk1_spec_l3Parent_1 K x_1 e_2 f_3 x_4 e_6 f_7 x_8)) (funext fun x_5 => w_spec_l3Parent_1 N x_1 e_2 f_3 x_4 e_6 f_7 x_8 K n x_5))
def i_spec_l3Parent_1 {R : Type} (E : List V) (s : S) (k : Int → List V → Fl → Int → Int → List V → Fl → Int → Option R) : Option R :=
  guardB (frameOk 31 [1, 10, 11, 12] E) <| atInt E 1 .i64 fun x_1 => atList E 10 7 fun e_2 f_3 => atInt E 11 .i64 fun x_4 => atInt E 12 .i64 fun x_5 => asOb s fun o'1 s'2 => obIs o'1 2 32 fun e'3 k'4 => isN k'4 0 <| asN1 e'3 fun v'5 => asAgg v'5 fun c'6 => asN2 c'6 fun v'7 v'8 => asList 7 v'7 fun e_6 f_7 => asInt .i64 v'8 fun x_8 => asEnd s'2 <| k x_1 e_2 f_3 x_4 x_5 e_6 f_7 x_8
theorem i_spec_l3Parent_1_spec {R : Type} {E : List V} {s : S} {k : Int → List V → Fl → Int → Int → List V → Fl → Int → Option R} {r : R} (h : i_spec_l3Parent_1 E s k = some r) : ∃ x_1 e_2 f_3 x_4 x_5 e_6 f_7 x_8, E = fr_spec_l3Parent_1 x_1 e_2 f_3 x_4 e_6 f_7 x_8 x_5 ∧ s = [some ⟨[.agg [.list 7 e_6 f_7, .int .i64 x_8]], 2, 32, 0⟩] ∧ k x_1 e_2 f_3 x_4 x_5 e_6 f_7 x_8 = some r := by
  unfold i_spec_l3Parent_1 at h
  obtain ⟨hg, h1⟩ := guardB_some h
  obtain ⟨_, hu1, h2⟩ := atInt_some h1
  obtain ⟨_, _, hu10, h3⟩ := atList_some h2
  obtain ⟨_, hu11, h4⟩ := atInt_some h3
  obtain ⟨_, hu12, h5⟩ := atInt_some h4
  obtain ⟨_, _, rfl, h6⟩ := asOb_some h5
  obtain ⟨_, _, rfl, h7⟩ := obIs_some h6
  obtain ⟨rfl, h8⟩ := isN_some h7
  obtain ⟨_, rfl, h9⟩ := asN1_some h8
  obtain ⟨_, rfl, h10⟩ := asAgg_some h9
  obtain ⟨_, _, rfl, h11⟩ := asN2_some h10
  obtain ⟨_, _, rfl, h12⟩ := asList_some h11
  obtain ⟨_, rfl, h13⟩ := asInt_some h12
  obtain ⟨rfl, h14⟩ := asEnd_some h13
  exact ⟨_, _, _, _, _, _, _, _, frame_is hg rfl (slots_cons hu1 (slots_cons hu10 (slots_cons hu11 (slots_cons hu12 slots_nil)))), rfl, h14⟩
noncomputable def Λ_spec_l3Parent_1 (N : Nat) : Looper := (Λ_spec_l3Parent_0 N).add [0, 1, 0, 1] fun _ E s K => i_spec_l3Parent_1 (killE ks_spec_l3Parent_1 E) s fun x_1 e_2 f_3 x_4 x_5 e_6 f_7 x_8 => l_spec_l3Parent_1 N x_1 e_2 f_3 x_4 e_6 f_7 x_8 (kk0_spec_l3Parent_1 K x_1 e_2 f_3 x_4 e_6 f_7 x_8) (kk1_spec_l3Parent_1 K x_1 e_2 f_3 x_4 e_6 f_7 x_8) N x_5
theorem in_spec_l3Parent_1 : loopsAt b_spec_l3Parent_1 (0 :: [0, 1, 0, 1]) = [([0, 1, 1, 0, 0, 1, 1, 0, 0, 1, 0, 1], b_spec_l3Parent_0)] := by kernel_rfl
theorem ok_spec_l3Parent_1 {N : Nat} (hC : Ok Tryd.prog C) (hΦ : CalleeOk Tryd.prog C (Φ_spec_l4May N)) : LoopOk Tryd.prog C (Λ_spec_l3Parent_1 N) b_spec_l3Parent_1 [0, 1, 0, 1] :=
  iter_ok (Λi := Λ_spec_l3Parent_0 N) (tr := true) (ks := ks_spec_l3Parent_1) (kx := kx_spec_l3Parent_1) (N := N) hC hΦ
    (loopsOk_of b_spec_l3Parent_1 _ (by
      rw [in_spec_l3Parent_1]
      intro p hp
      simp only [List.mem_cons, List.mem_nil_iff, or_false] at hp
      rcases hp with rfl
      · exact (ok_spec_l3Parent_0 hC hΦ)))
    fun R E s K r h => by
      have h2 := Looper.add_self.symm.trans h
      obtain ⟨_, _, _, _, _, _, _, _, he, rfl, h3⟩ := i_spec_l3Parent_1_spec h2
      rw [he]
      exact (w_spec_l3Parent_1 N _ _ _ _ _ _ _ _ N _).trans h3
theorem at_spec_l3Parent : loopsAt c_spec_l3Parent [] = [([0, 1, 0, 1], b_spec_l3Parent_1)] := by kernel_rfl
theorem b_spec_l3Parent {R : Type} (N : Nat) (e_1 : List V) (f_2 : Fl) (x_3 x_4 : Int) (K : V → S → Option R) : bodyV C (Φ_spec_l4May N) (Λ_spec_l3Parent_1 N) 59 Tryd.f59 [.agg [.list 7 e_1 f_2, .int .i64 x_3], .int .i64 x_4] [] K =
  gb_spec_l3Parent N e_1 f_2 x_3 x_4 (fun x_5 => K (.int .i64 x_5) []) := by kernel_rfl
theorem loops_spec_l3Parent {N : Nat} (hC : Ok Tryd.prog C) (hΦ : CalleeOk Tryd.prog C (Φ_spec_l4May N)) : LoopsOk Tryd.prog C (Λ_spec_l3Parent_1 N) c_spec_l3Parent [] :=
  loopsOk_of c_spec_l3Parent [] (by
    rw [at_spec_l3Parent]
    intro p hp
    simp only [List.mem_cons, List.mem_nil_iff, or_false] at hp
    rcases hp with rfl
    · exact (ok_spec_l3Parent_1 hC hΦ))
theorem callee_spec_l3Parent (hC : Ok Tryd.prog C) {N : Nat} (hΦ : CalleeOk Tryd.prog C (Φ_spec_l4May N)) : CalleeOk Tryd.prog C (Φ_spec_l3Parent N) := by
  refine hΦ.add_pure rfl fun R vs K r h => ?_
  unfold f_spec_l3Parent at h
  obtain ⟨_, _, rfl, h1⟩ := asN2_some h
  obtain ⟨_, _, _, rfl, h2⟩ := un_impl_Fs_some h1
  obtain ⟨_, rfl, h3⟩ := asInt_some h2
  obtain ⟨_, h4⟩ := asEnd_some h3
  refine body_pure (fn := Tryd.f59) (c := c_spec_l3Parent) hC hΦ Tryd.func59 (by kernel_rfl) (by kernel_rfl) (loops_spec_l3Parent (N := N) hC hΦ) rfl rfl ?_
  refine (b_spec_l3Parent N _ _ _ _ _).trans ?_
  rw [← g_spec_l3Parent_eq]
  exact h4

/-! ### loop.example/g00756/spec.l3At -/
noncomputable def f_spec_l3At (N : Nat) : (R : Type) → List V → S → (V → S → Option R) → Option R := fun _ vs s K =>
  asN2 vs fun v'1 v'2 => asList 2 v'1 fun e_1 f_2 => asStr v'2 fun w_3 => asEnd s <| g_spec_l3At N e_1 f_2 w_3 (fun x_4 => K (.int .i64 x_4) [])
noncomputable def Φ_spec_l3At (N : Nat) : Callee := (Φ_spec_l3Parent N).add 60 (f_spec_l3At N)
noncomputable def c_spec_l3At : Code := bodyOf Tryd.f60
noncomputable def b_spec_l3At_0 : Code := (loopNo c_spec_l3At [] 0).2
def ks_spec_l3At_0 : List Nat := butL 20 [1, 7, 8, 9]
def kx_spec_l3At_0 : List Nat := butL 20 [4]
def fr_spec_l3At_0 (w_1 : ByteArray) (e_2 : List V) (f_3 : Fl) (x_4 x_5 : Int) : List V := mkF 0 20 [(1, .str w_1), (7, .list 2 e_2 f_3), (8, .int .i64 x_4), (9, .int .i64 x_5)]
def kk0_spec_l3At_0 {R : Type} (K : X → List V → S → Option R) (w_1 : ByteArray) (e_2 : List V) (f_3 : Fl) (x_4 : Int) : Int → Option R := (fun x_1' => K .ret (mkF 0 20 [(4, .int .i64 (x_1'))]) [])
def kk1_spec_l3At_0 {R : Type} (K : X → List V → S → Option R) (w_1 : ByteArray) (e_2 : List V) (f_3 : Fl) (x_4 : Int) : Unit → Option R := (fun _ => K (.exit 0) (mkF 0 20 []) [])
noncomputable abbrev it_spec_l3At_0 {R : Type} (N : Nat) : Nat → List V → S → (X → List V → S → Option R) → Option R := fun n => iter C (Φ_spec_l3Parent N) (noLooper) b_spec_l3At_0 [0, 1, 0, 1] true ks_spec_l3At_0 kx_spec_l3At_0 n R
theorem r_spec_l3At_0 {R : Type} (N n : Nat) (w_1 : ByteArray) (e_2 : List V) (f_3 : Fl) (x_4 : Int) (x_5 : Int) (K : X → List V → S → Option R) :
  it_spec_l3At_0 N (n + 1) (fr_spec_l3At_0 w_1 e_2 f_3 x_4 x_5) [] K =
  l_spec_l3At_0_step N w_1 e_2 f_3 x_4 (fun x_5 => it_spec_l3At_0 N n (fr_spec_l3At_0 w_1 e_2 f_3 x_4 x_5) [] K) x_5 (kk0_spec_l3At_0 K w_1 e_2 f_3 x_4) (kk1_spec_l3At_0 K w_1 e_2 f_3 x_4) := by kernel_rfl
theorem w_spec_l3At_0 {R : Type} (N : Nat) (w_1 : ByteArray) (e_2 : List V) (f_3 : Fl) (x_4 : Int) (K : X → List V → S → Option R) : ∀ (n : Nat) (x_5 : Int),
  it_spec_l3At_0 N n (fr_spec_l3At_0 w_1 e_2 f_3 x_4 x_5) [] K = l_spec_l3At_0 N w_1 e_2 f_3 x_4 (kk0_spec_l3At_0 K w_1 e_2 f_3 x_4) (kk1_spec_l3At_0 K w_1 e_2 f_3 x_4) n x_5
  | 0, _ => rfl
  | n + 1, x_5 => (r_spec_l3At_0 N n w_1 e_2 f_3 x_4 x_5 K).trans (congrArg (fun nx => l_spec_l3At_0_step N w_1 e_2 f_3 x_4 nx x_5 (kk0_spec_l3At_0 K w_1 e_2 f_3 x_4) (kk1_spec_l3At_0 K w_1 e_2 f_3 x_4)) (funext fun x_5 => w_spec_l3At_0 N w_1 e_2 f_3 x_4 K n x_5))
def i_spec_l3At_0 {R : Type} (E : List V) (s : S) (k : ByteArray → List V → Fl → Int → Int → Option R) : Option R :=
  guardB (frameOk 20 [1, 7, 8, 9] E) <| atStr E 1 fun w_1 => atList E 7 2 fun e_2 f_3 => atInt E 8 .i64 fun x_4 => atInt E 9 .i64 fun x_5 => asEnd s <| k w_1 e_2 f_3 x_4 x_5
theorem i_spec_l3At_0_spec {R : Type} {E : List V} {s : S} {k : ByteArray → List V → Fl → Int → Int → Option R} {r : R} (h : i_spec_l3At_0 E s k = some r) : ∃ w_1 e_2 f_3 x_4 x_5, E = fr_spec_l3At_0 w_1 e_2 f_3 x_4 x_5 ∧ s = [] ∧ k w_1 e_2 f_3 x_4 x_5 = some r := by
  unfold i_spec_l3At_0 at h
  obtain ⟨hg, h1⟩ := guardB_some h
  obtain ⟨_, hu1, h2⟩ := atStr_some h1
  obtain ⟨_, _, hu7, h3⟩ := atList_some h2
  obtain ⟨_, hu8, h4⟩ := atInt_some h3
  obtain ⟨_, hu9, h5⟩ := atInt_some h4
  obtain ⟨rfl, h6⟩ := asEnd_some h5
  exact ⟨_, _, _, _, _, frame_is hg rfl (slots_cons hu1 (slots_cons hu7 (slots_cons hu8 (slots_cons hu9 slots_nil)))), rfl, h6⟩
noncomputable def Λ_spec_l3At_0 (N : Nat) : Looper := (noLooper).add [0, 1, 0, 1] fun _ E s K => i_spec_l3At_0 (killE ks_spec_l3At_0 E) s fun w_1 e_2 f_3 x_4 x_5 => l_spec_l3At_0 N w_1 e_2 f_3 x_4 (kk0_spec_l3At_0 K w_1 e_2 f_3 x_4) (kk1_spec_l3At_0 K w_1 e_2 f_3 x_4) N x_5
theorem ok_spec_l3At_0 {N : Nat} (hC : Ok Tryd.prog C) (hΦ : CalleeOk Tryd.prog C (Φ_spec_l3Parent N)) : LoopOk Tryd.prog C (Λ_spec_l3At_0 N) b_spec_l3At_0 [0, 1, 0, 1] :=
  iter_ok (Λi := noLooper) (tr := true) (ks := ks_spec_l3At_0) (kx := kx_spec_l3At_0) (N := N) hC hΦ
    (loopsOk_nil (by kernel_rfl))
    fun R E s K r h => by
      have h2 := Looper.add_self.symm.trans h
      obtain ⟨_, _, _, _, _, he, rfl, h3⟩ := i_spec_l3At_0_spec h2
      rw [he]
      exact (w_spec_l3At_0 N _ _ _ _ _ N _).trans h3
theorem at_spec_l3At : loopsAt c_spec_l3At [] = [([0, 1, 0, 1], b_spec_l3At_0)] := by kernel_rfl
theorem b_spec_l3At {R : Type} (N : Nat) (e_1 : List V) (f_2 : Fl) (w_3 : ByteArray) (K : V → S → Option R) : bodyV C (Φ_spec_l3Parent N) (Λ_spec_l3At_0 N) 60 Tryd.f60 [.list 2 e_1 f_2, .str w_3] [] K =
  gb_spec_l3At N e_1 f_2 w_3 (fun x_4 => K (.int .i64 x_4) []) := by kernel_rfl
theorem loops_spec_l3At {N : Nat} (hC : Ok Tryd.prog C) (hΦ : CalleeOk Tryd.prog C (Φ_spec_l3Parent N)) : LoopsOk Tryd.prog C (Λ_spec_l3At_0 N) c_spec_l3At [] :=
  loopsOk_of c_spec_l3At [] (by
    rw [at_spec_l3At]
    intro p hp
    simp only [List.mem_cons, List.mem_nil_iff, or_false] at hp
    rcases hp with rfl
    · exact (ok_spec_l3At_0 hC hΦ))
theorem callee_spec_l3At (hC : Ok Tryd.prog C) {N : Nat} (hΦ : CalleeOk Tryd.prog C (Φ_spec_l3Parent N)) : CalleeOk Tryd.prog C (Φ_spec_l3At N) := by
  refine hΦ.add_pure rfl fun R vs K r h => ?_
  unfold f_spec_l3At at h
  obtain ⟨_, _, rfl, h1⟩ := asN2_some h
  obtain ⟨_, _, rfl, h2⟩ := asList_some h1
  obtain ⟨_, rfl, h3⟩ := asStr_some h2
  obtain ⟨_, h4⟩ := asEnd_some h3
  refine body_pure (fn := Tryd.f60) (c := c_spec_l3At) hC hΦ Tryd.func60 (by kernel_rfl) (by kernel_rfl) (loops_spec_l3At (N := N) hC hΦ) rfl rfl ?_
  refine (b_spec_l3At N _ _ _ _).trans ?_
  rw [← g_spec_l3At_eq]
  exact h4

/-! ### (*loop.example/g00756/spec.l4W).step -/
noncomputable def f_spec_l4W_step (N : Nat) : (R : Type) → List V → S → (V → S → Option R) → Option R := fun _ vs s K =>
  asN2 vs fun v'1 v'2 => asPtr v'1 fun o0 k'4 k'5 k'6 => isN k'4 0 <| isN k'5 0 <| isN k'6 0 <| asBool v'2 fun b_1 => asAt s o0 0 fun o'7 => obIs o'7 7 72 fun e'8 k'9 => isN k'9 0 <| asN1 e'8 fun v'10 => un_spec_l4W v'10 fun e_2 f_3 x_4 x_5 x_6 x_7 e_8 f_9 x_10 => guardB (distinct [o0]) <| guardB (okI 1 [true] [some ⟨[.agg [.list 7 e_2 f_3, .int .i64 x_4, .int .i64 x_5, .int .i64 x_6, .int .i64 x_7, .list 1 e_8 f_9, .int .i64 x_10]], 7, 72, 0⟩]) <| g_spec_l4W_step N b_1 e_2 f_3 x_4 x_5 x_6 x_7 e_8 f_9 x_10 (fun x_901 e_902 f_903 x_904 x_905 x_906 x_907 e_908 f_909 x_910 => FK s [o0] rl K (.int .i64 x_901) [some ⟨[.agg [.list 7 e_902 f_903, .int .i64 x_904, .int .i64 x_905, .int .i64 x_906, .int .i64 x_907, .list 1 e_908 f_909, .int .i64 x_910]], 7, 72, 0⟩])
noncomputable def Φ_spec_l4W_step (N : Nat) : Callee := (Φ_spec_l3At N).add 36 (f_spec_l4W_step N)
noncomputable def c_spec_l4W_step : Code := bodyOf Tryd.f36
theorem b_spec_l4W_step {R : Type} (N : Nat) (b_1 : Bool) (e_2 : List V) (f_3 : Fl) (x_4 x_5 x_6 x_7 : Int) (e_8 : List V) (f_9 : Fl) (x_10 : Int) (K : V → S → Option R) : bodyV C (Φ_spec_l3At N) (noLooper) 36 Tryd.f36 [.ptr 0 0 0 0, .bool b_1] [some ⟨[.agg [.list 7 e_2 f_3, .int .i64 x_4, .int .i64 x_5, .int .i64 x_6, .int .i64 x_7, .list 1 e_8 f_9, .int .i64 x_10]], 7, 72, 0⟩] (GK rl 1 K) =
  gb_spec_l4W_step N b_1 e_2 f_3 x_4 x_5 x_6 x_7 e_8 f_9 x_10 (fun x_901 e_902 f_903 x_904 x_905 x_906 x_907 e_908 f_909 x_910 => K (.int .i64 x_901) [some ⟨[.agg [.list 7 e_902 f_903, .int .i64 x_904, .int .i64 x_905, .int .i64 x_906, .int .i64 x_907, .list 1 e_908 f_909, .int .i64 x_910]], 7, 72, 0⟩]) := by kernel_rfl
theorem callee_spec_l4W_step (hC : Ok Tryd.prog C) {N : Nat} (hΦ : CalleeOk Tryd.prog C (Φ_spec_l3At N)) : CalleeOk Tryd.prog C (Φ_spec_l4W_step N) := by
  refine hΦ.add_shared rfl fun R vs s K r h => ?_
  unfold f_spec_l4W_step at h
  obtain ⟨_, _, rfl, h1⟩ := asN2_some h
  obtain ⟨o0, _, _, _, rfl, h2⟩ := asPtr_some h1
  obtain ⟨rfl, h3⟩ := isN_some h2
  obtain ⟨rfl, h4⟩ := isN_some h3
  obtain ⟨rfl, h5⟩ := isN_some h4
  obtain ⟨b_1, rfl, h6⟩ := asBool_some h5
  obtain ⟨_, hob0, h7⟩ := asAt_some h6
  obtain ⟨_, _, rfl, h8⟩ := obIs_some h7
  obtain ⟨rfl, h9⟩ := isN_some h8
  obtain ⟨_, rfl, h10⟩ := asN1_some h9
  obtain ⟨e_2, f_3, x_4, x_5, x_6, x_7, e_8, f_9, x_10, rfl, h11⟩ := un_spec_l4W_some h10
  obtain ⟨hdist, h12⟩ := guardB_some h11
  obtain ⟨hin, h13⟩ := guardB_some h12
  refine frames_body (fn := Tryd.f36) (c := c_spec_l4W_step) (os := [o0]) (rl := rl) (bi := [true]) (s0 := [some ⟨[.agg [.list 7 e_2 f_3, .int .i64 x_4, .int .i64 x_5, .int .i64 x_6, .int .i64 x_7, .list 1 e_8 f_9, .int .i64 x_10]], 7, 72, 0⟩]) (as0 := [.ptr 0 0 0 0, .bool b_1]) hC hΦ Tryd.func36 (by kernel_rfl) (by kernel_rfl) (loopsOk_nil (Λ := noLooper) (by kernel_rfl)) rfl hdist ⟨⟨_, rfl, hob0⟩, trivial⟩ hin rfl rfl ?_
  refine (b_spec_l4W_step N _ _ _ _ _ _ _ _ _ _ _).trans ?_
  rw [← g_spec_l4W_step_eq]
  exact h13

/-! ### loop.example/g00756/spec.l4Find -/
noncomputable def f_spec_l4Find (N : Nat) : (R : Type) → List V → S → (V → S → Option R) → Option R := fun _ vs s K =>
  asN4 vs fun v'1 v'2 v'3 v'4 => un_impl_Fs v'1 fun e_1 f_2 x_3 => un_impl_Cred v'2 fun x_4 x_5 => asStr v'3 fun w_6 => asBool v'4 fun b_7 => asEnd s <| g_spec_l4Find N e_1 f_2 x_3 x_4 x_5 w_6 b_7 (fun x_8 x_9 => K (.tuple [.int .i64 x_8, .int .i64 x_9]) [])
noncomputable def Φ_spec_l4Find (N : Nat) : Callee := (Φ_spec_l4W_step N).add 22 (f_spec_l4Find N)
noncomputable def c_spec_l4Find : Code := bodyOf Tryd.f22
noncomputable def b_spec_l4Find_0 : Code := (loopNo c_spec_l4Find [] 0).2
def ks_spec_l4Find_0 : List Nat := butL 60 [3, 4, 10, 11]
def kx_spec_l4Find_0 : List Nat := butL 60 [4, 8, 9, 10, 11]
def fr_spec_l4Find_0 (b_1 b_2 : Bool) (e_3 : List V) (f_4 : Fl) (x_5 x_6 x_7 : Int) (e_8 : List V) (f_9 : Fl) (x_10 x_11 x_12 x_13 : Int) (e_14 : List V) (f_16 : Fl) (x_15 : Int) : List V := mkF 0 60 [(3, .bool b_1), (4, .ptr 0 0 0 0), (10, .bool b_2), (11, .ptr 2 0 0 0)]
def kk0_spec_l4Find_0 {R : Type} (K : X → List V → S → Option R) (b_1 : Bool) (b_2 : Bool) (e_3 : List V) (f_4 : Fl) (x_5 : Int) (x_6 : Int) (x_7 : Int) : Int → List V → Fl → Int → Int → Int → Int → List V → Fl → Int → Option R := (fun x_1' e_2' f_3' x_4' x_5' x_6' x_7' e_8' f_9' x_10' => K .ret (mkF 0 60 [(4, .ptr 0 0 0 0), (8, .int .i64 0), (9, .int .i64 (x_1')), (10, .bool b_2), (11, .ptr 2 0 0 0)]) [some ⟨[.agg [.list 7 e_3 f_4, .int .i64 x_5]], 2, 32, 0⟩, some ⟨[.agg [.int .i64 x_6, .int .i64 x_7]], 2, 34, 0⟩, some ⟨[.agg [.list 7 (e_2') (f_3'), .int .i64 (x_4'), .int .i64 (x_5'), .int .i64 (x_6'), .int .i64 (x_7'), .list 1 (e_8') (f_9'), .int .i64 (x_10')]], 7, 72, 0⟩])
def kk1_spec_l4Find_0 {R : Type} (K : X → List V → S → Option R) (b_1 : Bool) (b_2 : Bool) (e_3 : List V) (f_4 : Fl) (x_5 : Int) (x_6 : Int) (x_7 : Int) : List V → Fl → Int → Int → Int → Int → List V → Fl → Int → Option R := (fun e_1' f_2' x_3' x_4' x_5' x_6' e_7' f_8' x_9' => K (.exit 0) (mkF 0 60 [(4, .ptr 0 0 0 0), (10, .bool b_2), (11, .ptr 2 0 0 0)]) [some ⟨[.agg [.list 7 e_3 f_4, .int .i64 x_5]], 2, 32, 0⟩, some ⟨[.agg [.int .i64 x_6, .int .i64 x_7]], 2, 34, 0⟩, some ⟨[.agg [.list 7 (e_1') (f_2'), .int .i64 (x_3'), .int .i64 (x_4'), .int .i64 (x_5'), .int .i64 (x_6'), .list 1 (e_7') (f_8'), .int .i64 (x_9')]], 7, 72, 0⟩])
noncomputable abbrev it_spec_l4Find_0 {R : Type} (N : Nat) : Nat → List V → S → (X → List V → S → Option R) → Option R := fun n => iter C (Φ_spec_l4W_step N) (noLooper) b_spec_l4Find_0 [0, 0, 1, 1, 1, 1] false ks_spec_l4Find_0 kx_spec_l4Find_0 n R
theorem r_spec_l4Find_0 {R : Type} (N n : Nat) (b_1 b_2 : Bool) (e_3 : List V) (f_4 : Fl) (x_5 x_6 x_7 : Int) (e_8 : List V) (f_9 : Fl) (x_10 x_11 x_12 x_13 : Int) (e_14 : List V) (f_16 : Fl) (x_15 : Int) (K : X → List V → S → Option R) :
  it_spec_l4Find_0 N (n + 1) (fr_spec_l4Find_0 b_1 b_2 e_3 f_4 x_5 x_6 x_7 e_8 f_9 x_10 x_11 x_12 x_13 e_14 f_16 x_15) [some ⟨[.agg [.list 7 e_3 f_4, .int .i64 x_5]], 2, 32, 0⟩, some ⟨[.agg [.int .i64 x_6, .int .i64 x_7]], 2, 34, 0⟩, some ⟨[.agg [.list 7 e_8 f_9, .int .i64 x_10, .int .i64 x_11, .int .i64 x_12, .int .i64 x_13, .list 1 e_14 f_16, .int .i64 x_15]], 7, 72, 0⟩] K =
  l_spec_l4Find_0_step N b_1 b_2 e_3 f_4 x_5 x_6 x_7 (fun e_8 f_9 x_10 x_11 x_12 x_13 e_14 f_16 x_15 => it_spec_l4Find_0 N n (fr_spec_l4Find_0 b_1 b_2 e_3 f_4 x_5 x_6 x_7 e_8 f_9 x_10 x_11 x_12 x_13 e_14 f_16 x_15) [some ⟨[.agg [.list 7 e_3 f_4, .int .i64 x_5]], 2, 32, 0⟩, some ⟨[.agg [.int .i64 x_6, .int .i64 x_7]], 2, 34, 0⟩, some ⟨[.agg [.list 7 e_8 f_9, .int .i64 x_10, .int .i64 x_11, .int .i64 x_12, .int .i64 x_13, .list 1 e_14 f_16, .int .i64 x_15]], 7, 72, 0⟩] K) e_8 f_9 x_10 x_11 x_12 x_13 e_14 f_16 x_15 (kk0_spec_l4Find_0 K b_1 b_2 e_3 f_4 x_5 x_6 x_7) (kk1_spec_l4Find_0 K b_1 b_2 e_3 f_4 x_5 x_6 x_7) := by kernel_rfl
theorem w_spec_l4Find_0 {R : Type} (N : Nat) (b_1 b_2 : Bool) (e_3 : List V) (f_4 : Fl) (x_5 x_6 x_7 : Int) (K : X → List V → S → Option R) : ∀ (n : Nat) (e_8 : List V) (f_9 : Fl) (x_10 x_11 x_12 x_13 : Int) (e_14 : List V) (f_16 : Fl) (x_15 : Int),
  it_spec_l4Find_0 N n (fr_spec_l4Find_0 b_1 b_2 e_3 f_4 x_5 x_6 x_7 e_8 f_9 x_10 x_11 x_12 x_13 e_14 f_16 x_15) [some ⟨[.agg [.list 7 e_3 f_4, .int .i64 x_5]], 2, 32, 0⟩, some ⟨[.agg [.int .i64 x_6, .int .i64 x_7]], 2, 34, 0⟩, some ⟨[.agg [.list 7 e_8 f_9, .int .i64 x_10, .int .i64 x_11, .int .i64 x_12, .int .i64 x_13, .list 1 e_14 f_16, .int .i64 x_15]], 7, 72, 0⟩] K = l_spec_l4Find_0 N b_1 b_2 e_3 f_4 x_5 x_6 x_7 (kk0_spec_l4Find_0 K b_1 b_2 e_3 f_4 x_5 x_6 x_7) (kk1_spec_l4Find_0 K b_1 b_2 e_3 f_4 x_5 x_6 x_7) n e_8 f_9 x_10 x_11 x_12 x_13 e_14 f_16 x_15
  | 0, _, _, _, _, _, _, _, _, _ => rfl
  | n + 1, e_8, f_9, x_10, x_11, x_12, x_13, e_14, f_16, x_15 => (r_spec_l4Find_0 N n b_1 b_2 e_3 f_4 x_5 x_6 x_7 e_8 f_9 x_10 x_11 x_12 x_13 e_14 f_16 x_15 K).trans (congrArg (fun nx => l_spec_l4Find_0_step N b_1 b_2 e_3 f_4 x_5 x_6 x_7 nx e_8 f_9 x_10 x_11 x_12 x_13 e_14 f_16 x_15 (kk0_spec_l4Find_0 K b_1 b_2 e_3 f_4 x_5 x_6 x_7) (kk1_spec_l4Find_0 K b_1 b_2 e_3 f_4 x_5 x_6 x_7)) (funext fun e_8 => funext fun f_9 => funext fun x_10 => funext fun x_11 => funext fun x_12 => funext fun x_13 => funext fun e_14 => funext fun f_16 => funext fun x_15 => w_spec_l4Find_0 N b_1 b_2 e_3 f_4 x_5 x_6 x_7 K n e_8 f_9 x_10 x_11 x_12 x_13 e_14 f_16 x_15))
def i_spec_l4Find_0 {R : Type} (E : List V) (s : S) (k : Bool → Bool → List V → Fl → Int → Int → Int → List V → Fl → Int → Int → Int → Int → List V → Fl → Int → Option R) : Option R :=
  guardB (frameOk 60 [3, 4, 10, 11] E) <| atBool E 3 fun b_1 => atIs E 4 (.ptr 0 0 0 0) <| atBool E 10 fun b_2 => atIs E 11 (.ptr 2 0 0 0) <| asOb s fun o'1 s'2 => obIs o'1 2 32 fun e'3 k'4 => isN k'4 0 <| asN1 e'3 fun v'5 => asAgg v'5 fun c'6 => asN2 c'6 fun v'7 v'8 => asList 7 v'7 fun e_3 f_4 => asInt .i64 v'8 fun x_5 => asOb s'2 fun o'9 s'10 => obIs o'9 2 34 fun e'11 k'12 => isN k'12 0 <| asN1 e'11 fun v'13 => asAgg v'13 fun c'14 => asN2 c'14 fun v'15 v'16 => asInt .i64 v'15 fun x_6 => asInt .i64 v'16 fun x_7 => asOb s'10 fun o'17 s'18 => obIs o'17 7 72 fun e'19 k'20 => isN k'20 0 <| asN1 e'19 fun v'21 => asAgg v'21 fun c'22 => asN7 c'22 fun v'23 v'24 v'25 v'26 v'27 v'28 v'29 => asList 7 v'23 fun e_8 f_9 => asInt .i64 v'24 fun x_10 => asInt .i64 v'25 fun x_11 => asInt .i64 v'26 fun x_12 => asInt .i64 v'27 fun x_13 => asList 1 v'28 fun e_14 f_16 => asInt .i64 v'29 fun x_15 => asEnd s'18 <| k b_1 b_2 e_3 f_4 x_5 x_6 x_7 e_8 f_9 x_10 x_11 x_12 x_13 e_14 f_16 x_15
theorem i_spec_l4Find_0_spec {R : Type} {E : List V} {s : S} {k : Bool → Bool → List V → Fl → Int → Int → Int → List V → Fl → Int → Int → Int → Int → List V → Fl → Int → Option R} {r : R} (h : i_spec_l4Find_0 E s k = some r) : ∃ b_1 b_2 e_3 f_4 x_5 x_6 x_7 e_8 f_9 x_10 x_11 x_12 x_13 e_14 f_16 x_15, E = fr_spec_l4Find_0 b_1 b_2 e_3 f_4 x_5 x_6 x_7 e_8 f_9 x_10 x_11 x_12 x_13 e_14 f_16 x_15 ∧ s = [some ⟨[.agg [.list 7 e_3 f_4, .int .i64 x_5]], 2, 32, 0⟩, some ⟨[.agg [.int .i64 x_6, .int .i64 x_7]], 2, 34, 0⟩, some ⟨[.agg [.list 7 e_8 f_9, .int .i64 x_10, .int .i64 x_11, .int .i64 x_12, .int .i64 x_13, .list 1 e_14 f_16, .int .i64 x_15]], 7, 72, 0⟩] ∧ k b_1 b_2 e_3 f_4 x_5 x_6 x_7 e_8 f_9 x_10 x_11 x_12 x_13 e_14 f_16 x_15 = some r := by
  unfold i_spec_l4Find_0 at h
  obtain ⟨hg, h1⟩ := guardB_some h
  obtain ⟨_, hu3, h2⟩ := atBool_some h1
  obtain ⟨hu4, h3⟩ := atIs_some h2
  obtain ⟨_, hu10, h4⟩ := atBool_some h3
  obtain ⟨hu11, h5⟩ := atIs_some h4
  obtain ⟨_, _, rfl, h6⟩ := asOb_some h5
  obtain ⟨_, _, rfl, h7⟩ := obIs_some h6
  obtain ⟨rfl, h8⟩ := isN_some h7
  obtain ⟨_, rfl, h9⟩ := asN1_some h8
  obtain ⟨_, rfl, h10⟩ := asAgg_some h9
  obtain ⟨_, _, rfl, h11⟩ := asN2_some h10
  obtain ⟨_, _, rfl, h12⟩ := asList_some h11
  obtain ⟨_, rfl, h13⟩ := asInt_some h12
  obtain ⟨_, _, rfl, h14⟩ := asOb_some h13
  obtain ⟨_, _, rfl, h15⟩ := obIs_some h14
  obtain ⟨rfl, h16⟩ := isN_some h15
  obtain ⟨_, rfl, h17⟩ := asN1_some h16
  obtain ⟨_, rfl, h18⟩ := asAgg_some h17
  obtain ⟨_, _, rfl, h19⟩ := asN2_some h18
  obtain ⟨_, rfl, h20⟩ := asInt_some h19
  obtain ⟨_, rfl, h21⟩ := asInt_some h20
  obtain ⟨_, _, rfl, h22⟩ := asOb_some h21
  obtain ⟨_, _, rfl, h23⟩ := obIs_some h22
  obtain ⟨rfl, h24⟩ := isN_some h23
  obtain ⟨_, rfl, h25⟩ := asN1_some h24
  obtain ⟨_, rfl, h26⟩ := asAgg_some h25
  obtain ⟨_, _, _, _, _, _, _, rfl, h27⟩ := asN7_some h26
  obtain ⟨_, _, rfl, h28⟩ := asList_some h27
  obtain ⟨_, rfl, h29⟩ := asInt_some h28
  obtain ⟨_, rfl, h30⟩ := asInt_some h29
  obtain ⟨_, rfl, h31⟩ := asInt_some h30
  obtain ⟨_, rfl, h32⟩ := asInt_some h31
  obtain ⟨_, _, rfl, h33⟩ := asList_some h32
  obtain ⟨_, rfl, h34⟩ := asInt_some h33
  obtain ⟨rfl, h35⟩ := asEnd_some h34
  exact ⟨_, _, _, _, _, _, _, _, _, _, _, _, _, _, _, _, frame_is hg rfl (slots_cons hu3 (slots_cons hu4 (slots_cons hu10 (slots_cons hu11 slots_nil)))), rfl, h35⟩
noncomputable def Λ_spec_l4Find_0 (N : Nat) : Looper := (noLooper).add [0, 0, 1, 1, 1, 1] fun _ E s K => i_spec_l4Find_0 (killE ks_spec_l4Find_0 E) s fun b_1 b_2 e_3 f_4 x_5 x_6 x_7 e_8 f_9 x_10 x_11 x_12 x_13 e_14 f_16 x_15 => l_spec_l4Find_0 N b_1 b_2 e_3 f_4 x_5 x_6 x_7 (kk0_spec_l4Find_0 K b_1 b_2 e_3 f_4 x_5 x_6 x_7) (kk1_spec_l4Find_0 K b_1 b_2 e_3 f_4 x_5 x_6 x_7) N e_8 f_9 x_10 x_11 x_12 x_13 e_14 f_16 x_15
theorem ok_spec_l4Find_0 {N : Nat} (hC : Ok Tryd.prog C) (hΦ : CalleeOk Tryd.prog C (Φ_spec_l4W_step N)) : LoopOk Tryd.prog C (Λ_spec_l4Find_0 N) b_spec_l4Find_0 [0, 0, 1, 1, 1, 1] :=
  iter_ok (Λi := noLooper) (tr := false) (ks := ks_spec_l4Find_0) (kx := kx_spec_l4Find_0) (N := N) hC hΦ
    (loopsOk_nil (by kernel_rfl))
    fun R E s K r h => by
      have h2 := Looper.add_self.symm.trans h
      obtain ⟨_, _, _, _, _, _, _, _, _, _, _, _, _, _, _, _, he, rfl, h3⟩ := i_spec_l4Find_0_spec h2
      rw [he]
      exact (w_spec_l4Find_0 N _ _ _ _ _ _ _ _ N _ _ _ _ _ _ _ _ _).trans h3
theorem at_spec_l4Find : loopsAt c_spec_l4Find [] = [([0, 0, 1, 1, 1, 1], b_spec_l4Find_0)] := by kernel_rfl
theorem b_spec_l4Find {R : Type} (N : Nat) (e_1 : List V) (f_2 : Fl) (x_3 x_4 x_5 : Int) (w_6 : ByteArray) (b_7 : Bool) (K : V → S → Option R) : bodyV C (Φ_spec_l4W_step N) (Λ_spec_l4Find_0 N) 22 Tryd.f22 [.agg [.list 7 e_1 f_2, .int .i64 x_3], .agg [.int .i64 x_4, .int .i64 x_5], .str w_6, .bool b_7] [] K =
  gb_spec_l4Find N e_1 f_2 x_3 x_4 x_5 w_6 b_7 (fun x_8 x_9 => K (.tuple [.int .i64 x_8, .int .i64 x_9]) []) := by kernel_rfl
theorem loops_spec_l4Find {N : Nat} (hC : Ok Tryd.prog C) (hΦ : CalleeOk Tryd.prog C (Φ_spec_l4W_step N)) : LoopsOk Tryd.prog C (Λ_spec_l4Find_0 N) c_spec_l4Find [] :=
  loopsOk_of c_spec_l4Find [] (by
    rw [at_spec_l4Find]
    intro p hp
    simp only [List.mem_cons, List.mem_nil_iff, or_false] at hp
    rcases hp with rfl
    · exact (ok_spec_l4Find_0 hC hΦ))
theorem callee_spec_l4Find (hC : Ok Tryd.prog C) {N : Nat} (hΦ : CalleeOk Tryd.prog C (Φ_spec_l4W_step N)) : CalleeOk Tryd.prog C (Φ_spec_l4Find N) := by
  refine hΦ.add_pure rfl fun R vs K r h => ?_
  unfold f_spec_l4Find at h
  obtain ⟨_, _, _, _, rfl, h1⟩ := asN4_some h
  obtain ⟨_, _, _, rfl, h2⟩ := un_impl_Fs_some h1
  obtain ⟨_, _, rfl, h3⟩ := un_impl_Cred_some h2
  obtain ⟨_, rfl, h4⟩ := asStr_some h3
  obtain ⟨_, rfl, h5⟩ := asBool_some h4
  obtain ⟨_, h6⟩ := asEnd_some h5
  refine body_pure (fn := Tryd.f22) (c := c_spec_l4Find) hC hΦ Tryd.func22 (by kernel_rfl) (by kernel_rfl) (loops_spec_l4Find (N := N) hC hΦ) rfl rfl ?_
  refine (b_spec_l4Find N _ _ _ _ _ _ _ _).trans ?_
  rw [← g_spec_l4Find_eq]
  exact h6

/-! ### loop.example/g00756/spec.l6File -/
noncomputable def f_spec_l6File (N : Nat) : (R : Type) → List V → S → (V → S → Option R) → Option R := fun _ vs s K =>
  asN4 vs fun v'1 v'2 v'3 v'4 => un_impl_Fs v'1 fun e_1 f_2 x_3 => un_impl_Cred v'2 fun x_4 x_5 => asStr v'3 fun w_6 => asInt .i64 v'4 fun x_7 => asEnd s <| g_spec_l6File N e_1 f_2 x_3 x_4 x_5 w_6 x_7 (fun x_8 x_9 => K (.tuple [.int .i64 x_8, .int .i64 x_9]) [])
noncomputable def Φ_spec_l6File (N : Nat) : Callee := (Φ_spec_l4Find N).add 27 (f_spec_l6File N)
noncomputable def c_spec_l6File : Code := bodyOf Tryd.f27
theorem b_spec_l6File {R : Type} (N : Nat) (e_1 : List V) (f_2 : Fl) (x_3 x_4 x_5 : Int) (w_6 : ByteArray) (x_7 : Int) (K : V → S → Option R) : bodyV C (Φ_spec_l4Find N) (noLooper) 27 Tryd.f27 [.agg [.list 7 e_1 f_2, .int .i64 x_3], .agg [.int .i64 x_4, .int .i64 x_5], .str w_6, .int .i64 x_7] [] K =
  gb_spec_l6File N e_1 f_2 x_3 x_4 x_5 w_6 x_7 (fun x_8 x_9 => K (.tuple [.int .i64 x_8, .int .i64 x_9]) []) := by kernel_rfl
theorem callee_spec_l6File (hC : Ok Tryd.prog C) {N : Nat} (hΦ : CalleeOk Tryd.prog C (Φ_spec_l4Find N)) : CalleeOk Tryd.prog C (Φ_spec_l6File N) := by
  refine hΦ.add_pure rfl fun R vs K r h => ?_
  unfold f_spec_l6File at h
  obtain ⟨_, _, _, _, rfl, h1⟩ := asN4_some h
  obtain ⟨_, _, _, rfl, h2⟩ := un_impl_Fs_some h1
  obtain ⟨_, _, rfl, h3⟩ := un_impl_Cred_some h2
  obtain ⟨_, rfl, h4⟩ := asStr_some h3
  obtain ⟨_, rfl, h5⟩ := asInt_some h4
  obtain ⟨_, h6⟩ := asEnd_some h5
  refine body_pure (fn := Tryd.f27) (c := c_spec_l6File) hC hΦ Tryd.func27 (by kernel_rfl) (by kernel_rfl) (loopsOk_nil (Λ := noLooper) (by kernel_rfl)) rfl rfl ?_
  refine (b_spec_l6File N _ _ _ _ _ _ _ _).trans ?_
  rw [← g_spec_l6File_eq]
  exact h6

/-! ### loop.example/g00756/spec.ReadFile -/
noncomputable def f_spec_ReadFile (N : Nat) : (R : Type) → List V → S → (V → S → Option R) → Option R := fun _ vs s K =>
  asN3 vs fun v'1 v'2 v'3 => un_impl_Fs v'1 fun e_1 f_2 x_3 => un_impl_Cred v'2 fun x_4 x_5 => asStr v'3 fun w_6 => asEnd s <| g_spec_ReadFile N e_1 f_2 x_3 x_4 x_5 w_6 (fun w_7 x_8 b_9 => K (.tuple [.str w_7, .int .i64 x_8, .bool b_9]) [])
noncomputable def Φ_spec_ReadFile (N : Nat) : Callee := (Φ_spec_l6File N).add 15 (f_spec_ReadFile N)
noncomputable def c_spec_ReadFile : Code := bodyOf Tryd.f15
theorem b_spec_ReadFile {R : Type} (N : Nat) (e_1 : List V) (f_2 : Fl) (x_3 x_4 x_5 : Int) (w_6 : ByteArray) (K : V → S → Option R) : bodyV C (Φ_spec_l6File N) (noLooper) 15 Tryd.f15 [.agg [.list 7 e_1 f_2, .int .i64 x_3], .agg [.int .i64 x_4, .int .i64 x_5], .str w_6] [] K =
  gb_spec_ReadFile N e_1 f_2 x_3 x_4 x_5 w_6 (fun w_7 x_8 b_9 => K (.tuple [.str w_7, .int .i64 x_8, .bool b_9]) []) := by kernel_rfl
theorem callee_spec_ReadFile (hC : Ok Tryd.prog C) {N : Nat} (hΦ : CalleeOk Tryd.prog C (Φ_spec_l6File N)) : CalleeOk Tryd.prog C (Φ_spec_ReadFile N) := by
  refine hΦ.add_pure rfl fun R vs K r h => ?_
  unfold f_spec_ReadFile at h
  obtain ⟨_, _, _, rfl, h1⟩ := asN3_some h
  obtain ⟨_, _, _, rfl, h2⟩ := un_impl_Fs_some h1
  obtain ⟨_, _, rfl, h3⟩ := un_impl_Cred_some h2
  obtain ⟨_, rfl, h4⟩ := asStr_some h3
  obtain ⟨_, h5⟩ := asEnd_some h4
  refine body_pure (fn := Tryd.f15) (c := c_spec_ReadFile) hC hΦ Tryd.func15 (by kernel_rfl) (by kernel_rfl) (loopsOk_nil (Λ := noLooper) (by kernel_rfl)) rfl rfl ?_
  refine (b_spec_ReadFile N _ _ _ _ _ _ _).trans ?_
  rw [← g_spec_ReadFile_eq]
  exact h5

/-! ### (loop.example/g00756/impl.Fs).links -/
noncomputable def f_impl_Fs_links (N : Nat) : (R : Type) → List V → S → (V → S → Option R) → Option R := fun _ vs s K =>
  asN1 vs fun v'1 => un_impl_Fs v'1 fun e_1 f_2 x_3 => asEnd s <| g_impl_Fs_links N e_1 f_2 x_3 (fun e_4 => K (.list 1 e_4 .sh) [])
noncomputable def Φ_impl_Fs_links (N : Nat) : Callee := (Φ_spec_ReadFile N).add 30 (f_impl_Fs_links N)
noncomputable def c_impl_Fs_links : Code := bodyOf Tryd.f30
noncomputable def b_impl_Fs_links_1 : Code := (loopNo c_impl_Fs_links [] 0).2
noncomputable def b_impl_Fs_links_0 : Code := (loopNo b_impl_Fs_links_1 (0 :: [0, 1, 0, 1, 1]) 0).2
def ks_impl_Fs_links_0 : List Nat := butL 36 [3, 13, 14, 15, 20, 21, 22]
def kx_impl_Fs_links_0 : List Nat := butL 36 [3, 13, 14, 15]
def fr_impl_Fs_links_0 (k_1 : Nat) (e_2 : List V) (f_3 : Fl) (x_4 x_5 : Int) (e_6 : List V) (f_7 : Fl) (x_8 : Int) (e_10 : List V) (f_11 : Fl) (x_12 x_14 x_15 x_16 x_17 x_18 : Int) (w_19 : ByteArray) (e_20 : List V) (f_21 : Fl) (x_9 : Int) (e_13 : List V) : List V := mkF 0 36 [(3, .arr 1 0 0 k_1), (13, .list 7 e_2 f_3), (14, .int .i64 x_4), (15, .int .i64 x_5), (20, .list 2 e_6 f_7), (21, .int .i64 x_8), (22, .int .i64 x_9)]
def kk0_impl_Fs_links_0 {R : Type} (K : X → List V → S → Option R) (k_1 : Nat) (e_2 : List V) (f_3 : Fl) (x_4 : Int) (x_5 : Int) (e_6 : List V) (f_7 : Fl) (x_8 : Int) (e_10 : List V) (f_11 : Fl) (x_12 : Int) (x_14 : Int) (x_15 : Int) (x_16 : Int) (x_17 : Int) (x_18 : Int) (w_19 : ByteArray) (e_20 : List V) (f_21 : Fl) : List V → Option R := (fun e_1' => K (.exit 2) (mkF 0 36 [(3, .arr 1 0 0 k_1), (13, .list 7 e_2 f_3), (14, .int .i64 x_4), (15, .int .i64 x_5)]) [some ⟨[.agg [.list 7 e_10 f_11, .int .i64 x_12]], 2, 32, 0⟩, some ⟨e_1', 1, 3, 0⟩, some ⟨[.agg [.int .i64 x_14, .int .i64 x_15, .int .i64 x_16, .int .i64 x_17, .int .i64 x_18, .str w_19, .list 2 e_20 f_21]], 7, 55, 0⟩])
noncomputable abbrev it_impl_Fs_links_0 {R : Type} (N : Nat) : Nat → List V → S → (X → List V → S → Option R) → Option R := fun n => iter C (Φ_spec_ReadFile N) (noLooper) b_impl_Fs_links_0 [0, 1, 1, 0, 0, 1, 1, 0, 0, 1, 0, 1, 1] true ks_impl_Fs_links_0 kx_impl_Fs_links_0 n R
theorem r_impl_Fs_links_0 {R : Type} (N n : Nat) (k_1 : Nat) (e_2 : List V) (f_3 : Fl) (x_4 x_5 : Int) (e_6 : List V) (f_7 : Fl) (x_8 : Int) (e_10 : List V) (f_11 : Fl) (x_12 x_14 x_15 x_16 x_17 x_18 : Int) (w_19 : ByteArray) (e_20 : List V) (f_21 : Fl) (x_9 : Int) (e_13 : List V) (K : X → List V → S → Option R) :
  it_impl_Fs_links_0 N (n + 1) (fr_impl_Fs_links_0 k_1 e_2 f_3 x_4 x_5 e_6 f_7 x_8 e_10 f_11 x_12 x_14 x_15 x_16 x_17 x_18 w_19 e_20 f_21 x_9 e_13) [some ⟨[.agg [.list 7 e_10 f_11, .int .i64 x_12]], 2, 32, 0⟩, some ⟨e_13, 1, 3, 0⟩, some ⟨[.agg [.int .i64 x_14, .int .i64 x_15, .int .i64 x_16, .int .i64 x_17, .int .i64 x_18, .str w_19, .list 2 e_20 f_21]], 7, 55, 0⟩] K =
  l_impl_Fs_links_0_step N k_1 e_2 f_3 x_4 x_5 e_6 f_7 x_8 e_10 f_11 x_12 x_14 x_15 x_16 x_17 x_18 w_19 e_20 f_21 (fun x_9 e_13 => it_impl_Fs_links_0 N n (fr_impl_Fs_links_0 k_1 e_2 f_3 x_4 x_5 e_6 f_7 x_8 e_10 f_11 x_12 x_14 x_15 x_16 x_17 x_18 w_19 e_20 f_21 x_9 e_13) [some ⟨[.agg [.list 7 e_10 f_11, .int .i64 x_12]], 2, 32, 0⟩, some ⟨e_13, 1, 3, 0⟩, some ⟨[.agg [.int .i64 x_14, .int .i64 x_15, .int .i64 x_16, .int .i64 x_17, .int .i64 x_18, .str w_19, .list 2 e_20 f_21]], 7, 55, 0⟩] K) x_9 e_13 (kk0_impl_Fs_links_0 K k_1 e_2 f_3 x_4 x_5 e_6 f_7 x_8 e_10 f_11 x_12 x_14 x_15 x_16 x_17 x_18 w_19 e_20 f_21) := by kernel_rfl
theorem w_impl_Fs_links_0 {R : Type} (N : Nat) (k_1 : Nat) (e_2 : List V) (f_3 : Fl) (x_4 x_5 : Int) (e_6 : List V) (f_7 : Fl) (x_8 : Int) (e_10 : List V) (f_11 : Fl) (x_12 x_14 x_15 x_16 x_17 x_18 : Int) (w_19 : ByteArray) (e_20 : List V) (f_21 : Fl) (K : X → List V → S → Option R) : ∀ (n : Nat) (x_9 : Int) (e_13 : List V),
  it_impl_Fs_links_0 N n (fr_impl_Fs_links_0 k_1 e_2 f_3 x_4 x_5 e_6 f_7 x_8 e_10 f_11 x_12 x_14 x_15 x_16 x_17 x_18 w_19 e_20 f_21 x_9 e_13) [some ⟨[.agg [.list 7 e_10 f_11, .int .i64 x_12]], 2, 32, 0⟩, some ⟨e_13, 1, 3, 0⟩, some ⟨[.agg [.int .i64 x_14, .int .i64 x_15, .int .i64 x_16, .int .i64 x_17, .int .i64 x_18, .str w_19, .list 2 e_20 f_21]], 7, 55, 0⟩] K = l_impl_Fs_links_0 N k_1 e_2 f_3 x_4 x_5 e_6 f_7 x_8 e_10 f_11 x_12 x_14 x_15 x_16 x_17 x_18 w_19 e_20 f_21 (kk0_impl_Fs_links_0 K k_1 e_2 f_3 x_4 x_5 e_6 f_7 x_8 e_10 f_11 x_12 x_14 x_15 x_16 x_17 x_18 w_19 e_20 f_21) n x_9 e_13
  | 0, _, _ => rfl
  | n + 1, x_9, e_13 => (r_impl_Fs_links_0 N n k_1 e_2 f_3 x_4 x_5 e_6 f_7 x_8 e_10 f_11 x_12 x_14 x_15 x_16 x_17 x_18 w_19 e_20 f_21 x_9 e_13 K).trans (congrArg (fun nx => l_impl_Fs_links_0_step N k_1 e_2 f_3 x_4 x_5 e_6 f_7 x_8 e_10 f_11 x_12 x_14 x_15 x_16 x_17 x_18 w_19 e_20 f_21 nx x_9 e_13 (kk0_impl_Fs_links_0 K k_1 e_2 f_3 x_4 x_5 e_6 f_7 x_8 e_10 f_11 x_12 x_14 x_15 x_16 x_17 x_18 w_19 e_20 f_21)) (funext fun x_9 => funext fun e_13 => w_impl_Fs_links_0 N k_1 e_2 f_3 x_4 x_5 e_6 f_7 x_8 e_10 f_11 x_12 x_14 x_15 x_16 x_17 x_18 w_19 e_20 f_21 K n x_9 e_13))
def i_impl_Fs_links_0 {R : Type} (E : List V) (s : S) (k : Nat → List V → Fl → Int → Int → List V → Fl → Int → Int → List V → Fl → Int → List V → Int → Int → Int → Int → Int → ByteArray → List V → Fl → Option R) : Option R :=
  guardB (frameOk 36 [3, 13, 14, 15, 20, 21, 22] E) <| must (nth E 3) fun u3 => asArr u3 fun k'1 k'2 k'3 k_1 => isN k'1 1 <| isN k'2 0 <| isN k'3 0 <| atList E 13 7 fun e_2 f_3 => atInt E 14 .i64 fun x_4 => atInt E 15 .i64 fun x_5 => atList E 20 2 fun e_6 f_7 => atInt E 21 .i64 fun x_8 => atInt E 22 .i64 fun x_9 => asOb s fun o'4 s'5 => obIs o'4 2 32 fun e'6 k'7 => isN k'7 0 <| asN1 e'6 fun v'8 => asAgg v'8 fun c'9 => asN2 c'9 fun v'10 v'11 => asList 7 v'10 fun e_10 f_11 => asInt .i64 v'11 fun x_12 => asOb s'5 fun o'12 s'13 => obIs o'12 1 3 fun e_13 k'14 => isN k'14 0 <| asOb s'13 fun o'15 s'16 => obIs o'15 7 55 fun e'17 k'18 => isN k'18 0 <| asN1 e'17 fun v'19 => asAgg v'19 fun c'20 => asN7 c'20 fun v'21 v'22 v'23 v'24 v'25 v'26 v'27 => asInt .i64 v'21 fun x_14 => asInt .i64 v'22 fun x_15 => asInt .i64 v'23 fun x_16 => asInt .i64 v'24 fun x_17 => asInt .i64 v'25 fun x_18 => asStr v'26 fun w_19 => asList 2 v'27 fun e_20 f_21 => asEnd s'16 <| k k_1 e_2 f_3 x_4 x_5 e_6 f_7 x_8 x_9 e_10 f_11 x_12 e_13 x_14 x_15 x_16 x_17 x_18 w_19 e_20 f_21
theorem i_impl_Fs_links_0_spec {R : Type} {E : List V} {s : S} {k : Nat → List V → Fl → Int → Int → List V → Fl → Int → Int → List V → Fl → Int → List V → Int → Int → Int → Int → Int → ByteArray → List V → Fl → Option R} {r : R} (h : i_impl_Fs_links_0 E s k = some r) : ∃ k_1 e_2 f_3 x_4 x_5 e_6 f_7 x_8 x_9 e_10 f_11 x_12 e_13 x_14 x_15 x_16 x_17 x_18 w_19 e_20 f_21, E = fr_impl_Fs_links_0 k_1 e_2 f_3 x_4 x_5 e_6 f_7 x_8 e_10 f_11 x_12 x_14 x_15 x_16 x_17 x_18 w_19 e_20 f_21 x_9 e_13 ∧ s = [some ⟨[.agg [.list 7 e_10 f_11, .int .i64 x_12]], 2, 32, 0⟩, some ⟨e_13, 1, 3, 0⟩, some ⟨[.agg [.int .i64 x_14, .int .i64 x_15, .int .i64 x_16, .int .i64 x_17, .int .i64 x_18, .str w_19, .list 2 e_20 f_21]], 7, 55, 0⟩] ∧ k k_1 e_2 f_3 x_4 x_5 e_6 f_7 x_8 x_9 e_10 f_11 x_12 e_13 x_14 x_15 x_16 x_17 x_18 w_19 e_20 f_21 = some r := by
  unfold i_impl_Fs_links_0 at h
  obtain ⟨hg, h1⟩ := guardB_some h
  obtain ⟨_, hu3, h2⟩ := must_some h1
  obtain ⟨_, _, _, _, rfl, h3⟩ := asArr_some h2
  obtain ⟨rfl, h4⟩ := isN_some h3
  obtain ⟨rfl, h5⟩ := isN_some h4
  obtain ⟨rfl, h6⟩ := isN_some h5
  obtain ⟨_, _, hu13, h7⟩ := atList_some h6
  obtain ⟨_, hu14, h8⟩ := atInt_some h7
  obtain ⟨_, hu15, h9⟩ := atInt_some h8
  obtain ⟨_, _, hu20, h10⟩ := atList_some h9
  obtain ⟨_, hu21, h11⟩ := atInt_some h10
  obtain ⟨_, hu22, h12⟩ := atInt_some h11
  obtain ⟨_, _, rfl, h13⟩ := asOb_some h12
  obtain ⟨_, _, rfl, h14⟩ := obIs_some h13
  obtain ⟨rfl, h15⟩ := isN_some h14
  obtain ⟨_, rfl, h16⟩ := asN1_some h15
  obtain ⟨_, rfl, h17⟩ := asAgg_some h16
  obtain ⟨_, _, rfl, h18⟩ := asN2_some h17
  obtain ⟨_, _, rfl, h19⟩ := asList_some h18
  obtain ⟨_, rfl, h20⟩ := asInt_some h19
  obtain ⟨_, _, rfl, h21⟩ := asOb_some h20
  obtain ⟨_, _, rfl, h22⟩ := obIs_some h21
  obtain ⟨rfl, h23⟩ := isN_some h22
  obtain ⟨_, _, rfl, h24⟩ := asOb_some h23
  obtain ⟨_, _, rfl, h25⟩ := obIs_some h24
  obtain ⟨rfl, h26⟩ := isN_some h25
  obtain ⟨_, rfl, h27⟩ := asN1_some h26
  obtain ⟨_, rfl, h28⟩ := asAgg_some h27
  obtain ⟨_, _, _, _, _, _, _, rfl, h29⟩ := asN7_some h28
  obtain ⟨_, rfl, h30⟩ := asInt_some h29
  obtain ⟨_, rfl, h31⟩ := asInt_some h30
  obtain ⟨_, rfl, h32⟩ := asInt_some h31
  obtain ⟨_, rfl, h33⟩ := asInt_some h32
  obtain ⟨_, rfl, h34⟩ := asInt_some h33
  obtain ⟨_, rfl, h35⟩ := asStr_some h34
  obtain ⟨_, _, rfl, h36⟩ := asList_some h35
  obtain ⟨rfl, h37⟩ := asEnd_some h36
  exact ⟨_, _, _, _, _, _, _, _, _, _, _, _, _, _, _, _, _, _, _, _, _, frame_is hg rfl (slots_cons hu3 (slots_cons hu13 (slots_cons hu14 (slots_cons hu15 (slots_cons hu20 (slots_cons hu21 (slots_cons hu22 slots_nil))))))), rfl, h37⟩
noncomputable def Λ_impl_Fs_links_0 (N : Nat) : Looper := (noLooper).add [0, 1, 1, 0, 0, 1, 1, 0, 0, 1, 0, 1, 1] fun _ E s K => i_impl_Fs_links_0 (killE ks_impl_Fs_links_0 E) s fun k_1 e_2 f_3 x_4 x_5 e_6 f_7 x_8 x_9 e_10 f_11 x_12 e_13 x_14 x_15 x_16 x_17 x_18 w_19 e_20 f_21 => l_impl_Fs_links_0 N k_1 e_2 f_3 x_4 x_5 e_6 f_7 x_8 e_10 f_11 x_12 x_14 x_15 x_16 x_17 x_18 w_19 e_20 f_21 (kk0_impl_Fs_links_0 K k_1 e_2 f_3 x_4 x_5 e_6 f_7 x_8 e_10 f_11 x_12 x_14 x_15 x_16 x_17 x_18 w_19 e_20 f_21) N x_9 e_13
theorem ok_impl_Fs_links_0 {N : Nat} (hC : Ok Tryd.prog C) (hΦ : CalleeOk Tryd.prog C (Φ_spec_ReadFile N)) : LoopOk Tryd.prog C (Λ_impl_Fs_links_0 N) b_impl_Fs_links_0 [0, 1, 1, 0, 0, 1, 1, 0, 0, 1, 0, 1, 1] :=
  iter_ok (Λi := noLooper) (tr := true) (ks := ks_impl_Fs_links_0) (kx := kx_impl_Fs_links_0) (N := N) hC hΦ
    (loopsOk_nil (by kernel_rfl))
    fun R E s K r h => by
      have h2 := Looper.add_self.symm.trans h
      obtain ⟨_, _, _, _, _, _, _, _, _, _, _, _, _, _, _, _, _, _, _, _, _, he, rfl, h3⟩ := i_impl_Fs_links_0_spec h2
      rw [he]
      exact (w_impl_Fs_links_0 N _ _ _ _ _ _ _ _ _ _ _ _ _ _ _ _ _ _ _ _ N _ _).trans h3
def ks_impl_Fs_links_1 : List Nat := butL 36 [3, 13, 14, 15]
def kx_impl_Fs_links_1 : List Nat := butL 36 [3]
def fr_impl_Fs_links_1 (k_1 : Nat) (e_2 : List V) (f_3 : Fl) (x_4 : Int) (e_6 : List V) (f_7 : Fl) (x_8 x_5 : Int) (e_9 : List V) : List V := mkF 0 36 [(3, .arr 1 0 0 k_1), (13, .list 7 e_2 f_3), (14, .int .i64 x_4), (15, .int .i64 x_5)]
def kk0_impl_Fs_links_1 {R : Type} (K : X → List V → S → Option R) (k_1 : Nat) (e_2 : List V) (f_3 : Fl) (x_4 : Int) (e_6 : List V) (f_7 : Fl) (x_8 : Int) : List V → Option R := (fun e_1' => K (.exit 0) (mkF 0 36 [(3, .arr 1 0 0 k_1)]) [some ⟨[.agg [.list 7 e_6 f_7, .int .i64 x_8]], 2, 32, 0⟩, some ⟨e_1', 1, 3, 0⟩])
noncomputable abbrev it_impl_Fs_links_1 {R : Type} (N : Nat) : Nat → List V → S → (X → List V → S → Option R) → Option R := fun n => iter C (Φ_spec_ReadFile N) (Λ_impl_Fs_links_0 N) b_impl_Fs_links_1 [0, 1, 0, 1, 1] true ks_impl_Fs_links_1 kx_impl_Fs_links_1 n R
theorem r_impl_Fs_links_1 {R : Type} (N n : Nat) (k_1 : Nat) (e_2 : List V) (f_3 : Fl) (x_4 : Int) (e_6 : List V) (f_7 : Fl) (x_8 : Int) (x_5 : Int) (e_9 : List V) (K : X → List V → S → Option R) :
  it_impl_Fs_links_1 N (n + 1) (fr_impl_Fs_links_1 k_1 e_2 f_3 x_4 e_6 f_7 x_8 x_5 e_9) [some ⟨[.agg [.list 7 e_6 f_7, .int .i64 x_8]], 2, 32, 0⟩, some ⟨e_9, 1, 3, 0⟩] K =
  l_impl_Fs_links_1_step N k_1 e_2 f_3 x_4 e_6 f_7 x_8 (fun x_5 e_9 => it_impl_Fs_links_1 N n (fr_impl_Fs_links_1 k_1 e_2 f_3 x_4 e_6 f_7 x_8 x_5 e_9) [some ⟨[.agg [.list 7 e_6 f_7, .int .i64 x_8]], 2, 32, 0⟩, some ⟨e_9, 1, 3, 0⟩] K) x_5 e_9 (kk0_impl_Fs_links_1 K k_1 e_2 f_3 x_4 e_6 f_7 x_8) := by kernel_rfl
theorem w_impl_Fs_links_1 {R : Type} (N : Nat) (k_1 : Nat) (e_2 : List V) (f_3 : Fl) (x_4 : Int) (e_6 : List V) (f_7 : Fl) (x_8 : Int) (K : X → List V → S → Option R) : ∀ (n : Nat) (x_5 : Int) (e_9 : List V),
  it_impl_Fs_links_1 N n (fr_impl_Fs_links_1 k_1 e_2 f_3 x_4 e_6 f_7 x_8 x_5 e_9) [some ⟨[.agg [.list 7 e_6 f_7, .int .i64 x_8]], 2, 32, 0⟩, some ⟨e_9, 1, 3, 0⟩] K = l_impl_Fs_links_1 N k_1 e_2 f_3 x_4 e_6 f_7 x_8 (kk0_impl_Fs_links_1 K k_1 e_2 f_3 x_4 e_6 f_7 x_8) n x_5 e_9
  | 0, _, _ => rfl
  | n + 1, x_5, e_9 => (r_impl_Fs_links_1 N n k_1 e_2 f_3 x_4 e_6 f_7 x_8 x_5 e_9 K).trans (congrArg (fun nx => l_impl_Fs_links_1_step N k_1 e_2 f_3 x_4 e_6 f_7 x_8 nx x_5 e_9 (kk0_impl_Fs_links_1 K k_1 e_2 f_3 x_4 e_6 f_7 x_8)) (funext fun x_5 => funext fun e_9 => w_impl_Fs_links_1 N k_1 e_2 f_3 x_4 e_6 f_7 x_8 K n x_5 e_9))
def i_impl_Fs_links_1 {R : Type} (E : List V) (s : S) (k : Nat → List V → Fl → Int → Int → List V → Fl → Int → List V → Option R) : Option R :=
  guardB (frameOk 36 [3, 13, 14, 15] E) <| must (nth E 3) fun u3 => asArr u3 fun k'1 k'2 k'3 k_1 => isN k'1 1 <| isN k'2 0 <| isN k'3 0 <| atList E 13 7 fun e_2 f_3 => atInt E 14 .i64 fun x_4 => atInt E 15 .i64 fun x_5 => asOb s fun o'4 s'5 => obIs o'4 2 32 fun e'6 k'7 => isN k'7 0 <| asN1 e'6 fun v'8 => asAgg v'8 fun c'9 => asN2 c'9 fun v'10 v'11 => asList 7 v'10 fun e_6 f_7 => asInt .i64 v'11 fun x_8 => asOb s'5 fun o'12 s'13 => obIs o'12 1 3 fun e_9 k'14 => isN k'14 0 <| asEnd s'13 <| k k_1 e_2 f_3 x_4 x_5 e_6 f_7 x_8 e_9
theorem i_impl_Fs_links_1_spec {R : Type} {E : List V} {s : S} {k : Nat → List V → Fl → Int → Int → List V → Fl → Int → List V → Option R} {r : R} (h : i_impl_Fs_links_1 E s k = some r) : ∃ k_1 e_2 f_3 x_4 x_5 e_6 f_7 x_8 e_9, E = fr_impl_Fs_links_1 k_1 e_2 f_3 x_4 e_6 f_7 x_8 x_5 e_9 ∧ s = [some ⟨[.agg [.list 7 e_6 f_7, .int .i64 x_8]], 2, 32, 0⟩, some ⟨e_9, 1, 3, 0⟩] ∧ k k_1 e_2 f_3 x_4 x_5 e_6 f_7 x_8 e_9 = some r := by
  unfold i_impl_Fs_links_1 at h
  obtain ⟨hg, h1⟩ := guardB_some h
  obtain ⟨_, hu3, h2⟩ := must_some h1
  obtain ⟨_, _, _, _, rfl, h3⟩ := asArr_some h2
  obtain ⟨rfl, h4⟩ := isN_some h3
  obtain ⟨rfl, h5⟩ := isN_some h4
  obtain ⟨rfl, h6⟩ := isN_some h5
  obtain ⟨_, _, hu13, h7⟩ := atList_some h6
  obtain ⟨_, hu14, h8⟩ := atInt_some h7
  obtain ⟨_, hu15, h9⟩ := atInt_some h8
  obtain ⟨_, _, rfl, h10⟩ := asOb_some h9
  obtain ⟨_, _, rfl, h11⟩ := obIs_some h10
  obtain ⟨rfl, h12⟩ := isN_some h11
  obtain ⟨_, rfl, h13⟩ := asN1_some h12
  obtain ⟨_, rfl, h14⟩ := asAgg_some h13
  obtain ⟨_, _, rfl, h15⟩ := asN2_some h14
  obtain ⟨_, _, rfl, h16⟩ := asList_some h15
  obtain ⟨_, rfl, h17⟩ := asInt_some h16
  obtain ⟨_, _, rfl, h18⟩ := asOb_some h17
  obtain ⟨_, _, rfl, h19⟩ := obIs_some h18
  obtain ⟨rfl, h20⟩ := isN_some h19
  obtain ⟨rfl, h21⟩ := asEnd_some h20
  exact ⟨_, _, _, _, _, _, _, _, _, frame_is hg rfl (slots_cons hu3 (slots_cons hu13 (slots_cons hu14 (slots_cons hu15 slots_nil)))), rfl, h21⟩
noncomputable def Λ_impl_Fs_links_1 (N : Nat) : Looper := (Λ_impl_Fs_links_0 N).add [0, 1, 0, 1, 1] fun _ E s K => i_impl_Fs_links_1 (killE ks_impl_Fs_links_1 E) s fun k_1 e_2 f_3 x_4 x_5 e_6 f_7 x_8 e_9 => l_impl_Fs_links_1 N k_1 e_2 f_3 x_4 e_6 f_7 x_8 (kk0_impl_Fs_links_1 K k_1 e_2 f_3 x_4 e_6 f_7 x_8) N x_5 e_9
theorem in_impl_Fs_links_1 : loopsAt b_impl_Fs_links_1 (0 :: [0, 1, 0, 1, 1]) = [([0, 1, 1, 0, 0, 1, 1, 0, 0, 1, 0, 1, 1], b_impl_Fs_links_0)] := by kernel_rfl
theorem ok_impl_Fs_links_1 {N : Nat} (hC : Ok Tryd.prog C) (hΦ : CalleeOk Tryd.prog C (Φ_spec_ReadFile N)) : LoopOk Tryd.prog C (Λ_impl_Fs_links_1 N) b_impl_Fs_links_1 [0, 1, 0, 1, 1] :=
  iter_ok (Λi := Λ_impl_Fs_links_0 N) (tr := true) (ks := ks_impl_Fs_links_1) (kx := kx_impl_Fs_links_1) (N := N) hC hΦ
    (loopsOk_of b_impl_Fs_links_1 _ (by
      rw [in_impl_Fs_links_1]
      intro p hp
      simp only [List.mem_cons, List.mem_nil_iff, or_false] at hp
      rcases hp with rfl
      · exact (ok_impl_Fs_links_0 hC hΦ)))
    fun R E s K r h => by
      have h2 := Looper.add_self.symm.trans h
      obtain ⟨_, _, _, _, _, _, _, _, _, he, rfl, h3⟩ := i_impl_Fs_links_1_spec h2
      rw [he]
      exact (w_impl_Fs_links_1 N _ _ _ _ _ _ _ _ N _ _).trans h3
theorem at_impl_Fs_links : loopsAt c_impl_Fs_links [] = [([0, 1, 0, 1, 1], b_impl_Fs_links_1)] := by kernel_rfl
theorem b_impl_Fs_links {R : Type} (N : Nat) (e_1 : List V) (f_2 : Fl) (x_3 : Int) (K : V → S → Option R) : bodyV C (Φ_spec_ReadFile N) (Λ_impl_Fs_links_1 N) 30 Tryd.f30 [.agg [.list 7 e_1 f_2, .int .i64 x_3]] [] K =
  gb_impl_Fs_links N e_1 f_2 x_3 (fun e_4 => K (.list 1 e_4 .sh) []) := by kernel_rfl
theorem loops_impl_Fs_links {N : Nat} (hC : Ok Tryd.prog C) (hΦ : CalleeOk Tryd.prog C (Φ_spec_ReadFile N)) : LoopsOk Tryd.prog C (Λ_impl_Fs_links_1 N) c_impl_Fs_links [] :=
  loopsOk_of c_impl_Fs_links [] (by
    rw [at_impl_Fs_links]
    intro p hp
    simp only [List.mem_cons, List.mem_nil_iff, or_false] at hp
    rcases hp with rfl
    · exact (ok_impl_Fs_links_1 hC hΦ))
theorem callee_impl_Fs_links (hC : Ok Tryd.prog C) {N : Nat} (hΦ : CalleeOk Tryd.prog C (Φ_spec_ReadFile N)) : CalleeOk Tryd.prog C (Φ_impl_Fs_links N) := by
  refine hΦ.add_pure rfl fun R vs K r h => ?_
  unfold f_impl_Fs_links at h
  obtain ⟨_, rfl, h1⟩ := asN1_some h
  obtain ⟨_, _, _, rfl, h2⟩ := un_impl_Fs_some h1
  obtain ⟨_, h3⟩ := asEnd_some h2
  refine body_pure (fn := Tryd.f30) (c := c_impl_Fs_links) hC hΦ Tryd.func30 (by kernel_rfl) (by kernel_rfl) (loops_impl_Fs_links (N := N) hC hΦ) rfl rfl ?_
  refine (b_impl_Fs_links N _ _ _ _).trans ?_
  rw [← g_impl_Fs_links_eq]
  exact h3

/-! ### loop.example/g00756/impl.within -/
noncomputable def f_impl_within (N : Nat) : (R : Type) → List V → S → (V → S → Option R) → Option R := fun _ vs s K =>
  asN3 vs fun v'1 v'2 v'3 => asInt .i64 v'1 fun x_1 => asInt .i64 v'2 fun x_2 => asInt .i64 v'3 fun x_3 => asEnd s <| g_impl_within N x_1 x_2 x_3 (fun b_4 => K (.bool b_4) [])
noncomputable def Φ_impl_within (N : Nat) : Callee := (Φ_impl_Fs_links N).add 62 (f_impl_within N)
noncomputable def c_impl_within : Code := bodyOf Tryd.f62
theorem b_impl_within {R : Type} (N : Nat) (x_1 x_2 x_3 : Int) (K : V → S → Option R) : bodyV C (Φ_impl_Fs_links N) (noLooper) 62 Tryd.f62 [.int .i64 x_1, .int .i64 x_2, .int .i64 x_3] [] K =
  gb_impl_within N x_1 x_2 x_3 (fun b_4 => K (.bool b_4) []) := by kernel_rfl
theorem callee_impl_within (hC : Ok Tryd.prog C) {N : Nat} (hΦ : CalleeOk Tryd.prog C (Φ_impl_Fs_links N)) : CalleeOk Tryd.prog C (Φ_impl_within N) := by
  refine hΦ.add_pure rfl fun R vs K r h => ?_
  unfold f_impl_within at h
  obtain ⟨_, _, _, rfl, h1⟩ := asN3_some h
  obtain ⟨_, rfl, h2⟩ := asInt_some h1
  obtain ⟨_, rfl, h3⟩ := asInt_some h2
  obtain ⟨_, rfl, h4⟩ := asInt_some h3
  obtain ⟨_, h5⟩ := asEnd_some h4
  refine body_pure (fn := Tryd.f62) (c := c_impl_within) hC hΦ Tryd.func62 (by kernel_rfl) (by kernel_rfl) (loopsOk_nil (Λ := noLooper) (by kernel_rfl)) rfl rfl ?_
  refine (b_impl_within N _ _ _ _).trans ?_
  rw [← g_impl_within_eq]
  exact h5

/-! ### loop.example/g00756/impl.isRoom -/
noncomputable def f_impl_isRoom (N : Nat) : (R : Type) → List V → S → (V → S → Option R) → Option R := fun _ vs s K =>
  asN1 vs fun v'1 => asInt .i64 v'1 fun x_1 => asEnd s <| g_impl_isRoom N x_1 (fun b_2 => K (.bool b_2) [])
noncomputable def Φ_impl_isRoom (N : Nat) : Callee := (Φ_impl_within N).add 63 (f_impl_isRoom N)
noncomputable def c_impl_isRoom : Code := bodyOf Tryd.f63
theorem b_impl_isRoom {R : Type} (N : Nat) (x_1 : Int) (K : V → S → Option R) : bodyV C (Φ_impl_within N) (noLooper) 63 Tryd.f63 [.int .i64 x_1] [] K =
  gb_impl_isRoom N x_1 (fun b_2 => K (.bool b_2) []) := by kernel_rfl
theorem callee_impl_isRoom (hC : Ok Tryd.prog C) {N : Nat} (hΦ : CalleeOk Tryd.prog C (Φ_impl_within N)) : CalleeOk Tryd.prog C (Φ_impl_isRoom N) := by
  refine hΦ.add_pure rfl fun R vs K r h => ?_
  unfold f_impl_isRoom at h
  obtain ⟨_, rfl, h1⟩ := asN1_some h
  obtain ⟨_, rfl, h2⟩ := asInt_some h1
  obtain ⟨_, h3⟩ := asEnd_some h2
  refine body_pure (fn := Tryd.f63) (c := c_impl_isRoom) hC hΦ Tryd.func63 (by kernel_rfl) (by kernel_rfl) (loopsOk_nil (Λ := noLooper) (by kernel_rfl)) rfl rfl ?_
  refine (b_impl_isRoom N _ _).trans ?_
  rw [← g_impl_isRoom_eq]
  exact h3

/-! ### loop.example/g00756/impl.isId -/
noncomputable def f_impl_isId (N : Nat) : (R : Type) → List V → S → (V → S → Option R) → Option R := fun _ vs s K =>
  asN1 vs fun v'1 => asInt .i64 v'1 fun x_1 => asEnd s <| g_impl_isId N x_1 (fun b_2 => K (.bool b_2) [])
noncomputable def Φ_impl_isId (N : Nat) : Callee := (Φ_impl_isRoom N).add 66 (f_impl_isId N)
noncomputable def c_impl_isId : Code := bodyOf Tryd.f66
theorem b_impl_isId {R : Type} (N : Nat) (x_1 : Int) (K : V → S → Option R) : bodyV C (Φ_impl_isRoom N) (noLooper) 66 Tryd.f66 [.int .i64 x_1] [] K =
  gb_impl_isId N x_1 (fun b_2 => K (.bool b_2) []) := by kernel_rfl
theorem callee_impl_isId (hC : Ok Tryd.prog C) {N : Nat} (hΦ : CalleeOk Tryd.prog C (Φ_impl_isRoom N)) : CalleeOk Tryd.prog C (Φ_impl_isId N) := by
  refine hΦ.add_pure rfl fun R vs K r h => ?_
  unfold f_impl_isId at h
  obtain ⟨_, rfl, h1⟩ := asN1_some h
  obtain ⟨_, rfl, h2⟩ := asInt_some h1
  obtain ⟨_, h3⟩ := asEnd_some h2
  refine body_pure (fn := Tryd.f66) (c := c_impl_isId) hC hΦ Tryd.func66 (by kernel_rfl) (by kernel_rfl) (loopsOk_nil (Λ := noLooper) (by kernel_rfl)) rfl rfl ?_
  refine (b_impl_isId N _ _).trans ?_
  rw [← g_impl_isId_eq]
  exact h3

/-! ### internal/bytealg.IndexByteString -/
noncomputable def f_byg_IndexByteString (N : Nat) : (R : Type) → List V → S → (V → S → Option R) → Option R := fun _ vs s K =>
  asN2 vs fun v'1 v'2 => asStr v'1 fun w_1 => asInt .u8 v'2 fun x_2 => asEnd s <| g_byg_IndexByteString N w_1 x_2 (fun x_3 => K (.int .i64 x_3) [])
noncomputable def Φ_byg_IndexByteString (N : Nat) : Callee := (Φ_impl_isId N).add 111 (f_byg_IndexByteString N)
theorem callee_byg_IndexByteString (hC : Ok Tryd.prog C) {N : Nat} (hΦ : CalleeOk Tryd.prog C (Φ_impl_isId N)) : CalleeOk Tryd.prog C (Φ_byg_IndexByteString N) := by
  refine hΦ.add_pure rfl fun R vs K r h => ?_
  unfold f_byg_IndexByteString at h
  obtain ⟨_, _, rfl, h1⟩ := asN2_some h
  obtain ⟨_, rfl, h2⟩ := asStr_some h1
  obtain ⟨_, rfl, h3⟩ := asInt_some h2
  obtain ⟨_, h4⟩ := asEnd_some h3
  rw [g_byg_IndexByteString_eq] at h4
  exact ⟨_, h4, indexByteString_pure Tryd.func111 (by kernel_rfl) (by kernel_rfl) (by kernel_rfl) (by kernel_rfl) _ _⟩

/-! ### internal/stringslite.IndexByte -/
noncomputable def f_sli_IndexByte (N : Nat) : (R : Type) → List V → S → (V → S → Option R) → Option R := fun _ vs s K =>
  asN2 vs fun v'1 v'2 => asStr v'1 fun w_1 => asInt .u8 v'2 fun x_2 => asEnd s <| g_sli_IndexByte N w_1 x_2 (fun x_3 => K (.int .i64 x_3) [])
noncomputable def Φ_sli_IndexByte (N : Nat) : Callee := (Φ_byg_IndexByteString N).add 107 (f_sli_IndexByte N)
noncomputable def c_sli_IndexByte : Code := bodyOf Tryd.f107
theorem b_sli_IndexByte {R : Type} (N : Nat) (w_1 : ByteArray) (x_2 : Int) (K : V → S → Option R) : bodyV C (Φ_byg_IndexByteString N) (noLooper) 107 Tryd.f107 [.str w_1, .int .u8 x_2] [] K =
  gb_sli_IndexByte N w_1 x_2 (fun x_3 => K (.int .i64 x_3) []) := by kernel_rfl
theorem callee_sli_IndexByte (hC : Ok Tryd.prog C) {N : Nat} (hΦ : CalleeOk Tryd.prog C (Φ_byg_IndexByteString N)) : CalleeOk Tryd.prog C (Φ_sli_IndexByte N) := by
  refine hΦ.add_pure rfl fun R vs K r h => ?_
  unfold f_sli_IndexByte at h
  obtain ⟨_, _, rfl, h1⟩ := asN2_some h
  obtain ⟨_, rfl, h2⟩ := asStr_some h1
  obtain ⟨_, rfl, h3⟩ := asInt_some h2
  obtain ⟨_, h4⟩ := asEnd_some h3
  refine body_pure (fn := Tryd.f107) (c := c_sli_IndexByte) hC hΦ Tryd.func107 (by kernel_rfl) (by kernel_rfl) (loopsOk_nil (Λ := noLooper) (by kernel_rfl)) rfl rfl ?_
  refine (b_sli_IndexByte N _ _ _).trans ?_
  rw [← g_sli_IndexByte_eq]
  exact h4

/-! ### internal/stringslite.Index -/
noncomputable def f_sli_Index (N : Nat) : (R : Type) → List V → S → (V → S → Option R) → Option R := fun _ vs s K =>
  asN2 vs fun v'1 v'2 => asStr v'1 fun w_1 => asStr v'2 fun w_2 => asEnd s <| g_sli_Index N w_1 w_2 (fun x_3 => K (.int .i64 x_3) [])
noncomputable def Φ_sli_Index (N : Nat) : Callee := (Φ_sli_IndexByte N).add 104 (f_sli_Index N)
noncomputable def c_sli_Index : Code := bodyOf Tryd.f104
noncomputable def b_sli_Index_x0_0_1_1_1_1_1_1_1_1 : Code := (loopNo c_sli_Index [] 0).2
theorem at_sli_Index : loopsAt c_sli_Index [] = [([0, 0, 1, 1, 1, 1, 1, 1, 1, 1], b_sli_Index_x0_0_1_1_1_1_1_1_1_1)] := by kernel_rfl
theorem b_sli_Index {R : Type} (N : Nat) (w_1 w_2 : ByteArray) (K : V → S → Option R) : bodyV C (Φ_sli_IndexByte N) (noLooper) 104 Tryd.f104 [.str w_1, .str w_2] [] K =
  gb_sli_Index N w_1 w_2 (fun x_3 => K (.int .i64 x_3) []) := by kernel_rfl
theorem loops_sli_Index {N : Nat} (hC : Ok Tryd.prog C) (hΦ : CalleeOk Tryd.prog C (Φ_sli_IndexByte N)) : LoopsOk Tryd.prog C (noLooper) c_sli_Index [] :=
  loopsOk_of c_sli_Index [] (by
    rw [at_sli_Index]
    intro p hp
    simp only [List.mem_cons, List.mem_nil_iff, or_false] at hp
    rcases hp with rfl
    · exact noLooper_ok)
theorem callee_sli_Index (hC : Ok Tryd.prog C) {N : Nat} (hΦ : CalleeOk Tryd.prog C (Φ_sli_IndexByte N)) : CalleeOk Tryd.prog C (Φ_sli_Index N) := by
  refine hΦ.add_pure rfl fun R vs K r h => ?_
  unfold f_sli_Index at h
  obtain ⟨_, _, rfl, h1⟩ := asN2_some h
  obtain ⟨_, rfl, h2⟩ := asStr_some h1
  obtain ⟨_, rfl, h3⟩ := asStr_some h2
  obtain ⟨_, h4⟩ := asEnd_some h3
  refine body_pure (fn := Tryd.f104) (c := c_sli_Index) hC hΦ Tryd.func104 (by kernel_rfl) (by kernel_rfl) (loops_sli_Index (N := N) hC hΦ) rfl rfl ?_
  refine (b_sli_Index N _ _ _).trans ?_
  rw [← g_sli_Index_eq]
  exact h4

/-! ### strings.Index -/
noncomputable def f_strings_Index (N : Nat) : (R : Type) → List V → S → (V → S → Option R) → Option R := fun _ vs s K =>
  asN2 vs fun v'1 v'2 => asStr v'1 fun w_1 => asStr v'2 fun w_2 => asEnd s <| g_strings_Index N w_1 w_2 (fun x_3 => K (.int .i64 x_3) [])
noncomputable def Φ_strings_Index (N : Nat) : Callee := (Φ_sli_Index N).add 97 (f_strings_Index N)
noncomputable def c_strings_Index : Code := bodyOf Tryd.f97
theorem b_strings_Index {R : Type} (N : Nat) (w_1 w_2 : ByteArray) (K : V → S → Option R) : bodyV C (Φ_sli_Index N) (noLooper) 97 Tryd.f97 [.str w_1, .str w_2] [] K =
  gb_strings_Index N w_1 w_2 (fun x_3 => K (.int .i64 x_3) []) := by kernel_rfl
theorem callee_strings_Index (hC : Ok Tryd.prog C) {N : Nat} (hΦ : CalleeOk Tryd.prog C (Φ_sli_Index N)) : CalleeOk Tryd.prog C (Φ_strings_Index N) := by
  refine hΦ.add_pure rfl fun R vs K r h => ?_
  unfold f_strings_Index at h
  obtain ⟨_, _, rfl, h1⟩ := asN2_some h
  obtain ⟨_, rfl, h2⟩ := asStr_some h1
  obtain ⟨_, rfl, h3⟩ := asStr_some h2
  obtain ⟨_, h4⟩ := asEnd_some h3
  refine body_pure (fn := Tryd.f97) (c := c_strings_Index) hC hΦ Tryd.func97 (by kernel_rfl) (by kernel_rfl) (loopsOk_nil (Λ := noLooper) (by kernel_rfl)) rfl rfl ?_
  refine (b_strings_Index N _ _ _).trans ?_
  rw [← g_strings_Index_eq]
  exact h4

/-! ### internal/bytealg.CountString -/
noncomputable def f_byg_CountString (N : Nat) : (R : Type) → List V → S → (V → S → Option R) → Option R := fun _ vs s K =>
  asN2 vs fun v'1 v'2 => asStr v'1 fun w_1 => asInt .u8 v'2 fun x_2 => asEnd s <| g_byg_CountString N w_1 x_2 (fun x_3 => K (.int .i64 x_3) [])
noncomputable def Φ_byg_CountString (N : Nat) : Callee := (Φ_strings_Index N).add 103 (f_byg_CountString N)
theorem callee_byg_CountString (hC : Ok Tryd.prog C) {N : Nat} (hΦ : CalleeOk Tryd.prog C (Φ_strings_Index N)) : CalleeOk Tryd.prog C (Φ_byg_CountString N) := by
  refine hΦ.add_pure rfl fun R vs K r h => ?_
  unfold f_byg_CountString at h
  obtain ⟨_, _, rfl, h1⟩ := asN2_some h
  obtain ⟨_, rfl, h2⟩ := asStr_some h1
  obtain ⟨_, rfl, h3⟩ := asInt_some h2
  obtain ⟨_, h4⟩ := asEnd_some h3
  rw [g_byg_CountString_eq] at h4
  exact ⟨_, h4, countString_pure Tryd.func103 (by kernel_rfl) (by kernel_rfl) (by kernel_rfl) (by kernel_rfl) _ _⟩

/-! ### strings.Count -/
noncomputable def f_strings_Count (N : Nat) : (R : Type) → List V → S → (V → S → Option R) → Option R := fun _ vs s K =>
  asN2 vs fun v'1 v'2 => asStr v'1 fun w_1 => asStr v'2 fun w_2 => asEnd s <| g_strings_Count N w_1 w_2 (fun x_3 => K (.int .i64 x_3) [])
noncomputable def Φ_strings_Count (N : Nat) : Callee := (Φ_byg_CountString N).add 96 (f_strings_Count N)
noncomputable def c_strings_Count : Code := bodyOf Tryd.f96
noncomputable def b_strings_Count_0 : Code := (loopNo c_strings_Count [] 0).2
def ks_strings_Count_0 : List Nat := butL 34 [0, 1, 5]
def kx_strings_Count_0 : List Nat := butL 34 [4]
def fr_strings_Count_0 (w_2 w_1 : ByteArray) (x_3 : Int) : List V := mkF 0 34 [(0, .str w_1), (1, .str w_2), (5, .int .i64 x_3)]
def kk0_strings_Count_0 {R : Type} (K : X → List V → S → Option R) (w_2 : ByteArray) : Int → Option R := (fun x_1' => K .ret (mkF 0 34 [(4, .int .i64 (x_1'))]) [])
noncomputable abbrev it_strings_Count_0 {R : Type} (N : Nat) : Nat → List V → S → (X → List V → S → Option R) → Option R := fun n => iter C (Φ_byg_CountString N) (noLooper) b_strings_Count_0 [0, 1, 1, 1, 1] false ks_strings_Count_0 kx_strings_Count_0 n R
theorem r_strings_Count_0 {R : Type} (N n : Nat) (w_2 : ByteArray) (w_1 : ByteArray) (x_3 : Int) (K : X → List V → S → Option R) :
  it_strings_Count_0 N (n + 1) (fr_strings_Count_0 w_2 w_1 x_3) [] K =
  l_strings_Count_0_step N w_2 (fun w_1 x_3 => it_strings_Count_0 N n (fr_strings_Count_0 w_2 w_1 x_3) [] K) w_1 x_3 (kk0_strings_Count_0 K w_2) := by kernel_rfl
theorem w_strings_Count_0 {R : Type} (N : Nat) (w_2 : ByteArray) (K : X → List V → S → Option R) : ∀ (n : Nat) (w_1 : ByteArray) (x_3 : Int),
  it_strings_Count_0 N n (fr_strings_Count_0 w_2 w_1 x_3) [] K = l_strings_Count_0 N w_2 (kk0_strings_Count_0 K w_2) n w_1 x_3
  | 0, _, _ => rfl
  | n + 1, w_1, x_3 => (r_strings_Count_0 N n w_2 w_1 x_3 K).trans (congrArg (fun nx => l_strings_Count_0_step N w_2 nx w_1 x_3 (kk0_strings_Count_0 K w_2)) (funext fun w_1 => funext fun x_3 => w_strings_Count_0 N w_2 K n w_1 x_3))
def i_strings_Count_0 {R : Type} (E : List V) (s : S) (k : ByteArray → ByteArray → Int → Option R) : Option R :=
  guardB (frameOk 34 [0, 1, 5] E) <| atStr E 0 fun w_1 => atStr E 1 fun w_2 => atInt E 5 .i64 fun x_3 => asEnd s <| k w_1 w_2 x_3
theorem i_strings_Count_0_spec {R : Type} {E : List V} {s : S} {k : ByteArray → ByteArray → Int → Option R} {r : R} (h : i_strings_Count_0 E s k = some r) : ∃ w_1 w_2 x_3, E = fr_strings_Count_0 w_2 w_1 x_3 ∧ s = [] ∧ k w_1 w_2 x_3 = some r := by
  unfold i_strings_Count_0 at h
  obtain ⟨hg, h1⟩ := guardB_some h
  obtain ⟨_, hu0, h2⟩ := atStr_some h1
  obtain ⟨_, hu1, h3⟩ := atStr_some h2
  obtain ⟨_, hu5, h4⟩ := atInt_some h3
  obtain ⟨rfl, h5⟩ := asEnd_some h4
  exact ⟨_, _, _, frame_is hg rfl (slots_cons hu0 (slots_cons hu1 (slots_cons hu5 slots_nil))), rfl, h5⟩
noncomputable def Λ_strings_Count_0 (N : Nat) : Looper := (noLooper).add [0, 1, 1, 1, 1] fun _ E s K => i_strings_Count_0 (killE ks_strings_Count_0 E) s fun w_1 w_2 x_3 => l_strings_Count_0 N w_2 (kk0_strings_Count_0 K w_2) N w_1 x_3
theorem ok_strings_Count_0 {N : Nat} (hC : Ok Tryd.prog C) (hΦ : CalleeOk Tryd.prog C (Φ_byg_CountString N)) : LoopOk Tryd.prog C (Λ_strings_Count_0 N) b_strings_Count_0 [0, 1, 1, 1, 1] :=
  iter_ok (Λi := noLooper) (tr := false) (ks := ks_strings_Count_0) (kx := kx_strings_Count_0) (N := N) hC hΦ
    (loopsOk_nil (by kernel_rfl))
    fun R E s K r h => by
      have h2 := Looper.add_self.symm.trans h
      obtain ⟨_, _, _, he, rfl, h3⟩ := i_strings_Count_0_spec h2
      rw [he]
      exact (w_strings_Count_0 N _ _ N _ _).trans h3
theorem at_strings_Count : loopsAt c_strings_Count [] = [([0, 1, 1, 1, 1], b_strings_Count_0)] := by kernel_rfl
theorem b_strings_Count {R : Type} (N : Nat) (w_1 w_2 : ByteArray) (K : V → S → Option R) : bodyV C (Φ_byg_CountString N) (Λ_strings_Count_0 N) 96 Tryd.f96 [.str w_1, .str w_2] [] K =
  gb_strings_Count N w_1 w_2 (fun x_3 => K (.int .i64 x_3) []) := by kernel_rfl
theorem loops_strings_Count {N : Nat} (hC : Ok Tryd.prog C) (hΦ : CalleeOk Tryd.prog C (Φ_byg_CountString N)) : LoopsOk Tryd.prog C (Λ_strings_Count_0 N) c_strings_Count [] :=
  loopsOk_of c_strings_Count [] (by
    rw [at_strings_Count]
    intro p hp
    simp only [List.mem_cons, List.mem_nil_iff, or_false] at hp
    rcases hp with rfl
    · exact (ok_strings_Count_0 hC hΦ))
theorem callee_strings_Count (hC : Ok Tryd.prog C) {N : Nat} (hΦ : CalleeOk Tryd.prog C (Φ_byg_CountString N)) : CalleeOk Tryd.prog C (Φ_strings_Count N) := by
  refine hΦ.add_pure rfl fun R vs K r h => ?_
  unfold f_strings_Count at h
  obtain ⟨_, _, rfl, h1⟩ := asN2_some h
  obtain ⟨_, rfl, h2⟩ := asStr_some h1
  obtain ⟨_, rfl, h3⟩ := asStr_some h2
  obtain ⟨_, h4⟩ := asEnd_some h3
  refine body_pure (fn := Tryd.f96) (c := c_strings_Count) hC hΦ Tryd.func96 (by kernel_rfl) (by kernel_rfl) (loops_strings_Count (N := N) hC hΦ) rfl rfl ?_
  refine (b_strings_Count N _ _ _).trans ?_
  rw [← g_strings_Count_eq]
  exact h4

/-! ### strings.genSplit -/
noncomputable def f_strings_genSplit (N : Nat) : (R : Type) → List V → S → (V → S → Option R) → Option R := fun _ vs s K =>
  asN4 vs fun v'1 v'2 v'3 v'4 => asStr v'1 fun w_1 => asStr v'2 fun w_2 => asInt .i64 v'3 fun x_3 => asInt .i64 v'4 fun x_4 => guardB (distinct []) <| guardB (okI 0 [] []) <| g_strings_genSplit N w_1 w_2 x_3 x_4 (fun e_901 => FK s [] rl K (.list 1 e_901 .sh) []) (fun k_902 e_903 => FK s [] rl K (.arr 0 0 0 k_902) [some ⟨e_903, 1, 9, 0⟩])
noncomputable def Φ_strings_genSplit (N : Nat) : Callee := (Φ_strings_Count N).add 89 (f_strings_genSplit N)
noncomputable def c_strings_genSplit : Code := bodyOf Tryd.f89
noncomputable def b_strings_genSplit_0 : Code := (loopNo c_strings_genSplit [] 0).2
def ks_strings_genSplit_0 : List Nat := butL 66 [0, 1, 2, 3, 9, 10]
def kx_strings_genSplit_0 : List Nat := butL 66 [0, 9, 10]
def fr_strings_genSplit_0 (w_2 : ByteArray) (x_3 x_4 : Int) (k_5 : Nat) (w_1 : ByteArray) (x_6 : Int) (e_7 : List V) : List V := mkF 0 66 [(0, .str w_1), (1, .str w_2), (2, .int .i64 x_3), (3, .int .i64 x_4), (9, .arr 0 0 0 k_5), (10, .int .i64 x_6)]
def kk0_strings_genSplit_0 {R : Type} (K : X → List V → S → Option R) (w_2 : ByteArray) (x_3 : Int) (x_4 : Int) (k_5 : Nat) : ByteArray → Int → List V → Option R := (fun w_1' x_2' e_3' => K (.exit 0) (mkF 0 66 [(0, .str (w_1')), (9, .arr 0 0 0 k_5), (10, .int .i64 (x_2'))]) [some ⟨e_3', 1, 9, 0⟩])
noncomputable abbrev it_strings_genSplit_0 {R : Type} (N : Nat) : Nat → List V → S → (X → List V → S → Option R) → Option R := fun n => iter C (Φ_strings_Count N) (noLooper) b_strings_genSplit_0 [0, 0, 1, 1, 1, 1, 1, 1, 1, 1] false ks_strings_genSplit_0 kx_strings_genSplit_0 n R
theorem r_strings_genSplit_0 {R : Type} (N n : Nat) (w_2 : ByteArray) (x_3 x_4 : Int) (k_5 : Nat) (w_1 : ByteArray) (x_6 : Int) (e_7 : List V) (K : X → List V → S → Option R) :
  it_strings_genSplit_0 N (n + 1) (fr_strings_genSplit_0 w_2 x_3 x_4 k_5 w_1 x_6 e_7) [some ⟨e_7, 1, 9, 0⟩] K =
  l_strings_genSplit_0_step N w_2 x_3 x_4 k_5 (fun w_1 x_6 e_7 => it_strings_genSplit_0 N n (fr_strings_genSplit_0 w_2 x_3 x_4 k_5 w_1 x_6 e_7) [some ⟨e_7, 1, 9, 0⟩] K) w_1 x_6 e_7 (kk0_strings_genSplit_0 K w_2 x_3 x_4 k_5) := by kernel_rfl
theorem w_strings_genSplit_0 {R : Type} (N : Nat) (w_2 : ByteArray) (x_3 x_4 : Int) (k_5 : Nat) (K : X → List V → S → Option R) : ∀ (n : Nat) (w_1 : ByteArray) (x_6 : Int) (e_7 : List V),
  it_strings_genSplit_0 N n (fr_strings_genSplit_0 w_2 x_3 x_4 k_5 w_1 x_6 e_7) [some ⟨e_7, 1, 9, 0⟩] K = l_strings_genSplit_0 N w_2 x_3 x_4 k_5 (kk0_strings_genSplit_0 K w_2 x_3 x_4 k_5) n w_1 x_6 e_7
  | 0, _, _, _ => rfl
  | n + 1, w_1, x_6, e_7 => (r_strings_genSplit_0 N n w_2 x_3 x_4 k_5 w_1 x_6 e_7 K).trans (congrArg (fun nx => l_strings_genSplit_0_step N w_2 x_3 x_4 k_5 nx w_1 x_6 e_7 (kk0_strings_genSplit_0 K w_2 x_3 x_4 k_5)) (funext fun w_1 => funext fun x_6 => funext fun e_7 => w_strings_genSplit_0 N w_2 x_3 x_4 k_5 K n w_1 x_6 e_7))
def i_strings_genSplit_0 {R : Type} (E : List V) (s : S) (k : ByteArray → ByteArray → Int → Int → Nat → Int → List V → Option R) : Option R :=
  guardB (frameOk 66 [0, 1, 2, 3, 9, 10] E) <| atStr E 0 fun w_1 => atStr E 1 fun w_2 => atInt E 2 .i64 fun x_3 => atInt E 3 .i64 fun x_4 => must (nth E 9) fun u9 => asArr u9 fun k'1 k'2 k'3 k_5 => isN k'1 0 <| isN k'2 0 <| isN k'3 0 <| atInt E 10 .i64 fun x_6 => asOb s fun o'4 s'5 => obIs o'4 1 9 fun e_7 k'6 => isN k'6 0 <| asEnd s'5 <| k w_1 w_2 x_3 x_4 k_5 x_6 e_7
theorem i_strings_genSplit_0_spec {R : Type} {E : List V} {s : S} {k : ByteArray → ByteArray → Int → Int → Nat → Int → List V → Option R} {r : R} (h : i_strings_genSplit_0 E s k = some r) : ∃ w_1 w_2 x_3 x_4 k_5 x_6 e_7, E = fr_strings_genSplit_0 w_2 x_3 x_4 k_5 w_1 x_6 e_7 ∧ s = [some ⟨e_7, 1, 9, 0⟩] ∧ k w_1 w_2 x_3 x_4 k_5 x_6 e_7 = some r := by
  unfold i_strings_genSplit_0 at h
  obtain ⟨hg, h1⟩ := guardB_some h
  obtain ⟨_, hu0, h2⟩ := atStr_some h1
  obtain ⟨_, hu1, h3⟩ := atStr_some h2
  obtain ⟨_, hu2, h4⟩ := atInt_some h3
  obtain ⟨_, hu3, h5⟩ := atInt_some h4
  obtain ⟨_, hu9, h6⟩ := must_some h5
  obtain ⟨_, _, _, _, rfl, h7⟩ := asArr_some h6
  obtain ⟨rfl, h8⟩ := isN_some h7
  obtain ⟨rfl, h9⟩ := isN_some h8
  obtain ⟨rfl, h10⟩ := isN_some h9
  obtain ⟨_, hu10, h11⟩ := atInt_some h10
  obtain ⟨_, _, rfl, h12⟩ := asOb_some h11
  obtain ⟨_, _, rfl, h13⟩ := obIs_some h12
  obtain ⟨rfl, h14⟩ := isN_some h13
  obtain ⟨rfl, h15⟩ := asEnd_some h14
  exact ⟨_, _, _, _, _, _, _, frame_is hg rfl (slots_cons hu0 (slots_cons hu1 (slots_cons hu2 (slots_cons hu3 (slots_cons hu9 (slots_cons hu10 slots_nil)))))), rfl, h15⟩
noncomputable def Λ_strings_genSplit_0 (N : Nat) : Looper := (noLooper).add [0, 0, 1, 1, 1, 1, 1, 1, 1, 1] fun _ E s K => i_strings_genSplit_0 (killE ks_strings_genSplit_0 E) s fun w_1 w_2 x_3 x_4 k_5 x_6 e_7 => l_strings_genSplit_0 N w_2 x_3 x_4 k_5 (kk0_strings_genSplit_0 K w_2 x_3 x_4 k_5) N w_1 x_6 e_7
theorem ok_strings_genSplit_0 {N : Nat} (hC : Ok Tryd.prog C) (hΦ : CalleeOk Tryd.prog C (Φ_strings_Count N)) : LoopOk Tryd.prog C (Λ_strings_genSplit_0 N) b_strings_genSplit_0 [0, 0, 1, 1, 1, 1, 1, 1, 1, 1] :=
  iter_ok (Λi := noLooper) (tr := false) (ks := ks_strings_genSplit_0) (kx := kx_strings_genSplit_0) (N := N) hC hΦ
    (loopsOk_nil (by kernel_rfl))
    fun R E s K r h => by
      have h2 := Looper.add_self.symm.trans h
      obtain ⟨_, _, _, _, _, _, _, he, rfl, h3⟩ := i_strings_genSplit_0_spec h2
      rw [he]
      exact (w_strings_genSplit_0 N _ _ _ _ _ N _ _ _).trans h3
theorem at_strings_genSplit : loopsAt c_strings_genSplit [] = [([0, 0, 1, 1, 1, 1, 1, 1, 1, 1], b_strings_genSplit_0)] := by kernel_rfl
theorem b_strings_genSplit {R : Type} (N : Nat) (w_1 w_2 : ByteArray) (x_3 x_4 : Int) (K : V → S → Option R) : bodyV C (Φ_strings_Count N) (Λ_strings_genSplit_0 N) 89 Tryd.f89 [.str w_1, .str w_2, .int .i64 x_3, .int .i64 x_4] [] (GK rl 0 K) =
  gb_strings_genSplit N w_1 w_2 x_3 x_4 (fun e_901 => K (.list 1 e_901 .sh) []) (fun k_902 e_903 => K (.arr 0 0 0 k_902) [some ⟨e_903, 1, 9, 0⟩]) := by kernel_rfl
theorem loops_strings_genSplit {N : Nat} (hC : Ok Tryd.prog C) (hΦ : CalleeOk Tryd.prog C (Φ_strings_Count N)) : LoopsOk Tryd.prog C (Λ_strings_genSplit_0 N) c_strings_genSplit [] :=
  loopsOk_of c_strings_genSplit [] (by
    rw [at_strings_genSplit]
    intro p hp
    simp only [List.mem_cons, List.mem_nil_iff, or_false] at hp
    rcases hp with rfl
    · exact (ok_strings_genSplit_0 hC hΦ))
theorem callee_strings_genSplit (hC : Ok Tryd.prog C) {N : Nat} (hΦ : CalleeOk Tryd.prog C (Φ_strings_Count N)) : CalleeOk Tryd.prog C (Φ_strings_genSplit N) := by
  refine hΦ.add_shared rfl fun R vs s K r h => ?_
  unfold f_strings_genSplit at h
  obtain ⟨_, _, _, _, rfl, h1⟩ := asN4_some h
  obtain ⟨w_1, rfl, h2⟩ := asStr_some h1
  obtain ⟨w_2, rfl, h3⟩ := asStr_some h2
  obtain ⟨x_3, rfl, h4⟩ := asInt_some h3
  obtain ⟨x_4, rfl, h5⟩ := asInt_some h4
  obtain ⟨hdist, h6⟩ := guardB_some h5
  obtain ⟨hin, h7⟩ := guardB_some h6
  refine frames_body (fn := Tryd.f89) (c := c_strings_genSplit) (os := []) (rl := rl) (bi := []) (s0 := []) (as0 := [.str w_1, .str w_2, .int .i64 x_3, .int .i64 x_4]) hC hΦ Tryd.func89 (by kernel_rfl) (by kernel_rfl) (loops_strings_genSplit (N := N) hC hΦ) rfl hdist trivial hin rfl rfl ?_
  refine (b_strings_genSplit N _ _ _ _ _).trans ?_
  rw [← g_strings_genSplit_eq]
  exact h7

/-! ### strings.Split -/
noncomputable def f_strings_Split (N : Nat) : (R : Type) → List V → S → (V → S → Option R) → Option R := fun _ vs s K =>
  asN2 vs fun v'1 v'2 => asStr v'1 fun w_1 => asStr v'2 fun w_2 => guardB (distinct []) <| guardB (okI 0 [] []) <| g_strings_Split N w_1 w_2 (fun e_901 => FK s [] rl K (.list 1 e_901 .sh) []) (fun k_902 e_903 => FK s [] rl K (.arr 0 0 0 k_902) [some ⟨e_903, 1, 9, 0⟩])
noncomputable def Φ_strings_Split (N : Nat) : Callee := (Φ_strings_genSplit N).add 70 (f_strings_Split N)
noncomputable def c_strings_Split : Code := bodyOf Tryd.f70
theorem b_strings_Split {R : Type} (N : Nat) (w_1 w_2 : ByteArray) (K : V → S → Option R) : bodyV C (Φ_strings_genSplit N) (noLooper) 70 Tryd.f70 [.str w_1, .str w_2] [] (GK rl 0 K) =
  gb_strings_Split N w_1 w_2 (fun e_901 => K (.list 1 e_901 .sh) []) (fun k_902 e_903 => K (.arr 0 0 0 k_902) [some ⟨e_903, 1, 9, 0⟩]) := by kernel_rfl
theorem callee_strings_Split (hC : Ok Tryd.prog C) {N : Nat} (hΦ : CalleeOk Tryd.prog C (Φ_strings_genSplit N)) : CalleeOk Tryd.prog C (Φ_strings_Split N) := by
  refine hΦ.add_shared rfl fun R vs s K r h => ?_
  unfold f_strings_Split at h
  obtain ⟨_, _, rfl, h1⟩ := asN2_some h
  obtain ⟨w_1, rfl, h2⟩ := asStr_some h1
  obtain ⟨w_2, rfl, h3⟩ := asStr_some h2
  obtain ⟨hdist, h4⟩ := guardB_some h3
  obtain ⟨hin, h5⟩ := guardB_some h4
  refine frames_body (fn := Tryd.f70) (c := c_strings_Split) (os := []) (rl := rl) (bi := []) (s0 := []) (as0 := [.str w_1, .str w_2]) hC hΦ Tryd.func70 (by kernel_rfl) (by kernel_rfl) (loopsOk_nil (Λ := noLooper) (by kernel_rfl)) rfl hdist trivial hin rfl rfl ?_
  refine (b_strings_Split N _ _ _).trans ?_
  rw [← g_strings_Split_eq]
  exact h5

/-! ### loop.example/g00756/impl.partsOf$1 -/
noncomputable def f_impl_partsOf_c1 (N : Nat) : (R : Type) → List V → S → (V → S → Option R) → Option R := fun _ vs s K =>
  asN1 vs fun v'1 => asStr v'1 fun w_1 => asEnd s <| g_impl_partsOf_c1 N w_1 (fun b_2 => K (.bool b_2) [])
noncomputable def Φ_impl_partsOf_c1 (N : Nat) : Callee := (Φ_strings_Split N).add 71 (f_impl_partsOf_c1 N)
noncomputable def c_impl_partsOf_c1 : Code := bodyOf Tryd.f71
theorem b_impl_partsOf_c1 {R : Type} (N : Nat) (w_1 : ByteArray) (K : V → S → Option R) : bodyV C (Φ_strings_Split N) (noLooper) 71 Tryd.f71 [.str w_1] [] K =
  gb_impl_partsOf_c1 N w_1 (fun b_2 => K (.bool b_2) []) := by kernel_rfl
theorem callee_impl_partsOf_c1 (hC : Ok Tryd.prog C) {N : Nat} (hΦ : CalleeOk Tryd.prog C (Φ_strings_Split N)) : CalleeOk Tryd.prog C (Φ_impl_partsOf_c1 N) := by
  refine hΦ.add_pure rfl fun R vs K r h => ?_
  unfold f_impl_partsOf_c1 at h
  obtain ⟨_, rfl, h1⟩ := asN1_some h
  obtain ⟨_, rfl, h2⟩ := asStr_some h1
  obtain ⟨_, h3⟩ := asEnd_some h2
  refine body_pure (fn := Tryd.f71) (c := c_impl_partsOf_c1) hC hΦ Tryd.func71 (by kernel_rfl) (by kernel_rfl) (loopsOk_nil (Λ := noLooper) (by kernel_rfl)) rfl rfl ?_
  refine (b_impl_partsOf_c1 N _ _).trans ?_
  rw [← g_impl_partsOf_c1_eq]
  exact h3

/-! ### slices.IndexFunc[[]string,string] -/
noncomputable def f_slIFp (N : Nat) : (R : Type) → List V → S → (V → S → Option R) → Option R := fun _ vs s K =>
  asN2 vs fun v'1 v'2 => asList 1 v'1 fun e_1 f_2 => asFn 71 v'2 fun c'3 => asN0 c'3 <| asEnd s <| g_slIFp N e_1 f_2 (fun x_3 => K (.int .i64 x_3) [])
noncomputable def Φ_slIFp (N : Nat) : Callee := (Φ_impl_partsOf_c1 N).addIf 88 (fun l => isFn 1 71 l) (f_slIFp N)
noncomputable def c_slIFp : Code := bodyOf Tryd.f88
noncomputable def b_slIFp_0 : Code := (loopNo c_slIFp [] 0).2
def ks_slIFp_0 : List Nat := butL 19 [0, 1, 7, 8]
def kx_slIFp_0 : List Nat := butL 19 [4]
def fr_slIFp_0 (e_1 : List V) (f_2 : Fl) (x_3 x_4 : Int) : List V := mkF 0 19 [(0, .list 1 e_1 f_2), (1, .fn 71 []), (7, .int .i64 x_3), (8, .int .i64 x_4)]
def kk0_slIFp_0 {R : Type} (K : X → List V → S → Option R) (e_1 : List V) (f_2 : Fl) (x_3 : Int) : Int → Option R := (fun x_1' => K .ret (mkF 0 19 [(4, .int .i64 (x_1'))]) [])
def kk1_slIFp_0 {R : Type} (K : X → List V → S → Option R) (e_1 : List V) (f_2 : Fl) (x_3 : Int) : Unit → Option R := (fun _ => K (.exit 0) (mkF 0 19 []) [])
noncomputable abbrev it_slIFp_0 {R : Type} (N : Nat) : Nat → List V → S → (X → List V → S → Option R) → Option R := fun n => iter C (Φ_impl_partsOf_c1 N) (noLooper) b_slIFp_0 [0, 1, 0, 1] false ks_slIFp_0 kx_slIFp_0 n R
theorem r_slIFp_0 {R : Type} (N n : Nat) (e_1 : List V) (f_2 : Fl) (x_3 : Int) (x_4 : Int) (K : X → List V → S → Option R) :
  it_slIFp_0 N (n + 1) (fr_slIFp_0 e_1 f_2 x_3 x_4) [] K =
  l_slIFp_0_step N e_1 f_2 x_3 (fun x_4 => it_slIFp_0 N n (fr_slIFp_0 e_1 f_2 x_3 x_4) [] K) x_4 (kk0_slIFp_0 K e_1 f_2 x_3) (kk1_slIFp_0 K e_1 f_2 x_3) := by kernel_rfl
theorem w_slIFp_0 {R : Type} (N : Nat) (e_1 : List V) (f_2 : Fl) (x_3 : Int) (K : X → List V → S → Option R) : ∀ (n : Nat) (x_4 : Int),
  it_slIFp_0 N n (fr_slIFp_0 e_1 f_2 x_3 x_4) [] K = l_slIFp_0 N e_1 f_2 x_3 (kk0_slIFp_0 K e_1 f_2 x_3) (kk1_slIFp_0 K e_1 f_2 x_3) n x_4
  | 0, _ => rfl
  | n + 1, x_4 => (r_slIFp_0 N n e_1 f_2 x_3 x_4 K).trans (congrArg (fun nx => l_slIFp_0_step N e_1 f_2 x_3 nx x_4 (kk0_slIFp_0 K e_1 f_2 x_3) (kk1_slIFp_0 K e_1 f_2 x_3)) (funext fun x_4 => w_slIFp_0 N e_1 f_2 x_3 K n x_4))
def i_slIFp_0 {R : Type} (E : List V) (s : S) (k : List V → Fl → Int → Int → Option R) : Option R :=
  guardB (frameOk 19 [0, 1, 7, 8] E) <| atList E 0 1 fun e_1 f_2 => must (nth E 1) fun u1 => asFn 71 u1 fun c'1 => asN0 c'1 <| atInt E 7 .i64 fun x_3 => atInt E 8 .i64 fun x_4 => asEnd s <| k e_1 f_2 x_3 x_4
theorem i_slIFp_0_spec {R : Type} {E : List V} {s : S} {k : List V → Fl → Int → Int → Option R} {r : R} (h : i_slIFp_0 E s k = some r) : ∃ e_1 f_2 x_3 x_4, E = fr_slIFp_0 e_1 f_2 x_3 x_4 ∧ s = [] ∧ k e_1 f_2 x_3 x_4 = some r := by
  unfold i_slIFp_0 at h
  obtain ⟨hg, h1⟩ := guardB_some h
  obtain ⟨_, _, hu0, h2⟩ := atList_some h1
  obtain ⟨_, hu1, h3⟩ := must_some h2
  obtain ⟨_, rfl, h4⟩ := asFn_some h3
  obtain ⟨rfl, h5⟩ := asN0_some h4
  obtain ⟨_, hu7, h6⟩ := atInt_some h5
  obtain ⟨_, hu8, h7⟩ := atInt_some h6
  obtain ⟨rfl, h8⟩ := asEnd_some h7
  exact ⟨_, _, _, _, frame_is hg rfl (slots_cons hu0 (slots_cons hu1 (slots_cons hu7 (slots_cons hu8 slots_nil)))), rfl, h8⟩
noncomputable def Λ_slIFp_0 (N : Nat) : Looper := (noLooper).add [0, 1, 0, 1] fun _ E s K => i_slIFp_0 (killE ks_slIFp_0 E) s fun e_1 f_2 x_3 x_4 => l_slIFp_0 N e_1 f_2 x_3 (kk0_slIFp_0 K e_1 f_2 x_3) (kk1_slIFp_0 K e_1 f_2 x_3) N x_4
theorem ok_slIFp_0 {N : Nat} (hC : Ok Tryd.prog C) (hΦ : CalleeOk Tryd.prog C (Φ_impl_partsOf_c1 N)) : LoopOk Tryd.prog C (Λ_slIFp_0 N) b_slIFp_0 [0, 1, 0, 1] :=
  iter_ok (Λi := noLooper) (tr := false) (ks := ks_slIFp_0) (kx := kx_slIFp_0) (N := N) hC hΦ
    (loopsOk_nil (by kernel_rfl))
    fun R E s K r h => by
      have h2 := Looper.add_self.symm.trans h
      obtain ⟨_, _, _, _, he, rfl, h3⟩ := i_slIFp_0_spec h2
      rw [he]
      exact (w_slIFp_0 N _ _ _ _ N _).trans h3
theorem at_slIFp : loopsAt c_slIFp [] = [([0, 1, 0, 1], b_slIFp_0)] := by kernel_rfl
theorem b_slIFp {R : Type} (N : Nat) (e_1 : List V) (f_2 : Fl) (K : V → S → Option R) : bodyV C (Φ_impl_partsOf_c1 N) (Λ_slIFp_0 N) 88 Tryd.f88 [.list 1 e_1 f_2, .fn 71 []] [] K =
  gb_slIFp N e_1 f_2 (fun x_3 => K (.int .i64 x_3) []) := by kernel_rfl
theorem loops_slIFp {N : Nat} (hC : Ok Tryd.prog C) (hΦ : CalleeOk Tryd.prog C (Φ_impl_partsOf_c1 N)) : LoopsOk Tryd.prog C (Λ_slIFp_0 N) c_slIFp [] :=
  loopsOk_of c_slIFp [] (by
    rw [at_slIFp]
    intro p hp
    simp only [List.mem_cons, List.mem_nil_iff, or_false] at hp
    rcases hp with rfl
    · exact (ok_slIFp_0 hC hΦ))
theorem callee_slIFp (hC : Ok Tryd.prog C) {N : Nat} (hΦ : CalleeOk Tryd.prog C (Φ_impl_partsOf_c1 N)) : CalleeOk Tryd.prog C (Φ_slIFp N) := by
  refine hΦ.addIf_pure rfl fun R vs K r h => ?_
  unfold f_slIFp at h
  obtain ⟨_, _, rfl, h1⟩ := asN2_some h
  obtain ⟨_, _, rfl, h2⟩ := asList_some h1
  obtain ⟨_, rfl, h3⟩ := asFn_some h2
  obtain ⟨rfl, h4⟩ := asN0_some h3
  obtain ⟨_, h5⟩ := asEnd_some h4
  refine body_pure (fn := Tryd.f88) (c := c_slIFp) hC hΦ Tryd.func88 (by kernel_rfl) (by kernel_rfl) (loops_slIFp (N := N) hC hΦ) rfl rfl ?_
  refine (b_slIFp N _ _ _).trans ?_
  rw [← g_slIFp_eq]
  exact h5

/-! ### slices.DeleteFunc[[]string,string] -/
noncomputable def f_slDFp (N : Nat) : (R : Type) → List V → S → (V → S → Option R) → Option R := fun _ vs s K =>
  asN2 vs fun v'1 v'2 => asArr v'1 fun o0 k'4 k'5 k_1 => isN k'4 0 <| isN k'5 0 <| asFn 71 v'2 fun c'6 => asN0 c'6 <| asAt s o0 0 fun o'7 => obIs o'7 1 9 fun e_2 k'9 => isN k'9 0 <| guardB (distinct [o0]) <| guardB (okI 1 [false] [some ⟨e_2, 1, 9, 0⟩]) <| g_slDFp N k_1 e_2 (fun k_901 e_902 => FK s [o0] rl K (.arr 0 0 0 k_901) [some ⟨e_902, 1, 9, 0⟩])
noncomputable def Φ_slDFp (N : Nat) : Callee := (Φ_slIFp N).addIf 69 (fun l => isFnC 1 71 l) (f_slDFp N)
noncomputable def c_slDFp : Code := bodyOf Tryd.f69
noncomputable def b_slDFp_0 : Code := (loopNo c_slDFp [] 0).2
def ks_slDFp_0 : List Nat := butL 42 [0, 1, 5, 6]
def kx_slDFp_0 : List Nat := butL 42 [0, 5]
def fr_slDFp_0 (k_1 : Nat) (x_2 x_3 : Int) (e_4 : List V) : List V := mkF 0 42 [(0, .arr 0 0 0 k_1), (1, .fn 71 []), (5, .int .i64 x_2), (6, .int .i64 x_3)]
def kk0_slDFp_0 {R : Type} (K : X → List V → S → Option R) (k_1 : Nat) : Int → List V → Option R := (fun x_1' e_2' => K (.exit 0) (mkF 0 42 [(0, .arr 0 0 0 k_1), (5, .int .i64 (x_1'))]) [some ⟨e_2', 1, 9, 0⟩])
noncomputable abbrev it_slDFp_0 {R : Type} (N : Nat) : Nat → List V → S → (X → List V → S → Option R) → Option R := fun n => iter C (Φ_slIFp N) (noLooper) b_slDFp_0 [0, 1, 0, 1, 1, 1] false ks_slDFp_0 kx_slDFp_0 n R
theorem r_slDFp_0 {R : Type} (N n : Nat) (k_1 : Nat) (x_2 x_3 : Int) (e_4 : List V) (K : X → List V → S → Option R) :
  it_slDFp_0 N (n + 1) (fr_slDFp_0 k_1 x_2 x_3 e_4) [some ⟨e_4, 1, 9, 0⟩] K =
  l_slDFp_0_step N k_1 (fun x_2 x_3 e_4 => it_slDFp_0 N n (fr_slDFp_0 k_1 x_2 x_3 e_4) [some ⟨e_4, 1, 9, 0⟩] K) x_2 x_3 e_4 (kk0_slDFp_0 K k_1) := by kernel_rfl
theorem w_slDFp_0 {R : Type} (N : Nat) (k_1 : Nat) (K : X → List V → S → Option R) : ∀ (n : Nat) (x_2 x_3 : Int) (e_4 : List V),
  it_slDFp_0 N n (fr_slDFp_0 k_1 x_2 x_3 e_4) [some ⟨e_4, 1, 9, 0⟩] K = l_slDFp_0 N k_1 (kk0_slDFp_0 K k_1) n x_2 x_3 e_4
  | 0, _, _, _ => rfl
  | n + 1, x_2, x_3, e_4 => (r_slDFp_0 N n k_1 x_2 x_3 e_4 K).trans (congrArg (fun nx => l_slDFp_0_step N k_1 nx x_2 x_3 e_4 (kk0_slDFp_0 K k_1)) (funext fun x_2 => funext fun x_3 => funext fun e_4 => w_slDFp_0 N k_1 K n x_2 x_3 e_4))
def i_slDFp_0 {R : Type} (E : List V) (s : S) (k : Nat → Int → Int → List V → Option R) : Option R :=
  guardB (frameOk 42 [0, 1, 5, 6] E) <| must (nth E 0) fun u0 => asArr u0 fun k'1 k'2 k'3 k_1 => isN k'1 0 <| isN k'2 0 <| isN k'3 0 <| must (nth E 1) fun u1 => asFn 71 u1 fun c'4 => asN0 c'4 <| atInt E 5 .i64 fun x_2 => atInt E 6 .i64 fun x_3 => asOb s fun o'5 s'6 => obIs o'5 1 9 fun e_4 k'7 => isN k'7 0 <| asEnd s'6 <| k k_1 x_2 x_3 e_4
theorem i_slDFp_0_spec {R : Type} {E : List V} {s : S} {k : Nat → Int → Int → List V → Option R} {r : R} (h : i_slDFp_0 E s k = some r) : ∃ k_1 x_2 x_3 e_4, E = fr_slDFp_0 k_1 x_2 x_3 e_4 ∧ s = [some ⟨e_4, 1, 9, 0⟩] ∧ k k_1 x_2 x_3 e_4 = some r := by
  unfold i_slDFp_0 at h
  obtain ⟨hg, h1⟩ := guardB_some h
  obtain ⟨_, hu0, h2⟩ := must_some h1
  obtain ⟨_, _, _, _, rfl, h3⟩ := asArr_some h2
  obtain ⟨rfl, h4⟩ := isN_some h3
  obtain ⟨rfl, h5⟩ := isN_some h4
  obtain ⟨rfl, h6⟩ := isN_some h5
  obtain ⟨_, hu1, h7⟩ := must_some h6
  obtain ⟨_, rfl, h8⟩ := asFn_some h7
  obtain ⟨rfl, h9⟩ := asN0_some h8
  obtain ⟨_, hu5, h10⟩ := atInt_some h9
  obtain ⟨_, hu6, h11⟩ := atInt_some h10
  obtain ⟨_, _, rfl, h12⟩ := asOb_some h11
  obtain ⟨_, _, rfl, h13⟩ := obIs_some h12
  obtain ⟨rfl, h14⟩ := isN_some h13
  obtain ⟨rfl, h15⟩ := asEnd_some h14
  exact ⟨_, _, _, _, frame_is hg rfl (slots_cons hu0 (slots_cons hu1 (slots_cons hu5 (slots_cons hu6 slots_nil)))), rfl, h15⟩
noncomputable def Λ_slDFp_0 (N : Nat) : Looper := (noLooper).add [0, 1, 0, 1, 1, 1] fun _ E s K => i_slDFp_0 (killE ks_slDFp_0 E) s fun k_1 x_2 x_3 e_4 => l_slDFp_0 N k_1 (kk0_slDFp_0 K k_1) N x_2 x_3 e_4
theorem ok_slDFp_0 {N : Nat} (hC : Ok Tryd.prog C) (hΦ : CalleeOk Tryd.prog C (Φ_slIFp N)) : LoopOk Tryd.prog C (Λ_slDFp_0 N) b_slDFp_0 [0, 1, 0, 1, 1, 1] :=
  iter_ok (Λi := noLooper) (tr := false) (ks := ks_slDFp_0) (kx := kx_slDFp_0) (N := N) hC hΦ
    (loopsOk_nil (by kernel_rfl))
    fun R E s K r h => by
      have h2 := Looper.add_self.symm.trans h
      obtain ⟨_, _, _, _, he, rfl, h3⟩ := i_slDFp_0_spec h2
      rw [he]
      exact (w_slDFp_0 N _ _ N _ _ _).trans h3
theorem at_slDFp : loopsAt c_slDFp [] = [([0, 1, 0, 1, 1, 1], b_slDFp_0)] := by kernel_rfl
theorem b_slDFp {R : Type} (N : Nat) (k_1 : Nat) (e_2 : List V) (K : V → S → Option R) : bodyV C (Φ_slIFp N) (Λ_slDFp_0 N) 69 Tryd.f69 [.arr 0 0 0 k_1, .fn 71 []] [some ⟨e_2, 1, 9, 0⟩] (GK rl 1 K) =
  gb_slDFp N k_1 e_2 (fun k_901 e_902 => K (.arr 0 0 0 k_901) [some ⟨e_902, 1, 9, 0⟩]) := by kernel_rfl
theorem loops_slDFp {N : Nat} (hC : Ok Tryd.prog C) (hΦ : CalleeOk Tryd.prog C (Φ_slIFp N)) : LoopsOk Tryd.prog C (Λ_slDFp_0 N) c_slDFp [] :=
  loopsOk_of c_slDFp [] (by
    rw [at_slDFp]
    intro p hp
    simp only [List.mem_cons, List.mem_nil_iff, or_false] at hp
    rcases hp with rfl
    · exact (ok_slDFp_0 hC hΦ))
theorem callee_slDFp (hC : Ok Tryd.prog C) {N : Nat} (hΦ : CalleeOk Tryd.prog C (Φ_slIFp N)) : CalleeOk Tryd.prog C (Φ_slDFp N) := by
  refine hΦ.addIf_shared rfl fun R vs s K r h => ?_
  unfold f_slDFp at h
  obtain ⟨_, _, rfl, h1⟩ := asN2_some h
  obtain ⟨o0, _, _, k_1, rfl, h2⟩ := asArr_some h1
  obtain ⟨rfl, h3⟩ := isN_some h2
  obtain ⟨rfl, h4⟩ := isN_some h3
  obtain ⟨_, rfl, h5⟩ := asFn_some h4
  obtain ⟨rfl, h6⟩ := asN0_some h5
  obtain ⟨_, hob0, h7⟩ := asAt_some h6
  obtain ⟨e_2, _, rfl, h8⟩ := obIs_some h7
  obtain ⟨rfl, h9⟩ := isN_some h8
  obtain ⟨hdist, h10⟩ := guardB_some h9
  obtain ⟨hin, h11⟩ := guardB_some h10
  refine frames_body (fn := Tryd.f69) (c := c_slDFp) (os := [o0]) (rl := rl) (bi := [false]) (s0 := [some ⟨e_2, 1, 9, 0⟩]) (as0 := [.arr 0 0 0 k_1, .fn 71 []]) hC hΦ Tryd.func69 (by kernel_rfl) (by kernel_rfl) (loops_slDFp (N := N) hC hΦ) rfl hdist ⟨⟨_, rfl, hob0⟩, trivial⟩ hin rfl rfl ?_
  refine (b_slDFp N _ _ _).trans ?_
  rw [← g_slDFp_eq]
  exact h11

/-! ### loop.example/g00756/impl.partsOf -/
noncomputable def f_impl_partsOf (N : Nat) : (R : Type) → List V → S → (V → S → Option R) → Option R := fun _ vs s K =>
  asN1 vs fun v'1 => asStr v'1 fun w_1 => asEnd s <| g_impl_partsOf N w_1 (fun e_2 => K (.list 1 e_2 .sh) [])
noncomputable def Φ_impl_partsOf (N : Nat) : Callee := (Φ_slDFp N).add 42 (f_impl_partsOf N)
noncomputable def c_impl_partsOf : Code := bodyOf Tryd.f42
theorem b_impl_partsOf {R : Type} (N : Nat) (w_1 : ByteArray) (K : V → S → Option R) : bodyV C (Φ_slDFp N) (noLooper) 42 Tryd.f42 [.str w_1] [] K =
  gb_impl_partsOf N w_1 (fun e_2 => K (.list 1 e_2 .sh) []) := by kernel_rfl
theorem callee_impl_partsOf (hC : Ok Tryd.prog C) {N : Nat} (hΦ : CalleeOk Tryd.prog C (Φ_slDFp N)) : CalleeOk Tryd.prog C (Φ_impl_partsOf N) := by
  refine hΦ.add_pure rfl fun R vs K r h => ?_
  unfold f_impl_partsOf at h
  obtain ⟨_, rfl, h1⟩ := asN1_some h
  obtain ⟨_, rfl, h2⟩ := asStr_some h1
  obtain ⟨_, h3⟩ := asEnd_some h2
  refine body_pure (fn := Tryd.f42) (c := c_impl_partsOf) hC hΦ Tryd.func42 (by kernel_rfl) (by kernel_rfl) (loopsOk_nil (Λ := noLooper) (by kernel_rfl)) rfl rfl ?_
  refine (b_impl_partsOf N _ _).trans ?_
  rw [← g_impl_partsOf_eq]
  exact h3

/-! ### loop.example/g00756/impl.isNameByte -/
noncomputable def f_impl_isNameByte (N : Nat) : (R : Type) → List V → S → (V → S → Option R) → Option R := fun _ vs s K =>
  asN1 vs fun v'1 => asInt .u8 v'1 fun x_1 => asEnd s <| g_impl_isNameByte N x_1 (fun b_2 => K (.bool b_2) [])
noncomputable def Φ_impl_isNameByte (N : Nat) : Callee := (Φ_impl_partsOf N).add 100 (f_impl_isNameByte N)
noncomputable def c_impl_isNameByte : Code := bodyOf Tryd.f100
theorem b_impl_isNameByte {R : Type} (N : Nat) (x_1 : Int) (K : V → S → Option R) : bodyV C (Φ_impl_partsOf N) (noLooper) 100 Tryd.f100 [.int .u8 x_1] [] K =
  gb_impl_isNameByte N x_1 (fun b_2 => K (.bool b_2) []) := by kernel_rfl
theorem callee_impl_isNameByte (hC : Ok Tryd.prog C) {N : Nat} (hΦ : CalleeOk Tryd.prog C (Φ_impl_partsOf N)) : CalleeOk Tryd.prog C (Φ_impl_isNameByte N) := by
  refine hΦ.add_pure rfl fun R vs K r h => ?_
  unfold f_impl_isNameByte at h
  obtain ⟨_, rfl, h1⟩ := asN1_some h
  obtain ⟨_, rfl, h2⟩ := asInt_some h1
  obtain ⟨_, h3⟩ := asEnd_some h2
  refine body_pure (fn := Tryd.f100) (c := c_impl_isNameByte) hC hΦ Tryd.func100 (by kernel_rfl) (by kernel_rfl) (loopsOk_nil (Λ := noLooper) (by kernel_rfl)) rfl rfl ?_
  refine (b_impl_isNameByte N _ _).trans ?_
  rw [← g_impl_isNameByte_eq]
  exact h3

/-! ### loop.example/g00756/impl.isPart$1 -/
noncomputable def f_impl_isPart_c1 (N : Nat) : (R : Type) → List V → S → (V → S → Option R) → Option R := fun _ vs s K =>
  asN1 vs fun v'1 => asInt .u8 v'1 fun x_1 => asEnd s <| g_impl_isPart_c1 N x_1 (fun b_2 => K (.bool b_2) [])
noncomputable def Φ_impl_isPart_c1 (N : Nat) : Callee := (Φ_impl_isNameByte N).add 99 (f_impl_isPart_c1 N)
noncomputable def c_impl_isPart_c1 : Code := bodyOf Tryd.f99
theorem b_impl_isPart_c1 {R : Type} (N : Nat) (x_1 : Int) (K : V → S → Option R) : bodyV C (Φ_impl_isNameByte N) (noLooper) 99 Tryd.f99 [.int .u8 x_1] [] K =
  gb_impl_isPart_c1 N x_1 (fun b_2 => K (.bool b_2) []) := by kernel_rfl
theorem callee_impl_isPart_c1 (hC : Ok Tryd.prog C) {N : Nat} (hΦ : CalleeOk Tryd.prog C (Φ_impl_isNameByte N)) : CalleeOk Tryd.prog C (Φ_impl_isPart_c1 N) := by
  refine hΦ.add_pure rfl fun R vs K r h => ?_
  unfold f_impl_isPart_c1 at h
  obtain ⟨_, rfl, h1⟩ := asN1_some h
  obtain ⟨_, rfl, h2⟩ := asInt_some h1
  obtain ⟨_, h3⟩ := asEnd_some h2
  refine body_pure (fn := Tryd.f99) (c := c_impl_isPart_c1) hC hΦ Tryd.func99 (by kernel_rfl) (by kernel_rfl) (loopsOk_nil (Λ := noLooper) (by kernel_rfl)) rfl rfl ?_
  refine (b_impl_isPart_c1 N _ _).trans ?_
  rw [← g_impl_isPart_c1_eq]
  exact h3

/-! ### slices.IndexFunc[[]byte,byte] -/
noncomputable def f_slIFb (N : Nat) : (R : Type) → List V → S → (V → S → Option R) → Option R := fun _ vs s K =>
  asN2 vs fun v'1 v'2 => asList 1 v'1 fun e_1 f_2 => asFn 99 v'2 fun c'3 => asN0 c'3 <| asEnd s <| g_slIFb N e_1 f_2 (fun x_3 => K (.int .i64 x_3) [])
noncomputable def Φ_slIFb (N : Nat) : Callee := (Φ_impl_isPart_c1 N).addIf 105 (fun l => isFn 1 99 l) (f_slIFb N)
noncomputable def c_slIFb : Code := bodyOf Tryd.f105
noncomputable def b_slIFb_0 : Code := (loopNo c_slIFb [] 0).2
def ks_slIFb_0 : List Nat := butL 19 [0, 1, 7, 8]
def kx_slIFb_0 : List Nat := butL 19 [4]
def fr_slIFb_0 (e_1 : List V) (f_2 : Fl) (x_3 x_4 : Int) : List V := mkF 0 19 [(0, .list 1 e_1 f_2), (1, .fn 99 []), (7, .int .i64 x_3), (8, .int .i64 x_4)]
def kk0_slIFb_0 {R : Type} (K : X → List V → S → Option R) (e_1 : List V) (f_2 : Fl) (x_3 : Int) : Int → Option R := (fun x_1' => K .ret (mkF 0 19 [(4, .int .i64 (x_1'))]) [])
def kk1_slIFb_0 {R : Type} (K : X → List V → S → Option R) (e_1 : List V) (f_2 : Fl) (x_3 : Int) : Unit → Option R := (fun _ => K (.exit 0) (mkF 0 19 []) [])
noncomputable abbrev it_slIFb_0 {R : Type} (N : Nat) : Nat → List V → S → (X → List V → S → Option R) → Option R := fun n => iter C (Φ_impl_isPart_c1 N) (noLooper) b_slIFb_0 [0, 1, 0, 1] false ks_slIFb_0 kx_slIFb_0 n R
theorem r_slIFb_0 {R : Type} (N n : Nat) (e_1 : List V) (f_2 : Fl) (x_3 : Int) (x_4 : Int) (K : X → List V → S → Option R) :
  it_slIFb_0 N (n + 1) (fr_slIFb_0 e_1 f_2 x_3 x_4) [] K =
  l_slIFb_0_step N e_1 f_2 x_3 (fun x_4 => it_slIFb_0 N n (fr_slIFb_0 e_1 f_2 x_3 x_4) [] K) x_4 (kk0_slIFb_0 K e_1 f_2 x_3) (kk1_slIFb_0 K e_1 f_2 x_3) := by kernel_rfl
theorem w_slIFb_0 {R : Type} (N : Nat) (e_1 : List V) (f_2 : Fl) (x_3 : Int) (K : X → List V → S → Option R) : ∀ (n : Nat) (x_4 : Int),
  it_slIFb_0 N n (fr_slIFb_0 e_1 f_2 x_3 x_4) [] K = l_slIFb_0 N e_1 f_2 x_3 (kk0_slIFb_0 K e_1 f_2 x_3) (kk1_slIFb_0 K e_1 f_2 x_3) n x_4
  | 0, _ => rfl
  | n + 1, x_4 => (r_slIFb_0 N n e_1 f_2 x_3 x_4 K).trans (congrArg (fun nx => l_slIFb_0_step N e_1 f_2 x_3 nx x_4 (kk0_slIFb_0 K e_1 f_2 x_3) (kk1_slIFb_0 K e_1 f_2 x_3)) (funext fun x_4 => w_slIFb_0 N e_1 f_2 x_3 K n x_4))
def i_slIFb_0 {R : Type} (E : List V) (s : S) (k : List V → Fl → Int → Int → Option R) : Option R :=
  guardB (frameOk 19 [0, 1, 7, 8] E) <| atList E 0 1 fun e_1 f_2 => must (nth E 1) fun u1 => asFn 99 u1 fun c'1 => asN0 c'1 <| atInt E 7 .i64 fun x_3 => atInt E 8 .i64 fun x_4 => asEnd s <| k e_1 f_2 x_3 x_4
theorem i_slIFb_0_spec {R : Type} {E : List V} {s : S} {k : List V → Fl → Int → Int → Option R} {r : R} (h : i_slIFb_0 E s k = some r) : ∃ e_1 f_2 x_3 x_4, E = fr_slIFb_0 e_1 f_2 x_3 x_4 ∧ s = [] ∧ k e_1 f_2 x_3 x_4 = some r := by
  unfold i_slIFb_0 at h
  obtain ⟨hg, h1⟩ := guardB_some h
  obtain ⟨_, _, hu0, h2⟩ := atList_some h1
  obtain ⟨_, hu1, h3⟩ := must_some h2
  obtain ⟨_, rfl, h4⟩ := asFn_some h3
  obtain ⟨rfl, h5⟩ := asN0_some h4
  obtain ⟨_, hu7, h6⟩ := atInt_some h5
  obtain ⟨_, hu8, h7⟩ := atInt_some h6
  obtain ⟨rfl, h8⟩ := asEnd_some h7
  exact ⟨_, _, _, _, frame_is hg rfl (slots_cons hu0 (slots_cons hu1 (slots_cons hu7 (slots_cons hu8 slots_nil)))), rfl, h8⟩
noncomputable def Λ_slIFb_0 (N : Nat) : Looper := (noLooper).add [0, 1, 0, 1] fun _ E s K => i_slIFb_0 (killE ks_slIFb_0 E) s fun e_1 f_2 x_3 x_4 => l_slIFb_0 N e_1 f_2 x_3 (kk0_slIFb_0 K e_1 f_2 x_3) (kk1_slIFb_0 K e_1 f_2 x_3) N x_4
theorem ok_slIFb_0 {N : Nat} (hC : Ok Tryd.prog C) (hΦ : CalleeOk Tryd.prog C (Φ_impl_isPart_c1 N)) : LoopOk Tryd.prog C (Λ_slIFb_0 N) b_slIFb_0 [0, 1, 0, 1] :=
  iter_ok (Λi := noLooper) (tr := false) (ks := ks_slIFb_0) (kx := kx_slIFb_0) (N := N) hC hΦ
    (loopsOk_nil (by kernel_rfl))
    fun R E s K r h => by
      have h2 := Looper.add_self.symm.trans h
      obtain ⟨_, _, _, _, he, rfl, h3⟩ := i_slIFb_0_spec h2
      rw [he]
      exact (w_slIFb_0 N _ _ _ _ N _).trans h3
theorem at_slIFb : loopsAt c_slIFb [] = [([0, 1, 0, 1], b_slIFb_0)] := by kernel_rfl
theorem b_slIFb {R : Type} (N : Nat) (e_1 : List V) (f_2 : Fl) (K : V → S → Option R) : bodyV C (Φ_impl_isPart_c1 N) (Λ_slIFb_0 N) 105 Tryd.f105 [.list 1 e_1 f_2, .fn 99 []] [] K =
  gb_slIFb N e_1 f_2 (fun x_3 => K (.int .i64 x_3) []) := by kernel_rfl
theorem loops_slIFb {N : Nat} (hC : Ok Tryd.prog C) (hΦ : CalleeOk Tryd.prog C (Φ_impl_isPart_c1 N)) : LoopsOk Tryd.prog C (Λ_slIFb_0 N) c_slIFb [] :=
  loopsOk_of c_slIFb [] (by
    rw [at_slIFb]
    intro p hp
    simp only [List.mem_cons, List.mem_nil_iff, or_false] at hp
    rcases hp with rfl
    · exact (ok_slIFb_0 hC hΦ))
theorem callee_slIFb (hC : Ok Tryd.prog C) {N : Nat} (hΦ : CalleeOk Tryd.prog C (Φ_impl_isPart_c1 N)) : CalleeOk Tryd.prog C (Φ_slIFb N) := by
  refine hΦ.addIf_pure rfl fun R vs K r h => ?_
  unfold f_slIFb at h
  obtain ⟨_, _, rfl, h1⟩ := asN2_some h
  obtain ⟨_, _, rfl, h2⟩ := asList_some h1
  obtain ⟨_, rfl, h3⟩ := asFn_some h2
  obtain ⟨rfl, h4⟩ := asN0_some h3
  obtain ⟨_, h5⟩ := asEnd_some h4
  refine body_pure (fn := Tryd.f105) (c := c_slIFb) hC hΦ Tryd.func105 (by kernel_rfl) (by kernel_rfl) (loops_slIFb (N := N) hC hΦ) rfl rfl ?_
  refine (b_slIFb N _ _ _).trans ?_
  rw [← g_slIFb_eq]
  exact h5

/-! ### slices.ContainsFunc[[]byte,byte] -/
noncomputable def f_slCFb (N : Nat) : (R : Type) → List V → S → (V → S → Option R) → Option R := fun _ vs s K =>
  asN2 vs fun v'1 v'2 => asList 1 v'1 fun e_1 f_2 => asFn 99 v'2 fun c'3 => asN0 c'3 <| asEnd s <| g_slCFb N e_1 f_2 (fun b_3 => K (.bool b_3) [])
noncomputable def Φ_slCFb (N : Nat) : Callee := (Φ_slIFb N).addIf 98 (fun l => isFn 1 99 l) (f_slCFb N)
noncomputable def c_slCFb : Code := bodyOf Tryd.f98
theorem b_slCFb {R : Type} (N : Nat) (e_1 : List V) (f_2 : Fl) (K : V → S → Option R) : bodyV C (Φ_slIFb N) (noLooper) 98 Tryd.f98 [.list 1 e_1 f_2, .fn 99 []] [] K =
  gb_slCFb N e_1 f_2 (fun b_3 => K (.bool b_3) []) := by kernel_rfl
theorem callee_slCFb (hC : Ok Tryd.prog C) {N : Nat} (hΦ : CalleeOk Tryd.prog C (Φ_slIFb N)) : CalleeOk Tryd.prog C (Φ_slCFb N) := by
  refine hΦ.addIf_pure rfl fun R vs K r h => ?_
  unfold f_slCFb at h
  obtain ⟨_, _, rfl, h1⟩ := asN2_some h
  obtain ⟨_, _, rfl, h2⟩ := asList_some h1
  obtain ⟨_, rfl, h3⟩ := asFn_some h2
  obtain ⟨rfl, h4⟩ := asN0_some h3
  obtain ⟨_, h5⟩ := asEnd_some h4
  refine body_pure (fn := Tryd.f98) (c := c_slCFb) hC hΦ Tryd.func98 (by kernel_rfl) (by kernel_rfl) (loopsOk_nil (Λ := noLooper) (by kernel_rfl)) rfl rfl ?_
  refine (b_slCFb N _ _ _).trans ?_
  rw [← g_slCFb_eq]
  exact h5

/-! ### loop.example/g00756/impl.isPart -/
noncomputable def f_impl_isPart (N : Nat) : (R : Type) → List V → S → (V → S → Option R) → Option R := fun _ vs s K =>
  asN1 vs fun v'1 => asStr v'1 fun w_1 => asEnd s <| g_impl_isPart N w_1 (fun b_2 => K (.bool b_2) [])
noncomputable def Φ_impl_isPart (N : Nat) : Callee := (Φ_slCFb N).add 91 (f_impl_isPart N)
noncomputable def c_impl_isPart : Code := bodyOf Tryd.f91
theorem b_impl_isPart {R : Type} (N : Nat) (w_1 : ByteArray) (K : V → S → Option R) : bodyV C (Φ_slCFb N) (noLooper) 91 Tryd.f91 [.str w_1] [] K =
  gb_impl_isPart N w_1 (fun b_2 => K (.bool b_2) []) := by kernel_rfl
theorem callee_impl_isPart (hC : Ok Tryd.prog C) {N : Nat} (hΦ : CalleeOk Tryd.prog C (Φ_slCFb N)) : CalleeOk Tryd.prog C (Φ_impl_isPart N) := by
  refine hΦ.add_pure rfl fun R vs K r h => ?_
  unfold f_impl_isPart at h
  obtain ⟨_, rfl, h1⟩ := asN1_some h
  obtain ⟨_, rfl, h2⟩ := asStr_some h1
  obtain ⟨_, h3⟩ := asEnd_some h2
  refine body_pure (fn := Tryd.f91) (c := c_impl_isPart) hC hΦ Tryd.func91 (by kernel_rfl) (by kernel_rfl) (loopsOk_nil (Λ := noLooper) (by kernel_rfl)) rfl rfl ?_
  refine (b_impl_isPart N _ _).trans ?_
  rw [← g_impl_isPart_eq]
  exact h3

end Go.VM.VL
