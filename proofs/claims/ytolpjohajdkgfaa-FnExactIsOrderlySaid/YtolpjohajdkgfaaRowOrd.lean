/- The row of the law FnExactIsOrderly: for every input it answers true and its arguments read as they did. No condition. -/
import Derived.Test.YtolpjohajdkgfaaRows
import Derived.Test.YtolpjohajdkgfaaVmZe
import Derived.Test.YtolpjohajdkgfaaTOrdLaw
import Derived.WalkKit
import Derived.ProofKit
import Derived.OpenShut
import Derived.ShutString
import Derived.ChangeOld
import Derived.Below
import Derived.SizedLaws
namespace Go.Proofs.Ytolpjohajdkgfaa.fnExactIsOrderly
open Go.ChangeShapes Go.WideShapes Go.ChangeAt Go.RowKit
open Go.VM
set_option linter.unusedVariables false
theorem own : ownKnob Try.prog.godebug = none := by kernel_rfl
theorem laidOut : laidOutB Try.prog = true := by kernel_rfl
theorem tab : tabled Try.prog 6 = true := by kernel_rfl
theorem mx : Try.prog.follows .mixedOrders = true := by kernel_rfl
theorem okC : Ok Try.prog VL.C := Ok.of tab mx
theorem ev_parts (F : TypeId → List V → Prop) (ds : List V) {sz : TypeId → Nat} (h2 : ∀ fl ∈ [({ name := "Kind", type := 3, offset := 0, embedded := false, tag := "", pkgPath := "", byteOffset := 0 } : Field),
        { name := "Task", type := 3, offset := 1, embedded := false, tag := "", pkgPath := "", byteOffset := 8 },
        { name := "Worker", type := 3, offset := 2, embedded := false, tag := "", pkgPath := "", byteOffset := 16 }], F fl.type ((ds.drop fl.offset).take (sz fl.type))) : ∀ i, i < 3 → F 3 ((ds.drop i).take (sz 3)) := by
  intro i hi
  match i, hi with
  | 0, _ => exact h2 { name := "Kind", type := 3, offset := 0, embedded := false, tag := "", pkgPath := "", byteOffset := 0 } (List.mem_cons_self)
  | 1, _ => exact h2 { name := "Task", type := 3, offset := 1, embedded := false, tag := "", pkgPath := "", byteOffset := 8 } (List.mem_cons_of_mem _ List.mem_cons_self)
  | 2, _ => exact h2 { name := "Worker", type := 3, offset := 2, embedded := false, tag := "", pkgPath := "", byteOffset := 16 } (List.mem_cons_of_mem _ (List.mem_cons_of_mem _ List.mem_cons_self))
theorem size3 : Try.prog.cellsOf 3 = 1 := by kernel_rfl
theorem size106 : Try.prog.cellsOf 106 = 3 := by kernel_rfl
theorem ev_fits0 {P : Program} {n : Nat} (ds : List V) (s1 : P.cellsOf 3 = 1) (s2 : P.cellsOf 106 = 3) (u3 : P.underlying 3 = some (.int .i64)) (h1 : ds.length = P.cellsOf 106) (h2 : ∀ fl ∈ [({ name := "Kind", type := 3, offset := 0, embedded := false, tag := "", pkgPath := "", byteOffset := 0 } : Field),
        { name := "Task", type := 3, offset := 1, embedded := false, tag := "", pkgPath := "", byteOffset := 8 },
        { name := "Worker", type := 3, offset := 2, embedded := false, tag := "", pkgPath := "", byteOffset := 16 }], fits P (n + 1) fl.type ((ds.drop fl.offset).take (P.cellsOf fl.type))) :
    ∃ a : VL.Ev, V.agg ds = VL.evV a ∧ True := by
  have h3 := ev_parts (sz := P.cellsOf) (fits P (n + 1)) ds h2
  obtain ⟨a, ha, _⟩ := three_ints (P := P) (n := n) (k := .i64) (t := 3) (h1.trans s2) u3 s1 h3
  exact ⟨a, ha, trivial⟩
set_option maxRecDepth 100000 in
theorem ev_fits {n : Nat} (ds : List V) (h1 : ds.length = Try.prog.cellsOf 106) (h2 : ∀ fl ∈ [({ name := "Kind", type := 3, offset := 0, embedded := false, tag := "", pkgPath := "", byteOffset := 0 } : Field),
        { name := "Task", type := 3, offset := 1, embedded := false, tag := "", pkgPath := "", byteOffset := 8 },
        { name := "Worker", type := 3, offset := 2, embedded := false, tag := "", pkgPath := "", byteOffset := 16 }], fits Try.prog (n + 1) fl.type ((ds.drop fl.offset).take (Try.prog.cellsOf fl.type))) :
    ∃ a : VL.Ev, V.agg ds = VL.evV a ∧ True := by
  exact ev_fits0 (P := Try.prog) (n := n) ds size3 size106 Try.underlying3 h1 h2
set_option maxRecDepth 100000 in
theorem lifted (os : Os) (started : os.Started) (H : Type) (enc : TypeId × Value → H) :
    ReturnsInHanded {} Try.checked os 6 .any (Rows.fnExactIsOrderlySpec.pre6 enc Try.prog Try.f6 Rows.fnExactIsOrderlyRow.domain false) (Rows.fnExactIsOrderlySpec.post enc Try.prog Try.f6 false true false false) := by
  refine returnsInHanded_of_change_sized (C := Try.checked) own started (by kernel_rfl) Try.func6
    (ChangeSpec.witness6 (enc := enc) (C := Try.checked) false ⟨#[], #[.slice none 0 0, .slice none 0 0], []⟩ 8 (by kernel_rfl) (by kernel_rfl) (by kernel_rfl) (by kernel_rfl)) ?_
  intro W base args ds gs before hval0 hW hcnd hsz0 _
  have hval : ∀ (j : Nat) t v, Try.f6.params[j]? = some t → args[j]? = some v → Value.okWide Try.prog W .any base t v := hval0
  have hW' := hW
  obtain ⟨p, q, hA0, hV, rfl, hfz, hnd⟩ := hW
  have hA : DataW.TrodAll enc Try.prog W 0 (fun _ => true) true Try.f6.params.toList args.toList ds p := hA0
  rw [Try.params6] at hA hval
  obtain ⟨v0, vs0, d0, ds0, p0, q0, hargs, rfl, rfl, h0, r0⟩ := trodAll_cons hA
  obtain ⟨v1, vs1, d1, ds1, p1, q1, rfl, rfl, rfl, h1, r1⟩ := trodAll_cons r0
  obtain ⟨rfl, rfl, rfl⟩ := trodAll_nil r1
  obtain rfl : args = #[v0, v1] := by cases args; simp_all
  obtain ⟨rfl, rfl⟩ := trodVars_none hV
  obtain ⟨a0, len0, cap0, rfl⟩ := okWide_slice Try.underlying22 (hval 0 22 v0 rfl rfl)
  have lt0 : ∀ x ∈ p0, x.block < W.heap.size := by obtain ⟨m, hm⟩ := h0; exact DataW.trod_lt m _ _ _ hm
  obtain ⟨c0, f0, i0⟩ := open_arg (n := 6) (by simp [Value.cells]) (by kernel_rfl) h0
  obtain ⟨a1, len1, cap1, rfl⟩ := okWide_slice Try.underlying44 (hval 1 44 v1 rfl rfl)
  have lt1 : ∀ x ∈ p1, x.block < W.heap.size := by obtain ⟨m, hm⟩ := h1; exact DataW.trod_lt m _ _ _ hm
  obtain ⟨c1, f1, i1⟩ := open_arg (n := 6) (by simp [Value.cells]) (by kernel_rfl) h1
  obtain ⟨xs0, rfl, _, _⟩ := fits_ints Try.underlying22 Try.underlying3 (by kernel_rfl) f0
  obtain ⟨l1, rfl, z1, _⟩ := fits_structs (n := 4) Try.underlying44 Try.underlying106 (fun ds h1 h2 => ev_fits ds h1 h2) f1
  have hΦ := VL.callee_laws_FnExactIsOrderly_prev okC 1048600
  have e3 : Try.prog.cellsOf 106 = 3 := by kernel_rfl
  rw [e3] at i1
  have hl : l1.length ≤ 9223372036854775807 := z1
  refine (law_row okC hΦ Try.func6 rfl (by kernel_rfl) (VL.loops_laws_FnExactIsOrderly (N := 1048600) okC hΦ) rfl rfl ((VL.b_laws_FnExactIsOrderly 1048600 _ _ _ _ _).trans (VL.law_FnExactIsOrderly (ups := xs0) (l := l1) hl _ _ _))
    (show ArgsAre W _ [_, _] from ⟨i0, i1, trivial⟩)).mono fun e W' ⟨he, bel⟩ => ?_
  subst he
  exact ⟨_, rfl, _, _, _, [], _, [], hW', trodAll_mk1 (shut_bool Try.underlying4 _), (trodAll_cons_mk (Below.trod laidOut (by kernel_rfl) (of_decide_eq_true (by kernel_rfl)) h0 bel lt0) (trodAll_cons_mk (Below.trod laidOut (by kernel_rfl) (of_decide_eq_true (by kernel_rfl)) h1 bel lt1) trodAll_mk0)), rfl, bel.frame _, fun h => by cases h⟩
theorem over : Rows.fnExactIsOrderlyRow.holds Try.pinned (OpenSpec.ofChange Rows.fnExactIsOrderlySpec) :=
  OpenClaim.holds_of_wide 6 Try.f6 rfl rfl rfl rfl rfl rfl rfl ⟨rfl, rfl, rfl, rfl, rfl⟩ rfl rfl rfl rfl rfl (by kernel_rfl) Try.func6 (by kernel_rfl)
    (of_decide_eq_true (by kernel_rfl)) (by unfold Func.isWrapper; first | (rw [if_pos (by decide +kernel)]; kernel_rfl) | (rw [if_neg (by decide +kernel)]; exact ⟨rfl, rfl⟩))
    (fun os started H enc _ => lifted os started H enc)
end Go.Proofs.Ytolpjohajdkgfaa.fnExactIsOrderly
namespace Go.Proofs.Ytolpjohajdkgfaa
/-- The row, under a short name, for the claim. -/
theorem fnExactIsOrderly_holds : Rows.FnExactIsOrderlySaid := fnExactIsOrderly.over
#print axioms fnExactIsOrderly_holds
end Go.Proofs.Ytolpjohajdkgfaa
