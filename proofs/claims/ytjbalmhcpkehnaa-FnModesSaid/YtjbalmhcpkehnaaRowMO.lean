/- The row of the law FnModes: for every input it answers true and its arguments read as they did. No condition. -/
import Derived.Test.YtjbalmhcpkehnaaRows
import Derived.Test.YtjbalmhcpkehnaaVmZc
import Derived.Test.YtjbalmhcpkehnaaTFsMo
import Derived.Test.YtjbalmhcpkehnaaXMm1
import Derived.Test.YtjbalmhcpkehnaaVmZe
import Derived.WalkKit
import Derived.ProofKit
import Derived.OpenShut
import Derived.ShutString
import Derived.ChangeOld
import Derived.Below
import Derived.SizedLaws
namespace Go.Proofs.Ytjbalmhcpkehnaa.fnModes
open Go.ChangeShapes Go.WideShapes Go.ChangeAt Go.RowKit
open Go.VM
set_option linter.unusedVariables false
theorem own : ownKnob Try.prog.godebug = none := by kernel_rfl
theorem laidOut : laidOutB Try.prog = true := by kernel_rfl
theorem tab : ZpK Try.prog 9 = true := by kernel_rfl
theorem mx : Try.prog.follows .mixedOrders = true := by kernel_rfl
theorem okC : Ok Try.prog VL.C := Ok.of tab mx
set_option maxRecDepth 100000 in
theorem lifted (os : Os) (started : os.Started) (H : Type) (enc : TypeId × Value → H) :
  ReturnsInHanded {} Try.checked os 3 .any (Rows.fnModesSpec.pre6 enc Try.prog Try.f3 Rows.fnModesRow.domain false) (Rows.fnModesSpec.post enc Try.prog Try.f3 false true false false) := by
 refine returnsInHanded_of_change_sized (C := Try.checked) own started (by kernel_rfl) Try.func3
  (ChangeSpec.witness6 (enc := enc) (C := Try.checked) false ⟨#[], #[.slice none 0 0, .slice none 0 0], []⟩ 8 (by kernel_rfl) (by kernel_rfl) (by kernel_rfl) (by kernel_rfl)) ?_
 intro W base args ds gs before hval0 hW hcnd hsz0 _
 have hval : ∀ (j : Nat) t v, Try.f3.params[j]? = some t → args[j]? = some v → Value.okWide Try.prog W .any base t v := hval0
 have hW' := hW
 obtain ⟨p, q, hA0, hV, rfl, hfz, hnd⟩ := hW
 have hA : DataW.TrodAll enc Try.prog W 0 (fun _ => true) true Try.f3.params.toList args.toList ds p := hA0
 rw [Try.params3] at hA hval
 obtain ⟨v0, vs0, d0, ds0, p0, q0, hargs, rfl, rfl, h0, r0⟩ := trodAll_cons hA
 obtain ⟨v1, vs1, d1, ds1, p1, q1, rfl, rfl, rfl, h1, r1⟩ := trodAll_cons r0
 obtain ⟨rfl, rfl, rfl⟩ := trodAll_nil r1
 obtain rfl : args = #[v0, v1] := by cases args; simp_all
 obtain ⟨rfl, rfl⟩ := trodVars_none hV
 obtain ⟨a0, len0, cap0, rfl⟩ := okWide_slice Try.underlying22 (hval 0 22 v0 rfl rfl)
 have lt0 : ∀ x ∈ p0, x.block < W.heap.size := by obtain ⟨m, hm⟩ := h0; exact DataW.trod_lt m _ _ _ hm
 obtain ⟨c0, f0, i0⟩ := Zkw (n := 9) (by simp [Value.cells]) (by kernel_rfl) h0
 obtain ⟨a1, len1, cap1, rfl⟩ := okWide_slice Try.underlying22 (hval 1 22 v1 rfl rfl)
 have lt1 : ∀ x ∈ p1, x.block < W.heap.size := by obtain ⟨m, hm⟩ := h1; exact DataW.trod_lt m _ _ _ hm
 obtain ⟨c1, f1, i1⟩ := Zkw (n := 9) (by simp [Value.cells]) (by kernel_rfl) h1
 obtain ⟨xs0, rfl, _, z0⟩ := ZiM Try.underlying22 Try.underlying5 (by kernel_rfl) f0
 obtain ⟨xs1, rfl, _, z1⟩ := ZiM Try.underlying22 Try.underlying5 (by kernel_rfl) f1
 have hΦ := VL.callee_zbg_prev okC 1048600
 refine (Zqn okC hΦ Try.func3 rfl (by kernel_rfl) (Zam (Λ := Zae) (by kernel_rfl)) rfl rfl ((VL.b_zbg 1048600 _ _ _ _ _).trans (VL.law_FnModes 1048600 (VL.isBytes_of z0) (VL.isBytes_of z1) (by omega) _))
  (show Zg1 W _ [_, _] from ⟨i0, i1, trivial⟩)).mono fun e W' ⟨he, bel⟩ => ?_
 subst he
 exact ⟨_, rfl, _, _, _, [], _, [], hW', trodAll_mk1 (shut_bool Try.underlying4 _), (trodAll_cons_mk (Below.trod laidOut (by kernel_rfl) (of_decide_eq_true (by kernel_rfl)) h0 bel lt0) (trodAll_cons_mk (Below.trod laidOut (by kernel_rfl) (of_decide_eq_true (by kernel_rfl)) h1 bel lt1) trodAll_mk0)), rfl, bel.frame _, fun h => by cases h⟩
theorem over : Rows.fnModesRow.holds Try.pinned (OpenSpec.ofChange Rows.fnModesSpec) :=
 OpenClaim.holds_of_wide 3 Try.f3 rfl rfl rfl rfl rfl rfl rfl ⟨rfl, rfl, rfl, rfl, rfl⟩ rfl rfl rfl rfl rfl (by kernel_rfl) Try.func3 (by kernel_rfl)
  (of_decide_eq_true (by kernel_rfl)) (by unfold Func.isWrapper; first | (rw [if_pos (by decide +kernel)]; kernel_rfl) | (rw [if_neg (by decide +kernel)]; exact ⟨rfl, rfl⟩))
  (fun os started H enc _ => lifted os started H enc)
end Go.Proofs.Ytjbalmhcpkehnaa.fnModes
namespace Go.Proofs.Ytjbalmhcpkehnaa
theorem fnModes_holds : Rows.FnModesSaid := fnModes.over
#print axioms fnModes_holds
end Go.Proofs.Ytjbalmhcpkehnaa
