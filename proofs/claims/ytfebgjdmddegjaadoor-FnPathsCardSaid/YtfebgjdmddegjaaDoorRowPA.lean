/- The row and the tied card of the law FnPaths: for every input it answers true and its arguments read as they did. -/
import Derived.Test.YtfebgjdmddegjaaDoorRows
import Derived.Test.YtfebgjdmddegjaaDoorCards
import Derived.Test.YtfebgjdmddegjaaDoorTie
import Derived.Test.YtfebgjdmddegjaaDoorVmZe
import Derived.Test.YtfebgjdmddegjaaDoorTFsP
import Derived.Test.YtfebgjdmddegjaaDoorXPam1
import Derived.WalkKit
import Derived.ProofKit
import Derived.OpenShut
import Derived.ShutString
import Derived.ChangeOld
import Derived.Below
import Derived.SizedLaws
import Derived.Handy
import Derived.Lay
import Derived.SevenTiedAt
import Derived.Lib.SmallJoins
namespace Go.Proofs.YtfebgjdmddegjaaDoor.fnPaths
open Go.ChangeShapes Go.WideShapes Go.ChangeAt Go.RowKit Go.Joins
open Go.VM
set_option linter.unusedVariables false
theorem own : ownKnob Tryd.prog.godebug = none := by kernel_rfl
theorem laidOut : laidOutB Tryd.prog = true := by kernel_rfl
theorem tab : Zxo Tryd.prog 9 = true := by kernel_rfl
theorem mx : Tryd.prog.follows .mixedOrders = true := by kernel_rfl
theorem okC : Ok Tryd.prog VL.C := Ok.of tab mx
abbrev ZwE : List (String × DataW Unit) := [("unicode/utf8.acceptRanges", Rows.laid_unicode_utf8_acceptRanges), ("unicode/utf8.first", Rows.laid_unicode_utf8_first)]
set_option maxRecDepth 100000 in
theorem lifted (os : Os) (started : os.Started) (H : Type) (enc : TypeId × Value → H) :
  ReturnsInHanded {} Tryd.checked os 3 .any (fun w args => (Rows.fnPathsSpec.pre enc Tryd.prog Tryd.f3 [] false w args ∧ laidMetH Tryd.prog ZwE w) ∧ sizedMet enc Tryd.prog Tryd.f3 (OpenSpec.ofChange Rows.fnPathsSpec) false w args)
   (Rows.fnPathsSpec.post enc Tryd.prog Tryd.f3 false true false false) := by
 refine returnsInHanded_of_change_and (C := Tryd.checked) (X := fun w _ => laidMetH Tryd.prog ZwE w) (fun _ _ _ hh h => h.of_heap hh) own started (by kernel_rfl) Tryd.func3
  (ChangeSpec.witness_shaped (enc := enc) (C := Tryd.checked) (os := os) (X := fun w _ => laidMetH Tryd.prog ZwE w) false (World.laidAll Tryd.prog os ZwE) #[.slice none 0 0, .slice none 0 0] 9 (World.laidAll_os _ _ _)
   (World.shaped_of_ZipB (by kernel_rfl) (by kernel_rfl)) (by kernel_rfl) (by kernel_rfl) (by kernel_rfl)
   (by rw [MakeChecks.laidMetH_plain _ _ _ (by kernel_rfl)]; exact laidMet_laidAll _ (by kernel_rfl) (by kernel_rfl))) ?_
 intro W base args ds gs before hval0 hW _ _ _ _
 have hval : ∀ (j : Nat) t v, Tryd.f3.params[j]? = some t → args[j]? = some v → Value.okWide Tryd.prog W .any base t v := hval0
 have hW' := hW
 obtain ⟨p, q, hA0, hV, rfl, hfz, hnd⟩ := hW
 have hA : DataW.TrodAll enc Tryd.prog W 0 (fun _ => true) true Tryd.f3.params.toList args.toList ds p := hA0
 rw [Tryd.params3] at hA hval
 obtain ⟨v0, vs0, d0, ds0, p0, q0, hargs, rfl, rfl, h0, r0⟩ := trodAll_cons hA
 obtain ⟨v1, vs1, d1, ds1, p1, q1, rfl, rfl, rfl, h1, r1⟩ := trodAll_cons r0
 obtain ⟨rfl, rfl, rfl⟩ := trodAll_nil r1
 obtain rfl : args = #[v0, v1] := by cases args; simp_all
 obtain ⟨rfl, rfl⟩ := trodVars_none hV
 obtain ⟨a0, len0, cap0, rfl⟩ := okWide_slice Tryd.underlying22 (hval 0 22 v0 rfl rfl)
 have lt0 : ∀ x ∈ p0, x.block < W.heap.size := by obtain ⟨m, hm⟩ := h0; exact DataW.trod_lt m _ _ _ hm
 obtain ⟨c0, f0, i0⟩ := ZpR (n := 9) (by simp [Value.cells]) (by kernel_rfl) h0
 obtain ⟨a1, len1, cap1, rfl⟩ := okWide_slice Tryd.underlying22 (hval 1 22 v1 rfl rfl)
 have lt1 : ∀ x ∈ p1, x.block < W.heap.size := by obtain ⟨m, hm⟩ := h1; exact DataW.trod_lt m _ _ _ hm
 obtain ⟨c1, f1, i1⟩ := ZpR (n := 9) (by simp [Value.cells]) (by kernel_rfl) h1
 obtain ⟨xs0, rfl, _, z0⟩ := Zkq Tryd.underlying22 Tryd.underlying5 (by kernel_rfl) f0
 obtain ⟨xs1, rfl, _, z1⟩ := Zkq Tryd.underlying22 Tryd.underlying5 (by kernel_rfl) f1
 have hΦ := VL.callee_zbx_prev okC 1048600
 refine (ZxH okC hΦ Tryd.func3 rfl (by kernel_rfl) (Zah (Λ := Zac) (by kernel_rfl)) rfl rfl ((VL.b_zbx 1048600 _ _ _ _ _).trans (VL.law_FnPaths 1048600 (VL.isBytes_of z0) (VL.isBytes_of z1) (by omega) _))
  (show ZiW W _ [_, _] from ⟨i0, i1, trivial⟩)).mono fun e W' ⟨he, bel⟩ => ?_
 subst he
 exact ⟨_, rfl, _, _, _, [], _, [], hW', trodAll_mk1 (shut_bool Tryd.underlying4 _), (trodAll_cons_mk (Below.trod laidOut (by kernel_rfl) (of_decide_eq_true (by kernel_rfl)) h0 bel lt0) (trodAll_cons_mk (Below.trod laidOut (by kernel_rfl) (of_decide_eq_true (by kernel_rfl)) h1 bel lt1) trodAll_mk0)), rfl, bel.frame _, fun h => by cases h⟩
theorem over : Rows.fnPathsRow.holds Tryd.pinned (OpenSpec.ofChange Rows.fnPathsSpec) :=
 OpenClaim.holds_of_wide 3 Tryd.f3 rfl rfl rfl rfl rfl rfl rfl ⟨rfl, rfl, rfl, rfl, rfl⟩ rfl rfl rfl rfl rfl (by kernel_rfl) Tryd.func3 (by kernel_rfl)
  (of_decide_eq_true (by kernel_rfl)) (by unfold Func.isWrapper; first | (rw [if_pos (by decide +kernel)]; kernel_rfl) | (rw [if_neg (by decide +kernel)]; exact ⟨rfl, rfl⟩))
  (fun os started H enc _ => lifted os started H enc)
theorem card : Rows.FnPathsCardSaid :=
 Claim7.holds_tied_plain_at .later [] [.data, .pinned] true (true, "1a4fa0b60c6c16facdaf767585b9da3b5b11599ff43306bc8dd807796fe5bf92") false over (fun _ h => by cases h) (by kernel_rfl) (fun _ h => by cases h) fnPaths_row_tie rfl ⟨rfl, rfl⟩ (by kernel_rfl) rfl
  (fun f fn hf hfn => by
   obtain rfl : f = 3 := Option.some.inj ((show Tryd.prog.funcNamed "loop.example/g00756/laws.FnPaths" = some 3 by kernel_rfl).symm.trans hf) |>.symm
   obtain rfl : fn = Tryd.f3 := (Option.some.inj (Tryd.func3.symm.trans hfn)).symm
   exact ⟨by kernel_rfl, fun j t ht => by
    rw [Tryd.params3] at ht
    have hm : t ∈ [22, 22] := by simpa using Array.mem_of_getElem? ht
    have hall : ([22, 22].all fun u => !Tryd.prog.wantsStandIn u) = true := by kernel_rfl
    exact (show Tryd.prog.wantsStandIn t = false by simpa using List.all_eq_true.1 hall t hm)⟩)
  (by kernel_rfl)
end Go.Proofs.YtfebgjdmddegjaaDoor.fnPaths
namespace Go.Proofs.YtfebgjdmddegjaaDoor
theorem fnPaths_holds : Rows.FnPathsCardSaid := fnPaths.card
#print axioms fnPaths_holds
end Go.Proofs.YtfebgjdmddegjaaDoor
