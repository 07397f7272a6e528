/- The row of the law FnExactPopFrom: for every input it answers true and its arguments read as they did. No condition. -/
import Derived.Test.YtkchbabkbpcncaaRows
import Derived.Test.YtkchbabkbpcncaaVmY
import Derived.Test.YtkchbabkbpcncaaVmZk
import Derived.Test.YtkchbabkbpcncaaTPo
import Derived.Test.YtkchbabkbpcncaaZ1m1
import Derived.WalkKit
import Derived.ProofKit
import Derived.OpenShut
import Derived.ShutString
import Derived.ChangeOld
import Derived.Below
import Derived.SizedLaws
namespace Go.Proofs.Ytkchbabkbpcncaa.fnExactPopFrom
open Go.ChangeShapes Go.WideShapes Go.ChangeAt Go.RowKit
open Go.VM
set_option linter.unusedVariables false
theorem own:ownKnob Try.prog.godebug = none:=by kernel_rfl
theorem laidOut:laidOutB Try.prog = true:=by kernel_rfl
theorem tab:ZtF Try.prog 9 = true:=by kernel_rfl
theorem mx:Try.prog.follows .mixedOrders = true:=by kernel_rfl
theorem Zxm {P:Program} {C:Cfg} (h:Ok P C) (rl:TypeId → Bool):Ok P { C with rl:=rl }:=h.cfg (C:=C) (D:={ C with rl:=rl }) rfl
theorem okC:Ok Try.prog VL.C:=Zxm (Ok.of tab mx) VL.rl
theorem Ztc {P:Program} {n:Nat} (u22:P.underlying 22 = some (.slice 32)) (u32:P.underlying 32 = some (.slice 3)) (u3:P.underlying 3 = some (.int .i64)) (c32:P.cellsOf 32 = 1) (c3:P.cellsOf 3 = 1) {c:V} (h:Zjm P (n + 3) 22 [c]) :
  ∃ d:List (List Int),c = .list 1 (VL.rowsV .sh d) .sh ∧ VL.DkOk d:=by
 obtain ⟨es,rfl,hl,hel⟩:=Zhr u22 h
 obtain ⟨d,rfl,hq⟩:=Zj8 (f:=VL.rowV .sh) (q:=fun r:List Int=>r.length ≤ maxLen) (es:=es) fun el hm=>by
  obtain ⟨ds,rfl,hd⟩:=hel el hm
  have h1:∃ c',ds = [c']:=by
   unfold Zjm at hd
   rw [u32] at hd
   obtain ⟨es',h2,_⟩:=hd
   exact ⟨_,h2⟩
  obtain ⟨c',rfl⟩:=h1
  obtain ⟨xs,rfl,hx,_⟩:=Zp0 u32 u3 c3 hd
  exact ⟨xs,by simp [ZtV,u32,ZhJ,VL.rowV,VL.intsV],hx⟩
 refine ⟨d,by rw [c32]; rfl,(show d.length ≤ maxLen by simpa using hl),fun i hi=>?_⟩
 exact hq _ (VL.at_mem hi)
theorem c32:Try.prog.cellsOf 32 = 1:=by kernel_rfl
theorem c3:Try.prog.cellsOf 3 = 1:=by kernel_rfl
set_option maxRecDepth 100000 in
theorem lifted (os:Os) (started:os.Started) (H:Type) (enc:TypeId × Value → H) :
  ReturnsInHanded {} Try.checked os 3 .any (Rows.fnExactPopFromSpec.pre6 enc Try.prog Try.f3 Rows.fnExactPopFromRow.domain false) (Rows.fnExactPopFromSpec.post enc Try.prog Try.f3 false true false false):=by
 refine returnsInHanded_of_change_sized (C:=Try.checked) own started (by kernel_rfl) Try.func3
  (ChangeSpec.witness6 (enc:=enc) (C:=Try.checked) false ⟨#[],#[.slice none 0 0,.int .i64 0],[]⟩ 8 (by kernel_rfl) (by kernel_rfl) (by kernel_rfl) (by kernel_rfl)) ?_
 intro W base args ds gs before hval0 hW hcnd hsz0 _
 have hval:∀ (j:Nat) t v,Try.f3.params[j]? = some t → args[j]? = some v → Value.okWide Try.prog W .any base t v:=hval0
 have hW':=hW
 obtain ⟨p,q,hA0,hV,rfl,hfz,hnd⟩:=hW
 have hA:DataW.TrodAll enc Try.prog W 0 (fun _=>true) true Try.f3.params.toList args.toList ds p:=hA0
 rw [Try.params3] at hA hval
 obtain ⟨v0,vs0,d0,ds0,p0,q0,hargs,rfl,rfl,h0,r0⟩:=trodAll_cons hA
 obtain ⟨v1,vs1,d1,ds1,p1,q1,rfl,rfl,rfl,h1,r1⟩:=trodAll_cons r0
 obtain ⟨rfl,rfl,rfl⟩:=trodAll_nil r1
 obtain rfl:args = #[v0,v1]:=by cases args; simp_all
 obtain ⟨rfl,rfl⟩:=trodVars_none hV
 have lt0:∀ x ∈ p0,x.block < W.heap.size:=by obtain ⟨m,hm⟩:=h0; exact DataW.trod_lt m _ _ _ hm
 have lt1:∀ x ∈ p1,x.block < W.heap.size:=by obtain ⟨m,hm⟩:=h1; exact DataW.trod_lt m _ _ _ hm
 obtain ⟨a0,len0,cap0,rfl⟩:=okWide_slice Try.underlying22 (hval 0 22 v0 rfl rfl)
 obtain ⟨z1,rfl,_⟩:=okWide_int Try.underlying3 (hval 1 3 v1 rfl rfl)
 obtain ⟨c0,f0,i0⟩:=Zny (n:=9) (by simp [Value.cells]) (by kernel_rfl) h0
 obtain ⟨c1,f1,i1⟩:=Zny (n:=9) (by simp [Value.cells]) (by kernel_rfl) h1
 obtain ⟨d,rfl,hd⟩:=Ztc (n:=6) Try.underlying22 Try.underlying32 Try.underlying3 c32 c3 f0
 obtain ⟨x1,e1,_⟩:=Znx Try.underlying3 f1
 obtain rfl:=(List.cons.inj e1).1
 have hΦ:=VL.callee_zag_prev okC 1048600
 refine (Zut (okC.rowed false true none VL.inl_zag [] [] [] []) (hΦ.rowed false true none VL.inl_zag [] [] [] []) Try.func3 rfl (by kernel_rfl) (Zav (Λ:=Zam) (by kernel_rfl)) rfl rfl ((VL.b_zag 1048600 _ _ _ _).trans (VL.law_FnExactPopFrom hd _ _ _))
  (show Zi6 W _ [_,_] from ⟨i0,i1,trivial⟩)).mono fun e W' ⟨he,bel⟩=>?_
 subst he
 exact ⟨_,rfl,_,_,_,[],_,[],hW',trodAll_mk1 (shut_bool Try.underlying4 _),(trodAll_cons_mk (Below.trod laidOut (by kernel_rfl) (of_decide_eq_true (by kernel_rfl)) h0 bel lt0) (trodAll_cons_mk (Below.trod laidOut (by kernel_rfl) (of_decide_eq_true (by kernel_rfl)) h1 bel lt1) trodAll_mk0)),rfl,bel.frame _,fun h=>by cases h⟩
theorem over:Rows.fnExactPopFromRow.holds Try.pinned (OpenSpec.ofChange Rows.fnExactPopFromSpec) :=
 OpenClaim.holds_of_wide 3 Try.f3 rfl rfl rfl rfl rfl rfl rfl ⟨rfl,rfl,rfl,rfl,rfl⟩ rfl rfl rfl rfl rfl (by kernel_rfl) Try.func3 (by kernel_rfl)
  (of_decide_eq_true (by kernel_rfl)) (by unfold Func.isWrapper; first | (rw [if_pos (by decide +kernel)]; kernel_rfl) | (rw [if_neg (by decide +kernel)]; exact ⟨rfl,rfl⟩))
  (fun os started H enc _=>lifted os started H enc)
end Go.Proofs.Ytkchbabkbpcncaa.fnExactPopFrom
namespace Go.Proofs.Ytkchbabkbpcncaa
theorem fnExactPopFrom_holds:Rows.FnExactPopFromSaid:=fnExactPopFrom.over
#print axioms fnExactPopFrom_holds
end Go.Proofs.Ytkchbabkbpcncaa
