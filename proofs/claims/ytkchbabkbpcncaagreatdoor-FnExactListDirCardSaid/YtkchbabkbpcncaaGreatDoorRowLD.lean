/- The row and the tied card of the law FnExactListDir: for every input it answers true and its arguments read as they did. -/
import Derived.Test.YtkchbabkbpcncaaGreatDoorRows
import Derived.Test.YtkchbabkbpcncaaGreatDoorCards
import Derived.Test.YtkchbabkbpcncaaGreatDoorTie
import Derived.Test.YtkchbabkbpcncaaGreatDoorVmY
import Derived.Test.YtkchbabkbpcncaaGreatDoorTFsLD
import Derived.Test.YtkchbabkbpcncaaGreatDoorX1m2
import Derived.Test.YtkchbabkbpcncaaGreatDoorVmZk
import Derived.WalkKit
import Derived.ProofKit
import Derived.OpenShut
import Derived.ShutString
import Derived.ChangeOld
import Derived.Below
import Derived.SizedLaws
import Derived.Handy
import Derived.Lay
import Derived.SevenTiedAt
import Derived.Lib.SmallJoins
namespace Go.Proofs.YtkchbabkbpcncaaGreatDoor.fnExactListDir
open Go.ChangeShapes Go.WideShapes Go.ChangeAt Go.RowKit Go.Joins
open Go.VM
set_option linter.unusedVariables false
theorem own:ownKnob Tryz.prog.godebug = none:=by kernel_rfl
theorem laidOut:laidOutB Tryz.prog = true:=by kernel_rfl
theorem tab:ZKQ Tryz.prog 9 = true:=by kernel_rfl
theorem mx:Tryz.prog.follows .mixedOrders = true:=by kernel_rfl
theorem ZSN {P:Program} {C:Cfg} (h:Ok P C) (rl:TypeId → Bool):Ok P { C with rl:=rl }:=h.cfg (C:=C) (D:={ C with rl:=rl }) rfl
theorem okC:Ok Tryz.prog VL.C:=ZSN (Ok.of tab mx) VL.rl
theorem c24:Tryz.prog.cellsOf 24 = 2:=by kernel_rfl
theorem c26:Tryz.prog.cellsOf 26 = 2:=by kernel_rfl
theorem c22:Tryz.prog.cellsOf 22 = 1:=by kernel_rfl
theorem c61:Tryz.prog.cellsOf 61 = 7:=by kernel_rfl
theorem c59:Tryz.prog.cellsOf 59 = 1:=by kernel_rfl
theorem c99:Tryz.prog.cellsOf 99 = 2:=by kernel_rfl
theorem c9:Tryz.prog.cellsOf 9 = 1:=by kernel_rfl
theorem c3:Tryz.prog.cellsOf 3 = 1:=by kernel_rfl
theorem o24:Go.VM.opens Tryz.prog 9 24 = true:=by kernel_rfl
theorem o26:Go.VM.opens Tryz.prog 9 26 = true:=by kernel_rfl
theorem o9:Go.VM.opens Tryz.prog 9 9 = true:=by kernel_rfl
theorem o4:Go.VM.opens Tryz.prog 9 4 = true:=by kernel_rfl
abbrev ZIv : List (String × DataW Unit) := [("unicode/utf8.acceptRanges", Rows.laid_unicode_utf8_acceptRanges), ("unicode/utf8.first", Rows.laid_unicode_utf8_first)]
set_option maxRecDepth 100000 in
theorem ZPl {cs:List V} (h:Zfm Tryz.prog 9 24 cs):∃ (l:List VL.Nod) (room:Int),cs = [.list 7 (VL.nodsV .sh l) .sh,.int .i64 room] ∧ VL.FsOk l:=by
 obtain ⟨h1,h2⟩:=ZgP Tryz.underlying24 h
 exact VL.fs_of (n:=3) (h1.trans c24) (by rfl) (by rfl) (by rfl) Tryz.underlying22 Tryz.underlying61 Tryz.underlying9 Tryz.underlying3 Tryz.underlying59 Tryz.underlying99 c22 c61 c9 c3 c59 c99 h2
set_option maxRecDepth 100000 in
theorem ZHr {cs:List V} (h:Zfm Tryz.prog 9 26 cs):∃ a b:Int,cs = [.int .i64 a,.int .i64 b]:=by
 obtain ⟨h1,h2⟩:=ZgP Tryz.underlying26 h
 exact VL.cred_of (n:=7) (h1.trans c26) (by rfl) Tryz.underlying3 c3 h2
set_option maxRecDepth 100000 in
theorem lifted (os:Os) (started:os.Started) (H:Type) (enc:TypeId × Value → H) :
  ReturnsInHanded {} Tryz.checked os 3 .any (fun w args=>(Rows.fnExactListDirSpec.pre enc Tryz.prog Tryz.f3 [] false w args ∧ laidMetH Tryz.prog ZIv w) ∧ sizedMet enc Tryz.prog Tryz.f3 (OpenSpec.ofChange Rows.fnExactListDirSpec) false w args)
   (Rows.fnExactListDirSpec.post enc Tryz.prog Tryz.f3 false true false false):=by
 refine returnsInHanded_of_change_and (C:=Tryz.checked) (X:=fun w _=>laidMetH Tryz.prog ZIv w) (fun _ _ _ hh h=>h.of_heap hh) own started (by kernel_rfl) Tryz.func3
  (ChangeSpec.witness_shaped (enc:=enc) (C:=Tryz.checked) (os:=os) (X:=fun w _=>laidMetH Tryz.prog ZIv w) false (World.laidAll Tryz.prog os ZIv) #[.agg #[.slice none 0 0,.int .i64 0],.agg #[.int .i64 0,.int .i64 0],.string (ByteArray.mk #[])] 8 (World.laidAll_os _ _ _)
   (World.shaped_of_ZipB (by kernel_rfl) (by kernel_rfl)) (by kernel_rfl) (by kernel_rfl) (by kernel_rfl)
   (by rw [MakeChecks.laidMetH_plain _ _ _ (by kernel_rfl)]; exact laidMet_laidAll _ (by kernel_rfl) (by kernel_rfl))) ?_
 intro W base args ds gs before hval0 hW _ _ _ _
 have hval:∀ (j:Nat) t v,Tryz.f3.params[j]? = some t → args[j]? = some v → Value.okWide Tryz.prog W .any base t v:=hval0
 have hW':=hW
 obtain ⟨p,q,hA0,hV,rfl,hfz,hnd⟩:=hW
 have hA:DataW.TrodAll enc Tryz.prog W 0 (fun _=>true) true Tryz.f3.params.toList args.toList ds p:=hA0
 rw [Tryz.params3] at hA hval
 obtain ⟨v0,vs0,d0,ds0,p0,q0,hargs,rfl,rfl,h0,r0⟩:=trodAll_cons hA
 obtain ⟨v1,vs1,d1,ds1,p1,q1,rfl,rfl,rfl,h1,r1⟩:=trodAll_cons r0
 obtain ⟨v2,vs2,d2,ds2,p2,q2,rfl,rfl,rfl,h2,r2⟩:=trodAll_cons r1
 obtain ⟨rfl,rfl,rfl⟩:=trodAll_nil r2
 obtain rfl:args = #[v0,v1,v2]:=by cases args; simp_all
 obtain ⟨rfl,rfl⟩:=trodVars_none hV
 have lt0:∀ x ∈ p0,x.block < W.heap.size:=by obtain ⟨m,hm⟩:=h0; exact DataW.trod_lt m _ _ _ hm
 have lt1:∀ x ∈ p1,x.block < W.heap.size:=by obtain ⟨m,hm⟩:=h1; exact DataW.trod_lt m _ _ _ hm
 have lt2:∀ x ∈ p2,x.block < W.heap.size:=by obtain ⟨m,hm⟩:=h2; exact DataW.trod_lt m _ _ _ hm
 obtain ⟨a0,b0,_,_,_,rfl,_,_,_,_⟩:=open_agg2 Tryz.underlying24 (by kernel_rfl) c24 (hval 0 24 v0 rfl rfl) h0
 obtain ⟨a1,b1,_,_,_,rfl,_,_,_,_⟩:=open_agg2 Tryz.underlying26 (by kernel_rfl) c26 (hval 1 26 v1 rfl rfl) h1
 obtain ⟨w2,rfl⟩:∃ w2:ByteArray,v2 = .string w2:=okWide_string Tryz.underlying9 (hval 2 9 v2 rfl rfl)
 obtain ⟨cs0,f0,i0⟩:=Zfr (n:=9) (vs:=[a0,b0]) o24 h0
 obtain ⟨cs1,f1,i1⟩:=Zfr (n:=9) (vs:=[a1,b1]) o26 h1
 obtain ⟨c2,f2,i2⟩:=ZH8 (n:=9) (by simp [Value.cells]) o9 h2
 obtain ⟨l,room,rfl,hl⟩:=ZPl f0
 obtain ⟨cu,cg,rfl⟩:=ZHr f1
 obtain ⟨w,hw2,hwz⟩:=ZlF Tryz.underlying9 f2
 obtain rfl:=(List.cons.inj hw2).1
 have hΦ:=VL.callee_zao_prev okC 1048600
 refine (ZML (okC.rowed false true none VL.inl_zao [] [] [46] [(9,4,5)]) (hΦ.rowed false true none VL.inl_zao [] [] [46] [(9,4,5)]) Tryz.func3 rfl (by kernel_rfl) (Zai (Λ:=Zad) (by kernel_rfl)) rfl rfl ((VL.b_zao 1048600 _ _ _ _ _ _ _).trans (VL.law_FnExactListDir hl _ _ _ _ _ hwz _))
  (show ZoV W _ [_,_,_] from ⟨i0,i1,i2,trivial⟩)).mono fun e W' ⟨he,bel⟩=>?_
 subst he
 exact ⟨_,rfl,_,_,_,[],_,[],hW',trodAll_mk1 (shut_bool Tryz.underlying4 _),(trodAll_cons_mk (Below.trod laidOut (by kernel_rfl) (of_decide_eq_true (by kernel_rfl)) h0 bel lt0) (trodAll_cons_mk (Below.trod laidOut (by kernel_rfl) (of_decide_eq_true (by kernel_rfl)) h1 bel lt1) (trodAll_cons_mk (Below.trod laidOut (by kernel_rfl) (of_decide_eq_true (by kernel_rfl)) h2 bel lt2) trodAll_mk0))),rfl,bel.frame _,fun h=>by cases h⟩
theorem over:Rows.fnExactListDirRow.holds Tryz.pinned (OpenSpec.ofChange Rows.fnExactListDirSpec) :=
 OpenClaim.holds_of_wide 3 Tryz.f3 rfl rfl rfl rfl rfl rfl rfl ⟨rfl,rfl,rfl,rfl,rfl⟩ rfl rfl rfl rfl rfl (by kernel_rfl) Tryz.func3 (by kernel_rfl)
  (of_decide_eq_true (by kernel_rfl)) (by unfold Func.isWrapper; first | (rw [if_pos (by decide +kernel)]; kernel_rfl) | (rw [if_neg (by decide +kernel)]; exact ⟨rfl,rfl⟩))
  (fun os started H enc _=>lifted os started H enc)
theorem card:Rows.FnExactListDirCardSaid :=
 Claim7.holds_tied_plain_at .later [] [.data, .pinned] true (true, "d72e0dc88fda77edae593e5a2e0b5882a8eddc5aeb469b18ae6d72a9e87f1494") false over (fun _ h => by cases h) (by kernel_rfl) (fun _ h => by cases h) fnExactListDir_row_tie rfl ⟨rfl, rfl⟩ (by kernel_rfl) rfl
  (fun f fn hf hfn=>by
   obtain rfl : f = 3 := Option.some.inj ((show Tryz.prog.funcNamed "loop.example/g00756/laws.FnExactListDir" = some 3 by kernel_rfl).symm.trans hf) |>.symm
   obtain rfl:fn = Tryz.f3:=(Option.some.inj (Tryz.func3.symm.trans hfn)).symm
   exact ⟨by kernel_rfl,fun j t ht=>by
    rw [Tryz.params3] at ht
    have hm:t ∈ [24,26,9]:=by simpa using Array.mem_of_getElem? ht
    have hall:([24,26,9].all fun u=>!Tryz.prog.wantsStandIn u) = true:=by kernel_rfl
    exact (show Tryz.prog.wantsStandIn t = false by simpa using List.all_eq_true.1 hall t hm)⟩)
  (by kernel_rfl)
end Go.Proofs.YtkchbabkbpcncaaGreatDoor.fnExactListDir
namespace Go.Proofs.YtkchbabkbpcncaaGreatDoor
theorem fnExactListDir_holds:Rows.FnExactListDirCardSaid:=fnExactListDir.card
#print axioms fnExactListDir_holds
end Go.Proofs.YtkchbabkbpcncaaGreatDoor
