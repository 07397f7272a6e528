/- The functions of the program, told plainly: what each computes, as a function of its letters; and that the machine does the same. Printed by vgen.py, a program of this session's own. -/
import Derived.Test.YtkchbabkbpcncaaZ1
import Derived.WalkKit
import Derived.Lib.Walk
import Derived.Lib.SliceRun
import Derived.Lib.AppendZerosOnto
import Derived.Laws.OwnMore
import Derived.Test.YtkchbabkbpcncaaTryDelShelf
import Derived.Test.YtkchbabkbpcncaaProg
import Derived.KernelRfl
set_option linter.unusedVariables false
namespace Go.VM.VL
noncomputable section
open Go.Proofs
def rl (t:TypeId):Bool:=[3,32].any (Nat.beq t)
def mode (f:FuncId):Mode :=
 match [19,27,116].any (Nat.beq f) with
 | true=>.shared
 | false=>match [131].any (Nat.beq f) with
  | true=>.own
  | false=>match [15,16,17,24,77,78,84,115,118].any (Nat.beq f) with
   | true=>.fresh
   | false=>.pure
abbrev C:Cfg:={ Cfg.of Try.prog 9 mode (fun f=>[131].any (Nat.beq f)) with rl:=rl }
def ZvT (N:Nat):(R:Type) → List V → S → (V → S → Option R) → Option R:=fun _ vs s K =>
 Zii vs fun v'1 v'2=>ZaP 1 v'1 fun e_1 f_2=>asInt .i64 v'2 fun x_3=>Zbd s <| Zta N e_1 f_2 x_3 (fun x_4=>K (.int .i64 x_4) [])
def ZmE (N:Nat):Zat:=(Zf0).add 75 (ZvT N)
def ZwD:Code:=Zbp Try.f75
theorem ZwC {R:Type} (N:Nat) (e_1:List V) (f_2:Fl) (x_3:Int) (K:V → S → Option R):Zbw C (Zf0) (Zam) 75 Try.f75 [.list 1 e_1 f_2,.int .i64 x_3] [] K =
 ZkM N e_1 f_2 x_3 (fun x_4=>K (.int .i64 x_4) []):=by kernel_rfl
theorem ZoH (hC:Ok Try.prog C) {N:Nat} (hΦ:Zab Try.prog C (Zf0)):Zab Try.prog C (ZmE N):=by
 refine hΦ.add_pure rfl fun R vs K r h=>?_
 unfold ZvT at h
 obtain ⟨_,_,rfl,h1⟩:=Za9 h
 obtain ⟨_,_,rfl,h2⟩:=Zas h1
 obtain ⟨_,rfl,h3⟩:=Zay h2
 obtain ⟨_,h4⟩:=Zao h3
 refine ZaX (fn:=Try.f75) (c:=ZwD) hC hΦ Try.func75 (by kernel_rfl) (by kernel_rfl) (Zav (Λ:=Zam) (by kernel_rfl)) rfl rfl ?_
 refine (ZwC N _ _ _ _).trans ?_
 rw [← ZnZ]
 exact h4
def ZvM (N:Nat):(R:Type) → List V → S → (V → S → Option R) → Option R:=fun _ vs s K =>
 Zii vs fun v'1 v'2=>ZaP 1 v'1 fun e_1 f_2=>asInt .i64 v'2 fun x_3=>Zbd s <| ZsQ N e_1 f_2 x_3 (fun x_4=>K (.int .i64 x_4) [])
def ZsT (N:Nat):Zat:=(ZmE N).add 14 (ZvM N)
def Zrl:Code:=Zbp Try.f14
def ZlL:Code:=(Zb3 Zrl [] 0).2
def Zjb:List Nat:=Zdq 27 [0,1,5]
def Znf:List Nat:=Zdq 27 [1,4]
def Zgh (e_1:List V) (f_2:Fl) (x_3 x_4:Int):List V:=mkF 0 27 [(0,.list 1 e_1 f_2),(1,.int .i64 x_3),(5,.int .i64 x_4)]
def ZeR {R:Type} (K:X → List V → S → Option R) (e_1:List V) (f_2:Fl):Int → Option R:=(fun x_1'=>K .ret (mkF 0 27 [(1,.int .i64 (x_1')),(4,.int .i64 (-1))]) [])
def ZeI {R:Type} (K:X → List V → S → Option R) (e_1:List V) (f_2:Fl):Int → Option R:=(fun x_1'=>K (.exit 0) (mkF 0 27 [(1,.int .i64 (x_1'))]) [])
abbrev Zi1 {R:Type} (N:Nat):Nat → List V → S → (X → List V → S → Option R) → Option R:=fun n=>Zha C (ZmE N) (Zam) ZlL [0,1,0,1,1,1] false Zjb Znf n R
theorem Zul {R:Type} (N n:Nat) (e_1:List V) (f_2:Fl) (x_3 x_4:Int) (K:X → List V → S → Option R) :
 Zi1 N (n + 1) (Zgh e_1 f_2 x_3 x_4) [] K =
 Zcw N e_1 f_2 (fun x_3 x_4=>Zi1 N n (Zgh e_1 f_2 x_3 x_4) [] K) x_3 x_4 (ZeR K e_1 f_2) (ZeI K e_1 f_2):=by kernel_rfl
theorem Zqe {R:Type} (N:Nat) (e_1:List V) (f_2:Fl) (K:X → List V → S → Option R):∀ (n:Nat) (x_3 x_4:Int),
 Zi1 N n (Zgh e_1 f_2 x_3 x_4) [] K = Zdv N e_1 f_2 (ZeR K e_1 f_2) (ZeI K e_1 f_2) n x_3 x_4
 | 0,_,_=>rfl
 | n + 1,x_3,x_4=>(Zul N n e_1 f_2 x_3 x_4 K).trans (congrArg (fun nx=>Zcw N e_1 f_2 nx x_3 x_4 (ZeR K e_1 f_2) (ZeI K e_1 f_2)) (funext fun x_3=>funext fun x_4=>Zqe N e_1 f_2 K n x_3 x_4))
def Zlc {R:Type} (E:List V) (s:S) (k:List V → Fl → Int → Int → Option R):Option R :=
 Zaf (Zbn 27 [0,1,5] E) <| ZbC E 0 1 fun e_1 f_2=>Zbm E 1 .i64 fun x_3=>Zbm E 5 .i64 fun x_4=>Zbd s <| k e_1 f_2 x_3 x_4
theorem ZkY {R:Type} {E:List V} {s:S} {k:List V → Fl → Int → Int → Option R} {r:R} (h:Zlc E s k = some r):∃ e_1 f_2 x_3 x_4,E = Zgh e_1 f_2 x_3 x_4 ∧ s = [] ∧ k e_1 f_2 x_3 x_4 = some r:=by
 unfold Zlc at h
 obtain ⟨hg,h1⟩:=Zaa h
 obtain ⟨_,_,hu0,h2⟩:=ZaC h1
 obtain ⟨_,hu1,h3⟩:=Zaq h2
 obtain ⟨_,hu5,h4⟩:=Zaq h3
 obtain ⟨rfl,h5⟩:=Zao h4
 exact ⟨_,_,_,_,Zbe hg rfl (Zah hu0 (Zah hu1 (Zah hu5 Za1))),rfl,h5⟩
def Zlk (N:Nat):ZaB:=(Zam).add [0,1,0,1,1,1] fun _ E s K=>Zlc (Za7 Zjb E) s fun e_1 f_2 x_3 x_4=>Zdv N e_1 f_2 (ZeR K e_1 f_2) (ZeI K e_1 f_2) N x_3 x_4
theorem ZtD {N:Nat} (hC:Ok Try.prog C) (hΦ:Zab Try.prog C (ZmE N)):Zbt Try.prog C (Zlk N) ZlL [0,1,0,1,1,1] :=
 Zbv (Λi:=Zam) (tr:=false) (ks:=Zjb) (kx:=Znf) (N:=N) hC hΦ
  (Zav (by kernel_rfl))
  fun R E s K r h=>by
   have h2:=ZaB.add_self.symm.trans h
   refine (ZaS rfl).trans ?_
   obtain ⟨_,_,_,_,he,rfl,h3⟩:=ZkY h2
   rw [he]
   exact (Zqe N _ _ _ N _ _).trans h3
theorem Zwe:Za8 Zrl [] = [([0,1,0,1,1,1],ZlL)]:=by kernel_rfl
theorem ZwV {R:Type} (N:Nat) (e_1:List V) (f_2:Fl) (x_3:Int) (K:V → S → Option R):Zbw C (ZmE N) (Zlk N) 14 Try.f14 [.list 1 e_1 f_2,.int .i64 x_3] [] K =
 Zk9 N e_1 f_2 x_3 (fun x_4=>K (.int .i64 x_4) []):=by kernel_rfl
theorem Zq2 {N:Nat} (hC:Ok Try.prog C) (hΦ:Zab Try.prog C (ZmE N)):ZaR Try.prog C (Zlk N) Zrl [] :=
 ZaT Zrl [] (by
  rw [Zwe]
  intro p hp
  simp only [List.mem_cons,List.mem_nil_iff,or_false] at hp
  rcases hp with rfl
  ·exact (ZtD hC hΦ))
theorem Zpe (hC:Ok Try.prog C) {N:Nat} (hΦ:Zab Try.prog C (ZmE N)):Zab Try.prog C (ZsT N):=by
 refine hΦ.add_pure rfl fun R vs K r h=>?_
 unfold ZvM at h
 obtain ⟨_,_,rfl,h1⟩:=Za9 h
 obtain ⟨_,_,rfl,h2⟩:=Zas h1
 obtain ⟨_,rfl,h3⟩:=Zay h2
 obtain ⟨_,h4⟩:=Zao h3
 refine ZaX (fn:=Try.f14) (c:=Zrl) hC hΦ Try.func14 (by kernel_rfl) (by kernel_rfl) (Zq2 (N:=N) hC hΦ) rfl rfl ?_
 refine (ZwV N _ _ _ _).trans ?_
 rw [← Zoj]
 exact h4
def Zvr (N:Nat):(R:Type) → List V → S → (V → S → Option R) → Option R:=fun _ vs s K =>
 Zux vs fun v'1 v'2 v'3=>asInt .i64 v'1 fun x_1=>asInt .i64 v'2 fun x_2=>asInt .i64 v'3 fun x_3=>Zbd s <| ZoX N x_1 x_2 x_3 (fun b_4=>K (.bool b_4) [])
def Zmm (N:Nat):Zat:=(ZsT N).add 79 (Zvr N)
def ZwY:Code:=Zbp Try.f79
theorem Zw1 {R:Type} (N:Nat) (x_1 x_2 x_3:Int) (K:V → S → Option R):Zbw C (ZsT N) (Zam) 79 Try.f79 [.int .i64 x_1,.int .i64 x_2,.int .i64 x_3] [] K =
 ZjC N x_1 x_2 x_3 (fun b_4=>K (.bool b_4) []):=by kernel_rfl
theorem Zps (hC:Ok Try.prog C) {N:Nat} (hΦ:Zab Try.prog C (ZsT N)):Zab Try.prog C (Zmm N):=by
 refine hΦ.add_pure rfl fun R vs K r h=>?_
 unfold Zvr at h
 obtain ⟨_,_,_,rfl,h1⟩:=ZdH h
 obtain ⟨_,rfl,h2⟩:=Zay h1
 obtain ⟨_,rfl,h3⟩:=Zay h2
 obtain ⟨_,rfl,h4⟩:=Zay h3
 obtain ⟨_,h5⟩:=Zao h4
 refine ZaX (fn:=Try.f79) (c:=ZwY) hC hΦ Try.func79 (by kernel_rfl) (by kernel_rfl) (Zav (Λ:=Zam) (by kernel_rfl)) rfl rfl ?_
 refine (Zw1 N _ _ _ _).trans ?_
 rw [← Zne]
 exact h5
def Zvl (N:Nat):(R:Type) → List V → S → (V → S → Option R) → Option R:=fun _ vs s K =>
 Zii vs fun v'1 v'2=>ZaP 1 v'1 fun e_1 f_2=>asInt .i64 v'2 fun x_3=>Zbd s <| Zs4 N e_1 f_2 x_3 (fun e_4=>K (.list 1 e_4 .sh) [])
def Zmg (N:Nat):Zat:=(Zmm N).add 117 (Zvl N)
def Zrk:Code:=Zbp Try.f117
def ZmB:Code:=(Zb3 Zrk [] 0).2
def Zjh:List Nat:=Zdq 48 [0,1,5]
def ZnN:List Nat:=Zdq 48 [0,1,5]
def Zf6 (e_1:List V) (f_2:Fl) (x_3 x_4:Int):List V:=mkF 0 48 [(0,.list 1 e_1 f_2),(1,.int .i64 x_3),(5,.int .i64 x_4)]
def ZeV {R:Type} (K:X → List V → S → Option R) (e_1:List V) (f_2:Fl) (x_3:Int):Int → Option R:=(fun x_1'=>K (.exit 0) (mkF 0 48 [(0,.list 1 e_1 f_2),(1,.int .i64 x_3),(5,.int .i64 (x_1'))]) [])
abbrev Zid {R:Type} (N:Nat):Nat → List V → S → (X → List V → S → Option R) → Option R:=fun n=>Zha C (Zmm N) (Zam) ZmB [0,0,1,1] false Zjh ZnN n R
theorem ZuW {R:Type} (N n:Nat) (e_1:List V) (f_2:Fl) (x_3:Int) (x_4:Int) (K:X → List V → S → Option R) :
 Zid N (n + 1) (Zf6 e_1 f_2 x_3 x_4) [] K =
 ZbU N e_1 f_2 x_3 (fun x_4=>Zid N n (Zf6 e_1 f_2 x_3 x_4) [] K) x_4 (ZeV K e_1 f_2 x_3):=by kernel_rfl
theorem ZrK {R:Type} (N:Nat) (e_1:List V) (f_2:Fl) (x_3:Int) (K:X → List V → S → Option R):∀ (n:Nat) (x_4:Int),
 Zid N n (Zf6 e_1 f_2 x_3 x_4) [] K = Zdt N e_1 f_2 x_3 (ZeV K e_1 f_2 x_3) n x_4
 | 0,_=>rfl
 | n + 1,x_4=>(ZuW N n e_1 f_2 x_3 x_4 K).trans (congrArg (fun nx=>ZbU N e_1 f_2 x_3 nx x_4 (ZeV K e_1 f_2 x_3)) (funext fun x_4=>ZrK N e_1 f_2 x_3 K n x_4))
def ZmC {R:Type} (E:List V) (s:S) (k:List V → Fl → Int → Int → Option R):Option R :=
 Zaf (Zbn 48 [0,1,5] E) <| ZbC E 0 1 fun e_1 f_2=>Zbm E 1 .i64 fun x_3=>Zbm E 5 .i64 fun x_4=>Zbd s <| k e_1 f_2 x_3 x_4
theorem Zkw {R:Type} {E:List V} {s:S} {k:List V → Fl → Int → Int → Option R} {r:R} (h:ZmC E s k = some r):∃ e_1 f_2 x_3 x_4,E = Zf6 e_1 f_2 x_3 x_4 ∧ s = [] ∧ k e_1 f_2 x_3 x_4 = some r:=by
 unfold ZmC at h
 obtain ⟨hg,h1⟩:=Zaa h
 obtain ⟨_,_,hu0,h2⟩:=ZaC h1
 obtain ⟨_,hu1,h3⟩:=Zaq h2
 obtain ⟨_,hu5,h4⟩:=Zaq h3
 obtain ⟨rfl,h5⟩:=Zao h4
 exact ⟨_,_,_,_,Zbe hg rfl (Zah hu0 (Zah hu1 (Zah hu5 Za1))),rfl,h5⟩
def ZlB (N:Nat):ZaB:=(Zam).add [0,0,1,1] fun _ E s K=>ZmC (Za7 Zjh E) s fun e_1 f_2 x_3 x_4=>Zdt N e_1 f_2 x_3 (ZeV K e_1 f_2 x_3) N x_4
theorem Ztn {N:Nat} (hC:Ok Try.prog C) (hΦ:Zab Try.prog C (Zmm N)):Zbt Try.prog C (ZlB N) ZmB [0,0,1,1] :=
 Zbv (Λi:=Zam) (tr:=false) (ks:=Zjh) (kx:=ZnN) (N:=N) hC hΦ
  (Zav (by kernel_rfl))
  fun R E s K r h=>by
   have h2:=ZaB.add_self.symm.trans h
   refine (ZaS rfl).trans ?_
   obtain ⟨_,_,_,_,he,rfl,h3⟩:=Zkw h2
   rw [he]
   exact (ZrK N _ _ _ _ N _).trans h3
theorem ZvI:Za8 Zrk [] = [([0,0,1,1],ZmB)]:=by kernel_rfl
theorem ZwM {R:Type} (N:Nat) (e_1:List V) (f_2:Fl) (x_3:Int) (K:V → S → Option R):Zbw C (Zmm N) (ZlB N) 117 Try.f117 [.list 1 e_1 f_2,.int .i64 x_3] [] K =
 ZkB N e_1 f_2 x_3 (fun e_4=>K (.list 1 e_4 .sh) []):=by kernel_rfl
theorem Zrw {N:Nat} (hC:Ok Try.prog C) (hΦ:Zab Try.prog C (Zmm N)):ZaR Try.prog C (ZlB N) Zrk [] :=
 ZaT Zrk [] (by
  rw [ZvI]
  intro p hp
  simp only [List.mem_cons,List.mem_nil_iff,or_false] at hp
  rcases hp with rfl
  ·exact (Ztn hC hΦ))
theorem Zpo (hC:Ok Try.prog C) {N:Nat} (hΦ:Zab Try.prog C (Zmm N)):Zab Try.prog C (Zmg N):=by
 refine hΦ.add_pure rfl fun R vs K r h=>?_
 unfold Zvl at h
 obtain ⟨_,_,rfl,h1⟩:=Za9 h
 obtain ⟨_,_,rfl,h2⟩:=Zas h1
 obtain ⟨_,rfl,h3⟩:=Zay h2
 obtain ⟨_,h4⟩:=Zao h3
 refine ZaX (fn:=Try.f117) (c:=Zrk) hC hΦ Try.func117 (by kernel_rfl) (by kernel_rfl) (Zrw (N:=N) hC hΦ) rfl rfl ?_
 refine (ZwM N _ _ _ _).trans ?_
 rw [← Zol]
 exact h4
def Zvu (N:Nat):(R:Type) → List V → S → (V → S → Option R) → Option R:=fun _ vs s K =>
 Zux vs fun v'1 v'2 v'3=>ZaP 1 v'1 fun e_1 f_2=>asInt .i64 v'2 fun x_3=>asInt .i64 v'3 fun x_4=>Zbd s <| Zsf N e_1 f_2 x_3 x_4 (fun b_5=>K (.bool b_5) [])
def Ziw (N:Nat):Zat:=(Zmg N).add 119 (Zvu N)
def ZqU:Code:=Zbp Try.f119
def Zlw:Code:=(Zb3 ZqU [] 0).2
def Zjg:List Nat:=Zdq 21 [1,2,9,10,11]
def Zom:List Nat:=Zdq 21 [6]
def Zgo (x_1 x_2:Int) (e_3:List V) (f_4:Fl) (x_5 x_6:Int):List V:=mkF 0 21 [(1,.int .i64 x_1),(2,.int .i64 x_2),(9,.list 1 e_3 f_4),(10,.int .i64 x_5),(11,.int .i64 x_6)]
def Ze7 {R:Type} (K:X → List V → S → Option R) (x_1:Int) (x_2:Int) (e_3:List V) (f_4:Fl) (x_5:Int):Unit → Option R:=(fun _=>K .ret (mkF 0 21 [(6,.bool false)]) [])
def Ze2 {R:Type} (K:X → List V → S → Option R) (x_1:Int) (x_2:Int) (e_3:List V) (f_4:Fl) (x_5:Int):Unit → Option R:=(fun _=>K (.exit 0) (mkF 0 21 []) [])
abbrev ZiJ {R:Type} (N:Nat):Nat → List V → S → (X → List V → S → Option R) → Option R:=fun n=>Zha C (Zmg N) (Zam) Zlw [0,1,0,1] false Zjg Zom n R
theorem Zt6 {R:Type} (N n:Nat) (x_1 x_2:Int) (e_3:List V) (f_4:Fl) (x_5:Int) (x_6:Int) (K:X → List V → S → Option R) :
 ZiJ N (n + 1) (Zgo x_1 x_2 e_3 f_4 x_5 x_6) [] K =
 Zch N x_1 x_2 e_3 f_4 x_5 (fun x_6=>ZiJ N n (Zgo x_1 x_2 e_3 f_4 x_5 x_6) [] K) x_6 (Ze7 K x_1 x_2 e_3 f_4 x_5) (Ze2 K x_1 x_2 e_3 f_4 x_5):=by kernel_rfl
theorem Zr2 {R:Type} (N:Nat) (x_1 x_2:Int) (e_3:List V) (f_4:Fl) (x_5:Int) (K:X → List V → S → Option R):∀ (n:Nat) (x_6:Int),
 ZiJ N n (Zgo x_1 x_2 e_3 f_4 x_5 x_6) [] K = Zev N x_1 x_2 e_3 f_4 x_5 (Ze7 K x_1 x_2 e_3 f_4 x_5) (Ze2 K x_1 x_2 e_3 f_4 x_5) n x_6
 | 0,_=>rfl
 | n + 1,x_6=>(Zt6 N n x_1 x_2 e_3 f_4 x_5 x_6 K).trans (congrArg (fun nx=>Zch N x_1 x_2 e_3 f_4 x_5 nx x_6 (Ze7 K x_1 x_2 e_3 f_4 x_5) (Ze2 K x_1 x_2 e_3 f_4 x_5)) (funext fun x_6=>Zr2 N x_1 x_2 e_3 f_4 x_5 K n x_6))
def Zmf {R:Type} (E:List V) (s:S) (k:Int → Int → List V → Fl → Int → Int → Option R):Option R :=
 Zaf (Zbn 21 [1,2,9,10,11] E) <| Zbm E 1 .i64 fun x_1=>Zbm E 2 .i64 fun x_2=>ZbC E 9 1 fun e_3 f_4=>Zbm E 10 .i64 fun x_5=>Zbm E 11 .i64 fun x_6=>Zbd s <| k x_1 x_2 e_3 f_4 x_5 x_6
theorem Zj6 {R:Type} {E:List V} {s:S} {k:Int → Int → List V → Fl → Int → Int → Option R} {r:R} (h:Zmf E s k = some r):∃ x_1 x_2 e_3 f_4 x_5 x_6,E = Zgo x_1 x_2 e_3 f_4 x_5 x_6 ∧ s = [] ∧ k x_1 x_2 e_3 f_4 x_5 x_6 = some r:=by
 unfold Zmf at h
 obtain ⟨hg,h1⟩:=Zaa h
 obtain ⟨_,hu1,h2⟩:=Zaq h1
 obtain ⟨_,hu2,h3⟩:=Zaq h2
 obtain ⟨_,_,hu9,h4⟩:=ZaC h3
 obtain ⟨_,hu10,h5⟩:=Zaq h4
 obtain ⟨_,hu11,h6⟩:=Zaq h5
 obtain ⟨rfl,h7⟩:=Zao h6
 exact ⟨_,_,_,_,_,_,Zbe hg rfl (Zah hu1 (Zah hu2 (Zah hu9 (Zah hu10 (Zah hu11 Za1))))),rfl,h7⟩
def Zmw (N:Nat):ZaB:=(Zam).add [0,1,0,1] fun _ E s K=>Zmf (Za7 Zjg E) s fun x_1 x_2 e_3 f_4 x_5 x_6=>Zev N x_1 x_2 e_3 f_4 x_5 (Ze7 K x_1 x_2 e_3 f_4 x_5) (Ze2 K x_1 x_2 e_3 f_4 x_5) N x_6
theorem Zr7 {N:Nat} (hC:Ok Try.prog C) (hΦ:Zab Try.prog C (Zmg N)):Zbt Try.prog C (Zmw N) Zlw [0,1,0,1] :=
 Zbv (Λi:=Zam) (tr:=false) (ks:=Zjg) (kx:=Zom) (N:=N) hC hΦ
  (Zav (by kernel_rfl))
  fun R E s K r h=>by
   have h2:=ZaB.add_self.symm.trans h
   refine (ZaS rfl).trans ?_
   obtain ⟨_,_,_,_,_,_,he,rfl,h3⟩:=Zj6 h2
   rw [he]
   exact (Zr2 N _ _ _ _ _ _ N _).trans h3
theorem Zvq:Za8 ZqU [] = [([0,1,0,1],Zlw)]:=by kernel_rfl
theorem ZwX {R:Type} (N:Nat) (e_1:List V) (f_2:Fl) (x_3 x_4:Int) (K:V → S → Option R):Zbw C (Zmg N) (Zmw N) 119 Try.f119 [.list 1 e_1 f_2,.int .i64 x_3,.int .i64 x_4] [] K =
 Zkq N e_1 f_2 x_3 x_4 (fun b_5=>K (.bool b_5) []):=by kernel_rfl
theorem Zqi {N:Nat} (hC:Ok Try.prog C) (hΦ:Zab Try.prog C (Zmg N)):ZaR Try.prog C (Zmw N) ZqU [] :=
 ZaT ZqU [] (by
  rw [Zvq]
  intro p hp
  simp only [List.mem_cons,List.mem_nil_iff,or_false] at hp
  rcases hp with rfl
  ·exact (Zr7 hC hΦ))
theorem ZpD (hC:Ok Try.prog C) {N:Nat} (hΦ:Zab Try.prog C (Zmg N)):Zab Try.prog C (Ziw N):=by
 refine hΦ.add_pure rfl fun R vs K r h=>?_
 unfold Zvu at h
 obtain ⟨_,_,_,rfl,h1⟩:=ZdH h
 obtain ⟨_,_,rfl,h2⟩:=Zas h1
 obtain ⟨_,rfl,h3⟩:=Zay h2
 obtain ⟨_,rfl,h4⟩:=Zay h3
 obtain ⟨_,h5⟩:=Zao h4
 refine ZaX (fn:=Try.f119) (c:=ZqU) hC hΦ Try.func119 (by kernel_rfl) (by kernel_rfl) (Zqi (N:=N) hC hΦ) rfl rfl ?_
 refine (ZwX N _ _ _ _ _).trans ?_
 rw [← ZnA]
 exact h5
def Zu8 (N:Nat):(R:Type) → List V → S → (V → S → Option R) → Option R:=fun _ vs s K =>
 ZpM vs fun v'1=>ZaP 1 v'1 fun e_1 f_2=>Zbd s <| ZtB N e_1 f_2 (fun b_3=>K (.bool b_3) [])
def Ztz (N:Nat):Zat:=(Ziw N).add 104 (Zu8 N)
def ZqK:Code:=Zbp Try.f104
def Zfw:Code:=(Zb3 ZqK [] 0).2
def ZmF:Code:=(Zb3 Zfw (0 :: [0,1,0,1,1,1]) 0).2
def Zif:List Nat:=Zdq 44 [0,3,4,9,10,11,18,19,20]
def Znd:List Nat:=Zdq 44 [0,3,4,9,10,11]
def ZfZ (e_1:List V) (f_2:Fl) (e_5:List V) (f_6:Fl) (x_7 x_8:Int) (e_9:List V) (f_10:Fl) (x_11:Int) (e_3:List V) (f_13:Fl) (x_4 x_12:Int):List V:=mkF 0 44 [(0,.list 1 e_1 f_2),(3,.list 1 e_3 f_13),(4,.int .i64 x_4),(9,.list 1 e_5 f_6),(10,.int .i64 x_7),(11,.int .i64 x_8),(18,.list 1 e_9 f_10),(19,.int .i64 x_11),(20,.int .i64 x_12)]
def Ze5 {R:Type} (K:X → List V → S → Option R) (e_1:List V) (f_2:Fl) (e_5:List V) (f_6:Fl) (x_7:Int) (x_8:Int) (e_9:List V) (f_10:Fl) (x_11:Int):List V → Fl → Int → Option R:=(fun e_1' f_2' x_3'=>K (.exit 2) (mkF 0 44 [(0,.list 1 e_1 f_2),(3,.list 1 (e_1') (f_2')),(4,.int .i64 (x_3')),(9,.list 1 e_5 f_6),(10,.int .i64 x_7),(11,.int .i64 x_8)]) [])
abbrev Zje {R:Type} (N:Nat):Nat → List V → S → (X → List V → S → Option R) → Option R:=fun n=>Zha C (Ziw N) (Zam) ZmF [0,1,1,1,0,0,1,1,0,0,1,0,1,1,1] false Zif Znd n R
theorem Zt1 {R:Type} (N n:Nat) (e_1:List V) (f_2:Fl) (e_5:List V) (f_6:Fl) (x_7 x_8:Int) (e_9:List V) (f_10:Fl) (x_11:Int) (e_3:List V) (f_13:Fl) (x_4 x_12:Int) (K:X → List V → S → Option R) :
 Zje N (n + 1) (ZfZ e_1 f_2 e_5 f_6 x_7 x_8 e_9 f_10 x_11 e_3 f_13 x_4 x_12) [] K =
 Zce N e_1 f_2 e_5 f_6 x_7 x_8 e_9 f_10 x_11 (fun e_3 f_13 x_4 x_12=>Zje N n (ZfZ e_1 f_2 e_5 f_6 x_7 x_8 e_9 f_10 x_11 e_3 f_13 x_4 x_12) [] K) e_3 f_13 x_4 x_12 (Ze5 K e_1 f_2 e_5 f_6 x_7 x_8 e_9 f_10 x_11):=by kernel_rfl
theorem ZrU {R:Type} (N:Nat) (e_1:List V) (f_2:Fl) (e_5:List V) (f_6:Fl) (x_7 x_8:Int) (e_9:List V) (f_10:Fl) (x_11:Int) (K:X → List V → S → Option R):∀ (n:Nat) (e_3:List V) (f_13:Fl) (x_4 x_12:Int),
 Zje N n (ZfZ e_1 f_2 e_5 f_6 x_7 x_8 e_9 f_10 x_11 e_3 f_13 x_4 x_12) [] K = Zd8 N e_1 f_2 e_5 f_6 x_7 x_8 e_9 f_10 x_11 (Ze5 K e_1 f_2 e_5 f_6 x_7 x_8 e_9 f_10 x_11) n e_3 f_13 x_4 x_12
 | 0,_,_,_,_=>rfl
 | n + 1,e_3,f_13,x_4,x_12=>(Zt1 N n e_1 f_2 e_5 f_6 x_7 x_8 e_9 f_10 x_11 e_3 f_13 x_4 x_12 K).trans (congrArg (fun nx=>Zce N e_1 f_2 e_5 f_6 x_7 x_8 e_9 f_10 x_11 nx e_3 f_13 x_4 x_12 (Ze5 K e_1 f_2 e_5 f_6 x_7 x_8 e_9 f_10 x_11)) (funext fun e_3=>funext fun f_13=>funext fun x_4=>funext fun x_12=>ZrU N e_1 f_2 e_5 f_6 x_7 x_8 e_9 f_10 x_11 K n e_3 f_13 x_4 x_12))
def Zlm {R:Type} (E:List V) (s:S) (k:List V → Fl → List V → Fl → Int → List V → Fl → Int → Int → List V → Fl → Int → Int → Option R):Option R :=
 Zaf (Zbn 44 [0,3,4,9,10,11,18,19,20] E) <| ZbC E 0 1 fun e_1 f_2=>ZbC E 3 1 fun e_3 f_13=>Zbm E 4 .i64 fun x_4=>ZbC E 9 1 fun e_5 f_6=>Zbm E 10 .i64 fun x_7=>Zbm E 11 .i64 fun x_8=>ZbC E 18 1 fun e_9 f_10=>Zbm E 19 .i64 fun x_11=>Zbm E 20 .i64 fun x_12=>Zbd s <| k e_1 f_2 e_3 f_13 x_4 e_5 f_6 x_7 x_8 e_9 f_10 x_11 x_12
theorem Zkp {R:Type} {E:List V} {s:S} {k:List V → Fl → List V → Fl → Int → List V → Fl → Int → Int → List V → Fl → Int → Int → Option R} {r:R} (h:Zlm E s k = some r):∃ e_1 f_2 e_3 f_13 x_4 e_5 f_6 x_7 x_8 e_9 f_10 x_11 x_12,E = ZfZ e_1 f_2 e_5 f_6 x_7 x_8 e_9 f_10 x_11 e_3 f_13 x_4 x_12 ∧ s = [] ∧ k e_1 f_2 e_3 f_13 x_4 e_5 f_6 x_7 x_8 e_9 f_10 x_11 x_12 = some r:=by
 unfold Zlm at h
 obtain ⟨hg,h1⟩:=Zaa h
 obtain ⟨_,_,hu0,h2⟩:=ZaC h1
 obtain ⟨_,_,hu3,h3⟩:=ZaC h2
 obtain ⟨_,hu4,h4⟩:=Zaq h3
 obtain ⟨_,_,hu9,h5⟩:=ZaC h4
 obtain ⟨_,hu10,h6⟩:=Zaq h5
 obtain ⟨_,hu11,h7⟩:=Zaq h6
 obtain ⟨_,_,hu18,h8⟩:=ZaC h7
 obtain ⟨_,hu19,h9⟩:=Zaq h8
 obtain ⟨_,hu20,h10⟩:=Zaq h9
 obtain ⟨rfl,h11⟩:=Zao h10
 exact ⟨_,_,_,_,_,_,_,_,_,_,_,_,_,Zbe hg rfl (Zah hu0 (Zah hu3 (Zah hu4 (Zah hu9 (Zah hu10 (Zah hu11 (Zah hu18 (Zah hu19 (Zah hu20 Za1))))))))),rfl,h11⟩
def ZiL (N:Nat):ZaB:=(Zam).add [0,1,1,1,0,0,1,1,0,0,1,0,1,1,1] fun _ E s K=>Zlm (Za7 Zif E) s fun e_1 f_2 e_3 f_13 x_4 e_5 f_6 x_7 x_8 e_9 f_10 x_11 x_12=>Zd8 N e_1 f_2 e_5 f_6 x_7 x_8 e_9 f_10 x_11 (Ze5 K e_1 f_2 e_5 f_6 x_7 x_8 e_9 f_10 x_11) N e_3 f_13 x_4 x_12
theorem Zsh {N:Nat} (hC:Ok Try.prog C) (hΦ:Zab Try.prog C (Ziw N)):Zbt Try.prog C (ZiL N) ZmF [0,1,1,1,0,0,1,1,0,0,1,0,1,1,1] :=
 Zbv (Λi:=Zam) (tr:=false) (ks:=Zif) (kx:=Znd) (N:=N) hC hΦ
  (Zav (by kernel_rfl))
  fun R E s K r h=>by
   have h2:=ZaB.add_self.symm.trans h
   refine (ZaS rfl).trans ?_
   obtain ⟨_,_,_,_,_,_,_,_,_,_,_,_,_,he,rfl,h3⟩:=Zkp h2
   rw [he]
   exact (ZrU N _ _ _ _ _ _ _ _ _ _ N _ _ _ _).trans h3
def Ziq:List Nat:=Zdq 44 [0,3,4,9,10,11]
def ZnU:List Nat:=Zdq 44 [0,2,3,4]
def Zf2 (e_1:List V) (f_2:Fl) (e_5:List V) (f_6:Fl) (x_7:Int) (e_3:List V) (f_9:Fl) (x_4 x_8:Int):List V:=mkF 0 44 [(0,.list 1 e_1 f_2),(3,.list 1 e_3 f_9),(4,.int .i64 x_4),(9,.list 1 e_5 f_6),(10,.int .i64 x_7),(11,.int .i64 x_8)]
def Zfa {R:Type} (K:X → List V → S → Option R) (e_1:List V) (f_2:Fl) (e_5:List V) (f_6:Fl) (x_7:Int):List V → Fl → Int → Option R:=(fun e_1' f_2' x_3'=>K .ret (mkF 0 44 [(0,.list 1 e_1 f_2),(2,.bool false),(3,.list 1 (e_1') (f_2')),(4,.int .i64 (x_3'))]) [])
def Zex {R:Type} (K:X → List V → S → Option R) (e_1:List V) (f_2:Fl) (e_5:List V) (f_6:Fl) (x_7:Int):List V → Fl → Int → Option R:=(fun e_1' f_2' x_3'=>K (.exit 0) (mkF 0 44 [(0,.list 1 e_1 f_2),(3,.list 1 (e_1') (f_2')),(4,.int .i64 (x_3'))]) [])
abbrev Zix {R:Type} (N:Nat):Nat → List V → S → (X → List V → S → Option R) → Option R:=fun n=>Zha C (Ziw N) (ZiL N) Zfw [0,1,0,1,1,1] false Ziq ZnU n R
theorem ZuV {R:Type} (N n:Nat) (e_1:List V) (f_2:Fl) (e_5:List V) (f_6:Fl) (x_7:Int) (e_3:List V) (f_9:Fl) (x_4 x_8:Int) (K:X → List V → S → Option R) :
 Zix N (n + 1) (Zf2 e_1 f_2 e_5 f_6 x_7 e_3 f_9 x_4 x_8) [] K =
 Zcg N e_1 f_2 e_5 f_6 x_7 (fun e_3 f_9 x_4 x_8=>Zix N n (Zf2 e_1 f_2 e_5 f_6 x_7 e_3 f_9 x_4 x_8) [] K) e_3 f_9 x_4 x_8 (Zfa K e_1 f_2 e_5 f_6 x_7) (Zex K e_1 f_2 e_5 f_6 x_7):=by kernel_rfl
theorem ZrF {R:Type} (N:Nat) (e_1:List V) (f_2:Fl) (e_5:List V) (f_6:Fl) (x_7:Int) (K:X → List V → S → Option R):∀ (n:Nat) (e_3:List V) (f_9:Fl) (x_4 x_8:Int),
 Zix N n (Zf2 e_1 f_2 e_5 f_6 x_7 e_3 f_9 x_4 x_8) [] K = ZcY N e_1 f_2 e_5 f_6 x_7 (Zfa K e_1 f_2 e_5 f_6 x_7) (Zex K e_1 f_2 e_5 f_6 x_7) n e_3 f_9 x_4 x_8
 | 0,_,_,_,_=>rfl
 | n + 1,e_3,f_9,x_4,x_8=>(ZuV N n e_1 f_2 e_5 f_6 x_7 e_3 f_9 x_4 x_8 K).trans (congrArg (fun nx=>Zcg N e_1 f_2 e_5 f_6 x_7 nx e_3 f_9 x_4 x_8 (Zfa K e_1 f_2 e_5 f_6 x_7) (Zex K e_1 f_2 e_5 f_6 x_7)) (funext fun e_3=>funext fun f_9=>funext fun x_4=>funext fun x_8=>ZrF N e_1 f_2 e_5 f_6 x_7 K n e_3 f_9 x_4 x_8))
def Zlr {R:Type} (E:List V) (s:S) (k:List V → Fl → List V → Fl → Int → List V → Fl → Int → Int → Option R):Option R :=
 Zaf (Zbn 44 [0,3,4,9,10,11] E) <| ZbC E 0 1 fun e_1 f_2=>ZbC E 3 1 fun e_3 f_9=>Zbm E 4 .i64 fun x_4=>ZbC E 9 1 fun e_5 f_6=>Zbm E 10 .i64 fun x_7=>Zbm E 11 .i64 fun x_8=>Zbd s <| k e_1 f_2 e_3 f_9 x_4 e_5 f_6 x_7 x_8
theorem Zkz {R:Type} {E:List V} {s:S} {k:List V → Fl → List V → Fl → Int → List V → Fl → Int → Int → Option R} {r:R} (h:Zlr E s k = some r):∃ e_1 f_2 e_3 f_9 x_4 e_5 f_6 x_7 x_8,E = Zf2 e_1 f_2 e_5 f_6 x_7 e_3 f_9 x_4 x_8 ∧ s = [] ∧ k e_1 f_2 e_3 f_9 x_4 e_5 f_6 x_7 x_8 = some r:=by
 unfold Zlr at h
 obtain ⟨hg,h1⟩:=Zaa h
 obtain ⟨_,_,hu0,h2⟩:=ZaC h1
 obtain ⟨_,_,hu3,h3⟩:=ZaC h2
 obtain ⟨_,hu4,h4⟩:=Zaq h3
 obtain ⟨_,_,hu9,h5⟩:=ZaC h4
 obtain ⟨_,hu10,h6⟩:=Zaq h5
 obtain ⟨_,hu11,h7⟩:=Zaq h6
 obtain ⟨rfl,h8⟩:=Zao h7
 exact ⟨_,_,_,_,_,_,_,_,_,Zbe hg rfl (Zah hu0 (Zah hu3 (Zah hu4 (Zah hu9 (Zah hu10 (Zah hu11 Za1)))))),rfl,h8⟩
def Zml (N:Nat):ZaB:=(ZiL N).add [0,1,0,1,1,1] fun _ E s K=>Zlr (Za7 Ziq E) s fun e_1 f_2 e_3 f_9 x_4 e_5 f_6 x_7 x_8=>ZcY N e_1 f_2 e_5 f_6 x_7 (Zfa K e_1 f_2 e_5 f_6 x_7) (Zex K e_1 f_2 e_5 f_6 x_7) N e_3 f_9 x_4 x_8
theorem Zsx:Za8 Zfw (0 :: [0,1,0,1,1,1]) = [([0,1,1,1,0,0,1,1,0,0,1,0,1,1,1],ZmF)]:=by kernel_rfl
theorem ZsB {N:Nat} (hC:Ok Try.prog C) (hΦ:Zab Try.prog C (Ziw N)):Zbt Try.prog C (Zml N) Zfw [0,1,0,1,1,1] :=
 Zbv (Λi:=ZiL N) (tr:=false) (ks:=Ziq) (kx:=ZnU) (N:=N) hC hΦ
  (ZaT Zfw _ (by
   rw [Zsx]
   intro p hp
   simp only [List.mem_cons,List.mem_nil_iff,or_false] at hp
   rcases hp with rfl
   ·exact (Zsh hC hΦ)))
  fun R E s K r h=>by
   have h2:=ZaB.add_self.symm.trans h
   refine (ZaS rfl).trans ?_
   obtain ⟨_,_,_,_,_,_,_,_,_,he,rfl,h3⟩:=Zkz h2
   rw [he]
   exact (ZrF N _ _ _ _ _ _ N _ _ _ _).trans h3
theorem ZvX:Za8 ZqK [] = [([0,1,0,1,1,1],Zfw)]:=by kernel_rfl
theorem Zwy {R:Type} (N:Nat) (e_1:List V) (f_2:Fl) (K:V → S → Option R):Zbw C (Ziw N) (Zml N) 104 Try.f104 [.list 1 e_1 f_2] [] K =
 ZjU N e_1 f_2 (fun b_3=>K (.bool b_3) []):=by kernel_rfl
theorem Zrx {N:Nat} (hC:Ok Try.prog C) (hΦ:Zab Try.prog C (Ziw N)):ZaR Try.prog C (Zml N) ZqK [] :=
 ZaT ZqK [] (by
  rw [ZvX]
  intro p hp
  simp only [List.mem_cons,List.mem_nil_iff,or_false] at hp
  rcases hp with rfl
  ·exact (ZsB hC hΦ))
theorem Zpk (hC:Ok Try.prog C) {N:Nat} (hΦ:Zab Try.prog C (Ziw N)):Zab Try.prog C (Ztz N):=by
 refine hΦ.add_pure rfl fun R vs K r h=>?_
 unfold Zu8 at h
 obtain ⟨_,rfl,h1⟩:=ZbO h
 obtain ⟨_,_,rfl,h2⟩:=Zas h1
 obtain ⟨_,h3⟩:=Zao h2
 refine ZaX (fn:=Try.f104) (c:=ZqK) hC hΦ Try.func104 (by kernel_rfl) (by kernel_rfl) (Zrx (N:=N) hC hΦ) rfl rfl ?_
 refine (Zwy N _ _ _).trans ?_
 rw [← Zn8]
 exact h3
def Zv9 (N:Nat):(R:Type) → List V → S → (V → S → Option R) → Option R:=fun _ vs s K =>
 Zii vs fun v'1 v'2=>ZaP 1 v'1 fun e_1 f_2=>asInt .i64 v'2 fun x_3=>Zbd s <| Ztr N e_1 f_2 x_3 (fun b_4=>K (.bool b_4) [])
def ZuD (N:Nat):Zat:=(Ztz N).add 76 (Zv9 N)
def Zxa:Code:=Zbp Try.f76
theorem Zw2 {R:Type} (N:Nat) (e_1:List V) (f_2:Fl) (x_3:Int) (K:V → S → Option R):Zbw C (Ztz N) (Zam) 76 Try.f76 [.list 1 e_1 f_2,.int .i64 x_3] [] K =
 Zkl N e_1 f_2 x_3 (fun b_4=>K (.bool b_4) []):=by kernel_rfl
theorem Zo0 (hC:Ok Try.prog C) {N:Nat} (hΦ:Zab Try.prog C (Ztz N)):Zab Try.prog C (ZuD N):=by
 refine hΦ.add_pure rfl fun R vs K r h=>?_
 unfold Zv9 at h
 obtain ⟨_,_,rfl,h1⟩:=Za9 h
 obtain ⟨_,_,rfl,h2⟩:=Zas h1
 obtain ⟨_,rfl,h3⟩:=Zay h2
 obtain ⟨_,h4⟩:=Zao h3
 refine ZaX (fn:=Try.f76) (c:=Zxa) hC hΦ Try.func76 (by kernel_rfl) (by kernel_rfl) (Zav (Λ:=Zam) (by kernel_rfl)) rfl rfl ?_
 refine (Zw2 N _ _ _ _).trans ?_
 rw [← Zm6]
 exact h4
def Zvt (N:Nat):(R:Type) → List V → S → (V → S → Option R) → Option R:=fun _ vs s K =>
 ZpM vs fun v'1=>ZaP 1 v'1 fun e_1 f_2=>Zbd s <| Zsg N e_1 f_2 (fun k_901 e_902=>K (.arr 0 0 0 k_901) [some ⟨e_902,1,3,0⟩])
def Zmd (N:Nat):Zat:=(ZuD N).add 115 (Zvt N)
open Go.RowKit Go.Lib in
set_option maxRecDepth 100000 in
theorem Zo1 (c:Nat) (w:World) (i0:TypeInfo) (hi0:Try.prog.info? 3 = some i0):Calls Try.prog 115 #[.slice none 0 c] w fun ev w'=>∃ A,ev = .returned (.slice A 0 0) ∧ Below w.heap.size w w':=by
 have hrun:(Builtin.append_ #[32,32] 32 #[.slice (some ⟨w.heap.size,0,none⟩) 0 0,.slice none 0 c]).run Try.prog (w.alloc (.cells #[] 3)) = .ok (.slice (some ⟨w.heap.size,0,none⟩) 0 0) (w.alloc (.cells #[] 3)):=by
  simp [Builtin.append_,run_underlying Try.underlying32,sizeOf,typeInfo,hi0,Builtin.lenOf,run_firstCells_none,storeCells]
 go_enter Try.func115,Try.ntmps115
 go_wp2_with (at_builtin; refine Lib.wpList_append_run _ rfl _ _ _ _ rfl _ _ rfl rfl _ _ hrun ?_)
 go_wp2
 go_ret
 exact ⟨_,rfl,(Below.refl _ w).alloc (Nat.le_refl _) _⟩
open Go.RowKit Go.Lib in
set_option maxRecDepth 100000 in
set_option maxHeartbeats 1000000 in
theorem Zo3 (a:Addr) (c:Nat) (w:World) (i0:TypeInfo) (hi0:Try.prog.info? 3 = some i0):Calls Try.prog 115 #[.slice (some a) 0 c] w fun ev w'=>∃ A,ev = .returned (.slice A 0 0) ∧ Below w.heap.size w w':=by
 obtain ⟨w2,hrun,hown,hgrow⟩:=run_append_fits (P:=Try.prog) (w.alloc (.cells #[] 3)) w.heap.size 32 32 3 i0 i0.size Try.underlying32 hi0 rfl w.heap.size 0 0 [] (World.ownsRow_made w #[] 0 (Nat.le_refl _) (Nat.zero_le _) (by simp)) a 0 c [] (by simp) (by simp) (by simp) (Nat.le_refl _)
 go_enter Try.func115,Try.ntmps115
 go_wp2_with (at_builtin; refine Lib.wpList_append_run _ rfl _ _ _ _ rfl _ _ rfl rfl _ _ hrun ?_)
 go_wp2
 go_ret
 exact ⟨_,rfl,((Below.refl _ w).alloc (Nat.le_refl _) _).grown hgrow (by simp) (by intro k hk; simp at hk; omega)⟩
open Go.RowKit Go.Lib in
set_option maxRecDepth 100000 in
set_option maxHeartbeats 1000000 in
theorem Zpt (a:Addr) (m c:Nat) (news:List Value) (w:World) (i0:TypeInfo) (z:Value) (hm:0 < m) (hi0:Try.prog.info? 3 = some i0) (hz0:i0.zero = some z) (hzs:z.cells.size = i0.size) (hs0:0 < i0.size) (hl:news.length = m * i0.size)
  (hnews:∀ j u,news[j]? = some u → w.cell? (a.add j) = some u) (hone:∀ u ∈ news,u.oneCell' = true) (hbig:m * i0.bytes ≤ 140737488355328) (hmx:m ≤ maxLen) :
  Calls Try.prog 115 #[.slice (some a) m c] w fun ev w'=>∃ G cap,ev = .returned (.slice (some ⟨G,0,none⟩) m cap) ∧ m ≤ cap ∧ cap ≤ maxLen ∧ w.heap.size ≤ G ∧
   w'.heap[G]? = some (.cells (news.toArray ++ Builtin.zeroCells z.cells (cap - m)) 3 (0,0)) ∧ Below w.heap.size w w':=by
 have hrun:=run_append_grow (P:=Try.prog) (w:=w.alloc (.cells #[] 3)) 32 32 3 i0 z Try.underlying32 hi0 hz0 ⟨w.heap.size,0,none⟩ 0 0 [] (by simp) (by simp) a m c news hl (fun j u hj=>by
  have:=hnews j u hj
  cases a
  exact Lib.cell?_alloc_some _ this) (by omega) (by unfold maxLen at hmx; omega) (by have:=growslice_fits (old:=0) (need:=m) hm hbig; simpa using this)
 have hG:=grownCap_ge (w.alloc (.cells #[] 3)) (0 + m) 0 3
 have hG2:=grownCap_le_maxLen (w.alloc (.cells #[] 3)) (0 + m) 0 3 (by omega)
 generalize grownCap (w.alloc (.cells #[] 3)) (0 + m) 0 3 = G at hrun hG hG2
 simp only [Nat.zero_add] at hrun hG hG2
 obtain ⟨zc,hzc⟩:∃ zc,zc = z.cells:=⟨_,rfl⟩
 rw [← hzc] at hrun ⊢
 clear hzc hzs hz0
 go_enter Try.func115,Try.ntmps115
 go_wp2_with (at_builtin; refine Lib.wpList_append_run _ rfl _ _ _ _ rfl _ _ rfl rfl _ _ hrun ?_)
 go_wp2
 go_ret
 refine ⟨_,_,rfl,hG,hG2,by simp,?_,?_⟩
 ·have:=Zb5 (w.alloc (.cells #[] 3)) (.cells (news.toArray ++ Builtin.zeroCells zc (G - m)) 3)
  have e:(w.alloc (.cells #[] 3)).heap.size = w.heap.size + 1:=by simp
  rw [e] at this
  exact this
 ·have:=((Below.refl w.heap.size w).alloc (Nat.le_refl _) (.cells #[] 3)).alloc (by simp) (.cells (news.toArray ++ Builtin.zeroCells zc (G - m)) 3)
  exact this.drew
theorem ZoU (hC:Ok Try.prog C) {N:Nat} (hΦ:Zab Try.prog C (ZuD N)):Zab Try.prog C (Zmd N):=by
 refine hΦ.add_fresh rfl fun R vs K r h=>?_
 unfold Zvt at h
 obtain ⟨_,rfl,h1⟩:=ZbO h
 obtain ⟨_,_,rfl,h2⟩:=Zas h1
 obtain ⟨_,h3⟩:=Zao h2
 rw [Zob] at h3
 unfold Zj2 at h3
 obtain ⟨h1,h2⟩:=ZgH hC (e:=3) (by kernel_rfl) Try.func115 (by kernel_rfl) (by kernel_rfl) Zo1 Zo3 Zpt (B:=8) (sz:=1) (by kernel_rfl) (by kernel_rfl) h3
 exact ⟨_,_,h1,h2⟩
def ZvB (N:Nat):(R:Type) → List V → S → (V → S → Option R) → Option R:=fun _ vs s K =>
 ZpM vs fun v'1=>ZaP 1 v'1 fun e_1 f_2=>Zbd s <| Ztm N e_1 f_2 (fun k_901 e_902=>K (.arr 0 0 0 k_901) [some ⟨e_902,1,32,0⟩])
def Zsl (N:Nat):Zat:=(Zmd N).add 77 (ZvB N)
def ZrZ:Code:=Zbp Try.f77
def ZlH:Code:=(Zb3 ZrZ [] 0).2
def ZfG:TypeId → Option (Nat × TypeId):=fun t=>if Nat.beq t 32 then some (0,3) else none
abbrev Zoy:Cfg:=C.rowed true true (some 0) ZfG [] [] [] []
def ZiX:List Nat:=Zdq 19 [3,6,7,8]
def ZnV:List Nat:=Zdq 19 [3]
def Zgc (e_1:List V) (f_2:Fl) (x_3:Int) (k_5:Nat) (x_4:Int) (e_6:List V):List V:=mkF 0 19 [(3,.arr 1 0 0 k_5),(6,.list 1 e_1 f_2),(7,.int .i64 x_3),(8,.int .i64 x_4)]
def Zfb {R:Type} (K:X → List V → S → Option R) (e_1:List V) (f_2:Fl) (x_3:Int):Nat → List V → Option R:=(fun k_1' e_2'=>K (.exit 0) (mkF 0 19 [(3,.arr 1 0 0 (k_1'))]) [some ⟨[],1,32,0⟩,some ⟨e_2',1,32,0⟩])
abbrev Zir {R:Type} (N:Nat):Nat → List V → S → (X → List V → S → Option R) → Option R:=fun n=>Zha Zoy (Zmd N) (Zam) ZlH [0,1,0,1,1] true ZiX ZnV n R
theorem Zug {R:Type} (N n:Nat) (e_1:List V) (f_2:Fl) (x_3:Int) (k_5:Nat) (x_4:Int) (e_6:List V) (K:X → List V → S → Option R) :
 Zir N (n + 1) (Zgc e_1 f_2 x_3 k_5 x_4 e_6) [some ⟨[],1,32,0⟩,some ⟨e_6,1,32,0⟩] K =
 Zci N e_1 f_2 x_3 (fun k_5 x_4 e_6=>Zir N n (Zgc e_1 f_2 x_3 k_5 x_4 e_6) [some ⟨[],1,32,0⟩,some ⟨e_6,1,32,0⟩] K) k_5 x_4 e_6 (Zfb K e_1 f_2 x_3):=by kernel_rfl
theorem Zr1 {R:Type} (N:Nat) (e_1:List V) (f_2:Fl) (x_3:Int) (K:X → List V → S → Option R):∀ (n:Nat) (k_5:Nat) (x_4:Int) (e_6:List V),
 Zir N n (Zgc e_1 f_2 x_3 k_5 x_4 e_6) [some ⟨[],1,32,0⟩,some ⟨e_6,1,32,0⟩] K = Zeg N e_1 f_2 x_3 (Zfb K e_1 f_2 x_3) n k_5 x_4 e_6
 | 0,_,_,_=>rfl
 | n + 1,k_5,x_4,e_6=>(Zug N n e_1 f_2 x_3 k_5 x_4 e_6 K).trans (congrArg (fun nx=>Zci N e_1 f_2 x_3 nx k_5 x_4 e_6 (Zfb K e_1 f_2 x_3)) (funext fun k_5=>funext fun x_4=>funext fun e_6=>Zr1 N e_1 f_2 x_3 K n k_5 x_4 e_6))
def Zl7 {R:Type} (E:List V) (s:S) (k:Nat → List V → Fl → Int → Int → List V → Option R):Option R :=
 Zaf (Zbn 19 [3,6,7,8] E) <| ZbA (nth E 3) fun u3=>Zhl u3 fun k'1 k'2 k'3 k_5=>isN k'1 1 <| isN k'2 0 <| isN k'3 0 <| ZbC E 6 1 fun e_1 f_2=>Zbm E 7 .i64 fun x_3=>Zbm E 8 .i64 fun x_4=>Zr5 s fun o'4 s'5=>ZpK o'4 1 32 fun e'6 k'7=>isN k'7 0 <| Zwm e'6 <| Zr5 s'5 fun o'8 s'9=>ZpK o'8 1 32 fun e_6 k'10=>isN k'10 0 <| Zbd s'9 <| k k_5 e_1 f_2 x_3 x_4 e_6
theorem ZkF {R:Type} {E:List V} {s:S} {k:Nat → List V → Fl → Int → Int → List V → Option R} {r:R} (h:Zl7 E s k = some r):∃ k_5 e_1 f_2 x_3 x_4 e_6,E = Zgc e_1 f_2 x_3 k_5 x_4 e_6 ∧ s = [some ⟨[],1,32,0⟩,some ⟨e_6,1,32,0⟩] ∧ k k_5 e_1 f_2 x_3 x_4 e_6 = some r:=by
 unfold Zl7 at h
 obtain ⟨hg,h1⟩:=Zaa h
 obtain ⟨_,hu3,h2⟩:=Zae h1
 obtain ⟨_,_,_,_,rfl,h3⟩:=ZbT h2
 obtain ⟨rfl,h4⟩:=ZaJ h3
 obtain ⟨rfl,h5⟩:=ZaJ h4
 obtain ⟨rfl,h6⟩:=ZaJ h5
 obtain ⟨_,_,hu6,h7⟩:=ZaC h6
 obtain ⟨_,hu7,h8⟩:=Zaq h7
 obtain ⟨_,hu8,h9⟩:=Zaq h8
 obtain ⟨_,_,rfl,h10⟩:=Zco h9
 obtain ⟨_,_,rfl,h11⟩:=ZbN h10
 obtain ⟨rfl,h12⟩:=ZaJ h11
 obtain ⟨rfl,h13⟩:=Zkg h12
 obtain ⟨_,_,rfl,h14⟩:=Zco h13
 obtain ⟨_,_,rfl,h15⟩:=ZbN h14
 obtain ⟨rfl,h16⟩:=ZaJ h15
 obtain ⟨rfl,h17⟩:=Zao h16
 exact ⟨_,_,_,_,_,_,Zbe hg rfl (Zah hu3 (Zah hu6 (Zah hu7 (Zah hu8 Za1)))),rfl,h17⟩
def ZmK (N:Nat):ZaB:=(Zam).add [0,1,0,1,1] fun _ E s K=>Zdb Zoy (Za7 ZiX E) s fun E s=>Zl7 E s (fun k_5 e_1 f_2 x_3 x_4 e_6=>(Zeg N e_1 f_2 x_3 (Zfb K e_1 f_2 x_3) N k_5 x_4 e_6))
theorem Zsk {N:Nat} (hC:Ok Try.prog C) (hΦ:Zab Try.prog C (Zmd N)):Zbt Try.prog Zoy (ZmK N) ZlH [0,1,0,1,1] :=
 Zbv (Λi:=Zam) (tr:=true) (ks:=ZiX) (kx:=ZnV) (N:=N) (hC.rowed true true (some 0) ZfG [] [] [] []) (hΦ.rowed true true (some 0) ZfG [] [] [] [])
  (Zav (by kernel_rfl))
  fun R E s K r h=>by
   have h2:=ZaB.add_self.symm.trans h
   refine ZgT (fun E s h2=>?_) h2
   obtain ⟨_,_,_,_,_,_,he,rfl,h3⟩:=ZkF h2
   rw [he]
   exact (Zr1 N _ _ _ _ N _ _ _).trans h3
theorem ZvJ:Za8 ZrZ [] = [([0,1,0,1,1],ZlH)]:=by kernel_rfl
theorem Zxh {R:Type} (N:Nat) (e_1:List V) (f_2:Fl) (K:V → S → Option R):Zbw Zoy (Zmd N) (ZmK N) 77 Try.f77 [.list 1 e_1 f_2] [] (GF rl K) =
 ZjW N e_1 f_2 (fun k_901 e_902=>K (.arr 0 0 0 k_901) [some ⟨e_902,1,32,0⟩]):=by kernel_rfl
theorem ZqN {N:Nat} (hC:Ok Try.prog C) (hΦ:Zab Try.prog C (Zmd N)):ZaR Try.prog Zoy (ZmK N) ZrZ [] :=
 ZaT ZrZ [] (by
  rw [ZvJ]
  intro p hp
  simp only [List.mem_cons,List.mem_nil_iff,or_false] at hp
  rcases hp with rfl
  ·exact (Zsk hC hΦ))
theorem Zpm (hC:Ok Try.prog C) {N:Nat} (hΦ:Zab Try.prog C (Zmd N)):Zab Try.prog C (Zsl N):=by
 refine hΦ.add_fresh rfl fun R vs K r h=>?_
 unfold ZvB at h
 obtain ⟨_,rfl,h1⟩:=ZbO h
 obtain ⟨_,_,rfl,h2⟩:=Zas h1
 obtain ⟨_,h3⟩:=Zao h2
 refine ZbV (C:=C) true true (some 0) ZfG [] [] [] [] ?_
 refine Zb9 (C:=Zoy) (fn:=Try.f77) (c:=ZrZ) (hC.rowed true true (some 0) ZfG [] [] [] []) (hΦ.rowed true true (some 0) ZfG [] [] [] []) Try.func77 (by kernel_rfl) (by kernel_rfl) (ZqN (N:=N) hC hΦ) rfl rfl ?_
 refine (Zxh N _ _ _).trans ?_
 rw [← ZnS]
 exact h3
def ZvV (N:Nat):(R:Type) → List V → S → (V → S → Option R) → Option R:=fun _ vs s K =>
 Zii vs fun v'1 v'2=>ZaP 1 v'1 fun e_1 f_2=>asInt .i64 v'2 fun x_3=>Zbd s <| Zsr N e_1 f_2 x_3 (fun k_903 x_901 b_902 e_904=>K (.tuple [.arr 0 0 0 k_903,.int .i64 x_901,.bool b_902]) [some ⟨e_904,1,32,0⟩])
def Zln (N:Nat):Zat:=(Zsl N).add 15 (ZvV N)
def ZwO:Code:=Zbp Try.f15
def Zjc:TypeId → Option (Nat × TypeId):=fun t=>if Nat.beq t 32 then some (0,3) else none
abbrev Zvg:Cfg:=C.rowed true true none Zjc [] [] [] []
theorem ZwF {R:Type} (N:Nat) (e_1:List V) (f_2:Fl) (x_3:Int) (K:V → S → Option R):Zbw Zvg (Zsl N) (Zam) 15 Try.f15 [.list 1 e_1 f_2,.int .i64 x_3] [] (GF rl K) =
 ZkV N e_1 f_2 x_3 (fun k_903 x_901 b_902 e_904=>K (.tuple [.arr 0 0 0 k_903,.int .i64 x_901,.bool b_902]) [some ⟨e_904,1,32,0⟩]):=by kernel_rfl
theorem Zo9 (hC:Ok Try.prog C) {N:Nat} (hΦ:Zab Try.prog C (Zsl N)):Zab Try.prog C (Zln N):=by
 refine hΦ.add_fresh rfl fun R vs K r h=>?_
 unfold ZvV at h
 obtain ⟨_,_,rfl,h1⟩:=Za9 h
 obtain ⟨_,_,rfl,h2⟩:=Zas h1
 obtain ⟨_,rfl,h3⟩:=Zay h2
 obtain ⟨_,h4⟩:=Zao h3
 refine ZbV (C:=C) true true none Zjc [] [] [] [] ?_
 refine Zb9 (C:=Zvg) (fn:=Try.f15) (c:=ZwO) (hC.rowed true true none Zjc [] [] [] []) (hΦ.rowed true true none Zjc [] [] [] []) Try.func15 (by kernel_rfl) (by kernel_rfl) (Zav (Λ:=Zam) (by kernel_rfl)) rfl rfl ?_
 refine (ZwF N _ _ _ _).trans ?_
 rw [← Znr]
 exact h4
def Zv6 (N:Nat):(R:Type) → List V → S → (V → S → Option R) → Option R:=fun _ vs s K =>
 ZpM vs fun v'1=>ZaP 1 v'1 fun e_1 f_2=>Zbd s <| Zsv N e_1 f_2 (fun k_901 e_902=>K (.arr 0 0 0 k_901) [some ⟨e_902,1,3,0⟩])
def Zl5 (N:Nat):Zat:=(Zln N).add 24 (Zv6 N)
def ZpS:Code:=Zbp Try.f24
def Zmc:Code:=(Zb3 ZpS [] 0).2
def ZiI:List Nat:=Zdq 22 [0,3,4]
def Zn2:List Nat:=Zdq 22 [3]
def Zgj (e_1:List V) (f_2:Fl) (k_3:Nat) (x_4:Int) (e_5:List V):List V:=mkF 0 22 [(0,.list 1 e_1 f_2),(3,.arr 0 0 0 k_3),(4,.int .i64 x_4)]
def ZeQ {R:Type} (K:X → List V → S → Option R) (e_1:List V) (f_2:Fl) (k_3:Nat):List V → Option R:=(fun e_1'=>K (.exit 0) (mkF 0 22 [(3,.arr 0 0 0 k_3)]) [some ⟨e_1',1,3,0⟩])
abbrev Zi9 {R:Type} (N:Nat):Nat → List V → S → (X → List V → S → Option R) → Option R:=fun n=>Zha C (Zln N) (Zam) Zmc [0,1,0,1,1] false ZiI Zn2 n R
theorem Zt9 {R:Type} (N n:Nat) (e_1:List V) (f_2:Fl) (k_3:Nat) (x_4:Int) (e_5:List V) (K:X → List V → S → Option R) :
 Zi9 N (n + 1) (Zgj e_1 f_2 k_3 x_4 e_5) [some ⟨e_5,1,3,0⟩] K =
 Zcs N e_1 f_2 k_3 (fun x_4 e_5=>Zi9 N n (Zgj e_1 f_2 k_3 x_4 e_5) [some ⟨e_5,1,3,0⟩] K) x_4 e_5 (ZeQ K e_1 f_2 k_3):=by kernel_rfl
theorem Zrh {R:Type} (N:Nat) (e_1:List V) (f_2:Fl) (k_3:Nat) (K:X → List V → S → Option R):∀ (n:Nat) (x_4:Int) (e_5:List V),
 Zi9 N n (Zgj e_1 f_2 k_3 x_4 e_5) [some ⟨e_5,1,3,0⟩] K = ZdA N e_1 f_2 k_3 (ZeQ K e_1 f_2 k_3) n x_4 e_5
 | 0,_,_=>rfl
 | n + 1,x_4,e_5=>(Zt9 N n e_1 f_2 k_3 x_4 e_5 K).trans (congrArg (fun nx=>Zcs N e_1 f_2 k_3 nx x_4 e_5 (ZeQ K e_1 f_2 k_3)) (funext fun x_4=>funext fun e_5=>Zrh N e_1 f_2 k_3 K n x_4 e_5))
def Zmk {R:Type} (E:List V) (s:S) (k:List V → Fl → Nat → Int → List V → Option R):Option R :=
 Zaf (Zbn 22 [0,3,4] E) <| ZbC E 0 1 fun e_1 f_2=>ZbA (nth E 3) fun u3=>Zhl u3 fun k'1 k'2 k'3 k_3=>isN k'1 0 <| isN k'2 0 <| isN k'3 0 <| Zbm E 4 .i64 fun x_4=>Zr5 s fun o'4 s'5=>ZpK o'4 1 3 fun e_5 k'6=>isN k'6 0 <| Zbd s'5 <| k e_1 f_2 k_3 x_4 e_5
theorem Zla {R:Type} {E:List V} {s:S} {k:List V → Fl → Nat → Int → List V → Option R} {r:R} (h:Zmk E s k = some r):∃ e_1 f_2 k_3 x_4 e_5,E = Zgj e_1 f_2 k_3 x_4 e_5 ∧ s = [some ⟨e_5,1,3,0⟩] ∧ k e_1 f_2 k_3 x_4 e_5 = some r:=by
 unfold Zmk at h
 obtain ⟨hg,h1⟩:=Zaa h
 obtain ⟨_,_,hu0,h2⟩:=ZaC h1
 obtain ⟨_,hu3,h3⟩:=Zae h2
 obtain ⟨_,_,_,_,rfl,h4⟩:=ZbT h3
 obtain ⟨rfl,h5⟩:=ZaJ h4
 obtain ⟨rfl,h6⟩:=ZaJ h5
 obtain ⟨rfl,h7⟩:=ZaJ h6
 obtain ⟨_,hu4,h8⟩:=Zaq h7
 obtain ⟨_,_,rfl,h9⟩:=Zco h8
 obtain ⟨_,_,rfl,h10⟩:=ZbN h9
 obtain ⟨rfl,h11⟩:=ZaJ h10
 obtain ⟨rfl,h12⟩:=Zao h11
 exact ⟨_,_,_,_,_,Zbe hg rfl (Zah hu0 (Zah hu3 (Zah hu4 Za1))),rfl,h12⟩
def Zle (N:Nat):ZaB:=(Zam).add [0,1,0,1,1] fun _ E s K=>Zmk (Za7 ZiI E) s fun e_1 f_2 k_3 x_4 e_5=>ZdA N e_1 f_2 k_3 (ZeQ K e_1 f_2 k_3) N x_4 e_5
theorem Zs2 {N:Nat} (hC:Ok Try.prog C) (hΦ:Zab Try.prog C (Zln N)):Zbt Try.prog C (Zle N) Zmc [0,1,0,1,1] :=
 Zbv (Λi:=Zam) (tr:=false) (ks:=ZiI) (kx:=Zn2) (N:=N) hC hΦ
  (Zav (by kernel_rfl))
  fun R E s K r h=>by
   have h2:=ZaB.add_self.symm.trans h
   refine (ZaS rfl).trans ?_
   obtain ⟨_,_,_,_,_,he,rfl,h3⟩:=Zla h2
   rw [he]
   exact (Zrh N _ _ _ _ N _ _).trans h3
theorem ZvW:Za8 ZpS [] = [([0,1,0,1,1],Zmc)]:=by kernel_rfl
theorem Zxd {R:Type} (N:Nat) (e_1:List V) (f_2:Fl) (K:V → S → Option R):Zbw C (Zln N) (Zle N) 24 Try.f24 [.list 1 e_1 f_2] [] (GF rl K) =
 ZkI N e_1 f_2 (fun k_901 e_902=>K (.arr 0 0 0 k_901) [some ⟨e_902,1,3,0⟩]):=by kernel_rfl
theorem ZpQ {N:Nat} (hC:Ok Try.prog C) (hΦ:Zab Try.prog C (Zln N)):ZaR Try.prog C (Zle N) ZpS [] :=
 ZaT ZpS [] (by
  rw [ZvW]
  intro p hp
  simp only [List.mem_cons,List.mem_nil_iff,or_false] at hp
  rcases hp with rfl
  ·exact (Zs2 hC hΦ))
theorem ZpC (hC:Ok Try.prog C) {N:Nat} (hΦ:Zab Try.prog C (Zln N)):Zab Try.prog C (Zl5 N):=by
 refine hΦ.add_fresh rfl fun R vs K r h=>?_
 unfold Zv6 at h
 obtain ⟨_,rfl,h1⟩:=ZbO h
 obtain ⟨_,_,rfl,h2⟩:=Zas h1
 obtain ⟨_,h3⟩:=Zao h2
 refine Zb9 (C:=C) (fn:=Try.f24) (c:=ZpS) hC (hΦ) Try.func24 (by kernel_rfl) (by kernel_rfl) (ZpQ (N:=N) hC hΦ) rfl rfl ?_
 refine (Zxd N _ _ _).trans ?_
 rw [← ZnF]
 exact h3
def Zv8 (N:Nat):(R:Type) → List V → S → (V → S → Option R) → Option R:=fun _ vs s K =>
 ZpM vs fun v'1=>ZaP 1 v'1 fun e_1 f_2=>Zbd s <| ZlW N e_1 f_2 (fun k_901 e_902=>K (.arr 0 0 0 k_901) [some ⟨e_902,1,32,0⟩])
def Zsj (N:Nat):Zat:=(Zl5 N).add 16 (Zv8 N)
def Zql:Code:=Zbp Try.f16
def Zmr:Code:=(Zb3 Zql [] 0).2
def ZfC:TypeId → Option (Nat × TypeId):=fun t=>if Nat.beq t 32 then some (0,3) else none
abbrev ZrL:Cfg:=C.rowed false true none ZfC [] [] [] []
def ZiT:List Nat:=Zdq 23 [0,3,4]
def ZnG:List Nat:=Zdq 23 [3]
def Zf8 (e_1:List V) (f_2:Fl) (k_3:Nat) (x_4:Int) (e_5:List V):List V:=mkF 0 23 [(0,.list 1 e_1 f_2),(3,.arr 0 0 0 k_3),(4,.int .i64 x_4)]
def ZeZ {R:Type} (K:X → List V → S → Option R) (e_1:List V) (f_2:Fl) (k_3:Nat):List V → Option R:=(fun e_1'=>K (.exit 0) (mkF 0 23 [(3,.arr 0 0 0 k_3)]) [some ⟨e_1',1,32,0⟩])
abbrev Zi8 {R:Type} (N:Nat):Nat → List V → S → (X → List V → S → Option R) → Option R:=fun n=>Zha ZrL (Zl5 N) (Zam) Zmr [0,1,0,1,1] true ZiT ZnG n R
theorem Zuf {R:Type} (N n:Nat) (e_1:List V) (f_2:Fl) (k_3:Nat) (x_4:Int) (e_5:List V) (K:X → List V → S → Option R) :
 Zi8 N (n + 1) (Zf8 e_1 f_2 k_3 x_4 e_5) [some ⟨e_5,1,32,0⟩] K =
 Zck N e_1 f_2 k_3 (fun x_4 e_5=>Zi8 N n (Zf8 e_1 f_2 k_3 x_4 e_5) [some ⟨e_5,1,32,0⟩] K) x_4 e_5 (ZeZ K e_1 f_2 k_3):=by kernel_rfl
theorem ZrG {R:Type} (N:Nat) (e_1:List V) (f_2:Fl) (k_3:Nat) (K:X → List V → S → Option R):∀ (n:Nat) (x_4:Int) (e_5:List V),
 Zi8 N n (Zf8 e_1 f_2 k_3 x_4 e_5) [some ⟨e_5,1,32,0⟩] K = Zdz N e_1 f_2 k_3 (ZeZ K e_1 f_2 k_3) n x_4 e_5
 | 0,_,_=>rfl
 | n + 1,x_4,e_5=>(Zuf N n e_1 f_2 k_3 x_4 e_5 K).trans (congrArg (fun nx=>Zck N e_1 f_2 k_3 nx x_4 e_5 (ZeZ K e_1 f_2 k_3)) (funext fun x_4=>funext fun e_5=>ZrG N e_1 f_2 k_3 K n x_4 e_5))
def Zli {R:Type} (E:List V) (s:S) (k:List V → Fl → Nat → Int → List V → Option R):Option R :=
 Zaf (Zbn 23 [0,3,4] E) <| ZbC E 0 1 fun e_1 f_2=>ZbA (nth E 3) fun u3=>Zhl u3 fun k'1 k'2 k'3 k_3=>isN k'1 0 <| isN k'2 0 <| isN k'3 0 <| Zbm E 4 .i64 fun x_4=>Zr5 s fun o'4 s'5=>ZpK o'4 1 32 fun e_5 k'6=>isN k'6 0 <| Zbd s'5 <| k e_1 f_2 k_3 x_4 e_5
theorem Zkf {R:Type} {E:List V} {s:S} {k:List V → Fl → Nat → Int → List V → Option R} {r:R} (h:Zli E s k = some r):∃ e_1 f_2 k_3 x_4 e_5,E = Zf8 e_1 f_2 k_3 x_4 e_5 ∧ s = [some ⟨e_5,1,32,0⟩] ∧ k e_1 f_2 k_3 x_4 e_5 = some r:=by
 unfold Zli at h
 obtain ⟨hg,h1⟩:=Zaa h
 obtain ⟨_,_,hu0,h2⟩:=ZaC h1
 obtain ⟨_,hu3,h3⟩:=Zae h2
 obtain ⟨_,_,_,_,rfl,h4⟩:=ZbT h3
 obtain ⟨rfl,h5⟩:=ZaJ h4
 obtain ⟨rfl,h6⟩:=ZaJ h5
 obtain ⟨rfl,h7⟩:=ZaJ h6
 obtain ⟨_,hu4,h8⟩:=Zaq h7
 obtain ⟨_,_,rfl,h9⟩:=Zco h8
 obtain ⟨_,_,rfl,h10⟩:=ZbN h9
 obtain ⟨rfl,h11⟩:=ZaJ h10
 obtain ⟨rfl,h12⟩:=Zao h11
 exact ⟨_,_,_,_,_,Zbe hg rfl (Zah hu0 (Zah hu3 (Zah hu4 Za1))),rfl,h12⟩
def ZmM (N:Nat):ZaB:=(Zam).add [0,1,0,1,1] fun _ E s K=>Zli (Za7 ZiT E) s fun e_1 f_2 k_3 x_4 e_5=>Zdz N e_1 f_2 k_3 (ZeZ K e_1 f_2 k_3) N x_4 e_5
theorem ZsD {N:Nat} (hC:Ok Try.prog C) (hΦ:Zab Try.prog C (Zl5 N)):Zbt Try.prog ZrL (ZmM N) Zmr [0,1,0,1,1] :=
 Zbv (Λi:=Zam) (tr:=true) (ks:=ZiT) (kx:=ZnG) (N:=N) (hC.rowed false true none ZfC [] [] [] []) (hΦ.rowed false true none ZfC [] [] [] [])
  (Zav (by kernel_rfl))
  fun R E s K r h=>by
   have h2:=ZaB.add_self.symm.trans h
   refine (ZaS rfl).trans ?_
   obtain ⟨_,_,_,_,_,he,rfl,h3⟩:=Zkf h2
   rw [he]
   exact (ZrG N _ _ _ _ N _ _).trans h3
theorem Zvs:Za8 Zql [] = [([0,1,0,1,1],Zmr)]:=by kernel_rfl
theorem ZwJ {R:Type} (N:Nat) (e_1:List V) (f_2:Fl) (K:V → S → Option R):Zbw ZrL (Zl5 N) (ZmM N) 16 Try.f16 [.list 1 e_1 f_2] [] (GF rl K) =
 ZjP N e_1 f_2 (fun k_901 e_902=>K (.arr 0 0 0 k_901) [some ⟨e_902,1,32,0⟩]):=by kernel_rfl
theorem Zp8 {N:Nat} (hC:Ok Try.prog C) (hΦ:Zab Try.prog C (Zl5 N)):ZaR Try.prog ZrL (ZmM N) Zql [] :=
 ZaT Zql [] (by
  rw [Zvs]
  intro p hp
  simp only [List.mem_cons,List.mem_nil_iff,or_false] at hp
  rcases hp with rfl
  ·exact (ZsD hC hΦ))
theorem Zpa (hC:Ok Try.prog C) {N:Nat} (hΦ:Zab Try.prog C (Zl5 N)):Zab Try.prog C (Zsj N):=by
 refine hΦ.add_fresh rfl fun R vs K r h=>?_
 unfold Zv8 at h
 obtain ⟨_,rfl,h1⟩:=ZbO h
 obtain ⟨_,_,rfl,h2⟩:=Zas h1
 obtain ⟨_,h3⟩:=Zao h2
 refine ZbV (C:=C) false true none ZfC [] [] [] [] ?_
 refine Zb9 (C:=ZrL) (fn:=Try.f16) (c:=Zql) (hC.rowed false true none ZfC [] [] [] []) (hΦ.rowed false true none ZfC [] [] [] []) Try.func16 (by kernel_rfl) (by kernel_rfl) (Zp8 (N:=N) hC hΦ) rfl rfl ?_
 refine (ZwJ N _ _ _).trans ?_
 rw [← Zm8]
 exact h3
def Zvy (N:Nat):(R:Type) → List V → S → (V → S → Option R) → Option R:=fun _ vs s K =>
 Zux vs fun v'1 v'2 v'3=>asInt .i64 v'1 fun x_1=>asInt .i64 v'2 fun x_2=>asInt .i64 v'3 fun x_3=>Zbd s <| ZpG N x_1 x_2 x_3 (fun b_4=>K (.bool b_4) [])
def ZsN (N:Nat):Zat:=(Zsj N).add 98 (Zvy N)
def ZwL:Code:=Zbp Try.f98
theorem ZwI {R:Type} (N:Nat) (x_1 x_2 x_3:Int) (K:V → S → Option R):Zbw C (Zsj N) (Zam) 98 Try.f98 [.int .i64 x_1,.int .i64 x_2,.int .i64 x_3] [] K =
 Zkv N x_1 x_2 x_3 (fun b_4=>K (.bool b_4) []):=by kernel_rfl
theorem Zpx (hC:Ok Try.prog C) {N:Nat} (hΦ:Zab Try.prog C (Zsj N)):Zab Try.prog C (ZsN N):=by
 refine hΦ.add_pure rfl fun R vs K r h=>?_
 unfold Zvy at h
 obtain ⟨_,_,_,rfl,h1⟩:=ZdH h
 obtain ⟨_,rfl,h2⟩:=Zay h1
 obtain ⟨_,rfl,h3⟩:=Zay h2
 obtain ⟨_,rfl,h4⟩:=Zay h3
 obtain ⟨_,h5⟩:=Zao h4
 refine ZaX (fn:=Try.f98) (c:=ZwL) hC hΦ Try.func98 (by kernel_rfl) (by kernel_rfl) (Zav (Λ:=Zam) (by kernel_rfl)) rfl rfl ?_
 refine (ZwI N _ _ _ _).trans ?_
 rw [← ZnL]
 exact h5
def ZvY (N:Nat):(R:Type) → List V → S → (V → S → Option R) → Option R:=fun _ vs s K =>
 ZpM vs fun v'1=>asInt .i64 v'1 fun x_1=>Zbd s <| ZsV N x_1 (fun b_2=>K (.bool b_2) [])
def ZuM (N:Nat):Zat:=(ZsN N).add 83 (ZvY N)
def Zw4:Code:=Zbp Try.f83
theorem ZwH {R:Type} (N:Nat) (x_1:Int) (K:V → S → Option R):Zbw C (ZsN N) (Zam) 83 Try.f83 [.int .i64 x_1] [] K =
 ZkQ N x_1 (fun b_2=>K (.bool b_2) []):=by kernel_rfl
theorem Zou (hC:Ok Try.prog C) {N:Nat} (hΦ:Zab Try.prog C (ZsN N)):Zab Try.prog C (ZuM N):=by
 refine hΦ.add_pure rfl fun R vs K r h=>?_
 unfold ZvY at h
 obtain ⟨_,rfl,h1⟩:=ZbO h
 obtain ⟨_,rfl,h2⟩:=Zay h1
 obtain ⟨_,h3⟩:=Zao h2
 refine ZaX (fn:=Try.f83) (c:=Zw4) hC hΦ Try.func83 (by kernel_rfl) (by kernel_rfl) (Zav (Λ:=Zam) (by kernel_rfl)) rfl rfl ?_
 refine (ZwH N _ _).trans ?_
 rw [← ZnM]
 exact h3
def ZvS (N:Nat):(R:Type) → List V → S → (V → S → Option R) → Option R:=fun _ vs s K =>
 Zii vs fun v'1 v'2=>ZtK v'1 <| asInt .i64 v'2 fun x_1=>Zbd s <| ZuK N x_1 (fun e_2=>K (.list 1 e_2 (.own 3)) [])
def Zim (N:Nat):Zat:=(ZuM N).add 131 (ZvS N)
open Go.RowKit Go.Lib in
set_option maxRecDepth 100000 in
theorem Zqs (w:World):Calls Try.prog 131 #[.slice none 0 0,.int .i64 0] w fun e w'=>e = .returned (.slice none 0 0) ∧ w' = w:=by
 go_enter Try.func131,Try.ntmps131
 go_wp2
 go_ret
 exact ⟨rfl,rfl⟩
open Go.RowKit Go.Lib in
set_option maxRecDepth 100000 in
set_option maxHeartbeats 1000000 in
theorem ZqZ (w:World) (n:Nat) (i0:TypeInfo) (z:Value) (hn:0 < n) (hi0:Try.prog.info? 3 = some i0) (hz0:i0.zero = some z) (hs0:0 < i0.size) (hbig:n * i0.bytes ≤ 140737488355328) (h63:n ≤ 4611686018427387904) :
  Calls Try.prog 131 #[.slice none 0 0,.int .i64 n] w fun e w' =>
   e = .returned (.slice (some ⟨w.heap.size,0,none⟩) 0 (grownCap w n 0 3)) ∧
   w' = w.drew.alloc (.cells (Builtin.zeroCells z.cells n ++ Builtin.zeroCells z.cells (grownCap w n 0 3 - n)) 3):=by
 have h1:¬ ((n:Int) < 0):=by omega
 have h3:wrap64 ((n:Int) - (0 - 0)) = (n:Int):=by unfold wrap64; omega
 have h4:(n:Int) > 0:=by omega
 have hold:(Builtin.firstCells i0.size 0 (.slice none 0 0)).run Try.prog w.drew = .ok (#[]:Array Value) w.drew:=run_firstCells_none w.drew i0.size 0 0 0
 have hrz:∀ ty,(Builtin.append_ #[32,3] ty #[.slice none 0 0,.int .i64 (n:Int)]).run Try.prog w =
   .ok (.slice (some ⟨w.heap.size,0,none⟩) n (grownCap w n 0 3)) (w.drew.alloc (.cells (Builtin.zeroCells z.cells n ++ Builtin.zeroCells z.cells (grownCap w n 0 3 - n)) 3)):=fun ty=>by
  have h:=Lib.run_append_grow_zeros w 32 3 ty 3 i0 z .i64 .i64 Try.underlying32 Try.underlying3 hi0 hz0 none 0 0 [] hold n (by omega) hs0 (by omega) (by omega)
   (by omega) (by have:=growslice_fits (old:=0) (need:=n) hn hbig; simpa using this)
  simpa using h
 have hGn:n ≤ grownCap w n 0 3:=grownCap_ge w _ _ _
 obtain ⟨G,hG⟩:∃ G,G = grownCap w n 0 3:=⟨_,rfl⟩
 rw [← hG] at hrz hGn ⊢
 have hG63:G ≤ 9223372036854775807:=by
  have:=grownCap_le_maxLen w n 0 3 (by unfold maxLen; omega)
  rw [← hG] at this
  unfold maxLen at this
  omega
 clear hold hG
 go_enter Try.func131,Try.ntmps131
 go_wp2_with (at_builtin; refine Lib.wpList_append_run _ rfl _ _ _ _ rfl _ _ rfl rfl _ _ (hrz _) ?_)
 all_goals (go_ret; exact ⟨rfl,rfl⟩)
theorem Zpb (hC:Ok Try.prog C) {N:Nat} (hΦ:Zab Try.prog C (ZuM N)):Zab Try.prog C (Zim N):=by
 refine hΦ.add_own rfl fun R vs K r h=>?_
 unfold ZvS at h
 obtain ⟨_,_,rfl,h1⟩:=Za9 h
 obtain ⟨rfl,h2⟩:=Zl2 h1
 obtain ⟨_,rfl,h3⟩:=Zay h2
 obtain ⟨_,h4⟩:=Zao h3
 rw [Zn9] at h4
 unfold Zko at h4
 split at h4 <;> first | (cases h4; done) | skip
 rename_i hcond
 exact ⟨_,h4,ZoO hC (e:=3) (by kernel_rfl) Try.func131 (by kernel_rfl) (by kernel_rfl) Zqs ZqZ (B:=8) (sz:=1) (by kernel_rfl) (by kernel_rfl) hcond⟩
def Zwc (N:Nat):(R:Type) → List V → S → (V → S → Option R) → Option R:=fun _ vs s K =>
 ZpM vs fun v'1=>ZaP 1 v'1 fun e_1 f_2=>Zbd s <| ZsX N e_1 f_2 (fun e_3=>K (.list 1 e_3 .sh) [])
def ZlF (N:Nat):Zat:=(Zim N).add 107 (Zwc N)
def ZoG:Code:=Zbp Try.f107
def ZmR:Code:=(Zb3 ZoG [] 0).2
def ZmA:Code:=(Zb3 ZoG [] 1).2
def ZiF:List Nat:=Zdq 36 [0,3,9,10,11]
def ZnE:List Nat:=Zdq 36 [0,3]
def Zf9 (e_1:List V) (f_2:Fl) (e_4:List V) (f_5:Fl) (x_6 x_3 x_7:Int):List V:=mkF 0 36 [(0,.list 1 e_1 f_2),(3,.int .i64 x_3),(9,.list 1 e_4 f_5),(10,.int .i64 x_6),(11,.int .i64 x_7)]
def ZeG {R:Type} (K:X → List V → S → Option R) (e_1:List V) (f_2:Fl) (e_4:List V) (f_5:Fl) (x_6:Int):Int → Option R:=(fun x_1'=>K (.exit 0) (mkF 0 36 [(0,.list 1 e_1 f_2),(3,.int .i64 (x_1'))]) [])
abbrev Zja {R:Type} (N:Nat):Nat → List V → S → (X → List V → S → Option R) → Option R:=fun n=>Zha C (Zim N) (Zam) ZmR [0,1,0,1,1] false ZiF ZnE n R
theorem Zus {R:Type} (N n:Nat) (e_1:List V) (f_2:Fl) (e_4:List V) (f_5:Fl) (x_6:Int) (x_3 x_7:Int) (K:X → List V → S → Option R) :
 Zja N (n + 1) (Zf9 e_1 f_2 e_4 f_5 x_6 x_3 x_7) [] K =
 Zcj N e_1 f_2 e_4 f_5 x_6 (fun x_3 x_7=>Zja N n (Zf9 e_1 f_2 e_4 f_5 x_6 x_3 x_7) [] K) x_3 x_7 (ZeG K e_1 f_2 e_4 f_5 x_6):=by kernel_rfl
theorem ZrB {R:Type} (N:Nat) (e_1:List V) (f_2:Fl) (e_4:List V) (f_5:Fl) (x_6:Int) (K:X → List V → S → Option R):∀ (n:Nat) (x_3 x_7:Int),
 Zja N n (Zf9 e_1 f_2 e_4 f_5 x_6 x_3 x_7) [] K = Zds N e_1 f_2 e_4 f_5 x_6 (ZeG K e_1 f_2 e_4 f_5 x_6) n x_3 x_7
 | 0,_,_=>rfl
 | n + 1,x_3,x_7=>(Zus N n e_1 f_2 e_4 f_5 x_6 x_3 x_7 K).trans (congrArg (fun nx=>Zcj N e_1 f_2 e_4 f_5 x_6 nx x_3 x_7 (ZeG K e_1 f_2 e_4 f_5 x_6)) (funext fun x_3=>funext fun x_7=>ZrB N e_1 f_2 e_4 f_5 x_6 K n x_3 x_7))
def Zl3 {R:Type} (E:List V) (s:S) (k:List V → Fl → Int → List V → Fl → Int → Int → Option R):Option R :=
 Zaf (Zbn 36 [0,3,9,10,11] E) <| ZbC E 0 1 fun e_1 f_2=>Zbm E 3 .i64 fun x_3=>ZbC E 9 1 fun e_4 f_5=>Zbm E 10 .i64 fun x_6=>Zbm E 11 .i64 fun x_7=>Zbd s <| k e_1 f_2 x_3 e_4 f_5 x_6 x_7
theorem ZkP {R:Type} {E:List V} {s:S} {k:List V → Fl → Int → List V → Fl → Int → Int → Option R} {r:R} (h:Zl3 E s k = some r):∃ e_1 f_2 x_3 e_4 f_5 x_6 x_7,E = Zf9 e_1 f_2 e_4 f_5 x_6 x_3 x_7 ∧ s = [] ∧ k e_1 f_2 x_3 e_4 f_5 x_6 x_7 = some r:=by
 unfold Zl3 at h
 obtain ⟨hg,h1⟩:=Zaa h
 obtain ⟨_,_,hu0,h2⟩:=ZaC h1
 obtain ⟨_,hu3,h3⟩:=Zaq h2
 obtain ⟨_,_,hu9,h4⟩:=ZaC h3
 obtain ⟨_,hu10,h5⟩:=Zaq h4
 obtain ⟨_,hu11,h6⟩:=Zaq h5
 obtain ⟨rfl,h7⟩:=Zao h6
 exact ⟨_,_,_,_,_,_,_,Zbe hg rfl (Zah hu0 (Zah hu3 (Zah hu9 (Zah hu10 (Zah hu11 Za1))))),rfl,h7⟩
def ZiK (N:Nat):ZaB:=(Zam).add [0,1,0,1,1] fun _ E s K=>Zl3 (Za7 ZiF E) s fun e_1 f_2 x_3 e_4 f_5 x_6 x_7=>Zds N e_1 f_2 e_4 f_5 x_6 (ZeG K e_1 f_2 e_4 f_5 x_6) N x_3 x_7
theorem Ztl {N:Nat} (hC:Ok Try.prog C) (hΦ:Zab Try.prog C (Zim N)):Zbt Try.prog C (ZiK N) ZmR [0,1,0,1,1] :=
 Zbv (Λi:=Zam) (tr:=false) (ks:=ZiF) (kx:=ZnE) (N:=N) hC hΦ
  (Zav (by kernel_rfl))
  fun R E s K r h=>by
   have h2:=ZaB.add_self.symm.trans h
   refine (ZaS rfl).trans ?_
   obtain ⟨_,_,_,_,_,_,_,he,rfl,h3⟩:=ZkP h2
   rw [he]
   exact (ZrB N _ _ _ _ _ _ N _ _).trans h3
def Zjl:List Nat:=Zdq 36 [6,25,26,27]
def Zni:List Nat:=Zdq 36 [6]
def Zga (e_2:List V) (f_3:Fl) (x_4:Int) (e_1:List V) (x_5:Int):List V:=mkF 0 36 [(6,.list 1 e_1 (.own 3)),(25,.list 1 e_2 f_3),(26,.int .i64 x_4),(27,.int .i64 x_5)]
def ZeN {R:Type} (K:X → List V → S → Option R) (e_2:List V) (f_3:Fl) (x_4:Int):List V → Option R:=(fun e_1'=>K (.exit 2) (mkF 0 36 [(6,.list 1 (e_1') (.own 3))]) [])
abbrev Zis {R:Type} (N:Nat):Nat → List V → S → (X → List V → S → Option R) → Option R:=fun n=>Zha C (Zim N) (ZiK N) ZmA [0,1,0,1,1,1,1] false Zjl Zni n R
theorem Zui {R:Type} (N n:Nat) (e_2:List V) (f_3:Fl) (x_4:Int) (e_1:List V) (x_5:Int) (K:X → List V → S → Option R) :
 Zis N (n + 1) (Zga e_2 f_3 x_4 e_1 x_5) [] K =
 Zcf N e_2 f_3 x_4 (fun e_1 x_5=>Zis N n (Zga e_2 f_3 x_4 e_1 x_5) [] K) e_1 x_5 (ZeN K e_2 f_3 x_4):=by kernel_rfl
theorem Zqg {R:Type} (N:Nat) (e_2:List V) (f_3:Fl) (x_4:Int) (K:X → List V → S → Option R):∀ (n:Nat) (e_1:List V) (x_5:Int),
 Zis N n (Zga e_2 f_3 x_4 e_1 x_5) [] K = Zeh N e_2 f_3 x_4 (ZeN K e_2 f_3 x_4) n e_1 x_5
 | 0,_,_=>rfl
 | n + 1,e_1,x_5=>(Zui N n e_2 f_3 x_4 e_1 x_5 K).trans (congrArg (fun nx=>Zcf N e_2 f_3 x_4 nx e_1 x_5 (ZeN K e_2 f_3 x_4)) (funext fun e_1=>funext fun x_5=>Zqg N e_2 f_3 x_4 K n e_1 x_5))
def ZlI {R:Type} (E:List V) (s:S) (k:List V → List V → Fl → Int → Int → Option R):Option R :=
 Zaf (Zbn 36 [6,25,26,27] E) <| ZbA (nth E 6) fun u6=>ZaP 1 u6 fun e_1 f'1=>ZuA 3 f'1 <| ZbC E 25 1 fun e_2 f_3=>Zbm E 26 .i64 fun x_4=>Zbm E 27 .i64 fun x_5=>Zbd s <| k e_1 e_2 f_3 x_4 x_5
theorem Zjo {R:Type} {E:List V} {s:S} {k:List V → List V → Fl → Int → Int → Option R} {r:R} (h:ZlI E s k = some r):∃ e_1 e_2 f_3 x_4 x_5,E = Zga e_2 f_3 x_4 e_1 x_5 ∧ s = [] ∧ k e_1 e_2 f_3 x_4 x_5 = some r:=by
 unfold ZlI at h
 obtain ⟨hg,h1⟩:=Zaa h
 obtain ⟨_,hu6,h2⟩:=Zae h1
 obtain ⟨_,_,rfl,h3⟩:=Zas h2
 obtain ⟨rfl,h4⟩:=Zow h3
 obtain ⟨_,_,hu25,h5⟩:=ZaC h4
 obtain ⟨_,hu26,h6⟩:=Zaq h5
 obtain ⟨_,hu27,h7⟩:=Zaq h6
 obtain ⟨rfl,h8⟩:=Zao h7
 exact ⟨_,_,_,_,_,Zbe hg rfl (Zah hu6 (Zah hu25 (Zah hu26 (Zah hu27 Za1)))),rfl,h8⟩
def Zlj (N:Nat):ZaB:=(ZiK N).add [0,1,0,1,1,1,1] fun _ E s K=>ZlI (Za7 Zjl E) s fun e_1 e_2 f_3 x_4 x_5=>Zeh N e_2 f_3 x_4 (ZeN K e_2 f_3 x_4) N e_1 x_5
theorem ZsP {N:Nat} (hC:Ok Try.prog C) (hΦ:Zab Try.prog C (Zim N)):Zbt Try.prog C (Zlj N) ZmA [0,1,0,1,1,1,1] :=
 Zbv (Λi:=ZiK N) (tr:=false) (ks:=Zjl) (kx:=Zni) (N:=N) hC hΦ
  (Zav (by kernel_rfl))
  fun R E s K r h=>by
   have h2:=ZaB.add_self.symm.trans h
   refine (ZaS rfl).trans ?_
   obtain ⟨_,_,_,_,_,he,rfl,h3⟩:=Zjo h2
   rw [he]
   exact (Zqg N _ _ _ _ N _ _).trans h3
theorem ZvA:Za8 ZoG [] = [([0,1,0,1,1],ZmR),([0,1,0,1,1,1,1],ZmA)]:=by kernel_rfl
theorem Zxe {R:Type} (N:Nat) (e_1:List V) (f_2:Fl) (K:V → S → Option R):Zbw C (Zim N) (Zlj N) 107 Try.f107 [.list 1 e_1 f_2] [] K =
 ZkO N e_1 f_2 (fun e_3=>K (.list 1 e_3 .sh) []):=by kernel_rfl
theorem ZrT {N:Nat} (hC:Ok Try.prog C) (hΦ:Zab Try.prog C (Zim N)):ZaR Try.prog C (Zlj N) ZoG [] :=
 ZaT ZoG [] (by
  rw [ZvA]
  intro p hp
  simp only [List.mem_cons,List.mem_nil_iff,or_false] at hp
  rcases hp with rfl | rfl
  ·exact (Zbt.add (Ztl hC hΦ) rfl)
  ·exact (ZsP hC hΦ))
theorem ZoP (hC:Ok Try.prog C) {N:Nat} (hΦ:Zab Try.prog C (Zim N)):Zab Try.prog C (ZlF N):=by
 refine hΦ.add_pure rfl fun R vs K r h=>?_
 unfold Zwc at h
 obtain ⟨_,rfl,h1⟩:=ZbO h
 obtain ⟨_,_,rfl,h2⟩:=Zas h1
 obtain ⟨_,h3⟩:=Zao h2
 refine ZaX (fn:=Try.f107) (c:=ZoG) hC hΦ Try.func107 (by kernel_rfl) (by kernel_rfl) (ZrT (N:=N) hC hΦ) rfl rfl ?_
 refine (Zxe N _ _ _).trans ?_
 rw [← Zof]
 exact h3
def Zvz (N:Nat):(R:Type) → List V → S → (V → S → Option R) → Option R:=fun _ vs s K =>
 Zii vs fun v'1 v'2=>ZaP 1 v'1 fun e_1 f_2=>asInt .i64 v'2 fun x_3=>Zbd s <| Zt8 N e_1 f_2 x_3 (fun x_4=>K (.int .i64 x_4) [])
def Zsy (N:Nat):Zat:=(ZlF N).add 132 (Zvz N)
def Zqd:Code:=Zbp Try.f132
def ZmZ:Code:=(Zb3 Zqd [] 0).2
def Zin:List Nat:=Zdq 19 [0,1,7,8]
def ZnR:List Nat:=Zdq 19 [4]
def Zgm (e_1:List V) (f_2:Fl) (x_3 x_4 x_5:Int):List V:=mkF 0 19 [(0,.list 1 e_1 f_2),(1,.int .i64 x_3),(7,.int .i64 x_4),(8,.int .i64 x_5)]
def Zff {R:Type} (K:X → List V → S → Option R) (e_1:List V) (f_2:Fl) (x_3:Int) (x_4:Int):Int → Option R:=(fun x_1'=>K .ret (mkF 0 19 [(4,.int .i64 (x_1'))]) [])
def Ze4 {R:Type} (K:X → List V → S → Option R) (e_1:List V) (f_2:Fl) (x_3:Int) (x_4:Int):Unit → Option R:=(fun _=>K (.exit 0) (mkF 0 19 []) [])
abbrev Zh9 {R:Type} (N:Nat):Nat → List V → S → (X → List V → S → Option R) → Option R:=fun n=>Zha C (ZlF N) (Zam) ZmZ [0,1,0,1] false Zin ZnR n R
theorem ZuY {R:Type} (N n:Nat) (e_1:List V) (f_2:Fl) (x_3 x_4:Int) (x_5:Int) (K:X → List V → S → Option R) :
 Zh9 N (n + 1) (Zgm e_1 f_2 x_3 x_4 x_5) [] K =
 Zcq N e_1 f_2 x_3 x_4 (fun x_5=>Zh9 N n (Zgm e_1 f_2 x_3 x_4 x_5) [] K) x_5 (Zff K e_1 f_2 x_3 x_4) (Ze4 K e_1 f_2 x_3 x_4):=by kernel_rfl
theorem Zrs {R:Type} (N:Nat) (e_1:List V) (f_2:Fl) (x_3 x_4:Int) (K:X → List V → S → Option R):∀ (n:Nat) (x_5:Int),
 Zh9 N n (Zgm e_1 f_2 x_3 x_4 x_5) [] K = Zer N e_1 f_2 x_3 x_4 (Zff K e_1 f_2 x_3 x_4) (Ze4 K e_1 f_2 x_3 x_4) n x_5
 | 0,_=>rfl
 | n + 1,x_5=>(ZuY N n e_1 f_2 x_3 x_4 x_5 K).trans (congrArg (fun nx=>Zcq N e_1 f_2 x_3 x_4 nx x_5 (Zff K e_1 f_2 x_3 x_4) (Ze4 K e_1 f_2 x_3 x_4)) (funext fun x_5=>Zrs N e_1 f_2 x_3 x_4 K n x_5))
def Zly {R:Type} (E:List V) (s:S) (k:List V → Fl → Int → Int → Int → Option R):Option R :=
 Zaf (Zbn 19 [0,1,7,8] E) <| ZbC E 0 1 fun e_1 f_2=>Zbm E 1 .i64 fun x_3=>Zbm E 7 .i64 fun x_4=>Zbm E 8 .i64 fun x_5=>Zbd s <| k e_1 f_2 x_3 x_4 x_5
theorem ZjV {R:Type} {E:List V} {s:S} {k:List V → Fl → Int → Int → Int → Option R} {r:R} (h:Zly E s k = some r):∃ e_1 f_2 x_3 x_4 x_5,E = Zgm e_1 f_2 x_3 x_4 x_5 ∧ s = [] ∧ k e_1 f_2 x_3 x_4 x_5 = some r:=by
 unfold Zly at h
 obtain ⟨hg,h1⟩:=Zaa h
 obtain ⟨_,_,hu0,h2⟩:=ZaC h1
 obtain ⟨_,hu1,h3⟩:=Zaq h2
 obtain ⟨_,hu7,h4⟩:=Zaq h3
 obtain ⟨_,hu8,h5⟩:=Zaq h4
 obtain ⟨rfl,h6⟩:=Zao h5
 exact ⟨_,_,_,_,_,Zbe hg rfl (Zah hu0 (Zah hu1 (Zah hu7 (Zah hu8 Za1)))),rfl,h6⟩
def Zmh (N:Nat):ZaB:=(Zam).add [0,1,0,1] fun _ E s K=>Zly (Za7 Zin E) s fun e_1 f_2 x_3 x_4 x_5=>Zer N e_1 f_2 x_3 x_4 (Zff K e_1 f_2 x_3 x_4) (Ze4 K e_1 f_2 x_3 x_4) N x_5
theorem ZsS {N:Nat} (hC:Ok Try.prog C) (hΦ:Zab Try.prog C (ZlF N)):Zbt Try.prog C (Zmh N) ZmZ [0,1,0,1] :=
 Zbv (Λi:=Zam) (tr:=false) (ks:=Zin) (kx:=ZnR) (N:=N) hC hΦ
  (Zav (by kernel_rfl))
  fun R E s K r h=>by
   have h2:=ZaB.add_self.symm.trans h
   refine (ZaS rfl).trans ?_
   obtain ⟨_,_,_,_,_,he,rfl,h3⟩:=ZjV h2
   rw [he]
   exact (Zrs N _ _ _ _ _ N _).trans h3
theorem Zv4:Za8 Zqd [] = [([0,1,0,1],ZmZ)]:=by kernel_rfl
theorem Zw9 {R:Type} (N:Nat) (e_1:List V) (f_2:Fl) (x_3:Int) (K:V → S → Option R):Zbw C (ZlF N) (Zmh N) 132 Try.f132 [.list 1 e_1 f_2,.int .i64 x_3] [] K =
 ZkC N e_1 f_2 x_3 (fun x_4=>K (.int .i64 x_4) []):=by kernel_rfl
theorem ZpT {N:Nat} (hC:Ok Try.prog C) (hΦ:Zab Try.prog C (ZlF N)):ZaR Try.prog C (Zmh N) Zqd [] :=
 ZaT Zqd [] (by
  rw [Zv4]
  intro p hp
  simp only [List.mem_cons,List.mem_nil_iff,or_false] at hp
  rcases hp with rfl
  ·exact (ZsS hC hΦ))
theorem ZoA (hC:Ok Try.prog C) {N:Nat} (hΦ:Zab Try.prog C (ZlF N)):Zab Try.prog C (Zsy N):=by
 refine hΦ.add_pure rfl fun R vs K r h=>?_
 unfold Zvz at h
 obtain ⟨_,_,rfl,h1⟩:=Za9 h
 obtain ⟨_,_,rfl,h2⟩:=Zas h1
 obtain ⟨_,rfl,h3⟩:=Zay h2
 obtain ⟨_,h4⟩:=Zao h3
 refine ZaX (fn:=Try.f132) (c:=Zqd) hC hΦ Try.func132 (by kernel_rfl) (by kernel_rfl) (ZpT (N:=N) hC hΦ) rfl rfl ?_
 refine (Zw9 N _ _ _ _).trans ?_
 rw [← Zog]
 exact h4
def ZvU (N:Nat):(R:Type) → List V → S → (V → S → Option R) → Option R:=fun _ vs s K =>
 Zii vs fun v'1 v'2=>ZaP 1 v'1 fun e_1 f_2=>asInt .i64 v'2 fun x_3=>Zbd s <| Zss N e_1 f_2 x_3 (fun b_4=>K (.bool b_4) [])
def ZlC (N:Nat):Zat:=(Zsy N).add 111 (ZvU N)
def ZwB:Code:=Zbp Try.f111
theorem Zxc {R:Type} (N:Nat) (e_1:List V) (f_2:Fl) (x_3:Int) (K:V → S → Option R):Zbw C (Zsy N) (Zam) 111 Try.f111 [.list 1 e_1 f_2,.int .i64 x_3] [] K =
 ZkA N e_1 f_2 x_3 (fun b_4=>K (.bool b_4) []):=by kernel_rfl
theorem ZoT (hC:Ok Try.prog C) {N:Nat} (hΦ:Zab Try.prog C (Zsy N)):Zab Try.prog C (ZlC N):=by
 refine hΦ.add_pure rfl fun R vs K r h=>?_
 unfold ZvU at h
 obtain ⟨_,_,rfl,h1⟩:=Za9 h
 obtain ⟨_,_,rfl,h2⟩:=Zas h1
 obtain ⟨_,rfl,h3⟩:=Zay h2
 obtain ⟨_,h4⟩:=Zao h3
 refine ZaX (fn:=Try.f111) (c:=ZwB) hC hΦ Try.func111 (by kernel_rfl) (by kernel_rfl) (Zav (Λ:=Zam) (by kernel_rfl)) rfl rfl ?_
 refine (Zxc N _ _ _ _).trans ?_
 rw [← ZnK]
 exact h4
def ZvK (N:Nat):(R:Type) → List V → S → (V → S → Option R) → Option R:=fun _ vs s K =>
 ZpM vs fun v'1=>ZaP 1 v'1 fun e_1 f_2=>Zbd s <| Ztx N e_1 f_2 (fun b_3=>K (.bool b_3) [])
def Zsc (N:Nat):Zat:=(ZlC N).add 66 (ZvK N)
def Zp4:Code:=Zbp Try.f66
def Zm0:Code:=(Zb3 Zp4 [] 0).2
def Zh7:List Nat:=Zdq 35 [3,17,18,19]
def ZnQ:List Nat:=Zdq 35 [2]
def Zgq (e_1 e_2:List V) (x_3 x_4:Int):List V:=mkF 0 35 [(3,.list 1 e_1 .sh),(17,.list 1 e_2 .sh),(18,.int .i64 x_3),(19,.int .i64 x_4)]
def ZeW {R:Type} (K:X → List V → S → Option R) (e_1:List V) (e_2:List V) (x_3:Int):Unit → Option R:=(fun _=>K .ret (mkF 0 35 [(2,.bool false)]) [])
def Zfe {R:Type} (K:X → List V → S → Option R) (e_1:List V) (e_2:List V) (x_3:Int):Unit → Option R:=(fun _=>K (.exit 0) (mkF 0 35 []) [])
abbrev ZiH {R:Type} (N:Nat):Nat → List V → S → (X → List V → S → Option R) → Option R:=fun n=>Zha C (ZlC N) (Zam) Zm0 [0,1,0,1,1,1] false Zh7 ZnQ n R
theorem Zub {R:Type} (N n:Nat) (e_1 e_2:List V) (x_3:Int) (x_4:Int) (K:X → List V → S → Option R) :
 ZiH N (n + 1) (Zgq e_1 e_2 x_3 x_4) [] K =
 Zcl N e_1 e_2 x_3 (fun x_4=>ZiH N n (Zgq e_1 e_2 x_3 x_4) [] K) x_4 (ZeW K e_1 e_2 x_3) (Zfe K e_1 e_2 x_3):=by kernel_rfl
theorem Zqk {R:Type} (N:Nat) (e_1 e_2:List V) (x_3:Int) (K:X → List V → S → Option R):∀ (n:Nat) (x_4:Int),
 ZiH N n (Zgq e_1 e_2 x_3 x_4) [] K = Zef N e_1 e_2 x_3 (ZeW K e_1 e_2 x_3) (Zfe K e_1 e_2 x_3) n x_4
 | 0,_=>rfl
 | n + 1,x_4=>(Zub N n e_1 e_2 x_3 x_4 K).trans (congrArg (fun nx=>Zcl N e_1 e_2 x_3 nx x_4 (ZeW K e_1 e_2 x_3) (Zfe K e_1 e_2 x_3)) (funext fun x_4=>Zqk N e_1 e_2 x_3 K n x_4))
def ZmD {R:Type} (E:List V) (s:S) (k:List V → List V → Int → Int → Option R):Option R :=
 Zaf (Zbn 35 [3,17,18,19] E) <| ZbA (nth E 3) fun u3=>ZaP 1 u3 fun e_1 f'1=>Zws f'1 <| ZbA (nth E 17) fun u17=>ZaP 1 u17 fun e_2 f'2=>Zws f'2 <| Zbm E 18 .i64 fun x_3=>Zbm E 19 .i64 fun x_4=>Zbd s <| k e_1 e_2 x_3 x_4
theorem Zjq {R:Type} {E:List V} {s:S} {k:List V → List V → Int → Int → Option R} {r:R} (h:ZmD E s k = some r):∃ e_1 e_2 x_3 x_4,E = Zgq e_1 e_2 x_3 x_4 ∧ s = [] ∧ k e_1 e_2 x_3 x_4 = some r:=by
 unfold ZmD at h
 obtain ⟨hg,h1⟩:=Zaa h
 obtain ⟨_,hu3,h2⟩:=Zae h1
 obtain ⟨_,_,rfl,h3⟩:=Zas h2
 obtain ⟨rfl,h4⟩:=Zjy h3
 obtain ⟨_,hu17,h5⟩:=Zae h4
 obtain ⟨_,_,rfl,h6⟩:=Zas h5
 obtain ⟨rfl,h7⟩:=Zjy h6
 obtain ⟨_,hu18,h8⟩:=Zaq h7
 obtain ⟨_,hu19,h9⟩:=Zaq h8
 obtain ⟨rfl,h10⟩:=Zao h9
 exact ⟨_,_,_,_,Zbe hg rfl (Zah hu3 (Zah hu17 (Zah hu18 (Zah hu19 Za1)))),rfl,h10⟩
def Zme (N:Nat):ZaB:=(Zam).add [0,1,0,1,1,1] fun _ E s K=>ZmD (Za7 Zh7 E) s fun e_1 e_2 x_3 x_4=>Zef N e_1 e_2 x_3 (ZeW K e_1 e_2 x_3) (Zfe K e_1 e_2 x_3) N x_4
theorem ZtC {N:Nat} (hC:Ok Try.prog C) (hΦ:Zab Try.prog C (ZlC N)):Zbt Try.prog C (Zme N) Zm0 [0,1,0,1,1,1] :=
 Zbv (Λi:=Zam) (tr:=false) (ks:=Zh7) (kx:=ZnQ) (N:=N) hC hΦ
  (Zav (by kernel_rfl))
  fun R E s K r h=>by
   have h2:=ZaB.add_self.symm.trans h
   refine (ZaS rfl).trans ?_
   obtain ⟨_,_,_,_,he,rfl,h3⟩:=Zjq h2
   rw [he]
   exact (Zqk N _ _ _ _ N _).trans h3
theorem Zvv:Za8 Zp4 [] = [([0,1,0,1,1,1],Zm0)]:=by kernel_rfl
theorem ZwR {R:Type} (N:Nat) (e_1:List V) (f_2:Fl) (K:V → S → Option R):Zbw C (ZlC N) (Zme N) 66 Try.f66 [.list 1 e_1 f_2] [] K =
 Zjv N e_1 f_2 (fun b_3=>K (.bool b_3) []):=by kernel_rfl
theorem ZqS {N:Nat} (hC:Ok Try.prog C) (hΦ:Zab Try.prog C (ZlC N)):ZaR Try.prog C (Zme N) Zp4 [] :=
 ZaT Zp4 [] (by
  rw [Zvv]
  intro p hp
  simp only [List.mem_cons,List.mem_nil_iff,or_false] at hp
  rcases hp with rfl
  ·exact (ZtC hC hΦ))
theorem Zpf (hC:Ok Try.prog C) {N:Nat} (hΦ:Zab Try.prog C (ZlC N)):Zab Try.prog C (Zsc N):=by
 refine hΦ.add_pure rfl fun R vs K r h=>?_
 unfold ZvK at h
 obtain ⟨_,rfl,h1⟩:=ZbO h
 obtain ⟨_,_,rfl,h2⟩:=Zas h1
 obtain ⟨_,h3⟩:=Zao h2
 refine ZaX (fn:=Try.f66) (c:=Zp4) hC hΦ Try.func66 (by kernel_rfl) (by kernel_rfl) (ZqS (N:=N) hC hΦ) rfl rfl ?_
 refine (ZwR N _ _ _).trans ?_
 rw [← Zoi]
 exact h3
def Zvp (N:Nat):(R:Type) → List V → S → (V → S → Option R) → Option R:=fun _ vs s K =>
 Zii vs fun v'1 v'2=>ZaP 1 v'1 fun e_1 f_2=>asInt .i64 v'2 fun x_3=>Zbd s <| ZsF N e_1 f_2 x_3 (fun b_4=>K (.bool b_4) [])
def Zuq (N:Nat):Zat:=(Zsc N).add 82 (Zvp N)
def ZwA:Code:=Zbp Try.f82
theorem Zw6 {R:Type} (N:Nat) (e_1:List V) (f_2:Fl) (x_3:Int) (K:V → S → Option R):Zbw C (Zsc N) (Zam) 82 Try.f82 [.list 1 e_1 f_2,.int .i64 x_3] [] K =
 ZjO N e_1 f_2 x_3 (fun b_4=>K (.bool b_4) []):=by kernel_rfl
theorem ZpF (hC:Ok Try.prog C) {N:Nat} (hΦ:Zab Try.prog C (Zsc N)):Zab Try.prog C (Zuq N):=by
 refine hΦ.add_pure rfl fun R vs K r h=>?_
 unfold Zvp at h
 obtain ⟨_,_,rfl,h1⟩:=Za9 h
 obtain ⟨_,_,rfl,h2⟩:=Zas h1
 obtain ⟨_,rfl,h3⟩:=Zay h2
 obtain ⟨_,h4⟩:=Zao h3
 refine ZaX (fn:=Try.f82) (c:=ZwA) hC hΦ Try.func82 (by kernel_rfl) (by kernel_rfl) (Zav (Λ:=Zam) (by kernel_rfl)) rfl rfl ?_
 refine (Zw6 N _ _ _ _).trans ?_
 rw [← Zon]
 exact h4
def Zvd (N:Nat):(R:Type) → List V → S → (V → S → Option R) → Option R:=fun _ vs s K =>
 ZpM vs fun v'1=>ZaP 1 v'1 fun e_1 f_2=>Zbd s <| Zs5 N e_1 f_2 (fun k_901 e_902=>K (.arr 0 0 0 k_901) [some ⟨e_902,1,3,0⟩])
def ZlD (N:Nat):Zat:=(Zuq N).add 118 (Zvd N)
open Go.RowKit Go.Lib in
set_option maxRecDepth 100000 in
theorem Zpq (c:Nat) (w:World) (i0:TypeInfo) (_:Try.prog.info? 3 = some i0):Calls Try.prog 118 #[.slice none 0 c] w fun ev w'=>∃ A,ev = .returned (.slice A 0 0) ∧ Below w.heap.size w w':=by
 have q:∀ (w:World) (a:Option Addr) (n c n' c':Nat),(binOp .eql 32 (.slice a n c) (.slice none n' c')).run Try.prog w = .ok (.bool a.isNone) w:=fun w a n c n' c'=>run_eql_slice_nil w _ _ a n c n' c' Try.underlying32
 go_enter Try.func118,Try.ntmps118
 go_wp2
 go_ret
 exact ⟨_,rfl,Below.refl _ w⟩
open Go.RowKit Go.Lib in
set_option maxRecDepth 100000 in
set_option maxHeartbeats 1000000 in
theorem Zpl (a:Addr) (c:Nat) (w:World) (i0:TypeInfo) (hi0:Try.prog.info? 3 = some i0):Calls Try.prog 118 #[.slice (some a) 0 c] w fun ev w'=>∃ A,ev = .returned (.slice A 0 0) ∧ Below w.heap.size w w':=by
 have q:∀ (w:World) (a:Option Addr) (n c n' c':Nat),(binOp .eql 32 (.slice a n c) (.slice none n' c')).run Try.prog w = .ok (.bool a.isNone) w:=fun w a n c n' c'=>run_eql_slice_nil w _ _ a n c n' c' Try.underlying32
 obtain ⟨w2,hrun,hown,hgrow⟩:=run_append_fits (P:=Try.prog) (w.alloc (.cells #[] 3)) w.heap.size 32 32 3 i0 i0.size Try.underlying32 hi0 rfl w.heap.size 0 0 [] (World.ownsRow_made w #[] 0 (Nat.le_refl _) (Nat.zero_le _) (by simp)) a 0 c [] (by simp) (by simp) (by simp) (Nat.le_refl _)
 go_enter Try.func118,Try.ntmps118
 go_wp2_with (at_builtin; refine Lib.wpList_append_run _ rfl _ _ _ _ rfl _ _ rfl rfl _ _ hrun ?_)
 go_wp2
 go_ret
 exact ⟨_,rfl,((Below.refl _ w).alloc (Nat.le_refl _) _).grown hgrow (by simp) (by intro k hk; simp at hk; omega)⟩
open Go.RowKit Go.Lib in
set_option maxRecDepth 100000 in
set_option maxHeartbeats 1000000 in
theorem ZoV (a:Addr) (m c:Nat) (news:List Value) (w:World) (i0:TypeInfo) (z:Value) (hm:0 < m) (hi0:Try.prog.info? 3 = some i0) (hz0:i0.zero = some z) (hzs:z.cells.size = i0.size) (hs0:0 < i0.size) (hl:news.length = m * i0.size)
  (hnews:∀ j u,news[j]? = some u → w.cell? (a.add j) = some u) (hone:∀ u ∈ news,u.oneCell' = true) (hbig:m * i0.bytes ≤ 140737488355328) (hmx:m ≤ maxLen) :
  Calls Try.prog 118 #[.slice (some a) m c] w fun ev w'=>∃ G cap,ev = .returned (.slice (some ⟨G,0,none⟩) m cap) ∧ m ≤ cap ∧ cap ≤ maxLen ∧ w.heap.size ≤ G ∧
   w'.heap[G]? = some (.cells (news.toArray ++ Builtin.zeroCells z.cells (cap - m)) 3 (0,0)) ∧ Below w.heap.size w w':=by
 have q:∀ (w:World) (a:Option Addr) (n c n' c':Nat),(binOp .eql 32 (.slice a n c) (.slice none n' c')).run Try.prog w = .ok (.bool a.isNone) w:=fun w a n c n' c'=>run_eql_slice_nil w _ _ a n c n' c' Try.underlying32
 have hrun:=run_append_grow (P:=Try.prog) (w:=w.alloc (.cells #[] 3)) 32 32 3 i0 z Try.underlying32 hi0 hz0 ⟨w.heap.size,0,none⟩ 0 0 [] (by simp) (by simp) a m c news hl (fun j u hj=>by
  have:=hnews j u hj
  cases a
  exact Lib.cell?_alloc_some _ this) (by omega) (by unfold maxLen at hmx; omega) (by have:=growslice_fits (old:=0) (need:=m) hm hbig; simpa using this)
 have hG:=grownCap_ge (w.alloc (.cells #[] 3)) (0 + m) 0 3
 have hG2:=grownCap_le_maxLen (w.alloc (.cells #[] 3)) (0 + m) 0 3 (by omega)
 generalize grownCap (w.alloc (.cells #[] 3)) (0 + m) 0 3 = G at hrun hG hG2
 simp only [Nat.zero_add] at hrun hG hG2
 obtain ⟨zc,hzc⟩:∃ zc,zc = z.cells:=⟨_,rfl⟩
 rw [← hzc] at hrun ⊢
 clear hzc hzs hz0
 go_enter Try.func118,Try.ntmps118
 go_wp2_with (at_builtin; refine Lib.wpList_append_run _ rfl _ _ _ _ rfl _ _ rfl rfl _ _ hrun ?_)
 go_wp2
 go_ret
 refine ⟨_,_,rfl,hG,hG2,by simp,?_,?_⟩
 ·have:=Zb5 (w.alloc (.cells #[] 3)) (.cells (news.toArray ++ Builtin.zeroCells zc (G - m)) 3)
  have e:(w.alloc (.cells #[] 3)).heap.size = w.heap.size + 1:=by simp
  rw [e] at this
  exact this
 ·have:=((Below.refl w.heap.size w).alloc (Nat.le_refl _) (.cells #[] 3)).alloc (by simp) (.cells (news.toArray ++ Builtin.zeroCells zc (G - m)) 3)
  exact this.drew
theorem Zpr (hC:Ok Try.prog C) {N:Nat} (hΦ:Zab Try.prog C (Zuq N)):Zab Try.prog C (ZlD N):=by
 refine hΦ.add_fresh rfl fun R vs K r h=>?_
 unfold Zvd at h
 obtain ⟨_,rfl,h1⟩:=ZbO h
 obtain ⟨_,_,rfl,h2⟩:=Zas h1
 obtain ⟨_,h3⟩:=Zao h2
 rw [Zm7] at h3
 unfold ZkT at h3
 obtain ⟨h1,h2⟩:=ZgH hC (e:=3) (by kernel_rfl) Try.func118 (by kernel_rfl) (by kernel_rfl) Zpq Zpl ZoV (B:=8) (sz:=1) (by kernel_rfl) (by kernel_rfl) h3
 exact ⟨_,_,h1,h2⟩
def Zvi (N:Nat):(R:Type) → List V → S → (V → S → Option R) → Option R:=fun _ vs s K =>
 ZpM vs fun v'1=>ZaP 1 v'1 fun e_1 f_2=>Zbd s <| ZsO N e_1 f_2 (fun k_901 e_902=>K (.arr 0 0 0 k_901) [some ⟨e_902,1,32,0⟩])
def Zuz (N:Nat):Zat:=(ZlD N).add 84 (Zvi N)
def Zqq:Code:=Zbp Try.f84
def ZlK:Code:=(Zb3 Zqq [] 0).2
def ZfB:TypeId → Option (Nat × TypeId):=fun t=>if Nat.beq t 32 then some (0,3) else none
abbrev ZoE:Cfg:=C.rowed true true (some 0) ZfB [] [] [] []
def ZiN:List Nat:=Zdq 20 [3,7,8,9]
def Znv:List Nat:=Zdq 20 [3]
def Zf1 (e_1:List V) (f_2:Fl) (x_3:Int) (k_5:Nat) (x_4:Int) (e_6:List V):List V:=mkF 0 20 [(3,.arr 1 0 0 k_5),(7,.list 1 e_1 f_2),(8,.int .i64 x_3),(9,.int .i64 x_4)]
def ZeS {R:Type} (K:X → List V → S → Option R) (e_1:List V) (f_2:Fl) (x_3:Int):Nat → List V → Option R:=(fun k_1' e_2'=>K (.exit 0) (mkF 0 20 [(3,.arr 1 0 0 (k_1'))]) [some ⟨[],1,32,0⟩,some ⟨e_2',1,32,0⟩])
abbrev Zi2 {R:Type} (N:Nat):Nat → List V → S → (X → List V → S → Option R) → Option R:=fun n=>Zha ZoE (ZlD N) (Zam) ZlK [0,1,0,1,1] true ZiN Znv n R
theorem Zt0 {R:Type} (N n:Nat) (e_1:List V) (f_2:Fl) (x_3:Int) (k_5:Nat) (x_4:Int) (e_6:List V) (K:X → List V → S → Option R) :
 Zi2 N (n + 1) (Zf1 e_1 f_2 x_3 k_5 x_4 e_6) [some ⟨[],1,32,0⟩,some ⟨e_6,1,32,0⟩] K =
 Zcu N e_1 f_2 x_3 (fun k_5 x_4 e_6=>Zi2 N n (Zf1 e_1 f_2 x_3 k_5 x_4 e_6) [some ⟨[],1,32,0⟩,some ⟨e_6,1,32,0⟩] K) k_5 x_4 e_6 (ZeS K e_1 f_2 x_3):=by kernel_rfl
theorem ZrS {R:Type} (N:Nat) (e_1:List V) (f_2:Fl) (x_3:Int) (K:X → List V → S → Option R):∀ (n:Nat) (k_5:Nat) (x_4:Int) (e_6:List V),
 Zi2 N n (Zf1 e_1 f_2 x_3 k_5 x_4 e_6) [some ⟨[],1,32,0⟩,some ⟨e_6,1,32,0⟩] K = Zel N e_1 f_2 x_3 (ZeS K e_1 f_2 x_3) n k_5 x_4 e_6
 | 0,_,_,_=>rfl
 | n + 1,k_5,x_4,e_6=>(Zt0 N n e_1 f_2 x_3 k_5 x_4 e_6 K).trans (congrArg (fun nx=>Zcu N e_1 f_2 x_3 nx k_5 x_4 e_6 (ZeS K e_1 f_2 x_3)) (funext fun k_5=>funext fun x_4=>funext fun e_6=>ZrS N e_1 f_2 x_3 K n k_5 x_4 e_6))
def Zl1 {R:Type} (E:List V) (s:S) (k:Nat → List V → Fl → Int → Int → List V → Option R):Option R :=
 Zaf (Zbn 20 [3,7,8,9] E) <| ZbA (nth E 3) fun u3=>Zhl u3 fun k'1 k'2 k'3 k_5=>isN k'1 1 <| isN k'2 0 <| isN k'3 0 <| ZbC E 7 1 fun e_1 f_2=>Zbm E 8 .i64 fun x_3=>Zbm E 9 .i64 fun x_4=>Zr5 s fun o'4 s'5=>ZpK o'4 1 32 fun e'6 k'7=>isN k'7 0 <| Zwm e'6 <| Zr5 s'5 fun o'8 s'9=>ZpK o'8 1 32 fun e_6 k'10=>isN k'10 0 <| Zbd s'9 <| k k_5 e_1 f_2 x_3 x_4 e_6
theorem ZjK {R:Type} {E:List V} {s:S} {k:Nat → List V → Fl → Int → Int → List V → Option R} {r:R} (h:Zl1 E s k = some r):∃ k_5 e_1 f_2 x_3 x_4 e_6,E = Zf1 e_1 f_2 x_3 k_5 x_4 e_6 ∧ s = [some ⟨[],1,32,0⟩,some ⟨e_6,1,32,0⟩] ∧ k k_5 e_1 f_2 x_3 x_4 e_6 = some r:=by
 unfold Zl1 at h
 obtain ⟨hg,h1⟩:=Zaa h
 obtain ⟨_,hu3,h2⟩:=Zae h1
 obtain ⟨_,_,_,_,rfl,h3⟩:=ZbT h2
 obtain ⟨rfl,h4⟩:=ZaJ h3
 obtain ⟨rfl,h5⟩:=ZaJ h4
 obtain ⟨rfl,h6⟩:=ZaJ h5
 obtain ⟨_,_,hu7,h7⟩:=ZaC h6
 obtain ⟨_,hu8,h8⟩:=Zaq h7
 obtain ⟨_,hu9,h9⟩:=Zaq h8
 obtain ⟨_,_,rfl,h10⟩:=Zco h9
 obtain ⟨_,_,rfl,h11⟩:=ZbN h10
 obtain ⟨rfl,h12⟩:=ZaJ h11
 obtain ⟨rfl,h13⟩:=Zkg h12
 obtain ⟨_,_,rfl,h14⟩:=Zco h13
 obtain ⟨_,_,rfl,h15⟩:=ZbN h14
 obtain ⟨rfl,h16⟩:=ZaJ h15
 obtain ⟨rfl,h17⟩:=Zao h16
 exact ⟨_,_,_,_,_,_,Zbe hg rfl (Zah hu3 (Zah hu7 (Zah hu8 (Zah hu9 Za1)))),rfl,h17⟩
def Zmt (N:Nat):ZaB:=(Zam).add [0,1,0,1,1] fun _ E s K=>Zdb ZoE (Za7 ZiN E) s fun E s=>Zl1 E s (fun k_5 e_1 f_2 x_3 x_4 e_6=>(Zel N e_1 f_2 x_3 (ZeS K e_1 f_2 x_3) N k_5 x_4 e_6))
theorem Zs6 {N:Nat} (hC:Ok Try.prog C) (hΦ:Zab Try.prog C (ZlD N)):Zbt Try.prog ZoE (Zmt N) ZlK [0,1,0,1,1] :=
 Zbv (Λi:=Zam) (tr:=true) (ks:=ZiN) (kx:=Znv) (N:=N) (hC.rowed true true (some 0) ZfB [] [] [] []) (hΦ.rowed true true (some 0) ZfB [] [] [] [])
  (Zav (by kernel_rfl))
  fun R E s K r h=>by
   have h2:=ZaB.add_self.symm.trans h
   refine ZgT (fun E s h2=>?_) h2
   obtain ⟨_,_,_,_,_,_,he,rfl,h3⟩:=ZjK h2
   rw [he]
   exact (ZrS N _ _ _ _ N _ _ _).trans h3
theorem Zvf:Za8 Zqq [] = [([0,1,0,1,1],ZlK)]:=by kernel_rfl
theorem Zw8 {R:Type} (N:Nat) (e_1:List V) (f_2:Fl) (K:V → S → Option R):Zbw ZoE (ZlD N) (Zmt N) 84 Try.f84 [.list 1 e_1 f_2] [] (GF rl K) =
 ZjR N e_1 f_2 (fun k_901 e_902=>K (.arr 0 0 0 k_901) [some ⟨e_902,1,32,0⟩]):=by kernel_rfl
theorem Zq9 {N:Nat} (hC:Ok Try.prog C) (hΦ:Zab Try.prog C (ZlD N)):ZaR Try.prog ZoE (Zmt N) Zqq [] :=
 ZaT Zqq [] (by
  rw [Zvf]
  intro p hp
  simp only [List.mem_cons,List.mem_nil_iff,or_false] at hp
  rcases hp with rfl
  ·exact (Zs6 hC hΦ))
theorem ZpA (hC:Ok Try.prog C) {N:Nat} (hΦ:Zab Try.prog C (ZlD N)):Zab Try.prog C (Zuz N):=by
 refine hΦ.add_fresh rfl fun R vs K r h=>?_
 unfold Zvi at h
 obtain ⟨_,rfl,h1⟩:=ZbO h
 obtain ⟨_,_,rfl,h2⟩:=Zas h1
 obtain ⟨_,h3⟩:=Zao h2
 refine ZbV (C:=C) true true (some 0) ZfB [] [] [] [] ?_
 refine Zb9 (C:=ZoE) (fn:=Try.f84) (c:=Zqq) (hC.rowed true true (some 0) ZfB [] [] [] []) (hΦ.rowed true true (some 0) ZfB [] [] [] []) Try.func84 (by kernel_rfl) (by kernel_rfl) (Zq9 (N:=N) hC hΦ) rfl rfl ?_
 refine (Zw8 N _ _ _).trans ?_
 rw [← Znk]
 exact h3
def ZvD (N:Nat):(R:Type) → List V → S → (V → S → Option R) → Option R:=fun _ vs s K =>
 Zux vs fun v a b=>asInt .i64 a fun i=>asInt .i64 b fun j=>Zw3 v i j s K
def Ztp (N:Nat):Zat:=(Zuz N).add 116 (ZvD N)
theorem Zot (hC:Ok Try.prog C) {N:Nat} (hΦ:Zab Try.prog C (Zuz N)):Zab Try.prog C (Ztp N):=by
 refine hΦ.add_shared rfl fun R vs s K r h=>?_
 unfold ZvD at h
 obtain ⟨_,_,_,rfl,h1⟩:=ZdH h
 obtain ⟨_,rfl,h2⟩:=Zay h1
 obtain ⟨_,rfl,h3⟩:=Zay h2
 exact Zua Try.func116 (by kernel_rfl) (by kernel_rfl) (fun b o c i j zs w h1 h2 h3 h4 h5=>Try.slices_Delete_int b o c i j zs w h1 h2 h3 h4 h5) h3
def Zv3 (N:Nat):(R:Type) → List V → S → (V → S → Option R) → Option R:=fun _ vs s K =>
 Zux vs fun v'1 v'2 v'3=>ZaP 1 v'1 fun e_1 f_2=>asInt .i64 v'2 fun x_3=>asBool v'3 fun b_4=>Zbd s <| Zum N e_1 f_2 x_3 b_4 (fun k_903 x_901 b_902 e_904=>K (.tuple [.arr 0 0 0 k_903,.int .i64 x_901,.bool b_902]) [some ⟨e_904,1,32,0⟩])
def Zti (N:Nat):Zat:=(Ztp N).add 78 (Zv3 N)
def Zww:Code:=Zbp Try.f78
def ZiU:TypeId → Option (Nat × TypeId):=fun t=>if Nat.beq t 32 then some (0,3) else none
abbrev Zvh:Cfg:=C.rowed true true none ZiU [] [] [] []
theorem Zxb {R:Type} (N:Nat) (e_1:List V) (f_2:Fl) (x_3:Int) (b_4:Bool) (K:V → S → Option R):Zbw Zvh (Ztp N) (Zam) 78 Try.f78 [.list 1 e_1 f_2,.int .i64 x_3,.bool b_4] [] (GF rl K) =
 ZjQ N e_1 f_2 x_3 b_4 (fun k_903 x_901 b_902 e_904=>K (.tuple [.arr 0 0 0 k_903,.int .i64 x_901,.bool b_902]) [some ⟨e_904,1,32,0⟩]):=by kernel_rfl
theorem ZoY (hC:Ok Try.prog C) {N:Nat} (hΦ:Zab Try.prog C (Ztp N)):Zab Try.prog C (Zti N):=by
 refine hΦ.add_fresh rfl fun R vs K r h=>?_
 unfold Zv3 at h
 obtain ⟨_,_,_,rfl,h1⟩:=ZdH h
 obtain ⟨_,_,rfl,h2⟩:=Zas h1
 obtain ⟨_,rfl,h3⟩:=Zay h2
 obtain ⟨_,rfl,h4⟩:=ZcN h3
 obtain ⟨_,h5⟩:=Zao h4
 refine ZbV (C:=C) true true none ZiU [] [] [] [] ?_
 refine Zb9 (C:=Zvh) (fn:=Try.f78) (c:=Zww) (hC.rowed true true none ZiU [] [] [] []) (hΦ.rowed true true none ZiU [] [] [] []) Try.func78 (by kernel_rfl) (by kernel_rfl) (Zav (Λ:=Zam) (by kernel_rfl)) rfl rfl ?_
 refine (Zxb N _ _ _ _ _).trans ?_
 rw [← Zoo]
 exact h5
def Zv2 (N:Nat):(R:Type) → List V → S → (V → S → Option R) → Option R:=fun _ vs s K =>
 Zii vs fun v'1 v'2=>ZaP 1 v'1 fun e_1 f_2=>asInt .i64 v'2 fun x_3=>Zbd s <| ZpU N e_1 f_2 x_3 (fun k_901 x_902 b_903 e_904=>K (.tuple [.arr 0 0 0 k_901,.int .i64 x_902,.bool b_903]) [some ⟨e_904,1,32,0⟩])
def Zmq (N:Nat):Zat:=(Zti N).add 17 (Zv2 N)
def Zw7:Code:=Zbp Try.f17
def Ziu:TypeId → Option (Nat × TypeId):=fun t=>if Nat.beq t 32 then some (0,3) else none
abbrev ZvE:Cfg:=C.rowed true true none Ziu [] [] [] []
theorem ZwQ {R:Type} (N:Nat) (e_1:List V) (f_2:Fl) (x_3:Int) (K:V → S → Option R):Zbw ZvE (Zti N) (Zam) 17 Try.f17 [.list 1 e_1 f_2,.int .i64 x_3] [] (GF rl K) =
 Zk1 N e_1 f_2 x_3 (fun k_901 x_902 b_903 e_904=>K (.tuple [.arr 0 0 0 k_901,.int .i64 x_902,.bool b_903]) [some ⟨e_904,1,32,0⟩]):=by kernel_rfl
theorem Zo7 (hC:Ok Try.prog C) {N:Nat} (hΦ:Zab Try.prog C (Zti N)):Zab Try.prog C (Zmq N):=by
 refine hΦ.add_fresh rfl fun R vs K r h=>?_
 unfold Zv2 at h
 obtain ⟨_,_,rfl,h1⟩:=Za9 h
 obtain ⟨_,_,rfl,h2⟩:=Zas h1
 obtain ⟨_,rfl,h3⟩:=Zay h2
 obtain ⟨_,h4⟩:=Zao h3
 refine ZbV (C:=C) true true none Ziu [] [] [] [] ?_
 refine Zb9 (C:=ZvE) (fn:=Try.f17) (c:=Zw7) (hC.rowed true true none Ziu [] [] [] []) (hΦ.rowed true true none Ziu [] [] [] []) Try.func17 (by kernel_rfl) (by kernel_rfl) (Zav (Λ:=Zam) (by kernel_rfl)) rfl rfl ?_
 refine (ZwQ N _ _ _ _).trans ?_
 rw [← ZnH]
 exact h4
def ZvO (N:Nat):(R:Type) → List V → S → (V → S → Option R) → Option R:=fun _ vs s K =>
 Zii vs fun v'1 v'2=>ZaP 1 v'1 fun e_1 f_2=>ZaP 1 v'2 fun e_3 f_4=>Zbd s <| Zsa N e_1 f_2 e_3 f_4 (fun b_5=>K (.bool b_5) [])
def Zll (N:Nat):Zat:=(Zmq N).add 26 (ZvO N)
def Zrf:Code:=Zbp Try.f26
def ZmI:Code:=(Zb3 Zrf [] 0).2
def ZiO:List Nat:=Zdq 26 [0,1,5]
def Zn4:List Nat:=Zdq 26 [4]
def Zgi (e_1:List V) (f_2:Fl) (e_3:List V) (f_4:Fl) (x_5:Int):List V:=mkF 0 26 [(0,.list 1 e_1 f_2),(1,.list 1 e_3 f_4),(5,.int .i64 x_5)]
def Ze6 {R:Type} (K:X → List V → S → Option R) (e_1:List V) (f_2:Fl) (e_3:List V) (f_4:Fl):Unit → Option R:=(fun _=>K .ret (mkF 0 26 [(4,.bool false)]) [])
def ZeJ {R:Type} (K:X → List V → S → Option R) (e_1:List V) (f_2:Fl) (e_3:List V) (f_4:Fl):Unit → Option R:=(fun _=>K (.exit 0) (mkF 0 26 []) [])
abbrev ZiR {R:Type} (N:Nat):Nat → List V → S → (X → List V → S → Option R) → Option R:=fun n=>Zha C (Zmq N) (Zam) ZmI [0,1,0,1,1] false ZiO Zn4 n R
theorem Zuy {R:Type} (N n:Nat) (e_1:List V) (f_2:Fl) (e_3:List V) (f_4:Fl) (x_5:Int) (K:X → List V → S → Option R) :
 ZiR N (n + 1) (Zgi e_1 f_2 e_3 f_4 x_5) [] K =
 Zcr N e_1 f_2 e_3 f_4 (fun x_5=>ZiR N n (Zgi e_1 f_2 e_3 f_4 x_5) [] K) x_5 (Ze6 K e_1 f_2 e_3 f_4) (ZeJ K e_1 f_2 e_3 f_4):=by kernel_rfl
theorem Zrj {R:Type} (N:Nat) (e_1:List V) (f_2:Fl) (e_3:List V) (f_4:Fl) (K:X → List V → S → Option R):∀ (n:Nat) (x_5:Int),
 ZiR N n (Zgi e_1 f_2 e_3 f_4 x_5) [] K = Zeo N e_1 f_2 e_3 f_4 (Ze6 K e_1 f_2 e_3 f_4) (ZeJ K e_1 f_2 e_3 f_4) n x_5
 | 0,_=>rfl
 | n + 1,x_5=>(Zuy N n e_1 f_2 e_3 f_4 x_5 K).trans (congrArg (fun nx=>Zcr N e_1 f_2 e_3 f_4 nx x_5 (Ze6 K e_1 f_2 e_3 f_4) (ZeJ K e_1 f_2 e_3 f_4)) (funext fun x_5=>Zrj N e_1 f_2 e_3 f_4 K n x_5))
def ZlT {R:Type} (E:List V) (s:S) (k:List V → Fl → List V → Fl → Int → Option R):Option R :=
 Zaf (Zbn 26 [0,1,5] E) <| ZbC E 0 1 fun e_1 f_2=>ZbC E 1 1 fun e_3 f_4=>Zbm E 5 .i64 fun x_5=>Zbd s <| k e_1 f_2 e_3 f_4 x_5
theorem ZjF {R:Type} {E:List V} {s:S} {k:List V → Fl → List V → Fl → Int → Option R} {r:R} (h:ZlT E s k = some r):∃ e_1 f_2 e_3 f_4 x_5,E = Zgi e_1 f_2 e_3 f_4 x_5 ∧ s = [] ∧ k e_1 f_2 e_3 f_4 x_5 = some r:=by
 unfold ZlT at h
 obtain ⟨hg,h1⟩:=Zaa h
 obtain ⟨_,_,hu0,h2⟩:=ZaC h1
 obtain ⟨_,_,hu1,h3⟩:=ZaC h2
 obtain ⟨_,hu5,h4⟩:=Zaq h3
 obtain ⟨rfl,h5⟩:=Zao h4
 exact ⟨_,_,_,_,_,Zbe hg rfl (Zah hu0 (Zah hu1 (Zah hu5 Za1))),rfl,h5⟩
def Zm2 (N:Nat):ZaB:=(Zam).add [0,1,0,1,1] fun _ E s K=>ZlT (Za7 ZiO E) s fun e_1 f_2 e_3 f_4 x_5=>Zeo N e_1 f_2 e_3 f_4 (Ze6 K e_1 f_2 e_3 f_4) (ZeJ K e_1 f_2 e_3 f_4) N x_5
theorem Zr9 {N:Nat} (hC:Ok Try.prog C) (hΦ:Zab Try.prog C (Zmq N)):Zbt Try.prog C (Zm2 N) ZmI [0,1,0,1,1] :=
 Zbv (Λi:=Zam) (tr:=false) (ks:=ZiO) (kx:=Zn4) (N:=N) hC hΦ
  (Zav (by kernel_rfl))
  fun R E s K r h=>by
   have h2:=ZaB.add_self.symm.trans h
   refine (ZaS rfl).trans ?_
   obtain ⟨_,_,_,_,_,he,rfl,h3⟩:=ZjF h2
   rw [he]
   exact (Zrj N _ _ _ _ _ N _).trans h3
theorem Zvj:Za8 Zrf [] = [([0,1,0,1,1],ZmI)]:=by kernel_rfl
theorem ZwZ {R:Type} (N:Nat) (e_1:List V) (f_2:Fl) (e_3:List V) (f_4:Fl) (K:V → S → Option R):Zbw C (Zmq N) (Zm2 N) 26 Try.f26 [.list 1 e_1 f_2,.list 1 e_3 f_4] [] K =
 ZjD N e_1 f_2 e_3 f_4 (fun b_5=>K (.bool b_5) []):=by kernel_rfl
theorem Zqz {N:Nat} (hC:Ok Try.prog C) (hΦ:Zab Try.prog C (Zmq N)):ZaR Try.prog C (Zm2 N) Zrf [] :=
 ZaT Zrf [] (by
  rw [Zvj]
  intro p hp
  simp only [List.mem_cons,List.mem_nil_iff,or_false] at hp
  rcases hp with rfl
  ·exact (Zr9 hC hΦ))
theorem Zox (hC:Ok Try.prog C) {N:Nat} (hΦ:Zab Try.prog C (Zmq N)):Zab Try.prog C (Zll N):=by
 refine hΦ.add_pure rfl fun R vs K r h=>?_
 unfold ZvO at h
 obtain ⟨_,_,rfl,h1⟩:=Za9 h
 obtain ⟨_,_,rfl,h2⟩:=Zas h1
 obtain ⟨_,_,rfl,h3⟩:=Zas h2
 obtain ⟨_,h4⟩:=Zao h3
 refine ZaX (fn:=Try.f26) (c:=Zrf) hC hΦ Try.func26 (by kernel_rfl) (by kernel_rfl) (Zqz (N:=N) hC hΦ) rfl rfl ?_
 refine (ZwZ N _ _ _ _ _).trans ?_
 rw [← Zn3]
 exact h4
def ZvH (N:Nat):(R:Type) → List V → S → (V → S → Option R) → Option R:=fun _ vs s K =>
 Zii vs fun v'1 v'2=>ZaP 1 v'1 fun e_1 f_2=>ZaP 1 v'2 fun e_3 f_4=>Zbd s <| Zmz N e_1 f_2 e_3 f_4 (fun b_5=>K (.bool b_5) [])
def ZlE (N:Nat):Zat:=(Zll N).add 18 (ZvH N)
def Zqf:Code:=Zbp Try.f18
def ZmO:Code:=(Zb3 Zqf [] 0).2
def Zih:List Nat:=Zdq 27 [0,1,5]
def Znq:List Nat:=Zdq 27 [4]
def Zgd (e_1:List V) (f_2:Fl) (e_3:List V) (f_4:Fl) (x_5:Int):List V:=mkF 0 27 [(0,.list 1 e_1 f_2),(1,.list 1 e_3 f_4),(5,.int .i64 x_5)]
def ZeO {R:Type} (K:X → List V → S → Option R) (e_1:List V) (f_2:Fl) (e_3:List V) (f_4:Fl):Unit → Option R:=(fun _=>K .ret (mkF 0 27 [(4,.bool false)]) [])
def ZeX {R:Type} (K:X → List V → S → Option R) (e_1:List V) (f_2:Fl) (e_3:List V) (f_4:Fl):Unit → Option R:=(fun _=>K (.exit 0) (mkF 0 27 []) [])
abbrev Zi3 {R:Type} (N:Nat):Nat → List V → S → (X → List V → S → Option R) → Option R:=fun n=>Zha C (Zll N) (Zam) ZmO [0,1,0,1,1] false Zih Znq n R
theorem ZuX {R:Type} (N n:Nat) (e_1:List V) (f_2:Fl) (e_3:List V) (f_4:Fl) (x_5:Int) (K:X → List V → S → Option R) :
 Zi3 N (n + 1) (Zgd e_1 f_2 e_3 f_4 x_5) [] K =
 Zcv N e_1 f_2 e_3 f_4 (fun x_5=>Zi3 N n (Zgd e_1 f_2 e_3 f_4 x_5) [] K) x_5 (ZeO K e_1 f_2 e_3 f_4) (ZeX K e_1 f_2 e_3 f_4):=by kernel_rfl
theorem Zp6 {R:Type} (N:Nat) (e_1:List V) (f_2:Fl) (e_3:List V) (f_4:Fl) (K:X → List V → S → Option R):∀ (n:Nat) (x_5:Int),
 Zi3 N n (Zgd e_1 f_2 e_3 f_4 x_5) [] K = Zei N e_1 f_2 e_3 f_4 (ZeO K e_1 f_2 e_3 f_4) (ZeX K e_1 f_2 e_3 f_4) n x_5
 | 0,_=>rfl
 | n + 1,x_5=>(ZuX N n e_1 f_2 e_3 f_4 x_5 K).trans (congrArg (fun nx=>Zcv N e_1 f_2 e_3 f_4 nx x_5 (ZeO K e_1 f_2 e_3 f_4) (ZeX K e_1 f_2 e_3 f_4)) (funext fun x_5=>Zp6 N e_1 f_2 e_3 f_4 K n x_5))
def Zl0 {R:Type} (E:List V) (s:S) (k:List V → Fl → List V → Fl → Int → Option R):Option R :=
 Zaf (Zbn 27 [0,1,5] E) <| ZbC E 0 1 fun e_1 f_2=>ZbC E 1 1 fun e_3 f_4=>Zbm E 5 .i64 fun x_5=>Zbd s <| k e_1 f_2 e_3 f_4 x_5
theorem Zj1 {R:Type} {E:List V} {s:S} {k:List V → Fl → List V → Fl → Int → Option R} {r:R} (h:Zl0 E s k = some r):∃ e_1 f_2 e_3 f_4 x_5,E = Zgd e_1 f_2 e_3 f_4 x_5 ∧ s = [] ∧ k e_1 f_2 e_3 f_4 x_5 = some r:=by
 unfold Zl0 at h
 obtain ⟨hg,h1⟩:=Zaa h
 obtain ⟨_,_,hu0,h2⟩:=ZaC h1
 obtain ⟨_,_,hu1,h3⟩:=ZaC h2
 obtain ⟨_,hu5,h4⟩:=Zaq h3
 obtain ⟨rfl,h5⟩:=Zao h4
 exact ⟨_,_,_,_,_,Zbe hg rfl (Zah hu0 (Zah hu1 (Zah hu5 Za1))),rfl,h5⟩
def ZmX (N:Nat):ZaB:=(Zam).add [0,1,0,1,1] fun _ E s K=>Zl0 (Za7 Zih E) s fun e_1 f_2 e_3 f_4 x_5=>Zei N e_1 f_2 e_3 f_4 (ZeO K e_1 f_2 e_3 f_4) (ZeX K e_1 f_2 e_3 f_4) N x_5
theorem Zsu {N:Nat} (hC:Ok Try.prog C) (hΦ:Zab Try.prog C (Zll N)):Zbt Try.prog C (ZmX N) ZmO [0,1,0,1,1] :=
 Zbv (Λi:=Zam) (tr:=false) (ks:=Zih) (kx:=Znq) (N:=N) hC hΦ
  (Zav (by kernel_rfl))
  fun R E s K r h=>by
   have h2:=ZaB.add_self.symm.trans h
   refine (ZaS rfl).trans ?_
   obtain ⟨_,_,_,_,_,he,rfl,h3⟩:=Zj1 h2
   rw [he]
   exact (Zp6 N _ _ _ _ _ N _).trans h3
theorem Zwj:Za8 Zqf [] = [([0,1,0,1,1],ZmO)]:=by kernel_rfl
theorem ZwN {R:Type} (N:Nat) (e_1:List V) (f_2:Fl) (e_3:List V) (f_4:Fl) (K:V → S → Option R):Zbw C (Zll N) (ZmX N) 18 Try.f18 [.list 1 e_1 f_2,.list 1 e_3 f_4] [] K =
 ZkS N e_1 f_2 e_3 f_4 (fun b_5=>K (.bool b_5) []):=by kernel_rfl
theorem ZrA {N:Nat} (hC:Ok Try.prog C) (hΦ:Zab Try.prog C (Zll N)):ZaR Try.prog C (ZmX N) Zqf [] :=
 ZaT Zqf [] (by
  rw [Zwj]
  intro p hp
  simp only [List.mem_cons,List.mem_nil_iff,or_false] at hp
  rcases hp with rfl
  ·exact (Zsu hC hΦ))
theorem ZpE (hC:Ok Try.prog C) {N:Nat} (hΦ:Zab Try.prog C (Zll N)):Zab Try.prog C (ZlE N):=by
 refine hΦ.add_pure rfl fun R vs K r h=>?_
 unfold ZvH at h
 obtain ⟨_,_,rfl,h1⟩:=Za9 h
 obtain ⟨_,_,rfl,h2⟩:=Zas h1
 obtain ⟨_,_,rfl,h3⟩:=Zas h2
 obtain ⟨_,h4⟩:=Zao h3
 refine ZaX (fn:=Try.f18) (c:=Zqf) hC hΦ Try.func18 (by kernel_rfl) (by kernel_rfl) (ZrA (N:=N) hC hΦ) rfl rfl ?_
 refine (ZwN N _ _ _ _ _).trans ?_
 rw [← Zn6]
 exact h4
def Zvo (N:Nat):(R:Type) → List V → S → (V → S → Option R) → Option R:=fun _ vs s K =>
 Zii vs fun v'1 v'2=>Zhl v'1 fun o0 k'4 k'5 k_1=>isN k'4 0 <| isN k'5 0 <| asInt .i64 v'2 fun x_2=>Zwp s o0 0 fun o'6=>ZpK o'6 1 3 fun e_3 k'8=>isN k'8 0 <| Zaf (Zbq [o0]) <| Zaf (okI 1 [false] [some ⟨e_3,1,3,0⟩]) <| Ztu N k_1 x_2 e_3 (fun x_901 e_902=>FK s [o0] rl K (.int .i64 x_901) [some ⟨e_902,1,3,0⟩])
def Zlh (N:Nat):Zat:=(ZlE N).add 27 (Zvo N)
def ZpY:Code:=Zbp Try.f27
def Zl4:Code:=(Zb3 ZpY [] 0).2
def Zia:List Nat:=Zdq 19 [0,1,5]
def Zns:List Nat:=Zdq 19 [1]
def Zf3 (k_1:Nat) (x_2 x_3:Int) (e_4:List V):List V:=mkF 0 19 [(0,.arr 0 0 0 k_1),(1,.int .i64 x_2),(5,.int .i64 x_3)]
def Zfk {R:Type} (K:X → List V → S → Option R) (k_1:Nat):Int → List V → Option R:=(fun x_1' e_2'=>K (.exit 0) (mkF 0 19 [(1,.int .i64 (x_1'))]) [some ⟨e_2',1,3,0⟩])
abbrev ZiW {R:Type} (N:Nat):Nat → List V → S → (X → List V → S → Option R) → Option R:=fun n=>Zha C (ZlE N) (Zam) Zl4 [0,1,0,1] false Zia Zns n R
theorem Zuj {R:Type} (N n:Nat) (k_1:Nat) (x_2 x_3:Int) (e_4:List V) (K:X → List V → S → Option R) :
 ZiW N (n + 1) (Zf3 k_1 x_2 x_3 e_4) [some ⟨e_4,1,3,0⟩] K =
 Zcp N k_1 (fun x_2 x_3 e_4=>ZiW N n (Zf3 k_1 x_2 x_3 e_4) [some ⟨e_4,1,3,0⟩] K) x_2 x_3 e_4 (Zfk K k_1):=by kernel_rfl
theorem ZrQ {R:Type} (N:Nat) (k_1:Nat) (K:X → List V → S → Option R):∀ (n:Nat) (x_2 x_3:Int) (e_4:List V),
 ZiW N n (Zf3 k_1 x_2 x_3 e_4) [some ⟨e_4,1,3,0⟩] K = Zet N k_1 (Zfk K k_1) n x_2 x_3 e_4
 | 0,_,_,_=>rfl
 | n + 1,x_2,x_3,e_4=>(Zuj N n k_1 x_2 x_3 e_4 K).trans (congrArg (fun nx=>Zcp N k_1 nx x_2 x_3 e_4 (Zfk K k_1)) (funext fun x_2=>funext fun x_3=>funext fun e_4=>ZrQ N k_1 K n x_2 x_3 e_4))
def ZmU {R:Type} (E:List V) (s:S) (k:Nat → Int → Int → List V → Option R):Option R :=
 Zaf (Zbn 19 [0,1,5] E) <| ZbA (nth E 0) fun u0=>Zhl u0 fun k'1 k'2 k'3 k_1=>isN k'1 0 <| isN k'2 0 <| isN k'3 0 <| Zbm E 1 .i64 fun x_2=>Zbm E 5 .i64 fun x_3=>Zr5 s fun o'4 s'5=>ZpK o'4 1 3 fun e_4 k'6=>isN k'6 0 <| Zbd s'5 <| k k_1 x_2 x_3 e_4
theorem Zk8 {R:Type} {E:List V} {s:S} {k:Nat → Int → Int → List V → Option R} {r:R} (h:ZmU E s k = some r):∃ k_1 x_2 x_3 e_4,E = Zf3 k_1 x_2 x_3 e_4 ∧ s = [some ⟨e_4,1,3,0⟩] ∧ k k_1 x_2 x_3 e_4 = some r:=by
 unfold ZmU at h
 obtain ⟨hg,h1⟩:=Zaa h
 obtain ⟨_,hu0,h2⟩:=Zae h1
 obtain ⟨_,_,_,_,rfl,h3⟩:=ZbT h2
 obtain ⟨rfl,h4⟩:=ZaJ h3
 obtain ⟨rfl,h5⟩:=ZaJ h4
 obtain ⟨rfl,h6⟩:=ZaJ h5
 obtain ⟨_,hu1,h7⟩:=Zaq h6
 obtain ⟨_,hu5,h8⟩:=Zaq h7
 obtain ⟨_,_,rfl,h9⟩:=Zco h8
 obtain ⟨_,_,rfl,h10⟩:=ZbN h9
 obtain ⟨rfl,h11⟩:=ZaJ h10
 obtain ⟨rfl,h12⟩:=Zao h11
 exact ⟨_,_,_,_,Zbe hg rfl (Zah hu0 (Zah hu1 (Zah hu5 Za1))),rfl,h12⟩
def Zmp (N:Nat):ZaB:=(Zam).add [0,1,0,1] fun _ E s K=>ZmU (Za7 Zia E) s fun k_1 x_2 x_3 e_4=>Zet N k_1 (Zfk K k_1) N x_2 x_3 e_4
theorem Zs8 {N:Nat} (hC:Ok Try.prog C) (hΦ:Zab Try.prog C (ZlE N)):Zbt Try.prog C (Zmp N) Zl4 [0,1,0,1] :=
 Zbv (Λi:=Zam) (tr:=false) (ks:=Zia) (kx:=Zns) (N:=N) hC hΦ
  (Zav (by kernel_rfl))
  fun R E s K r h=>by
   have h2:=ZaB.add_self.symm.trans h
   refine (ZaS rfl).trans ?_
   obtain ⟨_,_,_,_,he,rfl,h3⟩:=Zk8 h2
   rw [he]
   exact (ZrQ N _ _ N _ _ _).trans h3
theorem Zva:Za8 ZpY [] = [([0,1,0,1],Zl4)]:=by kernel_rfl
theorem ZwK {R:Type} (N:Nat) (k_1:Nat) (x_2:Int) (e_3:List V) (K:V → S → Option R):Zbw C (ZlE N) (Zmp N) 27 Try.f27 [.arr 0 0 0 k_1,.int .i64 x_2] [some ⟨e_3,1,3,0⟩] (GK rl 1 K) =
 ZjX N k_1 x_2 e_3 (fun x_901 e_902=>K (.int .i64 x_901) [some ⟨e_902,1,3,0⟩]):=by kernel_rfl
theorem ZqB {N:Nat} (hC:Ok Try.prog C) (hΦ:Zab Try.prog C (ZlE N)):ZaR Try.prog C (Zmp N) ZpY [] :=
 ZaT ZpY [] (by
  rw [Zva]
  intro p hp
  simp only [List.mem_cons,List.mem_nil_iff,or_false] at hp
  rcases hp with rfl
  ·exact (Zs8 hC hΦ))
theorem Zpd (hC:Ok Try.prog C) {N:Nat} (hΦ:Zab Try.prog C (ZlE N)):Zab Try.prog C (Zlh N):=by
 refine hΦ.add_shared rfl fun R vs s K r h=>?_
 unfold Zvo at h
 obtain ⟨_,_,rfl,h1⟩:=Za9 h
 obtain ⟨o0,_,_,k_1,rfl,h2⟩:=ZbT h1
 obtain ⟨rfl,h3⟩:=ZaJ h2
 obtain ⟨rfl,h4⟩:=ZaJ h3
 obtain ⟨x_2,rfl,h5⟩:=Zay h4
 obtain ⟨_,hob0,h6⟩:=Zkc h5
 obtain ⟨e_3,_,rfl,h7⟩:=ZbN h6
 obtain ⟨rfl,h8⟩:=ZaJ h7
 obtain ⟨hdist,h9⟩:=Zaa h8
 obtain ⟨hin,h10⟩:=Zaa h9
 refine Zhc (C:=C) (fn:=Try.f27) (c:=ZpY) (os:=[o0]) (rl:=rl) (bi:=[false]) (s0:=[some ⟨e_3,1,3,0⟩]) (as0:=[.arr 0 0 0 k_1,.int .i64 x_2]) hC (hΦ) Try.func27 (by kernel_rfl) (by kernel_rfl) (ZqB (N:=N) hC hΦ) rfl (Zp2 rfl) hdist ⟨⟨_,rfl,hob0⟩,trivial⟩ hin rfl rfl ?_
 refine (ZwK N _ _ _ _).trans ?_
 rw [← Znl]
 exact h10
def Zu7 (N:Nat):(R:Type) → List V → S → (V → S → Option R) → Option R:=fun _ vs s K =>
 Zii vs fun v'1 v'2=>Zhl v'1 fun o0 k'4 k'5 k_1=>isN k'4 0 <| isN k'5 0 <| asInt .i64 v'2 fun x_2=>Zwp s o0 0 fun o'6=>ZpK o'6 1 32 fun e_3 k'8=>isN k'8 0 <| Zaf (Zbq [o0]) <| Zaf (okI 1 [false] [some ⟨e_3,1,32,0⟩]) <| ZmQ N k_1 x_2 e_3 (fun x_901 e_902=>FK s [o0] rl K (.int .i64 x_901) [some ⟨e_902,1,32,0⟩])
def ZlN (N:Nat):Zat:=(Zlh N).add 19 (Zu7 N)
def ZpZ:Code:=Zbp Try.f19
def Zlq:Code:=(Zb3 ZpZ [] 0).2
def Zfr:TypeId → Option (Nat × TypeId):=fun t=>if Nat.beq t 32 then some (0,3) else none
abbrev ZpR:Cfg:=C.rowed false true none Zfr [] [] [] []
def ZiE:List Nat:=Zdq 19 [0,1,5]
def ZnW:List Nat:=Zdq 19 [1]
def Zgg (k_1:Nat) (x_2 x_3:Int) (e_4:List V):List V:=mkF 0 19 [(0,.arr 0 0 0 k_1),(1,.int .i64 x_2),(5,.int .i64 x_3)]
def Ze8 {R:Type} (K:X → List V → S → Option R) (k_1:Nat):Int → List V → Option R:=(fun x_1' e_2'=>K (.exit 0) (mkF 0 19 [(1,.int .i64 (x_1'))]) [some ⟨e_2',1,32,0⟩])
abbrev Zij {R:Type} (N:Nat):Nat → List V → S → (X → List V → S → Option R) → Option R:=fun n=>Zha ZpR (Zlh N) (Zam) Zlq [0,1,0,1] true ZiE ZnW n R
theorem ZuB {R:Type} (N n:Nat) (k_1:Nat) (x_2 x_3:Int) (e_4:List V) (K:X → List V → S → Option R) :
 Zij N (n + 1) (Zgg k_1 x_2 x_3 e_4) [some ⟨e_4,1,32,0⟩] K =
 Zcm N k_1 (fun x_2 x_3 e_4=>Zij N n (Zgg k_1 x_2 x_3 e_4) [some ⟨e_4,1,32,0⟩] K) x_2 x_3 e_4 (Ze8 K k_1):=by kernel_rfl
theorem ZrI {R:Type} (N:Nat) (k_1:Nat) (K:X → List V → S → Option R):∀ (n:Nat) (x_2 x_3:Int) (e_4:List V),
 Zij N n (Zgg k_1 x_2 x_3 e_4) [some ⟨e_4,1,32,0⟩] K = Zeq N k_1 (Ze8 K k_1) n x_2 x_3 e_4
 | 0,_,_,_=>rfl
 | n + 1,x_2,x_3,e_4=>(ZuB N n k_1 x_2 x_3 e_4 K).trans (congrArg (fun nx=>Zcm N k_1 nx x_2 x_3 e_4 (Ze8 K k_1)) (funext fun x_2=>funext fun x_3=>funext fun e_4=>ZrI N k_1 K n x_2 x_3 e_4))
def ZlP {R:Type} (E:List V) (s:S) (k:Nat → Int → Int → List V → Option R):Option R :=
 Zaf (Zbn 19 [0,1,5] E) <| ZbA (nth E 0) fun u0=>Zhl u0 fun k'1 k'2 k'3 k_1=>isN k'1 0 <| isN k'2 0 <| isN k'3 0 <| Zbm E 1 .i64 fun x_2=>Zbm E 5 .i64 fun x_3=>Zr5 s fun o'4 s'5=>ZpK o'4 1 32 fun e_4 k'6=>isN k'6 0 <| Zbd s'5 <| k k_1 x_2 x_3 e_4
theorem Zka {R:Type} {E:List V} {s:S} {k:Nat → Int → Int → List V → Option R} {r:R} (h:ZlP E s k = some r):∃ k_1 x_2 x_3 e_4,E = Zgg k_1 x_2 x_3 e_4 ∧ s = [some ⟨e_4,1,32,0⟩] ∧ k k_1 x_2 x_3 e_4 = some r:=by
 unfold ZlP at h
 obtain ⟨hg,h1⟩:=Zaa h
 obtain ⟨_,hu0,h2⟩:=Zae h1
 obtain ⟨_,_,_,_,rfl,h3⟩:=ZbT h2
 obtain ⟨rfl,h4⟩:=ZaJ h3
 obtain ⟨rfl,h5⟩:=ZaJ h4
 obtain ⟨rfl,h6⟩:=ZaJ h5
 obtain ⟨_,hu1,h7⟩:=Zaq h6
 obtain ⟨_,hu5,h8⟩:=Zaq h7
 obtain ⟨_,_,rfl,h9⟩:=Zco h8
 obtain ⟨_,_,rfl,h10⟩:=ZbN h9
 obtain ⟨rfl,h11⟩:=ZaJ h10
 obtain ⟨rfl,h12⟩:=Zao h11
 exact ⟨_,_,_,_,Zbe hg rfl (Zah hu0 (Zah hu1 (Zah hu5 Za1))),rfl,h12⟩
def ZmN (N:Nat):ZaB:=(Zam).add [0,1,0,1] fun _ E s K=>ZlP (Za7 ZiE E) s fun k_1 x_2 x_3 e_4=>Zeq N k_1 (Ze8 K k_1) N x_2 x_3 e_4
theorem Zs9 {N:Nat} (hC:Ok Try.prog C) (hΦ:Zab Try.prog C (Zlh N)):Zbt Try.prog ZpR (ZmN N) Zlq [0,1,0,1] :=
 Zbv (Λi:=Zam) (tr:=true) (ks:=ZiE) (kx:=ZnW) (N:=N) (hC.rowed false true none Zfr [] [] [] []) (hΦ.rowed false true none Zfr [] [] [] [])
  (Zav (by kernel_rfl))
  fun R E s K r h=>by
   have h2:=ZaB.add_self.symm.trans h
   refine (ZaS rfl).trans ?_
   obtain ⟨_,_,_,_,he,rfl,h3⟩:=Zka h2
   rw [he]
   exact (ZrI N _ _ N _ _ _).trans h3
theorem Zu9:Za8 ZpZ [] = [([0,1,0,1],Zlq)]:=by kernel_rfl
theorem Zxg {R:Type} (N:Nat) (k_1:Nat) (x_2:Int) (e_3:List V) (K:V → S → Option R):Zbw ZpR (Zlh N) (ZmN N) 19 Try.f19 [.arr 0 0 0 k_1,.int .i64 x_2] [some ⟨e_3,1,32,0⟩] (GK rl 1 K) =
 ZjB N k_1 x_2 e_3 (fun x_901 e_902=>K (.int .i64 x_901) [some ⟨e_902,1,32,0⟩]):=by kernel_rfl
theorem ZqL {N:Nat} (hC:Ok Try.prog C) (hΦ:Zab Try.prog C (Zlh N)):ZaR Try.prog ZpR (ZmN N) ZpZ [] :=
 ZaT ZpZ [] (by
  rw [Zu9]
  intro p hp
  simp only [List.mem_cons,List.mem_nil_iff,or_false] at hp
  rcases hp with rfl
  ·exact (Zs9 hC hΦ))
theorem ZoK (hC:Ok Try.prog C) {N:Nat} (hΦ:Zab Try.prog C (Zlh N)):Zab Try.prog C (ZlN N):=by
 refine hΦ.add_shared rfl fun R vs s K r h=>?_
 unfold Zu7 at h
 obtain ⟨_,_,rfl,h1⟩:=Za9 h
 obtain ⟨o0,_,_,k_1,rfl,h2⟩:=ZbT h1
 obtain ⟨rfl,h3⟩:=ZaJ h2
 obtain ⟨rfl,h4⟩:=ZaJ h3
 obtain ⟨x_2,rfl,h5⟩:=Zay h4
 obtain ⟨_,hob0,h6⟩:=Zkc h5
 obtain ⟨e_3,_,rfl,h7⟩:=ZbN h6
 obtain ⟨rfl,h8⟩:=ZaJ h7
 obtain ⟨hdist,h9⟩:=Zaa h8
 obtain ⟨hin,h10⟩:=Zaa h9
 refine Zio (C:=C) false true none Zfr [] [] [] [] ?_
 refine Zhc (C:=ZpR) (fn:=Try.f19) (c:=ZpZ) (os:=[o0]) (rl:=rl) (bi:=[false]) (s0:=[some ⟨e_3,1,32,0⟩]) (as0:=[.arr 0 0 0 k_1,.int .i64 x_2]) (hC.rowed false true none Zfr [] [] [] []) (hΦ.rowed false true none Zfr [] [] [] []) Try.func19 (by kernel_rfl) (by kernel_rfl) (ZqL (N:=N) hC hΦ) rfl (Zp2 rfl) hdist ⟨⟨_,rfl,hob0⟩,trivial⟩ hin rfl rfl ?_
 refine (Zxg N _ _ _ _).trans ?_
 rw [← Zm4]
 exact h10
def Zwk (N:Nat):(R:Type) → List V → S → (V → S → Option R) → Option R:=fun _ vs s K =>
 Zii vs fun v'1 v'2=>ZaP 1 v'1 fun e_1 f_2=>asInt .i64 v'2 fun x_3=>Zbd s <| Ztq N e_1 f_2 x_3 (fun x_4=>K (.int .i64 x_4) [])
def Zls (N:Nat):Zat:=(ZlN N).add 28 (Zwk N)
def Zrz:Code:=Zbp Try.f28
def ZlQ:Code:=(Zb3 Zrz [] 0).2
def Zit:List Nat:=Zdq 21 [0,1,5]
def ZnP:List Nat:=Zdq 21 [1,4]
def Zgf (e_1:List V) (f_2:Fl) (x_3 x_4:Int):List V:=mkF 0 21 [(0,.list 1 e_1 f_2),(1,.int .i64 x_3),(5,.int .i64 x_4)]
def Zfc {R:Type} (K:X → List V → S → Option R) (e_1:List V) (f_2:Fl):Int → Option R:=(fun x_1'=>K .ret (mkF 0 21 [(1,.int .i64 (x_1')),(4,.int .i64 (-1))]) [])
def ZeK {R:Type} (K:X → List V → S → Option R) (e_1:List V) (f_2:Fl):Int → Option R:=(fun x_1'=>K (.exit 0) (mkF 0 21 [(1,.int .i64 (x_1'))]) [])
abbrev ZiD {R:Type} (N:Nat):Nat → List V → S → (X → List V → S → Option R) → Option R:=fun n=>Zha C (ZlN N) (Zam) ZlQ [0,1,0,1] false Zit ZnP n R
theorem ZuF {R:Type} (N n:Nat) (e_1:List V) (f_2:Fl) (x_3 x_4:Int) (K:X → List V → S → Option R) :
 ZiD N (n + 1) (Zgf e_1 f_2 x_3 x_4) [] K =
 Zct N e_1 f_2 (fun x_3 x_4=>ZiD N n (Zgf e_1 f_2 x_3 x_4) [] K) x_3 x_4 (Zfc K e_1 f_2) (ZeK K e_1 f_2):=by kernel_rfl
theorem ZqQ {R:Type} (N:Nat) (e_1:List V) (f_2:Fl) (K:X → List V → S → Option R):∀ (n:Nat) (x_3 x_4:Int),
 ZiD N n (Zgf e_1 f_2 x_3 x_4) [] K = Zd7 N e_1 f_2 (Zfc K e_1 f_2) (ZeK K e_1 f_2) n x_3 x_4
 | 0,_,_=>rfl
 | n + 1,x_3,x_4=>(ZuF N n e_1 f_2 x_3 x_4 K).trans (congrArg (fun nx=>Zct N e_1 f_2 nx x_3 x_4 (Zfc K e_1 f_2) (ZeK K e_1 f_2)) (funext fun x_3=>funext fun x_4=>ZqQ N e_1 f_2 K n x_3 x_4))
def Zmv {R:Type} (E:List V) (s:S) (k:List V → Fl → Int → Int → Option R):Option R :=
 Zaf (Zbn 21 [0,1,5] E) <| ZbC E 0 1 fun e_1 f_2=>Zbm E 1 .i64 fun x_3=>Zbm E 5 .i64 fun x_4=>Zbd s <| k e_1 f_2 x_3 x_4
theorem Zj5 {R:Type} {E:List V} {s:S} {k:List V → Fl → Int → Int → Option R} {r:R} (h:Zmv E s k = some r):∃ e_1 f_2 x_3 x_4,E = Zgf e_1 f_2 x_3 x_4 ∧ s = [] ∧ k e_1 f_2 x_3 x_4 = some r:=by
 unfold Zmv at h
 obtain ⟨hg,h1⟩:=Zaa h
 obtain ⟨_,_,hu0,h2⟩:=ZaC h1
 obtain ⟨_,hu1,h3⟩:=Zaq h2
 obtain ⟨_,hu5,h4⟩:=Zaq h3
 obtain ⟨rfl,h5⟩:=Zao h4
 exact ⟨_,_,_,_,Zbe hg rfl (Zah hu0 (Zah hu1 (Zah hu5 Za1))),rfl,h5⟩
def ZmS (N:Nat):ZaB:=(Zam).add [0,1,0,1] fun _ E s K=>Zmv (Za7 Zit E) s fun e_1 f_2 x_3 x_4=>Zd7 N e_1 f_2 (Zfc K e_1 f_2) (ZeK K e_1 f_2) N x_3 x_4
theorem Ztb {N:Nat} (hC:Ok Try.prog C) (hΦ:Zab Try.prog C (ZlN N)):Zbt Try.prog C (ZmS N) ZlQ [0,1,0,1] :=
 Zbv (Λi:=Zam) (tr:=false) (ks:=Zit) (kx:=ZnP) (N:=N) hC hΦ
  (Zav (by kernel_rfl))
  fun R E s K r h=>by
   have h2:=ZaB.add_self.symm.trans h
   refine (ZaS rfl).trans ?_
   obtain ⟨_,_,_,_,he,rfl,h3⟩:=Zj5 h2
   rw [he]
   exact (ZqQ N _ _ _ N _ _).trans h3
theorem ZvL:Za8 Zrz [] = [([0,1,0,1],ZlQ)]:=by kernel_rfl
theorem Zwz {R:Type} (N:Nat) (e_1:List V) (f_2:Fl) (x_3:Int) (K:V → S → Option R):Zbw C (ZlN N) (ZmS N) 28 Try.f28 [.list 1 e_1 f_2,.int .i64 x_3] [] K =
 Zku N e_1 f_2 x_3 (fun x_4=>K (.int .i64 x_4) []):=by kernel_rfl
theorem ZqX {N:Nat} (hC:Ok Try.prog C) (hΦ:Zab Try.prog C (ZlN N)):ZaR Try.prog C (ZmS N) Zrz [] :=
 ZaT Zrz [] (by
  rw [ZvL]
  intro p hp
  simp only [List.mem_cons,List.mem_nil_iff,or_false] at hp
  rcases hp with rfl
  ·exact (Ztb hC hΦ))
theorem Zpn (hC:Ok Try.prog C) {N:Nat} (hΦ:Zab Try.prog C (ZlN N)):Zab Try.prog C (Zls N):=by
 refine hΦ.add_pure rfl fun R vs K r h=>?_
 unfold Zwk at h
 obtain ⟨_,_,rfl,h1⟩:=Za9 h
 obtain ⟨_,_,rfl,h2⟩:=Zas h1
 obtain ⟨_,rfl,h3⟩:=Zay h2
 obtain ⟨_,h4⟩:=Zao h3
 refine ZaX (fn:=Try.f28) (c:=Zrz) hC hΦ Try.func28 (by kernel_rfl) (by kernel_rfl) (ZqX (N:=N) hC hΦ) rfl rfl ?_
 refine (Zwz N _ _ _ _).trans ?_
 rw [← ZnY]
 exact h4
def Zwb (N:Nat):(R:Type) → List V → S → (V → S → Option R) → Option R:=fun _ vs s K =>
 Zii vs fun v'1 v'2=>ZaP 1 v'1 fun e_1 f_2=>asInt .i64 v'2 fun x_3=>Zbd s <| Zpc N e_1 f_2 x_3 (fun x_4=>K (.int .i64 x_4) [])
def Zpi (N:Nat):Zat:=(Zls N).add 20 (Zwb N)
def ZrY:Code:=Zbp Try.f20
def ZmJ:Code:=(Zb3 ZrY [] 0).2
def Zie:List Nat:=Zdq 21 [0,1,5]
def Znm:List Nat:=Zdq 21 [1,4]
def Zf5 (e_1:List V) (f_2:Fl) (x_3 x_4:Int):List V:=mkF 0 21 [(0,.list 1 e_1 f_2),(1,.int .i64 x_3),(5,.int .i64 x_4)]
def Zey {R:Type} (K:X → List V → S → Option R) (e_1:List V) (f_2:Fl):Int → Option R:=(fun x_1'=>K .ret (mkF 0 21 [(1,.int .i64 (x_1')),(4,.int .i64 (-1))]) [])
def Zfg {R:Type} (K:X → List V → S → Option R) (e_1:List V) (f_2:Fl):Int → Option R:=(fun x_1'=>K (.exit 0) (mkF 0 21 [(1,.int .i64 (x_1'))]) [])
abbrev Zip {R:Type} (N:Nat):Nat → List V → S → (X → List V → S → Option R) → Option R:=fun n=>Zha C (Zls N) (Zam) ZmJ [0,1,0,1] false Zie Znm n R
theorem ZuS {R:Type} (N n:Nat) (e_1:List V) (f_2:Fl) (x_3 x_4:Int) (K:X → List V → S → Option R) :
 Zip N (n + 1) (Zf5 e_1 f_2 x_3 x_4) [] K =
 Zcn N e_1 f_2 (fun x_3 x_4=>Zip N n (Zf5 e_1 f_2 x_3 x_4) [] K) x_3 x_4 (Zey K e_1 f_2) (Zfg K e_1 f_2):=by kernel_rfl
theorem ZpO {R:Type} (N:Nat) (e_1:List V) (f_2:Fl) (K:X → List V → S → Option R):∀ (n:Nat) (x_3 x_4:Int),
 Zip N n (Zf5 e_1 f_2 x_3 x_4) [] K = Zee N e_1 f_2 (Zey K e_1 f_2) (Zfg K e_1 f_2) n x_3 x_4
 | 0,_,_=>rfl
 | n + 1,x_3,x_4=>(ZuS N n e_1 f_2 x_3 x_4 K).trans (congrArg (fun nx=>Zcn N e_1 f_2 nx x_3 x_4 (Zey K e_1 f_2) (Zfg K e_1 f_2)) (funext fun x_3=>funext fun x_4=>ZpO N e_1 f_2 K n x_3 x_4))
def Zmb {R:Type} (E:List V) (s:S) (k:List V → Fl → Int → Int → Option R):Option R :=
 Zaf (Zbn 21 [0,1,5] E) <| ZbC E 0 1 fun e_1 f_2=>Zbm E 1 .i64 fun x_3=>Zbm E 5 .i64 fun x_4=>Zbd s <| k e_1 f_2 x_3 x_4
theorem ZkJ {R:Type} {E:List V} {s:S} {k:List V → Fl → Int → Int → Option R} {r:R} (h:Zmb E s k = some r):∃ e_1 f_2 x_3 x_4,E = Zf5 e_1 f_2 x_3 x_4 ∧ s = [] ∧ k e_1 f_2 x_3 x_4 = some r:=by
 unfold Zmb at h
 obtain ⟨hg,h1⟩:=Zaa h
 obtain ⟨_,_,hu0,h2⟩:=ZaC h1
 obtain ⟨_,hu1,h3⟩:=Zaq h2
 obtain ⟨_,hu5,h4⟩:=Zaq h3
 obtain ⟨rfl,h5⟩:=Zao h4
 exact ⟨_,_,_,_,Zbe hg rfl (Zah hu0 (Zah hu1 (Zah hu5 Za1))),rfl,h5⟩
def ZlG (N:Nat):ZaB:=(Zam).add [0,1,0,1] fun _ E s K=>Zmb (Za7 Zie E) s fun e_1 f_2 x_3 x_4=>Zee N e_1 f_2 (Zey K e_1 f_2) (Zfg K e_1 f_2) N x_3 x_4
theorem Ztk {N:Nat} (hC:Ok Try.prog C) (hΦ:Zab Try.prog C (Zls N)):Zbt Try.prog C (ZlG N) ZmJ [0,1,0,1] :=
 Zbv (Λi:=Zam) (tr:=false) (ks:=Zie) (kx:=Znm) (N:=N) hC hΦ
  (Zav (by kernel_rfl))
  fun R E s K r h=>by
   have h2:=ZaB.add_self.symm.trans h
   refine (ZaS rfl).trans ?_
   obtain ⟨_,_,_,_,he,rfl,h3⟩:=ZkJ h2
   rw [he]
   exact (ZpO N _ _ _ N _ _).trans h3
theorem Zvw:Za8 ZrY [] = [([0,1,0,1],ZmJ)]:=by kernel_rfl
theorem ZwU {R:Type} (N:Nat) (e_1:List V) (f_2:Fl) (x_3:Int) (K:V → S → Option R):Zbw C (Zls N) (ZlG N) 20 Try.f20 [.list 1 e_1 f_2,.int .i64 x_3] [] K =
 ZjG N e_1 f_2 x_3 (fun x_4=>K (.int .i64 x_4) []):=by kernel_rfl
theorem ZpW {N:Nat} (hC:Ok Try.prog C) (hΦ:Zab Try.prog C (Zls N)):ZaR Try.prog C (ZlG N) ZrY [] :=
 ZaT ZrY [] (by
  rw [Zvw]
  intro p hp
  simp only [List.mem_cons,List.mem_nil_iff,or_false] at hp
  rcases hp with rfl
  ·exact (Ztk hC hΦ))
theorem ZoQ (hC:Ok Try.prog C) {N:Nat} (hΦ:Zab Try.prog C (Zls N)):Zab Try.prog C (Zpi N):=by
 refine hΦ.add_pure rfl fun R vs K r h=>?_
 unfold Zwb at h
 obtain ⟨_,_,rfl,h1⟩:=Za9 h
 obtain ⟨_,_,rfl,h2⟩:=Zas h1
 obtain ⟨_,rfl,h3⟩:=Zay h2
 obtain ⟨_,h4⟩:=Zao h3
 refine ZaX (fn:=Try.f20) (c:=ZrY) hC hΦ Try.func20 (by kernel_rfl) (by kernel_rfl) (ZpW (N:=N) hC hΦ) rfl rfl ?_
 refine (ZwU N _ _ _ _).trans ?_
 rw [← Znp]
 exact h4
def ZvG (N:Nat):(R:Type) → List V → S → (V → S → Option R) → Option R:=fun _ vs s K =>
 Zii vs fun v'1 v'2=>ZaP 1 v'1 fun e_1 f_2=>asInt .i64 v'2 fun x_3=>Zbd s <| Zvk N e_1 f_2 x_3 (fun b_4=>K (.bool b_4) [])
def Zwv (N:Nat):Zat:=(Zpi N).add 3 (ZvG N)
def ZuH:Code:=Zbp Try.f3
def inl_zag:TypeId → Option (Nat × TypeId):=fun t=>if Nat.beq t 32 then some (0,3) else none
abbrev Zt2:Cfg:=C.rowed false true none inl_zag [] [] [] []
theorem ZwG {R:Type} (N:Nat) (e_1:List V) (f_2:Fl) (x_3:Int) (K:V → S → Option R):Zh2 Zt2 (Zpi N) Zam ZuH [] ([.list 1 e_1 f_2,.int .i64 x_3] ++ List.replicate (Try.f3.ntmps - ([.list 1 e_1 f_2,.int .i64 x_3]:List V).length) .dead) [] (Zxl Zt2 3 Try.f3 K) =
 ZqT N e_1 f_2 x_3 (fun b_4=>K (.bool b_4) []):=by kernel_rfl
theorem b_zag {R:Type} (N:Nat) (e_1:List V) (f_2:Fl) (x_3:Int) (K:V → S → Option R):Zbw Zt2 (Zpi N) Zam 3 Try.f3 [.list 1 e_1 f_2,.int .i64 x_3] [] K =
 Zg2 N e_1 f_2 x_3 (fun b_4=>K (.bool b_4) []):=by
 refine (Zq5 (c:=ZuH) (by kernel_rfl)).trans ?_
 unfold Zg2
 exact ZwG N _ _ _ K
theorem Zu6 (hC:Ok Try.prog C) {N:Nat} (hΦ:Zab Try.prog C (Zpi N)):Zab Try.prog C (Zwv N):=by
 refine hΦ.add_pure rfl fun R vs K r h=>?_
 unfold ZvG at h
 obtain ⟨_,_,rfl,h1⟩:=Za9 h
 obtain ⟨_,_,rfl,h2⟩:=Zas h1
 obtain ⟨_,rfl,h3⟩:=Zay h2
 obtain ⟨_,h4⟩:=Zao h3
 refine ZaX (fn:=Try.f3) (c:=ZuH) (hC.rowed false true none inl_zag [] [] [] []) (hΦ.rowed false true none inl_zag [] [] [] []) Try.func3 (by kernel_rfl) (by kernel_rfl) (Zav (Λ:=Zam) (by kernel_rfl)) rfl rfl ?_
 refine (b_zag N _ _ _ _).trans ?_
 rw [← Zsi]
 exact h4
theorem callee_zag_prev (hC:Ok Try.prog C) (N:Nat):Zab Try.prog C (Zpi N) :=
 have h0:=ZlA Try.prog C
 have h1:=ZoH hC (N:=N) h0
 have h2:=Zpe hC (N:=N) h1
 have h3:=Zps hC (N:=N) h2
 have h4:=Zpo hC (N:=N) h3
 have h5:=ZpD hC (N:=N) h4
 have h6:=Zpk hC (N:=N) h5
 have h7:=Zo0 hC (N:=N) h6
 have h8:=ZoU hC (N:=N) h7
 have h9:=Zpm hC (N:=N) h8
 have h10:=Zo9 hC (N:=N) h9
 have h11:=ZpC hC (N:=N) h10
 have h12:=Zpa hC (N:=N) h11
 have h13:=Zpx hC (N:=N) h12
 have h14:=Zou hC (N:=N) h13
 have h15:=Zpb hC (N:=N) h14
 have h16:=ZoP hC (N:=N) h15
 have h17:=ZoA hC (N:=N) h16
 have h18:=ZoT hC (N:=N) h17
 have h19:=Zpf hC (N:=N) h18
 have h20:=ZpF hC (N:=N) h19
 have h21:=Zpr hC (N:=N) h20
 have h22:=ZpA hC (N:=N) h21
 have h23:=Zot hC (N:=N) h22
 have h24:=ZoY hC (N:=N) h23
 have h25:=Zo7 hC (N:=N) h24
 have h26:=Zox hC (N:=N) h25
 have h27:=ZpE hC (N:=N) h26
 have h28:=Zpd hC (N:=N) h27
 have h29:=ZoK hC (N:=N) h28
 have h30:=Zpn hC (N:=N) h29
 have h31:=ZoQ hC (N:=N) h30
 h31
end
end Go.VM.VL
