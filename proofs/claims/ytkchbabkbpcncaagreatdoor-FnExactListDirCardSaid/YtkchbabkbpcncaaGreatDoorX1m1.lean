/- The functions of the program, told plainly: what each computes, as a function of its letters; and that the machine does the same. Printed by vgen.py, a program of this session's own. -/
import Derived.Test.YtkchbabkbpcncaaGreatDoorX1
import Derived.WalkKit
import Derived.Lib.Walk
import Derived.Lib.SliceRun
import Derived.Lib.AppendZerosOnto
import Derived.Test.YtkchbabkbpcncaaGreatDoorProg
import Derived.KernelRfl
set_option linter.unusedVariables false
namespace Go.VM.VL
noncomputable section
open Go.Proofs
def rl (t:TypeId):Bool:=[9,35,49,51].any (Nat.beq t)
def mode (f:FuncId):Mode :=
 match [11,12,23,37,47,78,79,88].any (Nat.beq f) with
 | true=>.shared
 | false=>match [46,81].any (Nat.beq f) with
  | true=>.own
  | false=>match [6,8,18,30,48].any (Nat.beq f) with
   | true=>.fresh
   | false=>.pure
abbrev C:Cfg:={ Cfg.of Tryz.prog 9 mode (fun f=>[81].any (Nat.beq f)) with rl:=rl }
def ZNG (N:Nat):(R:Type) → List V → S → (V → S → Option R) → Option R:=fun _ vs s K =>
 Zcf vs fun v'1 v'2=>Zci v'1 fun w_1 x_2=>asInt .i64 v'2 fun x_3=>ZaR s <| ZGR N w_1 x_2 x_3 (fun x_4=>K (.int .i64 x_4) [])
def ZtI (N:Nat):Zar:=(ZkA).add 62 (ZNG N)
def ZQk:Code:=ZaS Tryz.f62
theorem ZSr {R:Type} (N:Nat) (w_1:ByteArray) (x_2 x_3:Int) (K:V → S → Option R):Za2 C (ZkA) (Zad) 62 Tryz.f62 [.agg [.str w_1,.int .i64 x_2],.int .i64 x_3] [] K =
 ZrJ N w_1 x_2 x_3 (fun x_4=>K (.int .i64 x_4) []):=by kernel_rfl
theorem ZBu (hC:Ok Tryz.prog C) {N:Nat} (hΦ:Zaa Tryz.prog C (ZkA)):Zaa Tryz.prog C (ZtI N):=by
 refine hΦ.add_pure rfl fun R vs K r h=>?_
 unfold ZNG at h
 obtain ⟨_,_,rfl,h1⟩:=Zas h
 obtain ⟨_,_,rfl,h2⟩:=Zei h1
 obtain ⟨_,rfl,h3⟩:=Zaf h2
 obtain ⟨_,h4⟩:=Zae h3
 refine Zaq (fn:=Tryz.f62) (c:=ZQk) hC hΦ Tryz.func62 (by kernel_rfl) (by kernel_rfl) (Zai (Λ:=Zad) (by kernel_rfl)) rfl rfl ?_
 refine (ZSr N _ _ _ _).trans ?_
 rw [← ZwV]
 exact h4
def ZNr (N:Nat):(R:Type) → List V → S → (V → S → Option R) → Option R:=fun _ vs s K =>
 Zcf vs fun v'1 v'2=>ZaX 2 v'1 fun e_1 f_2=>asInt .i64 v'2 fun x_3=>ZaR s <| ZIn N e_1 f_2 x_3 (fun x_4=>K (.int .i64 x_4) [])
def ZKo (N:Nat):Zar:=(ZtI N).add 38 (ZNr N)
def ZDK:Code:=ZaS Tryz.f38
def ZtA:Code:=(Zbn ZDK [] 0).2
def ZoZ:List Nat:=ZbR 27 [0,1,5]
def ZxM:List Nat:=ZbR 27 [1,4]
def ZkN (e_1:List V) (f_2:Fl) (x_3 x_4:Int):List V:=mkF 0 27 [(0,.list 2 e_1 f_2),(1,.int .i64 x_3),(5,.int .i64 x_4)]
def Zic {R:Type} (K:X → List V → S → Option R) (e_1:List V) (f_2:Fl):Int → Option R:=(fun x_1'=>K .ret (mkF 0 27 [(1,.int .i64 (x_1')),(4,.int .i64 (-1))]) [])
def Zio {R:Type} (K:X → List V → S → Option R) (e_1:List V) (f_2:Fl):Int → Option R:=(fun x_1'=>K (.exit 0) (mkF 0 27 [(1,.int .i64 (x_1'))]) [])
abbrev Zps {R:Type} (N:Nat):Nat → List V → S → (X → List V → S → Option R) → Option R:=fun n=>ZcX C (ZtI N) (Zad) ZtA [0,1,0,1,1,1] false ZoZ ZxM n R
theorem ZKZ {R:Type} (N n:Nat) (e_1:List V) (f_2:Fl) (x_3 x_4:Int) (K:X → List V → S → Option R) :
 Zps N (n + 1) (ZkN e_1 f_2 x_3 x_4) [] K =
 ZdP N e_1 f_2 (fun x_3 x_4=>Zps N n (ZkN e_1 f_2 x_3 x_4) [] K) x_3 x_4 (Zic K e_1 f_2) (Zio K e_1 f_2):=by kernel_rfl
theorem ZFa {R:Type} (N:Nat) (e_1:List V) (f_2:Fl) (K:X → List V → S → Option R):∀ (n:Nat) (x_3 x_4:Int),
 Zps N n (ZkN e_1 f_2 x_3 x_4) [] K = ZfI N e_1 f_2 (Zic K e_1 f_2) (Zio K e_1 f_2) n x_3 x_4
 | 0,_,_=>rfl
 | n + 1,x_3,x_4=>(ZKZ N n e_1 f_2 x_3 x_4 K).trans (congrArg (fun nx=>ZdP N e_1 f_2 nx x_3 x_4 (Zic K e_1 f_2) (Zio K e_1 f_2)) (funext fun x_3=>funext fun x_4=>ZFa N e_1 f_2 K n x_3 x_4))
def Zwi {R:Type} (E:List V) (s:S) (k:List V → Fl → Int → Int → Option R):Option R :=
 Zaj (Za3 27 [0,1,5] E) <| Zbu E 0 2 fun e_1 f_2=>ZaZ E 1 .i64 fun x_3=>ZaZ E 5 .i64 fun x_4=>ZaR s <| k e_1 f_2 x_3 x_4
theorem Zqd {R:Type} {E:List V} {s:S} {k:List V → Fl → Int → Int → Option R} {r:R} (h:Zwi E s k = some r):∃ e_1 f_2 x_3 x_4,E = ZkN e_1 f_2 x_3 x_4 ∧ s = [] ∧ k e_1 f_2 x_3 x_4 = some r:=by
 unfold Zwi at h
 obtain ⟨hg,h1⟩:=Zac h
 obtain ⟨_,_,hu0,h2⟩:=ZaC h1
 obtain ⟨_,hu1,h3⟩:=Zah h2
 obtain ⟨_,hu5,h4⟩:=Zah h3
 obtain ⟨rfl,h5⟩:=Zae h4
 exact ⟨_,_,_,_,ZaU hg rfl (Zab hu0 (Zab hu1 (Zab hu5 ZaL))),rfl,h5⟩
def Ztz (N:Nat):Zax:=(Zad).add [0,1,0,1,1,1] fun _ E s K=>Zwi (Zbh ZoZ E) s fun e_1 f_2 x_3 x_4=>ZfI N e_1 f_2 (Zic K e_1 f_2) (Zio K e_1 f_2) N x_3 x_4
theorem ZIU {N:Nat} (hC:Ok Tryz.prog C) (hΦ:Zaa Tryz.prog C (ZtI N)):Za7 Tryz.prog C (Ztz N) ZtA [0,1,0,1,1,1] :=
 Za6 (Λi:=Zad) (tr:=false) (ks:=ZoZ) (kx:=ZxM) (N:=N) hC hΦ
  (Zai (by kernel_rfl))
  fun R E s K r h=>by
   have h2:=Zax.add_self.symm.trans h
   refine (Zaw rfl).trans ?_
   obtain ⟨_,_,_,_,he,rfl,h3⟩:=Zqd h2
   rw [he]
   exact (ZFa N _ _ _ N _ _).trans h3
theorem ZNK:Za0 ZDK [] = [([0,1,0,1,1,1],ZtA)]:=by kernel_rfl
theorem ZRN {R:Type} (N:Nat) (e_1:List V) (f_2:Fl) (x_3:Int) (K:V → S → Option R):Za2 C (ZtI N) (Ztz N) 38 Tryz.f38 [.list 2 e_1 f_2,.int .i64 x_3] [] K =
 Zq6 N e_1 f_2 x_3 (fun x_4=>K (.int .i64 x_4) []):=by kernel_rfl
theorem ZC0 {N:Nat} (hC:Ok Tryz.prog C) (hΦ:Zaa Tryz.prog C (ZtI N)):ZaV Tryz.prog C (Ztz N) ZDK [] :=
 ZaG ZDK [] (by
  rw [ZNK]
  intro p hp
  simp only [List.mem_cons,List.mem_nil_iff,or_false] at hp
  rcases hp with rfl
  ·exact (ZIU hC hΦ))
theorem ZBa (hC:Ok Tryz.prog C) {N:Nat} (hΦ:Zaa Tryz.prog C (ZtI N)):Zaa Tryz.prog C (ZKo N):=by
 refine hΦ.add_pure rfl fun R vs K r h=>?_
 unfold ZNr at h
 obtain ⟨_,_,rfl,h1⟩:=Zas h
 obtain ⟨_,_,rfl,h2⟩:=Zam h1
 obtain ⟨_,rfl,h3⟩:=Zaf h2
 obtain ⟨_,h4⟩:=Zae h3
 refine Zaq (fn:=Tryz.f38) (c:=ZDK) hC hΦ Tryz.func38 (by kernel_rfl) (by kernel_rfl) (ZC0 (N:=N) hC hΦ) rfl rfl ?_
 refine (ZRN N _ _ _ _).trans ?_
 rw [← ZyT]
 exact h4
def ZM7 (N:Nat):(R:Type) → List V → S → (V → S → Option R) → Option R:=fun _ vs s K =>
 Zcf vs fun v'1 v'2=>Zcr v'1 fun x_1 x_2 x_3 x_4 x_5 w_6 e_7 f_8=>asInt .i64 v'2 fun x_9=>ZaR s <| ZJC N x_1 x_2 x_3 x_4 x_5 w_6 e_7 f_8 x_9 (fun x_10=>K (.int .i64 x_10) [])
def Zuv (N:Nat):Zar:=(ZKo N).add 25 (ZM7 N)
def ZRF:Code:=ZaS Tryz.f25
theorem ZQu {R:Type} (N:Nat) (x_1 x_2 x_3 x_4 x_5:Int) (w_6:ByteArray) (e_7:List V) (f_8:Fl) (x_9:Int) (K:V → S → Option R):Za2 C (ZKo N) (Zad) 25 Tryz.f25 [.agg [.int .i64 x_1,.int .i64 x_2,.int .i64 x_3,.int .i64 x_4,.int .i64 x_5,.str w_6,.list 2 e_7 f_8],.int .i64 x_9] [] K =
 ZsZ N x_1 x_2 x_3 x_4 x_5 w_6 e_7 f_8 x_9 (fun x_10=>K (.int .i64 x_10) []):=by kernel_rfl
theorem ZCn (hC:Ok Tryz.prog C) {N:Nat} (hΦ:Zaa Tryz.prog C (ZKo N)):Zaa Tryz.prog C (Zuv N):=by
 refine hΦ.add_pure rfl fun R vs K r h=>?_
 unfold ZM7 at h
 obtain ⟨_,_,rfl,h1⟩:=Zas h
 obtain ⟨_,_,_,_,_,_,_,_,rfl,h2⟩:=ZeL h1
 obtain ⟨_,rfl,h3⟩:=Zaf h2
 obtain ⟨_,h4⟩:=Zae h3
 refine Zaq (fn:=Tryz.f25) (c:=ZRF) hC hΦ Tryz.func25 (by kernel_rfl) (by kernel_rfl) (Zai (Λ:=Zad) (by kernel_rfl)) rfl rfl ?_
 refine (ZQu N _ _ _ _ _ _ _ _ _ _).trans ?_
 rw [← Zy3]
 exact h4
def ZOA (N:Nat):(R:Type) → List V → S → (V → S → Option R) → Option R:=fun _ vs s K =>
 Zcf vs fun v'1 v'2=>ZaX 7 v'1 fun e_1 f_2=>asInt .i64 v'2 fun x_3=>ZaR s <| ZH7 N e_1 f_2 x_3 (fun x_4=>K (.int .i64 x_4) [])
def ZHg (N:Nat):Zar:=(Zuv N).add 14 (ZOA N)
def ZCD:Code:=ZaS Tryz.f14
def ZtK:Code:=(Zbn ZCD [] 0).2
def ZoK:List Nat:=ZbR 27 [0,1,5]
def ZwZ:List Nat:=ZbR 27 [1,4]
def ZkS (e_1:List V) (f_2:Fl) (x_3 x_4:Int):List V:=mkF 0 27 [(0,.list 7 e_1 f_2),(1,.int .i64 x_3),(5,.int .i64 x_4)]
def Zhm {R:Type} (K:X → List V → S → Option R) (e_1:List V) (f_2:Fl):Int → Option R:=(fun x_1'=>K .ret (mkF 0 27 [(1,.int .i64 (x_1')),(4,.int .i64 (-1))]) [])
def Zhi {R:Type} (K:X → List V → S → Option R) (e_1:List V) (f_2:Fl):Int → Option R:=(fun x_1'=>K (.exit 0) (mkF 0 27 [(1,.int .i64 (x_1'))]) [])
abbrev ZoY {R:Type} (N:Nat):Nat → List V → S → (X → List V → S → Option R) → Option R:=fun n=>ZcX C (Zuv N) (Zad) ZtK [0,1,0,1,1,1] false ZoK ZwZ n R
theorem ZLJ {R:Type} (N n:Nat) (e_1:List V) (f_2:Fl) (x_3 x_4:Int) (K:X → List V → S → Option R) :
 ZoY N (n + 1) (ZkS e_1 f_2 x_3 x_4) [] K =
 ZdE N e_1 f_2 (fun x_3 x_4=>ZoY N n (ZkS e_1 f_2 x_3 x_4) [] K) x_3 x_4 (Zhm K e_1 f_2) (Zhi K e_1 f_2):=by kernel_rfl
theorem ZEH {R:Type} (N:Nat) (e_1:List V) (f_2:Fl) (K:X → List V → S → Option R):∀ (n:Nat) (x_3 x_4:Int),
 ZoY N n (ZkS e_1 f_2 x_3 x_4) [] K = Zfo N e_1 f_2 (Zhm K e_1 f_2) (Zhi K e_1 f_2) n x_3 x_4
 | 0,_,_=>rfl
 | n + 1,x_3,x_4=>(ZLJ N n e_1 f_2 x_3 x_4 K).trans (congrArg (fun nx=>ZdE N e_1 f_2 nx x_3 x_4 (Zhm K e_1 f_2) (Zhi K e_1 f_2)) (funext fun x_3=>funext fun x_4=>ZEH N e_1 f_2 K n x_3 x_4))
def Zuz {R:Type} (E:List V) (s:S) (k:List V → Fl → Int → Int → Option R):Option R :=
 Zaj (Za3 27 [0,1,5] E) <| Zbu E 0 7 fun e_1 f_2=>ZaZ E 1 .i64 fun x_3=>ZaZ E 5 .i64 fun x_4=>ZaR s <| k e_1 f_2 x_3 x_4
theorem Zsn {R:Type} {E:List V} {s:S} {k:List V → Fl → Int → Int → Option R} {r:R} (h:Zuz E s k = some r):∃ e_1 f_2 x_3 x_4,E = ZkS e_1 f_2 x_3 x_4 ∧ s = [] ∧ k e_1 f_2 x_3 x_4 = some r:=by
 unfold Zuz at h
 obtain ⟨hg,h1⟩:=Zac h
 obtain ⟨_,_,hu0,h2⟩:=ZaC h1
 obtain ⟨_,hu1,h3⟩:=Zah h2
 obtain ⟨_,hu5,h4⟩:=Zah h3
 obtain ⟨rfl,h5⟩:=Zae h4
 exact ⟨_,_,_,_,ZaU hg rfl (Zab hu0 (Zab hu1 (Zab hu5 ZaL))),rfl,h5⟩
def Zv3 (N:Nat):Zax:=(Zad).add [0,1,0,1,1,1] fun _ E s K=>Zuz (Zbh ZoK E) s fun e_1 f_2 x_3 x_4=>Zfo N e_1 f_2 (Zhm K e_1 f_2) (Zhi K e_1 f_2) N x_3 x_4
theorem ZGZ {N:Nat} (hC:Ok Tryz.prog C) (hΦ:Zaa Tryz.prog C (Zuv N)):Za7 Tryz.prog C (Zv3 N) ZtK [0,1,0,1,1,1] :=
 Za6 (Λi:=Zad) (tr:=false) (ks:=ZoK) (kx:=ZwZ) (N:=N) hC hΦ
  (Zai (by kernel_rfl))
  fun R E s K r h=>by
   have h2:=Zax.add_self.symm.trans h
   refine (Zaw rfl).trans ?_
   obtain ⟨_,_,_,_,he,rfl,h3⟩:=Zsn h2
   rw [he]
   exact (ZEH N _ _ _ N _ _).trans h3
theorem ZOV:Za0 ZCD [] = [([0,1,0,1,1,1],ZtK)]:=by kernel_rfl
theorem ZR0 {R:Type} (N:Nat) (e_1:List V) (f_2:Fl) (x_3:Int) (K:V → S → Option R):Za2 C (Zuv N) (Zv3 N) 14 Tryz.f14 [.list 7 e_1 f_2,.int .i64 x_3] [] K =
 ZsL N e_1 f_2 x_3 (fun x_4=>K (.int .i64 x_4) []):=by kernel_rfl
theorem ZEh {N:Nat} (hC:Ok Tryz.prog C) (hΦ:Zaa Tryz.prog C (Zuv N)):ZaV Tryz.prog C (Zv3 N) ZCD [] :=
 ZaG ZCD [] (by
  rw [ZOV]
  intro p hp
  simp only [List.mem_cons,List.mem_nil_iff,or_false] at hp
  rcases hp with rfl
  ·exact (ZGZ hC hΦ))
theorem ZAj (hC:Ok Tryz.prog C) {N:Nat} (hΦ:Zaa Tryz.prog C (Zuv N)):Zaa Tryz.prog C (ZHg N):=by
 refine hΦ.add_pure rfl fun R vs K r h=>?_
 unfold ZOA at h
 obtain ⟨_,_,rfl,h1⟩:=Zas h
 obtain ⟨_,_,rfl,h2⟩:=Zam h1
 obtain ⟨_,rfl,h3⟩:=Zaf h2
 obtain ⟨_,h4⟩:=Zae h3
 refine Zaq (fn:=Tryz.f14) (c:=ZCD) hC hΦ Tryz.func14 (by kernel_rfl) (by kernel_rfl) (ZEh (N:=N) hC hΦ) rfl rfl ?_
 refine (ZR0 N _ _ _ _).trans ?_
 rw [← Zy9]
 exact h4
def ZM2 (N:Nat):(R:Type) → List V → S → (V → S → Option R) → Option R:=fun _ vs s K =>
 Zcf vs fun v'1 v'2=>ZeJ v'1 fun e_1 f_2 x_3=>asInt .i64 v'2 fun x_4=>ZaR s <| ZJ7 N e_1 f_2 x_3 x_4 (fun x_5=>K (.int .i64 x_5) [])
def ZJG (N:Nat):Zar:=(ZHg N).add 4 (ZM2 N)
def ZRW:Code:=ZaS Tryz.f4
theorem ZQ6 {R:Type} (N:Nat) (e_1:List V) (f_2:Fl) (x_3 x_4:Int) (K:V → S → Option R):Za2 C (ZHg N) (Zad) 4 Tryz.f4 [.agg [.list 7 e_1 f_2,.int .i64 x_3],.int .i64 x_4] [] K =
 Zsx N e_1 f_2 x_3 x_4 (fun x_5=>K (.int .i64 x_5) []):=by kernel_rfl
theorem ZBl (hC:Ok Tryz.prog C) {N:Nat} (hΦ:Zaa Tryz.prog C (ZHg N)):Zaa Tryz.prog C (ZJG N):=by
 refine hΦ.add_pure rfl fun R vs K r h=>?_
 unfold ZM2 at h
 obtain ⟨_,_,rfl,h1⟩:=Zas h
 obtain ⟨_,_,_,rfl,h2⟩:=Zd9 h1
 obtain ⟨_,rfl,h3⟩:=Zaf h2
 obtain ⟨_,h4⟩:=Zae h3
 refine Zaq (fn:=Tryz.f4) (c:=ZRW) hC hΦ Tryz.func4 (by kernel_rfl) (by kernel_rfl) (Zai (Λ:=Zad) (by kernel_rfl)) rfl rfl ?_
 refine (ZQ6 N _ _ _ _ _).trans ?_
 rw [← ZyE]
 exact h4
def ZPM (N:Nat):(R:Type) → List V → S → (V → S → Option R) → Option R:=fun _ vs s K =>
 ZEn vs fun v'1 v'2 v'3=>asInt .i64 v'1 fun x_1=>asInt .i64 v'2 fun x_2=>asInt .i64 v'3 fun x_3=>ZaR s <| ZgO N x_1 x_2 x_3 (fun b_4=>K (.bool b_4) [])
def ZuL (N:Nat):Zar:=(ZJG N).add 39 (ZPM N)
def ZP7:Code:=ZaS Tryz.f39
theorem ZRf {R:Type} (N:Nat) (x_1 x_2 x_3:Int) (K:V → S → Option R):Za2 C (ZJG N) (Zad) 39 Tryz.f39 [.int .i64 x_1,.int .i64 x_2,.int .i64 x_3] [] K =
 Zp6 N x_1 x_2 x_3 (fun b_4=>K (.bool b_4) []):=by kernel_rfl
theorem ZA9 (hC:Ok Tryz.prog C) {N:Nat} (hΦ:Zaa Tryz.prog C (ZJG N)):Zaa Tryz.prog C (ZuL N):=by
 refine hΦ.add_pure rfl fun R vs K r h=>?_
 unfold ZPM at h
 obtain ⟨_,_,_,rfl,h1⟩:=ZcC h
 obtain ⟨_,rfl,h2⟩:=Zaf h1
 obtain ⟨_,rfl,h3⟩:=Zaf h2
 obtain ⟨_,rfl,h4⟩:=Zaf h3
 obtain ⟨_,h5⟩:=Zae h4
 refine Zaq (fn:=Tryz.f39) (c:=ZP7) hC hΦ Tryz.func39 (by kernel_rfl) (by kernel_rfl) (Zai (Λ:=Zad) (by kernel_rfl)) rfl rfl ?_
 refine (ZRf N _ _ _ _).trans ?_
 rw [← ZxP]
 exact h5
def ZOl (N:Nat):(R:Type) → List V → S → (V → S → Option R) → Option R:=fun _ vs s K =>
 Zco vs fun v'1=>Za9 v'1 fun e_1 f_2 x_3=>ZaR s <| ZIT N e_1 f_2 x_3 (fun x_4=>K (.int .i64 x_4) [])
def ZIM (N:Nat):Zar:=(ZuL N).add 40 (ZOl N)
def ZDU:Code:=ZaS Tryz.f40
def ZvA:Code:=(Zbn ZDU [] 0).2
def Zny:List Nat:=ZbR 20 [3,7,8,9]
def Zyb:List Nat:=ZbR 20 [3]
def ZkD (e_2:List V) (f_3:Fl) (x_4:Int) (e_6:List V) (f_7:Fl) (x_8 x_1 x_5:Int):List V:=mkF 0 20 [(3,.int .i64 x_1),(7,.list 7 e_2 f_3),(8,.int .i64 x_4),(9,.int .i64 x_5)]
def Zij {R:Type} (K:X → List V → S → Option R) (e_2:List V) (f_3:Fl) (x_4:Int) (e_6:List V) (f_7:Fl) (x_8:Int):Int → Option R:=(fun x_1'=>K (.exit 0) (mkF 0 20 [(3,.int .i64 (x_1'))]) [some ⟨[.agg [.list 7 e_6 f_7,.int .i64 x_8]],2,33,0⟩])
abbrev ZnU {R:Type} (N:Nat):Nat → List V → S → (X → List V → S → Option R) → Option R:=fun n=>ZcX C (ZuL N) (Zad) ZvA [0,1,0,1,1] true Zny Zyb n R
theorem ZMq {R:Type} (N n:Nat) (e_2:List V) (f_3:Fl) (x_4:Int) (e_6:List V) (f_7:Fl) (x_8:Int) (x_1 x_5:Int) (K:X → List V → S → Option R) :
 ZnU N (n + 1) (ZkD e_2 f_3 x_4 e_6 f_7 x_8 x_1 x_5) [some ⟨[.agg [.list 7 e_6 f_7,.int .i64 x_8]],2,33,0⟩] K =
 ZdK N e_2 f_3 x_4 e_6 f_7 x_8 (fun x_1 x_5=>ZnU N n (ZkD e_2 f_3 x_4 e_6 f_7 x_8 x_1 x_5) [some ⟨[.agg [.list 7 e_6 f_7,.int .i64 x_8]],2,33,0⟩] K) x_1 x_5 (Zij K e_2 f_3 x_4 e_6 f_7 x_8):=by kernel_rfl
theorem ZFk {R:Type} (N:Nat) (e_2:List V) (f_3:Fl) (x_4:Int) (e_6:List V) (f_7:Fl) (x_8:Int) (K:X → List V → S → Option R):∀ (n:Nat) (x_1 x_5:Int),
 ZnU N n (ZkD e_2 f_3 x_4 e_6 f_7 x_8 x_1 x_5) [some ⟨[.agg [.list 7 e_6 f_7,.int .i64 x_8]],2,33,0⟩] K = Zgp N e_2 f_3 x_4 e_6 f_7 x_8 (Zij K e_2 f_3 x_4 e_6 f_7 x_8) n x_1 x_5
 | 0,_,_=>rfl
 | n + 1,x_1,x_5=>(ZMq N n e_2 f_3 x_4 e_6 f_7 x_8 x_1 x_5 K).trans (congrArg (fun nx=>ZdK N e_2 f_3 x_4 e_6 f_7 x_8 nx x_1 x_5 (Zij K e_2 f_3 x_4 e_6 f_7 x_8)) (funext fun x_1=>funext fun x_5=>ZFk N e_2 f_3 x_4 e_6 f_7 x_8 K n x_1 x_5))
def ZwD {R:Type} (E:List V) (s:S) (k:Int → List V → Fl → Int → Int → List V → Fl → Int → Option R):Option R :=
 Zaj (Za3 20 [3,7,8,9] E) <| ZaZ E 3 .i64 fun x_1=>Zbu E 7 7 fun e_2 f_3=>ZaZ E 8 .i64 fun x_4=>ZaZ E 9 .i64 fun x_5=>ZdW s fun o'1 s'2=>ZcW o'1 2 33 fun e'3 k'4=>isN k'4 0 <| Zco e'3 fun v'5=>asAgg v'5 fun c'6=>Zcf c'6 fun v'7 v'8=>ZaX 7 v'7 fun e_6 f_7=>asInt .i64 v'8 fun x_8=>ZaR s'2 <| k x_1 e_2 f_3 x_4 x_5 e_6 f_7 x_8
theorem ZpL {R:Type} {E:List V} {s:S} {k:Int → List V → Fl → Int → Int → List V → Fl → Int → Option R} {r:R} (h:ZwD E s k = some r):∃ x_1 e_2 f_3 x_4 x_5 e_6 f_7 x_8,E = ZkD e_2 f_3 x_4 e_6 f_7 x_8 x_1 x_5 ∧ s = [some ⟨[.agg [.list 7 e_6 f_7,.int .i64 x_8]],2,33,0⟩] ∧ k x_1 e_2 f_3 x_4 x_5 e_6 f_7 x_8 = some r:=by
 unfold ZwD at h
 obtain ⟨hg,h1⟩:=Zac h
 obtain ⟨_,hu3,h2⟩:=Zah h1
 obtain ⟨_,_,hu7,h3⟩:=ZaC h2
 obtain ⟨_,hu8,h4⟩:=Zah h3
 obtain ⟨_,hu9,h5⟩:=Zah h4
 obtain ⟨_,_,rfl,h6⟩:=ZaP h5
 obtain ⟨_,_,rfl,h7⟩:=ZaJ h6
 obtain ⟨rfl,h8⟩:=Zap h7
 obtain ⟨_,rfl,h9⟩:=Zat h8
 obtain ⟨_,rfl,h10⟩:=ZaF h9
 obtain ⟨_,_,rfl,h11⟩:=Zas h10
 obtain ⟨_,_,rfl,h12⟩:=Zam h11
 obtain ⟨_,rfl,h13⟩:=Zaf h12
 obtain ⟨rfl,h14⟩:=Zae h13
 exact ⟨_,_,_,_,_,_,_,_,ZaU hg rfl (Zab hu3 (Zab hu7 (Zab hu8 (Zab hu9 ZaL)))),rfl,h14⟩
def ZwA (N:Nat):Zax:=(Zad).add [0,1,0,1,1] fun _ E s K=>ZwD (Zbh Zny E) s fun x_1 e_2 f_3 x_4 x_5 e_6 f_7 x_8=>Zgp N e_2 f_3 x_4 e_6 f_7 x_8 (Zij K e_2 f_3 x_4 e_6 f_7 x_8) N x_1 x_5
theorem ZGX {N:Nat} (hC:Ok Tryz.prog C) (hΦ:Zaa Tryz.prog C (ZuL N)):Za7 Tryz.prog C (ZwA N) ZvA [0,1,0,1,1] :=
 Za6 (Λi:=Zad) (tr:=true) (ks:=Zny) (kx:=Zyb) (N:=N) hC hΦ
  (Zai (by kernel_rfl))
  fun R E s K r h=>by
   have h2:=Zax.add_self.symm.trans h
   refine (Zaw rfl).trans ?_
   obtain ⟨_,_,_,_,_,_,_,_,he,rfl,h3⟩:=ZpL h2
   rw [he]
   exact (ZFk N _ _ _ _ _ _ _ N _ _).trans h3
theorem ZNk:Za0 ZDU [] = [([0,1,0,1,1],ZvA)]:=by kernel_rfl
theorem ZRq {R:Type} (N:Nat) (e_1:List V) (f_2:Fl) (x_3:Int) (K:V → S → Option R):Za2 C (ZuL N) (ZwA N) 40 Tryz.f40 [.agg [.list 7 e_1 f_2,.int .i64 x_3]] [] K =
 ZrF N e_1 f_2 x_3 (fun x_4=>K (.int .i64 x_4) []):=by kernel_rfl
theorem ZGG {N:Nat} (hC:Ok Tryz.prog C) (hΦ:Zaa Tryz.prog C (ZuL N)):ZaV Tryz.prog C (ZwA N) ZDU [] :=
 ZaG ZDU [] (by
  rw [ZNk]
  intro p hp
  simp only [List.mem_cons,List.mem_nil_iff,or_false] at hp
  rcases hp with rfl
  ·exact (ZGX hC hΦ))
theorem ZA0 (hC:Ok Tryz.prog C) {N:Nat} (hΦ:Zaa Tryz.prog C (ZuL N)):Zaa Tryz.prog C (ZIM N):=by
 refine hΦ.add_pure rfl fun R vs K r h=>?_
 unfold ZOl at h
 obtain ⟨_,rfl,h1⟩:=Zat h
 obtain ⟨_,_,_,rfl,h2⟩:=ZaH h1
 obtain ⟨_,h3⟩:=Zae h2
 refine Zaq (fn:=Tryz.f40) (c:=ZDU) hC hΦ Tryz.func40 (by kernel_rfl) (by kernel_rfl) (ZGG (N:=N) hC hΦ) rfl rfl ?_
 refine (ZRq N _ _ _ _).trans ?_
 rw [← ZxL]
 exact h3
def ZNi (N:Nat):(R:Type) → List V → S → (V → S → Option R) → Option R:=fun _ vs s K =>
 Zco vs fun v'1=>asInt .i64 v'1 fun x_1=>ZaR s <| ZMH N x_1 (fun b_2=>K (.bool b_2) [])
def Zvm (N:Nat):Zar:=(ZIM N).add 63 (ZNi N)
def ZSg:Code:=ZaS Tryz.f63
theorem ZQp {R:Type} (N:Nat) (x_1:Int) (K:V → S → Option R):Za2 C (ZIM N) (Zad) 63 Tryz.f63 [.int .i64 x_1] [] K =
 Zqa N x_1 (fun b_2=>K (.bool b_2) []):=by kernel_rfl
theorem ZAk (hC:Ok Tryz.prog C) {N:Nat} (hΦ:Zaa Tryz.prog C (ZIM N)):Zaa Tryz.prog C (Zvm N):=by
 refine hΦ.add_pure rfl fun R vs K r h=>?_
 unfold ZNi at h
 obtain ⟨_,rfl,h1⟩:=Zat h
 obtain ⟨_,rfl,h2⟩:=Zaf h1
 obtain ⟨_,h3⟩:=Zae h2
 refine Zaq (fn:=Tryz.f63) (c:=ZSg) hC hΦ Tryz.func63 (by kernel_rfl) (by kernel_rfl) (Zai (Λ:=Zad) (by kernel_rfl)) rfl rfl ?_
 refine (ZQp N _ _).trans ?_
 rw [← Zzw]
 exact h3
def ZN4 (N:Nat):(R:Type) → List V → S → (V → S → Option R) → Option R:=fun _ vs s K =>
 Zco vs fun v'1=>Zby v'1 fun w_1=>ZaR s <| ZF3 N w_1 (fun b_2=>K (.bool b_2) [])
def Zwd (N:Nat):Zar:=(Zvm N).add 83 (ZN4 N)
def ZCX:Code:=ZaS Tryz.f83
def ZvK:Code:=(Zbn ZCX [] 0).2
def Znu:List Nat:=ZbR 51 [0,3]
def Zzs:List Nat:=ZbR 51 [0,2]
def Zks (w_1:ByteArray) (x_2:Int):List V:=mkF 0 51 [(0,.str w_1),(3,.int .i64 x_2)]
def Zhh {R:Type} (K:X → List V → S → Option R) (w_1:ByteArray):Unit → Option R:=(fun _=>K .ret (mkF 0 51 [(0,.str w_1),(2,.bool false)]) [])
def ZiD {R:Type} (K:X → List V → S → Option R) (w_1:ByteArray):Unit → Option R:=(fun _=>K (.exit 0) (mkF 0 51 [(0,.str w_1)]) [])
abbrev Zn7 {R:Type} (N:Nat):Nat → List V → S → (X → List V → S → Option R) → Option R:=fun n=>ZcX C (Zvm N) (Zad) ZvK [0,1,0,1] false Znu Zzs n R
theorem ZMf {R:Type} (N n:Nat) (w_1:ByteArray) (x_2:Int) (K:X → List V → S → Option R) :
 Zn7 N (n + 1) (Zks w_1 x_2) [] K =
 Zdn N w_1 (fun x_2=>Zn7 N n (Zks w_1 x_2) [] K) x_2 (Zhh K w_1) (ZiD K w_1):=by kernel_rfl
theorem ZFM {R:Type} (N:Nat) (w_1:ByteArray) (K:X → List V → S → Option R):∀ (n:Nat) (x_2:Int),
 Zn7 N n (Zks w_1 x_2) [] K = ZfE N w_1 (Zhh K w_1) (ZiD K w_1) n x_2
 | 0,_=>rfl
 | n + 1,x_2=>(ZMf N n w_1 x_2 K).trans (congrArg (fun nx=>Zdn N w_1 nx x_2 (Zhh K w_1) (ZiD K w_1)) (funext fun x_2=>ZFM N w_1 K n x_2))
def Zug {R:Type} (E:List V) (s:S) (k:ByteArray → Int → Option R):Option R :=
 Zaj (Za3 51 [0,3] E) <| Zlm E 0 fun w_1=>ZaZ E 3 .i64 fun x_2=>ZaR s <| k w_1 x_2
theorem Zrw {R:Type} {E:List V} {s:S} {k:ByteArray → Int → Option R} {r:R} (h:Zug E s k = some r):∃ w_1 x_2,E = Zks w_1 x_2 ∧ s = [] ∧ k w_1 x_2 = some r:=by
 unfold Zug at h
 obtain ⟨hg,h1⟩:=Zac h
 obtain ⟨_,hu0,h2⟩:=Zcl h1
 obtain ⟨_,hu3,h3⟩:=Zah h2
 obtain ⟨rfl,h4⟩:=Zae h3
 exact ⟨_,_,ZaU hg rfl (Zab hu0 (Zab hu3 ZaL)),rfl,h4⟩
def ZuK (N:Nat):Zax:=(Zad).add [0,1,0,1] fun _ E s K=>Zug (Zbh Znu E) s fun w_1 x_2=>ZfE N w_1 (Zhh K w_1) (ZiD K w_1) N x_2
theorem ZJo {N:Nat} (hC:Ok Tryz.prog C) (hΦ:Zaa Tryz.prog C (Zvm N)):Za7 Tryz.prog C (ZuK N) ZvK [0,1,0,1] :=
 Za6 (Λi:=Zad) (tr:=false) (ks:=Znu) (kx:=Zzs) (N:=N) hC hΦ
  (Zai (by kernel_rfl))
  fun R E s K r h=>by
   have h2:=Zax.add_self.symm.trans h
   refine (Zaw rfl).trans ?_
   obtain ⟨_,_,he,rfl,h3⟩:=Zrw h2
   rw [he]
   exact (ZFM N _ _ N _).trans h3
theorem ZNF:Za0 ZCX [] = [([0,1,0,1],ZvK)]:=by kernel_rfl
theorem ZRa {R:Type} (N:Nat) (w_1:ByteArray) (K:V → S → Option R):Za2 C (Zvm N) (ZuK N) 83 Tryz.f83 [.str w_1] [] K =
 ZqV N w_1 (fun b_2=>K (.bool b_2) []):=by kernel_rfl
theorem ZCH {N:Nat} (hC:Ok Tryz.prog C) (hΦ:Zaa Tryz.prog C (Zvm N)):ZaV Tryz.prog C (ZuK N) ZCX [] :=
 ZaG ZCX [] (by
  rw [ZNF]
  intro p hp
  simp only [List.mem_cons,List.mem_nil_iff,or_false] at hp
  rcases hp with rfl
  ·exact (ZJo hC hΦ))
theorem ZAf (hC:Ok Tryz.prog C) {N:Nat} (hΦ:Zaa Tryz.prog C (Zvm N)):Zaa Tryz.prog C (Zwd N):=by
 refine hΦ.add_pure rfl fun R vs K r h=>?_
 unfold ZN4 at h
 obtain ⟨_,rfl,h1⟩:=Zat h
 obtain ⟨_,rfl,h2⟩:=ZaD h1
 obtain ⟨_,h3⟩:=Zae h2
 refine Zaq (fn:=Tryz.f83) (c:=ZCX) hC hΦ Tryz.func83 (by kernel_rfl) (by kernel_rfl) (ZCH (N:=N) hC hΦ) rfl rfl ?_
 refine (ZRa N _ _).trans ?_
 rw [← ZyJ]
 exact h3
def ZPG (N:Nat):(R:Type) → List V → S → (V → S → Option R) → Option R:=fun _ vs s K =>
 Zcf vs fun v'1 v'2=>Za9 v'1 fun e_1 f_2 x_3=>ZaX 2 v'2 fun e_4 f_5=>ZaR s <| ZHF N e_1 f_2 x_3 e_4 f_5 (fun b_6=>K (.bool b_6) [])
def Zwj (N:Nat):Zar:=(Zwd N).add 64 (ZPG N)
def ZDb:Code:=ZaS Tryz.f64
def ZtL:Code:=(Zbn ZDb [] 0).2
def Zpo:List Nat:=ZbR 54 [1,2,7,8,9]
def ZyP:List Nat:=ZbR 54 [4]
def Zkq (e_1:List V) (f_2:Fl) (e_3:List V) (f_4:Fl) (x_5:Int) (e_7:List V) (f_8:Fl) (x_9 x_6:Int):List V:=mkF 0 54 [(1,.list 2 e_1 f_2),(2,.ptr 0 0 0 0),(7,.list 2 e_3 f_4),(8,.int .i64 x_5),(9,.int .i64 x_6)]
def ZiE {R:Type} (K:X → List V → S → Option R) (e_1:List V) (f_2:Fl) (e_3:List V) (f_4:Fl) (x_5:Int) (e_7:List V) (f_8:Fl) (x_9:Int):Unit → Option R:=(fun _=>K .ret (mkF 0 54 [(4,.bool false)]) [some ⟨[.agg [.list 7 e_7 f_8,.int .i64 x_9]],2,33,0⟩])
def Zib {R:Type} (K:X → List V → S → Option R) (e_1:List V) (f_2:Fl) (e_3:List V) (f_4:Fl) (x_5:Int) (e_7:List V) (f_8:Fl) (x_9:Int):Unit → Option R:=(fun _=>K (.exit 0) (mkF 0 54 []) [some ⟨[.agg [.list 7 e_7 f_8,.int .i64 x_9]],2,33,0⟩])
abbrev Zox {R:Type} (N:Nat):Nat → List V → S → (X → List V → S → Option R) → Option R:=fun n=>ZcX C (Zwd N) (Zad) ZtL [0,1,0,1] true Zpo ZyP n R
theorem ZLj {R:Type} (N n:Nat) (e_1:List V) (f_2:Fl) (e_3:List V) (f_4:Fl) (x_5:Int) (e_7:List V) (f_8:Fl) (x_9:Int) (x_6:Int) (K:X → List V → S → Option R) :
 Zox N (n + 1) (Zkq e_1 f_2 e_3 f_4 x_5 e_7 f_8 x_9 x_6) [some ⟨[.agg [.list 7 e_7 f_8,.int .i64 x_9]],2,33,0⟩] K =
 ZdC N e_1 f_2 e_3 f_4 x_5 e_7 f_8 x_9 (fun x_6=>Zox N n (Zkq e_1 f_2 e_3 f_4 x_5 e_7 f_8 x_9 x_6) [some ⟨[.agg [.list 7 e_7 f_8,.int .i64 x_9]],2,33,0⟩] K) x_6 (ZiE K e_1 f_2 e_3 f_4 x_5 e_7 f_8 x_9) (Zib K e_1 f_2 e_3 f_4 x_5 e_7 f_8 x_9):=by kernel_rfl
theorem ZFL {R:Type} (N:Nat) (e_1:List V) (f_2:Fl) (e_3:List V) (f_4:Fl) (x_5:Int) (e_7:List V) (f_8:Fl) (x_9:Int) (K:X → List V → S → Option R):∀ (n:Nat) (x_6:Int),
 Zox N n (Zkq e_1 f_2 e_3 f_4 x_5 e_7 f_8 x_9 x_6) [some ⟨[.agg [.list 7 e_7 f_8,.int .i64 x_9]],2,33,0⟩] K = Zhe N e_1 f_2 e_3 f_4 x_5 e_7 f_8 x_9 (ZiE K e_1 f_2 e_3 f_4 x_5 e_7 f_8 x_9) (Zib K e_1 f_2 e_3 f_4 x_5 e_7 f_8 x_9) n x_6
 | 0,_=>rfl
 | n + 1,x_6=>(ZLj N n e_1 f_2 e_3 f_4 x_5 e_7 f_8 x_9 x_6 K).trans (congrArg (fun nx=>ZdC N e_1 f_2 e_3 f_4 x_5 e_7 f_8 x_9 nx x_6 (ZiE K e_1 f_2 e_3 f_4 x_5 e_7 f_8 x_9) (Zib K e_1 f_2 e_3 f_4 x_5 e_7 f_8 x_9)) (funext fun x_6=>ZFL N e_1 f_2 e_3 f_4 x_5 e_7 f_8 x_9 K n x_6))
def Zu5 {R:Type} (E:List V) (s:S) (k:List V → Fl → List V → Fl → Int → Int → List V → Fl → Int → Option R):Option R :=
 Zaj (Za3 54 [1,2,7,8,9] E) <| Zbu E 1 2 fun e_1 f_2=>ZvY E 2 (.ptr 0 0 0 0) <| Zbu E 7 2 fun e_3 f_4=>ZaZ E 8 .i64 fun x_5=>ZaZ E 9 .i64 fun x_6=>ZdW s fun o'1 s'2=>ZcW o'1 2 33 fun e'3 k'4=>isN k'4 0 <| Zco e'3 fun v'5=>asAgg v'5 fun c'6=>Zcf c'6 fun v'7 v'8=>ZaX 7 v'7 fun e_7 f_8=>asInt .i64 v'8 fun x_9=>ZaR s'2 <| k e_1 f_2 e_3 f_4 x_5 x_6 e_7 f_8 x_9
theorem Zss {R:Type} {E:List V} {s:S} {k:List V → Fl → List V → Fl → Int → Int → List V → Fl → Int → Option R} {r:R} (h:Zu5 E s k = some r):∃ e_1 f_2 e_3 f_4 x_5 x_6 e_7 f_8 x_9,E = Zkq e_1 f_2 e_3 f_4 x_5 e_7 f_8 x_9 x_6 ∧ s = [some ⟨[.agg [.list 7 e_7 f_8,.int .i64 x_9]],2,33,0⟩] ∧ k e_1 f_2 e_3 f_4 x_5 x_6 e_7 f_8 x_9 = some r:=by
 unfold Zu5 at h
 obtain ⟨hg,h1⟩:=Zac h
 obtain ⟨_,_,hu1,h2⟩:=ZaC h1
 obtain ⟨hu2,h3⟩:=Zb0 h2
 obtain ⟨_,_,hu7,h4⟩:=ZaC h3
 obtain ⟨_,hu8,h5⟩:=Zah h4
 obtain ⟨_,hu9,h6⟩:=Zah h5
 obtain ⟨_,_,rfl,h7⟩:=ZaP h6
 obtain ⟨_,_,rfl,h8⟩:=ZaJ h7
 obtain ⟨rfl,h9⟩:=Zap h8
 obtain ⟨_,rfl,h10⟩:=Zat h9
 obtain ⟨_,rfl,h11⟩:=ZaF h10
 obtain ⟨_,_,rfl,h12⟩:=Zas h11
 obtain ⟨_,_,rfl,h13⟩:=Zam h12
 obtain ⟨_,rfl,h14⟩:=Zaf h13
 obtain ⟨rfl,h15⟩:=Zae h14
 exact ⟨_,_,_,_,_,_,_,_,_,ZaU hg rfl (Zab hu1 (Zab hu2 (Zab hu7 (Zab hu8 (Zab hu9 ZaL))))),rfl,h15⟩
def ZuF (N:Nat):Zax:=(Zad).add [0,1,0,1] fun _ E s K=>Zu5 (Zbh Zpo E) s fun e_1 f_2 e_3 f_4 x_5 x_6 e_7 f_8 x_9=>Zhe N e_1 f_2 e_3 f_4 x_5 e_7 f_8 x_9 (ZiE K e_1 f_2 e_3 f_4 x_5 e_7 f_8 x_9) (Zib K e_1 f_2 e_3 f_4 x_5 e_7 f_8 x_9) N x_6
theorem ZI5 {N:Nat} (hC:Ok Tryz.prog C) (hΦ:Zaa Tryz.prog C (Zwd N)):Za7 Tryz.prog C (ZuF N) ZtL [0,1,0,1] :=
 Za6 (Λi:=Zad) (tr:=true) (ks:=Zpo) (kx:=ZyP) (N:=N) hC hΦ
  (Zai (by kernel_rfl))
  fun R E s K r h=>by
   have h2:=Zax.add_self.symm.trans h
   refine (Zaw rfl).trans ?_
   obtain ⟨_,_,_,_,_,_,_,_,_,he,rfl,h3⟩:=Zss h2
   rw [he]
   exact (ZFL N _ _ _ _ _ _ _ _ _ N _).trans h3
theorem ZOo:Za0 ZDb [] = [([0,1,0,1],ZtL)]:=by kernel_rfl
theorem ZSl {R:Type} (N:Nat) (e_1:List V) (f_2:Fl) (x_3:Int) (e_4:List V) (f_5:Fl) (K:V → S → Option R):Za2 C (Zwd N) (ZuF N) 64 Tryz.f64 [.agg [.list 7 e_1 f_2,.int .i64 x_3],.list 2 e_4 f_5] [] K =
 Zqc N e_1 f_2 x_3 e_4 f_5 (fun b_6=>K (.bool b_6) []):=by kernel_rfl
theorem ZFG {N:Nat} (hC:Ok Tryz.prog C) (hΦ:Zaa Tryz.prog C (Zwd N)):ZaV Tryz.prog C (ZuF N) ZDb [] :=
 ZaG ZDb [] (by
  rw [ZOo]
  intro p hp
  simp only [List.mem_cons,List.mem_nil_iff,or_false] at hp
  rcases hp with rfl
  ·exact (ZI5 hC hΦ))
theorem ZBM (hC:Ok Tryz.prog C) {N:Nat} (hΦ:Zaa Tryz.prog C (Zwd N)):Zaa Tryz.prog C (Zwj N):=by
 refine hΦ.add_pure rfl fun R vs K r h=>?_
 unfold ZPG at h
 obtain ⟨_,_,rfl,h1⟩:=Zas h
 obtain ⟨_,_,_,rfl,h2⟩:=ZaH h1
 obtain ⟨_,_,rfl,h3⟩:=Zam h2
 obtain ⟨_,h4⟩:=Zae h3
 refine Zaq (fn:=Tryz.f64) (c:=ZDb) hC hΦ Tryz.func64 (by kernel_rfl) (by kernel_rfl) (ZFG (N:=N) hC hΦ) rfl rfl ?_
 refine (ZSl N _ _ _ _ _ _).trans ?_
 rw [← ZyN]
 exact h4
def ZOh (N:Nat):(R:Type) → List V → S → (V → S → Option R) → Option R:=fun _ vs s K =>
 Zcf vs fun v'1 v'2=>Zby v'1 fun w_1=>asInt .u8 v'2 fun x_2=>ZaR s <| ZIe N w_1 x_2 (fun e_3=>K (.list 1 e_3 .sh) [])
def Zt5 (N:Nat):Zar:=(Zwj N).add 67 (ZOh N)
def ZFB:Code:=ZaS Tryz.f67
def ZuT:Code:=(Zbn ZFB [] 0).2
def Znq:List Nat:=ZbR 34 [0,1,5,6,7]
def ZzR:List Nat:=ZbR 34 [0,5,6]
def Zkm (w_1:ByteArray) (x_2:Int) (e_3:List V) (x_4 x_5:Int):List V:=mkF 0 34 [(0,.str w_1),(1,.int .u8 x_2),(5,.list 1 e_3 (.own 9)),(6,.int .i64 x_4),(7,.int .i64 x_5)]
def ZiF {R:Type} (K:X → List V → S → Option R) (w_1:ByteArray) (x_2:Int):List V → Int → Option R:=(fun e_1' x_2'=>K (.exit 0) (mkF 0 34 [(0,.str w_1),(5,.list 1 (e_1') (.own 9)),(6,.int .i64 (x_2'))]) [])
abbrev Zo1 {R:Type} (N:Nat):Nat → List V → S → (X → List V → S → Option R) → Option R:=fun n=>ZcX C (Zwj N) (Zad) ZuT [0,1,0,1,1,1] false Znq ZzR n R
theorem ZL9 {R:Type} (N n:Nat) (w_1:ByteArray) (x_2:Int) (e_3:List V) (x_4 x_5:Int) (K:X → List V → S → Option R) :
 Zo1 N (n + 1) (Zkm w_1 x_2 e_3 x_4 x_5) [] K =
 Zde N w_1 x_2 (fun e_3 x_4 x_5=>Zo1 N n (Zkm w_1 x_2 e_3 x_4 x_5) [] K) e_3 x_4 x_5 (ZiF K w_1 x_2):=by kernel_rfl
theorem ZGx {R:Type} (N:Nat) (w_1:ByteArray) (x_2:Int) (K:X → List V → S → Option R):∀ (n:Nat) (e_3:List V) (x_4 x_5:Int),
 Zo1 N n (Zkm w_1 x_2 e_3 x_4 x_5) [] K = Zhf N w_1 x_2 (ZiF K w_1 x_2) n e_3 x_4 x_5
 | 0,_,_,_=>rfl
 | n + 1,e_3,x_4,x_5=>(ZL9 N n w_1 x_2 e_3 x_4 x_5 K).trans (congrArg (fun nx=>Zde N w_1 x_2 nx e_3 x_4 x_5 (ZiF K w_1 x_2)) (funext fun e_3=>funext fun x_4=>funext fun x_5=>ZGx N w_1 x_2 K n e_3 x_4 x_5))
def Zwz {R:Type} (E:List V) (s:S) (k:ByteArray → Int → List V → Int → Int → Option R):Option R :=
 Zaj (Za3 34 [0,1,5,6,7] E) <| Zlm E 0 fun w_1=>ZaZ E 1 .u8 fun x_2=>Zbt (nth E 5) fun u5=>ZaX 1 u5 fun e_3 f'1=>ZpE 9 f'1 <| ZaZ E 6 .i64 fun x_4=>ZaZ E 7 .i64 fun x_5=>ZaR s <| k w_1 x_2 e_3 x_4 x_5
theorem Zs1 {R:Type} {E:List V} {s:S} {k:ByteArray → Int → List V → Int → Int → Option R} {r:R} (h:Zwz E s k = some r):∃ w_1 x_2 e_3 x_4 x_5,E = Zkm w_1 x_2 e_3 x_4 x_5 ∧ s = [] ∧ k w_1 x_2 e_3 x_4 x_5 = some r:=by
 unfold Zwz at h
 obtain ⟨hg,h1⟩:=Zac h
 obtain ⟨_,hu0,h2⟩:=Zcl h1
 obtain ⟨_,hu1,h3⟩:=Zah h2
 obtain ⟨_,hu5,h4⟩:=Zag h3
 obtain ⟨_,_,rfl,h5⟩:=Zam h4
 obtain ⟨rfl,h6⟩:=ZcZ h5
 obtain ⟨_,hu6,h7⟩:=Zah h6
 obtain ⟨_,hu7,h8⟩:=Zah h7
 obtain ⟨rfl,h9⟩:=Zae h8
 exact ⟨_,_,_,_,_,ZaU hg rfl (Zab hu0 (Zab hu1 (Zab hu5 (Zab hu6 (Zab hu7 ZaL))))),rfl,h9⟩
def ZvD (N:Nat):Zax:=(Zad).add [0,1,0,1,1,1] fun _ E s K=>Zwz (Zbh Znq E) s fun w_1 x_2 e_3 x_4 x_5=>Zhf N w_1 x_2 (ZiF K w_1 x_2) N e_3 x_4 x_5
theorem ZHi {N:Nat} (hC:Ok Tryz.prog C) (hΦ:Zaa Tryz.prog C (Zwj N)):Za7 Tryz.prog C (ZvD N) ZuT [0,1,0,1,1,1] :=
 Za6 (Λi:=Zad) (tr:=false) (ks:=Znq) (kx:=ZzR) (N:=N) hC hΦ
  (Zai (by kernel_rfl))
  fun R E s K r h=>by
   have h2:=Zax.add_self.symm.trans h
   refine (Zaw rfl).trans ?_
   obtain ⟨_,_,_,_,_,he,rfl,h3⟩:=Zs1 h2
   rw [he]
   exact (ZGx N _ _ _ N _ _ _).trans h3
theorem ZPd:Za0 ZFB [] = [([0,1,0,1,1,1],ZuT)]:=by kernel_rfl
theorem ZSe {R:Type} (N:Nat) (w_1:ByteArray) (x_2:Int) (K:V → S → Option R):Za2 C (Zwj N) (ZvD N) 67 Tryz.f67 [.str w_1,.int .u8 x_2] [] K =
 ZqW N w_1 x_2 (fun e_3=>K (.list 1 e_3 .sh) []):=by kernel_rfl
theorem ZCC {N:Nat} (hC:Ok Tryz.prog C) (hΦ:Zaa Tryz.prog C (Zwj N)):ZaV Tryz.prog C (ZvD N) ZFB [] :=
 ZaG ZFB [] (by
  rw [ZPd]
  intro p hp
  simp only [List.mem_cons,List.mem_nil_iff,or_false] at hp
  rcases hp with rfl
  ·exact (ZHi hC hΦ))
theorem ZAw (hC:Ok Tryz.prog C) {N:Nat} (hΦ:Zaa Tryz.prog C (Zwj N)):Zaa Tryz.prog C (Zt5 N):=by
 refine hΦ.add_pure rfl fun R vs K r h=>?_
 unfold ZOh at h
 obtain ⟨_,_,rfl,h1⟩:=Zas h
 obtain ⟨_,rfl,h2⟩:=ZaD h1
 obtain ⟨_,rfl,h3⟩:=Zaf h2
 obtain ⟨_,h4⟩:=Zae h3
 refine Zaq (fn:=Tryz.f67) (c:=ZFB) hC hΦ Tryz.func67 (by kernel_rfl) (by kernel_rfl) (ZCC (N:=N) hC hΦ) rfl rfl ?_
 refine (ZSe N _ _ _).trans ?_
 rw [← Zx9]
 exact h4
def ZOD (N:Nat):(R:Type) → List V → S → (V → S → Option R) → Option R:=fun _ vs s K =>
 Zco vs fun v'1=>Zby v'1 fun w_1=>ZaR s <| Zra N w_1 (fun e_2=>K (.list 1 e_2 (.own 9)) [])
def Zuw (N:Nat):Zar:=(Zt5 N).add 46 (ZOD N)
def ZFn:Code:=ZaS Tryz.f46
def Zve:Code:=(Zbn ZFn [] 0).2
def Zpv:List Nat:=ZbR 21 [3,7,8,9]
def Zyz:List Nat:=ZbR 21 [3]
def ZkZ (e_2:List V) (x_3:Int) (e_1:List V) (x_4:Int):List V:=mkF 0 21 [(3,.list 1 e_1 (.own 9)),(7,.list 1 e_2 .sh),(8,.int .i64 x_3),(9,.int .i64 x_4)]
def Zil {R:Type} (K:X → List V → S → Option R) (e_2:List V) (x_3:Int):List V → Option R:=(fun e_1'=>K (.exit 0) (mkF 0 21 [(3,.list 1 (e_1') (.own 9))]) [])
abbrev Zoz {R:Type} (N:Nat):Nat → List V → S → (X → List V → S → Option R) → Option R:=fun n=>ZcX C (Zt5 N) (Zad) Zve [0,1,0,1,1] false Zpv Zyz n R
theorem ZLG {R:Type} (N n:Nat) (e_2:List V) (x_3:Int) (e_1:List V) (x_4:Int) (K:X → List V → S → Option R) :
 Zoz N (n + 1) (ZkZ e_2 x_3 e_1 x_4) [] K =
 Zdt N e_2 x_3 (fun e_1 x_4=>Zoz N n (ZkZ e_2 x_3 e_1 x_4) [] K) e_1 x_4 (Zil K e_2 x_3):=by kernel_rfl
theorem ZD6 {R:Type} (N:Nat) (e_2:List V) (x_3:Int) (K:X → List V → S → Option R):∀ (n:Nat) (e_1:List V) (x_4:Int),
 Zoz N n (ZkZ e_2 x_3 e_1 x_4) [] K = ZgU N e_2 x_3 (Zil K e_2 x_3) n e_1 x_4
 | 0,_,_=>rfl
 | n + 1,e_1,x_4=>(ZLG N n e_2 x_3 e_1 x_4 K).trans (congrArg (fun nx=>Zdt N e_2 x_3 nx e_1 x_4 (Zil K e_2 x_3)) (funext fun e_1=>funext fun x_4=>ZD6 N e_2 x_3 K n e_1 x_4))
def Zup {R:Type} (E:List V) (s:S) (k:List V → List V → Int → Int → Option R):Option R :=
 Zaj (Za3 21 [3,7,8,9] E) <| Zbt (nth E 3) fun u3=>ZaX 1 u3 fun e_1 f'1=>ZpE 9 f'1 <| Zbt (nth E 7) fun u7=>ZaX 1 u7 fun e_2 f'2=>ZLw f'2 <| ZaZ E 8 .i64 fun x_3=>ZaZ E 9 .i64 fun x_4=>ZaR s <| k e_1 e_2 x_3 x_4
theorem Zqn {R:Type} {E:List V} {s:S} {k:List V → List V → Int → Int → Option R} {r:R} (h:Zup E s k = some r):∃ e_1 e_2 x_3 x_4,E = ZkZ e_2 x_3 e_1 x_4 ∧ s = [] ∧ k e_1 e_2 x_3 x_4 = some r:=by
 unfold Zup at h
 obtain ⟨hg,h1⟩:=Zac h
 obtain ⟨_,hu3,h2⟩:=Zag h1
 obtain ⟨_,_,rfl,h3⟩:=Zam h2
 obtain ⟨rfl,h4⟩:=ZcZ h3
 obtain ⟨_,hu7,h5⟩:=Zag h4
 obtain ⟨_,_,rfl,h6⟩:=Zam h5
 obtain ⟨rfl,h7⟩:=Zfw h6
 obtain ⟨_,hu8,h8⟩:=Zah h7
 obtain ⟨_,hu9,h9⟩:=Zah h8
 obtain ⟨rfl,h10⟩:=Zae h9
 exact ⟨_,_,_,_,ZaU hg rfl (Zab hu3 (Zab hu7 (Zab hu8 (Zab hu9 ZaL)))),rfl,h10⟩
def ZuQ (N:Nat):Zax:=(Zad).add [0,1,0,1,1] fun _ E s K=>Zup (Zbh Zpv E) s fun e_1 e_2 x_3 x_4=>ZgU N e_2 x_3 (Zil K e_2 x_3) N e_1 x_4
theorem ZHl {N:Nat} (hC:Ok Tryz.prog C) (hΦ:Zaa Tryz.prog C (Zt5 N)):Za7 Tryz.prog C (ZuQ N) Zve [0,1,0,1,1] :=
 Za6 (Λi:=Zad) (tr:=false) (ks:=Zpv) (kx:=Zyz) (N:=N) hC hΦ
  (Zai (by kernel_rfl))
  fun R E s K r h=>by
   have h2:=Zax.add_self.symm.trans h
   refine (Zaw rfl).trans ?_
   obtain ⟨_,_,_,_,he,rfl,h3⟩:=Zqn h2
   rw [he]
   exact (ZD6 N _ _ _ N _ _).trans h3
theorem ZOH:Za0 ZFn [] = [([0,1,0,1,1],Zve)]:=by kernel_rfl
theorem ZRL {R:Type} (N:Nat) (w_1:ByteArray) (K:V → S → Option R):Za2 C (Zt5 N) (ZuQ N) 46 Tryz.f46 [.str w_1] [] K =
 Zrr N w_1 (fun e_2=>K (.list 1 e_2 (.own 9)) []):=by kernel_rfl
theorem ZEA {N:Nat} (hC:Ok Tryz.prog C) (hΦ:Zaa Tryz.prog C (Zt5 N)):ZaV Tryz.prog C (ZuQ N) ZFn [] :=
 ZaG ZFn [] (by
  rw [ZOH]
  intro p hp
  simp only [List.mem_cons,List.mem_nil_iff,or_false] at hp
  rcases hp with rfl
  ·exact (ZHl hC hΦ))
theorem ZBd (hC:Ok Tryz.prog C) {N:Nat} (hΦ:Zaa Tryz.prog C (Zt5 N)):Zaa Tryz.prog C (Zuw N):=by
 refine hΦ.add_own rfl fun R vs K r h=>?_
 unfold ZOD at h
 obtain ⟨_,rfl,h1⟩:=Zat h
 obtain ⟨_,rfl,h2⟩:=ZaD h1
 obtain ⟨_,h3⟩:=Zae h2
 refine ZIB (fn:=Tryz.f46) (c:=ZFn) hC hΦ Tryz.func46 (by kernel_rfl) (by kernel_rfl) (ZEA (N:=N) hC hΦ) rfl rfl ?_
 refine (ZRL N _ _).trans ?_
 rw [← Zxl]
 exact h3
def ZNj (N:Nat):(R:Type) → List V → S → (V → S → Option R) → Option R:=fun _ vs s K =>
 Zco vs fun v'1=>Zby v'1 fun w_1=>ZaR s <| ZEE N w_1 (fun b_2=>K (.bool b_2) [])
def ZJP (N:Nat):Zar:=(Zuw N).add 65 (ZNj N)
def ZFz:Code:=ZaS Tryz.f65
def Ztp:Code:=(Zbn ZFz [] 0).2
def Zo0:List Nat:=ZbR 27 [0,6,7,8]
def ZzI:List Nat:=ZbR 27 [0,2]
def Zkz (w_1:ByteArray) (e_2:List V) (x_3 x_4:Int):List V:=mkF 0 27 [(0,.str w_1),(6,.list 1 e_2 (.own 9)),(7,.int .i64 x_3),(8,.int .i64 x_4)]
def Zhx {R:Type} (K:X → List V → S → Option R) (w_1:ByteArray) (e_2:List V) (x_3:Int):Unit → Option R:=(fun _=>K .ret (mkF 0 27 [(0,.str w_1),(2,.bool false)]) [])
def ZiK {R:Type} (K:X → List V → S → Option R) (w_1:ByteArray) (e_2:List V) (x_3:Int):Unit → Option R:=(fun _=>K (.exit 0) (mkF 0 27 [(0,.str w_1)]) [])
abbrev Zpi {R:Type} (N:Nat):Nat → List V → S → (X → List V → S → Option R) → Option R:=fun n=>ZcX C (Zuw N) (Zad) Ztp [0,1,0,1] false Zo0 ZzI n R
theorem ZLX {R:Type} (N n:Nat) (w_1:ByteArray) (e_2:List V) (x_3:Int) (x_4:Int) (K:X → List V → S → Option R) :
 Zpi N (n + 1) (Zkz w_1 e_2 x_3 x_4) [] K =
 ZdL N w_1 e_2 x_3 (fun x_4=>Zpi N n (Zkz w_1 e_2 x_3 x_4) [] K) x_4 (Zhx K w_1 e_2 x_3) (ZiK K w_1 e_2 x_3):=by kernel_rfl
theorem ZFY {R:Type} (N:Nat) (w_1:ByteArray) (e_2:List V) (x_3:Int) (K:X → List V → S → Option R):∀ (n:Nat) (x_4:Int),
 Zpi N n (Zkz w_1 e_2 x_3 x_4) [] K = ZgX N w_1 e_2 x_3 (Zhx K w_1 e_2 x_3) (ZiK K w_1 e_2 x_3) n x_4
 | 0,_=>rfl
 | n + 1,x_4=>(ZLX N n w_1 e_2 x_3 x_4 K).trans (congrArg (fun nx=>ZdL N w_1 e_2 x_3 nx x_4 (Zhx K w_1 e_2 x_3) (ZiK K w_1 e_2 x_3)) (funext fun x_4=>ZFY N w_1 e_2 x_3 K n x_4))
def Zul {R:Type} (E:List V) (s:S) (k:ByteArray → List V → Int → Int → Option R):Option R :=
 Zaj (Za3 27 [0,6,7,8] E) <| Zlm E 0 fun w_1=>Zbt (nth E 6) fun u6=>ZaX 1 u6 fun e_2 f'1=>ZpE 9 f'1 <| ZaZ E 7 .i64 fun x_3=>ZaZ E 8 .i64 fun x_4=>ZaR s <| k w_1 e_2 x_3 x_4
theorem ZrE {R:Type} {E:List V} {s:S} {k:ByteArray → List V → Int → Int → Option R} {r:R} (h:Zul E s k = some r):∃ w_1 e_2 x_3 x_4,E = Zkz w_1 e_2 x_3 x_4 ∧ s = [] ∧ k w_1 e_2 x_3 x_4 = some r:=by
 unfold Zul at h
 obtain ⟨hg,h1⟩:=Zac h
 obtain ⟨_,hu0,h2⟩:=Zcl h1
 obtain ⟨_,hu6,h3⟩:=Zag h2
 obtain ⟨_,_,rfl,h4⟩:=Zam h3
 obtain ⟨rfl,h5⟩:=ZcZ h4
 obtain ⟨_,hu7,h6⟩:=Zah h5
 obtain ⟨_,hu8,h7⟩:=Zah h6
 obtain ⟨rfl,h8⟩:=Zae h7
 exact ⟨_,_,_,_,ZaU hg rfl (Zab hu0 (Zab hu6 (Zab hu7 (Zab hu8 ZaL)))),rfl,h8⟩
def ZwE (N:Nat):Zax:=(Zad).add [0,1,0,1] fun _ E s K=>Zul (Zbh Zo0 E) s fun w_1 e_2 x_3 x_4=>ZgX N w_1 e_2 x_3 (Zhx K w_1 e_2 x_3) (ZiK K w_1 e_2 x_3) N x_4
theorem ZJu {N:Nat} (hC:Ok Tryz.prog C) (hΦ:Zaa Tryz.prog C (Zuw N)):Za7 Tryz.prog C (ZwE N) Ztp [0,1,0,1] :=
 Za6 (Λi:=Zad) (tr:=false) (ks:=Zo0) (kx:=ZzI) (N:=N) hC hΦ
  (Zai (by kernel_rfl))
  fun R E s K r h=>by
   have h2:=Zax.add_self.symm.trans h
   refine (Zaw rfl).trans ?_
   obtain ⟨_,_,_,_,he,rfl,h3⟩:=ZrE h2
   rw [he]
   exact (ZFY N _ _ _ _ N _).trans h3
theorem ZPJ:Za0 ZFz [] = [([0,1,0,1],Ztp)]:=by kernel_rfl
theorem ZQj {R:Type} (N:Nat) (w_1:ByteArray) (K:V → S → Option R):Za2 C (Zuw N) (ZwE N) 65 Tryz.f65 [.str w_1] [] K =
 Zqp N w_1 (fun b_2=>K (.bool b_2) []):=by kernel_rfl
theorem ZGu {N:Nat} (hC:Ok Tryz.prog C) (hΦ:Zaa Tryz.prog C (Zuw N)):ZaV Tryz.prog C (ZwE N) ZFz [] :=
 ZaG ZFz [] (by
  rw [ZPJ]
  intro p hp
  simp only [List.mem_cons,List.mem_nil_iff,or_false] at hp
  rcases hp with rfl
  ·exact (ZJu hC hΦ))
theorem ZzV (hC:Ok Tryz.prog C) {N:Nat} (hΦ:Zaa Tryz.prog C (Zuw N)):Zaa Tryz.prog C (ZJP N):=by
 refine hΦ.add_pure rfl fun R vs K r h=>?_
 unfold ZNj at h
 obtain ⟨_,rfl,h1⟩:=Zat h
 obtain ⟨_,rfl,h2⟩:=ZaD h1
 obtain ⟨_,h3⟩:=Zae h2
 refine Zaq (fn:=Tryz.f65) (c:=ZFz) hC hΦ Tryz.func65 (by kernel_rfl) (by kernel_rfl) (ZGu (N:=N) hC hΦ) rfl rfl ?_
 refine (ZQj N _ _).trans ?_
 rw [← Zyf]
 exact h3
def ZPq (N:Nat):(R:Type) → List V → S → (V → S → Option R) → Option R:=fun _ vs s K =>
 Zcf vs fun v'1 v'2=>Za9 v'1 fun e_1 f_2 x_3=>ZaB v'2 fun x_4 x_5 x_6 x_7 x_8 w_9 e_10 f_11=>ZaR s <| ZJf N e_1 f_2 x_3 x_4 x_5 x_6 x_7 x_8 w_9 e_10 f_11 (fun b_12=>K (.bool b_12) [])
def Zvy (N:Nat):Zar:=(ZJP N).add 41 (ZPq N)
def ZRx:Code:=ZaS Tryz.f41
theorem ZRB {R:Type} (N:Nat) (e_1:List V) (f_2:Fl) (x_3 x_4 x_5 x_6 x_7 x_8:Int) (w_9:ByteArray) (e_10:List V) (f_11:Fl) (K:V → S → Option R):Za2 C (ZJP N) (Zad) 41 Tryz.f41 [.agg [.list 7 e_1 f_2,.int .i64 x_3],.agg [.int .i64 x_4,.int .i64 x_5,.int .i64 x_6,.int .i64 x_7,.int .i64 x_8,.str w_9,.list 2 e_10 f_11]] [] K =
 Zsi N e_1 f_2 x_3 x_4 x_5 x_6 x_7 x_8 w_9 e_10 f_11 (fun b_12=>K (.bool b_12) []):=by kernel_rfl
theorem ZCc (hC:Ok Tryz.prog C) {N:Nat} (hΦ:Zaa Tryz.prog C (ZJP N)):Zaa Tryz.prog C (Zvy N):=by
 refine hΦ.add_pure rfl fun R vs K r h=>?_
 unfold ZPq at h
 obtain ⟨_,_,rfl,h1⟩:=Zas h
 obtain ⟨_,_,_,rfl,h2⟩:=ZaH h1
 obtain ⟨_,_,_,_,_,_,_,_,rfl,h3⟩:=Zb7 h2
 obtain ⟨_,h4⟩:=Zae h3
 refine Zaq (fn:=Tryz.f41) (c:=ZRx) hC hΦ Tryz.func41 (by kernel_rfl) (by kernel_rfl) (Zai (Λ:=Zad) (by kernel_rfl)) rfl rfl ?_
 refine (ZRB N _ _ _ _ _ _ _ _ _ _ _ _).trans ?_
 rw [← ZzL]
 exact h4
def ZNO (N:Nat):(R:Type) → List V → S → (V → S → Option R) → Option R:=fun _ vs s K =>
 Zcf vs fun v'1 v'2=>ZaX 1 v'1 fun e_1 f_2=>asInt .i64 v'2 fun x_3=>ZaR s <| Zl8 N e_1 f_2 x_3 (fun b_4=>K (.bool b_4) [])
def Zut (N:Nat):Zar:=(Zvy N).add 44 (ZNO N)
def ZC7:Code:=ZaS Tryz.f44
def Ztq:Code:=(Zbn ZC7 [] 0).2
def Znf:List Nat:=ZbR 17 [1,7,8,9]
def ZzT:List Nat:=ZbR 17 [4]
def ZkM (x_1:Int) (e_2:List V) (f_3:Fl) (x_4 x_5:Int):List V:=mkF 0 17 [(1,.int .i64 x_1),(7,.list 1 e_2 f_3),(8,.int .i64 x_4),(9,.int .i64 x_5)]
def ZhR {R:Type} (K:X → List V → S → Option R) (x_1:Int) (e_2:List V) (f_3:Fl) (x_4:Int):Unit → Option R:=(fun _=>K .ret (mkF 0 17 [(4,.bool true)]) [])
def Ziq {R:Type} (K:X → List V → S → Option R) (x_1:Int) (e_2:List V) (f_3:Fl) (x_4:Int):Unit → Option R:=(fun _=>K (.exit 0) (mkF 0 17 []) [])
abbrev Zni {R:Type} (N:Nat):Nat → List V → S → (X → List V → S → Option R) → Option R:=fun n=>ZcX C (Zvy N) (Zad) Ztq [0,1,0,1] false Znf ZzT n R
theorem ZKW {R:Type} (N n:Nat) (x_1:Int) (e_2:List V) (f_3:Fl) (x_4:Int) (x_5:Int) (K:X → List V → S → Option R) :
 Zni N (n + 1) (ZkM x_1 e_2 f_3 x_4 x_5) [] K =
 Zdr N x_1 e_2 f_3 x_4 (fun x_5=>Zni N n (ZkM x_1 e_2 f_3 x_4 x_5) [] K) x_5 (ZhR K x_1 e_2 f_3 x_4) (Ziq K x_1 e_2 f_3 x_4):=by kernel_rfl
theorem ZGJ {R:Type} (N:Nat) (x_1:Int) (e_2:List V) (f_3:Fl) (x_4:Int) (K:X → List V → S → Option R):∀ (n:Nat) (x_5:Int),
 Zni N n (ZkM x_1 e_2 f_3 x_4 x_5) [] K = ZgG N x_1 e_2 f_3 x_4 (ZhR K x_1 e_2 f_3 x_4) (Ziq K x_1 e_2 f_3 x_4) n x_5
 | 0,_=>rfl
 | n + 1,x_5=>(ZKW N n x_1 e_2 f_3 x_4 x_5 K).trans (congrArg (fun nx=>Zdr N x_1 e_2 f_3 x_4 nx x_5 (ZhR K x_1 e_2 f_3 x_4) (Ziq K x_1 e_2 f_3 x_4)) (funext fun x_5=>ZGJ N x_1 e_2 f_3 x_4 K n x_5))
def Zv7 {R:Type} (E:List V) (s:S) (k:Int → List V → Fl → Int → Int → Option R):Option R :=
 Zaj (Za3 17 [1,7,8,9] E) <| ZaZ E 1 .i64 fun x_1=>Zbu E 7 1 fun e_2 f_3=>ZaZ E 8 .i64 fun x_4=>ZaZ E 9 .i64 fun x_5=>ZaR s <| k x_1 e_2 f_3 x_4 x_5
theorem ZrI {R:Type} {E:List V} {s:S} {k:Int → List V → Fl → Int → Int → Option R} {r:R} (h:Zv7 E s k = some r):∃ x_1 e_2 f_3 x_4 x_5,E = ZkM x_1 e_2 f_3 x_4 x_5 ∧ s = [] ∧ k x_1 e_2 f_3 x_4 x_5 = some r:=by
 unfold Zv7 at h
 obtain ⟨hg,h1⟩:=Zac h
 obtain ⟨_,hu1,h2⟩:=Zah h1
 obtain ⟨_,_,hu7,h3⟩:=ZaC h2
 obtain ⟨_,hu8,h4⟩:=Zah h3
 obtain ⟨_,hu9,h5⟩:=Zah h4
 obtain ⟨rfl,h6⟩:=Zae h5
 exact ⟨_,_,_,_,_,ZaU hg rfl (Zab hu1 (Zab hu7 (Zab hu8 (Zab hu9 ZaL)))),rfl,h6⟩
def ZvH (N:Nat):Zax:=(Zad).add [0,1,0,1] fun _ E s K=>Zv7 (Zbh Znf E) s fun x_1 e_2 f_3 x_4 x_5=>ZgG N x_1 e_2 f_3 x_4 (ZhR K x_1 e_2 f_3 x_4) (Ziq K x_1 e_2 f_3 x_4) N x_5
theorem ZHZ {N:Nat} (hC:Ok Tryz.prog C) (hΦ:Zaa Tryz.prog C (Zvy N)):Za7 Tryz.prog C (ZvH N) Ztq [0,1,0,1] :=
 Za6 (Λi:=Zad) (tr:=false) (ks:=Znf) (kx:=ZzT) (N:=N) hC hΦ
  (Zai (by kernel_rfl))
  fun R E s K r h=>by
   have h2:=Zax.add_self.symm.trans h
   refine (Zaw rfl).trans ?_
   obtain ⟨_,_,_,_,_,he,rfl,h3⟩:=ZrI h2
   rw [he]
   exact (ZGJ N _ _ _ _ _ N _).trans h3
theorem ZOt:Za0 ZC7 [] = [([0,1,0,1],Ztq)]:=by kernel_rfl
theorem ZQI {R:Type} (N:Nat) (e_1:List V) (f_2:Fl) (x_3:Int) (K:V → S → Option R):Za2 C (Zvy N) (ZvH N) 44 Tryz.f44 [.list 1 e_1 f_2,.int .i64 x_3] [] K =
 Zse N e_1 f_2 x_3 (fun b_4=>K (.bool b_4) []):=by kernel_rfl
theorem ZEJ {N:Nat} (hC:Ok Tryz.prog C) (hΦ:Zaa Tryz.prog C (Zvy N)):ZaV Tryz.prog C (ZvH N) ZC7 [] :=
 ZaG ZC7 [] (by
  rw [ZOt]
  intro p hp
  simp only [List.mem_cons,List.mem_nil_iff,or_false] at hp
  rcases hp with rfl
  ·exact (ZHZ hC hΦ))
theorem ZAb (hC:Ok Tryz.prog C) {N:Nat} (hΦ:Zaa Tryz.prog C (Zvy N)):Zaa Tryz.prog C (Zut N):=by
 refine hΦ.add_pure rfl fun R vs K r h=>?_
 unfold ZNO at h
 obtain ⟨_,_,rfl,h1⟩:=Zas h
 obtain ⟨_,_,rfl,h2⟩:=Zam h1
 obtain ⟨_,rfl,h3⟩:=Zaf h2
 obtain ⟨_,h4⟩:=Zae h3
 refine Zaq (fn:=Tryz.f44) (c:=ZC7) hC hΦ Tryz.func44 (by kernel_rfl) (by kernel_rfl) (ZEJ (N:=N) hC hΦ) rfl rfl ?_
 refine (ZQI N _ _ _ _).trans ?_
 rw [← Zxd]
 exact h4
def ZNu (N:Nat):(R:Type) → List V → S → (V → S → Option R) → Option R:=fun _ vs s K =>
 Zcf vs fun v'1 v'2=>ZaX 1 v'1 fun e_1 f_2=>asInt .i64 v'2 fun x_3=>ZaR s <| ZHD N e_1 f_2 x_3 (fun e_4=>K (.list 1 e_4 .sh) [])
def ZGS (N:Nat):Zar:=(Zut N).add 66 (ZNu N)
def ZFV:Code:=ZaS Tryz.f66
def ZuS:Code:=(Zbn ZFV [] 0).2
def ZnC:List Nat:=ZbR 48 [0,1,5]
def ZxY:List Nat:=ZbR 48 [0,1,5]
def Zj5 (e_1:List V) (f_2:Fl) (x_3 x_4:Int):List V:=mkF 0 48 [(0,.list 1 e_1 f_2),(1,.int .i64 x_3),(5,.int .i64 x_4)]
def ZhO {R:Type} (K:X → List V → S → Option R) (e_1:List V) (f_2:Fl) (x_3:Int):Int → Option R:=(fun x_1'=>K (.exit 0) (mkF 0 48 [(0,.list 1 e_1 f_2),(1,.int .i64 x_3),(5,.int .i64 (x_1'))]) [])
abbrev Znk {R:Type} (N:Nat):Nat → List V → S → (X → List V → S → Option R) → Option R:=fun n=>ZcX C (Zut N) (Zad) ZuS [0,0,1,1] false ZnC ZxY n R
theorem ZLa {R:Type} (N n:Nat) (e_1:List V) (f_2:Fl) (x_3:Int) (x_4:Int) (K:X → List V → S → Option R) :
 Znk N (n + 1) (Zj5 e_1 f_2 x_3 x_4) [] K =
 Zdz N e_1 f_2 x_3 (fun x_4=>Znk N n (Zj5 e_1 f_2 x_3 x_4) [] K) x_4 (ZhO K e_1 f_2 x_3):=by kernel_rfl
theorem ZDA {R:Type} (N:Nat) (e_1:List V) (f_2:Fl) (x_3:Int) (K:X → List V → S → Option R):∀ (n:Nat) (x_4:Int),
 Znk N n (Zj5 e_1 f_2 x_3 x_4) [] K = Zgt N e_1 f_2 x_3 (ZhO K e_1 f_2 x_3) n x_4
 | 0,_=>rfl
 | n + 1,x_4=>(ZLa N n e_1 f_2 x_3 x_4 K).trans (congrArg (fun nx=>Zdz N e_1 f_2 x_3 nx x_4 (ZhO K e_1 f_2 x_3)) (funext fun x_4=>ZDA N e_1 f_2 x_3 K n x_4))
def ZwF {R:Type} (E:List V) (s:S) (k:List V → Fl → Int → Int → Option R):Option R :=
 Zaj (Za3 48 [0,1,5] E) <| Zbu E 0 1 fun e_1 f_2=>ZaZ E 1 .i64 fun x_3=>ZaZ E 5 .i64 fun x_4=>ZaR s <| k e_1 f_2 x_3 x_4
theorem ZrR {R:Type} {E:List V} {s:S} {k:List V → Fl → Int → Int → Option R} {r:R} (h:ZwF E s k = some r):∃ e_1 f_2 x_3 x_4,E = Zj5 e_1 f_2 x_3 x_4 ∧ s = [] ∧ k e_1 f_2 x_3 x_4 = some r:=by
 unfold ZwF at h
 obtain ⟨hg,h1⟩:=Zac h
 obtain ⟨_,_,hu0,h2⟩:=ZaC h1
 obtain ⟨_,hu1,h3⟩:=Zah h2
 obtain ⟨_,hu5,h4⟩:=Zah h3
 obtain ⟨rfl,h5⟩:=Zae h4
 exact ⟨_,_,_,_,ZaU hg rfl (Zab hu0 (Zab hu1 (Zab hu5 ZaL))),rfl,h5⟩
def ZtD (N:Nat):Zax:=(Zad).add [0,0,1,1] fun _ E s K=>ZwF (Zbh ZnC E) s fun e_1 f_2 x_3 x_4=>Zgt N e_1 f_2 x_3 (ZhO K e_1 f_2 x_3) N x_4
theorem ZH4 {N:Nat} (hC:Ok Tryz.prog C) (hΦ:Zaa Tryz.prog C (Zut N)):Za7 Tryz.prog C (ZtD N) ZuS [0,0,1,1] :=
 Za6 (Λi:=Zad) (tr:=false) (ks:=ZnC) (kx:=ZxY) (N:=N) hC hΦ
  (Zai (by kernel_rfl))
  fun R E s K r h=>by
   have h2:=Zax.add_self.symm.trans h
   refine (Zaw rfl).trans ?_
   obtain ⟨_,_,_,_,he,rfl,h3⟩:=ZrR h2
   rw [he]
   exact (ZDA N _ _ _ _ N _).trans h3
theorem ZPE:Za0 ZFV [] = [([0,0,1,1],ZuS)]:=by kernel_rfl
theorem ZQO {R:Type} (N:Nat) (e_1:List V) (f_2:Fl) (x_3:Int) (K:V → S → Option R):Za2 C (Zut N) (ZtD N) 66 Tryz.f66 [.list 1 e_1 f_2,.int .i64 x_3] [] K =
 ZpS N e_1 f_2 x_3 (fun e_4=>K (.list 1 e_4 .sh) []):=by kernel_rfl
theorem ZDL {N:Nat} (hC:Ok Tryz.prog C) (hΦ:Zaa Tryz.prog C (Zut N)):ZaV Tryz.prog C (ZtD N) ZFV [] :=
 ZaG ZFV [] (by
  rw [ZPE]
  intro p hp
  simp only [List.mem_cons,List.mem_nil_iff,or_false] at hp
  rcases hp with rfl
  ·exact (ZH4 hC hΦ))
theorem ZCx (hC:Ok Tryz.prog C) {N:Nat} (hΦ:Zaa Tryz.prog C (Zut N)):Zaa Tryz.prog C (ZGS N):=by
 refine hΦ.add_pure rfl fun R vs K r h=>?_
 unfold ZNu at h
 obtain ⟨_,_,rfl,h1⟩:=Zas h
 obtain ⟨_,_,rfl,h2⟩:=Zam h1
 obtain ⟨_,rfl,h3⟩:=Zaf h2
 obtain ⟨_,h4⟩:=Zae h3
 refine Zaq (fn:=Tryz.f66) (c:=ZFV) hC hΦ Tryz.func66 (by kernel_rfl) (by kernel_rfl) (ZDL (N:=N) hC hΦ) rfl rfl ?_
 refine (ZQO N _ _ _ _).trans ?_
 rw [← Zzj]
 exact h4
def ZK5 (N M:Nat):(R:Type) → List V → S → (V → S → Option R) → Option R:=fun _ vs s K =>
 ZEn vs fun v'1 v'2 v'3=>Za9 v'1 fun e_1 f_2 x_3=>asInt .i64 v'2 fun x_4=>ZaX 1 v'3 fun e_5 f_6=>ZaR s <| ZhA N M _ e_1 f_2 x_3 x_4 e_5 f_6 (fun e_7=>K (.list 1 e_7 .sh) [])
def ZiY (N M:Nat):Zar:=(ZGS N).add 42 (ZK5 N M)
def ZC5:Code:=ZaS Tryz.f42
def ZtS:Code:=(Zbn ZC5 [] 0).2
def Zod:List Nat:=ZbR 34 [2,3,21,22,23]
def Zzt:List Nat:=ZbR 34 [2]
def Zkk (e_2:List V) (f_3:Fl) (x_4:Int) (e_6:List V) (f_7:Fl) (x_8:Int) (e_1:List V) (x_5:Int):List V:=mkF 0 34 [(2,.list 1 e_1 .sh),(3,.ptr 0 0 0 0),(21,.list 2 e_2 f_3),(22,.int .i64 x_4),(23,.int .i64 x_5)]
def Zho {R:Type} (K:X → List V → S → Option R) (e_2:List V) (f_3:Fl) (x_4:Int) (e_6:List V) (f_7:Fl) (x_8:Int):List V → Option R:=(fun e_1'=>K (.exit 0) (mkF 0 34 [(2,.list 1 (e_1') .sh)]) [some ⟨[.agg [.list 7 e_6 f_7,.int .i64 x_8]],2,33,0⟩])
abbrev Zoj {R:Type} (N M:Nat):Nat → List V → S → (X → List V → S → Option R) → Option R:=fun n=>ZcX C (ZiY N M) (Zad) ZtS [0,1,0,1,1,1] true Zod Zzt n R
theorem ZLu {R:Type} (N M n:Nat) (e_2:List V) (f_3:Fl) (x_4:Int) (e_6:List V) (f_7:Fl) (x_8:Int) (e_1:List V) (x_5:Int) (K:X → List V → S → Option R) :
 Zoj N M (n + 1) (Zkk e_2 f_3 x_4 e_6 f_7 x_8 e_1 x_5) [some ⟨[.agg [.list 7 e_6 f_7,.int .i64 x_8]],2,33,0⟩] K =
 Zdb N (ZhA N M) e_2 f_3 x_4 e_6 f_7 x_8 (fun e_1 x_5=>Zoj N M n (Zkk e_2 f_3 x_4 e_6 f_7 x_8 e_1 x_5) [some ⟨[.agg [.list 7 e_6 f_7,.int .i64 x_8]],2,33,0⟩] K) e_1 x_5 (Zho K e_2 f_3 x_4 e_6 f_7 x_8):=by kernel_rfl
theorem ZFK {R:Type} (N M:Nat) (e_2:List V) (f_3:Fl) (x_4:Int) (e_6:List V) (f_7:Fl) (x_8:Int) (K:X → List V → S → Option R):∀ (n:Nat) (e_1:List V) (x_5:Int),
 Zoj N M n (Zkk e_2 f_3 x_4 e_6 f_7 x_8 e_1 x_5) [some ⟨[.agg [.list 7 e_6 f_7,.int .i64 x_8]],2,33,0⟩] K = Zgs N (ZhA N M) e_2 f_3 x_4 e_6 f_7 x_8 (Zho K e_2 f_3 x_4 e_6 f_7 x_8) n e_1 x_5
 | 0,_,_=>rfl
 | n + 1,e_1,x_5=>(ZLu N M n e_2 f_3 x_4 e_6 f_7 x_8 e_1 x_5 K).trans (congrArg (fun nx=>Zdb N (ZhA N M) e_2 f_3 x_4 e_6 f_7 x_8 nx e_1 x_5 (Zho K e_2 f_3 x_4 e_6 f_7 x_8)) (funext fun e_1=>funext fun x_5=>ZFK N M e_2 f_3 x_4 e_6 f_7 x_8 K n e_1 x_5))
def ZtX {R:Type} (E:List V) (s:S) (k:List V → List V → Fl → Int → Int → List V → Fl → Int → Option R):Option R :=
 Zaj (Za3 34 [2,3,21,22,23] E) <| Zbt (nth E 2) fun u2=>ZaX 1 u2 fun e_1 f'1=>ZLw f'1 <| ZvY E 3 (.ptr 0 0 0 0) <| Zbu E 21 2 fun e_2 f_3=>ZaZ E 22 .i64 fun x_4=>ZaZ E 23 .i64 fun x_5=>ZdW s fun o'2 s'3=>ZcW o'2 2 33 fun e'4 k'5=>isN k'5 0 <| Zco e'4 fun v'6=>asAgg v'6 fun c'7=>Zcf c'7 fun v'8 v'9=>ZaX 7 v'8 fun e_6 f_7=>asInt .i64 v'9 fun x_8=>ZaR s'3 <| k e_1 e_2 f_3 x_4 x_5 e_6 f_7 x_8
theorem ZpZ {R:Type} {E:List V} {s:S} {k:List V → List V → Fl → Int → Int → List V → Fl → Int → Option R} {r:R} (h:ZtX E s k = some r):∃ e_1 e_2 f_3 x_4 x_5 e_6 f_7 x_8,E = Zkk e_2 f_3 x_4 e_6 f_7 x_8 e_1 x_5 ∧ s = [some ⟨[.agg [.list 7 e_6 f_7,.int .i64 x_8]],2,33,0⟩] ∧ k e_1 e_2 f_3 x_4 x_5 e_6 f_7 x_8 = some r:=by
 unfold ZtX at h
 obtain ⟨hg,h1⟩:=Zac h
 obtain ⟨_,hu2,h2⟩:=Zag h1
 obtain ⟨_,_,rfl,h3⟩:=Zam h2
 obtain ⟨rfl,h4⟩:=Zfw h3
 obtain ⟨hu3,h5⟩:=Zb0 h4
 obtain ⟨_,_,hu21,h6⟩:=ZaC h5
 obtain ⟨_,hu22,h7⟩:=Zah h6
 obtain ⟨_,hu23,h8⟩:=Zah h7
 obtain ⟨_,_,rfl,h9⟩:=ZaP h8
 obtain ⟨_,_,rfl,h10⟩:=ZaJ h9
 obtain ⟨rfl,h11⟩:=Zap h10
 obtain ⟨_,rfl,h12⟩:=Zat h11
 obtain ⟨_,rfl,h13⟩:=ZaF h12
 obtain ⟨_,_,rfl,h14⟩:=Zas h13
 obtain ⟨_,_,rfl,h15⟩:=Zam h14
 obtain ⟨_,rfl,h16⟩:=Zaf h15
 obtain ⟨rfl,h17⟩:=Zae h16
 exact ⟨_,_,_,_,_,_,_,_,ZaU hg rfl (Zab hu2 (Zab hu3 (Zab hu21 (Zab hu22 (Zab hu23 ZaL))))),rfl,h17⟩
def ZtF (N M:Nat):Zax:=(Zad).add [0,1,0,1,1,1] fun _ E s K=>ZtX (Zbh Zod E) s fun e_1 e_2 f_3 x_4 x_5 e_6 f_7 x_8=>Zgs N (ZhA N M) e_2 f_3 x_4 e_6 f_7 x_8 (Zho K e_2 f_3 x_4 e_6 f_7 x_8) N e_1 x_5
theorem ZKk {N M:Nat} (hC:Ok Tryz.prog C) (hΦ:Zaa Tryz.prog C (ZiY N M)):Za7 Tryz.prog C (ZtF N M) ZtS [0,1,0,1,1,1] :=
 Za6 (Λi:=Zad) (tr:=true) (ks:=Zod) (kx:=Zzt) (N:=N) hC hΦ
  (Zai (by kernel_rfl))
  fun R E s K r h=>by
   have h2:=Zax.add_self.symm.trans h
   refine (Zaw rfl).trans ?_
   obtain ⟨_,_,_,_,_,_,_,_,he,rfl,h3⟩:=ZpZ h2
   rw [he]
   exact (ZFK N M _ _ _ _ _ _ _ N _ _).trans h3
theorem ZNc:Za0 ZC5 [] = [([0,1,0,1,1,1],ZtS)]:=by kernel_rfl
theorem ZSn {R:Type} (N M:Nat) (e_1:List V) (f_2:Fl) (x_3 x_4:Int) (e_5:List V) (f_6:Fl) (K:V → S → Option R):Za2 C (ZiY N M) (ZtF N M) 42 Tryz.f42 [.agg [.list 7 e_1 f_2,.int .i64 x_3],.int .i64 x_4,.list 1 e_5 f_6] [] K =
 ZzP N (ZhA N M) e_1 f_2 x_3 x_4 e_5 f_6 (fun e_7=>K (.list 1 e_7 .sh) []):=by kernel_rfl
theorem ZCU {N M:Nat} (hC:Ok Tryz.prog C) (hΦ:Zaa Tryz.prog C (ZiY N M)):ZaV Tryz.prog C (ZtF N M) ZC5 [] :=
 ZaG ZC5 [] (by
  rw [ZNc]
  intro p hp
  simp only [List.mem_cons,List.mem_nil_iff,or_false] at hp
  rcases hp with rfl
  ·exact (ZKk hC hΦ))
theorem Zq5 (hC:Ok Tryz.prog C) {N:Nat} (hΦ:Zaa Tryz.prog C (ZGS N)):∀ M,Zaa Tryz.prog C (ZiY N M):=by
 intro M
 induction M with
 | zero =>
  refine hΦ.add_pure rfl fun R vs K r h=>?_
  exfalso
  unfold ZK5 at h
  obtain ⟨_,_,_,rfl,h1⟩:=ZcC h
  obtain ⟨_,_,_,rfl,h2⟩:=ZaH h1
  obtain ⟨_,rfl,h3⟩:=Zaf h2
  obtain ⟨_,_,rfl,h4⟩:=Zam h3
  obtain ⟨_,h5⟩:=Zae h4
  rw [ZAt] at h5
  cases h5
 | succ M ih =>
  refine hΦ.add_pure rfl fun R vs K r h=>?_
  unfold ZK5 at h
  obtain ⟨_,_,_,rfl,h1⟩:=ZcC h
  obtain ⟨_,_,_,rfl,h2⟩:=ZaH h1
  obtain ⟨_,rfl,h3⟩:=Zaf h2
  obtain ⟨_,_,rfl,h4⟩:=Zam h3
  obtain ⟨_,h5⟩:=Zae h4
  refine Zaq (fn:=Tryz.f42) (c:=ZC5) hC ih Tryz.func42 (by kernel_rfl) (by kernel_rfl) (ZCU (N:=N) (M:=M) hC ih) rfl rfl ?_
  refine (ZSn N M _ _ _ _ _ _ _).trans ?_
  rw [← ZyC]
  exact h5
theorem ZA7 (hC:Ok Tryz.prog C) {N:Nat} (hΦ:Zaa Tryz.prog C (ZGS N)):Zaa Tryz.prog C (ZiY N N):=Zq5 hC hΦ N
def ZPA (N:Nat):(R:Type) → List V → S → (V → S → Option R) → Option R:=fun _ vs s K =>
 Zcf vs fun v'1 v'2=>Za9 v'1 fun e_1 f_2 x_3=>asInt .i64 v'2 fun x_4=>ZaR s <| ZIY N e_1 f_2 x_3 x_4 (fun x_5=>K (.int .i64 x_5) [])
def Zn4 (N:Nat):Zar:=(ZiY N N).add 43 (ZPA N)
def ZFr:Code:=ZaS Tryz.f43
def Zjc:Code:=(Zbn ZFr [] 0).2
def ZwK:Code:=(Zbn Zjc (0 :: [0,1,0,1,1]) 0).2
def Zng:List Nat:=ZbR 33 [1,5,11,12,13,18,19,20]
def ZzE:List Nat:=ZbR 33 [1,5,11,12,13]
def Zkb (x_1:Int) (e_3:List V) (f_4:Fl) (x_5 x_6:Int) (e_7:List V) (f_8:Fl) (x_9:Int) (e_11:List V) (f_12:Fl) (x_13 x_14 x_15 x_16 x_17 x_18:Int) (w_19:ByteArray) (e_20:List V) (f_21:Fl) (x_2 x_10:Int):List V:=mkF 0 33 [(1,.int .i64 x_1),(5,.int .i64 x_2),(11,.list 7 e_3 f_4),(12,.int .i64 x_5),(13,.int .i64 x_6),(18,.list 2 e_7 f_8),(19,.int .i64 x_9),(20,.int .i64 x_10)]
def Zih {R:Type} (K:X → List V → S → Option R) (x_1:Int) (e_3:List V) (f_4:Fl) (x_5:Int) (x_6:Int) (e_7:List V) (f_8:Fl) (x_9:Int) (e_11:List V) (f_12:Fl) (x_13:Int) (x_14:Int) (x_15:Int) (x_16:Int) (x_17:Int) (x_18:Int) (w_19:ByteArray) (e_20:List V) (f_21:Fl):Int → Option R:=(fun x_1'=>K (.exit 2) (mkF 0 33 [(1,.int .i64 x_1),(5,.int .i64 (x_1')),(11,.list 7 e_3 f_4),(12,.int .i64 x_5),(13,.int .i64 x_6)]) [some ⟨[.agg [.list 7 e_11 f_12,.int .i64 x_13]],2,33,0⟩,some ⟨[.agg [.int .i64 x_14,.int .i64 x_15,.int .i64 x_16,.int .i64 x_17,.int .i64 x_18,.str w_19,.list 2 e_20 f_21]],7,49,0⟩])
abbrev Znp {R:Type} (N:Nat):Nat → List V → S → (X → List V → S → Option R) → Option R:=fun n=>ZcX C (ZiY N N) (Zad) ZwK [0,1,1,0,0,1,1,0,0,1,0,1,1] true Zng ZzE n R
theorem ZMA {R:Type} (N n:Nat) (x_1:Int) (e_3:List V) (f_4:Fl) (x_5 x_6:Int) (e_7:List V) (f_8:Fl) (x_9:Int) (e_11:List V) (f_12:Fl) (x_13 x_14 x_15 x_16 x_17 x_18:Int) (w_19:ByteArray) (e_20:List V) (f_21:Fl) (x_2 x_10:Int) (K:X → List V → S → Option R) :
 Znp N (n + 1) (Zkb x_1 e_3 f_4 x_5 x_6 e_7 f_8 x_9 e_11 f_12 x_13 x_14 x_15 x_16 x_17 x_18 w_19 e_20 f_21 x_2 x_10) [some ⟨[.agg [.list 7 e_11 f_12,.int .i64 x_13]],2,33,0⟩,some ⟨[.agg [.int .i64 x_14,.int .i64 x_15,.int .i64 x_16,.int .i64 x_17,.int .i64 x_18,.str w_19,.list 2 e_20 f_21]],7,49,0⟩] K =
 Zc5 N x_1 e_3 f_4 x_5 x_6 e_7 f_8 x_9 e_11 f_12 x_13 x_14 x_15 x_16 x_17 x_18 w_19 e_20 f_21 (fun x_2 x_10=>Znp N n (Zkb x_1 e_3 f_4 x_5 x_6 e_7 f_8 x_9 e_11 f_12 x_13 x_14 x_15 x_16 x_17 x_18 w_19 e_20 f_21 x_2 x_10) [some ⟨[.agg [.list 7 e_11 f_12,.int .i64 x_13]],2,33,0⟩,some ⟨[.agg [.int .i64 x_14,.int .i64 x_15,.int .i64 x_16,.int .i64 x_17,.int .i64 x_18,.str w_19,.list 2 e_20 f_21]],7,49,0⟩] K) x_2 x_10 (Zih K x_1 e_3 f_4 x_5 x_6 e_7 f_8 x_9 e_11 f_12 x_13 x_14 x_15 x_16 x_17 x_18 w_19 e_20 f_21):=by kernel_rfl
theorem ZEB {R:Type} (N:Nat) (x_1:Int) (e_3:List V) (f_4:Fl) (x_5 x_6:Int) (e_7:List V) (f_8:Fl) (x_9:Int) (e_11:List V) (f_12:Fl) (x_13 x_14 x_15 x_16 x_17 x_18:Int) (w_19:ByteArray) (e_20:List V) (f_21:Fl) (K:X → List V → S → Option R):∀ (n:Nat) (x_2 x_10:Int),
 Znp N n (Zkb x_1 e_3 f_4 x_5 x_6 e_7 f_8 x_9 e_11 f_12 x_13 x_14 x_15 x_16 x_17 x_18 w_19 e_20 f_21 x_2 x_10) [some ⟨[.agg [.list 7 e_11 f_12,.int .i64 x_13]],2,33,0⟩,some ⟨[.agg [.int .i64 x_14,.int .i64 x_15,.int .i64 x_16,.int .i64 x_17,.int .i64 x_18,.str w_19,.list 2 e_20 f_21]],7,49,0⟩] K = ZfQ N x_1 e_3 f_4 x_5 x_6 e_7 f_8 x_9 e_11 f_12 x_13 x_14 x_15 x_16 x_17 x_18 w_19 e_20 f_21 (Zih K x_1 e_3 f_4 x_5 x_6 e_7 f_8 x_9 e_11 f_12 x_13 x_14 x_15 x_16 x_17 x_18 w_19 e_20 f_21) n x_2 x_10
 | 0,_,_=>rfl
 | n + 1,x_2,x_10=>(ZMA N n x_1 e_3 f_4 x_5 x_6 e_7 f_8 x_9 e_11 f_12 x_13 x_14 x_15 x_16 x_17 x_18 w_19 e_20 f_21 x_2 x_10 K).trans (congrArg (fun nx=>Zc5 N x_1 e_3 f_4 x_5 x_6 e_7 f_8 x_9 e_11 f_12 x_13 x_14 x_15 x_16 x_17 x_18 w_19 e_20 f_21 nx x_2 x_10 (Zih K x_1 e_3 f_4 x_5 x_6 e_7 f_8 x_9 e_11 f_12 x_13 x_14 x_15 x_16 x_17 x_18 w_19 e_20 f_21)) (funext fun x_2=>funext fun x_10=>ZEB N x_1 e_3 f_4 x_5 x_6 e_7 f_8 x_9 e_11 f_12 x_13 x_14 x_15 x_16 x_17 x_18 w_19 e_20 f_21 K n x_2 x_10))
def Zui {R:Type} (E:List V) (s:S) (k:Int → Int → List V → Fl → Int → Int → List V → Fl → Int → Int → List V → Fl → Int → Int → Int → Int → Int → Int → ByteArray → List V → Fl → Option R):Option R :=
 Zaj (Za3 33 [1,5,11,12,13,18,19,20] E) <| ZaZ E 1 .i64 fun x_1=>ZaZ E 5 .i64 fun x_2=>Zbu E 11 7 fun e_3 f_4=>ZaZ E 12 .i64 fun x_5=>ZaZ E 13 .i64 fun x_6=>Zbu E 18 2 fun e_7 f_8=>ZaZ E 19 .i64 fun x_9=>ZaZ E 20 .i64 fun x_10=>ZdW s fun o'1 s'2=>ZcW o'1 2 33 fun e'3 k'4=>isN k'4 0 <| Zco e'3 fun v'5=>asAgg v'5 fun c'6=>Zcf c'6 fun v'7 v'8=>ZaX 7 v'7 fun e_11 f_12=>asInt .i64 v'8 fun x_13=>ZdW s'2 fun o'9 s'10=>ZcW o'9 7 49 fun e'11 k'12=>isN k'12 0 <| Zco e'11 fun v'13=>asAgg v'13 fun c'14=>ZKL c'14 fun v'15 v'16 v'17 v'18 v'19 v'20 v'21=>asInt .i64 v'15 fun x_14=>asInt .i64 v'16 fun x_15=>asInt .i64 v'17 fun x_16=>asInt .i64 v'18 fun x_17=>asInt .i64 v'19 fun x_18=>Zby v'20 fun w_19=>ZaX 2 v'21 fun e_20 f_21=>ZaR s'10 <| k x_1 x_2 e_3 f_4 x_5 x_6 e_7 f_8 x_9 x_10 e_11 f_12 x_13 x_14 x_15 x_16 x_17 x_18 w_19 e_20 f_21
theorem ZqI {R:Type} {E:List V} {s:S} {k:Int → Int → List V → Fl → Int → Int → List V → Fl → Int → Int → List V → Fl → Int → Int → Int → Int → Int → Int → ByteArray → List V → Fl → Option R} {r:R} (h:Zui E s k = some r):∃ x_1 x_2 e_3 f_4 x_5 x_6 e_7 f_8 x_9 x_10 e_11 f_12 x_13 x_14 x_15 x_16 x_17 x_18 w_19 e_20 f_21,E = Zkb x_1 e_3 f_4 x_5 x_6 e_7 f_8 x_9 e_11 f_12 x_13 x_14 x_15 x_16 x_17 x_18 w_19 e_20 f_21 x_2 x_10 ∧ s = [some ⟨[.agg [.list 7 e_11 f_12,.int .i64 x_13]],2,33,0⟩,some ⟨[.agg [.int .i64 x_14,.int .i64 x_15,.int .i64 x_16,.int .i64 x_17,.int .i64 x_18,.str w_19,.list 2 e_20 f_21]],7,49,0⟩] ∧ k x_1 x_2 e_3 f_4 x_5 x_6 e_7 f_8 x_9 x_10 e_11 f_12 x_13 x_14 x_15 x_16 x_17 x_18 w_19 e_20 f_21 = some r:=by
 unfold Zui at h
 obtain ⟨hg,h1⟩:=Zac h
 obtain ⟨_,hu1,h2⟩:=Zah h1
 obtain ⟨_,hu5,h3⟩:=Zah h2
 obtain ⟨_,_,hu11,h4⟩:=ZaC h3
 obtain ⟨_,hu12,h5⟩:=Zah h4
 obtain ⟨_,hu13,h6⟩:=Zah h5
 obtain ⟨_,_,hu18,h7⟩:=ZaC h6
 obtain ⟨_,hu19,h8⟩:=Zah h7
 obtain ⟨_,hu20,h9⟩:=Zah h8
 obtain ⟨_,_,rfl,h10⟩:=ZaP h9
 obtain ⟨_,_,rfl,h11⟩:=ZaJ h10
 obtain ⟨rfl,h12⟩:=Zap h11
 obtain ⟨_,rfl,h13⟩:=Zat h12
 obtain ⟨_,rfl,h14⟩:=ZaF h13
 obtain ⟨_,_,rfl,h15⟩:=Zas h14
 obtain ⟨_,_,rfl,h16⟩:=Zam h15
 obtain ⟨_,rfl,h17⟩:=Zaf h16
 obtain ⟨_,_,rfl,h18⟩:=ZaP h17
 obtain ⟨_,_,rfl,h19⟩:=ZaJ h18
 obtain ⟨rfl,h20⟩:=Zap h19
 obtain ⟨_,rfl,h21⟩:=Zat h20
 obtain ⟨_,rfl,h22⟩:=ZaF h21
 obtain ⟨_,_,_,_,_,_,_,rfl,h23⟩:=ZeH h22
 obtain ⟨_,rfl,h24⟩:=Zaf h23
 obtain ⟨_,rfl,h25⟩:=Zaf h24
 obtain ⟨_,rfl,h26⟩:=Zaf h25
 obtain ⟨_,rfl,h27⟩:=Zaf h26
 obtain ⟨_,rfl,h28⟩:=Zaf h27
 obtain ⟨_,rfl,h29⟩:=ZaD h28
 obtain ⟨_,_,rfl,h30⟩:=Zam h29
 obtain ⟨rfl,h31⟩:=Zae h30
 exact ⟨_,_,_,_,_,_,_,_,_,_,_,_,_,_,_,_,_,_,_,_,_,ZaU hg rfl (Zab hu1 (Zab hu5 (Zab hu11 (Zab hu12 (Zab hu13 (Zab hu18 (Zab hu19 (Zab hu20 ZaL)))))))),rfl,h31⟩
def ZnR (N:Nat):Zax:=(Zad).add [0,1,1,0,0,1,1,0,0,1,0,1,1] fun _ E s K=>Zui (Zbh Zng E) s fun x_1 x_2 e_3 f_4 x_5 x_6 e_7 f_8 x_9 x_10 e_11 f_12 x_13 x_14 x_15 x_16 x_17 x_18 w_19 e_20 f_21=>ZfQ N x_1 e_3 f_4 x_5 x_6 e_7 f_8 x_9 e_11 f_12 x_13 x_14 x_15 x_16 x_17 x_18 w_19 e_20 f_21 (Zih K x_1 e_3 f_4 x_5 x_6 e_7 f_8 x_9 e_11 f_12 x_13 x_14 x_15 x_16 x_17 x_18 w_19 e_20 f_21) N x_2 x_10
theorem ZKh {N:Nat} (hC:Ok Tryz.prog C) (hΦ:Zaa Tryz.prog C (ZiY N N)):Za7 Tryz.prog C (ZnR N) ZwK [0,1,1,0,0,1,1,0,0,1,0,1,1] :=
 Za6 (Λi:=Zad) (tr:=true) (ks:=Zng) (kx:=ZzE) (N:=N) hC hΦ
  (Zai (by kernel_rfl))
  fun R E s K r h=>by
   have h2:=Zax.add_self.symm.trans h
   refine (Zaw rfl).trans ?_
   obtain ⟨_,_,_,_,_,_,_,_,_,_,_,_,_,_,_,_,_,_,_,_,_,he,rfl,h3⟩:=ZqI h2
   rw [he]
   exact (ZEB N _ _ _ _ _ _ _ _ _ _ _ _ _ _ _ _ _ _ _ _ N _ _).trans h3
def ZnW:List Nat:=ZbR 33 [1,5,11,12,13]
def Zyt:List Nat:=ZbR 33 [5]
def Zky (x_1:Int) (e_3:List V) (f_4:Fl) (x_5:Int) (e_7:List V) (f_8:Fl) (x_9 x_2 x_6:Int):List V:=mkF 0 33 [(1,.int .i64 x_1),(5,.int .i64 x_2),(11,.list 7 e_3 f_4),(12,.int .i64 x_5),(13,.int .i64 x_6)]
def Zit {R:Type} (K:X → List V → S → Option R) (x_1:Int) (e_3:List V) (f_4:Fl) (x_5:Int) (e_7:List V) (f_8:Fl) (x_9:Int):Int → Option R:=(fun x_1'=>K (.exit 0) (mkF 0 33 [(5,.int .i64 (x_1'))]) [some ⟨[.agg [.list 7 e_7 f_8,.int .i64 x_9]],2,33,0⟩])
abbrev ZnM {R:Type} (N:Nat):Nat → List V → S → (X → List V → S → Option R) → Option R:=fun n=>ZcX C (ZiY N N) (ZnR N) Zjc [0,1,0,1,1] true ZnW Zyt n R
theorem ZLg {R:Type} (N n:Nat) (x_1:Int) (e_3:List V) (f_4:Fl) (x_5:Int) (e_7:List V) (f_8:Fl) (x_9:Int) (x_2 x_6:Int) (K:X → List V → S → Option R) :
 ZnM N (n + 1) (Zky x_1 e_3 f_4 x_5 e_7 f_8 x_9 x_2 x_6) [some ⟨[.agg [.list 7 e_7 f_8,.int .i64 x_9]],2,33,0⟩] K =
 ZdA N x_1 e_3 f_4 x_5 e_7 f_8 x_9 (fun x_2 x_6=>ZnM N n (Zky x_1 e_3 f_4 x_5 e_7 f_8 x_9 x_2 x_6) [some ⟨[.agg [.list 7 e_7 f_8,.int .i64 x_9]],2,33,0⟩] K) x_2 x_6 (Zit K x_1 e_3 f_4 x_5 e_7 f_8 x_9):=by kernel_rfl
theorem ZFl {R:Type} (N:Nat) (x_1:Int) (e_3:List V) (f_4:Fl) (x_5:Int) (e_7:List V) (f_8:Fl) (x_9:Int) (K:X → List V → S → Option R):∀ (n:Nat) (x_2 x_6:Int),
 ZnM N n (Zky x_1 e_3 f_4 x_5 e_7 f_8 x_9 x_2 x_6) [some ⟨[.agg [.list 7 e_7 f_8,.int .i64 x_9]],2,33,0⟩] K = ZgD N x_1 e_3 f_4 x_5 e_7 f_8 x_9 (Zit K x_1 e_3 f_4 x_5 e_7 f_8 x_9) n x_2 x_6
 | 0,_,_=>rfl
 | n + 1,x_2,x_6=>(ZLg N n x_1 e_3 f_4 x_5 e_7 f_8 x_9 x_2 x_6 K).trans (congrArg (fun nx=>ZdA N x_1 e_3 f_4 x_5 e_7 f_8 x_9 nx x_2 x_6 (Zit K x_1 e_3 f_4 x_5 e_7 f_8 x_9)) (funext fun x_2=>funext fun x_6=>ZFl N x_1 e_3 f_4 x_5 e_7 f_8 x_9 K n x_2 x_6))
def Ztv {R:Type} (E:List V) (s:S) (k:Int → Int → List V → Fl → Int → Int → List V → Fl → Int → Option R):Option R :=
 Zaj (Za3 33 [1,5,11,12,13] E) <| ZaZ E 1 .i64 fun x_1=>ZaZ E 5 .i64 fun x_2=>Zbu E 11 7 fun e_3 f_4=>ZaZ E 12 .i64 fun x_5=>ZaZ E 13 .i64 fun x_6=>ZdW s fun o'1 s'2=>ZcW o'1 2 33 fun e'3 k'4=>isN k'4 0 <| Zco e'3 fun v'5=>asAgg v'5 fun c'6=>Zcf c'6 fun v'7 v'8=>ZaX 7 v'7 fun e_7 f_8=>asInt .i64 v'8 fun x_9=>ZaR s'2 <| k x_1 x_2 e_3 f_4 x_5 x_6 e_7 f_8 x_9
theorem Zq0 {R:Type} {E:List V} {s:S} {k:Int → Int → List V → Fl → Int → Int → List V → Fl → Int → Option R} {r:R} (h:Ztv E s k = some r):∃ x_1 x_2 e_3 f_4 x_5 x_6 e_7 f_8 x_9,E = Zky x_1 e_3 f_4 x_5 e_7 f_8 x_9 x_2 x_6 ∧ s = [some ⟨[.agg [.list 7 e_7 f_8,.int .i64 x_9]],2,33,0⟩] ∧ k x_1 x_2 e_3 f_4 x_5 x_6 e_7 f_8 x_9 = some r:=by
 unfold Ztv at h
 obtain ⟨hg,h1⟩:=Zac h
 obtain ⟨_,hu1,h2⟩:=Zah h1
 obtain ⟨_,hu5,h3⟩:=Zah h2
 obtain ⟨_,_,hu11,h4⟩:=ZaC h3
 obtain ⟨_,hu12,h5⟩:=Zah h4
 obtain ⟨_,hu13,h6⟩:=Zah h5
 obtain ⟨_,_,rfl,h7⟩:=ZaP h6
 obtain ⟨_,_,rfl,h8⟩:=ZaJ h7
 obtain ⟨rfl,h9⟩:=Zap h8
 obtain ⟨_,rfl,h10⟩:=Zat h9
 obtain ⟨_,rfl,h11⟩:=ZaF h10
 obtain ⟨_,_,rfl,h12⟩:=Zas h11
 obtain ⟨_,_,rfl,h13⟩:=Zam h12
 obtain ⟨_,rfl,h14⟩:=Zaf h13
 obtain ⟨rfl,h15⟩:=Zae h14
 exact ⟨_,_,_,_,_,_,_,_,_,ZaU hg rfl (Zab hu1 (Zab hu5 (Zab hu11 (Zab hu12 (Zab hu13 ZaL))))),rfl,h15⟩
def ZuX (N:Nat):Zax:=(ZnR N).add [0,1,0,1,1] fun _ E s K=>Ztv (Zbh ZnW E) s fun x_1 x_2 e_3 f_4 x_5 x_6 e_7 f_8 x_9=>ZgD N x_1 e_3 f_4 x_5 e_7 f_8 x_9 (Zit K x_1 e_3 f_4 x_5 e_7 f_8 x_9) N x_2 x_6
theorem ZIp:Za0 Zjc (0 :: [0,1,0,1,1]) = [([0,1,1,0,0,1,1,0,0,1,0,1,1],ZwK)]:=by kernel_rfl
theorem ZJL {N:Nat} (hC:Ok Tryz.prog C) (hΦ:Zaa Tryz.prog C (ZiY N N)):Za7 Tryz.prog C (ZuX N) Zjc [0,1,0,1,1] :=
 Za6 (Λi:=ZnR N) (tr:=true) (ks:=ZnW) (kx:=Zyt) (N:=N) hC hΦ
  (ZaG Zjc _ (by
   rw [ZIp]
   intro p hp
   simp only [List.mem_cons,List.mem_nil_iff,or_false] at hp
   rcases hp with rfl
   ·exact (ZKh hC hΦ)))
  fun R E s K r h=>by
   have h2:=Zax.add_self.symm.trans h
   refine (Zaw rfl).trans ?_
   obtain ⟨_,_,_,_,_,_,_,_,_,he,rfl,h3⟩:=Zq0 h2
   rw [he]
   exact (ZFl N _ _ _ _ _ _ _ _ N _ _).trans h3
theorem ZPz:Za0 ZFr [] = [([0,1,0,1,1],Zjc)]:=by kernel_rfl
theorem ZRD {R:Type} (N:Nat) (e_1:List V) (f_2:Fl) (x_3 x_4:Int) (K:V → S → Option R):Za2 C (ZiY N N) (ZuX N) 43 Tryz.f43 [.agg [.list 7 e_1 f_2,.int .i64 x_3],.int .i64 x_4] [] K =
 Zs7 N e_1 f_2 x_3 x_4 (fun x_5=>K (.int .i64 x_5) []):=by kernel_rfl
theorem ZEr {N:Nat} (hC:Ok Tryz.prog C) (hΦ:Zaa Tryz.prog C (ZiY N N)):ZaV Tryz.prog C (ZuX N) ZFr [] :=
 ZaG ZFr [] (by
  rw [ZPz]
  intro p hp
  simp only [List.mem_cons,List.mem_nil_iff,or_false] at hp
  rcases hp with rfl
  ·exact (ZJL hC hΦ))
theorem ZBT (hC:Ok Tryz.prog C) {N:Nat} (hΦ:Zaa Tryz.prog C (ZiY N N)):Zaa Tryz.prog C (Zn4 N):=by
 refine hΦ.add_pure rfl fun R vs K r h=>?_
 unfold ZPA at h
 obtain ⟨_,_,rfl,h1⟩:=Zas h
 obtain ⟨_,_,_,rfl,h2⟩:=ZaH h1
 obtain ⟨_,rfl,h3⟩:=Zaf h2
 obtain ⟨_,h4⟩:=Zae h3
 refine Zaq (fn:=Tryz.f43) (c:=ZFr) hC hΦ Tryz.func43 (by kernel_rfl) (by kernel_rfl) (ZEr (N:=N) hC hΦ) rfl rfl ?_
 refine (ZRD N _ _ _ _ _).trans ?_
 rw [← ZyA]
 exact h4
def ZOR (N:Nat):(R:Type) → List V → S → (V → S → Option R) → Option R:=fun _ vs s K =>
 Zco vs fun v'1=>Za9 v'1 fun e_1 f_2 x_3=>ZaR s <| ZHe N e_1 f_2 x_3 (fun b_4=>K (.bool b_4) [])
def ZH9 (N:Nat):Zar:=(Zn4 N).add 26 (ZOR N)
def ZzW:Code:=ZaS Tryz.f26
def Zu3:Code:=(Zbn ZzW [] 0).2
def ZwB:Code:=(Zbn ZzW [] 1).2
def ZoT:List Nat:=ZbR 91 [1,36,37,38]
def ZyQ:List Nat:=ZbR 91 [1,2]
def Zj8 (e_1:List V) (f_2:Fl) (x_3:Int) (e_5:List V) (f_6:Fl) (x_7 x_4:Int):List V:=mkF 0 91 [(1,.ptr 0 0 0 0),(36,.list 7 e_1 f_2),(37,.int .i64 x_3),(38,.int .i64 x_4)]
def Zhn {R:Type} (K:X → List V → S → Option R) (e_1:List V) (f_2:Fl) (x_3:Int) (e_5:List V) (f_6:Fl) (x_7:Int):Unit → Option R:=(fun _=>K .ret (mkF 0 91 [(1,.ptr 0 0 0 0),(2,.bool false)]) [some ⟨[.agg [.list 7 e_5 f_6,.int .i64 x_7]],2,33,0⟩])
def Zia {R:Type} (K:X → List V → S → Option R) (e_1:List V) (f_2:Fl) (x_3:Int) (e_5:List V) (f_6:Fl) (x_7:Int):Unit → Option R:=(fun _=>K (.exit 0) (mkF 0 91 [(1,.ptr 0 0 0 0)]) [some ⟨[.agg [.list 7 e_5 f_6,.int .i64 x_7]],2,33,0⟩])
abbrev Zpl {R:Type} (N:Nat):Nat → List V → S → (X → List V → S → Option R) → Option R:=fun n=>ZcX C (Zn4 N) (Zad) Zu3 [0,1,0,1,1] true ZoT ZyQ n R
theorem ZKT {R:Type} (N n:Nat) (e_1:List V) (f_2:Fl) (x_3:Int) (e_5:List V) (f_6:Fl) (x_7:Int) (x_4:Int) (K:X → List V → S → Option R) :
 Zpl N (n + 1) (Zj8 e_1 f_2 x_3 e_5 f_6 x_7 x_4) [some ⟨[.agg [.list 7 e_5 f_6,.int .i64 x_7]],2,33,0⟩] K =
 ZdD N e_1 f_2 x_3 e_5 f_6 x_7 (fun x_4=>Zpl N n (Zj8 e_1 f_2 x_3 e_5 f_6 x_7 x_4) [some ⟨[.agg [.list 7 e_5 f_6,.int .i64 x_7]],2,33,0⟩] K) x_4 (Zhn K e_1 f_2 x_3 e_5 f_6 x_7) (Zia K e_1 f_2 x_3 e_5 f_6 x_7):=by kernel_rfl
theorem ZDh {R:Type} (N:Nat) (e_1:List V) (f_2:Fl) (x_3:Int) (e_5:List V) (f_6:Fl) (x_7:Int) (K:X → List V → S → Option R):∀ (n:Nat) (x_4:Int),
 Zpl N n (Zj8 e_1 f_2 x_3 e_5 f_6 x_7 x_4) [some ⟨[.agg [.list 7 e_5 f_6,.int .i64 x_7]],2,33,0⟩] K = ZgL N e_1 f_2 x_3 e_5 f_6 x_7 (Zhn K e_1 f_2 x_3 e_5 f_6 x_7) (Zia K e_1 f_2 x_3 e_5 f_6 x_7) n x_4
 | 0,_=>rfl
 | n + 1,x_4=>(ZKT N n e_1 f_2 x_3 e_5 f_6 x_7 x_4 K).trans (congrArg (fun nx=>ZdD N e_1 f_2 x_3 e_5 f_6 x_7 nx x_4 (Zhn K e_1 f_2 x_3 e_5 f_6 x_7) (Zia K e_1 f_2 x_3 e_5 f_6 x_7)) (funext fun x_4=>ZDh N e_1 f_2 x_3 e_5 f_6 x_7 K n x_4))
def ZvV {R:Type} (E:List V) (s:S) (k:List V → Fl → Int → Int → List V → Fl → Int → Option R):Option R :=
 Zaj (Za3 91 [1,36,37,38] E) <| ZvY E 1 (.ptr 0 0 0 0) <| Zbu E 36 7 fun e_1 f_2=>ZaZ E 37 .i64 fun x_3=>ZaZ E 38 .i64 fun x_4=>ZdW s fun o'1 s'2=>ZcW o'1 2 33 fun e'3 k'4=>isN k'4 0 <| Zco e'3 fun v'5=>asAgg v'5 fun c'6=>Zcf c'6 fun v'7 v'8=>ZaX 7 v'7 fun e_5 f_6=>asInt .i64 v'8 fun x_7=>ZaR s'2 <| k e_1 f_2 x_3 x_4 e_5 f_6 x_7
theorem Zqy {R:Type} {E:List V} {s:S} {k:List V → Fl → Int → Int → List V → Fl → Int → Option R} {r:R} (h:ZvV E s k = some r):∃ e_1 f_2 x_3 x_4 e_5 f_6 x_7,E = Zj8 e_1 f_2 x_3 e_5 f_6 x_7 x_4 ∧ s = [some ⟨[.agg [.list 7 e_5 f_6,.int .i64 x_7]],2,33,0⟩] ∧ k e_1 f_2 x_3 x_4 e_5 f_6 x_7 = some r:=by
 unfold ZvV at h
 obtain ⟨hg,h1⟩:=Zac h
 obtain ⟨hu1,h2⟩:=Zb0 h1
 obtain ⟨_,_,hu36,h3⟩:=ZaC h2
 obtain ⟨_,hu37,h4⟩:=Zah h3
 obtain ⟨_,hu38,h5⟩:=Zah h4
 obtain ⟨_,_,rfl,h6⟩:=ZaP h5
 obtain ⟨_,_,rfl,h7⟩:=ZaJ h6
 obtain ⟨rfl,h8⟩:=Zap h7
 obtain ⟨_,rfl,h9⟩:=Zat h8
 obtain ⟨_,rfl,h10⟩:=ZaF h9
 obtain ⟨_,_,rfl,h11⟩:=Zas h10
 obtain ⟨_,_,rfl,h12⟩:=Zam h11
 obtain ⟨_,rfl,h13⟩:=Zaf h12
 obtain ⟨rfl,h14⟩:=Zae h13
 exact ⟨_,_,_,_,_,_,_,ZaU hg rfl (Zab hu1 (Zab hu36 (Zab hu37 (Zab hu38 ZaL)))),rfl,h14⟩
def Zne (N:Nat):Zax:=(Zad).add [0,1,0,1,1] fun _ E s K=>ZvV (Zbh ZoT E) s fun e_1 f_2 x_3 x_4 e_5 f_6 x_7=>ZgL N e_1 f_2 x_3 e_5 f_6 x_7 (Zhn K e_1 f_2 x_3 e_5 f_6 x_7) (Zia K e_1 f_2 x_3 e_5 f_6 x_7) N x_4
theorem ZIS {N:Nat} (hC:Ok Tryz.prog C) (hΦ:Zaa Tryz.prog C (Zn4 N)):Za7 Tryz.prog C (Zne N) Zu3 [0,1,0,1,1] :=
 Za6 (Λi:=Zad) (tr:=true) (ks:=ZoT) (kx:=ZyQ) (N:=N) hC hΦ
  (Zai (by kernel_rfl))
  fun R E s K r h=>by
   have h2:=Zax.add_self.symm.trans h
   refine (Zaw rfl).trans ?_
   obtain ⟨_,_,_,_,_,_,_,he,rfl,h3⟩:=Zqy h2
   rw [he]
   exact (ZDh N _ _ _ _ _ _ _ N _).trans h3
def Zm0:List Nat:=ZbR 91 [1,5,50,51,52]
def Zzi:List Nat:=ZbR 91 [2]
def Zk5 (e_1 e_2:List V) (f_3:Fl) (x_4:Int) (e_6:List V) (f_7:Fl) (x_8 x_5:Int):List V:=mkF 0 91 [(1,.ptr 0 0 0 0),(5,.list 1 e_1 .sh),(50,.list 7 e_2 f_3),(51,.int .i64 x_4),(52,.int .i64 x_5)]
def Zhq {R:Type} (K:X → List V → S → Option R) (e_1:List V) (e_2:List V) (f_3:Fl) (x_4:Int) (e_6:List V) (f_7:Fl) (x_8:Int):Unit → Option R:=(fun _=>K .ret (mkF 0 91 [(2,.bool false)]) [some ⟨[.agg [.list 7 e_6 f_7,.int .i64 x_8]],2,33,0⟩])
def ZiJ {R:Type} (K:X → List V → S → Option R) (e_1:List V) (e_2:List V) (f_3:Fl) (x_4:Int) (e_6:List V) (f_7:Fl) (x_8:Int):Unit → Option R:=(fun _=>K (.exit 2) (mkF 0 91 []) [some ⟨[.agg [.list 7 e_6 f_7,.int .i64 x_8]],2,33,0⟩])
abbrev Zpf {R:Type} (N:Nat):Nat → List V → S → (X → List V → S → Option R) → Option R:=fun n=>ZcX C (Zn4 N) (Zne N) ZwB [0,1,0,1,1,1,1] true Zm0 Zzi n R
theorem ZMi {R:Type} (N n:Nat) (e_1 e_2:List V) (f_3:Fl) (x_4:Int) (e_6:List V) (f_7:Fl) (x_8:Int) (x_5:Int) (K:X → List V → S → Option R) :
 Zpf N (n + 1) (Zk5 e_1 e_2 f_3 x_4 e_6 f_7 x_8 x_5) [some ⟨[.agg [.list 7 e_6 f_7,.int .i64 x_8]],2,33,0⟩] K =
 Zdj N e_1 e_2 f_3 x_4 e_6 f_7 x_8 (fun x_5=>Zpf N n (Zk5 e_1 e_2 f_3 x_4 e_6 f_7 x_8 x_5) [some ⟨[.agg [.list 7 e_6 f_7,.int .i64 x_8]],2,33,0⟩] K) x_5 (Zhq K e_1 e_2 f_3 x_4 e_6 f_7 x_8) (ZiJ K e_1 e_2 f_3 x_4 e_6 f_7 x_8):=by kernel_rfl
theorem ZD7 {R:Type} (N:Nat) (e_1 e_2:List V) (f_3:Fl) (x_4:Int) (e_6:List V) (f_7:Fl) (x_8:Int) (K:X → List V → S → Option R):∀ (n:Nat) (x_5:Int),
 Zpf N n (Zk5 e_1 e_2 f_3 x_4 e_6 f_7 x_8 x_5) [some ⟨[.agg [.list 7 e_6 f_7,.int .i64 x_8]],2,33,0⟩] K = Zg7 N e_1 e_2 f_3 x_4 e_6 f_7 x_8 (Zhq K e_1 e_2 f_3 x_4 e_6 f_7 x_8) (ZiJ K e_1 e_2 f_3 x_4 e_6 f_7 x_8) n x_5
 | 0,_=>rfl
 | n + 1,x_5=>(ZMi N n e_1 e_2 f_3 x_4 e_6 f_7 x_8 x_5 K).trans (congrArg (fun nx=>Zdj N e_1 e_2 f_3 x_4 e_6 f_7 x_8 nx x_5 (Zhq K e_1 e_2 f_3 x_4 e_6 f_7 x_8) (ZiJ K e_1 e_2 f_3 x_4 e_6 f_7 x_8)) (funext fun x_5=>ZD7 N e_1 e_2 f_3 x_4 e_6 f_7 x_8 K n x_5))
def Ztj {R:Type} (E:List V) (s:S) (k:List V → List V → Fl → Int → Int → List V → Fl → Int → Option R):Option R :=
 Zaj (Za3 91 [1,5,50,51,52] E) <| ZvY E 1 (.ptr 0 0 0 0) <| Zbt (nth E 5) fun u5=>ZaX 1 u5 fun e_1 f'1=>ZLw f'1 <| Zbu E 50 7 fun e_2 f_3=>ZaZ E 51 .i64 fun x_4=>ZaZ E 52 .i64 fun x_5=>ZdW s fun o'2 s'3=>ZcW o'2 2 33 fun e'4 k'5=>isN k'5 0 <| Zco e'4 fun v'6=>asAgg v'6 fun c'7=>Zcf c'7 fun v'8 v'9=>ZaX 7 v'8 fun e_6 f_7=>asInt .i64 v'9 fun x_8=>ZaR s'3 <| k e_1 e_2 f_3 x_4 x_5 e_6 f_7 x_8
theorem Zr7 {R:Type} {E:List V} {s:S} {k:List V → List V → Fl → Int → Int → List V → Fl → Int → Option R} {r:R} (h:Ztj E s k = some r):∃ e_1 e_2 f_3 x_4 x_5 e_6 f_7 x_8,E = Zk5 e_1 e_2 f_3 x_4 e_6 f_7 x_8 x_5 ∧ s = [some ⟨[.agg [.list 7 e_6 f_7,.int .i64 x_8]],2,33,0⟩] ∧ k e_1 e_2 f_3 x_4 x_5 e_6 f_7 x_8 = some r:=by
 unfold Ztj at h
 obtain ⟨hg,h1⟩:=Zac h
 obtain ⟨hu1,h2⟩:=Zb0 h1
 obtain ⟨_,hu5,h3⟩:=Zag h2
 obtain ⟨_,_,rfl,h4⟩:=Zam h3
 obtain ⟨rfl,h5⟩:=Zfw h4
 obtain ⟨_,_,hu50,h6⟩:=ZaC h5
 obtain ⟨_,hu51,h7⟩:=Zah h6
 obtain ⟨_,hu52,h8⟩:=Zah h7
 obtain ⟨_,_,rfl,h9⟩:=ZaP h8
 obtain ⟨_,_,rfl,h10⟩:=ZaJ h9
 obtain ⟨rfl,h11⟩:=Zap h10
 obtain ⟨_,rfl,h12⟩:=Zat h11
 obtain ⟨_,rfl,h13⟩:=ZaF h12
 obtain ⟨_,_,rfl,h14⟩:=Zas h13
 obtain ⟨_,_,rfl,h15⟩:=Zam h14
 obtain ⟨_,rfl,h16⟩:=Zaf h15
 obtain ⟨rfl,h17⟩:=Zae h16
 exact ⟨_,_,_,_,_,_,_,_,ZaU hg rfl (Zab hu1 (Zab hu5 (Zab hu50 (Zab hu51 (Zab hu52 ZaL))))),rfl,h17⟩
def ZtH (N:Nat):Zax:=(Zne N).add [0,1,0,1,1,1,1] fun _ E s K=>Ztj (Zbh Zm0 E) s fun e_1 e_2 f_3 x_4 x_5 e_6 f_7 x_8=>Zg7 N e_1 e_2 f_3 x_4 e_6 f_7 x_8 (Zhq K e_1 e_2 f_3 x_4 e_6 f_7 x_8) (ZiJ K e_1 e_2 f_3 x_4 e_6 f_7 x_8) N x_5
theorem ZKr {N:Nat} (hC:Ok Tryz.prog C) (hΦ:Zaa Tryz.prog C (Zn4 N)):Za7 Tryz.prog C (ZtH N) ZwB [0,1,0,1,1,1,1] :=
 Za6 (Λi:=Zne N) (tr:=true) (ks:=Zm0) (kx:=Zzi) (N:=N) hC hΦ
  (Zai (by kernel_rfl))
  fun R E s K r h=>by
   have h2:=Zax.add_self.symm.trans h
   refine (Zaw rfl).trans ?_
   obtain ⟨_,_,_,_,_,_,_,_,he,rfl,h3⟩:=Zr7 h2
   rw [he]
   exact (ZD7 N _ _ _ _ _ _ _ _ N _).trans h3
theorem ZPQ:Za0 ZzW [] = [([0,1,0,1,1],Zu3),([0,1,0,1,1,1,1],ZwB)]:=by kernel_rfl
theorem ZRS {R:Type} (N:Nat) (e_1:List V) (f_2:Fl) (x_3:Int) (K:V → S → Option R):Za2 C (Zn4 N) (ZtH N) 26 Tryz.f26 [.agg [.list 7 e_1 f_2,.int .i64 x_3]] [] K =
 Zrv N e_1 f_2 x_3 (fun b_4=>K (.bool b_4) []):=by kernel_rfl
theorem ZF0 {N:Nat} (hC:Ok Tryz.prog C) (hΦ:Zaa Tryz.prog C (Zn4 N)):ZaV Tryz.prog C (ZtH N) ZzW [] :=
 ZaG ZzW [] (by
  rw [ZPQ]
  intro p hp
  simp only [List.mem_cons,List.mem_nil_iff,or_false] at hp
  rcases hp with rfl | rfl
  ·exact (Za7.add (ZIS hC hΦ) rfl)
  ·exact (ZKr hC hΦ))
theorem ZAO (hC:Ok Tryz.prog C) {N:Nat} (hΦ:Zaa Tryz.prog C (Zn4 N)):Zaa Tryz.prog C (ZH9 N):=by
 refine hΦ.add_pure rfl fun R vs K r h=>?_
 unfold ZOR at h
 obtain ⟨_,rfl,h1⟩:=Zat h
 obtain ⟨_,_,_,rfl,h2⟩:=ZaH h1
 obtain ⟨_,h3⟩:=Zae h2
 refine Zaq (fn:=Tryz.f26) (c:=ZzW) hC hΦ Tryz.func26 (by kernel_rfl) (by kernel_rfl) (ZF0 (N:=N) hC hΦ) rfl rfl ?_
 refine (ZRS N _ _ _ _).trans ?_
 rw [← Zyg]
 exact h3
def ZPR (N:Nat):(R:Type) → List V → S → (V → S → Option R) → Option R:=fun _ vs s K =>
 Zco vs fun v'1=>Zbs v'1 fun x_1 x_2=>ZaR s <| ZMK N x_1 x_2 (fun b_3=>K (.bool b_3) [])
def ZKt (N:Nat):Zar:=(ZH9 N).add 27 (ZPR N)
def ZSd:Code:=ZaS Tryz.f27
theorem ZQF {R:Type} (N:Nat) (x_1 x_2:Int) (K:V → S → Option R):Za2 C (ZH9 N) (Zad) 27 Tryz.f27 [.agg [.int .i64 x_1,.int .i64 x_2]] [] K =
 ZqD N x_1 x_2 (fun b_3=>K (.bool b_3) []):=by kernel_rfl
theorem ZAs (hC:Ok Tryz.prog C) {N:Nat} (hΦ:Zaa Tryz.prog C (ZH9 N)):Zaa Tryz.prog C (ZKt N):=by
 refine hΦ.add_pure rfl fun R vs K r h=>?_
 unfold ZPR at h
 obtain ⟨_,rfl,h1⟩:=Zat h
 obtain ⟨_,_,rfl,h2⟩:=Za8 h1
 obtain ⟨_,h3⟩:=Zae h2
 refine Zaq (fn:=Tryz.f27) (c:=ZSd) hC hΦ Tryz.func27 (by kernel_rfl) (by kernel_rfl) (Zai (Λ:=Zad) (by kernel_rfl)) rfl rfl ?_
 refine (ZQF N _ _ _).trans ?_
 rw [← Zw4]
 exact h3
def ZNN (N:Nat):(R:Type) → List V → S → (V → S → Option R) → Option R:=fun _ vs s K =>
 Zcf vs fun v'1 v'2=>Za9 v'1 fun e_1 f_2 x_3=>Zbs v'2 fun x_4 x_5=>ZaR s <| ZIJ N e_1 f_2 x_3 x_4 x_5 (fun b_6=>K (.bool b_6) [])
def ZHL (N:Nat):Zar:=(ZKt N).add 15 (ZNN N)
def ZSt:Code:=ZaS Tryz.f15
theorem ZRe {R:Type} (N:Nat) (e_1:List V) (f_2:Fl) (x_3 x_4 x_5:Int) (K:V → S → Option R):Za2 C (ZKt N) (Zad) 15 Tryz.f15 [.agg [.list 7 e_1 f_2,.int .i64 x_3],.agg [.int .i64 x_4,.int .i64 x_5]] [] K =
 Zp0 N e_1 f_2 x_3 x_4 x_5 (fun b_6=>K (.bool b_6) []):=by kernel_rfl
theorem ZCb (hC:Ok Tryz.prog C) {N:Nat} (hΦ:Zaa Tryz.prog C (ZKt N)):Zaa Tryz.prog C (ZHL N):=by
 refine hΦ.add_pure rfl fun R vs K r h=>?_
 unfold ZNN at h
 obtain ⟨_,_,rfl,h1⟩:=Zas h
 obtain ⟨_,_,_,rfl,h2⟩:=ZaH h1
 obtain ⟨_,_,rfl,h3⟩:=Za8 h2
 obtain ⟨_,h4⟩:=Zae h3
 refine Zaq (fn:=Tryz.f15) (c:=ZSt) hC hΦ Tryz.func15 (by kernel_rfl) (by kernel_rfl) (Zai (Λ:=Zad) (by kernel_rfl)) rfl rfl ?_
 refine (ZRe N _ _ _ _ _ _).trans ?_
 rw [← Zw3]
 exact h4
def ZO0 (N:Nat):(R:Type) → List V → S → (V → S → Option R) → Option R:=fun _ vs s K =>
 Zco vs fun v'1=>Zby v'1 fun w_1=>ZaR s <| ZJF N w_1 (fun b_2=>K (.bool b_2) [])
def ZJm (N:Nat):Zar:=(ZHL N).add 45 (ZO0 N)
def ZRX:Code:=ZaS Tryz.f45
theorem ZSs {R:Type} (N:Nat) (w_1:ByteArray) (K:V → S → Option R):Za2 C (ZHL N) (Zad) 45 Tryz.f45 [.str w_1] [] K =
 ZsT N w_1 (fun b_2=>K (.bool b_2) []):=by kernel_rfl
theorem ZBP (hC:Ok Tryz.prog C) {N:Nat} (hΦ:Zaa Tryz.prog C (ZHL N)):Zaa Tryz.prog C (ZJm N):=by
 refine hΦ.add_pure rfl fun R vs K r h=>?_
 unfold ZO0 at h
 obtain ⟨_,rfl,h1⟩:=Zat h
 obtain ⟨_,rfl,h2⟩:=ZaD h1
 obtain ⟨_,h3⟩:=Zae h2
 refine Zaq (fn:=Tryz.f45) (c:=ZRX) hC hΦ Tryz.func45 (by kernel_rfl) (by kernel_rfl) (Zai (Λ:=Zad) (by kernel_rfl)) rfl rfl ?_
 refine (ZSs N _ _).trans ?_
 rw [← Zyp]
 exact h3
def ZOO (N:Nat):(R:Type) → List V → S → (V → S → Option R) → Option R:=fun _ vs s K =>
 ZP2 vs fun v'1 v'2 v'3 v'4 v'5=>Zbs v'1 fun x_1 x_2=>asInt .i64 v'2 fun x_3=>asInt .i64 v'3 fun x_4=>asInt .i64 v'4 fun x_5=>asInt .i64 v'5 fun x_6=>ZaR s <| ZGY N x_1 x_2 x_3 x_4 x_5 x_6 (fun b_7=>K (.bool b_7) [])
def ZJv (N:Nat):Zar:=(ZJm N).add 29 (ZOO N)
def ZRc:Code:=ZaS Tryz.f29
theorem ZQi {R:Type} (N:Nat) (x_1 x_2 x_3 x_4 x_5 x_6:Int) (K:V → S → Option R):Za2 C (ZJm N) (Zad) 29 Tryz.f29 [.agg [.int .i64 x_1,.int .i64 x_2],.int .i64 x_3,.int .i64 x_4,.int .i64 x_5,.int .i64 x_6] [] K =
 ZsJ N x_1 x_2 x_3 x_4 x_5 x_6 (fun b_7=>K (.bool b_7) []):=by kernel_rfl
theorem ZAM (hC:Ok Tryz.prog C) {N:Nat} (hΦ:Zaa Tryz.prog C (ZJm N)):Zaa Tryz.prog C (ZJv N):=by
 refine hΦ.add_pure rfl fun R vs K r h=>?_
 unfold ZOO at h
 obtain ⟨_,_,_,_,_,rfl,h1⟩:=ZsH h
 obtain ⟨_,_,rfl,h2⟩:=Za8 h1
 obtain ⟨_,rfl,h3⟩:=Zaf h2
 obtain ⟨_,rfl,h4⟩:=Zaf h3
 obtain ⟨_,rfl,h5⟩:=Zaf h4
 obtain ⟨_,rfl,h6⟩:=Zaf h5
 obtain ⟨_,h7⟩:=Zae h6
 refine Zaq (fn:=Tryz.f29) (c:=ZRc) hC hΦ Tryz.func29 (by kernel_rfl) (by kernel_rfl) (Zai (Λ:=Zad) (by kernel_rfl)) rfl rfl ?_
 refine (ZQi N _ _ _ _ _ _ _).trans ?_
 rw [← Zw5]
 exact h7
def ZPm (N:Nat):(R:Type) → List V → S → (V → S → Option R) → Option R:=fun _ vs s K =>
 ZLn vs fun v'1 v'2 v'3 v'4=>Za9 v'1 fun e_1 f_2 x_3=>Zbs v'2 fun x_4 x_5=>asInt .i64 v'3 fun x_6=>asInt .i64 v'4 fun x_7=>ZaR s <| ZDz N e_1 f_2 x_3 x_4 x_5 x_6 x_7 (fun b_8=>K (.bool b_8) [])
def ZnH (N:Nat):Zar:=(ZJv N).add 17 (ZPm N)
def ZRg:Code:=ZaS Tryz.f17
theorem ZR9 {R:Type} (N:Nat) (e_1:List V) (f_2:Fl) (x_3 x_4 x_5 x_6 x_7:Int) (K:V → S → Option R):Za2 C (ZJv N) (Zad) 17 Tryz.f17 [.agg [.list 7 e_1 f_2,.int .i64 x_3],.agg [.int .i64 x_4,.int .i64 x_5],.int .i64 x_6,.int .i64 x_7] [] K =
 Zmq N e_1 f_2 x_3 x_4 x_5 x_6 x_7 (fun b_8=>K (.bool b_8) []):=by kernel_rfl
theorem ZBn (hC:Ok Tryz.prog C) {N:Nat} (hΦ:Zaa Tryz.prog C (ZJv N)):Zaa Tryz.prog C (ZnH N):=by
 refine hΦ.add_pure rfl fun R vs K r h=>?_
 unfold ZPm at h
 obtain ⟨_,_,_,_,rfl,h1⟩:=Zfp h
 obtain ⟨_,_,_,rfl,h2⟩:=ZaH h1
 obtain ⟨_,_,rfl,h3⟩:=Za8 h2
 obtain ⟨_,rfl,h4⟩:=Zaf h3
 obtain ⟨_,rfl,h5⟩:=Zaf h4
 obtain ⟨_,h6⟩:=Zae h5
 refine Zaq (fn:=Tryz.f17) (c:=ZRg) hC hΦ Tryz.func17 (by kernel_rfl) (by kernel_rfl) (Zai (Λ:=Zad) (by kernel_rfl)) rfl rfl ?_
 refine (ZR9 N _ _ _ _ _ _ _ _).trans ?_
 rw [← ZnZ]
 exact h6
def ZNl (N:Nat):(R:Type) → List V → S → (V → S → Option R) → Option R:=fun _ vs s K =>
 Zcf vs fun v'1 v'2=>Za9 v'1 fun e_1 f_2 x_3=>asInt .i64 v'2 fun x_4=>ZaR s <| ZHS N e_1 f_2 x_3 x_4 (fun x_5=>K (.int .i64 x_5) [])
def ZuY (N:Nat):Zar:=(ZnH N).add 68 (ZNl N)
def ZDx:Code:=ZaS Tryz.f68
def Zjw:Code:=(Zbn ZDx [] 0).2
def Zv5:Code:=(Zbn Zjw (0 :: [0,1,0,1]) 0).2
def Zm1:List Nat:=ZbR 31 [1,5,10,11,12,18,19,20]
def Zxc:List Nat:=ZbR 31 [1,4,10,11,12]
def Zkf (x_1 x_2:Int) (e_3:List V) (f_4:Fl) (x_5 x_6:Int) (e_7:List V) (f_8:Fl) (x_9:Int) (e_11:List V) (f_12:Fl) (x_13 x_14 x_15 x_16 x_17 x_18:Int) (w_19:ByteArray) (e_20:List V) (f_21:Fl) (x_10:Int):List V:=mkF 0 31 [(1,.int .i64 x_1),(5,.int .i64 x_2),(10,.list 7 e_3 f_4),(11,.int .i64 x_5),(12,.int .i64 x_6),(18,.list 2 e_7 f_8),(19,.int .i64 x_9),(20,.int .i64 x_10)]
def Zh7 {R:Type} (K:X → List V → S → Option R) (x_1:Int) (x_2:Int) (e_3:List V) (f_4:Fl) (x_5:Int) (x_6:Int) (e_7:List V) (f_8:Fl) (x_9:Int) (e_11:List V) (f_12:Fl) (x_13:Int) (x_14:Int) (x_15:Int) (x_16:Int) (x_17:Int) (x_18:Int) (w_19:ByteArray) (e_20:List V) (f_21:Fl):Unit → Option R:=(fun _=>K .ret (mkF 0 31 [(1,.int .i64 x_1),(4,.int .i64 x_2),(10,.list 7 e_3 f_4),(11,.int .i64 x_5),(12,.int .i64 x_6)]) [some ⟨[.agg [.list 7 e_11 f_12,.int .i64 x_13]],2,33,0⟩,some ⟨[.agg [.int .i64 x_14,.int .i64 x_15,.int .i64 x_16,.int .i64 x_17,.int .i64 x_18,.str w_19,.list 2 e_20 f_21]],7,49,0⟩])
def Zhp {R:Type} (K:X → List V → S → Option R) (x_1:Int) (x_2:Int) (e_3:List V) (f_4:Fl) (x_5:Int) (x_6:Int) (e_7:List V) (f_8:Fl) (x_9:Int) (e_11:List V) (f_12:Fl) (x_13:Int) (x_14:Int) (x_15:Int) (x_16:Int) (x_17:Int) (x_18:Int) (w_19:ByteArray) (e_20:List V) (f_21:Fl):Unit → Option R:=(fun _=>K (.exit 2) (mkF 0 31 [(1,.int .i64 x_1),(10,.list 7 e_3 f_4),(11,.int .i64 x_5),(12,.int .i64 x_6)]) [some ⟨[.agg [.list 7 e_11 f_12,.int .i64 x_13]],2,33,0⟩,some ⟨[.agg [.int .i64 x_14,.int .i64 x_15,.int .i64 x_16,.int .i64 x_17,.int .i64 x_18,.str w_19,.list 2 e_20 f_21]],7,49,0⟩])
abbrev Zou {R:Type} (N:Nat):Nat → List V → S → (X → List V → S → Option R) → Option R:=fun n=>ZcX C (ZnH N) (Zad) Zv5 [0,1,1,0,0,1,1,0,0,1,0,1] true Zm1 Zxc n R
theorem ZMt {R:Type} (N n:Nat) (x_1 x_2:Int) (e_3:List V) (f_4:Fl) (x_5 x_6:Int) (e_7:List V) (f_8:Fl) (x_9:Int) (e_11:List V) (f_12:Fl) (x_13 x_14 x_15 x_16 x_17 x_18:Int) (w_19:ByteArray) (e_20:List V) (f_21:Fl) (x_10:Int) (K:X → List V → S → Option R) :
 Zou N (n + 1) (Zkf x_1 x_2 e_3 f_4 x_5 x_6 e_7 f_8 x_9 e_11 f_12 x_13 x_14 x_15 x_16 x_17 x_18 w_19 e_20 f_21 x_10) [some ⟨[.agg [.list 7 e_11 f_12,.int .i64 x_13]],2,33,0⟩,some ⟨[.agg [.int .i64 x_14,.int .i64 x_15,.int .i64 x_16,.int .i64 x_17,.int .i64 x_18,.str w_19,.list 2 e_20 f_21]],7,49,0⟩] K =
 Zdw N x_1 x_2 e_3 f_4 x_5 x_6 e_7 f_8 x_9 e_11 f_12 x_13 x_14 x_15 x_16 x_17 x_18 w_19 e_20 f_21 (fun x_10=>Zou N n (Zkf x_1 x_2 e_3 f_4 x_5 x_6 e_7 f_8 x_9 e_11 f_12 x_13 x_14 x_15 x_16 x_17 x_18 w_19 e_20 f_21 x_10) [some ⟨[.agg [.list 7 e_11 f_12,.int .i64 x_13]],2,33,0⟩,some ⟨[.agg [.int .i64 x_14,.int .i64 x_15,.int .i64 x_16,.int .i64 x_17,.int .i64 x_18,.str w_19,.list 2 e_20 f_21]],7,49,0⟩] K) x_10 (Zh7 K x_1 x_2 e_3 f_4 x_5 x_6 e_7 f_8 x_9 e_11 f_12 x_13 x_14 x_15 x_16 x_17 x_18 w_19 e_20 f_21) (Zhp K x_1 x_2 e_3 f_4 x_5 x_6 e_7 f_8 x_9 e_11 f_12 x_13 x_14 x_15 x_16 x_17 x_18 w_19 e_20 f_21):=by kernel_rfl
theorem ZC4 {R:Type} (N:Nat) (x_1 x_2:Int) (e_3:List V) (f_4:Fl) (x_5 x_6:Int) (e_7:List V) (f_8:Fl) (x_9:Int) (e_11:List V) (f_12:Fl) (x_13 x_14 x_15 x_16 x_17 x_18:Int) (w_19:ByteArray) (e_20:List V) (f_21:Fl) (K:X → List V → S → Option R):∀ (n:Nat) (x_10:Int),
 Zou N n (Zkf x_1 x_2 e_3 f_4 x_5 x_6 e_7 f_8 x_9 e_11 f_12 x_13 x_14 x_15 x_16 x_17 x_18 w_19 e_20 f_21 x_10) [some ⟨[.agg [.list 7 e_11 f_12,.int .i64 x_13]],2,33,0⟩,some ⟨[.agg [.int .i64 x_14,.int .i64 x_15,.int .i64 x_16,.int .i64 x_17,.int .i64 x_18,.str w_19,.list 2 e_20 f_21]],7,49,0⟩] K = ZfU N x_1 x_2 e_3 f_4 x_5 x_6 e_7 f_8 x_9 e_11 f_12 x_13 x_14 x_15 x_16 x_17 x_18 w_19 e_20 f_21 (Zh7 K x_1 x_2 e_3 f_4 x_5 x_6 e_7 f_8 x_9 e_11 f_12 x_13 x_14 x_15 x_16 x_17 x_18 w_19 e_20 f_21) (Zhp K x_1 x_2 e_3 f_4 x_5 x_6 e_7 f_8 x_9 e_11 f_12 x_13 x_14 x_15 x_16 x_17 x_18 w_19 e_20 f_21) n x_10
 | 0,_=>rfl
 | n + 1,x_10=>(ZMt N n x_1 x_2 e_3 f_4 x_5 x_6 e_7 f_8 x_9 e_11 f_12 x_13 x_14 x_15 x_16 x_17 x_18 w_19 e_20 f_21 x_10 K).trans (congrArg (fun nx=>Zdw N x_1 x_2 e_3 f_4 x_5 x_6 e_7 f_8 x_9 e_11 f_12 x_13 x_14 x_15 x_16 x_17 x_18 w_19 e_20 f_21 nx x_10 (Zh7 K x_1 x_2 e_3 f_4 x_5 x_6 e_7 f_8 x_9 e_11 f_12 x_13 x_14 x_15 x_16 x_17 x_18 w_19 e_20 f_21) (Zhp K x_1 x_2 e_3 f_4 x_5 x_6 e_7 f_8 x_9 e_11 f_12 x_13 x_14 x_15 x_16 x_17 x_18 w_19 e_20 f_21)) (funext fun x_10=>ZC4 N x_1 x_2 e_3 f_4 x_5 x_6 e_7 f_8 x_9 e_11 f_12 x_13 x_14 x_15 x_16 x_17 x_18 w_19 e_20 f_21 K n x_10))
def ZwJ {R:Type} (E:List V) (s:S) (k:Int → Int → List V → Fl → Int → Int → List V → Fl → Int → Int → List V → Fl → Int → Int → Int → Int → Int → Int → ByteArray → List V → Fl → Option R):Option R :=
 Zaj (Za3 31 [1,5,10,11,12,18,19,20] E) <| ZaZ E 1 .i64 fun x_1=>ZaZ E 5 .i64 fun x_2=>Zbu E 10 7 fun e_3 f_4=>ZaZ E 11 .i64 fun x_5=>ZaZ E 12 .i64 fun x_6=>Zbu E 18 2 fun e_7 f_8=>ZaZ E 19 .i64 fun x_9=>ZaZ E 20 .i64 fun x_10=>ZdW s fun o'1 s'2=>ZcW o'1 2 33 fun e'3 k'4=>isN k'4 0 <| Zco e'3 fun v'5=>asAgg v'5 fun c'6=>Zcf c'6 fun v'7 v'8=>ZaX 7 v'7 fun e_11 f_12=>asInt .i64 v'8 fun x_13=>ZdW s'2 fun o'9 s'10=>ZcW o'9 7 49 fun e'11 k'12=>isN k'12 0 <| Zco e'11 fun v'13=>asAgg v'13 fun c'14=>ZKL c'14 fun v'15 v'16 v'17 v'18 v'19 v'20 v'21=>asInt .i64 v'15 fun x_14=>asInt .i64 v'16 fun x_15=>asInt .i64 v'17 fun x_16=>asInt .i64 v'18 fun x_17=>asInt .i64 v'19 fun x_18=>Zby v'20 fun w_19=>ZaX 2 v'21 fun e_20 f_21=>ZaR s'10 <| k x_1 x_2 e_3 f_4 x_5 x_6 e_7 f_8 x_9 x_10 e_11 f_12 x_13 x_14 x_15 x_16 x_17 x_18 w_19 e_20 f_21
theorem Zs0 {R:Type} {E:List V} {s:S} {k:Int → Int → List V → Fl → Int → Int → List V → Fl → Int → Int → List V → Fl → Int → Int → Int → Int → Int → Int → ByteArray → List V → Fl → Option R} {r:R} (h:ZwJ E s k = some r):∃ x_1 x_2 e_3 f_4 x_5 x_6 e_7 f_8 x_9 x_10 e_11 f_12 x_13 x_14 x_15 x_16 x_17 x_18 w_19 e_20 f_21,E = Zkf x_1 x_2 e_3 f_4 x_5 x_6 e_7 f_8 x_9 e_11 f_12 x_13 x_14 x_15 x_16 x_17 x_18 w_19 e_20 f_21 x_10 ∧ s = [some ⟨[.agg [.list 7 e_11 f_12,.int .i64 x_13]],2,33,0⟩,some ⟨[.agg [.int .i64 x_14,.int .i64 x_15,.int .i64 x_16,.int .i64 x_17,.int .i64 x_18,.str w_19,.list 2 e_20 f_21]],7,49,0⟩] ∧ k x_1 x_2 e_3 f_4 x_5 x_6 e_7 f_8 x_9 x_10 e_11 f_12 x_13 x_14 x_15 x_16 x_17 x_18 w_19 e_20 f_21 = some r:=by
 unfold ZwJ at h
 obtain ⟨hg,h1⟩:=Zac h
 obtain ⟨_,hu1,h2⟩:=Zah h1
 obtain ⟨_,hu5,h3⟩:=Zah h2
 obtain ⟨_,_,hu10,h4⟩:=ZaC h3
 obtain ⟨_,hu11,h5⟩:=Zah h4
 obtain ⟨_,hu12,h6⟩:=Zah h5
 obtain ⟨_,_,hu18,h7⟩:=ZaC h6
 obtain ⟨_,hu19,h8⟩:=Zah h7
 obtain ⟨_,hu20,h9⟩:=Zah h8
 obtain ⟨_,_,rfl,h10⟩:=ZaP h9
 obtain ⟨_,_,rfl,h11⟩:=ZaJ h10
 obtain ⟨rfl,h12⟩:=Zap h11
 obtain ⟨_,rfl,h13⟩:=Zat h12
 obtain ⟨_,rfl,h14⟩:=ZaF h13
 obtain ⟨_,_,rfl,h15⟩:=Zas h14
 obtain ⟨_,_,rfl,h16⟩:=Zam h15
 obtain ⟨_,rfl,h17⟩:=Zaf h16
 obtain ⟨_,_,rfl,h18⟩:=ZaP h17
 obtain ⟨_,_,rfl,h19⟩:=ZaJ h18
 obtain ⟨rfl,h20⟩:=Zap h19
 obtain ⟨_,rfl,h21⟩:=Zat h20
 obtain ⟨_,rfl,h22⟩:=ZaF h21
 obtain ⟨_,_,_,_,_,_,_,rfl,h23⟩:=ZeH h22
 obtain ⟨_,rfl,h24⟩:=Zaf h23
 obtain ⟨_,rfl,h25⟩:=Zaf h24
 obtain ⟨_,rfl,h26⟩:=Zaf h25
 obtain ⟨_,rfl,h27⟩:=Zaf h26
 obtain ⟨_,rfl,h28⟩:=Zaf h27
 obtain ⟨_,rfl,h29⟩:=ZaD h28
 obtain ⟨_,_,rfl,h30⟩:=Zam h29
 obtain ⟨rfl,h31⟩:=Zae h30
 exact ⟨_,_,_,_,_,_,_,_,_,_,_,_,_,_,_,_,_,_,_,_,_,ZaU hg rfl (Zab hu1 (Zab hu5 (Zab hu10 (Zab hu11 (Zab hu12 (Zab hu18 (Zab hu19 (Zab hu20 ZaL)))))))),rfl,h31⟩
def ZnD (N:Nat):Zax:=(Zad).add [0,1,1,0,0,1,1,0,0,1,0,1] fun _ E s K=>ZwJ (Zbh Zm1 E) s fun x_1 x_2 e_3 f_4 x_5 x_6 e_7 f_8 x_9 x_10 e_11 f_12 x_13 x_14 x_15 x_16 x_17 x_18 w_19 e_20 f_21=>ZfU N x_1 x_2 e_3 f_4 x_5 x_6 e_7 f_8 x_9 e_11 f_12 x_13 x_14 x_15 x_16 x_17 x_18 w_19 e_20 f_21 (Zh7 K x_1 x_2 e_3 f_4 x_5 x_6 e_7 f_8 x_9 e_11 f_12 x_13 x_14 x_15 x_16 x_17 x_18 w_19 e_20 f_21) (Zhp K x_1 x_2 e_3 f_4 x_5 x_6 e_7 f_8 x_9 e_11 f_12 x_13 x_14 x_15 x_16 x_17 x_18 w_19 e_20 f_21) N x_10
theorem ZJd {N:Nat} (hC:Ok Tryz.prog C) (hΦ:Zaa Tryz.prog C (ZnH N)):Za7 Tryz.prog C (ZnD N) Zv5 [0,1,1,0,0,1,1,0,0,1,0,1] :=
 Za6 (Λi:=Zad) (tr:=true) (ks:=Zm1) (kx:=Zxc) (N:=N) hC hΦ
  (Zai (by kernel_rfl))
  fun R E s K r h=>by
   have h2:=Zax.add_self.symm.trans h
   refine (Zaw rfl).trans ?_
   obtain ⟨_,_,_,_,_,_,_,_,_,_,_,_,_,_,_,_,_,_,_,_,_,he,rfl,h3⟩:=Zs0 h2
   rw [he]
   exact (ZC4 N _ _ _ _ _ _ _ _ _ _ _ _ _ _ _ _ _ _ _ _ _ N _).trans h3
def Zpn:List Nat:=ZbR 31 [1,10,11,12]
def Zyu:List Nat:=ZbR 31 [4]
def ZkP (x_1:Int) (e_2:List V) (f_3:Fl) (x_4:Int) (e_6:List V) (f_7:Fl) (x_8 x_5:Int):List V:=mkF 0 31 [(1,.int .i64 x_1),(10,.list 7 e_2 f_3),(11,.int .i64 x_4),(12,.int .i64 x_5)]
def ZiL {R:Type} (K:X → List V → S → Option R) (x_1:Int) (e_2:List V) (f_3:Fl) (x_4:Int) (e_6:List V) (f_7:Fl) (x_8:Int):Int → Option R:=(fun x_1'=>K .ret (mkF 0 31 [(4,.int .i64 (x_1'))]) [some ⟨[.agg [.list 7 e_6 f_7,.int .i64 x_8]],2,33,0⟩])
def ZiM {R:Type} (K:X → List V → S → Option R) (x_1:Int) (e_2:List V) (f_3:Fl) (x_4:Int) (e_6:List V) (f_7:Fl) (x_8:Int):Unit → Option R:=(fun _=>K (.exit 0) (mkF 0 31 []) [some ⟨[.agg [.list 7 e_6 f_7,.int .i64 x_8]],2,33,0⟩])
abbrev ZoE {R:Type} (N:Nat):Nat → List V → S → (X → List V → S → Option R) → Option R:=fun n=>ZcX C (ZnH N) (ZnD N) Zjw [0,1,0,1] true Zpn Zyu n R
theorem ZLp {R:Type} (N n:Nat) (x_1:Int) (e_2:List V) (f_3:Fl) (x_4:Int) (e_6:List V) (f_7:Fl) (x_8:Int) (x_5:Int) (K:X → List V → S → Option R) :
 ZoE N (n + 1) (ZkP x_1 e_2 f_3 x_4 e_6 f_7 x_8 x_5) [some ⟨[.agg [.list 7 e_6 f_7,.int .i64 x_8]],2,33,0⟩] K =
 Zdv N x_1 e_2 f_3 x_4 e_6 f_7 x_8 (fun x_5=>ZoE N n (ZkP x_1 e_2 f_3 x_4 e_6 f_7 x_8 x_5) [some ⟨[.agg [.list 7 e_6 f_7,.int .i64 x_8]],2,33,0⟩] K) x_5 (ZiL K x_1 e_2 f_3 x_4 e_6 f_7 x_8) (ZiM K x_1 e_2 f_3 x_4 e_6 f_7 x_8):=by kernel_rfl
theorem ZFA {R:Type} (N:Nat) (x_1:Int) (e_2:List V) (f_3:Fl) (x_4:Int) (e_6:List V) (f_7:Fl) (x_8:Int) (K:X → List V → S → Option R):∀ (n:Nat) (x_5:Int),
 ZoE N n (ZkP x_1 e_2 f_3 x_4 e_6 f_7 x_8 x_5) [some ⟨[.agg [.list 7 e_6 f_7,.int .i64 x_8]],2,33,0⟩] K = Zg0 N x_1 e_2 f_3 x_4 e_6 f_7 x_8 (ZiL K x_1 e_2 f_3 x_4 e_6 f_7 x_8) (ZiM K x_1 e_2 f_3 x_4 e_6 f_7 x_8) n x_5
 | 0,_=>rfl
 | n + 1,x_5=>(ZLp N n x_1 e_2 f_3 x_4 e_6 f_7 x_8 x_5 K).trans (congrArg (fun nx=>Zdv N x_1 e_2 f_3 x_4 e_6 f_7 x_8 nx x_5 (ZiL K x_1 e_2 f_3 x_4 e_6 f_7 x_8) (ZiM K x_1 e_2 f_3 x_4 e_6 f_7 x_8)) (funext fun x_5=>ZFA N x_1 e_2 f_3 x_4 e_6 f_7 x_8 K n x_5))
def Zvp {R:Type} (E:List V) (s:S) (k:Int → List V → Fl → Int → Int → List V → Fl → Int → Option R):Option R :=
 Zaj (Za3 31 [1,10,11,12] E) <| ZaZ E 1 .i64 fun x_1=>Zbu E 10 7 fun e_2 f_3=>ZaZ E 11 .i64 fun x_4=>ZaZ E 12 .i64 fun x_5=>ZdW s fun o'1 s'2=>ZcW o'1 2 33 fun e'3 k'4=>isN k'4 0 <| Zco e'3 fun v'5=>asAgg v'5 fun c'6=>Zcf c'6 fun v'7 v'8=>ZaX 7 v'7 fun e_6 f_7=>asInt .i64 v'8 fun x_8=>ZaR s'2 <| k x_1 e_2 f_3 x_4 x_5 e_6 f_7 x_8
theorem Zre {R:Type} {E:List V} {s:S} {k:Int → List V → Fl → Int → Int → List V → Fl → Int → Option R} {r:R} (h:Zvp E s k = some r):∃ x_1 e_2 f_3 x_4 x_5 e_6 f_7 x_8,E = ZkP x_1 e_2 f_3 x_4 e_6 f_7 x_8 x_5 ∧ s = [some ⟨[.agg [.list 7 e_6 f_7,.int .i64 x_8]],2,33,0⟩] ∧ k x_1 e_2 f_3 x_4 x_5 e_6 f_7 x_8 = some r:=by
 unfold Zvp at h
 obtain ⟨hg,h1⟩:=Zac h
 obtain ⟨_,hu1,h2⟩:=Zah h1
 obtain ⟨_,_,hu10,h3⟩:=ZaC h2
 obtain ⟨_,hu11,h4⟩:=Zah h3
 obtain ⟨_,hu12,h5⟩:=Zah h4
 obtain ⟨_,_,rfl,h6⟩:=ZaP h5
 obtain ⟨_,_,rfl,h7⟩:=ZaJ h6
 obtain ⟨rfl,h8⟩:=Zap h7
 obtain ⟨_,rfl,h9⟩:=Zat h8
 obtain ⟨_,rfl,h10⟩:=ZaF h9
 obtain ⟨_,_,rfl,h11⟩:=Zas h10
 obtain ⟨_,_,rfl,h12⟩:=Zam h11
 obtain ⟨_,rfl,h13⟩:=Zaf h12
 obtain ⟨rfl,h14⟩:=Zae h13
 exact ⟨_,_,_,_,_,_,_,_,ZaU hg rfl (Zab hu1 (Zab hu10 (Zab hu11 (Zab hu12 ZaL)))),rfl,h14⟩
def Zwt (N:Nat):Zax:=(ZnD N).add [0,1,0,1] fun _ E s K=>Zvp (Zbh Zpn E) s fun x_1 e_2 f_3 x_4 x_5 e_6 f_7 x_8=>Zg0 N x_1 e_2 f_3 x_4 e_6 f_7 x_8 (ZiL K x_1 e_2 f_3 x_4 e_6 f_7 x_8) (ZiM K x_1 e_2 f_3 x_4 e_6 f_7 x_8) N x_5
theorem ZHd:Za0 Zjw (0 :: [0,1,0,1]) = [([0,1,1,0,0,1,1,0,0,1,0,1],Zv5)]:=by kernel_rfl
theorem ZJc {N:Nat} (hC:Ok Tryz.prog C) (hΦ:Zaa Tryz.prog C (ZnH N)):Za7 Tryz.prog C (Zwt N) Zjw [0,1,0,1] :=
 Za6 (Λi:=ZnD N) (tr:=true) (ks:=Zpn) (kx:=Zyu) (N:=N) hC hΦ
  (ZaG Zjw _ (by
   rw [ZHd]
   intro p hp
   simp only [List.mem_cons,List.mem_nil_iff,or_false] at hp
   rcases hp with rfl
   ·exact (ZJd hC hΦ)))
  fun R E s K r h=>by
   have h2:=Zax.add_self.symm.trans h
   refine (Zaw rfl).trans ?_
   obtain ⟨_,_,_,_,_,_,_,_,he,rfl,h3⟩:=Zre h2
   rw [he]
   exact (ZFA N _ _ _ _ _ _ _ _ N _).trans h3
theorem ZNT:Za0 ZDx [] = [([0,1,0,1],Zjw)]:=by kernel_rfl
theorem ZQc {R:Type} (N:Nat) (e_1:List V) (f_2:Fl) (x_3 x_4:Int) (K:V → S → Option R):Za2 C (ZnH N) (Zwt N) 68 Tryz.f68 [.agg [.list 7 e_1 f_2,.int .i64 x_3],.int .i64 x_4] [] K =
 ZqR N e_1 f_2 x_3 x_4 (fun x_5=>K (.int .i64 x_5) []):=by kernel_rfl
theorem ZE0 {N:Nat} (hC:Ok Tryz.prog C) (hΦ:Zaa Tryz.prog C (ZnH N)):ZaV Tryz.prog C (Zwt N) ZDx [] :=
 ZaG ZDx [] (by
  rw [ZNT]
  intro p hp
  simp only [List.mem_cons,List.mem_nil_iff,or_false] at hp
  rcases hp with rfl
  ·exact (ZJc hC hΦ))
theorem ZBI (hC:Ok Tryz.prog C) {N:Nat} (hΦ:Zaa Tryz.prog C (ZnH N)):Zaa Tryz.prog C (ZuY N):=by
 refine hΦ.add_pure rfl fun R vs K r h=>?_
 unfold ZNl at h
 obtain ⟨_,_,rfl,h1⟩:=Zas h
 obtain ⟨_,_,_,rfl,h2⟩:=ZaH h1
 obtain ⟨_,rfl,h3⟩:=Zaf h2
 obtain ⟨_,h4⟩:=Zae h3
 refine Zaq (fn:=Tryz.f68) (c:=ZDx) hC hΦ Tryz.func68 (by kernel_rfl) (by kernel_rfl) (ZE0 (N:=N) hC hΦ) rfl rfl ?_
 refine (ZQc N _ _ _ _ _).trans ?_
 rw [← Zy6]
 exact h4
def ZOi (N:Nat):(R:Type) → List V → S → (V → S → Option R) → Option R:=fun _ vs s K =>
 Zcf vs fun v'1 v'2=>ZaX 2 v'1 fun e_1 f_2=>Zby v'2 fun w_3=>ZaR s <| ZJD N e_1 f_2 w_3 (fun x_4=>K (.int .i64 x_4) [])
def ZKw (N:Nat):Zar:=(ZuY N).add 69 (ZOi N)
def ZFZ:Code:=ZaS Tryz.f69
def Zt8:Code:=(Zbn ZFZ [] 0).2
def ZnA:List Nat:=ZbR 20 [1,7,8,9]
def ZyF:List Nat:=ZbR 20 [4]
def Zj6 (w_1:ByteArray) (e_2:List V) (f_3:Fl) (x_4 x_5:Int):List V:=mkF 0 20 [(1,.str w_1),(7,.list 2 e_2 f_3),(8,.int .i64 x_4),(9,.int .i64 x_5)]
def Zhl {R:Type} (K:X → List V → S → Option R) (w_1:ByteArray) (e_2:List V) (f_3:Fl) (x_4:Int):Int → Option R:=(fun x_1'=>K .ret (mkF 0 20 [(4,.int .i64 (x_1'))]) [])
def ZhU {R:Type} (K:X → List V → S → Option R) (w_1:ByteArray) (e_2:List V) (f_3:Fl) (x_4:Int):Unit → Option R:=(fun _=>K (.exit 0) (mkF 0 20 []) [])
abbrev Zn2 {R:Type} (N:Nat):Nat → List V → S → (X → List V → S → Option R) → Option R:=fun n=>ZcX C (ZuY N) (Zad) Zt8 [0,1,0,1] true ZnA ZyF n R
theorem ZKV {R:Type} (N n:Nat) (w_1:ByteArray) (e_2:List V) (f_3:Fl) (x_4:Int) (x_5:Int) (K:X → List V → S → Option R) :
 Zn2 N (n + 1) (Zj6 w_1 e_2 f_3 x_4 x_5) [] K =
 Zdu N w_1 e_2 f_3 x_4 (fun x_5=>Zn2 N n (Zj6 w_1 e_2 f_3 x_4 x_5) [] K) x_5 (Zhl K w_1 e_2 f_3 x_4) (ZhU K w_1 e_2 f_3 x_4):=by kernel_rfl
theorem ZC6 {R:Type} (N:Nat) (w_1:ByteArray) (e_2:List V) (f_3:Fl) (x_4:Int) (K:X → List V → S → Option R):∀ (n:Nat) (x_5:Int),
 Zn2 N n (Zj6 w_1 e_2 f_3 x_4 x_5) [] K = Zgu N w_1 e_2 f_3 x_4 (Zhl K w_1 e_2 f_3 x_4) (ZhU K w_1 e_2 f_3 x_4) n x_5
 | 0,_=>rfl
 | n + 1,x_5=>(ZKV N n w_1 e_2 f_3 x_4 x_5 K).trans (congrArg (fun nx=>Zdu N w_1 e_2 f_3 x_4 nx x_5 (Zhl K w_1 e_2 f_3 x_4) (ZhU K w_1 e_2 f_3 x_4)) (funext fun x_5=>ZC6 N w_1 e_2 f_3 x_4 K n x_5))
def Zty {R:Type} (E:List V) (s:S) (k:ByteArray → List V → Fl → Int → Int → Option R):Option R :=
 Zaj (Za3 20 [1,7,8,9] E) <| Zlm E 1 fun w_1=>Zbu E 7 2 fun e_2 f_3=>ZaZ E 8 .i64 fun x_4=>ZaZ E 9 .i64 fun x_5=>ZaR s <| k w_1 e_2 f_3 x_4 x_5
theorem Zq7 {R:Type} {E:List V} {s:S} {k:ByteArray → List V → Fl → Int → Int → Option R} {r:R} (h:Zty E s k = some r):∃ w_1 e_2 f_3 x_4 x_5,E = Zj6 w_1 e_2 f_3 x_4 x_5 ∧ s = [] ∧ k w_1 e_2 f_3 x_4 x_5 = some r:=by
 unfold Zty at h
 obtain ⟨hg,h1⟩:=Zac h
 obtain ⟨_,hu1,h2⟩:=Zcl h1
 obtain ⟨_,_,hu7,h3⟩:=ZaC h2
 obtain ⟨_,hu8,h4⟩:=Zah h3
 obtain ⟨_,hu9,h5⟩:=Zah h4
 obtain ⟨rfl,h6⟩:=Zae h5
 exact ⟨_,_,_,_,_,ZaU hg rfl (Zab hu1 (Zab hu7 (Zab hu8 (Zab hu9 ZaL)))),rfl,h6⟩
def Zvj (N:Nat):Zax:=(Zad).add [0,1,0,1] fun _ E s K=>Zty (Zbh ZnA E) s fun w_1 e_2 f_3 x_4 x_5=>Zgu N w_1 e_2 f_3 x_4 (Zhl K w_1 e_2 f_3 x_4) (ZhU K w_1 e_2 f_3 x_4) N x_5
theorem ZHb {N:Nat} (hC:Ok Tryz.prog C) (hΦ:Zaa Tryz.prog C (ZuY N)):Za7 Tryz.prog C (Zvj N) Zt8 [0,1,0,1] :=
 Za6 (Λi:=Zad) (tr:=true) (ks:=ZnA) (kx:=ZyF) (N:=N) hC hΦ
  (Zai (by kernel_rfl))
  fun R E s K r h=>by
   have h2:=Zax.add_self.symm.trans h
   refine (Zaw rfl).trans ?_
   obtain ⟨_,_,_,_,_,he,rfl,h3⟩:=Zq7 h2
   rw [he]
   exact (ZC6 N _ _ _ _ _ N _).trans h3
theorem ZOj:Za0 ZFZ [] = [([0,1,0,1],Zt8)]:=by kernel_rfl
theorem ZQ4 {R:Type} (N:Nat) (e_1:List V) (f_2:Fl) (w_3:ByteArray) (K:V → S → Option R):Za2 C (ZuY N) (Zvj N) 69 Tryz.f69 [.list 2 e_1 f_2,.str w_3] [] K =
 ZpV N e_1 f_2 w_3 (fun x_4=>K (.int .i64 x_4) []):=by kernel_rfl
theorem ZEa {N:Nat} (hC:Ok Tryz.prog C) (hΦ:Zaa Tryz.prog C (ZuY N)):ZaV Tryz.prog C (Zvj N) ZFZ [] :=
 ZaG ZFZ [] (by
  rw [ZOj]
  intro p hp
  simp only [List.mem_cons,List.mem_nil_iff,or_false] at hp
  rcases hp with rfl
  ·exact (ZHb hC hΦ))
theorem ZCp (hC:Ok Tryz.prog C) {N:Nat} (hΦ:Zaa Tryz.prog C (ZuY N)):Zaa Tryz.prog C (ZKw N):=by
 refine hΦ.add_pure rfl fun R vs K r h=>?_
 unfold ZOi at h
 obtain ⟨_,_,rfl,h1⟩:=Zas h
 obtain ⟨_,_,rfl,h2⟩:=Zam h1
 obtain ⟨_,rfl,h3⟩:=ZaD h2
 obtain ⟨_,h4⟩:=Zae h3
 refine Zaq (fn:=Tryz.f69) (c:=ZFZ) hC hΦ Tryz.func69 (by kernel_rfl) (by kernel_rfl) (ZEa (N:=N) hC hΦ) rfl rfl ?_
 refine (ZQ4 N _ _ _ _).trans ?_
 rw [← Zy7]
 exact h4
def ZN5 (N:Nat):(R:Type) → List V → S → (V → S → Option R) → Option R:=fun _ vs s K =>
 Zcf vs fun v'1 v'2=>ZLW v'1 fun o0 k'4 k'5 k'6=>isN k'4 0 <| isN k'5 0 <| isN k'6 0 <| asBool v'2 fun b_1=>ZKO s o0 0 fun o'7=>ZcW o'7 7 84 fun e'8 k'9=>isN k'9 0 <| Zco e'8 fun v'10=>ZgW v'10 fun e_2 f_3 x_4 x_5 x_6 x_7 e_8 f_9 x_10=>Zaj (ZbL [o0]) <| Zaj (okI 1 [true] [some ⟨[.agg [.list 7 e_2 f_3,.int .i64 x_4,.int .i64 x_5,.int .i64 x_6,.int .i64 x_7,.list 1 e_8 f_9,.int .i64 x_10]],7,84,0⟩]) <| ZCq N b_1 e_2 f_3 x_4 x_5 x_6 x_7 e_8 f_9 x_10 (fun x_901 e_902 f_903 x_904 x_905 x_906 x_907 e_908 f_909 x_910=>FK s [o0] rl K (.int .i64 x_901) [some ⟨[.agg [.list 7 e_902 f_903,.int .i64 x_904,.int .i64 x_905,.int .i64 x_906,.int .i64 x_907,.list 1 e_908 f_909,.int .i64 x_910]],7,84,0⟩])
def ZvW (N:Nat):Zar:=(ZKw N).add 47 (ZN5 N)
def ZSf:Code:=ZaS Tryz.f47
theorem ZR8 {R:Type} (N:Nat) (b_1:Bool) (e_2:List V) (f_3:Fl) (x_4 x_5 x_6 x_7:Int) (e_8:List V) (f_9:Fl) (x_10:Int) (K:V → S → Option R):Za2 C (ZKw N) (Zad) 47 Tryz.f47 [.ptr 0 0 0 0,.bool b_1] [some ⟨[.agg [.list 7 e_2 f_3,.int .i64 x_4,.int .i64 x_5,.int .i64 x_6,.int .i64 x_7,.list 1 e_8 f_9,.int .i64 x_10]],7,84,0⟩] (GK rl 1 K) =
 Zry N b_1 e_2 f_3 x_4 x_5 x_6 x_7 e_8 f_9 x_10 (fun x_901 e_902 f_903 x_904 x_905 x_906 x_907 e_908 f_909 x_910=>K (.int .i64 x_901) [some ⟨[.agg [.list 7 e_902 f_903,.int .i64 x_904,.int .i64 x_905,.int .i64 x_906,.int .i64 x_907,.list 1 e_908 f_909,.int .i64 x_910]],7,84,0⟩]):=by kernel_rfl
theorem ZCm (hC:Ok Tryz.prog C) {N:Nat} (hΦ:Zaa Tryz.prog C (ZKw N)):Zaa Tryz.prog C (ZvW N):=by
 refine hΦ.add_shared rfl fun R vs s K r h=>?_
 unfold ZN5 at h
 obtain ⟨_,_,rfl,h1⟩:=Zas h
 obtain ⟨o0,_,_,_,rfl,h2⟩:=ZAI h1
 obtain ⟨rfl,h3⟩:=Zap h2
 obtain ⟨rfl,h4⟩:=Zap h3
 obtain ⟨rfl,h5⟩:=Zap h4
 obtain ⟨b_1,rfl,h6⟩:=Zcq h5
 obtain ⟨_,hob0,h7⟩:=Zez h6
 obtain ⟨_,_,rfl,h8⟩:=ZaJ h7
 obtain ⟨rfl,h9⟩:=Zap h8
 obtain ⟨_,rfl,h10⟩:=Zat h9
 obtain ⟨e_2,f_3,x_4,x_5,x_6,x_7,e_8,f_9,x_10,rfl,h11⟩:=Zj2 h10
 obtain ⟨hdist,h12⟩:=Zac h11
 obtain ⟨hin,h13⟩:=Zac h12
 refine Zcv (C:=C) (fn:=Tryz.f47) (c:=ZSf) (os:=[o0]) (rl:=rl) (bi:=[true]) (s0:=[some ⟨[.agg [.list 7 e_2 f_3,.int .i64 x_4,.int .i64 x_5,.int .i64 x_6,.int .i64 x_7,.list 1 e_8 f_9,.int .i64 x_10]],7,84,0⟩]) (as0:=[.ptr 0 0 0 0,.bool b_1]) hC (hΦ) Tryz.func47 (by kernel_rfl) (by kernel_rfl) (Zai (Λ:=Zad) (by kernel_rfl)) rfl (ZfB rfl) hdist ⟨⟨_,rfl,hob0⟩,trivial⟩ hin rfl rfl ?_
 refine (ZR8 N _ _ _ _ _ _ _ _ _ _ _).trans ?_
 rw [← ZwQ]
 exact h13
def ZNp (N:Nat):(R:Type) → List V → S → (V → S → Option R) → Option R:=fun _ vs s K =>
 ZLn vs fun v'1 v'2 v'3 v'4=>Za9 v'1 fun e_1 f_2 x_3=>Zbs v'2 fun x_4 x_5=>Zby v'3 fun w_6=>asBool v'4 fun b_7=>ZaR s <| ZIk N e_1 f_2 x_3 x_4 x_5 w_6 b_7 (fun x_8 x_9=>K (.tuple [.int .i64 x_8,.int .i64 x_9]) [])
def ZJa (N:Nat):Zar:=(ZvW N).add 28 (ZNp N)
def ZC2:Code:=ZaS Tryz.f28
def ZtO:Code:=(Zbn ZC2 [] 0).2
def ZoU:List Nat:=ZbR 60 [3,4,10,11]
def Zzp:List Nat:=ZbR 60 [4,8,9,10,11]
def Zko (b_1 b_2:Bool) (e_3:List V) (f_4:Fl) (x_5 x_6 x_7:Int) (e_8:List V) (f_9:Fl) (x_10 x_11 x_12 x_13:Int) (e_14:List V) (f_16:Fl) (x_15:Int):List V:=mkF 0 60 [(3,.bool b_1),(4,.ptr 0 0 0 0),(10,.bool b_2),(11,.ptr 2 0 0 0)]
def ZhI {R:Type} (K:X → List V → S → Option R) (b_1:Bool) (b_2:Bool) (e_3:List V) (f_4:Fl) (x_5:Int) (x_6:Int) (x_7:Int):Int → List V → Fl → Int → Int → Int → Int → List V → Fl → Int → Option R:=(fun x_1' e_2' f_3' x_4' x_5' x_6' x_7' e_8' f_9' x_10'=>K .ret (mkF 0 60 [(4,.ptr 0 0 0 0),(8,.int .i64 0),(9,.int .i64 (x_1')),(10,.bool b_2),(11,.ptr 2 0 0 0)]) [some ⟨[.agg [.list 7 e_3 f_4,.int .i64 x_5]],2,33,0⟩,some ⟨[.agg [.int .i64 x_6,.int .i64 x_7]],2,35,0⟩,some ⟨[.agg [.list 7 (e_2') (f_3'),.int .i64 (x_4'),.int .i64 (x_5'),.int .i64 (x_6'),.int .i64 (x_7'),.list 1 (e_8') (f_9'),.int .i64 (x_10')]],7,84,0⟩])
def ZhX {R:Type} (K:X → List V → S → Option R) (b_1:Bool) (b_2:Bool) (e_3:List V) (f_4:Fl) (x_5:Int) (x_6:Int) (x_7:Int):List V → Fl → Int → Int → Int → Int → List V → Fl → Int → Option R:=(fun e_1' f_2' x_3' x_4' x_5' x_6' e_7' f_8' x_9'=>K (.exit 0) (mkF 0 60 [(4,.ptr 0 0 0 0),(10,.bool b_2),(11,.ptr 2 0 0 0)]) [some ⟨[.agg [.list 7 e_3 f_4,.int .i64 x_5]],2,33,0⟩,some ⟨[.agg [.int .i64 x_6,.int .i64 x_7]],2,35,0⟩,some ⟨[.agg [.list 7 (e_1') (f_2'),.int .i64 (x_3'),.int .i64 (x_4'),.int .i64 (x_5'),.int .i64 (x_6'),.list 1 (e_7') (f_8'),.int .i64 (x_9')]],7,84,0⟩])
abbrev Zno {R:Type} (N:Nat):Nat → List V → S → (X → List V → S → Option R) → Option R:=fun n=>ZcX C (ZvW N) (Zad) ZtO [0,0,1,1,1,1] false ZoU Zzp n R
theorem ZMs {R:Type} (N n:Nat) (b_1 b_2:Bool) (e_3:List V) (f_4:Fl) (x_5 x_6 x_7:Int) (e_8:List V) (f_9:Fl) (x_10 x_11 x_12 x_13:Int) (e_14:List V) (f_16:Fl) (x_15:Int) (K:X → List V → S → Option R) :
 Zno N (n + 1) (Zko b_1 b_2 e_3 f_4 x_5 x_6 x_7 e_8 f_9 x_10 x_11 x_12 x_13 e_14 f_16 x_15) [some ⟨[.agg [.list 7 e_3 f_4,.int .i64 x_5]],2,33,0⟩,some ⟨[.agg [.int .i64 x_6,.int .i64 x_7]],2,35,0⟩,some ⟨[.agg [.list 7 e_8 f_9,.int .i64 x_10,.int .i64 x_11,.int .i64 x_12,.int .i64 x_13,.list 1 e_14 f_16,.int .i64 x_15]],7,84,0⟩] K =
 Zel N b_1 b_2 e_3 f_4 x_5 x_6 x_7 (fun e_8 f_9 x_10 x_11 x_12 x_13 e_14 f_16 x_15=>Zno N n (Zko b_1 b_2 e_3 f_4 x_5 x_6 x_7 e_8 f_9 x_10 x_11 x_12 x_13 e_14 f_16 x_15) [some ⟨[.agg [.list 7 e_3 f_4,.int .i64 x_5]],2,33,0⟩,some ⟨[.agg [.int .i64 x_6,.int .i64 x_7]],2,35,0⟩,some ⟨[.agg [.list 7 e_8 f_9,.int .i64 x_10,.int .i64 x_11,.int .i64 x_12,.int .i64 x_13,.list 1 e_14 f_16,.int .i64 x_15]],7,84,0⟩] K) e_8 f_9 x_10 x_11 x_12 x_13 e_14 f_16 x_15 (ZhI K b_1 b_2 e_3 f_4 x_5 x_6 x_7) (ZhX K b_1 b_2 e_3 f_4 x_5 x_6 x_7):=by kernel_rfl
theorem ZC3 {R:Type} (N:Nat) (b_1 b_2:Bool) (e_3:List V) (f_4:Fl) (x_5 x_6 x_7:Int) (K:X → List V → S → Option R):∀ (n:Nat) (e_8:List V) (f_9:Fl) (x_10 x_11 x_12 x_13:Int) (e_14:List V) (f_16:Fl) (x_15:Int),
 Zno N n (Zko b_1 b_2 e_3 f_4 x_5 x_6 x_7 e_8 f_9 x_10 x_11 x_12 x_13 e_14 f_16 x_15) [some ⟨[.agg [.list 7 e_3 f_4,.int .i64 x_5]],2,33,0⟩,some ⟨[.agg [.int .i64 x_6,.int .i64 x_7]],2,35,0⟩,some ⟨[.agg [.list 7 e_8 f_9,.int .i64 x_10,.int .i64 x_11,.int .i64 x_12,.int .i64 x_13,.list 1 e_14 f_16,.int .i64 x_15]],7,84,0⟩] K = Ze4 N b_1 b_2 e_3 f_4 x_5 x_6 x_7 (ZhI K b_1 b_2 e_3 f_4 x_5 x_6 x_7) (ZhX K b_1 b_2 e_3 f_4 x_5 x_6 x_7) n e_8 f_9 x_10 x_11 x_12 x_13 e_14 f_16 x_15
 | 0,_,_,_,_,_,_,_,_,_=>rfl
 | n + 1,e_8,f_9,x_10,x_11,x_12,x_13,e_14,f_16,x_15=>(ZMs N n b_1 b_2 e_3 f_4 x_5 x_6 x_7 e_8 f_9 x_10 x_11 x_12 x_13 e_14 f_16 x_15 K).trans (congrArg (fun nx=>Zel N b_1 b_2 e_3 f_4 x_5 x_6 x_7 nx e_8 f_9 x_10 x_11 x_12 x_13 e_14 f_16 x_15 (ZhI K b_1 b_2 e_3 f_4 x_5 x_6 x_7) (ZhX K b_1 b_2 e_3 f_4 x_5 x_6 x_7)) (funext fun e_8=>funext fun f_9=>funext fun x_10=>funext fun x_11=>funext fun x_12=>funext fun x_13=>funext fun e_14=>funext fun f_16=>funext fun x_15=>ZC3 N b_1 b_2 e_3 f_4 x_5 x_6 x_7 K n e_8 f_9 x_10 x_11 x_12 x_13 e_14 f_16 x_15))
def ZuB {R:Type} (E:List V) (s:S) (k:Bool → Bool → List V → Fl → Int → Int → Int → List V → Fl → Int → Int → Int → Int → List V → Fl → Int → Option R):Option R :=
 Zaj (Za3 60 [3,4,10,11] E) <| ZqK E 3 fun b_1=>ZvY E 4 (.ptr 0 0 0 0) <| ZqK E 10 fun b_2=>ZvY E 11 (.ptr 2 0 0 0) <| ZdW s fun o'1 s'2=>ZcW o'1 2 33 fun e'3 k'4=>isN k'4 0 <| Zco e'3 fun v'5=>asAgg v'5 fun c'6=>Zcf c'6 fun v'7 v'8=>ZaX 7 v'7 fun e_3 f_4=>asInt .i64 v'8 fun x_5=>ZdW s'2 fun o'9 s'10=>ZcW o'9 2 35 fun e'11 k'12=>isN k'12 0 <| Zco e'11 fun v'13=>asAgg v'13 fun c'14=>Zcf c'14 fun v'15 v'16=>asInt .i64 v'15 fun x_6=>asInt .i64 v'16 fun x_7=>ZdW s'10 fun o'17 s'18=>ZcW o'17 7 84 fun e'19 k'20=>isN k'20 0 <| Zco e'19 fun v'21=>asAgg v'21 fun c'22=>ZKL c'22 fun v'23 v'24 v'25 v'26 v'27 v'28 v'29=>ZaX 7 v'23 fun e_8 f_9=>asInt .i64 v'24 fun x_10=>asInt .i64 v'25 fun x_11=>asInt .i64 v'26 fun x_12=>asInt .i64 v'27 fun x_13=>ZaX 1 v'28 fun e_14 f_16=>asInt .i64 v'29 fun x_15=>ZaR s'18 <| k b_1 b_2 e_3 f_4 x_5 x_6 x_7 e_8 f_9 x_10 x_11 x_12 x_13 e_14 f_16 x_15
theorem ZrM {R:Type} {E:List V} {s:S} {k:Bool → Bool → List V → Fl → Int → Int → Int → List V → Fl → Int → Int → Int → Int → List V → Fl → Int → Option R} {r:R} (h:ZuB E s k = some r):∃ b_1 b_2 e_3 f_4 x_5 x_6 x_7 e_8 f_9 x_10 x_11 x_12 x_13 e_14 f_16 x_15,E = Zko b_1 b_2 e_3 f_4 x_5 x_6 x_7 e_8 f_9 x_10 x_11 x_12 x_13 e_14 f_16 x_15 ∧ s = [some ⟨[.agg [.list 7 e_3 f_4,.int .i64 x_5]],2,33,0⟩,some ⟨[.agg [.int .i64 x_6,.int .i64 x_7]],2,35,0⟩,some ⟨[.agg [.list 7 e_8 f_9,.int .i64 x_10,.int .i64 x_11,.int .i64 x_12,.int .i64 x_13,.list 1 e_14 f_16,.int .i64 x_15]],7,84,0⟩] ∧ k b_1 b_2 e_3 f_4 x_5 x_6 x_7 e_8 f_9 x_10 x_11 x_12 x_13 e_14 f_16 x_15 = some r:=by
 unfold ZuB at h
 obtain ⟨hg,h1⟩:=Zac h
 obtain ⟨_,hu3,h2⟩:=ZeW h1
 obtain ⟨hu4,h3⟩:=Zb0 h2
 obtain ⟨_,hu10,h4⟩:=ZeW h3
 obtain ⟨hu11,h5⟩:=Zb0 h4
 obtain ⟨_,_,rfl,h6⟩:=ZaP h5
 obtain ⟨_,_,rfl,h7⟩:=ZaJ h6
 obtain ⟨rfl,h8⟩:=Zap h7
 obtain ⟨_,rfl,h9⟩:=Zat h8
 obtain ⟨_,rfl,h10⟩:=ZaF h9
 obtain ⟨_,_,rfl,h11⟩:=Zas h10
 obtain ⟨_,_,rfl,h12⟩:=Zam h11
 obtain ⟨_,rfl,h13⟩:=Zaf h12
 obtain ⟨_,_,rfl,h14⟩:=ZaP h13
 obtain ⟨_,_,rfl,h15⟩:=ZaJ h14
 obtain ⟨rfl,h16⟩:=Zap h15
 obtain ⟨_,rfl,h17⟩:=Zat h16
 obtain ⟨_,rfl,h18⟩:=ZaF h17
 obtain ⟨_,_,rfl,h19⟩:=Zas h18
 obtain ⟨_,rfl,h20⟩:=Zaf h19
 obtain ⟨_,rfl,h21⟩:=Zaf h20
 obtain ⟨_,_,rfl,h22⟩:=ZaP h21
 obtain ⟨_,_,rfl,h23⟩:=ZaJ h22
 obtain ⟨rfl,h24⟩:=Zap h23
 obtain ⟨_,rfl,h25⟩:=Zat h24
 obtain ⟨_,rfl,h26⟩:=ZaF h25
 obtain ⟨_,_,_,_,_,_,_,rfl,h27⟩:=ZeH h26
 obtain ⟨_,_,rfl,h28⟩:=Zam h27
 obtain ⟨_,rfl,h29⟩:=Zaf h28
 obtain ⟨_,rfl,h30⟩:=Zaf h29
 obtain ⟨_,rfl,h31⟩:=Zaf h30
 obtain ⟨_,rfl,h32⟩:=Zaf h31
 obtain ⟨_,_,rfl,h33⟩:=Zam h32
 obtain ⟨_,rfl,h34⟩:=Zaf h33
 obtain ⟨rfl,h35⟩:=Zae h34
 exact ⟨_,_,_,_,_,_,_,_,_,_,_,_,_,_,_,_,ZaU hg rfl (Zab hu3 (Zab hu4 (Zab hu10 (Zab hu11 ZaL)))),rfl,h35⟩
def Zv1 (N:Nat):Zax:=(Zad).add [0,0,1,1,1,1] fun _ E s K=>ZuB (Zbh ZoU E) s fun b_1 b_2 e_3 f_4 x_5 x_6 x_7 e_8 f_9 x_10 x_11 x_12 x_13 e_14 f_16 x_15=>Ze4 N b_1 b_2 e_3 f_4 x_5 x_6 x_7 (ZhI K b_1 b_2 e_3 f_4 x_5 x_6 x_7) (ZhX K b_1 b_2 e_3 f_4 x_5 x_6 x_7) N e_8 f_9 x_10 x_11 x_12 x_13 e_14 f_16 x_15
theorem ZI4 {N:Nat} (hC:Ok Tryz.prog C) (hΦ:Zaa Tryz.prog C (ZvW N)):Za7 Tryz.prog C (Zv1 N) ZtO [0,0,1,1,1,1] :=
 Za6 (Λi:=Zad) (tr:=false) (ks:=ZoU) (kx:=Zzp) (N:=N) hC hΦ
  (Zai (by kernel_rfl))
  fun R E s K r h=>by
   have h2:=Zax.add_self.symm.trans h
   refine (Zaw rfl).trans ?_
   obtain ⟨_,_,_,_,_,_,_,_,_,_,_,_,_,_,_,_,he,rfl,h3⟩:=ZrM h2
   rw [he]
   exact (ZC3 N _ _ _ _ _ _ _ _ N _ _ _ _ _ _ _ _ _).trans h3
theorem ZNt:Za0 ZC2 [] = [([0,0,1,1,1,1],ZtO)]:=by kernel_rfl
theorem ZQW {R:Type} (N:Nat) (e_1:List V) (f_2:Fl) (x_3 x_4 x_5:Int) (w_6:ByteArray) (b_7:Bool) (K:V → S → Option R):Za2 C (ZvW N) (Zv1 N) 28 Tryz.f28 [.agg [.list 7 e_1 f_2,.int .i64 x_3],.agg [.int .i64 x_4,.int .i64 x_5],.str w_6,.bool b_7] [] K =
 Zrc N e_1 f_2 x_3 x_4 x_5 w_6 b_7 (fun x_8 x_9=>K (.tuple [.int .i64 x_8,.int .i64 x_9]) []):=by kernel_rfl
theorem ZDZ {N:Nat} (hC:Ok Tryz.prog C) (hΦ:Zaa Tryz.prog C (ZvW N)):ZaV Tryz.prog C (Zv1 N) ZC2 [] :=
 ZaG ZC2 [] (by
  rw [ZNt]
  intro p hp
  simp only [List.mem_cons,List.mem_nil_iff,or_false] at hp
  rcases hp with rfl
  ·exact (ZI4 hC hΦ))
theorem ZAn (hC:Ok Tryz.prog C) {N:Nat} (hΦ:Zaa Tryz.prog C (ZvW N)):Zaa Tryz.prog C (ZJa N):=by
 refine hΦ.add_pure rfl fun R vs K r h=>?_
 unfold ZNp at h
 obtain ⟨_,_,_,_,rfl,h1⟩:=Zfp h
 obtain ⟨_,_,_,rfl,h2⟩:=ZaH h1
 obtain ⟨_,_,rfl,h3⟩:=Za8 h2
 obtain ⟨_,rfl,h4⟩:=ZaD h3
 obtain ⟨_,rfl,h5⟩:=Zcq h4
 obtain ⟨_,h6⟩:=Zae h5
 refine Zaq (fn:=Tryz.f28) (c:=ZC2) hC hΦ Tryz.func28 (by kernel_rfl) (by kernel_rfl) (ZDZ (N:=N) hC hΦ) rfl rfl ?_
 refine (ZQW N _ _ _ _ _ _ _ _).trans ?_
 rw [← ZzA]
 exact h6
def ZOc (N:Nat):(R:Type) → List V → S → (V → S → Option R) → Option R:=fun _ vs s K =>
 ZEn vs fun v'1 v'2 v'3=>Za9 v'1 fun e_1 f_2 x_3=>Zbs v'2 fun x_4 x_5=>Zby v'3 fun w_6=>ZaR s <| ZJw N e_1 f_2 x_3 x_4 x_5 w_6 (fun x_7 x_8=>K (.tuple [.int .i64 x_7,.int .i64 x_8]) [])
def ZvI (N:Nat):Zar:=(ZJa N).add 16 (ZOc N)
def ZR6:Code:=ZaS Tryz.f16
theorem ZRP {R:Type} (N:Nat) (e_1:List V) (f_2:Fl) (x_3 x_4 x_5:Int) (w_6:ByteArray) (K:V → S → Option R):Za2 C (ZJa N) (Zad) 16 Tryz.f16 [.agg [.list 7 e_1 f_2,.int .i64 x_3],.agg [.int .i64 x_4,.int .i64 x_5],.str w_6] [] K =
 ZsP N e_1 f_2 x_3 x_4 x_5 w_6 (fun x_7 x_8=>K (.tuple [.int .i64 x_7,.int .i64 x_8]) []):=by kernel_rfl
theorem ZAm (hC:Ok Tryz.prog C) {N:Nat} (hΦ:Zaa Tryz.prog C (ZJa N)):Zaa Tryz.prog C (ZvI N):=by
 refine hΦ.add_pure rfl fun R vs K r h=>?_
 unfold ZOc at h
 obtain ⟨_,_,_,rfl,h1⟩:=ZcC h
 obtain ⟨_,_,_,rfl,h2⟩:=ZaH h1
 obtain ⟨_,_,rfl,h3⟩:=Za8 h2
 obtain ⟨_,rfl,h4⟩:=ZaD h3
 obtain ⟨_,h5⟩:=Zae h4
 refine Zaq (fn:=Tryz.f16) (c:=ZR6) hC hΦ Tryz.func16 (by kernel_rfl) (by kernel_rfl) (Zai (Λ:=Zad) (by kernel_rfl)) rfl rfl ?_
 refine (ZRP N _ _ _ _ _ _ _).trans ?_
 rw [← ZxV]
 exact h5
def ZN1 (N:Nat):(R:Type) → List V → S → (V → S → Option R) → Option R:=fun _ vs s K =>
 ZEn vs fun v'1 v'2 v'3=>Za9 v'1 fun e_1 f_2 x_3=>Zbs v'2 fun x_4 x_5=>Zby v'3 fun w_6=>ZaR s <| ZHJ N e_1 f_2 x_3 x_4 x_5 w_6 (fun e_7 x_8 b_9=>K (.tuple [.list 1 e_7 .sh,.int .i64 x_8,.bool b_9]) [])
def ZHc (N:Nat):Zar:=(ZvI N).add 5 (ZN1 N)
def ZFv:Code:=ZaS Tryz.f5
def Zt9:Code:=(Zbn ZFv [] 0).2
def ZpD:List Nat:=ZbR 55 [11,42,43,44]
def Zyi:List Nat:=ZbR 55 [11]
def Zkw (e_2:List V) (f_3:Fl) (x_4:Int) (e_6:List V) (f_7:Fl) (x_8 x_9 x_10:Int) (e_1:List V) (x_5:Int):List V:=mkF 0 55 [(11,.list 1 e_1 (.own 9)),(42,.list 2 e_2 f_3),(43,.int .i64 x_4),(44,.int .i64 x_5)]
def ZiO {R:Type} (K:X → List V → S → Option R) (e_2:List V) (f_3:Fl) (x_4:Int) (e_6:List V) (f_7:Fl) (x_8:Int) (x_9:Int) (x_10:Int):List V → Option R:=(fun e_1'=>K (.exit 0) (mkF 0 55 [(11,.list 1 (e_1') (.own 9))]) [some ⟨[.agg [.list 7 e_6 f_7,.int .i64 x_8]],2,33,0⟩,some ⟨[.agg [.int .i64 x_9,.int .i64 x_10]],2,35,0⟩])
abbrev Zn8 {R:Type} (N:Nat):Nat → List V → S → (X → List V → S → Option R) → Option R:=fun n=>ZcX C (ZvI N) (Zad) Zt9 [0,1,0,1,1,1,1,1,1] true ZpD Zyi n R
theorem ZLZ {R:Type} (N n:Nat) (e_2:List V) (f_3:Fl) (x_4:Int) (e_6:List V) (f_7:Fl) (x_8 x_9 x_10:Int) (e_1:List V) (x_5:Int) (K:X → List V → S → Option R) :
 Zn8 N (n + 1) (Zkw e_2 f_3 x_4 e_6 f_7 x_8 x_9 x_10 e_1 x_5) [some ⟨[.agg [.list 7 e_6 f_7,.int .i64 x_8]],2,33,0⟩,some ⟨[.agg [.int .i64 x_9,.int .i64 x_10]],2,35,0⟩] K =
 ZdG N e_2 f_3 x_4 e_6 f_7 x_8 x_9 x_10 (fun e_1 x_5=>Zn8 N n (Zkw e_2 f_3 x_4 e_6 f_7 x_8 x_9 x_10 e_1 x_5) [some ⟨[.agg [.list 7 e_6 f_7,.int .i64 x_8]],2,33,0⟩,some ⟨[.agg [.int .i64 x_9,.int .i64 x_10]],2,35,0⟩] K) e_1 x_5 (ZiO K e_2 f_3 x_4 e_6 f_7 x_8 x_9 x_10):=by kernel_rfl
theorem ZGP {R:Type} (N:Nat) (e_2:List V) (f_3:Fl) (x_4:Int) (e_6:List V) (f_7:Fl) (x_8 x_9 x_10:Int) (K:X → List V → S → Option R):∀ (n:Nat) (e_1:List V) (x_5:Int),
 Zn8 N n (Zkw e_2 f_3 x_4 e_6 f_7 x_8 x_9 x_10 e_1 x_5) [some ⟨[.agg [.list 7 e_6 f_7,.int .i64 x_8]],2,33,0⟩,some ⟨[.agg [.int .i64 x_9,.int .i64 x_10]],2,35,0⟩] K = ZeX N e_2 f_3 x_4 e_6 f_7 x_8 x_9 x_10 (ZiO K e_2 f_3 x_4 e_6 f_7 x_8 x_9 x_10) n e_1 x_5
 | 0,_,_=>rfl
 | n + 1,e_1,x_5=>(ZLZ N n e_2 f_3 x_4 e_6 f_7 x_8 x_9 x_10 e_1 x_5 K).trans (congrArg (fun nx=>ZdG N e_2 f_3 x_4 e_6 f_7 x_8 x_9 x_10 nx e_1 x_5 (ZiO K e_2 f_3 x_4 e_6 f_7 x_8 x_9 x_10)) (funext fun e_1=>funext fun x_5=>ZGP N e_2 f_3 x_4 e_6 f_7 x_8 x_9 x_10 K n e_1 x_5))
def Zv4 {R:Type} (E:List V) (s:S) (k:List V → List V → Fl → Int → Int → List V → Fl → Int → Int → Int → Option R):Option R :=
 Zaj (Za3 55 [11,42,43,44] E) <| Zbt (nth E 11) fun u11=>ZaX 1 u11 fun e_1 f'1=>ZpE 9 f'1 <| Zbu E 42 2 fun e_2 f_3=>ZaZ E 43 .i64 fun x_4=>ZaZ E 44 .i64 fun x_5=>ZdW s fun o'2 s'3=>ZcW o'2 2 33 fun e'4 k'5=>isN k'5 0 <| Zco e'4 fun v'6=>asAgg v'6 fun c'7=>Zcf c'7 fun v'8 v'9=>ZaX 7 v'8 fun e_6 f_7=>asInt .i64 v'9 fun x_8=>ZdW s'3 fun o'10 s'11=>ZcW o'10 2 35 fun e'12 k'13=>isN k'13 0 <| Zco e'12 fun v'14=>asAgg v'14 fun c'15=>Zcf c'15 fun v'16 v'17=>asInt .i64 v'16 fun x_9=>asInt .i64 v'17 fun x_10=>ZaR s'11 <| k e_1 e_2 f_3 x_4 x_5 e_6 f_7 x_8 x_9 x_10
theorem Zsz {R:Type} {E:List V} {s:S} {k:List V → List V → Fl → Int → Int → List V → Fl → Int → Int → Int → Option R} {r:R} (h:Zv4 E s k = some r):∃ e_1 e_2 f_3 x_4 x_5 e_6 f_7 x_8 x_9 x_10,E = Zkw e_2 f_3 x_4 e_6 f_7 x_8 x_9 x_10 e_1 x_5 ∧ s = [some ⟨[.agg [.list 7 e_6 f_7,.int .i64 x_8]],2,33,0⟩,some ⟨[.agg [.int .i64 x_9,.int .i64 x_10]],2,35,0⟩] ∧ k e_1 e_2 f_3 x_4 x_5 e_6 f_7 x_8 x_9 x_10 = some r:=by
 unfold Zv4 at h
 obtain ⟨hg,h1⟩:=Zac h
 obtain ⟨_,hu11,h2⟩:=Zag h1
 obtain ⟨_,_,rfl,h3⟩:=Zam h2
 obtain ⟨rfl,h4⟩:=ZcZ h3
 obtain ⟨_,_,hu42,h5⟩:=ZaC h4
 obtain ⟨_,hu43,h6⟩:=Zah h5
 obtain ⟨_,hu44,h7⟩:=Zah h6
 obtain ⟨_,_,rfl,h8⟩:=ZaP h7
 obtain ⟨_,_,rfl,h9⟩:=ZaJ h8
 obtain ⟨rfl,h10⟩:=Zap h9
 obtain ⟨_,rfl,h11⟩:=Zat h10
 obtain ⟨_,rfl,h12⟩:=ZaF h11
 obtain ⟨_,_,rfl,h13⟩:=Zas h12
 obtain ⟨_,_,rfl,h14⟩:=Zam h13
 obtain ⟨_,rfl,h15⟩:=Zaf h14
 obtain ⟨_,_,rfl,h16⟩:=ZaP h15
 obtain ⟨_,_,rfl,h17⟩:=ZaJ h16
 obtain ⟨rfl,h18⟩:=Zap h17
 obtain ⟨_,rfl,h19⟩:=Zat h18
 obtain ⟨_,rfl,h20⟩:=ZaF h19
 obtain ⟨_,_,rfl,h21⟩:=Zas h20
 obtain ⟨_,rfl,h22⟩:=Zaf h21
 obtain ⟨_,rfl,h23⟩:=Zaf h22
 obtain ⟨rfl,h24⟩:=Zae h23
 exact ⟨_,_,_,_,_,_,_,_,_,_,ZaU hg rfl (Zab hu11 (Zab hu42 (Zab hu43 (Zab hu44 ZaL)))),rfl,h24⟩
def Zwl (N:Nat):Zax:=(Zad).add [0,1,0,1,1,1,1,1,1] fun _ E s K=>Zv4 (Zbh ZpD E) s fun e_1 e_2 f_3 x_4 x_5 e_6 f_7 x_8 x_9 x_10=>ZeX N e_2 f_3 x_4 e_6 f_7 x_8 x_9 x_10 (ZiO K e_2 f_3 x_4 e_6 f_7 x_8 x_9 x_10) N e_1 x_5
theorem ZJY {N:Nat} (hC:Ok Tryz.prog C) (hΦ:Zaa Tryz.prog C (ZvI N)):Za7 Tryz.prog C (Zwl N) Zt9 [0,1,0,1,1,1,1,1,1] :=
 Za6 (Λi:=Zad) (tr:=true) (ks:=ZpD) (kx:=Zyi) (N:=N) hC hΦ
  (Zai (by kernel_rfl))
  fun R E s K r h=>by
   have h2:=Zax.add_self.symm.trans h
   refine (Zaw rfl).trans ?_
   obtain ⟨_,_,_,_,_,_,_,_,_,_,he,rfl,h3⟩:=Zsz h2
   rw [he]
   exact (ZGP N _ _ _ _ _ _ _ _ _ N _ _).trans h3
theorem ZPH:Za0 ZFv [] = [([0,1,0,1,1,1,1,1,1],Zt9)]:=by kernel_rfl
theorem ZQl {R:Type} (N:Nat) (e_1:List V) (f_2:Fl) (x_3 x_4 x_5:Int) (w_6:ByteArray) (K:V → S → Option R):Za2 C (ZvI N) (Zwl N) 5 Tryz.f5 [.agg [.list 7 e_1 f_2,.int .i64 x_3],.agg [.int .i64 x_4,.int .i64 x_5],.str w_6] [] K =
 Zp3 N e_1 f_2 x_3 x_4 x_5 w_6 (fun e_7 x_8 b_9=>K (.tuple [.list 1 e_7 .sh,.int .i64 x_8,.bool b_9]) []):=by kernel_rfl
theorem ZE8 {N:Nat} (hC:Ok Tryz.prog C) (hΦ:Zaa Tryz.prog C (ZvI N)):ZaV Tryz.prog C (Zwl N) ZFv [] :=
 ZaG ZFv [] (by
  rw [ZPH]
  intro p hp
  simp only [List.mem_cons,List.mem_nil_iff,or_false] at hp
  rcases hp with rfl
  ·exact (ZJY hC hΦ))
theorem ZBJ (hC:Ok Tryz.prog C) {N:Nat} (hΦ:Zaa Tryz.prog C (ZvI N)):Zaa Tryz.prog C (ZHc N):=by
 refine hΦ.add_pure rfl fun R vs K r h=>?_
 unfold ZN1 at h
 obtain ⟨_,_,_,rfl,h1⟩:=ZcC h
 obtain ⟨_,_,_,rfl,h2⟩:=ZaH h1
 obtain ⟨_,_,rfl,h3⟩:=Za8 h2
 obtain ⟨_,rfl,h4⟩:=ZaD h3
 obtain ⟨_,h5⟩:=Zae h4
 refine Zaq (fn:=Tryz.f5) (c:=ZFv) hC hΦ Tryz.func5 (by kernel_rfl) (by kernel_rfl) (ZE8 (N:=N) hC hΦ) rfl rfl ?_
 refine (ZQl N _ _ _ _ _ _ _).trans ?_
 rw [← ZyM]
 exact h5
def ZPg (N:Nat):(R:Type) → List V → S → (V → S → Option R) → Option R:=fun _ vs s K =>
 Zco vs fun v'1=>Zci v'1 fun w_1 x_2=>ZaR s <| ZHq N w_1 x_2 (fun w_3 x_4=>K (.agg [.str w_3,.int .i64 x_4]) [])
def Zwv (N:Nat):Zar:=(ZHc N).add 70 (ZPg N)
def ZRr:Code:=ZaS Tryz.f70
theorem ZQD {R:Type} (N:Nat) (w_1:ByteArray) (x_2:Int) (K:V → S → Option R):Za2 C (ZHc N) (Zad) 70 Tryz.f70 [.agg [.str w_1,.int .i64 x_2]] [] K =
 Zzk N w_1 x_2 (fun w_3 x_4=>K (.agg [.str w_3,.int .i64 x_4]) []):=by kernel_rfl
theorem ZBm (hC:Ok Tryz.prog C) {N:Nat} (hΦ:Zaa Tryz.prog C (ZHc N)):Zaa Tryz.prog C (Zwv N):=by
 refine hΦ.add_pure rfl fun R vs K r h=>?_
 unfold ZPg at h
 obtain ⟨_,rfl,h1⟩:=Zat h
 obtain ⟨_,_,rfl,h2⟩:=Zei h1
 obtain ⟨_,h3⟩:=Zae h2
 refine Zaq (fn:=Tryz.f70) (c:=ZRr) hC hΦ Tryz.func70 (by kernel_rfl) (by kernel_rfl) (Zai (Λ:=Zad) (by kernel_rfl)) rfl rfl ?_
 refine (ZQD N _ _ _).trans ?_
 rw [← Zx0]
 exact h3
def ZPB (N:Nat):(R:Type) → List V → S → (V → S → Option R) → Option R:=fun _ vs s K =>
 Zco vs fun v'1=>ZaX 2 v'1 fun e_1 f_2=>ZaR s <| ZIA N e_1 f_2 (fun k_901 e_902=>K (.arr 0 0 0 k_901) [some ⟨e_902,2,51,0⟩])
def ZIO (N:Nat):Zar:=(Zwv N).add 48 (ZPB N)
def ZGj:Code:=ZaS Tryz.f48
def Zvk:Code:=(Zbn ZGj [] 0).2
def Zop:List Nat:=ZbR 23 [0,3,4]
def ZwP:List Nat:=ZbR 23 [3]
def Zkj (e_1:List V) (f_2:Fl) (k_3:Nat) (x_4:Int) (e_5:List V):List V:=mkF 0 23 [(0,.list 2 e_1 f_2),(3,.arr 0 0 0 k_3),(4,.int .i64 x_4)]
def Zi5 {R:Type} (K:X → List V → S → Option R) (e_1:List V) (f_2:Fl) (k_3:Nat):List V → Option R:=(fun e_1'=>K (.exit 0) (mkF 0 23 [(3,.arr 0 0 0 k_3)]) [some ⟨e_1',2,51,0⟩])
abbrev Zpt {R:Type} (N:Nat):Nat → List V → S → (X → List V → S → Option R) → Option R:=fun n=>ZcX C (Zwv N) (Zad) Zvk [0,1,0,1,1] false Zop ZwP n R
theorem ZMC {R:Type} (N n:Nat) (e_1:List V) (f_2:Fl) (k_3:Nat) (x_4:Int) (e_5:List V) (K:X → List V → S → Option R) :
 Zpt N (n + 1) (Zkj e_1 f_2 k_3 x_4 e_5) [some ⟨e_5,2,51,0⟩] K =
 ZdI N e_1 f_2 k_3 (fun x_4 e_5=>Zpt N n (Zkj e_1 f_2 k_3 x_4 e_5) [some ⟨e_5,2,51,0⟩] K) x_4 e_5 (Zi5 K e_1 f_2 k_3):=by kernel_rfl
theorem ZDj {R:Type} (N:Nat) (e_1:List V) (f_2:Fl) (k_3:Nat) (K:X → List V → S → Option R):∀ (n:Nat) (x_4:Int) (e_5:List V),
 Zpt N n (Zkj e_1 f_2 k_3 x_4 e_5) [some ⟨e_5,2,51,0⟩] K = ZfR N e_1 f_2 k_3 (Zi5 K e_1 f_2 k_3) n x_4 e_5
 | 0,_,_=>rfl
 | n + 1,x_4,e_5=>(ZMC N n e_1 f_2 k_3 x_4 e_5 K).trans (congrArg (fun nx=>ZdI N e_1 f_2 k_3 nx x_4 e_5 (Zi5 K e_1 f_2 k_3)) (funext fun x_4=>funext fun e_5=>ZDj N e_1 f_2 k_3 K n x_4 e_5))
def Zt1 {R:Type} (E:List V) (s:S) (k:List V → Fl → Nat → Int → List V → Option R):Option R :=
 Zaj (Za3 23 [0,3,4] E) <| Zbu E 0 2 fun e_1 f_2=>Zbt (nth E 3) fun u3=>ZeC u3 fun k'1 k'2 k'3 k_3=>isN k'1 0 <| isN k'2 0 <| isN k'3 0 <| ZaZ E 4 .i64 fun x_4=>ZdW s fun o'4 s'5=>ZcW o'4 2 51 fun e_5 k'6=>isN k'6 0 <| ZaR s'5 <| k e_1 f_2 k_3 x_4 e_5
theorem ZpG {R:Type} {E:List V} {s:S} {k:List V → Fl → Nat → Int → List V → Option R} {r:R} (h:Zt1 E s k = some r):∃ e_1 f_2 k_3 x_4 e_5,E = Zkj e_1 f_2 k_3 x_4 e_5 ∧ s = [some ⟨e_5,2,51,0⟩] ∧ k e_1 f_2 k_3 x_4 e_5 = some r:=by
 unfold Zt1 at h
 obtain ⟨hg,h1⟩:=Zac h
 obtain ⟨_,_,hu0,h2⟩:=ZaC h1
 obtain ⟨_,hu3,h3⟩:=Zag h2
 obtain ⟨_,_,_,_,rfl,h4⟩:=Zbz h3
 obtain ⟨rfl,h5⟩:=Zap h4
 obtain ⟨rfl,h6⟩:=Zap h5
 obtain ⟨rfl,h7⟩:=Zap h6
 obtain ⟨_,hu4,h8⟩:=Zah h7
 obtain ⟨_,_,rfl,h9⟩:=ZaP h8
 obtain ⟨_,_,rfl,h10⟩:=ZaJ h9
 obtain ⟨rfl,h11⟩:=Zap h10
 obtain ⟨rfl,h12⟩:=Zae h11
 exact ⟨_,_,_,_,_,ZaU hg rfl (Zab hu0 (Zab hu3 (Zab hu4 ZaL))),rfl,h12⟩
def ZtT (N:Nat):Zax:=(Zad).add [0,1,0,1,1] fun _ E s K=>Zt1 (Zbh Zop E) s fun e_1 f_2 k_3 x_4 e_5=>ZfR N e_1 f_2 k_3 (Zi5 K e_1 f_2 k_3) N x_4 e_5
theorem ZIf {N:Nat} (hC:Ok Tryz.prog C) (hΦ:Zaa Tryz.prog C (Zwv N)):Za7 Tryz.prog C (ZtT N) Zvk [0,1,0,1,1] :=
 Za6 (Λi:=Zad) (tr:=false) (ks:=Zop) (kx:=ZwP) (N:=N) hC hΦ
  (Zai (by kernel_rfl))
  fun R E s K r h=>by
   have h2:=Zax.add_self.symm.trans h
   refine (Zaw rfl).trans ?_
   obtain ⟨_,_,_,_,_,he,rfl,h3⟩:=ZpG h2
   rw [he]
   exact (ZDj N _ _ _ _ N _ _).trans h3
theorem ZOF:Za0 ZGj [] = [([0,1,0,1,1],Zvk)]:=by kernel_rfl
theorem ZRE {R:Type} (N:Nat) (e_1:List V) (f_2:Fl) (K:V → S → Option R):Za2 C (Zwv N) (ZtT N) 48 Tryz.f48 [.list 2 e_1 f_2] [] (GF rl K) =
 Zrg N e_1 f_2 (fun k_901 e_902=>K (.arr 0 0 0 k_901) [some ⟨e_902,2,51,0⟩]):=by kernel_rfl
theorem ZDX {N:Nat} (hC:Ok Tryz.prog C) (hΦ:Zaa Tryz.prog C (Zwv N)):ZaV Tryz.prog C (ZtT N) ZGj [] :=
 ZaG ZGj [] (by
  rw [ZOF]
  intro p hp
  simp only [List.mem_cons,List.mem_nil_iff,or_false] at hp
  rcases hp with rfl
  ·exact (ZIf hC hΦ))
theorem ZB8 (hC:Ok Tryz.prog C) {N:Nat} (hΦ:Zaa Tryz.prog C (Zwv N)):Zaa Tryz.prog C (ZIO N):=by
 refine hΦ.add_fresh rfl fun R vs K r h=>?_
 unfold ZPB at h
 obtain ⟨_,rfl,h1⟩:=Zat h
 obtain ⟨_,_,rfl,h2⟩:=Zam h1
 obtain ⟨_,h3⟩:=Zae h2
 refine ZeN (C:=C) (fn:=Tryz.f48) (c:=ZGj) hC (hΦ) Tryz.func48 (by kernel_rfl) (by kernel_rfl) (ZDX (N:=N) hC hΦ) rfl rfl ?_
 refine (ZRE N _ _ _).trans ?_
 rw [← Zy2]
 exact h3
def ZNo (N:Nat):(R:Type) → List V → S → (V → S → Option R) → Option R:=fun _ vs s K =>
 Zco vs fun v'1=>Zcr v'1 fun x_1 x_2 x_3 x_4 x_5 w_6 e_7 f_8=>ZaR s <| ZIt N x_1 x_2 x_3 x_4 x_5 w_6 e_7 f_8 (fun x_901 x_902 x_903 x_904 x_905 w_906 k_907 e_908=>K (.agg [.int .i64 x_901,.int .i64 x_902,.int .i64 x_903,.int .i64 x_904,.int .i64 x_905,.str w_906,.arr 0 0 0 k_907]) [some ⟨e_908,2,51,0⟩])
def ZvQ (N:Nat):Zar:=(ZIO N).add 30 (ZNo N)
def ZSm:Code:=ZaS Tryz.f30
def Zog:TypeId → Option (Nat × TypeId):=fun t=>none
abbrev ZOs:Cfg:=C.rowed false true none Zog [] [] [] []
theorem ZRY {R:Type} (N:Nat) (x_1 x_2 x_3 x_4 x_5:Int) (w_6:ByteArray) (e_7:List V) (f_8:Fl) (K:V → S → Option R):Za2 ZOs (ZIO N) (Zad) 30 Tryz.f30 [.agg [.int .i64 x_1,.int .i64 x_2,.int .i64 x_3,.int .i64 x_4,.int .i64 x_5,.str w_6,.list 2 e_7 f_8]] [] (GF rl K) =
 Zs6 N x_1 x_2 x_3 x_4 x_5 w_6 e_7 f_8 (fun x_901 x_902 x_903 x_904 x_905 w_906 k_907 e_908=>K (.agg [.int .i64 x_901,.int .i64 x_902,.int .i64 x_903,.int .i64 x_904,.int .i64 x_905,.str w_906,.arr 0 0 0 k_907]) [some ⟨e_908,2,51,0⟩]):=by kernel_rfl
theorem ZBQ (hC:Ok Tryz.prog C) {N:Nat} (hΦ:Zaa Tryz.prog C (ZIO N)):Zaa Tryz.prog C (ZvQ N):=by
 refine hΦ.add_fresh rfl fun R vs K r h=>?_
 unfold ZNo at h
 obtain ⟨_,rfl,h1⟩:=Zat h
 obtain ⟨_,_,_,_,_,_,_,_,rfl,h2⟩:=ZeL h1
 obtain ⟨_,h3⟩:=Zae h2
 refine Zem (C:=C) false true none Zog [] [] [] [] ?_
 refine ZeN (C:=ZOs) (fn:=Tryz.f30) (c:=ZSm) (hC.rowed false true none Zog [] [] [] []) (hΦ.rowed false true none Zog [] [] [] []) Tryz.func30 (by kernel_rfl) (by kernel_rfl) (Zai (Λ:=Zad) (by kernel_rfl)) rfl rfl ?_
 refine (ZRY N _ _ _ _ _ _ _ _ _).trans ?_
 rw [← Zw1]
 exact h3
def ZNh (N:Nat):(R:Type) → List V → S → (V → S → Option R) → Option R:=fun _ vs s K =>
 Zco vs fun v'1=>ZaX 7 v'1 fun e_1 f_2=>ZaR s <| ZI8 N e_1 f_2 (fun k_901 e_902=>K (.arr 0 0 0 k_901) [some ⟨e_902,7,49,0⟩])
def ZJW (N:Nat):Zar:=(ZvQ N).add 18 (ZNh N)
def ZFH:Code:=ZaS Tryz.f18
def Zv2:Code:=(Zbn ZFH [] 0).2
def Zju:TypeId → Option (Nat × TypeId):=fun t=>if Nat.beq t 49 then some (6,51) else none
abbrev ZGM:Cfg:=C.rowed false true none Zju [] [] [] []
def ZmW:List Nat:=ZbR 23 [0,3,4]
def Zxw:List Nat:=ZbR 23 [3]
def ZkJ (e_1:List V) (f_2:Fl) (k_3:Nat) (x_4:Int) (e_5:List V):List V:=mkF 0 23 [(0,.list 7 e_1 f_2),(3,.arr 0 0 0 k_3),(4,.int .i64 x_4)]
def Zhy {R:Type} (K:X → List V → S → Option R) (e_1:List V) (f_2:Fl) (k_3:Nat):List V → Option R:=(fun e_1'=>K (.exit 0) (mkF 0 23 [(3,.arr 0 0 0 k_3)]) [some ⟨e_1',7,49,0⟩])
abbrev Zpq {R:Type} (N:Nat):Nat → List V → S → (X → List V → S → Option R) → Option R:=fun n=>ZcX ZGM (ZvQ N) (Zad) Zv2 [0,1,0,1,1] true ZmW Zxw n R
theorem ZLb {R:Type} (N n:Nat) (e_1:List V) (f_2:Fl) (k_3:Nat) (x_4:Int) (e_5:List V) (K:X → List V → S → Option R) :
 Zpq N (n + 1) (ZkJ e_1 f_2 k_3 x_4 e_5) [some ⟨e_5,7,49,0⟩] K =
 Zc9 N e_1 f_2 k_3 (fun x_4 e_5=>Zpq N n (ZkJ e_1 f_2 k_3 x_4 e_5) [some ⟨e_5,7,49,0⟩] K) x_4 e_5 (Zhy K e_1 f_2 k_3):=by kernel_rfl
theorem ZFw {R:Type} (N:Nat) (e_1:List V) (f_2:Fl) (k_3:Nat) (K:X → List V → S → Option R):∀ (n:Nat) (x_4:Int) (e_5:List V),
 Zpq N n (ZkJ e_1 f_2 k_3 x_4 e_5) [some ⟨e_5,7,49,0⟩] K = Zfl N e_1 f_2 k_3 (Zhy K e_1 f_2 k_3) n x_4 e_5
 | 0,_,_=>rfl
 | n + 1,x_4,e_5=>(ZLb N n e_1 f_2 k_3 x_4 e_5 K).trans (congrArg (fun nx=>Zc9 N e_1 f_2 k_3 nx x_4 e_5 (Zhy K e_1 f_2 k_3)) (funext fun x_4=>funext fun e_5=>ZFw N e_1 f_2 k_3 K n x_4 e_5))
def ZtJ {R:Type} (E:List V) (s:S) (k:List V → Fl → Nat → Int → List V → Option R):Option R :=
 Zaj (Za3 23 [0,3,4] E) <| Zbu E 0 7 fun e_1 f_2=>Zbt (nth E 3) fun u3=>ZeC u3 fun k'1 k'2 k'3 k_3=>isN k'1 0 <| isN k'2 0 <| isN k'3 0 <| ZaZ E 4 .i64 fun x_4=>ZdW s fun o'4 s'5=>ZcW o'4 7 49 fun e_5 k'6=>isN k'6 0 <| ZaR s'5 <| k e_1 f_2 k_3 x_4 e_5
theorem ZqE {R:Type} {E:List V} {s:S} {k:List V → Fl → Nat → Int → List V → Option R} {r:R} (h:ZtJ E s k = some r):∃ e_1 f_2 k_3 x_4 e_5,E = ZkJ e_1 f_2 k_3 x_4 e_5 ∧ s = [some ⟨e_5,7,49,0⟩] ∧ k e_1 f_2 k_3 x_4 e_5 = some r:=by
 unfold ZtJ at h
 obtain ⟨hg,h1⟩:=Zac h
 obtain ⟨_,_,hu0,h2⟩:=ZaC h1
 obtain ⟨_,hu3,h3⟩:=Zag h2
 obtain ⟨_,_,_,_,rfl,h4⟩:=Zbz h3
 obtain ⟨rfl,h5⟩:=Zap h4
 obtain ⟨rfl,h6⟩:=Zap h5
 obtain ⟨rfl,h7⟩:=Zap h6
 obtain ⟨_,hu4,h8⟩:=Zah h7
 obtain ⟨_,_,rfl,h9⟩:=ZaP h8
 obtain ⟨_,_,rfl,h10⟩:=ZaJ h9
 obtain ⟨rfl,h11⟩:=Zap h10
 obtain ⟨rfl,h12⟩:=Zae h11
 exact ⟨_,_,_,_,_,ZaU hg rfl (Zab hu0 (Zab hu3 (Zab hu4 ZaL))),rfl,h12⟩
def ZtB (N:Nat):Zax:=(Zad).add [0,1,0,1,1] fun _ E s K=>ZtJ (Zbh ZmW E) s fun e_1 f_2 k_3 x_4 e_5=>Zfl N e_1 f_2 k_3 (Zhy K e_1 f_2 k_3) N x_4 e_5
theorem ZJx {N:Nat} (hC:Ok Tryz.prog C) (hΦ:Zaa Tryz.prog C (ZvQ N)):Za7 Tryz.prog ZGM (ZtB N) Zv2 [0,1,0,1,1] :=
 Za6 (Λi:=Zad) (tr:=true) (ks:=ZmW) (kx:=Zxw) (N:=N) (hC.rowed false true none Zju [] [] [] []) (hΦ.rowed false true none Zju [] [] [] [])
  (Zai (by kernel_rfl))
  fun R E s K r h=>by
   have h2:=Zax.add_self.symm.trans h
   refine (Zaw rfl).trans ?_
   obtain ⟨_,_,_,_,_,he,rfl,h3⟩:=ZqE h2
   rw [he]
   exact (ZFw N _ _ _ _ N _ _).trans h3
theorem ZN7:Za0 ZFH [] = [([0,1,0,1,1],Zv2)]:=by kernel_rfl
theorem ZQg {R:Type} (N:Nat) (e_1:List V) (f_2:Fl) (K:V → S → Option R):Za2 ZGM (ZvQ N) (ZtB N) 18 Tryz.f18 [.list 7 e_1 f_2] [] (GF rl K) =
 ZsB N e_1 f_2 (fun k_901 e_902=>K (.arr 0 0 0 k_901) [some ⟨e_902,7,49,0⟩]):=by kernel_rfl
theorem ZDD {N:Nat} (hC:Ok Tryz.prog C) (hΦ:Zaa Tryz.prog C (ZvQ N)):ZaV Tryz.prog ZGM (ZtB N) ZFH [] :=
 ZaG ZFH [] (by
  rw [ZN7]
  intro p hp
  simp only [List.mem_cons,List.mem_nil_iff,or_false] at hp
  rcases hp with rfl
  ·exact (ZJx hC hΦ))
theorem ZAp (hC:Ok Tryz.prog C) {N:Nat} (hΦ:Zaa Tryz.prog C (ZvQ N)):Zaa Tryz.prog C (ZJW N):=by
 refine hΦ.add_fresh rfl fun R vs K r h=>?_
 unfold ZNh at h
 obtain ⟨_,rfl,h1⟩:=Zat h
 obtain ⟨_,_,rfl,h2⟩:=Zam h1
 obtain ⟨_,h3⟩:=Zae h2
 refine Zem (C:=C) false true none Zju [] [] [] [] ?_
 refine ZeN (C:=ZGM) (fn:=Tryz.f18) (c:=ZFH) (hC.rowed false true none Zju [] [] [] []) (hΦ.rowed false true none Zju [] [] [] []) Tryz.func18 (by kernel_rfl) (by kernel_rfl) (ZDD (N:=N) hC hΦ) rfl rfl ?_
 refine (ZQg N _ _ _).trans ?_
 rw [← ZyO]
 exact h3
def ZM5 (N:Nat):(R:Type) → List V → S → (V → S → Option R) → Option R:=fun _ vs s K =>
 Zco vs fun v'1=>ZeJ v'1 fun e_1 f_2 x_3=>ZaR s <| Zvr N e_1 f_2 x_3 (fun k_901 x_902 e_903=>K (.agg [.arr 0 0 0 k_901,.int .i64 x_902]) [some ⟨e_903,7,49,0⟩])
def ZJ8 (N:Nat):Zar:=(ZJW N).add 6 (ZM5 N)
def ZSD:Code:=ZaS Tryz.f6
def ZoG:TypeId → Option (Nat × TypeId):=fun t=>if Nat.beq t 49 then some (6,51) else none
abbrev ZOr:Cfg:=C.rowed false true none ZoG [] [] [] []
theorem ZR4 {R:Type} (N:Nat) (e_1:List V) (f_2:Fl) (x_3:Int) (K:V → S → Option R):Za2 ZOr (ZJW N) (Zad) 6 Tryz.f6 [.agg [.list 7 e_1 f_2,.int .i64 x_3]] [] (GF rl K) =
 ZrK N e_1 f_2 x_3 (fun k_901 x_902 e_903=>K (.agg [.arr 0 0 0 k_901,.int .i64 x_902]) [some ⟨e_903,7,49,0⟩]):=by kernel_rfl
theorem ZBR (hC:Ok Tryz.prog C) {N:Nat} (hΦ:Zaa Tryz.prog C (ZJW N)):Zaa Tryz.prog C (ZJ8 N):=by
 refine hΦ.add_fresh rfl fun R vs K r h=>?_
 unfold ZM5 at h
 obtain ⟨_,rfl,h1⟩:=Zat h
 obtain ⟨_,_,_,rfl,h2⟩:=Zd9 h1
 obtain ⟨_,h3⟩:=Zae h2
 refine Zem (C:=C) false true none ZoG [] [] [] [] ?_
 refine ZeN (C:=ZOr) (fn:=Tryz.f6) (c:=ZSD) (hC.rowed false true none ZoG [] [] [] []) (hΦ.rowed false true none ZoG [] [] [] []) Tryz.func6 (by kernel_rfl) (by kernel_rfl) (Zai (Λ:=Zad) (by kernel_rfl)) rfl rfl ?_
 refine (ZR4 N _ _ _ _).trans ?_
 rw [← Zx6]
 exact h3
def ZNz (N:Nat):(R:Type) → List V → S → (V → S → Option R) → Option R:=fun _ vs s K =>
 Zco vs fun v'1=>Zer v'1 fun x_1 x_2=>ZaR s <| ZAL N x_1 x_2 (fun x_3 x_4=>K (.agg [.int .i64 x_3,.int .i64 x_4]) [])
def ZIH (N:Nat):Zar:=(ZJ8 N).add 7 (ZNz N)
def ZQm:Code:=ZaS Tryz.f7
theorem ZRC {R:Type} (N:Nat) (x_1 x_2:Int) (K:V → S → Option R):Za2 C (ZJ8 N) (Zad) 7 Tryz.f7 [.agg [.int .i64 x_1,.int .i64 x_2]] [] K =
 ZyS N x_1 x_2 (fun x_3 x_4=>K (.agg [.int .i64 x_3,.int .i64 x_4]) []):=by kernel_rfl
theorem ZBV (hC:Ok Tryz.prog C) {N:Nat} (hΦ:Zaa Tryz.prog C (ZJ8 N)):Zaa Tryz.prog C (ZIH N):=by
 refine hΦ.add_pure rfl fun R vs K r h=>?_
 unfold ZNz at h
 obtain ⟨_,rfl,h1⟩:=Zat h
 obtain ⟨_,_,rfl,h2⟩:=ZeP h1
 obtain ⟨_,h3⟩:=Zae h2
 refine Zaq (fn:=Tryz.f7) (c:=ZQm) hC hΦ Tryz.func7 (by kernel_rfl) (by kernel_rfl) (Zai (Λ:=Zad) (by kernel_rfl)) rfl rfl ?_
 refine (ZRC N _ _ _).trans ?_
 rw [← Zzx]
 exact h3
def ZO1 (N:Nat):(R:Type) → List V → S → (V → S → Option R) → Option R:=fun _ vs s K =>
 ZEn vs fun v'1 v'2 v'3=>asInt .i64 v'1 fun x_1=>asInt .i64 v'2 fun x_2=>asInt .i64 v'3 fun x_3=>ZaR s <| Zjh N x_1 x_2 x_3 (fun b_4=>K (.bool b_4) [])
def ZJi (N:Nat):Zar:=(ZIH N).add 49 (ZO1 N)
def ZRO:Code:=ZaS Tryz.f49
theorem ZQ8 {R:Type} (N:Nat) (x_1 x_2 x_3:Int) (K:V → S → Option R):Za2 C (ZIH N) (Zad) 49 Tryz.f49 [.int .i64 x_1,.int .i64 x_2,.int .i64 x_3] [] K =
 Zq2 N x_1 x_2 x_3 (fun b_4=>K (.bool b_4) []):=by kernel_rfl
theorem Zz1 (hC:Ok Tryz.prog C) {N:Nat} (hΦ:Zaa Tryz.prog C (ZIH N)):Zaa Tryz.prog C (ZJi N):=by
 refine hΦ.add_pure rfl fun R vs K r h=>?_
 unfold ZO1 at h
 obtain ⟨_,_,_,rfl,h1⟩:=ZcC h
 obtain ⟨_,rfl,h2⟩:=Zaf h1
 obtain ⟨_,rfl,h3⟩:=Zaf h2
 obtain ⟨_,rfl,h4⟩:=Zaf h3
 obtain ⟨_,h5⟩:=Zae h4
 refine Zaq (fn:=Tryz.f49) (c:=ZRO) hC hΦ Tryz.func49 (by kernel_rfl) (by kernel_rfl) (Zai (Λ:=Zad) (by kernel_rfl)) rfl rfl ?_
 refine (ZQ8 N _ _ _ _).trans ?_
 rw [← ZzS]
 exact h5
def ZOP (N:Nat):(R:Type) → List V → S → (V → S → Option R) → Option R:=fun _ vs s K =>
 Zco vs fun v'1=>asInt .i64 v'1 fun x_1=>ZaR s <| ZLO N x_1 (fun b_2=>K (.bool b_2) [])
def ZIN (N:Nat):Zar:=(ZJi N).add 50 (ZOP N)
def ZQ5:Code:=ZaS Tryz.f50
theorem ZRH {R:Type} (N:Nat) (x_1:Int) (K:V → S → Option R):Za2 C (ZJi N) (Zad) 50 Tryz.f50 [.int .i64 x_1] [] K =
 Zq9 N x_1 (fun b_2=>K (.bool b_2) []):=by kernel_rfl
theorem ZB3 (hC:Ok Tryz.prog C) {N:Nat} (hΦ:Zaa Tryz.prog C (ZJi N)):Zaa Tryz.prog C (ZIN N):=by
 refine hΦ.add_pure rfl fun R vs K r h=>?_
 unfold ZOP at h
 obtain ⟨_,rfl,h1⟩:=Zat h
 obtain ⟨_,rfl,h2⟩:=Zaf h1
 obtain ⟨_,h3⟩:=Zae h2
 refine Zaq (fn:=Tryz.f50) (c:=ZQ5) hC hΦ Tryz.func50 (by kernel_rfl) (by kernel_rfl) (Zai (Λ:=Zad) (by kernel_rfl)) rfl rfl ?_
 refine (ZRH N _ _).trans ?_
 rw [← Zya]
 exact h3
def ZOw (N:Nat):(R:Type) → List V → S → (V → S → Option R) → Option R:=fun _ vs s K =>
 Zco vs fun v'1=>asInt .i64 v'1 fun x_1=>ZaR s <| ZAB N x_1 (fun b_2=>K (.bool b_2) [])
def ZHp (N:Nat):Zar:=(ZIN N).add 54 (ZOw N)
def ZQo:Code:=ZaS Tryz.f54
theorem ZSv {R:Type} (N:Nat) (x_1:Int) (K:V → S → Option R):Za2 C (ZIN N) (Zad) 54 Tryz.f54 [.int .i64 x_1] [] K =
 Zmo N x_1 (fun b_2=>K (.bool b_2) []):=by kernel_rfl
theorem ZB9 (hC:Ok Tryz.prog C) {N:Nat} (hΦ:Zaa Tryz.prog C (ZIN N)):Zaa Tryz.prog C (ZHp N):=by
 refine hΦ.add_pure rfl fun R vs K r h=>?_
 unfold ZOw at h
 obtain ⟨_,rfl,h1⟩:=Zat h
 obtain ⟨_,rfl,h2⟩:=Zaf h1
 obtain ⟨_,h3⟩:=Zae h2
 refine Zaq (fn:=Tryz.f54) (c:=ZQo) hC hΦ Tryz.func54 (by kernel_rfl) (by kernel_rfl) (Zai (Λ:=Zad) (by kernel_rfl)) rfl rfl ?_
 refine (ZSv N _ _).trans ?_
 rw [← Zo6]
 exact h3
def ZOm (N:Nat):(R:Type) → List V → S → (V → S → Option R) → Option R:=fun _ vs s K =>
 Zco vs fun v'1=>ZaB v'1 fun x_1 x_2 x_3 x_4 x_5 w_6 e_7 f_8=>ZaR s <| ZLB N x_1 x_2 x_3 x_4 x_5 w_6 e_7 f_8 (fun b_9=>K (.bool b_9) [])
def ZJs (N:Nat):Zar:=(ZHp N).add 71 (ZOm N)
def ZQ3:Code:=ZaS Tryz.f71
theorem ZRZ {R:Type} (N:Nat) (x_1 x_2 x_3 x_4 x_5:Int) (w_6:ByteArray) (e_7:List V) (f_8:Fl) (K:V → S → Option R):Za2 C (ZHp N) (Zad) 71 Tryz.f71 [.agg [.int .i64 x_1,.int .i64 x_2,.int .i64 x_3,.int .i64 x_4,.int .i64 x_5,.str w_6,.list 2 e_7 f_8]] [] K =
 Zq8 N x_1 x_2 x_3 x_4 x_5 w_6 e_7 f_8 (fun b_9=>K (.bool b_9) []):=by kernel_rfl
theorem ZAX (hC:Ok Tryz.prog C) {N:Nat} (hΦ:Zaa Tryz.prog C (ZHp N)):Zaa Tryz.prog C (ZJs N):=by
 refine hΦ.add_pure rfl fun R vs K r h=>?_
 unfold ZOm at h
 obtain ⟨_,rfl,h1⟩:=Zat h
 obtain ⟨_,_,_,_,_,_,_,_,rfl,h2⟩:=Zb7 h1
 obtain ⟨_,h3⟩:=Zae h2
 refine Zaq (fn:=Tryz.f71) (c:=ZQ3) hC hΦ Tryz.func71 (by kernel_rfl) (by kernel_rfl) (Zai (Λ:=Zad) (by kernel_rfl)) rfl rfl ?_
 refine (ZRZ N _ _ _ _ _ _ _ _ _).trans ?_
 rw [← Zx3]
 exact h3
def ZN9 (N:Nat):(R:Type) → List V → S → (V → S → Option R) → Option R:=fun _ vs s K =>
 Zco vs fun v'1=>asInt .i64 v'1 fun x_1=>ZaR s <| ZK7 N x_1 (fun b_2=>K (.bool b_2) [])
def ZKm (N:Nat):Zar:=(ZJs N).add 72 (ZN9 N)
def ZQa:Code:=ZaS Tryz.f72
theorem ZSE {R:Type} (N:Nat) (x_1:Int) (K:V → S → Option R):Za2 C (ZJs N) (Zad) 72 Tryz.f72 [.int .i64 x_1] [] K =
 Zso N x_1 (fun b_2=>K (.bool b_2) []):=by kernel_rfl
theorem ZAP (hC:Ok Tryz.prog C) {N:Nat} (hΦ:Zaa Tryz.prog C (ZJs N)):Zaa Tryz.prog C (ZKm N):=by
 refine hΦ.add_pure rfl fun R vs K r h=>?_
 unfold ZN9 at h
 obtain ⟨_,rfl,h1⟩:=Zat h
 obtain ⟨_,rfl,h2⟩:=Zaf h1
 obtain ⟨_,h3⟩:=Zae h2
 refine Zaq (fn:=Tryz.f72) (c:=ZQa) hC hΦ Tryz.func72 (by kernel_rfl) (by kernel_rfl) (Zai (Λ:=Zad) (by kernel_rfl)) rfl rfl ?_
 refine (ZSE N _ _).trans ?_
 rw [← ZxK]
 exact h3
def ZOq (N:Nat):(R:Type) → List V → S → (V → S → Option R) → Option R:=fun _ vs s K =>
 Zco vs fun v'1=>asInt .i64 v'1 fun x_1=>ZaR s <| ZMn N x_1 (fun b_2=>K (.bool b_2) [])
def ZLq (N:Nat):Zar:=(ZKm N).add 73 (ZOq N)
def ZSi:Code:=ZaS Tryz.f73
theorem ZSc {R:Type} (N:Nat) (x_1:Int) (K:V → S → Option R):Za2 C (ZKm N) (Zad) 73 Tryz.f73 [.int .i64 x_1] [] K =
 Zsk N x_1 (fun b_2=>K (.bool b_2) []):=by kernel_rfl
theorem ZCf (hC:Ok Tryz.prog C) {N:Nat} (hΦ:Zaa Tryz.prog C (ZKm N)):Zaa Tryz.prog C (ZLq N):=by
 refine hΦ.add_pure rfl fun R vs K r h=>?_
 unfold ZOq at h
 obtain ⟨_,rfl,h1⟩:=Zat h
 obtain ⟨_,rfl,h2⟩:=Zaf h1
 obtain ⟨_,h3⟩:=Zae h2
 refine Zaq (fn:=Tryz.f73) (c:=ZSi) hC hΦ Tryz.func73 (by kernel_rfl) (by kernel_rfl) (Zai (Λ:=Zad) (by kernel_rfl)) rfl rfl ?_
 refine (ZSc N _ _).trans ?_
 rw [← Zy8]
 exact h3
def ZNB (N:Nat):(R:Type) → List V → S → (V → S → Option R) → Option R:=fun _ vs s K =>
 Zcf vs fun v'1 v'2=>Zby v'1 fun w_1=>asInt .u8 v'2 fun x_2=>ZaR s <| ZMQ N w_1 x_2 (fun x_3=>K (.int .i64 x_3) [])
def ZHX (N:Nat):Zar:=(ZLq N).add 107 (ZNB N)
theorem ZBH (hC:Ok Tryz.prog C) {N:Nat} (hΦ:Zaa Tryz.prog C (ZLq N)):Zaa Tryz.prog C (ZHX N):=by
 refine hΦ.add_pure rfl fun R vs K r h=>?_
 unfold ZNB at h
 obtain ⟨_,_,rfl,h1⟩:=Zas h
 obtain ⟨_,rfl,h2⟩:=ZaD h1
 obtain ⟨_,rfl,h3⟩:=Zaf h2
 obtain ⟨_,h4⟩:=Zae h3
 rw [ZwX] at h4
 exact ⟨_,h4,Zgh Tryz.func107 (by kernel_rfl) (by kernel_rfl) (by kernel_rfl) (by kernel_rfl) _ _⟩
def ZNq (N:Nat):(R:Type) → List V → S → (V → S → Option R) → Option R:=fun _ vs s K =>
 Zcf vs fun v'1 v'2=>Zby v'1 fun w_1=>asInt .u8 v'2 fun x_2=>ZaR s <| ZIi N w_1 x_2 (fun x_3=>K (.int .i64 x_3) [])
def ZFh (N:Nat):Zar:=(ZHX N).add 103 (ZNq N)
def ZR5:Code:=ZaS Tryz.f103
theorem ZRM {R:Type} (N:Nat) (w_1:ByteArray) (x_2:Int) (K:V → S → Option R):Za2 C (ZHX N) (Zad) 103 Tryz.f103 [.str w_1,.int .u8 x_2] [] K =
 ZrH N w_1 x_2 (fun x_3=>K (.int .i64 x_3) []):=by kernel_rfl
theorem ZBB (hC:Ok Tryz.prog C) {N:Nat} (hΦ:Zaa Tryz.prog C (ZHX N)):Zaa Tryz.prog C (ZFh N):=by
 refine hΦ.add_pure rfl fun R vs K r h=>?_
 unfold ZNq at h
 obtain ⟨_,_,rfl,h1⟩:=Zas h
 obtain ⟨_,rfl,h2⟩:=ZaD h1
 obtain ⟨_,rfl,h3⟩:=Zaf h2
 obtain ⟨_,h4⟩:=Zae h3
 refine Zaq (fn:=Tryz.f103) (c:=ZR5) hC hΦ Tryz.func103 (by kernel_rfl) (by kernel_rfl) (Zai (Λ:=Zad) (by kernel_rfl)) rfl rfl ?_
 refine (ZRM N _ _ _).trans ?_
 rw [← Zyl]
 exact h4
def ZPw (N:Nat):(R:Type) → List V → S → (V → S → Option R) → Option R:=fun _ vs s K =>
 Zcf vs fun v'1 v'2=>Zby v'1 fun w_1=>Zby v'2 fun w_2=>ZaR s <| ZMj N w_1 w_2 (fun x_3=>K (.int .i64 x_3) [])
def ZHW (N:Nat):Zar:=(ZFh N).add 101 (ZPw N)
def ZGd:Code:=ZaS Tryz.f101
def Zeh:Code:=(Zbn ZGd [] 0).2
theorem ZNU:Za0 ZGd [] = [([0,0,1,1,1,1,1,1,1,1],Zeh)]:=by kernel_rfl
theorem ZRm {R:Type} (N:Nat) (w_1 w_2:ByteArray) (K:V → S → Option R):Za2 C (ZFh N) (Zad) 101 Tryz.f101 [.str w_1,.str w_2] [] K =
 ZpJ N w_1 w_2 (fun x_3=>K (.int .i64 x_3) []):=by kernel_rfl
theorem ZGy {N:Nat} (hC:Ok Tryz.prog C) (hΦ:Zaa Tryz.prog C (ZFh N)):ZaV Tryz.prog C (Zad) ZGd [] :=
 ZaG ZGd [] (by
  rw [ZNU]
  intro p hp
  simp only [List.mem_cons,List.mem_nil_iff,or_false] at hp
  rcases hp with rfl
  ·exact ZtM)
theorem ZCs (hC:Ok Tryz.prog C) {N:Nat} (hΦ:Zaa Tryz.prog C (ZFh N)):Zaa Tryz.prog C (ZHW N):=by
 refine hΦ.add_pure rfl fun R vs K r h=>?_
 unfold ZPw at h
 obtain ⟨_,_,rfl,h1⟩:=Zas h
 obtain ⟨_,rfl,h2⟩:=ZaD h1
 obtain ⟨_,rfl,h3⟩:=ZaD h2
 obtain ⟨_,h4⟩:=Zae h3
 refine Zaq (fn:=Tryz.f101) (c:=ZGd) hC hΦ Tryz.func101 (by kernel_rfl) (by kernel_rfl) (ZGy (N:=N) hC hΦ) rfl rfl ?_
 refine (ZRm N _ _ _).trans ?_
 rw [← ZxN]
 exact h4
def ZN2 (N:Nat):(R:Type) → List V → S → (V → S → Option R) → Option R:=fun _ vs s K =>
 Zcf vs fun v'1 v'2=>Zby v'1 fun w_1=>Zby v'2 fun w_2=>ZaR s <| ZES N w_1 w_2 (fun x_3=>K (.int .i64 x_3) [])
def ZMo (N:Nat):Zar:=(ZHW N).add 96 (ZN2 N)
def ZQX:Code:=ZaS Tryz.f96
theorem ZSb {R:Type} (N:Nat) (w_1 w_2:ByteArray) (K:V → S → Option R):Za2 C (ZHW N) (Zad) 96 Tryz.f96 [.str w_1,.str w_2] [] K =
 ZqJ N w_1 w_2 (fun x_3=>K (.int .i64 x_3) []):=by kernel_rfl
theorem ZAg (hC:Ok Tryz.prog C) {N:Nat} (hΦ:Zaa Tryz.prog C (ZHW N)):Zaa Tryz.prog C (ZMo N):=by
 refine hΦ.add_pure rfl fun R vs K r h=>?_
 unfold ZN2 at h
 obtain ⟨_,_,rfl,h1⟩:=Zas h
 obtain ⟨_,rfl,h2⟩:=ZaD h1
 obtain ⟨_,rfl,h3⟩:=ZaD h2
 obtain ⟨_,h4⟩:=Zae h3
 refine Zaq (fn:=Tryz.f96) (c:=ZQX) hC hΦ Tryz.func96 (by kernel_rfl) (by kernel_rfl) (Zai (Λ:=Zad) (by kernel_rfl)) rfl rfl ?_
 refine (ZSb N _ _ _).trans ?_
 rw [← ZyV]
 exact h4
def ZNg (N:Nat):(R:Type) → List V → S → (V → S → Option R) → Option R:=fun _ vs s K =>
 Zcf vs fun v'1 v'2=>Zby v'1 fun w_1=>asInt .u8 v'2 fun x_2=>ZaR s <| ZH1 N w_1 x_2 (fun x_3=>K (.int .i64 x_3) [])
def ZwI (N:Nat):Zar:=(ZMo N).add 100 (ZNg N)
theorem ZAU (hC:Ok Tryz.prog C) {N:Nat} (hΦ:Zaa Tryz.prog C (ZMo N)):Zaa Tryz.prog C (ZwI N):=by
 refine hΦ.add_pure rfl fun R vs K r h=>?_
 unfold ZNg at h
 obtain ⟨_,_,rfl,h1⟩:=Zas h
 obtain ⟨_,rfl,h2⟩:=ZaD h1
 obtain ⟨_,rfl,h3⟩:=Zaf h2
 obtain ⟨_,h4⟩:=Zae h3
 rw [Zxx] at h4
 exact ⟨_,h4,Zj0 Tryz.func100 (by kernel_rfl) (by kernel_rfl) (by kernel_rfl) (by kernel_rfl) _ _⟩
def ZO4 (N:Nat):(R:Type) → List V → S → (V → S → Option R) → Option R:=fun _ vs s K =>
 Zcf vs fun v'1 v'2=>Zby v'1 fun w_1=>Zby v'2 fun w_2=>ZaR s <| ZFt N w_1 w_2 (fun x_3=>K (.int .i64 x_3) [])
def Zwa (N:Nat):Zar:=(ZwI N).add 95 (ZO4 N)
def ZGr:Code:=ZaS Tryz.f95
def Zvv:Code:=(Zbn ZGr [] 0).2
def ZnE:List Nat:=ZbR 34 [0,1,5]
def Zx7:List Nat:=ZbR 34 [4]
def ZkG (w_2 w_1:ByteArray) (x_3:Int):List V:=mkF 0 34 [(0,.str w_1),(1,.str w_2),(5,.int .i64 x_3)]
def Zh0 {R:Type} (K:X → List V → S → Option R) (w_2:ByteArray):Int → Option R:=(fun x_1'=>K .ret (mkF 0 34 [(4,.int .i64 (x_1'))]) [])
abbrev Zo8 {R:Type} (N:Nat):Nat → List V → S → (X → List V → S → Option R) → Option R:=fun n=>ZcX C (ZwI N) (Zad) Zvv [0,1,1,1,1] false ZnE Zx7 n R
theorem ZMv {R:Type} (N n:Nat) (w_2:ByteArray) (w_1:ByteArray) (x_3:Int) (K:X → List V → S → Option R) :
 Zo8 N (n + 1) (ZkG w_2 w_1 x_3) [] K =
 Zfj N w_2 (fun w_1 x_3=>Zo8 N n (ZkG w_2 w_1 x_3) [] K) w_1 x_3 (Zh0 K w_2):=by kernel_rfl
theorem ZF5 {R:Type} (N:Nat) (w_2:ByteArray) (K:X → List V → S → Option R):∀ (n:Nat) (w_1:ByteArray) (x_3:Int),
 Zo8 N n (ZkG w_2 w_1 x_3) [] K = Zpm N w_2 (Zh0 K w_2) n w_1 x_3
 | 0,_,_=>rfl
 | n + 1,w_1,x_3=>(ZMv N n w_2 w_1 x_3 K).trans (congrArg (fun nx=>Zfj N w_2 nx w_1 x_3 (Zh0 K w_2)) (funext fun w_1=>funext fun x_3=>ZF5 N w_2 K n w_1 x_3))
def Zwk {R:Type} (E:List V) (s:S) (k:ByteArray → ByteArray → Int → Option R):Option R :=
 Zaj (Za3 34 [0,1,5] E) <| Zlm E 0 fun w_1=>Zlm E 1 fun w_2=>ZaZ E 5 .i64 fun x_3=>ZaR s <| k w_1 w_2 x_3
theorem Zrp {R:Type} {E:List V} {s:S} {k:ByteArray → ByteArray → Int → Option R} {r:R} (h:Zwk E s k = some r):∃ w_1 w_2 x_3,E = ZkG w_2 w_1 x_3 ∧ s = [] ∧ k w_1 w_2 x_3 = some r:=by
 unfold Zwk at h
 obtain ⟨hg,h1⟩:=Zac h
 obtain ⟨_,hu0,h2⟩:=Zcl h1
 obtain ⟨_,hu1,h3⟩:=Zcl h2
 obtain ⟨_,hu5,h4⟩:=Zah h3
 obtain ⟨rfl,h5⟩:=Zae h4
 exact ⟨_,_,_,ZaU hg rfl (Zab hu0 (Zab hu1 (Zab hu5 ZaL))),rfl,h5⟩
def Zuc (N:Nat):Zax:=(Zad).add [0,1,1,1,1] fun _ E s K=>Zwk (Zbh ZnE E) s fun w_1 w_2 x_3=>Zpm N w_2 (Zh0 K w_2) N w_1 x_3
theorem ZJH {N:Nat} (hC:Ok Tryz.prog C) (hΦ:Zaa Tryz.prog C (ZwI N)):Za7 Tryz.prog C (Zuc N) Zvv [0,1,1,1,1] :=
 Za6 (Λi:=Zad) (tr:=false) (ks:=ZnE) (kx:=Zx7) (N:=N) hC hΦ
  (Zai (by kernel_rfl))
  fun R E s K r h=>by
   have h2:=Zax.add_self.symm.trans h
   refine (Zaw rfl).trans ?_
   obtain ⟨_,_,_,he,rfl,h3⟩:=Zrp h2
   rw [he]
   exact (ZF5 N _ _ N _ _).trans h3
theorem ZPa:Za0 ZGr [] = [([0,1,1,1,1],Zvv)]:=by kernel_rfl
theorem ZQT {R:Type} (N:Nat) (w_1 w_2:ByteArray) (K:V → S → Option R):Za2 C (ZwI N) (Zuc N) 95 Tryz.f95 [.str w_1,.str w_2] [] K =
 ZpO N w_1 w_2 (fun x_3=>K (.int .i64 x_3) []):=by kernel_rfl
theorem ZE3 {N:Nat} (hC:Ok Tryz.prog C) (hΦ:Zaa Tryz.prog C (ZwI N)):ZaV Tryz.prog C (Zuc N) ZGr [] :=
 ZaG ZGr [] (by
  rw [ZPa]
  intro p hp
  simp only [List.mem_cons,List.mem_nil_iff,or_false] at hp
  rcases hp with rfl
  ·exact (ZJH hC hΦ))
theorem ZBc (hC:Ok Tryz.prog C) {N:Nat} (hΦ:Zaa Tryz.prog C (ZwI N)):Zaa Tryz.prog C (Zwa N):=by
 refine hΦ.add_pure rfl fun R vs K r h=>?_
 unfold ZO4 at h
 obtain ⟨_,_,rfl,h1⟩:=Zas h
 obtain ⟨_,rfl,h2⟩:=ZaD h1
 obtain ⟨_,rfl,h3⟩:=ZaD h2
 obtain ⟨_,h4⟩:=Zae h3
 refine Zaq (fn:=Tryz.f95) (c:=ZGr) hC hΦ Tryz.func95 (by kernel_rfl) (by kernel_rfl) (ZE3 (N:=N) hC hΦ) rfl rfl ?_
 refine (ZQT N _ _ _).trans ?_
 rw [← ZxJ]
 exact h4
def ZNb (N:Nat):(R:Type) → List V → S → (V → S → Option R) → Option R:=fun _ vs s K =>
 ZLn vs fun v'1 v'2 v'3 v'4=>Zby v'1 fun w_1=>Zby v'2 fun w_2=>asInt .i64 v'3 fun x_3=>asInt .i64 v'4 fun x_4=>Zaj (ZbL []) <| Zaj (okI 0 [] []) <| ZMU N w_1 w_2 x_3 x_4 (fun e_901=>FK s [] rl K (.list 1 e_901 .sh) []) (fun k_902 e_903=>FK s [] rl K (.arr 0 0 0 k_902) [some ⟨e_903,1,9,0⟩])
def ZIs (N:Nat):Zar:=(Zwa N).add 88 (ZNb N)
def ZEN:Code:=ZaS Tryz.f88
def ZwN:Code:=(Zbn ZEN [] 0).2
def ZmZ:List Nat:=ZbR 66 [0,1,2,3,9,10]
def Zxj:List Nat:=ZbR 66 [0,9,10]
def ZkV (w_2:ByteArray) (x_3 x_4:Int) (k_5:Nat) (w_1:ByteArray) (x_6:Int) (e_7:List V):List V:=mkF 0 66 [(0,.str w_1),(1,.str w_2),(2,.int .i64 x_3),(3,.int .i64 x_4),(9,.arr 0 0 0 k_5),(10,.int .i64 x_6)]
def Ziw {R:Type} (K:X → List V → S → Option R) (w_2:ByteArray) (x_3:Int) (x_4:Int) (k_5:Nat):ByteArray → Int → List V → Option R:=(fun w_1' x_2' e_3'=>K (.exit 0) (mkF 0 66 [(0,.str (w_1')),(9,.arr 0 0 0 k_5),(10,.int .i64 (x_2'))]) [some ⟨e_3',1,9,0⟩])
abbrev ZoQ {R:Type} (N:Nat):Nat → List V → S → (X → List V → S → Option R) → Option R:=fun n=>ZcX C (Zwa N) (Zad) ZwN [0,0,1,1,1,1,1,1,1,1] false ZmZ Zxj n R
theorem ZL8 {R:Type} (N n:Nat) (w_2:ByteArray) (x_3 x_4:Int) (k_5:Nat) (w_1:ByteArray) (x_6:Int) (e_7:List V) (K:X → List V → S → Option R) :
 ZoQ N (n + 1) (ZkV w_2 x_3 x_4 k_5 w_1 x_6 e_7) [some ⟨e_7,1,9,0⟩] K =
 Zdl N w_2 x_3 x_4 k_5 (fun w_1 x_6 e_7=>ZoQ N n (ZkV w_2 x_3 x_4 k_5 w_1 x_6 e_7) [some ⟨e_7,1,9,0⟩] K) w_1 x_6 e_7 (Ziw K w_2 x_3 x_4 k_5):=by kernel_rfl
theorem ZEl {R:Type} (N:Nat) (w_2:ByteArray) (x_3 x_4:Int) (k_5:Nat) (K:X → List V → S → Option R):∀ (n:Nat) (w_1:ByteArray) (x_6:Int) (e_7:List V),
 ZoQ N n (ZkV w_2 x_3 x_4 k_5 w_1 x_6 e_7) [some ⟨e_7,1,9,0⟩] K = ZfP N w_2 x_3 x_4 k_5 (Ziw K w_2 x_3 x_4 k_5) n w_1 x_6 e_7
 | 0,_,_,_=>rfl
 | n + 1,w_1,x_6,e_7=>(ZL8 N n w_2 x_3 x_4 k_5 w_1 x_6 e_7 K).trans (congrArg (fun nx=>Zdl N w_2 x_3 x_4 k_5 nx w_1 x_6 e_7 (Ziw K w_2 x_3 x_4 k_5)) (funext fun w_1=>funext fun x_6=>funext fun e_7=>ZEl N w_2 x_3 x_4 k_5 K n w_1 x_6 e_7))
def Zud {R:Type} (E:List V) (s:S) (k:ByteArray → ByteArray → Int → Int → Nat → Int → List V → Option R):Option R :=
 Zaj (Za3 66 [0,1,2,3,9,10] E) <| Zlm E 0 fun w_1=>Zlm E 1 fun w_2=>ZaZ E 2 .i64 fun x_3=>ZaZ E 3 .i64 fun x_4=>Zbt (nth E 9) fun u9=>ZeC u9 fun k'1 k'2 k'3 k_5=>isN k'1 0 <| isN k'2 0 <| isN k'3 0 <| ZaZ E 10 .i64 fun x_6=>ZdW s fun o'4 s'5=>ZcW o'4 1 9 fun e_7 k'6=>isN k'6 0 <| ZaR s'5 <| k w_1 w_2 x_3 x_4 k_5 x_6 e_7
theorem ZpU {R:Type} {E:List V} {s:S} {k:ByteArray → ByteArray → Int → Int → Nat → Int → List V → Option R} {r:R} (h:Zud E s k = some r):∃ w_1 w_2 x_3 x_4 k_5 x_6 e_7,E = ZkV w_2 x_3 x_4 k_5 w_1 x_6 e_7 ∧ s = [some ⟨e_7,1,9,0⟩] ∧ k w_1 w_2 x_3 x_4 k_5 x_6 e_7 = some r:=by
 unfold Zud at h
 obtain ⟨hg,h1⟩:=Zac h
 obtain ⟨_,hu0,h2⟩:=Zcl h1
 obtain ⟨_,hu1,h3⟩:=Zcl h2
 obtain ⟨_,hu2,h4⟩:=Zah h3
 obtain ⟨_,hu3,h5⟩:=Zah h4
 obtain ⟨_,hu9,h6⟩:=Zag h5
 obtain ⟨_,_,_,_,rfl,h7⟩:=Zbz h6
 obtain ⟨rfl,h8⟩:=Zap h7
 obtain ⟨rfl,h9⟩:=Zap h8
 obtain ⟨rfl,h10⟩:=Zap h9
 obtain ⟨_,hu10,h11⟩:=Zah h10
 obtain ⟨_,_,rfl,h12⟩:=ZaP h11
 obtain ⟨_,_,rfl,h13⟩:=ZaJ h12
 obtain ⟨rfl,h14⟩:=Zap h13
 obtain ⟨rfl,h15⟩:=Zae h14
 exact ⟨_,_,_,_,_,_,_,ZaU hg rfl (Zab hu0 (Zab hu1 (Zab hu2 (Zab hu3 (Zab hu9 (Zab hu10 ZaL)))))),rfl,h15⟩
def Zt6 (N:Nat):Zax:=(Zad).add [0,0,1,1,1,1,1,1,1,1] fun _ E s K=>Zud (Zbh ZmZ E) s fun w_1 w_2 x_3 x_4 k_5 x_6 e_7=>ZfP N w_2 x_3 x_4 k_5 (Ziw K w_2 x_3 x_4 k_5) N w_1 x_6 e_7
theorem ZHG {N:Nat} (hC:Ok Tryz.prog C) (hΦ:Zaa Tryz.prog C (Zwa N)):Za7 Tryz.prog C (Zt6 N) ZwN [0,0,1,1,1,1,1,1,1,1] :=
 Za6 (Λi:=Zad) (tr:=false) (ks:=ZmZ) (kx:=Zxj) (N:=N) hC hΦ
  (Zai (by kernel_rfl))
  fun R E s K r h=>by
   have h2:=Zax.add_self.symm.trans h
   refine (Zaw rfl).trans ?_
   obtain ⟨_,_,_,_,_,_,_,he,rfl,h3⟩:=ZpU h2
   rw [he]
   exact (ZEl N _ _ _ _ _ N _ _ _).trans h3
theorem ZM6:Za0 ZEN [] = [([0,0,1,1,1,1,1,1,1,1],ZwN)]:=by kernel_rfl
theorem ZQe {R:Type} (N:Nat) (w_1 w_2:ByteArray) (x_3 x_4:Int) (K:V → S → Option R):Za2 C (Zwa N) (Zt6 N) 88 Tryz.f88 [.str w_1,.str w_2,.int .i64 x_3,.int .i64 x_4] [] (GK rl 0 K) =
 Zr2 N w_1 w_2 x_3 x_4 (fun e_901=>K (.list 1 e_901 .sh) []) (fun k_902 e_903=>K (.arr 0 0 0 k_902) [some ⟨e_903,1,9,0⟩]):=by kernel_rfl
theorem ZD9 {N:Nat} (hC:Ok Tryz.prog C) (hΦ:Zaa Tryz.prog C (Zwa N)):ZaV Tryz.prog C (Zt6 N) ZEN [] :=
 ZaG ZEN [] (by
  rw [ZM6]
  intro p hp
  simp only [List.mem_cons,List.mem_nil_iff,or_false] at hp
  rcases hp with rfl
  ·exact (ZHG hC hΦ))
theorem ZA4 (hC:Ok Tryz.prog C) {N:Nat} (hΦ:Zaa Tryz.prog C (Zwa N)):Zaa Tryz.prog C (ZIs N):=by
 refine hΦ.add_shared rfl fun R vs s K r h=>?_
 unfold ZNb at h
 obtain ⟨_,_,_,_,rfl,h1⟩:=Zfp h
 obtain ⟨w_1,rfl,h2⟩:=ZaD h1
 obtain ⟨w_2,rfl,h3⟩:=ZaD h2
 obtain ⟨x_3,rfl,h4⟩:=Zaf h3
 obtain ⟨x_4,rfl,h5⟩:=Zaf h4
 obtain ⟨hdist,h6⟩:=Zac h5
 obtain ⟨hin,h7⟩:=Zac h6
 refine Zcv (C:=C) (fn:=Tryz.f88) (c:=ZEN) (os:=[]) (rl:=rl) (bi:=[]) (s0:=[]) (as0:=[.str w_1,.str w_2,.int .i64 x_3,.int .i64 x_4]) hC (hΦ) Tryz.func88 (by kernel_rfl) (by kernel_rfl) (ZD9 (N:=N) hC hΦ) rfl (ZfB rfl) hdist trivial hin rfl rfl ?_
 refine (ZQe N _ _ _ _ _).trans ?_
 rw [← Zxs]
 exact h7
def ZNR (N:Nat):(R:Type) → List V → S → (V → S → Option R) → Option R:=fun _ vs s K =>
 Zcf vs fun v'1 v'2=>Zby v'1 fun w_1=>Zby v'2 fun w_2=>Zaj (ZbL []) <| Zaj (okI 0 [] []) <| ZJe N w_1 w_2 (fun e_901=>FK s [] rl K (.list 1 e_901 .sh) []) (fun k_902 e_903=>FK s [] rl K (.arr 0 0 0 k_902) [some ⟨e_903,1,9,0⟩])
def ZHC (N:Nat):Zar:=(ZIs N).add 79 (ZNR N)
def ZP4:Code:=ZaS Tryz.f79
theorem ZQb {R:Type} (N:Nat) (w_1 w_2:ByteArray) (K:V → S → Option R):Za2 C (ZIs N) (Zad) 79 Tryz.f79 [.str w_1,.str w_2] [] (GK rl 0 K) =
 ZqP N w_1 w_2 (fun e_901=>K (.list 1 e_901 .sh) []) (fun k_902 e_903=>K (.arr 0 0 0 k_902) [some ⟨e_903,1,9,0⟩]):=by kernel_rfl
theorem ZBC (hC:Ok Tryz.prog C) {N:Nat} (hΦ:Zaa Tryz.prog C (ZIs N)):Zaa Tryz.prog C (ZHC N):=by
 refine hΦ.add_shared rfl fun R vs s K r h=>?_
 unfold ZNR at h
 obtain ⟨_,_,rfl,h1⟩:=Zas h
 obtain ⟨w_1,rfl,h2⟩:=ZaD h1
 obtain ⟨w_2,rfl,h3⟩:=ZaD h2
 obtain ⟨hdist,h4⟩:=Zac h3
 obtain ⟨hin,h5⟩:=Zac h4
 refine Zcv (C:=C) (fn:=Tryz.f79) (c:=ZP4) (os:=[]) (rl:=rl) (bi:=[]) (s0:=[]) (as0:=[.str w_1,.str w_2]) hC (hΦ) Tryz.func79 (by kernel_rfl) (by kernel_rfl) (Zai (Λ:=Zad) (by kernel_rfl)) rfl (ZfB rfl) hdist trivial hin rfl rfl ?_
 refine (ZQb N _ _ _).trans ?_
 rw [← ZyY]
 exact h5
def ZPn (N:Nat):(R:Type) → List V → S → (V → S → Option R) → Option R:=fun _ vs s K =>
 Zco vs fun v'1=>Zby v'1 fun w_1=>ZaR s <| ZED N w_1 (fun b_2=>K (.bool b_2) [])
def Zvd (N:Nat):Zar:=(ZHC N).add 80 (ZPn N)
def ZRs:Code:=ZaS Tryz.f80
theorem ZRl {R:Type} (N:Nat) (w_1:ByteArray) (K:V → S → Option R):Za2 C (ZHC N) (Zad) 80 Tryz.f80 [.str w_1] [] K =
 ZmG N w_1 (fun b_2=>K (.bool b_2) []):=by kernel_rfl
theorem ZB5 (hC:Ok Tryz.prog C) {N:Nat} (hΦ:Zaa Tryz.prog C (ZHC N)):Zaa Tryz.prog C (Zvd N):=by
 refine hΦ.add_pure rfl fun R vs K r h=>?_
 unfold ZPn at h
 obtain ⟨_,rfl,h1⟩:=Zat h
 obtain ⟨_,rfl,h2⟩:=ZaD h1
 obtain ⟨_,h3⟩:=Zae h2
 refine Zaq (fn:=Tryz.f80) (c:=ZRs) hC hΦ Tryz.func80 (by kernel_rfl) (by kernel_rfl) (Zai (Λ:=Zad) (by kernel_rfl)) rfl rfl ?_
 refine (ZRl N _ _).trans ?_
 rw [← Zpp]
 exact h3
def ZNY (N:Nat):(R:Type) → List V → S → (V → S → Option R) → Option R:=fun _ vs s K =>
 Zcf vs fun v'1 v'2=>ZaX 1 v'1 fun e_1 f_2=>ZCB 80 v'2 fun c'3=>ZB4 c'3 <| ZaR s <| ZKe N e_1 f_2 (fun x_3=>K (.int .i64 x_3) [])
def Zts (N:Nat):Zar:=(Zvd N).addIf 87 (fun l=>ZOX 1 80 l) (ZNY N)
def ZGm:Code:=ZaS Tryz.f87
def Zvn:Code:=(Zbn ZGm [] 0).2
def Zoo:List Nat:=ZbR 19 [0,1,7,8]
def Zy0:List Nat:=ZbR 19 [4]
def Zkh (e_1:List V) (f_2:Fl) (x_3 x_4:Int):List V:=mkF 0 19 [(0,.list 1 e_1 f_2),(1,.fn 80 []),(7,.int .i64 x_3),(8,.int .i64 x_4)]
def ZhE {R:Type} (K:X → List V → S → Option R) (e_1:List V) (f_2:Fl) (x_3:Int):Int → Option R:=(fun x_1'=>K .ret (mkF 0 19 [(4,.int .i64 (x_1'))]) [])
def ZhY {R:Type} (K:X → List V → S → Option R) (e_1:List V) (f_2:Fl) (x_3:Int):Unit → Option R:=(fun _=>K (.exit 0) (mkF 0 19 []) [])
abbrev Znl {R:Type} (N:Nat):Nat → List V → S → (X → List V → S → Option R) → Option R:=fun n=>ZcX C (Zvd N) (Zad) Zvn [0,1,0,1] false Zoo Zy0 n R
theorem ZLC {R:Type} (N n:Nat) (e_1:List V) (f_2:Fl) (x_3:Int) (x_4:Int) (K:X → List V → S → Option R) :
 Znl N (n + 1) (Zkh e_1 f_2 x_3 x_4) [] K =
 Zdi N e_1 f_2 x_3 (fun x_4=>Znl N n (Zkh e_1 f_2 x_3 x_4) [] K) x_4 (ZhE K e_1 f_2 x_3) (ZhY K e_1 f_2 x_3):=by kernel_rfl
theorem ZFI {R:Type} (N:Nat) (e_1:List V) (f_2:Fl) (x_3:Int) (K:X → List V → S → Option R):∀ (n:Nat) (x_4:Int),
 Znl N n (Zkh e_1 f_2 x_3 x_4) [] K = ZgI N e_1 f_2 x_3 (ZhE K e_1 f_2 x_3) (ZhY K e_1 f_2 x_3) n x_4
 | 0,_=>rfl
 | n + 1,x_4=>(ZLC N n e_1 f_2 x_3 x_4 K).trans (congrArg (fun nx=>Zdi N e_1 f_2 x_3 nx x_4 (ZhE K e_1 f_2 x_3) (ZhY K e_1 f_2 x_3)) (funext fun x_4=>ZFI N e_1 f_2 x_3 K n x_4))
def Zvc {R:Type} (E:List V) (s:S) (k:List V → Fl → Int → Int → Option R):Option R :=
 Zaj (Za3 19 [0,1,7,8] E) <| Zbu E 0 1 fun e_1 f_2=>Zbt (nth E 1) fun u1=>ZCB 80 u1 fun c'1=>ZB4 c'1 <| ZaZ E 7 .i64 fun x_3=>ZaZ E 8 .i64 fun x_4=>ZaR s <| k e_1 f_2 x_3 x_4
theorem Zp1 {R:Type} {E:List V} {s:S} {k:List V → Fl → Int → Int → Option R} {r:R} (h:Zvc E s k = some r):∃ e_1 f_2 x_3 x_4,E = Zkh e_1 f_2 x_3 x_4 ∧ s = [] ∧ k e_1 f_2 x_3 x_4 = some r:=by
 unfold Zvc at h
 obtain ⟨hg,h1⟩:=Zac h
 obtain ⟨_,_,hu0,h2⟩:=ZaC h1
 obtain ⟨_,hu1,h3⟩:=Zag h2
 obtain ⟨_,rfl,h4⟩:=ZcA h3
 obtain ⟨rfl,h5⟩:=Zcp h4
 obtain ⟨_,hu7,h6⟩:=Zah h5
 obtain ⟨_,hu8,h7⟩:=Zah h6
 obtain ⟨rfl,h8⟩:=Zae h7
 exact ⟨_,_,_,_,ZaU hg rfl (Zab hu0 (Zab hu1 (Zab hu7 (Zab hu8 ZaL)))),rfl,h8⟩
def Zwu (N:Nat):Zax:=(Zad).add [0,1,0,1] fun _ E s K=>Zvc (Zbh Zoo E) s fun e_1 f_2 x_3 x_4=>ZgI N e_1 f_2 x_3 (ZhE K e_1 f_2 x_3) (ZhY K e_1 f_2 x_3) N x_4
theorem ZHN {N:Nat} (hC:Ok Tryz.prog C) (hΦ:Zaa Tryz.prog C (Zvd N)):Za7 Tryz.prog C (Zwu N) Zvn [0,1,0,1] :=
 Za6 (Λi:=Zad) (tr:=false) (ks:=Zoo) (kx:=Zy0) (N:=N) hC hΦ
  (Zai (by kernel_rfl))
  fun R E s K r h=>by
   have h2:=Zax.add_self.symm.trans h
   refine (Zaw rfl).trans ?_
   obtain ⟨_,_,_,_,he,rfl,h3⟩:=Zp1 h2
   rw [he]
   exact (ZFI N _ _ _ _ N _).trans h3
theorem ZPu:Za0 ZGm [] = [([0,1,0,1],Zvn)]:=by kernel_rfl
theorem ZRn {R:Type} (N:Nat) (e_1:List V) (f_2:Fl) (K:V → S → Option R):Za2 C (Zvd N) (Zwu N) 87 Tryz.f87 [.list 1 e_1 f_2,.fn 80 []] [] K =
 ZrB N e_1 f_2 (fun x_3=>K (.int .i64 x_3) []):=by kernel_rfl
theorem ZDo {N:Nat} (hC:Ok Tryz.prog C) (hΦ:Zaa Tryz.prog C (Zvd N)):ZaV Tryz.prog C (Zwu N) ZGm [] :=
 ZaG ZGm [] (by
  rw [ZPu]
  intro p hp
  simp only [List.mem_cons,List.mem_nil_iff,or_false] at hp
  rcases hp with rfl
  ·exact (ZHN hC hΦ))
theorem ZBw (hC:Ok Tryz.prog C) {N:Nat} (hΦ:Zaa Tryz.prog C (Zvd N)):Zaa Tryz.prog C (Zts N):=by
 refine hΦ.addIf_pure rfl fun R vs K r h=>?_
 unfold ZNY at h
 obtain ⟨_,_,rfl,h1⟩:=Zas h
 obtain ⟨_,_,rfl,h2⟩:=Zam h1
 obtain ⟨_,rfl,h3⟩:=ZcA h2
 obtain ⟨rfl,h4⟩:=Zcp h3
 obtain ⟨_,h5⟩:=Zae h4
 refine Zaq (fn:=Tryz.f87) (c:=ZGm) hC hΦ Tryz.func87 (by kernel_rfl) (by kernel_rfl) (ZDo (N:=N) hC hΦ) rfl rfl ?_
 refine (ZRn N _ _ _).trans ?_
 rw [← Zy1]
 exact h5
def ZNL (N:Nat):(R:Type) → List V → S → (V → S → Option R) → Option R:=fun _ vs s K =>
 Zcf vs fun v'1 v'2=>ZeC v'1 fun o0 k'4 k'5 k_1=>isN k'4 0 <| isN k'5 0 <| ZCB 80 v'2 fun c'6=>ZB4 c'6 <| ZKO s o0 0 fun o'7=>ZcW o'7 1 9 fun e_2 k'9=>isN k'9 0 <| Zaj (ZbL [o0]) <| Zaj (okI 1 [false] [some ⟨e_2,1,9,0⟩]) <| ZJ2 N k_1 e_2 (fun k_901 e_902=>FK s [o0] rl K (.arr 0 0 0 k_901) [some ⟨e_902,1,9,0⟩])
def ZIj (N:Nat):Zar:=(Zts N).addIf 78 (fun l=>ZQA 1 80 l) (ZNL N)
def ZCG:Code:=ZaS Tryz.f78
def Zuy:Code:=(Zbn ZCG [] 0).2
def ZoW:List Nat:=ZbR 42 [0,1,5,6]
def Zym:List Nat:=ZbR 42 [0,5]
def Zka (k_1:Nat) (x_2 x_3:Int) (e_4:List V):List V:=mkF 0 42 [(0,.arr 0 0 0 k_1),(1,.fn 80 []),(5,.int .i64 x_2),(6,.int .i64 x_3)]
def Zim {R:Type} (K:X → List V → S → Option R) (k_1:Nat):Int → List V → Option R:=(fun x_1' e_2'=>K (.exit 0) (mkF 0 42 [(0,.arr 0 0 0 k_1),(5,.int .i64 (x_1'))]) [some ⟨e_2',1,9,0⟩])
abbrev Zom {R:Type} (N:Nat):Nat → List V → S → (X → List V → S → Option R) → Option R:=fun n=>ZcX C (Zts N) (Zad) Zuy [0,1,0,1,1,1] false ZoW Zym n R
theorem ZMu {R:Type} (N n:Nat) (k_1:Nat) (x_2 x_3:Int) (e_4:List V) (K:X → List V → S → Option R) :
 Zom N (n + 1) (Zka k_1 x_2 x_3 e_4) [some ⟨e_4,1,9,0⟩] K =
 Zdk N k_1 (fun x_2 x_3 e_4=>Zom N n (Zka k_1 x_2 x_3 e_4) [some ⟨e_4,1,9,0⟩] K) x_2 x_3 e_4 (Zim K k_1):=by kernel_rfl
theorem ZDC {R:Type} (N:Nat) (k_1:Nat) (K:X → List V → S → Option R):∀ (n:Nat) (x_2 x_3:Int) (e_4:List V),
 Zom N n (Zka k_1 x_2 x_3 e_4) [some ⟨e_4,1,9,0⟩] K = Zfi N k_1 (Zim K k_1) n x_2 x_3 e_4
 | 0,_,_,_=>rfl
 | n + 1,x_2,x_3,e_4=>(ZMu N n k_1 x_2 x_3 e_4 K).trans (congrArg (fun nx=>Zdk N k_1 nx x_2 x_3 e_4 (Zim K k_1)) (funext fun x_2=>funext fun x_3=>funext fun e_4=>ZDC N k_1 K n x_2 x_3 e_4))
def Zvt {R:Type} (E:List V) (s:S) (k:Nat → Int → Int → List V → Option R):Option R :=
 Zaj (Za3 42 [0,1,5,6] E) <| Zbt (nth E 0) fun u0=>ZeC u0 fun k'1 k'2 k'3 k_1=>isN k'1 0 <| isN k'2 0 <| isN k'3 0 <| Zbt (nth E 1) fun u1=>ZCB 80 u1 fun c'4=>ZB4 c'4 <| ZaZ E 5 .i64 fun x_2=>ZaZ E 6 .i64 fun x_3=>ZdW s fun o'5 s'6=>ZcW o'5 1 9 fun e_4 k'7=>isN k'7 0 <| ZaR s'6 <| k k_1 x_2 x_3 e_4
theorem ZsR {R:Type} {E:List V} {s:S} {k:Nat → Int → Int → List V → Option R} {r:R} (h:Zvt E s k = some r):∃ k_1 x_2 x_3 e_4,E = Zka k_1 x_2 x_3 e_4 ∧ s = [some ⟨e_4,1,9,0⟩] ∧ k k_1 x_2 x_3 e_4 = some r:=by
 unfold Zvt at h
 obtain ⟨hg,h1⟩:=Zac h
 obtain ⟨_,hu0,h2⟩:=Zag h1
 obtain ⟨_,_,_,_,rfl,h3⟩:=Zbz h2
 obtain ⟨rfl,h4⟩:=Zap h3
 obtain ⟨rfl,h5⟩:=Zap h4
 obtain ⟨rfl,h6⟩:=Zap h5
 obtain ⟨_,hu1,h7⟩:=Zag h6
 obtain ⟨_,rfl,h8⟩:=ZcA h7
 obtain ⟨rfl,h9⟩:=Zcp h8
 obtain ⟨_,hu5,h10⟩:=Zah h9
 obtain ⟨_,hu6,h11⟩:=Zah h10
 obtain ⟨_,_,rfl,h12⟩:=ZaP h11
 obtain ⟨_,_,rfl,h13⟩:=ZaJ h12
 obtain ⟨rfl,h14⟩:=Zap h13
 obtain ⟨rfl,h15⟩:=Zae h14
 exact ⟨_,_,_,_,ZaU hg rfl (Zab hu0 (Zab hu1 (Zab hu5 (Zab hu6 ZaL)))),rfl,h15⟩
def Zub (N:Nat):Zax:=(Zad).add [0,1,0,1,1,1] fun _ E s K=>Zvt (Zbh ZoW E) s fun k_1 x_2 x_3 e_4=>Zfi N k_1 (Zim K k_1) N x_2 x_3 e_4
theorem ZIy {N:Nat} (hC:Ok Tryz.prog C) (hΦ:Zaa Tryz.prog C (Zts N)):Za7 Tryz.prog C (Zub N) Zuy [0,1,0,1,1,1] :=
 Za6 (Λi:=Zad) (tr:=false) (ks:=ZoW) (kx:=Zym) (N:=N) hC hΦ
  (Zai (by kernel_rfl))
  fun R E s K r h=>by
   have h2:=Zax.add_self.symm.trans h
   refine (Zaw rfl).trans ?_
   obtain ⟨_,_,_,_,he,rfl,h3⟩:=ZsR h2
   rw [he]
   exact (ZDC N _ _ N _ _ _).trans h3
theorem ZPj:Za0 ZCG [] = [([0,1,0,1,1,1],Zuy)]:=by kernel_rfl
theorem ZSz {R:Type} (N:Nat) (k_1:Nat) (e_2:List V) (K:V → S → Option R):Za2 C (Zts N) (Zub N) 78 Tryz.f78 [.arr 0 0 0 k_1,.fn 80 []] [some ⟨e_2,1,9,0⟩] (GK rl 1 K) =
 ZrW N k_1 e_2 (fun k_901 e_902=>K (.arr 0 0 0 k_901) [some ⟨e_902,1,9,0⟩]):=by kernel_rfl
theorem ZFU {N:Nat} (hC:Ok Tryz.prog C) (hΦ:Zaa Tryz.prog C (Zts N)):ZaV Tryz.prog C (Zub N) ZCG [] :=
 ZaG ZCG [] (by
  rw [ZPj]
  intro p hp
  simp only [List.mem_cons,List.mem_nil_iff,or_false] at hp
  rcases hp with rfl
  ·exact (ZIy hC hΦ))
theorem ZA1 (hC:Ok Tryz.prog C) {N:Nat} (hΦ:Zaa Tryz.prog C (Zts N)):Zaa Tryz.prog C (ZIj N):=by
 refine hΦ.addIf_shared rfl fun R vs s K r h=>?_
 unfold ZNL at h
 obtain ⟨_,_,rfl,h1⟩:=Zas h
 obtain ⟨o0,_,_,k_1,rfl,h2⟩:=Zbz h1
 obtain ⟨rfl,h3⟩:=Zap h2
 obtain ⟨rfl,h4⟩:=Zap h3
 obtain ⟨_,rfl,h5⟩:=ZcA h4
 obtain ⟨rfl,h6⟩:=Zcp h5
 obtain ⟨_,hob0,h7⟩:=Zez h6
 obtain ⟨e_2,_,rfl,h8⟩:=ZaJ h7
 obtain ⟨rfl,h9⟩:=Zap h8
 obtain ⟨hdist,h10⟩:=Zac h9
 obtain ⟨hin,h11⟩:=Zac h10
 refine Zcv (C:=C) (fn:=Tryz.f78) (c:=ZCG) (os:=[o0]) (rl:=rl) (bi:=[false]) (s0:=[some ⟨e_2,1,9,0⟩]) (as0:=[.arr 0 0 0 k_1,.fn 80 []]) hC (hΦ) Tryz.func78 (by kernel_rfl) (by kernel_rfl) (ZFU (N:=N) hC hΦ) rfl (ZfB rfl) hdist ⟨⟨_,rfl,hob0⟩,trivial⟩ hin rfl rfl ?_
 refine (ZSz N _ _ _).trans ?_
 rw [← ZzB]
 exact h11
def ZNe (N:Nat):(R:Type) → List V → S → (V → S → Option R) → Option R:=fun _ vs s K =>
 Zco vs fun v'1=>Zby v'1 fun w_1=>ZaR s <| ZpK N w_1 (fun e_2=>K (.list 1 e_2 .sh) [])
def ZKd (N:Nat):Zar:=(ZIj N).add 57 (ZNe N)
def ZRR:Code:=ZaS Tryz.f57
theorem ZQr {R:Type} (N:Nat) (w_1:ByteArray) (K:V → S → Option R):Za2 C (ZIj N) (Zad) 57 Tryz.f57 [.str w_1] [] K =
 Zsv N w_1 (fun e_2=>K (.list 1 e_2 .sh) []):=by kernel_rfl
theorem ZA2 (hC:Ok Tryz.prog C) {N:Nat} (hΦ:Zaa Tryz.prog C (ZIj N)):Zaa Tryz.prog C (ZKd N):=by
 refine hΦ.add_pure rfl fun R vs K r h=>?_
 unfold ZNe at h
 obtain ⟨_,rfl,h1⟩:=Zat h
 obtain ⟨_,rfl,h2⟩:=ZaD h1
 obtain ⟨_,h3⟩:=Zae h2
 refine Zaq (fn:=Tryz.f57) (c:=ZRR) hC hΦ Tryz.func57 (by kernel_rfl) (by kernel_rfl) (Zai (Λ:=Zad) (by kernel_rfl)) rfl rfl ?_
 refine (ZQr N _ _).trans ?_
 rw [← ZxE]
 exact h3
def ZPL (N:Nat):(R:Type) → List V → S → (V → S → Option R) → Option R:=fun _ vs s K =>
 Zco vs fun v'1=>asInt .u8 v'1 fun x_1=>ZaR s <| ZHz N x_1 (fun b_2=>K (.bool b_2) [])
def ZGT (N:Nat):Zar:=(ZKd N).add 93 (ZPL N)
def ZSu:Code:=ZaS Tryz.f93
theorem ZRG {R:Type} (N:Nat) (x_1:Int) (K:V → S → Option R):Za2 C (ZKd N) (Zad) 93 Tryz.f93 [.int .u8 x_1] [] K =
 ZrX N x_1 (fun b_2=>K (.bool b_2) []):=by kernel_rfl
theorem ZAy (hC:Ok Tryz.prog C) {N:Nat} (hΦ:Zaa Tryz.prog C (ZKd N)):Zaa Tryz.prog C (ZGT N):=by
 refine hΦ.add_pure rfl fun R vs K r h=>?_
 unfold ZPL at h
 obtain ⟨_,rfl,h1⟩:=Zat h
 obtain ⟨_,rfl,h2⟩:=Zaf h1
 obtain ⟨_,h3⟩:=Zae h2
 refine Zaq (fn:=Tryz.f93) (c:=ZSu) hC hΦ Tryz.func93 (by kernel_rfl) (by kernel_rfl) (Zai (Λ:=Zad) (by kernel_rfl)) rfl rfl ?_
 refine (ZRG N _ _).trans ?_
 rw [← ZzC]
 exact h3
def ZNZ (N:Nat):(R:Type) → List V → S → (V → S → Option R) → Option R:=fun _ vs s K =>
 Zco vs fun v'1=>asInt .u8 v'1 fun x_1=>ZaR s <| ZMx N x_1 (fun b_2=>K (.bool b_2) [])
def ZvT (N:Nat):Zar:=(ZGT N).add 92 (ZNZ N)
def ZRJ:Code:=ZaS Tryz.f92
theorem ZRV {R:Type} (N:Nat) (x_1:Int) (K:V → S → Option R):Za2 C (ZGT N) (Zad) 92 Tryz.f92 [.int .u8 x_1] [] K =
 Zrx N x_1 (fun b_2=>K (.bool b_2) []):=by kernel_rfl
theorem Zz4 (hC:Ok Tryz.prog C) {N:Nat} (hΦ:Zaa Tryz.prog C (ZGT N)):Zaa Tryz.prog C (ZvT N):=by
 refine hΦ.add_pure rfl fun R vs K r h=>?_
 unfold ZNZ at h
 obtain ⟨_,rfl,h1⟩:=Zat h
 obtain ⟨_,rfl,h2⟩:=Zaf h1
 obtain ⟨_,h3⟩:=Zae h2
 refine Zaq (fn:=Tryz.f92) (c:=ZRJ) hC hΦ Tryz.func92 (by kernel_rfl) (by kernel_rfl) (Zai (Λ:=Zad) (by kernel_rfl)) rfl rfl ?_
 refine (ZRV N _ _).trans ?_
 rw [← Zzc]
 exact h3
def ZNC (N:Nat):(R:Type) → List V → S → (V → S → Option R) → Option R:=fun _ vs s K =>
 Zcf vs fun v'1 v'2=>ZaX 1 v'1 fun e_1 f_2=>ZCB 92 v'2 fun c'3=>ZB4 c'3 <| ZaR s <| ZL4 N e_1 f_2 (fun x_3=>K (.int .i64 x_3) [])
def ZHo (N:Nat):Zar:=(ZvT N).addIf 97 (fun l=>ZOX 1 92 l) (ZNC N)
def ZDf:Code:=ZaS Tryz.f97
def Zus:Code:=(Zbn ZDf [] 0).2
def Zoy:List Nat:=ZbR 19 [0,1,7,8]
def ZxS:List Nat:=ZbR 19 [4]
def Zke (e_1:List V) (f_2:Fl) (x_3 x_4:Int):List V:=mkF 0 19 [(0,.list 1 e_1 f_2),(1,.fn 92 []),(7,.int .i64 x_3),(8,.int .i64 x_4)]
def Zh9 {R:Type} (K:X → List V → S → Option R) (e_1:List V) (f_2:Fl) (x_3:Int):Int → Option R:=(fun x_1'=>K .ret (mkF 0 19 [(4,.int .i64 (x_1'))]) [])
def ZhS {R:Type} (K:X → List V → S → Option R) (e_1:List V) (f_2:Fl) (x_3:Int):Unit → Option R:=(fun _=>K (.exit 0) (mkF 0 19 []) [])
abbrev Zpd {R:Type} (N:Nat):Nat → List V → S → (X → List V → S → Option R) → Option R:=fun n=>ZcX C (ZvT N) (Zad) Zus [0,1,0,1] false Zoy ZxS n R
theorem ZLS {R:Type} (N n:Nat) (e_1:List V) (f_2:Fl) (x_3:Int) (x_4:Int) (K:X → List V → S → Option R) :
 Zpd N (n + 1) (Zke e_1 f_2 x_3 x_4) [] K =
 Zdc N e_1 f_2 x_3 (fun x_4=>Zpd N n (Zke e_1 f_2 x_3 x_4) [] K) x_4 (Zh9 K e_1 f_2 x_3) (ZhS K e_1 f_2 x_3):=by kernel_rfl
theorem ZGl {R:Type} (N:Nat) (e_1:List V) (f_2:Fl) (x_3:Int) (K:X → List V → S → Option R):∀ (n:Nat) (x_4:Int),
 Zpd N n (Zke e_1 f_2 x_3 x_4) [] K = ZgJ N e_1 f_2 x_3 (Zh9 K e_1 f_2 x_3) (ZhS K e_1 f_2 x_3) n x_4
 | 0,_=>rfl
 | n + 1,x_4=>(ZLS N n e_1 f_2 x_3 x_4 K).trans (congrArg (fun nx=>Zdc N e_1 f_2 x_3 nx x_4 (Zh9 K e_1 f_2 x_3) (ZhS K e_1 f_2 x_3)) (funext fun x_4=>ZGl N e_1 f_2 x_3 K n x_4))
def ZuD {R:Type} (E:List V) (s:S) (k:List V → Fl → Int → Int → Option R):Option R :=
 Zaj (Za3 19 [0,1,7,8] E) <| Zbu E 0 1 fun e_1 f_2=>Zbt (nth E 1) fun u1=>ZCB 92 u1 fun c'1=>ZB4 c'1 <| ZaZ E 7 .i64 fun x_3=>ZaZ E 8 .i64 fun x_4=>ZaR s <| k e_1 f_2 x_3 x_4
theorem ZpM {R:Type} {E:List V} {s:S} {k:List V → Fl → Int → Int → Option R} {r:R} (h:ZuD E s k = some r):∃ e_1 f_2 x_3 x_4,E = Zke e_1 f_2 x_3 x_4 ∧ s = [] ∧ k e_1 f_2 x_3 x_4 = some r:=by
 unfold ZuD at h
 obtain ⟨hg,h1⟩:=Zac h
 obtain ⟨_,_,hu0,h2⟩:=ZaC h1
 obtain ⟨_,hu1,h3⟩:=Zag h2
 obtain ⟨_,rfl,h4⟩:=ZcA h3
 obtain ⟨rfl,h5⟩:=Zcp h4
 obtain ⟨_,hu7,h6⟩:=Zah h5
 obtain ⟨_,hu8,h7⟩:=Zah h6
 obtain ⟨rfl,h8⟩:=Zae h7
 exact ⟨_,_,_,_,ZaU hg rfl (Zab hu0 (Zab hu1 (Zab hu7 (Zab hu8 ZaL)))),rfl,h8⟩
def ZtP (N:Nat):Zax:=(Zad).add [0,1,0,1] fun _ E s K=>ZuD (Zbh Zoy E) s fun e_1 f_2 x_3 x_4=>ZgJ N e_1 f_2 x_3 (Zh9 K e_1 f_2 x_3) (ZhS K e_1 f_2 x_3) N x_4
theorem ZHV {N:Nat} (hC:Ok Tryz.prog C) (hΦ:Zaa Tryz.prog C (ZvT N)):Za7 Tryz.prog C (ZtP N) Zus [0,1,0,1] :=
 Za6 (Λi:=Zad) (tr:=false) (ks:=Zoy) (kx:=ZxS) (N:=N) hC hΦ
  (Zai (by kernel_rfl))
  fun R E s K r h=>by
   have h2:=Zax.add_self.symm.trans h
   refine (Zaw rfl).trans ?_
   obtain ⟨_,_,_,_,he,rfl,h3⟩:=ZpM h2
   rw [he]
   exact (ZGl N _ _ _ _ N _).trans h3
theorem ZPF:Za0 ZDf [] = [([0,1,0,1],Zus)]:=by kernel_rfl
theorem ZRw {R:Type} (N:Nat) (e_1:List V) (f_2:Fl) (K:V → S → Option R):Za2 C (ZvT N) (ZtP N) 97 Tryz.f97 [.list 1 e_1 f_2,.fn 92 []] [] K =
 ZsV N e_1 f_2 (fun x_3=>K (.int .i64 x_3) []):=by kernel_rfl
theorem ZFd {N:Nat} (hC:Ok Tryz.prog C) (hΦ:Zaa Tryz.prog C (ZvT N)):ZaV Tryz.prog C (ZtP N) ZDf [] :=
 ZaG ZDf [] (by
  rw [ZPF]
  intro p hp
  simp only [List.mem_cons,List.mem_nil_iff,or_false] at hp
  rcases hp with rfl
  ·exact (ZHV hC hΦ))
theorem ZAe (hC:Ok Tryz.prog C) {N:Nat} (hΦ:Zaa Tryz.prog C (ZvT N)):Zaa Tryz.prog C (ZHo N):=by
 refine hΦ.addIf_pure rfl fun R vs K r h=>?_
 unfold ZNC at h
 obtain ⟨_,_,rfl,h1⟩:=Zas h
 obtain ⟨_,_,rfl,h2⟩:=Zam h1
 obtain ⟨_,rfl,h3⟩:=ZcA h2
 obtain ⟨rfl,h4⟩:=Zcp h3
 obtain ⟨_,h5⟩:=Zae h4
 refine Zaq (fn:=Tryz.f97) (c:=ZDf) hC hΦ Tryz.func97 (by kernel_rfl) (by kernel_rfl) (ZFd (N:=N) hC hΦ) rfl rfl ?_
 refine (ZRw N _ _ _).trans ?_
 rw [← Zyk]
 exact h5
def ZOB (N:Nat):(R:Type) → List V → S → (V → S → Option R) → Option R:=fun _ vs s K =>
 Zcf vs fun v'1 v'2=>ZaX 1 v'1 fun e_1 f_2=>ZCB 92 v'2 fun c'3=>ZB4 c'3 <| ZaR s <| ZKy N e_1 f_2 (fun b_3=>K (.bool b_3) [])
def ZJ0 (N:Nat):Zar:=(ZHo N).addIf 91 (fun l=>ZOX 1 92 l) (ZOB N)
def ZQE:Code:=ZaS Tryz.f91
theorem ZRt {R:Type} (N:Nat) (e_1:List V) (f_2:Fl) (K:V → S → Option R):Za2 C (ZHo N) (Zad) 91 Tryz.f91 [.list 1 e_1 f_2,.fn 92 []] [] K =
 Zr3 N e_1 f_2 (fun b_3=>K (.bool b_3) []):=by kernel_rfl
theorem ZBb (hC:Ok Tryz.prog C) {N:Nat} (hΦ:Zaa Tryz.prog C (ZHo N)):Zaa Tryz.prog C (ZJ0 N):=by
 refine hΦ.addIf_pure rfl fun R vs K r h=>?_
 unfold ZOB at h
 obtain ⟨_,_,rfl,h1⟩:=Zas h
 obtain ⟨_,_,rfl,h2⟩:=Zam h1
 obtain ⟨_,rfl,h3⟩:=ZcA h2
 obtain ⟨rfl,h4⟩:=Zcp h3
 obtain ⟨_,h5⟩:=Zae h4
 refine Zaq (fn:=Tryz.f91) (c:=ZQE) hC hΦ Tryz.func91 (by kernel_rfl) (by kernel_rfl) (Zai (Λ:=Zad) (by kernel_rfl)) rfl rfl ?_
 refine (ZRt N _ _ _).trans ?_
 rw [← Zxo]
 exact h5
def ZNM (N:Nat):(R:Type) → List V → S → (V → S → Option R) → Option R:=fun _ vs s K =>
 Zco vs fun v'1=>Zby v'1 fun w_1=>ZaR s <| ZDw N w_1 (fun b_2=>K (.bool b_2) [])
def ZHu (N:Nat):Zar:=(ZJ0 N).add 85 (ZNM N)
def ZQ7:Code:=ZaS Tryz.f85
theorem ZQR {R:Type} (N:Nat) (w_1:ByteArray) (K:V → S → Option R):Za2 C (ZJ0 N) (Zad) 85 Tryz.f85 [.str w_1] [] K =
 Zqr N w_1 (fun b_2=>K (.bool b_2) []):=by kernel_rfl
theorem ZAi (hC:Ok Tryz.prog C) {N:Nat} (hΦ:Zaa Tryz.prog C (ZJ0 N)):Zaa Tryz.prog C (ZHu N):=by
 refine hΦ.add_pure rfl fun R vs K r h=>?_
 unfold ZNM at h
 obtain ⟨_,rfl,h1⟩:=Zat h
 obtain ⟨_,rfl,h2⟩:=ZaD h1
 obtain ⟨_,h3⟩:=Zae h2
 refine Zaq (fn:=Tryz.f85) (c:=ZQ7) hC hΦ Tryz.func85 (by kernel_rfl) (by kernel_rfl) (Zai (Λ:=Zad) (by kernel_rfl)) rfl rfl ?_
 refine (ZQR N _ _).trans ?_
 rw [← Zxq]
 exact h3
def ZPx (N:Nat):(R:Type) → List V → S → (V → S → Option R) → Option R:=fun _ vs s K =>
 Zco vs fun v'1=>Zby v'1 fun w_1=>ZaR s <| ZLV N w_1 (fun b_2=>K (.bool b_2) [])
def Zth (N:Nat):Zar:=(ZHu N).add 90 (ZPx N)
def ZR7:Code:=ZaS Tryz.f90
theorem ZRd {R:Type} (N:Nat) (w_1:ByteArray) (K:V → S → Option R):Za2 C (ZHu N) (Zad) 90 Tryz.f90 [.str w_1] [] K =
 Zqi N w_1 (fun b_2=>K (.bool b_2) []):=by kernel_rfl
theorem ZBG (hC:Ok Tryz.prog C) {N:Nat} (hΦ:Zaa Tryz.prog C (ZHu N)):Zaa Tryz.prog C (Zth N):=by
 refine hΦ.add_pure rfl fun R vs K r h=>?_
 unfold ZPx at h
 obtain ⟨_,rfl,h1⟩:=Zat h
 obtain ⟨_,rfl,h2⟩:=ZaD h1
 obtain ⟨_,h3⟩:=Zae h2
 refine Zaq (fn:=Tryz.f90) (c:=ZR7) hC hΦ Tryz.func90 (by kernel_rfl) (by kernel_rfl) (Zai (Λ:=Zad) (by kernel_rfl)) rfl rfl ?_
 refine (ZRd N _ _).trans ?_
 rw [← Zxa]
 exact h3
def ZNV (N:Nat):(R:Type) → List V → S → (V → S → Option R) → Option R:=fun _ vs s K =>
 Zcf vs fun v'1 v'2=>ZaX 1 v'1 fun e_1 f_2=>ZCB 90 v'2 fun c'3=>ZB4 c'3 <| ZaR s <| ZLR N e_1 f_2 (fun x_3=>K (.int .i64 x_3) [])
def ZJy (N:Nat):Zar:=(Zth N).addIf 87 (fun l=>ZOX 1 90 l) (ZNV N)
def ZE6:Code:=ZaS Tryz.f87
def ZtZ:Code:=(Zbn ZE6 [] 0).2
def ZnN:List Nat:=ZbR 19 [0,1,7,8]
def Zy5:List Nat:=ZbR 19 [4]
def Zk0 (e_1:List V) (f_2:Fl) (x_3 x_4:Int):List V:=mkF 0 19 [(0,.list 1 e_1 f_2),(1,.fn 90 []),(7,.int .i64 x_3),(8,.int .i64 x_4)]
def ZhH {R:Type} (K:X → List V → S → Option R) (e_1:List V) (f_2:Fl) (x_3:Int):Int → Option R:=(fun x_1'=>K .ret (mkF 0 19 [(4,.int .i64 (x_1'))]) [])
def Zi3 {R:Type} (K:X → List V → S → Option R) (e_1:List V) (f_2:Fl) (x_3:Int):Unit → Option R:=(fun _=>K (.exit 0) (mkF 0 19 []) [])
abbrev Zm4 {R:Type} (N:Nat):Nat → List V → S → (X → List V → S → Option R) → Option R:=fun n=>ZcX C (Zth N) (Zad) ZtZ [0,1,0,1] false ZnN Zy5 n R
theorem ZMD {R:Type} (N n:Nat) (e_1:List V) (f_2:Fl) (x_3:Int) (x_4:Int) (K:X → List V → S → Option R) :
 Zm4 N (n + 1) (Zk0 e_1 f_2 x_3 x_4) [] K =
 Zda N e_1 f_2 x_3 (fun x_4=>Zm4 N n (Zk0 e_1 f_2 x_3 x_4) [] K) x_4 (ZhH K e_1 f_2 x_3) (Zi3 K e_1 f_2 x_3):=by kernel_rfl
theorem ZFp {R:Type} (N:Nat) (e_1:List V) (f_2:Fl) (x_3:Int) (K:X → List V → S → Option R):∀ (n:Nat) (x_4:Int),
 Zm4 N n (Zk0 e_1 f_2 x_3 x_4) [] K = ZgF N e_1 f_2 x_3 (ZhH K e_1 f_2 x_3) (Zi3 K e_1 f_2 x_3) n x_4
 | 0,_=>rfl
 | n + 1,x_4=>(ZMD N n e_1 f_2 x_3 x_4 K).trans (congrArg (fun nx=>Zda N e_1 f_2 x_3 nx x_4 (ZhH K e_1 f_2 x_3) (Zi3 K e_1 f_2 x_3)) (funext fun x_4=>ZFp N e_1 f_2 x_3 K n x_4))
def Zvw {R:Type} (E:List V) (s:S) (k:List V → Fl → Int → Int → Option R):Option R :=
 Zaj (Za3 19 [0,1,7,8] E) <| Zbu E 0 1 fun e_1 f_2=>Zbt (nth E 1) fun u1=>ZCB 90 u1 fun c'1=>ZB4 c'1 <| ZaZ E 7 .i64 fun x_3=>ZaZ E 8 .i64 fun x_4=>ZaR s <| k e_1 f_2 x_3 x_4
theorem Zqt {R:Type} {E:List V} {s:S} {k:List V → Fl → Int → Int → Option R} {r:R} (h:Zvw E s k = some r):∃ e_1 f_2 x_3 x_4,E = Zk0 e_1 f_2 x_3 x_4 ∧ s = [] ∧ k e_1 f_2 x_3 x_4 = some r:=by
 unfold Zvw at h
 obtain ⟨hg,h1⟩:=Zac h
 obtain ⟨_,_,hu0,h2⟩:=ZaC h1
 obtain ⟨_,hu1,h3⟩:=Zag h2
 obtain ⟨_,rfl,h4⟩:=ZcA h3
 obtain ⟨rfl,h5⟩:=Zcp h4
 obtain ⟨_,hu7,h6⟩:=Zah h5
 obtain ⟨_,hu8,h7⟩:=Zah h6
 obtain ⟨rfl,h8⟩:=Zae h7
 exact ⟨_,_,_,_,ZaU hg rfl (Zab hu0 (Zab hu1 (Zab hu7 (Zab hu8 ZaL)))),rfl,h8⟩
def ZuO (N:Nat):Zax:=(Zad).add [0,1,0,1] fun _ E s K=>Zvw (Zbh ZnN E) s fun e_1 f_2 x_3 x_4=>ZgF N e_1 f_2 x_3 (ZhH K e_1 f_2 x_3) (Zi3 K e_1 f_2 x_3) N x_4
theorem ZI2 {N:Nat} (hC:Ok Tryz.prog C) (hΦ:Zaa Tryz.prog C (Zth N)):Za7 Tryz.prog C (ZuO N) ZtZ [0,1,0,1] :=
 Za6 (Λi:=Zad) (tr:=false) (ks:=ZnN) (kx:=Zy5) (N:=N) hC hΦ
  (Zai (by kernel_rfl))
  fun R E s K r h=>by
   have h2:=Zax.add_self.symm.trans h
   refine (Zaw rfl).trans ?_
   obtain ⟨_,_,_,_,he,rfl,h3⟩:=Zqt h2
   rw [he]
   exact (ZFp N _ _ _ _ N _).trans h3
theorem ZO7:Za0 ZE6 [] = [([0,1,0,1],ZtZ)]:=by kernel_rfl
theorem ZQh {R:Type} (N:Nat) (e_1:List V) (f_2:Fl) (K:V → S → Option R):Za2 C (Zth N) (ZuO N) 87 Tryz.f87 [.list 1 e_1 f_2,.fn 90 []] [] K =
 Zsw N e_1 f_2 (fun x_3=>K (.int .i64 x_3) []):=by kernel_rfl
theorem ZD3 {N:Nat} (hC:Ok Tryz.prog C) (hΦ:Zaa Tryz.prog C (Zth N)):ZaV Tryz.prog C (ZuO N) ZE6 [] :=
 ZaG ZE6 [] (by
  rw [ZO7]
  intro p hp
  simp only [List.mem_cons,List.mem_nil_iff,or_false] at hp
  rcases hp with rfl
  ·exact (ZI2 hC hΦ))
theorem ZCe (hC:Ok Tryz.prog C) {N:Nat} (hΦ:Zaa Tryz.prog C (Zth N)):Zaa Tryz.prog C (ZJy N):=by
 refine hΦ.addIf_pure rfl fun R vs K r h=>?_
 unfold ZNV at h
 obtain ⟨_,_,rfl,h1⟩:=Zas h
 obtain ⟨_,_,rfl,h2⟩:=Zam h1
 obtain ⟨_,rfl,h3⟩:=ZcA h2
 obtain ⟨rfl,h4⟩:=Zcp h3
 obtain ⟨_,h5⟩:=Zae h4
 refine Zaq (fn:=Tryz.f87) (c:=ZE6) hC hΦ Tryz.func87 (by kernel_rfl) (by kernel_rfl) (ZD3 (N:=N) hC hΦ) rfl rfl ?_
 refine (ZQh N _ _ _).trans ?_
 rw [← Zza]
 exact h5
def ZPN (N:Nat):(R:Type) → List V → S → (V → S → Option R) → Option R:=fun _ vs s K =>
 Zcf vs fun v'1 v'2=>ZaX 1 v'1 fun e_1 f_2=>ZCB 90 v'2 fun c'3=>ZB4 c'3 <| ZaR s <| ZHU N e_1 f_2 (fun b_3=>K (.bool b_3) [])
def ZG0 (N:Nat):Zar:=(ZJy N).addIf 89 (fun l=>ZOX 1 90 l) (ZPN N)
def ZQw:Code:=ZaS Tryz.f89
theorem ZQ0 {R:Type} (N:Nat) (e_1:List V) (f_2:Fl) (K:V → S → Option R):Za2 C (ZJy N) (Zad) 89 Tryz.f89 [.list 1 e_1 f_2,.fn 90 []] [] K =
 ZqG N e_1 f_2 (fun b_3=>K (.bool b_3) []):=by kernel_rfl
theorem ZBj (hC:Ok Tryz.prog C) {N:Nat} (hΦ:Zaa Tryz.prog C (ZJy N)):Zaa Tryz.prog C (ZG0 N):=by
 refine hΦ.addIf_pure rfl fun R vs K r h=>?_
 unfold ZPN at h
 obtain ⟨_,_,rfl,h1⟩:=Zas h
 obtain ⟨_,_,rfl,h2⟩:=Zam h1
 obtain ⟨_,rfl,h3⟩:=ZcA h2
 obtain ⟨rfl,h4⟩:=Zcp h3
 obtain ⟨_,h5⟩:=Zae h4
 refine Zaq (fn:=Tryz.f89) (c:=ZQw) hC hΦ Tryz.func89 (by kernel_rfl) (by kernel_rfl) (Zai (Λ:=Zad) (by kernel_rfl)) rfl rfl ?_
 refine (ZQ0 N _ _ _).trans ?_
 rw [← ZzO]
 exact h5
def ZOC (N:Nat):(R:Type) → List V → S → (V → S → Option R) → Option R:=fun _ vs s K =>
 Zco vs fun v'1=>Zby v'1 fun w_1=>ZaR s <| ZL5 N w_1 (fun b_2=>K (.bool b_2) [])
def ZIL (N:Nat):Zar:=(ZG0 N).add 84 (ZOC N)
def ZQV:Code:=ZaS Tryz.f84
theorem ZSq {R:Type} (N:Nat) (w_1:ByteArray) (K:V → S → Option R):Za2 C (ZG0 N) (Zad) 84 Tryz.f84 [.str w_1] [] K =
 ZrO N w_1 (fun b_2=>K (.bool b_2) []):=by kernel_rfl
theorem ZAF (hC:Ok Tryz.prog C) {N:Nat} (hΦ:Zaa Tryz.prog C (ZG0 N)):Zaa Tryz.prog C (ZIL N):=by
 refine hΦ.add_pure rfl fun R vs K r h=>?_
 unfold ZOC at h
 obtain ⟨_,rfl,h1⟩:=Zat h
 obtain ⟨_,rfl,h2⟩:=ZaD h1
 obtain ⟨_,h3⟩:=Zae h2
 refine Zaq (fn:=Tryz.f84) (c:=ZQV) hC hΦ Tryz.func84 (by kernel_rfl) (by kernel_rfl) (Zai (Λ:=Zad) (by kernel_rfl)) rfl rfl ?_
 refine (ZSq N _ _).trans ?_
 rw [← Zyc]
 exact h3
def ZOZ (N:Nat):(R:Type) → List V → S → (V → S → Option R) → Option R:=fun _ vs s K =>
 Zco vs fun v'1=>Zby v'1 fun w_1=>ZaR s <| ZAY N w_1 (fun b_2=>K (.bool b_2) [])
def ZHI (N:Nat):Zar:=(ZIL N).add 74 (ZOZ N)
def ZRp:Code:=ZaS Tryz.f74
theorem ZSo {R:Type} (N:Nat) (w_1:ByteArray) (K:V → S → Option R):Za2 C (ZIL N) (Zad) 74 Tryz.f74 [.str w_1] [] K =
 ZrA N w_1 (fun b_2=>K (.bool b_2) []):=by kernel_rfl
theorem ZBo (hC:Ok Tryz.prog C) {N:Nat} (hΦ:Zaa Tryz.prog C (ZIL N)):Zaa Tryz.prog C (ZHI N):=by
 refine hΦ.add_pure rfl fun R vs K r h=>?_
 unfold ZOZ at h
 obtain ⟨_,rfl,h1⟩:=Zat h
 obtain ⟨_,rfl,h2⟩:=ZaD h1
 obtain ⟨_,h3⟩:=Zae h2
 refine Zaq (fn:=Tryz.f74) (c:=ZRp) hC hΦ Tryz.func74 (by kernel_rfl) (by kernel_rfl) (Zai (Λ:=Zad) (by kernel_rfl)) rfl rfl ?_
 refine (ZSo N _ _).trans ?_
 rw [← ZyB]
 exact h3
def ZO8 (N:Nat):(R:Type) → List V → S → (V → S → Option R) → Option R:=fun _ vs s K =>
 Zco vs fun v'1=>Zby v'1 fun w_1=>ZaR s <| ZLM N w_1 (fun b_2=>K (.bool b_2) [])
def ZHM (N:Nat):Zar:=(ZHI N).add 86 (ZO8 N)
def ZSh:Code:=ZaS Tryz.f86
theorem ZSC {R:Type} (N:Nat) (w_1:ByteArray) (K:V → S → Option R):Za2 C (ZHI N) (Zad) 86 Tryz.f86 [.str w_1] [] K =
 Zsf N w_1 (fun b_2=>K (.bool b_2) []):=by kernel_rfl
theorem Zz6 (hC:Ok Tryz.prog C) {N:Nat} (hΦ:Zaa Tryz.prog C (ZHI N)):Zaa Tryz.prog C (ZHM N):=by
 refine hΦ.add_pure rfl fun R vs K r h=>?_
 unfold ZO8 at h
 obtain ⟨_,rfl,h1⟩:=Zat h
 obtain ⟨_,rfl,h2⟩:=ZaD h1
 obtain ⟨_,h3⟩:=Zae h2
 refine Zaq (fn:=Tryz.f86) (c:=ZSh) hC hΦ Tryz.func86 (by kernel_rfl) (by kernel_rfl) (Zai (Λ:=Zad) (by kernel_rfl)) rfl rfl ?_
 refine (ZSC N _ _).trans ?_
 rw [← ZxH]
 exact h3
def ZNQ (N:Nat):(R:Type) → List V → S → (V → S → Option R) → Option R:=fun _ vs s K =>
 Zco vs fun v'1=>Zby v'1 fun w_1=>ZaR s <| ZJn N w_1 (fun b_2=>K (.bool b_2) [])
def ZIa (N:Nat):Zar:=(ZHM N).add 75 (ZNQ N)
def ZQs:Code:=ZaS Tryz.f75
theorem ZRv {R:Type} (N:Nat) (w_1:ByteArray) (K:V → S → Option R):Za2 C (ZHM N) (Zad) 75 Tryz.f75 [.str w_1] [] K =
 Zqs N w_1 (fun b_2=>K (.bool b_2) []):=by kernel_rfl
theorem Zz3 (hC:Ok Tryz.prog C) {N:Nat} (hΦ:Zaa Tryz.prog C (ZHM N)):Zaa Tryz.prog C (ZIa N):=by
 refine hΦ.add_pure rfl fun R vs K r h=>?_
 unfold ZNQ at h
 obtain ⟨_,rfl,h1⟩:=Zat h
 obtain ⟨_,rfl,h2⟩:=ZaD h1
 obtain ⟨_,h3⟩:=Zae h2
 refine Zaq (fn:=Tryz.f75) (c:=ZQs) hC hΦ Tryz.func75 (by kernel_rfl) (by kernel_rfl) (Zai (Λ:=Zad) (by kernel_rfl)) rfl rfl ?_
 refine (ZRv N _ _).trans ?_
 rw [← ZyR]
 exact h3
def ZO3 (N:Nat):(R:Type) → List V → S → (V → S → Option R) → Option R:=fun _ vs s K =>
 Zcf vs fun v'1 v'2=>Za9 v'1 fun e_1 f_2 x_3=>asInt .i64 v'2 fun x_4=>ZaR s <| ZCK N e_1 f_2 x_3 x_4 (fun b_5=>K (.bool b_5) [])
def Zwf (N:Nat):Zar:=(ZIa N).add 76 (ZO3 N)
def ZSA:Code:=ZaS Tryz.f76
theorem ZRT {R:Type} (N:Nat) (e_1:List V) (f_2:Fl) (x_3 x_4:Int) (K:V → S → Option R):Za2 C (ZIa N) (Zad) 76 Tryz.f76 [.agg [.list 7 e_1 f_2,.int .i64 x_3],.int .i64 x_4] [] K =
 Zs4 N e_1 f_2 x_3 x_4 (fun b_5=>K (.bool b_5) []):=by kernel_rfl
theorem ZCa (hC:Ok Tryz.prog C) {N:Nat} (hΦ:Zaa Tryz.prog C (ZIa N)):Zaa Tryz.prog C (Zwf N):=by
 refine hΦ.add_pure rfl fun R vs K r h=>?_
 unfold ZO3 at h
 obtain ⟨_,_,rfl,h1⟩:=Zas h
 obtain ⟨_,_,_,rfl,h2⟩:=ZaH h1
 obtain ⟨_,rfl,h3⟩:=Zaf h2
 obtain ⟨_,h4⟩:=Zae h3
 refine Zaq (fn:=Tryz.f76) (c:=ZSA) hC hΦ Tryz.func76 (by kernel_rfl) (by kernel_rfl) (Zai (Λ:=Zad) (by kernel_rfl)) rfl rfl ?_
 refine (ZRT N _ _ _ _ _).trans ?_
 rw [← Zxh]
 exact h4
end
end Go.VM.VL
