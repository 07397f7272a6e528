/- The functions of the program, told plainly: what each computes, as a function of its letters; and that the machine does the same. Printed by vgen.py, a program of this session's own. -/
import Derived.Test.YtkchbabkbpcncaaY1
import Derived.WalkKit
import Derived.Lib.Walk
import Derived.Lib.SliceRun
import Derived.Lib.AppendZerosOnto
import Derived.Laws.OwnMore
import Derived.Test.YtkchbabkbpcncaaProg
import Derived.KernelRfl
set_option linter.unusedVariables false
namespace Go.VM.VL
noncomputable section
open Go.Proofs
def rl (t:TypeId):Bool:=[3,32].any (Nat.beq t)
def mode (f:FuncId):Mode :=
 match [19,27].any (Nat.beq f) with
 | true=>.shared
 | false=>match [131].any (Nat.beq f) with
  | true=>.own
  | false=>match [16,21,22,24,77,84,115,118].any (Nat.beq f) with
   | true=>.fresh
   | false=>.pure
abbrev C:Cfg:={ Cfg.of Try.prog 9 mode (fun f=>[131].any (Nat.beq f)) with rl:=rl }
def Zwb (N:Nat):(R:Type) → List V → S → (V → S → Option R) → Option R:=fun _ vs s K =>
 ZjZ vs fun v'1 v'2=>ZaV 1 v'1 fun e_1 f_2=>asInt .i64 v'2 fun x_3=>Zbb s <| Ztq N e_1 f_2 x_3 (fun x_4=>K (.int .i64 x_4) [])
def Zni (N:Nat):Zat:=(ZgA).add 75 (Zwb N)
def Zx1:Code:=Zbr Try.f75
theorem ZxN {R:Type} (N:Nat) (e_1:List V) (f_2:Fl) (x_3:Int) (K:V → S → Option R):Zbw C (ZgA) (Zaj) 75 Try.f75 [.list 1 e_1 f_2,.int .i64 x_3] [] K =
 Zko N e_1 f_2 x_3 (fun x_4=>K (.int .i64 x_4) []):=by kernel_rfl
theorem Zpt (hC:Ok Try.prog C) {N:Nat} (hΦ:Zab Try.prog C (ZgA)):Zab Try.prog C (Zni N):=by
 refine hΦ.add_pure rfl fun R vs K r h=>?_
 unfold Zwb at h
 obtain ⟨_,_,rfl,h1⟩:=Zbm h
 obtain ⟨_,_,rfl,h2⟩:=Zar h1
 obtain ⟨_,rfl,h3⟩:=Zaz h2
 obtain ⟨_,h4⟩:=Zam h3
 refine ZaX (fn:=Try.f75) (c:=Zx1) hC hΦ Try.func75 (by kernel_rfl) (by kernel_rfl) (Zau (Λ:=Zaj) (by kernel_rfl)) rfl rfl ?_
 refine (ZxN N _ _ _ _).trans ?_
 rw [← Zn7]
 exact h4
def Zw2 (N:Nat):(R:Type) → List V → S → (V → S → Option R) → Option R:=fun _ vs s K =>
 ZjZ vs fun v'1 v'2=>ZaV 1 v'1 fun e_1 f_2=>asInt .i64 v'2 fun x_3=>Zbb s <| Ztg N e_1 f_2 x_3 (fun x_4=>K (.int .i64 x_4) [])
def Zmq (N:Nat):Zat:=(Zni N).add 14 (Zw2 N)
def Zr1:Code:=Zbr Try.f14
def Zmu:Code:=(ZbO Zr1 [] 0).2
def ZjR:List Nat:=ZcY 27 [0,1,5]
def Zoe:List Nat:=ZcY 27 [1,4]
def Zgk (e_1:List V) (f_2:Fl) (x_3 x_4:Int):List V:=mkF 0 27 [(0,.list 1 e_1 f_2),(1,.int .i64 x_3),(5,.int .i64 x_4)]
def Zfh {R:Type} (K:X → List V → S → Option R) (e_1:List V) (f_2:Fl):Int → Option R:=(fun x_1'=>K .ret (mkF 0 27 [(1,.int .i64 (x_1')),(4,.int .i64 (-1))]) [])
def Zfy {R:Type} (K:X → List V → S → Option R) (e_1:List V) (f_2:Fl):Int → Option R:=(fun x_1'=>K (.exit 0) (mkF 0 27 [(1,.int .i64 (x_1'))]) [])
abbrev Zio {R:Type} (N:Nat):Nat → List V → S → (X → List V → S → Option R) → Option R:=fun n=>Zf6 C (Zni N) (Zaj) Zmu [0,1,0,1,1,1] false ZjR Zoe n R
theorem Zvw {R:Type} (N n:Nat) (e_1:List V) (f_2:Fl) (x_3 x_4:Int) (K:X → List V → S → Option R) :
 Zio N (n + 1) (Zgk e_1 f_2 x_3 x_4) [] K =
 Zci N e_1 f_2 (fun x_3 x_4=>Zio N n (Zgk e_1 f_2 x_3 x_4) [] K) x_3 x_4 (Zfh K e_1 f_2) (Zfy K e_1 f_2):=by kernel_rfl
theorem Zsc {R:Type} (N:Nat) (e_1:List V) (f_2:Fl) (K:X → List V → S → Option R):∀ (n:Nat) (x_3 x_4:Int),
 Zio N n (Zgk e_1 f_2 x_3 x_4) [] K = ZdG N e_1 f_2 (Zfh K e_1 f_2) (Zfy K e_1 f_2) n x_3 x_4
 | 0,_,_=>rfl
 | n + 1,x_3,x_4=>(Zvw N n e_1 f_2 x_3 x_4 K).trans (congrArg (fun nx=>Zci N e_1 f_2 nx x_3 x_4 (Zfh K e_1 f_2) (Zfy K e_1 f_2)) (funext fun x_3=>funext fun x_4=>Zsc N e_1 f_2 K n x_3 x_4))
def Znx {R:Type} (E:List V) (s:S) (k:List V → Fl → Int → Int → Option R):Option R :=
 Zag (Zbi 27 [0,1,5] E) <| Zbn E 0 1 fun e_1 f_2=>Zbd E 1 .i64 fun x_3=>Zbd E 5 .i64 fun x_4=>Zbb s <| k e_1 f_2 x_3 x_4
theorem Zlf {R:Type} {E:List V} {s:S} {k:List V → Fl → Int → Int → Option R} {r:R} (h:Znx E s k = some r):∃ e_1 f_2 x_3 x_4,E = Zgk e_1 f_2 x_3 x_4 ∧ s = [] ∧ k e_1 f_2 x_3 x_4 = some r:=by
 unfold Znx at h
 obtain ⟨hg,h1⟩:=Zaa h
 obtain ⟨_,_,hu0,h2⟩:=Zaw h1
 obtain ⟨_,hu1,h3⟩:=Zan h2
 obtain ⟨_,hu5,h4⟩:=Zan h3
 obtain ⟨rfl,h5⟩:=Zam h4
 exact ⟨_,_,_,_,Za8 hg rfl (Zae hu0 (Zae hu1 (Zae hu5 ZaY))),rfl,h5⟩
def Znr (N:Nat):ZaB:=(Zaj).add [0,1,0,1,1,1] fun _ E s K=>Znx (Za6 ZjR E) s fun e_1 f_2 x_3 x_4=>ZdG N e_1 f_2 (Zfh K e_1 f_2) (Zfy K e_1 f_2) N x_3 x_4
theorem Zua {N:Nat} (hC:Ok Try.prog C) (hΦ:Zab Try.prog C (Zni N)):Zbs Try.prog C (Znr N) Zmu [0,1,0,1,1,1] :=
 Zbo (Λi:=Zaj) (tr:=false) (ks:=ZjR) (kx:=Zoe) (N:=N) hC hΦ
  (Zau (by kernel_rfl))
  fun R E s K r h=>by
   have h2:=ZaB.add_self.symm.trans h
   refine (ZaO rfl).trans ?_
   obtain ⟨_,_,_,_,he,rfl,h3⟩:=Zlf h2
   rw [he]
   exact (Zsc N _ _ _ N _ _).trans h3
theorem ZwE:Za0 Zr1 [] = [([0,1,0,1,1,1],Zmu)]:=by kernel_rfl
theorem ZxR {R:Type} (N:Nat) (e_1:List V) (f_2:Fl) (x_3:Int) (K:V → S → Option R):Zbw C (Zni N) (Znr N) 14 Try.f14 [.list 1 e_1 f_2,.int .i64 x_3] [] K =
 ZkO N e_1 f_2 x_3 (fun x_4=>K (.int .i64 x_4) []):=by kernel_rfl
theorem Zq8 {N:Nat} (hC:Ok Try.prog C) (hΦ:Zab Try.prog C (Zni N)):ZaU Try.prog C (Znr N) Zr1 [] :=
 ZaQ Zr1 [] (by
  rw [ZwE]
  intro p hp
  simp only [List.mem_cons,List.mem_nil_iff,or_false] at hp
  rcases hp with rfl
  ·exact (Zua hC hΦ))
theorem Zqa (hC:Ok Try.prog C) {N:Nat} (hΦ:Zab Try.prog C (Zni N)):Zab Try.prog C (Zmq N):=by
 refine hΦ.add_pure rfl fun R vs K r h=>?_
 unfold Zw2 at h
 obtain ⟨_,_,rfl,h1⟩:=Zbm h
 obtain ⟨_,_,rfl,h2⟩:=Zar h1
 obtain ⟨_,rfl,h3⟩:=Zaz h2
 obtain ⟨_,h4⟩:=Zam h3
 refine ZaX (fn:=Try.f14) (c:=Zr1) hC hΦ Try.func14 (by kernel_rfl) (by kernel_rfl) (Zq8 (N:=N) hC hΦ) rfl rfl ?_
 refine (ZxR N _ _ _ _).trans ?_
 rw [← Zog]
 exact h4
def Zv1 (N:Nat):(R:Type) → List V → S → (V → S → Option R) → Option R:=fun _ vs s K =>
 ZpQ vs fun v'1=>ZaV 1 v'1 fun e_1 f_2=>Zbb s <| Zti N e_1 f_2 (fun k_901 e_902=>K (.arr 0 0 0 k_901) [some ⟨e_902,1,3,0⟩])
def Zl4 (N:Nat):Zat:=(Zmq N).add 24 (Zv1 N)
def Zsq:Code:=Zbr Try.f24
def Zmw:Code:=(ZbO Zsq [] 0).2
def Zjt:List Nat:=ZcY 22 [0,3,4]
def ZoX:List Nat:=ZcY 22 [3]
def Zgd (e_1:List V) (f_2:Fl) (k_3:Nat) (x_4:Int) (e_5:List V):List V:=mkF 0 22 [(0,.list 1 e_1 f_2),(3,.arr 0 0 0 k_3),(4,.int .i64 x_4)]
def Ze0 {R:Type} (K:X → List V → S → Option R) (e_1:List V) (f_2:Fl) (k_3:Nat):List V → Option R:=(fun e_1'=>K (.exit 0) (mkF 0 22 [(3,.arr 0 0 0 k_3)]) [some ⟨e_1',1,3,0⟩])
abbrev ZjK {R:Type} (N:Nat):Nat → List V → S → (X → List V → S → Option R) → Option R:=fun n=>Zf6 C (Zmq N) (Zaj) Zmw [0,1,0,1,1] false Zjt ZoX n R
theorem ZuQ {R:Type} (N n:Nat) (e_1:List V) (f_2:Fl) (k_3:Nat) (x_4:Int) (e_5:List V) (K:X → List V → S → Option R) :
 ZjK N (n + 1) (Zgd e_1 f_2 k_3 x_4 e_5) [some ⟨e_5,1,3,0⟩] K =
 Zcn N e_1 f_2 k_3 (fun x_4 e_5=>ZjK N n (Zgd e_1 f_2 k_3 x_4 e_5) [some ⟨e_5,1,3,0⟩] K) x_4 e_5 (Ze0 K e_1 f_2 k_3):=by kernel_rfl
theorem Zri {R:Type} (N:Nat) (e_1:List V) (f_2:Fl) (k_3:Nat) (K:X → List V → S → Option R):∀ (n:Nat) (x_4:Int) (e_5:List V),
 ZjK N n (Zgd e_1 f_2 k_3 x_4 e_5) [some ⟨e_5,1,3,0⟩] K = ZdN N e_1 f_2 k_3 (Ze0 K e_1 f_2 k_3) n x_4 e_5
 | 0,_,_=>rfl
 | n + 1,x_4,e_5=>(ZuQ N n e_1 f_2 k_3 x_4 e_5 K).trans (congrArg (fun nx=>Zcn N e_1 f_2 k_3 nx x_4 e_5 (Ze0 K e_1 f_2 k_3)) (funext fun x_4=>funext fun e_5=>Zri N e_1 f_2 k_3 K n x_4 e_5))
def ZmA {R:Type} (E:List V) (s:S) (k:List V → Fl → Nat → Int → List V → Option R):Option R :=
 Zag (Zbi 22 [0,3,4] E) <| Zbn E 0 1 fun e_1 f_2=>ZbC (nth E 3) fun u3=>ZhG u3 fun k'1 k'2 k'3 k_3=>isN k'1 0 <| isN k'2 0 <| isN k'3 0 <| Zbd E 4 .i64 fun x_4=>ZsY s fun o'4 s'5=>Zqw o'4 1 3 fun e_5 k'6=>isN k'6 0 <| Zbb s'5 <| k e_1 f_2 k_3 x_4 e_5
theorem ZkB {R:Type} {E:List V} {s:S} {k:List V → Fl → Nat → Int → List V → Option R} {r:R} (h:ZmA E s k = some r):∃ e_1 f_2 k_3 x_4 e_5,E = Zgd e_1 f_2 k_3 x_4 e_5 ∧ s = [some ⟨e_5,1,3,0⟩] ∧ k e_1 f_2 k_3 x_4 e_5 = some r:=by
 unfold ZmA at h
 obtain ⟨hg,h1⟩:=Zaa h
 obtain ⟨_,_,hu0,h2⟩:=Zaw h1
 obtain ⟨_,hu3,h3⟩:=Zaf h2
 obtain ⟨_,_,_,_,rfl,h4⟩:=ZbV h3
 obtain ⟨rfl,h5⟩:=ZaL h4
 obtain ⟨rfl,h6⟩:=ZaL h5
 obtain ⟨rfl,h7⟩:=ZaL h6
 obtain ⟨_,hu4,h8⟩:=Zan h7
 obtain ⟨_,_,rfl,h9⟩:=Zce h8
 obtain ⟨_,_,rfl,h10⟩:=ZbP h9
 obtain ⟨rfl,h11⟩:=ZaL h10
 obtain ⟨rfl,h12⟩:=Zam h11
 exact ⟨_,_,_,_,_,Za8 hg rfl (Zae hu0 (Zae hu3 (Zae hu4 ZaY))),rfl,h12⟩
def Zm3 (N:Nat):ZaB:=(Zaj).add [0,1,0,1,1] fun _ E s K=>ZmA (Za6 Zjt E) s fun e_1 f_2 k_3 x_4 e_5=>ZdN N e_1 f_2 k_3 (Ze0 K e_1 f_2 k_3) N x_4 e_5
theorem Zuu {N:Nat} (hC:Ok Try.prog C) (hΦ:Zab Try.prog C (Zmq N)):Zbs Try.prog C (Zm3 N) Zmw [0,1,0,1,1] :=
 Zbo (Λi:=Zaj) (tr:=false) (ks:=Zjt) (kx:=ZoX) (N:=N) hC hΦ
  (Zau (by kernel_rfl))
  fun R E s K r h=>by
   have h2:=ZaB.add_self.symm.trans h
   refine (ZaO rfl).trans ?_
   obtain ⟨_,_,_,_,_,he,rfl,h3⟩:=ZkB h2
   rw [he]
   exact (Zri N _ _ _ _ N _ _).trans h3
theorem ZwW:Za0 Zsq [] = [([0,1,0,1,1],Zmw)]:=by kernel_rfl
theorem ZxV {R:Type} (N:Nat) (e_1:List V) (f_2:Fl) (K:V → S → Option R):Zbw C (Zmq N) (Zm3 N) 24 Try.f24 [.list 1 e_1 f_2] [] (GF rl K) =
 ZlJ N e_1 f_2 (fun k_901 e_902=>K (.arr 0 0 0 k_901) [some ⟨e_902,1,3,0⟩]):=by kernel_rfl
theorem ZrG {N:Nat} (hC:Ok Try.prog C) (hΦ:Zab Try.prog C (Zmq N)):ZaU Try.prog C (Zm3 N) Zsq [] :=
 ZaQ Zsq [] (by
  rw [ZwW]
  intro p hp
  simp only [List.mem_cons,List.mem_nil_iff,or_false] at hp
  rcases hp with rfl
  ·exact (Zuu hC hΦ))
theorem ZpW (hC:Ok Try.prog C) {N:Nat} (hΦ:Zab Try.prog C (Zmq N)):Zab Try.prog C (Zl4 N):=by
 refine hΦ.add_fresh rfl fun R vs K r h=>?_
 unfold Zv1 at h
 obtain ⟨_,rfl,h1⟩:=ZbM h
 obtain ⟨_,_,rfl,h2⟩:=Zar h1
 obtain ⟨_,h3⟩:=Zam h2
 refine ZcE (C:=C) (fn:=Try.f24) (c:=Zsq) hC (hΦ) Try.func24 (by kernel_rfl) (by kernel_rfl) (ZrG (N:=N) hC hΦ) rfl rfl ?_
 refine (ZxV N _ _ _).trans ?_
 rw [← Zoh]
 exact h3
def ZwD (N:Nat):(R:Type) → List V → S → (V → S → Option R) → Option R:=fun _ vs s K =>
 ZpQ vs fun v'1=>ZaV 1 v'1 fun e_1 f_2=>Zbb s <| ZlN N e_1 f_2 (fun k_901 e_902=>K (.arr 0 0 0 k_901) [some ⟨e_902,1,32,0⟩])
def Zmr (N:Nat):Zat:=(Zl4 N).add 16 (ZwD N)
def Zsu:Code:=Zbr Try.f16
def Zl1:Code:=(ZbO Zsu [] 0).2
def ZfN:TypeId → Option (Nat × TypeId):=fun t=>if Nat.beq t 32 then some (0,3) else none
abbrev Zro:Cfg:=C.rowed false true none ZfN [] [] [] []
def Zji:List Nat:=ZcY 23 [0,3,4]
def Zo2:List Nat:=ZcY 23 [3]
def ZgH (e_1:List V) (f_2:Fl) (k_3:Nat) (x_4:Int) (e_5:List V):List V:=mkF 0 23 [(0,.list 1 e_1 f_2),(3,.arr 0 0 0 k_3),(4,.int .i64 x_4)]
def Zfv {R:Type} (K:X → List V → S → Option R) (e_1:List V) (f_2:Fl) (k_3:Nat):List V → Option R:=(fun e_1'=>K (.exit 0) (mkF 0 23 [(3,.arr 0 0 0 k_3)]) [some ⟨e_1',1,32,0⟩])
abbrev ZiW {R:Type} (N:Nat):Nat → List V → S → (X → List V → S → Option R) → Option R:=fun n=>Zf6 Zro (Zl4 N) (Zaj) Zl1 [0,1,0,1,1] true Zji Zo2 n R
theorem Zvm {R:Type} (N n:Nat) (e_1:List V) (f_2:Fl) (k_3:Nat) (x_4:Int) (e_5:List V) (K:X → List V → S → Option R) :
 ZiW N (n + 1) (ZgH e_1 f_2 k_3 x_4 e_5) [some ⟨e_5,1,32,0⟩] K =
 Zcv N e_1 f_2 k_3 (fun x_4 e_5=>ZiW N n (ZgH e_1 f_2 k_3 x_4 e_5) [some ⟨e_5,1,32,0⟩] K) x_4 e_5 (Zfv K e_1 f_2 k_3):=by kernel_rfl
theorem ZsP {R:Type} (N:Nat) (e_1:List V) (f_2:Fl) (k_3:Nat) (K:X → List V → S → Option R):∀ (n:Nat) (x_4:Int) (e_5:List V),
 ZiW N n (ZgH e_1 f_2 k_3 x_4 e_5) [some ⟨e_5,1,32,0⟩] K = Zdx N e_1 f_2 k_3 (Zfv K e_1 f_2 k_3) n x_4 e_5
 | 0,_,_=>rfl
 | n + 1,x_4,e_5=>(Zvm N n e_1 f_2 k_3 x_4 e_5 K).trans (congrArg (fun nx=>Zcv N e_1 f_2 k_3 nx x_4 e_5 (Zfv K e_1 f_2 k_3)) (funext fun x_4=>funext fun e_5=>ZsP N e_1 f_2 k_3 K n x_4 e_5))
def ZmC {R:Type} (E:List V) (s:S) (k:List V → Fl → Nat → Int → List V → Option R):Option R :=
 Zag (Zbi 23 [0,3,4] E) <| Zbn E 0 1 fun e_1 f_2=>ZbC (nth E 3) fun u3=>ZhG u3 fun k'1 k'2 k'3 k_3=>isN k'1 0 <| isN k'2 0 <| isN k'3 0 <| Zbd E 4 .i64 fun x_4=>ZsY s fun o'4 s'5=>Zqw o'4 1 32 fun e_5 k'6=>isN k'6 0 <| Zbb s'5 <| k e_1 f_2 k_3 x_4 e_5
theorem Zk6 {R:Type} {E:List V} {s:S} {k:List V → Fl → Nat → Int → List V → Option R} {r:R} (h:ZmC E s k = some r):∃ e_1 f_2 k_3 x_4 e_5,E = ZgH e_1 f_2 k_3 x_4 e_5 ∧ s = [some ⟨e_5,1,32,0⟩] ∧ k e_1 f_2 k_3 x_4 e_5 = some r:=by
 unfold ZmC at h
 obtain ⟨hg,h1⟩:=Zaa h
 obtain ⟨_,_,hu0,h2⟩:=Zaw h1
 obtain ⟨_,hu3,h3⟩:=Zaf h2
 obtain ⟨_,_,_,_,rfl,h4⟩:=ZbV h3
 obtain ⟨rfl,h5⟩:=ZaL h4
 obtain ⟨rfl,h6⟩:=ZaL h5
 obtain ⟨rfl,h7⟩:=ZaL h6
 obtain ⟨_,hu4,h8⟩:=Zan h7
 obtain ⟨_,_,rfl,h9⟩:=Zce h8
 obtain ⟨_,_,rfl,h10⟩:=ZbP h9
 obtain ⟨rfl,h11⟩:=ZaL h10
 obtain ⟨rfl,h12⟩:=Zam h11
 exact ⟨_,_,_,_,_,Za8 hg rfl (Zae hu0 (Zae hu3 (Zae hu4 ZaY))),rfl,h12⟩
def ZnD (N:Nat):ZaB:=(Zaj).add [0,1,0,1,1] fun _ E s K=>ZmC (Za6 Zji E) s fun e_1 f_2 k_3 x_4 e_5=>Zdx N e_1 f_2 k_3 (Zfv K e_1 f_2 k_3) N x_4 e_5
theorem Ztt {N:Nat} (hC:Ok Try.prog C) (hΦ:Zab Try.prog C (Zl4 N)):Zbs Try.prog Zro (ZnD N) Zl1 [0,1,0,1,1] :=
 Zbo (Λi:=Zaj) (tr:=true) (ks:=Zji) (kx:=Zo2) (N:=N) (hC.rowed false true none ZfN [] [] [] []) (hΦ.rowed false true none ZfN [] [] [] [])
  (Zau (by kernel_rfl))
  fun R E s K r h=>by
   have h2:=ZaB.add_self.symm.trans h
   refine (ZaO rfl).trans ?_
   obtain ⟨_,_,_,_,_,he,rfl,h3⟩:=Zk6 h2
   rw [he]
   exact (ZsP N _ _ _ _ N _ _).trans h3
theorem Zwi:Za0 Zsu [] = [([0,1,0,1,1],Zl1)]:=by kernel_rfl
theorem Zx3 {R:Type} (N:Nat) (e_1:List V) (f_2:Fl) (K:V → S → Option R):Zbw Zro (Zl4 N) (ZnD N) 16 Try.f16 [.list 1 e_1 f_2] [] (GF rl K) =
 Zlu N e_1 f_2 (fun k_901 e_902=>K (.arr 0 0 0 k_901) [some ⟨e_902,1,32,0⟩]):=by kernel_rfl
theorem Zsr {N:Nat} (hC:Ok Try.prog C) (hΦ:Zab Try.prog C (Zl4 N)):ZaU Try.prog Zro (ZnD N) Zsu [] :=
 ZaQ Zsu [] (by
  rw [Zwi]
  intro p hp
  simp only [List.mem_cons,List.mem_nil_iff,or_false] at hp
  rcases hp with rfl
  ·exact (Ztt hC hΦ))
theorem ZpY (hC:Ok Try.prog C) {N:Nat} (hΦ:Zab Try.prog C (Zl4 N)):Zab Try.prog C (Zmr N):=by
 refine hΦ.add_fresh rfl fun R vs K r h=>?_
 unfold ZwD at h
 obtain ⟨_,rfl,h1⟩:=ZbM h
 obtain ⟨_,_,rfl,h2⟩:=Zar h1
 obtain ⟨_,h3⟩:=Zam h2
 refine Zcf (C:=C) false true none ZfN [] [] [] [] ?_
 refine ZcE (C:=Zro) (fn:=Try.f16) (c:=Zsu) (hC.rowed false true none ZfN [] [] [] []) (hΦ.rowed false true none ZfN [] [] [] []) Try.func16 (by kernel_rfl) (by kernel_rfl) (Zsr (N:=N) hC hΦ) rfl rfl ?_
 refine (Zx3 N _ _ _).trans ?_
 rw [← ZnU]
 exact h3
def Zwm (N:Nat):(R:Type) → List V → S → (V → S → Option R) → Option R:=fun _ vs s K =>
 ZjZ vs fun v'1 v'2=>ZaV 1 v'1 fun e_1 f_2=>ZaV 1 v'2 fun e_3 f_4=>Zbb s <| Ztn N e_1 f_2 e_3 f_4 (fun b_5=>K (.bool b_5) [])
def ZlO (N:Nat):Zat:=(Zmr N).add 26 (Zwm N)
def ZrS:Code:=Zbr Try.f26
def ZmB:Code:=(ZbO ZrS [] 0).2
def Zjl:List Nat:=ZcY 26 [0,1,5]
def Zoi:List Nat:=ZcY 26 [4]
def Zgi (e_1:List V) (f_2:Fl) (e_3:List V) (f_4:Fl) (x_5:Int):List V:=mkF 0 26 [(0,.list 1 e_1 f_2),(1,.list 1 e_3 f_4),(5,.int .i64 x_5)]
def Zfx {R:Type} (K:X → List V → S → Option R) (e_1:List V) (f_2:Fl) (e_3:List V) (f_4:Fl):Unit → Option R:=(fun _=>K .ret (mkF 0 26 [(4,.bool false)]) [])
def Zfn {R:Type} (K:X → List V → S → Option R) (e_1:List V) (f_2:Fl) (e_3:List V) (f_4:Fl):Unit → Option R:=(fun _=>K (.exit 0) (mkF 0 26 []) [])
abbrev ZjC {R:Type} (N:Nat):Nat → List V → S → (X → List V → S → Option R) → Option R:=fun n=>Zf6 C (Zmr N) (Zaj) ZmB [0,1,0,1,1] false Zjl Zoi n R
theorem ZvN {R:Type} (N n:Nat) (e_1:List V) (f_2:Fl) (e_3:List V) (f_4:Fl) (x_5:Int) (K:X → List V → S → Option R) :
 ZjC N (n + 1) (Zgi e_1 f_2 e_3 f_4 x_5) [] K =
 Zcm N e_1 f_2 e_3 f_4 (fun x_5=>ZjC N n (Zgi e_1 f_2 e_3 f_4 x_5) [] K) x_5 (Zfx K e_1 f_2 e_3 f_4) (Zfn K e_1 f_2 e_3 f_4):=by kernel_rfl
theorem Zso {R:Type} (N:Nat) (e_1:List V) (f_2:Fl) (e_3:List V) (f_4:Fl) (K:X → List V → S → Option R):∀ (n:Nat) (x_5:Int),
 ZjC N n (Zgi e_1 f_2 e_3 f_4 x_5) [] K = Zet N e_1 f_2 e_3 f_4 (Zfx K e_1 f_2 e_3 f_4) (Zfn K e_1 f_2 e_3 f_4) n x_5
 | 0,_=>rfl
 | n + 1,x_5=>(ZvN N n e_1 f_2 e_3 f_4 x_5 K).trans (congrArg (fun nx=>Zcm N e_1 f_2 e_3 f_4 nx x_5 (Zfx K e_1 f_2 e_3 f_4) (Zfn K e_1 f_2 e_3 f_4)) (funext fun x_5=>Zso N e_1 f_2 e_3 f_4 K n x_5))
def Znf {R:Type} (E:List V) (s:S) (k:List V → Fl → List V → Fl → Int → Option R):Option R :=
 Zag (Zbi 26 [0,1,5] E) <| Zbn E 0 1 fun e_1 f_2=>Zbn E 1 1 fun e_3 f_4=>Zbd E 5 .i64 fun x_5=>Zbb s <| k e_1 f_2 e_3 f_4 x_5
theorem ZkI {R:Type} {E:List V} {s:S} {k:List V → Fl → List V → Fl → Int → Option R} {r:R} (h:Znf E s k = some r):∃ e_1 f_2 e_3 f_4 x_5,E = Zgi e_1 f_2 e_3 f_4 x_5 ∧ s = [] ∧ k e_1 f_2 e_3 f_4 x_5 = some r:=by
 unfold Znf at h
 obtain ⟨hg,h1⟩:=Zaa h
 obtain ⟨_,_,hu0,h2⟩:=Zaw h1
 obtain ⟨_,_,hu1,h3⟩:=Zaw h2
 obtain ⟨_,hu5,h4⟩:=Zan h3
 obtain ⟨rfl,h5⟩:=Zam h4
 exact ⟨_,_,_,_,_,Za8 hg rfl (Zae hu0 (Zae hu1 (Zae hu5 ZaY))),rfl,h5⟩
def Zml (N:Nat):ZaB:=(Zaj).add [0,1,0,1,1] fun _ E s K=>Znf (Za6 Zjl E) s fun e_1 f_2 e_3 f_4 x_5=>Zet N e_1 f_2 e_3 f_4 (Zfx K e_1 f_2 e_3 f_4) (Zfn K e_1 f_2 e_3 f_4) N x_5
theorem ZtM {N:Nat} (hC:Ok Try.prog C) (hΦ:Zab Try.prog C (Zmr N)):Zbs Try.prog C (Zml N) ZmB [0,1,0,1,1] :=
 Zbo (Λi:=Zaj) (tr:=false) (ks:=Zjl) (kx:=Zoi) (N:=N) hC hΦ
  (Zau (by kernel_rfl))
  fun R E s K r h=>by
   have h2:=ZaB.add_self.symm.trans h
   refine (ZaO rfl).trans ?_
   obtain ⟨_,_,_,_,_,he,rfl,h3⟩:=ZkI h2
   rw [he]
   exact (Zso N _ _ _ _ _ N _).trans h3
theorem Zw7:Za0 ZrS [] = [([0,1,0,1,1],ZmB)]:=by kernel_rfl
theorem Zx0 {R:Type} (N:Nat) (e_1:List V) (f_2:Fl) (e_3:List V) (f_4:Fl) (K:V → S → Option R):Zbw C (Zmr N) (Zml N) 26 Try.f26 [.list 1 e_1 f_2,.list 1 e_3 f_4] [] K =
 ZkG N e_1 f_2 e_3 f_4 (fun b_5=>K (.bool b_5) []):=by kernel_rfl
theorem Zsm {N:Nat} (hC:Ok Try.prog C) (hΦ:Zab Try.prog C (Zmr N)):ZaU Try.prog C (Zml N) ZrS [] :=
 ZaQ ZrS [] (by
  rw [Zw7]
  intro p hp
  simp only [List.mem_cons,List.mem_nil_iff,or_false] at hp
  rcases hp with rfl
  ·exact (ZtM hC hΦ))
theorem Zpy (hC:Ok Try.prog C) {N:Nat} (hΦ:Zab Try.prog C (Zmr N)):Zab Try.prog C (ZlO N):=by
 refine hΦ.add_pure rfl fun R vs K r h=>?_
 unfold Zwm at h
 obtain ⟨_,_,rfl,h1⟩:=Zbm h
 obtain ⟨_,_,rfl,h2⟩:=Zar h1
 obtain ⟨_,_,rfl,h3⟩:=Zar h2
 obtain ⟨_,h4⟩:=Zam h3
 refine ZaX (fn:=Try.f26) (c:=ZrS) hC hΦ Try.func26 (by kernel_rfl) (by kernel_rfl) (Zsm (N:=N) hC hΦ) rfl rfl ?_
 refine (Zx0 N _ _ _ _ _).trans ?_
 rw [← Zod]
 exact h4
def ZwQ (N:Nat):(R:Type) → List V → S → (V → S → Option R) → Option R:=fun _ vs s K =>
 ZjZ vs fun v'1 v'2=>ZaV 1 v'1 fun e_1 f_2=>ZaV 1 v'2 fun e_3 f_4=>Zbb s <| ZlP N e_1 f_2 e_3 f_4 (fun b_5=>K (.bool b_5) [])
def Zmd (N:Nat):Zat:=(ZlO N).add 18 (ZwQ N)
def Zrd:Code:=Zbr Try.f18
def Znq:Code:=(ZbO Zrd [] 0).2
def ZiL:List Nat:=ZcY 27 [0,1,5]
def ZoC:List Nat:=ZcY 27 [4]
def Zgl (e_1:List V) (f_2:Fl) (e_3:List V) (f_4:Fl) (x_5:Int):List V:=mkF 0 27 [(0,.list 1 e_1 f_2),(1,.list 1 e_3 f_4),(5,.int .i64 x_5)]
def Ze5 {R:Type} (K:X → List V → S → Option R) (e_1:List V) (f_2:Fl) (e_3:List V) (f_4:Fl):Unit → Option R:=(fun _=>K .ret (mkF 0 27 [(4,.bool false)]) [])
def ZeH {R:Type} (K:X → List V → S → Option R) (e_1:List V) (f_2:Fl) (e_3:List V) (f_4:Fl):Unit → Option R:=(fun _=>K (.exit 0) (mkF 0 27 []) [])
abbrev ZiG {R:Type} (N:Nat):Nat → List V → S → (X → List V → S → Option R) → Option R:=fun n=>Zf6 C (ZlO N) (Zaj) Znq [0,1,0,1,1] false ZiL ZoC n R
theorem Zvq {R:Type} (N n:Nat) (e_1:List V) (f_2:Fl) (e_3:List V) (f_4:Fl) (x_5:Int) (K:X → List V → S → Option R) :
 ZiG N (n + 1) (Zgl e_1 f_2 e_3 f_4 x_5) [] K =
 Zcz N e_1 f_2 e_3 f_4 (fun x_5=>ZiG N n (Zgl e_1 f_2 e_3 f_4 x_5) [] K) x_5 (Ze5 K e_1 f_2 e_3 f_4) (ZeH K e_1 f_2 e_3 f_4):=by kernel_rfl
theorem ZsR {R:Type} (N:Nat) (e_1:List V) (f_2:Fl) (e_3:List V) (f_4:Fl) (K:X → List V → S → Option R):∀ (n:Nat) (x_5:Int),
 ZiG N n (Zgl e_1 f_2 e_3 f_4 x_5) [] K = ZeA N e_1 f_2 e_3 f_4 (Ze5 K e_1 f_2 e_3 f_4) (ZeH K e_1 f_2 e_3 f_4) n x_5
 | 0,_=>rfl
 | n + 1,x_5=>(Zvq N n e_1 f_2 e_3 f_4 x_5 K).trans (congrArg (fun nx=>Zcz N e_1 f_2 e_3 f_4 nx x_5 (Ze5 K e_1 f_2 e_3 f_4) (ZeH K e_1 f_2 e_3 f_4)) (funext fun x_5=>ZsR N e_1 f_2 e_3 f_4 K n x_5))
def ZmN {R:Type} (E:List V) (s:S) (k:List V → Fl → List V → Fl → Int → Option R):Option R :=
 Zag (Zbi 27 [0,1,5] E) <| Zbn E 0 1 fun e_1 f_2=>Zbn E 1 1 fun e_3 f_4=>Zbd E 5 .i64 fun x_5=>Zbb s <| k e_1 f_2 e_3 f_4 x_5
theorem ZkN {R:Type} {E:List V} {s:S} {k:List V → Fl → List V → Fl → Int → Option R} {r:R} (h:ZmN E s k = some r):∃ e_1 f_2 e_3 f_4 x_5,E = Zgl e_1 f_2 e_3 f_4 x_5 ∧ s = [] ∧ k e_1 f_2 e_3 f_4 x_5 = some r:=by
 unfold ZmN at h
 obtain ⟨hg,h1⟩:=Zaa h
 obtain ⟨_,_,hu0,h2⟩:=Zaw h1
 obtain ⟨_,_,hu1,h3⟩:=Zaw h2
 obtain ⟨_,hu5,h4⟩:=Zan h3
 obtain ⟨rfl,h5⟩:=Zam h4
 exact ⟨_,_,_,_,_,Za8 hg rfl (Zae hu0 (Zae hu1 (Zae hu5 ZaY))),rfl,h5⟩
def ZmE (N:Nat):ZaB:=(Zaj).add [0,1,0,1,1] fun _ E s K=>ZmN (Za6 ZiL E) s fun e_1 f_2 e_3 f_4 x_5=>ZeA N e_1 f_2 e_3 f_4 (Ze5 K e_1 f_2 e_3 f_4) (ZeH K e_1 f_2 e_3 f_4) N x_5
theorem Zte {N:Nat} (hC:Ok Try.prog C) (hΦ:Zab Try.prog C (ZlO N)):Zbs Try.prog C (ZmE N) Znq [0,1,0,1,1] :=
 Zbo (Λi:=Zaj) (tr:=false) (ks:=ZiL) (kx:=ZoC) (N:=N) hC hΦ
  (Zau (by kernel_rfl))
  fun R E s K r h=>by
   have h2:=ZaB.add_self.symm.trans h
   refine (ZaO rfl).trans ?_
   obtain ⟨_,_,_,_,_,he,rfl,h3⟩:=ZkN h2
   rw [he]
   exact (ZsR N _ _ _ _ _ N _).trans h3
theorem ZwP:Za0 Zrd [] = [([0,1,0,1,1],Znq)]:=by kernel_rfl
theorem Zxp {R:Type} (N:Nat) (e_1:List V) (f_2:Fl) (e_3:List V) (f_4:Fl) (K:V → S → Option R):Zbw C (ZlO N) (ZmE N) 18 Try.f18 [.list 1 e_1 f_2,.list 1 e_3 f_4] [] K =
 ZlB N e_1 f_2 e_3 f_4 (fun b_5=>K (.bool b_5) []):=by kernel_rfl
theorem ZqE {N:Nat} (hC:Ok Try.prog C) (hΦ:Zab Try.prog C (ZlO N)):ZaU Try.prog C (ZmE N) Zrd [] :=
 ZaQ Zrd [] (by
  rw [ZwP]
  intro p hp
  simp only [List.mem_cons,List.mem_nil_iff,or_false] at hp
  rcases hp with rfl
  ·exact (Zte hC hΦ))
theorem Zql (hC:Ok Try.prog C) {N:Nat} (hΦ:Zab Try.prog C (ZlO N)):Zab Try.prog C (Zmd N):=by
 refine hΦ.add_pure rfl fun R vs K r h=>?_
 unfold ZwQ at h
 obtain ⟨_,_,rfl,h1⟩:=Zbm h
 obtain ⟨_,_,rfl,h2⟩:=Zar h1
 obtain ⟨_,_,rfl,h3⟩:=Zar h2
 obtain ⟨_,h4⟩:=Zam h3
 refine ZaX (fn:=Try.f18) (c:=Zrd) hC hΦ Try.func18 (by kernel_rfl) (by kernel_rfl) (ZqE (N:=N) hC hΦ) rfl rfl ?_
 refine (Zxp N _ _ _ _ _).trans ?_
 rw [← Zo1]
 exact h4
def Zwg (N:Nat):(R:Type) → List V → S → (V → S → Option R) → Option R:=fun _ vs s K =>
 ZjZ vs fun v'1 v'2=>ZhG v'1 fun o0 k'4 k'5 k_1=>isN k'4 0 <| isN k'5 0 <| asInt .i64 v'2 fun x_2=>Zxh s o0 0 fun o'6=>Zqw o'6 1 3 fun e_3 k'8=>isN k'8 0 <| Zag (Zbt [o0]) <| Zag (okI 1 [false] [some ⟨e_3,1,3,0⟩]) <| Zs1 N k_1 x_2 e_3 (fun x_901 e_902=>FK s [o0] rl K (.int .i64 x_901) [some ⟨e_902,1,3,0⟩])
def ZnE (N:Nat):Zat:=(Zmd N).add 27 (Zwg N)
def ZsV:Code:=Zbr Try.f27
def Zm5:Code:=(ZbO ZsV [] 0).2
def ZiV:List Nat:=ZcY 19 [0,1,5]
def ZnO:List Nat:=ZcY 19 [1]
def ZgD (k_1:Nat) (x_2 x_3:Int) (e_4:List V):List V:=mkF 0 19 [(0,.arr 0 0 0 k_1),(1,.int .i64 x_2),(5,.int .i64 x_3)]
def ZeF {R:Type} (K:X → List V → S → Option R) (k_1:Nat):Int → List V → Option R:=(fun x_1' e_2'=>K (.exit 0) (mkF 0 19 [(1,.int .i64 (x_1'))]) [some ⟨e_2',1,3,0⟩])
abbrev ZiJ {R:Type} (N:Nat):Nat → List V → S → (X → List V → S → Option R) → Option R:=fun n=>Zf6 C (Zmd N) (Zaj) Zm5 [0,1,0,1] false ZiV ZnO n R
theorem Zvx {R:Type} (N n:Nat) (k_1:Nat) (x_2 x_3:Int) (e_4:List V) (K:X → List V → S → Option R) :
 ZiJ N (n + 1) (ZgD k_1 x_2 x_3 e_4) [some ⟨e_4,1,3,0⟩] K =
 Zcl N k_1 (fun x_2 x_3 e_4=>ZiJ N n (ZgD k_1 x_2 x_3 e_4) [some ⟨e_4,1,3,0⟩] K) x_2 x_3 e_4 (ZeF K k_1):=by kernel_rfl
theorem Zq5 {R:Type} (N:Nat) (k_1:Nat) (K:X → List V → S → Option R):∀ (n:Nat) (x_2 x_3:Int) (e_4:List V),
 ZiJ N n (ZgD k_1 x_2 x_3 e_4) [some ⟨e_4,1,3,0⟩] K = Zer N k_1 (ZeF K k_1) n x_2 x_3 e_4
 | 0,_,_,_=>rfl
 | n + 1,x_2,x_3,e_4=>(Zvx N n k_1 x_2 x_3 e_4 K).trans (congrArg (fun nx=>Zcl N k_1 nx x_2 x_3 e_4 (ZeF K k_1)) (funext fun x_2=>funext fun x_3=>funext fun e_4=>Zq5 N k_1 K n x_2 x_3 e_4))
def Zm9 {R:Type} (E:List V) (s:S) (k:Nat → Int → Int → List V → Option R):Option R :=
 Zag (Zbi 19 [0,1,5] E) <| ZbC (nth E 0) fun u0=>ZhG u0 fun k'1 k'2 k'3 k_1=>isN k'1 0 <| isN k'2 0 <| isN k'3 0 <| Zbd E 1 .i64 fun x_2=>Zbd E 5 .i64 fun x_3=>ZsY s fun o'4 s'5=>Zqw o'4 1 3 fun e_4 k'6=>isN k'6 0 <| Zbb s'5 <| k k_1 x_2 x_3 e_4
theorem ZlA {R:Type} {E:List V} {s:S} {k:Nat → Int → Int → List V → Option R} {r:R} (h:Zm9 E s k = some r):∃ k_1 x_2 x_3 e_4,E = ZgD k_1 x_2 x_3 e_4 ∧ s = [some ⟨e_4,1,3,0⟩] ∧ k k_1 x_2 x_3 e_4 = some r:=by
 unfold Zm9 at h
 obtain ⟨hg,h1⟩:=Zaa h
 obtain ⟨_,hu0,h2⟩:=Zaf h1
 obtain ⟨_,_,_,_,rfl,h3⟩:=ZbV h2
 obtain ⟨rfl,h4⟩:=ZaL h3
 obtain ⟨rfl,h5⟩:=ZaL h4
 obtain ⟨rfl,h6⟩:=ZaL h5
 obtain ⟨_,hu1,h7⟩:=Zan h6
 obtain ⟨_,hu5,h8⟩:=Zan h7
 obtain ⟨_,_,rfl,h9⟩:=Zce h8
 obtain ⟨_,_,rfl,h10⟩:=ZbP h9
 obtain ⟨rfl,h11⟩:=ZaL h10
 obtain ⟨rfl,h12⟩:=Zam h11
 exact ⟨_,_,_,_,Za8 hg rfl (Zae hu0 (Zae hu1 (Zae hu5 ZaY))),rfl,h12⟩
def Znd (N:Nat):ZaB:=(Zaj).add [0,1,0,1] fun _ E s K=>Zm9 (Za6 ZiV E) s fun k_1 x_2 x_3 e_4=>Zer N k_1 (ZeF K k_1) N x_2 x_3 e_4
theorem ZtA {N:Nat} (hC:Ok Try.prog C) (hΦ:Zab Try.prog C (Zmd N)):Zbs Try.prog C (Znd N) Zm5 [0,1,0,1] :=
 Zbo (Λi:=Zaj) (tr:=false) (ks:=ZiV) (kx:=ZnO) (N:=N) hC hΦ
  (Zau (by kernel_rfl))
  fun R E s K r h=>by
   have h2:=ZaB.add_self.symm.trans h
   refine (ZaO rfl).trans ?_
   obtain ⟨_,_,_,_,he,rfl,h3⟩:=ZlA h2
   rw [he]
   exact (Zq5 N _ _ N _ _ _).trans h3
theorem Zv5:Za0 ZsV [] = [([0,1,0,1],Zm5)]:=by kernel_rfl
theorem Zx7 {R:Type} (N:Nat) (k_1:Nat) (x_2:Int) (e_3:List V) (K:V → S → Option R):Zbw C (Zmd N) (Znd N) 27 Try.f27 [.arr 0 0 0 k_1,.int .i64 x_2] [some ⟨e_3,1,3,0⟩] (GK rl 1 K) =
 Zku N k_1 x_2 e_3 (fun x_901 e_902=>K (.int .i64 x_901) [some ⟨e_902,1,3,0⟩]):=by kernel_rfl
theorem Zr8 {N:Nat} (hC:Ok Try.prog C) (hΦ:Zab Try.prog C (Zmd N)):ZaU Try.prog C (Znd N) ZsV [] :=
 ZaQ ZsV [] (by
  rw [Zv5]
  intro p hp
  simp only [List.mem_cons,List.mem_nil_iff,or_false] at hp
  rcases hp with rfl
  ·exact (ZtA hC hΦ))
theorem Zqg (hC:Ok Try.prog C) {N:Nat} (hΦ:Zab Try.prog C (Zmd N)):Zab Try.prog C (ZnE N):=by
 refine hΦ.add_shared rfl fun R vs s K r h=>?_
 unfold Zwg at h
 obtain ⟨_,_,rfl,h1⟩:=Zbm h
 obtain ⟨o0,_,_,k_1,rfl,h2⟩:=ZbV h1
 obtain ⟨rfl,h3⟩:=ZaL h2
 obtain ⟨rfl,h4⟩:=ZaL h3
 obtain ⟨x_2,rfl,h5⟩:=Zaz h4
 obtain ⟨_,hob0,h6⟩:=Zj9 h5
 obtain ⟨e_3,_,rfl,h7⟩:=ZbP h6
 obtain ⟨rfl,h8⟩:=ZaL h7
 obtain ⟨hdist,h9⟩:=Zaa h8
 obtain ⟨hin,h10⟩:=Zaa h9
 refine ZgL (C:=C) (fn:=Try.f27) (c:=ZsV) (os:=[o0]) (rl:=rl) (bi:=[false]) (s0:=[some ⟨e_3,1,3,0⟩]) (as0:=[.arr 0 0 0 k_1,.int .i64 x_2]) hC (hΦ) Try.func27 (by kernel_rfl) (by kernel_rfl) (Zr8 (N:=N) hC hΦ) rfl (ZqK rfl) hdist ⟨⟨_,rfl,hob0⟩,trivial⟩ hin rfl rfl ?_
 refine (Zx7 N _ _ _ _).trans ?_
 rw [← ZoH]
 exact h10
def Zwa (N:Nat):(R:Type) → List V → S → (V → S → Option R) → Option R:=fun _ vs s K =>
 ZjZ vs fun v'1 v'2=>ZhG v'1 fun o0 k'4 k'5 k_1=>isN k'4 0 <| isN k'5 0 <| asInt .i64 v'2 fun x_2=>Zxh s o0 0 fun o'6=>Zqw o'6 1 32 fun e_3 k'8=>isN k'8 0 <| Zag (Zbt [o0]) <| Zag (okI 1 [false] [some ⟨e_3,1,32,0⟩]) <| Znw N k_1 x_2 e_3 (fun x_901 e_902=>FK s [o0] rl K (.int .i64 x_901) [some ⟨e_902,1,32,0⟩])
def ZlW (N:Nat):Zat:=(ZnE N).add 19 (Zwa N)
def Zsj:Code:=Zbr Try.f19
def ZmM:Code:=(ZbO Zsj [] 0).2
def ZfL:TypeId → Option (Nat × TypeId):=fun t=>if Nat.beq t 32 then some (0,3) else none
abbrev ZrV:Cfg:=C.rowed false true none ZfL [] [] [] []
def Zjf:List Nat:=ZcY 19 [0,1,5]
def Zn1:List Nat:=ZcY 19 [1]
def Zgr (k_1:Nat) (x_2 x_3:Int) (e_4:List V):List V:=mkF 0 19 [(0,.arr 0 0 0 k_1),(1,.int .i64 x_2),(5,.int .i64 x_3)]
def ZeS {R:Type} (K:X → List V → S → Option R) (k_1:Nat):Int → List V → Option R:=(fun x_1' e_2'=>K (.exit 0) (mkF 0 19 [(1,.int .i64 (x_1'))]) [some ⟨e_2',1,32,0⟩])
abbrev ZiZ {R:Type} (N:Nat):Nat → List V → S → (X → List V → S → Option R) → Option R:=fun n=>Zf6 ZrV (ZnE N) (Zaj) ZmM [0,1,0,1] true Zjf Zn1 n R
theorem Zvg {R:Type} (N n:Nat) (k_1:Nat) (x_2 x_3:Int) (e_4:List V) (K:X → List V → S → Option R) :
 ZiZ N (n + 1) (Zgr k_1 x_2 x_3 e_4) [some ⟨e_4,1,32,0⟩] K =
 Zcj N k_1 (fun x_2 x_3 e_4=>ZiZ N n (Zgr k_1 x_2 x_3 e_4) [some ⟨e_4,1,32,0⟩] K) x_2 x_3 e_4 (ZeS K k_1):=by kernel_rfl
theorem Zq4 {R:Type} (N:Nat) (k_1:Nat) (K:X → List V → S → Option R):∀ (n:Nat) (x_2 x_3:Int) (e_4:List V),
 ZiZ N n (Zgr k_1 x_2 x_3 e_4) [some ⟨e_4,1,32,0⟩] K = Zeq N k_1 (ZeS K k_1) n x_2 x_3 e_4
 | 0,_,_,_=>rfl
 | n + 1,x_2,x_3,e_4=>(Zvg N n k_1 x_2 x_3 e_4 K).trans (congrArg (fun nx=>Zcj N k_1 nx x_2 x_3 e_4 (ZeS K k_1)) (funext fun x_2=>funext fun x_3=>funext fun e_4=>Zq4 N k_1 K n x_2 x_3 e_4))
def ZmQ {R:Type} (E:List V) (s:S) (k:Nat → Int → Int → List V → Option R):Option R :=
 Zag (Zbi 19 [0,1,5] E) <| ZbC (nth E 0) fun u0=>ZhG u0 fun k'1 k'2 k'3 k_1=>isN k'1 0 <| isN k'2 0 <| isN k'3 0 <| Zbd E 1 .i64 fun x_2=>Zbd E 5 .i64 fun x_3=>ZsY s fun o'4 s'5=>Zqw o'4 1 32 fun e_4 k'6=>isN k'6 0 <| Zbb s'5 <| k k_1 x_2 x_3 e_4
theorem ZkH {R:Type} {E:List V} {s:S} {k:Nat → Int → Int → List V → Option R} {r:R} (h:ZmQ E s k = some r):∃ k_1 x_2 x_3 e_4,E = Zgr k_1 x_2 x_3 e_4 ∧ s = [some ⟨e_4,1,32,0⟩] ∧ k k_1 x_2 x_3 e_4 = some r:=by
 unfold ZmQ at h
 obtain ⟨hg,h1⟩:=Zaa h
 obtain ⟨_,hu0,h2⟩:=Zaf h1
 obtain ⟨_,_,_,_,rfl,h3⟩:=ZbV h2
 obtain ⟨rfl,h4⟩:=ZaL h3
 obtain ⟨rfl,h5⟩:=ZaL h4
 obtain ⟨rfl,h6⟩:=ZaL h5
 obtain ⟨_,hu1,h7⟩:=Zan h6
 obtain ⟨_,hu5,h8⟩:=Zan h7
 obtain ⟨_,_,rfl,h9⟩:=Zce h8
 obtain ⟨_,_,rfl,h10⟩:=ZbP h9
 obtain ⟨rfl,h11⟩:=ZaL h10
 obtain ⟨rfl,h12⟩:=Zam h11
 exact ⟨_,_,_,_,Za8 hg rfl (Zae hu0 (Zae hu1 (Zae hu5 ZaY))),rfl,h12⟩
def ZmI (N:Nat):ZaB:=(Zaj).add [0,1,0,1] fun _ E s K=>ZmQ (Za6 Zjf E) s fun k_1 x_2 x_3 e_4=>Zeq N k_1 (ZeS K k_1) N x_2 x_3 e_4
theorem Ztb {N:Nat} (hC:Ok Try.prog C) (hΦ:Zab Try.prog C (ZnE N)):Zbs Try.prog ZrV (ZmI N) ZmM [0,1,0,1] :=
 Zbo (Λi:=Zaj) (tr:=true) (ks:=Zjf) (kx:=Zn1) (N:=N) (hC.rowed false true none ZfL [] [] [] []) (hΦ.rowed false true none ZfL [] [] [] [])
  (Zau (by kernel_rfl))
  fun R E s K r h=>by
   have h2:=ZaB.add_self.symm.trans h
   refine (ZaO rfl).trans ?_
   obtain ⟨_,_,_,_,he,rfl,h3⟩:=ZkH h2
   rw [he]
   exact (Zq4 N _ _ N _ _ _).trans h3
theorem Zwv:Za0 Zsj [] = [([0,1,0,1],ZmM)]:=by kernel_rfl
theorem ZxC {R:Type} (N:Nat) (k_1:Nat) (x_2:Int) (e_3:List V) (K:V → S → Option R):Zbw ZrV (ZnE N) (ZmI N) 19 Try.f19 [.arr 0 0 0 k_1,.int .i64 x_2] [some ⟨e_3,1,32,0⟩] (GK rl 1 K) =
 Zlx N k_1 x_2 e_3 (fun x_901 e_902=>K (.int .i64 x_901) [some ⟨e_902,1,32,0⟩]):=by kernel_rfl
theorem ZqF {N:Nat} (hC:Ok Try.prog C) (hΦ:Zab Try.prog C (ZnE N)):ZaU Try.prog ZrV (ZmI N) Zsj [] :=
 ZaQ Zsj [] (by
  rw [Zwv]
  intro p hp
  simp only [List.mem_cons,List.mem_nil_iff,or_false] at hp
  rcases hp with rfl
  ·exact (Ztb hC hΦ))
theorem Zp3 (hC:Ok Try.prog C) {N:Nat} (hΦ:Zab Try.prog C (ZnE N)):Zab Try.prog C (ZlW N):=by
 refine hΦ.add_shared rfl fun R vs s K r h=>?_
 unfold Zwa at h
 obtain ⟨_,_,rfl,h1⟩:=Zbm h
 obtain ⟨o0,_,_,k_1,rfl,h2⟩:=ZbV h1
 obtain ⟨rfl,h3⟩:=ZaL h2
 obtain ⟨rfl,h4⟩:=ZaL h3
 obtain ⟨x_2,rfl,h5⟩:=Zaz h4
 obtain ⟨_,hob0,h6⟩:=Zj9 h5
 obtain ⟨e_3,_,rfl,h7⟩:=ZbP h6
 obtain ⟨rfl,h8⟩:=ZaL h7
 obtain ⟨hdist,h9⟩:=Zaa h8
 obtain ⟨hin,h10⟩:=Zaa h9
 refine Ziz (C:=C) false true none ZfL [] [] [] [] ?_
 refine ZgL (C:=ZrV) (fn:=Try.f19) (c:=Zsj) (os:=[o0]) (rl:=rl) (bi:=[false]) (s0:=[some ⟨e_3,1,32,0⟩]) (as0:=[.arr 0 0 0 k_1,.int .i64 x_2]) (hC.rowed false true none ZfL [] [] [] []) (hΦ.rowed false true none ZfL [] [] [] []) Try.func19 (by kernel_rfl) (by kernel_rfl) (ZqF (N:=N) hC hΦ) rfl (ZqK rfl) hdist ⟨⟨_,rfl,hob0⟩,trivial⟩ hin rfl rfl ?_
 refine (ZxC N _ _ _ _).trans ?_
 rw [← Zov]
 exact h10
def ZwZ (N:Nat):(R:Type) → List V → S → (V → S → Option R) → Option R:=fun _ vs s K =>
 ZjZ vs fun v'1 v'2=>ZaV 1 v'1 fun e_1 f_2=>asInt .i64 v'2 fun x_3=>Zbb s <| Zup N e_1 f_2 x_3 (fun x_4=>K (.int .i64 x_4) [])
def Zmn (N:Nat):Zat:=(ZlW N).add 28 (ZwZ N)
def ZsI:Code:=Zbr Try.f28
def ZmS:Code:=(ZbO ZsI [] 0).2
def ZiM:List Nat:=ZcY 21 [0,1,5]
def Zoz:List Nat:=ZcY 21 [1,4]
def Zgj (e_1:List V) (f_2:Fl) (x_3 x_4:Int):List V:=mkF 0 21 [(0,.list 1 e_1 f_2),(1,.int .i64 x_3),(5,.int .i64 x_4)]
def ZeL {R:Type} (K:X → List V → S → Option R) (e_1:List V) (f_2:Fl):Int → Option R:=(fun x_1'=>K .ret (mkF 0 21 [(1,.int .i64 (x_1')),(4,.int .i64 (-1))]) [])
def ZeX {R:Type} (K:X → List V → S → Option R) (e_1:List V) (f_2:Fl):Int → Option R:=(fun x_1'=>K (.exit 0) (mkF 0 21 [(1,.int .i64 (x_1'))]) [])
abbrev Zja {R:Type} (N:Nat):Nat → List V → S → (X → List V → S → Option R) → Option R:=fun n=>Zf6 C (ZlW N) (Zaj) ZmS [0,1,0,1] false ZiM Zoz n R
theorem ZvP {R:Type} (N n:Nat) (e_1:List V) (f_2:Fl) (x_3 x_4:Int) (K:X → List V → S → Option R) :
 Zja N (n + 1) (Zgj e_1 f_2 x_3 x_4) [] K =
 Zcq N e_1 f_2 (fun x_3 x_4=>Zja N n (Zgj e_1 f_2 x_3 x_4) [] K) x_3 x_4 (ZeL K e_1 f_2) (ZeX K e_1 f_2):=by kernel_rfl
theorem ZrO {R:Type} (N:Nat) (e_1:List V) (f_2:Fl) (K:X → List V → S → Option R):∀ (n:Nat) (x_3 x_4:Int),
 Zja N n (Zgj e_1 f_2 x_3 x_4) [] K = Zev N e_1 f_2 (ZeL K e_1 f_2) (ZeX K e_1 f_2) n x_3 x_4
 | 0,_,_=>rfl
 | n + 1,x_3,x_4=>(ZvP N n e_1 f_2 x_3 x_4 K).trans (congrArg (fun nx=>Zcq N e_1 f_2 nx x_3 x_4 (ZeL K e_1 f_2) (ZeX K e_1 f_2)) (funext fun x_3=>funext fun x_4=>ZrO N e_1 f_2 K n x_3 x_4))
def ZmU {R:Type} (E:List V) (s:S) (k:List V → Fl → Int → Int → Option R):Option R :=
 Zag (Zbi 21 [0,1,5] E) <| Zbn E 0 1 fun e_1 f_2=>Zbd E 1 .i64 fun x_3=>Zbd E 5 .i64 fun x_4=>Zbb s <| k e_1 f_2 x_3 x_4
theorem ZkK {R:Type} {E:List V} {s:S} {k:List V → Fl → Int → Int → Option R} {r:R} (h:ZmU E s k = some r):∃ e_1 f_2 x_3 x_4,E = Zgj e_1 f_2 x_3 x_4 ∧ s = [] ∧ k e_1 f_2 x_3 x_4 = some r:=by
 unfold ZmU at h
 obtain ⟨hg,h1⟩:=Zaa h
 obtain ⟨_,_,hu0,h2⟩:=Zaw h1
 obtain ⟨_,hu1,h3⟩:=Zan h2
 obtain ⟨_,hu5,h4⟩:=Zan h3
 obtain ⟨rfl,h5⟩:=Zam h4
 exact ⟨_,_,_,_,Za8 hg rfl (Zae hu0 (Zae hu1 (Zae hu5 ZaY))),rfl,h5⟩
def Zm4 (N:Nat):ZaB:=(Zaj).add [0,1,0,1] fun _ E s K=>ZmU (Za6 ZiM E) s fun e_1 f_2 x_3 x_4=>Zev N e_1 f_2 (ZeL K e_1 f_2) (ZeX K e_1 f_2) N x_3 x_4
theorem ZtX {N:Nat} (hC:Ok Try.prog C) (hΦ:Zab Try.prog C (ZlW N)):Zbs Try.prog C (Zm4 N) ZmS [0,1,0,1] :=
 Zbo (Λi:=Zaj) (tr:=false) (ks:=ZiM) (kx:=Zoz) (N:=N) hC hΦ
  (Zau (by kernel_rfl))
  fun R E s K r h=>by
   have h2:=ZaB.add_self.symm.trans h
   refine (ZaO rfl).trans ?_
   obtain ⟨_,_,_,_,he,rfl,h3⟩:=ZkK h2
   rw [he]
   exact (ZrO N _ _ _ N _ _).trans h3
theorem Zwr:Za0 ZsI [] = [([0,1,0,1],ZmS)]:=by kernel_rfl
theorem Zx4 {R:Type} (N:Nat) (e_1:List V) (f_2:Fl) (x_3:Int) (K:V → S → Option R):Zbw C (ZlW N) (Zm4 N) 28 Try.f28 [.list 1 e_1 f_2,.int .i64 x_3] [] K =
 Zlc N e_1 f_2 x_3 (fun x_4=>K (.int .i64 x_4) []):=by kernel_rfl
theorem Zsz {N:Nat} (hC:Ok Try.prog C) (hΦ:Zab Try.prog C (ZlW N)):ZaU Try.prog C (Zm4 N) ZsI [] :=
 ZaQ ZsI [] (by
  rw [Zwr]
  intro p hp
  simp only [List.mem_cons,List.mem_nil_iff,or_false] at hp
  rcases hp with rfl
  ·exact (ZtX hC hΦ))
theorem ZpR (hC:Ok Try.prog C) {N:Nat} (hΦ:Zab Try.prog C (ZlW N)):Zab Try.prog C (Zmn N):=by
 refine hΦ.add_pure rfl fun R vs K r h=>?_
 unfold ZwZ at h
 obtain ⟨_,_,rfl,h1⟩:=Zbm h
 obtain ⟨_,_,rfl,h2⟩:=Zar h1
 obtain ⟨_,rfl,h3⟩:=Zaz h2
 obtain ⟨_,h4⟩:=Zam h3
 refine ZaX (fn:=Try.f28) (c:=ZsI) hC hΦ Try.func28 (by kernel_rfl) (by kernel_rfl) (Zsz (N:=N) hC hΦ) rfl rfl ?_
 refine (Zx4 N _ _ _ _).trans ?_
 rw [← Zoa]
 exact h4
def ZwU (N:Nat):(R:Type) → List V → S → (V → S → Option R) → Option R:=fun _ vs s K =>
 ZjZ vs fun v'1 v'2=>ZaV 1 v'1 fun e_1 f_2=>asInt .i64 v'2 fun x_3=>Zbb s <| ZpH N e_1 f_2 x_3 (fun x_4=>K (.int .i64 x_4) [])
def ZtE (N:Nat):Zat:=(Zmn N).add 20 (ZwU N)
def Zr7:Code:=Zbr Try.f20
def ZlR:Code:=(ZbO Zr7 [] 0).2
def Zi9:List Nat:=ZcY 21 [0,1,5]
def Zn6:List Nat:=ZcY 21 [1,4]
def Zgp (e_1:List V) (f_2:Fl) (x_3 x_4:Int):List V:=mkF 0 21 [(0,.list 1 e_1 f_2),(1,.int .i64 x_3),(5,.int .i64 x_4)]
def ZeW {R:Type} (K:X → List V → S → Option R) (e_1:List V) (f_2:Fl):Int → Option R:=(fun x_1'=>K .ret (mkF 0 21 [(1,.int .i64 (x_1')),(4,.int .i64 (-1))]) [])
def ZeN {R:Type} (K:X → List V → S → Option R) (e_1:List V) (f_2:Fl):Int → Option R:=(fun x_1'=>K (.exit 0) (mkF 0 21 [(1,.int .i64 (x_1'))]) [])
abbrev ZjF {R:Type} (N:Nat):Nat → List V → S → (X → List V → S → Option R) → Option R:=fun n=>Zf6 C (Zmn N) (Zaj) ZlR [0,1,0,1] false Zi9 Zn6 n R
theorem Zu2 {R:Type} (N n:Nat) (e_1:List V) (f_2:Fl) (x_3 x_4:Int) (K:X → List V → S → Option R) :
 ZjF N (n + 1) (Zgp e_1 f_2 x_3 x_4) [] K =
 Zco N e_1 f_2 (fun x_3 x_4=>ZjF N n (Zgp e_1 f_2 x_3 x_4) [] K) x_3 x_4 (ZeW K e_1 f_2) (ZeN K e_1 f_2):=by kernel_rfl
theorem Zr6 {R:Type} (N:Nat) (e_1:List V) (f_2:Fl) (K:X → List V → S → Option R):∀ (n:Nat) (x_3 x_4:Int),
 ZjF N n (Zgp e_1 f_2 x_3 x_4) [] K = Zek N e_1 f_2 (ZeW K e_1 f_2) (ZeN K e_1 f_2) n x_3 x_4
 | 0,_,_=>rfl
 | n + 1,x_3,x_4=>(Zu2 N n e_1 f_2 x_3 x_4 K).trans (congrArg (fun nx=>Zco N e_1 f_2 nx x_3 x_4 (ZeW K e_1 f_2) (ZeN K e_1 f_2)) (funext fun x_3=>funext fun x_4=>Zr6 N e_1 f_2 K n x_3 x_4))
def Zmz {R:Type} (E:List V) (s:S) (k:List V → Fl → Int → Int → Option R):Option R :=
 Zag (Zbi 21 [0,1,5] E) <| Zbn E 0 1 fun e_1 f_2=>Zbd E 1 .i64 fun x_3=>Zbd E 5 .i64 fun x_4=>Zbb s <| k e_1 f_2 x_3 x_4
theorem Zlm {R:Type} {E:List V} {s:S} {k:List V → Fl → Int → Int → Option R} {r:R} (h:Zmz E s k = some r):∃ e_1 f_2 x_3 x_4,E = Zgp e_1 f_2 x_3 x_4 ∧ s = [] ∧ k e_1 f_2 x_3 x_4 = some r:=by
 unfold Zmz at h
 obtain ⟨hg,h1⟩:=Zaa h
 obtain ⟨_,_,hu0,h2⟩:=Zaw h1
 obtain ⟨_,hu1,h3⟩:=Zan h2
 obtain ⟨_,hu5,h4⟩:=Zan h3
 obtain ⟨rfl,h5⟩:=Zam h4
 exact ⟨_,_,_,_,Za8 hg rfl (Zae hu0 (Zae hu1 (Zae hu5 ZaY))),rfl,h5⟩
def ZmO (N:Nat):ZaB:=(Zaj).add [0,1,0,1] fun _ E s K=>Zmz (Za6 Zi9 E) s fun e_1 f_2 x_3 x_4=>Zek N e_1 f_2 (ZeW K e_1 f_2) (ZeN K e_1 f_2) N x_3 x_4
theorem Ztm {N:Nat} (hC:Ok Try.prog C) (hΦ:Zab Try.prog C (Zmn N)):Zbs Try.prog C (ZmO N) ZlR [0,1,0,1] :=
 Zbo (Λi:=Zaj) (tr:=false) (ks:=Zi9) (kx:=Zn6) (N:=N) hC hΦ
  (Zau (by kernel_rfl))
  fun R E s K r h=>by
   have h2:=ZaB.add_self.symm.trans h
   refine (ZaO rfl).trans ?_
   obtain ⟨_,_,_,_,he,rfl,h3⟩:=Zlm h2
   rw [he]
   exact (Zr6 N _ _ _ N _ _).trans h3
theorem ZwR:Za0 Zr7 [] = [([0,1,0,1],ZlR)]:=by kernel_rfl
theorem ZxM {R:Type} (N:Nat) (e_1:List V) (f_2:Fl) (x_3:Int) (K:V → S → Option R):Zbw C (Zmn N) (ZmO N) 20 Try.f20 [.list 1 e_1 f_2,.int .i64 x_3] [] K =
 Zj1 N e_1 f_2 x_3 (fun x_4=>K (.int .i64 x_4) []):=by kernel_rfl
theorem Zqy {N:Nat} (hC:Ok Try.prog C) (hΦ:Zab Try.prog C (Zmn N)):ZaU Try.prog C (ZmO N) Zr7 [] :=
 ZaQ Zr7 [] (by
  rw [ZwR]
  intro p hp
  simp only [List.mem_cons,List.mem_nil_iff,or_false] at hp
  rcases hp with rfl
  ·exact (Ztm hC hΦ))
theorem Zp9 (hC:Ok Try.prog C) {N:Nat} (hΦ:Zab Try.prog C (Zmn N)):Zab Try.prog C (ZtE N):=by
 refine hΦ.add_pure rfl fun R vs K r h=>?_
 unfold ZwU at h
 obtain ⟨_,_,rfl,h1⟩:=Zbm h
 obtain ⟨_,_,rfl,h2⟩:=Zar h1
 obtain ⟨_,rfl,h3⟩:=Zaz h2
 obtain ⟨_,h4⟩:=Zam h3
 refine ZaX (fn:=Try.f20) (c:=Zr7) hC hΦ Try.func20 (by kernel_rfl) (by kernel_rfl) (Zqy (N:=N) hC hΦ) rfl rfl ?_
 refine (ZxM N _ _ _ _).trans ?_
 rw [← Zo9]
 exact h4
def ZwV (N:Nat):(R:Type) → List V → S → (V → S → Option R) → Option R:=fun _ vs s K =>
 ZuD vs fun v'1 v'2 v'3=>asInt .i64 v'1 fun x_1=>asInt .i64 v'2 fun x_2=>asInt .i64 v'3 fun x_3=>Zbb s <| Zl0 N x_1 x_2 x_3 (fun b_4=>K (.bool b_4) [])
def Zm2 (N:Nat):Zat:=(ZtE N).add 79 (ZwV N)
def ZxT:Code:=Zbr Try.f79
theorem Zx6 {R:Type} (N:Nat) (x_1 x_2 x_3:Int) (K:V → S → Option R):Zbw C (ZtE N) (Zaj) 79 Try.f79 [.int .i64 x_1,.int .i64 x_2,.int .i64 x_3] [] K =
 Zk1 N x_1 x_2 x_3 (fun b_4=>K (.bool b_4) []):=by kernel_rfl
theorem Zqf (hC:Ok Try.prog C) {N:Nat} (hΦ:Zab Try.prog C (ZtE N)):Zab Try.prog C (Zm2 N):=by
 refine hΦ.add_pure rfl fun R vs K r h=>?_
 unfold ZwV at h
 obtain ⟨_,_,_,rfl,h1⟩:=Zdb h
 obtain ⟨_,rfl,h2⟩:=Zaz h1
 obtain ⟨_,rfl,h3⟩:=Zaz h2
 obtain ⟨_,rfl,h4⟩:=Zaz h3
 obtain ⟨_,h5⟩:=Zam h4
 refine ZaX (fn:=Try.f79) (c:=ZxT) hC hΦ Try.func79 (by kernel_rfl) (by kernel_rfl) (Zau (Λ:=Zaj) (by kernel_rfl)) rfl rfl ?_
 refine (Zx6 N _ _ _ _).trans ?_
 rw [← ZnX]
 exact h5
def Zwh (N:Nat):(R:Type) → List V → S → (V → S → Option R) → Option R:=fun _ vs s K =>
 ZjZ vs fun v'1 v'2=>ZaV 1 v'1 fun e_1 f_2=>asInt .i64 v'2 fun x_3=>Zbb s <| ZsD N e_1 f_2 x_3 (fun e_4=>K (.list 1 e_4 .sh) [])
def ZmJ (N:Nat):Zat:=(Zm2 N).add 117 (Zwh N)
def Zst:Code:=Zbr Try.f117
def ZnC:Code:=(ZbO Zst [] 0).2
def ZiF:List Nat:=ZcY 48 [0,1,5]
def Zn4:List Nat:=ZcY 48 [0,1,5]
def Zgt (e_1:List V) (f_2:Fl) (x_3 x_4:Int):List V:=mkF 0 48 [(0,.list 1 e_1 f_2),(1,.int .i64 x_3),(5,.int .i64 x_4)]
def Zfk {R:Type} (K:X → List V → S → Option R) (e_1:List V) (f_2:Fl) (x_3:Int):Int → Option R:=(fun x_1'=>K (.exit 0) (mkF 0 48 [(0,.list 1 e_1 f_2),(1,.int .i64 x_3),(5,.int .i64 (x_1'))]) [])
abbrev Zju {R:Type} (N:Nat):Nat → List V → S → (X → List V → S → Option R) → Option R:=fun n=>Zf6 C (Zm2 N) (Zaj) ZnC [0,0,1,1] false ZiF Zn4 n R
theorem ZuW {R:Type} (N n:Nat) (e_1:List V) (f_2:Fl) (x_3:Int) (x_4:Int) (K:X → List V → S → Option R) :
 Zju N (n + 1) (Zgt e_1 f_2 x_3 x_4) [] K =
 ZbT N e_1 f_2 x_3 (fun x_4=>Zju N n (Zgt e_1 f_2 x_3 x_4) [] K) x_4 (Zfk K e_1 f_2 x_3):=by kernel_rfl
theorem Zrl {R:Type} (N:Nat) (e_1:List V) (f_2:Fl) (x_3:Int) (K:X → List V → S → Option R):∀ (n:Nat) (x_4:Int),
 Zju N n (Zgt e_1 f_2 x_3 x_4) [] K = ZdH N e_1 f_2 x_3 (Zfk K e_1 f_2 x_3) n x_4
 | 0,_=>rfl
 | n + 1,x_4=>(ZuW N n e_1 f_2 x_3 x_4 K).trans (congrArg (fun nx=>ZbT N e_1 f_2 x_3 nx x_4 (Zfk K e_1 f_2 x_3)) (funext fun x_4=>Zrl N e_1 f_2 x_3 K n x_4))
def Zl5 {R:Type} (E:List V) (s:S) (k:List V → Fl → Int → Int → Option R):Option R :=
 Zag (Zbi 48 [0,1,5] E) <| Zbn E 0 1 fun e_1 f_2=>Zbd E 1 .i64 fun x_3=>Zbd E 5 .i64 fun x_4=>Zbb s <| k e_1 f_2 x_3 x_4
theorem ZkJ {R:Type} {E:List V} {s:S} {k:List V → Fl → Int → Int → Option R} {r:R} (h:Zl5 E s k = some r):∃ e_1 f_2 x_3 x_4,E = Zgt e_1 f_2 x_3 x_4 ∧ s = [] ∧ k e_1 f_2 x_3 x_4 = some r:=by
 unfold Zl5 at h
 obtain ⟨hg,h1⟩:=Zaa h
 obtain ⟨_,_,hu0,h2⟩:=Zaw h1
 obtain ⟨_,hu1,h3⟩:=Zan h2
 obtain ⟨_,hu5,h4⟩:=Zan h3
 obtain ⟨rfl,h5⟩:=Zam h4
 exact ⟨_,_,_,_,Za8 hg rfl (Zae hu0 (Zae hu1 (Zae hu5 ZaY))),rfl,h5⟩
def ZnF (N:Nat):ZaB:=(Zaj).add [0,0,1,1] fun _ E s K=>Zl5 (Za6 ZiF E) s fun e_1 f_2 x_3 x_4=>ZdH N e_1 f_2 x_3 (Zfk K e_1 f_2 x_3) N x_4
theorem Ztu {N:Nat} (hC:Ok Try.prog C) (hΦ:Zab Try.prog C (Zm2 N)):Zbs Try.prog C (ZnF N) ZnC [0,0,1,1] :=
 Zbo (Λi:=Zaj) (tr:=false) (ks:=ZiF) (kx:=Zn4) (N:=N) hC hΦ
  (Zau (by kernel_rfl))
  fun R E s K r h=>by
   have h2:=ZaB.add_self.symm.trans h
   refine (ZaO rfl).trans ?_
   obtain ⟨_,_,_,_,he,rfl,h3⟩:=ZkJ h2
   rw [he]
   exact (Zrl N _ _ _ _ N _).trans h3
theorem ZwB:Za0 Zst [] = [([0,0,1,1],ZnC)]:=by kernel_rfl
theorem Zxv {R:Type} (N:Nat) (e_1:List V) (f_2:Fl) (x_3:Int) (K:V → S → Option R):Zbw C (Zm2 N) (ZnF N) 117 Try.f117 [.list 1 e_1 f_2,.int .i64 x_3] [] K =
 Zlv N e_1 f_2 x_3 (fun e_4=>K (.list 1 e_4 .sh) []):=by kernel_rfl
theorem ZqX {N:Nat} (hC:Ok Try.prog C) (hΦ:Zab Try.prog C (Zm2 N)):ZaU Try.prog C (ZnF N) Zst [] :=
 ZaQ Zst [] (by
  rw [ZwB]
  intro p hp
  simp only [List.mem_cons,List.mem_nil_iff,or_false] at hp
  rcases hp with rfl
  ·exact (Ztu hC hΦ))
theorem Zpg (hC:Ok Try.prog C) {N:Nat} (hΦ:Zab Try.prog C (Zm2 N)):Zab Try.prog C (ZmJ N):=by
 refine hΦ.add_pure rfl fun R vs K r h=>?_
 unfold Zwh at h
 obtain ⟨_,_,rfl,h1⟩:=Zbm h
 obtain ⟨_,_,rfl,h2⟩:=Zar h1
 obtain ⟨_,rfl,h3⟩:=Zaz h2
 obtain ⟨_,h4⟩:=Zam h3
 refine ZaX (fn:=Try.f117) (c:=Zst) hC hΦ Try.func117 (by kernel_rfl) (by kernel_rfl) (ZqX (N:=N) hC hΦ) rfl rfl ?_
 refine (Zxv N _ _ _ _).trans ?_
 rw [← ZoM]
 exact h4
def Zww (N:Nat):(R:Type) → List V → S → (V → S → Option R) → Option R:=fun _ vs s K =>
 ZuD vs fun v'1 v'2 v'3=>ZaV 1 v'1 fun e_1 f_2=>asInt .i64 v'2 fun x_3=>asInt .i64 v'3 fun x_4=>Zbb s <| ZtS N e_1 f_2 x_3 x_4 (fun b_5=>K (.bool b_5) [])
def Zjs (N:Nat):Zat:=(ZmJ N).add 119 (Zww N)
def ZsU:Code:=Zbr Try.f119
def Znh:Code:=(ZbO ZsU [] 0).2
def ZjN:List Nat:=ZcY 21 [1,2,9,10,11]
def Zos:List Nat:=ZcY 21 [6]
def Zgx (x_1 x_2:Int) (e_3:List V) (f_4:Fl) (x_5 x_6:Int):List V:=mkF 0 21 [(1,.int .i64 x_1),(2,.int .i64 x_2),(9,.list 1 e_3 f_4),(10,.int .i64 x_5),(11,.int .i64 x_6)]
def Ze6 {R:Type} (K:X → List V → S → Option R) (x_1:Int) (x_2:Int) (e_3:List V) (f_4:Fl) (x_5:Int):Unit → Option R:=(fun _=>K .ret (mkF 0 21 [(6,.bool false)]) [])
def Zfo {R:Type} (K:X → List V → S → Option R) (x_1:Int) (x_2:Int) (e_3:List V) (f_4:Fl) (x_5:Int):Unit → Option R:=(fun _=>K (.exit 0) (mkF 0 21 []) [])
abbrev Zit {R:Type} (N:Nat):Nat → List V → S → (X → List V → S → Option R) → Option R:=fun n=>Zf6 C (ZmJ N) (Zaj) Znh [0,1,0,1] false ZjN Zos n R
theorem Zvl {R:Type} (N n:Nat) (x_1 x_2:Int) (e_3:List V) (f_4:Fl) (x_5:Int) (x_6:Int) (K:X → List V → S → Option R) :
 Zit N (n + 1) (Zgx x_1 x_2 e_3 f_4 x_5 x_6) [] K =
 Zcs N x_1 x_2 e_3 f_4 x_5 (fun x_6=>Zit N n (Zgx x_1 x_2 e_3 f_4 x_5 x_6) [] K) x_6 (Ze6 K x_1 x_2 e_3 f_4 x_5) (Zfo K x_1 x_2 e_3 f_4 x_5):=by kernel_rfl
theorem ZrX {R:Type} (N:Nat) (x_1 x_2:Int) (e_3:List V) (f_4:Fl) (x_5:Int) (K:X → List V → S → Option R):∀ (n:Nat) (x_6:Int),
 Zit N n (Zgx x_1 x_2 e_3 f_4 x_5 x_6) [] K = Zex N x_1 x_2 e_3 f_4 x_5 (Ze6 K x_1 x_2 e_3 f_4 x_5) (Zfo K x_1 x_2 e_3 f_4 x_5) n x_6
 | 0,_=>rfl
 | n + 1,x_6=>(Zvl N n x_1 x_2 e_3 f_4 x_5 x_6 K).trans (congrArg (fun nx=>Zcs N x_1 x_2 e_3 f_4 x_5 nx x_6 (Ze6 K x_1 x_2 e_3 f_4 x_5) (Zfo K x_1 x_2 e_3 f_4 x_5)) (funext fun x_6=>ZrX N x_1 x_2 e_3 f_4 x_5 K n x_6))
def Zng {R:Type} (E:List V) (s:S) (k:Int → Int → List V → Fl → Int → Int → Option R):Option R :=
 Zag (Zbi 21 [1,2,9,10,11] E) <| Zbd E 1 .i64 fun x_1=>Zbd E 2 .i64 fun x_2=>Zbn E 9 1 fun e_3 f_4=>Zbd E 10 .i64 fun x_5=>Zbd E 11 .i64 fun x_6=>Zbb s <| k x_1 x_2 e_3 f_4 x_5 x_6
theorem ZkS {R:Type} {E:List V} {s:S} {k:Int → Int → List V → Fl → Int → Int → Option R} {r:R} (h:Zng E s k = some r):∃ x_1 x_2 e_3 f_4 x_5 x_6,E = Zgx x_1 x_2 e_3 f_4 x_5 x_6 ∧ s = [] ∧ k x_1 x_2 e_3 f_4 x_5 x_6 = some r:=by
 unfold Zng at h
 obtain ⟨hg,h1⟩:=Zaa h
 obtain ⟨_,hu1,h2⟩:=Zan h1
 obtain ⟨_,hu2,h3⟩:=Zan h2
 obtain ⟨_,_,hu9,h4⟩:=Zaw h3
 obtain ⟨_,hu10,h5⟩:=Zan h4
 obtain ⟨_,hu11,h6⟩:=Zan h5
 obtain ⟨rfl,h7⟩:=Zam h6
 exact ⟨_,_,_,_,_,_,Za8 hg rfl (Zae hu1 (Zae hu2 (Zae hu9 (Zae hu10 (Zae hu11 ZaY))))),rfl,h7⟩
def ZmL (N:Nat):ZaB:=(Zaj).add [0,1,0,1] fun _ E s K=>Zng (Za6 ZjN E) s fun x_1 x_2 e_3 f_4 x_5 x_6=>Zex N x_1 x_2 e_3 f_4 x_5 (Ze6 K x_1 x_2 e_3 f_4 x_5) (Zfo K x_1 x_2 e_3 f_4 x_5) N x_6
theorem Zt1 {N:Nat} (hC:Ok Try.prog C) (hΦ:Zab Try.prog C (ZmJ N)):Zbs Try.prog C (ZmL N) Znh [0,1,0,1] :=
 Zbo (Λi:=Zaj) (tr:=false) (ks:=ZjN) (kx:=Zos) (N:=N) hC hΦ
  (Zau (by kernel_rfl))
  fun R E s K r h=>by
   have h2:=ZaB.add_self.symm.trans h
   refine (ZaO rfl).trans ?_
   obtain ⟨_,_,_,_,_,_,he,rfl,h3⟩:=ZkS h2
   rw [he]
   exact (ZrX N _ _ _ _ _ _ N _).trans h3
theorem Zv0:Za0 ZsU [] = [([0,1,0,1],Znh)]:=by kernel_rfl
theorem ZxL {R:Type} (N:Nat) (e_1:List V) (f_2:Fl) (x_3 x_4:Int) (K:V → S → Option R):Zbw C (ZmJ N) (ZmL N) 119 Try.f119 [.list 1 e_1 f_2,.int .i64 x_3,.int .i64 x_4] [] K =
 Zli N e_1 f_2 x_3 x_4 (fun b_5=>K (.bool b_5) []):=by kernel_rfl
theorem ZqU {N:Nat} (hC:Ok Try.prog C) (hΦ:Zab Try.prog C (ZmJ N)):ZaU Try.prog C (ZmL N) ZsU [] :=
 ZaQ ZsU [] (by
  rw [Zv0]
  intro p hp
  simp only [List.mem_cons,List.mem_nil_iff,or_false] at hp
  rcases hp with rfl
  ·exact (Zt1 hC hΦ))
theorem Zpo (hC:Ok Try.prog C) {N:Nat} (hΦ:Zab Try.prog C (ZmJ N)):Zab Try.prog C (Zjs N):=by
 refine hΦ.add_pure rfl fun R vs K r h=>?_
 unfold Zww at h
 obtain ⟨_,_,_,rfl,h1⟩:=Zdb h
 obtain ⟨_,_,rfl,h2⟩:=Zar h1
 obtain ⟨_,rfl,h3⟩:=Zaz h2
 obtain ⟨_,rfl,h4⟩:=Zaz h3
 obtain ⟨_,h5⟩:=Zam h4
 refine ZaX (fn:=Try.f119) (c:=ZsU) hC hΦ Try.func119 (by kernel_rfl) (by kernel_rfl) (ZqU (N:=N) hC hΦ) rfl rfl ?_
 refine (ZxL N _ _ _ _ _).trans ?_
 rw [← ZnV]
 exact h5
def Zwo (N:Nat):(R:Type) → List V → S → (V → S → Option R) → Option R:=fun _ vs s K =>
 ZpQ vs fun v'1=>ZaV 1 v'1 fun e_1 f_2=>Zbb s <| Zuk N e_1 f_2 (fun b_3=>K (.bool b_3) [])
def Ztz (N:Nat):Zat:=(Zjs N).add 104 (Zwo N)
def ZrU:Code:=Zbr Try.f104
def ZfT:Code:=(ZbO ZrU [] 0).2
def Znu:Code:=(ZbO ZfT (0 :: [0,1,0,1,1,1]) 0).2
def Zjj:List Nat:=ZcY 44 [0,3,4,9,10,11,18,19,20]
def Zof:List Nat:=ZcY 44 [0,3,4,9,10,11]
def ZgJ (e_1:List V) (f_2:Fl) (e_5:List V) (f_6:Fl) (x_7 x_8:Int) (e_9:List V) (f_10:Fl) (x_11:Int) (e_3:List V) (f_13:Fl) (x_4 x_12:Int):List V:=mkF 0 44 [(0,.list 1 e_1 f_2),(3,.list 1 e_3 f_13),(4,.int .i64 x_4),(9,.list 1 e_5 f_6),(10,.int .i64 x_7),(11,.int .i64 x_8),(18,.list 1 e_9 f_10),(19,.int .i64 x_11),(20,.int .i64 x_12)]
def Ze9 {R:Type} (K:X → List V → S → Option R) (e_1:List V) (f_2:Fl) (e_5:List V) (f_6:Fl) (x_7:Int) (x_8:Int) (e_9:List V) (f_10:Fl) (x_11:Int):List V → Fl → Int → Option R:=(fun e_1' f_2' x_3'=>K (.exit 2) (mkF 0 44 [(0,.list 1 e_1 f_2),(3,.list 1 (e_1') (f_2')),(4,.int .i64 (x_3')),(9,.list 1 e_5 f_6),(10,.int .i64 x_7),(11,.int .i64 x_8)]) [])
abbrev ZiC {R:Type} (N:Nat):Nat → List V → S → (X → List V → S → Option R) → Option R:=fun n=>Zf6 C (Zjs N) (Zaj) Znu [0,1,1,1,0,0,1,1,0,0,1,0,1,1,1] false Zjj Zof n R
theorem Zu6 {R:Type} (N n:Nat) (e_1:List V) (f_2:Fl) (e_5:List V) (f_6:Fl) (x_7 x_8:Int) (e_9:List V) (f_10:Fl) (x_11:Int) (e_3:List V) (f_13:Fl) (x_4 x_12:Int) (K:X → List V → S → Option R) :
 ZiC N (n + 1) (ZgJ e_1 f_2 e_5 f_6 x_7 x_8 e_9 f_10 x_11 e_3 f_13 x_4 x_12) [] K =
 Zck N e_1 f_2 e_5 f_6 x_7 x_8 e_9 f_10 x_11 (fun e_3 f_13 x_4 x_12=>ZiC N n (ZgJ e_1 f_2 e_5 f_6 x_7 x_8 e_9 f_10 x_11 e_3 f_13 x_4 x_12) [] K) e_3 f_13 x_4 x_12 (Ze9 K e_1 f_2 e_5 f_6 x_7 x_8 e_9 f_10 x_11):=by kernel_rfl
theorem Zrv {R:Type} (N:Nat) (e_1:List V) (f_2:Fl) (e_5:List V) (f_6:Fl) (x_7 x_8:Int) (e_9:List V) (f_10:Fl) (x_11:Int) (K:X → List V → S → Option R):∀ (n:Nat) (e_3:List V) (f_13:Fl) (x_4 x_12:Int),
 ZiC N n (ZgJ e_1 f_2 e_5 f_6 x_7 x_8 e_9 f_10 x_11 e_3 f_13 x_4 x_12) [] K = Zd8 N e_1 f_2 e_5 f_6 x_7 x_8 e_9 f_10 x_11 (Ze9 K e_1 f_2 e_5 f_6 x_7 x_8 e_9 f_10 x_11) n e_3 f_13 x_4 x_12
 | 0,_,_,_,_=>rfl
 | n + 1,e_3,f_13,x_4,x_12=>(Zu6 N n e_1 f_2 e_5 f_6 x_7 x_8 e_9 f_10 x_11 e_3 f_13 x_4 x_12 K).trans (congrArg (fun nx=>Zck N e_1 f_2 e_5 f_6 x_7 x_8 e_9 f_10 x_11 nx e_3 f_13 x_4 x_12 (Ze9 K e_1 f_2 e_5 f_6 x_7 x_8 e_9 f_10 x_11)) (funext fun e_3=>funext fun f_13=>funext fun x_4=>funext fun x_12=>Zrv N e_1 f_2 e_5 f_6 x_7 x_8 e_9 f_10 x_11 K n e_3 f_13 x_4 x_12))
def ZmW {R:Type} (E:List V) (s:S) (k:List V → Fl → List V → Fl → Int → List V → Fl → Int → Int → List V → Fl → Int → Int → Option R):Option R :=
 Zag (Zbi 44 [0,3,4,9,10,11,18,19,20] E) <| Zbn E 0 1 fun e_1 f_2=>Zbn E 3 1 fun e_3 f_13=>Zbd E 4 .i64 fun x_4=>Zbn E 9 1 fun e_5 f_6=>Zbd E 10 .i64 fun x_7=>Zbd E 11 .i64 fun x_8=>Zbn E 18 1 fun e_9 f_10=>Zbd E 19 .i64 fun x_11=>Zbd E 20 .i64 fun x_12=>Zbb s <| k e_1 f_2 e_3 f_13 x_4 e_5 f_6 x_7 x_8 e_9 f_10 x_11 x_12
theorem Zky {R:Type} {E:List V} {s:S} {k:List V → Fl → List V → Fl → Int → List V → Fl → Int → Int → List V → Fl → Int → Int → Option R} {r:R} (h:ZmW E s k = some r):∃ e_1 f_2 e_3 f_13 x_4 e_5 f_6 x_7 x_8 e_9 f_10 x_11 x_12,E = ZgJ e_1 f_2 e_5 f_6 x_7 x_8 e_9 f_10 x_11 e_3 f_13 x_4 x_12 ∧ s = [] ∧ k e_1 f_2 e_3 f_13 x_4 e_5 f_6 x_7 x_8 e_9 f_10 x_11 x_12 = some r:=by
 unfold ZmW at h
 obtain ⟨hg,h1⟩:=Zaa h
 obtain ⟨_,_,hu0,h2⟩:=Zaw h1
 obtain ⟨_,_,hu3,h3⟩:=Zaw h2
 obtain ⟨_,hu4,h4⟩:=Zan h3
 obtain ⟨_,_,hu9,h5⟩:=Zaw h4
 obtain ⟨_,hu10,h6⟩:=Zan h5
 obtain ⟨_,hu11,h7⟩:=Zan h6
 obtain ⟨_,_,hu18,h8⟩:=Zaw h7
 obtain ⟨_,hu19,h9⟩:=Zan h8
 obtain ⟨_,hu20,h10⟩:=Zan h9
 obtain ⟨rfl,h11⟩:=Zam h10
 exact ⟨_,_,_,_,_,_,_,_,_,_,_,_,_,Za8 hg rfl (Zae hu0 (Zae hu3 (Zae hu4 (Zae hu9 (Zae hu10 (Zae hu11 (Zae hu18 (Zae hu19 (Zae hu20 ZaY))))))))),rfl,h11⟩
def ZiA (N:Nat):ZaB:=(Zaj).add [0,1,1,1,0,0,1,1,0,0,1,0,1,1,1] fun _ E s K=>ZmW (Za6 Zjj E) s fun e_1 f_2 e_3 f_13 x_4 e_5 f_6 x_7 x_8 e_9 f_10 x_11 x_12=>Zd8 N e_1 f_2 e_5 f_6 x_7 x_8 e_9 f_10 x_11 (Ze9 K e_1 f_2 e_5 f_6 x_7 x_8 e_9 f_10 x_11) N e_3 f_13 x_4 x_12
theorem Zue {N:Nat} (hC:Ok Try.prog C) (hΦ:Zab Try.prog C (Zjs N)):Zbs Try.prog C (ZiA N) Znu [0,1,1,1,0,0,1,1,0,0,1,0,1,1,1] :=
 Zbo (Λi:=Zaj) (tr:=false) (ks:=Zjj) (kx:=Zof) (N:=N) hC hΦ
  (Zau (by kernel_rfl))
  fun R E s K r h=>by
   have h2:=ZaB.add_self.symm.trans h
   refine (ZaO rfl).trans ?_
   obtain ⟨_,_,_,_,_,_,_,_,_,_,_,_,_,he,rfl,h3⟩:=Zky h2
   rw [he]
   exact (Zrv N _ _ _ _ _ _ _ _ _ _ N _ _ _ _).trans h3
def ZjO:List Nat:=ZcY 44 [0,3,4,9,10,11]
def ZoK:List Nat:=ZcY 44 [0,2,3,4]
def ZgB (e_1:List V) (f_2:Fl) (e_5:List V) (f_6:Fl) (x_7:Int) (e_3:List V) (f_9:Fl) (x_4 x_8:Int):List V:=mkF 0 44 [(0,.list 1 e_1 f_2),(3,.list 1 e_3 f_9),(4,.int .i64 x_4),(9,.list 1 e_5 f_6),(10,.int .i64 x_7),(11,.int .i64 x_8)]
def ZeG {R:Type} (K:X → List V → S → Option R) (e_1:List V) (f_2:Fl) (e_5:List V) (f_6:Fl) (x_7:Int):List V → Fl → Int → Option R:=(fun e_1' f_2' x_3'=>K .ret (mkF 0 44 [(0,.list 1 e_1 f_2),(2,.bool false),(3,.list 1 (e_1') (f_2')),(4,.int .i64 (x_3'))]) [])
def Zfr {R:Type} (K:X → List V → S → Option R) (e_1:List V) (f_2:Fl) (e_5:List V) (f_6:Fl) (x_7:Int):List V → Fl → Int → Option R:=(fun e_1' f_2' x_3'=>K (.exit 0) (mkF 0 44 [(0,.list 1 e_1 f_2),(3,.list 1 (e_1') (f_2')),(4,.int .i64 (x_3'))]) [])
abbrev Zjh {R:Type} (N:Nat):Nat → List V → S → (X → List V → S → Option R) → Option R:=fun n=>Zf6 C (Zjs N) (ZiA N) ZfT [0,1,0,1,1,1] false ZjO ZoK n R
theorem ZvF {R:Type} (N n:Nat) (e_1:List V) (f_2:Fl) (e_5:List V) (f_6:Fl) (x_7:Int) (e_3:List V) (f_9:Fl) (x_4 x_8:Int) (K:X → List V → S → Option R) :
 Zjh N (n + 1) (ZgB e_1 f_2 e_5 f_6 x_7 e_3 f_9 x_4 x_8) [] K =
 Zcg N e_1 f_2 e_5 f_6 x_7 (fun e_3 f_9 x_4 x_8=>Zjh N n (ZgB e_1 f_2 e_5 f_6 x_7 e_3 f_9 x_4 x_8) [] K) e_3 f_9 x_4 x_8 (ZeG K e_1 f_2 e_5 f_6 x_7) (Zfr K e_1 f_2 e_5 f_6 x_7):=by kernel_rfl
theorem Zrf {R:Type} (N:Nat) (e_1:List V) (f_2:Fl) (e_5:List V) (f_6:Fl) (x_7:Int) (K:X → List V → S → Option R):∀ (n:Nat) (e_3:List V) (f_9:Fl) (x_4 x_8:Int),
 Zjh N n (ZgB e_1 f_2 e_5 f_6 x_7 e_3 f_9 x_4 x_8) [] K = Zc1 N e_1 f_2 e_5 f_6 x_7 (ZeG K e_1 f_2 e_5 f_6 x_7) (Zfr K e_1 f_2 e_5 f_6 x_7) n e_3 f_9 x_4 x_8
 | 0,_,_,_,_=>rfl
 | n + 1,e_3,f_9,x_4,x_8=>(ZvF N n e_1 f_2 e_5 f_6 x_7 e_3 f_9 x_4 x_8 K).trans (congrArg (fun nx=>Zcg N e_1 f_2 e_5 f_6 x_7 nx e_3 f_9 x_4 x_8 (ZeG K e_1 f_2 e_5 f_6 x_7) (Zfr K e_1 f_2 e_5 f_6 x_7)) (funext fun e_3=>funext fun f_9=>funext fun x_4=>funext fun x_8=>Zrf N e_1 f_2 e_5 f_6 x_7 K n e_3 f_9 x_4 x_8))
def Znt {R:Type} (E:List V) (s:S) (k:List V → Fl → List V → Fl → Int → List V → Fl → Int → Int → Option R):Option R :=
 Zag (Zbi 44 [0,3,4,9,10,11] E) <| Zbn E 0 1 fun e_1 f_2=>Zbn E 3 1 fun e_3 f_9=>Zbd E 4 .i64 fun x_4=>Zbn E 9 1 fun e_5 f_6=>Zbd E 10 .i64 fun x_7=>Zbd E 11 .i64 fun x_8=>Zbb s <| k e_1 f_2 e_3 f_9 x_4 e_5 f_6 x_7 x_8
theorem Zll {R:Type} {E:List V} {s:S} {k:List V → Fl → List V → Fl → Int → List V → Fl → Int → Int → Option R} {r:R} (h:Znt E s k = some r):∃ e_1 f_2 e_3 f_9 x_4 e_5 f_6 x_7 x_8,E = ZgB e_1 f_2 e_5 f_6 x_7 e_3 f_9 x_4 x_8 ∧ s = [] ∧ k e_1 f_2 e_3 f_9 x_4 e_5 f_6 x_7 x_8 = some r:=by
 unfold Znt at h
 obtain ⟨hg,h1⟩:=Zaa h
 obtain ⟨_,_,hu0,h2⟩:=Zaw h1
 obtain ⟨_,_,hu3,h3⟩:=Zaw h2
 obtain ⟨_,hu4,h4⟩:=Zan h3
 obtain ⟨_,_,hu9,h5⟩:=Zaw h4
 obtain ⟨_,hu10,h6⟩:=Zan h5
 obtain ⟨_,hu11,h7⟩:=Zan h6
 obtain ⟨rfl,h8⟩:=Zam h7
 exact ⟨_,_,_,_,_,_,_,_,_,Za8 hg rfl (Zae hu0 (Zae hu3 (Zae hu4 (Zae hu9 (Zae hu10 (Zae hu11 ZaY)))))),rfl,h8⟩
def Zna (N:Nat):ZaB:=(ZiA N).add [0,1,0,1,1,1] fun _ E s K=>Znt (Za6 ZjO E) s fun e_1 f_2 e_3 f_9 x_4 e_5 f_6 x_7 x_8=>Zc1 N e_1 f_2 e_5 f_6 x_7 (ZeG K e_1 f_2 e_5 f_6 x_7) (Zfr K e_1 f_2 e_5 f_6 x_7) N e_3 f_9 x_4 x_8
theorem ZsZ:Za0 ZfT (0 :: [0,1,0,1,1,1]) = [([0,1,1,1,0,0,1,1,0,0,1,0,1,1,1],Znu)]:=by kernel_rfl
theorem Zs9 {N:Nat} (hC:Ok Try.prog C) (hΦ:Zab Try.prog C (Zjs N)):Zbs Try.prog C (Zna N) ZfT [0,1,0,1,1,1] :=
 Zbo (Λi:=ZiA N) (tr:=false) (ks:=ZjO) (kx:=ZoK) (N:=N) hC hΦ
  (ZaQ ZfT _ (by
   rw [ZsZ]
   intro p hp
   simp only [List.mem_cons,List.mem_nil_iff,or_false] at hp
   rcases hp with rfl
   ·exact (Zue hC hΦ)))
  fun R E s K r h=>by
   have h2:=ZaB.add_self.symm.trans h
   refine (ZaO rfl).trans ?_
   obtain ⟨_,_,_,_,_,_,_,_,_,he,rfl,h3⟩:=Zll h2
   rw [he]
   exact (Zrf N _ _ _ _ _ _ N _ _ _ _).trans h3
theorem ZwG:Za0 ZrU [] = [([0,1,0,1,1,1],ZfT)]:=by kernel_rfl
theorem ZxX {R:Type} (N:Nat) (e_1:List V) (f_2:Fl) (K:V → S → Option R):Zbw C (Zjs N) (Zna N) 104 Try.f104 [.list 1 e_1 f_2] [] K =
 Zj7 N e_1 f_2 (fun b_3=>K (.bool b_3) []):=by kernel_rfl
theorem Zrb {N:Nat} (hC:Ok Try.prog C) (hΦ:Zab Try.prog C (Zjs N)):ZaU Try.prog C (Zna N) ZrU [] :=
 ZaQ ZrU [] (by
  rw [ZwG]
  intro p hp
  simp only [List.mem_cons,List.mem_nil_iff,or_false] at hp
  rcases hp with rfl
  ·exact (Zs9 hC hΦ))
theorem Zp8 (hC:Ok Try.prog C) {N:Nat} (hΦ:Zab Try.prog C (Zjs N)):Zab Try.prog C (Ztz N):=by
 refine hΦ.add_pure rfl fun R vs K r h=>?_
 unfold Zwo at h
 obtain ⟨_,rfl,h1⟩:=ZbM h
 obtain ⟨_,_,rfl,h2⟩:=Zar h1
 obtain ⟨_,h3⟩:=Zam h2
 refine ZaX (fn:=Try.f104) (c:=ZrU) hC hΦ Try.func104 (by kernel_rfl) (by kernel_rfl) (Zrb (N:=N) hC hΦ) rfl rfl ?_
 refine (ZxX N _ _ _).trans ?_
 rw [← ZoS]
 exact h3
def ZwI (N:Nat):(R:Type) → List V → S → (V → S → Option R) → Option R:=fun _ vs s K =>
 ZjZ vs fun v'1 v'2=>ZaV 1 v'1 fun e_1 f_2=>asInt .i64 v'2 fun x_3=>Zbb s <| Zs6 N e_1 f_2 x_3 (fun b_4=>K (.bool b_4) [])
def ZvJ (N:Nat):Zat:=(Ztz N).add 76 (ZwI N)
def Zxt:Code:=Zbr Try.f76
theorem ZxG {R:Type} (N:Nat) (e_1:List V) (f_2:Fl) (x_3:Int) (K:V → S → Option R):Zbw C (Ztz N) (Zaj) 76 Try.f76 [.list 1 e_1 f_2,.int .i64 x_3] [] K =
 Zlk N e_1 f_2 x_3 (fun b_4=>K (.bool b_4) []):=by kernel_rfl
theorem ZpU (hC:Ok Try.prog C) {N:Nat} (hΦ:Zab Try.prog C (Ztz N)):Zab Try.prog C (ZvJ N):=by
 refine hΦ.add_pure rfl fun R vs K r h=>?_
 unfold ZwI at h
 obtain ⟨_,_,rfl,h1⟩:=Zbm h
 obtain ⟨_,_,rfl,h2⟩:=Zar h1
 obtain ⟨_,rfl,h3⟩:=Zaz h2
 obtain ⟨_,h4⟩:=Zam h3
 refine ZaX (fn:=Try.f76) (c:=Zxt) hC hΦ Try.func76 (by kernel_rfl) (by kernel_rfl) (Zau (Λ:=Zaj) (by kernel_rfl)) rfl rfl ?_
 refine (ZxG N _ _ _ _).trans ?_
 rw [← Zol]
 exact h4
def Zwp (N:Nat):(R:Type) → List V → S → (V → S → Option R) → Option R:=fun _ vs s K =>
 ZpQ vs fun v'1=>ZaV 1 v'1 fun e_1 f_2=>Zbb s <| Zs2 N e_1 f_2 (fun k_901 e_902=>K (.arr 0 0 0 k_901) [some ⟨e_902,1,3,0⟩])
def Znc (N:Nat):Zat:=(ZvJ N).add 115 (Zwp N)
open Go.RowKit Go.Lib in
set_option maxRecDepth 100000 in
theorem Zpd (c:Nat) (w:World) (i0:TypeInfo) (hi0:Try.prog.info? 3 = some i0):Calls Try.prog 115 #[.slice none 0 c] w fun ev w'=>∃ A,ev = .returned (.slice A 0 0) ∧ Below w.heap.size w w':=by
 have hrun:(Builtin.append_ #[32,32] 32 #[.slice (some ⟨w.heap.size,0,none⟩) 0 0,.slice none 0 c]).run Try.prog (w.alloc (.cells #[] 3)) = .ok (.slice (some ⟨w.heap.size,0,none⟩) 0 0) (w.alloc (.cells #[] 3)):=by
  simp [Builtin.append_,run_underlying Try.underlying32,sizeOf,typeInfo,hi0,Builtin.lenOf,run_firstCells_none,storeCells]
 go_enter Try.func115,Try.ntmps115
 go_wp2_with (at_builtin; refine Lib.wpList_append_run _ rfl _ _ _ _ rfl _ _ rfl rfl _ _ hrun ?_)
 go_wp2
 go_ret
 exact ⟨_,rfl,(Below.refl _ w).alloc (Nat.le_refl _) _⟩
open Go.RowKit Go.Lib in
set_option maxRecDepth 100000 in
set_option maxHeartbeats 1000000 in
theorem ZpD (a:Addr) (c:Nat) (w:World) (i0:TypeInfo) (hi0:Try.prog.info? 3 = some i0):Calls Try.prog 115 #[.slice (some a) 0 c] w fun ev w'=>∃ A,ev = .returned (.slice A 0 0) ∧ Below w.heap.size w w':=by
 obtain ⟨w2,hrun,hown,hgrow⟩:=run_append_fits (P:=Try.prog) (w.alloc (.cells #[] 3)) w.heap.size 32 32 3 i0 i0.size Try.underlying32 hi0 rfl w.heap.size 0 0 [] (World.ownsRow_made w #[] 0 (Nat.le_refl _) (Nat.zero_le _) (by simp)) a 0 c [] (by simp) (by simp) (by simp) (Nat.le_refl _)
 go_enter Try.func115,Try.ntmps115
 go_wp2_with (at_builtin; refine Lib.wpList_append_run _ rfl _ _ _ _ rfl _ _ rfl rfl _ _ hrun ?_)
 go_wp2
 go_ret
 exact ⟨_,rfl,((Below.refl _ w).alloc (Nat.le_refl _) _).grown hgrow (by simp) (by intro k hk; simp at hk; omega)⟩
open Go.RowKit Go.Lib in
set_option maxRecDepth 100000 in
set_option maxHeartbeats 1000000 in
theorem Zpz (a:Addr) (m c:Nat) (news:List Value) (w:World) (i0:TypeInfo) (z:Value) (hm:0 < m) (hi0:Try.prog.info? 3 = some i0) (hz0:i0.zero = some z) (hzs:z.cells.size = i0.size) (hs0:0 < i0.size) (hl:news.length = m * i0.size)
  (hnews:∀ j u,news[j]? = some u → w.cell? (a.add j) = some u) (hone:∀ u ∈ news,u.oneCell' = true) (hbig:m * i0.bytes ≤ 140737488355328) (hmx:m ≤ maxLen) :
  Calls Try.prog 115 #[.slice (some a) m c] w fun ev w'=>∃ G cap,ev = .returned (.slice (some ⟨G,0,none⟩) m cap) ∧ m ≤ cap ∧ cap ≤ maxLen ∧ w.heap.size ≤ G ∧
   w'.heap[G]? = some (.cells (news.toArray ++ Builtin.zeroCells z.cells (cap - m)) 3 (0,0)) ∧ Below w.heap.size w w':=by
 have hrun:=run_append_grow (P:=Try.prog) (w:=w.alloc (.cells #[] 3)) 32 32 3 i0 z Try.underlying32 hi0 hz0 ⟨w.heap.size,0,none⟩ 0 0 [] (by simp) (by simp) a m c news hl (fun j u hj=>by
  have:=hnews j u hj
  cases a
  exact Lib.cell?_alloc_some _ this) (by omega) (by unfold maxLen at hmx; omega) (by have:=growslice_fits (old:=0) (need:=m) hm hbig; simpa using this)
 have hG:=grownCap_ge (w.alloc (.cells #[] 3)) (0 + m) 0 3
 have hG2:=grownCap_le_maxLen (w.alloc (.cells #[] 3)) (0 + m) 0 3 (by omega)
 generalize grownCap (w.alloc (.cells #[] 3)) (0 + m) 0 3 = G at hrun hG hG2
 simp only [Nat.zero_add] at hrun hG hG2
 obtain ⟨zc,hzc⟩:∃ zc,zc = z.cells:=⟨_,rfl⟩
 rw [← hzc] at hrun ⊢
 clear hzc hzs hz0
 go_enter Try.func115,Try.ntmps115
 go_wp2_with (at_builtin; refine Lib.wpList_append_run _ rfl _ _ _ _ rfl _ _ rfl rfl _ _ hrun ?_)
 go_wp2
 go_ret
 refine ⟨_,_,rfl,hG,hG2,by simp,?_,?_⟩
 ·have:=Zb4 (w.alloc (.cells #[] 3)) (.cells (news.toArray ++ Builtin.zeroCells zc (G - m)) 3)
  have e:(w.alloc (.cells #[] 3)).heap.size = w.heap.size + 1:=by simp
  rw [e] at this
  exact this
 ·have:=((Below.refl w.heap.size w).alloc (Nat.le_refl _) (.cells #[] 3)).alloc (by simp) (.cells (news.toArray ++ Builtin.zeroCells zc (G - m)) 3)
  exact this.drew
theorem Zpk (hC:Ok Try.prog C) {N:Nat} (hΦ:Zab Try.prog C (ZvJ N)):Zab Try.prog C (Znc N):=by
 refine hΦ.add_fresh rfl fun R vs K r h=>?_
 unfold Zwp at h
 obtain ⟨_,rfl,h1⟩:=ZbM h
 obtain ⟨_,_,rfl,h2⟩:=Zar h1
 obtain ⟨_,h3⟩:=Zam h2
 rw [Zn3] at h3
 unfold Zj2 at h3
 obtain ⟨h1,h2⟩:=Zho hC (e:=3) (by kernel_rfl) Try.func115 (by kernel_rfl) (by kernel_rfl) Zpd ZpD Zpz (B:=8) (sz:=1) (by kernel_rfl) (by kernel_rfl) h3
 exact ⟨_,_,h1,h2⟩
def ZwX (N:Nat):(R:Type) → List V → S → (V → S → Option R) → Option R:=fun _ vs s K =>
 ZpQ vs fun v'1=>ZaV 1 v'1 fun e_1 f_2=>Zbb s <| Zuh N e_1 f_2 (fun k_901 e_902=>K (.arr 0 0 0 k_901) [some ⟨e_902,1,32,0⟩])
def Znn (N:Nat):Zat:=(Znc N).add 77 (ZwX N)
def ZrL:Code:=Zbr Try.f77
def ZmG:Code:=(ZbO ZrL [] 0).2
def ZfE:TypeId → Option (Nat × TypeId):=fun t=>if Nat.beq t 32 then some (0,3) else none
abbrev ZpE:Cfg:=C.rowed true true (some 0) ZfE [] [] [] []
def ZiX:List Nat:=ZcY 19 [3,6,7,8]
def Zpc:List Nat:=ZcY 19 [3]
def Zgh (e_1:List V) (f_2:Fl) (x_3:Int) (k_5:Nat) (x_4:Int) (e_6:List V):List V:=mkF 0 19 [(3,.arr 1 0 0 k_5),(6,.list 1 e_1 f_2),(7,.int .i64 x_3),(8,.int .i64 x_4)]
def Zfz {R:Type} (K:X → List V → S → Option R) (e_1:List V) (f_2:Fl) (x_3:Int):Nat → List V → Option R:=(fun k_1' e_2'=>K (.exit 0) (mkF 0 19 [(3,.arr 1 0 0 (k_1'))]) [some ⟨[],1,32,0⟩,some ⟨e_2',1,32,0⟩])
abbrev Zjv {R:Type} (N:Nat):Nat → List V → S → (X → List V → S → Option R) → Option R:=fun n=>Zf6 ZpE (Znc N) (Zaj) ZmG [0,1,0,1,1] true ZiX Zpc n R
theorem Zvu {R:Type} (N n:Nat) (e_1:List V) (f_2:Fl) (x_3:Int) (k_5:Nat) (x_4:Int) (e_6:List V) (K:X → List V → S → Option R) :
 Zjv N (n + 1) (Zgh e_1 f_2 x_3 k_5 x_4 e_6) [some ⟨[],1,32,0⟩,some ⟨e_6,1,32,0⟩] K =
 Zcx N e_1 f_2 x_3 (fun k_5 x_4 e_6=>Zjv N n (Zgh e_1 f_2 x_3 k_5 x_4 e_6) [some ⟨[],1,32,0⟩,some ⟨e_6,1,32,0⟩] K) k_5 x_4 e_6 (Zfz K e_1 f_2 x_3):=by kernel_rfl
theorem ZqJ {R:Type} (N:Nat) (e_1:List V) (f_2:Fl) (x_3:Int) (K:X → List V → S → Option R):∀ (n:Nat) (k_5:Nat) (x_4:Int) (e_6:List V),
 Zjv N n (Zgh e_1 f_2 x_3 k_5 x_4 e_6) [some ⟨[],1,32,0⟩,some ⟨e_6,1,32,0⟩] K = Zez N e_1 f_2 x_3 (Zfz K e_1 f_2 x_3) n k_5 x_4 e_6
 | 0,_,_,_=>rfl
 | n + 1,k_5,x_4,e_6=>(Zvu N n e_1 f_2 x_3 k_5 x_4 e_6 K).trans (congrArg (fun nx=>Zcx N e_1 f_2 x_3 nx k_5 x_4 e_6 (Zfz K e_1 f_2 x_3)) (funext fun k_5=>funext fun x_4=>funext fun e_6=>ZqJ N e_1 f_2 x_3 K n k_5 x_4 e_6))
def ZmH {R:Type} (E:List V) (s:S) (k:Nat → List V → Fl → Int → Int → List V → Option R):Option R :=
 Zag (Zbi 19 [3,6,7,8] E) <| ZbC (nth E 3) fun u3=>ZhG u3 fun k'1 k'2 k'3 k_5=>isN k'1 1 <| isN k'2 0 <| isN k'3 0 <| Zbn E 6 1 fun e_1 f_2=>Zbd E 7 .i64 fun x_3=>Zbd E 8 .i64 fun x_4=>ZsY s fun o'4 s'5=>Zqw o'4 1 32 fun e'6 k'7=>isN k'7 0 <| Zxe e'6 <| ZsY s'5 fun o'8 s'9=>Zqw o'8 1 32 fun e_6 k'10=>isN k'10 0 <| Zbb s'9 <| k k_5 e_1 f_2 x_3 x_4 e_6
theorem Zlh {R:Type} {E:List V} {s:S} {k:Nat → List V → Fl → Int → Int → List V → Option R} {r:R} (h:ZmH E s k = some r):∃ k_5 e_1 f_2 x_3 x_4 e_6,E = Zgh e_1 f_2 x_3 k_5 x_4 e_6 ∧ s = [some ⟨[],1,32,0⟩,some ⟨e_6,1,32,0⟩] ∧ k k_5 e_1 f_2 x_3 x_4 e_6 = some r:=by
 unfold ZmH at h
 obtain ⟨hg,h1⟩:=Zaa h
 obtain ⟨_,hu3,h2⟩:=Zaf h1
 obtain ⟨_,_,_,_,rfl,h3⟩:=ZbV h2
 obtain ⟨rfl,h4⟩:=ZaL h3
 obtain ⟨rfl,h5⟩:=ZaL h4
 obtain ⟨rfl,h6⟩:=ZaL h5
 obtain ⟨_,_,hu6,h7⟩:=Zaw h6
 obtain ⟨_,hu7,h8⟩:=Zan h7
 obtain ⟨_,hu8,h9⟩:=Zan h8
 obtain ⟨_,_,rfl,h10⟩:=Zce h9
 obtain ⟨_,_,rfl,h11⟩:=ZbP h10
 obtain ⟨rfl,h12⟩:=ZaL h11
 obtain ⟨rfl,h13⟩:=ZkE h12
 obtain ⟨_,_,rfl,h14⟩:=Zce h13
 obtain ⟨_,_,rfl,h15⟩:=ZbP h14
 obtain ⟨rfl,h16⟩:=ZaL h15
 obtain ⟨rfl,h17⟩:=Zam h16
 exact ⟨_,_,_,_,_,_,Za8 hg rfl (Zae hu3 (Zae hu6 (Zae hu7 (Zae hu8 ZaY)))),rfl,h17⟩
def ZmV (N:Nat):ZaB:=(Zaj).add [0,1,0,1,1] fun _ E s K=>Zdh ZpE (Za6 ZiX E) s fun E s=>ZmH E s (fun k_5 e_1 f_2 x_3 x_4 e_6=>(Zez N e_1 f_2 x_3 (Zfz K e_1 f_2 x_3) N k_5 x_4 e_6))
theorem Ztf {N:Nat} (hC:Ok Try.prog C) (hΦ:Zab Try.prog C (Znc N)):Zbs Try.prog ZpE (ZmV N) ZmG [0,1,0,1,1] :=
 Zbo (Λi:=Zaj) (tr:=true) (ks:=ZiX) (kx:=Zpc) (N:=N) (hC.rowed true true (some 0) ZfE [] [] [] []) (hΦ.rowed true true (some 0) ZfE [] [] [] [])
  (Zau (by kernel_rfl))
  fun R E s K r h=>by
   have h2:=ZaB.add_self.symm.trans h
   refine Zg9 (fun E s h2=>?_) h2
   obtain ⟨_,_,_,_,_,_,he,rfl,h3⟩:=Zlh h2
   rw [he]
   exact (ZqJ N _ _ _ _ N _ _ _).trans h3
theorem ZwK:Za0 ZrL [] = [([0,1,0,1,1],ZmG)]:=by kernel_rfl
theorem Zxo {R:Type} (N:Nat) (e_1:List V) (f_2:Fl) (K:V → S → Option R):Zbw ZpE (Znc N) (ZmV N) 77 Try.f77 [.list 1 e_1 f_2] [] (GF rl K) =
 Zkv N e_1 f_2 (fun k_901 e_902=>K (.arr 0 0 0 k_901) [some ⟨e_902,1,32,0⟩]):=by kernel_rfl
theorem Zrt {N:Nat} (hC:Ok Try.prog C) (hΦ:Zab Try.prog C (Znc N)):ZaU Try.prog ZpE (ZmV N) ZrL [] :=
 ZaQ ZrL [] (by
  rw [ZwK]
  intro p hp
  simp only [List.mem_cons,List.mem_nil_iff,or_false] at hp
  rcases hp with rfl
  ·exact (Ztf hC hΦ))
theorem ZpT (hC:Ok Try.prog C) {N:Nat} (hΦ:Zab Try.prog C (Znc N)):Zab Try.prog C (Znn N):=by
 refine hΦ.add_fresh rfl fun R vs K r h=>?_
 unfold ZwX at h
 obtain ⟨_,rfl,h1⟩:=ZbM h
 obtain ⟨_,_,rfl,h2⟩:=Zar h1
 obtain ⟨_,h3⟩:=Zam h2
 refine Zcf (C:=C) true true (some 0) ZfE [] [] [] [] ?_
 refine ZcE (C:=ZpE) (fn:=Try.f77) (c:=ZrL) (hC.rowed true true (some 0) ZfE [] [] [] []) (hΦ.rowed true true (some 0) ZfE [] [] [] []) Try.func77 (by kernel_rfl) (by kernel_rfl) (Zrt (N:=N) hC hΦ) rfl rfl ?_
 refine (Zxo N _ _ _).trans ?_
 rw [← ZoO]
 exact h3
def Zwf (N:Nat):(R:Type) → List V → S → (V → S → Option R) → Option R:=fun _ vs s K =>
 ZjZ vs fun v'1 v'2=>ZaV 1 v'1 fun e_1 f_2=>asInt .i64 v'2 fun x_3=>Zbb s <| Zs3 N e_1 f_2 x_3 (fun b_4=>K (.bool b_4) [])
def Zjz (N:Nat):Zat:=(Znn N).add 80 (Zwf N)
def ZrD:Code:=Zbr Try.f80
def ZmP:Code:=(ZbO ZrD [] 0).2
def Zjq:List Nat:=ZcY 17 [1,7,8,9]
def ZnS:List Nat:=ZcY 17 [4]
def Zgo (x_1:Int) (e_2:List V) (f_3:Fl) (x_4 x_5:Int):List V:=mkF 0 17 [(1,.int .i64 x_1),(7,.list 1 e_2 f_3),(8,.int .i64 x_4),(9,.int .i64 x_5)]
def Ze3 {R:Type} (K:X → List V → S → Option R) (x_1:Int) (e_2:List V) (f_3:Fl) (x_4:Int):Unit → Option R:=(fun _=>K .ret (mkF 0 17 [(4,.bool true)]) [])
def Ze7 {R:Type} (K:X → List V → S → Option R) (x_1:Int) (e_2:List V) (f_3:Fl) (x_4:Int):Unit → Option R:=(fun _=>K (.exit 0) (mkF 0 17 []) [])
abbrev Ziw {R:Type} (N:Nat):Nat → List V → S → (X → List V → S → Option R) → Option R:=fun n=>Zf6 C (Znn N) (Zaj) ZmP [0,1,0,1] false Zjq ZnS n R
theorem Zvi {R:Type} (N n:Nat) (x_1:Int) (e_2:List V) (f_3:Fl) (x_4:Int) (x_5:Int) (K:X → List V → S → Option R) :
 Ziw N (n + 1) (Zgo x_1 e_2 f_3 x_4 x_5) [] K =
 Zcw N x_1 e_2 f_3 x_4 (fun x_5=>Ziw N n (Zgo x_1 e_2 f_3 x_4 x_5) [] K) x_5 (Ze3 K x_1 e_2 f_3 x_4) (Ze7 K x_1 e_2 f_3 x_4):=by kernel_rfl
theorem ZqW {R:Type} (N:Nat) (x_1:Int) (e_2:List V) (f_3:Fl) (x_4:Int) (K:X → List V → S → Option R):∀ (n:Nat) (x_5:Int),
 Ziw N n (Zgo x_1 e_2 f_3 x_4 x_5) [] K = Zeo N x_1 e_2 f_3 x_4 (Ze3 K x_1 e_2 f_3 x_4) (Ze7 K x_1 e_2 f_3 x_4) n x_5
 | 0,_=>rfl
 | n + 1,x_5=>(Zvi N n x_1 e_2 f_3 x_4 x_5 K).trans (congrArg (fun nx=>Zcw N x_1 e_2 f_3 x_4 nx x_5 (Ze3 K x_1 e_2 f_3 x_4) (Ze7 K x_1 e_2 f_3 x_4)) (funext fun x_5=>ZqW N x_1 e_2 f_3 x_4 K n x_5))
def ZnI {R:Type} (E:List V) (s:S) (k:Int → List V → Fl → Int → Int → Option R):Option R :=
 Zag (Zbi 17 [1,7,8,9] E) <| Zbd E 1 .i64 fun x_1=>Zbn E 7 1 fun e_2 f_3=>Zbd E 8 .i64 fun x_4=>Zbd E 9 .i64 fun x_5=>Zbb s <| k x_1 e_2 f_3 x_4 x_5
theorem ZjU {R:Type} {E:List V} {s:S} {k:Int → List V → Fl → Int → Int → Option R} {r:R} (h:ZnI E s k = some r):∃ x_1 e_2 f_3 x_4 x_5,E = Zgo x_1 e_2 f_3 x_4 x_5 ∧ s = [] ∧ k x_1 e_2 f_3 x_4 x_5 = some r:=by
 unfold ZnI at h
 obtain ⟨hg,h1⟩:=Zaa h
 obtain ⟨_,hu1,h2⟩:=Zan h1
 obtain ⟨_,_,hu7,h3⟩:=Zaw h2
 obtain ⟨_,hu8,h4⟩:=Zan h3
 obtain ⟨_,hu9,h5⟩:=Zan h4
 obtain ⟨rfl,h6⟩:=Zam h5
 exact ⟨_,_,_,_,_,Za8 hg rfl (Zae hu1 (Zae hu7 (Zae hu8 (Zae hu9 ZaY)))),rfl,h6⟩
def ZnL (N:Nat):ZaB:=(Zaj).add [0,1,0,1] fun _ E s K=>ZnI (Za6 Zjq E) s fun x_1 e_2 f_3 x_4 x_5=>Zeo N x_1 e_2 f_3 x_4 (Ze3 K x_1 e_2 f_3 x_4) (Ze7 K x_1 e_2 f_3 x_4) N x_5
theorem ZtC {N:Nat} (hC:Ok Try.prog C) (hΦ:Zab Try.prog C (Znn N)):Zbs Try.prog C (ZnL N) ZmP [0,1,0,1] :=
 Zbo (Λi:=Zaj) (tr:=false) (ks:=Zjq) (kx:=ZnS) (N:=N) hC hΦ
  (Zau (by kernel_rfl))
  fun R E s K r h=>by
   have h2:=ZaB.add_self.symm.trans h
   refine (ZaO rfl).trans ?_
   obtain ⟨_,_,_,_,_,he,rfl,h3⟩:=ZjU h2
   rw [he]
   exact (ZqW N _ _ _ _ _ N _).trans h3
theorem Zxc:Za0 ZrD [] = [([0,1,0,1],ZmP)]:=by kernel_rfl
theorem Zxn {R:Type} (N:Nat) (e_1:List V) (f_2:Fl) (x_3:Int) (K:V → S → Option R):Zbw C (Znn N) (ZnL N) 80 Try.f80 [.list 1 e_1 f_2,.int .i64 x_3] [] K =
 Zj8 N e_1 f_2 x_3 (fun b_4=>K (.bool b_4) []):=by kernel_rfl
theorem ZrW {N:Nat} (hC:Ok Try.prog C) (hΦ:Zab Try.prog C (Znn N)):ZaU Try.prog C (ZnL N) ZrD [] :=
 ZaQ ZrD [] (by
  rw [Zxc]
  intro p hp
  simp only [List.mem_cons,List.mem_nil_iff,or_false] at hp
  rcases hp with rfl
  ·exact (ZtC hC hΦ))
theorem ZpI (hC:Ok Try.prog C) {N:Nat} (hΦ:Zab Try.prog C (Znn N)):Zab Try.prog C (Zjz N):=by
 refine hΦ.add_pure rfl fun R vs K r h=>?_
 unfold Zwf at h
 obtain ⟨_,_,rfl,h1⟩:=Zbm h
 obtain ⟨_,_,rfl,h2⟩:=Zar h1
 obtain ⟨_,rfl,h3⟩:=Zaz h2
 obtain ⟨_,h4⟩:=Zam h3
 refine ZaX (fn:=Try.f80) (c:=ZrD) hC hΦ Try.func80 (by kernel_rfl) (by kernel_rfl) (ZrW (N:=N) hC hΦ) rfl rfl ?_
 refine (Zxn N _ _ _ _).trans ?_
 rw [← Zoy]
 exact h4
def ZvW (N:Nat):(R:Type) → List V → S → (V → S → Option R) → Option R:=fun _ vs s K =>
 ZpQ vs fun v'1=>ZaV 1 v'1 fun e_1 f_2=>Zbb s <| Zru N e_1 f_2 (fun e_3=>K (.list 1 e_3 .sh) [])
def Zum (N:Nat):Zat:=(Zjz N).add 81 (ZvW N)
def Zrs:Code:=Zbr Try.f81
def ZfP:Code:=(ZbO Zrs [] 0).2
def ZnK:Code:=(ZbO ZfP (0 :: [0,1,0,1,1]) 0).2
def ZjL:List Nat:=ZcY 26 [3,8,9,10,14,15,16]
def ZoT:List Nat:=ZcY 26 [3,8,9,10]
def Zgg (e_2:List V) (f_3:Fl) (x_4 x_5:Int) (e_6:List V) (f_7:Fl) (x_8:Int) (e_1:List V) (f_10:Fl) (x_9:Int):List V:=mkF 0 26 [(3,.list 1 e_1 f_10),(8,.list 1 e_2 f_3),(9,.int .i64 x_4),(10,.int .i64 x_5),(14,.list 1 e_6 f_7),(15,.int .i64 x_8),(16,.int .i64 x_9)]
def Zfm {R:Type} (K:X → List V → S → Option R) (e_2:List V) (f_3:Fl) (x_4:Int) (x_5:Int) (e_6:List V) (f_7:Fl) (x_8:Int):List V → Fl → Option R:=(fun e_1' f_2'=>K (.exit 2) (mkF 0 26 [(3,.list 1 (e_1') (f_2')),(8,.list 1 e_2 f_3),(9,.int .i64 x_4),(10,.int .i64 x_5)]) [])
abbrev Zjd {R:Type} (N:Nat):Nat → List V → S → (X → List V → S → Option R) → Option R:=fun n=>Zf6 C (Zjz N) (Zaj) ZnK [0,1,1,0,0,1,1,0,0,1,0,1,1] false ZjL ZoT n R
theorem Zvk {R:Type} (N n:Nat) (e_2:List V) (f_3:Fl) (x_4 x_5:Int) (e_6:List V) (f_7:Fl) (x_8:Int) (e_1:List V) (f_10:Fl) (x_9:Int) (K:X → List V → S → Option R) :
 Zjd N (n + 1) (Zgg e_2 f_3 x_4 x_5 e_6 f_7 x_8 e_1 f_10 x_9) [] K =
 Zcy N e_2 f_3 x_4 x_5 e_6 f_7 x_8 (fun e_1 f_10 x_9=>Zjd N n (Zgg e_2 f_3 x_4 x_5 e_6 f_7 x_8 e_1 f_10 x_9) [] K) e_1 f_10 x_9 (Zfm K e_2 f_3 x_4 x_5 e_6 f_7 x_8):=by kernel_rfl
theorem Zsx {R:Type} (N:Nat) (e_2:List V) (f_3:Fl) (x_4 x_5:Int) (e_6:List V) (f_7:Fl) (x_8:Int) (K:X → List V → S → Option R):∀ (n:Nat) (e_1:List V) (f_10:Fl) (x_9:Int),
 Zjd N n (Zgg e_2 f_3 x_4 x_5 e_6 f_7 x_8 e_1 f_10 x_9) [] K = Zee N e_2 f_3 x_4 x_5 e_6 f_7 x_8 (Zfm K e_2 f_3 x_4 x_5 e_6 f_7 x_8) n e_1 f_10 x_9
 | 0,_,_,_=>rfl
 | n + 1,e_1,f_10,x_9=>(Zvk N n e_2 f_3 x_4 x_5 e_6 f_7 x_8 e_1 f_10 x_9 K).trans (congrArg (fun nx=>Zcy N e_2 f_3 x_4 x_5 e_6 f_7 x_8 nx e_1 f_10 x_9 (Zfm K e_2 f_3 x_4 x_5 e_6 f_7 x_8)) (funext fun e_1=>funext fun f_10=>funext fun x_9=>Zsx N e_2 f_3 x_4 x_5 e_6 f_7 x_8 K n e_1 f_10 x_9))
def ZmD {R:Type} (E:List V) (s:S) (k:List V → Fl → List V → Fl → Int → Int → List V → Fl → Int → Int → Option R):Option R :=
 Zag (Zbi 26 [3,8,9,10,14,15,16] E) <| Zbn E 3 1 fun e_1 f_10=>Zbn E 8 1 fun e_2 f_3=>Zbd E 9 .i64 fun x_4=>Zbd E 10 .i64 fun x_5=>Zbn E 14 1 fun e_6 f_7=>Zbd E 15 .i64 fun x_8=>Zbd E 16 .i64 fun x_9=>Zbb s <| k e_1 f_10 e_2 f_3 x_4 x_5 e_6 f_7 x_8 x_9
theorem ZkR {R:Type} {E:List V} {s:S} {k:List V → Fl → List V → Fl → Int → Int → List V → Fl → Int → Int → Option R} {r:R} (h:ZmD E s k = some r):∃ e_1 f_10 e_2 f_3 x_4 x_5 e_6 f_7 x_8 x_9,E = Zgg e_2 f_3 x_4 x_5 e_6 f_7 x_8 e_1 f_10 x_9 ∧ s = [] ∧ k e_1 f_10 e_2 f_3 x_4 x_5 e_6 f_7 x_8 x_9 = some r:=by
 unfold ZmD at h
 obtain ⟨hg,h1⟩:=Zaa h
 obtain ⟨_,_,hu3,h2⟩:=Zaw h1
 obtain ⟨_,_,hu8,h3⟩:=Zaw h2
 obtain ⟨_,hu9,h4⟩:=Zan h3
 obtain ⟨_,hu10,h5⟩:=Zan h4
 obtain ⟨_,_,hu14,h6⟩:=Zaw h5
 obtain ⟨_,hu15,h7⟩:=Zan h6
 obtain ⟨_,hu16,h8⟩:=Zan h7
 obtain ⟨rfl,h9⟩:=Zam h8
 exact ⟨_,_,_,_,_,_,_,_,_,_,Za8 hg rfl (Zae hu3 (Zae hu8 (Zae hu9 (Zae hu10 (Zae hu14 (Zae hu15 (Zae hu16 ZaY))))))),rfl,h9⟩
def Zi0 (N:Nat):ZaB:=(Zaj).add [0,1,1,0,0,1,1,0,0,1,0,1,1] fun _ E s K=>ZmD (Za6 ZjL E) s fun e_1 f_10 e_2 f_3 x_4 x_5 e_6 f_7 x_8 x_9=>Zee N e_2 f_3 x_4 x_5 e_6 f_7 x_8 (Zfm K e_2 f_3 x_4 x_5 e_6 f_7 x_8) N e_1 f_10 x_9
theorem Zt6 {N:Nat} (hC:Ok Try.prog C) (hΦ:Zab Try.prog C (Zjz N)):Zbs Try.prog C (Zi0 N) ZnK [0,1,1,0,0,1,1,0,0,1,0,1,1] :=
 Zbo (Λi:=Zaj) (tr:=false) (ks:=ZjL) (kx:=ZoT) (N:=N) hC hΦ
  (Zau (by kernel_rfl))
  fun R E s K r h=>by
   have h2:=ZaB.add_self.symm.trans h
   refine (ZaO rfl).trans ?_
   obtain ⟨_,_,_,_,_,_,_,_,_,_,he,rfl,h3⟩:=ZkR h2
   rw [he]
   exact (Zsx N _ _ _ _ _ _ _ _ N _ _ _).trans h3
def Zi8:List Nat:=ZcY 26 [3,8,9,10]
def Zn9:List Nat:=ZcY 26 [3]
def ZgE (e_2:List V) (f_3:Fl) (x_4:Int) (e_1:List V) (f_6:Fl) (x_5:Int):List V:=mkF 0 26 [(3,.list 1 e_1 f_6),(8,.list 1 e_2 f_3),(9,.int .i64 x_4),(10,.int .i64 x_5)]
def ZeZ {R:Type} (K:X → List V → S → Option R) (e_2:List V) (f_3:Fl) (x_4:Int):List V → Fl → Option R:=(fun e_1' f_2'=>K (.exit 0) (mkF 0 26 [(3,.list 1 (e_1') (f_2'))]) [])
abbrev Zir {R:Type} (N:Nat):Nat → List V → S → (X → List V → S → Option R) → Option R:=fun n=>Zf6 C (Zjz N) (Zi0 N) ZfP [0,1,0,1,1] false Zi8 Zn9 n R
theorem Zvv {R:Type} (N n:Nat) (e_2:List V) (f_3:Fl) (x_4:Int) (e_1:List V) (f_6:Fl) (x_5:Int) (K:X → List V → S → Option R) :
 Zir N (n + 1) (ZgE e_2 f_3 x_4 e_1 f_6 x_5) [] K =
 Zcp N e_2 f_3 x_4 (fun e_1 f_6 x_5=>Zir N n (ZgE e_2 f_3 x_4 e_1 f_6 x_5) [] K) e_1 f_6 x_5 (ZeZ K e_2 f_3 x_4):=by kernel_rfl
theorem ZrT {R:Type} (N:Nat) (e_2:List V) (f_3:Fl) (x_4:Int) (K:X → List V → S → Option R):∀ (n:Nat) (e_1:List V) (f_6:Fl) (x_5:Int),
 Zir N n (ZgE e_2 f_3 x_4 e_1 f_6 x_5) [] K = Zes N e_2 f_3 x_4 (ZeZ K e_2 f_3 x_4) n e_1 f_6 x_5
 | 0,_,_,_=>rfl
 | n + 1,e_1,f_6,x_5=>(Zvv N n e_2 f_3 x_4 e_1 f_6 x_5 K).trans (congrArg (fun nx=>Zcp N e_2 f_3 x_4 nx e_1 f_6 x_5 (ZeZ K e_2 f_3 x_4)) (funext fun e_1=>funext fun f_6=>funext fun x_5=>ZrT N e_2 f_3 x_4 K n e_1 f_6 x_5))
def Zl6 {R:Type} (E:List V) (s:S) (k:List V → Fl → List V → Fl → Int → Int → Option R):Option R :=
 Zag (Zbi 26 [3,8,9,10] E) <| Zbn E 3 1 fun e_1 f_6=>Zbn E 8 1 fun e_2 f_3=>Zbd E 9 .i64 fun x_4=>Zbd E 10 .i64 fun x_5=>Zbb s <| k e_1 f_6 e_2 f_3 x_4 x_5
theorem Zkx {R:Type} {E:List V} {s:S} {k:List V → Fl → List V → Fl → Int → Int → Option R} {r:R} (h:Zl6 E s k = some r):∃ e_1 f_6 e_2 f_3 x_4 x_5,E = ZgE e_2 f_3 x_4 e_1 f_6 x_5 ∧ s = [] ∧ k e_1 f_6 e_2 f_3 x_4 x_5 = some r:=by
 unfold Zl6 at h
 obtain ⟨hg,h1⟩:=Zaa h
 obtain ⟨_,_,hu3,h2⟩:=Zaw h1
 obtain ⟨_,_,hu8,h3⟩:=Zaw h2
 obtain ⟨_,hu9,h4⟩:=Zan h3
 obtain ⟨_,hu10,h5⟩:=Zan h4
 obtain ⟨rfl,h6⟩:=Zam h5
 exact ⟨_,_,_,_,_,_,Za8 hg rfl (Zae hu3 (Zae hu8 (Zae hu9 (Zae hu10 ZaY)))),rfl,h6⟩
def Zmt (N:Nat):ZaB:=(Zi0 N).add [0,1,0,1,1] fun _ E s K=>Zl6 (Za6 Zi8 E) s fun e_1 f_6 e_2 f_3 x_4 x_5=>Zes N e_2 f_3 x_4 (ZeZ K e_2 f_3 x_4) N e_1 f_6 x_5
theorem Ztl:Za0 ZfP (0 :: [0,1,0,1,1]) = [([0,1,1,0,0,1,1,0,0,1,0,1,1],ZnK)]:=by kernel_rfl
theorem Zto {N:Nat} (hC:Ok Try.prog C) (hΦ:Zab Try.prog C (Zjz N)):Zbs Try.prog C (Zmt N) ZfP [0,1,0,1,1] :=
 Zbo (Λi:=Zi0 N) (tr:=false) (ks:=Zi8) (kx:=Zn9) (N:=N) hC hΦ
  (ZaQ ZfP _ (by
   rw [Ztl]
   intro p hp
   simp only [List.mem_cons,List.mem_nil_iff,or_false] at hp
   rcases hp with rfl
   ·exact (Zt6 hC hΦ)))
  fun R E s K r h=>by
   have h2:=ZaB.add_self.symm.trans h
   refine (ZaO rfl).trans ?_
   obtain ⟨_,_,_,_,_,_,he,rfl,h3⟩:=Zkx h2
   rw [he]
   exact (ZrT N _ _ _ _ N _ _ _).trans h3
theorem Zv3:Za0 Zrs [] = [([0,1,0,1,1],ZfP)]:=by kernel_rfl
theorem ZxW {R:Type} (N:Nat) (e_1:List V) (f_2:Fl) (K:V → S → Option R):Zbw C (Zjz N) (Zmt N) 81 Try.f81 [.list 1 e_1 f_2] [] K =
 ZkV N e_1 f_2 (fun e_3=>K (.list 1 e_3 .sh) []):=by kernel_rfl
theorem ZqA {N:Nat} (hC:Ok Try.prog C) (hΦ:Zab Try.prog C (Zjz N)):ZaU Try.prog C (Zmt N) Zrs [] :=
 ZaQ Zrs [] (by
  rw [Zv3]
  intro p hp
  simp only [List.mem_cons,List.mem_nil_iff,or_false] at hp
  rcases hp with rfl
  ·exact (Zto hC hΦ))
theorem Zqn (hC:Ok Try.prog C) {N:Nat} (hΦ:Zab Try.prog C (Zjz N)):Zab Try.prog C (Zum N):=by
 refine hΦ.add_pure rfl fun R vs K r h=>?_
 unfold ZvW at h
 obtain ⟨_,rfl,h1⟩:=ZbM h
 obtain ⟨_,_,rfl,h2⟩:=Zar h1
 obtain ⟨_,h3⟩:=Zam h2
 refine ZaX (fn:=Try.f81) (c:=Zrs) hC hΦ Try.func81 (by kernel_rfl) (by kernel_rfl) (ZqA (N:=N) hC hΦ) rfl rfl ?_
 refine (ZxW N _ _ _).trans ?_
 rw [← Zom]
 exact h3
def ZwO (N:Nat):(R:Type) → List V → S → (V → S → Option R) → Option R:=fun _ vs s K =>
 ZuD vs fun v'1 v'2 v'3=>ZaV 1 v'1 fun e_1 f_2=>asInt .i64 v'2 fun x_3=>asInt .i64 v'3 fun x_4=>Zbb s <| ZtD N e_1 f_2 x_3 x_4 (fun k_902 b_901 e_903=>K (.tuple [.arr 0 0 0 k_902,.bool b_901]) [some ⟨e_903,1,32,0⟩])
def ZtZ (N:Nat):Zat:=(Zum N).add 21 (ZwO N)
def Zxy:Code:=Zbr Try.f21
def Zjb:TypeId → Option (Nat × TypeId):=fun t=>if Nat.beq t 32 then some (0,3) else none
abbrev ZwS:Cfg:=C.rowed true true none Zjb [] [] [] []
theorem Zxw {R:Type} (N:Nat) (e_1:List V) (f_2:Fl) (x_3 x_4:Int) (K:V → S → Option R):Zbw ZwS (Zum N) (Zaj) 21 Try.f21 [.list 1 e_1 f_2,.int .i64 x_3,.int .i64 x_4] [] (GF rl K) =
 ZkZ N e_1 f_2 x_3 x_4 (fun k_902 b_901 e_903=>K (.tuple [.arr 0 0 0 k_902,.bool b_901]) [some ⟨e_903,1,32,0⟩]):=by kernel_rfl
theorem Zpw (hC:Ok Try.prog C) {N:Nat} (hΦ:Zab Try.prog C (Zum N)):Zab Try.prog C (ZtZ N):=by
 refine hΦ.add_fresh rfl fun R vs K r h=>?_
 unfold ZwO at h
 obtain ⟨_,_,_,rfl,h1⟩:=Zdb h
 obtain ⟨_,_,rfl,h2⟩:=Zar h1
 obtain ⟨_,rfl,h3⟩:=Zaz h2
 obtain ⟨_,rfl,h4⟩:=Zaz h3
 obtain ⟨_,h5⟩:=Zam h4
 refine Zcf (C:=C) true true none Zjb [] [] [] [] ?_
 refine ZcE (C:=ZwS) (fn:=Try.f21) (c:=Zxy) (hC.rowed true true none Zjb [] [] [] []) (hΦ.rowed true true none Zjb [] [] [] []) Try.func21 (by kernel_rfl) (by kernel_rfl) (Zau (Λ:=Zaj) (by kernel_rfl)) rfl rfl ?_
 refine (Zxw N _ _ _ _ _).trans ?_
 rw [← Zo4]
 exact h5
def Zxa (N:Nat):(R:Type) → List V → S → (V → S → Option R) → Option R:=fun _ vs s K =>
 ZuD vs fun v'1 v'2 v'3=>asInt .i64 v'1 fun x_1=>asInt .i64 v'2 fun x_2=>asInt .i64 v'3 fun x_3=>Zbb s <| Zps N x_1 x_2 x_3 (fun b_4=>K (.bool b_4) [])
def ZtJ (N:Nat):Zat:=(ZtZ N).add 98 (Zxa N)
def ZxZ:Code:=Zbr Try.f98
theorem Zxx {R:Type} (N:Nat) (x_1 x_2 x_3:Int) (K:V → S → Option R):Zbw C (ZtZ N) (Zaj) 98 Try.f98 [.int .i64 x_1,.int .i64 x_2,.int .i64 x_3] [] K =
 ZkM N x_1 x_2 x_3 (fun b_4=>K (.bool b_4) []):=by kernel_rfl
theorem Zp0 (hC:Ok Try.prog C) {N:Nat} (hΦ:Zab Try.prog C (ZtZ N)):Zab Try.prog C (ZtJ N):=by
 refine hΦ.add_pure rfl fun R vs K r h=>?_
 unfold Zxa at h
 obtain ⟨_,_,_,rfl,h1⟩:=Zdb h
 obtain ⟨_,rfl,h2⟩:=Zaz h1
 obtain ⟨_,rfl,h3⟩:=Zaz h2
 obtain ⟨_,rfl,h4⟩:=Zaz h3
 obtain ⟨_,h5⟩:=Zam h4
 refine ZaX (fn:=Try.f98) (c:=ZxZ) hC hΦ Try.func98 (by kernel_rfl) (by kernel_rfl) (Zau (Λ:=Zaj) (by kernel_rfl)) rfl rfl ?_
 refine (Zxx N _ _ _ _).trans ?_
 rw [← Zpb]
 exact h5
def Zv6 (N:Nat):(R:Type) → List V → S → (V → S → Option R) → Option R:=fun _ vs s K =>
 ZpQ vs fun v'1=>asInt .i64 v'1 fun x_1=>Zbb s <| ZqI N x_1 (fun b_2=>K (.bool b_2) [])
def Zvd (N:Nat):Zat:=(ZtJ N).add 83 (Zv6 N)
def Zxu:Code:=Zbr Try.f83
theorem ZxO {R:Type} (N:Nat) (x_1:Int) (K:V → S → Option R):Zbw C (ZtJ N) (Zaj) 83 Try.f83 [.int .i64 x_1] [] K =
 Zkh N x_1 (fun b_2=>K (.bool b_2) []):=by kernel_rfl
theorem Zpn (hC:Ok Try.prog C) {N:Nat} (hΦ:Zab Try.prog C (ZtJ N)):Zab Try.prog C (Zvd N):=by
 refine hΦ.add_pure rfl fun R vs K r h=>?_
 unfold Zv6 at h
 obtain ⟨_,rfl,h1⟩:=ZbM h
 obtain ⟨_,rfl,h2⟩:=Zaz h1
 obtain ⟨_,h3⟩:=Zam h2
 refine ZaX (fn:=Try.f83) (c:=Zxu) hC hΦ Try.func83 (by kernel_rfl) (by kernel_rfl) (Zau (Λ:=Zaj) (by kernel_rfl)) rfl rfl ?_
 refine (ZxO N _ _).trans ?_
 rw [← ZnZ]
 exact h3
def Zwz (N:Nat):(R:Type) → List V → S → (V → S → Option R) → Option R:=fun _ vs s K =>
 ZjZ vs fun v'1 v'2=>ZuL v'1 <| asInt .i64 v'2 fun x_1=>Zbb s <| Zu5 N x_1 (fun e_2=>K (.list 1 e_2 (.own 3)) [])
def Zjg (N:Nat):Zat:=(Zvd N).add 131 (Zwz N)
open Go.RowKit Go.Lib in
set_option maxRecDepth 100000 in
theorem ZrP (w:World):Calls Try.prog 131 #[.slice none 0 0,.int .i64 0] w fun e w'=>e = .returned (.slice none 0 0) ∧ w' = w:=by
 go_enter Try.func131,Try.ntmps131
 go_wp2
 go_ret
 exact ⟨rfl,rfl⟩
open Go.RowKit Go.Lib in
set_option maxRecDepth 100000 in
set_option maxHeartbeats 1000000 in
theorem ZqT (w:World) (n:Nat) (i0:TypeInfo) (z:Value) (hn:0 < n) (hi0:Try.prog.info? 3 = some i0) (hz0:i0.zero = some z) (hs0:0 < i0.size) (hbig:n * i0.bytes ≤ 140737488355328) (h63:n ≤ 4611686018427387904) :
  Calls Try.prog 131 #[.slice none 0 0,.int .i64 n] w fun e w' =>
   e = .returned (.slice (some ⟨w.heap.size,0,none⟩) 0 (grownCap w n 0 3)) ∧
   w' = w.drew.alloc (.cells (Builtin.zeroCells z.cells n ++ Builtin.zeroCells z.cells (grownCap w n 0 3 - n)) 3):=by
 have h1:¬ ((n:Int) < 0):=by omega
 have h3:wrap64 ((n:Int) - (0 - 0)) = (n:Int):=by unfold wrap64; omega
 have h4:(n:Int) > 0:=by omega
 have hold:(Builtin.firstCells i0.size 0 (.slice none 0 0)).run Try.prog w.drew = .ok (#[]:Array Value) w.drew:=run_firstCells_none w.drew i0.size 0 0 0
 have hrz:∀ ty,(Builtin.append_ #[32,3] ty #[.slice none 0 0,.int .i64 (n:Int)]).run Try.prog w =
   .ok (.slice (some ⟨w.heap.size,0,none⟩) n (grownCap w n 0 3)) (w.drew.alloc (.cells (Builtin.zeroCells z.cells n ++ Builtin.zeroCells z.cells (grownCap w n 0 3 - n)) 3)):=fun ty=>by
  have h:=Lib.run_append_grow_zeros w 32 3 ty 3 i0 z .i64 .i64 Try.underlying32 Try.underlying3 hi0 hz0 none 0 0 [] hold n (by omega) hs0 (by omega) (by omega)
   (by omega) (by have:=growslice_fits (old:=0) (need:=n) hn hbig; simpa using this)
  simpa using h
 have hGn:n ≤ grownCap w n 0 3:=grownCap_ge w _ _ _
 obtain ⟨G,hG⟩:∃ G,G = grownCap w n 0 3:=⟨_,rfl⟩
 rw [← hG] at hrz hGn ⊢
 have hG63:G ≤ 9223372036854775807:=by
  have:=grownCap_le_maxLen w n 0 3 (by unfold maxLen; omega)
  rw [← hG] at this
  unfold maxLen at this
  omega
 clear hold hG
 go_enter Try.func131,Try.ntmps131
 go_wp2_with (at_builtin; refine Lib.wpList_append_run _ rfl _ _ _ _ rfl _ _ rfl rfl _ _ (hrz _) ?_)
 all_goals (go_ret; exact ⟨rfl,rfl⟩)
theorem ZpA (hC:Ok Try.prog C) {N:Nat} (hΦ:Zab Try.prog C (Zvd N)):Zab Try.prog C (Zjg N):=by
 refine hΦ.add_own rfl fun R vs K r h=>?_
 unfold Zwz at h
 obtain ⟨_,_,rfl,h1⟩:=Zbm h
 obtain ⟨rfl,h2⟩:=ZmR h1
 obtain ⟨_,rfl,h3⟩:=Zaz h2
 obtain ⟨_,h4⟩:=Zam h3
 rw [Zo3] at h4
 unfold ZjW at h4
 split at h4 <;> first | (cases h4; done) | skip
 rename_i hcond
 exact ⟨_,h4,Zpf hC (e:=3) (by kernel_rfl) Try.func131 (by kernel_rfl) (by kernel_rfl) ZrP ZqT (B:=8) (sz:=1) (by kernel_rfl) (by kernel_rfl) hcond⟩
def Zwd (N:Nat):(R:Type) → List V → S → (V → S → Option R) → Option R:=fun _ vs s K =>
 ZpQ vs fun v'1=>ZaV 1 v'1 fun e_1 f_2=>Zbb s <| ZtU N e_1 f_2 (fun e_3=>K (.list 1 e_3 .sh) [])
def ZlQ (N:Nat):Zat:=(Zjg N).add 107 (Zwd N)
def Zpu:Code:=Zbr Try.f107
def ZlX:Code:=(ZbO Zpu [] 0).2
def ZlV:Code:=(ZbO Zpu [] 1).2
def Zip:List Nat:=ZcY 36 [0,3,9,10,11]
def Zob:List Nat:=ZcY 36 [0,3]
def ZgC (e_1:List V) (f_2:Fl) (e_4:List V) (f_5:Fl) (x_6 x_3 x_7:Int):List V:=mkF 0 36 [(0,.list 1 e_1 f_2),(3,.int .i64 x_3),(9,.list 1 e_4 f_5),(10,.int .i64 x_6),(11,.int .i64 x_7)]
def Zft {R:Type} (K:X → List V → S → Option R) (e_1:List V) (f_2:Fl) (e_4:List V) (f_5:Fl) (x_6:Int):Int → Option R:=(fun x_1'=>K (.exit 0) (mkF 0 36 [(0,.list 1 e_1 f_2),(3,.int .i64 (x_1'))]) [])
abbrev ZiY {R:Type} (N:Nat):Nat → List V → S → (X → List V → S → Option R) → Option R:=fun n=>Zf6 C (Zjg N) (Zaj) ZlX [0,1,0,1,1] false Zip Zob n R
theorem ZvK {R:Type} (N n:Nat) (e_1:List V) (f_2:Fl) (e_4:List V) (f_5:Fl) (x_6:Int) (x_3 x_7:Int) (K:X → List V → S → Option R) :
 ZiY N (n + 1) (ZgC e_1 f_2 e_4 f_5 x_6 x_3 x_7) [] K =
 Zcd N e_1 f_2 e_4 f_5 x_6 (fun x_3 x_7=>ZiY N n (ZgC e_1 f_2 e_4 f_5 x_6 x_3 x_7) [] K) x_3 x_7 (Zft K e_1 f_2 e_4 f_5 x_6):=by kernel_rfl
theorem ZrH {R:Type} (N:Nat) (e_1:List V) (f_2:Fl) (e_4:List V) (f_5:Fl) (x_6:Int) (K:X → List V → S → Option R):∀ (n:Nat) (x_3 x_7:Int),
 ZiY N n (ZgC e_1 f_2 e_4 f_5 x_6 x_3 x_7) [] K = Zdz N e_1 f_2 e_4 f_5 x_6 (Zft K e_1 f_2 e_4 f_5 x_6) n x_3 x_7
 | 0,_,_=>rfl
 | n + 1,x_3,x_7=>(ZvK N n e_1 f_2 e_4 f_5 x_6 x_3 x_7 K).trans (congrArg (fun nx=>Zcd N e_1 f_2 e_4 f_5 x_6 nx x_3 x_7 (Zft K e_1 f_2 e_4 f_5 x_6)) (funext fun x_3=>funext fun x_7=>ZrH N e_1 f_2 e_4 f_5 x_6 K n x_3 x_7))
def Zl3 {R:Type} (E:List V) (s:S) (k:List V → Fl → Int → List V → Fl → Int → Int → Option R):Option R :=
 Zag (Zbi 36 [0,3,9,10,11] E) <| Zbn E 0 1 fun e_1 f_2=>Zbd E 3 .i64 fun x_3=>Zbn E 9 1 fun e_4 f_5=>Zbd E 10 .i64 fun x_6=>Zbd E 11 .i64 fun x_7=>Zbb s <| k e_1 f_2 x_3 e_4 f_5 x_6 x_7
theorem Zk5 {R:Type} {E:List V} {s:S} {k:List V → Fl → Int → List V → Fl → Int → Int → Option R} {r:R} (h:Zl3 E s k = some r):∃ e_1 f_2 x_3 e_4 f_5 x_6 x_7,E = ZgC e_1 f_2 e_4 f_5 x_6 x_3 x_7 ∧ s = [] ∧ k e_1 f_2 x_3 e_4 f_5 x_6 x_7 = some r:=by
 unfold Zl3 at h
 obtain ⟨hg,h1⟩:=Zaa h
 obtain ⟨_,_,hu0,h2⟩:=Zaw h1
 obtain ⟨_,hu3,h3⟩:=Zan h2
 obtain ⟨_,_,hu9,h4⟩:=Zaw h3
 obtain ⟨_,hu10,h5⟩:=Zan h4
 obtain ⟨_,hu11,h6⟩:=Zan h5
 obtain ⟨rfl,h7⟩:=Zam h6
 exact ⟨_,_,_,_,_,_,_,Za8 hg rfl (Zae hu0 (Zae hu3 (Zae hu9 (Zae hu10 (Zae hu11 ZaY))))),rfl,h7⟩
def Zjk (N:Nat):ZaB:=(Zaj).add [0,1,0,1,1] fun _ E s K=>Zl3 (Za6 Zip E) s fun e_1 f_2 x_3 e_4 f_5 x_6 x_7=>Zdz N e_1 f_2 e_4 f_5 x_6 (Zft K e_1 f_2 e_4 f_5 x_6) N x_3 x_7
theorem ZtW {N:Nat} (hC:Ok Try.prog C) (hΦ:Zab Try.prog C (Zjg N)):Zbs Try.prog C (Zjk N) ZlX [0,1,0,1,1] :=
 Zbo (Λi:=Zaj) (tr:=false) (ks:=Zip) (kx:=Zob) (N:=N) hC hΦ
  (Zau (by kernel_rfl))
  fun R E s K r h=>by
   have h2:=ZaB.add_self.symm.trans h
   refine (ZaO rfl).trans ?_
   obtain ⟨_,_,_,_,_,_,_,he,rfl,h3⟩:=Zk5 h2
   rw [he]
   exact (ZrH N _ _ _ _ _ _ N _ _).trans h3
def ZiN:List Nat:=ZcY 36 [6,25,26,27]
def ZoL:List Nat:=ZcY 36 [6]
def Zgf (e_2:List V) (f_3:Fl) (x_4:Int) (e_1:List V) (x_5:Int):List V:=mkF 0 36 [(6,.list 1 e_1 (.own 3)),(25,.list 1 e_2 f_3),(26,.int .i64 x_4),(27,.int .i64 x_5)]
def Ze1 {R:Type} (K:X → List V → S → Option R) (e_2:List V) (f_3:Fl) (x_4:Int):List V → Option R:=(fun e_1'=>K (.exit 2) (mkF 0 36 [(6,.list 1 (e_1') (.own 3))]) [])
abbrev Zje {R:Type} (N:Nat):Nat → List V → S → (X → List V → S → Option R) → Option R:=fun n=>Zf6 C (Zjg N) (Zjk N) ZlV [0,1,0,1,1,1,1] false ZiN ZoL n R
theorem Zvr {R:Type} (N n:Nat) (e_2:List V) (f_3:Fl) (x_4:Int) (e_1:List V) (x_5:Int) (K:X → List V → S → Option R) :
 Zje N (n + 1) (Zgf e_2 f_3 x_4 e_1 x_5) [] K =
 Zcc N e_2 f_3 x_4 (fun e_1 x_5=>Zje N n (Zgf e_2 f_3 x_4 e_1 x_5) [] K) e_1 x_5 (Ze1 K e_2 f_3 x_4):=by kernel_rfl
theorem ZqV {R:Type} (N:Nat) (e_2:List V) (f_3:Fl) (x_4:Int) (K:X → List V → S → Option R):∀ (n:Nat) (e_1:List V) (x_5:Int),
 Zje N n (Zgf e_2 f_3 x_4 e_1 x_5) [] K = Zey N e_2 f_3 x_4 (Ze1 K e_2 f_3 x_4) n e_1 x_5
 | 0,_,_=>rfl
 | n + 1,e_1,x_5=>(Zvr N n e_2 f_3 x_4 e_1 x_5 K).trans (congrArg (fun nx=>Zcc N e_2 f_3 x_4 nx e_1 x_5 (Ze1 K e_2 f_3 x_4)) (funext fun e_1=>funext fun x_5=>ZqV N e_2 f_3 x_4 K n e_1 x_5))
def Zmi {R:Type} (E:List V) (s:S) (k:List V → List V → Fl → Int → Int → Option R):Option R :=
 Zag (Zbi 36 [6,25,26,27] E) <| ZbC (nth E 6) fun u6=>ZaV 1 u6 fun e_1 f'1=>ZvI 3 f'1 <| Zbn E 25 1 fun e_2 f_3=>Zbd E 26 .i64 fun x_4=>Zbd E 27 .i64 fun x_5=>Zbb s <| k e_1 e_2 f_3 x_4 x_5
theorem Zk8 {R:Type} {E:List V} {s:S} {k:List V → List V → Fl → Int → Int → Option R} {r:R} (h:Zmi E s k = some r):∃ e_1 e_2 f_3 x_4 x_5,E = Zgf e_2 f_3 x_4 e_1 x_5 ∧ s = [] ∧ k e_1 e_2 f_3 x_4 x_5 = some r:=by
 unfold Zmi at h
 obtain ⟨hg,h1⟩:=Zaa h
 obtain ⟨_,hu6,h2⟩:=Zaf h1
 obtain ⟨_,_,rfl,h3⟩:=Zar h2
 obtain ⟨rfl,h4⟩:=ZpL h3
 obtain ⟨_,_,hu25,h5⟩:=Zaw h4
 obtain ⟨_,hu26,h6⟩:=Zan h5
 obtain ⟨_,hu27,h7⟩:=Zan h6
 obtain ⟨rfl,h8⟩:=Zam h7
 exact ⟨_,_,_,_,_,Za8 hg rfl (Zae hu6 (Zae hu25 (Zae hu26 (Zae hu27 ZaY)))),rfl,h8⟩
def ZlY (N:Nat):ZaB:=(Zjk N).add [0,1,0,1,1,1,1] fun _ E s K=>Zmi (Za6 ZiN E) s fun e_1 e_2 f_3 x_4 x_5=>Zey N e_2 f_3 x_4 (Ze1 K e_2 f_3 x_4) N e_1 x_5
theorem Zug {N:Nat} (hC:Ok Try.prog C) (hΦ:Zab Try.prog C (Zjg N)):Zbs Try.prog C (ZlY N) ZlV [0,1,0,1,1,1,1] :=
 Zbo (Λi:=Zjk N) (tr:=false) (ks:=ZiN) (kx:=ZoL) (N:=N) hC hΦ
  (Zau (by kernel_rfl))
  fun R E s K r h=>by
   have h2:=ZaB.add_self.symm.trans h
   refine (ZaO rfl).trans ?_
   obtain ⟨_,_,_,_,_,he,rfl,h3⟩:=Zk8 h2
   rw [he]
   exact (ZqV N _ _ _ _ N _ _).trans h3
theorem Zwu:Za0 Zpu [] = [([0,1,0,1,1],ZlX),([0,1,0,1,1,1,1],ZlV)]:=by kernel_rfl
theorem Zxm {R:Type} (N:Nat) (e_1:List V) (f_2:Fl) (K:V → S → Option R):Zbw C (Zjg N) (ZlY N) 107 Try.f107 [.list 1 e_1 f_2] [] K =
 Zlp N e_1 f_2 (fun e_3=>K (.list 1 e_3 .sh) []):=by kernel_rfl
theorem ZqQ {N:Nat} (hC:Ok Try.prog C) (hΦ:Zab Try.prog C (Zjg N)):ZaU Try.prog C (ZlY N) Zpu [] :=
 ZaQ Zpu [] (by
  rw [Zwu]
  intro p hp
  simp only [List.mem_cons,List.mem_nil_iff,or_false] at hp
  rcases hp with rfl | rfl
  ·exact (Zbs.add (ZtW hC hΦ) rfl)
  ·exact (Zug hC hΦ))
theorem Zpe (hC:Ok Try.prog C) {N:Nat} (hΦ:Zab Try.prog C (Zjg N)):Zab Try.prog C (ZlQ N):=by
 refine hΦ.add_pure rfl fun R vs K r h=>?_
 unfold Zwd at h
 obtain ⟨_,rfl,h1⟩:=ZbM h
 obtain ⟨_,_,rfl,h2⟩:=Zar h1
 obtain ⟨_,h3⟩:=Zam h2
 refine ZaX (fn:=Try.f107) (c:=Zpu) hC hΦ Try.func107 (by kernel_rfl) (by kernel_rfl) (ZqQ (N:=N) hC hΦ) rfl rfl ?_
 refine (Zxm N _ _ _).trans ?_
 rw [← Zop]
 exact h3
def ZvZ (N:Nat):(R:Type) → List V → S → (V → S → Option R) → Option R:=fun _ vs s K =>
 ZjZ vs fun v'1 v'2=>ZaV 1 v'1 fun e_1 f_2=>asInt .i64 v'2 fun x_3=>Zbb s <| ZvQ N e_1 f_2 x_3 (fun x_4=>K (.int .i64 x_4) [])
def Zuc (N:Nat):Zat:=(ZlQ N).add 132 (ZvZ N)
def ZsS:Code:=Zbr Try.f132
def ZnB:Code:=(ZbO ZsS [] 0).2
def ZiP:List Nat:=ZcY 19 [0,1,7,8]
def Zot:List Nat:=ZcY 19 [4]
def Zgn (e_1:List V) (f_2:Fl) (x_3 x_4 x_5:Int):List V:=mkF 0 19 [(0,.list 1 e_1 f_2),(1,.int .i64 x_3),(7,.int .i64 x_4),(8,.int .i64 x_5)]
def ZeO {R:Type} (K:X → List V → S → Option R) (e_1:List V) (f_2:Fl) (x_3:Int) (x_4:Int):Int → Option R:=(fun x_1'=>K .ret (mkF 0 19 [(4,.int .i64 (x_1'))]) [])
def Zfg {R:Type} (K:X → List V → S → Option R) (e_1:List V) (f_2:Fl) (x_3:Int) (x_4:Int):Unit → Option R:=(fun _=>K (.exit 0) (mkF 0 19 []) [])
abbrev ZiD {R:Type} (N:Nat):Nat → List V → S → (X → List V → S → Option R) → Option R:=fun n=>Zf6 C (ZlQ N) (Zaj) ZnB [0,1,0,1] false ZiP Zot n R
theorem Zvp {R:Type} (N n:Nat) (e_1:List V) (f_2:Fl) (x_3 x_4:Int) (x_5:Int) (K:X → List V → S → Option R) :
 ZiD N (n + 1) (Zgn e_1 f_2 x_3 x_4 x_5) [] K =
 Zch N e_1 f_2 x_3 x_4 (fun x_5=>ZiD N n (Zgn e_1 f_2 x_3 x_4 x_5) [] K) x_5 (ZeO K e_1 f_2 x_3 x_4) (Zfg K e_1 f_2 x_3 x_4):=by kernel_rfl
theorem Zrn {R:Type} (N:Nat) (e_1:List V) (f_2:Fl) (x_3 x_4:Int) (K:X → List V → S → Option R):∀ (n:Nat) (x_5:Int),
 ZiD N n (Zgn e_1 f_2 x_3 x_4 x_5) [] K = Zec N e_1 f_2 x_3 x_4 (ZeO K e_1 f_2 x_3 x_4) (Zfg K e_1 f_2 x_3 x_4) n x_5
 | 0,_=>rfl
 | n + 1,x_5=>(Zvp N n e_1 f_2 x_3 x_4 x_5 K).trans (congrArg (fun nx=>Zch N e_1 f_2 x_3 x_4 nx x_5 (ZeO K e_1 f_2 x_3 x_4) (Zfg K e_1 f_2 x_3 x_4)) (funext fun x_5=>Zrn N e_1 f_2 x_3 x_4 K n x_5))
def ZnH {R:Type} (E:List V) (s:S) (k:List V → Fl → Int → Int → Int → Option R):Option R :=
 Zag (Zbi 19 [0,1,7,8] E) <| Zbn E 0 1 fun e_1 f_2=>Zbd E 1 .i64 fun x_3=>Zbd E 7 .i64 fun x_4=>Zbd E 8 .i64 fun x_5=>Zbb s <| k e_1 f_2 x_3 x_4 x_5
theorem Zlt {R:Type} {E:List V} {s:S} {k:List V → Fl → Int → Int → Int → Option R} {r:R} (h:ZnH E s k = some r):∃ e_1 f_2 x_3 x_4 x_5,E = Zgn e_1 f_2 x_3 x_4 x_5 ∧ s = [] ∧ k e_1 f_2 x_3 x_4 x_5 = some r:=by
 unfold ZnH at h
 obtain ⟨hg,h1⟩:=Zaa h
 obtain ⟨_,_,hu0,h2⟩:=Zaw h1
 obtain ⟨_,hu1,h3⟩:=Zan h2
 obtain ⟨_,hu7,h4⟩:=Zan h3
 obtain ⟨_,hu8,h5⟩:=Zan h4
 obtain ⟨rfl,h6⟩:=Zam h5
 exact ⟨_,_,_,_,_,Za8 hg rfl (Zae hu0 (Zae hu1 (Zae hu7 (Zae hu8 ZaY)))),rfl,h6⟩
def Zm8 (N:Nat):ZaB:=(Zaj).add [0,1,0,1] fun _ E s K=>ZnH (Za6 ZiP E) s fun e_1 f_2 x_3 x_4 x_5=>Zec N e_1 f_2 x_3 x_4 (ZeO K e_1 f_2 x_3 x_4) (Zfg K e_1 f_2 x_3 x_4) N x_5
theorem Zun {N:Nat} (hC:Ok Try.prog C) (hΦ:Zab Try.prog C (ZlQ N)):Zbs Try.prog C (Zm8 N) ZnB [0,1,0,1] :=
 Zbo (Λi:=Zaj) (tr:=false) (ks:=ZiP) (kx:=Zot) (N:=N) hC hΦ
  (Zau (by kernel_rfl))
  fun R E s K r h=>by
   have h2:=ZaB.add_self.symm.trans h
   refine (ZaO rfl).trans ?_
   obtain ⟨_,_,_,_,_,he,rfl,h3⟩:=Zlt h2
   rw [he]
   exact (Zrn N _ _ _ _ _ N _).trans h3
theorem Zw4:Za0 ZsS [] = [([0,1,0,1],ZnB)]:=by kernel_rfl
theorem ZxE {R:Type} (N:Nat) (e_1:List V) (f_2:Fl) (x_3:Int) (K:V → S → Option R):Zbw C (ZlQ N) (Zm8 N) 132 Try.f132 [.list 1 e_1 f_2,.int .i64 x_3] [] K =
 Zle N e_1 f_2 x_3 (fun x_4=>K (.int .i64 x_4) []):=by kernel_rfl
theorem ZsL {N:Nat} (hC:Ok Try.prog C) (hΦ:Zab Try.prog C (ZlQ N)):ZaU Try.prog C (Zm8 N) ZsS [] :=
 ZaQ ZsS [] (by
  rw [Zw4]
  intro p hp
  simp only [List.mem_cons,List.mem_nil_iff,or_false] at hp
  rcases hp with rfl
  ·exact (Zun hC hΦ))
theorem Zpj (hC:Ok Try.prog C) {N:Nat} (hΦ:Zab Try.prog C (ZlQ N)):Zab Try.prog C (Zuc N):=by
 refine hΦ.add_pure rfl fun R vs K r h=>?_
 unfold ZvZ at h
 obtain ⟨_,_,rfl,h1⟩:=Zbm h
 obtain ⟨_,_,rfl,h2⟩:=Zar h1
 obtain ⟨_,rfl,h3⟩:=Zaz h2
 obtain ⟨_,h4⟩:=Zam h3
 refine ZaX (fn:=Try.f132) (c:=ZsS) hC hΦ Try.func132 (by kernel_rfl) (by kernel_rfl) (ZsL (N:=N) hC hΦ) rfl rfl ?_
 refine (ZxE N _ _ _ _).trans ?_
 rw [← ZnP]
 exact h4
def ZwF (N:Nat):(R:Type) → List V → S → (V → S → Option R) → Option R:=fun _ vs s K =>
 ZjZ vs fun v'1 v'2=>ZaV 1 v'1 fun e_1 f_2=>asInt .i64 v'2 fun x_3=>Zbb s <| Ztd N e_1 f_2 x_3 (fun b_4=>K (.bool b_4) [])
def Zne (N:Nat):Zat:=(Zuc N).add 111 (ZwF N)
def ZxJ:Code:=Zbr Try.f111
theorem Zxr {R:Type} (N:Nat) (e_1:List V) (f_2:Fl) (x_3:Int) (K:V → S → Option R):Zbw C (Zuc N) (Zaj) 111 Try.f111 [.list 1 e_1 f_2,.int .i64 x_3] [] K =
 Zk7 N e_1 f_2 x_3 (fun b_4=>K (.bool b_4) []):=by kernel_rfl
theorem ZpP (hC:Ok Try.prog C) {N:Nat} (hΦ:Zab Try.prog C (Zuc N)):Zab Try.prog C (Zne N):=by
 refine hΦ.add_pure rfl fun R vs K r h=>?_
 unfold ZwF at h
 obtain ⟨_,_,rfl,h1⟩:=Zbm h
 obtain ⟨_,_,rfl,h2⟩:=Zar h1
 obtain ⟨_,rfl,h3⟩:=Zaz h2
 obtain ⟨_,h4⟩:=Zam h3
 refine ZaX (fn:=Try.f111) (c:=ZxJ) hC hΦ Try.func111 (by kernel_rfl) (by kernel_rfl) (Zau (Λ:=Zaj) (by kernel_rfl)) rfl rfl ?_
 refine (Zxr N _ _ _ _).trans ?_
 rw [← ZoW]
 exact h4
def Zw9 (N:Nat):(R:Type) → List V → S → (V → S → Option R) → Option R:=fun _ vs s K =>
 ZpQ vs fun v'1=>ZaV 1 v'1 fun e_1 f_2=>Zbb s <| ZsO N e_1 f_2 (fun b_3=>K (.bool b_3) [])
def Ztc (N:Nat):Zat:=(Zne N).add 66 (Zw9 N)
def ZrY:Code:=Zbr Try.f66
def ZnG:Code:=(ZbO ZrY [] 0).2
def Zjo:List Nat:=ZcY 35 [3,17,18,19]
def Zo5:List Nat:=ZcY 35 [2]
def ZgF (e_1 e_2:List V) (x_3 x_4:Int):List V:=mkF 0 35 [(3,.list 1 e_1 .sh),(17,.list 1 e_2 .sh),(18,.int .i64 x_3),(19,.int .i64 x_4)]
def Zfj {R:Type} (K:X → List V → S → Option R) (e_1:List V) (e_2:List V) (x_3:Int):Unit → Option R:=(fun _=>K .ret (mkF 0 35 [(2,.bool false)]) [])
def ZeQ {R:Type} (K:X → List V → S → Option R) (e_1:List V) (e_2:List V) (x_3:Int):Unit → Option R:=(fun _=>K (.exit 0) (mkF 0 35 []) [])
abbrev Zjm {R:Type} (N:Nat):Nat → List V → S → (X → List V → S → Option R) → Option R:=fun n=>Zf6 C (Zne N) (Zaj) ZnG [0,1,0,1,1,1] false Zjo Zo5 n R
theorem ZuT {R:Type} (N n:Nat) (e_1 e_2:List V) (x_3:Int) (x_4:Int) (K:X → List V → S → Option R) :
 Zjm N (n + 1) (ZgF e_1 e_2 x_3 x_4) [] K =
 Zcu N e_1 e_2 x_3 (fun x_4=>Zjm N n (ZgF e_1 e_2 x_3 x_4) [] K) x_4 (Zfj K e_1 e_2 x_3) (ZeQ K e_1 e_2 x_3):=by kernel_rfl
theorem Zrq {R:Type} (N:Nat) (e_1 e_2:List V) (x_3:Int) (K:X → List V → S → Option R):∀ (n:Nat) (x_4:Int),
 Zjm N n (ZgF e_1 e_2 x_3 x_4) [] K = Zen N e_1 e_2 x_3 (Zfj K e_1 e_2 x_3) (ZeQ K e_1 e_2 x_3) n x_4
 | 0,_=>rfl
 | n + 1,x_4=>(ZuT N n e_1 e_2 x_3 x_4 K).trans (congrArg (fun nx=>Zcu N e_1 e_2 x_3 nx x_4 (Zfj K e_1 e_2 x_3) (ZeQ K e_1 e_2 x_3)) (funext fun x_4=>Zrq N e_1 e_2 x_3 K n x_4))
def ZmZ {R:Type} (E:List V) (s:S) (k:List V → List V → Int → Int → Option R):Option R :=
 Zag (Zbi 35 [3,17,18,19] E) <| ZbC (nth E 3) fun u3=>ZaV 1 u3 fun e_1 f'1=>Zxd f'1 <| ZbC (nth E 17) fun u17=>ZaV 1 u17 fun e_2 f'2=>Zxd f'2 <| Zbd E 18 .i64 fun x_3=>Zbd E 19 .i64 fun x_4=>Zbb s <| k e_1 e_2 x_3 x_4
theorem Zkz {R:Type} {E:List V} {s:S} {k:List V → List V → Int → Int → Option R} {r:R} (h:ZmZ E s k = some r):∃ e_1 e_2 x_3 x_4,E = ZgF e_1 e_2 x_3 x_4 ∧ s = [] ∧ k e_1 e_2 x_3 x_4 = some r:=by
 unfold ZmZ at h
 obtain ⟨hg,h1⟩:=Zaa h
 obtain ⟨_,hu3,h2⟩:=Zaf h1
 obtain ⟨_,_,rfl,h3⟩:=Zar h2
 obtain ⟨rfl,h4⟩:=Zj6 h3
 obtain ⟨_,hu17,h5⟩:=Zaf h4
 obtain ⟨_,_,rfl,h6⟩:=Zar h5
 obtain ⟨rfl,h7⟩:=Zj6 h6
 obtain ⟨_,hu18,h8⟩:=Zan h7
 obtain ⟨_,hu19,h9⟩:=Zan h8
 obtain ⟨rfl,h10⟩:=Zam h9
 exact ⟨_,_,_,_,Za8 hg rfl (Zae hu3 (Zae hu17 (Zae hu18 (Zae hu19 ZaY)))),rfl,h10⟩
def Zmc (N:Nat):ZaB:=(Zaj).add [0,1,0,1,1,1] fun _ E s K=>ZmZ (Za6 Zjo E) s fun e_1 e_2 x_3 x_4=>Zen N e_1 e_2 x_3 (Zfj K e_1 e_2 x_3) (ZeQ K e_1 e_2 x_3) N x_4
theorem Zts {N:Nat} (hC:Ok Try.prog C) (hΦ:Zab Try.prog C (Zne N)):Zbs Try.prog C (Zmc N) ZnG [0,1,0,1,1,1] :=
 Zbo (Λi:=Zaj) (tr:=false) (ks:=Zjo) (kx:=Zo5) (N:=N) hC hΦ
  (Zau (by kernel_rfl))
  fun R E s K r h=>by
   have h2:=ZaB.add_self.symm.trans h
   refine (ZaO rfl).trans ?_
   obtain ⟨_,_,_,_,he,rfl,h3⟩:=Zkz h2
   rw [he]
   exact (Zrq N _ _ _ _ N _).trans h3
theorem Zxb:Za0 ZrY [] = [([0,1,0,1,1,1],ZnG)]:=by kernel_rfl
theorem Zx2 {R:Type} (N:Nat) (e_1:List V) (f_2:Fl) (K:V → S → Option R):Zbw C (Zne N) (Zmc N) 66 Try.f66 [.list 1 e_1 f_2] [] K =
 ZlK N e_1 f_2 (fun b_3=>K (.bool b_3) []):=by kernel_rfl
theorem Zrz {N:Nat} (hC:Ok Try.prog C) (hΦ:Zab Try.prog C (Zne N)):ZaU Try.prog C (Zmc N) ZrY [] :=
 ZaQ ZrY [] (by
  rw [Zxb]
  intro p hp
  simp only [List.mem_cons,List.mem_nil_iff,or_false] at hp
  rcases hp with rfl
  ·exact (Zts hC hΦ))
theorem ZpB (hC:Ok Try.prog C) {N:Nat} (hΦ:Zab Try.prog C (Zne N)):Zab Try.prog C (Ztc N):=by
 refine hΦ.add_pure rfl fun R vs K r h=>?_
 unfold Zw9 at h
 obtain ⟨_,rfl,h1⟩:=ZbM h
 obtain ⟨_,_,rfl,h2⟩:=Zar h1
 obtain ⟨_,h3⟩:=Zam h2
 refine ZaX (fn:=Try.f66) (c:=ZrY) hC hΦ Try.func66 (by kernel_rfl) (by kernel_rfl) (Zrz (N:=N) hC hΦ) rfl rfl ?_
 refine (Zx2 N _ _ _).trans ?_
 rw [← Zow]
 exact h3
def Zwj (N:Nat):(R:Type) → List V → S → (V → S → Option R) → Option R:=fun _ vs s K =>
 ZjZ vs fun v'1 v'2=>ZaV 1 v'1 fun e_1 f_2=>asInt .i64 v'2 fun x_3=>Zbb s <| Zus N e_1 f_2 x_3 (fun b_4=>K (.bool b_4) [])
def ZuY (N:Nat):Zat:=(Ztc N).add 82 (Zwj N)
def Zxq:Code:=Zbr Try.f82
theorem ZxP {R:Type} (N:Nat) (e_1:List V) (f_2:Fl) (x_3:Int) (K:V → S → Option R):Zbw C (Ztc N) (Zaj) 82 Try.f82 [.list 1 e_1 f_2,.int .i64 x_3] [] K =
 Zkc N e_1 f_2 x_3 (fun b_4=>K (.bool b_4) []):=by kernel_rfl
theorem ZpV (hC:Ok Try.prog C) {N:Nat} (hΦ:Zab Try.prog C (Ztc N)):Zab Try.prog C (ZuY N):=by
 refine hΦ.add_pure rfl fun R vs K r h=>?_
 unfold Zwj at h
 obtain ⟨_,_,rfl,h1⟩:=Zbm h
 obtain ⟨_,_,rfl,h2⟩:=Zar h1
 obtain ⟨_,rfl,h3⟩:=Zaz h2
 obtain ⟨_,h4⟩:=Zam h3
 refine ZaX (fn:=Try.f82) (c:=Zxq) hC hΦ Try.func82 (by kernel_rfl) (by kernel_rfl) (Zau (Λ:=Zaj) (by kernel_rfl)) rfl rfl ?_
 refine (ZxP N _ _ _ _).trans ?_
 rw [← Zoo]
 exact h4
def Zw3 (N:Nat):(R:Type) → List V → S → (V → S → Option R) → Option R:=fun _ vs s K =>
 ZpQ vs fun v'1=>ZaV 1 v'1 fun e_1 f_2=>Zbb s <| Zty N e_1 f_2 (fun k_901 e_902=>K (.arr 0 0 0 k_901) [some ⟨e_902,1,3,0⟩])
def Znk (N:Nat):Zat:=(ZuY N).add 118 (Zw3 N)
open Go.RowKit Go.Lib in
set_option maxRecDepth 100000 in
theorem Zqu (c:Nat) (w:World) (i0:TypeInfo) (_:Try.prog.info? 3 = some i0):Calls Try.prog 118 #[.slice none 0 c] w fun ev w'=>∃ A,ev = .returned (.slice A 0 0) ∧ Below w.heap.size w w':=by
 have q:∀ (w:World) (a:Option Addr) (n c n' c':Nat),(binOp .eql 32 (.slice a n c) (.slice none n' c')).run Try.prog w = .ok (.bool a.isNone) w:=fun w a n c n' c'=>run_eql_slice_nil w _ _ a n c n' c' Try.underlying32
 go_enter Try.func118,Try.ntmps118
 go_wp2
 go_ret
 exact ⟨_,rfl,Below.refl _ w⟩
open Go.RowKit Go.Lib in
set_option maxRecDepth 100000 in
set_option maxHeartbeats 1000000 in
theorem ZpS (a:Addr) (c:Nat) (w:World) (i0:TypeInfo) (hi0:Try.prog.info? 3 = some i0):Calls Try.prog 118 #[.slice (some a) 0 c] w fun ev w'=>∃ A,ev = .returned (.slice A 0 0) ∧ Below w.heap.size w w':=by
 have q:∀ (w:World) (a:Option Addr) (n c n' c':Nat),(binOp .eql 32 (.slice a n c) (.slice none n' c')).run Try.prog w = .ok (.bool a.isNone) w:=fun w a n c n' c'=>run_eql_slice_nil w _ _ a n c n' c' Try.underlying32
 obtain ⟨w2,hrun,hown,hgrow⟩:=run_append_fits (P:=Try.prog) (w.alloc (.cells #[] 3)) w.heap.size 32 32 3 i0 i0.size Try.underlying32 hi0 rfl w.heap.size 0 0 [] (World.ownsRow_made w #[] 0 (Nat.le_refl _) (Nat.zero_le _) (by simp)) a 0 c [] (by simp) (by simp) (by simp) (Nat.le_refl _)
 go_enter Try.func118,Try.ntmps118
 go_wp2_with (at_builtin; refine Lib.wpList_append_run _ rfl _ _ _ _ rfl _ _ rfl rfl _ _ hrun ?_)
 go_wp2
 go_ret
 exact ⟨_,rfl,((Below.refl _ w).alloc (Nat.le_refl _) _).grown hgrow (by simp) (by intro k hk; simp at hk; omega)⟩
open Go.RowKit Go.Lib in
set_option maxRecDepth 100000 in
set_option maxHeartbeats 1000000 in
theorem ZpG (a:Addr) (m c:Nat) (news:List Value) (w:World) (i0:TypeInfo) (z:Value) (hm:0 < m) (hi0:Try.prog.info? 3 = some i0) (hz0:i0.zero = some z) (hzs:z.cells.size = i0.size) (hs0:0 < i0.size) (hl:news.length = m * i0.size)
  (hnews:∀ j u,news[j]? = some u → w.cell? (a.add j) = some u) (hone:∀ u ∈ news,u.oneCell' = true) (hbig:m * i0.bytes ≤ 140737488355328) (hmx:m ≤ maxLen) :
  Calls Try.prog 118 #[.slice (some a) m c] w fun ev w'=>∃ G cap,ev = .returned (.slice (some ⟨G,0,none⟩) m cap) ∧ m ≤ cap ∧ cap ≤ maxLen ∧ w.heap.size ≤ G ∧
   w'.heap[G]? = some (.cells (news.toArray ++ Builtin.zeroCells z.cells (cap - m)) 3 (0,0)) ∧ Below w.heap.size w w':=by
 have q:∀ (w:World) (a:Option Addr) (n c n' c':Nat),(binOp .eql 32 (.slice a n c) (.slice none n' c')).run Try.prog w = .ok (.bool a.isNone) w:=fun w a n c n' c'=>run_eql_slice_nil w _ _ a n c n' c' Try.underlying32
 have hrun:=run_append_grow (P:=Try.prog) (w:=w.alloc (.cells #[] 3)) 32 32 3 i0 z Try.underlying32 hi0 hz0 ⟨w.heap.size,0,none⟩ 0 0 [] (by simp) (by simp) a m c news hl (fun j u hj=>by
  have:=hnews j u hj
  cases a
  exact Lib.cell?_alloc_some _ this) (by omega) (by unfold maxLen at hmx; omega) (by have:=growslice_fits (old:=0) (need:=m) hm hbig; simpa using this)
 have hG:=grownCap_ge (w.alloc (.cells #[] 3)) (0 + m) 0 3
 have hG2:=grownCap_le_maxLen (w.alloc (.cells #[] 3)) (0 + m) 0 3 (by omega)
 generalize grownCap (w.alloc (.cells #[] 3)) (0 + m) 0 3 = G at hrun hG hG2
 simp only [Nat.zero_add] at hrun hG hG2
 obtain ⟨zc,hzc⟩:∃ zc,zc = z.cells:=⟨_,rfl⟩
 rw [← hzc] at hrun ⊢
 clear hzc hzs hz0
 go_enter Try.func118,Try.ntmps118
 go_wp2_with (at_builtin; refine Lib.wpList_append_run _ rfl _ _ _ _ rfl _ _ rfl rfl _ _ hrun ?_)
 go_wp2
 go_ret
 refine ⟨_,_,rfl,hG,hG2,by simp,?_,?_⟩
 ·have:=Zb4 (w.alloc (.cells #[] 3)) (.cells (news.toArray ++ Builtin.zeroCells zc (G - m)) 3)
  have e:(w.alloc (.cells #[] 3)).heap.size = w.heap.size + 1:=by simp
  rw [e] at this
  exact this
 ·have:=((Below.refl w.heap.size w).alloc (Nat.le_refl _) (.cells #[] 3)).alloc (by simp) (.cells (news.toArray ++ Builtin.zeroCells zc (G - m)) 3)
  exact this.drew
theorem Zpx (hC:Ok Try.prog C) {N:Nat} (hΦ:Zab Try.prog C (ZuY N)):Zab Try.prog C (Znk N):=by
 refine hΦ.add_fresh rfl fun R vs K r h=>?_
 unfold Zw3 at h
 obtain ⟨_,rfl,h1⟩:=ZbM h
 obtain ⟨_,_,rfl,h2⟩:=Zar h1
 obtain ⟨_,h3⟩:=Zam h2
 rw [Zon] at h3
 unfold Zkb at h3
 obtain ⟨h1,h2⟩:=Zho hC (e:=3) (by kernel_rfl) Try.func118 (by kernel_rfl) (by kernel_rfl) Zqu ZpS ZpG (B:=8) (sz:=1) (by kernel_rfl) (by kernel_rfl) h3
 exact ⟨_,_,h1,h2⟩
def ZwY (N:Nat):(R:Type) → List V → S → (V → S → Option R) → Option R:=fun _ vs s K =>
 ZpQ vs fun v'1=>ZaV 1 v'1 fun e_1 f_2=>Zbb s <| Zt7 N e_1 f_2 (fun k_901 e_902=>K (.arr 0 0 0 k_901) [some ⟨e_902,1,32,0⟩])
def Zur (N:Nat):Zat:=(Znk N).add 84 (ZwY N)
def Zrk:Code:=Zbr Try.f84
def Zma:Code:=(ZbO Zrk [] 0).2
def ZfV:TypeId → Option (Nat × TypeId):=fun t=>if Nat.beq t 32 then some (0,3) else none
abbrev Zph:Cfg:=C.rowed true true (some 0) ZfV [] [] [] []
def ZiH:List Nat:=ZcY 20 [3,7,8,9]
def Zoc:List Nat:=ZcY 20 [3]
def ZgI (e_1:List V) (f_2:Fl) (x_3:Int) (k_5:Nat) (x_4:Int) (e_6:List V):List V:=mkF 0 20 [(3,.arr 1 0 0 k_5),(7,.list 1 e_1 f_2),(8,.int .i64 x_3),(9,.int .i64 x_4)]
def ZeT {R:Type} (K:X → List V → S → Option R) (e_1:List V) (f_2:Fl) (x_3:Int):Nat → List V → Option R:=(fun k_1' e_2'=>K (.exit 0) (mkF 0 20 [(3,.arr 1 0 0 (k_1'))]) [some ⟨[],1,32,0⟩,some ⟨e_2',1,32,0⟩])
abbrev ZiB {R:Type} (N:Nat):Nat → List V → S → (X → List V → S → Option R) → Option R:=fun n=>Zf6 Zph (Znk N) (Zaj) Zma [0,1,0,1,1] true ZiH Zoc n R
theorem ZvC {R:Type} (N n:Nat) (e_1:List V) (f_2:Fl) (x_3:Int) (k_5:Nat) (x_4:Int) (e_6:List V) (K:X → List V → S → Option R) :
 ZiB N (n + 1) (ZgI e_1 f_2 x_3 k_5 x_4 e_6) [some ⟨[],1,32,0⟩,some ⟨e_6,1,32,0⟩] K =
 Zcr N e_1 f_2 x_3 (fun k_5 x_4 e_6=>ZiB N n (ZgI e_1 f_2 x_3 k_5 x_4 e_6) [some ⟨[],1,32,0⟩,some ⟨e_6,1,32,0⟩] K) k_5 x_4 e_6 (ZeT K e_1 f_2 x_3):=by kernel_rfl
theorem ZrI {R:Type} (N:Nat) (e_1:List V) (f_2:Fl) (x_3:Int) (K:X → List V → S → Option R):∀ (n:Nat) (k_5:Nat) (x_4:Int) (e_6:List V),
 ZiB N n (ZgI e_1 f_2 x_3 k_5 x_4 e_6) [some ⟨[],1,32,0⟩,some ⟨e_6,1,32,0⟩] K = Zei N e_1 f_2 x_3 (ZeT K e_1 f_2 x_3) n k_5 x_4 e_6
 | 0,_,_,_=>rfl
 | n + 1,k_5,x_4,e_6=>(ZvC N n e_1 f_2 x_3 k_5 x_4 e_6 K).trans (congrArg (fun nx=>Zcr N e_1 f_2 x_3 nx k_5 x_4 e_6 (ZeT K e_1 f_2 x_3)) (funext fun k_5=>funext fun x_4=>funext fun e_6=>ZrI N e_1 f_2 x_3 K n k_5 x_4 e_6))
def ZnM {R:Type} (E:List V) (s:S) (k:Nat → List V → Fl → Int → Int → List V → Option R):Option R :=
 Zag (Zbi 20 [3,7,8,9] E) <| ZbC (nth E 3) fun u3=>ZhG u3 fun k'1 k'2 k'3 k_5=>isN k'1 1 <| isN k'2 0 <| isN k'3 0 <| Zbn E 7 1 fun e_1 f_2=>Zbd E 8 .i64 fun x_3=>Zbd E 9 .i64 fun x_4=>ZsY s fun o'4 s'5=>Zqw o'4 1 32 fun e'6 k'7=>isN k'7 0 <| Zxe e'6 <| ZsY s'5 fun o'8 s'9=>Zqw o'8 1 32 fun e_6 k'10=>isN k'10 0 <| Zbb s'9 <| k k_5 e_1 f_2 x_3 x_4 e_6
theorem Zkd {R:Type} {E:List V} {s:S} {k:Nat → List V → Fl → Int → Int → List V → Option R} {r:R} (h:ZnM E s k = some r):∃ k_5 e_1 f_2 x_3 x_4 e_6,E = ZgI e_1 f_2 x_3 k_5 x_4 e_6 ∧ s = [some ⟨[],1,32,0⟩,some ⟨e_6,1,32,0⟩] ∧ k k_5 e_1 f_2 x_3 x_4 e_6 = some r:=by
 unfold ZnM at h
 obtain ⟨hg,h1⟩:=Zaa h
 obtain ⟨_,hu3,h2⟩:=Zaf h1
 obtain ⟨_,_,_,_,rfl,h3⟩:=ZbV h2
 obtain ⟨rfl,h4⟩:=ZaL h3
 obtain ⟨rfl,h5⟩:=ZaL h4
 obtain ⟨rfl,h6⟩:=ZaL h5
 obtain ⟨_,_,hu7,h7⟩:=Zaw h6
 obtain ⟨_,hu8,h8⟩:=Zan h7
 obtain ⟨_,hu9,h9⟩:=Zan h8
 obtain ⟨_,_,rfl,h10⟩:=Zce h9
 obtain ⟨_,_,rfl,h11⟩:=ZbP h10
 obtain ⟨rfl,h12⟩:=ZaL h11
 obtain ⟨rfl,h13⟩:=ZkE h12
 obtain ⟨_,_,rfl,h14⟩:=Zce h13
 obtain ⟨_,_,rfl,h15⟩:=ZbP h14
 obtain ⟨rfl,h16⟩:=ZaL h15
 obtain ⟨rfl,h17⟩:=Zam h16
 exact ⟨_,_,_,_,_,_,Za8 hg rfl (Zae hu3 (Zae hu7 (Zae hu8 (Zae hu9 ZaY)))),rfl,h17⟩
def Znv (N:Nat):ZaB:=(Zaj).add [0,1,0,1,1] fun _ E s K=>Zdh Zph (Za6 ZiH E) s fun E s=>ZnM E s (fun k_5 e_1 f_2 x_3 x_4 e_6=>(Zei N e_1 f_2 x_3 (ZeT K e_1 f_2 x_3) N k_5 x_4 e_6))
theorem ZtB {N:Nat} (hC:Ok Try.prog C) (hΦ:Zab Try.prog C (Znk N)):Zbs Try.prog Zph (Znv N) Zma [0,1,0,1,1] :=
 Zbo (Λi:=Zaj) (tr:=true) (ks:=ZiH) (kx:=Zoc) (N:=N) (hC.rowed true true (some 0) ZfV [] [] [] []) (hΦ.rowed true true (some 0) ZfV [] [] [] [])
  (Zau (by kernel_rfl))
  fun R E s K r h=>by
   have h2:=ZaB.add_self.symm.trans h
   refine Zg9 (fun E s h2=>?_) h2
   obtain ⟨_,_,_,_,_,_,he,rfl,h3⟩:=Zkd h2
   rw [he]
   exact (ZrI N _ _ _ _ N _ _ _).trans h3
theorem ZvY:Za0 Zrk [] = [([0,1,0,1,1],Zma)]:=by kernel_rfl
theorem ZxK {R:Type} (N:Nat) (e_1:List V) (f_2:Fl) (K:V → S → Option R):Zbw Zph (Znk N) (Znv N) 84 Try.f84 [.list 1 e_1 f_2] [] (GF rl K) =
 ZjT N e_1 f_2 (fun k_901 e_902=>K (.arr 0 0 0 k_901) [some ⟨e_902,1,32,0⟩]):=by kernel_rfl
theorem Zq3 {N:Nat} (hC:Ok Try.prog C) (hΦ:Zab Try.prog C (Znk N)):ZaU Try.prog Zph (Znv N) Zrk [] :=
 ZaQ Zrk [] (by
  rw [ZvY]
  intro p hp
  simp only [List.mem_cons,List.mem_nil_iff,or_false] at hp
  rcases hp with rfl
  ·exact (ZtB hC hΦ))
theorem Zpp (hC:Ok Try.prog C) {N:Nat} (hΦ:Zab Try.prog C (Znk N)):Zab Try.prog C (Zur N):=by
 refine hΦ.add_fresh rfl fun R vs K r h=>?_
 unfold ZwY at h
 obtain ⟨_,rfl,h1⟩:=ZbM h
 obtain ⟨_,_,rfl,h2⟩:=Zar h1
 obtain ⟨_,h3⟩:=Zam h2
 refine Zcf (C:=C) true true (some 0) ZfV [] [] [] [] ?_
 refine ZcE (C:=Zph) (fn:=Try.f84) (c:=Zrk) (hC.rowed true true (some 0) ZfV [] [] [] []) (hΦ.rowed true true (some 0) ZfV [] [] [] []) Try.func84 (by kernel_rfl) (by kernel_rfl) (Zq3 (N:=N) hC hΦ) rfl rfl ?_
 refine (ZxK N _ _ _).trans ?_
 rw [← ZnW]
 exact h3
def ZvX (N:Nat):(R:Type) → List V → S → (V → S → Option R) → Option R:=fun _ vs s K =>
 ZuD vs fun v'1 v'2 v'3=>ZaV 1 v'1 fun e_1 f_2=>asInt .i64 v'2 fun x_3=>asInt .i64 v'3 fun x_4=>Zbb s <| ZsE N e_1 f_2 x_3 x_4 (fun k_902 b_901 e_903=>K (.tuple [.arr 0 0 0 k_902,.bool b_901]) [some ⟨e_903,1,32,0⟩])
def ZpC (N:Nat):Zat:=(Zur N).add 22 (ZvX N)
def ZxQ:Code:=Zbr Try.f22
def ZiK:TypeId → Option (Nat × TypeId):=fun t=>if Nat.beq t 32 then some (0,3) else none
abbrev ZwM:Cfg:=C.rowed true true none ZiK [] [] [] []
theorem Zx5 {R:Type} (N:Nat) (e_1:List V) (f_2:Fl) (x_3 x_4:Int) (K:V → S → Option R):Zbw ZwM (Zur N) (Zaj) 22 Try.f22 [.list 1 e_1 f_2,.int .i64 x_3,.int .i64 x_4] [] (GF rl K) =
 Zkn N e_1 f_2 x_3 x_4 (fun k_902 b_901 e_903=>K (.tuple [.arr 0 0 0 k_902,.bool b_901]) [some ⟨e_903,1,32,0⟩]):=by kernel_rfl
theorem Zp4 (hC:Ok Try.prog C) {N:Nat} (hΦ:Zab Try.prog C (Zur N)):Zab Try.prog C (ZpC N):=by
 refine hΦ.add_fresh rfl fun R vs K r h=>?_
 unfold ZvX at h
 obtain ⟨_,_,_,rfl,h1⟩:=Zdb h
 obtain ⟨_,_,rfl,h2⟩:=Zar h1
 obtain ⟨_,rfl,h3⟩:=Zaz h2
 obtain ⟨_,rfl,h4⟩:=Zaz h3
 obtain ⟨_,h5⟩:=Zam h4
 refine Zcf (C:=C) true true none ZiK [] [] [] [] ?_
 refine ZcE (C:=ZwM) (fn:=Try.f22) (c:=ZxQ) (hC.rowed true true none ZiK [] [] [] []) (hΦ.rowed true true none ZiK [] [] [] []) Try.func22 (by kernel_rfl) (by kernel_rfl) (Zau (Λ:=Zaj) (by kernel_rfl)) rfl rfl ?_
 refine (Zx5 N _ _ _ _ _).trans ?_
 rw [← Zor]
 exact h5
def Zw6 (N:Nat):(R:Type) → List V → S → (V → S → Option R) → Option R:=fun _ vs s K =>
 ZuD vs fun v'1 v'2 v'3=>ZaV 1 v'1 fun e_1 f_2=>asInt .i64 v'2 fun x_3=>asInt .i64 v'3 fun x_4=>Zbb s <| Zwq N e_1 f_2 x_3 x_4 (fun b_5=>K (.bool b_5) [])
def ZxI (N:Nat):Zat:=(ZpC N).add 4 (Zw6 N)
def ZuX:Code:=Zbr Try.f4
def inl_zag:TypeId → Option (Nat × TypeId):=fun t=>if Nat.beq t 32 then some (0,3) else none
abbrev Zvj:Cfg:=C.rowed false true none inl_zag [] [] [] []
theorem ZxH {R:Type} (N:Nat) (e_1:List V) (f_2:Fl) (x_3 x_4:Int) (K:V → S → Option R):ZiQ Zvj (ZpC N) Zaj ZuX [] ([.list 1 e_1 f_2,.int .i64 x_3,.int .i64 x_4] ++ List.replicate (Try.f4.ntmps - ([.list 1 e_1 f_2,.int .i64 x_3,.int .i64 x_4]:List V).length) .dead) [] (Zya Zvj 4 Try.f4 K) =
 ZrF N e_1 f_2 x_3 x_4 (fun b_5=>K (.bool b_5) []):=by kernel_rfl
theorem b_zag {R:Type} (N:Nat) (e_1:List V) (f_2:Fl) (x_3 x_4:Int) (K:V → S → Option R):Zbw Zvj (ZpC N) Zaj 4 Try.f4 [.list 1 e_1 f_2,.int .i64 x_3,.int .i64 x_4] [] K =
 ZgV N e_1 f_2 x_3 x_4 (fun b_5=>K (.bool b_5) []):=by
 refine (ZrM (c:=ZuX) (by kernel_rfl)).trans ?_
 unfold ZgV
 exact ZxH N _ _ _ _ K
theorem ZvR (hC:Ok Try.prog C) {N:Nat} (hΦ:Zab Try.prog C (ZpC N)):Zab Try.prog C (ZxI N):=by
 refine hΦ.add_pure rfl fun R vs K r h=>?_
 unfold Zw6 at h
 obtain ⟨_,_,_,rfl,h1⟩:=Zdb h
 obtain ⟨_,_,rfl,h2⟩:=Zar h1
 obtain ⟨_,rfl,h3⟩:=Zaz h2
 obtain ⟨_,rfl,h4⟩:=Zaz h3
 obtain ⟨_,h5⟩:=Zam h4
 refine ZaX (fn:=Try.f4) (c:=ZuX) (hC.rowed false true none inl_zag [] [] [] []) (hΦ.rowed false true none inl_zag [] [] [] []) Try.func4 (by kernel_rfl) (by kernel_rfl) (Zau (Λ:=Zaj) (by kernel_rfl)) rfl rfl ?_
 refine (b_zag N _ _ _ _ _).trans ?_
 rw [← Zta]
 exact h5
theorem callee_zag_prev (hC:Ok Try.prog C) (N:Nat):Zab Try.prog C (ZpC N) :=
 have h0:=Znb Try.prog C
 have h1:=Zpt hC (N:=N) h0
 have h2:=Zqa hC (N:=N) h1
 have h3:=ZpW hC (N:=N) h2
 have h4:=ZpY hC (N:=N) h3
 have h5:=Zpy hC (N:=N) h4
 have h6:=Zql hC (N:=N) h5
 have h7:=Zqg hC (N:=N) h6
 have h8:=Zp3 hC (N:=N) h7
 have h9:=ZpR hC (N:=N) h8
 have h10:=Zp9 hC (N:=N) h9
 have h11:=Zqf hC (N:=N) h10
 have h12:=Zpg hC (N:=N) h11
 have h13:=Zpo hC (N:=N) h12
 have h14:=Zp8 hC (N:=N) h13
 have h15:=ZpU hC (N:=N) h14
 have h16:=Zpk hC (N:=N) h15
 have h17:=ZpT hC (N:=N) h16
 have h18:=ZpI hC (N:=N) h17
 have h19:=Zqn hC (N:=N) h18
 have h20:=Zpw hC (N:=N) h19
 have h21:=Zp0 hC (N:=N) h20
 have h22:=Zpn hC (N:=N) h21
 have h23:=ZpA hC (N:=N) h22
 have h24:=Zpe hC (N:=N) h23
 have h25:=Zpj hC (N:=N) h24
 have h26:=ZpP hC (N:=N) h25
 have h27:=ZpB hC (N:=N) h26
 have h28:=ZpV hC (N:=N) h27
 have h29:=Zpx hC (N:=N) h28
 have h30:=Zpp hC (N:=N) h29
 have h31:=Zp4 hC (N:=N) h30
 h31
end
end Go.VM.VL
