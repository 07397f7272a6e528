/- The functions of the program, told plainly: what each computes, as a function of its letters; and that the machine does the same. Printed by vgen.py, a program of this session's own. -/
import Derived.Test.YtkchbabkbpcncaaGreatDoorX1m1
set_option linter.unusedVariables false
namespace Go.VM.VL
noncomputable section
open Go.Proofs
def ZOb (N:Nat):(R:Type) → List V → S → (V → S → Option R) → Option R:=fun _ vs s K =>
 Zcf vs fun v'1 v'2=>Za9 v'1 fun e_1 f_2 x_3=>ZaB v'2 fun x_4 x_5 x_6 x_7 x_8 w_9 e_10 f_11=>ZaR s <| ZIE N e_1 f_2 x_3 x_4 x_5 x_6 x_7 x_8 w_9 e_10 f_11 (fun b_12=>K (.bool b_12) [])
def Zwg (N:Nat):Zar:=(Zwf N).add 51 (ZOb N)
def ZGv:Code:=ZaS Tryz.f51
def ZvN:Code:=(Zbn ZGv [] 0).2
def Zpg:List Nat:=ZbR 99 [2,3,61,62,63]
def Zxp:List Nat:=ZbR 99 [3,4]
def Zkc (e_1:List V) (f_2:Fl) (x_3:Int) (e_5:List V) (f_6:Fl) (x_7 x_8 x_9 x_10 x_11 x_12:Int) (w_13:ByteArray) (e_14:List V) (f_15:Fl) (x_4:Int):List V:=mkF 0 99 [(2,.ptr 0 0 0 0),(3,.ptr 1 0 0 0),(61,.list 2 e_1 f_2),(62,.int .i64 x_3),(63,.int .i64 x_4)]
def ZhL {R:Type} (K:X → List V → S → Option R) (e_1:List V) (f_2:Fl) (x_3:Int) (e_5:List V) (f_6:Fl) (x_7:Int) (x_8:Int) (x_9:Int) (x_10:Int) (x_11:Int) (x_12:Int) (w_13:ByteArray) (e_14:List V) (f_15:Fl):Unit → Option R:=(fun _=>K .ret (mkF 0 99 [(3,.ptr 1 0 0 0),(4,.bool false)]) [some ⟨[.agg [.list 7 e_5 f_6,.int .i64 x_7]],2,33,0⟩,some ⟨[.agg [.int .i64 x_8,.int .i64 x_9,.int .i64 x_10,.int .i64 x_11,.int .i64 x_12,.str w_13,.list 2 e_14 f_15]],7,49,0⟩])
def Zik {R:Type} (K:X → List V → S → Option R) (e_1:List V) (f_2:Fl) (x_3:Int) (e_5:List V) (f_6:Fl) (x_7:Int) (x_8:Int) (x_9:Int) (x_10:Int) (x_11:Int) (x_12:Int) (w_13:ByteArray) (e_14:List V) (f_15:Fl):Unit → Option R:=(fun _=>K (.exit 1) (mkF 0 99 [(3,.ptr 1 0 0 0)]) [some ⟨[.agg [.list 7 e_5 f_6,.int .i64 x_7]],2,33,0⟩,some ⟨[.agg [.int .i64 x_8,.int .i64 x_9,.int .i64 x_10,.int .i64 x_11,.int .i64 x_12,.str w_13,.list 2 e_14 f_15]],7,49,0⟩])
abbrev Zow {R:Type} (N:Nat):Nat → List V → S → (X → List V → S → Option R) → Option R:=fun n=>ZcX C (Zwf N) (Zad) ZvN [0,1,0,0,1,1,1,1,1,0,1,0,1,1,1] true Zpg Zxp n R
theorem ZKY {R:Type} (N n:Nat) (e_1:List V) (f_2:Fl) (x_3:Int) (e_5:List V) (f_6:Fl) (x_7 x_8 x_9 x_10 x_11 x_12:Int) (w_13:ByteArray) (e_14:List V) (f_15:Fl) (x_4:Int) (K:X → List V → S → Option R) :
 Zow N (n + 1) (Zkc e_1 f_2 x_3 e_5 f_6 x_7 x_8 x_9 x_10 x_11 x_12 w_13 e_14 f_15 x_4) [some ⟨[.agg [.list 7 e_5 f_6,.int .i64 x_7]],2,33,0⟩,some ⟨[.agg [.int .i64 x_8,.int .i64 x_9,.int .i64 x_10,.int .i64 x_11,.int .i64 x_12,.str w_13,.list 2 e_14 f_15]],7,49,0⟩] K =
 Zc6 N e_1 f_2 x_3 e_5 f_6 x_7 x_8 x_9 x_10 x_11 x_12 w_13 e_14 f_15 (fun x_4=>Zow N n (Zkc e_1 f_2 x_3 e_5 f_6 x_7 x_8 x_9 x_10 x_11 x_12 w_13 e_14 f_15 x_4) [some ⟨[.agg [.list 7 e_5 f_6,.int .i64 x_7]],2,33,0⟩,some ⟨[.agg [.int .i64 x_8,.int .i64 x_9,.int .i64 x_10,.int .i64 x_11,.int .i64 x_12,.str w_13,.list 2 e_14 f_15]],7,49,0⟩] K) x_4 (ZhL K e_1 f_2 x_3 e_5 f_6 x_7 x_8 x_9 x_10 x_11 x_12 w_13 e_14 f_15) (Zik K e_1 f_2 x_3 e_5 f_6 x_7 x_8 x_9 x_10 x_11 x_12 w_13 e_14 f_15):=by kernel_rfl
theorem ZFg {R:Type} (N:Nat) (e_1:List V) (f_2:Fl) (x_3:Int) (e_5:List V) (f_6:Fl) (x_7 x_8 x_9 x_10 x_11 x_12:Int) (w_13:ByteArray) (e_14:List V) (f_15:Fl) (K:X → List V → S → Option R):∀ (n:Nat) (x_4:Int),
 Zow N n (Zkc e_1 f_2 x_3 e_5 f_6 x_7 x_8 x_9 x_10 x_11 x_12 w_13 e_14 f_15 x_4) [some ⟨[.agg [.list 7 e_5 f_6,.int .i64 x_7]],2,33,0⟩,some ⟨[.agg [.int .i64 x_8,.int .i64 x_9,.int .i64 x_10,.int .i64 x_11,.int .i64 x_12,.str w_13,.list 2 e_14 f_15]],7,49,0⟩] K = Ze7 N e_1 f_2 x_3 e_5 f_6 x_7 x_8 x_9 x_10 x_11 x_12 w_13 e_14 f_15 (ZhL K e_1 f_2 x_3 e_5 f_6 x_7 x_8 x_9 x_10 x_11 x_12 w_13 e_14 f_15) (Zik K e_1 f_2 x_3 e_5 f_6 x_7 x_8 x_9 x_10 x_11 x_12 w_13 e_14 f_15) n x_4
 | 0,_=>rfl
 | n + 1,x_4=>(ZKY N n e_1 f_2 x_3 e_5 f_6 x_7 x_8 x_9 x_10 x_11 x_12 w_13 e_14 f_15 x_4 K).trans (congrArg (fun nx=>Zc6 N e_1 f_2 x_3 e_5 f_6 x_7 x_8 x_9 x_10 x_11 x_12 w_13 e_14 f_15 nx x_4 (ZhL K e_1 f_2 x_3 e_5 f_6 x_7 x_8 x_9 x_10 x_11 x_12 w_13 e_14 f_15) (Zik K e_1 f_2 x_3 e_5 f_6 x_7 x_8 x_9 x_10 x_11 x_12 w_13 e_14 f_15)) (funext fun x_4=>ZFg N e_1 f_2 x_3 e_5 f_6 x_7 x_8 x_9 x_10 x_11 x_12 w_13 e_14 f_15 K n x_4))
def ZuA {R:Type} (E:List V) (s:S) (k:List V → Fl → Int → Int → List V → Fl → Int → Int → Int → Int → Int → Int → ByteArray → List V → Fl → Option R):Option R :=
 Zaj (Za3 99 [2,3,61,62,63] E) <| ZvY E 2 (.ptr 0 0 0 0) <| ZvY E 3 (.ptr 1 0 0 0) <| Zbu E 61 2 fun e_1 f_2=>ZaZ E 62 .i64 fun x_3=>ZaZ E 63 .i64 fun x_4=>ZdW s fun o'1 s'2=>ZcW o'1 2 33 fun e'3 k'4=>isN k'4 0 <| Zco e'3 fun v'5=>asAgg v'5 fun c'6=>Zcf c'6 fun v'7 v'8=>ZaX 7 v'7 fun e_5 f_6=>asInt .i64 v'8 fun x_7=>ZdW s'2 fun o'9 s'10=>ZcW o'9 7 49 fun e'11 k'12=>isN k'12 0 <| Zco e'11 fun v'13=>asAgg v'13 fun c'14=>ZKL c'14 fun v'15 v'16 v'17 v'18 v'19 v'20 v'21=>asInt .i64 v'15 fun x_8=>asInt .i64 v'16 fun x_9=>asInt .i64 v'17 fun x_10=>asInt .i64 v'18 fun x_11=>asInt .i64 v'19 fun x_12=>Zby v'20 fun w_13=>ZaX 2 v'21 fun e_14 f_15=>ZaR s'10 <| k e_1 f_2 x_3 x_4 e_5 f_6 x_7 x_8 x_9 x_10 x_11 x_12 w_13 e_14 f_15
theorem ZpN {R:Type} {E:List V} {s:S} {k:List V → Fl → Int → Int → List V → Fl → Int → Int → Int → Int → Int → Int → ByteArray → List V → Fl → Option R} {r:R} (h:ZuA E s k = some r):∃ e_1 f_2 x_3 x_4 e_5 f_6 x_7 x_8 x_9 x_10 x_11 x_12 w_13 e_14 f_15,E = Zkc e_1 f_2 x_3 e_5 f_6 x_7 x_8 x_9 x_10 x_11 x_12 w_13 e_14 f_15 x_4 ∧ s = [some ⟨[.agg [.list 7 e_5 f_6,.int .i64 x_7]],2,33,0⟩,some ⟨[.agg [.int .i64 x_8,.int .i64 x_9,.int .i64 x_10,.int .i64 x_11,.int .i64 x_12,.str w_13,.list 2 e_14 f_15]],7,49,0⟩] ∧ k e_1 f_2 x_3 x_4 e_5 f_6 x_7 x_8 x_9 x_10 x_11 x_12 w_13 e_14 f_15 = some r:=by
 unfold ZuA at h
 obtain ⟨hg,h1⟩:=Zac h
 obtain ⟨hu2,h2⟩:=Zb0 h1
 obtain ⟨hu3,h3⟩:=Zb0 h2
 obtain ⟨_,_,hu61,h4⟩:=ZaC h3
 obtain ⟨_,hu62,h5⟩:=Zah h4
 obtain ⟨_,hu63,h6⟩:=Zah h5
 obtain ⟨_,_,rfl,h7⟩:=ZaP h6
 obtain ⟨_,_,rfl,h8⟩:=ZaJ h7
 obtain ⟨rfl,h9⟩:=Zap h8
 obtain ⟨_,rfl,h10⟩:=Zat h9
 obtain ⟨_,rfl,h11⟩:=ZaF h10
 obtain ⟨_,_,rfl,h12⟩:=Zas h11
 obtain ⟨_,_,rfl,h13⟩:=Zam h12
 obtain ⟨_,rfl,h14⟩:=Zaf h13
 obtain ⟨_,_,rfl,h15⟩:=ZaP h14
 obtain ⟨_,_,rfl,h16⟩:=ZaJ h15
 obtain ⟨rfl,h17⟩:=Zap h16
 obtain ⟨_,rfl,h18⟩:=Zat h17
 obtain ⟨_,rfl,h19⟩:=ZaF h18
 obtain ⟨_,_,_,_,_,_,_,rfl,h20⟩:=ZeH h19
 obtain ⟨_,rfl,h21⟩:=Zaf h20
 obtain ⟨_,rfl,h22⟩:=Zaf h21
 obtain ⟨_,rfl,h23⟩:=Zaf h22
 obtain ⟨_,rfl,h24⟩:=Zaf h23
 obtain ⟨_,rfl,h25⟩:=Zaf h24
 obtain ⟨_,rfl,h26⟩:=ZaD h25
 obtain ⟨_,_,rfl,h27⟩:=Zam h26
 obtain ⟨rfl,h28⟩:=Zae h27
 exact ⟨_,_,_,_,_,_,_,_,_,_,_,_,_,_,_,ZaU hg rfl (Zab hu2 (Zab hu3 (Zab hu61 (Zab hu62 (Zab hu63 ZaL))))),rfl,h28⟩
def Ztl (N:Nat):Zax:=(Zad).add [0,1,0,0,1,1,1,1,1,0,1,0,1,1,1] fun _ E s K=>ZuA (Zbh Zpg E) s fun e_1 f_2 x_3 x_4 e_5 f_6 x_7 x_8 x_9 x_10 x_11 x_12 w_13 e_14 f_15=>Ze7 N e_1 f_2 x_3 e_5 f_6 x_7 x_8 x_9 x_10 x_11 x_12 w_13 e_14 f_15 (ZhL K e_1 f_2 x_3 e_5 f_6 x_7 x_8 x_9 x_10 x_11 x_12 w_13 e_14 f_15) (Zik K e_1 f_2 x_3 e_5 f_6 x_7 x_8 x_9 x_10 x_11 x_12 w_13 e_14 f_15) N x_4
theorem ZJM {N:Nat} (hC:Ok Tryz.prog C) (hΦ:Zaa Tryz.prog C (Zwf N)):Za7 Tryz.prog C (Ztl N) ZvN [0,1,0,0,1,1,1,1,1,0,1,0,1,1,1] :=
 Za6 (Λi:=Zad) (tr:=true) (ks:=Zpg) (kx:=Zxp) (N:=N) hC hΦ
  (Zai (by kernel_rfl))
  fun R E s K r h=>by
   have h2:=Zax.add_self.symm.trans h
   refine (Zaw rfl).trans ?_
   obtain ⟨_,_,_,_,_,_,_,_,_,_,_,_,_,_,_,he,rfl,h3⟩:=ZpN h2
   rw [he]
   exact (ZFg N _ _ _ _ _ _ _ _ _ _ _ _ _ _ _ N _).trans h3
theorem ZPC:Za0 ZGv [] = [([0,1,0,0,1,1,1,1,1,0,1,0,1,1,1],ZvN)]:=by kernel_rfl
theorem ZQC {R:Type} (N:Nat) (e_1:List V) (f_2:Fl) (x_3 x_4 x_5 x_6 x_7 x_8:Int) (w_9:ByteArray) (e_10:List V) (f_11:Fl) (K:V → S → Option R):Za2 C (Zwf N) (Ztl N) 51 Tryz.f51 [.agg [.list 7 e_1 f_2,.int .i64 x_3],.agg [.int .i64 x_4,.int .i64 x_5,.int .i64 x_6,.int .i64 x_7,.int .i64 x_8,.str w_9,.list 2 e_10 f_11]] [] K =
 ZsF N e_1 f_2 x_3 x_4 x_5 x_6 x_7 x_8 w_9 e_10 f_11 (fun b_12=>K (.bool b_12) []):=by kernel_rfl
theorem ZGq {N:Nat} (hC:Ok Tryz.prog C) (hΦ:Zaa Tryz.prog C (Zwf N)):ZaV Tryz.prog C (Ztl N) ZGv [] :=
 ZaG ZGv [] (by
  rw [ZPC]
  intro p hp
  simp only [List.mem_cons,List.mem_nil_iff,or_false] at hp
  rcases hp with rfl
  ·exact (ZJM hC hΦ))
theorem ZAc (hC:Ok Tryz.prog C) {N:Nat} (hΦ:Zaa Tryz.prog C (Zwf N)):Zaa Tryz.prog C (Zwg N):=by
 refine hΦ.add_pure rfl fun R vs K r h=>?_
 unfold ZOb at h
 obtain ⟨_,_,rfl,h1⟩:=Zas h
 obtain ⟨_,_,_,rfl,h2⟩:=ZaH h1
 obtain ⟨_,_,_,_,_,_,_,_,rfl,h3⟩:=Zb7 h2
 obtain ⟨_,h4⟩:=Zae h3
 refine Zaq (fn:=Tryz.f51) (c:=ZGv) hC hΦ Tryz.func51 (by kernel_rfl) (by kernel_rfl) (ZGq (N:=N) hC hΦ) rfl rfl ?_
 refine (ZQC N _ _ _ _ _ _ _ _ _ _ _ _).trans ?_
 rw [← ZxB]
 exact h4
def ZPD (N:Nat):(R:Type) → List V → S → (V → S → Option R) → Option R:=fun _ vs s K =>
 Zco vs fun v'1=>Za9 v'1 fun e_1 f_2 x_3=>ZaR s <| ZKl N e_1 f_2 x_3 (fun x_4=>K (.int .i64 x_4) [])
def Zpx (N:Nat):Zar:=(Zwg N).add 52 (ZPD N)
def ZDe:Code:=ZaS Tryz.f52
def Ztm:Code:=(Zbn ZDe [] 0).2
def ZnL:List Nat:=ZbR 20 [3,7,8,9]
def Zw8:List Nat:=ZbR 20 [3]
def Zk1 (e_2:List V) (f_3:Fl) (x_4:Int) (e_6:List V) (f_7:Fl) (x_8 x_1 x_5:Int):List V:=mkF 0 20 [(3,.int .i64 x_1),(7,.list 7 e_2 f_3),(8,.int .i64 x_4),(9,.int .i64 x_5)]
def Zir {R:Type} (K:X → List V → S → Option R) (e_2:List V) (f_3:Fl) (x_4:Int) (e_6:List V) (f_7:Fl) (x_8:Int):Int → Option R:=(fun x_1'=>K (.exit 0) (mkF 0 20 [(3,.int .i64 (x_1'))]) [some ⟨[.agg [.list 7 e_6 f_7,.int .i64 x_8]],2,33,0⟩])
abbrev Znh {R:Type} (N:Nat):Nat → List V → S → (X → List V → S → Option R) → Option R:=fun n=>ZcX C (Zwg N) (Zad) Ztm [0,1,0,1,1] true ZnL Zw8 n R
theorem ZLd {R:Type} (N n:Nat) (e_2:List V) (f_3:Fl) (x_4:Int) (e_6:List V) (f_7:Fl) (x_8:Int) (x_1 x_5:Int) (K:X → List V → S → Option R) :
 Znh N (n + 1) (Zk1 e_2 f_3 x_4 e_6 f_7 x_8 x_1 x_5) [some ⟨[.agg [.list 7 e_6 f_7,.int .i64 x_8]],2,33,0⟩] K =
 ZdT N e_2 f_3 x_4 e_6 f_7 x_8 (fun x_1 x_5=>Znh N n (Zk1 e_2 f_3 x_4 e_6 f_7 x_8 x_1 x_5) [some ⟨[.agg [.list 7 e_6 f_7,.int .i64 x_8]],2,33,0⟩] K) x_1 x_5 (Zir K e_2 f_3 x_4 e_6 f_7 x_8):=by kernel_rfl
theorem ZEg {R:Type} (N:Nat) (e_2:List V) (f_3:Fl) (x_4:Int) (e_6:List V) (f_7:Fl) (x_8:Int) (K:X → List V → S → Option R):∀ (n:Nat) (x_1 x_5:Int),
 Znh N n (Zk1 e_2 f_3 x_4 e_6 f_7 x_8 x_1 x_5) [some ⟨[.agg [.list 7 e_6 f_7,.int .i64 x_8]],2,33,0⟩] K = Zha N e_2 f_3 x_4 e_6 f_7 x_8 (Zir K e_2 f_3 x_4 e_6 f_7 x_8) n x_1 x_5
 | 0,_,_=>rfl
 | n + 1,x_1,x_5=>(ZLd N n e_2 f_3 x_4 e_6 f_7 x_8 x_1 x_5 K).trans (congrArg (fun nx=>ZdT N e_2 f_3 x_4 e_6 f_7 x_8 nx x_1 x_5 (Zir K e_2 f_3 x_4 e_6 f_7 x_8)) (funext fun x_1=>funext fun x_5=>ZEg N e_2 f_3 x_4 e_6 f_7 x_8 K n x_1 x_5))
def ZwG {R:Type} (E:List V) (s:S) (k:Int → List V → Fl → Int → Int → List V → Fl → Int → Option R):Option R :=
 Zaj (Za3 20 [3,7,8,9] E) <| ZaZ E 3 .i64 fun x_1=>Zbu E 7 7 fun e_2 f_3=>ZaZ E 8 .i64 fun x_4=>ZaZ E 9 .i64 fun x_5=>ZdW s fun o'1 s'2=>ZcW o'1 2 33 fun e'3 k'4=>isN k'4 0 <| Zco e'3 fun v'5=>asAgg v'5 fun c'6=>Zcf c'6 fun v'7 v'8=>ZaX 7 v'7 fun e_6 f_7=>asInt .i64 v'8 fun x_8=>ZaR s'2 <| k x_1 e_2 f_3 x_4 x_5 e_6 f_7 x_8
theorem Zqz {R:Type} {E:List V} {s:S} {k:Int → List V → Fl → Int → Int → List V → Fl → Int → Option R} {r:R} (h:ZwG E s k = some r):∃ x_1 e_2 f_3 x_4 x_5 e_6 f_7 x_8,E = Zk1 e_2 f_3 x_4 e_6 f_7 x_8 x_1 x_5 ∧ s = [some ⟨[.agg [.list 7 e_6 f_7,.int .i64 x_8]],2,33,0⟩] ∧ k x_1 e_2 f_3 x_4 x_5 e_6 f_7 x_8 = some r:=by
 unfold ZwG at h
 obtain ⟨hg,h1⟩:=Zac h
 obtain ⟨_,hu3,h2⟩:=Zah h1
 obtain ⟨_,_,hu7,h3⟩:=ZaC h2
 obtain ⟨_,hu8,h4⟩:=Zah h3
 obtain ⟨_,hu9,h5⟩:=Zah h4
 obtain ⟨_,_,rfl,h6⟩:=ZaP h5
 obtain ⟨_,_,rfl,h7⟩:=ZaJ h6
 obtain ⟨rfl,h8⟩:=Zap h7
 obtain ⟨_,rfl,h9⟩:=Zat h8
 obtain ⟨_,rfl,h10⟩:=ZaF h9
 obtain ⟨_,_,rfl,h11⟩:=Zas h10
 obtain ⟨_,_,rfl,h12⟩:=Zam h11
 obtain ⟨_,rfl,h13⟩:=Zaf h12
 obtain ⟨rfl,h14⟩:=Zae h13
 exact ⟨_,_,_,_,_,_,_,_,ZaU hg rfl (Zab hu3 (Zab hu7 (Zab hu8 (Zab hu9 ZaL)))),rfl,h14⟩
def ZuW (N:Nat):Zax:=(Zad).add [0,1,0,1,1] fun _ E s K=>ZwG (Zbh ZnL E) s fun x_1 e_2 f_3 x_4 x_5 e_6 f_7 x_8=>Zha N e_2 f_3 x_4 e_6 f_7 x_8 (Zir K e_2 f_3 x_4 e_6 f_7 x_8) N x_1 x_5
theorem ZJh {N:Nat} (hC:Ok Tryz.prog C) (hΦ:Zaa Tryz.prog C (Zwg N)):Za7 Tryz.prog C (ZuW N) Ztm [0,1,0,1,1] :=
 Za6 (Λi:=Zad) (tr:=true) (ks:=ZnL) (kx:=Zw8) (N:=N) hC hΦ
  (Zai (by kernel_rfl))
  fun R E s K r h=>by
   have h2:=Zax.add_self.symm.trans h
   refine (Zaw rfl).trans ?_
   obtain ⟨_,_,_,_,_,_,_,_,he,rfl,h3⟩:=Zqz h2
   rw [he]
   exact (ZEg N _ _ _ _ _ _ _ N _ _).trans h3
theorem ZND:Za0 ZDe [] = [([0,1,0,1,1],Ztm)]:=by kernel_rfl
theorem ZQB {R:Type} (N:Nat) (e_1:List V) (f_2:Fl) (x_3:Int) (K:V → S → Option R):Za2 C (Zwg N) (ZuW N) 52 Tryz.f52 [.agg [.list 7 e_1 f_2,.int .i64 x_3]] [] K =
 Zp7 N e_1 f_2 x_3 (fun x_4=>K (.int .i64 x_4) []):=by kernel_rfl
theorem ZEF {N:Nat} (hC:Ok Tryz.prog C) (hΦ:Zaa Tryz.prog C (Zwg N)):ZaV Tryz.prog C (ZuW N) ZDe [] :=
 ZaG ZDe [] (by
  rw [ZND]
  intro p hp
  simp only [List.mem_cons,List.mem_nil_iff,or_false] at hp
  rcases hp with rfl
  ·exact (ZJh hC hΦ))
theorem ZCj (hC:Ok Tryz.prog C) {N:Nat} (hΦ:Zaa Tryz.prog C (Zwg N)):Zaa Tryz.prog C (Zpx N):=by
 refine hΦ.add_pure rfl fun R vs K r h=>?_
 unfold ZPD at h
 obtain ⟨_,rfl,h1⟩:=Zat h
 obtain ⟨_,_,_,rfl,h2⟩:=ZaH h1
 obtain ⟨_,h3⟩:=Zae h2
 refine Zaq (fn:=Tryz.f52) (c:=ZDe) hC hΦ Tryz.func52 (by kernel_rfl) (by kernel_rfl) (ZEF (N:=N) hC hΦ) rfl rfl ?_
 refine (ZQB N _ _ _ _).trans ?_
 rw [← ZyX]
 exact h3
def ZPv (N:Nat):(R:Type) → List V → S → (V → S → Option R) → Option R:=fun _ vs s K =>
 Zco vs fun v'1=>Za9 v'1 fun e_1 f_2 x_3=>ZaR s <| ZHE N e_1 f_2 x_3 (fun e_4=>K (.list 1 e_4 .sh) [])
def ZgT (N:Nat):Zar:=(Zpx N).add 53 (ZPv N)
def ZEm:Code:=ZaS Tryz.f53
def ZjH:Code:=(Zbn ZEm [] 0).2
def ZvS:Code:=(Zbn ZjH (0 :: [0,1,0,1,1]) 0).2
def ZnS:List Nat:=ZbR 36 [3,13,14,15,20,21,22]
def Zze:List Nat:=ZbR 36 [3,13,14,15]
def ZkW (k_1:Nat) (e_2:List V) (f_3:Fl) (x_4 x_5:Int) (e_6:List V) (f_7:Fl) (x_8:Int) (e_10:List V) (f_11:Fl) (x_12 x_14 x_15 x_16 x_17 x_18:Int) (w_19:ByteArray) (e_20:List V) (f_21:Fl) (x_9:Int) (e_13:List V):List V:=mkF 0 36 [(3,.arr 1 0 0 k_1),(13,.list 7 e_2 f_3),(14,.int .i64 x_4),(15,.int .i64 x_5),(20,.list 2 e_6 f_7),(21,.int .i64 x_8),(22,.int .i64 x_9)]
def ZiU {R:Type} (K:X → List V → S → Option R) (k_1:Nat) (e_2:List V) (f_3:Fl) (x_4:Int) (x_5:Int) (e_6:List V) (f_7:Fl) (x_8:Int) (e_10:List V) (f_11:Fl) (x_12:Int) (x_14:Int) (x_15:Int) (x_16:Int) (x_17:Int) (x_18:Int) (w_19:ByteArray) (e_20:List V) (f_21:Fl):List V → Option R:=(fun e_1'=>K (.exit 2) (mkF 0 36 [(3,.arr 1 0 0 k_1),(13,.list 7 e_2 f_3),(14,.int .i64 x_4),(15,.int .i64 x_5)]) [some ⟨[.agg [.list 7 e_10 f_11,.int .i64 x_12]],2,33,0⟩,some ⟨e_1',1,3,0⟩,some ⟨[.agg [.int .i64 x_14,.int .i64 x_15,.int .i64 x_16,.int .i64 x_17,.int .i64 x_18,.str w_19,.list 2 e_20 f_21]],7,49,0⟩])
abbrev Zo2 {R:Type} (N:Nat):Nat → List V → S → (X → List V → S → Option R) → Option R:=fun n=>ZcX C (Zpx N) (Zad) ZvS [0,1,1,0,0,1,1,0,0,1,0,1,1] true ZnS Zze n R
theorem ZLE {R:Type} (N n:Nat) (k_1:Nat) (e_2:List V) (f_3:Fl) (x_4 x_5:Int) (e_6:List V) (f_7:Fl) (x_8:Int) (e_10:List V) (f_11:Fl) (x_12 x_14 x_15 x_16 x_17 x_18:Int) (w_19:ByteArray) (e_20:List V) (f_21:Fl) (x_9:Int) (e_13:List V) (K:X → List V → S → Option R) :
 Zo2 N (n + 1) (ZkW k_1 e_2 f_3 x_4 x_5 e_6 f_7 x_8 e_10 f_11 x_12 x_14 x_15 x_16 x_17 x_18 w_19 e_20 f_21 x_9 e_13) [some ⟨[.agg [.list 7 e_10 f_11,.int .i64 x_12]],2,33,0⟩,some ⟨e_13,1,3,0⟩,some ⟨[.agg [.int .i64 x_14,.int .i64 x_15,.int .i64 x_16,.int .i64 x_17,.int .i64 x_18,.str w_19,.list 2 e_20 f_21]],7,49,0⟩] K =
 Zdp N k_1 e_2 f_3 x_4 x_5 e_6 f_7 x_8 e_10 f_11 x_12 x_14 x_15 x_16 x_17 x_18 w_19 e_20 f_21 (fun x_9 e_13=>Zo2 N n (ZkW k_1 e_2 f_3 x_4 x_5 e_6 f_7 x_8 e_10 f_11 x_12 x_14 x_15 x_16 x_17 x_18 w_19 e_20 f_21 x_9 e_13) [some ⟨[.agg [.list 7 e_10 f_11,.int .i64 x_12]],2,33,0⟩,some ⟨e_13,1,3,0⟩,some ⟨[.agg [.int .i64 x_14,.int .i64 x_15,.int .i64 x_16,.int .i64 x_17,.int .i64 x_18,.str w_19,.list 2 e_20 f_21]],7,49,0⟩] K) x_9 e_13 (ZiU K k_1 e_2 f_3 x_4 x_5 e_6 f_7 x_8 e_10 f_11 x_12 x_14 x_15 x_16 x_17 x_18 w_19 e_20 f_21):=by kernel_rfl
theorem ZCR {R:Type} (N:Nat) (k_1:Nat) (e_2:List V) (f_3:Fl) (x_4 x_5:Int) (e_6:List V) (f_7:Fl) (x_8:Int) (e_10:List V) (f_11:Fl) (x_12 x_14 x_15 x_16 x_17 x_18:Int) (w_19:ByteArray) (e_20:List V) (f_21:Fl) (K:X → List V → S → Option R):∀ (n:Nat) (x_9:Int) (e_13:List V),
 Zo2 N n (ZkW k_1 e_2 f_3 x_4 x_5 e_6 f_7 x_8 e_10 f_11 x_12 x_14 x_15 x_16 x_17 x_18 w_19 e_20 f_21 x_9 e_13) [some ⟨[.agg [.list 7 e_10 f_11,.int .i64 x_12]],2,33,0⟩,some ⟨e_13,1,3,0⟩,some ⟨[.agg [.int .i64 x_14,.int .i64 x_15,.int .i64 x_16,.int .i64 x_17,.int .i64 x_18,.str w_19,.list 2 e_20 f_21]],7,49,0⟩] K = Zfu N k_1 e_2 f_3 x_4 x_5 e_6 f_7 x_8 e_10 f_11 x_12 x_14 x_15 x_16 x_17 x_18 w_19 e_20 f_21 (ZiU K k_1 e_2 f_3 x_4 x_5 e_6 f_7 x_8 e_10 f_11 x_12 x_14 x_15 x_16 x_17 x_18 w_19 e_20 f_21) n x_9 e_13
 | 0,_,_=>rfl
 | n + 1,x_9,e_13=>(ZLE N n k_1 e_2 f_3 x_4 x_5 e_6 f_7 x_8 e_10 f_11 x_12 x_14 x_15 x_16 x_17 x_18 w_19 e_20 f_21 x_9 e_13 K).trans (congrArg (fun nx=>Zdp N k_1 e_2 f_3 x_4 x_5 e_6 f_7 x_8 e_10 f_11 x_12 x_14 x_15 x_16 x_17 x_18 w_19 e_20 f_21 nx x_9 e_13 (ZiU K k_1 e_2 f_3 x_4 x_5 e_6 f_7 x_8 e_10 f_11 x_12 x_14 x_15 x_16 x_17 x_18 w_19 e_20 f_21)) (funext fun x_9=>funext fun e_13=>ZCR N k_1 e_2 f_3 x_4 x_5 e_6 f_7 x_8 e_10 f_11 x_12 x_14 x_15 x_16 x_17 x_18 w_19 e_20 f_21 K n x_9 e_13))
def Zuf {R:Type} (E:List V) (s:S) (k:Nat → List V → Fl → Int → Int → List V → Fl → Int → Int → List V → Fl → Int → List V → Int → Int → Int → Int → Int → ByteArray → List V → Fl → Option R):Option R :=
 Zaj (Za3 36 [3,13,14,15,20,21,22] E) <| Zbt (nth E 3) fun u3=>ZeC u3 fun k'1 k'2 k'3 k_1=>isN k'1 1 <| isN k'2 0 <| isN k'3 0 <| Zbu E 13 7 fun e_2 f_3=>ZaZ E 14 .i64 fun x_4=>ZaZ E 15 .i64 fun x_5=>Zbu E 20 2 fun e_6 f_7=>ZaZ E 21 .i64 fun x_8=>ZaZ E 22 .i64 fun x_9=>ZdW s fun o'4 s'5=>ZcW o'4 2 33 fun e'6 k'7=>isN k'7 0 <| Zco e'6 fun v'8=>asAgg v'8 fun c'9=>Zcf c'9 fun v'10 v'11=>ZaX 7 v'10 fun e_10 f_11=>asInt .i64 v'11 fun x_12=>ZdW s'5 fun o'12 s'13=>ZcW o'12 1 3 fun e_13 k'14=>isN k'14 0 <| ZdW s'13 fun o'15 s'16=>ZcW o'15 7 49 fun e'17 k'18=>isN k'18 0 <| Zco e'17 fun v'19=>asAgg v'19 fun c'20=>ZKL c'20 fun v'21 v'22 v'23 v'24 v'25 v'26 v'27=>asInt .i64 v'21 fun x_14=>asInt .i64 v'22 fun x_15=>asInt .i64 v'23 fun x_16=>asInt .i64 v'24 fun x_17=>asInt .i64 v'25 fun x_18=>Zby v'26 fun w_19=>ZaX 2 v'27 fun e_20 f_21=>ZaR s'16 <| k k_1 e_2 f_3 x_4 x_5 e_6 f_7 x_8 x_9 e_10 f_11 x_12 e_13 x_14 x_15 x_16 x_17 x_18 w_19 e_20 f_21
theorem Ztf {R:Type} {E:List V} {s:S} {k:Nat → List V → Fl → Int → Int → List V → Fl → Int → Int → List V → Fl → Int → List V → Int → Int → Int → Int → Int → ByteArray → List V → Fl → Option R} {r:R} (h:Zuf E s k = some r):∃ k_1 e_2 f_3 x_4 x_5 e_6 f_7 x_8 x_9 e_10 f_11 x_12 e_13 x_14 x_15 x_16 x_17 x_18 w_19 e_20 f_21,E = ZkW k_1 e_2 f_3 x_4 x_5 e_6 f_7 x_8 e_10 f_11 x_12 x_14 x_15 x_16 x_17 x_18 w_19 e_20 f_21 x_9 e_13 ∧ s = [some ⟨[.agg [.list 7 e_10 f_11,.int .i64 x_12]],2,33,0⟩,some ⟨e_13,1,3,0⟩,some ⟨[.agg [.int .i64 x_14,.int .i64 x_15,.int .i64 x_16,.int .i64 x_17,.int .i64 x_18,.str w_19,.list 2 e_20 f_21]],7,49,0⟩] ∧ k k_1 e_2 f_3 x_4 x_5 e_6 f_7 x_8 x_9 e_10 f_11 x_12 e_13 x_14 x_15 x_16 x_17 x_18 w_19 e_20 f_21 = some r:=by
 unfold Zuf at h
 obtain ⟨hg,h1⟩:=Zac h
 obtain ⟨_,hu3,h2⟩:=Zag h1
 obtain ⟨_,_,_,_,rfl,h3⟩:=Zbz h2
 obtain ⟨rfl,h4⟩:=Zap h3
 obtain ⟨rfl,h5⟩:=Zap h4
 obtain ⟨rfl,h6⟩:=Zap h5
 obtain ⟨_,_,hu13,h7⟩:=ZaC h6
 obtain ⟨_,hu14,h8⟩:=Zah h7
 obtain ⟨_,hu15,h9⟩:=Zah h8
 obtain ⟨_,_,hu20,h10⟩:=ZaC h9
 obtain ⟨_,hu21,h11⟩:=Zah h10
 obtain ⟨_,hu22,h12⟩:=Zah h11
 obtain ⟨_,_,rfl,h13⟩:=ZaP h12
 obtain ⟨_,_,rfl,h14⟩:=ZaJ h13
 obtain ⟨rfl,h15⟩:=Zap h14
 obtain ⟨_,rfl,h16⟩:=Zat h15
 obtain ⟨_,rfl,h17⟩:=ZaF h16
 obtain ⟨_,_,rfl,h18⟩:=Zas h17
 obtain ⟨_,_,rfl,h19⟩:=Zam h18
 obtain ⟨_,rfl,h20⟩:=Zaf h19
 obtain ⟨_,_,rfl,h21⟩:=ZaP h20
 obtain ⟨_,_,rfl,h22⟩:=ZaJ h21
 obtain ⟨rfl,h23⟩:=Zap h22
 obtain ⟨_,_,rfl,h24⟩:=ZaP h23
 obtain ⟨_,_,rfl,h25⟩:=ZaJ h24
 obtain ⟨rfl,h26⟩:=Zap h25
 obtain ⟨_,rfl,h27⟩:=Zat h26
 obtain ⟨_,rfl,h28⟩:=ZaF h27
 obtain ⟨_,_,_,_,_,_,_,rfl,h29⟩:=ZeH h28
 obtain ⟨_,rfl,h30⟩:=Zaf h29
 obtain ⟨_,rfl,h31⟩:=Zaf h30
 obtain ⟨_,rfl,h32⟩:=Zaf h31
 obtain ⟨_,rfl,h33⟩:=Zaf h32
 obtain ⟨_,rfl,h34⟩:=Zaf h33
 obtain ⟨_,rfl,h35⟩:=ZaD h34
 obtain ⟨_,_,rfl,h36⟩:=Zam h35
 obtain ⟨rfl,h37⟩:=Zae h36
 exact ⟨_,_,_,_,_,_,_,_,_,_,_,_,_,_,_,_,_,_,_,_,_,ZaU hg rfl (Zab hu3 (Zab hu13 (Zab hu14 (Zab hu15 (Zab hu20 (Zab hu21 (Zab hu22 ZaL))))))),rfl,h37⟩
def Znm (N:Nat):Zax:=(Zad).add [0,1,1,0,0,1,1,0,0,1,0,1,1] fun _ E s K=>Zuf (Zbh ZnS E) s fun k_1 e_2 f_3 x_4 x_5 e_6 f_7 x_8 x_9 e_10 f_11 x_12 e_13 x_14 x_15 x_16 x_17 x_18 w_19 e_20 f_21=>Zfu N k_1 e_2 f_3 x_4 x_5 e_6 f_7 x_8 e_10 f_11 x_12 x_14 x_15 x_16 x_17 x_18 w_19 e_20 f_21 (ZiU K k_1 e_2 f_3 x_4 x_5 e_6 f_7 x_8 e_10 f_11 x_12 x_14 x_15 x_16 x_17 x_18 w_19 e_20 f_21) N x_9 e_13
theorem ZKp {N:Nat} (hC:Ok Tryz.prog C) (hΦ:Zaa Tryz.prog C (Zpx N)):Za7 Tryz.prog C (Znm N) ZvS [0,1,1,0,0,1,1,0,0,1,0,1,1] :=
 Za6 (Λi:=Zad) (tr:=true) (ks:=ZnS) (kx:=Zze) (N:=N) hC hΦ
  (Zai (by kernel_rfl))
  fun R E s K r h=>by
   have h2:=Zax.add_self.symm.trans h
   refine (Zaw rfl).trans ?_
   obtain ⟨_,_,_,_,_,_,_,_,_,_,_,_,_,_,_,_,_,_,_,_,_,he,rfl,h3⟩:=Ztf h2
   rw [he]
   exact (ZCR N _ _ _ _ _ _ _ _ _ _ _ _ _ _ _ _ _ _ _ _ N _ _).trans h3
def Zm9:List Nat:=ZbR 36 [3,13,14,15]
def ZwY:List Nat:=ZbR 36 [3]
def Zk4 (k_1:Nat) (e_2:List V) (f_3:Fl) (x_4:Int) (e_6:List V) (f_7:Fl) (x_8 x_5:Int) (e_9:List V):List V:=mkF 0 36 [(3,.arr 1 0 0 k_1),(13,.list 7 e_2 f_3),(14,.int .i64 x_4),(15,.int .i64 x_5)]
def Zii {R:Type} (K:X → List V → S → Option R) (k_1:Nat) (e_2:List V) (f_3:Fl) (x_4:Int) (e_6:List V) (f_7:Fl) (x_8:Int):List V → Option R:=(fun e_1'=>K (.exit 0) (mkF 0 36 [(3,.arr 1 0 0 k_1)]) [some ⟨[.agg [.list 7 e_6 f_7,.int .i64 x_8]],2,33,0⟩,some ⟨e_1',1,3,0⟩])
abbrev Zof {R:Type} (N:Nat):Nat → List V → S → (X → List V → S → Option R) → Option R:=fun n=>ZcX C (Zpx N) (Znm N) ZjH [0,1,0,1,1] true Zm9 ZwY n R
theorem ZLh {R:Type} (N n:Nat) (k_1:Nat) (e_2:List V) (f_3:Fl) (x_4:Int) (e_6:List V) (f_7:Fl) (x_8:Int) (x_5:Int) (e_9:List V) (K:X → List V → S → Option R) :
 Zof N (n + 1) (Zk4 k_1 e_2 f_3 x_4 e_6 f_7 x_8 x_5 e_9) [some ⟨[.agg [.list 7 e_6 f_7,.int .i64 x_8]],2,33,0⟩,some ⟨e_9,1,3,0⟩] K =
 ZdO N k_1 e_2 f_3 x_4 e_6 f_7 x_8 (fun x_5 e_9=>Zof N n (Zk4 k_1 e_2 f_3 x_4 e_6 f_7 x_8 x_5 e_9) [some ⟨[.agg [.list 7 e_6 f_7,.int .i64 x_8]],2,33,0⟩,some ⟨e_9,1,3,0⟩] K) x_5 e_9 (Zii K k_1 e_2 f_3 x_4 e_6 f_7 x_8):=by kernel_rfl
theorem ZFF {R:Type} (N:Nat) (k_1:Nat) (e_2:List V) (f_3:Fl) (x_4:Int) (e_6:List V) (f_7:Fl) (x_8:Int) (K:X → List V → S → Option R):∀ (n:Nat) (x_5:Int) (e_9:List V),
 Zof N n (Zk4 k_1 e_2 f_3 x_4 e_6 f_7 x_8 x_5 e_9) [some ⟨[.agg [.list 7 e_6 f_7,.int .i64 x_8]],2,33,0⟩,some ⟨e_9,1,3,0⟩] K = ZgV N k_1 e_2 f_3 x_4 e_6 f_7 x_8 (Zii K k_1 e_2 f_3 x_4 e_6 f_7 x_8) n x_5 e_9
 | 0,_,_=>rfl
 | n + 1,x_5,e_9=>(ZLh N n k_1 e_2 f_3 x_4 e_6 f_7 x_8 x_5 e_9 K).trans (congrArg (fun nx=>ZdO N k_1 e_2 f_3 x_4 e_6 f_7 x_8 nx x_5 e_9 (Zii K k_1 e_2 f_3 x_4 e_6 f_7 x_8)) (funext fun x_5=>funext fun e_9=>ZFF N k_1 e_2 f_3 x_4 e_6 f_7 x_8 K n x_5 e_9))
def Ztx {R:Type} (E:List V) (s:S) (k:Nat → List V → Fl → Int → Int → List V → Fl → Int → List V → Option R):Option R :=
 Zaj (Za3 36 [3,13,14,15] E) <| Zbt (nth E 3) fun u3=>ZeC u3 fun k'1 k'2 k'3 k_1=>isN k'1 1 <| isN k'2 0 <| isN k'3 0 <| Zbu E 13 7 fun e_2 f_3=>ZaZ E 14 .i64 fun x_4=>ZaZ E 15 .i64 fun x_5=>ZdW s fun o'4 s'5=>ZcW o'4 2 33 fun e'6 k'7=>isN k'7 0 <| Zco e'6 fun v'8=>asAgg v'8 fun c'9=>Zcf c'9 fun v'10 v'11=>ZaX 7 v'10 fun e_6 f_7=>asInt .i64 v'11 fun x_8=>ZdW s'5 fun o'12 s'13=>ZcW o'12 1 3 fun e_9 k'14=>isN k'14 0 <| ZaR s'13 <| k k_1 e_2 f_3 x_4 x_5 e_6 f_7 x_8 e_9
theorem ZsX {R:Type} {E:List V} {s:S} {k:Nat → List V → Fl → Int → Int → List V → Fl → Int → List V → Option R} {r:R} (h:Ztx E s k = some r):∃ k_1 e_2 f_3 x_4 x_5 e_6 f_7 x_8 e_9,E = Zk4 k_1 e_2 f_3 x_4 e_6 f_7 x_8 x_5 e_9 ∧ s = [some ⟨[.agg [.list 7 e_6 f_7,.int .i64 x_8]],2,33,0⟩,some ⟨e_9,1,3,0⟩] ∧ k k_1 e_2 f_3 x_4 x_5 e_6 f_7 x_8 e_9 = some r:=by
 unfold Ztx at h
 obtain ⟨hg,h1⟩:=Zac h
 obtain ⟨_,hu3,h2⟩:=Zag h1
 obtain ⟨_,_,_,_,rfl,h3⟩:=Zbz h2
 obtain ⟨rfl,h4⟩:=Zap h3
 obtain ⟨rfl,h5⟩:=Zap h4
 obtain ⟨rfl,h6⟩:=Zap h5
 obtain ⟨_,_,hu13,h7⟩:=ZaC h6
 obtain ⟨_,hu14,h8⟩:=Zah h7
 obtain ⟨_,hu15,h9⟩:=Zah h8
 obtain ⟨_,_,rfl,h10⟩:=ZaP h9
 obtain ⟨_,_,rfl,h11⟩:=ZaJ h10
 obtain ⟨rfl,h12⟩:=Zap h11
 obtain ⟨_,rfl,h13⟩:=Zat h12
 obtain ⟨_,rfl,h14⟩:=ZaF h13
 obtain ⟨_,_,rfl,h15⟩:=Zas h14
 obtain ⟨_,_,rfl,h16⟩:=Zam h15
 obtain ⟨_,rfl,h17⟩:=Zaf h16
 obtain ⟨_,_,rfl,h18⟩:=ZaP h17
 obtain ⟨_,_,rfl,h19⟩:=ZaJ h18
 obtain ⟨rfl,h20⟩:=Zap h19
 obtain ⟨rfl,h21⟩:=Zae h20
 exact ⟨_,_,_,_,_,_,_,_,_,ZaU hg rfl (Zab hu3 (Zab hu13 (Zab hu14 (Zab hu15 ZaL)))),rfl,h21⟩
def Zuh (N:Nat):Zax:=(Znm N).add [0,1,0,1,1] fun _ E s K=>Ztx (Zbh Zm9 E) s fun k_1 e_2 f_3 x_4 x_5 e_6 f_7 x_8 e_9=>ZgV N k_1 e_2 f_3 x_4 e_6 f_7 x_8 (Zii K k_1 e_2 f_3 x_4 e_6 f_7 x_8) N x_5 e_9
theorem ZHt:Za0 ZjH (0 :: [0,1,0,1,1]) = [([0,1,1,0,0,1,1,0,0,1,0,1,1],ZvS)]:=by kernel_rfl
theorem ZH5 {N:Nat} (hC:Ok Tryz.prog C) (hΦ:Zaa Tryz.prog C (Zpx N)):Za7 Tryz.prog C (Zuh N) ZjH [0,1,0,1,1] :=
 Za6 (Λi:=Znm N) (tr:=true) (ks:=Zm9) (kx:=ZwY) (N:=N) hC hΦ
  (ZaG ZjH _ (by
   rw [ZHt]
   intro p hp
   simp only [List.mem_cons,List.mem_nil_iff,or_false] at hp
   rcases hp with rfl
   ·exact (ZKp hC hΦ)))
  fun R E s K r h=>by
   have h2:=Zax.add_self.symm.trans h
   refine (Zaw rfl).trans ?_
   obtain ⟨_,_,_,_,_,_,_,_,_,he,rfl,h3⟩:=ZsX h2
   rw [he]
   exact (ZFF N _ _ _ _ _ _ _ _ N _ _).trans h3
theorem ZNE:Za0 ZEm [] = [([0,1,0,1,1],ZjH)]:=by kernel_rfl
theorem ZQU {R:Type} (N:Nat) (e_1:List V) (f_2:Fl) (x_3:Int) (K:V → S → Option R):Za2 C (Zpx N) (Zuh N) 53 Tryz.f53 [.agg [.list 7 e_1 f_2,.int .i64 x_3]] [] K =
 Zqo N e_1 f_2 x_3 (fun e_4=>K (.list 1 e_4 .sh) []):=by kernel_rfl
theorem ZCE {N:Nat} (hC:Ok Tryz.prog C) (hΦ:Zaa Tryz.prog C (Zpx N)):ZaV Tryz.prog C (Zuh N) ZEm [] :=
 ZaG ZEm [] (by
  rw [ZNE]
  intro p hp
  simp only [List.mem_cons,List.mem_nil_iff,or_false] at hp
  rcases hp with rfl
  ·exact (ZH5 hC hΦ))
theorem ZBy (hC:Ok Tryz.prog C) {N:Nat} (hΦ:Zaa Tryz.prog C (Zpx N)):Zaa Tryz.prog C (ZgT N):=by
 refine hΦ.add_pure rfl fun R vs K r h=>?_
 unfold ZPv at h
 obtain ⟨_,rfl,h1⟩:=Zat h
 obtain ⟨_,_,_,rfl,h2⟩:=ZaH h1
 obtain ⟨_,h3⟩:=Zae h2
 refine Zaq (fn:=Tryz.f53) (c:=ZEm) hC hΦ Tryz.func53 (by kernel_rfl) (by kernel_rfl) (ZCE (N:=N) hC hΦ) rfl rfl ?_
 refine (ZQU N _ _ _ _).trans ?_
 rw [← Zzq]
 exact h3
def ZPh (N:Nat):(R:Type) → List V → S → (V → S → Option R) → Option R:=fun _ vs s K =>
 Zco vs fun v'1=>Za9 v'1 fun e_1 f_2 x_3=>ZaR s <| ZJ1 N e_1 f_2 x_3 (fun b_4=>K (.bool b_4) [])
def ZKj (N:Nat):Zar:=(ZgT N).add 31 (ZPh N)
def Zta:Code:=ZaS Tryz.f31
def ZwM:Code:=(Zbn Zta [] 0).2
def ZuJ:Code:=(Zbn Zta [] 1).2
def ZjB:Code:=(Zbn Zta [] 2).2
def Zuj:Code:=(Zbn Zta [] 3).2
def ZvU:Code:=(Zbn ZjB (0 :: [0,1,0,1,1,1,1,1,1,1,1]) 0).2
def ZoB:List Nat:=ZbR 156 [1,36,37,38]
def Zyo:List Nat:=ZbR 156 [1,2]
def Zj4 (e_1:List V) (f_2:Fl) (x_3:Int) (e_5:List V) (f_6:Fl) (x_7 x_4:Int):List V:=mkF 0 156 [(1,.ptr 0 0 0 0),(36,.list 7 e_1 f_2),(37,.int .i64 x_3),(38,.int .i64 x_4)]
def ZhV {R:Type} (K:X → List V → S → Option R) (e_1:List V) (f_2:Fl) (x_3:Int) (e_5:List V) (f_6:Fl) (x_7:Int):Unit → Option R:=(fun _=>K .ret (mkF 0 156 [(1,.ptr 0 0 0 0),(2,.bool false)]) [some ⟨[.agg [.list 7 e_5 f_6,.int .i64 x_7]],2,33,0⟩])
def ZiG {R:Type} (K:X → List V → S → Option R) (e_1:List V) (f_2:Fl) (x_3:Int) (e_5:List V) (f_6:Fl) (x_7:Int):Unit → Option R:=(fun _=>K (.exit 0) (mkF 0 156 [(1,.ptr 0 0 0 0)]) [some ⟨[.agg [.list 7 e_5 f_6,.int .i64 x_7]],2,33,0⟩])
abbrev Zpe {R:Type} (N:Nat):Nat → List V → S → (X → List V → S → Option R) → Option R:=fun n=>ZcX C (ZgT N) (Zad) ZwM [0,1,0,1,1] true ZoB Zyo n R
theorem ZLI {R:Type} (N n:Nat) (e_1:List V) (f_2:Fl) (x_3:Int) (e_5:List V) (f_6:Fl) (x_7:Int) (x_4:Int) (K:X → List V → S → Option R) :
 Zpe N (n + 1) (Zj4 e_1 f_2 x_3 e_5 f_6 x_7 x_4) [some ⟨[.agg [.list 7 e_5 f_6,.int .i64 x_7]],2,33,0⟩] K =
 ZdR N e_1 f_2 x_3 e_5 f_6 x_7 (fun x_4=>Zpe N n (Zj4 e_1 f_2 x_3 e_5 f_6 x_7 x_4) [some ⟨[.agg [.list 7 e_5 f_6,.int .i64 x_7]],2,33,0⟩] K) x_4 (ZhV K e_1 f_2 x_3 e_5 f_6 x_7) (ZiG K e_1 f_2 x_3 e_5 f_6 x_7):=by kernel_rfl
theorem ZF9 {R:Type} (N:Nat) (e_1:List V) (f_2:Fl) (x_3:Int) (e_5:List V) (f_6:Fl) (x_7:Int) (K:X → List V → S → Option R):∀ (n:Nat) (x_4:Int),
 Zpe N n (Zj4 e_1 f_2 x_3 e_5 f_6 x_7 x_4) [some ⟨[.agg [.list 7 e_5 f_6,.int .i64 x_7]],2,33,0⟩] K = Zg6 N e_1 f_2 x_3 e_5 f_6 x_7 (ZhV K e_1 f_2 x_3 e_5 f_6 x_7) (ZiG K e_1 f_2 x_3 e_5 f_6 x_7) n x_4
 | 0,_=>rfl
 | n + 1,x_4=>(ZLI N n e_1 f_2 x_3 e_5 f_6 x_7 x_4 K).trans (congrArg (fun nx=>ZdR N e_1 f_2 x_3 e_5 f_6 x_7 nx x_4 (ZhV K e_1 f_2 x_3 e_5 f_6 x_7) (ZiG K e_1 f_2 x_3 e_5 f_6 x_7)) (funext fun x_4=>ZF9 N e_1 f_2 x_3 e_5 f_6 x_7 K n x_4))
def ZvX {R:Type} (E:List V) (s:S) (k:List V → Fl → Int → Int → List V → Fl → Int → Option R):Option R :=
 Zaj (Za3 156 [1,36,37,38] E) <| ZvY E 1 (.ptr 0 0 0 0) <| Zbu E 36 7 fun e_1 f_2=>ZaZ E 37 .i64 fun x_3=>ZaZ E 38 .i64 fun x_4=>ZdW s fun o'1 s'2=>ZcW o'1 2 33 fun e'3 k'4=>isN k'4 0 <| Zco e'3 fun v'5=>asAgg v'5 fun c'6=>Zcf c'6 fun v'7 v'8=>ZaX 7 v'7 fun e_5 f_6=>asInt .i64 v'8 fun x_7=>ZaR s'2 <| k e_1 f_2 x_3 x_4 e_5 f_6 x_7
theorem ZpW {R:Type} {E:List V} {s:S} {k:List V → Fl → Int → Int → List V → Fl → Int → Option R} {r:R} (h:ZvX E s k = some r):∃ e_1 f_2 x_3 x_4 e_5 f_6 x_7,E = Zj4 e_1 f_2 x_3 e_5 f_6 x_7 x_4 ∧ s = [some ⟨[.agg [.list 7 e_5 f_6,.int .i64 x_7]],2,33,0⟩] ∧ k e_1 f_2 x_3 x_4 e_5 f_6 x_7 = some r:=by
 unfold ZvX at h
 obtain ⟨hg,h1⟩:=Zac h
 obtain ⟨hu1,h2⟩:=Zb0 h1
 obtain ⟨_,_,hu36,h3⟩:=ZaC h2
 obtain ⟨_,hu37,h4⟩:=Zah h3
 obtain ⟨_,hu38,h5⟩:=Zah h4
 obtain ⟨_,_,rfl,h6⟩:=ZaP h5
 obtain ⟨_,_,rfl,h7⟩:=ZaJ h6
 obtain ⟨rfl,h8⟩:=Zap h7
 obtain ⟨_,rfl,h9⟩:=Zat h8
 obtain ⟨_,rfl,h10⟩:=ZaF h9
 obtain ⟨_,_,rfl,h11⟩:=Zas h10
 obtain ⟨_,_,rfl,h12⟩:=Zam h11
 obtain ⟨_,rfl,h13⟩:=Zaf h12
 obtain ⟨rfl,h14⟩:=Zae h13
 exact ⟨_,_,_,_,_,_,_,ZaU hg rfl (Zab hu1 (Zab hu36 (Zab hu37 (Zab hu38 ZaL)))),rfl,h14⟩
def ZoH (N:Nat):Zax:=(Zad).add [0,1,0,1,1] fun _ E s K=>ZvX (Zbh ZoB E) s fun e_1 f_2 x_3 x_4 e_5 f_6 x_7=>Zg6 N e_1 f_2 x_3 e_5 f_6 x_7 (ZhV K e_1 f_2 x_3 e_5 f_6 x_7) (ZiG K e_1 f_2 x_3 e_5 f_6 x_7) N x_4
theorem ZJK {N:Nat} (hC:Ok Tryz.prog C) (hΦ:Zaa Tryz.prog C (ZgT N)):Za7 Tryz.prog C (ZoH N) ZwM [0,1,0,1,1] :=
 Za6 (Λi:=Zad) (tr:=true) (ks:=ZoB) (kx:=Zyo) (N:=N) hC hΦ
  (Zai (by kernel_rfl))
  fun R E s K r h=>by
   have h2:=Zax.add_self.symm.trans h
   refine (Zaw rfl).trans ?_
   obtain ⟨_,_,_,_,_,_,_,he,rfl,h3⟩:=ZpW h2
   rw [he]
   exact (ZF9 N _ _ _ _ _ _ _ N _).trans h3
def ZnF:List Nat:=ZbR 156 [1,5,55,56,57]
def Zyd:List Nat:=ZbR 156 [1,2]
def ZkU (e_1 e_2:List V) (f_3:Fl) (x_4:Int) (e_6:List V) (f_7:Fl) (x_8 x_5:Int):List V:=mkF 0 156 [(1,.ptr 0 0 0 0),(5,.list 1 e_1 .sh),(55,.list 7 e_2 f_3),(56,.int .i64 x_4),(57,.int .i64 x_5)]
def Zh6 {R:Type} (K:X → List V → S → Option R) (e_1:List V) (e_2:List V) (f_3:Fl) (x_4:Int) (e_6:List V) (f_7:Fl) (x_8:Int):Unit → Option R:=(fun _=>K .ret (mkF 0 156 [(1,.ptr 0 0 0 0),(2,.bool false)]) [some ⟨[.agg [.list 7 e_6 f_7,.int .i64 x_8]],2,33,0⟩])
def ZhC {R:Type} (K:X → List V → S → Option R) (e_1:List V) (e_2:List V) (f_3:Fl) (x_4:Int) (e_6:List V) (f_7:Fl) (x_8:Int):Unit → Option R:=(fun _=>K (.exit 2) (mkF 0 156 [(1,.ptr 0 0 0 0)]) [some ⟨[.agg [.list 7 e_6 f_7,.int .i64 x_8]],2,33,0⟩])
abbrev Zn1 {R:Type} (N:Nat):Nat → List V → S → (X → List V → S → Option R) → Option R:=fun n=>ZcX C (ZgT N) (ZoH N) ZuJ [0,1,0,1,1,1,1,1] true ZnF Zyd n R
theorem ZL3 {R:Type} (N n:Nat) (e_1 e_2:List V) (f_3:Fl) (x_4:Int) (e_6:List V) (f_7:Fl) (x_8:Int) (x_5:Int) (K:X → List V → S → Option R) :
 Zn1 N (n + 1) (ZkU e_1 e_2 f_3 x_4 e_6 f_7 x_8 x_5) [some ⟨[.agg [.list 7 e_6 f_7,.int .i64 x_8]],2,33,0⟩] K =
 Zdx N e_1 e_2 f_3 x_4 e_6 f_7 x_8 (fun x_5=>Zn1 N n (ZkU e_1 e_2 f_3 x_4 e_6 f_7 x_8 x_5) [some ⟨[.agg [.list 7 e_6 f_7,.int .i64 x_8]],2,33,0⟩] K) x_5 (Zh6 K e_1 e_2 f_3 x_4 e_6 f_7 x_8) (ZhC K e_1 e_2 f_3 x_4 e_6 f_7 x_8):=by kernel_rfl
theorem ZF6 {R:Type} (N:Nat) (e_1 e_2:List V) (f_3:Fl) (x_4:Int) (e_6:List V) (f_7:Fl) (x_8:Int) (K:X → List V → S → Option R):∀ (n:Nat) (x_5:Int),
 Zn1 N n (ZkU e_1 e_2 f_3 x_4 e_6 f_7 x_8 x_5) [some ⟨[.agg [.list 7 e_6 f_7,.int .i64 x_8]],2,33,0⟩] K = Zgw N e_1 e_2 f_3 x_4 e_6 f_7 x_8 (Zh6 K e_1 e_2 f_3 x_4 e_6 f_7 x_8) (ZhC K e_1 e_2 f_3 x_4 e_6 f_7 x_8) n x_5
 | 0,_=>rfl
 | n + 1,x_5=>(ZL3 N n e_1 e_2 f_3 x_4 e_6 f_7 x_8 x_5 K).trans (congrArg (fun nx=>Zdx N e_1 e_2 f_3 x_4 e_6 f_7 x_8 nx x_5 (Zh6 K e_1 e_2 f_3 x_4 e_6 f_7 x_8) (ZhC K e_1 e_2 f_3 x_4 e_6 f_7 x_8)) (funext fun x_5=>ZF6 N e_1 e_2 f_3 x_4 e_6 f_7 x_8 K n x_5))
def Zt0 {R:Type} (E:List V) (s:S) (k:List V → List V → Fl → Int → Int → List V → Fl → Int → Option R):Option R :=
 Zaj (Za3 156 [1,5,55,56,57] E) <| ZvY E 1 (.ptr 0 0 0 0) <| Zbt (nth E 5) fun u5=>ZaX 1 u5 fun e_1 f'1=>ZLw f'1 <| Zbu E 55 7 fun e_2 f_3=>ZaZ E 56 .i64 fun x_4=>ZaZ E 57 .i64 fun x_5=>ZdW s fun o'2 s'3=>ZcW o'2 2 33 fun e'4 k'5=>isN k'5 0 <| Zco e'4 fun v'6=>asAgg v'6 fun c'7=>Zcf c'7 fun v'8 v'9=>ZaX 7 v'8 fun e_6 f_7=>asInt .i64 v'9 fun x_8=>ZaR s'3 <| k e_1 e_2 f_3 x_4 x_5 e_6 f_7 x_8
theorem ZsM {R:Type} {E:List V} {s:S} {k:List V → List V → Fl → Int → Int → List V → Fl → Int → Option R} {r:R} (h:Zt0 E s k = some r):∃ e_1 e_2 f_3 x_4 x_5 e_6 f_7 x_8,E = ZkU e_1 e_2 f_3 x_4 e_6 f_7 x_8 x_5 ∧ s = [some ⟨[.agg [.list 7 e_6 f_7,.int .i64 x_8]],2,33,0⟩] ∧ k e_1 e_2 f_3 x_4 x_5 e_6 f_7 x_8 = some r:=by
 unfold Zt0 at h
 obtain ⟨hg,h1⟩:=Zac h
 obtain ⟨hu1,h2⟩:=Zb0 h1
 obtain ⟨_,hu5,h3⟩:=Zag h2
 obtain ⟨_,_,rfl,h4⟩:=Zam h3
 obtain ⟨rfl,h5⟩:=Zfw h4
 obtain ⟨_,_,hu55,h6⟩:=ZaC h5
 obtain ⟨_,hu56,h7⟩:=Zah h6
 obtain ⟨_,hu57,h8⟩:=Zah h7
 obtain ⟨_,_,rfl,h9⟩:=ZaP h8
 obtain ⟨_,_,rfl,h10⟩:=ZaJ h9
 obtain ⟨rfl,h11⟩:=Zap h10
 obtain ⟨_,rfl,h12⟩:=Zat h11
 obtain ⟨_,rfl,h13⟩:=ZaF h12
 obtain ⟨_,_,rfl,h14⟩:=Zas h13
 obtain ⟨_,_,rfl,h15⟩:=Zam h14
 obtain ⟨_,rfl,h16⟩:=Zaf h15
 obtain ⟨rfl,h17⟩:=Zae h16
 exact ⟨_,_,_,_,_,_,_,_,ZaU hg rfl (Zab hu1 (Zab hu5 (Zab hu55 (Zab hu56 (Zab hu57 ZaL))))),rfl,h17⟩
def ZpB (N:Nat):Zax:=(ZoH N).add [0,1,0,1,1,1,1,1] fun _ E s K=>Zt0 (Zbh ZnF E) s fun e_1 e_2 f_3 x_4 x_5 e_6 f_7 x_8=>Zgw N e_1 e_2 f_3 x_4 e_6 f_7 x_8 (Zh6 K e_1 e_2 f_3 x_4 e_6 f_7 x_8) (ZhC K e_1 e_2 f_3 x_4 e_6 f_7 x_8) N x_5
theorem ZKb {N:Nat} (hC:Ok Tryz.prog C) (hΦ:Zaa Tryz.prog C (ZgT N)):Za7 Tryz.prog C (ZpB N) ZuJ [0,1,0,1,1,1,1,1] :=
 Za6 (Λi:=ZoH N) (tr:=true) (ks:=ZnF) (kx:=Zyd) (N:=N) hC hΦ
  (Zai (by kernel_rfl))
  fun R E s K r h=>by
   have h2:=Zax.add_self.symm.trans h
   refine (Zaw rfl).trans ?_
   obtain ⟨_,_,_,_,_,_,_,_,he,rfl,h3⟩:=ZsM h2
   rw [he]
   exact (ZF6 N _ _ _ _ _ _ _ _ N _).trans h3
def Zoh:List Nat:=ZbR 156 [1,9,10,11,109,110,111]
def ZzF:List Nat:=ZbR 156 [1,9,10,11]
def Zk2 (k_1:Nat) (x_3:Int) (e_4:List V) (f_5:Fl) (x_6:Int) (e_8:List V) (f_9:Fl) (x_10:Int) (e_2:List V) (x_7:Int) (e_11:List V):List V:=mkF 0 156 [(1,.ptr 0 0 0 0),(9,.arr 1 0 0 k_1),(10,.list 1 e_2 (.own 3)),(11,.int .i64 x_3),(109,.list 2 e_4 f_5),(110,.int .i64 x_6),(111,.int .i64 x_7)]
def ZhZ {R:Type} (K:X → List V → S → Option R) (k_1:Nat) (x_3:Int) (e_4:List V) (f_5:Fl) (x_6:Int) (e_8:List V) (f_9:Fl) (x_10:Int):List V → List V → Option R:=(fun e_1' e_2'=>K (.exit 7) (mkF 0 156 [(1,.ptr 0 0 0 0),(9,.arr 1 0 0 k_1),(10,.list 1 (e_1') (.own 3)),(11,.int .i64 x_3)]) [some ⟨[.agg [.list 7 e_8 f_9,.int .i64 x_10]],2,33,0⟩,some ⟨e_2',1,4,0⟩])
abbrev Zo9 {R:Type} (N:Nat):Nat → List V → S → (X → List V → S → Option R) → Option R:=fun n=>ZcX C (ZgT N) (ZpB N) ZvU [0,1,1,0,0,1,0,0,1,0,1,1,1,1,1,1,1,1] true Zoh ZzF n R
theorem ZMM {R:Type} (N n:Nat) (k_1:Nat) (x_3:Int) (e_4:List V) (f_5:Fl) (x_6:Int) (e_8:List V) (f_9:Fl) (x_10:Int) (e_2:List V) (x_7:Int) (e_11:List V) (K:X → List V → S → Option R) :
 Zo9 N (n + 1) (Zk2 k_1 x_3 e_4 f_5 x_6 e_8 f_9 x_10 e_2 x_7 e_11) [some ⟨[.agg [.list 7 e_8 f_9,.int .i64 x_10]],2,33,0⟩,some ⟨e_11,1,4,0⟩] K =
 ZdS N k_1 x_3 e_4 f_5 x_6 e_8 f_9 x_10 (fun e_2 x_7 e_11=>Zo9 N n (Zk2 k_1 x_3 e_4 f_5 x_6 e_8 f_9 x_10 e_2 x_7 e_11) [some ⟨[.agg [.list 7 e_8 f_9,.int .i64 x_10]],2,33,0⟩,some ⟨e_11,1,4,0⟩] K) e_2 x_7 e_11 (ZhZ K k_1 x_3 e_4 f_5 x_6 e_8 f_9 x_10):=by kernel_rfl
theorem ZEU {R:Type} (N:Nat) (k_1:Nat) (x_3:Int) (e_4:List V) (f_5:Fl) (x_6:Int) (e_8:List V) (f_9:Fl) (x_10:Int) (K:X → List V → S → Option R):∀ (n:Nat) (e_2:List V) (x_7:Int) (e_11:List V),
 Zo9 N n (Zk2 k_1 x_3 e_4 f_5 x_6 e_8 f_9 x_10 e_2 x_7 e_11) [some ⟨[.agg [.list 7 e_8 f_9,.int .i64 x_10]],2,33,0⟩,some ⟨e_11,1,4,0⟩] K = ZfW N k_1 x_3 e_4 f_5 x_6 e_8 f_9 x_10 (ZhZ K k_1 x_3 e_4 f_5 x_6 e_8 f_9 x_10) n e_2 x_7 e_11
 | 0,_,_,_=>rfl
 | n + 1,e_2,x_7,e_11=>(ZMM N n k_1 x_3 e_4 f_5 x_6 e_8 f_9 x_10 e_2 x_7 e_11 K).trans (congrArg (fun nx=>ZdS N k_1 x_3 e_4 f_5 x_6 e_8 f_9 x_10 nx e_2 x_7 e_11 (ZhZ K k_1 x_3 e_4 f_5 x_6 e_8 f_9 x_10)) (funext fun e_2=>funext fun x_7=>funext fun e_11=>ZEU N k_1 x_3 e_4 f_5 x_6 e_8 f_9 x_10 K n e_2 x_7 e_11))
def Zwb {R:Type} (E:List V) (s:S) (k:Nat → List V → Int → List V → Fl → Int → Int → List V → Fl → Int → List V → Option R):Option R :=
 Zaj (Za3 156 [1,9,10,11,109,110,111] E) <| ZvY E 1 (.ptr 0 0 0 0) <| Zbt (nth E 9) fun u9=>ZeC u9 fun k'1 k'2 k'3 k_1=>isN k'1 1 <| isN k'2 0 <| isN k'3 0 <| Zbt (nth E 10) fun u10=>ZaX 1 u10 fun e_2 f'4=>ZpE 3 f'4 <| ZaZ E 11 .i64 fun x_3=>Zbu E 109 2 fun e_4 f_5=>ZaZ E 110 .i64 fun x_6=>ZaZ E 111 .i64 fun x_7=>ZdW s fun o'5 s'6=>ZcW o'5 2 33 fun e'7 k'8=>isN k'8 0 <| Zco e'7 fun v'9=>asAgg v'9 fun c'10=>Zcf c'10 fun v'11 v'12=>ZaX 7 v'11 fun e_8 f_9=>asInt .i64 v'12 fun x_10=>ZdW s'6 fun o'13 s'14=>ZcW o'13 1 4 fun e_11 k'15=>isN k'15 0 <| ZaR s'14 <| k k_1 e_2 x_3 e_4 f_5 x_6 x_7 e_8 f_9 x_10 e_11
theorem Zqk {R:Type} {E:List V} {s:S} {k:Nat → List V → Int → List V → Fl → Int → Int → List V → Fl → Int → List V → Option R} {r:R} (h:Zwb E s k = some r):∃ k_1 e_2 x_3 e_4 f_5 x_6 x_7 e_8 f_9 x_10 e_11,E = Zk2 k_1 x_3 e_4 f_5 x_6 e_8 f_9 x_10 e_2 x_7 e_11 ∧ s = [some ⟨[.agg [.list 7 e_8 f_9,.int .i64 x_10]],2,33,0⟩,some ⟨e_11,1,4,0⟩] ∧ k k_1 e_2 x_3 e_4 f_5 x_6 x_7 e_8 f_9 x_10 e_11 = some r:=by
 unfold Zwb at h
 obtain ⟨hg,h1⟩:=Zac h
 obtain ⟨hu1,h2⟩:=Zb0 h1
 obtain ⟨_,hu9,h3⟩:=Zag h2
 obtain ⟨_,_,_,_,rfl,h4⟩:=Zbz h3
 obtain ⟨rfl,h5⟩:=Zap h4
 obtain ⟨rfl,h6⟩:=Zap h5
 obtain ⟨rfl,h7⟩:=Zap h6
 obtain ⟨_,hu10,h8⟩:=Zag h7
 obtain ⟨_,_,rfl,h9⟩:=Zam h8
 obtain ⟨rfl,h10⟩:=ZcZ h9
 obtain ⟨_,hu11,h11⟩:=Zah h10
 obtain ⟨_,_,hu109,h12⟩:=ZaC h11
 obtain ⟨_,hu110,h13⟩:=Zah h12
 obtain ⟨_,hu111,h14⟩:=Zah h13
 obtain ⟨_,_,rfl,h15⟩:=ZaP h14
 obtain ⟨_,_,rfl,h16⟩:=ZaJ h15
 obtain ⟨rfl,h17⟩:=Zap h16
 obtain ⟨_,rfl,h18⟩:=Zat h17
 obtain ⟨_,rfl,h19⟩:=ZaF h18
 obtain ⟨_,_,rfl,h20⟩:=Zas h19
 obtain ⟨_,_,rfl,h21⟩:=Zam h20
 obtain ⟨_,rfl,h22⟩:=Zaf h21
 obtain ⟨_,_,rfl,h23⟩:=ZaP h22
 obtain ⟨_,_,rfl,h24⟩:=ZaJ h23
 obtain ⟨rfl,h25⟩:=Zap h24
 obtain ⟨rfl,h26⟩:=Zae h25
 exact ⟨_,_,_,_,_,_,_,_,_,_,_,ZaU hg rfl (Zab hu1 (Zab hu9 (Zab hu10 (Zab hu11 (Zab hu109 (Zab hu110 (Zab hu111 ZaL))))))),rfl,h26⟩
def Znr (N:Nat):Zax:=(ZpB N).add [0,1,1,0,0,1,0,0,1,0,1,1,1,1,1,1,1,1] fun _ E s K=>Zwb (Zbh Zoh E) s fun k_1 e_2 x_3 e_4 f_5 x_6 x_7 e_8 f_9 x_10 e_11=>ZfW N k_1 x_3 e_4 f_5 x_6 e_8 f_9 x_10 (ZhZ K k_1 x_3 e_4 f_5 x_6 e_8 f_9 x_10) N e_2 x_7 e_11
theorem ZKz {N:Nat} (hC:Ok Tryz.prog C) (hΦ:Zaa Tryz.prog C (ZgT N)):Za7 Tryz.prog C (Znr N) ZvU [0,1,1,0,0,1,0,0,1,0,1,1,1,1,1,1,1,1] :=
 Za6 (Λi:=ZpB N) (tr:=true) (ks:=Zoh) (kx:=ZzF) (N:=N) hC hΦ
  (Zai (by kernel_rfl))
  fun R E s K r h=>by
   have h2:=Zax.add_self.symm.trans h
   refine (Zaw rfl).trans ?_
   obtain ⟨_,_,_,_,_,_,_,_,_,_,_,he,rfl,h3⟩:=Zqk h2
   rw [he]
   exact (ZEU N _ _ _ _ _ _ _ _ _ N _ _ _).trans h3
def Zpy:List Nat:=ZbR 156 [1,9,10,11]
def Zxy:List Nat:=ZbR 156 [1,9]
def ZkX (k_1:Nat) (e_4:List V) (f_5:Fl) (x_6:Int) (e_2:List V) (x_3:Int) (e_7:List V):List V:=mkF 0 156 [(1,.ptr 0 0 0 0),(9,.arr 1 0 0 k_1),(10,.list 1 e_2 (.own 3)),(11,.int .i64 x_3)]
def Zh3 {R:Type} (K:X → List V → S → Option R) (k_1:Nat) (e_4:List V) (f_5:Fl) (x_6:Int):List V → Option R:=(fun e_1'=>K (.exit 5) (mkF 0 156 [(1,.ptr 0 0 0 0),(9,.arr 1 0 0 k_1)]) [some ⟨[.agg [.list 7 e_4 f_5,.int .i64 x_6]],2,33,0⟩,some ⟨e_1',1,4,0⟩])
abbrev ZnG {R:Type} (N:Nat):Nat → List V → S → (X → List V → S → Option R) → Option R:=fun n=>ZcX C (ZgT N) (Znr N) ZjB [0,1,0,1,1,1,1,1,1,1,1] false Zpy Zxy n R
theorem ZMd {R:Type} (N n:Nat) (k_1:Nat) (e_4:List V) (f_5:Fl) (x_6:Int) (e_2:List V) (x_3:Int) (e_7:List V) (K:X → List V → S → Option R) :
 ZnG N (n + 1) (ZkX k_1 e_4 f_5 x_6 e_2 x_3 e_7) [some ⟨[.agg [.list 7 e_4 f_5,.int .i64 x_6]],2,33,0⟩,some ⟨e_7,1,4,0⟩] K =
 Zdo N k_1 e_4 f_5 x_6 (fun e_2 x_3 e_7=>ZnG N n (ZkX k_1 e_4 f_5 x_6 e_2 x_3 e_7) [some ⟨[.agg [.list 7 e_4 f_5,.int .i64 x_6]],2,33,0⟩,some ⟨e_7,1,4,0⟩] K) e_2 x_3 e_7 (Zh3 K k_1 e_4 f_5 x_6):=by kernel_rfl
theorem ZFq {R:Type} (N:Nat) (k_1:Nat) (e_4:List V) (f_5:Fl) (x_6:Int) (K:X → List V → S → Option R):∀ (n:Nat) (e_2:List V) (x_3:Int) (e_7:List V),
 ZnG N n (ZkX k_1 e_4 f_5 x_6 e_2 x_3 e_7) [some ⟨[.agg [.list 7 e_4 f_5,.int .i64 x_6]],2,33,0⟩,some ⟨e_7,1,4,0⟩] K = ZfF N k_1 e_4 f_5 x_6 (Zh3 K k_1 e_4 f_5 x_6) n e_2 x_3 e_7
 | 0,_,_,_=>rfl
 | n + 1,e_2,x_3,e_7=>(ZMd N n k_1 e_4 f_5 x_6 e_2 x_3 e_7 K).trans (congrArg (fun nx=>Zdo N k_1 e_4 f_5 x_6 nx e_2 x_3 e_7 (Zh3 K k_1 e_4 f_5 x_6)) (funext fun e_2=>funext fun x_3=>funext fun e_7=>ZFq N k_1 e_4 f_5 x_6 K n e_2 x_3 e_7))
def Zva {R:Type} (E:List V) (s:S) (k:Nat → List V → Int → List V → Fl → Int → List V → Option R):Option R :=
 Zaj (Za3 156 [1,9,10,11] E) <| ZvY E 1 (.ptr 0 0 0 0) <| Zbt (nth E 9) fun u9=>ZeC u9 fun k'1 k'2 k'3 k_1=>isN k'1 1 <| isN k'2 0 <| isN k'3 0 <| Zbt (nth E 10) fun u10=>ZaX 1 u10 fun e_2 f'4=>ZpE 3 f'4 <| ZaZ E 11 .i64 fun x_3=>ZdW s fun o'5 s'6=>ZcW o'5 2 33 fun e'7 k'8=>isN k'8 0 <| Zco e'7 fun v'9=>asAgg v'9 fun c'10=>Zcf c'10 fun v'11 v'12=>ZaX 7 v'11 fun e_4 f_5=>asInt .i64 v'12 fun x_6=>ZdW s'6 fun o'13 s'14=>ZcW o'13 1 4 fun e_7 k'15=>isN k'15 0 <| ZaR s'14 <| k k_1 e_2 x_3 e_4 f_5 x_6 e_7
theorem ZsD {R:Type} {E:List V} {s:S} {k:Nat → List V → Int → List V → Fl → Int → List V → Option R} {r:R} (h:Zva E s k = some r):∃ k_1 e_2 x_3 e_4 f_5 x_6 e_7,E = ZkX k_1 e_4 f_5 x_6 e_2 x_3 e_7 ∧ s = [some ⟨[.agg [.list 7 e_4 f_5,.int .i64 x_6]],2,33,0⟩,some ⟨e_7,1,4,0⟩] ∧ k k_1 e_2 x_3 e_4 f_5 x_6 e_7 = some r:=by
 unfold Zva at h
 obtain ⟨hg,h1⟩:=Zac h
 obtain ⟨hu1,h2⟩:=Zb0 h1
 obtain ⟨_,hu9,h3⟩:=Zag h2
 obtain ⟨_,_,_,_,rfl,h4⟩:=Zbz h3
 obtain ⟨rfl,h5⟩:=Zap h4
 obtain ⟨rfl,h6⟩:=Zap h5
 obtain ⟨rfl,h7⟩:=Zap h6
 obtain ⟨_,hu10,h8⟩:=Zag h7
 obtain ⟨_,_,rfl,h9⟩:=Zam h8
 obtain ⟨rfl,h10⟩:=ZcZ h9
 obtain ⟨_,hu11,h11⟩:=Zah h10
 obtain ⟨_,_,rfl,h12⟩:=ZaP h11
 obtain ⟨_,_,rfl,h13⟩:=ZaJ h12
 obtain ⟨rfl,h14⟩:=Zap h13
 obtain ⟨_,rfl,h15⟩:=Zat h14
 obtain ⟨_,rfl,h16⟩:=ZaF h15
 obtain ⟨_,_,rfl,h17⟩:=Zas h16
 obtain ⟨_,_,rfl,h18⟩:=Zam h17
 obtain ⟨_,rfl,h19⟩:=Zaf h18
 obtain ⟨_,_,rfl,h20⟩:=ZaP h19
 obtain ⟨_,_,rfl,h21⟩:=ZaJ h20
 obtain ⟨rfl,h22⟩:=Zap h21
 obtain ⟨rfl,h23⟩:=Zae h22
 exact ⟨_,_,_,_,_,_,_,ZaU hg rfl (Zab hu1 (Zab hu9 (Zab hu10 (Zab hu11 ZaL)))),rfl,h23⟩
def ZnJ (N:Nat):Zax:=(Znr N).add [0,1,0,1,1,1,1,1,1,1,1] fun _ E s K=>Zva (Zbh Zpy E) s fun k_1 e_2 x_3 e_4 f_5 x_6 e_7=>ZfF N k_1 e_4 f_5 x_6 (Zh3 K k_1 e_4 f_5 x_6) N e_2 x_3 e_7
theorem ZIc:Za0 ZjB (0 :: [0,1,0,1,1,1,1,1,1,1,1]) = [([0,1,1,0,0,1,0,0,1,0,1,1,1,1,1,1,1,1],ZvU)]:=by kernel_rfl
theorem ZJz {N:Nat} (hC:Ok Tryz.prog C) (hΦ:Zaa Tryz.prog C (ZgT N)):Za7 Tryz.prog C (ZnJ N) ZjB [0,1,0,1,1,1,1,1,1,1,1] :=
 Za6 (Λi:=Znr N) (tr:=false) (ks:=Zpy) (kx:=Zxy) (N:=N) hC hΦ
  (ZaG ZjB _ (by
   rw [ZIc]
   intro p hp
   simp only [List.mem_cons,List.mem_nil_iff,or_false] at hp
   rcases hp with rfl
   ·exact (ZKz hC hΦ)))
  fun R E s K r h=>by
   have h2:=Zax.add_self.symm.trans h
   refine (Zaw rfl).trans ?_
   obtain ⟨_,_,_,_,_,_,_,he,rfl,h3⟩:=ZsD h2
   rw [he]
   exact (ZFq N _ _ _ _ _ N _ _ _).trans h3
def Zo7:List Nat:=ZbR 156 [9,138,139,140]
def Zzf:List Nat:=ZbR 156 [2]
def Zki (k_1:Nat) (e_2:List V) (f_3:Fl) (x_4:Int) (e_6:List V) (f_7:Fl) (x_8 x_5:Int) (e_9:List V):List V:=mkF 0 156 [(9,.arr 1 0 0 k_1),(138,.list 7 e_2 f_3),(139,.int .i64 x_4),(140,.int .i64 x_5)]
def ZiT {R:Type} (K:X → List V → S → Option R) (k_1:Nat) (e_2:List V) (f_3:Fl) (x_4:Int) (e_6:List V) (f_7:Fl) (x_8:Int):List V → Option R:=(fun e_1'=>K .ret (mkF 0 156 [(2,.bool false)]) [some ⟨[.agg [.list 7 e_6 f_7,.int .i64 x_8]],2,33,0⟩,some ⟨e_1',1,4,0⟩])
def Ziv {R:Type} (K:X → List V → S → Option R) (k_1:Nat) (e_2:List V) (f_3:Fl) (x_4:Int) (e_6:List V) (f_7:Fl) (x_8:Int):List V → Option R:=(fun e_1'=>K (.exit 9) (mkF 0 156 []) [some ⟨[.agg [.list 7 e_6 f_7,.int .i64 x_8]],2,33,0⟩,some ⟨e_1',1,4,0⟩])
abbrev Zna {R:Type} (N:Nat):Nat → List V → S → (X → List V → S → Option R) → Option R:=fun n=>ZcX C (ZgT N) (ZnJ N) Zuj [0,1,0,1,1,1,1,1,1,1,1,1] true Zo7 Zzf n R
theorem ZLY {R:Type} (N n:Nat) (k_1:Nat) (e_2:List V) (f_3:Fl) (x_4:Int) (e_6:List V) (f_7:Fl) (x_8:Int) (x_5:Int) (e_9:List V) (K:X → List V → S → Option R) :
 Zna N (n + 1) (Zki k_1 e_2 f_3 x_4 e_6 f_7 x_8 x_5 e_9) [some ⟨[.agg [.list 7 e_6 f_7,.int .i64 x_8]],2,33,0⟩,some ⟨e_9,1,4,0⟩] K =
 Zds N k_1 e_2 f_3 x_4 e_6 f_7 x_8 (fun x_5 e_9=>Zna N n (Zki k_1 e_2 f_3 x_4 e_6 f_7 x_8 x_5 e_9) [some ⟨[.agg [.list 7 e_6 f_7,.int .i64 x_8]],2,33,0⟩,some ⟨e_9,1,4,0⟩] K) x_5 e_9 (ZiT K k_1 e_2 f_3 x_4 e_6 f_7 x_8) (Ziv K k_1 e_2 f_3 x_4 e_6 f_7 x_8):=by kernel_rfl
theorem ZF2 {R:Type} (N:Nat) (k_1:Nat) (e_2:List V) (f_3:Fl) (x_4:Int) (e_6:List V) (f_7:Fl) (x_8:Int) (K:X → List V → S → Option R):∀ (n:Nat) (x_5:Int) (e_9:List V),
 Zna N n (Zki k_1 e_2 f_3 x_4 e_6 f_7 x_8 x_5 e_9) [some ⟨[.agg [.list 7 e_6 f_7,.int .i64 x_8]],2,33,0⟩,some ⟨e_9,1,4,0⟩] K = Zg8 N k_1 e_2 f_3 x_4 e_6 f_7 x_8 (ZiT K k_1 e_2 f_3 x_4 e_6 f_7 x_8) (Ziv K k_1 e_2 f_3 x_4 e_6 f_7 x_8) n x_5 e_9
 | 0,_,_=>rfl
 | n + 1,x_5,e_9=>(ZLY N n k_1 e_2 f_3 x_4 e_6 f_7 x_8 x_5 e_9 K).trans (congrArg (fun nx=>Zds N k_1 e_2 f_3 x_4 e_6 f_7 x_8 nx x_5 e_9 (ZiT K k_1 e_2 f_3 x_4 e_6 f_7 x_8) (Ziv K k_1 e_2 f_3 x_4 e_6 f_7 x_8)) (funext fun x_5=>funext fun e_9=>ZF2 N k_1 e_2 f_3 x_4 e_6 f_7 x_8 K n x_5 e_9))
def Zww {R:Type} (E:List V) (s:S) (k:Nat → List V → Fl → Int → Int → List V → Fl → Int → List V → Option R):Option R :=
 Zaj (Za3 156 [9,138,139,140] E) <| Zbt (nth E 9) fun u9=>ZeC u9 fun k'1 k'2 k'3 k_1=>isN k'1 1 <| isN k'2 0 <| isN k'3 0 <| Zbu E 138 7 fun e_2 f_3=>ZaZ E 139 .i64 fun x_4=>ZaZ E 140 .i64 fun x_5=>ZdW s fun o'4 s'5=>ZcW o'4 2 33 fun e'6 k'7=>isN k'7 0 <| Zco e'6 fun v'8=>asAgg v'8 fun c'9=>Zcf c'9 fun v'10 v'11=>ZaX 7 v'10 fun e_6 f_7=>asInt .i64 v'11 fun x_8=>ZdW s'5 fun o'12 s'13=>ZcW o'12 1 4 fun e_9 k'14=>isN k'14 0 <| ZaR s'13 <| k k_1 e_2 f_3 x_4 x_5 e_6 f_7 x_8 e_9
theorem Zte {R:Type} {E:List V} {s:S} {k:Nat → List V → Fl → Int → Int → List V → Fl → Int → List V → Option R} {r:R} (h:Zww E s k = some r):∃ k_1 e_2 f_3 x_4 x_5 e_6 f_7 x_8 e_9,E = Zki k_1 e_2 f_3 x_4 e_6 f_7 x_8 x_5 e_9 ∧ s = [some ⟨[.agg [.list 7 e_6 f_7,.int .i64 x_8]],2,33,0⟩,some ⟨e_9,1,4,0⟩] ∧ k k_1 e_2 f_3 x_4 x_5 e_6 f_7 x_8 e_9 = some r:=by
 unfold Zww at h
 obtain ⟨hg,h1⟩:=Zac h
 obtain ⟨_,hu9,h2⟩:=Zag h1
 obtain ⟨_,_,_,_,rfl,h3⟩:=Zbz h2
 obtain ⟨rfl,h4⟩:=Zap h3
 obtain ⟨rfl,h5⟩:=Zap h4
 obtain ⟨rfl,h6⟩:=Zap h5
 obtain ⟨_,_,hu138,h7⟩:=ZaC h6
 obtain ⟨_,hu139,h8⟩:=Zah h7
 obtain ⟨_,hu140,h9⟩:=Zah h8
 obtain ⟨_,_,rfl,h10⟩:=ZaP h9
 obtain ⟨_,_,rfl,h11⟩:=ZaJ h10
 obtain ⟨rfl,h12⟩:=Zap h11
 obtain ⟨_,rfl,h13⟩:=Zat h12
 obtain ⟨_,rfl,h14⟩:=ZaF h13
 obtain ⟨_,_,rfl,h15⟩:=Zas h14
 obtain ⟨_,_,rfl,h16⟩:=Zam h15
 obtain ⟨_,rfl,h17⟩:=Zaf h16
 obtain ⟨_,_,rfl,h18⟩:=ZaP h17
 obtain ⟨_,_,rfl,h19⟩:=ZaJ h18
 obtain ⟨rfl,h20⟩:=Zap h19
 obtain ⟨rfl,h21⟩:=Zae h20
 exact ⟨_,_,_,_,_,_,_,_,_,ZaU hg rfl (Zab hu9 (Zab hu138 (Zab hu139 (Zab hu140 ZaL)))),rfl,h21⟩
def Zwm (N:Nat):Zax:=(ZnJ N).add [0,1,0,1,1,1,1,1,1,1,1,1] fun _ E s K=>Zww (Zbh Zo7 E) s fun k_1 e_2 f_3 x_4 x_5 e_6 f_7 x_8 e_9=>Zg8 N k_1 e_2 f_3 x_4 e_6 f_7 x_8 (ZiT K k_1 e_2 f_3 x_4 e_6 f_7 x_8) (Ziv K k_1 e_2 f_3 x_4 e_6 f_7 x_8) N x_5 e_9
theorem ZH2 {N:Nat} (hC:Ok Tryz.prog C) (hΦ:Zaa Tryz.prog C (ZgT N)):Za7 Tryz.prog C (Zwm N) Zuj [0,1,0,1,1,1,1,1,1,1,1,1] :=
 Za6 (Λi:=ZnJ N) (tr:=true) (ks:=Zo7) (kx:=Zzf) (N:=N) hC hΦ
  (Zai (by kernel_rfl))
  fun R E s K r h=>by
   have h2:=Zax.add_self.symm.trans h
   refine (Zaw rfl).trans ?_
   obtain ⟨_,_,_,_,_,_,_,_,_,he,rfl,h3⟩:=Zte h2
   rw [he]
   exact (ZF2 N _ _ _ _ _ _ _ _ N _ _).trans h3
theorem ZPP:Za0 Zta [] = [([0,1,0,1,1],ZwM),([0,1,0,1,1,1,1,1],ZuJ),([0,1,0,1,1,1,1,1,1,1,1],ZjB),([0,1,0,1,1,1,1,1,1,1,1,1],Zuj)]:=by kernel_rfl
theorem ZQt {R:Type} (N:Nat) (e_1:List V) (f_2:Fl) (x_3:Int) (K:V → S → Option R):Za2 C (ZgT N) (Zwm N) 31 Tryz.f31 [.agg [.list 7 e_1 f_2,.int .i64 x_3]] [] K =
 ZqQ N e_1 f_2 x_3 (fun b_4=>K (.bool b_4) []):=by kernel_rfl
theorem ZDr {N:Nat} (hC:Ok Tryz.prog C) (hΦ:Zaa Tryz.prog C (ZgT N)):ZaV Tryz.prog C (Zwm N) Zta [] :=
 ZaG Zta [] (by
  rw [ZPP]
  intro p hp
  simp only [List.mem_cons,List.mem_nil_iff,or_false] at hp
  rcases hp with rfl | rfl | rfl | rfl
  ·exact (Za7.add (Za7.add (Za7.add (Za7.add (ZJK hC hΦ) rfl) rfl) rfl) rfl)
  ·exact (Za7.add (Za7.add (Za7.add (ZKb hC hΦ) rfl) rfl) rfl)
  ·exact (Za7.add (ZJz hC hΦ) rfl)
  ·exact (ZH2 hC hΦ))
theorem ZA3 (hC:Ok Tryz.prog C) {N:Nat} (hΦ:Zaa Tryz.prog C (ZgT N)):Zaa Tryz.prog C (ZKj N):=by
 refine hΦ.add_pure rfl fun R vs K r h=>?_
 unfold ZPh at h
 obtain ⟨_,rfl,h1⟩:=Zat h
 obtain ⟨_,_,_,rfl,h2⟩:=ZaH h1
 obtain ⟨_,h3⟩:=Zae h2
 refine Zaq (fn:=Tryz.f31) (c:=Zta) hC hΦ Tryz.func31 (by kernel_rfl) (by kernel_rfl) (ZDr (N:=N) hC hΦ) rfl rfl ?_
 refine (ZQt N _ _ _ _).trans ?_
 rw [← Zyy]
 exact h3
def ZNd (N:Nat):(R:Type) → List V → S → (V → S → Option R) → Option R:=fun _ vs s K =>
 Zco vs fun v'1=>Zbs v'1 fun x_1 x_2=>ZaR s <| ZK0 N x_1 x_2 (fun b_3=>K (.bool b_3) [])
def ZHw (N:Nat):Zar:=(ZKj N).add 32 (ZNd N)
def ZQY:Code:=ZaS Tryz.f32
theorem ZSa {R:Type} (N:Nat) (x_1 x_2:Int) (K:V → S → Option R):Za2 C (ZKj N) (Zad) 32 Tryz.f32 [.agg [.int .i64 x_1,.int .i64 x_2]] [] K =
 ZpT N x_1 x_2 (fun b_3=>K (.bool b_3) []):=by kernel_rfl
theorem ZAZ (hC:Ok Tryz.prog C) {N:Nat} (hΦ:Zaa Tryz.prog C (ZKj N)):Zaa Tryz.prog C (ZHw N):=by
 refine hΦ.add_pure rfl fun R vs K r h=>?_
 unfold ZNd at h
 obtain ⟨_,rfl,h1⟩:=Zat h
 obtain ⟨_,_,rfl,h2⟩:=Za8 h1
 obtain ⟨_,h3⟩:=Zae h2
 refine Zaq (fn:=Tryz.f32) (c:=ZQY) hC hΦ Tryz.func32 (by kernel_rfl) (by kernel_rfl) (Zai (Λ:=Zad) (by kernel_rfl)) rfl rfl ?_
 refine (ZSa N _ _ _).trans ?_
 rw [← Zx2]
 exact h3
def ZNs (N:Nat):(R:Type) → List V → S → (V → S → Option R) → Option R:=fun _ vs s K =>
 Zcf vs fun v'1 v'2=>Za9 v'1 fun e_1 f_2 x_3=>Zbs v'2 fun x_4 x_5=>ZaR s <| ZJb N e_1 f_2 x_3 x_4 x_5 (fun b_6=>K (.bool b_6) [])
def ZIz (N:Nat):Zar:=(ZHw N).add 19 (ZNs N)
def ZQQ:Code:=ZaS Tryz.f19
theorem ZP9 {R:Type} (N:Nat) (e_1:List V) (f_2:Fl) (x_3 x_4 x_5:Int) (K:V → S → Option R):Za2 C (ZHw N) (Zad) 19 Tryz.f19 [.agg [.list 7 e_1 f_2,.int .i64 x_3],.agg [.int .i64 x_4,.int .i64 x_5]] [] K =
 ZrD N e_1 f_2 x_3 x_4 x_5 (fun b_6=>K (.bool b_6) []):=by kernel_rfl
theorem ZAH (hC:Ok Tryz.prog C) {N:Nat} (hΦ:Zaa Tryz.prog C (ZHw N)):Zaa Tryz.prog C (ZIz N):=by
 refine hΦ.add_pure rfl fun R vs K r h=>?_
 unfold ZNs at h
 obtain ⟨_,_,rfl,h1⟩:=Zas h
 obtain ⟨_,_,_,rfl,h2⟩:=ZaH h1
 obtain ⟨_,_,rfl,h3⟩:=Za8 h2
 obtain ⟨_,h4⟩:=Zae h3
 refine Zaq (fn:=Tryz.f19) (c:=ZQQ) hC hΦ Tryz.func19 (by kernel_rfl) (by kernel_rfl) (Zai (Λ:=Zad) (by kernel_rfl)) rfl rfl ?_
 refine (ZP9 N _ _ _ _ _ _).trans ?_
 rw [← ZwW]
 exact h4
def ZNf (N:Nat):(R:Type) → List V → S → (V → S → Option R) → Option R:=fun _ vs s K =>
 ZP2 vs fun v'1 v'2 v'3 v'4 v'5=>Zbs v'1 fun x_1 x_2=>asInt .i64 v'2 fun x_3=>asInt .i64 v'3 fun x_4=>asInt .i64 v'4 fun x_5=>asInt .i64 v'5 fun x_6=>ZaR s <| ZJj N x_1 x_2 x_3 x_4 x_5 x_6 (fun b_7=>K (.bool b_7) [])
def ZGV (N:Nat):Zar:=(ZIz N).add 35 (ZNf N)
def ZSp:Code:=ZaS Tryz.f35
theorem ZR1 {R:Type} (N:Nat) (x_1 x_2 x_3 x_4 x_5 x_6:Int) (K:V → S → Option R):Za2 C (ZIz N) (Zad) 35 Tryz.f35 [.agg [.int .i64 x_1,.int .i64 x_2],.int .i64 x_3,.int .i64 x_4,.int .i64 x_5,.int .i64 x_6] [] K =
 Zsq N x_1 x_2 x_3 x_4 x_5 x_6 (fun b_7=>K (.bool b_7) []):=by kernel_rfl
theorem ZAW (hC:Ok Tryz.prog C) {N:Nat} (hΦ:Zaa Tryz.prog C (ZIz N)):Zaa Tryz.prog C (ZGV N):=by
 refine hΦ.add_pure rfl fun R vs K r h=>?_
 unfold ZNf at h
 obtain ⟨_,_,_,_,_,rfl,h1⟩:=ZsH h
 obtain ⟨_,_,rfl,h2⟩:=Za8 h1
 obtain ⟨_,rfl,h3⟩:=Zaf h2
 obtain ⟨_,rfl,h4⟩:=Zaf h3
 obtain ⟨_,rfl,h5⟩:=Zaf h4
 obtain ⟨_,rfl,h6⟩:=Zaf h5
 obtain ⟨_,h7⟩:=Zae h6
 refine Zaq (fn:=Tryz.f35) (c:=ZSp) hC hΦ Tryz.func35 (by kernel_rfl) (by kernel_rfl) (Zai (Λ:=Zad) (by kernel_rfl)) rfl rfl ?_
 refine (ZR1 N _ _ _ _ _ _ _).trans ?_
 rw [← ZzG]
 exact h7
def ZO5 (N:Nat):(R:Type) → List V → S → (V → S → Option R) → Option R:=fun _ vs s K =>
 ZLn vs fun v'1 v'2 v'3 v'4=>Za9 v'1 fun e_1 f_2 x_3=>Zbs v'2 fun x_4 x_5=>asInt .i64 v'3 fun x_6=>asInt .i64 v'4 fun x_7=>ZaR s <| ZEf N e_1 f_2 x_3 x_4 x_5 x_6 x_7 (fun b_8=>K (.bool b_8) [])
def ZIQ (N:Nat):Zar:=(ZGV N).add 21 (ZO5 N)
def ZSF:Code:=ZaS Tryz.f21
theorem ZQf {R:Type} (N:Nat) (e_1:List V) (f_2:Fl) (x_3 x_4 x_5 x_6 x_7:Int) (K:V → S → Option R):Za2 C (ZGV N) (Zad) 21 Tryz.f21 [.agg [.list 7 e_1 f_2,.int .i64 x_3],.agg [.int .i64 x_4,.int .i64 x_5],.int .i64 x_6,.int .i64 x_7] [] K =
 Zmr N e_1 f_2 x_3 x_4 x_5 x_6 x_7 (fun b_8=>K (.bool b_8) []):=by kernel_rfl
theorem ZCh (hC:Ok Tryz.prog C) {N:Nat} (hΦ:Zaa Tryz.prog C (ZGV N)):Zaa Tryz.prog C (ZIQ N):=by
 refine hΦ.add_pure rfl fun R vs K r h=>?_
 unfold ZO5 at h
 obtain ⟨_,_,_,_,rfl,h1⟩:=Zfp h
 obtain ⟨_,_,_,rfl,h2⟩:=ZaH h1
 obtain ⟨_,_,rfl,h3⟩:=Za8 h2
 obtain ⟨_,rfl,h4⟩:=Zaf h3
 obtain ⟨_,rfl,h5⟩:=Zaf h4
 obtain ⟨_,h6⟩:=Zae h5
 refine Zaq (fn:=Tryz.f21) (c:=ZSF) hC hΦ Tryz.func21 (by kernel_rfl) (by kernel_rfl) (Zai (Λ:=Zad) (by kernel_rfl)) rfl rfl ?_
 refine (ZQf N _ _ _ _ _ _ _ _).trans ?_
 rw [← ZoC]
 exact h6
def ZOy (N:Nat):(R:Type) → List V → S → (V → S → Option R) → Option R:=fun _ vs s K =>
 Zcf vs fun v'1 v'2=>Za9 v'1 fun e_1 f_2 x_3=>asInt .i64 v'2 fun x_4=>ZaR s <| ZCk N e_1 f_2 x_3 x_4 (fun b_5=>K (.bool b_5) [])
def ZIq (N:Nat):Zar:=(ZIQ N).add 34 (ZOy N)
def ZQL:Code:=ZaS Tryz.f34
theorem ZRK {R:Type} (N:Nat) (e_1:List V) (f_2:Fl) (x_3 x_4:Int) (K:V → S → Option R):Za2 C (ZIQ N) (Zad) 34 Tryz.f34 [.agg [.list 7 e_1 f_2,.int .i64 x_3],.int .i64 x_4] [] K =
 ZmI N e_1 f_2 x_3 x_4 (fun b_5=>K (.bool b_5) []):=by kernel_rfl
theorem ZBr (hC:Ok Tryz.prog C) {N:Nat} (hΦ:Zaa Tryz.prog C (ZIQ N)):Zaa Tryz.prog C (ZIq N):=by
 refine hΦ.add_pure rfl fun R vs K r h=>?_
 unfold ZOy at h
 obtain ⟨_,_,rfl,h1⟩:=Zas h
 obtain ⟨_,_,_,rfl,h2⟩:=ZaH h1
 obtain ⟨_,rfl,h3⟩:=Zaf h2
 obtain ⟨_,h4⟩:=Zae h3
 refine Zaq (fn:=Tryz.f34) (c:=ZQL) hC hΦ Tryz.func34 (by kernel_rfl) (by kernel_rfl) (Zai (Λ:=Zad) (by kernel_rfl)) rfl rfl ?_
 refine (ZRK N _ _ _ _ _).trans ?_
 rw [← Zot]
 exact h4
def ZN0 (N:Nat):(R:Type) → List V → S → (V → S → Option R) → Option R:=fun _ vs s K =>
 Zco vs fun v'1=>Zby v'1 fun w_1=>ZaR s <| ZJ4 N w_1 (fun b_2=>K (.bool b_2) [])
def ZIC (N:Nat):Zar:=(ZIq N).add 55 (ZN0 N)
def ZRy:Code:=ZaS Tryz.f55
theorem ZQz {R:Type} (N:Nat) (w_1:ByteArray) (K:V → S → Option R):Za2 C (ZIq N) (Zad) 55 Tryz.f55 [.str w_1] [] K =
 ZrC N w_1 (fun b_2=>K (.bool b_2) []):=by kernel_rfl
theorem ZAh (hC:Ok Tryz.prog C) {N:Nat} (hΦ:Zaa Tryz.prog C (ZIq N)):Zaa Tryz.prog C (ZIC N):=by
 refine hΦ.add_pure rfl fun R vs K r h=>?_
 unfold ZN0 at h
 obtain ⟨_,rfl,h1⟩:=Zat h
 obtain ⟨_,rfl,h2⟩:=ZaD h1
 obtain ⟨_,h3⟩:=Zae h2
 refine Zaq (fn:=Tryz.f55) (c:=ZRy) hC hΦ Tryz.func55 (by kernel_rfl) (by kernel_rfl) (Zai (Λ:=Zad) (by kernel_rfl)) rfl rfl ?_
 refine (ZQz N _ _).trans ?_
 rw [← Zw9]
 exact h3
def ZN6 (N:Nat):(R:Type) → List V → S → (V → S → Option R) → Option R:=fun _ vs s K =>
 Zcf vs fun v'1 v'2=>Zby v'1 fun w_1=>Zby v'2 fun w_2=>ZaR s <| ZMR N w_1 w_2 (fun b_3=>K (.bool b_3) [])
def ZIu (N:Nat):Zar:=(ZIC N).add 77 (ZN6 N)
def ZR3:Code:=ZaS Tryz.f77
theorem ZQv {R:Type} (N:Nat) (w_1 w_2:ByteArray) (K:V → S → Option R):Za2 C (ZIC N) (Zad) 77 Tryz.f77 [.str w_1,.str w_2] [] K =
 ZqM N w_1 w_2 (fun b_3=>K (.bool b_3) []):=by kernel_rfl
theorem ZBX (hC:Ok Tryz.prog C) {N:Nat} (hΦ:Zaa Tryz.prog C (ZIC N)):Zaa Tryz.prog C (ZIu N):=by
 refine hΦ.add_pure rfl fun R vs K r h=>?_
 unfold ZN6 at h
 obtain ⟨_,_,rfl,h1⟩:=Zas h
 obtain ⟨_,rfl,h2⟩:=ZaD h1
 obtain ⟨_,rfl,h3⟩:=ZaD h2
 obtain ⟨_,h4⟩:=Zae h3
 refine Zaq (fn:=Tryz.f77) (c:=ZR3) hC hΦ Tryz.func77 (by kernel_rfl) (by kernel_rfl) (Zai (Λ:=Zad) (by kernel_rfl)) rfl rfl ?_
 refine (ZQv N _ _ _).trans ?_
 rw [← Zyh]
 exact h4
def ZPo (N:Nat):(R:Type) → List V → S → (V → S → Option R) → Option R:=fun _ vs s K =>
 Zcf vs fun v'1 v'2=>Zby v'1 fun w_1=>Zby v'2 fun w_2=>ZaR s <| ZHY N w_1 w_2 (fun b_3=>K (.bool b_3) [])
def ZnP (N:Nat):Zar:=(ZIu N).add 56 (ZPo N)
def ZRQ:Code:=ZaS Tryz.f56
theorem ZQy {R:Type} (N:Nat) (w_1 w_2:ByteArray) (K:V → S → Option R):Za2 C (ZIu N) (Zad) 56 Tryz.f56 [.str w_1,.str w_2] [] K =
 Zsd N w_1 w_2 (fun b_3=>K (.bool b_3) []):=by kernel_rfl
theorem ZBq (hC:Ok Tryz.prog C) {N:Nat} (hΦ:Zaa Tryz.prog C (ZIu N)):Zaa Tryz.prog C (ZnP N):=by
 refine hΦ.add_pure rfl fun R vs K r h=>?_
 unfold ZPo at h
 obtain ⟨_,_,rfl,h1⟩:=Zas h
 obtain ⟨_,rfl,h2⟩:=ZaD h1
 obtain ⟨_,rfl,h3⟩:=ZaD h2
 obtain ⟨_,h4⟩:=Zae h3
 refine Zaq (fn:=Tryz.f56) (c:=ZRQ) hC hΦ Tryz.func56 (by kernel_rfl) (by kernel_rfl) (Zai (Λ:=Zad) (by kernel_rfl)) rfl rfl ?_
 refine (ZQy N _ _ _).trans ?_
 rw [← Zzu]
 exact h4
def ZPb (N:Nat):(R:Type) → List V → S → (V → S → Option R) → Option R:=fun _ vs s K =>
 Zcf vs fun v'1 v'2=>Za9 v'1 fun e_1 f_2 x_3=>asInt .i64 v'2 fun x_4=>ZaR s <| ZIR N e_1 f_2 x_3 x_4 (fun x_5 w_6=>K (.tuple [.int .i64 x_5,.str w_6]) [])
def Zvh (N:Nat):Zar:=(ZnP N).add 58 (ZPb N)
def ZCP:Code:=ZaS Tryz.f58
def ZjC:Code:=(Zbn ZCP [] 0).2
def ZwH:Code:=(Zbn ZjC (0 :: [0,1,0,1]) 0).2
def Zob:List Nat:=ZbR 34 [1,6,11,12,13,19,20,21]
def Zxg:List Nat:=ZbR 34 [1,4,5,11,12,13]
def Zk3 (x_1 x_2:Int) (e_3:List V) (f_4:Fl) (x_5 x_6:Int) (e_7:List V) (f_8:Fl) (x_9:Int) (e_11:List V) (f_12:Fl) (x_13 x_14 x_15 x_16 x_17 x_18:Int) (w_19:ByteArray) (e_20:List V) (f_21:Fl) (x_10:Int):List V:=mkF 0 34 [(1,.int .i64 x_1),(6,.int .i64 x_2),(11,.list 7 e_3 f_4),(12,.int .i64 x_5),(13,.int .i64 x_6),(19,.list 2 e_7 f_8),(20,.int .i64 x_9),(21,.int .i64 x_10)]
def Zhw {R:Type} (K:X → List V → S → Option R) (x_1:Int) (x_2:Int) (e_3:List V) (f_4:Fl) (x_5:Int) (x_6:Int) (e_7:List V) (f_8:Fl) (x_9:Int) (e_11:List V) (f_12:Fl) (x_13:Int) (x_14:Int) (x_15:Int) (x_16:Int) (x_17:Int) (x_18:Int) (w_19:ByteArray) (e_20:List V) (f_21:Fl):ByteArray → Option R:=(fun w_1'=>K .ret (mkF 0 34 [(1,.int .i64 x_1),(4,.int .i64 x_2),(5,.str (w_1')),(11,.list 7 e_3 f_4),(12,.int .i64 x_5),(13,.int .i64 x_6)]) [some ⟨[.agg [.list 7 e_11 f_12,.int .i64 x_13]],2,33,0⟩,some ⟨[.agg [.int .i64 x_14,.int .i64 x_15,.int .i64 x_16,.int .i64 x_17,.int .i64 x_18,.str w_19,.list 2 e_20 f_21]],7,49,0⟩])
def Zht {R:Type} (K:X → List V → S → Option R) (x_1:Int) (x_2:Int) (e_3:List V) (f_4:Fl) (x_5:Int) (x_6:Int) (e_7:List V) (f_8:Fl) (x_9:Int) (e_11:List V) (f_12:Fl) (x_13:Int) (x_14:Int) (x_15:Int) (x_16:Int) (x_17:Int) (x_18:Int) (w_19:ByteArray) (e_20:List V) (f_21:Fl):Unit → Option R:=(fun _=>K (.exit 2) (mkF 0 34 [(1,.int .i64 x_1),(11,.list 7 e_3 f_4),(12,.int .i64 x_5),(13,.int .i64 x_6)]) [some ⟨[.agg [.list 7 e_11 f_12,.int .i64 x_13]],2,33,0⟩,some ⟨[.agg [.int .i64 x_14,.int .i64 x_15,.int .i64 x_16,.int .i64 x_17,.int .i64 x_18,.str w_19,.list 2 e_20 f_21]],7,49,0⟩])
abbrev Znc {R:Type} (N:Nat):Nat → List V → S → (X → List V → S → Option R) → Option R:=fun n=>ZcX C (ZnP N) (Zad) ZwH [0,1,1,0,0,1,1,0,0,1,0,1] true Zob Zxg n R
theorem ZL1 {R:Type} (N n:Nat) (x_1 x_2:Int) (e_3:List V) (f_4:Fl) (x_5 x_6:Int) (e_7:List V) (f_8:Fl) (x_9:Int) (e_11:List V) (f_12:Fl) (x_13 x_14 x_15 x_16 x_17 x_18:Int) (w_19:ByteArray) (e_20:List V) (f_21:Fl) (x_10:Int) (K:X → List V → S → Option R) :
 Znc N (n + 1) (Zk3 x_1 x_2 e_3 f_4 x_5 x_6 e_7 f_8 x_9 e_11 f_12 x_13 x_14 x_15 x_16 x_17 x_18 w_19 e_20 f_21 x_10) [some ⟨[.agg [.list 7 e_11 f_12,.int .i64 x_13]],2,33,0⟩,some ⟨[.agg [.int .i64 x_14,.int .i64 x_15,.int .i64 x_16,.int .i64 x_17,.int .i64 x_18,.str w_19,.list 2 e_20 f_21]],7,49,0⟩] K =
 ZdM N x_1 x_2 e_3 f_4 x_5 x_6 e_7 f_8 x_9 e_11 f_12 x_13 x_14 x_15 x_16 x_17 x_18 w_19 e_20 f_21 (fun x_10=>Znc N n (Zk3 x_1 x_2 e_3 f_4 x_5 x_6 e_7 f_8 x_9 e_11 f_12 x_13 x_14 x_15 x_16 x_17 x_18 w_19 e_20 f_21 x_10) [some ⟨[.agg [.list 7 e_11 f_12,.int .i64 x_13]],2,33,0⟩,some ⟨[.agg [.int .i64 x_14,.int .i64 x_15,.int .i64 x_16,.int .i64 x_17,.int .i64 x_18,.str w_19,.list 2 e_20 f_21]],7,49,0⟩] K) x_10 (Zhw K x_1 x_2 e_3 f_4 x_5 x_6 e_7 f_8 x_9 e_11 f_12 x_13 x_14 x_15 x_16 x_17 x_18 w_19 e_20 f_21) (Zht K x_1 x_2 e_3 f_4 x_5 x_6 e_7 f_8 x_9 e_11 f_12 x_13 x_14 x_15 x_16 x_17 x_18 w_19 e_20 f_21):=by kernel_rfl
theorem ZEz {R:Type} (N:Nat) (x_1 x_2:Int) (e_3:List V) (f_4:Fl) (x_5 x_6:Int) (e_7:List V) (f_8:Fl) (x_9:Int) (e_11:List V) (f_12:Fl) (x_13 x_14 x_15 x_16 x_17 x_18:Int) (w_19:ByteArray) (e_20:List V) (f_21:Fl) (K:X → List V → S → Option R):∀ (n:Nat) (x_10:Int),
 Znc N n (Zk3 x_1 x_2 e_3 f_4 x_5 x_6 e_7 f_8 x_9 e_11 f_12 x_13 x_14 x_15 x_16 x_17 x_18 w_19 e_20 f_21 x_10) [some ⟨[.agg [.list 7 e_11 f_12,.int .i64 x_13]],2,33,0⟩,some ⟨[.agg [.int .i64 x_14,.int .i64 x_15,.int .i64 x_16,.int .i64 x_17,.int .i64 x_18,.str w_19,.list 2 e_20 f_21]],7,49,0⟩] K = ZfG N x_1 x_2 e_3 f_4 x_5 x_6 e_7 f_8 x_9 e_11 f_12 x_13 x_14 x_15 x_16 x_17 x_18 w_19 e_20 f_21 (Zhw K x_1 x_2 e_3 f_4 x_5 x_6 e_7 f_8 x_9 e_11 f_12 x_13 x_14 x_15 x_16 x_17 x_18 w_19 e_20 f_21) (Zht K x_1 x_2 e_3 f_4 x_5 x_6 e_7 f_8 x_9 e_11 f_12 x_13 x_14 x_15 x_16 x_17 x_18 w_19 e_20 f_21) n x_10
 | 0,_=>rfl
 | n + 1,x_10=>(ZL1 N n x_1 x_2 e_3 f_4 x_5 x_6 e_7 f_8 x_9 e_11 f_12 x_13 x_14 x_15 x_16 x_17 x_18 w_19 e_20 f_21 x_10 K).trans (congrArg (fun nx=>ZdM N x_1 x_2 e_3 f_4 x_5 x_6 e_7 f_8 x_9 e_11 f_12 x_13 x_14 x_15 x_16 x_17 x_18 w_19 e_20 f_21 nx x_10 (Zhw K x_1 x_2 e_3 f_4 x_5 x_6 e_7 f_8 x_9 e_11 f_12 x_13 x_14 x_15 x_16 x_17 x_18 w_19 e_20 f_21) (Zht K x_1 x_2 e_3 f_4 x_5 x_6 e_7 f_8 x_9 e_11 f_12 x_13 x_14 x_15 x_16 x_17 x_18 w_19 e_20 f_21)) (funext fun x_10=>ZEz N x_1 x_2 e_3 f_4 x_5 x_6 e_7 f_8 x_9 e_11 f_12 x_13 x_14 x_15 x_16 x_17 x_18 w_19 e_20 f_21 K n x_10))
def ZvR {R:Type} (E:List V) (s:S) (k:Int → Int → List V → Fl → Int → Int → List V → Fl → Int → Int → List V → Fl → Int → Int → Int → Int → Int → Int → ByteArray → List V → Fl → Option R):Option R :=
 Zaj (Za3 34 [1,6,11,12,13,19,20,21] E) <| ZaZ E 1 .i64 fun x_1=>ZaZ E 6 .i64 fun x_2=>Zbu E 11 7 fun e_3 f_4=>ZaZ E 12 .i64 fun x_5=>ZaZ E 13 .i64 fun x_6=>Zbu E 19 2 fun e_7 f_8=>ZaZ E 20 .i64 fun x_9=>ZaZ E 21 .i64 fun x_10=>ZdW s fun o'1 s'2=>ZcW o'1 2 33 fun e'3 k'4=>isN k'4 0 <| Zco e'3 fun v'5=>asAgg v'5 fun c'6=>Zcf c'6 fun v'7 v'8=>ZaX 7 v'7 fun e_11 f_12=>asInt .i64 v'8 fun x_13=>ZdW s'2 fun o'9 s'10=>ZcW o'9 7 49 fun e'11 k'12=>isN k'12 0 <| Zco e'11 fun v'13=>asAgg v'13 fun c'14=>ZKL c'14 fun v'15 v'16 v'17 v'18 v'19 v'20 v'21=>asInt .i64 v'15 fun x_14=>asInt .i64 v'16 fun x_15=>asInt .i64 v'17 fun x_16=>asInt .i64 v'18 fun x_17=>asInt .i64 v'19 fun x_18=>Zby v'20 fun w_19=>ZaX 2 v'21 fun e_20 f_21=>ZaR s'10 <| k x_1 x_2 e_3 f_4 x_5 x_6 e_7 f_8 x_9 x_10 e_11 f_12 x_13 x_14 x_15 x_16 x_17 x_18 w_19 e_20 f_21
theorem ZqH {R:Type} {E:List V} {s:S} {k:Int → Int → List V → Fl → Int → Int → List V → Fl → Int → Int → List V → Fl → Int → Int → Int → Int → Int → Int → ByteArray → List V → Fl → Option R} {r:R} (h:ZvR E s k = some r):∃ x_1 x_2 e_3 f_4 x_5 x_6 e_7 f_8 x_9 x_10 e_11 f_12 x_13 x_14 x_15 x_16 x_17 x_18 w_19 e_20 f_21,E = Zk3 x_1 x_2 e_3 f_4 x_5 x_6 e_7 f_8 x_9 e_11 f_12 x_13 x_14 x_15 x_16 x_17 x_18 w_19 e_20 f_21 x_10 ∧ s = [some ⟨[.agg [.list 7 e_11 f_12,.int .i64 x_13]],2,33,0⟩,some ⟨[.agg [.int .i64 x_14,.int .i64 x_15,.int .i64 x_16,.int .i64 x_17,.int .i64 x_18,.str w_19,.list 2 e_20 f_21]],7,49,0⟩] ∧ k x_1 x_2 e_3 f_4 x_5 x_6 e_7 f_8 x_9 x_10 e_11 f_12 x_13 x_14 x_15 x_16 x_17 x_18 w_19 e_20 f_21 = some r:=by
 unfold ZvR at h
 obtain ⟨hg,h1⟩:=Zac h
 obtain ⟨_,hu1,h2⟩:=Zah h1
 obtain ⟨_,hu6,h3⟩:=Zah h2
 obtain ⟨_,_,hu11,h4⟩:=ZaC h3
 obtain ⟨_,hu12,h5⟩:=Zah h4
 obtain ⟨_,hu13,h6⟩:=Zah h5
 obtain ⟨_,_,hu19,h7⟩:=ZaC h6
 obtain ⟨_,hu20,h8⟩:=Zah h7
 obtain ⟨_,hu21,h9⟩:=Zah h8
 obtain ⟨_,_,rfl,h10⟩:=ZaP h9
 obtain ⟨_,_,rfl,h11⟩:=ZaJ h10
 obtain ⟨rfl,h12⟩:=Zap h11
 obtain ⟨_,rfl,h13⟩:=Zat h12
 obtain ⟨_,rfl,h14⟩:=ZaF h13
 obtain ⟨_,_,rfl,h15⟩:=Zas h14
 obtain ⟨_,_,rfl,h16⟩:=Zam h15
 obtain ⟨_,rfl,h17⟩:=Zaf h16
 obtain ⟨_,_,rfl,h18⟩:=ZaP h17
 obtain ⟨_,_,rfl,h19⟩:=ZaJ h18
 obtain ⟨rfl,h20⟩:=Zap h19
 obtain ⟨_,rfl,h21⟩:=Zat h20
 obtain ⟨_,rfl,h22⟩:=ZaF h21
 obtain ⟨_,_,_,_,_,_,_,rfl,h23⟩:=ZeH h22
 obtain ⟨_,rfl,h24⟩:=Zaf h23
 obtain ⟨_,rfl,h25⟩:=Zaf h24
 obtain ⟨_,rfl,h26⟩:=Zaf h25
 obtain ⟨_,rfl,h27⟩:=Zaf h26
 obtain ⟨_,rfl,h28⟩:=Zaf h27
 obtain ⟨_,rfl,h29⟩:=ZaD h28
 obtain ⟨_,_,rfl,h30⟩:=Zam h29
 obtain ⟨rfl,h31⟩:=Zae h30
 exact ⟨_,_,_,_,_,_,_,_,_,_,_,_,_,_,_,_,_,_,_,_,_,ZaU hg rfl (Zab hu1 (Zab hu6 (Zab hu11 (Zab hu12 (Zab hu13 (Zab hu19 (Zab hu20 (Zab hu21 ZaL)))))))),rfl,h31⟩
def ZoP (N:Nat):Zax:=(Zad).add [0,1,1,0,0,1,1,0,0,1,0,1] fun _ E s K=>ZvR (Zbh Zob E) s fun x_1 x_2 e_3 f_4 x_5 x_6 e_7 f_8 x_9 x_10 e_11 f_12 x_13 x_14 x_15 x_16 x_17 x_18 w_19 e_20 f_21=>ZfG N x_1 x_2 e_3 f_4 x_5 x_6 e_7 f_8 x_9 e_11 f_12 x_13 x_14 x_15 x_16 x_17 x_18 w_19 e_20 f_21 (Zhw K x_1 x_2 e_3 f_4 x_5 x_6 e_7 f_8 x_9 e_11 f_12 x_13 x_14 x_15 x_16 x_17 x_18 w_19 e_20 f_21) (Zht K x_1 x_2 e_3 f_4 x_5 x_6 e_7 f_8 x_9 e_11 f_12 x_13 x_14 x_15 x_16 x_17 x_18 w_19 e_20 f_21) N x_10
theorem ZG3 {N:Nat} (hC:Ok Tryz.prog C) (hΦ:Zaa Tryz.prog C (ZnP N)):Za7 Tryz.prog C (ZoP N) ZwH [0,1,1,0,0,1,1,0,0,1,0,1] :=
 Za6 (Λi:=Zad) (tr:=true) (ks:=Zob) (kx:=Zxg) (N:=N) hC hΦ
  (Zai (by kernel_rfl))
  fun R E s K r h=>by
   have h2:=Zax.add_self.symm.trans h
   refine (Zaw rfl).trans ?_
   obtain ⟨_,_,_,_,_,_,_,_,_,_,_,_,_,_,_,_,_,_,_,_,_,he,rfl,h3⟩:=ZqH h2
   rw [he]
   exact (ZEz N _ _ _ _ _ _ _ _ _ _ _ _ _ _ _ _ _ _ _ _ _ N _).trans h3
def Zn0:List Nat:=ZbR 34 [1,11,12,13]
def ZwU:List Nat:=ZbR 34 [4,5]
def ZkT (x_1:Int) (e_2:List V) (f_3:Fl) (x_4:Int) (e_6:List V) (f_7:Fl) (x_8 x_5:Int):List V:=mkF 0 34 [(1,.int .i64 x_1),(11,.list 7 e_2 f_3),(12,.int .i64 x_4),(13,.int .i64 x_5)]
def ZhN {R:Type} (K:X → List V → S → Option R) (x_1:Int) (e_2:List V) (f_3:Fl) (x_4:Int) (e_6:List V) (f_7:Fl) (x_8:Int):Int → ByteArray → Option R:=(fun x_1' w_2'=>K .ret (mkF 0 34 [(4,.int .i64 (x_1')),(5,.str (w_2'))]) [some ⟨[.agg [.list 7 e_6 f_7,.int .i64 x_8]],2,33,0⟩])
def Zhz {R:Type} (K:X → List V → S → Option R) (x_1:Int) (e_2:List V) (f_3:Fl) (x_4:Int) (e_6:List V) (f_7:Fl) (x_8:Int):Unit → Option R:=(fun _=>K (.exit 0) (mkF 0 34 []) [some ⟨[.agg [.list 7 e_6 f_7,.int .i64 x_8]],2,33,0⟩])
abbrev ZpA {R:Type} (N:Nat):Nat → List V → S → (X → List V → S → Option R) → Option R:=fun n=>ZcX C (ZnP N) (ZoP N) ZjC [0,1,0,1] true Zn0 ZwU n R
theorem ZMT {R:Type} (N n:Nat) (x_1:Int) (e_2:List V) (f_3:Fl) (x_4:Int) (e_6:List V) (f_7:Fl) (x_8:Int) (x_5:Int) (K:X → List V → S → Option R) :
 ZpA N (n + 1) (ZkT x_1 e_2 f_3 x_4 e_6 f_7 x_8 x_5) [some ⟨[.agg [.list 7 e_6 f_7,.int .i64 x_8]],2,33,0⟩] K =
 Zdg N x_1 e_2 f_3 x_4 e_6 f_7 x_8 (fun x_5=>ZpA N n (ZkT x_1 e_2 f_3 x_4 e_6 f_7 x_8 x_5) [some ⟨[.agg [.list 7 e_6 f_7,.int .i64 x_8]],2,33,0⟩] K) x_5 (ZhN K x_1 e_2 f_3 x_4 e_6 f_7 x_8) (Zhz K x_1 e_2 f_3 x_4 e_6 f_7 x_8):=by kernel_rfl
theorem ZDc {R:Type} (N:Nat) (x_1:Int) (e_2:List V) (f_3:Fl) (x_4:Int) (e_6:List V) (f_7:Fl) (x_8:Int) (K:X → List V → S → Option R):∀ (n:Nat) (x_5:Int),
 ZpA N n (ZkT x_1 e_2 f_3 x_4 e_6 f_7 x_8 x_5) [some ⟨[.agg [.list 7 e_6 f_7,.int .i64 x_8]],2,33,0⟩] K = Zg9 N x_1 e_2 f_3 x_4 e_6 f_7 x_8 (ZhN K x_1 e_2 f_3 x_4 e_6 f_7 x_8) (Zhz K x_1 e_2 f_3 x_4 e_6 f_7 x_8) n x_5
 | 0,_=>rfl
 | n + 1,x_5=>(ZMT N n x_1 e_2 f_3 x_4 e_6 f_7 x_8 x_5 K).trans (congrArg (fun nx=>Zdg N x_1 e_2 f_3 x_4 e_6 f_7 x_8 nx x_5 (ZhN K x_1 e_2 f_3 x_4 e_6 f_7 x_8) (Zhz K x_1 e_2 f_3 x_4 e_6 f_7 x_8)) (funext fun x_5=>ZDc N x_1 e_2 f_3 x_4 e_6 f_7 x_8 K n x_5))
def ZtR {R:Type} (E:List V) (s:S) (k:Int → List V → Fl → Int → Int → List V → Fl → Int → Option R):Option R :=
 Zaj (Za3 34 [1,11,12,13] E) <| ZaZ E 1 .i64 fun x_1=>Zbu E 11 7 fun e_2 f_3=>ZaZ E 12 .i64 fun x_4=>ZaZ E 13 .i64 fun x_5=>ZdW s fun o'1 s'2=>ZcW o'1 2 33 fun e'3 k'4=>isN k'4 0 <| Zco e'3 fun v'5=>asAgg v'5 fun c'6=>Zcf c'6 fun v'7 v'8=>ZaX 7 v'7 fun e_6 f_7=>asInt .i64 v'8 fun x_8=>ZaR s'2 <| k x_1 e_2 f_3 x_4 x_5 e_6 f_7 x_8
theorem Zq4 {R:Type} {E:List V} {s:S} {k:Int → List V → Fl → Int → Int → List V → Fl → Int → Option R} {r:R} (h:ZtR E s k = some r):∃ x_1 e_2 f_3 x_4 x_5 e_6 f_7 x_8,E = ZkT x_1 e_2 f_3 x_4 e_6 f_7 x_8 x_5 ∧ s = [some ⟨[.agg [.list 7 e_6 f_7,.int .i64 x_8]],2,33,0⟩] ∧ k x_1 e_2 f_3 x_4 x_5 e_6 f_7 x_8 = some r:=by
 unfold ZtR at h
 obtain ⟨hg,h1⟩:=Zac h
 obtain ⟨_,hu1,h2⟩:=Zah h1
 obtain ⟨_,_,hu11,h3⟩:=ZaC h2
 obtain ⟨_,hu12,h4⟩:=Zah h3
 obtain ⟨_,hu13,h5⟩:=Zah h4
 obtain ⟨_,_,rfl,h6⟩:=ZaP h5
 obtain ⟨_,_,rfl,h7⟩:=ZaJ h6
 obtain ⟨rfl,h8⟩:=Zap h7
 obtain ⟨_,rfl,h9⟩:=Zat h8
 obtain ⟨_,rfl,h10⟩:=ZaF h9
 obtain ⟨_,_,rfl,h11⟩:=Zas h10
 obtain ⟨_,_,rfl,h12⟩:=Zam h11
 obtain ⟨_,rfl,h13⟩:=Zaf h12
 obtain ⟨rfl,h14⟩:=Zae h13
 exact ⟨_,_,_,_,_,_,_,_,ZaU hg rfl (Zab hu1 (Zab hu11 (Zab hu12 (Zab hu13 ZaL)))),rfl,h14⟩
def ZvL (N:Nat):Zax:=(ZoP N).add [0,1,0,1] fun _ E s K=>ZtR (Zbh Zn0 E) s fun x_1 e_2 f_3 x_4 x_5 e_6 f_7 x_8=>Zg9 N x_1 e_2 f_3 x_4 e_6 f_7 x_8 (ZhN K x_1 e_2 f_3 x_4 e_6 f_7 x_8) (Zhz K x_1 e_2 f_3 x_4 e_6 f_7 x_8) N x_5
theorem ZG6:Za0 ZjC (0 :: [0,1,0,1]) = [([0,1,1,0,0,1,1,0,0,1,0,1],ZwH)]:=by kernel_rfl
theorem ZJ3 {N:Nat} (hC:Ok Tryz.prog C) (hΦ:Zaa Tryz.prog C (ZnP N)):Za7 Tryz.prog C (ZvL N) ZjC [0,1,0,1] :=
 Za6 (Λi:=ZoP N) (tr:=true) (ks:=Zn0) (kx:=ZwU) (N:=N) hC hΦ
  (ZaG ZjC _ (by
   rw [ZG6]
   intro p hp
   simp only [List.mem_cons,List.mem_nil_iff,or_false] at hp
   rcases hp with rfl
   ·exact (ZG3 hC hΦ)))
  fun R E s K r h=>by
   have h2:=Zax.add_self.symm.trans h
   refine (Zaw rfl).trans ?_
   obtain ⟨_,_,_,_,_,_,_,_,he,rfl,h3⟩:=Zq4 h2
   rw [he]
   exact (ZDc N _ _ _ _ _ _ _ _ N _).trans h3
theorem ZOY:Za0 ZCP [] = [([0,1,0,1],ZjC)]:=by kernel_rfl
theorem ZQd {R:Type} (N:Nat) (e_1:List V) (f_2:Fl) (x_3 x_4:Int) (K:V → S → Option R):Za2 C (ZnP N) (ZvL N) 58 Tryz.f58 [.agg [.list 7 e_1 f_2,.int .i64 x_3],.int .i64 x_4] [] K =
 Zs8 N e_1 f_2 x_3 x_4 (fun x_5 w_6=>K (.tuple [.int .i64 x_5,.str w_6]) []):=by kernel_rfl
theorem ZGt {N:Nat} (hC:Ok Tryz.prog C) (hΦ:Zaa Tryz.prog C (ZnP N)):ZaV Tryz.prog C (ZvL N) ZCP [] :=
 ZaG ZCP [] (by
  rw [ZOY]
  intro p hp
  simp only [List.mem_cons,List.mem_nil_iff,or_false] at hp
  rcases hp with rfl
  ·exact (ZJ3 hC hΦ))
theorem ZAG (hC:Ok Tryz.prog C) {N:Nat} (hΦ:Zaa Tryz.prog C (ZnP N)):Zaa Tryz.prog C (Zvh N):=by
 refine hΦ.add_pure rfl fun R vs K r h=>?_
 unfold ZPb at h
 obtain ⟨_,_,rfl,h1⟩:=Zas h
 obtain ⟨_,_,_,rfl,h2⟩:=ZaH h1
 obtain ⟨_,rfl,h3⟩:=Zaf h2
 obtain ⟨_,h4⟩:=Zae h3
 refine Zaq (fn:=Tryz.f58) (c:=ZCP) hC hΦ Tryz.func58 (by kernel_rfl) (by kernel_rfl) (ZGt (N:=N) hC hΦ) rfl rfl ?_
 refine (ZQd N _ _ _ _ _).trans ?_
 rw [← ZzM]
 exact h4
def ZOf (N:Nat):(R:Type) → List V → S → (V → S → Option R) → Option R:=fun _ vs s K =>
 ZEn vs fun v'1 v'2 v'3=>Za9 v'1 fun e_1 f_2 x_3=>asInt .i64 v'2 fun x_4=>Zby v'3 fun w_5=>ZaR s <| ZI7 N e_1 f_2 x_3 x_4 w_5 (fun x_6=>K (.int .i64 x_6) [])
def ZLA (N:Nat):Zar:=(Zvh N).add 59 (ZOf N)
def ZE9:Code:=ZaS Tryz.f59
def ZvB:Code:=(Zbn ZE9 [] 0).2
def Zol:List Nat:=ZbR 27 [2,14,15,16]
def ZxZ:List Nat:=ZbR 27 [6]
def Zkn (w_1:ByteArray) (e_2:List V) (f_3:Fl) (x_4:Int) (e_6:List V) (f_7:Fl) (x_8 x_5:Int):List V:=mkF 0 27 [(2,.str w_1),(14,.list 2 e_2 f_3),(15,.int .i64 x_4),(16,.int .i64 x_5)]
def ZiS {R:Type} (K:X → List V → S → Option R) (w_1:ByteArray) (e_2:List V) (f_3:Fl) (x_4:Int) (e_6:List V) (f_7:Fl) (x_8:Int):Int → Option R:=(fun x_1'=>K .ret (mkF 0 27 [(6,.int .i64 (x_1'))]) [some ⟨[.agg [.list 7 e_6 f_7,.int .i64 x_8]],2,33,0⟩])
def Ziu {R:Type} (K:X → List V → S → Option R) (w_1:ByteArray) (e_2:List V) (f_3:Fl) (x_4:Int) (e_6:List V) (f_7:Fl) (x_8:Int):Unit → Option R:=(fun _=>K (.exit 0) (mkF 0 27 []) [some ⟨[.agg [.list 7 e_6 f_7,.int .i64 x_8]],2,33,0⟩])
abbrev Zoa {R:Type} (N:Nat):Nat → List V → S → (X → List V → S → Option R) → Option R:=fun n=>ZcX C (Zvh N) (Zad) ZvB [0,1,0,1] true Zol ZxZ n R
theorem ZMI {R:Type} (N n:Nat) (w_1:ByteArray) (e_2:List V) (f_3:Fl) (x_4:Int) (e_6:List V) (f_7:Fl) (x_8:Int) (x_5:Int) (K:X → List V → S → Option R) :
 Zoa N (n + 1) (Zkn w_1 e_2 f_3 x_4 e_6 f_7 x_8 x_5) [some ⟨[.agg [.list 7 e_6 f_7,.int .i64 x_8]],2,33,0⟩] K =
 Zdq N w_1 e_2 f_3 x_4 e_6 f_7 x_8 (fun x_5=>Zoa N n (Zkn w_1 e_2 f_3 x_4 e_6 f_7 x_8 x_5) [some ⟨[.agg [.list 7 e_6 f_7,.int .i64 x_8]],2,33,0⟩] K) x_5 (ZiS K w_1 e_2 f_3 x_4 e_6 f_7 x_8) (Ziu K w_1 e_2 f_3 x_4 e_6 f_7 x_8):=by kernel_rfl
theorem ZCJ {R:Type} (N:Nat) (w_1:ByteArray) (e_2:List V) (f_3:Fl) (x_4:Int) (e_6:List V) (f_7:Fl) (x_8:Int) (K:X → List V → S → Option R):∀ (n:Nat) (x_5:Int),
 Zoa N n (Zkn w_1 e_2 f_3 x_4 e_6 f_7 x_8 x_5) [some ⟨[.agg [.list 7 e_6 f_7,.int .i64 x_8]],2,33,0⟩] K = Zgo N w_1 e_2 f_3 x_4 e_6 f_7 x_8 (ZiS K w_1 e_2 f_3 x_4 e_6 f_7 x_8) (Ziu K w_1 e_2 f_3 x_4 e_6 f_7 x_8) n x_5
 | 0,_=>rfl
 | n + 1,x_5=>(ZMI N n w_1 e_2 f_3 x_4 e_6 f_7 x_8 x_5 K).trans (congrArg (fun nx=>Zdq N w_1 e_2 f_3 x_4 e_6 f_7 x_8 nx x_5 (ZiS K w_1 e_2 f_3 x_4 e_6 f_7 x_8) (Ziu K w_1 e_2 f_3 x_4 e_6 f_7 x_8)) (funext fun x_5=>ZCJ N w_1 e_2 f_3 x_4 e_6 f_7 x_8 K n x_5))
def ZvP {R:Type} (E:List V) (s:S) (k:ByteArray → List V → Fl → Int → Int → List V → Fl → Int → Option R):Option R :=
 Zaj (Za3 27 [2,14,15,16] E) <| Zlm E 2 fun w_1=>Zbu E 14 2 fun e_2 f_3=>ZaZ E 15 .i64 fun x_4=>ZaZ E 16 .i64 fun x_5=>ZdW s fun o'1 s'2=>ZcW o'1 2 33 fun e'3 k'4=>isN k'4 0 <| Zco e'3 fun v'5=>asAgg v'5 fun c'6=>Zcf c'6 fun v'7 v'8=>ZaX 7 v'7 fun e_6 f_7=>asInt .i64 v'8 fun x_8=>ZaR s'2 <| k w_1 e_2 f_3 x_4 x_5 e_6 f_7 x_8
theorem ZqC {R:Type} {E:List V} {s:S} {k:ByteArray → List V → Fl → Int → Int → List V → Fl → Int → Option R} {r:R} (h:ZvP E s k = some r):∃ w_1 e_2 f_3 x_4 x_5 e_6 f_7 x_8,E = Zkn w_1 e_2 f_3 x_4 e_6 f_7 x_8 x_5 ∧ s = [some ⟨[.agg [.list 7 e_6 f_7,.int .i64 x_8]],2,33,0⟩] ∧ k w_1 e_2 f_3 x_4 x_5 e_6 f_7 x_8 = some r:=by
 unfold ZvP at h
 obtain ⟨hg,h1⟩:=Zac h
 obtain ⟨_,hu2,h2⟩:=Zcl h1
 obtain ⟨_,_,hu14,h3⟩:=ZaC h2
 obtain ⟨_,hu15,h4⟩:=Zah h3
 obtain ⟨_,hu16,h5⟩:=Zah h4
 obtain ⟨_,_,rfl,h6⟩:=ZaP h5
 obtain ⟨_,_,rfl,h7⟩:=ZaJ h6
 obtain ⟨rfl,h8⟩:=Zap h7
 obtain ⟨_,rfl,h9⟩:=Zat h8
 obtain ⟨_,rfl,h10⟩:=ZaF h9
 obtain ⟨_,_,rfl,h11⟩:=Zas h10
 obtain ⟨_,_,rfl,h12⟩:=Zam h11
 obtain ⟨_,rfl,h13⟩:=Zaf h12
 obtain ⟨rfl,h14⟩:=Zae h13
 exact ⟨_,_,_,_,_,_,_,_,ZaU hg rfl (Zab hu2 (Zab hu14 (Zab hu15 (Zab hu16 ZaL)))),rfl,h14⟩
def Ztu (N:Nat):Zax:=(Zad).add [0,1,0,1] fun _ E s K=>ZvP (Zbh Zol E) s fun w_1 e_2 f_3 x_4 x_5 e_6 f_7 x_8=>Zgo N w_1 e_2 f_3 x_4 e_6 f_7 x_8 (ZiS K w_1 e_2 f_3 x_4 e_6 f_7 x_8) (Ziu K w_1 e_2 f_3 x_4 e_6 f_7 x_8) N x_5
theorem ZJT {N:Nat} (hC:Ok Tryz.prog C) (hΦ:Zaa Tryz.prog C (Zvh N)):Za7 Tryz.prog C (Ztu N) ZvB [0,1,0,1] :=
 Za6 (Λi:=Zad) (tr:=true) (ks:=Zol) (kx:=ZxZ) (N:=N) hC hΦ
  (Zai (by kernel_rfl))
  fun R E s K r h=>by
   have h2:=Zax.add_self.symm.trans h
   refine (Zaw rfl).trans ?_
   obtain ⟨_,_,_,_,_,_,_,_,he,rfl,h3⟩:=ZqC h2
   rw [he]
   exact (ZCJ N _ _ _ _ _ _ _ _ N _).trans h3
theorem ZO6:Za0 ZE9 [] = [([0,1,0,1],ZvB)]:=by kernel_rfl
theorem ZQN {R:Type} (N:Nat) (e_1:List V) (f_2:Fl) (x_3 x_4:Int) (w_5:ByteArray) (K:V → S → Option R):Za2 C (Zvh N) (Ztu N) 59 Tryz.f59 [.agg [.list 7 e_1 f_2,.int .i64 x_3],.int .i64 x_4,.str w_5] [] K =
 ZrP N e_1 f_2 x_3 x_4 w_5 (fun x_6=>K (.int .i64 x_6) []):=by kernel_rfl
theorem ZCM {N:Nat} (hC:Ok Tryz.prog C) (hΦ:Zaa Tryz.prog C (Zvh N)):ZaV Tryz.prog C (Ztu N) ZE9 [] :=
 ZaG ZE9 [] (by
  rw [ZO6]
  intro p hp
  simp only [List.mem_cons,List.mem_nil_iff,or_false] at hp
  rcases hp with rfl
  ·exact (ZJT hC hΦ))
theorem ZA8 (hC:Ok Tryz.prog C) {N:Nat} (hΦ:Zaa Tryz.prog C (Zvh N)):Zaa Tryz.prog C (ZLA N):=by
 refine hΦ.add_pure rfl fun R vs K r h=>?_
 unfold ZOf at h
 obtain ⟨_,_,_,rfl,h1⟩:=ZcC h
 obtain ⟨_,_,_,rfl,h2⟩:=ZaH h1
 obtain ⟨_,rfl,h3⟩:=Zaf h2
 obtain ⟨_,rfl,h4⟩:=ZaD h3
 obtain ⟨_,h5⟩:=Zae h4
 refine Zaq (fn:=Tryz.f59) (c:=ZE9) hC hΦ Tryz.func59 (by kernel_rfl) (by kernel_rfl) (ZCM (N:=N) hC hΦ) rfl rfl ?_
 refine (ZQN N _ _ _ _ _ _).trans ?_
 rw [← Zzr]
 exact h5
def ZM9 (N:Nat):(R:Type) → List V → S → (V → S → Option R) → Option R:=fun _ vs s K =>
 Zcf vs fun v'1 v'2=>ZKA v'1 <| asInt .i64 v'2 fun x_1=>ZaR s <| ZLL N x_1 (fun e_2=>K (.list 1 e_2 (.own 9)) [])
def Znj (N:Nat):Zar:=(ZLA N).add 81 (ZM9 N)
open Go.RowKit Go.Lib in
set_option maxRecDepth 100000 in
theorem ZFm (w:World):Calls Tryz.prog 81 #[.slice none 0 0,.int .i64 0] w fun e w'=>e = .returned (.slice none 0 0) ∧ w' = w:=by
 go_enter Tryz.func81,Tryz.ntmps81
 go_wp2
 go_ret
 exact ⟨rfl,rfl⟩
open Go.RowKit Go.Lib in
set_option maxRecDepth 100000 in
set_option maxHeartbeats 1000000 in
theorem ZCW (w:World) (n:Nat) (i0:TypeInfo) (z:Value) (hn:0 < n) (hi0:Tryz.prog.info? 9 = some i0) (hz0:i0.zero = some z) (hs0:0 < i0.size) (hbig:n * i0.bytes ≤ 140737488355328) (h63:n ≤ 4611686018427387904) :
  Calls Tryz.prog 81 #[.slice none 0 0,.int .i64 n] w fun e w' =>
   e = .returned (.slice (some ⟨w.heap.size,0,none⟩) 0 (grownCap w n 0 9)) ∧
   w' = w.drew.alloc (.cells (Builtin.zeroCells z.cells n ++ Builtin.zeroCells z.cells (grownCap w n 0 9 - n)) 9):=by
 have h1:¬ ((n:Int) < 0):=by omega
 have h3:wrap64 ((n:Int) - (0 - 0)) = (n:Int):=by unfold wrap64; omega
 have h4:(n:Int) > 0:=by omega
 have hold:(Builtin.firstCells i0.size 0 (.slice none 0 0)).run Tryz.prog w.drew = .ok (#[]:Array Value) w.drew:=run_firstCells_none w.drew i0.size 0 0 0
 have hrz:∀ ty,(Builtin.append_ #[28,3] ty #[.slice none 0 0,.int .i64 (n:Int)]).run Tryz.prog w =
   .ok (.slice (some ⟨w.heap.size,0,none⟩) n (grownCap w n 0 9)) (w.drew.alloc (.cells (Builtin.zeroCells z.cells n ++ Builtin.zeroCells z.cells (grownCap w n 0 9 - n)) 9)):=fun ty=>by
  have h:=Lib.run_append_grow_zeros w 28 3 ty 9 i0 z .i64 .i64 Tryz.underlying28 Tryz.underlying3 hi0 hz0 none 0 0 [] hold n (by omega) hs0 (by omega) (by omega)
   (by omega) (by have:=growslice_fits (old:=0) (need:=n) hn hbig; simpa using this)
  simpa using h
 have hGn:n ≤ grownCap w n 0 9:=grownCap_ge w _ _ _
 obtain ⟨G,hG⟩:∃ G,G = grownCap w n 0 9:=⟨_,rfl⟩
 rw [← hG] at hrz hGn ⊢
 have hG63:G ≤ 9223372036854775807:=by
  have:=grownCap_le_maxLen w n 0 9 (by unfold maxLen; omega)
  rw [← hG] at this
  unfold maxLen at this
  omega
 clear hold hG
 go_enter Tryz.func81,Tryz.ntmps81
 go_wp2_with (at_builtin; refine Lib.wpList_append_run _ rfl _ _ _ _ rfl _ _ rfl rfl _ _ (hrz _) ?_)
 all_goals (go_ret; exact ⟨rfl,rfl⟩)
theorem ZBe (hC:Ok Tryz.prog C) {N:Nat} (hΦ:Zaa Tryz.prog C (ZLA N)):Zaa Tryz.prog C (Znj N):=by
 refine hΦ.add_own rfl fun R vs K r h=>?_
 unfold ZM9 at h
 obtain ⟨_,_,rfl,h1⟩:=Zas h
 obtain ⟨rfl,h2⟩:=Zu4 h1
 obtain ⟨_,rfl,h3⟩:=Zaf h2
 obtain ⟨_,h4⟩:=Zae h3
 rw [ZxA] at h4
 unfold Zqh at h4
 split at h4 <;> first | (cases h4; done) | skip
 rename_i hcond
 exact ⟨_,h4,Zz0 hC (e:=9) (by kernel_rfl) Tryz.func81 (by kernel_rfl) (by kernel_rfl) ZFm ZCW (B:=16) (sz:=1) (by kernel_rfl) (by kernel_rfl) hcond⟩
def ZN3 (N:Nat):(R:Type) → List V → S → (V → S → Option R) → Option R:=fun _ vs s K =>
 Zco vs fun v'1=>ZaX 1 v'1 fun e_1 f_2=>ZaR s <| ZBk N e_1 f_2 (fun e_3=>K (.list 1 e_3 .sh) [])
def Zwp (N:Nat):Zar:=(Znj N).add 60 (ZN3 N)
def ZBi:Code:=ZaS Tryz.f60
def ZuP:Code:=(Zbn ZBi [] 0).2
def Zvx:Code:=(Zbn ZBi [] 1).2
def Zm6:List Nat:=ZbR 36 [0,3,9,10,11]
def ZyU:List Nat:=ZbR 36 [0,3]
def Zkr (e_1:List V) (f_2:Fl) (e_4:List V) (f_5:Fl) (x_6 x_3 x_7:Int):List V:=mkF 0 36 [(0,.list 1 e_1 f_2),(3,.int .i64 x_3),(9,.list 1 e_4 f_5),(10,.int .i64 x_6),(11,.int .i64 x_7)]
def Ziy {R:Type} (K:X → List V → S → Option R) (e_1:List V) (f_2:Fl) (e_4:List V) (f_5:Fl) (x_6:Int):Int → Option R:=(fun x_1'=>K (.exit 0) (mkF 0 36 [(0,.list 1 e_1 f_2),(3,.int .i64 (x_1'))]) [])
abbrev ZmY {R:Type} (N:Nat):Nat → List V → S → (X → List V → S → Option R) → Option R:=fun n=>ZcX C (Znj N) (Zad) ZuP [0,1,0,1,1] false Zm6 ZyU n R
theorem ZK8 {R:Type} (N n:Nat) (e_1:List V) (f_2:Fl) (e_4:List V) (f_5:Fl) (x_6:Int) (x_3 x_7:Int) (K:X → List V → S → Option R) :
 ZmY N (n + 1) (Zkr e_1 f_2 e_4 f_5 x_6 x_3 x_7) [] K =
 Zfx N e_1 f_2 e_4 f_5 x_6 (fun x_3 x_7=>ZmY N n (Zkr e_1 f_2 e_4 f_5 x_6 x_3 x_7) [] K) x_3 x_7 (Ziy K e_1 f_2 e_4 f_5 x_6):=by kernel_rfl
theorem ZDt {R:Type} (N:Nat) (e_1:List V) (f_2:Fl) (e_4:List V) (f_5:Fl) (x_6:Int) (K:X → List V → S → Option R):∀ (n:Nat) (x_3 x_7:Int),
 ZmY N n (Zkr e_1 f_2 e_4 f_5 x_6 x_3 x_7) [] K = Zfs N e_1 f_2 e_4 f_5 x_6 (Ziy K e_1 f_2 e_4 f_5 x_6) n x_3 x_7
 | 0,_,_=>rfl
 | n + 1,x_3,x_7=>(ZK8 N n e_1 f_2 e_4 f_5 x_6 x_3 x_7 K).trans (congrArg (fun nx=>Zfx N e_1 f_2 e_4 f_5 x_6 nx x_3 x_7 (Ziy K e_1 f_2 e_4 f_5 x_6)) (funext fun x_3=>funext fun x_7=>ZDt N e_1 f_2 e_4 f_5 x_6 K n x_3 x_7))
def ZvE {R:Type} (E:List V) (s:S) (k:List V → Fl → Int → List V → Fl → Int → Int → Option R):Option R :=
 Zaj (Za3 36 [0,3,9,10,11] E) <| Zbu E 0 1 fun e_1 f_2=>ZaZ E 3 .i64 fun x_3=>Zbu E 9 1 fun e_4 f_5=>ZaZ E 10 .i64 fun x_6=>ZaZ E 11 .i64 fun x_7=>ZaR s <| k e_1 f_2 x_3 e_4 f_5 x_6 x_7
theorem ZqT {R:Type} {E:List V} {s:S} {k:List V → Fl → Int → List V → Fl → Int → Int → Option R} {r:R} (h:ZvE E s k = some r):∃ e_1 f_2 x_3 e_4 f_5 x_6 x_7,E = Zkr e_1 f_2 e_4 f_5 x_6 x_3 x_7 ∧ s = [] ∧ k e_1 f_2 x_3 e_4 f_5 x_6 x_7 = some r:=by
 unfold ZvE at h
 obtain ⟨hg,h1⟩:=Zac h
 obtain ⟨_,_,hu0,h2⟩:=ZaC h1
 obtain ⟨_,hu3,h3⟩:=Zah h2
 obtain ⟨_,_,hu9,h4⟩:=ZaC h3
 obtain ⟨_,hu10,h5⟩:=Zah h4
 obtain ⟨_,hu11,h6⟩:=Zah h5
 obtain ⟨rfl,h7⟩:=Zae h6
 exact ⟨_,_,_,_,_,_,_,ZaU hg rfl (Zab hu0 (Zab hu3 (Zab hu9 (Zab hu10 (Zab hu11 ZaL))))),rfl,h7⟩
def Znd (N:Nat):Zax:=(Zad).add [0,1,0,1,1] fun _ E s K=>ZvE (Zbh Zm6 E) s fun e_1 f_2 x_3 e_4 f_5 x_6 x_7=>Zfs N e_1 f_2 e_4 f_5 x_6 (Ziy K e_1 f_2 e_4 f_5 x_6) N x_3 x_7
theorem ZKq {N:Nat} (hC:Ok Tryz.prog C) (hΦ:Zaa Tryz.prog C (Znj N)):Za7 Tryz.prog C (Znd N) ZuP [0,1,0,1,1] :=
 Za6 (Λi:=Zad) (tr:=false) (ks:=Zm6) (kx:=ZyU) (N:=N) hC hΦ
  (Zai (by kernel_rfl))
  fun R E s K r h=>by
   have h2:=Zax.add_self.symm.trans h
   refine (Zaw rfl).trans ?_
   obtain ⟨_,_,_,_,_,_,_,he,rfl,h3⟩:=ZqT h2
   rw [he]
   exact (ZDt N _ _ _ _ _ _ N _ _).trans h3
def Zn5:List Nat:=ZbR 36 [6,25,26,27]
def ZyL:List Nat:=ZbR 36 [6]
def Zj9 (e_2:List V) (f_3:Fl) (x_4:Int) (e_1:List V) (x_5:Int):List V:=mkF 0 36 [(6,.list 1 e_1 (.own 9)),(25,.list 1 e_2 f_3),(26,.int .i64 x_4),(27,.int .i64 x_5)]
def Zix {R:Type} (K:X → List V → S → Option R) (e_2:List V) (f_3:Fl) (x_4:Int):List V → Option R:=(fun e_1'=>K (.exit 2) (mkF 0 36 [(6,.list 1 (e_1') (.own 9))]) [])
abbrev Zpb {R:Type} (N:Nat):Nat → List V → S → (X → List V → S → Option R) → Option R:=fun n=>ZcX C (Znj N) (Znd N) Zvx [0,1,0,1,1,1,1] false Zn5 ZyL n R
theorem ZL2 {R:Type} (N n:Nat) (e_2:List V) (f_3:Fl) (x_4:Int) (e_1:List V) (x_5:Int) (K:X → List V → S → Option R) :
 Zpb N (n + 1) (Zj9 e_2 f_3 x_4 e_1 x_5) [] K =
 ZfO N e_2 f_3 x_4 (fun e_1 x_5=>Zpb N n (Zj9 e_2 f_3 x_4 e_1 x_5) [] K) e_1 x_5 (Zix K e_2 f_3 x_4):=by kernel_rfl
theorem ZEd {R:Type} (N:Nat) (e_2:List V) (f_3:Fl) (x_4:Int) (K:X → List V → S → Option R):∀ (n:Nat) (e_1:List V) (x_5:Int),
 Zpb N n (Zj9 e_2 f_3 x_4 e_1 x_5) [] K = Zfn N e_2 f_3 x_4 (Zix K e_2 f_3 x_4) n e_1 x_5
 | 0,_,_=>rfl
 | n + 1,e_1,x_5=>(ZL2 N n e_2 f_3 x_4 e_1 x_5 K).trans (congrArg (fun nx=>ZfO N e_2 f_3 x_4 nx e_1 x_5 (Zix K e_2 f_3 x_4)) (funext fun e_1=>funext fun x_5=>ZEd N e_2 f_3 x_4 K n e_1 x_5))
def Ztk {R:Type} (E:List V) (s:S) (k:List V → List V → Fl → Int → Int → Option R):Option R :=
 Zaj (Za3 36 [6,25,26,27] E) <| Zbt (nth E 6) fun u6=>ZaX 1 u6 fun e_1 f'1=>ZpE 9 f'1 <| Zbu E 25 1 fun e_2 f_3=>ZaZ E 26 .i64 fun x_4=>ZaZ E 27 .i64 fun x_5=>ZaR s <| k e_1 e_2 f_3 x_4 x_5
theorem Zrm {R:Type} {E:List V} {s:S} {k:List V → List V → Fl → Int → Int → Option R} {r:R} (h:Ztk E s k = some r):∃ e_1 e_2 f_3 x_4 x_5,E = Zj9 e_2 f_3 x_4 e_1 x_5 ∧ s = [] ∧ k e_1 e_2 f_3 x_4 x_5 = some r:=by
 unfold Ztk at h
 obtain ⟨hg,h1⟩:=Zac h
 obtain ⟨_,hu6,h2⟩:=Zag h1
 obtain ⟨_,_,rfl,h3⟩:=Zam h2
 obtain ⟨rfl,h4⟩:=ZcZ h3
 obtain ⟨_,_,hu25,h5⟩:=ZaC h4
 obtain ⟨_,hu26,h6⟩:=Zah h5
 obtain ⟨_,hu27,h7⟩:=Zah h6
 obtain ⟨rfl,h8⟩:=Zae h7
 exact ⟨_,_,_,_,_,ZaU hg rfl (Zab hu6 (Zab hu25 (Zab hu26 (Zab hu27 ZaL)))),rfl,h8⟩
def Zuk (N:Nat):Zax:=(Znd N).add [0,1,0,1,1,1,1] fun _ E s K=>Ztk (Zbh Zn5 E) s fun e_1 e_2 f_3 x_4 x_5=>Zfn N e_2 f_3 x_4 (Zix K e_2 f_3 x_4) N e_1 x_5
theorem ZHm {N:Nat} (hC:Ok Tryz.prog C) (hΦ:Zaa Tryz.prog C (Znj N)):Za7 Tryz.prog C (Zuk N) Zvx [0,1,0,1,1,1,1] :=
 Za6 (Λi:=Znd N) (tr:=false) (ks:=Zn5) (kx:=ZyL) (N:=N) hC hΦ
  (Zai (by kernel_rfl))
  fun R E s K r h=>by
   have h2:=Zax.add_self.symm.trans h
   refine (Zaw rfl).trans ?_
   obtain ⟨_,_,_,_,_,he,rfl,h3⟩:=Zrm h2
   rw [he]
   exact (ZEd N _ _ _ _ N _ _).trans h3
theorem ZOp:Za0 ZBi [] = [([0,1,0,1,1],ZuP),([0,1,0,1,1,1,1],Zvx)]:=by kernel_rfl
theorem ZQn {R:Type} (N:Nat) (e_1:List V) (f_2:Fl) (K:V → S → Option R):Za2 C (Znj N) (Zuk N) 60 Tryz.f60 [.list 1 e_1 f_2] [] K =
 Zqq N e_1 f_2 (fun e_3=>K (.list 1 e_3 .sh) []):=by kernel_rfl
theorem ZCN {N:Nat} (hC:Ok Tryz.prog C) (hΦ:Zaa Tryz.prog C (Znj N)):ZaV Tryz.prog C (Zuk N) ZBi [] :=
 ZaG ZBi [] (by
  rw [ZOp]
  intro p hp
  simp only [List.mem_cons,List.mem_nil_iff,or_false] at hp
  rcases hp with rfl | rfl
  ·exact (Za7.add (ZKq hC hΦ) rfl)
  ·exact (ZHm hC hΦ))
theorem ZCw (hC:Ok Tryz.prog C) {N:Nat} (hΦ:Zaa Tryz.prog C (Znj N)):Zaa Tryz.prog C (Zwp N):=by
 refine hΦ.add_pure rfl fun R vs K r h=>?_
 unfold ZN3 at h
 obtain ⟨_,rfl,h1⟩:=Zat h
 obtain ⟨_,_,rfl,h2⟩:=Zam h1
 obtain ⟨_,h3⟩:=Zae h2
 refine Zaq (fn:=Tryz.f60) (c:=ZBi) hC hΦ Tryz.func60 (by kernel_rfl) (by kernel_rfl) (ZCN (N:=N) hC hΦ) rfl rfl ?_
 refine (ZQn N _ _ _).trans ?_
 rw [← Zzb]
 exact h3
def ZN8 (N:Nat):(R:Type) → List V → S → (V → S → Option R) → Option R:=fun _ vs s K =>
 ZLn vs fun v'1 v'2 v'3 v'4=>Za9 v'1 fun e_1 f_2 x_3=>Zbs v'2 fun x_4 x_5=>Zby v'3 fun w_6=>asBool v'4 fun b_7=>ZaR s <| ZI1 N e_1 f_2 x_3 x_4 x_5 w_6 b_7 (fun x_8 x_9=>K (.tuple [.int .i64 x_8,.int .i64 x_9]) [])
def ZJO (N:Nat):Zar:=(Zwp N).add 33 (ZN8 N)
def ZCV:Code:=ZaS Tryz.f33
def ZvF:Code:=(Zbn ZCV [] 0).2
def ZnO:List Nat:=ZbR 103 [3,4,5,10,11,12,13]
def Zyq:List Nat:=ZbR 103 [4,8,9,10,12]
def Zkd (b_1 b_2:Bool) (e_6:List V) (f_7:Fl) (x_8 x_9 x_10:Int) (e_3:List V) (x_4 x_5:Int):List V:=mkF 0 103 [(3,.bool b_1),(4,.ptr 0 0 0 0),(5,.ptr 1 0 0 0),(10,.bool b_2),(11,.list 1 e_3 .sh),(12,.int .i64 x_4),(13,.int .i64 x_5)]
def ZhF {R:Type} (K:X → List V → S → Option R) (b_1:Bool) (b_2:Bool) (e_6:List V) (f_7:Fl) (x_8:Int) (x_9:Int) (x_10:Int):Int → Int → Option R:=(fun x_2' x_1'=>K .ret (mkF 0 103 [(4,.ptr 0 0 0 0),(8,.int .i64 0),(9,.int .i64 (x_2')),(10,.bool b_2),(12,.int .i64 (x_1'))]) [some ⟨[.agg [.list 7 e_6 f_7,.int .i64 x_8]],2,33,0⟩,some ⟨[.agg [.int .i64 x_9,.int .i64 x_10]],2,35,0⟩])
def ZiH {R:Type} (K:X → List V → S → Option R) (b_1:Bool) (b_2:Bool) (e_6:List V) (f_7:Fl) (x_8:Int) (x_9:Int) (x_10:Int):Int → Option R:=(fun x_1'=>K (.exit 0) (mkF 0 103 [(4,.ptr 0 0 0 0),(10,.bool b_2),(12,.int .i64 (x_1'))]) [some ⟨[.agg [.list 7 e_6 f_7,.int .i64 x_8]],2,33,0⟩,some ⟨[.agg [.int .i64 x_9,.int .i64 x_10]],2,35,0⟩])
abbrev ZoD {R:Type} (N:Nat):Nat → List V → S → (X → List V → S → Option R) → Option R:=fun n=>ZcX C (Zwp N) (Zad) ZvF [0,0,1,1,1,1] true ZnO Zyq n R
theorem ZLc {R:Type} (N n:Nat) (b_1 b_2:Bool) (e_6:List V) (f_7:Fl) (x_8 x_9 x_10:Int) (e_3:List V) (x_4 x_5:Int) (K:X → List V → S → Option R) :
 ZoD N (n + 1) (Zkd b_1 b_2 e_6 f_7 x_8 x_9 x_10 e_3 x_4 x_5) [some ⟨[.agg [.list 7 e_6 f_7,.int .i64 x_8]],2,33,0⟩,some ⟨[.agg [.int .i64 x_9,.int .i64 x_10]],2,35,0⟩] K =
 Zet N b_1 b_2 e_6 f_7 x_8 x_9 x_10 (fun e_3 x_4 x_5=>ZoD N n (Zkd b_1 b_2 e_6 f_7 x_8 x_9 x_10 e_3 x_4 x_5) [some ⟨[.agg [.list 7 e_6 f_7,.int .i64 x_8]],2,33,0⟩,some ⟨[.agg [.int .i64 x_9,.int .i64 x_10]],2,35,0⟩] K) e_3 x_4 x_5 (ZhF K b_1 b_2 e_6 f_7 x_8 x_9 x_10) (ZiH K b_1 b_2 e_6 f_7 x_8 x_9 x_10):=by kernel_rfl
theorem ZEP {R:Type} (N:Nat) (b_1 b_2:Bool) (e_6:List V) (f_7:Fl) (x_8 x_9 x_10:Int) (K:X → List V → S → Option R):∀ (n:Nat) (e_3:List V) (x_4 x_5:Int),
 ZoD N n (Zkd b_1 b_2 e_6 f_7 x_8 x_9 x_10 e_3 x_4 x_5) [some ⟨[.agg [.list 7 e_6 f_7,.int .i64 x_8]],2,33,0⟩,some ⟨[.agg [.int .i64 x_9,.int .i64 x_10]],2,35,0⟩] K = Ze9 N b_1 b_2 e_6 f_7 x_8 x_9 x_10 (ZhF K b_1 b_2 e_6 f_7 x_8 x_9 x_10) (ZiH K b_1 b_2 e_6 f_7 x_8 x_9 x_10) n e_3 x_4 x_5
 | 0,_,_,_=>rfl
 | n + 1,e_3,x_4,x_5=>(ZLc N n b_1 b_2 e_6 f_7 x_8 x_9 x_10 e_3 x_4 x_5 K).trans (congrArg (fun nx=>Zet N b_1 b_2 e_6 f_7 x_8 x_9 x_10 nx e_3 x_4 x_5 (ZhF K b_1 b_2 e_6 f_7 x_8 x_9 x_10) (ZiH K b_1 b_2 e_6 f_7 x_8 x_9 x_10)) (funext fun e_3=>funext fun x_4=>funext fun x_5=>ZEP N b_1 b_2 e_6 f_7 x_8 x_9 x_10 K n e_3 x_4 x_5))
def Zws {R:Type} (E:List V) (s:S) (k:Bool → Bool → List V → Int → Int → List V → Fl → Int → Int → Int → Option R):Option R :=
 Zaj (Za3 103 [3,4,5,10,11,12,13] E) <| ZqK E 3 fun b_1=>ZvY E 4 (.ptr 0 0 0 0) <| ZvY E 5 (.ptr 1 0 0 0) <| ZqK E 10 fun b_2=>Zbt (nth E 11) fun u11=>ZaX 1 u11 fun e_3 f'1=>ZLw f'1 <| ZaZ E 12 .i64 fun x_4=>ZaZ E 13 .i64 fun x_5=>ZdW s fun o'2 s'3=>ZcW o'2 2 33 fun e'4 k'5=>isN k'5 0 <| Zco e'4 fun v'6=>asAgg v'6 fun c'7=>Zcf c'7 fun v'8 v'9=>ZaX 7 v'8 fun e_6 f_7=>asInt .i64 v'9 fun x_8=>ZdW s'3 fun o'10 s'11=>ZcW o'10 2 35 fun e'12 k'13=>isN k'13 0 <| Zco e'12 fun v'14=>asAgg v'14 fun c'15=>Zcf c'15 fun v'16 v'17=>asInt .i64 v'16 fun x_9=>asInt .i64 v'17 fun x_10=>ZaR s'11 <| k b_1 b_2 e_3 x_4 x_5 e_6 f_7 x_8 x_9 x_10
theorem ZsK {R:Type} {E:List V} {s:S} {k:Bool → Bool → List V → Int → Int → List V → Fl → Int → Int → Int → Option R} {r:R} (h:Zws E s k = some r):∃ b_1 b_2 e_3 x_4 x_5 e_6 f_7 x_8 x_9 x_10,E = Zkd b_1 b_2 e_6 f_7 x_8 x_9 x_10 e_3 x_4 x_5 ∧ s = [some ⟨[.agg [.list 7 e_6 f_7,.int .i64 x_8]],2,33,0⟩,some ⟨[.agg [.int .i64 x_9,.int .i64 x_10]],2,35,0⟩] ∧ k b_1 b_2 e_3 x_4 x_5 e_6 f_7 x_8 x_9 x_10 = some r:=by
 unfold Zws at h
 obtain ⟨hg,h1⟩:=Zac h
 obtain ⟨_,hu3,h2⟩:=ZeW h1
 obtain ⟨hu4,h3⟩:=Zb0 h2
 obtain ⟨hu5,h4⟩:=Zb0 h3
 obtain ⟨_,hu10,h5⟩:=ZeW h4
 obtain ⟨_,hu11,h6⟩:=Zag h5
 obtain ⟨_,_,rfl,h7⟩:=Zam h6
 obtain ⟨rfl,h8⟩:=Zfw h7
 obtain ⟨_,hu12,h9⟩:=Zah h8
 obtain ⟨_,hu13,h10⟩:=Zah h9
 obtain ⟨_,_,rfl,h11⟩:=ZaP h10
 obtain ⟨_,_,rfl,h12⟩:=ZaJ h11
 obtain ⟨rfl,h13⟩:=Zap h12
 obtain ⟨_,rfl,h14⟩:=Zat h13
 obtain ⟨_,rfl,h15⟩:=ZaF h14
 obtain ⟨_,_,rfl,h16⟩:=Zas h15
 obtain ⟨_,_,rfl,h17⟩:=Zam h16
 obtain ⟨_,rfl,h18⟩:=Zaf h17
 obtain ⟨_,_,rfl,h19⟩:=ZaP h18
 obtain ⟨_,_,rfl,h20⟩:=ZaJ h19
 obtain ⟨rfl,h21⟩:=Zap h20
 obtain ⟨_,rfl,h22⟩:=Zat h21
 obtain ⟨_,rfl,h23⟩:=ZaF h22
 obtain ⟨_,_,rfl,h24⟩:=Zas h23
 obtain ⟨_,rfl,h25⟩:=Zaf h24
 obtain ⟨_,rfl,h26⟩:=Zaf h25
 obtain ⟨rfl,h27⟩:=Zae h26
 exact ⟨_,_,_,_,_,_,_,_,_,_,ZaU hg rfl (Zab hu3 (Zab hu4 (Zab hu5 (Zab hu10 (Zab hu11 (Zab hu12 (Zab hu13 ZaL))))))),rfl,h27⟩
def Zto (N:Nat):Zax:=(Zad).add [0,0,1,1,1,1] fun _ E s K=>Zws (Zbh ZnO E) s fun b_1 b_2 e_3 x_4 x_5 e_6 f_7 x_8 x_9 x_10=>Ze9 N b_1 b_2 e_6 f_7 x_8 x_9 x_10 (ZhF K b_1 b_2 e_6 f_7 x_8 x_9 x_10) (ZiH K b_1 b_2 e_6 f_7 x_8 x_9 x_10) N e_3 x_4 x_5
theorem ZG1 {N:Nat} (hC:Ok Tryz.prog C) (hΦ:Zaa Tryz.prog C (Zwp N)):Za7 Tryz.prog C (Zto N) ZvF [0,0,1,1,1,1] :=
 Za6 (Λi:=Zad) (tr:=true) (ks:=ZnO) (kx:=Zyq) (N:=N) hC hΦ
  (Zai (by kernel_rfl))
  fun R E s K r h=>by
   have h2:=Zax.add_self.symm.trans h
   refine (Zaw rfl).trans ?_
   obtain ⟨_,_,_,_,_,_,_,_,_,_,he,rfl,h3⟩:=ZsK h2
   rw [he]
   exact (ZEP N _ _ _ _ _ _ _ _ N _ _ _).trans h3
theorem ZOL:Za0 ZCV [] = [([0,0,1,1,1,1],ZvF)]:=by kernel_rfl
theorem ZQM {R:Type} (N:Nat) (e_1:List V) (f_2:Fl) (x_3 x_4 x_5:Int) (w_6:ByteArray) (b_7:Bool) (K:V → S → Option R):Za2 C (Zwp N) (Zto N) 33 Tryz.f33 [.agg [.list 7 e_1 f_2,.int .i64 x_3],.agg [.int .i64 x_4,.int .i64 x_5],.str w_6,.bool b_7] [] K =
 Zsa N e_1 f_2 x_3 x_4 x_5 w_6 b_7 (fun x_8 x_9=>K (.tuple [.int .i64 x_8,.int .i64 x_9]) []):=by kernel_rfl
theorem ZFO {N:Nat} (hC:Ok Tryz.prog C) (hΦ:Zaa Tryz.prog C (Zwp N)):ZaV Tryz.prog C (Zto N) ZCV [] :=
 ZaG ZCV [] (by
  rw [ZOL]
  intro p hp
  simp only [List.mem_cons,List.mem_nil_iff,or_false] at hp
  rcases hp with rfl
  ·exact (ZG1 hC hΦ))
theorem ZBs (hC:Ok Tryz.prog C) {N:Nat} (hΦ:Zaa Tryz.prog C (Zwp N)):Zaa Tryz.prog C (ZJO N):=by
 refine hΦ.add_pure rfl fun R vs K r h=>?_
 unfold ZN8 at h
 obtain ⟨_,_,_,_,rfl,h1⟩:=Zfp h
 obtain ⟨_,_,_,rfl,h2⟩:=ZaH h1
 obtain ⟨_,_,rfl,h3⟩:=Za8 h2
 obtain ⟨_,rfl,h4⟩:=ZaD h3
 obtain ⟨_,rfl,h5⟩:=Zcq h4
 obtain ⟨_,h6⟩:=Zae h5
 refine Zaq (fn:=Tryz.f33) (c:=ZCV) hC hΦ Tryz.func33 (by kernel_rfl) (by kernel_rfl) (ZFO (N:=N) hC hΦ) rfl rfl ?_
 refine (ZQM N _ _ _ _ _ _ _ _).trans ?_
 rw [← Zy4]
 exact h6
def ZOM (N:Nat):(R:Type) → List V → S → (V → S → Option R) → Option R:=fun _ vs s K =>
 ZEn vs fun v'1 v'2 v'3=>Za9 v'1 fun e_1 f_2 x_3=>Zbs v'2 fun x_4 x_5=>Zby v'3 fun w_6=>ZaR s <| ZI6 N e_1 f_2 x_3 x_4 x_5 w_6 (fun x_7 x_8=>K (.tuple [.int .i64 x_7,.int .i64 x_8]) [])
def Zu1 (N:Nat):Zar:=(ZJO N).add 20 (ZOM N)
def ZRi:Code:=ZaS Tryz.f20
theorem ZP5 {R:Type} (N:Nat) (e_1:List V) (f_2:Fl) (x_3 x_4 x_5:Int) (w_6:ByteArray) (K:V → S → Option R):Za2 C (ZJO N) (Zad) 20 Tryz.f20 [.agg [.list 7 e_1 f_2,.int .i64 x_3],.agg [.int .i64 x_4,.int .i64 x_5],.str w_6] [] K =
 ZsC N e_1 f_2 x_3 x_4 x_5 w_6 (fun x_7 x_8=>K (.tuple [.int .i64 x_7,.int .i64 x_8]) []):=by kernel_rfl
theorem ZA6 (hC:Ok Tryz.prog C) {N:Nat} (hΦ:Zaa Tryz.prog C (ZJO N)):Zaa Tryz.prog C (Zu1 N):=by
 refine hΦ.add_pure rfl fun R vs K r h=>?_
 unfold ZOM at h
 obtain ⟨_,_,_,rfl,h1⟩:=ZcC h
 obtain ⟨_,_,_,rfl,h2⟩:=ZaH h1
 obtain ⟨_,_,rfl,h3⟩:=Za8 h2
 obtain ⟨_,rfl,h4⟩:=ZaD h3
 obtain ⟨_,h5⟩:=Zae h4
 refine Zaq (fn:=Tryz.f20) (c:=ZRi) hC hΦ Tryz.func20 (by kernel_rfl) (by kernel_rfl) (Zai (Λ:=Zad) (by kernel_rfl)) rfl rfl ?_
 refine (ZP5 N _ _ _ _ _ _ _).trans ?_
 rw [← Zzl]
 exact h5
def ZOa (N:Nat):(R:Type) → List V → S → (V → S → Option R) → Option R:=fun _ vs s K =>
 ZEn vs fun v'1 v'2 v'3=>Za9 v'1 fun e_1 f_2 x_3=>Zbs v'2 fun x_4 x_5=>Zby v'3 fun w_6=>ZaR s <| ZEG N e_1 f_2 x_3 x_4 x_5 w_6 (fun k_903 x_901 b_902 e_904=>K (.tuple [.arr 0 0 0 k_903,.int .i64 x_901,.bool b_902]) [some ⟨e_904,1,9,0⟩])
def ZwC (N:Nat):Zar:=(Zu1 N).add 8 (ZOa N)
def ZDn:Code:=ZaS Tryz.f8
def ZtC:Code:=(Zbn ZDn [] 0).2
def Zjb:TypeId → Option (Nat × TypeId):=fun t=>none
abbrev ZAJ:Cfg:=C.rowed true false (some 0) Zjb [] [] [] []
def Znx:List Nat:=ZbR 54 [11,41,42,43]
def ZxR:List Nat:=ZbR 54 [11]
def ZkL (e_1:List V) (f_2:Fl) (x_3:Int) (e_5:List V) (f_6:Fl) (x_7 x_8 x_9:Int) (k_10:Nat) (x_4:Int) (e_11:List V):List V:=mkF 0 54 [(11,.arr 3 0 0 k_10),(41,.list 2 e_1 f_2),(42,.int .i64 x_3),(43,.int .i64 x_4)]
def Zi1 {R:Type} (K:X → List V → S → Option R) (e_1:List V) (f_2:Fl) (x_3:Int) (e_5:List V) (f_6:Fl) (x_7:Int) (x_8:Int) (x_9:Int):Nat → List V → Option R:=(fun k_1' e_2'=>K (.exit 1) (mkF 0 54 [(11,.arr 3 0 0 (k_1'))]) [some ⟨[.agg [.list 7 e_5 f_6,.int .i64 x_7]],2,33,0⟩,some ⟨[.agg [.int .i64 x_8,.int .i64 x_9]],2,35,0⟩,some ⟨[],1,9,0⟩,some ⟨e_2',1,9,0⟩])
abbrev ZoN {R:Type} (N:Nat):Nat → List V → S → (X → List V → S → Option R) → Option R:=fun n=>ZcX ZAJ (Zu1 N) (Zad) ZtC [0,1,0,1,1,1,1,1] true Znx ZxR n R
theorem ZMJ {R:Type} (N n:Nat) (e_1:List V) (f_2:Fl) (x_3:Int) (e_5:List V) (f_6:Fl) (x_7 x_8 x_9:Int) (k_10:Nat) (x_4:Int) (e_11:List V) (K:X → List V → S → Option R) :
 ZoN N (n + 1) (ZkL e_1 f_2 x_3 e_5 f_6 x_7 x_8 x_9 k_10 x_4 e_11) [some ⟨[.agg [.list 7 e_5 f_6,.int .i64 x_7]],2,33,0⟩,some ⟨[.agg [.int .i64 x_8,.int .i64 x_9]],2,35,0⟩,some ⟨[],1,9,0⟩,some ⟨e_11,1,9,0⟩] K =
 ZdQ N e_1 f_2 x_3 e_5 f_6 x_7 x_8 x_9 (fun k_10 x_4 e_11=>ZoN N n (ZkL e_1 f_2 x_3 e_5 f_6 x_7 x_8 x_9 k_10 x_4 e_11) [some ⟨[.agg [.list 7 e_5 f_6,.int .i64 x_7]],2,33,0⟩,some ⟨[.agg [.int .i64 x_8,.int .i64 x_9]],2,35,0⟩,some ⟨[],1,9,0⟩,some ⟨e_11,1,9,0⟩] K) k_10 x_4 e_11 (Zi1 K e_1 f_2 x_3 e_5 f_6 x_7 x_8 x_9):=by kernel_rfl
theorem ZFe {R:Type} (N:Nat) (e_1:List V) (f_2:Fl) (x_3:Int) (e_5:List V) (f_6:Fl) (x_7 x_8 x_9:Int) (K:X → List V → S → Option R):∀ (n:Nat) (k_10:Nat) (x_4:Int) (e_11:List V),
 ZoN N n (ZkL e_1 f_2 x_3 e_5 f_6 x_7 x_8 x_9 k_10 x_4 e_11) [some ⟨[.agg [.list 7 e_5 f_6,.int .i64 x_7]],2,33,0⟩,some ⟨[.agg [.int .i64 x_8,.int .i64 x_9]],2,35,0⟩,some ⟨[],1,9,0⟩,some ⟨e_11,1,9,0⟩] K = ZfT N e_1 f_2 x_3 e_5 f_6 x_7 x_8 x_9 (Zi1 K e_1 f_2 x_3 e_5 f_6 x_7 x_8 x_9) n k_10 x_4 e_11
 | 0,_,_,_=>rfl
 | n + 1,k_10,x_4,e_11=>(ZMJ N n e_1 f_2 x_3 e_5 f_6 x_7 x_8 x_9 k_10 x_4 e_11 K).trans (congrArg (fun nx=>ZdQ N e_1 f_2 x_3 e_5 f_6 x_7 x_8 x_9 nx k_10 x_4 e_11 (Zi1 K e_1 f_2 x_3 e_5 f_6 x_7 x_8 x_9)) (funext fun k_10=>funext fun x_4=>funext fun e_11=>ZFe N e_1 f_2 x_3 e_5 f_6 x_7 x_8 x_9 K n k_10 x_4 e_11))
def ZwO {R:Type} (E:List V) (s:S) (k:Nat → List V → Fl → Int → Int → List V → Fl → Int → Int → Int → List V → Option R):Option R :=
 Zaj (Za3 54 [11,41,42,43] E) <| Zbt (nth E 11) fun u11=>ZeC u11 fun k'1 k'2 k'3 k_10=>isN k'1 3 <| isN k'2 0 <| isN k'3 0 <| Zbu E 41 2 fun e_1 f_2=>ZaZ E 42 .i64 fun x_3=>ZaZ E 43 .i64 fun x_4=>ZdW s fun o'4 s'5=>ZcW o'4 2 33 fun e'6 k'7=>isN k'7 0 <| Zco e'6 fun v'8=>asAgg v'8 fun c'9=>Zcf c'9 fun v'10 v'11=>ZaX 7 v'10 fun e_5 f_6=>asInt .i64 v'11 fun x_7=>ZdW s'5 fun o'12 s'13=>ZcW o'12 2 35 fun e'14 k'15=>isN k'15 0 <| Zco e'14 fun v'16=>asAgg v'16 fun c'17=>Zcf c'17 fun v'18 v'19=>asInt .i64 v'18 fun x_8=>asInt .i64 v'19 fun x_9=>ZdW s'13 fun o'20 s'21=>ZcW o'20 1 9 fun e'22 k'23=>isN k'23 0 <| ZB4 e'22 <| ZdW s'21 fun o'24 s'25=>ZcW o'24 1 9 fun e_11 k'26=>isN k'26 0 <| ZaR s'25 <| k k_10 e_1 f_2 x_3 x_4 e_5 f_6 x_7 x_8 x_9 e_11
theorem Zqv {R:Type} {E:List V} {s:S} {k:Nat → List V → Fl → Int → Int → List V → Fl → Int → Int → Int → List V → Option R} {r:R} (h:ZwO E s k = some r):∃ k_10 e_1 f_2 x_3 x_4 e_5 f_6 x_7 x_8 x_9 e_11,E = ZkL e_1 f_2 x_3 e_5 f_6 x_7 x_8 x_9 k_10 x_4 e_11 ∧ s = [some ⟨[.agg [.list 7 e_5 f_6,.int .i64 x_7]],2,33,0⟩,some ⟨[.agg [.int .i64 x_8,.int .i64 x_9]],2,35,0⟩,some ⟨[],1,9,0⟩,some ⟨e_11,1,9,0⟩] ∧ k k_10 e_1 f_2 x_3 x_4 e_5 f_6 x_7 x_8 x_9 e_11 = some r:=by
 unfold ZwO at h
 obtain ⟨hg,h1⟩:=Zac h
 obtain ⟨_,hu11,h2⟩:=Zag h1
 obtain ⟨_,_,_,_,rfl,h3⟩:=Zbz h2
 obtain ⟨rfl,h4⟩:=Zap h3
 obtain ⟨rfl,h5⟩:=Zap h4
 obtain ⟨rfl,h6⟩:=Zap h5
 obtain ⟨_,_,hu41,h7⟩:=ZaC h6
 obtain ⟨_,hu42,h8⟩:=Zah h7
 obtain ⟨_,hu43,h9⟩:=Zah h8
 obtain ⟨_,_,rfl,h10⟩:=ZaP h9
 obtain ⟨_,_,rfl,h11⟩:=ZaJ h10
 obtain ⟨rfl,h12⟩:=Zap h11
 obtain ⟨_,rfl,h13⟩:=Zat h12
 obtain ⟨_,rfl,h14⟩:=ZaF h13
 obtain ⟨_,_,rfl,h15⟩:=Zas h14
 obtain ⟨_,_,rfl,h16⟩:=Zam h15
 obtain ⟨_,rfl,h17⟩:=Zaf h16
 obtain ⟨_,_,rfl,h18⟩:=ZaP h17
 obtain ⟨_,_,rfl,h19⟩:=ZaJ h18
 obtain ⟨rfl,h20⟩:=Zap h19
 obtain ⟨_,rfl,h21⟩:=Zat h20
 obtain ⟨_,rfl,h22⟩:=ZaF h21
 obtain ⟨_,_,rfl,h23⟩:=Zas h22
 obtain ⟨_,rfl,h24⟩:=Zaf h23
 obtain ⟨_,rfl,h25⟩:=Zaf h24
 obtain ⟨_,_,rfl,h26⟩:=ZaP h25
 obtain ⟨_,_,rfl,h27⟩:=ZaJ h26
 obtain ⟨rfl,h28⟩:=Zap h27
 obtain ⟨rfl,h29⟩:=Zcp h28
 obtain ⟨_,_,rfl,h30⟩:=ZaP h29
 obtain ⟨_,_,rfl,h31⟩:=ZaJ h30
 obtain ⟨rfl,h32⟩:=Zap h31
 obtain ⟨rfl,h33⟩:=Zae h32
 exact ⟨_,_,_,_,_,_,_,_,_,_,_,ZaU hg rfl (Zab hu11 (Zab hu41 (Zab hu42 (Zab hu43 ZaL)))),rfl,h33⟩
def ZtV (N:Nat):Zax:=(Zad).add [0,1,0,1,1,1,1,1] fun _ E s K=>Zff ZAJ (Zbh Znx E) s fun E s=>ZwO E s (fun k_10 e_1 f_2 x_3 x_4 e_5 f_6 x_7 x_8 x_9 e_11=>(ZfT N e_1 f_2 x_3 e_5 f_6 x_7 x_8 x_9 (Zi1 K e_1 f_2 x_3 e_5 f_6 x_7 x_8 x_9) N k_10 x_4 e_11))
theorem ZIx {N:Nat} (hC:Ok Tryz.prog C) (hΦ:Zaa Tryz.prog C (Zu1 N)):Za7 Tryz.prog ZAJ (ZtV N) ZtC [0,1,0,1,1,1,1,1] :=
 Za6 (Λi:=Zad) (tr:=true) (ks:=Znx) (kx:=ZxR) (N:=N) (hC.rowed true false (some 0) Zjb [] [] [] []) (hΦ.rowed true false (some 0) Zjb [] [] [] [])
  (Zai (by kernel_rfl))
  fun R E s K r h=>by
   have h2:=Zax.add_self.symm.trans h
   refine ZvJ (fun E s h2=>?_) h2
   obtain ⟨_,_,_,_,_,_,_,_,_,_,_,he,rfl,h3⟩:=Zqv h2
   rw [he]
   exact (ZFe N _ _ _ _ _ _ _ _ _ N _ _ _).trans h3
theorem ZOg:Za0 ZDn [] = [([0,1,0,1,1,1,1,1],ZtC)]:=by kernel_rfl
theorem ZR2 {R:Type} (N:Nat) (e_1:List V) (f_2:Fl) (x_3 x_4 x_5:Int) (w_6:ByteArray) (K:V → S → Option R):Za2 ZAJ (Zu1 N) (ZtV N) 8 Tryz.f8 [.agg [.list 7 e_1 f_2,.int .i64 x_3],.agg [.int .i64 x_4,.int .i64 x_5],.str w_6] [] (GF rl K) =
 ZqF N e_1 f_2 x_3 x_4 x_5 w_6 (fun k_903 x_901 b_902 e_904=>K (.tuple [.arr 0 0 0 k_903,.int .i64 x_901,.bool b_902]) [some ⟨e_904,1,9,0⟩]):=by kernel_rfl
theorem ZFD {N:Nat} (hC:Ok Tryz.prog C) (hΦ:Zaa Tryz.prog C (Zu1 N)):ZaV Tryz.prog ZAJ (ZtV N) ZDn [] :=
 ZaG ZDn [] (by
  rw [ZOg]
  intro p hp
  simp only [List.mem_cons,List.mem_nil_iff,or_false] at hp
  rcases hp with rfl
  ·exact (ZIx hC hΦ))
theorem ZCv (hC:Ok Tryz.prog C) {N:Nat} (hΦ:Zaa Tryz.prog C (Zu1 N)):Zaa Tryz.prog C (ZwC N):=by
 refine hΦ.add_fresh rfl fun R vs K r h=>?_
 unfold ZOa at h
 obtain ⟨_,_,_,rfl,h1⟩:=ZcC h
 obtain ⟨_,_,_,rfl,h2⟩:=ZaH h1
 obtain ⟨_,_,rfl,h3⟩:=Za8 h2
 obtain ⟨_,rfl,h4⟩:=ZaD h3
 obtain ⟨_,h5⟩:=Zae h4
 refine Zem (C:=C) true false (some 0) Zjb [] [] [] [] ?_
 refine ZeN (C:=ZAJ) (fn:=Tryz.f8) (c:=ZDn) (hC.rowed true false (some 0) Zjb [] [] [] []) (hΦ.rowed true false (some 0) Zjb [] [] [] []) Tryz.func8 (by kernel_rfl) (by kernel_rfl) (ZFD (N:=N) hC hΦ) rfl rfl ?_
 refine (ZR2 N _ _ _ _ _ _ _).trans ?_
 rw [← ZxO]
 exact h5
def ZPr (N:Nat):(R:Type) → List V → S → (V → S → Option R) → Option R:=fun _ vs s K =>
 Zcf vs fun v'1 v'2=>ZaX 1 v'1 fun e_1 f_2=>ZaX 1 v'2 fun e_3 f_4=>ZaR s <| ZzZ N e_1 f_2 e_3 f_4 (fun b_5=>K (.bool b_5) [])
def ZId (N:Nat):Zar:=(ZwC N).add 9 (ZPr N)
def ZDg:Code:=ZaS Tryz.f9
def ZuI:Code:=(Zbn ZDg [] 0).2
def Zm7:List Nat:=ZbR 26 [0,1,5]
def Zzy:List Nat:=ZbR 26 [4]
def ZkK (e_1:List V) (f_2:Fl) (e_3:List V) (f_4:Fl) (x_5:Int):List V:=mkF 0 26 [(0,.list 1 e_1 f_2),(1,.list 1 e_3 f_4),(5,.int .i64 x_5)]
def ZhT {R:Type} (K:X → List V → S → Option R) (e_1:List V) (f_2:Fl) (e_3:List V) (f_4:Fl):Unit → Option R:=(fun _=>K .ret (mkF 0 26 [(4,.bool false)]) [])
def ZhQ {R:Type} (K:X → List V → S → Option R) (e_1:List V) (f_2:Fl) (e_3:List V) (f_4:Fl):Unit → Option R:=(fun _=>K (.exit 0) (mkF 0 26 []) [])
abbrev Zpj {R:Type} (N:Nat):Nat → List V → S → (X → List V → S → Option R) → Option R:=fun n=>ZcX C (ZwC N) (Zad) ZuI [0,1,0,1,1] false Zm7 Zzy n R
theorem ZKU {R:Type} (N n:Nat) (e_1:List V) (f_2:Fl) (e_3:List V) (f_4:Fl) (x_5:Int) (K:X → List V → S → Option R) :
 Zpj N (n + 1) (ZkK e_1 f_2 e_3 f_4 x_5) [] K =
 ZdF N e_1 f_2 e_3 f_4 (fun x_5=>Zpj N n (ZkK e_1 f_2 e_3 f_4 x_5) [] K) x_5 (ZhT K e_1 f_2 e_3 f_4) (ZhQ K e_1 f_2 e_3 f_4):=by kernel_rfl
theorem ZEX {R:Type} (N:Nat) (e_1:List V) (f_2:Fl) (e_3:List V) (f_4:Fl) (K:X → List V → S → Option R):∀ (n:Nat) (x_5:Int),
 Zpj N n (ZkK e_1 f_2 e_3 f_4 x_5) [] K = ZgH N e_1 f_2 e_3 f_4 (ZhT K e_1 f_2 e_3 f_4) (ZhQ K e_1 f_2 e_3 f_4) n x_5
 | 0,_=>rfl
 | n + 1,x_5=>(ZKU N n e_1 f_2 e_3 f_4 x_5 K).trans (congrArg (fun nx=>ZdF N e_1 f_2 e_3 f_4 nx x_5 (ZhT K e_1 f_2 e_3 f_4) (ZhQ K e_1 f_2 e_3 f_4)) (funext fun x_5=>ZEX N e_1 f_2 e_3 f_4 K n x_5))
def Zwo {R:Type} (E:List V) (s:S) (k:List V → Fl → List V → Fl → Int → Option R):Option R :=
 Zaj (Za3 26 [0,1,5] E) <| Zbu E 0 1 fun e_1 f_2=>Zbu E 1 1 fun e_3 f_4=>ZaZ E 5 .i64 fun x_5=>ZaR s <| k e_1 f_2 e_3 f_4 x_5
theorem ZsS {R:Type} {E:List V} {s:S} {k:List V → Fl → List V → Fl → Int → Option R} {r:R} (h:Zwo E s k = some r):∃ e_1 f_2 e_3 f_4 x_5,E = ZkK e_1 f_2 e_3 f_4 x_5 ∧ s = [] ∧ k e_1 f_2 e_3 f_4 x_5 = some r:=by
 unfold Zwo at h
 obtain ⟨hg,h1⟩:=Zac h
 obtain ⟨_,_,hu0,h2⟩:=ZaC h1
 obtain ⟨_,_,hu1,h3⟩:=ZaC h2
 obtain ⟨_,hu5,h4⟩:=Zah h3
 obtain ⟨rfl,h5⟩:=Zae h4
 exact ⟨_,_,_,_,_,ZaU hg rfl (Zab hu0 (Zab hu1 (Zab hu5 ZaL))),rfl,h5⟩
def Zur (N:Nat):Zax:=(Zad).add [0,1,0,1,1] fun _ E s K=>Zwo (Zbh Zm7 E) s fun e_1 f_2 e_3 f_4 x_5=>ZgH N e_1 f_2 e_3 f_4 (ZhT K e_1 f_2 e_3 f_4) (ZhQ K e_1 f_2 e_3 f_4) N x_5
theorem ZG4 {N:Nat} (hC:Ok Tryz.prog C) (hΦ:Zaa Tryz.prog C (ZwC N)):Za7 Tryz.prog C (Zur N) ZuI [0,1,0,1,1] :=
 Za6 (Λi:=Zad) (tr:=false) (ks:=Zm7) (kx:=Zzy) (N:=N) hC hΦ
  (Zai (by kernel_rfl))
  fun R E s K r h=>by
   have h2:=Zax.add_self.symm.trans h
   refine (Zaw rfl).trans ?_
   obtain ⟨_,_,_,_,_,he,rfl,h3⟩:=ZsS h2
   rw [he]
   exact (ZEX N _ _ _ _ _ N _).trans h3
theorem ZOW:Za0 ZDg [] = [([0,1,0,1,1],ZuI)]:=by kernel_rfl
theorem ZRz {R:Type} (N:Nat) (e_1:List V) (f_2:Fl) (e_3:List V) (f_4:Fl) (K:V → S → Option R):Za2 C (ZwC N) (Zur N) 9 Tryz.f9 [.list 1 e_1 f_2,.list 1 e_3 f_4] [] K =
 ZrY N e_1 f_2 e_3 f_4 (fun b_5=>K (.bool b_5) []):=by kernel_rfl
theorem ZGz {N:Nat} (hC:Ok Tryz.prog C) (hΦ:Zaa Tryz.prog C (ZwC N)):ZaV Tryz.prog C (Zur N) ZDg [] :=
 ZaG ZDg [] (by
  rw [ZOW]
  intro p hp
  simp only [List.mem_cons,List.mem_nil_iff,or_false] at hp
  rcases hp with rfl
  ·exact (ZG4 hC hΦ))
theorem ZCu (hC:Ok Tryz.prog C) {N:Nat} (hΦ:Zaa Tryz.prog C (ZwC N)):Zaa Tryz.prog C (ZId N):=by
 refine hΦ.add_pure rfl fun R vs K r h=>?_
 unfold ZPr at h
 obtain ⟨_,_,rfl,h1⟩:=Zas h
 obtain ⟨_,_,rfl,h2⟩:=Zam h1
 obtain ⟨_,_,rfl,h3⟩:=Zam h2
 obtain ⟨_,h4⟩:=Zae h3
 refine Zaq (fn:=Tryz.f9) (c:=ZDg) hC hΦ Tryz.func9 (by kernel_rfl) (by kernel_rfl) (ZGz (N:=N) hC hΦ) rfl rfl ?_
 refine (ZRz N _ _ _ _ _).trans ?_
 rw [← ZyW]
 exact h4
def ZOE (N:Nat):(R:Type) → List V → S → (V → S → Option R) → Option R:=fun _ vs s K =>
 Zcf vs fun v'1 v'2=>Za1 v'1 fun w_1 x_2=>Za1 v'2 fun w_3 x_4=>ZaR s <| ZHy N w_1 x_2 w_3 x_4 (fun b_5=>K (.bool b_5) [])
def Zti (N:Nat):Zar:=(ZId N).add 82 (ZOE N)
def ZSk:Code:=ZaS Tryz.f82
theorem ZRu {R:Type} (N:Nat) (w_1:ByteArray) (x_2:Int) (w_3:ByteArray) (x_4:Int) (K:V → S → Option R):Za2 C (ZId N) (Zad) 82 Tryz.f82 [.agg [.str w_1,.int .i64 x_2],.agg [.str w_3,.int .i64 x_4]] [] K =
 Zq1 N w_1 x_2 w_3 x_4 (fun b_5=>K (.bool b_5) []):=by kernel_rfl
theorem ZAd (hC:Ok Tryz.prog C) {N:Nat} (hΦ:Zaa Tryz.prog C (ZId N)):Zaa Tryz.prog C (Zti N):=by
 refine hΦ.add_pure rfl fun R vs K r h=>?_
 unfold ZOE at h
 obtain ⟨_,_,rfl,h1⟩:=Zas h
 obtain ⟨_,_,rfl,h2⟩:=Zen h1
 obtain ⟨_,_,rfl,h3⟩:=Zen h2
 obtain ⟨_,h4⟩:=Zae h3
 refine Zaq (fn:=Tryz.f82) (c:=ZSk) hC hΦ Tryz.func82 (by kernel_rfl) (by kernel_rfl) (Zai (Λ:=Zad) (by kernel_rfl)) rfl rfl ?_
 refine (ZRu N _ _ _ _ _).trans ?_
 rw [← Zyx]
 exact h4
def ZM4 (N:Nat):(R:Type) → List V → S → (V → S → Option R) → Option R:=fun _ vs s K =>
 Zcf vs fun v'1 v'2=>ZaX 2 v'1 fun e_1 f_2=>ZaX 2 v'2 fun e_3 f_4=>ZaR s <| ZHT N e_1 f_2 e_3 f_4 (fun b_5=>K (.bool b_5) [])
def ZHa (N:Nat):Zar:=(Zti N).add 61 (ZM4 N)
def ZFb:Code:=ZaS Tryz.f61
def Zvi:Code:=(Zbn ZFb [] 0).2
def Zos:List Nat:=ZbR 27 [0,1,5]
def ZzN:List Nat:=ZbR 27 [4]
def Zj3 (e_1:List V) (f_2:Fl) (e_3:List V) (f_4:Fl) (x_5:Int):List V:=mkF 0 27 [(0,.list 2 e_1 f_2),(1,.list 2 e_3 f_4),(5,.int .i64 x_5)]
def ZhG {R:Type} (K:X → List V → S → Option R) (e_1:List V) (f_2:Fl) (e_3:List V) (f_4:Fl):Unit → Option R:=(fun _=>K .ret (mkF 0 27 [(4,.bool false)]) [])
def Zi4 {R:Type} (K:X → List V → S → Option R) (e_1:List V) (f_2:Fl) (e_3:List V) (f_4:Fl):Unit → Option R:=(fun _=>K (.exit 0) (mkF 0 27 []) [])
abbrev Zoe {R:Type} (N:Nat):Nat → List V → S → (X → List V → S → Option R) → Option R:=fun n=>ZcX C (Zti N) (Zad) Zvi [0,1,0,1,1] false Zos ZzN n R
theorem ZMm {R:Type} (N n:Nat) (e_1:List V) (f_2:Fl) (e_3:List V) (f_4:Fl) (x_5:Int) (K:X → List V → S → Option R) :
 Zoe N (n + 1) (Zj3 e_1 f_2 e_3 f_4 x_5) [] K =
 ZdH N e_1 f_2 e_3 f_4 (fun x_5=>Zoe N n (Zj3 e_1 f_2 e_3 f_4 x_5) [] K) x_5 (ZhG K e_1 f_2 e_3 f_4) (Zi4 K e_1 f_2 e_3 f_4):=by kernel_rfl
theorem ZEY {R:Type} (N:Nat) (e_1:List V) (f_2:Fl) (e_3:List V) (f_4:Fl) (K:X → List V → S → Option R):∀ (n:Nat) (x_5:Int),
 Zoe N n (Zj3 e_1 f_2 e_3 f_4 x_5) [] K = Zhd N e_1 f_2 e_3 f_4 (ZhG K e_1 f_2 e_3 f_4) (Zi4 K e_1 f_2 e_3 f_4) n x_5
 | 0,_=>rfl
 | n + 1,x_5=>(ZMm N n e_1 f_2 e_3 f_4 x_5 K).trans (congrArg (fun nx=>ZdH N e_1 f_2 e_3 f_4 nx x_5 (ZhG K e_1 f_2 e_3 f_4) (Zi4 K e_1 f_2 e_3 f_4)) (funext fun x_5=>ZEY N e_1 f_2 e_3 f_4 K n x_5))
def ZtU {R:Type} (E:List V) (s:S) (k:List V → Fl → List V → Fl → Int → Option R):Option R :=
 Zaj (Za3 27 [0,1,5] E) <| Zbu E 0 2 fun e_1 f_2=>Zbu E 1 2 fun e_3 f_4=>ZaZ E 5 .i64 fun x_5=>ZaR s <| k e_1 f_2 e_3 f_4 x_5
theorem Zqg {R:Type} {E:List V} {s:S} {k:List V → Fl → List V → Fl → Int → Option R} {r:R} (h:ZtU E s k = some r):∃ e_1 f_2 e_3 f_4 x_5,E = Zj3 e_1 f_2 e_3 f_4 x_5 ∧ s = [] ∧ k e_1 f_2 e_3 f_4 x_5 = some r:=by
 unfold ZtU at h
 obtain ⟨hg,h1⟩:=Zac h
 obtain ⟨_,_,hu0,h2⟩:=ZaC h1
 obtain ⟨_,_,hu1,h3⟩:=ZaC h2
 obtain ⟨_,hu5,h4⟩:=Zah h3
 obtain ⟨rfl,h5⟩:=Zae h4
 exact ⟨_,_,_,_,_,ZaU hg rfl (Zab hu0 (Zab hu1 (Zab hu5 ZaL))),rfl,h5⟩
def Zvl (N:Nat):Zax:=(Zad).add [0,1,0,1,1] fun _ E s K=>ZtU (Zbh Zos E) s fun e_1 f_2 e_3 f_4 x_5=>Zhd N e_1 f_2 e_3 f_4 (ZhG K e_1 f_2 e_3 f_4) (Zi4 K e_1 f_2 e_3 f_4) N x_5
theorem ZHK {N:Nat} (hC:Ok Tryz.prog C) (hΦ:Zaa Tryz.prog C (Zti N)):Za7 Tryz.prog C (Zvl N) Zvi [0,1,0,1,1] :=
 Za6 (Λi:=Zad) (tr:=false) (ks:=Zos) (kx:=ZzN) (N:=N) hC hΦ
  (Zai (by kernel_rfl))
  fun R E s K r h=>by
   have h2:=Zax.add_self.symm.trans h
   refine (Zaw rfl).trans ?_
   obtain ⟨_,_,_,_,_,he,rfl,h3⟩:=Zqg h2
   rw [he]
   exact (ZEY N _ _ _ _ _ N _).trans h3
theorem ZOx:Za0 ZFb [] = [([0,1,0,1,1],Zvi)]:=by kernel_rfl
theorem ZSx {R:Type} (N:Nat) (e_1:List V) (f_2:Fl) (e_3:List V) (f_4:Fl) (K:V → S → Option R):Za2 C (Zti N) (Zvl N) 61 Tryz.f61 [.list 2 e_1 f_2,.list 2 e_3 f_4] [] K =
 Zrk N e_1 f_2 e_3 f_4 (fun b_5=>K (.bool b_5) []):=by kernel_rfl
theorem ZGN {N:Nat} (hC:Ok Tryz.prog C) (hΦ:Zaa Tryz.prog C (Zti N)):ZaV Tryz.prog C (Zvl N) ZFb [] :=
 ZaG ZFb [] (by
  rw [ZOx]
  intro p hp
  simp only [List.mem_cons,List.mem_nil_iff,or_false] at hp
  rcases hp with rfl
  ·exact (ZHK hC hΦ))
theorem ZAl (hC:Ok Tryz.prog C) {N:Nat} (hΦ:Zaa Tryz.prog C (Zti N)):Zaa Tryz.prog C (ZHa N):=by
 refine hΦ.add_pure rfl fun R vs K r h=>?_
 unfold ZM4 at h
 obtain ⟨_,_,rfl,h1⟩:=Zas h
 obtain ⟨_,_,rfl,h2⟩:=Zam h1
 obtain ⟨_,_,rfl,h3⟩:=Zam h2
 obtain ⟨_,h4⟩:=Zae h3
 refine Zaq (fn:=Tryz.f61) (c:=ZFb) hC hΦ Tryz.func61 (by kernel_rfl) (by kernel_rfl) (ZGN (N:=N) hC hΦ) rfl rfl ?_
 refine (ZSx N _ _ _ _ _).trans ?_
 rw [← ZwR]
 exact h4
def ZNX (N:Nat):(R:Type) → List V → S → (V → S → Option R) → Option R:=fun _ vs s K =>
 Zcf vs fun v'1 v'2=>ZaB v'1 fun x_1 x_2 x_3 x_4 x_5 w_6 e_7 f_8=>ZaB v'2 fun x_9 x_10 x_11 x_12 x_13 w_14 e_15 f_16=>ZaR s <| ZKg N x_1 x_2 x_3 x_4 x_5 w_6 e_7 f_8 x_9 x_10 x_11 x_12 x_13 w_14 e_15 f_16 (fun b_17=>K (.bool b_17) [])
def ZuC (N:Nat):Zar:=(ZHa N).add 36 (ZNX N)
def ZP8:Code:=ZaS Tryz.f36
theorem ZQS {R:Type} (N:Nat) (x_1 x_2 x_3 x_4 x_5:Int) (w_6:ByteArray) (e_7:List V) (f_8:Fl) (x_9 x_10 x_11 x_12 x_13:Int) (w_14:ByteArray) (e_15:List V) (f_16:Fl) (K:V → S → Option R):Za2 C (ZHa N) (Zad) 36 Tryz.f36 [.agg [.int .i64 x_1,.int .i64 x_2,.int .i64 x_3,.int .i64 x_4,.int .i64 x_5,.str w_6,.list 2 e_7 f_8],.agg [.int .i64 x_9,.int .i64 x_10,.int .i64 x_11,.int .i64 x_12,.int .i64 x_13,.str w_14,.list 2 e_15 f_16]] [] K =
 Zrt N x_1 x_2 x_3 x_4 x_5 w_6 e_7 f_8 x_9 x_10 x_11 x_12 x_13 w_14 e_15 f_16 (fun b_17=>K (.bool b_17) []):=by kernel_rfl
theorem ZAu (hC:Ok Tryz.prog C) {N:Nat} (hΦ:Zaa Tryz.prog C (ZHa N)):Zaa Tryz.prog C (ZuC N):=by
 refine hΦ.add_pure rfl fun R vs K r h=>?_
 unfold ZNX at h
 obtain ⟨_,_,rfl,h1⟩:=Zas h
 obtain ⟨_,_,_,_,_,_,_,_,rfl,h2⟩:=Zb7 h1
 obtain ⟨_,_,_,_,_,_,_,_,rfl,h3⟩:=Zb7 h2
 obtain ⟨_,h4⟩:=Zae h3
 refine Zaq (fn:=Tryz.f36) (c:=ZP8) hC hΦ Tryz.func36 (by kernel_rfl) (by kernel_rfl) (Zai (Λ:=Zad) (by kernel_rfl)) rfl rfl ?_
 refine (ZQS N _ _ _ _ _ _ _ _ _ _ _ _ _ _ _ _ _).trans ?_
 rw [← Zxn]
 exact h4
def ZOe (N:Nat):(R:Type) → List V → S → (V → S → Option R) → Option R:=fun _ vs s K =>
 Zcf vs fun v'1 v'2=>ZaX 7 v'1 fun e_1 f_2=>ZaX 7 v'2 fun e_3 f_4=>ZaR s <| ZJ9 N e_1 f_2 e_3 f_4 (fun b_5=>K (.bool b_5) [])
def ZIG (N:Nat):Zar:=(ZuC N).add 22 (ZOe N)
def ZCS:Code:=ZaS Tryz.f22
def Zwc:Code:=(Zbn ZCS [] 0).2
def ZnK:List Nat:=ZbR 27 [0,1,5]
def Zxm:List Nat:=ZbR 27 [4]
def ZkR (e_1:List V) (f_2:Fl) (e_3:List V) (f_4:Fl) (x_5:Int):List V:=mkF 0 27 [(0,.list 7 e_1 f_2),(1,.list 7 e_3 f_4),(5,.int .i64 x_5)]
def Zif {R:Type} (K:X → List V → S → Option R) (e_1:List V) (f_2:Fl) (e_3:List V) (f_4:Fl):Unit → Option R:=(fun _=>K .ret (mkF 0 27 [(4,.bool false)]) [])
def ZiI {R:Type} (K:X → List V → S → Option R) (e_1:List V) (f_2:Fl) (e_3:List V) (f_4:Fl):Unit → Option R:=(fun _=>K (.exit 0) (mkF 0 27 []) [])
abbrev ZoO {R:Type} (N:Nat):Nat → List V → S → (X → List V → S → Option R) → Option R:=fun n=>ZcX C (ZuC N) (Zad) Zwc [0,1,0,1,1] false ZnK Zxm n R
theorem ZMO {R:Type} (N n:Nat) (e_1:List V) (f_2:Fl) (e_3:List V) (f_4:Fl) (x_5:Int) (K:X → List V → S → Option R) :
 ZoO N (n + 1) (ZkR e_1 f_2 e_3 f_4 x_5) [] K =
 Zc8 N e_1 f_2 e_3 f_4 (fun x_5=>ZoO N n (ZkR e_1 f_2 e_3 f_4 x_5) [] K) x_5 (Zif K e_1 f_2 e_3 f_4) (ZiI K e_1 f_2 e_3 f_4):=by kernel_rfl
theorem ZCT {R:Type} (N:Nat) (e_1:List V) (f_2:Fl) (e_3:List V) (f_4:Fl) (K:X → List V → S → Option R):∀ (n:Nat) (x_5:Int),
 ZoO N n (ZkR e_1 f_2 e_3 f_4 x_5) [] K = Zhg N e_1 f_2 e_3 f_4 (Zif K e_1 f_2 e_3 f_4) (ZiI K e_1 f_2 e_3 f_4) n x_5
 | 0,_=>rfl
 | n + 1,x_5=>(ZMO N n e_1 f_2 e_3 f_4 x_5 K).trans (congrArg (fun nx=>Zc8 N e_1 f_2 e_3 f_4 nx x_5 (Zif K e_1 f_2 e_3 f_4) (ZiI K e_1 f_2 e_3 f_4)) (funext fun x_5=>ZCT N e_1 f_2 e_3 f_4 K n x_5))
def ZuR {R:Type} (E:List V) (s:S) (k:List V → Fl → List V → Fl → Int → Option R):Option R :=
 Zaj (Za3 27 [0,1,5] E) <| Zbu E 0 7 fun e_1 f_2=>Zbu E 1 7 fun e_3 f_4=>ZaZ E 5 .i64 fun x_5=>ZaR s <| k e_1 f_2 e_3 f_4 x_5
theorem Zqw {R:Type} {E:List V} {s:S} {k:List V → Fl → List V → Fl → Int → Option R} {r:R} (h:ZuR E s k = some r):∃ e_1 f_2 e_3 f_4 x_5,E = ZkR e_1 f_2 e_3 f_4 x_5 ∧ s = [] ∧ k e_1 f_2 e_3 f_4 x_5 = some r:=by
 unfold ZuR at h
 obtain ⟨hg,h1⟩:=Zac h
 obtain ⟨_,_,hu0,h2⟩:=ZaC h1
 obtain ⟨_,_,hu1,h3⟩:=ZaC h2
 obtain ⟨_,hu5,h4⟩:=Zah h3
 obtain ⟨rfl,h5⟩:=Zae h4
 exact ⟨_,_,_,_,_,ZaU hg rfl (Zab hu0 (Zab hu1 (Zab hu5 ZaL))),rfl,h5⟩
def Zvg (N:Nat):Zax:=(Zad).add [0,1,0,1,1] fun _ E s K=>ZuR (Zbh ZnK E) s fun e_1 f_2 e_3 f_4 x_5=>Zhg N e_1 f_2 e_3 f_4 (Zif K e_1 f_2 e_3 f_4) (ZiI K e_1 f_2 e_3 f_4) N x_5
theorem ZJB {N:Nat} (hC:Ok Tryz.prog C) (hΦ:Zaa Tryz.prog C (ZuC N)):Za7 Tryz.prog C (Zvg N) Zwc [0,1,0,1,1] :=
 Za6 (Λi:=Zad) (tr:=false) (ks:=ZnK) (kx:=Zxm) (N:=N) hC hΦ
  (Zai (by kernel_rfl))
  fun R E s K r h=>by
   have h2:=Zax.add_self.symm.trans h
   refine (Zaw rfl).trans ?_
   obtain ⟨_,_,_,_,_,he,rfl,h3⟩:=Zqw h2
   rw [he]
   exact (ZCT N _ _ _ _ _ N _).trans h3
theorem ZPk:Za0 ZCS [] = [([0,1,0,1,1],Zwc)]:=by kernel_rfl
theorem ZQP {R:Type} (N:Nat) (e_1:List V) (f_2:Fl) (e_3:List V) (f_4:Fl) (K:V → S → Option R):Za2 C (ZuC N) (Zvg N) 22 Tryz.f22 [.list 7 e_1 f_2,.list 7 e_3 f_4] [] K =
 Zr0 N e_1 f_2 e_3 f_4 (fun b_5=>K (.bool b_5) []):=by kernel_rfl
theorem ZGA {N:Nat} (hC:Ok Tryz.prog C) (hΦ:Zaa Tryz.prog C (ZuC N)):ZaV Tryz.prog C (Zvg N) ZCS [] :=
 ZaG ZCS [] (by
  rw [ZPk]
  intro p hp
  simp only [List.mem_cons,List.mem_nil_iff,or_false] at hp
  rcases hp with rfl
  ·exact (ZJB hC hΦ))
theorem ZBY (hC:Ok Tryz.prog C) {N:Nat} (hΦ:Zaa Tryz.prog C (ZuC N)):Zaa Tryz.prog C (ZIG N):=by
 refine hΦ.add_pure rfl fun R vs K r h=>?_
 unfold ZOe at h
 obtain ⟨_,_,rfl,h1⟩:=Zas h
 obtain ⟨_,_,rfl,h2⟩:=Zam h1
 obtain ⟨_,_,rfl,h3⟩:=Zam h2
 obtain ⟨_,h4⟩:=Zae h3
 refine Zaq (fn:=Tryz.f22) (c:=ZCS) hC hΦ Tryz.func22 (by kernel_rfl) (by kernel_rfl) (ZGA (N:=N) hC hΦ) rfl rfl ?_
 refine (ZQP N _ _ _ _ _).trans ?_
 rw [← Zxr]
 exact h4
def ZNn (N:Nat):(R:Type) → List V → S → (V → S → Option R) → Option R:=fun _ vs s K =>
 Zcf vs fun v'1 v'2=>Za9 v'1 fun e_1 f_2 x_3=>Za9 v'2 fun e_4 f_5 x_6=>ZaR s <| ZJS N e_1 f_2 x_3 e_4 f_5 x_6 (fun b_7=>K (.bool b_7) [])
def Zum (N:Nat):Zar:=(ZIG N).add 10 (ZNn N)
def ZRj:Code:=ZaS Tryz.f10
theorem ZP6 {R:Type} (N:Nat) (e_1:List V) (f_2:Fl) (x_3:Int) (e_4:List V) (f_5:Fl) (x_6:Int) (K:V → S → Option R):Za2 C (ZIG N) (Zad) 10 Tryz.f10 [.agg [.list 7 e_1 f_2,.int .i64 x_3],.agg [.list 7 e_4 f_5,.int .i64 x_6]] [] K =
 ZsA N e_1 f_2 x_3 e_4 f_5 x_6 (fun b_7=>K (.bool b_7) []):=by kernel_rfl
theorem ZAr (hC:Ok Tryz.prog C) {N:Nat} (hΦ:Zaa Tryz.prog C (ZIG N)):Zaa Tryz.prog C (Zum N):=by
 refine hΦ.add_pure rfl fun R vs K r h=>?_
 unfold ZNn at h
 obtain ⟨_,_,rfl,h1⟩:=Zas h
 obtain ⟨_,_,_,rfl,h2⟩:=ZaH h1
 obtain ⟨_,_,_,rfl,h3⟩:=ZaH h2
 obtain ⟨_,h4⟩:=Zae h3
 refine Zaq (fn:=Tryz.f10) (c:=ZRj) hC hΦ Tryz.func10 (by kernel_rfl) (by kernel_rfl) (Zai (Λ:=Zad) (by kernel_rfl)) rfl rfl ?_
 refine (ZP6 N _ _ _ _ _ _ _).trans ?_
 rw [← ZzD]
 exact h4
def ZPt (N:Nat):(R:Type) → List V → S → (V → S → Option R) → Option R:=fun _ vs s K =>
 Zco vs fun v'1=>asInt .i64 v'1 fun x_1=>ZaR s <| Zq3 N x_1 (fun w_2=>K (.str w_2) [])
def Zwr (N:Nat):Zar:=(Zum N).add 24 (ZPt N)
def ZEj:Code:=ZaS Tryz.f24
def Zua:Code:=(Zbn ZEj [] 0).2
def Zo4:List Nat:=ZbR 20 [0,3]
def ZxC:List Nat:=ZbR 20 [3]
def ZkH (x_1:Int) (w_2:ByteArray):List V:=mkF 0 20 [(0,.int .i64 x_1),(3,.str w_2)]
def Zh2 {R:Type} (K:X → List V → S → Option R):ByteArray → Option R:=(fun w_1'=>K (.exit 0) (mkF 0 20 [(3,.str (w_1'))]) [])
abbrev Zn3 {R:Type} (N:Nat):Nat → List V → S → (X → List V → S → Option R) → Option R:=fun n=>ZcX C (Zum N) (Zad) Zua [0,0,1,1,1] false Zo4 ZxC n R
theorem ZMS {R:Type} (N n:Nat) (x_1:Int) (w_2:ByteArray) (K:X → List V → S → Option R) :
 Zn3 N (n + 1) (ZkH x_1 w_2) [] K =
 ZcI N (fun x_1 w_2=>Zn3 N n (ZkH x_1 w_2) [] K) x_1 w_2 (Zh2 K):=by kernel_rfl
theorem ZGL {R:Type} (N:Nat) (K:X → List V → S → Option R):∀ (n:Nat) (x_1:Int) (w_2:ByteArray),
 Zn3 N n (ZkH x_1 w_2) [] K = ZfM N (Zh2 K) n x_1 w_2
 | 0,_,_=>rfl
 | n + 1,x_1,w_2=>(ZMS N n x_1 w_2 K).trans (congrArg (fun nx=>ZcI N nx x_1 w_2 (Zh2 K)) (funext fun x_1=>funext fun w_2=>ZGL N K n x_1 w_2))
def Ztn {R:Type} (E:List V) (s:S) (k:Int → ByteArray → Option R):Option R :=
 Zaj (Za3 20 [0,3] E) <| ZaZ E 0 .i64 fun x_1=>Zlm E 3 fun w_2=>ZaR s <| k x_1 w_2
theorem ZrS {R:Type} {E:List V} {s:S} {k:Int → ByteArray → Option R} {r:R} (h:Ztn E s k = some r):∃ x_1 w_2,E = ZkH x_1 w_2 ∧ s = [] ∧ k x_1 w_2 = some r:=by
 unfold Ztn at h
 obtain ⟨hg,h1⟩:=Zac h
 obtain ⟨_,hu0,h2⟩:=Zah h1
 obtain ⟨_,hu3,h3⟩:=Zcl h2
 obtain ⟨rfl,h4⟩:=Zae h3
 exact ⟨_,_,ZaU hg rfl (Zab hu0 (Zab hu3 ZaL)),rfl,h4⟩
def Zuu (N:Nat):Zax:=(Zad).add [0,0,1,1,1] fun _ E s K=>Ztn (Zbh Zo4 E) s fun x_1 w_2=>ZfM N (Zh2 K) N x_1 w_2
theorem ZIh {N:Nat} (hC:Ok Tryz.prog C) (hΦ:Zaa Tryz.prog C (Zum N)):Za7 Tryz.prog C (Zuu N) Zua [0,0,1,1,1] :=
 Za6 (Λi:=Zad) (tr:=false) (ks:=Zo4) (kx:=ZxC) (N:=N) hC hΦ
  (Zai (by kernel_rfl))
  fun R E s K r h=>by
   have h2:=Zax.add_self.symm.trans h
   refine (Zaw rfl).trans ?_
   obtain ⟨_,_,he,rfl,h3⟩:=ZrS h2
   rw [he]
   exact (ZGL N _ N _ _).trans h3
theorem ZNW:Za0 ZEj [] = [([0,0,1,1,1],Zua)]:=by kernel_rfl
theorem ZSy {R:Type} (N:Nat) (x_1:Int) (K:V → S → Option R):Za2 C (Zum N) (Zuu N) 24 Tryz.f24 [.int .i64 x_1] [] K =
 ZrL N x_1 (fun w_2=>K (.str w_2) []):=by kernel_rfl
theorem ZGc {N:Nat} (hC:Ok Tryz.prog C) (hΦ:Zaa Tryz.prog C (Zum N)):ZaV Tryz.prog C (Zuu N) ZEj [] :=
 ZaG ZEj [] (by
  rw [ZNW]
  intro p hp
  simp only [List.mem_cons,List.mem_nil_iff,or_false] at hp
  rcases hp with rfl
  ·exact (ZIh hC hΦ))
theorem ZB6 (hC:Ok Tryz.prog C) {N:Nat} (hΦ:Zaa Tryz.prog C (Zum N)):Zaa Tryz.prog C (Zwr N):=by
 refine hΦ.add_pure rfl fun R vs K r h=>?_
 unfold ZPt at h
 obtain ⟨_,rfl,h1⟩:=Zat h
 obtain ⟨_,rfl,h2⟩:=Zaf h1
 obtain ⟨_,h3⟩:=Zae h2
 refine Zaq (fn:=Tryz.f24) (c:=ZEj) hC hΦ Tryz.func24 (by kernel_rfl) (by kernel_rfl) (ZGc (N:=N) hC hΦ) rfl rfl ?_
 refine (ZSy N _ _).trans ?_
 rw [← ZoI]
 exact h3
def ZM3 (N:Nat):(R:Type) → List V → S → (V → S → Option R) → Option R:=fun _ vs s K =>
 Zcf vs fun v'1 v'2=>ZeC v'1 fun o0 k'4 k'5 k_1=>isN k'4 0 <| isN k'5 0 <| asInt .i64 v'2 fun x_2=>ZKO s o0 0 fun o'6=>ZcW o'6 2 51 fun e_3 k'8=>isN k'8 0 <| Zaj (ZbL [o0]) <| Zaj (okI 1 [false] [some ⟨e_3,2,51,0⟩]) <| ZJq N k_1 x_2 e_3 (fun x_901 e_902=>FK s [o0] rl K (.int .i64 x_901) [some ⟨e_902,2,51,0⟩])
def Zuq (N:Nat):Zar:=(Zwr N).add 37 (ZM3 N)
def ZDP:Code:=ZaS Tryz.f37
def Zue:Code:=(Zbn ZDP [] 0).2
def Zpw:List Nat:=ZbR 28 [0,1,5]
def Zxu:List Nat:=ZbR 28 [1]
def ZkC (k_1:Nat) (x_2 x_3:Int) (e_4:List V):List V:=mkF 0 28 [(0,.arr 0 0 0 k_1),(1,.int .i64 x_2),(5,.int .i64 x_3)]
def ZhB {R:Type} (K:X → List V → S → Option R) (k_1:Nat):Int → List V → Option R:=(fun x_1' e_2'=>K (.exit 0) (mkF 0 28 [(1,.int .i64 (x_1'))]) [some ⟨e_2',2,51,0⟩])
abbrev Zon {R:Type} (N:Nat):Nat → List V → S → (X → List V → S → Option R) → Option R:=fun n=>ZcX C (Zwr N) (Zad) Zue [0,1,0,1] false Zpw Zxu n R
theorem ZMz {R:Type} (N n:Nat) (k_1:Nat) (x_2 x_3:Int) (e_4:List V) (K:X → List V → S → Option R) :
 Zon N (n + 1) (ZkC k_1 x_2 x_3 e_4) [some ⟨e_4,2,51,0⟩] K =
 ZdU N k_1 (fun x_2 x_3 e_4=>Zon N n (ZkC k_1 x_2 x_3 e_4) [some ⟨e_4,2,51,0⟩] K) x_2 x_3 e_4 (ZhB K k_1):=by kernel_rfl
theorem ZDH {R:Type} (N:Nat) (k_1:Nat) (K:X → List V → S → Option R):∀ (n:Nat) (x_2 x_3:Int) (e_4:List V),
 Zon N n (ZkC k_1 x_2 x_3 e_4) [some ⟨e_4,2,51,0⟩] K = ZfS N k_1 (ZhB K k_1) n x_2 x_3 e_4
 | 0,_,_,_=>rfl
 | n + 1,x_2,x_3,e_4=>(ZMz N n k_1 x_2 x_3 e_4 K).trans (congrArg (fun nx=>ZdU N k_1 nx x_2 x_3 e_4 (ZhB K k_1)) (funext fun x_2=>funext fun x_3=>funext fun e_4=>ZDH N k_1 K n x_2 x_3 e_4))
def Zvb {R:Type} (E:List V) (s:S) (k:Nat → Int → Int → List V → Option R):Option R :=
 Zaj (Za3 28 [0,1,5] E) <| Zbt (nth E 0) fun u0=>ZeC u0 fun k'1 k'2 k'3 k_1=>isN k'1 0 <| isN k'2 0 <| isN k'3 0 <| ZaZ E 1 .i64 fun x_2=>ZaZ E 5 .i64 fun x_3=>ZdW s fun o'4 s'5=>ZcW o'4 2 51 fun e_4 k'6=>isN k'6 0 <| ZaR s'5 <| k k_1 x_2 x_3 e_4
theorem Zp4 {R:Type} {E:List V} {s:S} {k:Nat → Int → Int → List V → Option R} {r:R} (h:Zvb E s k = some r):∃ k_1 x_2 x_3 e_4,E = ZkC k_1 x_2 x_3 e_4 ∧ s = [some ⟨e_4,2,51,0⟩] ∧ k k_1 x_2 x_3 e_4 = some r:=by
 unfold Zvb at h
 obtain ⟨hg,h1⟩:=Zac h
 obtain ⟨_,hu0,h2⟩:=Zag h1
 obtain ⟨_,_,_,_,rfl,h3⟩:=Zbz h2
 obtain ⟨rfl,h4⟩:=Zap h3
 obtain ⟨rfl,h5⟩:=Zap h4
 obtain ⟨rfl,h6⟩:=Zap h5
 obtain ⟨_,hu1,h7⟩:=Zah h6
 obtain ⟨_,hu5,h8⟩:=Zah h7
 obtain ⟨_,_,rfl,h9⟩:=ZaP h8
 obtain ⟨_,_,rfl,h10⟩:=ZaJ h9
 obtain ⟨rfl,h11⟩:=Zap h10
 obtain ⟨rfl,h12⟩:=Zae h11
 exact ⟨_,_,_,_,ZaU hg rfl (Zab hu0 (Zab hu1 (Zab hu5 ZaL))),rfl,h12⟩
def Zuo (N:Nat):Zax:=(Zad).add [0,1,0,1] fun _ E s K=>Zvb (Zbh Zpw E) s fun k_1 x_2 x_3 e_4=>ZfS N k_1 (ZhB K k_1) N x_2 x_3 e_4
theorem ZJN {N:Nat} (hC:Ok Tryz.prog C) (hΦ:Zaa Tryz.prog C (Zwr N)):Za7 Tryz.prog C (Zuo N) Zue [0,1,0,1] :=
 Za6 (Λi:=Zad) (tr:=false) (ks:=Zpw) (kx:=Zxu) (N:=N) hC hΦ
  (Zai (by kernel_rfl))
  fun R E s K r h=>by
   have h2:=Zax.add_self.symm.trans h
   refine (Zaw rfl).trans ?_
   obtain ⟨_,_,_,_,he,rfl,h3⟩:=Zp4 h2
   rw [he]
   exact (ZDH N _ _ N _ _ _).trans h3
theorem ZNS:Za0 ZDP [] = [([0,1,0,1],Zue)]:=by kernel_rfl
theorem ZQG {R:Type} (N:Nat) (k_1:Nat) (x_2:Int) (e_3:List V) (K:V → S → Option R):Za2 C (Zwr N) (Zuo N) 37 Tryz.f37 [.arr 0 0 0 k_1,.int .i64 x_2] [some ⟨e_3,2,51,0⟩] (GK rl 1 K) =
 Zqu N k_1 x_2 e_3 (fun x_901 e_902=>K (.int .i64 x_901) [some ⟨e_902,2,51,0⟩]):=by kernel_rfl
theorem ZGo {N:Nat} (hC:Ok Tryz.prog C) (hΦ:Zaa Tryz.prog C (Zwr N)):ZaV Tryz.prog C (Zuo N) ZDP [] :=
 ZaG ZDP [] (by
  rw [ZNS]
  intro p hp
  simp only [List.mem_cons,List.mem_nil_iff,or_false] at hp
  rcases hp with rfl
  ·exact (ZJN hC hΦ))
theorem ZzX (hC:Ok Tryz.prog C) {N:Nat} (hΦ:Zaa Tryz.prog C (Zwr N)):Zaa Tryz.prog C (Zuq N):=by
 refine hΦ.add_shared rfl fun R vs s K r h=>?_
 unfold ZM3 at h
 obtain ⟨_,_,rfl,h1⟩:=Zas h
 obtain ⟨o0,_,_,k_1,rfl,h2⟩:=Zbz h1
 obtain ⟨rfl,h3⟩:=Zap h2
 obtain ⟨rfl,h4⟩:=Zap h3
 obtain ⟨x_2,rfl,h5⟩:=Zaf h4
 obtain ⟨_,hob0,h6⟩:=Zez h5
 obtain ⟨e_3,_,rfl,h7⟩:=ZaJ h6
 obtain ⟨rfl,h8⟩:=Zap h7
 obtain ⟨hdist,h9⟩:=Zac h8
 obtain ⟨hin,h10⟩:=Zac h9
 refine Zcv (C:=C) (fn:=Tryz.f37) (c:=ZDP) (os:=[o0]) (rl:=rl) (bi:=[false]) (s0:=[some ⟨e_3,2,51,0⟩]) (as0:=[.arr 0 0 0 k_1,.int .i64 x_2]) hC (hΦ) Tryz.func37 (by kernel_rfl) (by kernel_rfl) (ZGo (N:=N) hC hΦ) rfl (ZfB rfl) hdist ⟨⟨_,rfl,hob0⟩,trivial⟩ hin rfl rfl ?_
 refine (ZQG N _ _ _ _).trans ?_
 rw [← ZxU]
 exact h10
def ZOv (N:Nat):(R:Type) → List V → S → (V → S → Option R) → Option R:=fun _ vs s K =>
 Zcf vs fun v'1 v'2=>ZeC v'1 fun o0 k'4 k'5 k_1=>isN k'4 0 <| isN k'5 0 <| asInt .i64 v'2 fun x_2=>ZKO s o0 0 fun o'6=>ZcW o'6 7 49 fun e_3 k'8=>isN k'8 0 <| Zaj (ZbL [o0]) <| Zaj (okI 1 [false] [some ⟨e_3,7,49,0⟩]) <| ZMw N k_1 x_2 e_3 (fun x_901 e_902=>FK s [o0] rl K (.int .i64 x_901) [some ⟨e_902,7,49,0⟩])
def ZII (N:Nat):Zar:=(Zuq N).add 23 (ZOv N)
def ZDS:Code:=ZaS Tryz.f23
def Ztw:Code:=(Zbn ZDS [] 0).2
def Zi7:TypeId → Option (Nat × TypeId):=fun t=>if Nat.beq t 49 then some (6,51) else none
abbrev ZFP:Cfg:=C.rowed false true none Zi7 [] [] [] []
def ZoR:List Nat:=ZbR 63 [0,1,5]
def Zx1:List Nat:=ZbR 63 [1]
def Zkt (k_1:Nat) (x_2 x_3:Int) (e_4:List V):List V:=mkF 0 63 [(0,.arr 0 0 0 k_1),(1,.int .i64 x_2),(5,.int .i64 x_3)]
def Zis {R:Type} (K:X → List V → S → Option R) (k_1:Nat):Int → List V → Option R:=(fun x_1' e_2'=>K (.exit 0) (mkF 0 63 [(1,.int .i64 (x_1'))]) [some ⟨e_2',7,49,0⟩])
abbrev ZnB {R:Type} (N:Nat):Nat → List V → S → (X → List V → S → Option R) → Option R:=fun n=>ZcX ZFP (Zuq N) (Zad) Ztw [0,1,0,1] true ZoR Zx1 n R
theorem ZMF {R:Type} (N n:Nat) (k_1:Nat) (x_2 x_3:Int) (e_4:List V) (K:X → List V → S → Option R) :
 ZnB N (n + 1) (Zkt k_1 x_2 x_3 e_4) [some ⟨e_4,7,49,0⟩] K =
 Zdd N k_1 (fun x_2 x_3 e_4=>ZnB N n (Zkt k_1 x_2 x_3 e_4) [some ⟨e_4,7,49,0⟩] K) x_2 x_3 e_4 (Zis K k_1):=by kernel_rfl
theorem ZDy {R:Type} (N:Nat) (k_1:Nat) (K:X → List V → S → Option R):∀ (n:Nat) (x_2 x_3:Int) (e_4:List V),
 ZnB N n (Zkt k_1 x_2 x_3 e_4) [some ⟨e_4,7,49,0⟩] K = ZfK N k_1 (Zis K k_1) n x_2 x_3 e_4
 | 0,_,_,_=>rfl
 | n + 1,x_2,x_3,e_4=>(ZMF N n k_1 x_2 x_3 e_4 K).trans (congrArg (fun nx=>Zdd N k_1 nx x_2 x_3 e_4 (Zis K k_1)) (funext fun x_2=>funext fun x_3=>funext fun e_4=>ZDy N k_1 K n x_2 x_3 e_4))
def ZuE {R:Type} (E:List V) (s:S) (k:Nat → Int → Int → List V → Option R):Option R :=
 Zaj (Za3 63 [0,1,5] E) <| Zbt (nth E 0) fun u0=>ZeC u0 fun k'1 k'2 k'3 k_1=>isN k'1 0 <| isN k'2 0 <| isN k'3 0 <| ZaZ E 1 .i64 fun x_2=>ZaZ E 5 .i64 fun x_3=>ZdW s fun o'4 s'5=>ZcW o'4 7 49 fun e_4 k'6=>isN k'6 0 <| ZaR s'5 <| k k_1 x_2 x_3 e_4
theorem Zr9 {R:Type} {E:List V} {s:S} {k:Nat → Int → Int → List V → Option R} {r:R} (h:ZuE E s k = some r):∃ k_1 x_2 x_3 e_4,E = Zkt k_1 x_2 x_3 e_4 ∧ s = [some ⟨e_4,7,49,0⟩] ∧ k k_1 x_2 x_3 e_4 = some r:=by
 unfold ZuE at h
 obtain ⟨hg,h1⟩:=Zac h
 obtain ⟨_,hu0,h2⟩:=Zag h1
 obtain ⟨_,_,_,_,rfl,h3⟩:=Zbz h2
 obtain ⟨rfl,h4⟩:=Zap h3
 obtain ⟨rfl,h5⟩:=Zap h4
 obtain ⟨rfl,h6⟩:=Zap h5
 obtain ⟨_,hu1,h7⟩:=Zah h6
 obtain ⟨_,hu5,h8⟩:=Zah h7
 obtain ⟨_,_,rfl,h9⟩:=ZaP h8
 obtain ⟨_,_,rfl,h10⟩:=ZaJ h9
 obtain ⟨rfl,h11⟩:=Zap h10
 obtain ⟨rfl,h12⟩:=Zae h11
 exact ⟨_,_,_,_,ZaU hg rfl (Zab hu0 (Zab hu1 (Zab hu5 ZaL))),rfl,h12⟩
def Zv8 (N:Nat):Zax:=(Zad).add [0,1,0,1] fun _ E s K=>ZuE (Zbh ZoR E) s fun k_1 x_2 x_3 e_4=>ZfK N k_1 (Zis K k_1) N x_2 x_3 e_4
theorem ZG2 {N:Nat} (hC:Ok Tryz.prog C) (hΦ:Zaa Tryz.prog C (Zuq N)):Za7 Tryz.prog ZFP (Zv8 N) Ztw [0,1,0,1] :=
 Za6 (Λi:=Zad) (tr:=true) (ks:=ZoR) (kx:=Zx1) (N:=N) (hC.rowed false true none Zi7 [] [] [] []) (hΦ.rowed false true none Zi7 [] [] [] [])
  (Zai (by kernel_rfl))
  fun R E s K r h=>by
   have h2:=Zax.add_self.symm.trans h
   refine (Zaw rfl).trans ?_
   obtain ⟨_,_,_,_,he,rfl,h3⟩:=Zr9 h2
   rw [he]
   exact (ZDy N _ _ N _ _ _).trans h3
theorem ZNH:Za0 ZDS [] = [([0,1,0,1],Ztw)]:=by kernel_rfl
theorem ZQK {R:Type} (N:Nat) (k_1:Nat) (x_2:Int) (e_3:List V) (K:V → S → Option R):Za2 ZFP (Zuq N) (Zv8 N) 23 Tryz.f23 [.arr 0 0 0 k_1,.int .i64 x_2] [some ⟨e_3,7,49,0⟩] (GK rl 1 K) =
 ZqA N k_1 x_2 e_3 (fun x_901 e_902=>K (.int .i64 x_901) [some ⟨e_902,7,49,0⟩]):=by kernel_rfl
theorem ZEZ {N:Nat} (hC:Ok Tryz.prog C) (hΦ:Zaa Tryz.prog C (Zuq N)):ZaV Tryz.prog ZFP (Zv8 N) ZDS [] :=
 ZaG ZDS [] (by
  rw [ZNH]
  intro p hp
  simp only [List.mem_cons,List.mem_nil_iff,or_false] at hp
  rcases hp with rfl
  ·exact (ZG2 hC hΦ))
theorem ZCd (hC:Ok Tryz.prog C) {N:Nat} (hΦ:Zaa Tryz.prog C (Zuq N)):Zaa Tryz.prog C (ZII N):=by
 refine hΦ.add_shared rfl fun R vs s K r h=>?_
 unfold ZOv at h
 obtain ⟨_,_,rfl,h1⟩:=Zas h
 obtain ⟨o0,_,_,k_1,rfl,h2⟩:=Zbz h1
 obtain ⟨rfl,h3⟩:=Zap h2
 obtain ⟨rfl,h4⟩:=Zap h3
 obtain ⟨x_2,rfl,h5⟩:=Zaf h4
 obtain ⟨_,hob0,h6⟩:=Zez h5
 obtain ⟨e_3,_,rfl,h7⟩:=ZaJ h6
 obtain ⟨rfl,h8⟩:=Zap h7
 obtain ⟨hdist,h9⟩:=Zac h8
 obtain ⟨hin,h10⟩:=Zac h9
 refine Zip (C:=C) false true none Zi7 [] [] [] [] ?_
 refine Zcv (C:=ZFP) (fn:=Tryz.f23) (c:=ZDS) (os:=[o0]) (rl:=rl) (bi:=[false]) (s0:=[some ⟨e_3,7,49,0⟩]) (as0:=[.arr 0 0 0 k_1,.int .i64 x_2]) (hC.rowed false true none Zi7 [] [] [] []) (hΦ.rowed false true none Zi7 [] [] [] []) Tryz.func23 (by kernel_rfl) (by kernel_rfl) (ZEZ (N:=N) hC hΦ) rfl (ZfB rfl) hdist ⟨⟨_,rfl,hob0⟩,trivial⟩ hin rfl rfl ?_
 refine (ZQK N _ _ _ _).trans ?_
 rw [← Zxk]
 exact h10
def ZPp (N:Nat):(R:Type) → List V → S → (V → S → Option R) → Option R:=fun _ vs s K =>
 Zcf vs fun v'1 v'2=>asAgg v'1 fun c'3=>Zcf c'3 fun v'4 v'5=>ZeC v'4 fun o0 k'7 k'8 k_4=>isN k'7 0 <| isN k'8 0 <| asInt .i64 v'5 fun x_3=>asInt .i64 v'2 fun x_5=>ZKO s o0 0 fun o'9=>ZcW o'9 7 49 fun e_6 k'11=>isN k'11 0 <| Zaj (ZbL [o0]) <| Zaj (okI 1 [false] [some ⟨e_6,7,49,0⟩]) <| ZEs N k_4 x_3 x_5 e_6 (fun x_901 e_902=>FK s [o0] rl K (.int .i64 x_901) [some ⟨e_902,7,49,0⟩])
def Zv6 (N:Nat):Zar:=(ZII N).add 11 (ZPp N)
def ZSw:Code:=ZaS Tryz.f11
def Zm5:TypeId → Option (Nat × TypeId):=fun t=>if Nat.beq t 49 then some (6,51) else none
abbrev ZOK:Cfg:=C.rowed false true none Zm5 [] [] [] []
theorem ZRA {R:Type} (N:Nat) (k_4:Nat) (x_3 x_5:Int) (e_6:List V) (K:V → S → Option R):Za2 ZOK (ZII N) (Zad) 11 Tryz.f11 [.agg [.arr 0 0 0 k_4,.int .i64 x_3],.int .i64 x_5] [some ⟨e_6,7,49,0⟩] (GK rl 1 K) =
 ZsI N k_4 x_3 x_5 e_6 (fun x_901 e_902=>K (.int .i64 x_901) [some ⟨e_902,7,49,0⟩]):=by kernel_rfl
theorem ZAC (hC:Ok Tryz.prog C) {N:Nat} (hΦ:Zaa Tryz.prog C (ZII N)):Zaa Tryz.prog C (Zv6 N):=by
 refine hΦ.add_shared rfl fun R vs s K r h=>?_
 unfold ZPp at h
 obtain ⟨_,_,rfl,h1⟩:=Zas h
 obtain ⟨_,rfl,h2⟩:=ZaF h1
 obtain ⟨_,_,rfl,h3⟩:=Zas h2
 obtain ⟨o0,_,_,k_4,rfl,h4⟩:=Zbz h3
 obtain ⟨rfl,h5⟩:=Zap h4
 obtain ⟨rfl,h6⟩:=Zap h5
 obtain ⟨x_3,rfl,h7⟩:=Zaf h6
 obtain ⟨x_5,rfl,h8⟩:=Zaf h7
 obtain ⟨_,hob0,h9⟩:=Zez h8
 obtain ⟨e_6,_,rfl,h10⟩:=ZaJ h9
 obtain ⟨rfl,h11⟩:=Zap h10
 obtain ⟨hdist,h12⟩:=Zac h11
 obtain ⟨hin,h13⟩:=Zac h12
 refine Zip (C:=C) false true none Zm5 [] [] [] [] ?_
 refine Zcv (C:=ZOK) (fn:=Tryz.f11) (c:=ZSw) (os:=[o0]) (rl:=rl) (bi:=[false]) (s0:=[some ⟨e_6,7,49,0⟩]) (as0:=[.agg [.arr 0 0 0 k_4,.int .i64 x_3],.int .i64 x_5]) (hC.rowed false true none Zm5 [] [] [] []) (hΦ.rowed false true none Zm5 [] [] [] []) Tryz.func11 (by kernel_rfl) (by kernel_rfl) (Zai (Λ:=Zad) (by kernel_rfl)) rfl (ZfB rfl) hdist ⟨⟨_,rfl,hob0⟩,trivial⟩ hin rfl rfl ?_
 refine (ZRA N _ _ _ _ _).trans ?_
 rw [← Zw0]
 exact h13
def ZNx (N:Nat):(R:Type) → List V → S → (V → S → Option R) → Option R:=fun _ vs s K =>
 Zcf vs fun v'1 v'2=>ZeC v'1 fun o0 k'4 k'5 k_1=>isN k'4 0 <| isN k'5 0 <| asInt .i64 v'2 fun x_2=>ZKO s o0 0 fun o'6=>ZcW o'6 1 9 fun e_3 k'8=>isN k'8 0 <| Zaj (ZbL [o0]) <| Zaj (okI 1 [false] [some ⟨e_3,1,9,0⟩]) <| ZC8 N k_1 x_2 e_3 (fun x_901 e_902=>FK s [o0] rl K (.int .i64 x_901) [some ⟨e_902,1,9,0⟩])
def Zu0 (N:Nat):Zar:=(Zv6 N).add 12 (ZNx N)
def ZFf:Code:=ZaS Tryz.f12
def ZtQ:Code:=(Zbn ZFf [] 0).2
def Znw:List Nat:=ZbR 20 [0,1,5]
def ZyZ:List Nat:=ZbR 20 [1]
def ZkY (k_1:Nat) (x_2 x_3:Int) (e_4:List V):List V:=mkF 0 20 [(0,.arr 0 0 0 k_1),(1,.int .i64 x_2),(5,.int .i64 x_3)]
def Zin {R:Type} (K:X → List V → S → Option R) (k_1:Nat):Int → List V → Option R:=(fun x_1' e_2'=>K (.exit 0) (mkF 0 20 [(1,.int .i64 (x_1'))]) [some ⟨e_2',1,9,0⟩])
abbrev Zm8 {R:Type} (N:Nat):Nat → List V → S → (X → List V → S → Option R) → Option R:=fun n=>ZcX C (Zv6 N) (Zad) ZtQ [0,1,0,1] false Znw ZyZ n R
theorem ZMp {R:Type} (N n:Nat) (k_1:Nat) (x_2 x_3:Int) (e_4:List V) (K:X → List V → S → Option R) :
 Zm8 N (n + 1) (ZkY k_1 x_2 x_3 e_4) [some ⟨e_4,1,9,0⟩] K =
 ZdB N k_1 (fun x_2 x_3 e_4=>Zm8 N n (ZkY k_1 x_2 x_3 e_4) [some ⟨e_4,1,9,0⟩] K) x_2 x_3 e_4 (Zin K k_1):=by kernel_rfl
theorem ZGD {R:Type} (N:Nat) (k_1:Nat) (K:X → List V → S → Option R):∀ (n:Nat) (x_2 x_3:Int) (e_4:List V),
 Zm8 N n (ZkY k_1 x_2 x_3 e_4) [some ⟨e_4,1,9,0⟩] K = Zg1 N k_1 (Zin K k_1) n x_2 x_3 e_4
 | 0,_,_,_=>rfl
 | n + 1,x_2,x_3,e_4=>(ZMp N n k_1 x_2 x_3 e_4 K).trans (congrArg (fun nx=>ZdB N k_1 nx x_2 x_3 e_4 (Zin K k_1)) (funext fun x_2=>funext fun x_3=>funext fun e_4=>ZGD N k_1 K n x_2 x_3 e_4))
def Ztr {R:Type} (E:List V) (s:S) (k:Nat → Int → Int → List V → Option R):Option R :=
 Zaj (Za3 20 [0,1,5] E) <| Zbt (nth E 0) fun u0=>ZeC u0 fun k'1 k'2 k'3 k_1=>isN k'1 0 <| isN k'2 0 <| isN k'3 0 <| ZaZ E 1 .i64 fun x_2=>ZaZ E 5 .i64 fun x_3=>ZdW s fun o'4 s'5=>ZcW o'4 1 9 fun e_4 k'6=>isN k'6 0 <| ZaR s'5 <| k k_1 x_2 x_3 e_4
theorem Zr1 {R:Type} {E:List V} {s:S} {k:Nat → Int → Int → List V → Option R} {r:R} (h:Ztr E s k = some r):∃ k_1 x_2 x_3 e_4,E = ZkY k_1 x_2 x_3 e_4 ∧ s = [some ⟨e_4,1,9,0⟩] ∧ k k_1 x_2 x_3 e_4 = some r:=by
 unfold Ztr at h
 obtain ⟨hg,h1⟩:=Zac h
 obtain ⟨_,hu0,h2⟩:=Zag h1
 obtain ⟨_,_,_,_,rfl,h3⟩:=Zbz h2
 obtain ⟨rfl,h4⟩:=Zap h3
 obtain ⟨rfl,h5⟩:=Zap h4
 obtain ⟨rfl,h6⟩:=Zap h5
 obtain ⟨_,hu1,h7⟩:=Zah h6
 obtain ⟨_,hu5,h8⟩:=Zah h7
 obtain ⟨_,_,rfl,h9⟩:=ZaP h8
 obtain ⟨_,_,rfl,h10⟩:=ZaJ h9
 obtain ⟨rfl,h11⟩:=Zap h10
 obtain ⟨rfl,h12⟩:=Zae h11
 exact ⟨_,_,_,_,ZaU hg rfl (Zab hu0 (Zab hu1 (Zab hu5 ZaL))),rfl,h12⟩
def ZuM (N:Nat):Zax:=(Zad).add [0,1,0,1] fun _ E s K=>Ztr (Zbh Znw E) s fun k_1 x_2 x_3 e_4=>Zg1 N k_1 (Zin K k_1) N x_2 x_3 e_4
theorem ZIg {N:Nat} (hC:Ok Tryz.prog C) (hΦ:Zaa Tryz.prog C (Zv6 N)):Za7 Tryz.prog C (ZuM N) ZtQ [0,1,0,1] :=
 Za6 (Λi:=Zad) (tr:=false) (ks:=Znw) (kx:=ZyZ) (N:=N) hC hΦ
  (Zai (by kernel_rfl))
  fun R E s K r h=>by
   have h2:=Zax.add_self.symm.trans h
   refine (Zaw rfl).trans ?_
   obtain ⟨_,_,_,_,he,rfl,h3⟩:=Zr1 h2
   rw [he]
   exact (ZGD N _ _ N _ _ _).trans h3
theorem ZNy:Za0 ZFf [] = [([0,1,0,1],ZtQ)]:=by kernel_rfl
theorem ZQZ {R:Type} (N:Nat) (k_1:Nat) (x_2:Int) (e_3:List V) (K:V → S → Option R):Za2 C (Zv6 N) (ZuM N) 12 Tryz.f12 [.arr 0 0 0 k_1,.int .i64 x_2] [some ⟨e_3,1,9,0⟩] (GK rl 1 K) =
 Zql N k_1 x_2 e_3 (fun x_901 e_902=>K (.int .i64 x_901) [some ⟨e_902,1,9,0⟩]):=by kernel_rfl
theorem ZE2 {N:Nat} (hC:Ok Tryz.prog C) (hΦ:Zaa Tryz.prog C (Zv6 N)):ZaV Tryz.prog C (ZuM N) ZFf [] :=
 ZaG ZFf [] (by
  rw [ZNy]
  intro p hp
  simp only [List.mem_cons,List.mem_nil_iff,or_false] at hp
  rcases hp with rfl
  ·exact (ZIg hC hΦ))
theorem ZCt (hC:Ok Tryz.prog C) {N:Nat} (hΦ:Zaa Tryz.prog C (Zv6 N)):Zaa Tryz.prog C (Zu0 N):=by
 refine hΦ.add_shared rfl fun R vs s K r h=>?_
 unfold ZNx at h
 obtain ⟨_,_,rfl,h1⟩:=Zas h
 obtain ⟨o0,_,_,k_1,rfl,h2⟩:=Zbz h1
 obtain ⟨rfl,h3⟩:=Zap h2
 obtain ⟨rfl,h4⟩:=Zap h3
 obtain ⟨x_2,rfl,h5⟩:=Zaf h4
 obtain ⟨_,hob0,h6⟩:=Zez h5
 obtain ⟨e_3,_,rfl,h7⟩:=ZaJ h6
 obtain ⟨rfl,h8⟩:=Zap h7
 obtain ⟨hdist,h9⟩:=Zac h8
 obtain ⟨hin,h10⟩:=Zac h9
 refine Zcv (C:=C) (fn:=Tryz.f12) (c:=ZFf) (os:=[o0]) (rl:=rl) (bi:=[false]) (s0:=[some ⟨e_3,1,9,0⟩]) (as0:=[.arr 0 0 0 k_1,.int .i64 x_2]) hC (hΦ) Tryz.func12 (by kernel_rfl) (by kernel_rfl) (ZE2 (N:=N) hC hΦ) rfl (ZfB rfl) hdist ⟨⟨_,rfl,hob0⟩,trivial⟩ hin rfl rfl ?_
 refine (ZQZ N _ _ _ _).trans ?_
 rw [← ZwT]
 exact h10
def ZPS (N:Nat):(R:Type) → List V → S → (V → S → Option R) → Option R:=fun _ vs s K =>
 Zcf vs fun v'1 v'2=>ZaX 1 v'1 fun e_1 f_2=>asInt .i64 v'2 fun x_3=>ZaR s <| ZCo N e_1 f_2 x_3 (fun x_4=>K (.int .i64 x_4) [])
def ZB0 (N:Nat):Zar:=(Zu0 N).add 13 (ZPS N)
def ZGs:Code:=ZaS Tryz.f13
def ZuZ:Code:=(Zbn ZGs [] 0).2
def Znb:List Nat:=ZbR 22 [0,1,5]
def Zxf:List Nat:=ZbR 22 [1,4]
def Zkg (e_1:List V) (f_2:Fl) (x_3 x_4:Int):List V:=mkF 0 22 [(0,.list 1 e_1 f_2),(1,.int .i64 x_3),(5,.int .i64 x_4)]
def ZiQ {R:Type} (K:X → List V → S → Option R) (e_1:List V) (f_2:Fl):Int → Option R:=(fun x_1'=>K .ret (mkF 0 22 [(1,.int .i64 (x_1')),(4,.int .i64 (-1))]) [])
def ZhD {R:Type} (K:X → List V → S → Option R) (e_1:List V) (f_2:Fl):Int → Option R:=(fun x_1'=>K (.exit 0) (mkF 0 22 [(1,.int .i64 (x_1'))]) [])
abbrev Znt {R:Type} (N:Nat):Nat → List V → S → (X → List V → S → Option R) → Option R:=fun n=>ZcX C (Zu0 N) (Zad) ZuZ [0,1,0,1] false Znb Zxf n R
theorem ZMc {R:Type} (N n:Nat) (e_1:List V) (f_2:Fl) (x_3 x_4:Int) (K:X → List V → S → Option R) :
 Znt N (n + 1) (Zkg e_1 f_2 x_3 x_4) [] K =
 Zdf N e_1 f_2 (fun x_3 x_4=>Znt N n (Zkg e_1 f_2 x_3 x_4) [] K) x_3 x_4 (ZiQ K e_1 f_2) (ZhD K e_1 f_2):=by kernel_rfl
theorem ZEQ {R:Type} (N:Nat) (e_1:List V) (f_2:Fl) (K:X → List V → S → Option R):∀ (n:Nat) (x_3 x_4:Int),
 Znt N n (Zkg e_1 f_2 x_3 x_4) [] K = Zg4 N e_1 f_2 (ZiQ K e_1 f_2) (ZhD K e_1 f_2) n x_3 x_4
 | 0,_,_=>rfl
 | n + 1,x_3,x_4=>(ZMc N n e_1 f_2 x_3 x_4 K).trans (congrArg (fun nx=>Zdf N e_1 f_2 nx x_3 x_4 (ZiQ K e_1 f_2) (ZhD K e_1 f_2)) (funext fun x_3=>funext fun x_4=>ZEQ N e_1 f_2 K n x_3 x_4))
def Zvu {R:Type} (E:List V) (s:S) (k:List V → Fl → Int → Int → Option R):Option R :=
 Zaj (Za3 22 [0,1,5] E) <| Zbu E 0 1 fun e_1 f_2=>ZaZ E 1 .i64 fun x_3=>ZaZ E 5 .i64 fun x_4=>ZaR s <| k e_1 f_2 x_3 x_4
theorem ZrZ {R:Type} {E:List V} {s:S} {k:List V → Fl → Int → Int → Option R} {r:R} (h:Zvu E s k = some r):∃ e_1 f_2 x_3 x_4,E = Zkg e_1 f_2 x_3 x_4 ∧ s = [] ∧ k e_1 f_2 x_3 x_4 = some r:=by
 unfold Zvu at h
 obtain ⟨hg,h1⟩:=Zac h
 obtain ⟨_,_,hu0,h2⟩:=ZaC h1
 obtain ⟨_,hu1,h3⟩:=Zah h2
 obtain ⟨_,hu5,h4⟩:=Zah h3
 obtain ⟨rfl,h5⟩:=Zae h4
 exact ⟨_,_,_,_,ZaU hg rfl (Zab hu0 (Zab hu1 (Zab hu5 ZaL))),rfl,h5⟩
def ZuU (N:Nat):Zax:=(Zad).add [0,1,0,1] fun _ E s K=>Zvu (Zbh Znb E) s fun e_1 f_2 x_3 x_4=>Zg4 N e_1 f_2 (ZiQ K e_1 f_2) (ZhD K e_1 f_2) N x_3 x_4
theorem ZI0 {N:Nat} (hC:Ok Tryz.prog C) (hΦ:Zaa Tryz.prog C (Zu0 N)):Za7 Tryz.prog C (ZuU N) ZuZ [0,1,0,1] :=
 Za6 (Λi:=Zad) (tr:=false) (ks:=Znb) (kx:=Zxf) (N:=N) hC hΦ
  (Zai (by kernel_rfl))
  fun R E s K r h=>by
   have h2:=Zax.add_self.symm.trans h
   refine (Zaw rfl).trans ?_
   obtain ⟨_,_,_,_,he,rfl,h3⟩:=ZrZ h2
   rw [he]
   exact (ZEQ N _ _ _ N _ _).trans h3
theorem ZNJ:Za0 ZGs [] = [([0,1,0,1],ZuZ)]:=by kernel_rfl
theorem ZQ1 {R:Type} (N:Nat) (e_1:List V) (f_2:Fl) (x_3:Int) (K:V → S → Option R):Za2 C (Zu0 N) (ZuU N) 13 Tryz.f13 [.list 1 e_1 f_2,.int .i64 x_3] [] K =
 Zrs N e_1 f_2 x_3 (fun x_4=>K (.int .i64 x_4) []):=by kernel_rfl
theorem ZEw {N:Nat} (hC:Ok Tryz.prog C) (hΦ:Zaa Tryz.prog C (Zu0 N)):ZaV Tryz.prog C (ZuU N) ZGs [] :=
 ZaG ZGs [] (by
  rw [ZNJ]
  intro p hp
  simp only [List.mem_cons,List.mem_nil_iff,or_false] at hp
  rcases hp with rfl
  ·exact (ZI0 hC hΦ))
theorem ZAa (hC:Ok Tryz.prog C) {N:Nat} (hΦ:Zaa Tryz.prog C (Zu0 N)):Zaa Tryz.prog C (ZB0 N):=by
 refine hΦ.add_pure rfl fun R vs K r h=>?_
 unfold ZPS at h
 obtain ⟨_,_,rfl,h1⟩:=Zas h
 obtain ⟨_,_,rfl,h2⟩:=Zam h1
 obtain ⟨_,rfl,h3⟩:=Zaf h2
 obtain ⟨_,h4⟩:=Zae h3
 refine Zaq (fn:=Tryz.f13) (c:=ZGs) hC hΦ Tryz.func13 (by kernel_rfl) (by kernel_rfl) (ZEw (N:=N) hC hΦ) rfl rfl ?_
 refine (ZQ1 N _ _ _ _).trans ?_
 rw [← ZyH]
 exact h4
def ZNP (N:Nat):(R:Type) → List V → S → (V → S → Option R) → Option R:=fun _ vs s K =>
 ZEn vs fun v'1 v'2 v'3=>ZeJ v'1 fun e_1 f_2 x_3=>Zer v'2 fun x_4 x_5=>Zby v'3 fun w_6=>ZaR s <| ZPK N e_1 f_2 x_3 x_4 x_5 w_6 (fun b_7=>K (.bool b_7) [])
def ZQx (N:Nat):Zar:=(ZB0 N).add 3 (ZNP N)
def ZLN:Code:=ZaS Tryz.f3
def inl_zao:TypeId → Option (Nat × TypeId):=fun t=>if Nat.beq t 49 then some (6,51) else none
abbrev ZLv:Cfg:=C.rowed false true none inl_zao [] [] [46] [(9,4,5)]
theorem ZSj {R:Type} (N:Nat) (e_1:List V) (f_2:Fl) (x_3 x_4 x_5:Int) (w_6:ByteArray) (K:V → S → Option R):Zok ZLv (ZB0 N) Zad ZLN [] ([.agg [.list 7 e_1 f_2,.int .i64 x_3],.agg [.int .i64 x_4,.int .i64 x_5],.str w_6] ++ List.replicate (Tryz.f3.ntmps - ([.agg [.list 7 e_1 f_2,.int .i64 x_3],.agg [.int .i64 x_4,.int .i64 x_5],.str w_6]:List V).length) .dead) [] (ZSH ZLv 3 Tryz.f3 K) =
 ZET N e_1 f_2 x_3 x_4 x_5 w_6 (fun b_7=>K (.bool b_7) []):=by kernel_rfl
theorem b_zao {R:Type} (N:Nat) (e_1:List V) (f_2:Fl) (x_3 x_4 x_5:Int) (w_6:ByteArray) (K:V → S → Option R):Za2 ZLv (ZB0 N) Zad 3 Tryz.f3 [.agg [.list 7 e_1 f_2,.int .i64 x_3],.agg [.int .i64 x_4,.int .i64 x_5],.str w_6] [] K =
 ZlS N e_1 f_2 x_3 x_4 x_5 w_6 (fun b_7=>K (.bool b_7) []):=by
 refine (ZDs (c:=ZLN) (by kernel_rfl)).trans ?_
 unfold ZlS
 exact ZSj N _ _ _ _ _ _ K
theorem ZMY (hC:Ok Tryz.prog C) {N:Nat} (hΦ:Zaa Tryz.prog C (ZB0 N)):Zaa Tryz.prog C (ZQx N):=by
 refine hΦ.add_pure rfl fun R vs K r h=>?_
 unfold ZNP at h
 obtain ⟨_,_,_,rfl,h1⟩:=ZcC h
 obtain ⟨_,_,_,rfl,h2⟩:=Zd9 h1
 obtain ⟨_,_,rfl,h3⟩:=ZeP h2
 obtain ⟨_,rfl,h4⟩:=ZaD h3
 obtain ⟨_,h5⟩:=Zae h4
 refine Zaq (fn:=Tryz.f3) (c:=ZLN) (hC.rowed false true none inl_zao [] [] [46] [(9,4,5)]) (hΦ.rowed false true none inl_zao [] [] [46] [(9,4,5)]) Tryz.func3 (by kernel_rfl) (by kernel_rfl) (Zai (Λ:=Zad) (by kernel_rfl)) rfl rfl ?_
 refine (b_zao N _ _ _ _ _ _ _).trans ?_
 rw [← ZJU]
 exact h5
theorem callee_zao_prev (hC:Ok Tryz.prog C) (N:Nat):Zaa Tryz.prog C (ZB0 N) :=
 have h0:=Zt2 Tryz.prog C
 have h1:=ZBu hC (N:=N) h0
 have h2:=ZBa hC (N:=N) h1
 have h3:=ZCn hC (N:=N) h2
 have h4:=ZAj hC (N:=N) h3
 have h5:=ZBl hC (N:=N) h4
 have h6:=ZA9 hC (N:=N) h5
 have h7:=ZA0 hC (N:=N) h6
 have h8:=ZAk hC (N:=N) h7
 have h9:=ZAf hC (N:=N) h8
 have h10:=ZBM hC (N:=N) h9
 have h11:=ZAw hC (N:=N) h10
 have h12:=ZBd hC (N:=N) h11
 have h13:=ZzV hC (N:=N) h12
 have h14:=ZCc hC (N:=N) h13
 have h15:=ZAb hC (N:=N) h14
 have h16:=ZCx hC (N:=N) h15
 have h17:=ZA7 hC (N:=N) h16
 have h18:=ZBT hC (N:=N) h17
 have h19:=ZAO hC (N:=N) h18
 have h20:=ZAs hC (N:=N) h19
 have h21:=ZCb hC (N:=N) h20
 have h22:=ZBP hC (N:=N) h21
 have h23:=ZAM hC (N:=N) h22
 have h24:=ZBn hC (N:=N) h23
 have h25:=ZBI hC (N:=N) h24
 have h26:=ZCp hC (N:=N) h25
 have h27:=ZCm hC (N:=N) h26
 have h28:=ZAn hC (N:=N) h27
 have h29:=ZAm hC (N:=N) h28
 have h30:=ZBJ hC (N:=N) h29
 have h31:=ZBm hC (N:=N) h30
 have h32:=ZB8 hC (N:=N) h31
 have h33:=ZBQ hC (N:=N) h32
 have h34:=ZAp hC (N:=N) h33
 have h35:=ZBR hC (N:=N) h34
 have h36:=ZBV hC (N:=N) h35
 have h37:=Zz1 hC (N:=N) h36
 have h38:=ZB3 hC (N:=N) h37
 have h39:=ZB9 hC (N:=N) h38
 have h40:=ZAX hC (N:=N) h39
 have h41:=ZAP hC (N:=N) h40
 have h42:=ZCf hC (N:=N) h41
 have h43:=ZBH hC (N:=N) h42
 have h44:=ZBB hC (N:=N) h43
 have h45:=ZCs hC (N:=N) h44
 have h46:=ZAg hC (N:=N) h45
 have h47:=ZAU hC (N:=N) h46
 have h48:=ZBc hC (N:=N) h47
 have h49:=ZA4 hC (N:=N) h48
 have h50:=ZBC hC (N:=N) h49
 have h51:=ZB5 hC (N:=N) h50
 have h52:=ZBw hC (N:=N) h51
 have h53:=ZA1 hC (N:=N) h52
 have h54:=ZA2 hC (N:=N) h53
 have h55:=ZAy hC (N:=N) h54
 have h56:=Zz4 hC (N:=N) h55
 have h57:=ZAe hC (N:=N) h56
 have h58:=ZBb hC (N:=N) h57
 have h59:=ZAi hC (N:=N) h58
 have h60:=ZBG hC (N:=N) h59
 have h61:=ZCe hC (N:=N) h60
 have h62:=ZBj hC (N:=N) h61
 have h63:=ZAF hC (N:=N) h62
 have h64:=ZBo hC (N:=N) h63
 have h65:=Zz6 hC (N:=N) h64
 have h66:=Zz3 hC (N:=N) h65
 have h67:=ZCa hC (N:=N) h66
 have h68:=ZAc hC (N:=N) h67
 have h69:=ZCj hC (N:=N) h68
 have h70:=ZBy hC (N:=N) h69
 have h71:=ZA3 hC (N:=N) h70
 have h72:=ZAZ hC (N:=N) h71
 have h73:=ZAH hC (N:=N) h72
 have h74:=ZAW hC (N:=N) h73
 have h75:=ZCh hC (N:=N) h74
 have h76:=ZBr hC (N:=N) h75
 have h77:=ZAh hC (N:=N) h76
 have h78:=ZBX hC (N:=N) h77
 have h79:=ZBq hC (N:=N) h78
 have h80:=ZAG hC (N:=N) h79
 have h81:=ZA8 hC (N:=N) h80
 have h82:=ZBe hC (N:=N) h81
 have h83:=ZCw hC (N:=N) h82
 have h84:=ZBs hC (N:=N) h83
 have h85:=ZA6 hC (N:=N) h84
 have h86:=ZCv hC (N:=N) h85
 have h87:=ZCu hC (N:=N) h86
 have h88:=ZAd hC (N:=N) h87
 have h89:=ZAl hC (N:=N) h88
 have h90:=ZAu hC (N:=N) h89
 have h91:=ZBY hC (N:=N) h90
 have h92:=ZAr hC (N:=N) h91
 have h93:=ZB6 hC (N:=N) h92
 have h94:=ZzX hC (N:=N) h93
 have h95:=ZCd hC (N:=N) h94
 have h96:=ZAC hC (N:=N) h95
 have h97:=ZCt hC (N:=N) h96
 have h98:=ZAa hC (N:=N) h97
 h98
end
end Go.VM.VL
