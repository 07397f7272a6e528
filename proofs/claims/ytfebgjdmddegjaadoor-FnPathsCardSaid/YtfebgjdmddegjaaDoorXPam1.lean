/- The functions of the program, told plainly: what each computes, as a function of its letters; and that the machine does the same. Printed by vgen.py, a program of this session's own. -/
import Derived.Test.YtfebgjdmddegjaaDoorXPa
import Derived.WalkKit
import Derived.Lib.Walk
import Derived.Lib.SliceRun
import Derived.Lib.AppendZerosOnto
import Derived.Test.YtfebgjdmddegjaaDoorTrydShelf
import Derived.Test.YtfebgjdmddegjaaDoorProg
import Derived.KernelRfl
set_option linter.unusedVariables false
namespace Go.VM.VL
noncomputable section
open Go.Proofs
def rl (t : TypeId) : Bool := [9].any (Nat.beq t)
def mode (f : FuncId) : Mode :=
 match [49, 50, 51, 52, 62, 67, 68, 75, 78, 83].any (Nat.beq f) with
 | true => .shared
 | false => match [55].any (Nat.beq f) with
  | true => .own
  | false => .pure
abbrev C : Cfg := Cfg.of Tryd.prog 9 mode
def Zz4 (N : Nat) : (R : Type) → List V → S → (V → S → Option R) → Option R := fun _ vs s K =>
 ZfR vs fun v'1 v'2 => Za6 1 v'1 fun e_1 f_2 => Za6 1 v'2 fun e_3 f_4 => ZaP s <| ZvD N e_1 f_2 e_3 f_4 (fun b_5 => K (.bool b_5) [])
def Zvh (N : Nat) : Zan := (Zg4).add 5 (Zz4 N)
def ZCL : Code := ZaG Tryd.f5
theorem ZBs {R : Type} (N : Nat) (e_1 : List V) (f_2 : Fl) (e_3 : List V) (f_4 : Fl) (K : V → S → Option R) : ZaS C (Zg4) (Zac) 5 Tryd.f5 [.list 1 e_1 f_2, .list 1 e_3 f_4] [] K =
 Zly N e_1 f_2 e_3 f_4 (fun b_5 => K (.bool b_5) []) := by kernel_rfl
theorem Zrt (hC : Ok Tryd.prog C) {N : Nat} (hΦ : Zaa Tryd.prog C (Zg4)) : Zaa Tryd.prog C (Zvh N) := by
 refine hΦ.add_pure rfl fun R vs K r h => ?_
 unfold Zz4 at h
 obtain ⟨_, _, rfl, h1⟩ := ZaR h
 obtain ⟨_, _, rfl, h2⟩ := Zar h1
 obtain ⟨_, _, rfl, h3⟩ := Zar h2
 obtain ⟨_, h4⟩ := Zad h3
 refine Zao (fn := Tryd.f5) (c := ZCL) hC hΦ Tryd.func5 (by kernel_rfl) (by kernel_rfl) (Zah (Λ := Zac) (by kernel_rfl)) rfl rfl ?_
 refine (ZBs N _ _ _ _ _).trans ?_
 rw [← Zp3]
 exact h4
def ZzT (N : Nat) : (R : Type) → List V → S → (V → S → Option R) → Option R := fun _ vs s K =>
 Zcu vs fun v'1 => ZjR v'1 fun o0 k'3 k'4 k'5 => isN k'3 0 <| isN k'4 0 <| isN k'5 0 <| ZuX s o0 0 fun o'6 => Zkn o'6 3 49 fun e'7 k'8 => isN k'8 0 <| Zcu e'7 fun v'9 => Zbt v'9 fun e_1 f_2 x_3 x_4 => Zaj (Zbi [o0]) <| Zaj (okI 1 [true] [some ⟨[.agg [.list 1 e_1 f_2, .int .i64 x_3, .int .u64 x_4]], 3, 49, 0⟩]) <| Ztv N e_1 f_2 x_3 x_4 (fun x_901 e_902 f_903 x_904 x_905 => FK s [o0] rl K (.int .i64 x_901) [some ⟨[.agg [.list 1 e_902 f_903, .int .i64 x_904, .int .u64 x_905]], 3, 49, 0⟩])
def Zv0 (N : Nat) : Zan := (Zvh N).add 75 (ZzT N)
def ZAZ : Code := ZaG Tryd.f75
theorem ZBD {R : Type} (N : Nat) (e_1 : List V) (f_2 : Fl) (x_3 x_4 : Int) (K : V → S → Option R) : ZaS C (Zvh N) (Zac) 75 Tryd.f75 [.ptr 0 0 0 0] [some ⟨[.agg [.list 1 e_1 f_2, .int .i64 x_3, .int .u64 x_4]], 3, 49, 0⟩] (GK rl 1 K) =
 Zh7 N e_1 f_2 x_3 x_4 (fun x_901 e_902 f_903 x_904 x_905 => K (.int .i64 x_901) [some ⟨[.agg [.list 1 e_902 f_903, .int .i64 x_904, .int .u64 x_905]], 3, 49, 0⟩]) := by kernel_rfl
theorem Zsg (hC : Ok Tryd.prog C) {N : Nat} (hΦ : Zaa Tryd.prog C (Zvh N)) : Zaa Tryd.prog C (Zv0 N) := by
 refine hΦ.add_shared rfl fun R vs s K r h => ?_
 unfold ZzT at h
 obtain ⟨_, rfl, h1⟩ := Zas h
 obtain ⟨o0, _, _, _, rfl, h2⟩ := Zcy h1
 obtain ⟨rfl, h3⟩ := Zaw h2
 obtain ⟨rfl, h4⟩ := Zaw h3
 obtain ⟨rfl, h5⟩ := Zaw h4
 obtain ⟨_, hob0, h6⟩ := ZcL h5
 obtain ⟨_, _, rfl, h7⟩ := ZbB h6
 obtain ⟨rfl, h8⟩ := Zaw h7
 obtain ⟨_, rfl, h9⟩ := Zas h8
 obtain ⟨e_1, f_2, x_3, x_4, rfl, h10⟩ := Zbh h9
 obtain ⟨hdist, h11⟩ := Zab h10
 obtain ⟨hin, h12⟩ := Zab h11
 refine ZbK (fn := Tryd.f75) (c := ZAZ) (os := [o0]) (rl := rl) (bi := [true]) (s0 := [some ⟨[.agg [.list 1 e_1 f_2, .int .i64 x_3, .int .u64 x_4]], 3, 49, 0⟩]) (as0 := [.ptr 0 0 0 0]) hC hΦ Tryd.func75 (by kernel_rfl) (by kernel_rfl) (Zah (Λ := Zac) (by kernel_rfl)) rfl hdist ⟨⟨_, rfl, hob0⟩, trivial⟩ hin rfl rfl ?_
 refine (ZBD N _ _ _ _ _).trans ?_
 rw [← Zjj]
 exact h12
def ZyJ (N : Nat) : (R : Type) → List V → S → (V → S → Option R) → Option R := fun _ vs s K =>
 ZfR vs fun v'1 v'2 => ZjR v'1 fun o0 k'4 k'5 k'6 => isN k'4 0 <| isN k'5 0 <| isN k'6 0 <| asInt .i64 v'2 fun x_1 => ZuX s o0 0 fun o'7 => Zkn o'7 3 49 fun e'8 k'9 => isN k'9 0 <| Zcu e'8 fun v'10 => Zbt v'10 fun e_2 f_3 x_4 x_5 => Zaj (Zbi [o0]) <| Zaj (okI 1 [true] [some ⟨[.agg [.list 1 e_2 f_3, .int .i64 x_4, .int .u64 x_5]], 3, 49, 0⟩]) <| Zhy N x_1 e_2 f_3 x_4 x_5 (fun x_901 e_902 f_903 x_904 x_905 => FK s [o0] rl K (.int .i64 x_901) [some ⟨[.agg [.list 1 e_902 f_903, .int .i64 x_904, .int .u64 x_905]], 3, 49, 0⟩])
def ZwO (N : Nat) : Zan := (Zv0 N).add 49 (ZyJ N)
def ZCb : Code := ZaG Tryd.f49
theorem ZCQ {R : Type} (N : Nat) (x_1 : Int) (e_2 : List V) (f_3 : Fl) (x_4 x_5 : Int) (K : V → S → Option R) : ZaS C (Zv0 N) (Zac) 49 Tryd.f49 [.ptr 0 0 0 0, .int .i64 x_1] [some ⟨[.agg [.list 1 e_2 f_3, .int .i64 x_4, .int .u64 x_5]], 3, 49, 0⟩] (GK rl 1 K) =
 ZhF N x_1 e_2 f_3 x_4 x_5 (fun x_901 e_902 f_903 x_904 x_905 => K (.int .i64 x_901) [some ⟨[.agg [.list 1 e_902 f_903, .int .i64 x_904, .int .u64 x_905]], 3, 49, 0⟩]) := by kernel_rfl
theorem Zsh (hC : Ok Tryd.prog C) {N : Nat} (hΦ : Zaa Tryd.prog C (Zv0 N)) : Zaa Tryd.prog C (ZwO N) := by
 refine hΦ.add_shared rfl fun R vs s K r h => ?_
 unfold ZyJ at h
 obtain ⟨_, _, rfl, h1⟩ := ZaR h
 obtain ⟨o0, _, _, _, rfl, h2⟩ := Zcy h1
 obtain ⟨rfl, h3⟩ := Zaw h2
 obtain ⟨rfl, h4⟩ := Zaw h3
 obtain ⟨rfl, h5⟩ := Zaw h4
 obtain ⟨x_1, rfl, h6⟩ := ZaE h5
 obtain ⟨_, hob0, h7⟩ := ZcL h6
 obtain ⟨_, _, rfl, h8⟩ := ZbB h7
 obtain ⟨rfl, h9⟩ := Zaw h8
 obtain ⟨_, rfl, h10⟩ := Zas h9
 obtain ⟨e_2, f_3, x_4, x_5, rfl, h11⟩ := Zbh h10
 obtain ⟨hdist, h12⟩ := Zab h11
 obtain ⟨hin, h13⟩ := Zab h12
 refine ZbK (fn := Tryd.f49) (c := ZCb) (os := [o0]) (rl := rl) (bi := [true]) (s0 := [some ⟨[.agg [.list 1 e_2 f_3, .int .i64 x_4, .int .u64 x_5]], 3, 49, 0⟩]) (as0 := [.ptr 0 0 0 0, .int .i64 x_1]) hC hΦ Tryd.func49 (by kernel_rfl) (by kernel_rfl) (Zah (Λ := Zac) (by kernel_rfl)) rfl hdist ⟨⟨_, rfl, hob0⟩, trivial⟩ hin rfl rfl ?_
 refine (ZCQ N _ _ _ _ _ _).trans ?_
 rw [← ZgQ]
 exact h13
def ZAd (N : Nat) : (R : Type) → List V → S → (V → S → Option R) → Option R := fun _ vs s K =>
 ZfR vs fun v'1 v'2 => ZjR v'1 fun o0 k'4 k'5 k'6 => isN k'4 0 <| isN k'5 0 <| isN k'6 0 <| asInt .i64 v'2 fun x_1 => ZuX s o0 0 fun o'7 => Zkn o'7 3 49 fun e'8 k'9 => isN k'9 0 <| Zcu e'8 fun v'10 => Zbt v'10 fun e_2 f_3 x_4 x_5 => Zaj (Zbi [o0]) <| Zaj (okI 1 [true] [some ⟨[.agg [.list 1 e_2 f_3, .int .i64 x_4, .int .u64 x_5]], 3, 49, 0⟩]) <| Znd N x_1 e_2 f_3 x_4 x_5 (fun b_901 e_902 f_903 x_904 x_905 => FK s [o0] rl K (.bool b_901) [some ⟨[.agg [.list 1 e_902 f_903, .int .i64 x_904, .int .u64 x_905]], 3, 49, 0⟩])
def ZwZ (N : Nat) : Zan := (ZwO N).add 51 (ZAd N)
def ZBx : Code := ZaG Tryd.f51
theorem ZBB {R : Type} (N : Nat) (x_1 : Int) (e_2 : List V) (f_3 : Fl) (x_4 x_5 : Int) (K : V → S → Option R) : ZaS C (ZwO N) (Zac) 51 Tryd.f51 [.ptr 0 0 0 0, .int .i64 x_1] [some ⟨[.agg [.list 1 e_2 f_3, .int .i64 x_4, .int .u64 x_5]], 3, 49, 0⟩] (GK rl 1 K) =
 Zj5 N x_1 e_2 f_3 x_4 x_5 (fun b_901 e_902 f_903 x_904 x_905 => K (.bool b_901) [some ⟨[.agg [.list 1 e_902 f_903, .int .i64 x_904, .int .u64 x_905]], 3, 49, 0⟩]) := by kernel_rfl
theorem ZrZ (hC : Ok Tryd.prog C) {N : Nat} (hΦ : Zaa Tryd.prog C (ZwO N)) : Zaa Tryd.prog C (ZwZ N) := by
 refine hΦ.add_shared rfl fun R vs s K r h => ?_
 unfold ZAd at h
 obtain ⟨_, _, rfl, h1⟩ := ZaR h
 obtain ⟨o0, _, _, _, rfl, h2⟩ := Zcy h1
 obtain ⟨rfl, h3⟩ := Zaw h2
 obtain ⟨rfl, h4⟩ := Zaw h3
 obtain ⟨rfl, h5⟩ := Zaw h4
 obtain ⟨x_1, rfl, h6⟩ := ZaE h5
 obtain ⟨_, hob0, h7⟩ := ZcL h6
 obtain ⟨_, _, rfl, h8⟩ := ZbB h7
 obtain ⟨rfl, h9⟩ := Zaw h8
 obtain ⟨_, rfl, h10⟩ := Zas h9
 obtain ⟨e_2, f_3, x_4, x_5, rfl, h11⟩ := Zbh h10
 obtain ⟨hdist, h12⟩ := Zab h11
 obtain ⟨hin, h13⟩ := Zab h12
 refine ZbK (fn := Tryd.f51) (c := ZBx) (os := [o0]) (rl := rl) (bi := [true]) (s0 := [some ⟨[.agg [.list 1 e_2 f_3, .int .i64 x_4, .int .u64 x_5]], 3, 49, 0⟩]) (as0 := [.ptr 0 0 0 0, .int .i64 x_1]) hC hΦ Tryd.func51 (by kernel_rfl) (by kernel_rfl) (Zah (Λ := Zac) (by kernel_rfl)) rfl hdist ⟨⟨_, rfl, hob0⟩, trivial⟩ hin rfl rfl ?_
 refine (ZBB N _ _ _ _ _ _).trans ?_
 rw [← ZoS]
 exact h13
def Zy4 (N : Nat) : (R : Type) → List V → S → (V → S → Option R) → Option R := fun _ vs s K =>
 ZfR vs fun v'1 v'2 => ZjR v'1 fun o0 k'4 k'5 k'6 => isN k'4 0 <| isN k'5 0 <| isN k'6 0 <| Za6 1 v'2 fun e_1 f_2 => ZuX s o0 0 fun o'7 => Zkn o'7 3 49 fun e'8 k'9 => isN k'9 0 <| Zcu e'8 fun v'10 => Zbt v'10 fun e_3 f_4 x_5 x_6 => Zaj (Zbi [o0]) <| Zaj (okI 1 [true] [some ⟨[.agg [.list 1 e_3 f_4, .int .i64 x_5, .int .u64 x_6]], 3, 49, 0⟩]) <| ZhV N e_1 f_2 e_3 f_4 x_5 x_6 (fun w_901 e_902 f_903 x_904 x_905 => FK s [o0] rl K (.str w_901) [some ⟨[.agg [.list 1 e_902 f_903, .int .i64 x_904, .int .u64 x_905]], 3, 49, 0⟩])
def Zm8 (N : Nat) : Zan := (ZwZ N).add 52 (Zy4 N)
def ZCd : Code := ZaG Tryd.f52
theorem ZB7 {R : Type} (N : Nat) (e_1 : List V) (f_2 : Fl) (e_3 : List V) (f_4 : Fl) (x_5 x_6 : Int) (K : V → S → Option R) : ZaS C (ZwZ N) (Zac) 52 Tryd.f52 [.ptr 0 0 0 0, .list 1 e_1 f_2] [some ⟨[.agg [.list 1 e_3 f_4, .int .i64 x_5, .int .u64 x_6]], 3, 49, 0⟩] (GK rl 1 K) =
 Zkf N e_1 f_2 e_3 f_4 x_5 x_6 (fun w_901 e_902 f_903 x_904 x_905 => K (.str w_901) [some ⟨[.agg [.list 1 e_902 f_903, .int .i64 x_904, .int .u64 x_905]], 3, 49, 0⟩]) := by kernel_rfl
theorem Zr7 (hC : Ok Tryd.prog C) {N : Nat} (hΦ : Zaa Tryd.prog C (ZwZ N)) : Zaa Tryd.prog C (Zm8 N) := by
 refine hΦ.add_shared rfl fun R vs s K r h => ?_
 unfold Zy4 at h
 obtain ⟨_, _, rfl, h1⟩ := ZaR h
 obtain ⟨o0, _, _, _, rfl, h2⟩ := Zcy h1
 obtain ⟨rfl, h3⟩ := Zaw h2
 obtain ⟨rfl, h4⟩ := Zaw h3
 obtain ⟨rfl, h5⟩ := Zaw h4
 obtain ⟨e_1, f_2, rfl, h6⟩ := Zar h5
 obtain ⟨_, hob0, h7⟩ := ZcL h6
 obtain ⟨_, _, rfl, h8⟩ := ZbB h7
 obtain ⟨rfl, h9⟩ := Zaw h8
 obtain ⟨_, rfl, h10⟩ := Zas h9
 obtain ⟨e_3, f_4, x_5, x_6, rfl, h11⟩ := Zbh h10
 obtain ⟨hdist, h12⟩ := Zab h11
 obtain ⟨hin, h13⟩ := Zab h12
 refine ZbK (fn := Tryd.f52) (c := ZCd) (os := [o0]) (rl := rl) (bi := [true]) (s0 := [some ⟨[.agg [.list 1 e_3 f_4, .int .i64 x_5, .int .u64 x_6]], 3, 49, 0⟩]) (as0 := [.ptr 0 0 0 0, .list 1 e_1 f_2]) hC hΦ Tryd.func52 (by kernel_rfl) (by kernel_rfl) (Zah (Λ := Zac) (by kernel_rfl)) rfl hdist ⟨⟨_, rfl, hob0⟩, trivial⟩ hin rfl rfl ?_
 refine (ZB7 N _ _ _ _ _ _ _).trans ?_
 rw [← Zpl]
 exact h13
def ZyX (N : Nat) : (R : Type) → List V → S → (V → S → Option R) → Option R := fun _ vs s K =>
 Zwd vs fun v'1 v'2 v'3 => ZjR v'1 fun o0 k'5 k'6 k'7 => isN k'5 0 <| isN k'6 0 <| isN k'7 0 <| Za1 v'2 fun w_1 => Za1 v'3 fun w_2 => ZuX s o0 0 fun o'8 => Zkn o'8 3 49 fun e'9 k'10 => isN k'10 0 <| Zcu e'9 fun v'11 => Zbt v'11 fun e_3 f_4 x_5 x_6 => Zaj (Zbi [o0]) <| Zaj (okI 1 [true] [some ⟨[.agg [.list 1 e_3 f_4, .int .i64 x_5, .int .u64 x_6]], 3, 49, 0⟩]) <| ZwV N w_1 w_2 e_3 f_4 x_5 x_6 (fun w_901 e_902 f_903 x_904 x_905 => FK s [o0] rl K (.str w_901) [some ⟨[.agg [.list 1 e_902 f_903, .int .i64 x_904, .int .u64 x_905]], 3, 49, 0⟩])
def ZmW (N : Nat) : Zan := (Zm8 N).add 78 (ZyX N)
def Zs9 : Code := ZaG Tryd.f78
def ZmB : Code := (Zcc Zs9 [] 0).2
def ZjK : List Nat := Zdo 68 [0, 1, 2, 7]
def Zqc : List Nat := Zdo 68 [1]
def ZgZ (w_2 w_1 : ByteArray) (x_3 : Int) (e_4 : List V) (f_5 : Fl) (x_6 x_7 : Int) : List V := mkF 0 68 [(0, .ptr 0 0 0 0), (1, .str w_1), (2, .str w_2), (7, .int .i64 x_3)]
def Zft {R : Type} (K : X → List V → S → Option R) (w_2 : ByteArray) : ByteArray → List V → Fl → Int → Int → Option R := (fun w_1' e_2' f_3' x_4' x_5' => K (.exit 0) (mkF 0 68 [(1, .str (w_1'))]) [some ⟨[.agg [.list 1 (e_2') (f_3'), .int .i64 (x_4'), .int .u64 (x_5')]], 3, 49, 0⟩])
abbrev Zix {R : Type} (N : Nat) : Nat → List V → S → (X → List V → S → Option R) → Option R := fun n => ZgA C (Zm8 N) (Zac) ZmB [0, 1, 0, 1] false ZjK Zqc n R
theorem ZxS {R : Type} (N n : Nat) (w_2 : ByteArray) (w_1 : ByteArray) (x_3 : Int) (e_4 : List V) (f_5 : Fl) (x_6 x_7 : Int) (K : X → List V → S → Option R) :
 Zix N (n + 1) (ZgZ w_2 w_1 x_3 e_4 f_5 x_6 x_7) [some ⟨[.agg [.list 1 e_4 f_5, .int .i64 x_6, .int .u64 x_7]], 3, 49, 0⟩] K =
 Zb8 N w_2 (fun w_1 x_3 e_4 f_5 x_6 x_7 => Zix N n (ZgZ w_2 w_1 x_3 e_4 f_5 x_6 x_7) [some ⟨[.agg [.list 1 e_4 f_5, .int .i64 x_6, .int .u64 x_7]], 3, 49, 0⟩] K) w_1 x_3 e_4 f_5 x_6 x_7 (Zft K w_2) := by kernel_rfl
theorem ZsW {R : Type} (N : Nat) (w_2 : ByteArray) (K : X → List V → S → Option R) : ∀ (n : Nat) (w_1 : ByteArray) (x_3 : Int) (e_4 : List V) (f_5 : Fl) (x_6 x_7 : Int),
 Zix N n (ZgZ w_2 w_1 x_3 e_4 f_5 x_6 x_7) [some ⟨[.agg [.list 1 e_4 f_5, .int .i64 x_6, .int .u64 x_7]], 3, 49, 0⟩] K = ZcU N w_2 (Zft K w_2) n w_1 x_3 e_4 f_5 x_6 x_7
 | 0, _, _, _, _, _, _ => rfl
 | n + 1, w_1, x_3, e_4, f_5, x_6, x_7 => (ZxS N n w_2 w_1 x_3 e_4 f_5 x_6 x_7 K).trans (congrArg (fun nx => Zb8 N w_2 nx w_1 x_3 e_4 f_5 x_6 x_7 (Zft K w_2)) (funext fun w_1 => funext fun x_3 => funext fun e_4 => funext fun f_5 => funext fun x_6 => funext fun x_7 => ZsW N w_2 K n w_1 x_3 e_4 f_5 x_6 x_7))
def Znf {R : Type} (E : List V) (s : S) (k : ByteArray → ByteArray → Int → List V → Fl → Int → Int → Option R) : Option R :=
 Zaj (ZbA 68 [0, 1, 2, 7] E) <| ZAJ E 0 (.ptr 0 0 0 0) <| Ze4 E 1 fun w_1 => Ze4 E 2 fun w_2 => ZbS E 7 .i64 fun x_3 => ZuJ s fun o'1 s'2 => Zkn o'1 3 49 fun e'3 k'4 => isN k'4 0 <| Zcu e'3 fun v'5 => asAgg v'5 fun c'6 => Zwd c'6 fun v'7 v'8 v'9 => Za6 1 v'7 fun e_4 f_5 => asInt .i64 v'8 fun x_6 => asInt .u64 v'9 fun x_7 => ZaP s'2 <| k w_1 w_2 x_3 e_4 f_5 x_6 x_7
theorem Zlp {R : Type} {E : List V} {s : S} {k : ByteArray → ByteArray → Int → List V → Fl → Int → Int → Option R} {r : R} (h : Znf E s k = some r) : ∃ w_1 w_2 x_3 e_4 f_5 x_6 x_7, E = ZgZ w_2 w_1 x_3 e_4 f_5 x_6 x_7 ∧ s = [some ⟨[.agg [.list 1 e_4 f_5, .int .i64 x_6, .int .u64 x_7]], 3, 49, 0⟩] ∧ k w_1 w_2 x_3 e_4 f_5 x_6 x_7 = some r := by
 unfold Znf at h
 obtain ⟨hg, h1⟩ := Zab h
 obtain ⟨hu0, h2⟩ := Zhz h1
 obtain ⟨_, hu1, h3⟩ := Zbw h2
 obtain ⟨_, hu2, h4⟩ := Zbw h3
 obtain ⟨_, hu7, h5⟩ := Zav h4
 obtain ⟨_, _, rfl, h6⟩ := Zcr h5
 obtain ⟨_, _, rfl, h7⟩ := ZbB h6
 obtain ⟨rfl, h8⟩ := Zaw h7
 obtain ⟨_, rfl, h9⟩ := Zas h8
 obtain ⟨_, rfl, h10⟩ := Zca h9
 obtain ⟨_, _, _, rfl, h11⟩ := Zc9 h10
 obtain ⟨_, _, rfl, h12⟩ := Zar h11
 obtain ⟨_, rfl, h13⟩ := ZaE h12
 obtain ⟨_, rfl, h14⟩ := ZaE h13
 obtain ⟨rfl, h15⟩ := Zad h14
 exact ⟨_, _, _, _, _, _, _, Zbo hg rfl (Zag hu0 (Zag hu1 (Zag hu2 (Zag hu7 Za7)))), rfl, h15⟩
def Zm0 (N : Nat) : ZaH := (Zac).add [0, 1, 0, 1] fun _ E s K => Znf (Zbk ZjK E) s fun w_1 w_2 x_3 e_4 f_5 x_6 x_7 => ZcU N w_2 (Zft K w_2) N w_1 x_3 e_4 f_5 x_6 x_7
theorem ZvI {N : Nat} (hC : Ok Tryd.prog C) (hΦ : Zaa Tryd.prog C (Zm8 N)) : ZbH Tryd.prog C (Zm0 N) ZmB [0, 1, 0, 1] :=
 ZbL (Λi := Zac) (tr := false) (ks := ZjK) (kx := Zqc) (N := N) hC hΦ
  (Zah (by kernel_rfl))
  fun R E s K r h => by
   have h2 := ZaH.add_self.symm.trans h
   obtain ⟨_, _, _, _, _, _, _, he, rfl, h3⟩ := Zlp h2
   rw [he]
   exact (ZsW N _ _ N _ _ _ _ _ _).trans h3
theorem ZAg : Zbc Zs9 [] = [([0, 1, 0, 1], ZmB)] := by kernel_rfl
theorem ZCP {R : Type} (N : Nat) (w_1 w_2 : ByteArray) (e_3 : List V) (f_4 : Fl) (x_5 x_6 : Int) (K : V → S → Option R) : ZaS C (Zm8 N) (Zm0 N) 78 Tryd.f78 [.ptr 0 0 0 0, .str w_1, .str w_2] [some ⟨[.agg [.list 1 e_3 f_4, .int .i64 x_5, .int .u64 x_6]], 3, 49, 0⟩] (GK rl 1 K) =
 Zkp N w_1 w_2 e_3 f_4 x_5 x_6 (fun w_901 e_902 f_903 x_904 x_905 => K (.str w_901) [some ⟨[.agg [.list 1 e_902 f_903, .int .i64 x_904, .int .u64 x_905]], 3, 49, 0⟩]) := by kernel_rfl
theorem Zsw {N : Nat} (hC : Ok Tryd.prog C) (hΦ : Zaa Tryd.prog C (Zm8 N)) : Za0 Tryd.prog C (Zm0 N) Zs9 [] :=
 ZaT Zs9 [] (by
  rw [ZAg]
  intro p hp
  simp only [List.mem_cons, List.mem_nil_iff, or_false] at hp
  rcases hp with rfl
  ·exact (ZvI hC hΦ))
theorem ZqL (hC : Ok Tryd.prog C) {N : Nat} (hΦ : Zaa Tryd.prog C (Zm8 N)) : Zaa Tryd.prog C (ZmW N) := by
 refine hΦ.add_shared rfl fun R vs s K r h => ?_
 unfold ZyX at h
 obtain ⟨_, _, _, rfl, h1⟩ := Zc9 h
 obtain ⟨o0, _, _, _, rfl, h2⟩ := Zcy h1
 obtain ⟨rfl, h3⟩ := Zaw h2
 obtain ⟨rfl, h4⟩ := Zaw h3
 obtain ⟨rfl, h5⟩ := Zaw h4
 obtain ⟨w_1, rfl, h6⟩ := Zam h5
 obtain ⟨w_2, rfl, h7⟩ := Zam h6
 obtain ⟨_, hob0, h8⟩ := ZcL h7
 obtain ⟨_, _, rfl, h9⟩ := ZbB h8
 obtain ⟨rfl, h10⟩ := Zaw h9
 obtain ⟨_, rfl, h11⟩ := Zas h10
 obtain ⟨e_3, f_4, x_5, x_6, rfl, h12⟩ := Zbh h11
 obtain ⟨hdist, h13⟩ := Zab h12
 obtain ⟨hin, h14⟩ := Zab h13
 refine ZbK (fn := Tryd.f78) (c := Zs9) (os := [o0]) (rl := rl) (bi := [true]) (s0 := [some ⟨[.agg [.list 1 e_3 f_4, .int .i64 x_5, .int .u64 x_6]], 3, 49, 0⟩]) (as0 := [.ptr 0 0 0 0, .str w_1, .str w_2]) hC hΦ Tryd.func78 (by kernel_rfl) (by kernel_rfl) (Zsw (N := N) hC hΦ) rfl hdist ⟨⟨_, rfl, hob0⟩, trivial⟩ hin rfl rfl ?_
 refine (ZCP N _ _ _ _ _ _ _).trans ?_
 rw [← ZpD]
 exact h14
def Zzk (N : Nat) : (R : Type) → List V → S → (V → S → Option R) → Option R := fun _ vs s K =>
 Zcu vs fun v'1 => ZjR v'1 fun o0 k'3 k'4 k'5 => isN k'3 0 <| isN k'4 0 <| isN k'5 0 <| ZuX s o0 0 fun o'6 => Zkn o'6 3 49 fun e'7 k'8 => isN k'8 0 <| Zcu e'7 fun v'9 => Zbt v'9 fun e_1 f_2 x_3 x_4 => Zaj (Zbi [o0]) <| Zaj (okI 1 [true] [some ⟨[.agg [.list 1 e_1 f_2, .int .i64 x_3, .int .u64 x_4]], 3, 49, 0⟩]) <| ZtT N e_1 f_2 x_3 x_4 (fun w_901 e_902 f_903 x_904 x_905 => FK s [o0] rl K (.str w_901) [some ⟨[.agg [.list 1 e_902 f_903, .int .i64 x_904, .int .u64 x_905]], 3, 49, 0⟩])
def Zw0 (N : Nat) : Zan := (ZmW N).add 62 (Zzk N)
def ZtH : Code := ZaG Tryd.f62
def Zn3 : Code := (Zcc ZtH [] 0).2
def ZjI : List Nat := Zdo 34 [0, 3, 4]
def Zqo : List Nat := Zdo 34 [0, 3]
def ZgF (w_1 : ByteArray) (x_2 : Int) (e_3 : List V) (f_4 : Fl) (x_5 x_6 : Int) : List V := mkF 0 34 [(0, .ptr 0 0 0 0), (3, .str w_1), (4, .int .i64 x_2)]
def ZfJ {R : Type} (K : X → List V → S → Option R) : ByteArray → List V → Fl → Int → Int → Option R := (fun w_1' e_2' f_3' x_4' x_5' => K (.exit 0) (mkF 0 34 [(0, .ptr 0 0 0 0), (3, .str (w_1'))]) [some ⟨[.agg [.list 1 (e_2') (f_3'), .int .i64 (x_4'), .int .u64 (x_5')]], 3, 49, 0⟩])
abbrev Zi8 {R : Type} (N : Nat) : Nat → List V → S → (X → List V → S → Option R) → Option R := fun n => ZgA C (ZmW N) (Zac) Zn3 [0, 1, 0, 1, 1] false ZjI Zqo n R
theorem Zyf {R : Type} (N n : Nat) (w_1 : ByteArray) (x_2 : Int) (e_3 : List V) (f_4 : Fl) (x_5 x_6 : Int) (K : X → List V → S → Option R) :
 Zi8 N (n + 1) (ZgF w_1 x_2 e_3 f_4 x_5 x_6) [some ⟨[.agg [.list 1 e_3 f_4, .int .i64 x_5, .int .u64 x_6]], 3, 49, 0⟩] K =
 Zdh N (fun w_1 x_2 e_3 f_4 x_5 x_6 => Zi8 N n (ZgF w_1 x_2 e_3 f_4 x_5 x_6) [some ⟨[.agg [.list 1 e_3 f_4, .int .i64 x_5, .int .u64 x_6]], 3, 49, 0⟩] K) w_1 x_2 e_3 f_4 x_5 x_6 (ZfJ K) := by kernel_rfl
theorem ZsS {R : Type} (N : Nat) (K : X → List V → S → Option R) : ∀ (n : Nat) (w_1 : ByteArray) (x_2 : Int) (e_3 : List V) (f_4 : Fl) (x_5 x_6 : Int),
 Zi8 N n (ZgF w_1 x_2 e_3 f_4 x_5 x_6) [some ⟨[.agg [.list 1 e_3 f_4, .int .i64 x_5, .int .u64 x_6]], 3, 49, 0⟩] K = Zf6 N (ZfJ K) n w_1 x_2 e_3 f_4 x_5 x_6
 | 0, _, _, _, _, _, _ => rfl
 | n + 1, w_1, x_2, e_3, f_4, x_5, x_6 => (Zyf N n w_1 x_2 e_3 f_4 x_5 x_6 K).trans (congrArg (fun nx => Zdh N nx w_1 x_2 e_3 f_4 x_5 x_6 (ZfJ K)) (funext fun w_1 => funext fun x_2 => funext fun e_3 => funext fun f_4 => funext fun x_5 => funext fun x_6 => ZsS N K n w_1 x_2 e_3 f_4 x_5 x_6))
def ZmJ {R : Type} (E : List V) (s : S) (k : ByteArray → Int → List V → Fl → Int → Int → Option R) : Option R :=
 Zaj (ZbA 34 [0, 3, 4] E) <| ZAJ E 0 (.ptr 0 0 0 0) <| Ze4 E 3 fun w_1 => ZbS E 4 .i64 fun x_2 => ZuJ s fun o'1 s'2 => Zkn o'1 3 49 fun e'3 k'4 => isN k'4 0 <| Zcu e'3 fun v'5 => asAgg v'5 fun c'6 => Zwd c'6 fun v'7 v'8 v'9 => Za6 1 v'7 fun e_3 f_4 => asInt .i64 v'8 fun x_5 => asInt .u64 v'9 fun x_6 => ZaP s'2 <| k w_1 x_2 e_3 f_4 x_5 x_6
theorem Zk0 {R : Type} {E : List V} {s : S} {k : ByteArray → Int → List V → Fl → Int → Int → Option R} {r : R} (h : ZmJ E s k = some r) : ∃ w_1 x_2 e_3 f_4 x_5 x_6, E = ZgF w_1 x_2 e_3 f_4 x_5 x_6 ∧ s = [some ⟨[.agg [.list 1 e_3 f_4, .int .i64 x_5, .int .u64 x_6]], 3, 49, 0⟩] ∧ k w_1 x_2 e_3 f_4 x_5 x_6 = some r := by
 unfold ZmJ at h
 obtain ⟨hg, h1⟩ := Zab h
 obtain ⟨hu0, h2⟩ := Zhz h1
 obtain ⟨_, hu3, h3⟩ := Zbw h2
 obtain ⟨_, hu4, h4⟩ := Zav h3
 obtain ⟨_, _, rfl, h5⟩ := Zcr h4
 obtain ⟨_, _, rfl, h6⟩ := ZbB h5
 obtain ⟨rfl, h7⟩ := Zaw h6
 obtain ⟨_, rfl, h8⟩ := Zas h7
 obtain ⟨_, rfl, h9⟩ := Zca h8
 obtain ⟨_, _, _, rfl, h10⟩ := Zc9 h9
 obtain ⟨_, _, rfl, h11⟩ := Zar h10
 obtain ⟨_, rfl, h12⟩ := ZaE h11
 obtain ⟨_, rfl, h13⟩ := ZaE h12
 obtain ⟨rfl, h14⟩ := Zad h13
 exact ⟨_, _, _, _, _, _, Zbo hg rfl (Zag hu0 (Zag hu3 (Zag hu4 Za7))), rfl, h14⟩
def Znt (N : Nat) : ZaH := (Zac).add [0, 1, 0, 1, 1] fun _ E s K => ZmJ (Zbk ZjI E) s fun w_1 x_2 e_3 f_4 x_5 x_6 => Zf6 N (ZfJ K) N w_1 x_2 e_3 f_4 x_5 x_6
theorem Zvj {N : Nat} (hC : Ok Tryd.prog C) (hΦ : Zaa Tryd.prog C (ZmW N)) : ZbH Tryd.prog C (Znt N) Zn3 [0, 1, 0, 1, 1] :=
 ZbL (Λi := Zac) (tr := false) (ks := ZjI) (kx := Zqo) (N := N) hC hΦ
  (Zah (by kernel_rfl))
  fun R E s K r h => by
   have h2 := ZaH.add_self.symm.trans h
   obtain ⟨_, _, _, _, _, _, he, rfl, h3⟩ := Zk0 h2
   rw [he]
   exact (ZsS N _ N _ _ _ _ _ _).trans h3
theorem ZzG : Zbc ZtH [] = [([0, 1, 0, 1, 1], Zn3)] := by kernel_rfl
theorem ZCq {R : Type} (N : Nat) (e_1 : List V) (f_2 : Fl) (x_3 x_4 : Int) (K : V → S → Option R) : ZaS C (ZmW N) (Znt N) 62 Tryd.f62 [.ptr 0 0 0 0] [some ⟨[.agg [.list 1 e_1 f_2, .int .i64 x_3, .int .u64 x_4]], 3, 49, 0⟩] (GK rl 1 K) =
 Zka N e_1 f_2 x_3 x_4 (fun w_901 e_902 f_903 x_904 x_905 => K (.str w_901) [some ⟨[.agg [.list 1 e_902 f_903, .int .i64 x_904, .int .u64 x_905]], 3, 49, 0⟩]) := by kernel_rfl
theorem Zuy {N : Nat} (hC : Ok Tryd.prog C) (hΦ : Zaa Tryd.prog C (ZmW N)) : Za0 Tryd.prog C (Znt N) ZtH [] :=
 ZaT ZtH [] (by
  rw [ZzG]
  intro p hp
  simp only [List.mem_cons, List.mem_nil_iff, or_false] at hp
  rcases hp with rfl
  ·exact (Zvj hC hΦ))
theorem ZqC (hC : Ok Tryd.prog C) {N : Nat} (hΦ : Zaa Tryd.prog C (ZmW N)) : Zaa Tryd.prog C (Zw0 N) := by
 refine hΦ.add_shared rfl fun R vs s K r h => ?_
 unfold Zzk at h
 obtain ⟨_, rfl, h1⟩ := Zas h
 obtain ⟨o0, _, _, _, rfl, h2⟩ := Zcy h1
 obtain ⟨rfl, h3⟩ := Zaw h2
 obtain ⟨rfl, h4⟩ := Zaw h3
 obtain ⟨rfl, h5⟩ := Zaw h4
 obtain ⟨_, hob0, h6⟩ := ZcL h5
 obtain ⟨_, _, rfl, h7⟩ := ZbB h6
 obtain ⟨rfl, h8⟩ := Zaw h7
 obtain ⟨_, rfl, h9⟩ := Zas h8
 obtain ⟨e_1, f_2, x_3, x_4, rfl, h10⟩ := Zbh h9
 obtain ⟨hdist, h11⟩ := Zab h10
 obtain ⟨hin, h12⟩ := Zab h11
 refine ZbK (fn := Tryd.f62) (c := ZtH) (os := [o0]) (rl := rl) (bi := [true]) (s0 := [some ⟨[.agg [.list 1 e_1 f_2, .int .i64 x_3, .int .u64 x_4]], 3, 49, 0⟩]) (as0 := [.ptr 0 0 0 0]) hC hΦ Tryd.func62 (by kernel_rfl) (by kernel_rfl) (Zuy (N := N) hC hΦ) rfl hdist ⟨⟨_, rfl, hob0⟩, trivial⟩ hin rfl rfl ?_
 refine (ZCq N _ _ _ _ _).trans ?_
 rw [← ZoZ]
 exact h12
def ZAi (N : Nat) : (R : Type) → List V → S → (V → S → Option R) → Option R := fun _ vs s K =>
 Zcu vs fun v'1 => Za6 1 v'1 fun e_1 f_2 => ZaP s <| Zsl N e_1 f_2 (fun w_3 => K (.str w_3) [])
def Zwr (N : Nat) : Zan := (Zw0 N).add 34 (ZAi N)
def ZBA : Code := ZaG Tryd.f34
theorem ZBt {R : Type} (N : Nat) (e_1 : List V) (f_2 : Fl) (K : V → S → Option R) : ZaS C (Zw0 N) (Zac) 34 Tryd.f34 [.list 1 e_1 f_2] [] K =
 Zl7 N e_1 f_2 (fun w_3 => K (.str w_3) []) := by kernel_rfl
theorem Zru (hC : Ok Tryd.prog C) {N : Nat} (hΦ : Zaa Tryd.prog C (Zw0 N)) : Zaa Tryd.prog C (Zwr N) := by
 refine hΦ.add_pure rfl fun R vs K r h => ?_
 unfold ZAi at h
 obtain ⟨_, rfl, h1⟩ := Zas h
 obtain ⟨_, _, rfl, h2⟩ := Zar h1
 obtain ⟨_, h3⟩ := Zad h2
 refine Zao (fn := Tryd.f34) (c := ZBA) hC hΦ Tryd.func34 (by kernel_rfl) (by kernel_rfl) (Zah (Λ := Zac) (by kernel_rfl)) rfl rfl ?_
 refine (ZBt N _ _ _).trans ?_
 rw [← Zql]
 exact h3
def Zzl (N : Nat) : (R : Type) → List V → S → (V → S → Option R) → Option R := fun _ vs s K =>
 Zcu vs fun v'1 => Za6 1 v'1 fun e_1 f_2 => ZaP s <| Zvp N e_1 f_2 (fun w_3 => K (.str w_3) [])
def ZxQ (N : Nat) : Zan := (Zwr N).add 6 (Zzl N)
def ZA0 : Code := ZaG Tryd.f6
theorem ZBe {R : Type} (N : Nat) (e_1 : List V) (f_2 : Fl) (K : V → S → Option R) : ZaS C (Zwr N) (Zac) 6 Tryd.f6 [.list 1 e_1 f_2] [] K =
 ZkY N e_1 f_2 (fun w_3 => K (.str w_3) []) := by kernel_rfl
theorem ZrM (hC : Ok Tryd.prog C) {N : Nat} (hΦ : Zaa Tryd.prog C (Zwr N)) : Zaa Tryd.prog C (ZxQ N) := by
 refine hΦ.add_pure rfl fun R vs K r h => ?_
 unfold Zzl at h
 obtain ⟨_, rfl, h1⟩ := Zas h
 obtain ⟨_, _, rfl, h2⟩ := Zar h1
 obtain ⟨_, h3⟩ := Zad h2
 refine Zao (fn := Tryd.f6) (c := ZA0) hC hΦ Tryd.func6 (by kernel_rfl) (by kernel_rfl) (Zah (Λ := Zac) (by kernel_rfl)) rfl rfl ?_
 refine (ZBe N _ _ _).trans ?_
 rw [← ZoO]
 exact h3
def ZzR (N : Nat) : (R : Type) → List V → S → (V → S → Option R) → Option R := fun _ vs s K =>
 ZfR vs fun v'1 v'2 => Za1 v'1 fun w_1 => asInt .u8 v'2 fun x_2 => ZaP s <| Zx8 N w_1 x_2 (fun x_3 => K (.int .i64 x_3) [])
def ZwD (N : Nat) : Zan := (ZxQ N).add 102 (ZzR N)
theorem Zrp (hC : Ok Tryd.prog C) {N : Nat} (hΦ : Zaa Tryd.prog C (ZxQ N)) : Zaa Tryd.prog C (ZwD N) := by
 refine hΦ.add_pure rfl fun R vs K r h => ?_
 unfold ZzR at h
 obtain ⟨_, _, rfl, h1⟩ := ZaR h
 obtain ⟨_, rfl, h2⟩ := Zam h1
 obtain ⟨_, rfl, h3⟩ := ZaE h2
 obtain ⟨_, h4⟩ := Zad h3
 rw [Zp1] at h4
 exact ⟨_, h4, Zeq Tryd.func102 (by kernel_rfl) (by kernel_rfl) (by kernel_rfl) (by kernel_rfl) _ _⟩
def Zz0 (N : Nat) : (R : Type) → List V → S → (V → S → Option R) → Option R := fun _ vs s K =>
 ZfR vs fun v'1 v'2 => Za1 v'1 fun w_1 => asInt .u8 v'2 fun x_2 => ZaP s <| Zwk N w_1 x_2 (fun x_3 => K (.int .i64 x_3) [])
def Zth (N : Nat) : Zan := (ZwD N).add 98 (Zz0 N)
def ZCD : Code := ZaG Tryd.f98
theorem ZCu {R : Type} (N : Nat) (w_1 : ByteArray) (x_2 : Int) (K : V → S → Option R) : ZaS C (ZwD N) (Zac) 98 Tryd.f98 [.str w_1, .int .u8 x_2] [] K =
 ZjZ N w_1 x_2 (fun x_3 => K (.int .i64 x_3) []) := by kernel_rfl
theorem ZrU (hC : Ok Tryd.prog C) {N : Nat} (hΦ : Zaa Tryd.prog C (ZwD N)) : Zaa Tryd.prog C (Zth N) := by
 refine hΦ.add_pure rfl fun R vs K r h => ?_
 unfold Zz0 at h
 obtain ⟨_, _, rfl, h1⟩ := ZaR h
 obtain ⟨_, rfl, h2⟩ := Zam h1
 obtain ⟨_, rfl, h3⟩ := ZaE h2
 obtain ⟨_, h4⟩ := Zad h3
 refine Zao (fn := Tryd.f98) (c := ZCD) hC hΦ Tryd.func98 (by kernel_rfl) (by kernel_rfl) (Zah (Λ := Zac) (by kernel_rfl)) rfl rfl ?_
 refine (ZCu N _ _ _).trans ?_
 rw [← Zpy]
 exact h4
def Zz9 (N : Nat) : (R : Type) → List V → S → (V → S → Option R) → Option R := fun _ vs s K =>
 ZfR vs fun v'1 v'2 => Za1 v'1 fun w_1 => Za1 v'2 fun w_2 => ZaP s <| Zys N w_1 w_2 (fun x_3 => K (.int .i64 x_3) [])
def Zvo (N : Nat) : Zan := (Zth N).add 96 (Zz9 N)
def ZuT : Code := ZaG Tryd.f96
def Zdc : Code := (Zcc ZuT [] 0).2
theorem ZyU : Zbc ZuT [] = [([0, 0, 1, 1, 1, 1, 1, 1, 1, 1], Zdc)] := by kernel_rfl
theorem ZCF {R : Type} (N : Nat) (w_1 w_2 : ByteArray) (K : V → S → Option R) : ZaS C (Zth N) (Zac) 96 Tryd.f96 [.str w_1, .str w_2] [] K =
 ZlC N w_1 w_2 (fun x_3 => K (.int .i64 x_3) []) := by kernel_rfl
theorem Ztk {N : Nat} (hC : Ok Tryd.prog C) (hΦ : Zaa Tryd.prog C (Zth N)) : Za0 Tryd.prog C (Zac) ZuT [] :=
 ZaT ZuT [] (by
  rw [ZyU]
  intro p hp
  simp only [List.mem_cons, List.mem_nil_iff, or_false] at hp
  rcases hp with rfl
  ·exact Znc)
theorem ZqE (hC : Ok Tryd.prog C) {N : Nat} (hΦ : Zaa Tryd.prog C (Zth N)) : Zaa Tryd.prog C (Zvo N) := by
 refine hΦ.add_pure rfl fun R vs K r h => ?_
 unfold Zz9 at h
 obtain ⟨_, _, rfl, h1⟩ := ZaR h
 obtain ⟨_, rfl, h2⟩ := Zam h1
 obtain ⟨_, rfl, h3⟩ := Zam h2
 obtain ⟨_, h4⟩ := Zad h3
 refine Zao (fn := Tryd.f96) (c := ZuT) hC hΦ Tryd.func96 (by kernel_rfl) (by kernel_rfl) (Ztk (N := N) hC hΦ) rfl rfl ?_
 refine (ZCF N _ _ _).trans ?_
 rw [← Zqb]
 exact h4
def ZAv (N : Nat) : (R : Type) → List V → S → (V → S → Option R) → Option R := fun _ vs s K =>
 ZfR vs fun v'1 v'2 => Za1 v'1 fun w_1 => Za1 v'2 fun w_2 => ZaP s <| ZtZ N w_1 w_2 (fun x_3 => K (.int .i64 x_3) [])
def Zx6 (N : Nat) : Zan := (Zvo N).add 90 (ZAv N)
def ZCw : Code := ZaG Tryd.f90
theorem ZA7 {R : Type} (N : Nat) (w_1 w_2 : ByteArray) (K : V → S → Option R) : ZaS C (Zvo N) (Zac) 90 Tryd.f90 [.str w_1, .str w_2] [] K =
 ZlH N w_1 w_2 (fun x_3 => K (.int .i64 x_3) []) := by kernel_rfl
theorem Zra (hC : Ok Tryd.prog C) {N : Nat} (hΦ : Zaa Tryd.prog C (Zvo N)) : Zaa Tryd.prog C (Zx6 N) := by
 refine hΦ.add_pure rfl fun R vs K r h => ?_
 unfold ZAv at h
 obtain ⟨_, _, rfl, h1⟩ := ZaR h
 obtain ⟨_, rfl, h2⟩ := Zam h1
 obtain ⟨_, rfl, h3⟩ := Zam h2
 obtain ⟨_, h4⟩ := Zad h3
 refine Zao (fn := Tryd.f90) (c := ZCw) hC hΦ Tryd.func90 (by kernel_rfl) (by kernel_rfl) (Zah (Λ := Zac) (by kernel_rfl)) rfl rfl ?_
 refine (ZA7 N _ _ _).trans ?_
 rw [← Zqm]
 exact h4
def ZzE (N : Nat) : (R : Type) → List V → S → (V → S → Option R) → Option R := fun _ vs s K =>
 ZfR vs fun v'1 v'2 => Za1 v'1 fun w_1 => asInt .u8 v'2 fun x_2 => ZaP s <| Zw4 N w_1 x_2 (fun x_3 => K (.int .i64 x_3) [])
def ZnD (N : Nat) : Zan := (Zx6 N).add 95 (ZzE N)
theorem Zr0 (hC : Ok Tryd.prog C) {N : Nat} (hΦ : Zaa Tryd.prog C (Zx6 N)) : Zaa Tryd.prog C (ZnD N) := by
 refine hΦ.add_pure rfl fun R vs K r h => ?_
 unfold ZzE at h
 obtain ⟨_, _, rfl, h1⟩ := ZaR h
 obtain ⟨_, rfl, h2⟩ := Zam h1
 obtain ⟨_, rfl, h3⟩ := ZaE h2
 obtain ⟨_, h4⟩ := Zad h3
 rw [Zps] at h4
 exact ⟨_, h4, Zgz Tryd.func95 (by kernel_rfl) (by kernel_rfl) (by kernel_rfl) (by kernel_rfl) _ _⟩
def Zzg (N : Nat) : (R : Type) → List V → S → (V → S → Option R) → Option R := fun _ vs s K =>
 ZfR vs fun v'1 v'2 => Za1 v'1 fun w_1 => Za1 v'2 fun w_2 => ZaP s <| Zuo N w_1 w_2 (fun x_3 => K (.int .i64 x_3) [])
def Znk (N : Nat) : Zan := (ZnD N).add 89 (Zzg N)
def ZtN : Code := ZaG Tryd.f89
def ZnZ : Code := (Zcc ZtN [] 0).2
def ZiH : List Nat := Zdo 34 [0, 1, 5]
def ZoV : List Nat := Zdo 34 [4]
def ZgE (w_2 w_1 : ByteArray) (x_3 : Int) : List V := mkF 0 34 [(0, .str w_1), (1, .str w_2), (5, .int .i64 x_3)]
def Ze3 {R : Type} (K : X → List V → S → Option R) (w_2 : ByteArray) : Int → Option R := (fun x_1' => K .ret (mkF 0 34 [(4, .int .i64 (x_1'))]) [])
abbrev Zji {R : Type} (N : Nat) : Nat → List V → S → (X → List V → S → Option R) → Option R := fun n => ZgA C (ZnD N) (Zac) ZnZ [0, 1, 1, 1, 1] false ZiH ZoV n R
theorem ZxO {R : Type} (N n : Nat) (w_2 : ByteArray) (w_1 : ByteArray) (x_3 : Int) (K : X → List V → S → Option R) :
 Zji N (n + 1) (ZgE w_2 w_1 x_3) [] K =
 ZdN N w_2 (fun w_1 x_3 => Zji N n (ZgE w_2 w_1 x_3) [] K) w_1 x_3 (Ze3 K w_2) := by kernel_rfl
theorem Zub {R : Type} (N : Nat) (w_2 : ByteArray) (K : X → List V → S → Option R) : ∀ (n : Nat) (w_1 : ByteArray) (x_3 : Int),
 Zji N n (ZgE w_2 w_1 x_3) [] K = Zjt N w_2 (Ze3 K w_2) n w_1 x_3
 | 0, _, _ => rfl
 | n + 1, w_1, x_3 => (ZxO N n w_2 w_1 x_3 K).trans (congrArg (fun nx => ZdN N w_2 nx w_1 x_3 (Ze3 K w_2)) (funext fun w_1 => funext fun x_3 => Zub N w_2 K n w_1 x_3))
def Zoh {R : Type} (E : List V) (s : S) (k : ByteArray → ByteArray → Int → Option R) : Option R :=
 Zaj (ZbA 34 [0, 1, 5] E) <| Ze4 E 0 fun w_1 => Ze4 E 1 fun w_2 => ZbS E 5 .i64 fun x_3 => ZaP s <| k w_1 w_2 x_3
theorem ZkP {R : Type} {E : List V} {s : S} {k : ByteArray → ByteArray → Int → Option R} {r : R} (h : Zoh E s k = some r) : ∃ w_1 w_2 x_3, E = ZgE w_2 w_1 x_3 ∧ s = [] ∧ k w_1 w_2 x_3 = some r := by
 unfold Zoh at h
 obtain ⟨hg, h1⟩ := Zab h
 obtain ⟨_, hu0, h2⟩ := Zbw h1
 obtain ⟨_, hu1, h3⟩ := Zbw h2
 obtain ⟨_, hu5, h4⟩ := Zav h3
 obtain ⟨rfl, h5⟩ := Zad h4
 exact ⟨_, _, _, Zbo hg rfl (Zag hu0 (Zag hu1 (Zag hu5 Za7))), rfl, h5⟩
def Zm2 (N : Nat) : ZaH := (Zac).add [0, 1, 1, 1, 1] fun _ E s K => Zoh (Zbk ZiH E) s fun w_1 w_2 x_3 => Zjt N w_2 (Ze3 K w_2) N w_1 x_3
theorem Zwv {N : Nat} (hC : Ok Tryd.prog C) (hΦ : Zaa Tryd.prog C (ZnD N)) : ZbH Tryd.prog C (Zm2 N) ZnZ [0, 1, 1, 1, 1] :=
 ZbL (Λi := Zac) (tr := false) (ks := ZiH) (kx := ZoV) (N := N) hC hΦ
  (Zah (by kernel_rfl))
  fun R E s K r h => by
   have h2 := ZaH.add_self.symm.trans h
   obtain ⟨_, _, _, he, rfl, h3⟩ := ZkP h2
   rw [he]
   exact (Zub N _ _ N _ _).trans h3
theorem ZzJ : Zbc ZtN [] = [([0, 1, 1, 1, 1], ZnZ)] := by kernel_rfl
theorem ZBQ {R : Type} (N : Nat) (w_1 w_2 : ByteArray) (K : V → S → Option R) : ZaS C (ZnD N) (Zm2 N) 89 Tryd.f89 [.str w_1, .str w_2] [] K =
 Zkl N w_1 w_2 (fun x_3 => K (.int .i64 x_3) []) := by kernel_rfl
theorem Zua {N : Nat} (hC : Ok Tryd.prog C) (hΦ : Zaa Tryd.prog C (ZnD N)) : Za0 Tryd.prog C (Zm2 N) ZtN [] :=
 ZaT ZtN [] (by
  rw [ZzJ]
  intro p hp
  simp only [List.mem_cons, List.mem_nil_iff, or_false] at hp
  rcases hp with rfl
  ·exact (Zwv hC hΦ))
theorem ZrB (hC : Ok Tryd.prog C) {N : Nat} (hΦ : Zaa Tryd.prog C (ZnD N)) : Zaa Tryd.prog C (Znk N) := by
 refine hΦ.add_pure rfl fun R vs K r h => ?_
 unfold Zzg at h
 obtain ⟨_, _, rfl, h1⟩ := ZaR h
 obtain ⟨_, rfl, h2⟩ := Zam h1
 obtain ⟨_, rfl, h3⟩ := Zam h2
 obtain ⟨_, h4⟩ := Zad h3
 refine Zao (fn := Tryd.f89) (c := ZtN) hC hΦ Tryd.func89 (by kernel_rfl) (by kernel_rfl) (Zua (N := N) hC hΦ) rfl rfl ?_
 refine (ZBQ N _ _ _).trans ?_
 rw [← ZoY]
 exact h4
def Zy2 (N : Nat) : (R : Type) → List V → S → (V → S → Option R) → Option R := fun _ vs s K =>
 ZCU vs fun v'1 v'2 v'3 v'4 => Za1 v'1 fun w_1 => Za1 v'2 fun w_2 => asInt .i64 v'3 fun x_3 => asInt .i64 v'4 fun x_4 => Zaj (Zbi []) <| Zaj (okI 0 [] []) <| Zyr N w_1 w_2 x_3 x_4 (fun e_901 => FK s [] rl K (.list 1 e_901 .sh) []) (fun k_902 e_903 => FK s [] rl K (.arr 0 0 0 k_902) [some ⟨e_903, 1, 9, 0⟩])
def Zwb (N : Nat) : Zan := (Znk N).add 83 (Zy2 N)
def Zuf : Code := ZaG Tryd.f83
def Zms : Code := (Zcc Zuf [] 0).2
def ZjW : List Nat := Zdo 66 [0, 1, 2, 3, 9, 10]
def Zqp : List Nat := Zdo 66 [0, 9, 10]
def Zg1 (w_2 : ByteArray) (x_3 x_4 : Int) (k_5 : Nat) (w_1 : ByteArray) (x_6 : Int) (e_7 : List V) : List V := mkF 0 66 [(0, .str w_1), (1, .str w_2), (2, .int .i64 x_3), (3, .int .i64 x_4), (9, .arr 0 0 0 k_5), (10, .int .i64 x_6)]
def ZfN {R : Type} (K : X → List V → S → Option R) (w_2 : ByteArray) (x_3 : Int) (x_4 : Int) (k_5 : Nat) : ByteArray → Int → List V → Option R := (fun w_1' x_2' e_3' => K (.exit 0) (mkF 0 66 [(0, .str (w_1')), (9, .arr 0 0 0 k_5), (10, .int .i64 (x_2'))]) [some ⟨e_3', 1, 9, 0⟩])
abbrev ZiU {R : Type} (N : Nat) : Nat → List V → S → (X → List V → S → Option R) → Option R := fun n => ZgA C (Znk N) (Zac) Zms [0, 0, 1, 1, 1, 1, 1, 1, 1, 1] false ZjW Zqp n R
theorem Zxy {R : Type} (N n : Nat) (w_2 : ByteArray) (x_3 x_4 : Int) (k_5 : Nat) (w_1 : ByteArray) (x_6 : Int) (e_7 : List V) (K : X → List V → S → Option R) :
 ZiU N (n + 1) (Zg1 w_2 x_3 x_4 k_5 w_1 x_6 e_7) [some ⟨e_7, 1, 9, 0⟩] K =
 ZcE N w_2 x_3 x_4 k_5 (fun w_1 x_6 e_7 => ZiU N n (Zg1 w_2 x_3 x_4 k_5 w_1 x_6 e_7) [some ⟨e_7, 1, 9, 0⟩] K) w_1 x_6 e_7 (ZfN K w_2 x_3 x_4 k_5) := by kernel_rfl
theorem Zsx {R : Type} (N : Nat) (w_2 : ByteArray) (x_3 x_4 : Int) (k_5 : Nat) (K : X → List V → S → Option R) : ∀ (n : Nat) (w_1 : ByteArray) (x_6 : Int) (e_7 : List V),
 ZiU N n (Zg1 w_2 x_3 x_4 k_5 w_1 x_6 e_7) [some ⟨e_7, 1, 9, 0⟩] K = ZdO N w_2 x_3 x_4 k_5 (ZfN K w_2 x_3 x_4 k_5) n w_1 x_6 e_7
 | 0, _, _, _ => rfl
 | n + 1, w_1, x_6, e_7 => (Zxy N n w_2 x_3 x_4 k_5 w_1 x_6 e_7 K).trans (congrArg (fun nx => ZcE N w_2 x_3 x_4 k_5 nx w_1 x_6 e_7 (ZfN K w_2 x_3 x_4 k_5)) (funext fun w_1 => funext fun x_6 => funext fun e_7 => Zsx N w_2 x_3 x_4 k_5 K n w_1 x_6 e_7))
def ZmE {R : Type} (E : List V) (s : S) (k : ByteArray → ByteArray → Int → Int → Nat → Int → List V → Option R) : Option R :=
 Zaj (ZbA 66 [0, 1, 2, 3, 9, 10] E) <| Ze4 E 0 fun w_1 => Ze4 E 1 fun w_2 => ZbS E 2 .i64 fun x_3 => ZbS E 3 .i64 fun x_4 => ZbT (nth E 9) fun u9 => Zop u9 fun k'1 k'2 k'3 k_5 => isN k'1 0 <| isN k'2 0 <| isN k'3 0 <| ZbS E 10 .i64 fun x_6 => ZuJ s fun o'4 s'5 => Zkn o'4 1 9 fun e_7 k'6 => isN k'6 0 <| ZaP s'5 <| k w_1 w_2 x_3 x_4 k_5 x_6 e_7
theorem Zln {R : Type} {E : List V} {s : S} {k : ByteArray → ByteArray → Int → Int → Nat → Int → List V → Option R} {r : R} (h : ZmE E s k = some r) : ∃ w_1 w_2 x_3 x_4 k_5 x_6 e_7, E = Zg1 w_2 x_3 x_4 k_5 w_1 x_6 e_7 ∧ s = [some ⟨e_7, 1, 9, 0⟩] ∧ k w_1 w_2 x_3 x_4 k_5 x_6 e_7 = some r := by
 unfold ZmE at h
 obtain ⟨hg, h1⟩ := Zab h
 obtain ⟨_, hu0, h2⟩ := Zbw h1
 obtain ⟨_, hu1, h3⟩ := Zbw h2
 obtain ⟨_, hu2, h4⟩ := Zav h3
 obtain ⟨_, hu3, h5⟩ := Zav h4
 obtain ⟨_, hu9, h6⟩ := Zae h5
 obtain ⟨_, _, _, _, rfl, h7⟩ := Zdt h6
 obtain ⟨rfl, h8⟩ := Zaw h7
 obtain ⟨rfl, h9⟩ := Zaw h8
 obtain ⟨rfl, h10⟩ := Zaw h9
 obtain ⟨_, hu10, h11⟩ := Zav h10
 obtain ⟨_, _, rfl, h12⟩ := Zcr h11
 obtain ⟨_, _, rfl, h13⟩ := ZbB h12
 obtain ⟨rfl, h14⟩ := Zaw h13
 obtain ⟨rfl, h15⟩ := Zad h14
 exact ⟨_, _, _, _, _, _, _, Zbo hg rfl (Zag hu0 (Zag hu1 (Zag hu2 (Zag hu3 (Zag hu9 (Zag hu10 Za7)))))), rfl, h15⟩
def ZmF (N : Nat) : ZaH := (Zac).add [0, 0, 1, 1, 1, 1, 1, 1, 1, 1] fun _ E s K => ZmE (Zbk ZjW E) s fun w_1 w_2 x_3 x_4 k_5 x_6 e_7 => ZdO N w_2 x_3 x_4 k_5 (ZfN K w_2 x_3 x_4 k_5) N w_1 x_6 e_7
theorem Zu7 {N : Nat} (hC : Ok Tryd.prog C) (hΦ : Zaa Tryd.prog C (Znk N)) : ZbH Tryd.prog C (ZmF N) Zms [0, 0, 1, 1, 1, 1, 1, 1, 1, 1] :=
 ZbL (Λi := Zac) (tr := false) (ks := ZjW) (kx := Zqp) (N := N) hC hΦ
  (Zah (by kernel_rfl))
  fun R E s K r h => by
   have h2 := ZaH.add_self.symm.trans h
   obtain ⟨_, _, _, _, _, _, _, he, rfl, h3⟩ := Zln h2
   rw [he]
   exact (Zsx N _ _ _ _ _ N _ _ _).trans h3
theorem ZzX : Zbc Zuf [] = [([0, 0, 1, 1, 1, 1, 1, 1, 1, 1], Zms)] := by kernel_rfl
theorem ZCW {R : Type} (N : Nat) (w_1 w_2 : ByteArray) (x_3 x_4 : Int) (K : V → S → Option R) : ZaS C (Znk N) (ZmF N) 83 Tryd.f83 [.str w_1, .str w_2, .int .i64 x_3, .int .i64 x_4] [] (GK rl 0 K) =
 ZlJ N w_1 w_2 x_3 x_4 (fun e_901 => K (.list 1 e_901 .sh) []) (fun k_902 e_903 => K (.arr 0 0 0 k_902) [some ⟨e_903, 1, 9, 0⟩]) := by kernel_rfl
theorem ZsQ {N : Nat} (hC : Ok Tryd.prog C) (hΦ : Zaa Tryd.prog C (Znk N)) : Za0 Tryd.prog C (ZmF N) Zuf [] :=
 ZaT Zuf [] (by
  rw [ZzX]
  intro p hp
  simp only [List.mem_cons, List.mem_nil_iff, or_false] at hp
  rcases hp with rfl
  ·exact (Zu7 hC hΦ))
theorem ZrE (hC : Ok Tryd.prog C) {N : Nat} (hΦ : Zaa Tryd.prog C (Znk N)) : Zaa Tryd.prog C (Zwb N) := by
 refine hΦ.add_shared rfl fun R vs s K r h => ?_
 unfold Zy2 at h
 obtain ⟨_, _, _, _, rfl, h1⟩ := ZsX h
 obtain ⟨w_1, rfl, h2⟩ := Zam h1
 obtain ⟨w_2, rfl, h3⟩ := Zam h2
 obtain ⟨x_3, rfl, h4⟩ := ZaE h3
 obtain ⟨x_4, rfl, h5⟩ := ZaE h4
 obtain ⟨hdist, h6⟩ := Zab h5
 obtain ⟨hin, h7⟩ := Zab h6
 refine ZbK (fn := Tryd.f83) (c := Zuf) (os := []) (rl := rl) (bi := []) (s0 := []) (as0 := [.str w_1, .str w_2, .int .i64 x_3, .int .i64 x_4]) hC hΦ Tryd.func83 (by kernel_rfl) (by kernel_rfl) (ZsQ (N := N) hC hΦ) rfl hdist trivial hin rfl rfl ?_
 refine (ZCW N _ _ _ _ _).trans ?_
 rw [← Zov]
 exact h7
def ZAt (N : Nat) : (R : Type) → List V → S → (V → S → Option R) → Option R := fun _ vs s K =>
 ZfR vs fun v'1 v'2 => Za1 v'1 fun w_1 => Za1 v'2 fun w_2 => Zaj (Zbi []) <| Zaj (okI 0 [] []) <| Zwc N w_1 w_2 (fun e_901 => FK s [] rl K (.list 1 e_901 .sh) []) (fun k_902 e_903 => FK s [] rl K (.arr 0 0 0 k_902) [some ⟨e_903, 1, 9, 0⟩])
def Zv3 (N : Nat) : Zan := (Zwb N).add 68 (ZAt N)
def ZB2 : Code := ZaG Tryd.f68
theorem ZCG {R : Type} (N : Nat) (w_1 w_2 : ByteArray) (K : V → S → Option R) : ZaS C (Zwb N) (Zac) 68 Tryd.f68 [.str w_1, .str w_2] [] (GK rl 0 K) =
 Zks N w_1 w_2 (fun e_901 => K (.list 1 e_901 .sh) []) (fun k_902 e_903 => K (.arr 0 0 0 k_902) [some ⟨e_903, 1, 9, 0⟩]) := by kernel_rfl
theorem ZrX (hC : Ok Tryd.prog C) {N : Nat} (hΦ : Zaa Tryd.prog C (Zwb N)) : Zaa Tryd.prog C (Zv3 N) := by
 refine hΦ.add_shared rfl fun R vs s K r h => ?_
 unfold ZAt at h
 obtain ⟨_, _, rfl, h1⟩ := ZaR h
 obtain ⟨w_1, rfl, h2⟩ := Zam h1
 obtain ⟨w_2, rfl, h3⟩ := Zam h2
 obtain ⟨hdist, h4⟩ := Zab h3
 obtain ⟨hin, h5⟩ := Zab h4
 refine ZbK (fn := Tryd.f68) (c := ZB2) (os := []) (rl := rl) (bi := []) (s0 := []) (as0 := [.str w_1, .str w_2]) hC hΦ Tryd.func68 (by kernel_rfl) (by kernel_rfl) (Zah (Λ := Zac) (by kernel_rfl)) rfl hdist trivial hin rfl rfl ?_
 refine (ZCG N _ _ _).trans ?_
 rw [← ZpU]
 exact h5
def Zz2 (N : Nat) : (R : Type) → List V → S → (V → S → Option R) → Option R := fun _ vs s K =>
 Zcu vs fun v'1 => Za1 v'1 fun w_1 => ZaP s <| Zuj N w_1 (fun b_2 => K (.bool b_2) [])
def Zmw (N : Nat) : Zan := (Zv3 N).add 69 (Zz2 N)
def ZB3 : Code := ZaG Tryd.f69
theorem ZCB {R : Type} (N : Nat) (w_1 : ByteArray) (K : V → S → Option R) : ZaS C (Zv3 N) (Zac) 69 Tryd.f69 [.str w_1] [] K =
 Zim N w_1 (fun b_2 => K (.bool b_2) []) := by kernel_rfl
theorem ZrI (hC : Ok Tryd.prog C) {N : Nat} (hΦ : Zaa Tryd.prog C (Zv3 N)) : Zaa Tryd.prog C (Zmw N) := by
 refine hΦ.add_pure rfl fun R vs K r h => ?_
 unfold Zz2 at h
 obtain ⟨_, rfl, h1⟩ := Zas h
 obtain ⟨_, rfl, h2⟩ := Zam h1
 obtain ⟨_, h3⟩ := Zad h2
 refine Zao (fn := Tryd.f69) (c := ZB3) hC hΦ Tryd.func69 (by kernel_rfl) (by kernel_rfl) (Zah (Λ := Zac) (by kernel_rfl)) rfl rfl ?_
 refine (ZCB N _ _).trans ?_
 rw [← ZiV]
 exact h3
def ZAb (N : Nat) : (R : Type) → List V → S → (V → S → Option R) → Option R := fun _ vs s K =>
 ZfR vs fun v'1 v'2 => Za6 1 v'1 fun e_1 f_2 => ZnN 69 v'2 fun c'3 => Zmn c'3 <| ZaP s <| ZwY N e_1 f_2 (fun x_3 => K (.int .i64 x_3) [])
def ZnW (N : Nat) : Zan := (Zmw N).addIf 70 (fun l => ZxU 1 69 l) (ZAb N)
def ZtA : Code := ZaG Tryd.f70
def ZmG : Code := (Zcc ZtA [] 0).2
def ZjO : List Nat := Zdo 19 [0, 1, 7, 8]
def ZoN : List Nat := Zdo 19 [4]
def ZgH (e_1 : List V) (f_2 : Fl) (x_3 x_4 : Int) : List V := mkF 0 19 [(0, .list 1 e_1 f_2), (1, .fn 69 []), (7, .int .i64 x_3), (8, .int .i64 x_4)]
def Zfn {R : Type} (K : X → List V → S → Option R) (e_1 : List V) (f_2 : Fl) (x_3 : Int) : Int → Option R := (fun x_1' => K .ret (mkF 0 19 [(4, .int .i64 (x_1'))]) [])
def ZfM {R : Type} (K : X → List V → S → Option R) (e_1 : List V) (f_2 : Fl) (x_3 : Int) : Unit → Option R := (fun _ => K (.exit 0) (mkF 0 19 []) [])
abbrev Zju {R : Type} (N : Nat) : Nat → List V → S → (X → List V → S → Option R) → Option R := fun n => ZgA C (Zmw N) (Zac) ZmG [0, 1, 0, 1] false ZjO ZoN n R
theorem Zyo {R : Type} (N n : Nat) (e_1 : List V) (f_2 : Fl) (x_3 : Int) (x_4 : Int) (K : X → List V → S → Option R) :
 Zju N (n + 1) (ZgH e_1 f_2 x_3 x_4) [] K =
 ZcN N e_1 f_2 x_3 (fun x_4 => Zju N n (ZgH e_1 f_2 x_3 x_4) [] K) x_4 (Zfn K e_1 f_2 x_3) (ZfM K e_1 f_2 x_3) := by kernel_rfl
theorem Zux {R : Type} (N : Nat) (e_1 : List V) (f_2 : Fl) (x_3 : Int) (K : X → List V → S → Option R) : ∀ (n : Nat) (x_4 : Int),
 Zju N n (ZgH e_1 f_2 x_3 x_4) [] K = ZeP N e_1 f_2 x_3 (Zfn K e_1 f_2 x_3) (ZfM K e_1 f_2 x_3) n x_4
 | 0, _ => rfl
 | n + 1, x_4 => (Zyo N n e_1 f_2 x_3 x_4 K).trans (congrArg (fun nx => ZcN N e_1 f_2 x_3 nx x_4 (Zfn K e_1 f_2 x_3) (ZfM K e_1 f_2 x_3)) (funext fun x_4 => Zux N e_1 f_2 x_3 K n x_4))
def Zof {R : Type} (E : List V) (s : S) (k : List V → Fl → Int → Int → Option R) : Option R :=
 Zaj (ZbA 19 [0, 1, 7, 8] E) <| Zeu E 0 1 fun e_1 f_2 => ZbT (nth E 1) fun u1 => ZnN 69 u1 fun c'1 => Zmn c'1 <| ZbS E 7 .i64 fun x_3 => ZbS E 8 .i64 fun x_4 => ZaP s <| k e_1 f_2 x_3 x_4
theorem Zky {R : Type} {E : List V} {s : S} {k : List V → Fl → Int → Int → Option R} {r : R} (h : Zof E s k = some r) : ∃ e_1 f_2 x_3 x_4, E = ZgH e_1 f_2 x_3 x_4 ∧ s = [] ∧ k e_1 f_2 x_3 x_4 = some r := by
 unfold Zof at h
 obtain ⟨hg, h1⟩ := Zab h
 obtain ⟨_, _, hu0, h2⟩ := ZbR h1
 obtain ⟨_, hu1, h3⟩ := Zae h2
 obtain ⟨_, rfl, h4⟩ := ZbM h3
 obtain ⟨rfl, h5⟩ := ZbI h4
 obtain ⟨_, hu7, h6⟩ := Zav h5
 obtain ⟨_, hu8, h7⟩ := Zav h6
 obtain ⟨rfl, h8⟩ := Zad h7
 exact ⟨_, _, _, _, Zbo hg rfl (Zag hu0 (Zag hu1 (Zag hu7 (Zag hu8 Za7)))), rfl, h8⟩
def ZmT (N : Nat) : ZaH := (Zac).add [0, 1, 0, 1] fun _ E s K => Zof (Zbk ZjO E) s fun e_1 f_2 x_3 x_4 => ZeP N e_1 f_2 x_3 (Zfn K e_1 f_2 x_3) (ZfM K e_1 f_2 x_3) N x_4
theorem Zvl {N : Nat} (hC : Ok Tryd.prog C) (hΦ : Zaa Tryd.prog C (Zmw N)) : ZbH Tryd.prog C (ZmT N) ZmG [0, 1, 0, 1] :=
 ZbL (Λi := Zac) (tr := false) (ks := ZjO) (kx := ZoN) (N := N) hC hΦ
  (Zah (by kernel_rfl))
  fun R E s K r h => by
   have h2 := ZaH.add_self.symm.trans h
   obtain ⟨_, _, _, _, he, rfl, h3⟩ := Zky h2
   rw [he]
   exact (Zux N _ _ _ _ N _).trans h3
theorem Zy1 : Zbc ZtA [] = [([0, 1, 0, 1], ZmG)] := by kernel_rfl
theorem ZCa {R : Type} (N : Nat) (e_1 : List V) (f_2 : Fl) (K : V → S → Option R) : ZaS C (Zmw N) (ZmT N) 70 Tryd.f70 [.list 1 e_1 f_2, .fn 69 []] [] K =
 Zmk N e_1 f_2 (fun x_3 => K (.int .i64 x_3) []) := by kernel_rfl
theorem ZsF {N : Nat} (hC : Ok Tryd.prog C) (hΦ : Zaa Tryd.prog C (Zmw N)) : Za0 Tryd.prog C (ZmT N) ZtA [] :=
 ZaT ZtA [] (by
  rw [Zy1]
  intro p hp
  simp only [List.mem_cons, List.mem_nil_iff, or_false] at hp
  rcases hp with rfl
  ·exact (Zvl hC hΦ))
theorem ZrA (hC : Ok Tryd.prog C) {N : Nat} (hΦ : Zaa Tryd.prog C (Zmw N)) : Zaa Tryd.prog C (ZnW N) := by
 refine hΦ.addIf_pure rfl fun R vs K r h => ?_
 unfold ZAb at h
 obtain ⟨_, _, rfl, h1⟩ := ZaR h
 obtain ⟨_, _, rfl, h2⟩ := Zar h1
 obtain ⟨_, rfl, h3⟩ := ZbM h2
 obtain ⟨rfl, h4⟩ := ZbI h3
 obtain ⟨_, h5⟩ := Zad h4
 refine Zao (fn := Tryd.f70) (c := ZtA) hC hΦ Tryd.func70 (by kernel_rfl) (by kernel_rfl) (ZsF (N := N) hC hΦ) rfl rfl ?_
 refine (ZCa N _ _ _).trans ?_
 rw [← Zo0]
 exact h5
def ZzM (N : Nat) : (R : Type) → List V → S → (V → S → Option R) → Option R := fun _ vs s K =>
 ZfR vs fun v'1 v'2 => Zop v'1 fun o0 k'4 k'5 k_1 => isN k'4 0 <| isN k'5 0 <| ZnN 69 v'2 fun c'6 => Zmn c'6 <| ZuX s o0 0 fun o'7 => Zkn o'7 1 9 fun e_2 k'9 => isN k'9 0 <| Zaj (Zbi [o0]) <| Zaj (okI 1 [false] [some ⟨e_2, 1, 9, 0⟩]) <| Zw8 N k_1 e_2 (fun k_901 e_902 => FK s [o0] rl K (.arr 0 0 0 k_901) [some ⟨e_902, 1, 9, 0⟩])
def ZwM (N : Nat) : Zan := (ZnW N).addIf 67 (fun l => ZBR 1 69 l) (ZzM N)
def Zst : Code := ZaG Tryd.f67
def Zn4 : Code := (Zcc Zst [] 0).2
def ZjA : List Nat := Zdo 42 [0, 1, 5, 6]
def Zoy : List Nat := Zdo 42 [0, 5]
def ZgT (k_1 : Nat) (x_2 x_3 : Int) (e_4 : List V) : List V := mkF 0 42 [(0, .arr 0 0 0 k_1), (1, .fn 69 []), (5, .int .i64 x_2), (6, .int .i64 x_3)]
def Zfb {R : Type} (K : X → List V → S → Option R) (k_1 : Nat) : Int → List V → Option R := (fun x_1' e_2' => K (.exit 0) (mkF 0 42 [(0, .arr 0 0 0 k_1), (5, .int .i64 (x_1'))]) [some ⟨e_2', 1, 9, 0⟩])
abbrev ZjD {R : Type} (N : Nat) : Nat → List V → S → (X → List V → S → Option R) → Option R := fun n => ZgA C (ZnW N) (Zac) Zn4 [0, 1, 0, 1, 1, 1] false ZjA Zoy n R
theorem Zyu {R : Type} (N n : Nat) (k_1 : Nat) (x_2 x_3 : Int) (e_4 : List V) (K : X → List V → S → Option R) :
 ZjD N (n + 1) (ZgT k_1 x_2 x_3 e_4) [some ⟨e_4, 1, 9, 0⟩] K =
 ZcG N k_1 (fun x_2 x_3 e_4 => ZjD N n (ZgT k_1 x_2 x_3 e_4) [some ⟨e_4, 1, 9, 0⟩] K) x_2 x_3 e_4 (Zfb K k_1) := by kernel_rfl
theorem ZtU {R : Type} (N : Nat) (k_1 : Nat) (K : X → List V → S → Option R) : ∀ (n : Nat) (x_2 x_3 : Int) (e_4 : List V),
 ZjD N n (ZgT k_1 x_2 x_3 e_4) [some ⟨e_4, 1, 9, 0⟩] K = ZdZ N k_1 (Zfb K k_1) n x_2 x_3 e_4
 | 0, _, _, _ => rfl
 | n + 1, x_2, x_3, e_4 => (Zyu N n k_1 x_2 x_3 e_4 K).trans (congrArg (fun nx => ZcG N k_1 nx x_2 x_3 e_4 (Zfb K k_1)) (funext fun x_2 => funext fun x_3 => funext fun e_4 => ZtU N k_1 K n x_2 x_3 e_4))
def Zn6 {R : Type} (E : List V) (s : S) (k : Nat → Int → Int → List V → Option R) : Option R :=
 Zaj (ZbA 42 [0, 1, 5, 6] E) <| ZbT (nth E 0) fun u0 => Zop u0 fun k'1 k'2 k'3 k_1 => isN k'1 0 <| isN k'2 0 <| isN k'3 0 <| ZbT (nth E 1) fun u1 => ZnN 69 u1 fun c'4 => Zmn c'4 <| ZbS E 5 .i64 fun x_2 => ZbS E 6 .i64 fun x_3 => ZuJ s fun o'5 s'6 => Zkn o'5 1 9 fun e_4 k'7 => isN k'7 0 <| ZaP s'6 <| k k_1 x_2 x_3 e_4
theorem Zkx {R : Type} {E : List V} {s : S} {k : Nat → Int → Int → List V → Option R} {r : R} (h : Zn6 E s k = some r) : ∃ k_1 x_2 x_3 e_4, E = ZgT k_1 x_2 x_3 e_4 ∧ s = [some ⟨e_4, 1, 9, 0⟩] ∧ k k_1 x_2 x_3 e_4 = some r := by
 unfold Zn6 at h
 obtain ⟨hg, h1⟩ := Zab h
 obtain ⟨_, hu0, h2⟩ := Zae h1
 obtain ⟨_, _, _, _, rfl, h3⟩ := Zdt h2
 obtain ⟨rfl, h4⟩ := Zaw h3
 obtain ⟨rfl, h5⟩ := Zaw h4
 obtain ⟨rfl, h6⟩ := Zaw h5
 obtain ⟨_, hu1, h7⟩ := Zae h6
 obtain ⟨_, rfl, h8⟩ := ZbM h7
 obtain ⟨rfl, h9⟩ := ZbI h8
 obtain ⟨_, hu5, h10⟩ := Zav h9
 obtain ⟨_, hu6, h11⟩ := Zav h10
 obtain ⟨_, _, rfl, h12⟩ := Zcr h11
 obtain ⟨_, _, rfl, h13⟩ := ZbB h12
 obtain ⟨rfl, h14⟩ := Zaw h13
 obtain ⟨rfl, h15⟩ := Zad h14
 exact ⟨_, _, _, _, Zbo hg rfl (Zag hu0 (Zag hu1 (Zag hu5 (Zag hu6 Za7)))), rfl, h15⟩
def Znu (N : Nat) : ZaH := (Zac).add [0, 1, 0, 1, 1, 1] fun _ E s K => Zn6 (Zbk ZjA E) s fun k_1 x_2 x_3 e_4 => ZdZ N k_1 (Zfb K k_1) N x_2 x_3 e_4
theorem ZwC {N : Nat} (hC : Ok Tryd.prog C) (hΦ : Zaa Tryd.prog C (ZnW N)) : ZbH Tryd.prog C (Znu N) Zn4 [0, 1, 0, 1, 1, 1] :=
 ZbL (Λi := Zac) (tr := false) (ks := ZjA) (kx := Zoy) (N := N) hC hΦ
  (Zah (by kernel_rfl))
  fun R E s K r h => by
   have h2 := ZaH.add_self.symm.trans h
   obtain ⟨_, _, _, _, he, rfl, h3⟩ := Zkx h2
   rw [he]
   exact (ZtU N _ _ N _ _ _).trans h3
theorem Zzc : Zbc Zst [] = [([0, 1, 0, 1, 1, 1], Zn4)] := by kernel_rfl
theorem ZBb {R : Type} (N : Nat) (k_1 : Nat) (e_2 : List V) (K : V → S → Option R) : ZaS C (ZnW N) (Znu N) 67 Tryd.f67 [.arr 0 0 0 k_1, .fn 69 []] [some ⟨e_2, 1, 9, 0⟩] (GK rl 1 K) =
 Zlx N k_1 e_2 (fun k_901 e_902 => K (.arr 0 0 0 k_901) [some ⟨e_902, 1, 9, 0⟩]) := by kernel_rfl
theorem ZsN {N : Nat} (hC : Ok Tryd.prog C) (hΦ : Zaa Tryd.prog C (ZnW N)) : Za0 Tryd.prog C (Znu N) Zst [] :=
 ZaT Zst [] (by
  rw [Zzc]
  intro p hp
  simp only [List.mem_cons, List.mem_nil_iff, or_false] at hp
  rcases hp with rfl
  ·exact (ZwC hC hΦ))
theorem Zro (hC : Ok Tryd.prog C) {N : Nat} (hΦ : Zaa Tryd.prog C (ZnW N)) : Zaa Tryd.prog C (ZwM N) := by
 refine hΦ.addIf_shared rfl fun R vs s K r h => ?_
 unfold ZzM at h
 obtain ⟨_, _, rfl, h1⟩ := ZaR h
 obtain ⟨o0, _, _, k_1, rfl, h2⟩ := Zdt h1
 obtain ⟨rfl, h3⟩ := Zaw h2
 obtain ⟨rfl, h4⟩ := Zaw h3
 obtain ⟨_, rfl, h5⟩ := ZbM h4
 obtain ⟨rfl, h6⟩ := ZbI h5
 obtain ⟨_, hob0, h7⟩ := ZcL h6
 obtain ⟨e_2, _, rfl, h8⟩ := ZbB h7
 obtain ⟨rfl, h9⟩ := Zaw h8
 obtain ⟨hdist, h10⟩ := Zab h9
 obtain ⟨hin, h11⟩ := Zab h10
 refine ZbK (fn := Tryd.f67) (c := Zst) (os := [o0]) (rl := rl) (bi := [false]) (s0 := [some ⟨e_2, 1, 9, 0⟩]) (as0 := [.arr 0 0 0 k_1, .fn 69 []]) hC hΦ Tryd.func67 (by kernel_rfl) (by kernel_rfl) (ZsN (N := N) hC hΦ) rfl hdist ⟨⟨_, rfl, hob0⟩, trivial⟩ hin rfl rfl ?_
 refine (ZBb N _ _ _).trans ?_
 rw [← ZpY]
 exact h11
def Zy8 (N : Nat) : (R : Type) → List V → S → (V → S → Option R) → Option R := fun _ vs s K =>
 Zcu vs fun v'1 => Za1 v'1 fun w_1 => ZaP s <| ZqJ N w_1 (fun e_2 => K (.list 1 e_2 .sh) [])
def Zv6 (N : Nat) : Zan := (ZwM N).add 43 (Zy8 N)
def ZBI : Code := ZaG Tryd.f43
theorem ZBG {R : Type} (N : Nat) (w_1 : ByteArray) (K : V → S → Option R) : ZaS C (ZwM N) (Zac) 43 Tryd.f43 [.str w_1] [] K =
 Zle N w_1 (fun e_2 => K (.list 1 e_2 .sh) []) := by kernel_rfl
theorem ZqI (hC : Ok Tryd.prog C) {N : Nat} (hΦ : Zaa Tryd.prog C (ZwM N)) : Zaa Tryd.prog C (Zv6 N) := by
 refine hΦ.add_pure rfl fun R vs K r h => ?_
 unfold Zy8 at h
 obtain ⟨_, rfl, h1⟩ := Zas h
 obtain ⟨_, rfl, h2⟩ := Zam h1
 obtain ⟨_, h3⟩ := Zad h2
 refine Zao (fn := Tryd.f43) (c := ZBI) hC hΦ Tryd.func43 (by kernel_rfl) (by kernel_rfl) (Zah (Λ := Zac) (by kernel_rfl)) rfl rfl ?_
 refine (ZBG N _ _).trans ?_
 rw [← ZpZ]
 exact h3
def ZyK (N : Nat) : (R : Type) → List V → S → (V → S → Option R) → Option R := fun _ vs s K =>
 Zwd vs fun v'1 v'2 v'3 => asInt .i64 v'1 fun x_1 => asInt .i64 v'2 fun x_2 => asInt .i64 v'3 fun x_3 => ZaP s <| Zva N x_1 x_2 x_3 (fun b_4 => K (.bool b_4) [])
def Zvf (N : Nat) : Zan := (Zv6 N).add 71 (ZyK N)
def ZCj : Code := ZaG Tryd.f71
theorem ZCT {R : Type} (N : Nat) (x_1 x_2 x_3 : Int) (K : V → S → Option R) : ZaS C (Zv6 N) (Zac) 71 Tryd.f71 [.int .i64 x_1, .int .i64 x_2, .int .i64 x_3] [] K =
 Zlb N x_1 x_2 x_3 (fun b_4 => K (.bool b_4) []) := by kernel_rfl
theorem ZqY (hC : Ok Tryd.prog C) {N : Nat} (hΦ : Zaa Tryd.prog C (Zv6 N)) : Zaa Tryd.prog C (Zvf N) := by
 refine hΦ.add_pure rfl fun R vs K r h => ?_
 unfold ZyK at h
 obtain ⟨_, _, _, rfl, h1⟩ := Zc9 h
 obtain ⟨_, rfl, h2⟩ := ZaE h1
 obtain ⟨_, rfl, h3⟩ := ZaE h2
 obtain ⟨_, rfl, h4⟩ := ZaE h3
 obtain ⟨_, h5⟩ := Zad h4
 refine Zao (fn := Tryd.f71) (c := ZCj) hC hΦ Tryd.func71 (by kernel_rfl) (by kernel_rfl) (Zah (Λ := Zac) (by kernel_rfl)) rfl rfl ?_
 refine (ZCT N _ _ _ _).trans ?_
 rw [← ZpP]
 exact h5
def ZAp (N : Nat) : (R : Type) → List V → S → (V → S → Option R) → Option R := fun _ vs s K =>
 Zcu vs fun v'1 => asInt .u8 v'1 fun x_1 => ZaP s <| Zw2 N x_1 (fun b_2 => K (.bool b_2) [])
def ZvL (N : Nat) : Zan := (Zvf N).add 74 (ZAp N)
def ZBF : Code := ZaG Tryd.f74
theorem ZCX {R : Type} (N : Nat) (x_1 : Int) (K : V → S → Option R) : ZaS C (Zvf N) (Zac) 74 Tryd.f74 [.int .u8 x_1] [] K =
 Zlj N x_1 (fun b_2 => K (.bool b_2) []) := by kernel_rfl
theorem Zr5 (hC : Ok Tryd.prog C) {N : Nat} (hΦ : Zaa Tryd.prog C (Zvf N)) : Zaa Tryd.prog C (ZvL N) := by
 refine hΦ.add_pure rfl fun R vs K r h => ?_
 unfold ZAp at h
 obtain ⟨_, rfl, h1⟩ := Zas h
 obtain ⟨_, rfl, h2⟩ := ZaE h1
 obtain ⟨_, h3⟩ := Zad h2
 refine Zao (fn := Tryd.f74) (c := ZBF) hC hΦ Tryd.func74 (by kernel_rfl) (by kernel_rfl) (Zah (Λ := Zac) (by kernel_rfl)) rfl rfl ?_
 refine (ZCX N _ _).trans ?_
 rw [← Zp4]
 exact h3
def Zz7 (N : Nat) : (R : Type) → List V → S → (V → S → Option R) → Option R := fun _ vs s K =>
 Zcu vs fun v'1 => asInt .u8 v'1 fun x_1 => ZaP s <| Zyv N x_1 (fun b_2 => K (.bool b_2) [])
def ZmR (N : Nat) : Zan := (ZvL N).add 73 (Zz7 N)
def ZBo : Code := ZaG Tryd.f73
theorem ZBu {R : Type} (N : Nat) (x_1 : Int) (K : V → S → Option R) : ZaS C (ZvL N) (Zac) 73 Tryd.f73 [.int .u8 x_1] [] K =
 Zld N x_1 (fun b_2 => K (.bool b_2) []) := by kernel_rfl
theorem Zq5 (hC : Ok Tryd.prog C) {N : Nat} (hΦ : Zaa Tryd.prog C (ZvL N)) : Zaa Tryd.prog C (ZmR N) := by
 refine hΦ.add_pure rfl fun R vs K r h => ?_
 unfold Zz7 at h
 obtain ⟨_, rfl, h1⟩ := Zas h
 obtain ⟨_, rfl, h2⟩ := ZaE h1
 obtain ⟨_, h3⟩ := Zad h2
 refine Zao (fn := Tryd.f73) (c := ZBo) hC hΦ Tryd.func73 (by kernel_rfl) (by kernel_rfl) (Zah (Λ := Zac) (by kernel_rfl)) rfl rfl ?_
 refine (ZBu N _ _).trans ?_
 rw [← Zqi]
 exact h3
def ZzL (N : Nat) : (R : Type) → List V → S → (V → S → Option R) → Option R := fun _ vs s K =>
 ZfR vs fun v'1 v'2 => Za6 1 v'1 fun e_1 f_2 => ZnN 73 v'2 fun c'3 => Zmn c'3 <| ZaP s <| Zyn N e_1 f_2 (fun x_3 => K (.int .i64 x_3) [])
def Zv1 (N : Nat) : Zan := (ZmR N).addIf 84 (fun l => ZxU 1 73 l) (ZzL N)
def ZsB : Code := ZaG Tryd.f84
def Zon : Code := (Zcc ZsB [] 0).2
def Zjd : List Nat := Zdo 19 [0, 1, 7, 8]
def Zpc : List Nat := Zdo 19 [4]
def ZgL (e_1 : List V) (f_2 : Fl) (x_3 x_4 : Int) : List V := mkF 0 19 [(0, .list 1 e_1 f_2), (1, .fn 73 []), (7, .int .i64 x_3), (8, .int .i64 x_4)]
def ZfQ {R : Type} (K : X → List V → S → Option R) (e_1 : List V) (f_2 : Fl) (x_3 : Int) : Int → Option R := (fun x_1' => K .ret (mkF 0 19 [(4, .int .i64 (x_1'))]) [])
def Zfx {R : Type} (K : X → List V → S → Option R) (e_1 : List V) (f_2 : Fl) (x_3 : Int) : Unit → Option R := (fun _ => K (.exit 0) (mkF 0 19 []) [])
abbrev ZjU {R : Type} (N : Nat) : Nat → List V → S → (X → List V → S → Option R) → Option R := fun n => ZgA C (ZmR N) (Zac) Zon [0, 1, 0, 1] false Zjd Zpc n R
theorem Zx3 {R : Type} (N n : Nat) (e_1 : List V) (f_2 : Fl) (x_3 : Int) (x_4 : Int) (K : X → List V → S → Option R) :
 ZjU N (n + 1) (ZgL e_1 f_2 x_3 x_4) [] K =
 ZcH N e_1 f_2 x_3 (fun x_4 => ZjU N n (ZgL e_1 f_2 x_3 x_4) [] K) x_4 (ZfQ K e_1 f_2 x_3) (Zfx K e_1 f_2 x_3) := by kernel_rfl
theorem Zsy {R : Type} (N : Nat) (e_1 : List V) (f_2 : Fl) (x_3 : Int) (K : X → List V → S → Option R) : ∀ (n : Nat) (x_4 : Int),
 ZjU N n (ZgL e_1 f_2 x_3 x_4) [] K = Ze1 N e_1 f_2 x_3 (ZfQ K e_1 f_2 x_3) (Zfx K e_1 f_2 x_3) n x_4
 | 0, _ => rfl
 | n + 1, x_4 => (Zx3 N n e_1 f_2 x_3 x_4 K).trans (congrArg (fun nx => ZcH N e_1 f_2 x_3 nx x_4 (ZfQ K e_1 f_2 x_3) (Zfx K e_1 f_2 x_3)) (funext fun x_4 => Zsy N e_1 f_2 x_3 K n x_4))
def Zmv {R : Type} (E : List V) (s : S) (k : List V → Fl → Int → Int → Option R) : Option R :=
 Zaj (ZbA 19 [0, 1, 7, 8] E) <| Zeu E 0 1 fun e_1 f_2 => ZbT (nth E 1) fun u1 => ZnN 73 u1 fun c'1 => Zmn c'1 <| ZbS E 7 .i64 fun x_3 => ZbS E 8 .i64 fun x_4 => ZaP s <| k e_1 f_2 x_3 x_4
theorem Zkr {R : Type} {E : List V} {s : S} {k : List V → Fl → Int → Int → Option R} {r : R} (h : Zmv E s k = some r) : ∃ e_1 f_2 x_3 x_4, E = ZgL e_1 f_2 x_3 x_4 ∧ s = [] ∧ k e_1 f_2 x_3 x_4 = some r := by
 unfold Zmv at h
 obtain ⟨hg, h1⟩ := Zab h
 obtain ⟨_, _, hu0, h2⟩ := ZbR h1
 obtain ⟨_, hu1, h3⟩ := Zae h2
 obtain ⟨_, rfl, h4⟩ := ZbM h3
 obtain ⟨rfl, h5⟩ := ZbI h4
 obtain ⟨_, hu7, h6⟩ := Zav h5
 obtain ⟨_, hu8, h7⟩ := Zav h6
 obtain ⟨rfl, h8⟩ := Zad h7
 exact ⟨_, _, _, _, Zbo hg rfl (Zag hu0 (Zag hu1 (Zag hu7 (Zag hu8 Za7)))), rfl, h8⟩
def ZmY (N : Nat) : ZaH := (Zac).add [0, 1, 0, 1] fun _ E s K => Zmv (Zbk Zjd E) s fun e_1 f_2 x_3 x_4 => Ze1 N e_1 f_2 x_3 (ZfQ K e_1 f_2 x_3) (Zfx K e_1 f_2 x_3) N x_4
theorem Zwx {N : Nat} (hC : Ok Tryd.prog C) (hΦ : Zaa Tryd.prog C (ZmR N)) : ZbH Tryd.prog C (ZmY N) Zon [0, 1, 0, 1] :=
 ZbL (Λi := Zac) (tr := false) (ks := Zjd) (kx := Zpc) (N := N) hC hΦ
  (Zah (by kernel_rfl))
  fun R E s K r h => by
   have h2 := ZaH.add_self.symm.trans h
   obtain ⟨_, _, _, _, he, rfl, h3⟩ := Zkr h2
   rw [he]
   exact (Zsy N _ _ _ _ N _).trans h3
theorem ZzZ : Zbc ZsB [] = [([0, 1, 0, 1], Zon)] := by kernel_rfl
theorem ZBW {R : Type} (N : Nat) (e_1 : List V) (f_2 : Fl) (K : V → S → Option R) : ZaS C (ZmR N) (ZmY N) 84 Tryd.f84 [.list 1 e_1 f_2, .fn 73 []] [] K =
 Zme N e_1 f_2 (fun x_3 => K (.int .i64 x_3) []) := by kernel_rfl
theorem Zs0 {N : Nat} (hC : Ok Tryd.prog C) (hΦ : Zaa Tryd.prog C (ZmR N)) : Za0 Tryd.prog C (ZmY N) ZsB [] :=
 ZaT ZsB [] (by
  rw [ZzZ]
  intro p hp
  simp only [List.mem_cons, List.mem_nil_iff, or_false] at hp
  rcases hp with rfl
  ·exact (Zwx hC hΦ))
theorem ZrR (hC : Ok Tryd.prog C) {N : Nat} (hΦ : Zaa Tryd.prog C (ZmR N)) : Zaa Tryd.prog C (Zv1 N) := by
 refine hΦ.addIf_pure rfl fun R vs K r h => ?_
 unfold ZzL at h
 obtain ⟨_, _, rfl, h1⟩ := ZaR h
 obtain ⟨_, _, rfl, h2⟩ := Zar h1
 obtain ⟨_, rfl, h3⟩ := ZbM h2
 obtain ⟨rfl, h4⟩ := ZbI h3
 obtain ⟨_, h5⟩ := Zad h4
 refine Zao (fn := Tryd.f84) (c := ZsB) hC hΦ Tryd.func84 (by kernel_rfl) (by kernel_rfl) (Zs0 (N := N) hC hΦ) rfl rfl ?_
 refine (ZBW N _ _ _).trans ?_
 rw [← Zow]
 exact h5
def Zzs (N : Nat) : (R : Type) → List V → S → (V → S → Option R) → Option R := fun _ vs s K =>
 ZfR vs fun v'1 v'2 => Za6 1 v'1 fun e_1 f_2 => ZnN 73 v'2 fun c'3 => Zmn c'3 <| ZaP s <| ZvX N e_1 f_2 (fun b_3 => K (.bool b_3) [])
def ZwF (N : Nat) : Zan := (Zv1 N).addIf 72 (fun l => ZxU 1 73 l) (Zzs N)
def ZBp : Code := ZaG Tryd.f72
theorem ZA9 {R : Type} (N : Nat) (e_1 : List V) (f_2 : Fl) (K : V → S → Option R) : ZaS C (Zv1 N) (Zac) 72 Tryd.f72 [.list 1 e_1 f_2, .fn 73 []] [] K =
 Zlt N e_1 f_2 (fun b_3 => K (.bool b_3) []) := by kernel_rfl
theorem ZqZ (hC : Ok Tryd.prog C) {N : Nat} (hΦ : Zaa Tryd.prog C (Zv1 N)) : Zaa Tryd.prog C (ZwF N) := by
 refine hΦ.addIf_pure rfl fun R vs K r h => ?_
 unfold Zzs at h
 obtain ⟨_, _, rfl, h1⟩ := ZaR h
 obtain ⟨_, _, rfl, h2⟩ := Zar h1
 obtain ⟨_, rfl, h3⟩ := ZbM h2
 obtain ⟨rfl, h4⟩ := ZbI h3
 obtain ⟨_, h5⟩ := Zad h4
 refine Zao (fn := Tryd.f72) (c := ZBp) hC hΦ Tryd.func72 (by kernel_rfl) (by kernel_rfl) (Zah (Λ := Zac) (by kernel_rfl)) rfl rfl ?_
 refine (ZA9 N _ _ _).trans ?_
 rw [← Zpn]
 exact h5
def ZAk (N : Nat) : (R : Type) → List V → S → (V → S → Option R) → Option R := fun _ vs s K =>
 Zcu vs fun v'1 => Za1 v'1 fun w_1 => ZaP s <| ZsO N w_1 (fun b_2 => K (.bool b_2) [])
def Zvc (N : Nat) : Zan := (ZwF N).add 47 (ZAk N)
def ZCv : Code := ZaG Tryd.f47
theorem ZBj {R : Type} (N : Nat) (w_1 : ByteArray) (K : V → S → Option R) : ZaS C (ZwF N) (Zac) 47 Tryd.f47 [.str w_1] [] K =
 Zll N w_1 (fun b_2 => K (.bool b_2) []) := by kernel_rfl
theorem ZqB (hC : Ok Tryd.prog C) {N : Nat} (hΦ : Zaa Tryd.prog C (ZwF N)) : Zaa Tryd.prog C (Zvc N) := by
 refine hΦ.add_pure rfl fun R vs K r h => ?_
 unfold ZAk at h
 obtain ⟨_, rfl, h1⟩ := Zas h
 obtain ⟨_, rfl, h2⟩ := Zam h1
 obtain ⟨_, h3⟩ := Zad h2
 refine Zao (fn := Tryd.f47) (c := ZCv) hC hΦ Tryd.func47 (by kernel_rfl) (by kernel_rfl) (Zah (Λ := Zac) (by kernel_rfl)) rfl rfl ?_
 refine (ZBj N _ _).trans ?_
 rw [← Zqe]
 exact h3
def ZzU (N : Nat) : (R : Type) → List V → S → (V → S → Option R) → Option R := fun _ vs s K =>
 Zcu vs fun v'1 => Za1 v'1 fun w_1 => ZaP s <| ZxF N w_1 (fun b_2 => K (.bool b_2) [])
def Znw (N : Nat) : Zan := (Zvc N).add 66 (ZzU N)
def ZCs : Code := ZaG Tryd.f66
theorem ZCO {R : Type} (N : Nat) (w_1 : ByteArray) (K : V → S → Option R) : ZaS C (Zvc N) (Zac) 66 Tryd.f66 [.str w_1] [] K =
 Zlu N w_1 (fun b_2 => K (.bool b_2) []) := by kernel_rfl
theorem Zq0 (hC : Ok Tryd.prog C) {N : Nat} (hΦ : Zaa Tryd.prog C (Zvc N)) : Zaa Tryd.prog C (Znw N) := by
 refine hΦ.add_pure rfl fun R vs K r h => ?_
 unfold ZzU at h
 obtain ⟨_, rfl, h1⟩ := Zas h
 obtain ⟨_, rfl, h2⟩ := Zam h1
 obtain ⟨_, h3⟩ := Zad h2
 refine Zao (fn := Tryd.f66) (c := ZCs) hC hΦ Tryd.func66 (by kernel_rfl) (by kernel_rfl) (Zah (Λ := Zac) (by kernel_rfl)) rfl rfl ?_
 refine (ZCO N _ _).trans ?_
 rw [← ZoF]
 exact h3
def Zzd (N : Nat) : (R : Type) → List V → S → (V → S → Option R) → Option R := fun _ vs s K =>
 ZfR vs fun v'1 v'2 => Za6 1 v'1 fun e_1 f_2 => ZnN 66 v'2 fun c'3 => Zmn c'3 <| ZaP s <| ZxI N e_1 f_2 (fun x_3 => K (.int .i64 x_3) [])
def Zvv (N : Nat) : Zan := (Znw N).addIf 70 (fun l => ZxU 1 66 l) (Zzd N)
def Zsq : Code := ZaG Tryd.f70
def ZmO : Code := (Zcc Zsq [] 0).2
def ZiK : List Nat := Zdo 19 [0, 1, 7, 8]
def Zpv : List Nat := Zdo 19 [4]
def ZgW (e_1 : List V) (f_2 : Fl) (x_3 x_4 : Int) : List V := mkF 0 19 [(0, .list 1 e_1 f_2), (1, .fn 66 []), (7, .int .i64 x_3), (8, .int .i64 x_4)]
def ZfB {R : Type} (K : X → List V → S → Option R) (e_1 : List V) (f_2 : Fl) (x_3 : Int) : Int → Option R := (fun x_1' => K .ret (mkF 0 19 [(4, .int .i64 (x_1'))]) [])
def Zfw {R : Type} (K : X → List V → S → Option R) (e_1 : List V) (f_2 : Fl) (x_3 : Int) : Unit → Option R := (fun _ => K (.exit 0) (mkF 0 19 []) [])
abbrev Zjo {R : Type} (N : Nat) : Nat → List V → S → (X → List V → S → Option R) → Option R := fun n => ZgA C (Znw N) (Zac) ZmO [0, 1, 0, 1] false ZiK Zpv n R
theorem ZxZ {R : Type} (N n : Nat) (e_1 : List V) (f_2 : Fl) (x_3 : Int) (x_4 : Int) (K : X → List V → S → Option R) :
 Zjo N (n + 1) (ZgW e_1 f_2 x_3 x_4) [] K =
 ZcQ N e_1 f_2 x_3 (fun x_4 => Zjo N n (ZgW e_1 f_2 x_3 x_4) [] K) x_4 (ZfB K e_1 f_2 x_3) (Zfw K e_1 f_2 x_3) := by kernel_rfl
theorem Zs2 {R : Type} (N : Nat) (e_1 : List V) (f_2 : Fl) (x_3 : Int) (K : X → List V → S → Option R) : ∀ (n : Nat) (x_4 : Int),
 Zjo N n (ZgW e_1 f_2 x_3 x_4) [] K = ZeT N e_1 f_2 x_3 (ZfB K e_1 f_2 x_3) (Zfw K e_1 f_2 x_3) n x_4
 | 0, _ => rfl
 | n + 1, x_4 => (ZxZ N n e_1 f_2 x_3 x_4 K).trans (congrArg (fun nx => ZcQ N e_1 f_2 x_3 nx x_4 (ZfB K e_1 f_2 x_3) (Zfw K e_1 f_2 x_3)) (funext fun x_4 => Zs2 N e_1 f_2 x_3 K n x_4))
def Zos {R : Type} (E : List V) (s : S) (k : List V → Fl → Int → Int → Option R) : Option R :=
 Zaj (ZbA 19 [0, 1, 7, 8] E) <| Zeu E 0 1 fun e_1 f_2 => ZbT (nth E 1) fun u1 => ZnN 66 u1 fun c'1 => Zmn c'1 <| ZbS E 7 .i64 fun x_3 => ZbS E 8 .i64 fun x_4 => ZaP s <| k e_1 f_2 x_3 x_4
theorem Zlc {R : Type} {E : List V} {s : S} {k : List V → Fl → Int → Int → Option R} {r : R} (h : Zos E s k = some r) : ∃ e_1 f_2 x_3 x_4, E = ZgW e_1 f_2 x_3 x_4 ∧ s = [] ∧ k e_1 f_2 x_3 x_4 = some r := by
 unfold Zos at h
 obtain ⟨hg, h1⟩ := Zab h
 obtain ⟨_, _, hu0, h2⟩ := ZbR h1
 obtain ⟨_, hu1, h3⟩ := Zae h2
 obtain ⟨_, rfl, h4⟩ := ZbM h3
 obtain ⟨rfl, h5⟩ := ZbI h4
 obtain ⟨_, hu7, h6⟩ := Zav h5
 obtain ⟨_, hu8, h7⟩ := Zav h6
 obtain ⟨rfl, h8⟩ := Zad h7
 exact ⟨_, _, _, _, Zbo hg rfl (Zag hu0 (Zag hu1 (Zag hu7 (Zag hu8 Za7)))), rfl, h8⟩
def Zmy (N : Nat) : ZaH := (Zac).add [0, 1, 0, 1] fun _ E s K => Zos (Zbk ZiK E) s fun e_1 f_2 x_3 x_4 => ZeT N e_1 f_2 x_3 (ZfB K e_1 f_2 x_3) (Zfw K e_1 f_2 x_3) N x_4
theorem Zw3 {N : Nat} (hC : Ok Tryd.prog C) (hΦ : Zaa Tryd.prog C (Znw N)) : ZbH Tryd.prog C (Zmy N) ZmO [0, 1, 0, 1] :=
 ZbL (Λi := Zac) (tr := false) (ks := ZiK) (kx := Zpv) (N := N) hC hΦ
  (Zah (by kernel_rfl))
  fun R E s K r h => by
   have h2 := ZaH.add_self.symm.trans h
   obtain ⟨_, _, _, _, he, rfl, h3⟩ := Zlc h2
   rw [he]
   exact (Zs2 N _ _ _ _ N _).trans h3
theorem ZAz : Zbc Zsq [] = [([0, 1, 0, 1], ZmO)] := by kernel_rfl
theorem ZCH {R : Type} (N : Nat) (e_1 : List V) (f_2 : Fl) (K : V → S → Option R) : ZaS C (Znw N) (Zmy N) 70 Tryd.f70 [.list 1 e_1 f_2, .fn 66 []] [] K =
 Zj1 N e_1 f_2 (fun x_3 => K (.int .i64 x_3) []) := by kernel_rfl
theorem ZuG {N : Nat} (hC : Ok Tryd.prog C) (hΦ : Zaa Tryd.prog C (Znw N)) : Za0 Tryd.prog C (Zmy N) Zsq [] :=
 ZaT Zsq [] (by
  rw [ZAz]
  intro p hp
  simp only [List.mem_cons, List.mem_nil_iff, or_false] at hp
  rcases hp with rfl
  ·exact (Zw3 hC hΦ))
theorem Zr2 (hC : Ok Tryd.prog C) {N : Nat} (hΦ : Zaa Tryd.prog C (Znw N)) : Zaa Tryd.prog C (Zvv N) := by
 refine hΦ.addIf_pure rfl fun R vs K r h => ?_
 unfold Zzd at h
 obtain ⟨_, _, rfl, h1⟩ := ZaR h
 obtain ⟨_, _, rfl, h2⟩ := Zar h1
 obtain ⟨_, rfl, h3⟩ := ZbM h2
 obtain ⟨rfl, h4⟩ := ZbI h3
 obtain ⟨_, h5⟩ := Zad h4
 refine Zao (fn := Tryd.f70) (c := Zsq) hC hΦ Tryd.func70 (by kernel_rfl) (by kernel_rfl) (ZuG (N := N) hC hΦ) rfl rfl ?_
 refine (ZCH N _ _ _).trans ?_
 rw [← Zqd]
 exact h5
def ZAw (N : Nat) : (R : Type) → List V → S → (V → S → Option R) → Option R := fun _ vs s K =>
 ZfR vs fun v'1 v'2 => Za6 1 v'1 fun e_1 f_2 => ZnN 66 v'2 fun c'3 => Zmn c'3 <| ZaP s <| Zvs N e_1 f_2 (fun b_3 => K (.bool b_3) [])
def Zxa (N : Nat) : Zan := (Zvv N).addIf 44 (fun l => ZxU 1 66 l) (ZAw N)
def ZCC : Code := ZaG Tryd.f44
theorem ZBS {R : Type} (N : Nat) (e_1 : List V) (f_2 : Fl) (K : V → S → Option R) : ZaS C (Zvv N) (Zac) 44 Tryd.f44 [.list 1 e_1 f_2, .fn 66 []] [] K =
 Zj0 N e_1 f_2 (fun b_3 => K (.bool b_3) []) := by kernel_rfl
theorem Zr4 (hC : Ok Tryd.prog C) {N : Nat} (hΦ : Zaa Tryd.prog C (Zvv N)) : Zaa Tryd.prog C (Zxa N) := by
 refine hΦ.addIf_pure rfl fun R vs K r h => ?_
 unfold ZAw at h
 obtain ⟨_, _, rfl, h1⟩ := ZaR h
 obtain ⟨_, _, rfl, h2⟩ := Zar h1
 obtain ⟨_, rfl, h3⟩ := ZbM h2
 obtain ⟨rfl, h4⟩ := ZbI h3
 obtain ⟨_, h5⟩ := Zad h4
 refine Zao (fn := Tryd.f44) (c := ZCC) hC hΦ Tryd.func44 (by kernel_rfl) (by kernel_rfl) (Zah (Λ := Zac) (by kernel_rfl)) rfl rfl ?_
 refine (ZBS N _ _ _).trans ?_
 rw [← ZpW]
 exact h5
def ZyL (N : Nat) : (R : Type) → List V → S → (V → S → Option R) → Option R := fun _ vs s K =>
 Zcu vs fun v'1 => Za1 v'1 fun w_1 => ZaP s <| ZxD N w_1 (fun b_2 => K (.bool b_2) [])
def Zxb (N : Nat) : Zan := (Zxa N).add 41 (ZyL N)
def ZB0 : Code := ZaG Tryd.f41
theorem ZBw {R : Type} (N : Nat) (w_1 : ByteArray) (K : V → S → Option R) : ZaS C (Zxa N) (Zac) 41 Tryd.f41 [.str w_1] [] K =
 Zlv N w_1 (fun b_2 => K (.bool b_2) []) := by kernel_rfl
theorem Zsc (hC : Ok Tryd.prog C) {N : Nat} (hΦ : Zaa Tryd.prog C (Zxa N)) : Zaa Tryd.prog C (Zxb N) := by
 refine hΦ.add_pure rfl fun R vs K r h => ?_
 unfold ZyL at h
 obtain ⟨_, rfl, h1⟩ := Zas h
 obtain ⟨_, rfl, h2⟩ := Zam h1
 obtain ⟨_, h3⟩ := Zad h2
 refine Zao (fn := Tryd.f41) (c := ZB0) hC hΦ Tryd.func41 (by kernel_rfl) (by kernel_rfl) (Zah (Λ := Zac) (by kernel_rfl)) rfl rfl ?_
 refine (ZBw N _ _).trans ?_
 rw [← Zpg]
 exact h3
def ZzW (N : Nat) : (R : Type) → List V → S → (V → S → Option R) → Option R := fun _ vs s K =>
 Zcu vs fun v'1 => Za1 v'1 fun w_1 => ZaP s <| Zhm N w_1 (fun b_2 => K (.bool b_2) [])
def ZxP (N : Nat) : Zan := (Zxb N).add 13 (ZzW N)
def ZB5 : Code := ZaG Tryd.f13
theorem ZBX {R : Type} (N : Nat) (w_1 : ByteArray) (K : V → S → Option R) : ZaS C (Zxb N) (Zac) 13 Tryd.f13 [.str w_1] [] K =
 Zj3 N w_1 (fun b_2 => K (.bool b_2) []) := by kernel_rfl
theorem ZrK (hC : Ok Tryd.prog C) {N : Nat} (hΦ : Zaa Tryd.prog C (Zxb N)) : Zaa Tryd.prog C (ZxP N) := by
 refine hΦ.add_pure rfl fun R vs K r h => ?_
 unfold ZzW at h
 obtain ⟨_, rfl, h1⟩ := Zas h
 obtain ⟨_, rfl, h2⟩ := Zam h1
 obtain ⟨_, h3⟩ := Zad h2
 refine Zao (fn := Tryd.f13) (c := ZB5) hC hΦ Tryd.func13 (by kernel_rfl) (by kernel_rfl) (Zah (Λ := Zac) (by kernel_rfl)) rfl rfl ?_
 refine (ZBX N _ _).trans ?_
 rw [← ZoU]
 exact h3
def Zzj (N : Nat) : (R : Type) → List V → S → (V → S → Option R) → Option R := fun _ vs s K =>
 ZfR vs fun v'1 v'2 => Za6 1 v'1 fun e_1 f_2 => Za1 v'2 fun w_3 => ZaP s <| ZvV N e_1 f_2 w_3 (fun w_4 => K (.str w_4) [])
def ZvZ (N : Nat) : Zan := (ZxP N).add 63 (Zzj N)
theorem Zrq (hC : Ok Tryd.prog C) {N : Nat} (hΦ : Zaa Tryd.prog C (ZxP N)) : Zaa Tryd.prog C (ZvZ N) := by
 refine hΦ.add_pure rfl fun R vs K r h => ?_
 unfold Zzj at h
 obtain ⟨_, _, rfl, h1⟩ := ZaR h
 obtain ⟨_, _, rfl, h2⟩ := Zar h1
 obtain ⟨_, rfl, h3⟩ := Zam h2
 obtain ⟨_, h4⟩ := Zad h3
 rw [ZjJ] at h4
 unfold Zib at h4
 obtain ⟨_, h1, h2⟩ := Zsb Tryd.func63 (by kernel_rfl) (by kernel_rfl) (fun a c s w => Tryd.strings_Join_none a c s w) (fun b o c xs s w h1 h2 h3 h4 h5 => Tryd.strings_Join b o c xs s w h1 h2 h3 h4 h5) h4
 exact ⟨_, h1, h2⟩
def Zy6 (N : Nat) : (R : Type) → List V → S → (V → S → Option R) → Option R := fun _ vs s K =>
 Zcu vs fun v'1 => Za6 1 v'1 fun e_1 f_2 => ZaP s <| Zre N e_1 f_2 (fun w_3 => K (.str w_3) [])
def Zok (N : Nat) : Zan := (ZvZ N).add 46 (Zy6 N)
def ZB8 : Code := ZaG Tryd.f46
theorem ZBC {R : Type} (N : Nat) (e_1 : List V) (f_2 : Fl) (K : V → S → Option R) : ZaS C (ZvZ N) (Zac) 46 Tryd.f46 [.list 1 e_1 f_2] [] K =
 ZkO N e_1 f_2 (fun w_3 => K (.str w_3) []) := by kernel_rfl
theorem ZqP (hC : Ok Tryd.prog C) {N : Nat} (hΦ : Zaa Tryd.prog C (ZvZ N)) : Zaa Tryd.prog C (Zok N) := by
 refine hΦ.add_pure rfl fun R vs K r h => ?_
 unfold Zy6 at h
 obtain ⟨_, rfl, h1⟩ := Zas h
 obtain ⟨_, _, rfl, h2⟩ := Zar h1
 obtain ⟨_, h3⟩ := Zad h2
 refine Zao (fn := Tryd.f46) (c := ZB8) hC hΦ Tryd.func46 (by kernel_rfl) (by kernel_rfl) (Zah (Λ := Zac) (by kernel_rfl)) rfl rfl ?_
 refine (ZBC N _ _ _).trans ?_
 rw [← Zqh]
 exact h3
def ZzV (N : Nat) : (R : Type) → List V → S → (V → S → Option R) → Option R := fun _ vs s K =>
 Zcu vs fun v'1 => Za1 v'1 fun w_1 => ZaP s <| Zsz N w_1 (fun w_2 => K (.str w_2) [])
def ZvH (N : Nat) : Zan := (Zok N).add 35 (ZzV N)
def ZsI : Code := ZaG Tryd.f35
def Zod : Code := (Zcc ZsI [] 0).2
def Zjw : List Nat := Zdo 63 [3, 4, 13, 14, 15]
def Zph : List Nat := Zdo 63 [3, 4]
def ZgR (b_1 : Bool) (e_2 : List V) (x_3 : Int) (k_5 k_6 : Nat) (x_4 : Int) (O_9 : Ob) : List V := mkF 0 63 [(3, .bool b_1), (4, .arr 0 k_5 0 k_6), (13, .list 1 e_2 .sh), (14, .int .i64 x_3), (15, .int .i64 x_4)]
def Zfq {R : Type} (K : X → List V → S → Option R) (b_1 : Bool) (e_2 : List V) (x_3 : Int) : Nat → Nat → Ob → Option R := (fun k_1' k_2' O_3' => K (.exit 0) (mkF 0 63 [(3, .bool b_1), (4, .arr 0 (k_1') 0 (k_2'))]) [some (O_3')])
abbrev ZjN {R : Type} (N : Nat) : Nat → List V → S → (X → List V → S → Option R) → Option R := fun n => ZgA C.objs (Zok N) (Zac) Zod [0, 1, 0, 1, 1] false Zjw Zph n R
theorem Zxr {R : Type} (N n : Nat) (b_1 : Bool) (e_2 : List V) (x_3 : Int) (k_5 k_6 : Nat) (x_4 : Int) (O_9 : Ob) (K : X → List V → S → Option R) :
 ZjN N (n + 1) (ZgR b_1 e_2 x_3 k_5 k_6 x_4 O_9) [some O_9] K =
 Zcl N b_1 e_2 x_3 (fun k_5 k_6 x_4 O_9 => ZjN N n (ZgR b_1 e_2 x_3 k_5 k_6 x_4 O_9) [some O_9] K) k_5 k_6 x_4 O_9 (Zfq K b_1 e_2 x_3) := by kernel_rfl
theorem Ztf {R : Type} (N : Nat) (b_1 : Bool) (e_2 : List V) (x_3 : Int) (K : X → List V → S → Option R) : ∀ (n : Nat) (k_5 k_6 : Nat) (x_4 : Int) (O_9 : Ob),
 ZjN N n (ZgR b_1 e_2 x_3 k_5 k_6 x_4 O_9) [some O_9] K = Zdm N b_1 e_2 x_3 (Zfq K b_1 e_2 x_3) n k_5 k_6 x_4 O_9
 | 0, _, _, _, _ => rfl
 | n + 1, k_5, k_6, x_4, O_9 => (Zxr N n b_1 e_2 x_3 k_5 k_6 x_4 O_9 K).trans (congrArg (fun nx => Zcl N b_1 e_2 x_3 nx k_5 k_6 x_4 O_9 (Zfq K b_1 e_2 x_3)) (funext fun k_5 => funext fun k_6 => funext fun x_4 => funext fun O_9 => Ztf N b_1 e_2 x_3 K n k_5 k_6 x_4 O_9))
def Zm6 {R : Type} (E : List V) (s : S) (k : Bool → Nat → Nat → List V → Int → Int → Ob → Option R) : Option R :=
 Zaj (ZbA 63 [3, 4, 13, 14, 15] E) <| Zxi E 3 fun b_1 => ZbT (nth E 4) fun u4 => Zop u4 fun k'1 k_5 k'2 k_6 => isN k'1 0 <| isN k'2 0 <| ZbT (nth E 13) fun u13 => Za6 1 u13 fun e_2 f'3 => ZAD f'3 <| ZbS E 14 .i64 fun x_3 => ZbS E 15 .i64 fun x_4 => ZuJ s fun O_9 s'4 => ZaP s'4 <| k b_1 k_5 k_6 e_2 x_3 x_4 O_9
theorem ZlM {R : Type} {E : List V} {s : S} {k : Bool → Nat → Nat → List V → Int → Int → Ob → Option R} {r : R} (h : Zm6 E s k = some r) : ∃ b_1 k_5 k_6 e_2 x_3 x_4 O_9, E = ZgR b_1 e_2 x_3 k_5 k_6 x_4 O_9 ∧ s = [some O_9] ∧ k b_1 k_5 k_6 e_2 x_3 x_4 O_9 = some r := by
 unfold Zm6 at h
 obtain ⟨hg, h1⟩ := Zab h
 obtain ⟨_, hu3, h2⟩ := Zm5 h1
 obtain ⟨_, hu4, h3⟩ := Zae h2
 obtain ⟨_, _, _, _, rfl, h4⟩ := Zdt h3
 obtain ⟨rfl, h5⟩ := Zaw h4
 obtain ⟨rfl, h6⟩ := Zaw h5
 obtain ⟨_, hu13, h7⟩ := Zae h6
 obtain ⟨_, _, rfl, h8⟩ := Zar h7
 obtain ⟨rfl, h9⟩ := Zla h8
 obtain ⟨_, hu14, h10⟩ := Zav h9
 obtain ⟨_, hu15, h11⟩ := Zav h10
 obtain ⟨_, _, rfl, h12⟩ := Zcr h11
 obtain ⟨rfl, h13⟩ := Zad h12
 exact ⟨_, _, _, _, _, _, _, Zbo hg rfl (Zag hu3 (Zag hu4 (Zag hu13 (Zag hu14 (Zag hu15 Za7))))), rfl, h13⟩
def Znx (N : Nat) : ZaH := (Zac).add [0, 1, 0, 1, 1] fun _ E s K => Zm6 (Zbk Zjw E) s fun b_1 k_5 k_6 e_2 x_3 x_4 O_9 => Zdm N b_1 e_2 x_3 (Zfq K b_1 e_2 x_3) N k_5 k_6 x_4 O_9
theorem Zwn {N : Nat} (hC : Ok Tryd.prog C) (hΦ : Zaa Tryd.prog C (Zok N)) : ZbH Tryd.prog C.objs (Znx N) Zod [0, 1, 0, 1, 1] :=
 ZbL (Λi := Zac) (tr := false) (ks := Zjw) (kx := Zph) (N := N) hC.objs hΦ.objs
  (Zah (by kernel_rfl))
  fun R E s K r h => by
   have h2 := ZaH.add_self.symm.trans h
   obtain ⟨_, _, _, _, _, _, _, he, rfl, h3⟩ := ZlM h2
   rw [he]
   exact (Ztf N _ _ _ _ N _ _ _ _).trans h3
theorem ZAr : Zbc ZsI [] = [([0, 1, 0, 1, 1], Zod)] := by kernel_rfl
theorem ZCi {R : Type} (N : Nat) (w_1 : ByteArray) (K : V → S → Option R) : ZaS C.objs (Zok N) (Znx N) 35 Tryd.f35 [.str w_1] [] K =
 ZkX N w_1 (fun w_2 => K (.str w_2) []) := by kernel_rfl
theorem Ztn {N : Nat} (hC : Ok Tryd.prog C) (hΦ : Zaa Tryd.prog C (Zok N)) : Za0 Tryd.prog C.objs (Znx N) ZsI [] :=
 ZaT ZsI [] (by
  rw [ZAr]
  intro p hp
  simp only [List.mem_cons, List.mem_nil_iff, or_false] at hp
  rcases hp with rfl
  ·exact (Zwn hC hΦ))
theorem ZrY (hC : Ok Tryd.prog C) {N : Nat} (hΦ : Zaa Tryd.prog C (Zok N)) : Zaa Tryd.prog C (ZvH N) := by
 refine hΦ.add_pure rfl fun R vs K r h => ?_
 unfold ZzV at h
 obtain ⟨_, rfl, h1⟩ := Zas h
 obtain ⟨_, rfl, h2⟩ := Zam h1
 obtain ⟨_, h3⟩ := Zad h2
 refine Zao (fn := Tryd.f35) (c := ZsI) hC.objs hΦ.objs Tryd.func35 (by kernel_rfl) (by kernel_rfl) (Ztn (N := N) hC hΦ) rfl rfl ?_
 refine (ZCi N _ _).trans ?_
 rw [← ZpS]
 exact h3
def Zy5 (N : Nat) : (R : Type) → List V → S → (V → S → Option R) → Option R := fun _ vs s K =>
 Zcu vs fun v'1 => Za1 v'1 fun w_1 => ZaP s <| Zm9 N w_1 (fun w_2 b_3 => K (.tuple [.str w_2, .bool b_3]) [])
def Zw7 (N : Nat) : Zan := (ZvH N).add 7 (Zy5 N)
def ZAU : Code := ZaG Tryd.f7
theorem ZBM {R : Type} (N : Nat) (w_1 : ByteArray) (K : V → S → Option R) : ZaS C (ZvH N) (Zac) 7 Tryd.f7 [.str w_1] [] K =
 Zl2 N w_1 (fun w_2 b_3 => K (.tuple [.str w_2, .bool b_3]) []) := by kernel_rfl
theorem Zr3 (hC : Ok Tryd.prog C) {N : Nat} (hΦ : Zaa Tryd.prog C (ZvH N)) : Zaa Tryd.prog C (Zw7 N) := by
 refine hΦ.add_pure rfl fun R vs K r h => ?_
 unfold Zy5 at h
 obtain ⟨_, rfl, h1⟩ := Zas h
 obtain ⟨_, rfl, h2⟩ := Zam h1
 obtain ⟨_, h3⟩ := Zad h2
 refine Zao (fn := Tryd.f7) (c := ZAU) hC hΦ Tryd.func7 (by kernel_rfl) (by kernel_rfl) (Zah (Λ := Zac) (by kernel_rfl)) rfl rfl ?_
 refine (ZBM N _ _).trans ?_
 rw [← Zo4]
 exact h3
def Zzo (N : Nat) : (R : Type) → List V → S → (V → S → Option R) → Option R := fun _ vs s K =>
 Zwd vs fun v'1 v'2 v'3 => asInt .i64 v'1 fun x_1 => asInt .i64 v'2 fun x_2 => asInt .i64 v'3 fun x_3 => ZaP s <| ZuE N x_1 x_2 x_3 (fun b_4 => K (.bool b_4) [])
def Zmu (N : Nat) : Zan := (Zw7 N).add 64 (Zzo N)
def ZCx : Code := ZaG Tryd.f64
theorem ZCc {R : Type} (N : Nat) (x_1 x_2 x_3 : Int) (K : V → S → Option R) : ZaS C (Zw7 N) (Zac) 64 Tryd.f64 [.int .i64 x_1, .int .i64 x_2, .int .i64 x_3] [] K =
 Zl4 N x_1 x_2 x_3 (fun b_4 => K (.bool b_4) []) := by kernel_rfl
theorem Zri (hC : Ok Tryd.prog C) {N : Nat} (hΦ : Zaa Tryd.prog C (Zw7 N)) : Zaa Tryd.prog C (Zmu N) := by
 refine hΦ.add_pure rfl fun R vs K r h => ?_
 unfold Zzo at h
 obtain ⟨_, _, _, rfl, h1⟩ := Zc9 h
 obtain ⟨_, rfl, h2⟩ := ZaE h1
 obtain ⟨_, rfl, h3⟩ := ZaE h2
 obtain ⟨_, rfl, h4⟩ := ZaE h3
 obtain ⟨_, h5⟩ := Zad h4
 refine Zao (fn := Tryd.f64) (c := ZCx) hC hΦ Tryd.func64 (by kernel_rfl) (by kernel_rfl) (Zah (Λ := Zac) (by kernel_rfl)) rfl rfl ?_
 refine (ZCc N _ _ _ _).trans ?_
 rw [← ZoC]
 exact h5
def Zy0 (N : Nat) : (R : Type) → List V → S → (V → S → Option R) → Option R := fun _ vs s K =>
 Zcu vs fun v'1 => Za1 v'1 fun w_1 => ZaP s <| ZrG N w_1 (fun b_2 => K (.bool b_2) [])
def Zmq (N : Nat) : Zan := (Zmu N).add 53 (Zy0 N)
def ZtF : Code := ZaG Tryd.f53
def Zn2 : Code := (Zcc ZtF [] 0).2
def ZiM : List Nat := Zdo 51 [0, 3]
def Zqv : List Nat := Zdo 51 [0, 2]
def ZgX (w_1 : ByteArray) (x_2 : Int) : List V := mkF 0 51 [(0, .str w_1), (3, .int .i64 x_2)]
def Ze7 {R : Type} (K : X → List V → S → Option R) (w_1 : ByteArray) : Unit → Option R := (fun _ => K .ret (mkF 0 51 [(0, .str w_1), (2, .bool false)]) [])
def Zfo {R : Type} (K : X → List V → S → Option R) (w_1 : ByteArray) : Unit → Option R := (fun _ => K (.exit 0) (mkF 0 51 [(0, .str w_1)]) [])
abbrev Zjz {R : Type} (N : Nat) : Nat → List V → S → (X → List V → S → Option R) → Option R := fun n => ZgA C (Zmu N) (Zac) Zn2 [0, 1, 0, 1] false ZiM Zqv n R
theorem ZxR {R : Type} (N n : Nat) (w_1 : ByteArray) (x_2 : Int) (K : X → List V → S → Option R) :
 Zjz N (n + 1) (ZgX w_1 x_2) [] K =
 ZcM N w_1 (fun x_2 => Zjz N n (ZgX w_1 x_2) [] K) x_2 (Ze7 K w_1) (Zfo K w_1) := by kernel_rfl
theorem Zus {R : Type} (N : Nat) (w_1 : ByteArray) (K : X → List V → S → Option R) : ∀ (n : Nat) (x_2 : Int),
 Zjz N n (ZgX w_1 x_2) [] K = ZdQ N w_1 (Ze7 K w_1) (Zfo K w_1) n x_2
 | 0, _ => rfl
 | n + 1, x_2 => (ZxR N n w_1 x_2 K).trans (congrArg (fun nx => ZcM N w_1 nx x_2 (Ze7 K w_1) (Zfo K w_1)) (funext fun x_2 => Zus N w_1 K n x_2))
def Zn7 {R : Type} (E : List V) (s : S) (k : ByteArray → Int → Option R) : Option R :=
 Zaj (ZbA 51 [0, 3] E) <| Ze4 E 0 fun w_1 => ZbS E 3 .i64 fun x_2 => ZaP s <| k w_1 x_2
theorem Zl5 {R : Type} {E : List V} {s : S} {k : ByteArray → Int → Option R} {r : R} (h : Zn7 E s k = some r) : ∃ w_1 x_2, E = ZgX w_1 x_2 ∧ s = [] ∧ k w_1 x_2 = some r := by
 unfold Zn7 at h
 obtain ⟨hg, h1⟩ := Zab h
 obtain ⟨_, hu0, h2⟩ := Zbw h1
 obtain ⟨_, hu3, h3⟩ := Zav h2
 obtain ⟨rfl, h4⟩ := Zad h3
 exact ⟨_, _, Zbo hg rfl (Zag hu0 (Zag hu3 Za7)), rfl, h4⟩
def Zmx (N : Nat) : ZaH := (Zac).add [0, 1, 0, 1] fun _ E s K => Zn7 (Zbk ZiM E) s fun w_1 x_2 => ZdQ N w_1 (Ze7 K w_1) (Zfo K w_1) N x_2
theorem Zvy {N : Nat} (hC : Ok Tryd.prog C) (hΦ : Zaa Tryd.prog C (Zmu N)) : ZbH Tryd.prog C (Zmx N) Zn2 [0, 1, 0, 1] :=
 ZbL (Λi := Zac) (tr := false) (ks := ZiM) (kx := Zqv) (N := N) hC hΦ
  (Zah (by kernel_rfl))
  fun R E s K r h => by
   have h2 := ZaH.add_self.symm.trans h
   obtain ⟨_, _, he, rfl, h3⟩ := Zl5 h2
   rw [he]
   exact (Zus N _ _ N _).trans h3
theorem Zz5 : Zbc ZtF [] = [([0, 1, 0, 1], Zn2)] := by kernel_rfl
theorem ZCf {R : Type} (N : Nat) (w_1 : ByteArray) (K : V → S → Option R) : ZaS C (Zmu N) (Zmx N) 53 Tryd.f53 [.str w_1] [] K =
 Zkz N w_1 (fun b_2 => K (.bool b_2) []) := by kernel_rfl
theorem Zui {N : Nat} (hC : Ok Tryd.prog C) (hΦ : Zaa Tryd.prog C (Zmu N)) : Za0 Tryd.prog C (Zmx N) ZtF [] :=
 ZaT ZtF [] (by
  rw [Zz5]
  intro p hp
  simp only [List.mem_cons, List.mem_nil_iff, or_false] at hp
  rcases hp with rfl
  ·exact (Zvy hC hΦ))
theorem ZqU (hC : Ok Tryd.prog C) {N : Nat} (hΦ : Zaa Tryd.prog C (Zmu N)) : Zaa Tryd.prog C (Zmq N) := by
 refine hΦ.add_pure rfl fun R vs K r h => ?_
 unfold Zy0 at h
 obtain ⟨_, rfl, h1⟩ := Zas h
 obtain ⟨_, rfl, h2⟩ := Zam h1
 obtain ⟨_, h3⟩ := Zad h2
 refine Zao (fn := Tryd.f53) (c := ZtF) hC hΦ Tryd.func53 (by kernel_rfl) (by kernel_rfl) (Zui (N := N) hC hΦ) rfl rfl ?_
 refine (ZCf N _ _).trans ?_
 rw [← Zp8]
 exact h3
def ZyY (N : Nat) : (R : Type) → List V → S → (V → S → Option R) → Option R := fun _ vs s K =>
 ZfR vs fun v'1 v'2 => Za1 v'1 fun w_1 => asInt .u8 v'2 fun x_2 => ZaP s <| Zwg N w_1 x_2 (fun e_3 => K (.list 1 e_3 .sh) [])
def Zm1 (N : Nat) : Zan := (Zmq N).add 76 (ZyY N)
def Zty : Code := ZaG Tryd.f76
def ZmQ : Code := (Zcc Zty [] 0).2
def Zje : List Nat := Zdo 34 [0, 1, 5, 6, 7]
def Zqt : List Nat := Zdo 34 [0, 5, 6]
def Zg5 (w_1 : ByteArray) (x_2 : Int) (e_3 : List V) (x_4 x_5 : Int) : List V := mkF 0 34 [(0, .str w_1), (1, .int .u8 x_2), (5, .list 1 e_3 (.own 9)), (6, .int .i64 x_4), (7, .int .i64 x_5)]
def Zfy {R : Type} (K : X → List V → S → Option R) (w_1 : ByteArray) (x_2 : Int) : List V → Int → Option R := (fun e_1' x_2' => K (.exit 0) (mkF 0 34 [(0, .str w_1), (5, .list 1 (e_1') (.own 9)), (6, .int .i64 (x_2'))]) [])
abbrev ZiC {R : Type} (N : Nat) : Nat → List V → S → (X → List V → S → Option R) → Option R := fun n => ZgA C (Zmq N) (Zac) ZmQ [0, 1, 0, 1, 1, 1] false Zje Zqt n R
theorem Zxw {R : Type} (N n : Nat) (w_1 : ByteArray) (x_2 : Int) (e_3 : List V) (x_4 x_5 : Int) (K : X → List V → S → Option R) :
 ZiC N (n + 1) (Zg5 w_1 x_2 e_3 x_4 x_5) [] K =
 ZcS N w_1 x_2 (fun e_3 x_4 x_5 => ZiC N n (Zg5 w_1 x_2 e_3 x_4 x_5) [] K) e_3 x_4 x_5 (Zfy K w_1 x_2) := by kernel_rfl
theorem Zsn {R : Type} (N : Nat) (w_1 : ByteArray) (x_2 : Int) (K : X → List V → S → Option R) : ∀ (n : Nat) (e_3 : List V) (x_4 x_5 : Int),
 ZiC N n (Zg5 w_1 x_2 e_3 x_4 x_5) [] K = ZeH N w_1 x_2 (Zfy K w_1 x_2) n e_3 x_4 x_5
 | 0, _, _, _ => rfl
 | n + 1, e_3, x_4, x_5 => (Zxw N n w_1 x_2 e_3 x_4 x_5 K).trans (congrArg (fun nx => ZcS N w_1 x_2 nx e_3 x_4 x_5 (Zfy K w_1 x_2)) (funext fun e_3 => funext fun x_4 => funext fun x_5 => Zsn N w_1 x_2 K n e_3 x_4 x_5))
def ZmA {R : Type} (E : List V) (s : S) (k : ByteArray → Int → List V → Int → Int → Option R) : Option R :=
 Zaj (ZbA 34 [0, 1, 5, 6, 7] E) <| Ze4 E 0 fun w_1 => ZbS E 1 .u8 fun x_2 => ZbT (nth E 5) fun u5 => Za6 1 u5 fun e_3 f'1 => Zli 9 f'1 <| ZbS E 6 .i64 fun x_4 => ZbS E 7 .i64 fun x_5 => ZaP s <| k w_1 x_2 e_3 x_4 x_5
theorem Zlk {R : Type} {E : List V} {s : S} {k : ByteArray → Int → List V → Int → Int → Option R} {r : R} (h : ZmA E s k = some r) : ∃ w_1 x_2 e_3 x_4 x_5, E = Zg5 w_1 x_2 e_3 x_4 x_5 ∧ s = [] ∧ k w_1 x_2 e_3 x_4 x_5 = some r := by
 unfold ZmA at h
 obtain ⟨hg, h1⟩ := Zab h
 obtain ⟨_, hu0, h2⟩ := Zbw h1
 obtain ⟨_, hu1, h3⟩ := Zav h2
 obtain ⟨_, hu5, h4⟩ := Zae h3
 obtain ⟨_, _, rfl, h5⟩ := Zar h4
 obtain ⟨rfl, h6⟩ := Zc4 h5
 obtain ⟨_, hu6, h7⟩ := Zav h6
 obtain ⟨_, hu7, h8⟩ := Zav h7
 obtain ⟨rfl, h9⟩ := Zad h8
 exact ⟨_, _, _, _, _, Zbo hg rfl (Zag hu0 (Zag hu1 (Zag hu5 (Zag hu6 (Zag hu7 Za7))))), rfl, h9⟩
def ZnY (N : Nat) : ZaH := (Zac).add [0, 1, 0, 1, 1, 1] fun _ E s K => ZmA (Zbk Zje E) s fun w_1 x_2 e_3 x_4 x_5 => ZeH N w_1 x_2 (Zfy K w_1 x_2) N e_3 x_4 x_5
theorem ZwI {N : Nat} (hC : Ok Tryd.prog C) (hΦ : Zaa Tryd.prog C (Zmq N)) : ZbH Tryd.prog C (ZnY N) ZmQ [0, 1, 0, 1, 1, 1] :=
 ZbL (Λi := Zac) (tr := false) (ks := Zje) (kx := Zqt) (N := N) hC hΦ
  (Zah (by kernel_rfl))
  fun R E s K r h => by
   have h2 := ZaH.add_self.symm.trans h
   obtain ⟨_, _, _, _, _, he, rfl, h3⟩ := Zlk h2
   rw [he]
   exact (Zsn N _ _ _ N _ _ _).trans h3
theorem Zzf : Zbc Zty [] = [([0, 1, 0, 1, 1, 1], ZmQ)] := by kernel_rfl
theorem ZA4 {R : Type} (N : Nat) (w_1 : ByteArray) (x_2 : Int) (K : V → S → Option R) : ZaS C (Zmq N) (ZnY N) 76 Tryd.f76 [.str w_1, .int .u8 x_2] [] K =
 ZkB N w_1 x_2 (fun e_3 => K (.list 1 e_3 .sh) []) := by kernel_rfl
theorem Ztu {N : Nat} (hC : Ok Tryd.prog C) (hΦ : Zaa Tryd.prog C (Zmq N)) : Za0 Tryd.prog C (ZnY N) Zty [] :=
 ZaT Zty [] (by
  rw [Zzf]
  intro p hp
  simp only [List.mem_cons, List.mem_nil_iff, or_false] at hp
  rcases hp with rfl
  ·exact (ZwI hC hΦ))
theorem Zsa (hC : Ok Tryd.prog C) {N : Nat} (hΦ : Zaa Tryd.prog C (Zmq N)) : Zaa Tryd.prog C (Zm1 N) := by
 refine hΦ.add_pure rfl fun R vs K r h => ?_
 unfold ZyY at h
 obtain ⟨_, _, rfl, h1⟩ := ZaR h
 obtain ⟨_, rfl, h2⟩ := Zam h1
 obtain ⟨_, rfl, h3⟩ := ZaE h2
 obtain ⟨_, h4⟩ := Zad h3
 refine Zao (fn := Tryd.f76) (c := Zty) hC hΦ Tryd.func76 (by kernel_rfl) (by kernel_rfl) (Ztu (N := N) hC hΦ) rfl rfl ?_
 refine (ZA4 N _ _ _).trans ?_
 rw [← ZoX]
 exact h4
def ZzS (N : Nat) : (R : Type) → List V → S → (V → S → Option R) → Option R := fun _ vs s K =>
 Zcu vs fun v'1 => Za1 v'1 fun w_1 => ZaP s <| ZrS N w_1 (fun e_2 => K (.list 1 e_2 (.own 9)) [])
def ZnO (N : Nat) : Zan := (Zm1 N).add 55 (ZzS N)
def Zt9 : Code := ZaG Tryd.f55
def Znj : Code := (Zcc Zt9 [] 0).2
def ZiN : List Nat := Zdo 21 [3, 7, 8, 9]
def Zp5 : List Nat := Zdo 21 [3]
def ZgV (e_2 : List V) (x_3 : Int) (e_1 : List V) (x_4 : Int) : List V := mkF 0 21 [(3, .list 1 e_1 (.own 9)), (7, .list 1 e_2 .sh), (8, .int .i64 x_3), (9, .int .i64 x_4)]
def ZfL {R : Type} (K : X → List V → S → Option R) (e_2 : List V) (x_3 : Int) : List V → Option R := (fun e_1' => K (.exit 0) (mkF 0 21 [(3, .list 1 (e_1') (.own 9))]) [])
abbrev ZiJ {R : Type} (N : Nat) : Nat → List V → S → (X → List V → S → Option R) → Option R := fun n => ZgA C (Zm1 N) (Zac) Znj [0, 1, 0, 1, 1] false ZiN Zp5 n R
theorem Zyd {R : Type} (N n : Nat) (e_2 : List V) (x_3 : Int) (e_1 : List V) (x_4 : Int) (K : X → List V → S → Option R) :
 ZiJ N (n + 1) (ZgV e_2 x_3 e_1 x_4) [] K =
 ZcR N e_2 x_3 (fun e_1 x_4 => ZiJ N n (ZgV e_2 x_3 e_1 x_4) [] K) e_1 x_4 (ZfL K e_2 x_3) := by kernel_rfl
theorem ZtO {R : Type} (N : Nat) (e_2 : List V) (x_3 : Int) (K : X → List V → S → Option R) : ∀ (n : Nat) (e_1 : List V) (x_4 : Int),
 ZiJ N n (ZgV e_2 x_3 e_1 x_4) [] K = ZeJ N e_2 x_3 (ZfL K e_2 x_3) n e_1 x_4
 | 0, _, _ => rfl
 | n + 1, e_1, x_4 => (Zyd N n e_2 x_3 e_1 x_4 K).trans (congrArg (fun nx => ZcR N e_2 x_3 nx e_1 x_4 (ZfL K e_2 x_3)) (funext fun e_1 => funext fun x_4 => ZtO N e_2 x_3 K n e_1 x_4))
def ZnV {R : Type} (E : List V) (s : S) (k : List V → List V → Int → Int → Option R) : Option R :=
 Zaj (ZbA 21 [3, 7, 8, 9] E) <| ZbT (nth E 3) fun u3 => Za6 1 u3 fun e_1 f'1 => Zli 9 f'1 <| ZbT (nth E 7) fun u7 => Za6 1 u7 fun e_2 f'2 => ZAD f'2 <| ZbS E 8 .i64 fun x_3 => ZbS E 9 .i64 fun x_4 => ZaP s <| k e_1 e_2 x_3 x_4
theorem Zma {R : Type} {E : List V} {s : S} {k : List V → List V → Int → Int → Option R} {r : R} (h : ZnV E s k = some r) : ∃ e_1 e_2 x_3 x_4, E = ZgV e_2 x_3 e_1 x_4 ∧ s = [] ∧ k e_1 e_2 x_3 x_4 = some r := by
 unfold ZnV at h
 obtain ⟨hg, h1⟩ := Zab h
 obtain ⟨_, hu3, h2⟩ := Zae h1
 obtain ⟨_, _, rfl, h3⟩ := Zar h2
 obtain ⟨rfl, h4⟩ := Zc4 h3
 obtain ⟨_, hu7, h5⟩ := Zae h4
 obtain ⟨_, _, rfl, h6⟩ := Zar h5
 obtain ⟨rfl, h7⟩ := Zla h6
 obtain ⟨_, hu8, h8⟩ := Zav h7
 obtain ⟨_, hu9, h9⟩ := Zav h8
 obtain ⟨rfl, h10⟩ := Zad h9
 exact ⟨_, _, _, _, Zbo hg rfl (Zag hu3 (Zag hu7 (Zag hu8 (Zag hu9 Za7)))), rfl, h10⟩
def ZnS (N : Nat) : ZaH := (Zac).add [0, 1, 0, 1, 1] fun _ E s K => ZnV (Zbk ZiN E) s fun e_1 e_2 x_3 x_4 => ZeJ N e_2 x_3 (ZfL K e_2 x_3) N e_1 x_4
theorem Zwp {N : Nat} (hC : Ok Tryd.prog C) (hΦ : Zaa Tryd.prog C (Zm1 N)) : ZbH Tryd.prog C (ZnS N) Znj [0, 1, 0, 1, 1] :=
 ZbL (Λi := Zac) (tr := false) (ks := ZiN) (kx := Zp5) (N := N) hC hΦ
  (Zah (by kernel_rfl))
  fun R E s K r h => by
   have h2 := ZaH.add_self.symm.trans h
   obtain ⟨_, _, _, _, he, rfl, h3⟩ := Zma h2
   rw [he]
   exact (ZtO N _ _ _ N _ _).trans h3
theorem ZAy : Zbc Zt9 [] = [([0, 1, 0, 1, 1], Znj)] := by kernel_rfl
theorem ZAX {R : Type} (N : Nat) (w_1 : ByteArray) (K : V → S → Option R) : ZaS C (Zm1 N) (ZnS N) 55 Tryd.f55 [.str w_1] [] K =
 ZkJ N w_1 (fun e_2 => K (.list 1 e_2 (.own 9)) []) := by kernel_rfl
theorem Zti {N : Nat} (hC : Ok Tryd.prog C) (hΦ : Zaa Tryd.prog C (Zm1 N)) : Za0 Tryd.prog C (ZnS N) Zt9 [] :=
 ZaT Zt9 [] (by
  rw [ZAy]
  intro p hp
  simp only [List.mem_cons, List.mem_nil_iff, or_false] at hp
  rcases hp with rfl
  ·exact (Zwp hC hΦ))
theorem ZrQ (hC : Ok Tryd.prog C) {N : Nat} (hΦ : Zaa Tryd.prog C (Zm1 N)) : Zaa Tryd.prog C (ZnO N) := by
 refine hΦ.add_own rfl fun R vs K r h => ?_
 unfold ZzS at h
 obtain ⟨_, rfl, h1⟩ := Zas h
 obtain ⟨_, rfl, h2⟩ := Zam h1
 obtain ⟨_, h3⟩ := Zad h2
 refine Zvi (fn := Tryd.f55) (c := Zt9) hC hΦ Tryd.func55 (by kernel_rfl) (by kernel_rfl) (Zti (N := N) hC hΦ) rfl rfl ?_
 refine (ZAX N _ _).trans ?_
 rw [← ZoG]
 exact h3
def ZyT (N : Nat) : (R : Type) → List V → S → (V → S → Option R) → Option R := fun _ vs s K =>
 Zcu vs fun v'1 => Za1 v'1 fun w_1 => ZaP s <| ZjL N w_1 (fun b_2 => K (.bool b_2) [])
def ZmH (N : Nat) : Zan := (ZnO N).add 36 (ZyT N)
def Zs8 : Code := ZaG Tryd.f36
def Znq : Code := (Zcc Zs8 [] 0).2
def ZiE : List Nat := Zdo 27 [0, 6, 7, 8]
def Zpj : List Nat := Zdo 27 [0, 2]
def Zg6 (w_1 : ByteArray) (e_2 : List V) (x_3 x_4 : Int) : List V := mkF 0 27 [(0, .str w_1), (6, .list 1 e_2 (.own 9)), (7, .int .i64 x_3), (8, .int .i64 x_4)]
def ZfG {R : Type} (K : X → List V → S → Option R) (w_1 : ByteArray) (e_2 : List V) (x_3 : Int) : Unit → Option R := (fun _ => K .ret (mkF 0 27 [(0, .str w_1), (2, .bool false)]) [])
def Ze9 {R : Type} (K : X → List V → S → Option R) (w_1 : ByteArray) (e_2 : List V) (x_3 : Int) : Unit → Option R := (fun _ => K (.exit 0) (mkF 0 27 [(0, .str w_1)]) [])
abbrev Zjx {R : Type} (N : Nat) : Nat → List V → S → (X → List V → S → Option R) → Option R := fun n => ZgA C (ZnO N) (Zac) Znq [0, 1, 0, 1] false ZiE Zpj n R
theorem ZxJ {R : Type} (N n : Nat) (w_1 : ByteArray) (e_2 : List V) (x_3 : Int) (x_4 : Int) (K : X → List V → S → Option R) :
 Zjx N (n + 1) (Zg6 w_1 e_2 x_3 x_4) [] K =
 ZcP N w_1 e_2 x_3 (fun x_4 => Zjx N n (Zg6 w_1 e_2 x_3 x_4) [] K) x_4 (ZfG K w_1 e_2 x_3) (Ze9 K w_1 e_2 x_3) := by kernel_rfl
theorem Zsp {R : Type} (N : Nat) (w_1 : ByteArray) (e_2 : List V) (x_3 : Int) (K : X → List V → S → Option R) : ∀ (n : Nat) (x_4 : Int),
 Zjx N n (Zg6 w_1 e_2 x_3 x_4) [] K = ZeO N w_1 e_2 x_3 (ZfG K w_1 e_2 x_3) (Ze9 K w_1 e_2 x_3) n x_4
 | 0, _ => rfl
 | n + 1, x_4 => (ZxJ N n w_1 e_2 x_3 x_4 K).trans (congrArg (fun nx => ZcP N w_1 e_2 x_3 nx x_4 (ZfG K w_1 e_2 x_3) (Ze9 K w_1 e_2 x_3)) (funext fun x_4 => Zsp N w_1 e_2 x_3 K n x_4))
def Znm {R : Type} (E : List V) (s : S) (k : ByteArray → List V → Int → Int → Option R) : Option R :=
 Zaj (ZbA 27 [0, 6, 7, 8] E) <| Ze4 E 0 fun w_1 => ZbT (nth E 6) fun u6 => Za6 1 u6 fun e_2 f'1 => Zli 9 f'1 <| ZbS E 7 .i64 fun x_3 => ZbS E 8 .i64 fun x_4 => ZaP s <| k w_1 e_2 x_3 x_4
theorem Zj9 {R : Type} {E : List V} {s : S} {k : ByteArray → List V → Int → Int → Option R} {r : R} (h : Znm E s k = some r) : ∃ w_1 e_2 x_3 x_4, E = Zg6 w_1 e_2 x_3 x_4 ∧ s = [] ∧ k w_1 e_2 x_3 x_4 = some r := by
 unfold Znm at h
 obtain ⟨hg, h1⟩ := Zab h
 obtain ⟨_, hu0, h2⟩ := Zbw h1
 obtain ⟨_, hu6, h3⟩ := Zae h2
 obtain ⟨_, _, rfl, h4⟩ := Zar h3
 obtain ⟨rfl, h5⟩ := Zc4 h4
 obtain ⟨_, hu7, h6⟩ := Zav h5
 obtain ⟨_, hu8, h7⟩ := Zav h6
 obtain ⟨rfl, h8⟩ := Zad h7
 exact ⟨_, _, _, _, Zbo hg rfl (Zag hu0 (Zag hu6 (Zag hu7 (Zag hu8 Za7)))), rfl, h8⟩
def Zob (N : Nat) : ZaH := (Zac).add [0, 1, 0, 1] fun _ E s K => Znm (Zbk ZiE E) s fun w_1 e_2 x_3 x_4 => ZeO N w_1 e_2 x_3 (ZfG K w_1 e_2 x_3) (Ze9 K w_1 e_2 x_3) N x_4
theorem ZvB {N : Nat} (hC : Ok Tryd.prog C) (hΦ : Zaa Tryd.prog C (ZnO N)) : ZbH Tryd.prog C (Zob N) Znq [0, 1, 0, 1] :=
 ZbL (Λi := Zac) (tr := false) (ks := ZiE) (kx := Zpj) (N := N) hC hΦ
  (Zah (by kernel_rfl))
  fun R E s K r h => by
   have h2 := ZaH.add_self.symm.trans h
   obtain ⟨_, _, _, _, he, rfl, h3⟩ := Zj9 h2
   rw [he]
   exact (Zsp N _ _ _ _ N _).trans h3
theorem ZyR : Zbc Zs8 [] = [([0, 1, 0, 1], Znq)] := by kernel_rfl
theorem ZCl {R : Type} (N : Nat) (w_1 : ByteArray) (K : V → S → Option R) : ZaS C (ZnO N) (Zob N) 36 Tryd.f36 [.str w_1] [] K =
 ZkK N w_1 (fun b_2 => K (.bool b_2) []) := by kernel_rfl
theorem ZtW {N : Nat} (hC : Ok Tryd.prog C) (hΦ : Zaa Tryd.prog C (ZnO N)) : Za0 Tryd.prog C (Zob N) Zs8 [] :=
 ZaT Zs8 [] (by
  rw [ZyR]
  intro p hp
  simp only [List.mem_cons, List.mem_nil_iff, or_false] at hp
  rcases hp with rfl
  ·exact (ZvB hC hΦ))
theorem ZqO (hC : Ok Tryd.prog C) {N : Nat} (hΦ : Zaa Tryd.prog C (ZnO N)) : Zaa Tryd.prog C (ZmH N) := by
 refine hΦ.add_pure rfl fun R vs K r h => ?_
 unfold ZyT at h
 obtain ⟨_, rfl, h1⟩ := Zas h
 obtain ⟨_, rfl, h2⟩ := Zam h1
 obtain ⟨_, h3⟩ := Zad h2
 refine Zao (fn := Tryd.f36) (c := Zs8) hC hΦ Tryd.func36 (by kernel_rfl) (by kernel_rfl) (ZtW (N := N) hC hΦ) rfl rfl ?_
 refine (ZCl N _ _).trans ?_
 rw [← ZpF]
 exact h3
def ZyQ (N : Nat) : (R : Type) → List V → S → (V → S → Option R) → Option R := fun _ vs s K =>
 Zcu vs fun v'1 => Za6 1 v'1 fun e_1 f_2 => ZaP s <| ZhU N e_1 f_2 (fun w_3 => K (.str w_3) [])
def Zog (N : Nat) : Zan := (ZmH N).add 54 (ZyQ N)
def ZtV : Code := ZaG Tryd.f54
def Znz : Code := (Zcc ZtV [] 0).2
def Zi1 : List Nat := Zdo 21 [3, 9, 10, 11]
def Zo1 : List Nat := Zdo 21 [3]
def ZgU (e_2 : List V) (f_3 : Fl) (x_4 : Int) (w_1 : ByteArray) (x_5 : Int) : List V := mkF 0 21 [(3, .str w_1), (9, .list 1 e_2 f_3), (10, .int .i64 x_4), (11, .int .i64 x_5)]
def ZfC {R : Type} (K : X → List V → S → Option R) (e_2 : List V) (f_3 : Fl) (x_4 : Int) : ByteArray → Option R := (fun w_1' => K (.exit 0) (mkF 0 21 [(3, .str (w_1'))]) [])
abbrev ZjE {R : Type} (N : Nat) : Nat → List V → S → (X → List V → S → Option R) → Option R := fun n => ZgA C (ZmH N) (Zac) Znz [0, 1, 0, 1, 1, 1] false Zi1 Zo1 n R
theorem Zxs {R : Type} (N n : Nat) (e_2 : List V) (f_3 : Fl) (x_4 : Int) (w_1 : ByteArray) (x_5 : Int) (K : X → List V → S → Option R) :
 ZjE N (n + 1) (ZgU e_2 f_3 x_4 w_1 x_5) [] K =
 ZcI N e_2 f_3 x_4 (fun w_1 x_5 => ZjE N n (ZgU e_2 f_3 x_4 w_1 x_5) [] K) w_1 x_5 (ZfC K e_2 f_3 x_4) := by kernel_rfl
theorem Ztt {R : Type} (N : Nat) (e_2 : List V) (f_3 : Fl) (x_4 : Int) (K : X → List V → S → Option R) : ∀ (n : Nat) (w_1 : ByteArray) (x_5 : Int),
 ZjE N n (ZgU e_2 f_3 x_4 w_1 x_5) [] K = ZeV N e_2 f_3 x_4 (ZfC K e_2 f_3 x_4) n w_1 x_5
 | 0, _, _ => rfl
 | n + 1, w_1, x_5 => (Zxs N n e_2 f_3 x_4 w_1 x_5 K).trans (congrArg (fun nx => ZcI N e_2 f_3 x_4 nx w_1 x_5 (ZfC K e_2 f_3 x_4)) (funext fun w_1 => funext fun x_5 => Ztt N e_2 f_3 x_4 K n w_1 x_5))
def Zmo {R : Type} (E : List V) (s : S) (k : ByteArray → List V → Fl → Int → Int → Option R) : Option R :=
 Zaj (ZbA 21 [3, 9, 10, 11] E) <| Ze4 E 3 fun w_1 => Zeu E 9 1 fun e_2 f_3 => ZbS E 10 .i64 fun x_4 => ZbS E 11 .i64 fun x_5 => ZaP s <| k w_1 e_2 f_3 x_4 x_5
theorem Zmi {R : Type} {E : List V} {s : S} {k : ByteArray → List V → Fl → Int → Int → Option R} {r : R} (h : Zmo E s k = some r) : ∃ w_1 e_2 f_3 x_4 x_5, E = ZgU e_2 f_3 x_4 w_1 x_5 ∧ s = [] ∧ k w_1 e_2 f_3 x_4 x_5 = some r := by
 unfold Zmo at h
 obtain ⟨hg, h1⟩ := Zab h
 obtain ⟨_, hu3, h2⟩ := Zbw h1
 obtain ⟨_, _, hu9, h3⟩ := ZbR h2
 obtain ⟨_, hu10, h4⟩ := Zav h3
 obtain ⟨_, hu11, h5⟩ := Zav h4
 obtain ⟨rfl, h6⟩ := Zad h5
 exact ⟨_, _, _, _, _, Zbo hg rfl (Zag hu3 (Zag hu9 (Zag hu10 (Zag hu11 Za7)))), rfl, h6⟩
def Zn5 (N : Nat) : ZaH := (Zac).add [0, 1, 0, 1, 1, 1] fun _ E s K => Zmo (Zbk Zi1 E) s fun w_1 e_2 f_3 x_4 x_5 => ZeV N e_2 f_3 x_4 (ZfC K e_2 f_3 x_4) N w_1 x_5
theorem Zv7 {N : Nat} (hC : Ok Tryd.prog C) (hΦ : Zaa Tryd.prog C (ZmH N)) : ZbH Tryd.prog C (Zn5 N) Znz [0, 1, 0, 1, 1, 1] :=
 ZbL (Λi := Zac) (tr := false) (ks := Zi1) (kx := Zo1) (N := N) hC hΦ
  (Zah (by kernel_rfl))
  fun R E s K r h => by
   have h2 := ZaH.add_self.symm.trans h
   obtain ⟨_, _, _, _, _, he, rfl, h3⟩ := Zmi h2
   rw [he]
   exact (Ztt N _ _ _ _ N _ _).trans h3
theorem ZyV : Zbc ZtV [] = [([0, 1, 0, 1, 1, 1], Znz)] := by kernel_rfl
theorem ZBU {R : Type} (N : Nat) (e_1 : List V) (f_2 : Fl) (K : V → S → Option R) : ZaS C (ZmH N) (Zn5 N) 54 Tryd.f54 [.list 1 e_1 f_2] [] K =
 ZkS N e_1 f_2 (fun w_3 => K (.str w_3) []) := by kernel_rfl
theorem ZtC {N : Nat} (hC : Ok Tryd.prog C) (hΦ : Zaa Tryd.prog C (ZmH N)) : Za0 Tryd.prog C (Zn5 N) ZtV [] :=
 ZaT ZtV [] (by
  rw [ZyV]
  intro p hp
  simp only [List.mem_cons, List.mem_nil_iff, or_false] at hp
  rcases hp with rfl
  ·exact (Zv7 hC hΦ))
theorem Zsi (hC : Ok Tryd.prog C) {N : Nat} (hΦ : Zaa Tryd.prog C (ZmH N)) : Zaa Tryd.prog C (Zog N) := by
 refine hΦ.add_pure rfl fun R vs K r h => ?_
 unfold ZyQ at h
 obtain ⟨_, rfl, h1⟩ := Zas h
 obtain ⟨_, _, rfl, h2⟩ := Zar h1
 obtain ⟨_, h3⟩ := Zad h2
 refine Zao (fn := Tryd.f54) (c := ZtV) hC hΦ Tryd.func54 (by kernel_rfl) (by kernel_rfl) (ZtC (N := N) hC hΦ) rfl rfl ?_
 refine (ZBU N _ _ _).trans ?_
 rw [← Zpe]
 exact h3
def ZyH (N : Nat) : (R : Type) → List V → S → (V → S → Option R) → Option R := fun _ vs s K =>
 Zcu vs fun v'1 => Za1 v'1 fun w_1 => ZaP s <| ZrH N w_1 (fun e_2 => K (.list 1 e_2 .sh) [])
def Zwo (N : Nat) : Zan := (Zog N).add 61 (ZyH N)
def Zts : Code := ZaG Tryd.f61
def Zna : Code := (Zcc Zts [] 0).2
def ZjQ : List Nat := Zdo 52 [0, 3, 8, 9, 10]
def Zoz : List Nat := Zdo 52 [3]
def ZgC (w_1 : ByteArray) (e_2 : List V) (x_3 : Int) (k_5 k_6 : Nat) (x_4 : Int) (O_9 : Ob) : List V := mkF 0 52 [(0, .str w_1), (3, .arr 1 k_5 0 k_6), (8, .list 1 e_2 (.own 9)), (9, .int .i64 x_3), (10, .int .i64 x_4)]
def ZfK {R : Type} (K : X → List V → S → Option R) (w_1 : ByteArray) (e_2 : List V) (x_3 : Int) : Nat → Nat → Ob → Option R := (fun k_1' k_2' O_3' => K (.exit 0) (mkF 0 52 [(3, .arr 1 (k_1') 0 (k_2'))]) [some ⟨[], 1, 9, 0⟩, some (O_3')])
abbrev Zjg {R : Type} (N : Nat) : Nat → List V → S → (X → List V → S → Option R) → Option R := fun n => ZgA C.objs (Zog N) (Zac) Zna [0, 1, 0, 1, 1] false ZjQ Zoz n R
theorem ZxY {R : Type} (N n : Nat) (w_1 : ByteArray) (e_2 : List V) (x_3 : Int) (k_5 k_6 : Nat) (x_4 : Int) (O_9 : Ob) (K : X → List V → S → Option R) :
 Zjg N (n + 1) (ZgC w_1 e_2 x_3 k_5 k_6 x_4 O_9) [some ⟨[], 1, 9, 0⟩, some O_9] K =
 Zcj N w_1 e_2 x_3 (fun k_5 k_6 x_4 O_9 => Zjg N n (ZgC w_1 e_2 x_3 k_5 k_6 x_4 O_9) [some ⟨[], 1, 9, 0⟩, some O_9] K) k_5 k_6 x_4 O_9 (ZfK K w_1 e_2 x_3) := by kernel_rfl
theorem Zuq {R : Type} (N : Nat) (w_1 : ByteArray) (e_2 : List V) (x_3 : Int) (K : X → List V → S → Option R) : ∀ (n : Nat) (k_5 k_6 : Nat) (x_4 : Int) (O_9 : Ob),
 Zjg N n (ZgC w_1 e_2 x_3 k_5 k_6 x_4 O_9) [some ⟨[], 1, 9, 0⟩, some O_9] K = ZdT N w_1 e_2 x_3 (ZfK K w_1 e_2 x_3) n k_5 k_6 x_4 O_9
 | 0, _, _, _, _ => rfl
 | n + 1, k_5, k_6, x_4, O_9 => (ZxY N n w_1 e_2 x_3 k_5 k_6 x_4 O_9 K).trans (congrArg (fun nx => Zcj N w_1 e_2 x_3 nx k_5 k_6 x_4 O_9 (ZfK K w_1 e_2 x_3)) (funext fun k_5 => funext fun k_6 => funext fun x_4 => funext fun O_9 => Zuq N w_1 e_2 x_3 K n k_5 k_6 x_4 O_9))
def Zn8 {R : Type} (E : List V) (s : S) (k : ByteArray → Nat → Nat → List V → Int → Int → Ob → Option R) : Option R :=
 Zaj (ZbA 52 [0, 3, 8, 9, 10] E) <| Ze4 E 0 fun w_1 => ZbT (nth E 3) fun u3 => Zop u3 fun k'1 k_5 k'2 k_6 => isN k'1 1 <| isN k'2 0 <| ZbT (nth E 8) fun u8 => Za6 1 u8 fun e_2 f'3 => Zli 9 f'3 <| ZbS E 9 .i64 fun x_3 => ZbS E 10 .i64 fun x_4 => ZuJ s fun o'4 s'5 => Zkn o'4 1 9 fun e'6 k'7 => isN k'7 0 <| Zmn e'6 <| ZuJ s'5 fun O_9 s'8 => ZaP s'8 <| k w_1 k_5 k_6 e_2 x_3 x_4 O_9
theorem Zkt {R : Type} {E : List V} {s : S} {k : ByteArray → Nat → Nat → List V → Int → Int → Ob → Option R} {r : R} (h : Zn8 E s k = some r) : ∃ w_1 k_5 k_6 e_2 x_3 x_4 O_9, E = ZgC w_1 e_2 x_3 k_5 k_6 x_4 O_9 ∧ s = [some ⟨[], 1, 9, 0⟩, some O_9] ∧ k w_1 k_5 k_6 e_2 x_3 x_4 O_9 = some r := by
 unfold Zn8 at h
 obtain ⟨hg, h1⟩ := Zab h
 obtain ⟨_, hu0, h2⟩ := Zbw h1
 obtain ⟨_, hu3, h3⟩ := Zae h2
 obtain ⟨_, _, _, _, rfl, h4⟩ := Zdt h3
 obtain ⟨rfl, h5⟩ := Zaw h4
 obtain ⟨rfl, h6⟩ := Zaw h5
 obtain ⟨_, hu8, h7⟩ := Zae h6
 obtain ⟨_, _, rfl, h8⟩ := Zar h7
 obtain ⟨rfl, h9⟩ := Zc4 h8
 obtain ⟨_, hu9, h10⟩ := Zav h9
 obtain ⟨_, hu10, h11⟩ := Zav h10
 obtain ⟨_, _, rfl, h12⟩ := Zcr h11
 obtain ⟨_, _, rfl, h13⟩ := ZbB h12
 obtain ⟨rfl, h14⟩ := Zaw h13
 obtain ⟨rfl, h15⟩ := ZbI h14
 obtain ⟨_, _, rfl, h16⟩ := Zcr h15
 obtain ⟨rfl, h17⟩ := Zad h16
 exact ⟨_, _, _, _, _, _, _, Zbo hg rfl (Zag hu0 (Zag hu3 (Zag hu8 (Zag hu9 (Zag hu10 Za7))))), rfl, h17⟩
def Zoe (N : Nat) : ZaH := (Zac).add [0, 1, 0, 1, 1] fun _ E s K => Zn8 (Zbk ZjQ E) s fun w_1 k_5 k_6 e_2 x_3 x_4 O_9 => ZdT N w_1 e_2 x_3 (ZfK K w_1 e_2 x_3) N k_5 k_6 x_4 O_9
theorem Zww {N : Nat} (hC : Ok Tryd.prog C) (hΦ : Zaa Tryd.prog C (Zog N)) : ZbH Tryd.prog C.objs (Zoe N) Zna [0, 1, 0, 1, 1] :=
 ZbL (Λi := Zac) (tr := false) (ks := ZjQ) (kx := Zoz) (N := N) hC.objs hΦ.objs
  (Zah (by kernel_rfl))
  fun R E s K r h => by
   have h2 := ZaH.add_self.symm.trans h
   obtain ⟨_, _, _, _, _, _, _, he, rfl, h3⟩ := Zkt h2
   rw [he]
   exact (Zuq N _ _ _ _ N _ _ _ _).trans h3
theorem Zy9 : Zbc Zts [] = [([0, 1, 0, 1, 1], Zna)] := by kernel_rfl
theorem ZAO {R : Type} (N : Nat) (w_1 : ByteArray) (K : V → S → Option R) : ZaS C.objs (Zog N) (Zoe N) 61 Tryd.f61 [.str w_1] [] K =
 Zk1 N w_1 (fun e_2 => K (.list 1 e_2 .sh) []) := by kernel_rfl
theorem Zt4 {N : Nat} (hC : Ok Tryd.prog C) (hΦ : Zaa Tryd.prog C (Zog N)) : Za0 Tryd.prog C.objs (Zoe N) Zts [] :=
 ZaT Zts [] (by
  rw [Zy9]
  intro p hp
  simp only [List.mem_cons, List.mem_nil_iff, or_false] at hp
  rcases hp with rfl
  ·exact (Zww hC hΦ))
theorem Zrl (hC : Ok Tryd.prog C) {N : Nat} (hΦ : Zaa Tryd.prog C (Zog N)) : Zaa Tryd.prog C (Zwo N) := by
 refine hΦ.add_pure rfl fun R vs K r h => ?_
 unfold ZyH at h
 obtain ⟨_, rfl, h1⟩ := Zas h
 obtain ⟨_, rfl, h2⟩ := Zam h1
 obtain ⟨_, h3⟩ := Zad h2
 refine Zao (fn := Tryd.f61) (c := Zts) hC.objs hΦ.objs Tryd.func61 (by kernel_rfl) (by kernel_rfl) (Zt4 (N := N) hC hΦ) rfl rfl ?_
 refine (ZAO N _ _).trans ?_
 rw [← ZoW]
 exact h3
def ZAl (N : Nat) : (R : Type) → List V → S → (V → S → Option R) → Option R := fun _ vs s K =>
 Zcu vs fun v'1 => Za1 v'1 fun w_1 => ZaP s <| Zxc N w_1 (fun w_2 => K (.str w_2) [])
def ZvC (N : Nat) : Zan := (Zwo N).add 37 (ZAl N)
def ZBy : Code := ZaG Tryd.f37
theorem ZCY {R : Type} (N : Nat) (w_1 : ByteArray) (K : V → S → Option R) : ZaS C (Zwo N) (Zac) 37 Tryd.f37 [.str w_1] [] K =
 Zke N w_1 (fun w_2 => K (.str w_2) []) := by kernel_rfl
theorem Zrm (hC : Ok Tryd.prog C) {N : Nat} (hΦ : Zaa Tryd.prog C (Zwo N)) : Zaa Tryd.prog C (ZvC N) := by
 refine hΦ.add_pure rfl fun R vs K r h => ?_
 unfold ZAl at h
 obtain ⟨_, rfl, h1⟩ := Zas h
 obtain ⟨_, rfl, h2⟩ := Zam h1
 obtain ⟨_, h3⟩ := Zad h2
 refine Zao (fn := Tryd.f37) (c := ZBy) hC hΦ Tryd.func37 (by kernel_rfl) (by kernel_rfl) (Zah (Λ := Zac) (by kernel_rfl)) rfl rfl ?_
 refine (ZCY N _ _).trans ?_
 rw [← ZoQ]
 exact h3
def Zzt (N : Nat) : (R : Type) → List V → S → (V → S → Option R) → Option R := fun _ vs s K =>
 Zcu vs fun v'1 => Za1 v'1 fun w_1 => ZaP s <| Zvb N w_1 (fun w_2 b_3 => K (.tuple [.str w_2, .bool b_3]) [])
def Zwl (N : Nat) : Zan := (ZvC N).add 8 (Zzt N)
def ZCm : Code := ZaG Tryd.f8
theorem ZBv {R : Type} (N : Nat) (w_1 : ByteArray) (K : V → S → Option R) : ZaS C (ZvC N) (Zac) 8 Tryd.f8 [.str w_1] [] K =
 Zmh N w_1 (fun w_2 b_3 => K (.tuple [.str w_2, .bool b_3]) []) := by kernel_rfl
theorem ZqT (hC : Ok Tryd.prog C) {N : Nat} (hΦ : Zaa Tryd.prog C (ZvC N)) : Zaa Tryd.prog C (Zwl N) := by
 refine hΦ.add_pure rfl fun R vs K r h => ?_
 unfold Zzt at h
 obtain ⟨_, rfl, h1⟩ := Zas h
 obtain ⟨_, rfl, h2⟩ := Zam h1
 obtain ⟨_, h3⟩ := Zad h2
 refine Zao (fn := Tryd.f8) (c := ZCm) hC hΦ Tryd.func8 (by kernel_rfl) (by kernel_rfl) (Zah (Λ := Zac) (by kernel_rfl)) rfl rfl ?_
 refine (ZBv N _ _).trans ?_
 rw [← Zox]
 exact h3
def Zzw (N : Nat) : (R : Type) → List V → S → (V → S → Option R) → Option R := fun _ vs s K =>
 Zcu vs fun v'1 => Za1 v'1 fun w_1 => ZaP s <| Zyt N w_1 (fun b_2 => K (.bool b_2) [])
def Zvz (N : Nat) : Zan := (Zwl N).add 48 (Zzw N)
def ZBl : Code := ZaG Tryd.f48
theorem ZCE {R : Type} (N : Nat) (w_1 : ByteArray) (K : V → S → Option R) : ZaS C (Zwl N) (Zac) 48 Tryd.f48 [.str w_1] [] K =
 ZlU N w_1 (fun b_2 => K (.bool b_2) []) := by kernel_rfl
theorem Zrd (hC : Ok Tryd.prog C) {N : Nat} (hΦ : Zaa Tryd.prog C (Zwl N)) : Zaa Tryd.prog C (Zvz N) := by
 refine hΦ.add_pure rfl fun R vs K r h => ?_
 unfold Zzw at h
 obtain ⟨_, rfl, h1⟩ := Zas h
 obtain ⟨_, rfl, h2⟩ := Zam h1
 obtain ⟨_, h3⟩ := Zad h2
 refine Zao (fn := Tryd.f48) (c := ZBl) hC hΦ Tryd.func48 (by kernel_rfl) (by kernel_rfl) (Zah (Λ := Zac) (by kernel_rfl)) rfl rfl ?_
 refine (ZCE N _ _).trans ?_
 rw [← ZpM]
 exact h3
def ZAh (N : Nat) : (R : Type) → List V → S → (V → S → Option R) → Option R := fun _ vs s K =>
 Zcu vs fun v'1 => Za1 v'1 fun w_1 => ZaP s <| Zht N w_1 (fun b_2 => K (.bool b_2) [])
def ZmM (N : Nat) : Zan := (Zvz N).add 18 (ZAh N)
def ZA3 : Code := ZaG Tryd.f18
theorem ZCN {R : Type} (N : Nat) (w_1 : ByteArray) (K : V → S → Option R) : ZaS C (Zvz N) (Zac) 18 Tryd.f18 [.str w_1] [] K =
 Zk5 N w_1 (fun b_2 => K (.bool b_2) []) := by kernel_rfl
theorem Zq1 (hC : Ok Tryd.prog C) {N : Nat} (hΦ : Zaa Tryd.prog C (Zvz N)) : Zaa Tryd.prog C (ZmM N) := by
 refine hΦ.add_pure rfl fun R vs K r h => ?_
 unfold ZAh at h
 obtain ⟨_, rfl, h1⟩ := Zas h
 obtain ⟨_, rfl, h2⟩ := Zam h1
 obtain ⟨_, h3⟩ := Zad h2
 refine Zao (fn := Tryd.f18) (c := ZA3) hC hΦ Tryd.func18 (by kernel_rfl) (by kernel_rfl) (Zah (Λ := Zac) (by kernel_rfl)) rfl rfl ?_
 refine (ZCN N _ _).trans ?_
 rw [← Zqw]
 exact h3
def ZzN (N : Nat) : (R : Type) → List V → S → (V → S → Option R) → Option R := fun _ vs s K =>
 ZfR vs fun v'1 v'2 => Za1 v'1 fun w_1 => asInt .u8 v'2 fun x_2 => ZaP s <| Zyl N w_1 x_2 (fun x_3 => K (.int .i64 x_3) [])
def Zv8 (N : Nat) : Zan := (ZmM N).add 82 (ZzN N)
def ZtI : Code := ZaG Tryd.f82
def Zno : Code := (Zcc ZtI [] 0).2
def ZjT : List Nat := Zdo 19 [0, 1, 5]
def Zqg : List Nat := Zdo 19 [4]
def ZgB (w_1 : ByteArray) (x_2 x_3 : Int) : List V := mkF 0 19 [(0, .str w_1), (1, .int .u8 x_2), (5, .int .i64 x_3)]
def Zfr {R : Type} (K : X → List V → S → Option R) (w_1 : ByteArray) (x_2 : Int) : Int → Option R := (fun x_1' => K .ret (mkF 0 19 [(4, .int .i64 (x_1'))]) [])
def ZfO {R : Type} (K : X → List V → S → Option R) (w_1 : ByteArray) (x_2 : Int) : Unit → Option R := (fun _ => K (.exit 0) (mkF 0 19 []) [])
abbrev ZjP {R : Type} (N : Nat) : Nat → List V → S → (X → List V → S → Option R) → Option R := fun n => ZgA C (ZmM N) (Zac) Zno [0, 1, 0, 1] false ZjT Zqg n R
theorem Zx0 {R : Type} (N n : Nat) (w_1 : ByteArray) (x_2 : Int) (x_3 : Int) (K : X → List V → S → Option R) :
 ZjP N (n + 1) (ZgB w_1 x_2 x_3) [] K =
 ZcF N w_1 x_2 (fun x_3 => ZjP N n (ZgB w_1 x_2 x_3) [] K) x_3 (Zfr K w_1 x_2) (ZfO K w_1 x_2) := by kernel_rfl
theorem Ztl {R : Type} (N : Nat) (w_1 : ByteArray) (x_2 : Int) (K : X → List V → S → Option R) : ∀ (n : Nat) (x_3 : Int),
 ZjP N n (ZgB w_1 x_2 x_3) [] K = ZeN N w_1 x_2 (Zfr K w_1 x_2) (ZfO K w_1 x_2) n x_3
 | 0, _ => rfl
 | n + 1, x_3 => (Zx0 N n w_1 x_2 x_3 K).trans (congrArg (fun nx => ZcF N w_1 x_2 nx x_3 (Zfr K w_1 x_2) (ZfO K w_1 x_2)) (funext fun x_3 => Ztl N w_1 x_2 K n x_3))
def ZmX {R : Type} (E : List V) (s : S) (k : ByteArray → Int → Int → Option R) : Option R :=
 Zaj (ZbA 19 [0, 1, 5] E) <| Ze4 E 0 fun w_1 => ZbS E 1 .u8 fun x_2 => ZbS E 5 .i64 fun x_3 => ZaP s <| k w_1 x_2 x_3
theorem Zko {R : Type} {E : List V} {s : S} {k : ByteArray → Int → Int → Option R} {r : R} (h : ZmX E s k = some r) : ∃ w_1 x_2 x_3, E = ZgB w_1 x_2 x_3 ∧ s = [] ∧ k w_1 x_2 x_3 = some r := by
 unfold ZmX at h
 obtain ⟨hg, h1⟩ := Zab h
 obtain ⟨_, hu0, h2⟩ := Zbw h1
 obtain ⟨_, hu1, h3⟩ := Zav h2
 obtain ⟨_, hu5, h4⟩ := Zav h3
 obtain ⟨rfl, h5⟩ := Zad h4
 exact ⟨_, _, _, Zbo hg rfl (Zag hu0 (Zag hu1 (Zag hu5 Za7))), rfl, h5⟩
def Zmr (N : Nat) : ZaH := (Zac).add [0, 1, 0, 1] fun _ E s K => ZmX (Zbk ZjT E) s fun w_1 x_2 x_3 => ZeN N w_1 x_2 (Zfr K w_1 x_2) (ZfO K w_1 x_2) N x_3
theorem ZwQ {N : Nat} (hC : Ok Tryd.prog C) (hΦ : Zaa Tryd.prog C (ZmM N)) : ZbH Tryd.prog C (Zmr N) Zno [0, 1, 0, 1] :=
 ZbL (Λi := Zac) (tr := false) (ks := ZjT) (kx := Zqg) (N := N) hC hΦ
  (Zah (by kernel_rfl))
  fun R E s K r h => by
   have h2 := ZaH.add_self.symm.trans h
   obtain ⟨_, _, _, he, rfl, h3⟩ := Zko h2
   rw [he]
   exact (Ztl N _ _ _ N _).trans h3
theorem Zz6 : Zbc ZtI [] = [([0, 1, 0, 1], Zno)] := by kernel_rfl
theorem ZCz {R : Type} (N : Nat) (w_1 : ByteArray) (x_2 : Int) (K : V → S → Option R) : ZaS C (ZmM N) (Zmr N) 82 Tryd.f82 [.str w_1, .int .u8 x_2] [] K =
 ZlG N w_1 x_2 (fun x_3 => K (.int .i64 x_3) []) := by kernel_rfl
theorem Zs4 {N : Nat} (hC : Ok Tryd.prog C) (hΦ : Zaa Tryd.prog C (ZmM N)) : Za0 Tryd.prog C (Zmr N) ZtI [] :=
 ZaT ZtI [] (by
  rw [Zz6]
  intro p hp
  simp only [List.mem_cons, List.mem_nil_iff, or_false] at hp
  rcases hp with rfl
  ·exact (ZwQ hC hΦ))
theorem Zrg (hC : Ok Tryd.prog C) {N : Nat} (hΦ : Zaa Tryd.prog C (ZmM N)) : Zaa Tryd.prog C (Zv8 N) := by
 refine hΦ.add_pure rfl fun R vs K r h => ?_
 unfold ZzN at h
 obtain ⟨_, _, rfl, h1⟩ := ZaR h
 obtain ⟨_, rfl, h2⟩ := Zam h1
 obtain ⟨_, rfl, h3⟩ := ZaE h2
 obtain ⟨_, h4⟩ := Zad h3
 refine Zao (fn := Tryd.f82) (c := ZtI) hC hΦ Tryd.func82 (by kernel_rfl) (by kernel_rfl) (Zs4 (N := N) hC hΦ) rfl rfl ?_
 refine (ZCz N _ _ _).trans ?_
 rw [← ZpV]
 exact h4
def ZyS (N : Nat) : (R : Type) → List V → S → (V → S → Option R) → Option R := fun _ vs s K =>
 ZfR vs fun v'1 v'2 => Za1 v'1 fun w_1 => asInt .u8 v'2 fun x_2 => ZaP s <| Zvr N w_1 x_2 (fun x_3 => K (.int .i64 x_3) [])
def Zvm (N : Nat) : Zan := (Zv8 N).add 65 (ZyS N)
def ZCh : Code := ZaG Tryd.f65
theorem ZA6 {R : Type} (N : Nat) (w_1 : ByteArray) (x_2 : Int) (K : V → S → Option R) : ZaS C (Zv8 N) (Zac) 65 Tryd.f65 [.str w_1, .int .u8 x_2] [] K =
 Zlm N w_1 x_2 (fun x_3 => K (.int .i64 x_3) []) := by kernel_rfl
theorem Zrk (hC : Ok Tryd.prog C) {N : Nat} (hΦ : Zaa Tryd.prog C (Zv8 N)) : Zaa Tryd.prog C (Zvm N) := by
 refine hΦ.add_pure rfl fun R vs K r h => ?_
 unfold ZyS at h
 obtain ⟨_, _, rfl, h1⟩ := ZaR h
 obtain ⟨_, rfl, h2⟩ := Zam h1
 obtain ⟨_, rfl, h3⟩ := ZaE h2
 obtain ⟨_, h4⟩ := Zad h3
 refine Zao (fn := Tryd.f65) (c := ZCh) hC hΦ Tryd.func65 (by kernel_rfl) (by kernel_rfl) (Zah (Λ := Zac) (by kernel_rfl)) rfl rfl ?_
 refine (ZA6 N _ _ _).trans ?_
 rw [← Zp9]
 exact h4
def Zzx (N : Nat) : (R : Type) → List V → S → (V → S → Option R) → Option R := fun _ vs s K =>
 Zcu vs fun v'1 => Za1 v'1 fun w_1 => ZaP s <| ZsJ N w_1 (fun w_2 w_3 b_4 => K (.tuple [.str w_2, .str w_3, .bool b_4]) [])
def Zwt (N : Nat) : Zan := (Zvm N).add 38 (Zzx N)
def ZCV : Code := ZaG Tryd.f38
theorem ZA5 {R : Type} (N : Nat) (w_1 : ByteArray) (K : V → S → Option R) : ZaS C (Zvm N) (Zac) 38 Tryd.f38 [.str w_1] [] K =
 Zlo N w_1 (fun w_2 w_3 b_4 => K (.tuple [.str w_2, .str w_3, .bool b_4]) []) := by kernel_rfl
theorem Zr9 (hC : Ok Tryd.prog C) {N : Nat} (hΦ : Zaa Tryd.prog C (Zvm N)) : Zaa Tryd.prog C (Zwt N) := by
 refine hΦ.add_pure rfl fun R vs K r h => ?_
 unfold Zzx at h
 obtain ⟨_, rfl, h1⟩ := Zas h
 obtain ⟨_, rfl, h2⟩ := Zam h1
 obtain ⟨_, h3⟩ := Zad h2
 refine Zao (fn := Tryd.f38) (c := ZCV) hC hΦ Tryd.func38 (by kernel_rfl) (by kernel_rfl) (Zah (Λ := Zac) (by kernel_rfl)) rfl rfl ?_
 refine (ZA5 N _ _).trans ?_
 rw [← ZpG]
 exact h3
def Zzm (N : Nat) : (R : Type) → List V → S → (V → S → Option R) → Option R := fun _ vs s K =>
 Zcu vs fun v'1 => Za1 v'1 fun w_1 => ZaP s <| ZwJ N w_1 (fun w_2 b_3 => K (.tuple [.str w_2, .bool b_3]) [])
def ZvP (N : Nat) : Zan := (Zwt N).add 9 (Zzm N)
def ZBZ : Code := ZaG Tryd.f9
theorem ZCM {R : Type} (N : Nat) (w_1 : ByteArray) (K : V → S → Option R) : ZaS C (Zwt N) (Zac) 9 Tryd.f9 [.str w_1] [] K =
 ZkM N w_1 (fun w_2 b_3 => K (.tuple [.str w_2, .bool b_3]) []) := by kernel_rfl
theorem Zq6 (hC : Ok Tryd.prog C) {N : Nat} (hΦ : Zaa Tryd.prog C (Zwt N)) : Zaa Tryd.prog C (ZvP N) := by
 refine hΦ.add_pure rfl fun R vs K r h => ?_
 unfold Zzm at h
 obtain ⟨_, rfl, h1⟩ := Zas h
 obtain ⟨_, rfl, h2⟩ := Zam h1
 obtain ⟨_, h3⟩ := Zad h2
 refine Zao (fn := Tryd.f9) (c := ZBZ) hC hΦ Tryd.func9 (by kernel_rfl) (by kernel_rfl) (Zah (Λ := Zac) (by kernel_rfl)) rfl rfl ?_
 refine (ZCM N _ _).trans ?_
 rw [← Zp7]
 exact h3
def Zzb (N : Nat) : (R : Type) → List V → S → (V → S → Option R) → Option R := fun _ vs s K =>
 Zcu vs fun v'1 => Za1 v'1 fun w_1 => ZaP s <| ZqR N w_1 (fun w_2 => K (.str w_2) [])
def ZvU (N : Nat) : Zan := (ZvP N).add 39 (Zzb N)
def ZBO : Code := ZaG Tryd.f39
theorem ZA2 {R : Type} (N : Nat) (w_1 : ByteArray) (K : V → S → Option R) : ZaS C (ZvP N) (Zac) 39 Tryd.f39 [.str w_1] [] K =
 ZlN N w_1 (fun w_2 => K (.str w_2) []) := by kernel_rfl
theorem Zrf (hC : Ok Tryd.prog C) {N : Nat} (hΦ : Zaa Tryd.prog C (ZvP N)) : Zaa Tryd.prog C (ZvU N) := by
 refine hΦ.add_pure rfl fun R vs K r h => ?_
 unfold Zzb at h
 obtain ⟨_, rfl, h1⟩ := Zas h
 obtain ⟨_, rfl, h2⟩ := Zam h1
 obtain ⟨_, h3⟩ := Zad h2
 refine Zao (fn := Tryd.f39) (c := ZBO) hC hΦ Tryd.func39 (by kernel_rfl) (by kernel_rfl) (Zah (Λ := Zac) (by kernel_rfl)) rfl rfl ?_
 refine (ZA2 N _ _).trans ?_
 rw [← Zp2]
 exact h3
def ZAm (N : Nat) : (R : Type) → List V → S → (V → S → Option R) → Option R := fun _ vs s K =>
 Zcu vs fun v'1 => Za1 v'1 fun w_1 => ZaP s <| Zwi N w_1 (fun w_2 b_3 => K (.tuple [.str w_2, .bool b_3]) [])
def Zwz (N : Nat) : Zan := (ZvU N).add 10 (ZAm N)
def ZBi : Code := ZaG Tryd.f10
theorem ZB6 {R : Type} (N : Nat) (w_1 : ByteArray) (K : V → S → Option R) : ZaS C (ZvU N) (Zac) 10 Tryd.f10 [.str w_1] [] K =
 Zku N w_1 (fun w_2 b_3 => K (.tuple [.str w_2, .bool b_3]) []) := by kernel_rfl
theorem Zq9 (hC : Ok Tryd.prog C) {N : Nat} (hΦ : Zaa Tryd.prog C (ZvU N)) : Zaa Tryd.prog C (Zwz N) := by
 refine hΦ.add_pure rfl fun R vs K r h => ?_
 unfold ZAm at h
 obtain ⟨_, rfl, h1⟩ := Zas h
 obtain ⟨_, rfl, h2⟩ := Zam h1
 obtain ⟨_, h3⟩ := Zad h2
 refine Zao (fn := Tryd.f10) (c := ZBi) hC hΦ Tryd.func10 (by kernel_rfl) (by kernel_rfl) (Zah (Λ := Zac) (by kernel_rfl)) rfl rfl ?_
 refine (ZB6 N _ _).trans ?_
 rw [← Zpt]
 exact h3
def ZyW (N : Nat) : (R : Type) → List V → S → (V → S → Option R) → Option R := fun _ vs s K =>
 Zcu vs fun v'1 => Za1 v'1 fun w_1 => ZaP s <| ZwH N w_1 (fun w_2 b_3 => K (.tuple [.str w_2, .bool b_3]) [])
def ZwG (N : Nat) : Zan := (Zwz N).add 11 (ZyW N)
def ZAT : Code := ZaG Tryd.f11
theorem ZBE {R : Type} (N : Nat) (w_1 : ByteArray) (K : V → S → Option R) : ZaS C (Zwz N) (Zac) 11 Tryd.f11 [.str w_1] [] K =
 Zkw N w_1 (fun w_2 b_3 => K (.tuple [.str w_2, .bool b_3]) []) := by kernel_rfl
theorem Zrw (hC : Ok Tryd.prog C) {N : Nat} (hΦ : Zaa Tryd.prog C (Zwz N)) : Zaa Tryd.prog C (ZwG N) := by
 refine hΦ.add_pure rfl fun R vs K r h => ?_
 unfold ZyW at h
 obtain ⟨_, rfl, h1⟩ := Zas h
 obtain ⟨_, rfl, h2⟩ := Zam h1
 obtain ⟨_, h3⟩ := Zad h2
 refine Zao (fn := Tryd.f11) (c := ZAT) hC hΦ Tryd.func11 (by kernel_rfl) (by kernel_rfl) (Zah (Λ := Zac) (by kernel_rfl)) rfl rfl ?_
 refine (ZBE N _ _).trans ?_
 rw [← ZpK]
 exact h3
def ZzH (N : Nat) : (R : Type) → List V → S → (V → S → Option R) → Option R := fun _ vs s K =>
 Zcu vs fun v'1 => Za1 v'1 fun w_1 => ZaP s <| Zv9 N w_1 (fun w_2 => K (.str w_2) [])
def ZvQ (N : Nat) : Zan := (ZwG N).add 40 (ZzH N)
def ZBN : Code := ZaG Tryd.f40
theorem ZBg {R : Type} (N : Nat) (w_1 : ByteArray) (K : V → S → Option R) : ZaS C (ZwG N) (Zac) 40 Tryd.f40 [.str w_1] [] K =
 ZkR N w_1 (fun w_2 => K (.str w_2) []) := by kernel_rfl
theorem Zrz (hC : Ok Tryd.prog C) {N : Nat} (hΦ : Zaa Tryd.prog C (ZwG N)) : Zaa Tryd.prog C (ZvQ N) := by
 refine hΦ.add_pure rfl fun R vs K r h => ?_
 unfold ZzH at h
 obtain ⟨_, rfl, h1⟩ := Zas h
 obtain ⟨_, rfl, h2⟩ := Zam h1
 obtain ⟨_, h3⟩ := Zad h2
 refine Zao (fn := Tryd.f40) (c := ZBN) hC hΦ Tryd.func40 (by kernel_rfl) (by kernel_rfl) (Zah (Λ := Zac) (by kernel_rfl)) rfl rfl ?_
 refine (ZBg N _ _).trans ?_
 rw [← Zpk]
 exact h3
def ZzO (N : Nat) : (R : Type) → List V → S → (V → S → Option R) → Option R := fun _ vs s K =>
 Zcu vs fun v'1 => Za1 v'1 fun w_1 => ZaP s <| Zu6 N w_1 (fun w_2 b_3 => K (.tuple [.str w_2, .bool b_3]) [])
def ZwW (N : Nat) : Zan := (ZvQ N).add 12 (ZzO N)
def ZAN : Code := ZaG Tryd.f12
theorem ZCr {R : Type} (N : Nat) (w_1 : ByteArray) (K : V → S → Option R) : ZaS C (ZvQ N) (Zac) 12 Tryd.f12 [.str w_1] [] K =
 ZlO N w_1 (fun w_2 b_3 => K (.tuple [.str w_2, .bool b_3]) []) := by kernel_rfl
theorem ZqV (hC : Ok Tryd.prog C) {N : Nat} (hΦ : Zaa Tryd.prog C (ZvQ N)) : Zaa Tryd.prog C (ZwW N) := by
 refine hΦ.add_pure rfl fun R vs K r h => ?_
 unfold ZzO at h
 obtain ⟨_, rfl, h1⟩ := Zas h
 obtain ⟨_, rfl, h2⟩ := Zam h1
 obtain ⟨_, h3⟩ := Zad h2
 refine Zao (fn := Tryd.f12) (c := ZAN) hC hΦ Tryd.func12 (by kernel_rfl) (by kernel_rfl) (Zah (Λ := Zac) (by kernel_rfl)) rfl rfl ?_
 refine (ZCr N _ _).trans ?_
 rw [← ZpO]
 exact h3
def ZAx (N : Nat) : (R : Type) → List V → S → (V → S → Option R) → Option R := fun _ vs s K =>
 Zcu vs fun v'1 => Za1 v'1 fun w_1 => ZaP s <| ZvM N w_1 (fun b_2 => K (.bool b_2) [])
def ZxL (N : Nat) : Zan := (ZwW N).add 14 (ZAx N)
def ZB9 : Code := ZaG Tryd.f14
theorem ZBV {R : Type} (N : Nat) (w_1 : ByteArray) (K : V → S → Option R) : ZaS C (ZwW N) (Zac) 14 Tryd.f14 [.str w_1] [] K =
 Zk3 N w_1 (fun b_2 => K (.bool b_2) []) := by kernel_rfl
theorem Zse (hC : Ok Tryd.prog C) {N : Nat} (hΦ : Zaa Tryd.prog C (ZwW N)) : Zaa Tryd.prog C (ZxL N) := by
 refine hΦ.add_pure rfl fun R vs K r h => ?_
 unfold ZAx at h
 obtain ⟨_, rfl, h1⟩ := Zas h
 obtain ⟨_, rfl, h2⟩ := Zam h1
 obtain ⟨_, h3⟩ := Zad h2
 refine Zao (fn := Tryd.f14) (c := ZB9) hC hΦ Tryd.func14 (by kernel_rfl) (by kernel_rfl) (Zah (Λ := Zac) (by kernel_rfl)) rfl rfl ?_
 refine (ZBV N _ _).trans ?_
 rw [← Zou]
 exact h3
def ZzQ (N : Nat) : (R : Type) → List V → S → (V → S → Option R) → Option R := fun _ vs s K =>
 Zcu vs fun v'1 => Za6 1 v'1 fun e_1 f_2 => ZaP s <| ZuZ N e_1 f_2 (fun e_3 => K (.list 1 e_3 .sh) [])
def Zvt (N : Nat) : Zan := (ZxL N).add 42 (ZzQ N)
theorem Zr1 (hC : Ok Tryd.prog C) {N : Nat} (hΦ : Zaa Tryd.prog C (ZxL N)) : Zaa Tryd.prog C (Zvt N) := by
 refine hΦ.add_pure rfl fun R vs K r h => ?_
 unfold ZzQ at h
 obtain ⟨_, rfl, h1⟩ := Zas h
 obtain ⟨_, _, rfl, h2⟩ := Zar h1
 obtain ⟨_, h3⟩ := Zad h2
 rw [ZpE] at h3
 unfold ZkV at h3
 obtain ⟨_, h1, h2⟩ := ZnF Tryd.func42 (by kernel_rfl) (by kernel_rfl) (fun n c w => Tryd.slices_Clone_string_nil n c w) (fun a c w => Tryd.slices_Clone_string_zero a c w) (fun b o n c zs w h1 h2 h3 => Tryd.slices_Clone_string b o n c zs w h1 h2 h3) h3
 exact ⟨_, h1, h2⟩
def Zzz (N : Nat) : (R : Type) → List V → S → (V → S → Option R) → Option R := fun _ vs s K =>
 Zcu vs fun v'1 => Za1 v'1 fun w_1 => ZaP s <| Zs3 N w_1 (fun e_2 b_3 => K (.tuple [.list 1 e_2 .sh, .bool b_3]) [])
def Zwa (N : Nat) : Zan := (Zvt N).add 15 (Zzz N)
def ZBP : Code := ZaG Tryd.f15
theorem ZA1 {R : Type} (N : Nat) (w_1 : ByteArray) (K : V → S → Option R) : ZaS C (Zvt N) (Zac) 15 Tryd.f15 [.str w_1] [] K =
 ZkQ N w_1 (fun e_2 b_3 => K (.tuple [.list 1 e_2 .sh, .bool b_3]) []) := by kernel_rfl
theorem Zq4 (hC : Ok Tryd.prog C) {N : Nat} (hΦ : Zaa Tryd.prog C (Zvt N)) : Zaa Tryd.prog C (Zwa N) := by
 refine hΦ.add_pure rfl fun R vs K r h => ?_
 unfold Zzz at h
 obtain ⟨_, rfl, h1⟩ := Zas h
 obtain ⟨_, rfl, h2⟩ := Zam h1
 obtain ⟨_, h3⟩ := Zad h2
 refine Zao (fn := Tryd.f15) (c := ZBP) hC hΦ Tryd.func15 (by kernel_rfl) (by kernel_rfl) (Zah (Λ := Zac) (by kernel_rfl)) rfl rfl ?_
 refine (ZA1 N _ _).trans ?_
 rw [← Zqj]
 exact h3
def ZAq (N : Nat) : (R : Type) → List V → S → (V → S → Option R) → Option R := fun _ vs s K =>
 Zcu vs fun v'1 => Za1 v'1 fun w_1 => ZaP s <| ZxA N w_1 (fun b_2 => K (.bool b_2) [])
def Zn9 (N : Nat) : Zan := (Zwa N).add 45 (ZAq N)
def ZBh : Code := ZaG Tryd.f45
theorem ZBf {R : Type} (N : Nat) (w_1 : ByteArray) (K : V → S → Option R) : ZaS C (Zwa N) (Zac) 45 Tryd.f45 [.str w_1] [] K =
 Zls N w_1 (fun b_2 => K (.bool b_2) []) := by kernel_rfl
theorem ZqF (hC : Ok Tryd.prog C) {N : Nat} (hΦ : Zaa Tryd.prog C (Zwa N)) : Zaa Tryd.prog C (Zn9 N) := by
 refine hΦ.add_pure rfl fun R vs K r h => ?_
 unfold ZAq at h
 obtain ⟨_, rfl, h1⟩ := Zas h
 obtain ⟨_, rfl, h2⟩ := Zam h1
 obtain ⟨_, h3⟩ := Zad h2
 refine Zao (fn := Tryd.f45) (c := ZBh) hC hΦ Tryd.func45 (by kernel_rfl) (by kernel_rfl) (Zah (Λ := Zac) (by kernel_rfl)) rfl rfl ?_
 refine (ZBf N _ _).trans ?_
 rw [← ZpQ]
 exact h3
def ZzC (N : Nat) : (R : Type) → List V → S → (V → S → Option R) → Option R := fun _ vs s K =>
 ZfR vs fun v'1 v'2 => Za6 1 v'1 fun e_1 f_2 => ZnN 45 v'2 fun c'3 => Zmn c'3 <| ZaP s <| Zyh N e_1 f_2 (fun x_3 => K (.int .i64 x_3) [])
def Zu8 (N : Nat) : Zan := (Zn9 N).addIf 70 (fun l => ZxU 1 45 l) (ZzC N)
def ZuI : Code := ZaG Tryd.f70
def ZnA : Code := (Zcc ZuI [] 0).2
def ZiL : List Nat := Zdo 19 [0, 1, 7, 8]
def ZoR : List Nat := Zdo 19 [4]
def Zg0 (e_1 : List V) (f_2 : Fl) (x_3 x_4 : Int) : List V := mkF 0 19 [(0, .list 1 e_1 f_2), (1, .fn 45 []), (7, .int .i64 x_3), (8, .int .i64 x_4)]
def Zfd {R : Type} (K : X → List V → S → Option R) (e_1 : List V) (f_2 : Fl) (x_3 : Int) : Int → Option R := (fun x_1' => K .ret (mkF 0 19 [(4, .int .i64 (x_1'))]) [])
def Zfc {R : Type} (K : X → List V → S → Option R) (e_1 : List V) (f_2 : Fl) (x_3 : Int) : Unit → Option R := (fun _ => K (.exit 0) (mkF 0 19 []) [])
abbrev ZiA {R : Type} (N : Nat) : Nat → List V → S → (X → List V → S → Option R) → Option R := fun n => ZgA C (Zn9 N) (Zac) ZnA [0, 1, 0, 1] false ZiL ZoR n R
theorem Zx7 {R : Type} (N n : Nat) (e_1 : List V) (f_2 : Fl) (x_3 : Int) (x_4 : Int) (K : X → List V → S → Option R) :
 ZiA N (n + 1) (Zg0 e_1 f_2 x_3 x_4) [] K =
 ZcT N e_1 f_2 x_3 (fun x_4 => ZiA N n (Zg0 e_1 f_2 x_3 x_4) [] K) x_4 (Zfd K e_1 f_2 x_3) (Zfc K e_1 f_2 x_3) := by kernel_rfl
theorem Zt1 {R : Type} (N : Nat) (e_1 : List V) (f_2 : Fl) (x_3 : Int) (K : X → List V → S → Option R) : ∀ (n : Nat) (x_4 : Int),
 ZiA N n (Zg0 e_1 f_2 x_3 x_4) [] K = ZeW N e_1 f_2 x_3 (Zfd K e_1 f_2 x_3) (Zfc K e_1 f_2 x_3) n x_4
 | 0, _ => rfl
 | n + 1, x_4 => (Zx7 N n e_1 f_2 x_3 x_4 K).trans (congrArg (fun nx => ZcT N e_1 f_2 x_3 nx x_4 (Zfd K e_1 f_2 x_3) (Zfc K e_1 f_2 x_3)) (funext fun x_4 => Zt1 N e_1 f_2 x_3 K n x_4))
def Zng {R : Type} (E : List V) (s : S) (k : List V → Fl → Int → Int → Option R) : Option R :=
 Zaj (ZbA 19 [0, 1, 7, 8] E) <| Zeu E 0 1 fun e_1 f_2 => ZbT (nth E 1) fun u1 => ZnN 45 u1 fun c'1 => Zmn c'1 <| ZbS E 7 .i64 fun x_3 => ZbS E 8 .i64 fun x_4 => ZaP s <| k e_1 f_2 x_3 x_4
theorem Zj8 {R : Type} {E : List V} {s : S} {k : List V → Fl → Int → Int → Option R} {r : R} (h : Zng E s k = some r) : ∃ e_1 f_2 x_3 x_4, E = Zg0 e_1 f_2 x_3 x_4 ∧ s = [] ∧ k e_1 f_2 x_3 x_4 = some r := by
 unfold Zng at h
 obtain ⟨hg, h1⟩ := Zab h
 obtain ⟨_, _, hu0, h2⟩ := ZbR h1
 obtain ⟨_, hu1, h3⟩ := Zae h2
 obtain ⟨_, rfl, h4⟩ := ZbM h3
 obtain ⟨rfl, h5⟩ := ZbI h4
 obtain ⟨_, hu7, h6⟩ := Zav h5
 obtain ⟨_, hu8, h7⟩ := Zav h6
 obtain ⟨rfl, h8⟩ := Zad h7
 exact ⟨_, _, _, _, Zbo hg rfl (Zag hu0 (Zag hu1 (Zag hu7 (Zag hu8 Za7)))), rfl, h8⟩
def Zne (N : Nat) : ZaH := (Zac).add [0, 1, 0, 1] fun _ E s K => Zng (Zbk ZiL E) s fun e_1 f_2 x_3 x_4 => ZeW N e_1 f_2 x_3 (Zfd K e_1 f_2 x_3) (Zfc K e_1 f_2 x_3) N x_4
theorem ZvF {N : Nat} (hC : Ok Tryd.prog C) (hΦ : Zaa Tryd.prog C (Zn9 N)) : ZbH Tryd.prog C (Zne N) ZnA [0, 1, 0, 1] :=
 ZbL (Λi := Zac) (tr := false) (ks := ZiL) (kx := ZoR) (N := N) hC hΦ
  (Zah (by kernel_rfl))
  fun R E s K r h => by
   have h2 := ZaH.add_self.symm.trans h
   obtain ⟨_, _, _, _, he, rfl, h3⟩ := Zj8 h2
   rw [he]
   exact (Zt1 N _ _ _ _ N _).trans h3
theorem ZzI : Zbc ZuI [] = [([0, 1, 0, 1], ZnA)] := by kernel_rfl
theorem ZBH {R : Type} (N : Nat) (e_1 : List V) (f_2 : Fl) (K : V → S → Option R) : ZaS C (Zn9 N) (Zne N) 70 Tryd.f70 [.list 1 e_1 f_2, .fn 45 []] [] K =
 Zj7 N e_1 f_2 (fun x_3 => K (.int .i64 x_3) []) := by kernel_rfl
theorem ZuP {N : Nat} (hC : Ok Tryd.prog C) (hΦ : Zaa Tryd.prog C (Zn9 N)) : Za0 Tryd.prog C (Zne N) ZuI [] :=
 ZaT ZuI [] (by
  rw [ZzI]
  intro p hp
  simp only [List.mem_cons, List.mem_nil_iff, or_false] at hp
  rcases hp with rfl
  ·exact (ZvF hC hΦ))
theorem ZrT (hC : Ok Tryd.prog C) {N : Nat} (hΦ : Zaa Tryd.prog C (Zn9 N)) : Zaa Tryd.prog C (Zu8 N) := by
 refine hΦ.addIf_pure rfl fun R vs K r h => ?_
 unfold ZzC at h
 obtain ⟨_, _, rfl, h1⟩ := ZaR h
 obtain ⟨_, _, rfl, h2⟩ := Zar h1
 obtain ⟨_, rfl, h3⟩ := ZbM h2
 obtain ⟨rfl, h4⟩ := ZbI h3
 obtain ⟨_, h5⟩ := Zad h4
 refine Zao (fn := Tryd.f70) (c := ZuI) hC hΦ Tryd.func70 (by kernel_rfl) (by kernel_rfl) (ZuP (N := N) hC hΦ) rfl rfl ?_
 refine (ZBH N _ _ _).trans ?_
 rw [← ZoB]
 exact h5
def ZyO (N : Nat) : (R : Type) → List V → S → (V → S → Option R) → Option R := fun _ vs s K =>
 ZfR vs fun v'1 v'2 => Za6 1 v'1 fun e_1 f_2 => ZnN 45 v'2 fun c'3 => Zmn c'3 <| ZaP s <| ZvY N e_1 f_2 (fun b_3 => K (.bool b_3) [])
def Zu1 (N : Nat) : Zan := (Zu8 N).addIf 44 (fun l => ZxU 1 45 l) (ZyO N)
def ZAV : Code := ZaG Tryd.f44
theorem ZCe {R : Type} (N : Nat) (e_1 : List V) (f_2 : Fl) (K : V → S → Option R) : ZaS C (Zu8 N) (Zac) 44 Tryd.f44 [.list 1 e_1 f_2, .fn 45 []] [] K =
 ZlD N e_1 f_2 (fun b_3 => K (.bool b_3) []) := by kernel_rfl
theorem ZqQ (hC : Ok Tryd.prog C) {N : Nat} (hΦ : Zaa Tryd.prog C (Zu8 N)) : Zaa Tryd.prog C (Zu1 N) := by
 refine hΦ.addIf_pure rfl fun R vs K r h => ?_
 unfold ZyO at h
 obtain ⟨_, _, rfl, h1⟩ := ZaR h
 obtain ⟨_, _, rfl, h2⟩ := Zar h1
 obtain ⟨_, rfl, h3⟩ := ZbM h2
 obtain ⟨rfl, h4⟩ := ZbI h3
 obtain ⟨_, h5⟩ := Zad h4
 refine Zao (fn := Tryd.f44) (c := ZAV) hC hΦ Tryd.func44 (by kernel_rfl) (by kernel_rfl) (Zah (Λ := Zac) (by kernel_rfl)) rfl rfl ?_
 refine (ZCe N _ _ _).trans ?_
 rw [← ZpN]
 exact h5
def ZAe (N : Nat) : (R : Type) → List V → S → (V → S → Option R) → Option R := fun _ vs s K =>
 Zcu vs fun v'1 => Za6 1 v'1 fun e_1 f_2 => ZaP s <| Zsr N e_1 f_2 (fun w_3 b_4 => K (.tuple [.str w_3, .bool b_4]) [])
def Zwy (N : Nat) : Zan := (Zu1 N).add 16 (ZAe N)
def ZBJ : Code := ZaG Tryd.f16
theorem ZCn {R : Type} (N : Nat) (e_1 : List V) (f_2 : Fl) (K : V → S → Option R) : ZaS C (Zu1 N) (Zac) 16 Tryd.f16 [.list 1 e_1 f_2] [] K =
 ZlI N e_1 f_2 (fun w_3 b_4 => K (.tuple [.str w_3, .bool b_4]) []) := by kernel_rfl
theorem ZqK (hC : Ok Tryd.prog C) {N : Nat} (hΦ : Zaa Tryd.prog C (Zu1 N)) : Zaa Tryd.prog C (Zwy N) := by
 refine hΦ.add_pure rfl fun R vs K r h => ?_
 unfold ZAe at h
 obtain ⟨_, rfl, h1⟩ := Zas h
 obtain ⟨_, _, rfl, h2⟩ := Zar h1
 obtain ⟨_, h3⟩ := Zad h2
 refine Zao (fn := Tryd.f16) (c := ZBJ) hC hΦ Tryd.func16 (by kernel_rfl) (by kernel_rfl) (Zah (Λ := Zac) (by kernel_rfl)) rfl rfl ?_
 refine (ZCn N _ _ _).trans ?_
 rw [← Zpa]
 exact h3
def ZAu (N : Nat) : (R : Type) → List V → S → (V → S → Option R) → Option R := fun _ vs s K =>
 ZfR vs fun v'1 v'2 => Za1 v'1 fun w_1 => Za1 v'2 fun w_2 => ZaP s <| Zmp N w_1 w_2 (fun w_3 b_4 => K (.tuple [.str w_3, .bool b_4]) [])
def Zvq (N : Nat) : Zan := (Zwy N).add 17 (ZAu N)
def ZCt : Code := ZaG Tryd.f17
theorem ZCI {R : Type} (N : Nat) (w_1 w_2 : ByteArray) (K : V → S → Option R) : ZaS C (Zwy N) (Zac) 17 Tryd.f17 [.str w_1, .str w_2] [] K =
 Zmb N w_1 w_2 (fun w_3 b_4 => K (.tuple [.str w_3, .bool b_4]) []) := by kernel_rfl
theorem ZqA (hC : Ok Tryd.prog C) {N : Nat} (hΦ : Zaa Tryd.prog C (Zwy N)) : Zaa Tryd.prog C (Zvq N) := by
 refine hΦ.add_pure rfl fun R vs K r h => ?_
 unfold ZAu at h
 obtain ⟨_, _, rfl, h1⟩ := ZaR h
 obtain ⟨_, rfl, h2⟩ := Zam h1
 obtain ⟨_, rfl, h3⟩ := Zam h2
 obtain ⟨_, h4⟩ := Zad h3
 refine Zao (fn := Tryd.f17) (c := ZCt) hC hΦ Tryd.func17 (by kernel_rfl) (by kernel_rfl) (Zah (Λ := Zac) (by kernel_rfl)) rfl rfl ?_
 refine (ZCI N _ _ _).trans ?_
 rw [← Zpd]
 exact h4
def ZAf (N : Nat) : (R : Type) → List V → S → (V → S → Option R) → Option R := fun _ vs s K =>
 Zcu vs fun v'1 => ZjR v'1 fun o0 k'3 k'4 k'5 => isN k'3 0 <| isN k'4 0 <| isN k'5 0 <| ZuX s o0 0 fun o'6 => Zkn o'6 3 49 fun e'7 k'8 => isN k'8 0 <| Zcu e'7 fun v'9 => Zbt v'9 fun e_1 f_2 x_3 x_4 => Zaj (Zbi [o0]) <| Zaj (okI 1 [true] [some ⟨[.agg [.list 1 e_1 f_2, .int .i64 x_3, .int .u64 x_4]], 3, 49, 0⟩]) <| Zwu N e_1 f_2 x_3 x_4 (fun w_901 e_902 f_903 x_904 x_905 => FK s [o0] rl K (.str w_901) [some ⟨[.agg [.list 1 e_902 f_903, .int .i64 x_904, .int .u64 x_905]], 3, 49, 0⟩])
def ZiF (N : Nat) : Zan := (Zvq N).add 50 (ZAf N)
def ZBc : Code := ZaG Tryd.f50
theorem ZA8 {R : Type} (N : Nat) (e_1 : List V) (f_2 : Fl) (x_3 x_4 : Int) (K : V → S → Option R) : ZaS C (Zvq N) (Zac) 50 Tryd.f50 [.ptr 0 0 0 0] [some ⟨[.agg [.list 1 e_1 f_2, .int .i64 x_3, .int .u64 x_4]], 3, 49, 0⟩] (GK rl 1 K) =
 ZlR N e_1 f_2 x_3 x_4 (fun w_901 e_902 f_903 x_904 x_905 => K (.str w_901) [some ⟨[.agg [.list 1 e_902 f_903, .int .i64 x_904, .int .u64 x_905]], 3, 49, 0⟩]) := by kernel_rfl
theorem Zq8 (hC : Ok Tryd.prog C) {N : Nat} (hΦ : Zaa Tryd.prog C (Zvq N)) : Zaa Tryd.prog C (ZiF N) := by
 refine hΦ.add_shared rfl fun R vs s K r h => ?_
 unfold ZAf at h
 obtain ⟨_, rfl, h1⟩ := Zas h
 obtain ⟨o0, _, _, _, rfl, h2⟩ := Zcy h1
 obtain ⟨rfl, h3⟩ := Zaw h2
 obtain ⟨rfl, h4⟩ := Zaw h3
 obtain ⟨rfl, h5⟩ := Zaw h4
 obtain ⟨_, hob0, h6⟩ := ZcL h5
 obtain ⟨_, _, rfl, h7⟩ := ZbB h6
 obtain ⟨rfl, h8⟩ := Zaw h7
 obtain ⟨_, rfl, h9⟩ := Zas h8
 obtain ⟨e_1, f_2, x_3, x_4, rfl, h10⟩ := Zbh h9
 obtain ⟨hdist, h11⟩ := Zab h10
 obtain ⟨hin, h12⟩ := Zab h11
 refine ZbK (fn := Tryd.f50) (c := ZBc) (os := [o0]) (rl := rl) (bi := [true]) (s0 := [some ⟨[.agg [.list 1 e_1 f_2, .int .i64 x_3, .int .u64 x_4]], 3, 49, 0⟩]) (as0 := [.ptr 0 0 0 0]) hC hΦ Tryd.func50 (by kernel_rfl) (by kernel_rfl) (Zah (Λ := Zac) (by kernel_rfl)) rfl hdist ⟨⟨_, rfl, hob0⟩, trivial⟩ hin rfl rfl ?_
 refine (ZA8 N _ _ _ _ _).trans ?_
 rw [← Zqs]
 exact h12
def ZyM (N : Nat) : (R : Type) → List V → S → (V → S → Option R) → Option R := fun _ vs s K =>
 Zcu vs fun v'1 => Za6 1 v'1 fun e_1 f_2 => ZaP s <| Zuk N e_1 f_2 (fun e_3 => K (.list 1 e_3 .sh) [])
def Zn0 (N : Nat) : Zan := (ZiF N).add 19 (ZyM N)
def ZrL : Code := ZaG Tryd.f19
def ZnR : Code := (Zcc ZrL [] 0).2
def ZmZ : Code := (Zcc ZrL [] 1).2
def ZjY : List Nat := Zdo 39 [3, 4, 5]
def Zqr : List Nat := Zdo 39 [3, 4]
def ZgK (e_1 : List V) (x_2 : Int) (e_3 : List V) (f_4 : Fl) (x_5 x_6 : Int) : List V := mkF 0 39 [(3, .ptr 0 0 0 0), (4, .list 1 e_1 (.own 9)), (5, .int .i64 x_2)]
def Zfl {R : Type} (K : X → List V → S → Option R) : List V → List V → Fl → Int → Int → Option R := (fun e_1' e_2' f_3' x_4' x_5' => K (.exit 0) (mkF 0 39 [(3, .ptr 0 0 0 0), (4, .list 1 (e_1') (.own 9))]) [some ⟨[.agg [.list 1 (e_2') (f_3'), .int .i64 (x_4'), .int .u64 (x_5')]], 3, 49, 0⟩])
abbrev ZiI {R : Type} (N : Nat) : Nat → List V → S → (X → List V → S → Option R) → Option R := fun n => ZgA C (ZiF N) (Zac) ZnR [0, 1, 0, 1, 1, 1] false ZjY Zqr n R
theorem Zxt {R : Type} (N n : Nat) (e_1 : List V) (x_2 : Int) (e_3 : List V) (f_4 : Fl) (x_5 x_6 : Int) (K : X → List V → S → Option R) :
 ZiI N (n + 1) (ZgK e_1 x_2 e_3 f_4 x_5 x_6) [some ⟨[.agg [.list 1 e_3 f_4, .int .i64 x_5, .int .u64 x_6]], 3, 49, 0⟩] K =
 Zdl N (fun e_1 x_2 e_3 f_4 x_5 x_6 => ZiI N n (ZgK e_1 x_2 e_3 f_4 x_5 x_6) [some ⟨[.agg [.list 1 e_3 f_4, .int .i64 x_5, .int .u64 x_6]], 3, 49, 0⟩] K) e_1 x_2 e_3 f_4 x_5 x_6 (Zfl K) := by kernel_rfl
theorem ZuB {R : Type} (N : Nat) (K : X → List V → S → Option R) : ∀ (n : Nat) (e_1 : List V) (x_2 : Int) (e_3 : List V) (f_4 : Fl) (x_5 x_6 : Int),
 ZiI N n (ZgK e_1 x_2 e_3 f_4 x_5 x_6) [some ⟨[.agg [.list 1 e_3 f_4, .int .i64 x_5, .int .u64 x_6]], 3, 49, 0⟩] K = Zgi N (Zfl K) n e_1 x_2 e_3 f_4 x_5 x_6
 | 0, _, _, _, _, _, _ => rfl
 | n + 1, e_1, x_2, e_3, f_4, x_5, x_6 => (Zxt N n e_1 x_2 e_3 f_4 x_5 x_6 K).trans (congrArg (fun nx => Zdl N nx e_1 x_2 e_3 f_4 x_5 x_6 (Zfl K)) (funext fun e_1 => funext fun x_2 => funext fun e_3 => funext fun f_4 => funext fun x_5 => funext fun x_6 => ZuB N K n e_1 x_2 e_3 f_4 x_5 x_6))
def Zol {R : Type} (E : List V) (s : S) (k : List V → Int → List V → Fl → Int → Int → Option R) : Option R :=
 Zaj (ZbA 39 [3, 4, 5] E) <| ZAJ E 3 (.ptr 0 0 0 0) <| ZbT (nth E 4) fun u4 => Za6 1 u4 fun e_1 f'1 => Zli 9 f'1 <| ZbS E 5 .i64 fun x_2 => ZuJ s fun o'2 s'3 => Zkn o'2 3 49 fun e'4 k'5 => isN k'5 0 <| Zcu e'4 fun v'6 => asAgg v'6 fun c'7 => Zwd c'7 fun v'8 v'9 v'10 => Za6 1 v'8 fun e_3 f_4 => asInt .i64 v'9 fun x_5 => asInt .u64 v'10 fun x_6 => ZaP s'3 <| k e_1 x_2 e_3 f_4 x_5 x_6
theorem Zj2 {R : Type} {E : List V} {s : S} {k : List V → Int → List V → Fl → Int → Int → Option R} {r : R} (h : Zol E s k = some r) : ∃ e_1 x_2 e_3 f_4 x_5 x_6, E = ZgK e_1 x_2 e_3 f_4 x_5 x_6 ∧ s = [some ⟨[.agg [.list 1 e_3 f_4, .int .i64 x_5, .int .u64 x_6]], 3, 49, 0⟩] ∧ k e_1 x_2 e_3 f_4 x_5 x_6 = some r := by
 unfold Zol at h
 obtain ⟨hg, h1⟩ := Zab h
 obtain ⟨hu3, h2⟩ := Zhz h1
 obtain ⟨_, hu4, h3⟩ := Zae h2
 obtain ⟨_, _, rfl, h4⟩ := Zar h3
 obtain ⟨rfl, h5⟩ := Zc4 h4
 obtain ⟨_, hu5, h6⟩ := Zav h5
 obtain ⟨_, _, rfl, h7⟩ := Zcr h6
 obtain ⟨_, _, rfl, h8⟩ := ZbB h7
 obtain ⟨rfl, h9⟩ := Zaw h8
 obtain ⟨_, rfl, h10⟩ := Zas h9
 obtain ⟨_, rfl, h11⟩ := Zca h10
 obtain ⟨_, _, _, rfl, h12⟩ := Zc9 h11
 obtain ⟨_, _, rfl, h13⟩ := Zar h12
 obtain ⟨_, rfl, h14⟩ := ZaE h13
 obtain ⟨_, rfl, h15⟩ := ZaE h14
 obtain ⟨rfl, h16⟩ := Zad h15
 exact ⟨_, _, _, _, _, _, Zbo hg rfl (Zag hu3 (Zag hu4 (Zag hu5 Za7))), rfl, h16⟩
def Zjk (N : Nat) : ZaH := (Zac).add [0, 1, 0, 1, 1, 1] fun _ E s K => Zol (Zbk ZjY E) s fun e_1 x_2 e_3 f_4 x_5 x_6 => Zgi N (Zfl K) N e_1 x_2 e_3 f_4 x_5 x_6
theorem ZvG {N : Nat} (hC : Ok Tryd.prog C) (hΦ : Zaa Tryd.prog C (ZiF N)) : ZbH Tryd.prog C (Zjk N) ZnR [0, 1, 0, 1, 1, 1] :=
 ZbL (Λi := Zac) (tr := false) (ks := ZjY) (kx := Zqr) (N := N) hC hΦ
  (Zah (by kernel_rfl))
  fun R E s K r h => by
   have h2 := ZaH.add_self.symm.trans h
   obtain ⟨_, _, _, _, _, _, he, rfl, h3⟩ := Zj2 h2
   rw [he]
   exact (ZuB N _ N _ _ _ _ _ _).trans h3
def ZiS : List Nat := Zdo 39 [4, 6]
def ZoT : List Nat := Zdo 39 [4]
def ZgI (e_3 : List V) (f_4 : Fl) (x_5 x_6 : Int) (e_1 : List V) (x_2 : Int) : List V := mkF 0 39 [(4, .list 1 e_1 (.own 9)), (6, .int .i64 x_2)]
def Zfm {R : Type} (K : X → List V → S → Option R) (e_3 : List V) (f_4 : Fl) (x_5 : Int) (x_6 : Int) : List V → Option R := (fun e_1' => K (.exit 2) (mkF 0 39 [(4, .list 1 (e_1') (.own 9))]) [some ⟨[.agg [.list 1 e_3 f_4, .int .i64 x_5, .int .u64 x_6]], 3, 49, 0⟩])
abbrev Zjn {R : Type} (N : Nat) : Nat → List V → S → (X → List V → S → Option R) → Option R := fun n => ZgA C (ZiF N) (Zjk N) ZmZ [0, 1, 0, 1, 0, 1, 1, 1, 1, 1] false ZiS ZoT n R
theorem ZxX {R : Type} (N n : Nat) (e_3 : List V) (f_4 : Fl) (x_5 x_6 : Int) (e_1 : List V) (x_2 : Int) (K : X → List V → S → Option R) :
 Zjn N (n + 1) (ZgI e_3 f_4 x_5 x_6 e_1 x_2) [some ⟨[.agg [.list 1 e_3 f_4, .int .i64 x_5, .int .u64 x_6]], 3, 49, 0⟩] K =
 Zdf N e_3 f_4 x_5 x_6 (fun e_1 x_2 => Zjn N n (ZgI e_3 f_4 x_5 x_6 e_1 x_2) [some ⟨[.agg [.list 1 e_3 f_4, .int .i64 x_5, .int .u64 x_6]], 3, 49, 0⟩] K) e_1 x_2 (Zfm K e_3 f_4 x_5 x_6) := by kernel_rfl
theorem ZtP {R : Type} (N : Nat) (e_3 : List V) (f_4 : Fl) (x_5 x_6 : Int) (K : X → List V → S → Option R) : ∀ (n : Nat) (e_1 : List V) (x_2 : Int),
 Zjn N n (ZgI e_3 f_4 x_5 x_6 e_1 x_2) [some ⟨[.agg [.list 1 e_3 f_4, .int .i64 x_5, .int .u64 x_6]], 3, 49, 0⟩] K = ZeQ N e_3 f_4 x_5 x_6 (Zfm K e_3 f_4 x_5 x_6) n e_1 x_2
 | 0, _, _ => rfl
 | n + 1, e_1, x_2 => (ZxX N n e_3 f_4 x_5 x_6 e_1 x_2 K).trans (congrArg (fun nx => Zdf N e_3 f_4 x_5 x_6 nx e_1 x_2 (Zfm K e_3 f_4 x_5 x_6)) (funext fun e_1 => funext fun x_2 => ZtP N e_3 f_4 x_5 x_6 K n e_1 x_2))
def ZnE {R : Type} (E : List V) (s : S) (k : List V → Int → List V → Fl → Int → Int → Option R) : Option R :=
 Zaj (ZbA 39 [4, 6] E) <| ZbT (nth E 4) fun u4 => Za6 1 u4 fun e_1 f'1 => Zli 9 f'1 <| ZbS E 6 .i64 fun x_2 => ZuJ s fun o'2 s'3 => Zkn o'2 3 49 fun e'4 k'5 => isN k'5 0 <| Zcu e'4 fun v'6 => asAgg v'6 fun c'7 => Zwd c'7 fun v'8 v'9 v'10 => Za6 1 v'8 fun e_3 f_4 => asInt .i64 v'9 fun x_5 => asInt .u64 v'10 fun x_6 => ZaP s'3 <| k e_1 x_2 e_3 f_4 x_5 x_6
theorem ZlL {R : Type} {E : List V} {s : S} {k : List V → Int → List V → Fl → Int → Int → Option R} {r : R} (h : ZnE E s k = some r) : ∃ e_1 x_2 e_3 f_4 x_5 x_6, E = ZgI e_3 f_4 x_5 x_6 e_1 x_2 ∧ s = [some ⟨[.agg [.list 1 e_3 f_4, .int .i64 x_5, .int .u64 x_6]], 3, 49, 0⟩] ∧ k e_1 x_2 e_3 f_4 x_5 x_6 = some r := by
 unfold ZnE at h
 obtain ⟨hg, h1⟩ := Zab h
 obtain ⟨_, hu4, h2⟩ := Zae h1
 obtain ⟨_, _, rfl, h3⟩ := Zar h2
 obtain ⟨rfl, h4⟩ := Zc4 h3
 obtain ⟨_, hu6, h5⟩ := Zav h4
 obtain ⟨_, _, rfl, h6⟩ := Zcr h5
 obtain ⟨_, _, rfl, h7⟩ := ZbB h6
 obtain ⟨rfl, h8⟩ := Zaw h7
 obtain ⟨_, rfl, h9⟩ := Zas h8
 obtain ⟨_, rfl, h10⟩ := Zca h9
 obtain ⟨_, _, _, rfl, h11⟩ := Zc9 h10
 obtain ⟨_, _, rfl, h12⟩ := Zar h11
 obtain ⟨_, rfl, h13⟩ := ZaE h12
 obtain ⟨_, rfl, h14⟩ := ZaE h13
 obtain ⟨rfl, h15⟩ := Zad h14
 exact ⟨_, _, _, _, _, _, Zbo hg rfl (Zag hu4 (Zag hu6 Za7)), rfl, h15⟩
def ZnU (N : Nat) : ZaH := (Zjk N).add [0, 1, 0, 1, 0, 1, 1, 1, 1, 1] fun _ E s K => ZnE (Zbk ZiS E) s fun e_1 x_2 e_3 f_4 x_5 x_6 => ZeQ N e_3 f_4 x_5 x_6 (Zfm K e_3 f_4 x_5 x_6) N e_1 x_2
theorem ZwP {N : Nat} (hC : Ok Tryd.prog C) (hΦ : Zaa Tryd.prog C (ZiF N)) : ZbH Tryd.prog C (ZnU N) ZmZ [0, 1, 0, 1, 0, 1, 1, 1, 1, 1] :=
 ZbL (Λi := Zjk N) (tr := false) (ks := ZiS) (kx := ZoT) (N := N) hC hΦ
  (Zah (by kernel_rfl))
  fun R E s K r h => by
   have h2 := ZaH.add_self.symm.trans h
   obtain ⟨_, _, _, _, _, _, he, rfl, h3⟩ := ZlL h2
   rw [he]
   exact (ZtP N _ _ _ _ _ N _ _).trans h3
theorem Zzu : Zbc ZrL [] = [([0, 1, 0, 1, 1, 1], ZnR), ([0, 1, 0, 1, 0, 1, 1, 1, 1, 1], ZmZ)] := by kernel_rfl
theorem ZCA {R : Type} (N : Nat) (e_1 : List V) (f_2 : Fl) (K : V → S → Option R) : ZaS C (ZiF N) (ZnU N) 19 Tryd.f19 [.list 1 e_1 f_2] [] K =
 Zlz N e_1 f_2 (fun e_3 => K (.list 1 e_3 .sh) []) := by kernel_rfl
theorem Ztx {N : Nat} (hC : Ok Tryd.prog C) (hΦ : Zaa Tryd.prog C (ZiF N)) : Za0 Tryd.prog C (ZnU N) ZrL [] :=
 ZaT ZrL [] (by
  rw [Zzu]
  intro p hp
  simp only [List.mem_cons, List.mem_nil_iff, or_false] at hp
  rcases hp with rfl | rfl
  ·exact (ZbH.add (ZvG hC hΦ) rfl)
  ·exact (ZwP hC hΦ))
theorem Zrr (hC : Ok Tryd.prog C) {N : Nat} (hΦ : Zaa Tryd.prog C (ZiF N)) : Zaa Tryd.prog C (Zn0 N) := by
 refine hΦ.add_pure rfl fun R vs K r h => ?_
 unfold ZyM at h
 obtain ⟨_, rfl, h1⟩ := Zas h
 obtain ⟨_, _, rfl, h2⟩ := Zar h1
 obtain ⟨_, h3⟩ := Zad h2
 refine Zao (fn := Tryd.f19) (c := ZrL) hC hΦ Tryd.func19 (by kernel_rfl) (by kernel_rfl) (Ztx (N := N) hC hΦ) rfl rfl ?_
 refine (ZCA N _ _ _).trans ?_
 rw [← Zqq]
 exact h3
def ZAa (N : Nat) : (R : Type) → List V → S → (V → S → Option R) → Option R := fun _ vs s K =>
 Zcu vs fun v'1 => Za6 1 v'1 fun e_1 f_2 => ZaP s <| Zwm N e_1 f_2 (fun w_3 b_4 => K (.tuple [.str w_3, .bool b_4]) [])
def Zwh (N : Nat) : Zan := (Zn0 N).add 20 (ZAa N)
def Ztj : Code := ZaG Tryd.f20
def ZnL : Code := (Zcc Ztj [] 0).2
def Zjf : List Nat := Zdo 27 [0, 6, 7, 8]
def ZoL : List Nat := Zdo 27 [0, 2, 3]
def ZgY (e_1 : List V) (f_2 : Fl) (e_3 : List V) (f_4 : Fl) (x_5 x_6 : Int) : List V := mkF 0 27 [(0, .list 1 e_1 f_2), (6, .list 1 e_3 f_4), (7, .int .i64 x_5), (8, .int .i64 x_6)]
def ZfP {R : Type} (K : X → List V → S → Option R) (e_1 : List V) (f_2 : Fl) (e_3 : List V) (f_4 : Fl) (x_5 : Int) : Unit → Option R := (fun _ => K .ret (mkF 0 27 [(0, .list 1 e_1 f_2), (2, .str (ByteArray.mk #[])), (3, .bool false)]) [])
def Zfs {R : Type} (K : X → List V → S → Option R) (e_1 : List V) (f_2 : Fl) (e_3 : List V) (f_4 : Fl) (x_5 : Int) : Unit → Option R := (fun _ => K (.exit 0) (mkF 0 27 [(0, .list 1 e_1 f_2)]) [])
abbrev Zjh {R : Type} (N : Nat) : Nat → List V → S → (X → List V → S → Option R) → Option R := fun n => ZgA C (Zn0 N) (Zac) ZnL [0, 1, 0, 1] false Zjf ZoL n R
theorem ZxG {R : Type} (N n : Nat) (e_1 : List V) (f_2 : Fl) (e_3 : List V) (f_4 : Fl) (x_5 : Int) (x_6 : Int) (K : X → List V → S → Option R) :
 Zjh N (n + 1) (ZgY e_1 f_2 e_3 f_4 x_5 x_6) [] K =
 ZcJ N e_1 f_2 e_3 f_4 x_5 (fun x_6 => Zjh N n (ZgY e_1 f_2 e_3 f_4 x_5 x_6) [] K) x_6 (ZfP K e_1 f_2 e_3 f_4 x_5) (Zfs K e_1 f_2 e_3 f_4 x_5) := by kernel_rfl
theorem Zs6 {R : Type} (N : Nat) (e_1 : List V) (f_2 : Fl) (e_3 : List V) (f_4 : Fl) (x_5 : Int) (K : X → List V → S → Option R) : ∀ (n : Nat) (x_6 : Int),
 Zjh N n (ZgY e_1 f_2 e_3 f_4 x_5 x_6) [] K = ZeS N e_1 f_2 e_3 f_4 x_5 (ZfP K e_1 f_2 e_3 f_4 x_5) (Zfs K e_1 f_2 e_3 f_4 x_5) n x_6
 | 0, _ => rfl
 | n + 1, x_6 => (ZxG N n e_1 f_2 e_3 f_4 x_5 x_6 K).trans (congrArg (fun nx => ZcJ N e_1 f_2 e_3 f_4 x_5 nx x_6 (ZfP K e_1 f_2 e_3 f_4 x_5) (Zfs K e_1 f_2 e_3 f_4 x_5)) (funext fun x_6 => Zs6 N e_1 f_2 e_3 f_4 x_5 K n x_6))
def ZmC {R : Type} (E : List V) (s : S) (k : List V → Fl → List V → Fl → Int → Int → Option R) : Option R :=
 Zaj (ZbA 27 [0, 6, 7, 8] E) <| Zeu E 0 1 fun e_1 f_2 => Zeu E 6 1 fun e_3 f_4 => ZbS E 7 .i64 fun x_5 => ZbS E 8 .i64 fun x_6 => ZaP s <| k e_1 f_2 e_3 f_4 x_5 x_6
theorem ZlB {R : Type} {E : List V} {s : S} {k : List V → Fl → List V → Fl → Int → Int → Option R} {r : R} (h : ZmC E s k = some r) : ∃ e_1 f_2 e_3 f_4 x_5 x_6, E = ZgY e_1 f_2 e_3 f_4 x_5 x_6 ∧ s = [] ∧ k e_1 f_2 e_3 f_4 x_5 x_6 = some r := by
 unfold ZmC at h
 obtain ⟨hg, h1⟩ := Zab h
 obtain ⟨_, _, hu0, h2⟩ := ZbR h1
 obtain ⟨_, _, hu6, h3⟩ := ZbR h2
 obtain ⟨_, hu7, h4⟩ := Zav h3
 obtain ⟨_, hu8, h5⟩ := Zav h4
 obtain ⟨rfl, h6⟩ := Zad h5
 exact ⟨_, _, _, _, _, _, Zbo hg rfl (Zag hu0 (Zag hu6 (Zag hu7 (Zag hu8 Za7)))), rfl, h6⟩
def ZnH (N : Nat) : ZaH := (Zac).add [0, 1, 0, 1] fun _ E s K => ZmC (Zbk Zjf E) s fun e_1 f_2 e_3 f_4 x_5 x_6 => ZeS N e_1 f_2 e_3 f_4 x_5 (ZfP K e_1 f_2 e_3 f_4 x_5) (Zfs K e_1 f_2 e_3 f_4 x_5) N x_6
theorem ZwA {N : Nat} (hC : Ok Tryd.prog C) (hΦ : Zaa Tryd.prog C (Zn0 N)) : ZbH Tryd.prog C (ZnH N) ZnL [0, 1, 0, 1] :=
 ZbL (Λi := Zac) (tr := false) (ks := Zjf) (kx := ZoL) (N := N) hC hΦ
  (Zah (by kernel_rfl))
  fun R E s K r h => by
   have h2 := ZaH.add_self.symm.trans h
   obtain ⟨_, _, _, _, _, _, he, rfl, h3⟩ := ZlB h2
   rw [he]
   exact (Zs6 N _ _ _ _ _ _ N _).trans h3
theorem Zzy : Zbc Ztj [] = [([0, 1, 0, 1], ZnL)] := by kernel_rfl
theorem ZBY {R : Type} (N : Nat) (e_1 : List V) (f_2 : Fl) (K : V → S → Option R) : ZaS C (Zn0 N) (ZnH N) 20 Tryd.f20 [.list 1 e_1 f_2] [] K =
 ZlY N e_1 f_2 (fun w_3 b_4 => K (.tuple [.str w_3, .bool b_4]) []) := by kernel_rfl
theorem Zto {N : Nat} (hC : Ok Tryd.prog C) (hΦ : Zaa Tryd.prog C (Zn0 N)) : Za0 Tryd.prog C (ZnH N) Ztj [] :=
 ZaT Ztj [] (by
  rw [Zzy]
  intro p hp
  simp only [List.mem_cons, List.mem_nil_iff, or_false] at hp
  rcases hp with rfl
  ·exact (ZwA hC hΦ))
theorem Zr8 (hC : Ok Tryd.prog C) {N : Nat} (hΦ : Zaa Tryd.prog C (Zn0 N)) : Zaa Tryd.prog C (Zwh N) := by
 refine hΦ.add_pure rfl fun R vs K r h => ?_
 unfold ZAa at h
 obtain ⟨_, rfl, h1⟩ := Zas h
 obtain ⟨_, _, rfl, h2⟩ := Zar h1
 obtain ⟨_, h3⟩ := Zad h2
 refine Zao (fn := Tryd.f20) (c := Ztj) hC hΦ Tryd.func20 (by kernel_rfl) (by kernel_rfl) (Zto (N := N) hC hΦ) rfl rfl ?_
 refine (ZBY N _ _ _).trans ?_
 rw [← Zpw]
 exact h3
def ZzB (N : Nat) : (R : Type) → List V → S → (V → S → Option R) → Option R := fun _ vs s K =>
 Zcu vs fun v'1 => Za6 1 v'1 fun e_1 f_2 => ZaP s <| Zwe N e_1 f_2 (fun w_3 => K (.str w_3) [])
def ZwK (N : Nat) : Zan := (Zwh N).add 21 (ZzB N)
def ZCJ : Code := ZaG Tryd.f21
theorem ZCZ {R : Type} (N : Nat) (e_1 : List V) (f_2 : Fl) (K : V → S → Option R) : ZaS C (Zwh N) (Zac) 21 Tryd.f21 [.list 1 e_1 f_2] [] K =
 Zk2 N e_1 f_2 (fun w_3 => K (.str w_3) []) := by kernel_rfl
theorem ZrW (hC : Ok Tryd.prog C) {N : Nat} (hΦ : Zaa Tryd.prog C (Zwh N)) : Zaa Tryd.prog C (ZwK N) := by
 refine hΦ.add_pure rfl fun R vs K r h => ?_
 unfold ZzB at h
 obtain ⟨_, rfl, h1⟩ := Zas h
 obtain ⟨_, _, rfl, h2⟩ := Zar h1
 obtain ⟨_, h3⟩ := Zad h2
 refine Zao (fn := Tryd.f21) (c := ZCJ) hC hΦ Tryd.func21 (by kernel_rfl) (by kernel_rfl) (Zah (Λ := Zac) (by kernel_rfl)) rfl rfl ?_
 refine (ZCZ N _ _ _).trans ?_
 rw [← ZpJ]
 exact h3
def Zzi (N : Nat) : (R : Type) → List V → S → (V → S → Option R) → Option R := fun _ vs s K =>
 Zcu vs fun v'1 => Za1 v'1 fun w_1 => ZaP s <| Zvx N w_1 (fun e_2 b_3 => K (.tuple [.list 1 e_2 .sh, .bool b_3]) [])
def Zu2 (N : Nat) : Zan := (ZwK N).add 22 (Zzi N)
def ZAY : Code := ZaG Tryd.f22
theorem ZCS {R : Type} (N : Nat) (w_1 : ByteArray) (K : V → S → Option R) : ZaS C (ZwK N) (Zac) 22 Tryd.f22 [.str w_1] [] K =
 Zl9 N w_1 (fun e_2 b_3 => K (.tuple [.list 1 e_2 .sh, .bool b_3]) []) := by kernel_rfl
theorem Zsf (hC : Ok Tryd.prog C) {N : Nat} (hΦ : Zaa Tryd.prog C (ZwK N)) : Zaa Tryd.prog C (Zu2 N) := by
 refine hΦ.add_pure rfl fun R vs K r h => ?_
 unfold Zzi at h
 obtain ⟨_, rfl, h1⟩ := Zas h
 obtain ⟨_, rfl, h2⟩ := Zam h1
 obtain ⟨_, h3⟩ := Zad h2
 refine Zao (fn := Tryd.f22) (c := ZAY) hC hΦ Tryd.func22 (by kernel_rfl) (by kernel_rfl) (Zah (Λ := Zac) (by kernel_rfl)) rfl rfl ?_
 refine (ZCS N _ _).trans ?_
 rw [← Zpp]
 exact h3
def Zy3 (N : Nat) : (R : Type) → List V → S → (V → S → Option R) → Option R := fun _ vs s K =>
 Zcu vs fun v'1 => Za6 1 v'1 fun e_1 f_2 => ZaP s <| Zw9 N e_1 f_2 (fun w_3 => K (.str w_3) [])
def Zoi (N : Nat) : Zan := (Zu2 N).add 23 (Zy3 N)
def ZCo : Code := ZaG Tryd.f23
theorem ZCg {R : Type} (N : Nat) (e_1 : List V) (f_2 : Fl) (K : V → S → Option R) : ZaS C (Zu2 N) (Zac) 23 Tryd.f23 [.list 1 e_1 f_2] [] K =
 Zk9 N e_1 f_2 (fun w_3 => K (.str w_3) []) := by kernel_rfl
theorem Zrn (hC : Ok Tryd.prog C) {N : Nat} (hΦ : Zaa Tryd.prog C (Zu2 N)) : Zaa Tryd.prog C (Zoi N) := by
 refine hΦ.add_pure rfl fun R vs K r h => ?_
 unfold Zy3 at h
 obtain ⟨_, rfl, h1⟩ := Zas h
 obtain ⟨_, _, rfl, h2⟩ := Zar h1
 obtain ⟨_, h3⟩ := Zad h2
 refine Zao (fn := Tryd.f23) (c := ZCo) hC hΦ Tryd.func23 (by kernel_rfl) (by kernel_rfl) (Zah (Λ := Zac) (by kernel_rfl)) rfl rfl ?_
 refine (ZCg N _ _ _).trans ?_
 rw [← Zpq]
 exact h3
def Zzn (N : Nat) : (R : Type) → List V → S → (V → S → Option R) → Option R := fun _ vs s K =>
 ZfR vs fun v'1 v'2 => Za6 1 v'1 fun e_1 f_2 => Za6 1 v'2 fun e_3 f_4 => ZaP s <| Zwq N e_1 f_2 e_3 f_4 (fun b_5 => K (.bool b_5) [])
def ZwL (N : Nat) : Zan := (Zoi N).add 24 (Zzn N)
def Zun : Code := ZaG Tryd.f24
def Zn1 : Code := (Zcc Zun [] 0).2
def Zjq : List Nat := Zdo 26 [0, 1, 12, 13]
def ZpH : List Nat := Zdo 26 [4]
def ZgD (e_1 : List V) (f_2 : Fl) (e_3 : List V) (f_4 : Fl) (x_5 x_6 : Int) : List V := mkF 0 26 [(0, .list 1 e_1 f_2), (1, .list 1 e_3 f_4), (12, .int .i64 x_5), (13, .int .i64 x_6)]
def Zfj {R : Type} (K : X → List V → S → Option R) (e_1 : List V) (f_2 : Fl) (e_3 : List V) (f_4 : Fl) (x_5 : Int) : Unit → Option R := (fun _ => K .ret (mkF 0 26 [(4, .bool false)]) [])
def ZfI {R : Type} (K : X → List V → S → Option R) (e_1 : List V) (f_2 : Fl) (e_3 : List V) (f_4 : Fl) (x_5 : Int) : Unit → Option R := (fun _ => K (.exit 0) (mkF 0 26 []) [])
abbrev Zi5 {R : Type} (N : Nat) : Nat → List V → S → (X → List V → S → Option R) → Option R := fun n => ZgA C (Zoi N) (Zac) Zn1 [0, 1, 0, 1, 1] false Zjq ZpH n R
theorem ZxB {R : Type} (N n : Nat) (e_1 : List V) (f_2 : Fl) (e_3 : List V) (f_4 : Fl) (x_5 : Int) (x_6 : Int) (K : X → List V → S → Option R) :
 Zi5 N (n + 1) (ZgD e_1 f_2 e_3 f_4 x_5 x_6) [] K =
 ZcD N e_1 f_2 e_3 f_4 x_5 (fun x_6 => Zi5 N n (ZgD e_1 f_2 e_3 f_4 x_5 x_6) [] K) x_6 (Zfj K e_1 f_2 e_3 f_4 x_5) (ZfI K e_1 f_2 e_3 f_4 x_5) := by kernel_rfl
theorem Zuz {R : Type} (N : Nat) (e_1 : List V) (f_2 : Fl) (e_3 : List V) (f_4 : Fl) (x_5 : Int) (K : X → List V → S → Option R) : ∀ (n : Nat) (x_6 : Int),
 Zi5 N n (ZgD e_1 f_2 e_3 f_4 x_5 x_6) [] K = ZeZ N e_1 f_2 e_3 f_4 x_5 (Zfj K e_1 f_2 e_3 f_4 x_5) (ZfI K e_1 f_2 e_3 f_4 x_5) n x_6
 | 0, _ => rfl
 | n + 1, x_6 => (ZxB N n e_1 f_2 e_3 f_4 x_5 x_6 K).trans (congrArg (fun nx => ZcD N e_1 f_2 e_3 f_4 x_5 nx x_6 (Zfj K e_1 f_2 e_3 f_4 x_5) (ZfI K e_1 f_2 e_3 f_4 x_5)) (funext fun x_6 => Zuz N e_1 f_2 e_3 f_4 x_5 K n x_6))
def Znl {R : Type} (E : List V) (s : S) (k : List V → Fl → List V → Fl → Int → Int → Option R) : Option R :=
 Zaj (ZbA 26 [0, 1, 12, 13] E) <| Zeu E 0 1 fun e_1 f_2 => Zeu E 1 1 fun e_3 f_4 => ZbS E 12 .i64 fun x_5 => ZbS E 13 .i64 fun x_6 => ZaP s <| k e_1 f_2 e_3 f_4 x_5 x_6
theorem Zj4 {R : Type} {E : List V} {s : S} {k : List V → Fl → List V → Fl → Int → Int → Option R} {r : R} (h : Znl E s k = some r) : ∃ e_1 f_2 e_3 f_4 x_5 x_6, E = ZgD e_1 f_2 e_3 f_4 x_5 x_6 ∧ s = [] ∧ k e_1 f_2 e_3 f_4 x_5 x_6 = some r := by
 unfold Znl at h
 obtain ⟨hg, h1⟩ := Zab h
 obtain ⟨_, _, hu0, h2⟩ := ZbR h1
 obtain ⟨_, _, hu1, h3⟩ := ZbR h2
 obtain ⟨_, hu12, h4⟩ := Zav h3
 obtain ⟨_, hu13, h5⟩ := Zav h4
 obtain ⟨rfl, h6⟩ := Zad h5
 exact ⟨_, _, _, _, _, _, Zbo hg rfl (Zag hu0 (Zag hu1 (Zag hu12 (Zag hu13 Za7)))), rfl, h6⟩
def Zom (N : Nat) : ZaH := (Zac).add [0, 1, 0, 1, 1] fun _ E s K => Znl (Zbk Zjq E) s fun e_1 f_2 e_3 f_4 x_5 x_6 => ZeZ N e_1 f_2 e_3 f_4 x_5 (Zfj K e_1 f_2 e_3 f_4 x_5) (ZfI K e_1 f_2 e_3 f_4 x_5) N x_6
theorem Zws {N : Nat} (hC : Ok Tryd.prog C) (hΦ : Zaa Tryd.prog C (Zoi N)) : ZbH Tryd.prog C (Zom N) Zn1 [0, 1, 0, 1, 1] :=
 ZbL (Λi := Zac) (tr := false) (ks := Zjq) (kx := ZpH) (N := N) hC hΦ
  (Zah (by kernel_rfl))
  fun R E s K r h => by
   have h2 := ZaH.add_self.symm.trans h
   obtain ⟨_, _, _, _, _, _, he, rfl, h3⟩ := Zj4 h2
   rw [he]
   exact (Zuz N _ _ _ _ _ _ N _).trans h3
theorem Zz8 : Zbc Zun [] = [([0, 1, 0, 1, 1], Zn1)] := by kernel_rfl
theorem ZBq {R : Type} (N : Nat) (e_1 : List V) (f_2 : Fl) (e_3 : List V) (f_4 : Fl) (K : V → S → Option R) : ZaS C (Zoi N) (Zom N) 24 Tryd.f24 [.list 1 e_1 f_2, .list 1 e_3 f_4] [] K =
 Zkc N e_1 f_2 e_3 f_4 (fun b_5 => K (.bool b_5) []) := by kernel_rfl
theorem ZtE {N : Nat} (hC : Ok Tryd.prog C) (hΦ : Zaa Tryd.prog C (Zoi N)) : Za0 Tryd.prog C (Zom N) Zun [] :=
 ZaT Zun [] (by
  rw [Zz8]
  intro p hp
  simp only [List.mem_cons, List.mem_nil_iff, or_false] at hp
  rcases hp with rfl
  ·exact (Zws hC hΦ))
theorem ZrV (hC : Ok Tryd.prog C) {N : Nat} (hΦ : Zaa Tryd.prog C (Zoi N)) : Zaa Tryd.prog C (ZwL N) := by
 refine hΦ.add_pure rfl fun R vs K r h => ?_
 unfold Zzn at h
 obtain ⟨_, _, rfl, h1⟩ := ZaR h
 obtain ⟨_, _, rfl, h2⟩ := Zar h1
 obtain ⟨_, _, rfl, h3⟩ := Zar h2
 obtain ⟨_, h4⟩ := Zad h3
 refine Zao (fn := Tryd.f24) (c := Zun) hC hΦ Tryd.func24 (by kernel_rfl) (by kernel_rfl) (ZtE (N := N) hC hΦ) rfl rfl ?_
 refine (ZBq N _ _ _ _ _).trans ?_
 rw [← ZoD]
 exact h4
def ZAn (N : Nat) : (R : Type) → List V → S → (V → S → Option R) → Option R := fun _ vs s K =>
 Zcu vs fun v'1 => Za1 v'1 fun w_1 => ZaP s <| ZwT N w_1 (fun b_2 => K (.bool b_2) [])
def Zja (N : Nat) : Zan := (ZwL N).add 25 (ZAn N)
def ZBL : Code := ZaG Tryd.f25
theorem ZBm {R : Type} (N : Nat) (w_1 : ByteArray) (K : V → S → Option R) : ZaS C (ZwL N) (Zac) 25 Tryd.f25 [.str w_1] [] K =
 ZkZ N w_1 (fun b_2 => K (.bool b_2) []) := by kernel_rfl
theorem ZqN (hC : Ok Tryd.prog C) {N : Nat} (hΦ : Zaa Tryd.prog C (ZwL N)) : Zaa Tryd.prog C (Zja N) := by
 refine hΦ.add_pure rfl fun R vs K r h => ?_
 unfold ZAn at h
 obtain ⟨_, rfl, h1⟩ := Zas h
 obtain ⟨_, rfl, h2⟩ := Zam h1
 obtain ⟨_, h3⟩ := Zad h2
 refine Zao (fn := Tryd.f25) (c := ZBL) hC hΦ Tryd.func25 (by kernel_rfl) (by kernel_rfl) (Zah (Λ := Zac) (by kernel_rfl)) rfl rfl ?_
 refine (ZBm N _ _).trans ?_
 rw [← Zpm]
 exact h3
def ZAc (N : Nat) : (R : Type) → List V → S → (V → S → Option R) → Option R := fun _ vs s K =>
 ZfR vs fun v'1 v'2 => Za6 1 v'1 fun e_1 f_2 => Za6 1 v'2 fun e_3 f_4 => ZaP s <| Zy7 N e_1 f_2 e_3 f_4 (fun b_5 => K (.bool b_5) [])
def ZB4 (N : Nat) : Zan := (Zja N).add 3 (ZAc N)
def ZsD : Code := ZaG Tryd.f3
def Zxp (e_1 : List V) (f_2 : Fl) (e_3 : List V) (f_4 : Fl) (v_1005 v_1006 v_1007 v_1008 v_1009 v_1010 v_1011 v_1012 v_1013 v_1014 v_1015 v_1016 v_1017 v_1018 v_1019 v_1020 v_1021 v_1022 v_1023 v_1024 v_1025 v_1039 v_1041 v_1042 v_1043 v_1044 v_1045 v_1046 v_1047 v_1048 v_1049 v_1050 v_1051 v_1052 v_1053 v_1054 v_1055 v_1056 v_1057 v_1058 v_1059 v_1060 v_1061 v_1062 v_1063 v_1064 v_1065 v_1066 v_1067 v_1068 v_1069 v_1070 v_1071 v_1072 v_1073 v_1074 v_1076 v_1077 v_1078 v_1079 v_1081 v_1082 v_1083 v_1084 v_1086 v_1087 v_1088 v_1089 v_1091 v_1092 v_1093 v_1094 v_1096 v_1097 v_1098 v_1099 v_1101 v_1102 v_1103 v_1104 v_1106 v_1107 v_1108 v_1109 v_1110 v_1111 v_1113 v_1114 v_1115 v_1116 v_1117 v_1118 v_1119 v_1120 v_1121 v_1122 v_1123 v_1124 v_1125 v_1126 v_1127 v_1128 v_1129 v_1130 v_1131 v_1132 v_1133 v_1134 v_1135 v_1136 v_1137 v_1138 v_1139 v_1140 v_1141 v_1142 v_1143 v_1144 v_1145 v_1146 v_1147 v_1148 v_1149 v_1150 v_1151 v_1152 v_1153 v_1154 v_1155 v_1156 v_1157 v_1158 v_1159 v_1160 v_1161 v_1162 v_1163 v_1164 v_1165 v_1166 v_1167 v_1168 v_1169 v_1170 v_1171 v_1172 v_1173 v_1174 v_1175 v_1176 v_1177 v_1178 : V) : List V := mkF 0 230 [(0, .list 1 e_1 f_2), (1, .list 1 e_3 f_4), (4, .bool false), (5, v_1005), (6, v_1006), (7, v_1007), (8, v_1008), (9, v_1009), (10, v_1010), (11, v_1011), (12, v_1012), (13, v_1013), (14, v_1014), (15, v_1015), (16, v_1016), (17, v_1017), (18, v_1018), (19, v_1019), (20, v_1020), (21, v_1021), (22, v_1022), (23, v_1023), (24, v_1024), (25, v_1025), (37, .list 1 e_1 f_2.noOwn), (38, .list 1 e_3 f_4.noOwn), (39, v_1039), (40, .list 1 e_1 f_2.noOwn), (41, v_1041), (42, v_1042), (43, v_1043), (44, v_1044), (45, v_1045), (46, v_1046), (47, v_1047), (48, v_1048), (49, v_1049), (50, v_1050), (51, v_1051), (52, v_1052), (53, v_1053), (54, v_1054), (55, v_1055), (56, v_1056), (57, v_1057), (58, v_1058), (59, v_1059), (60, v_1060), (61, v_1061), (62, v_1062), (63, v_1063), (64, v_1064), (65, v_1065), (66, v_1066), (67, v_1067), (68, v_1068), (69, v_1069), (70, v_1070), (71, v_1071), (72, v_1072), (73, v_1073), (74, v_1074), (75, .bool false), (76, v_1076), (77, v_1077), (78, v_1078), (79, v_1079), (80, .bool false), (81, v_1081), (82, v_1082), (83, v_1083), (84, v_1084), (85, .bool false), (86, v_1086), (87, v_1087), (88, v_1088), (89, v_1089), (90, .bool false), (91, v_1091), (92, v_1092), (93, v_1093), (94, v_1094), (95, .bool false), (96, v_1096), (97, v_1097), (98, v_1098), (99, v_1099), (100, .bool false), (101, v_1101), (102, v_1102), (103, v_1103), (104, v_1104), (105, .bool false), (106, v_1106), (107, v_1107), (108, v_1108), (109, v_1109), (110, v_1110), (111, v_1111), (112, .bool false), (113, v_1113), (114, v_1114), (115, v_1115), (116, v_1116), (117, v_1117), (118, v_1118), (119, v_1119), (120, v_1120), (121, v_1121), (122, v_1122), (123, v_1123), (124, v_1124), (125, v_1125), (126, v_1126), (127, v_1127), (128, v_1128), (129, v_1129), (130, v_1130), (131, v_1131), (132, v_1132), (133, v_1133), (134, v_1134), (135, v_1135), (136, v_1136), (137, v_1137), (138, v_1138), (139, v_1139), (140, v_1140), (141, v_1141), (142, v_1142), (143, v_1143), (144, v_1144), (145, v_1145), (146, v_1146), (147, v_1147), (148, v_1148), (149, v_1149), (150, v_1150), (151, v_1151), (152, v_1152), (153, v_1153), (154, v_1154), (155, v_1155), (156, v_1156), (157, v_1157), (158, v_1158), (159, v_1159), (160, v_1160), (161, v_1161), (162, v_1162), (163, v_1163), (164, v_1164), (165, v_1165), (166, v_1166), (167, v_1167), (168, v_1168), (169, v_1169), (170, v_1170), (171, v_1171), (172, v_1172), (173, v_1173), (174, v_1174), (175, v_1175), (176, v_1176), (177, v_1177), (178, v_1178)]
theorem ZAQ {R : Type} (N : Nat) (e_1 : List V) (f_2 : Fl) (e_3 : List V) (f_4 : Fl) (K : V → S → Option R) (T : Code) : ZhT C (Zja N) Zac (Ziw 11 ZsD T) [] ([.list 1 e_1 f_2, .list 1 e_3 f_4] ++ List.replicate (Tryd.f3.ntmps - ([.list 1 e_1 f_2, .list 1 e_3 f_4] : List V).length) .dead) [] (Zza C 3 Tryd.f3 K) =
 Zkv N e_1 f_2 e_3 f_4 (fun v_1005 v_1006 v_1007 v_1008 v_1009 v_1010 v_1011 v_1012 v_1013 v_1014 v_1015 v_1016 v_1017 v_1018 v_1019 v_1020 v_1021 v_1022 v_1023 v_1024 v_1025 v_1039 v_1041 v_1042 v_1043 v_1044 v_1045 v_1046 v_1047 v_1048 v_1049 v_1050 v_1051 v_1052 v_1053 v_1054 v_1055 v_1056 v_1057 v_1058 v_1059 v_1060 v_1061 v_1062 v_1063 v_1064 v_1065 v_1066 v_1067 v_1068 v_1069 v_1070 v_1071 v_1072 v_1073 v_1074 v_1076 v_1077 v_1078 v_1079 v_1081 v_1082 v_1083 v_1084 v_1086 v_1087 v_1088 v_1089 v_1091 v_1092 v_1093 v_1094 v_1096 v_1097 v_1098 v_1099 v_1101 v_1102 v_1103 v_1104 v_1106 v_1107 v_1108 v_1109 v_1110 v_1111 v_1113 v_1114 v_1115 v_1116 v_1117 v_1118 v_1119 v_1120 v_1121 v_1122 v_1123 v_1124 v_1125 v_1126 v_1127 v_1128 v_1129 v_1130 v_1131 v_1132 v_1133 v_1134 v_1135 v_1136 v_1137 v_1138 v_1139 v_1140 v_1141 v_1142 v_1143 v_1144 v_1145 v_1146 v_1147 v_1148 v_1149 v_1150 v_1151 v_1152 v_1153 v_1154 v_1155 v_1156 v_1157 v_1158 v_1159 v_1160 v_1161 v_1162 v_1163 v_1164 v_1165 v_1166 v_1167 v_1168 v_1169 v_1170 v_1171 v_1172 v_1173 v_1174 v_1175 v_1176 v_1177 v_1178 => ZhT C (Zja N) Zac T [1, 1, 1, 1, 1, 1, 1, 1, 1, 1, 1] (Zxp e_1 f_2 e_3 f_4 v_1005 v_1006 v_1007 v_1008 v_1009 v_1010 v_1011 v_1012 v_1013 v_1014 v_1015 v_1016 v_1017 v_1018 v_1019 v_1020 v_1021 v_1022 v_1023 v_1024 v_1025 v_1039 v_1041 v_1042 v_1043 v_1044 v_1045 v_1046 v_1047 v_1048 v_1049 v_1050 v_1051 v_1052 v_1053 v_1054 v_1055 v_1056 v_1057 v_1058 v_1059 v_1060 v_1061 v_1062 v_1063 v_1064 v_1065 v_1066 v_1067 v_1068 v_1069 v_1070 v_1071 v_1072 v_1073 v_1074 v_1076 v_1077 v_1078 v_1079 v_1081 v_1082 v_1083 v_1084 v_1086 v_1087 v_1088 v_1089 v_1091 v_1092 v_1093 v_1094 v_1096 v_1097 v_1098 v_1099 v_1101 v_1102 v_1103 v_1104 v_1106 v_1107 v_1108 v_1109 v_1110 v_1111 v_1113 v_1114 v_1115 v_1116 v_1117 v_1118 v_1119 v_1120 v_1121 v_1122 v_1123 v_1124 v_1125 v_1126 v_1127 v_1128 v_1129 v_1130 v_1131 v_1132 v_1133 v_1134 v_1135 v_1136 v_1137 v_1138 v_1139 v_1140 v_1141 v_1142 v_1143 v_1144 v_1145 v_1146 v_1147 v_1148 v_1149 v_1150 v_1151 v_1152 v_1153 v_1154 v_1155 v_1156 v_1157 v_1158 v_1159 v_1160 v_1161 v_1162 v_1163 v_1164 v_1165 v_1166 v_1167 v_1168 v_1169 v_1170 v_1171 v_1172 v_1173 v_1174 v_1175 v_1176 v_1177 v_1178) [] (Zza C 3 Tryd.f3 K)) (fun b_5 => K (.bool b_5) []) := by kernel_rfl
theorem ZBn {R : Type} (N : Nat) (e_1 : List V) (f_2 : Fl) (e_3 : List V) (f_4 : Fl) (v_1005 v_1006 v_1007 v_1008 v_1009 v_1010 v_1011 v_1012 v_1013 v_1014 v_1015 v_1016 v_1017 v_1018 v_1019 v_1020 v_1021 v_1022 v_1023 v_1024 v_1025 v_1039 v_1041 v_1042 v_1043 v_1044 v_1045 v_1046 v_1047 v_1048 v_1049 v_1050 v_1051 v_1052 v_1053 v_1054 v_1055 v_1056 v_1057 v_1058 v_1059 v_1060 v_1061 v_1062 v_1063 v_1064 v_1065 v_1066 v_1067 v_1068 v_1069 v_1070 v_1071 v_1072 v_1073 v_1074 v_1076 v_1077 v_1078 v_1079 v_1081 v_1082 v_1083 v_1084 v_1086 v_1087 v_1088 v_1089 v_1091 v_1092 v_1093 v_1094 v_1096 v_1097 v_1098 v_1099 v_1101 v_1102 v_1103 v_1104 v_1106 v_1107 v_1108 v_1109 v_1110 v_1111 v_1113 v_1114 v_1115 v_1116 v_1117 v_1118 v_1119 v_1120 v_1121 v_1122 v_1123 v_1124 v_1125 v_1126 v_1127 v_1128 v_1129 v_1130 v_1131 v_1132 v_1133 v_1134 v_1135 v_1136 v_1137 v_1138 v_1139 v_1140 v_1141 v_1142 v_1143 v_1144 v_1145 v_1146 v_1147 v_1148 v_1149 v_1150 v_1151 v_1152 v_1153 v_1154 v_1155 v_1156 v_1157 v_1158 v_1159 v_1160 v_1161 v_1162 v_1163 v_1164 v_1165 v_1166 v_1167 v_1168 v_1169 v_1170 v_1171 v_1172 v_1173 v_1174 v_1175 v_1176 v_1177 v_1178 : V) (K : V → S → Option R) : ZhT C (Zja N) Zac (Zhr 11 ZsD) [1, 1, 1, 1, 1, 1, 1, 1, 1, 1, 1] (Zxp e_1 f_2 e_3 f_4 v_1005 v_1006 v_1007 v_1008 v_1009 v_1010 v_1011 v_1012 v_1013 v_1014 v_1015 v_1016 v_1017 v_1018 v_1019 v_1020 v_1021 v_1022 v_1023 v_1024 v_1025 v_1039 v_1041 v_1042 v_1043 v_1044 v_1045 v_1046 v_1047 v_1048 v_1049 v_1050 v_1051 v_1052 v_1053 v_1054 v_1055 v_1056 v_1057 v_1058 v_1059 v_1060 v_1061 v_1062 v_1063 v_1064 v_1065 v_1066 v_1067 v_1068 v_1069 v_1070 v_1071 v_1072 v_1073 v_1074 v_1076 v_1077 v_1078 v_1079 v_1081 v_1082 v_1083 v_1084 v_1086 v_1087 v_1088 v_1089 v_1091 v_1092 v_1093 v_1094 v_1096 v_1097 v_1098 v_1099 v_1101 v_1102 v_1103 v_1104 v_1106 v_1107 v_1108 v_1109 v_1110 v_1111 v_1113 v_1114 v_1115 v_1116 v_1117 v_1118 v_1119 v_1120 v_1121 v_1122 v_1123 v_1124 v_1125 v_1126 v_1127 v_1128 v_1129 v_1130 v_1131 v_1132 v_1133 v_1134 v_1135 v_1136 v_1137 v_1138 v_1139 v_1140 v_1141 v_1142 v_1143 v_1144 v_1145 v_1146 v_1147 v_1148 v_1149 v_1150 v_1151 v_1152 v_1153 v_1154 v_1155 v_1156 v_1157 v_1158 v_1159 v_1160 v_1161 v_1162 v_1163 v_1164 v_1165 v_1166 v_1167 v_1168 v_1169 v_1170 v_1171 v_1172 v_1173 v_1174 v_1175 v_1176 v_1177 v_1178) [] (Zza C 3 Tryd.f3 K) =
 ZpL N e_1 f_2 e_3 f_4 (fun b_5 => K (.bool b_5) []) := by kernel_rfl
theorem b_zbx {R : Type} (N : Nat) (e_1 : List V) (f_2 : Fl) (e_3 : List V) (f_4 : Fl) (K : V → S → Option R) : ZaS C (Zja N) Zac 3 Tryd.f3 [.list 1 e_1 f_2, .list 1 e_3 f_4] [] K =
 ZhR N e_1 f_2 e_3 f_4 (fun b_5 => K (.bool b_5) []) := by
 refine (Zut (c := ZsD) (by kernel_rfl)).trans ?_
 unfold ZhR
 refine (congrArg (fun c => ZhT C (Zja N) Zac c [] ([.list 1 e_1 f_2, .list 1 e_3 f_4] ++ List.replicate (Tryd.f3.ntmps - ([.list 1 e_1 f_2, .list 1 e_3 f_4] : List V).length) .dead) [] (Zza C 3 Tryd.f3 K)) (ZjH 11 ZsD)).symm.trans ?_
 refine (ZAQ N _ _ _ _ K _).trans ?_
 refine congrArg (fun j => Zkv N e_1 f_2 e_3 f_4 j (fun b_5 => K (.bool b_5) [])) ?_
 funext v_1005 v_1006 v_1007 v_1008 v_1009 v_1010 v_1011 v_1012 v_1013 v_1014 v_1015 v_1016 v_1017 v_1018 v_1019 v_1020 v_1021 v_1022 v_1023 v_1024 v_1025 v_1039 v_1041 v_1042 v_1043 v_1044 v_1045 v_1046 v_1047 v_1048 v_1049 v_1050 v_1051 v_1052 v_1053 v_1054 v_1055 v_1056 v_1057 v_1058 v_1059 v_1060 v_1061 v_1062 v_1063 v_1064 v_1065 v_1066 v_1067 v_1068 v_1069 v_1070 v_1071 v_1072 v_1073 v_1074 v_1076 v_1077 v_1078 v_1079 v_1081 v_1082 v_1083 v_1084 v_1086 v_1087 v_1088 v_1089 v_1091 v_1092 v_1093 v_1094 v_1096 v_1097 v_1098 v_1099 v_1101 v_1102 v_1103 v_1104 v_1106 v_1107 v_1108 v_1109 v_1110 v_1111 v_1113 v_1114 v_1115 v_1116 v_1117 v_1118 v_1119 v_1120 v_1121 v_1122 v_1123 v_1124 v_1125 v_1126 v_1127 v_1128 v_1129 v_1130 v_1131 v_1132 v_1133 v_1134 v_1135 v_1136 v_1137 v_1138 v_1139 v_1140 v_1141 v_1142 v_1143 v_1144 v_1145 v_1146 v_1147 v_1148 v_1149 v_1150 v_1151 v_1152 v_1153 v_1154 v_1155 v_1156 v_1157 v_1158 v_1159 v_1160 v_1161 v_1162 v_1163 v_1164 v_1165 v_1166 v_1167 v_1168 v_1169 v_1170 v_1171 v_1172 v_1173 v_1174 v_1175 v_1176 v_1177 v_1178
 skip
 exact ZBn N _ _ _ _ _ _ _ _ _ _ _ _ _ _ _ _ _ _ _ _ _ _ _ _ _ _ _ _ _ _ _ _ _ _ _ _ _ _ _ _ _ _ _ _ _ _ _ _ _ _ _ _ _ _ _ _ _ _ _ _ _ _ _ _ _ _ _ _ _ _ _ _ _ _ _ _ _ _ _ _ _ _ _ _ _ _ _ _ _ _ _ _ _ _ _ _ _ _ _ _ _ _ _ _ _ _ _ _ _ _ _ _ _ _ _ _ _ _ _ _ _ _ _ _ _ _ _ _ _ _ _ _ _ _ _ _ _ _ _ _ _ _ _ _ _ _ _ _ _ _ _ _ _ _ _ _ K
theorem ZyA (hC : Ok Tryd.prog C) {N : Nat} (hΦ : Zaa Tryd.prog C (Zja N)) : Zaa Tryd.prog C (ZB4 N) := by
 refine hΦ.add_pure rfl fun R vs K r h => ?_
 unfold ZAc at h
 obtain ⟨_, _, rfl, h1⟩ := ZaR h
 obtain ⟨_, _, rfl, h2⟩ := Zar h1
 obtain ⟨_, _, rfl, h3⟩ := Zar h2
 obtain ⟨_, h4⟩ := Zad h3
 refine Zao (fn := Tryd.f3) (c := ZsD) hC hΦ Tryd.func3 (by kernel_rfl) (by kernel_rfl) (Zah (Λ := Zac) (by kernel_rfl)) rfl rfl ?_
 refine (b_zbx N _ _ _ _ _).trans ?_
 rw [← ZvN]
 exact h4
theorem callee_zbx_prev (hC : Ok Tryd.prog C) (N : Nat) : Zaa Tryd.prog C (Zja N) :=
 have h0 := Zm7 Tryd.prog C
 have h1 := Zrt hC (N := N) h0
 have h2 := Zsg hC (N := N) h1
 have h3 := Zsh hC (N := N) h2
 have h4 := ZrZ hC (N := N) h3
 have h5 := Zr7 hC (N := N) h4
 have h6 := ZqL hC (N := N) h5
 have h7 := ZqC hC (N := N) h6
 have h8 := Zru hC (N := N) h7
 have h9 := ZrM hC (N := N) h8
 have h10 := Zrp hC (N := N) h9
 have h11 := ZrU hC (N := N) h10
 have h12 := ZqE hC (N := N) h11
 have h13 := Zra hC (N := N) h12
 have h14 := Zr0 hC (N := N) h13
 have h15 := ZrB hC (N := N) h14
 have h16 := ZrE hC (N := N) h15
 have h17 := ZrX hC (N := N) h16
 have h18 := ZrI hC (N := N) h17
 have h19 := ZrA hC (N := N) h18
 have h20 := Zro hC (N := N) h19
 have h21 := ZqI hC (N := N) h20
 have h22 := ZqY hC (N := N) h21
 have h23 := Zr5 hC (N := N) h22
 have h24 := Zq5 hC (N := N) h23
 have h25 := ZrR hC (N := N) h24
 have h26 := ZqZ hC (N := N) h25
 have h27 := ZqB hC (N := N) h26
 have h28 := Zq0 hC (N := N) h27
 have h29 := Zr2 hC (N := N) h28
 have h30 := Zr4 hC (N := N) h29
 have h31 := Zsc hC (N := N) h30
 have h32 := ZrK hC (N := N) h31
 have h33 := Zrq hC (N := N) h32
 have h34 := ZqP hC (N := N) h33
 have h35 := ZrY hC (N := N) h34
 have h36 := Zr3 hC (N := N) h35
 have h37 := Zri hC (N := N) h36
 have h38 := ZqU hC (N := N) h37
 have h39 := Zsa hC (N := N) h38
 have h40 := ZrQ hC (N := N) h39
 have h41 := ZqO hC (N := N) h40
 have h42 := Zsi hC (N := N) h41
 have h43 := Zrl hC (N := N) h42
 have h44 := Zrm hC (N := N) h43
 have h45 := ZqT hC (N := N) h44
 have h46 := Zrd hC (N := N) h45
 have h47 := Zq1 hC (N := N) h46
 have h48 := Zrg hC (N := N) h47
 have h49 := Zrk hC (N := N) h48
 have h50 := Zr9 hC (N := N) h49
 have h51 := Zq6 hC (N := N) h50
 have h52 := Zrf hC (N := N) h51
 have h53 := Zq9 hC (N := N) h52
 have h54 := Zrw hC (N := N) h53
 have h55 := Zrz hC (N := N) h54
 have h56 := ZqV hC (N := N) h55
 have h57 := Zse hC (N := N) h56
 have h58 := Zr1 hC (N := N) h57
 have h59 := Zq4 hC (N := N) h58
 have h60 := ZqF hC (N := N) h59
 have h61 := ZrT hC (N := N) h60
 have h62 := ZqQ hC (N := N) h61
 have h63 := ZqK hC (N := N) h62
 have h64 := ZqA hC (N := N) h63
 have h65 := Zq8 hC (N := N) h64
 have h66 := Zrr hC (N := N) h65
 have h67 := Zr8 hC (N := N) h66
 have h68 := ZrW hC (N := N) h67
 have h69 := Zsf hC (N := N) h68
 have h70 := Zrn hC (N := N) h69
 have h71 := ZrV hC (N := N) h70
 have h72 := ZqN hC (N := N) h71
 h72
end
end Go.VM.VL
