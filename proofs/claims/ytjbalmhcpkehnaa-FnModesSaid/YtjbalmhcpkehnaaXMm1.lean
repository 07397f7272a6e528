/- The functions of the program, told plainly: what each computes, as a function of its letters; and that the machine does the same. Printed by vgen.py, a program of this session's own. -/
import Derived.Test.YtjbalmhcpkehnaaXM
import Derived.WalkKit
import Derived.Lib.Walk
import Derived.Lib.SliceRun
import Derived.Lib.AppendZerosOnto
import Derived.Test.YtjbalmhcpkehnaaTryShelf
import Derived.Test.YtjbalmhcpkehnaaProg
import Derived.KernelRfl
set_option linter.unusedVariables false
namespace Go.VM.VL
noncomputable section
open Go.Proofs
def rl (t : TypeId) : Bool := [].any (Nat.beq t)
def mode (f : FuncId) : Mode :=
 match [19, 20, 27, 28, 29, 33, 34].any (Nat.beq f) with
 | true => .shared
 | false => .pure
abbrev C : Cfg := Cfg.of Try.prog 9 mode
def Zrs (N : Nat) : (R : Type) → List V → S → (V → S → Option R) → Option R := fun _ vs s K =>
 ZkD vs fun v'1 v'2 => ZbD 1 v'1 fun e_1 f_2 => ZbD 1 v'2 fun e_3 f_4 => Zba s <| Zpn N e_1 f_2 e_3 f_4 (fun b_5 => K (.bool b_5) [])
def Zov (N : Nat) : Zar := (Zcl).add 4 (Zrs N)
def Zs6 : Code := ZaU Try.f4
theorem Zsp {R : Type} (N : Nat) (e_1 : List V) (f_2 : Fl) (e_3 : List V) (f_4 : Fl) (K : V → S → Option R) : Za9 C (Zcl) (Zae) 4 Try.f4 [.list 1 e_1 f_2, .list 1 e_3 f_4] [] K =
 Ziy N e_1 f_2 e_3 f_4 (fun b_5 => K (.bool b_5) []) := by kernel_rfl
theorem ZlN (hC : Ok Try.prog C) {N : Nat} (hΦ : Zab Try.prog C (Zcl)) : Zab Try.prog C (Zov N) := by
 refine hΦ.add_pure rfl fun R vs K r h => ?_
 unfold Zrs at h
 obtain ⟨_, _, rfl, h1⟩ := Zbl h
 obtain ⟨_, _, rfl, h2⟩ := ZaH h1
 obtain ⟨_, _, rfl, h3⟩ := ZaH h2
 obtain ⟨_, h4⟩ := Zak h3
 refine Zaz (fn := Try.f4) (c := Zs6) hC hΦ Try.func4 (by kernel_rfl) (by kernel_rfl) (Zam (Λ := Zae) (by kernel_rfl)) rfl rfl ?_
 refine (Zsp N _ _ _ _ _).trans ?_
 rw [← ZkS]
 exact h4
def Zrw (N : Nat) : (R : Type) → List V → S → (V → S → Option R) → Option R := fun _ vs s K =>
 Zdm vs fun v'1 => ZgV v'1 fun o0 k'3 k'4 k'5 => isN k'3 0 <| isN k'4 0 <| isN k'5 0 <| Zps s o0 0 fun o'6 => ZnX o'6 3 36 fun e'7 k'8 => isN k'8 0 <| Zdm e'7 fun v'9 => Za5 v'9 fun e_1 f_2 x_3 x_4 => Zal (Za1 [o0]) <| Zal (okI 1 [true] [some ⟨[.agg [.list 1 e_1 f_2, .int .i64 x_3, .int .u64 x_4]], 3, 36, 0⟩]) <| ZlM N e_1 f_2 x_3 x_4 (fun x_901 e_902 f_903 x_904 x_905 => FK s [o0] rl K (.int .i64 x_901) [some ⟨[.agg [.list 1 e_902 f_903, .int .i64 x_904, .int .u64 x_905]], 3, 36, 0⟩])
def Zoo (N : Nat) : Zar := (Zov N).add 34 (Zrw N)
def ZsG : Code := ZaU Try.f34
theorem Zth {R : Type} (N : Nat) (e_1 : List V) (f_2 : Fl) (x_3 x_4 : Int) (K : V → S → Option R) : Za9 C (Zov N) (Zae) 34 Try.f34 [.ptr 0 0 0 0] [some ⟨[.agg [.list 1 e_1 f_2, .int .i64 x_3, .int .u64 x_4]], 3, 36, 0⟩] (GK rl 1 K) =
 ZfY N e_1 f_2 x_3 x_4 (fun x_901 e_902 f_903 x_904 x_905 => K (.int .i64 x_901) [some ⟨[.agg [.list 1 e_902 f_903, .int .i64 x_904, .int .u64 x_905]], 3, 36, 0⟩]) := by kernel_rfl
theorem Zl9 (hC : Ok Try.prog C) {N : Nat} (hΦ : Zab Try.prog C (Zov N)) : Zab Try.prog C (Zoo N) := by
 refine hΦ.add_shared rfl fun R vs s K r h => ?_
 unfold Zrw at h
 obtain ⟨_, rfl, h1⟩ := Zay h
 obtain ⟨o0, _, _, _, rfl, h2⟩ := ZbN h1
 obtain ⟨rfl, h3⟩ := ZaD h2
 obtain ⟨rfl, h4⟩ := ZaD h3
 obtain ⟨rfl, h5⟩ := ZaD h4
 obtain ⟨_, hob0, h6⟩ := Zce h5
 obtain ⟨_, _, rfl, h7⟩ := ZbG h6
 obtain ⟨rfl, h8⟩ := ZaD h7
 obtain ⟨_, rfl, h9⟩ := Zay h8
 obtain ⟨e_1, f_2, x_3, x_4, rfl, h10⟩ := ZaQ h9
 obtain ⟨hdist, h11⟩ := Zaa h10
 obtain ⟨hin, h12⟩ := Zaa h11
 refine ZbA (fn := Try.f34) (c := ZsG) (os := [o0]) (rl := rl) (bi := [true]) (s0 := [some ⟨[.agg [.list 1 e_1 f_2, .int .i64 x_3, .int .u64 x_4]], 3, 36, 0⟩]) (as0 := [.ptr 0 0 0 0]) hC hΦ Try.func34 (by kernel_rfl) (by kernel_rfl) (Zam (Λ := Zae) (by kernel_rfl)) rfl hdist ⟨⟨_, rfl, hob0⟩, trivial⟩ hin rfl rfl ?_
 refine (Zth N _ _ _ _ _).trans ?_
 rw [← Zhm]
 exact h12
def ZqV (N : Nat) : (R : Type) → List V → S → (V → S → Option R) → Option R := fun _ vs s K =>
 ZkD vs fun v'1 v'2 => ZgV v'1 fun o0 k'4 k'5 k'6 => isN k'4 0 <| isN k'5 0 <| isN k'6 0 <| asInt .i64 v'2 fun x_1 => Zps s o0 0 fun o'7 => ZnX o'7 3 36 fun e'8 k'9 => isN k'9 0 <| Zdm e'8 fun v'10 => Za5 v'10 fun e_2 f_3 x_4 x_5 => Zal (Za1 [o0]) <| Zal (okI 1 [true] [some ⟨[.agg [.list 1 e_2 f_3, .int .i64 x_4, .int .u64 x_5]], 3, 36, 0⟩]) <| ZeJ N x_1 e_2 f_3 x_4 x_5 (fun x_901 e_902 f_903 x_904 x_905 => FK s [o0] rl K (.int .i64 x_901) [some ⟨[.agg [.list 1 e_902 f_903, .int .i64 x_904, .int .u64 x_905]], 3, 36, 0⟩])
def Zoq (N : Nat) : Zar := (Zoo N).add 20 (ZqV N)
def Ztn : Code := ZaU Try.f20
theorem Ztj {R : Type} (N : Nat) (x_1 : Int) (e_2 : List V) (f_3 : Fl) (x_4 x_5 : Int) (K : V → S → Option R) : Za9 C (Zoo N) (Zae) 20 Try.f20 [.ptr 0 0 0 0, .int .i64 x_1] [some ⟨[.agg [.list 1 e_2 f_3, .int .i64 x_4, .int .u64 x_5]], 3, 36, 0⟩] (GK rl 1 K) =
 Zfw N x_1 e_2 f_3 x_4 x_5 (fun x_901 e_902 f_903 x_904 x_905 => K (.int .i64 x_901) [some ⟨[.agg [.list 1 e_902 f_903, .int .i64 x_904, .int .u64 x_905]], 3, 36, 0⟩]) := by kernel_rfl
theorem Zml (hC : Ok Try.prog C) {N : Nat} (hΦ : Zab Try.prog C (Zoo N)) : Zab Try.prog C (Zoq N) := by
 refine hΦ.add_shared rfl fun R vs s K r h => ?_
 unfold ZqV at h
 obtain ⟨_, _, rfl, h1⟩ := Zbl h
 obtain ⟨o0, _, _, _, rfl, h2⟩ := ZbN h1
 obtain ⟨rfl, h3⟩ := ZaD h2
 obtain ⟨rfl, h4⟩ := ZaD h3
 obtain ⟨rfl, h5⟩ := ZaD h4
 obtain ⟨x_1, rfl, h6⟩ := Zas h5
 obtain ⟨_, hob0, h7⟩ := Zce h6
 obtain ⟨_, _, rfl, h8⟩ := ZbG h7
 obtain ⟨rfl, h9⟩ := ZaD h8
 obtain ⟨_, rfl, h10⟩ := Zay h9
 obtain ⟨e_2, f_3, x_4, x_5, rfl, h11⟩ := ZaQ h10
 obtain ⟨hdist, h12⟩ := Zaa h11
 obtain ⟨hin, h13⟩ := Zaa h12
 refine ZbA (fn := Try.f20) (c := Ztn) (os := [o0]) (rl := rl) (bi := [true]) (s0 := [some ⟨[.agg [.list 1 e_2 f_3, .int .i64 x_4, .int .u64 x_5]], 3, 36, 0⟩]) (as0 := [.ptr 0 0 0 0, .int .i64 x_1]) hC hΦ Try.func20 (by kernel_rfl) (by kernel_rfl) (Zam (Λ := Zae) (by kernel_rfl)) rfl hdist ⟨⟨_, rfl, hob0⟩, trivial⟩ hin rfl rfl ?_
 refine (Ztj N _ _ _ _ _ _).trans ?_
 rw [← Ze1]
 exact h13
def Zrt (N : Nat) : (R : Type) → List V → S → (V → S → Option R) → Option R := fun _ vs s K =>
 ZkD vs fun v'1 v'2 => ZgV v'1 fun o0 k'4 k'5 k'6 => isN k'4 0 <| isN k'5 0 <| isN k'6 0 <| asInt .i64 v'2 fun x_1 => Zps s o0 0 fun o'7 => ZnX o'7 3 36 fun e'8 k'9 => isN k'9 0 <| Zdm e'8 fun v'10 => Za5 v'10 fun e_2 f_3 x_4 x_5 => Zal (Za1 [o0]) <| Zal (okI 1 [true] [some ⟨[.agg [.list 1 e_2 f_3, .int .i64 x_4, .int .u64 x_5]], 3, 36, 0⟩]) <| ZlF N x_1 e_2 f_3 x_4 x_5 (fun b_901 e_902 f_903 x_904 x_905 => FK s [o0] rl K (.bool b_901) [some ⟨[.agg [.list 1 e_902 f_903, .int .i64 x_904, .int .u64 x_905]], 3, 36, 0⟩])
def Zou (N : Nat) : Zar := (Zoq N).add 27 (Zrt N)
def ZsF : Code := ZaU Try.f27
theorem Zsl {R : Type} (N : Nat) (x_1 : Int) (e_2 : List V) (f_3 : Fl) (x_4 x_5 : Int) (K : V → S → Option R) : Za9 C (Zoq N) (Zae) 27 Try.f27 [.ptr 0 0 0 0, .int .i64 x_1] [some ⟨[.agg [.list 1 e_2 f_3, .int .i64 x_4, .int .u64 x_5]], 3, 36, 0⟩] (GK rl 1 K) =
 ZhF N x_1 e_2 f_3 x_4 x_5 (fun b_901 e_902 f_903 x_904 x_905 => K (.bool b_901) [some ⟨[.agg [.list 1 e_902 f_903, .int .i64 x_904, .int .u64 x_905]], 3, 36, 0⟩]) := by kernel_rfl
theorem ZlY (hC : Ok Try.prog C) {N : Nat} (hΦ : Zab Try.prog C (Zoq N)) : Zab Try.prog C (Zou N) := by
 refine hΦ.add_shared rfl fun R vs s K r h => ?_
 unfold Zrt at h
 obtain ⟨_, _, rfl, h1⟩ := Zbl h
 obtain ⟨o0, _, _, _, rfl, h2⟩ := ZbN h1
 obtain ⟨rfl, h3⟩ := ZaD h2
 obtain ⟨rfl, h4⟩ := ZaD h3
 obtain ⟨rfl, h5⟩ := ZaD h4
 obtain ⟨x_1, rfl, h6⟩ := Zas h5
 obtain ⟨_, hob0, h7⟩ := Zce h6
 obtain ⟨_, _, rfl, h8⟩ := ZbG h7
 obtain ⟨rfl, h9⟩ := ZaD h8
 obtain ⟨_, rfl, h10⟩ := Zay h9
 obtain ⟨e_2, f_3, x_4, x_5, rfl, h11⟩ := ZaQ h10
 obtain ⟨hdist, h12⟩ := Zaa h11
 obtain ⟨hin, h13⟩ := Zaa h12
 refine ZbA (fn := Try.f27) (c := ZsF) (os := [o0]) (rl := rl) (bi := [true]) (s0 := [some ⟨[.agg [.list 1 e_2 f_3, .int .i64 x_4, .int .u64 x_5]], 3, 36, 0⟩]) (as0 := [.ptr 0 0 0 0, .int .i64 x_1]) hC hΦ Try.func27 (by kernel_rfl) (by kernel_rfl) (Zam (Λ := Zae) (by kernel_rfl)) rfl hdist ⟨⟨_, rfl, hob0⟩, trivial⟩ hin rfl rfl ?_
 refine (Zsl N _ _ _ _ _ _).trans ?_
 rw [← Zkz]
 exact h13
def ZrH (N : Nat) : (R : Type) → List V → S → (V → S → Option R) → Option R := fun _ vs s K =>
 ZkD vs fun v'1 v'2 => ZgV v'1 fun o0 k'4 k'5 k'6 => isN k'4 0 <| isN k'5 0 <| isN k'6 0 <| ZbD 1 v'2 fun e_1 f_2 => Zps s o0 0 fun o'7 => ZnX o'7 3 36 fun e'8 k'9 => isN k'9 0 <| Zdm e'8 fun v'10 => Za5 v'10 fun e_3 f_4 x_5 x_6 => Zal (Za1 [o0]) <| Zal (okI 1 [true] [some ⟨[.agg [.list 1 e_3 f_4, .int .i64 x_5, .int .u64 x_6]], 3, 36, 0⟩]) <| Zor N e_1 f_2 e_3 f_4 x_5 x_6 (fun x_901 e_902 f_903 x_904 x_905 => FK s [o0] rl K (.int .i64 x_901) [some ⟨[.agg [.list 1 e_902 f_903, .int .i64 x_904, .int .u64 x_905]], 3, 36, 0⟩])
def Zo6 (N : Nat) : Zar := (Zou N).add 33 (ZrH N)
def Ztl : Code := ZaU Try.f33
theorem Zta {R : Type} (N : Nat) (e_1 : List V) (f_2 : Fl) (e_3 : List V) (f_4 : Fl) (x_5 x_6 : Int) (K : V → S → Option R) : Za9 C (Zou N) (Zae) 33 Try.f33 [.ptr 0 0 0 0, .list 1 e_1 f_2] [some ⟨[.agg [.list 1 e_3 f_4, .int .i64 x_5, .int .u64 x_6]], 3, 36, 0⟩] (GK rl 1 K) =
 ZhB N e_1 f_2 e_3 f_4 x_5 x_6 (fun x_901 e_902 f_903 x_904 x_905 => K (.int .i64 x_901) [some ⟨[.agg [.list 1 e_902 f_903, .int .i64 x_904, .int .u64 x_905]], 3, 36, 0⟩]) := by kernel_rfl
theorem ZlT (hC : Ok Try.prog C) {N : Nat} (hΦ : Zab Try.prog C (Zou N)) : Zab Try.prog C (Zo6 N) := by
 refine hΦ.add_shared rfl fun R vs s K r h => ?_
 unfold ZrH at h
 obtain ⟨_, _, rfl, h1⟩ := Zbl h
 obtain ⟨o0, _, _, _, rfl, h2⟩ := ZbN h1
 obtain ⟨rfl, h3⟩ := ZaD h2
 obtain ⟨rfl, h4⟩ := ZaD h3
 obtain ⟨rfl, h5⟩ := ZaD h4
 obtain ⟨e_1, f_2, rfl, h6⟩ := ZaH h5
 obtain ⟨_, hob0, h7⟩ := Zce h6
 obtain ⟨_, _, rfl, h8⟩ := ZbG h7
 obtain ⟨rfl, h9⟩ := ZaD h8
 obtain ⟨_, rfl, h10⟩ := Zay h9
 obtain ⟨e_3, f_4, x_5, x_6, rfl, h11⟩ := ZaQ h10
 obtain ⟨hdist, h12⟩ := Zaa h11
 obtain ⟨hin, h13⟩ := Zaa h12
 refine ZbA (fn := Try.f33) (c := Ztl) (os := [o0]) (rl := rl) (bi := [true]) (s0 := [some ⟨[.agg [.list 1 e_3 f_4, .int .i64 x_5, .int .u64 x_6]], 3, 36, 0⟩]) (as0 := [.ptr 0 0 0 0, .list 1 e_1 f_2]) hC hΦ Try.func33 (by kernel_rfl) (by kernel_rfl) (Zam (Λ := Zae) (by kernel_rfl)) rfl hdist ⟨⟨_, rfl, hob0⟩, trivial⟩ hin rfl rfl ?_
 refine (Zta N _ _ _ _ _ _ _).trans ?_
 rw [← Zk1]
 exact h13
def Zrq (N : Nat) : (R : Type) → List V → S → (V → S → Option R) → Option R := fun _ vs s K =>
 Zdm vs fun v'1 => ZgV v'1 fun o0 k'3 k'4 k'5 => isN k'3 0 <| isN k'4 0 <| isN k'5 0 <| Zps s o0 0 fun o'6 => ZnX o'6 3 36 fun e'7 k'8 => isN k'8 0 <| Zdm e'7 fun v'9 => Za5 v'9 fun e_1 f_2 x_3 x_4 => Zal (Za1 [o0]) <| Zal (okI 1 [true] [some ⟨[.agg [.list 1 e_1 f_2, .int .i64 x_3, .int .u64 x_4]], 3, 36, 0⟩]) <| Zj6 N e_1 f_2 x_3 x_4 (fun x_901 e_902 f_903 x_904 x_905 => FK s [o0] rl K (.int .i64 x_901) [some ⟨[.agg [.list 1 e_902 f_903, .int .i64 x_904, .int .u64 x_905]], 3, 36, 0⟩])
def ZoA (N : Nat) : Zar := (Zo6 N).add 19 (Zrq N)
def Zso : Code := ZaU Try.f19
theorem ZsT {R : Type} (N : Nat) (e_1 : List V) (f_2 : Fl) (x_3 x_4 : Int) (K : V → S → Option R) : Za9 C (Zo6 N) (Zae) 19 Try.f19 [.ptr 0 0 0 0] [some ⟨[.agg [.list 1 e_1 f_2, .int .i64 x_3, .int .u64 x_4]], 3, 36, 0⟩] (GK rl 1 K) =
 Zgd N e_1 f_2 x_3 x_4 (fun x_901 e_902 f_903 x_904 x_905 => K (.int .i64 x_901) [some ⟨[.agg [.list 1 e_902 f_903, .int .i64 x_904, .int .u64 x_905]], 3, 36, 0⟩]) := by kernel_rfl
theorem ZlC (hC : Ok Try.prog C) {N : Nat} (hΦ : Zab Try.prog C (Zo6 N)) : Zab Try.prog C (ZoA N) := by
 refine hΦ.add_shared rfl fun R vs s K r h => ?_
 unfold Zrq at h
 obtain ⟨_, rfl, h1⟩ := Zay h
 obtain ⟨o0, _, _, _, rfl, h2⟩ := ZbN h1
 obtain ⟨rfl, h3⟩ := ZaD h2
 obtain ⟨rfl, h4⟩ := ZaD h3
 obtain ⟨rfl, h5⟩ := ZaD h4
 obtain ⟨_, hob0, h6⟩ := Zce h5
 obtain ⟨_, _, rfl, h7⟩ := ZbG h6
 obtain ⟨rfl, h8⟩ := ZaD h7
 obtain ⟨_, rfl, h9⟩ := Zay h8
 obtain ⟨e_1, f_2, x_3, x_4, rfl, h10⟩ := ZaQ h9
 obtain ⟨hdist, h11⟩ := Zaa h10
 obtain ⟨hin, h12⟩ := Zaa h11
 refine ZbA (fn := Try.f19) (c := Zso) (os := [o0]) (rl := rl) (bi := [true]) (s0 := [some ⟨[.agg [.list 1 e_1 f_2, .int .i64 x_3, .int .u64 x_4]], 3, 36, 0⟩]) (as0 := [.ptr 0 0 0 0]) hC hΦ Try.func19 (by kernel_rfl) (by kernel_rfl) (Zam (Λ := Zae) (by kernel_rfl)) rfl hdist ⟨⟨_, rfl, hob0⟩, trivial⟩ hin rfl rfl ?_
 refine (ZsT N _ _ _ _ _).trans ?_
 rw [← ZgP]
 exact h12
def Zrr (N : Nat) : (R : Type) → List V → S → (V → S → Option R) → Option R := fun _ vs s K =>
 Zdm vs fun v'1 => ZbD 1 v'1 fun e_1 f_2 => Zba s <| Zo7 N e_1 f_2 (fun x_3 => K (.int .i64 x_3) [])
def ZoH (N : Nat) : Zar := (ZoA N).add 5 (Zrr N)
def Zsn : Code := ZaU Try.f5
theorem Zsu {R : Type} (N : Nat) (e_1 : List V) (f_2 : Fl) (K : V → S → Option R) : Za9 C (ZoA N) (Zae) 5 Try.f5 [.list 1 e_1 f_2] [] K =
 ZhZ N e_1 f_2 (fun x_3 => K (.int .i64 x_3) []) := by kernel_rfl
theorem Zmk (hC : Ok Try.prog C) {N : Nat} (hΦ : Zab Try.prog C (ZoA N)) : Zab Try.prog C (ZoH N) := by
 refine hΦ.add_pure rfl fun R vs K r h => ?_
 unfold Zrr at h
 obtain ⟨_, rfl, h1⟩ := Zay h
 obtain ⟨_, _, rfl, h2⟩ := ZaH h1
 obtain ⟨_, h3⟩ := Zak h2
 refine Zaz (fn := Try.f5) (c := Zsn) hC hΦ Try.func5 (by kernel_rfl) (by kernel_rfl) (Zam (Λ := Zae) (by kernel_rfl)) rfl rfl ?_
 refine (Zsu N _ _ _).trans ?_
 rw [← Zk0]
 exact h3
def Zq3 (N : Nat) : (R : Type) → List V → S → (V → S → Option R) → Option R := fun _ vs s K =>
 ZpO vs fun v'1 v'2 v'3 => asInt .i64 v'1 fun x_1 => asInt .i64 v'2 fun x_2 => asInt .i64 v'3 fun x_3 => Zba s <| Zoi N x_1 x_2 x_3 (fun b_4 => K (.bool b_4) [])
def Zpe (N : Nat) : Zar := (ZoH N).add 35 (Zq3 N)
def Ztg : Code := ZaU Try.f35
theorem ZsB {R : Type} (N : Nat) (x_1 x_2 x_3 : Int) (K : V → S → Option R) : Za9 C (ZoH N) (Zae) 35 Try.f35 [.int .i64 x_1, .int .i64 x_2, .int .i64 x_3] [] K =
 Zh0 N x_1 x_2 x_3 (fun b_4 => K (.bool b_4) []) := by kernel_rfl
theorem Zmc (hC : Ok Try.prog C) {N : Nat} (hΦ : Zab Try.prog C (ZoH N)) : Zab Try.prog C (Zpe N) := by
 refine hΦ.add_pure rfl fun R vs K r h => ?_
 unfold Zq3 at h
 obtain ⟨_, _, _, rfl, h1⟩ := Zct h
 obtain ⟨_, rfl, h2⟩ := Zas h1
 obtain ⟨_, rfl, h3⟩ := Zas h2
 obtain ⟨_, rfl, h4⟩ := Zas h3
 obtain ⟨_, h5⟩ := Zak h4
 refine Zaz (fn := Try.f35) (c := Ztg) hC hΦ Try.func35 (by kernel_rfl) (by kernel_rfl) (Zam (Λ := Zae) (by kernel_rfl)) rfl rfl ?_
 refine (ZsB N _ _ _ _).trans ?_
 rw [← Zkk]
 exact h5
def ZrN (N : Nat) : (R : Type) → List V → S → (V → S → Option R) → Option R := fun _ vs s K =>
 Zdm vs fun v'1 => asInt .i64 v'1 fun x_1 => Zba s <| Zjw N x_1 (fun b_2 => K (.bool b_2) [])
def Zp4 (N : Nat) : Zar := (Zpe N).add 21 (ZrN N)
def Zsz : Code := ZaU Try.f21
theorem Zsw {R : Type} (N : Nat) (x_1 : Int) (K : V → S → Option R) : Za9 C (Zpe N) (Zae) 21 Try.f21 [.int .i64 x_1] [] K =
 ZiQ N x_1 (fun b_2 => K (.bool b_2) []) := by kernel_rfl
theorem Zlx (hC : Ok Try.prog C) {N : Nat} (hΦ : Zab Try.prog C (Zpe N)) : Zab Try.prog C (Zp4 N) := by
 refine hΦ.add_pure rfl fun R vs K r h => ?_
 unfold ZrN at h
 obtain ⟨_, rfl, h1⟩ := Zay h
 obtain ⟨_, rfl, h2⟩ := Zas h1
 obtain ⟨_, h3⟩ := Zak h2
 refine Zaz (fn := Try.f21) (c := Zsz) hC hΦ Try.func21 (by kernel_rfl) (by kernel_rfl) (Zam (Λ := Zae) (by kernel_rfl)) rfl rfl ?_
 refine (Zsw N _ _).trans ?_
 rw [← Zk4]
 exact h3
def ZrZ (N : Nat) : (R : Type) → List V → S → (V → S → Option R) → Option R := fun _ vs s K =>
 Zdm vs fun v'1 => asInt .i64 v'1 fun x_1 => Zba s <| ZjV N x_1 (fun w_2 => K (.str w_2) [])
def Zow (N : Nat) : Zar := (Zp4 N).add 22 (ZrZ N)
def Zn0 : Code := ZaU Try.f22
def Zjj : Code := (ZcN Zn0 [] 0).2
def Zgo : List Nat := ZeW 24 [0, 3, 8, 9]
def Zke : List Nat := ZeW 24 [3]
def Ze6 (x_1 x_2 : Int) (e_12 : List V) : List V := mkF 0 24 [(0, .int .i64 x_1), (3, .arr 0 1 0 9), (8, .int .i64 9), (9, .int .i64 x_2)]
def Zd9 {R : Type} (K : X → List V → S → Option R) (x_1 : Int) : List V → Option R := (fun e_1' => K (.exit 0) (mkF 0 24 [(3, .arr 0 1 0 9)]) [some ⟨e_1', 1, 5, 1⟩])
abbrev Zg6 {R : Type} (N : Nat) : Nat → List V → S → (X → List V → S → Option R) → Option R := fun n => iter C.thawed Zcl (Zae) Zjj [0, 1, 0, 1, 1] false Zgo Zke n R
theorem ZqG {R : Type} (N n : Nat) (x_1 : Int) (x_2 : Int) (e_12 : List V) (K : X → List V → S → Option R) :
 Zg6 N (n + 1) (Ze6 x_1 x_2 e_12) [some ⟨e_12, 1, 5, 1⟩] K =
 Zci N x_1 (fun x_2 e_12 => Zg6 N n (Ze6 x_1 x_2 e_12) [some ⟨e_12, 1, 5, 1⟩] K) x_2 e_12 (Zd9 K x_1) := by kernel_rfl
theorem ZmL {R : Type} (N : Nat) (x_1 : Int) (K : X → List V → S → Option R) : ∀ (n : Nat) (x_2 : Int) (e_12 : List V),
 Zg6 N n (Ze6 x_1 x_2 e_12) [some ⟨e_12, 1, 5, 1⟩] K = Zdz N x_1 (Zd9 K x_1) n x_2 e_12
 | 0, _, _ => rfl
 | n + 1, x_2, e_12 => (ZqG N n x_1 x_2 e_12 K).trans (congrArg (fun nx => Zci N x_1 nx x_2 e_12 (Zd9 K x_1)) (funext fun x_2 => funext fun e_12 => ZmL N x_1 K n x_2 e_12))
def Zi3 {R : Type} (E : List V) (s : S) (k : Int → Int → List V → Option R) : Option R :=
 Zal (ZbE 24 [0, 3, 8, 9] E) <| ZbO E 0 .i64 fun x_1 => Zs3 E 3 (.arr 0 1 0 9) <| ZbV (nth E 8) fun u8 => isI .i64 9 u8 <| ZbO E 9 .i64 fun x_2 => Zsa s fun o'1 s'2 => ZnX o'1 1 5 fun e_12 k'3 => isN k'3 1 <| Zba s'2 <| k x_1 x_2 e_12
theorem Zip {R : Type} {E : List V} {s : S} {k : Int → Int → List V → Option R} {r : R} (h : Zi3 E s k = some r) : ∃ x_1 x_2 e_12, E = Ze6 x_1 x_2 e_12 ∧ s = [some ⟨e_12, 1, 5, 1⟩] ∧ k x_1 x_2 e_12 = some r := by
 unfold Zi3 at h
 obtain ⟨hg, h1⟩ := Zaa h
 obtain ⟨_, hu0, h2⟩ := ZaB h1
 obtain ⟨hu3, h3⟩ := Ziv h2
 obtain ⟨_, hu8, h4⟩ := Zaf h3
 obtain ⟨rfl, h5⟩ := Zo8 h4
 obtain ⟨_, hu9, h6⟩ := ZaB h5
 obtain ⟨_, _, rfl, h7⟩ := ZhU h6
 obtain ⟨_, _, rfl, h8⟩ := ZbG h7
 obtain ⟨rfl, h9⟩ := ZaD h8
 obtain ⟨rfl, h10⟩ := Zak h9
 exact ⟨_, _, _, Zby hg rfl (Zaj hu0 (Zaj hu3 (Zaj hu8 (Zaj hu9 Zbk)))), rfl, h10⟩
def Zjs (N : Nat) : ZaI := (Zae).add [0, 1, 0, 1, 1] fun _ E s K => Zi3 (Za7 Zgo E) s fun x_1 x_2 e_12 => Zdz N x_1 (Zd9 K x_1) N x_2 e_12
theorem Zpx {N : Nat} (hC : Ok Try.prog C) (hΦ : Zab Try.prog C Zcl) : ZbF Try.prog C.thawed (Zjs N) Zjj [0, 1, 0, 1, 1] :=
 Zb3 (Λi := Zae) (tr := false) (ks := Zgo) (kx := Zke) (N := N) hC.thawed (ZcH _ _)
  (Zam (by kernel_rfl))
  fun R E s K r h => by
   have h2 := ZaI.add_self.symm.trans h
   obtain ⟨_, _, _, he, rfl, h3⟩ := Zip h2
   rw [he]
   exact (ZmL N _ _ N _ _).trans h3
theorem Zre : Zbh Zn0 [] = [([0, 1, 0, 1, 1], Zjj)] := by kernel_rfl
theorem Zsy {R : Type} (N : Nat) (x_1 : Int) (K : V → S → Option R) : Za9 C.thawed Zcl (Zjs N) 22 Try.f22 [.int .i64 x_1] [] K =
 Zig N x_1 (fun w_2 => K (.str w_2) []) := by kernel_rfl
theorem ZnV {N : Nat} (hC : Ok Try.prog C) (hΦ : Zab Try.prog C Zcl) : ZaY Try.prog C.thawed (Zjs N) Zn0 [] :=
 Zbb Zn0 [] (by
  rw [Zre]
  intro p hp
  simp only [List.mem_cons, List.mem_nil_iff, or_false] at hp
  rcases hp with rfl
  ·exact (Zpx hC hΦ))
theorem Zma (hC : Ok Try.prog C) {N : Nat} (hΦ : Zab Try.prog C (Zp4 N)) : Zab Try.prog C (Zow N) := by
 refine hΦ.add_pure rfl fun R vs K r h => ?_
 unfold ZrZ at h
 obtain ⟨_, rfl, h1⟩ := Zay h
 obtain ⟨_, rfl, h2⟩ := Zas h1
 obtain ⟨_, h3⟩ := Zak h2
 refine Zaz (fn := Try.f22) (c := Zn0) hC.thawed (ZcH _ _) Try.func22 (by kernel_rfl) (by kernel_rfl) (ZnV (N := N) hC (ZcH _ _)) rfl rfl ?_
 refine (Zsy N _ _).trans ?_
 rw [← ZkN]
 exact h3
def Zry (N : Nat) : (R : Type) → List V → S → (V → S → Option R) → Option R := fun _ vs s K =>
 Zdm vs fun v'1 => asInt .i64 v'1 fun x_1 => Zba s <| ZoD N x_1 (fun w_2 b_3 => K (.tuple [.str w_2, .bool b_3]) [])
def Zo3 (N : Nat) : Zar := (Zow N).add 6 (Zry N)
def Zto : Code := ZaU Try.f6
theorem Zsh {R : Type} (N : Nat) (x_1 : Int) (K : V → S → Option R) : Za9 C (Zow N) (Zae) 6 Try.f6 [.int .i64 x_1] [] K =
 Zf6 N x_1 (fun w_2 b_3 => K (.tuple [.str w_2, .bool b_3]) []) := by kernel_rfl
theorem Zlu (hC : Ok Try.prog C) {N : Nat} (hΦ : Zab Try.prog C (Zow N)) : Zab Try.prog C (Zo3 N) := by
 refine hΦ.add_pure rfl fun R vs K r h => ?_
 unfold Zry at h
 obtain ⟨_, rfl, h1⟩ := Zay h
 obtain ⟨_, rfl, h2⟩ := Zas h1
 obtain ⟨_, h3⟩ := Zak h2
 refine Zaz (fn := Try.f6) (c := Zto) hC hΦ Try.func6 (by kernel_rfl) (by kernel_rfl) (Zam (Λ := Zae) (by kernel_rfl)) rfl rfl ?_
 refine (Zsh N _ _).trans ?_
 rw [← Zha]
 exact h3
def ZrX (N : Nat) : (R : Type) → List V → S → (V → S → Option R) → Option R := fun _ vs s K =>
 ZpO vs fun v'1 v'2 v'3 => asInt .i64 v'1 fun x_1 => asInt .i64 v'2 fun x_2 => asInt .i64 v'3 fun x_3 => Zba s <| ZoR N x_1 x_2 x_3 (fun b_4 => K (.bool b_4) [])
def ZoX (N : Nat) : Zar := (Zo3 N).add 36 (ZrX N)
def Ztb : Code := ZaU Try.f36
theorem ZsE {R : Type} (N : Nat) (x_1 x_2 x_3 : Int) (K : V → S → Option R) : Za9 C (Zo3 N) (Zae) 36 Try.f36 [.int .i64 x_1, .int .i64 x_2, .int .i64 x_3] [] K =
 ZhQ N x_1 x_2 x_3 (fun b_4 => K (.bool b_4) []) := by kernel_rfl
theorem Zl7 (hC : Ok Try.prog C) {N : Nat} (hΦ : Zab Try.prog C (Zo3 N)) : Zab Try.prog C (ZoX N) := by
 refine hΦ.add_pure rfl fun R vs K r h => ?_
 unfold ZrX at h
 obtain ⟨_, _, _, rfl, h1⟩ := Zct h
 obtain ⟨_, rfl, h2⟩ := Zas h1
 obtain ⟨_, rfl, h3⟩ := Zas h2
 obtain ⟨_, rfl, h4⟩ := Zas h3
 obtain ⟨_, h5⟩ := Zak h4
 refine Zaz (fn := Try.f36) (c := Ztb) hC hΦ Try.func36 (by kernel_rfl) (by kernel_rfl) (Zam (Λ := Zae) (by kernel_rfl)) rfl rfl ?_
 refine (ZsE N _ _ _ _).trans ?_
 rw [← Zku]
 exact h5
def Zq8 (N : Nat) : (R : Type) → List V → S → (V → S → Option R) → Option R := fun _ vs s K =>
 Zdm vs fun v'1 => asInt .i64 v'1 fun x_1 => Zba s <| Zmj N x_1 (fun b_2 => K (.bool b_2) [])
def Zjg (N : Nat) : Zar := (ZoX N).add 23 (Zq8 N)
def ZsP : Code := ZaU Try.f23
theorem Ztd {R : Type} (N : Nat) (x_1 : Int) (K : V → S → Option R) : Za9 C (ZoX N) (Zae) 23 Try.f23 [.int .i64 x_1] [] K =
 ZhE N x_1 (fun b_2 => K (.bool b_2) []) := by kernel_rfl
theorem Zmf (hC : Ok Try.prog C) {N : Nat} (hΦ : Zab Try.prog C (ZoX N)) : Zab Try.prog C (Zjg N) := by
 refine hΦ.add_pure rfl fun R vs K r h => ?_
 unfold Zq8 at h
 obtain ⟨_, rfl, h1⟩ := Zay h
 obtain ⟨_, rfl, h2⟩ := Zas h1
 obtain ⟨_, h3⟩ := Zak h2
 refine Zaz (fn := Try.f23) (c := ZsP) hC hΦ Try.func23 (by kernel_rfl) (by kernel_rfl) (Zam (Λ := Zae) (by kernel_rfl)) rfl rfl ?_
 refine (Ztd N _ _).trans ?_
 rw [← Zkx]
 exact h3
def ZrL (N : Nat) : (R : Type) → List V → S → (V → S → Option R) → Option R := fun _ vs s K =>
 Zdm vs fun v'1 => asInt .i64 v'1 fun x_1 => Zba s <| ZlL N x_1 (fun w_2 => K (.str w_2) [])
def Zpf (N : Nat) : Zar := (Zjg N).add 24 (ZrL N)
def ZmE : Code := ZaU Try.f24
def Zjc : Code := (ZcN ZmE [] 0).2
def ZgC : List Nat := ZeW 26 [0, 3, 4]
def Zj9 : List Nat := ZeW 26 [3]
def ZeU (x_1 : Int) (w_2 : ByteArray) (x_3 : Int) : List V := mkF 0 26 [(0, .int .i64 x_1), (3, .str w_2), (4, .int .i64 x_3)]
def ZdG {R : Type} (K : X → List V → S → Option R) (x_1 : Int) : ByteArray → Option R := (fun w_1' => K (.exit 0) (mkF 0 26 [(3, .str (w_1'))]) [])
abbrev Zgu {R : Type} (N : Nat) : Nat → List V → S → (X → List V → S → Option R) → Option R := fun n => iter C (Zjg N) (Zae) Zjc [0, 1, 0, 1, 1] false ZgC Zj9 n R
theorem ZqF {R : Type} (N n : Nat) (x_1 : Int) (w_2 : ByteArray) (x_3 : Int) (K : X → List V → S → Option R) :
 Zgu N (n + 1) (ZeU x_1 w_2 x_3) [] K =
 Zcn N x_1 (fun w_2 x_3 => Zgu N n (ZeU x_1 w_2 x_3) [] K) w_2 x_3 (ZdG K x_1) := by kernel_rfl
theorem ZnI {R : Type} (N : Nat) (x_1 : Int) (K : X → List V → S → Option R) : ∀ (n : Nat) (w_2 : ByteArray) (x_3 : Int),
 Zgu N n (ZeU x_1 w_2 x_3) [] K = Zeo N x_1 (ZdG K x_1) n w_2 x_3
 | 0, _, _ => rfl
 | n + 1, w_2, x_3 => (ZqF N n x_1 w_2 x_3 K).trans (congrArg (fun nx => Zcn N x_1 nx w_2 x_3 (ZdG K x_1)) (funext fun w_2 => funext fun x_3 => ZnI N x_1 K n w_2 x_3))
def ZjI {R : Type} (E : List V) (s : S) (k : Int → ByteArray → Int → Option R) : Option R :=
 Zal (ZbE 26 [0, 3, 4] E) <| ZbO E 0 .i64 fun x_1 => ZcR E 3 fun w_2 => ZbO E 4 .i64 fun x_3 => Zba s <| k x_1 w_2 x_3
theorem ZhR {R : Type} {E : List V} {s : S} {k : Int → ByteArray → Int → Option R} {r : R} (h : ZjI E s k = some r) : ∃ x_1 w_2 x_3, E = ZeU x_1 w_2 x_3 ∧ s = [] ∧ k x_1 w_2 x_3 = some r := by
 unfold ZjI at h
 obtain ⟨hg, h1⟩ := Zaa h
 obtain ⟨_, hu0, h2⟩ := ZaB h1
 obtain ⟨_, hu3, h3⟩ := ZaR h2
 obtain ⟨_, hu4, h4⟩ := ZaB h3
 obtain ⟨rfl, h5⟩ := Zak h4
 exact ⟨_, _, _, Zby hg rfl (Zaj hu0 (Zaj hu3 (Zaj hu4 Zbk))), rfl, h5⟩
def Zjn (N : Nat) : ZaI := (Zae).add [0, 1, 0, 1, 1] fun _ E s K => ZjI (Za7 ZgC E) s fun x_1 w_2 x_3 => Zeo N x_1 (ZdG K x_1) N w_2 x_3
theorem Zpy {N : Nat} (hC : Ok Try.prog C) (hΦ : Zab Try.prog C (Zjg N)) : ZbF Try.prog C (Zjn N) Zjc [0, 1, 0, 1, 1] :=
 Zb3 (Λi := Zae) (tr := false) (ks := ZgC) (kx := Zj9) (N := N) hC hΦ
  (Zam (by kernel_rfl))
  fun R E s K r h => by
   have h2 := ZaI.add_self.symm.trans h
   obtain ⟨_, _, _, he, rfl, h3⟩ := ZhR h2
   rw [he]
   exact (ZnI N _ _ N _ _).trans h3
theorem Zri : Zbh ZmE [] = [([0, 1, 0, 1, 1], Zjc)] := by kernel_rfl
theorem Ztt {R : Type} (N : Nat) (x_1 : Int) (K : V → S → Option R) : Za9 C (Zjg N) (Zjn N) 24 Try.f24 [.int .i64 x_1] [] K =
 ZhT N x_1 (fun w_2 => K (.str w_2) []) := by kernel_rfl
theorem Zn5 {N : Nat} (hC : Ok Try.prog C) (hΦ : Zab Try.prog C (Zjg N)) : ZaY Try.prog C (Zjn N) ZmE [] :=
 Zbb ZmE [] (by
  rw [Zri]
  intro p hp
  simp only [List.mem_cons, List.mem_nil_iff, or_false] at hp
  rcases hp with rfl
  ·exact (Zpy hC hΦ))
theorem ZlZ (hC : Ok Try.prog C) {N : Nat} (hΦ : Zab Try.prog C (Zjg N)) : Zab Try.prog C (Zpf N) := by
 refine hΦ.add_pure rfl fun R vs K r h => ?_
 unfold ZrL at h
 obtain ⟨_, rfl, h1⟩ := Zay h
 obtain ⟨_, rfl, h2⟩ := Zas h1
 obtain ⟨_, h3⟩ := Zak h2
 refine Zaz (fn := Try.f24) (c := ZmE) hC hΦ Try.func24 (by kernel_rfl) (by kernel_rfl) (Zn5 (N := N) hC hΦ) rfl rfl ?_
 refine (Ztt N _ _).trans ?_
 rw [← Zle]
 exact h3
def Zrm (N : Nat) : (R : Type) → List V → S → (V → S → Option R) → Option R := fun _ vs s K =>
 Zdm vs fun v'1 => asInt .i64 v'1 fun x_1 => Zba s <| Zph N x_1 (fun w_2 b_3 => K (.tuple [.str w_2, .bool b_3]) [])
def ZoF (N : Nat) : Zar := (Zpf N).add 7 (Zrm N)
def ZsR : Code := ZaU Try.f7
theorem Zs5 {R : Type} (N : Nat) (x_1 : Int) (K : V → S → Option R) : Za9 C (Zpf N) (Zae) 7 Try.f7 [.int .i64 x_1] [] K =
 ZfX N x_1 (fun w_2 b_3 => K (.tuple [.str w_2, .bool b_3]) []) := by kernel_rfl
theorem Zmh (hC : Ok Try.prog C) {N : Nat} (hΦ : Zab Try.prog C (Zpf N)) : Zab Try.prog C (ZoF N) := by
 refine hΦ.add_pure rfl fun R vs K r h => ?_
 unfold Zrm at h
 obtain ⟨_, rfl, h1⟩ := Zay h
 obtain ⟨_, rfl, h2⟩ := Zas h1
 obtain ⟨_, h3⟩ := Zak h2
 refine Zaz (fn := Try.f7) (c := ZsR) hC hΦ Try.func7 (by kernel_rfl) (by kernel_rfl) (Zam (Λ := Zae) (by kernel_rfl)) rfl rfl ?_
 refine (Zs5 N _ _).trans ?_
 rw [← ZgB]
 exact h3
def Zrd (N : Nat) : (R : Type) → List V → S → (V → S → Option R) → Option R := fun _ vs s K =>
 Zdm vs fun v'1 => asInt .i64 v'1 fun x_1 => Zba s <| ZjJ N x_1 (fun w_2 => K (.str w_2) [])
def ZoL (N : Nat) : Zar := (ZoF N).add 25 (Zrd N)
def ZsZ : Code := ZaU Try.f25
theorem ZsU {R : Type} (N : Nat) (x_1 : Int) (K : V → S → Option R) : Za9 C (ZoF N) (Zae) 25 Try.f25 [.int .i64 x_1] [] K =
 ZiI N x_1 (fun w_2 => K (.str w_2) []) := by kernel_rfl
theorem Zmg (hC : Ok Try.prog C) {N : Nat} (hΦ : Zab Try.prog C (ZoF N)) : Zab Try.prog C (ZoL N) := by
 refine hΦ.add_pure rfl fun R vs K r h => ?_
 unfold Zrd at h
 obtain ⟨_, rfl, h1⟩ := Zay h
 obtain ⟨_, rfl, h2⟩ := Zas h1
 obtain ⟨_, h3⟩ := Zak h2
 refine Zaz (fn := Try.f25) (c := ZsZ) hC hΦ Try.func25 (by kernel_rfl) (by kernel_rfl) (Zam (Λ := Zae) (by kernel_rfl)) rfl rfl ?_
 refine (ZsU N _ _).trans ?_
 rw [← Zlh]
 exact h3
def ZrF (N : Nat) : (R : Type) → List V → S → (V → S → Option R) → Option R := fun _ vs s K =>
 Zdm vs fun v'1 => asInt .i64 v'1 fun x_1 => Zba s <| Zpb N x_1 (fun w_2 b_3 => K (.tuple [.str w_2, .bool b_3]) [])
def ZoK (N : Nat) : Zar := (ZoL N).add 8 (ZrF N)
def ZsV : Code := ZaU Try.f8
theorem Zs2 {R : Type} (N : Nat) (x_1 : Int) (K : V → S → Option R) : Za9 C (ZoL N) (Zae) 8 Try.f8 [.int .i64 x_1] [] K =
 Zf3 N x_1 (fun w_2 b_3 => K (.tuple [.str w_2, .bool b_3]) []) := by kernel_rfl
theorem ZlH (hC : Ok Try.prog C) {N : Nat} (hΦ : Zab Try.prog C (ZoL N)) : Zab Try.prog C (ZoK N) := by
 refine hΦ.add_pure rfl fun R vs K r h => ?_
 unfold ZrF at h
 obtain ⟨_, rfl, h1⟩ := Zay h
 obtain ⟨_, rfl, h2⟩ := Zas h1
 obtain ⟨_, h3⟩ := Zak h2
 refine Zaz (fn := Try.f8) (c := ZsV) hC hΦ Try.func8 (by kernel_rfl) (by kernel_rfl) (Zam (Λ := Zae) (by kernel_rfl)) rfl rfl ?_
 refine (Zs2 N _ _).trans ?_
 rw [← Zg9]
 exact h3
def Zp7 (N M : Nat) : (R : Type) → List V → S → (V → S → Option R) → Option R := fun _ vs s K =>
 Zdm vs fun v'1 => asInt .i64 v'1 fun x_1 => Zba s <| ZfG N M _ x_1 (fun w_2 => K (.str w_2) [])
def Zmb (N M : Nat) : Zar := (ZoK N).add 37 (Zp7 N M)
def Ztp : Code := ZaU Try.f37
theorem Zsd {R : Type} (N M : Nat) (x_1 : Int) (K : V → S → Option R) : Za9 C (Zmb N M) (Zae) 37 Try.f37 [.int .i64 x_1] [] K =
 Zkr N (ZfG N M) x_1 (fun w_2 => K (.str w_2) []) := by kernel_rfl
theorem ZhN (hC : Ok Try.prog C) {N : Nat} (hΦ : Zab Try.prog C (ZoK N)) : ∀ M, Zab Try.prog C (Zmb N M) := by
 intro M
 induction M with
 | zero =>
  refine hΦ.add_pure rfl fun R vs K r h => ?_
  exfalso
  unfold Zp7 at h
  obtain ⟨_, rfl, h1⟩ := Zay h
  obtain ⟨_, rfl, h2⟩ := Zas h1
  obtain ⟨_, h3⟩ := Zak h2
  rw [Zlo] at h3
  cases h3
 | succ M ih =>
  refine hΦ.add_pure rfl fun R vs K r h => ?_
  unfold Zp7 at h
  obtain ⟨_, rfl, h1⟩ := Zay h
  obtain ⟨_, rfl, h2⟩ := Zas h1
  obtain ⟨_, h3⟩ := Zak h2
  refine Zaz (fn := Try.f37) (c := Ztp) hC ih Try.func37 (by kernel_rfl) (by kernel_rfl) (Zam (Λ := Zae) (by kernel_rfl)) rfl rfl ?_
  refine (Zsd N M _ _).trans ?_
  rw [← ZkE]
  exact h3
theorem Zlw (hC : Ok Try.prog C) {N : Nat} (hΦ : Zab Try.prog C (ZoK N)) : Zab Try.prog C (Zmb N N) := ZhN hC hΦ N
def ZrO (N : Nat) : (R : Type) → List V → S → (V → S → Option R) → Option R := fun _ vs s K =>
 Zdm vs fun v'1 => asInt .i64 v'1 fun x_1 => Zba s <| Zlr N x_1 (fun w_2 => K (.str w_2) [])
def ZoO (N : Nat) : Zar := (Zmb N N).add 26 (ZrO N)
def Ztr : Code := ZaU Try.f26
theorem ZsW {R : Type} (N : Nat) (x_1 : Int) (K : V → S → Option R) : Za9 C (Zmb N N) (Zae) 26 Try.f26 [.int .i64 x_1] [] K =
 Ziz N x_1 (fun w_2 => K (.str w_2) []) := by kernel_rfl
theorem Zmo (hC : Ok Try.prog C) {N : Nat} (hΦ : Zab Try.prog C (Zmb N N)) : Zab Try.prog C (ZoO N) := by
 refine hΦ.add_pure rfl fun R vs K r h => ?_
 unfold ZrO at h
 obtain ⟨_, rfl, h1⟩ := Zay h
 obtain ⟨_, rfl, h2⟩ := Zas h1
 obtain ⟨_, h3⟩ := Zak h2
 refine Zaz (fn := Try.f26) (c := Ztr) hC hΦ Try.func26 (by kernel_rfl) (by kernel_rfl) (Zam (Λ := Zae) (by kernel_rfl)) rfl rfl ?_
 refine (ZsW N _ _).trans ?_
 rw [← Zkc]
 exact h3
def ZqR (N : Nat) : (R : Type) → List V → S → (V → S → Option R) → Option R := fun _ vs s K =>
 Zdm vs fun v'1 => asInt .i64 v'1 fun x_1 => Zba s <| ZoN N x_1 (fun w_2 b_3 => K (.tuple [.str w_2, .bool b_3]) [])
def Zjv (N : Nat) : Zar := (ZoO N).add 9 (ZqR N)
def Zsf : Code := ZaU Try.f9
theorem Ztm {R : Type} (N : Nat) (x_1 : Int) (K : V → S → Option R) : Za9 C (ZoO N) (Zae) 9 Try.f9 [.int .i64 x_1] [] K =
 Zgf N x_1 (fun w_2 b_3 => K (.tuple [.str w_2, .bool b_3]) []) := by kernel_rfl
theorem Zl0 (hC : Ok Try.prog C) {N : Nat} (hΦ : Zab Try.prog C (ZoO N)) : Zab Try.prog C (Zjv N) := by
 refine hΦ.add_pure rfl fun R vs K r h => ?_
 unfold ZqR at h
 obtain ⟨_, rfl, h1⟩ := Zay h
 obtain ⟨_, rfl, h2⟩ := Zas h1
 obtain ⟨_, h3⟩ := Zak h2
 refine Zaz (fn := Try.f9) (c := Zsf) hC hΦ Try.func9 (by kernel_rfl) (by kernel_rfl) (Zam (Λ := Zae) (by kernel_rfl)) rfl rfl ?_
 refine (Ztm N _ _).trans ?_
 rw [← ZgZ]
 exact h3
def Zrb (N : Nat) : (R : Type) → List V → S → (V → S → Option R) → Option R := fun _ vs s K =>
 Zdm vs fun v'1 => Zb2 v'1 fun w_1 => Zba s <| ZmN N w_1 (fun x_2 b_3 => K (.tuple [.int .i64 x_2, .bool b_3]) [])
def ZjT (N : Nat) : Zar := (Zjv N).add 10 (Zrb N)
def ZmB : Code := ZaU Try.f10
def Zjr : Code := (ZcN ZmB [] 0).2
def Zhd : List Nat := ZeW 26 [0, 4, 8, 9]
def Zk6 : List Nat := ZeW 26 [0, 4]
def ZeZ (w_1 : ByteArray) (x_3 x_2 x_4 : Int) : List V := mkF 0 26 [(0, .str w_1), (4, .int .i64 x_2), (8, .int .i64 x_3), (9, .int .i64 x_4)]
def ZdR {R : Type} (K : X → List V → S → Option R) (w_1 : ByteArray) (x_3 : Int) : Int → Option R := (fun x_1' => K (.exit 0) (mkF 0 26 [(0, .str w_1), (4, .int .i64 (x_1'))]) [])
abbrev ZgF {R : Type} (N : Nat) : Nat → List V → S → (X → List V → S → Option R) → Option R := fun n => iter C (Zjv N) (Zae) Zjr [0, 1, 0, 1, 1] false Zhd Zk6 n R
theorem Zqr {R : Type} (N n : Nat) (w_1 : ByteArray) (x_3 : Int) (x_2 x_4 : Int) (K : X → List V → S → Option R) :
 ZgF N (n + 1) (ZeZ w_1 x_3 x_2 x_4) [] K =
 ZbU N w_1 x_3 (fun x_2 x_4 => ZgF N n (ZeZ w_1 x_3 x_2 x_4) [] K) x_2 x_4 (ZdR K w_1 x_3) := by kernel_rfl
theorem Zmw {R : Type} (N : Nat) (w_1 : ByteArray) (x_3 : Int) (K : X → List V → S → Option R) : ∀ (n : Nat) (x_2 x_4 : Int),
 ZgF N n (ZeZ w_1 x_3 x_2 x_4) [] K = Zdu N w_1 x_3 (ZdR K w_1 x_3) n x_2 x_4
 | 0, _, _ => rfl
 | n + 1, x_2, x_4 => (Zqr N n w_1 x_3 x_2 x_4 K).trans (congrArg (fun nx => ZbU N w_1 x_3 nx x_2 x_4 (ZdR K w_1 x_3)) (funext fun x_2 => funext fun x_4 => Zmw N w_1 x_3 K n x_2 x_4))
def Zi5 {R : Type} (E : List V) (s : S) (k : ByteArray → Int → Int → Int → Option R) : Option R :=
 Zal (ZbE 26 [0, 4, 8, 9] E) <| ZcR E 0 fun w_1 => ZbO E 4 .i64 fun x_2 => ZbO E 8 .i64 fun x_3 => ZbO E 9 .i64 fun x_4 => Zba s <| k w_1 x_2 x_3 x_4
theorem ZhJ {R : Type} {E : List V} {s : S} {k : ByteArray → Int → Int → Int → Option R} {r : R} (h : Zi5 E s k = some r) : ∃ w_1 x_2 x_3 x_4, E = ZeZ w_1 x_3 x_2 x_4 ∧ s = [] ∧ k w_1 x_2 x_3 x_4 = some r := by
 unfold Zi5 at h
 obtain ⟨hg, h1⟩ := Zaa h
 obtain ⟨_, hu0, h2⟩ := ZaR h1
 obtain ⟨_, hu4, h3⟩ := ZaB h2
 obtain ⟨_, hu8, h4⟩ := ZaB h3
 obtain ⟨_, hu9, h5⟩ := ZaB h4
 obtain ⟨rfl, h6⟩ := Zak h5
 exact ⟨_, _, _, _, Zby hg rfl (Zaj hu0 (Zaj hu4 (Zaj hu8 (Zaj hu9 Zbk)))), rfl, h6⟩
def ZjO (N : Nat) : ZaI := (Zae).add [0, 1, 0, 1, 1] fun _ E s K => Zi5 (Za7 Zhd E) s fun w_1 x_2 x_3 x_4 => Zdu N w_1 x_3 (ZdR K w_1 x_3) N x_2 x_4
theorem ZoY {N : Nat} (hC : Ok Try.prog C) (hΦ : Zab Try.prog C (Zjv N)) : ZbF Try.prog C (ZjO N) Zjr [0, 1, 0, 1, 1] :=
 Zb3 (Λi := Zae) (tr := false) (ks := Zhd) (kx := Zk6) (N := N) hC hΦ
  (Zam (by kernel_rfl))
  fun R E s K r h => by
   have h2 := ZaI.add_self.symm.trans h
   obtain ⟨_, _, _, _, he, rfl, h3⟩ := ZhJ h2
   rw [he]
   exact (Zmw N _ _ _ N _ _).trans h3
theorem ZqY : Zbh ZmB [] = [([0, 1, 0, 1, 1], Zjr)] := by kernel_rfl
theorem Ztk {R : Type} (N : Nat) (w_1 : ByteArray) (K : V → S → Option R) : Za9 C (Zjv N) (ZjO N) 10 Try.f10 [.str w_1] [] K =
 Zil N w_1 (fun x_2 b_3 => K (.tuple [.int .i64 x_2, .bool b_3]) []) := by kernel_rfl
theorem Zob {N : Nat} (hC : Ok Try.prog C) (hΦ : Zab Try.prog C (Zjv N)) : ZaY Try.prog C (ZjO N) ZmB [] :=
 Zbb ZmB [] (by
  rw [ZqY]
  intro p hp
  simp only [List.mem_cons, List.mem_nil_iff, or_false] at hp
  rcases hp with rfl
  ·exact (ZoY hC hΦ))
theorem ZlR (hC : Ok Try.prog C) {N : Nat} (hΦ : Zab Try.prog C (Zjv N)) : Zab Try.prog C (ZjT N) := by
 refine hΦ.add_pure rfl fun R vs K r h => ?_
 unfold Zrb at h
 obtain ⟨_, rfl, h1⟩ := Zay h
 obtain ⟨_, rfl, h2⟩ := ZaK h1
 obtain ⟨_, h3⟩ := Zak h2
 refine Zaz (fn := Try.f10) (c := ZmB) hC hΦ Try.func10 (by kernel_rfl) (by kernel_rfl) (Zob (N := N) hC hΦ) rfl rfl ?_
 refine (Ztk N _ _).trans ?_
 rw [← Zld]
 exact h3
def ZrC (N : Nat) : (R : Type) → List V → S → (V → S → Option R) → Option R := fun _ vs s K =>
 Zdm vs fun v'1 => Zb2 v'1 fun w_1 => Zba s <| Zn3 N w_1 (fun x_2 b_3 => K (.tuple [.int .i64 x_2, .bool b_3]) [])
def Zjz (N : Nat) : Zar := (ZjT N).add 11 (ZrC N)
def ZmT : Code := ZaU Try.f11
def Zjk : Code := (ZcN ZmT [] 0).2
def Zhj : List Nat := ZeW 26 [0, 4, 9]
def Zj7 : List Nat := ZeW 26 [0, 4]
def Ze2 (w_1 : ByteArray) (x_2 x_3 : Int) : List V := mkF 0 26 [(0, .str w_1), (4, .int .i64 x_2), (9, .int .i64 x_3)]
def Zd2 {R : Type} (K : X → List V → S → Option R) (w_1 : ByteArray) : Int → Option R := (fun x_1' => K (.exit 0) (mkF 0 26 [(0, .str w_1), (4, .int .i64 (x_1'))]) [])
abbrev ZgL {R : Type} (N : Nat) : Nat → List V → S → (X → List V → S → Option R) → Option R := fun n => iter C (ZjT N) (Zae) Zjk [0, 1, 0, 1, 1, 1] false Zhj Zj7 n R
theorem ZqB {R : Type} (N n : Nat) (w_1 : ByteArray) (x_2 x_3 : Int) (K : X → List V → S → Option R) :
 ZgL N (n + 1) (Ze2 w_1 x_2 x_3) [] K =
 ZbY N w_1 (fun x_2 x_3 => ZgL N n (Ze2 w_1 x_2 x_3) [] K) x_2 x_3 (Zd2 K w_1) := by kernel_rfl
theorem ZnE {R : Type} (N : Nat) (w_1 : ByteArray) (K : X → List V → S → Option R) : ∀ (n : Nat) (x_2 x_3 : Int),
 ZgL N n (Ze2 w_1 x_2 x_3) [] K = Zds N w_1 (Zd2 K w_1) n x_2 x_3
 | 0, _, _ => rfl
 | n + 1, x_2, x_3 => (ZqB N n w_1 x_2 x_3 K).trans (congrArg (fun nx => ZbY N w_1 nx x_2 x_3 (Zd2 K w_1)) (funext fun x_2 => funext fun x_3 => ZnE N w_1 K n x_2 x_3))
def Zjp {R : Type} (E : List V) (s : S) (k : ByteArray → Int → Int → Option R) : Option R :=
 Zal (ZbE 26 [0, 4, 9] E) <| ZcR E 0 fun w_1 => ZbO E 4 .i64 fun x_2 => ZbO E 9 .i64 fun x_3 => Zba s <| k w_1 x_2 x_3
theorem Zhx {R : Type} {E : List V} {s : S} {k : ByteArray → Int → Int → Option R} {r : R} (h : Zjp E s k = some r) : ∃ w_1 x_2 x_3, E = Ze2 w_1 x_2 x_3 ∧ s = [] ∧ k w_1 x_2 x_3 = some r := by
 unfold Zjp at h
 obtain ⟨hg, h1⟩ := Zaa h
 obtain ⟨_, hu0, h2⟩ := ZaR h1
 obtain ⟨_, hu4, h3⟩ := ZaB h2
 obtain ⟨_, hu9, h4⟩ := ZaB h3
 obtain ⟨rfl, h5⟩ := Zak h4
 exact ⟨_, _, _, Zby hg rfl (Zaj hu0 (Zaj hu4 (Zaj hu9 Zbk))), rfl, h5⟩
def Zje (N : Nat) : ZaI := (Zae).add [0, 1, 0, 1, 1, 1] fun _ E s K => Zjp (Za7 Zhj E) s fun w_1 x_2 x_3 => Zds N w_1 (Zd2 K w_1) N x_2 x_3
theorem Zpj {N : Nat} (hC : Ok Try.prog C) (hΦ : Zab Try.prog C (ZjT N)) : ZbF Try.prog C (Zje N) Zjk [0, 1, 0, 1, 1, 1] :=
 Zb3 (Λi := Zae) (tr := false) (ks := Zhj) (kx := Zj7) (N := N) hC hΦ
  (Zam (by kernel_rfl))
  fun R E s K r h => by
   have h2 := ZaI.add_self.symm.trans h
   obtain ⟨_, _, _, he, rfl, h3⟩ := Zhx h2
   rw [he]
   exact (ZnE N _ _ N _ _).trans h3
theorem ZrK : Zbh ZmT [] = [([0, 1, 0, 1, 1, 1], Zjk)] := by kernel_rfl
theorem ZsQ {R : Type} (N : Nat) (w_1 : ByteArray) (K : V → S → Option R) : Za9 C (ZjT N) (Zje N) 11 Try.f11 [.str w_1] [] K =
 Zht N w_1 (fun x_2 b_3 => K (.tuple [.int .i64 x_2, .bool b_3]) []) := by kernel_rfl
theorem Znj {N : Nat} (hC : Ok Try.prog C) (hΦ : Zab Try.prog C (ZjT N)) : ZaY Try.prog C (Zje N) ZmT [] :=
 Zbb ZmT [] (by
  rw [ZrK]
  intro p hp
  simp only [List.mem_cons, List.mem_nil_iff, or_false] at hp
  rcases hp with rfl
  ·exact (Zpj hC hΦ))
theorem Zly (hC : Ok Try.prog C) {N : Nat} (hΦ : Zab Try.prog C (ZjT N)) : Zab Try.prog C (Zjz N) := by
 refine hΦ.add_pure rfl fun R vs K r h => ?_
 unfold ZrC at h
 obtain ⟨_, rfl, h1⟩ := Zay h
 obtain ⟨_, rfl, h2⟩ := ZaK h1
 obtain ⟨_, h3⟩ := Zak h2
 refine Zaz (fn := Try.f11) (c := ZmT) hC hΦ Try.func11 (by kernel_rfl) (by kernel_rfl) (Znj (N := N) hC hΦ) rfl rfl ?_
 refine (ZsQ N _ _).trans ?_
 rw [← Zki]
 exact h3
def Zq5 (N : Nat) : (R : Type) → List V → S → (V → S → Option R) → Option R := fun _ vs s K =>
 ZpO vs fun v'1 v'2 v'3 => ZgV v'1 fun o0 k'5 k'6 k'7 => isN k'5 0 <| isN k'6 0 <| isN k'7 0 <| Zb2 v'2 fun w_1 => Zb2 v'3 fun w_2 => Zps s o0 0 fun o'8 => ZnX o'8 3 36 fun e'9 k'10 => isN k'10 0 <| Zdm e'9 fun v'11 => Za5 v'11 fun e_3 f_4 x_5 x_6 => Zal (Za1 [o0]) <| Zal (okI 1 [true] [some ⟨[.agg [.list 1 e_3 f_4, .int .i64 x_5, .int .u64 x_6]], 3, 36, 0⟩]) <| Znr N w_1 w_2 e_3 f_4 x_5 x_6 (fun w_901 e_902 f_903 x_904 x_905 => FK s [o0] rl K (.str w_901) [some ⟨[.agg [.list 1 e_902 f_903, .int .i64 x_904, .int .u64 x_905]], 3, 36, 0⟩])
def ZoU (N : Nat) : Zar := (Zjz N).add 28 (Zq5 N)
def ZnZ : Code := ZaU Try.f28
def ZjU : Code := (ZcN ZnZ [] 0).2
def Zgy : List Nat := ZeW 68 [0, 1, 2, 7]
def Zk2 : List Nat := ZeW 68 [1]
def Ze0 (w_2 w_1 : ByteArray) (x_3 : Int) (e_4 : List V) (f_5 : Fl) (x_6 x_7 : Int) : List V := mkF 0 68 [(0, .ptr 0 0 0 0), (1, .str w_1), (2, .str w_2), (7, .int .i64 x_3)]
def ZdK {R : Type} (K : X → List V → S → Option R) (w_2 : ByteArray) : ByteArray → List V → Fl → Int → Int → Option R := (fun w_1' e_2' f_3' x_4' x_5' => K (.exit 0) (mkF 0 68 [(1, .str (w_1'))]) [some ⟨[.agg [.list 1 (e_2') (f_3'), .int .i64 (x_4'), .int .u64 (x_5')]], 3, 36, 0⟩])
abbrev Zhe {R : Type} (N : Nat) : Nat → List V → S → (X → List V → S → Option R) → Option R := fun n => iter C (Zjz N) (Zae) ZjU [0, 1, 0, 1] false Zgy Zk2 n R
theorem Zp9 {R : Type} (N n : Nat) (w_2 : ByteArray) (w_1 : ByteArray) (x_3 : Int) (e_4 : List V) (f_5 : Fl) (x_6 x_7 : Int) (K : X → List V → S → Option R) :
 Zhe N (n + 1) (Ze0 w_2 w_1 x_3 e_4 f_5 x_6 x_7) [some ⟨[.agg [.list 1 e_4 f_5, .int .i64 x_6, .int .u64 x_7]], 3, 36, 0⟩] K =
 Zbs N w_2 (fun w_1 x_3 e_4 f_5 x_6 x_7 => Zhe N n (Ze0 w_2 w_1 x_3 e_4 f_5 x_6 x_7) [some ⟨[.agg [.list 1 e_4 f_5, .int .i64 x_6, .int .u64 x_7]], 3, 36, 0⟩] K) w_1 x_3 e_4 f_5 x_6 x_7 (ZdK K w_2) := by kernel_rfl
theorem ZmX {R : Type} (N : Nat) (w_2 : ByteArray) (K : X → List V → S → Option R) : ∀ (n : Nat) (w_1 : ByteArray) (x_3 : Int) (e_4 : List V) (f_5 : Fl) (x_6 x_7 : Int),
 Zhe N n (Ze0 w_2 w_1 x_3 e_4 f_5 x_6 x_7) [some ⟨[.agg [.list 1 e_4 f_5, .int .i64 x_6, .int .u64 x_7]], 3, 36, 0⟩] K = Zb1 N w_2 (ZdK K w_2) n w_1 x_3 e_4 f_5 x_6 x_7
 | 0, _, _, _, _, _, _ => rfl
 | n + 1, w_1, x_3, e_4, f_5, x_6, x_7 => (Zp9 N n w_2 w_1 x_3 e_4 f_5 x_6 x_7 K).trans (congrArg (fun nx => Zbs N w_2 nx w_1 x_3 e_4 f_5 x_6 x_7 (ZdK K w_2)) (funext fun w_1 => funext fun x_3 => funext fun e_4 => funext fun f_5 => funext fun x_6 => funext fun x_7 => ZmX N w_2 K n w_1 x_3 e_4 f_5 x_6 x_7))
def ZiS {R : Type} (E : List V) (s : S) (k : ByteArray → ByteArray → Int → List V → Fl → Int → Int → Option R) : Option R :=
 Zal (ZbE 68 [0, 1, 2, 7] E) <| Zs3 E 0 (.ptr 0 0 0 0) <| ZcR E 1 fun w_1 => ZcR E 2 fun w_2 => ZbO E 7 .i64 fun x_3 => Zsa s fun o'1 s'2 => ZnX o'1 3 36 fun e'3 k'4 => isN k'4 0 <| Zdm e'3 fun v'5 => asAgg v'5 fun c'6 => ZpO c'6 fun v'7 v'8 v'9 => ZbD 1 v'7 fun e_4 f_5 => asInt .i64 v'8 fun x_6 => asInt .u64 v'9 fun x_7 => Zba s'2 <| k w_1 w_2 x_3 e_4 f_5 x_6 x_7
theorem Zh3 {R : Type} {E : List V} {s : S} {k : ByteArray → ByteArray → Int → List V → Fl → Int → Int → Option R} {r : R} (h : ZiS E s k = some r) : ∃ w_1 w_2 x_3 e_4 f_5 x_6 x_7, E = Ze0 w_2 w_1 x_3 e_4 f_5 x_6 x_7 ∧ s = [some ⟨[.agg [.list 1 e_4 f_5, .int .i64 x_6, .int .u64 x_7]], 3, 36, 0⟩] ∧ k w_1 w_2 x_3 e_4 f_5 x_6 x_7 = some r := by
 unfold ZiS at h
 obtain ⟨hg, h1⟩ := Zaa h
 obtain ⟨hu0, h2⟩ := Ziv h1
 obtain ⟨_, hu1, h3⟩ := ZaR h2
 obtain ⟨_, hu2, h4⟩ := ZaR h3
 obtain ⟨_, hu7, h5⟩ := ZaB h4
 obtain ⟨_, _, rfl, h6⟩ := ZhU h5
 obtain ⟨_, _, rfl, h7⟩ := ZbG h6
 obtain ⟨rfl, h8⟩ := ZaD h7
 obtain ⟨_, rfl, h9⟩ := Zay h8
 obtain ⟨_, rfl, h10⟩ := Zca h9
 obtain ⟨_, _, _, rfl, h11⟩ := Zct h10
 obtain ⟨_, _, rfl, h12⟩ := ZaH h11
 obtain ⟨_, rfl, h13⟩ := Zas h12
 obtain ⟨_, rfl, h14⟩ := Zas h13
 obtain ⟨rfl, h15⟩ := Zak h14
 exact ⟨_, _, _, _, _, _, _, Zby hg rfl (Zaj hu0 (Zaj hu1 (Zaj hu2 (Zaj hu7 Zbk)))), rfl, h15⟩
def Zj3 (N : Nat) : ZaI := (Zae).add [0, 1, 0, 1] fun _ E s K => ZiS (Za7 Zgy E) s fun w_1 w_2 x_3 e_4 f_5 x_6 x_7 => Zb1 N w_2 (ZdK K w_2) N w_1 x_3 e_4 f_5 x_6 x_7
theorem Zpw {N : Nat} (hC : Ok Try.prog C) (hΦ : Zab Try.prog C (Zjz N)) : ZbF Try.prog C (Zj3 N) ZjU [0, 1, 0, 1] :=
 Zb3 (Λi := Zae) (tr := false) (ks := Zgy) (kx := Zk2) (N := N) hC hΦ
  (Zam (by kernel_rfl))
  fun R E s K r h => by
   have h2 := ZaI.add_self.symm.trans h
   obtain ⟨_, _, _, _, _, _, _, he, rfl, h3⟩ := Zh3 h2
   rw [he]
   exact (ZmX N _ _ N _ _ _ _ _ _).trans h3
theorem Zq4 : Zbh ZnZ [] = [([0, 1, 0, 1], ZjU)] := by kernel_rfl
theorem Ztc {R : Type} (N : Nat) (w_1 w_2 : ByteArray) (e_3 : List V) (f_4 : Fl) (x_5 x_6 : Int) (K : V → S → Option R) : Za9 C (Zjz N) (Zj3 N) 28 Try.f28 [.ptr 0 0 0 0, .str w_1, .str w_2] [some ⟨[.agg [.list 1 e_3 f_4, .int .i64 x_5, .int .u64 x_6]], 3, 36, 0⟩] (GK rl 1 K) =
 ZhO N w_1 w_2 e_3 f_4 x_5 x_6 (fun w_901 e_902 f_903 x_904 x_905 => K (.str w_901) [some ⟨[.agg [.list 1 e_902 f_903, .int .i64 x_904, .int .u64 x_905]], 3, 36, 0⟩]) := by kernel_rfl
theorem ZmH {N : Nat} (hC : Ok Try.prog C) (hΦ : Zab Try.prog C (Zjz N)) : ZaY Try.prog C (Zj3 N) ZnZ [] :=
 Zbb ZnZ [] (by
  rw [Zq4]
  intro p hp
  simp only [List.mem_cons, List.mem_nil_iff, or_false] at hp
  rcases hp with rfl
  ·exact (Zpw hC hΦ))
theorem Zl5 (hC : Ok Try.prog C) {N : Nat} (hΦ : Zab Try.prog C (Zjz N)) : Zab Try.prog C (ZoU N) := by
 refine hΦ.add_shared rfl fun R vs s K r h => ?_
 unfold Zq5 at h
 obtain ⟨_, _, _, rfl, h1⟩ := Zct h
 obtain ⟨o0, _, _, _, rfl, h2⟩ := ZbN h1
 obtain ⟨rfl, h3⟩ := ZaD h2
 obtain ⟨rfl, h4⟩ := ZaD h3
 obtain ⟨rfl, h5⟩ := ZaD h4
 obtain ⟨w_1, rfl, h6⟩ := ZaK h5
 obtain ⟨w_2, rfl, h7⟩ := ZaK h6
 obtain ⟨_, hob0, h8⟩ := Zce h7
 obtain ⟨_, _, rfl, h9⟩ := ZbG h8
 obtain ⟨rfl, h10⟩ := ZaD h9
 obtain ⟨_, rfl, h11⟩ := Zay h10
 obtain ⟨e_3, f_4, x_5, x_6, rfl, h12⟩ := ZaQ h11
 obtain ⟨hdist, h13⟩ := Zaa h12
 obtain ⟨hin, h14⟩ := Zaa h13
 refine ZbA (fn := Try.f28) (c := ZnZ) (os := [o0]) (rl := rl) (bi := [true]) (s0 := [some ⟨[.agg [.list 1 e_3 f_4, .int .i64 x_5, .int .u64 x_6]], 3, 36, 0⟩]) (as0 := [.ptr 0 0 0 0, .str w_1, .str w_2]) hC hΦ Try.func28 (by kernel_rfl) (by kernel_rfl) (ZmH (N := N) hC hΦ) rfl hdist ⟨⟨_, rfl, hob0⟩, trivial⟩ hin rfl rfl ?_
 refine (Ztc N _ _ _ _ _ _ _).trans ?_
 rw [← ZkO]
 exact h14
def ZrW (N : Nat) : (R : Type) → List V → S → (V → S → Option R) → Option R := fun _ vs s K =>
 Zdm vs fun v'1 => ZbD 1 v'1 fun e_1 f_2 => Zba s <| Zn9 N e_1 f_2 (fun w_3 => K (.str w_3) [])
def Zj4 (N : Nat) : Zar := (ZoU N).add 12 (ZrW N)
def Zsg : Code := ZaU Try.f12
theorem ZsM {R : Type} (N : Nat) (e_1 : List V) (f_2 : Fl) (K : V → S → Option R) : Za9 C (ZoU N) (Zae) 12 Try.f12 [.list 1 e_1 f_2] [] K =
 ZhH N e_1 f_2 (fun w_3 => K (.str w_3) []) := by kernel_rfl
theorem ZlO (hC : Ok Try.prog C) {N : Nat} (hΦ : Zab Try.prog C (ZoU N)) : Zab Try.prog C (Zj4 N) := by
 refine hΦ.add_pure rfl fun R vs K r h => ?_
 unfold ZrW at h
 obtain ⟨_, rfl, h1⟩ := Zay h
 obtain ⟨_, _, rfl, h2⟩ := ZaH h1
 obtain ⟨_, h3⟩ := Zak h2
 refine Zaz (fn := Try.f12) (c := Zsg) hC hΦ Try.func12 (by kernel_rfl) (by kernel_rfl) (Zam (Λ := Zae) (by kernel_rfl)) rfl rfl ?_
 refine (ZsM N _ _ _).trans ?_
 rw [← Zk5]
 exact h3
def Zq0 (N : Nat) : (R : Type) → List V → S → (V → S → Option R) → Option R := fun _ vs s K =>
 Zdm vs fun v'1 => Zb2 v'1 fun w_1 => Zba s <| ZoE N w_1 (fun x_2 b_3 => K (.tuple [.int .i64 x_2, .bool b_3]) [])
def Zpk (N : Nat) : Zar := (Zj4 N).add 13 (Zq0 N)
def Znz : Code := ZaU Try.f13
def ZjK : Code := (ZcN Znz [] 0).2
def Zhh : List Nat := ZeW 14 [0, 4]
def Zk3 : List Nat := ZeW 14 [2, 3]
def ZeQ (w_1 : ByteArray) (x_2 : Int) : List V := mkF 0 14 [(0, .str w_1), (4, .int .i64 x_2)]
def Zea {R : Type} (K : X → List V → S → Option R) (w_1 : ByteArray) : Int → Option R := (fun x_1' => K .ret (mkF 0 14 [(2, .int .i64 (x_1')), (3, .bool true)]) [])
def Zd1 {R : Type} (K : X → List V → S → Option R) (w_1 : ByteArray) : Unit → Option R := (fun _ => K (.exit 0) (mkF 0 14 []) [])
abbrev ZgE {R : Type} (N : Nat) : Nat → List V → S → (X → List V → S → Option R) → Option R := fun n => iter C (Zj4 N) (Zae) ZjK [0, 1, 0, 1] false Zhh Zk3 n R
theorem ZqI {R : Type} (N n : Nat) (w_1 : ByteArray) (x_2 : Int) (K : X → List V → S → Option R) :
 ZgE N (n + 1) (ZeQ w_1 x_2) [] K =
 Zcj N w_1 (fun x_2 => ZgE N n (ZeQ w_1 x_2) [] K) x_2 (Zea K w_1) (Zd1 K w_1) := by kernel_rfl
theorem ZmO {R : Type} (N : Nat) (w_1 : ByteArray) (K : X → List V → S → Option R) : ∀ (n : Nat) (x_2 : Int),
 ZgE N n (ZeQ w_1 x_2) [] K = Zeh N w_1 (Zea K w_1) (Zd1 K w_1) n x_2
 | 0, _ => rfl
 | n + 1, x_2 => (ZqI N n w_1 x_2 K).trans (congrArg (fun nx => Zcj N w_1 nx x_2 (Zea K w_1) (Zd1 K w_1)) (funext fun x_2 => ZmO N w_1 K n x_2))
def Zja {R : Type} (E : List V) (s : S) (k : ByteArray → Int → Option R) : Option R :=
 Zal (ZbE 14 [0, 4] E) <| ZcR E 0 fun w_1 => ZbO E 4 .i64 fun x_2 => Zba s <| k w_1 x_2
theorem ZiJ {R : Type} {E : List V} {s : S} {k : ByteArray → Int → Option R} {r : R} (h : Zja E s k = some r) : ∃ w_1 x_2, E = ZeQ w_1 x_2 ∧ s = [] ∧ k w_1 x_2 = some r := by
 unfold Zja at h
 obtain ⟨hg, h1⟩ := Zaa h
 obtain ⟨_, hu0, h2⟩ := ZaR h1
 obtain ⟨_, hu4, h3⟩ := ZaB h2
 obtain ⟨rfl, h4⟩ := Zak h3
 exact ⟨_, _, Zby hg rfl (Zaj hu0 (Zaj hu4 Zbk)), rfl, h4⟩
def ZjQ (N : Nat) : ZaI := (Zae).add [0, 1, 0, 1] fun _ E s K => Zja (Za7 Zhh E) s fun w_1 x_2 => Zeh N w_1 (Zea K w_1) (Zd1 K w_1) N x_2
theorem Zo9 {N : Nat} (hC : Ok Try.prog C) (hΦ : Zab Try.prog C (Zj4 N)) : ZbF Try.prog C (ZjQ N) ZjK [0, 1, 0, 1] :=
 Zb3 (Λi := Zae) (tr := false) (ks := Zhh) (kx := Zk3) (N := N) hC hΦ
  (Zam (by kernel_rfl))
  fun R E s K r h => by
   have h2 := ZaI.add_self.symm.trans h
   obtain ⟨_, _, he, rfl, h3⟩ := ZiJ h2
   rw [he]
   exact (ZmO N _ _ N _).trans h3
theorem ZrG : Zbh Znz [] = [([0, 1, 0, 1], ZjK)] := by kernel_rfl
theorem Zss {R : Type} (N : Nat) (w_1 : ByteArray) (K : V → S → Option R) : Za9 C (Zj4 N) (ZjQ N) 13 Try.f13 [.str w_1] [] K =
 Zis N w_1 (fun x_2 b_3 => K (.tuple [.int .i64 x_2, .bool b_3]) []) := by kernel_rfl
theorem Znu {N : Nat} (hC : Ok Try.prog C) (hΦ : Zab Try.prog C (Zj4 N)) : ZaY Try.prog C (ZjQ N) Znz [] :=
 Zbb Znz [] (by
  rw [ZrG]
  intro p hp
  simp only [List.mem_cons, List.mem_nil_iff, or_false] at hp
  rcases hp with rfl
  ·exact (Zo9 hC hΦ))
theorem ZlE (hC : Ok Try.prog C) {N : Nat} (hΦ : Zab Try.prog C (Zj4 N)) : Zab Try.prog C (Zpk N) := by
 refine hΦ.add_pure rfl fun R vs K r h => ?_
 unfold Zq0 at h
 obtain ⟨_, rfl, h1⟩ := Zay h
 obtain ⟨_, rfl, h2⟩ := ZaK h1
 obtain ⟨_, h3⟩ := Zak h2
 refine Zaz (fn := Try.f13) (c := Znz) hC hΦ Try.func13 (by kernel_rfl) (by kernel_rfl) (Znu (N := N) hC hΦ) rfl rfl ?_
 refine (Zss N _ _).trans ?_
 rw [← ZkL]
 exact h3
def ZrQ (N : Nat) : (R : Type) → List V → S → (V → S → Option R) → Option R := fun _ vs s K =>
 Zdm vs fun v'1 => ZbD 1 v'1 fun e_1 f_2 => Zba s <| Zno N e_1 f_2 (fun w_3 => K (.str w_3) [])
def Zjo (N : Nat) : Zar := (Zpk N).add 14 (ZrQ N)
def ZsI : Code := ZaU Try.f14
theorem ZsX {R : Type} (N : Nat) (e_1 : List V) (f_2 : Fl) (K : V → S → Option R) : Za9 C (Zpk N) (Zae) 14 Try.f14 [.list 1 e_1 f_2] [] K =
 Zin N e_1 f_2 (fun w_3 => K (.str w_3) []) := by kernel_rfl
theorem Zl4 (hC : Ok Try.prog C) {N : Nat} (hΦ : Zab Try.prog C (Zpk N)) : Zab Try.prog C (Zjo N) := by
 refine hΦ.add_pure rfl fun R vs K r h => ?_
 unfold ZrQ at h
 obtain ⟨_, rfl, h1⟩ := Zay h
 obtain ⟨_, _, rfl, h2⟩ := ZaH h1
 obtain ⟨_, h3⟩ := Zak h2
 refine Zaz (fn := Try.f14) (c := ZsI) hC hΦ Try.func14 (by kernel_rfl) (by kernel_rfl) (Zam (Λ := Zae) (by kernel_rfl)) rfl rfl ?_
 refine (ZsX N _ _ _).trans ?_
 rw [← Zlf]
 exact h3
def ZrJ (N : Nat) : (R : Type) → List V → S → (V → S → Option R) → Option R := fun _ vs s K =>
 Zdm vs fun v'1 => Zb2 v'1 fun w_1 => Zba s <| ZoJ N w_1 (fun x_2 b_3 => K (.tuple [.int .i64 x_2, .bool b_3]) [])
def ZpA (N : Nat) : Zar := (Zjo N).add 15 (ZrJ N)
def ZmY : Code := ZaU Try.f15
def ZjL : Code := (ZcN ZmY [] 0).2
def Zgm : List Nat := ZeW 14 [0, 4]
def Zlc : List Nat := ZeW 14 [2, 3]
def Ze4 (w_1 : ByteArray) (x_2 : Int) : List V := mkF 0 14 [(0, .str w_1), (4, .int .i64 x_2)]
def Zd5 {R : Type} (K : X → List V → S → Option R) (w_1 : ByteArray) : Int → Option R := (fun x_1' => K .ret (mkF 0 14 [(2, .int .i64 (x_1')), (3, .bool true)]) [])
def ZdD {R : Type} (K : X → List V → S → Option R) (w_1 : ByteArray) : Unit → Option R := (fun _ => K (.exit 0) (mkF 0 14 []) [])
abbrev Zgq {R : Type} (N : Nat) : Nat → List V → S → (X → List V → S → Option R) → Option R := fun n => iter C (Zjo N) (Zae) ZjL [0, 1, 0, 1] false Zgm Zlc n R
theorem Zp2 {R : Type} (N n : Nat) (w_1 : ByteArray) (x_2 : Int) (K : X → List V → S → Option R) :
 Zgq N (n + 1) (Ze4 w_1 x_2) [] K =
 Zcp N w_1 (fun x_2 => Zgq N n (Ze4 w_1 x_2) [] K) x_2 (Zd5 K w_1) (ZdD K w_1) := by kernel_rfl
theorem Znw {R : Type} (N : Nat) (w_1 : ByteArray) (K : X → List V → S → Option R) : ∀ (n : Nat) (x_2 : Int),
 Zgq N n (Ze4 w_1 x_2) [] K = Zei N w_1 (Zd5 K w_1) (ZdD K w_1) n x_2
 | 0, _ => rfl
 | n + 1, x_2 => (Zp2 N n w_1 x_2 K).trans (congrArg (fun nx => Zcp N w_1 nx x_2 (Zd5 K w_1) (ZdD K w_1)) (funext fun x_2 => Znw N w_1 K n x_2))
def ZjP {R : Type} (E : List V) (s : S) (k : ByteArray → Int → Option R) : Option R :=
 Zal (ZbE 14 [0, 4] E) <| ZcR E 0 fun w_1 => ZbO E 4 .i64 fun x_2 => Zba s <| k w_1 x_2
theorem ZiP {R : Type} {E : List V} {s : S} {k : ByteArray → Int → Option R} {r : R} (h : ZjP E s k = some r) : ∃ w_1 x_2, E = Ze4 w_1 x_2 ∧ s = [] ∧ k w_1 x_2 = some r := by
 unfold ZjP at h
 obtain ⟨hg, h1⟩ := Zaa h
 obtain ⟨_, hu0, h2⟩ := ZaR h1
 obtain ⟨_, hu4, h3⟩ := ZaB h2
 obtain ⟨rfl, h4⟩ := Zak h3
 exact ⟨_, _, Zby hg rfl (Zaj hu0 (Zaj hu4 Zbk)), rfl, h4⟩
def Zj2 (N : Nat) : ZaI := (Zae).add [0, 1, 0, 1] fun _ E s K => ZjP (Za7 Zgm E) s fun w_1 x_2 => Zei N w_1 (Zd5 K w_1) (ZdD K w_1) N x_2
theorem ZoZ {N : Nat} (hC : Ok Try.prog C) (hΦ : Zab Try.prog C (Zjo N)) : ZbF Try.prog C (Zj2 N) ZjL [0, 1, 0, 1] :=
 Zb3 (Λi := Zae) (tr := false) (ks := Zgm) (kx := Zlc) (N := N) hC hΦ
  (Zam (by kernel_rfl))
  fun R E s K r h => by
   have h2 := ZaI.add_self.symm.trans h
   obtain ⟨_, _, he, rfl, h3⟩ := ZiP h2
   rw [he]
   exact (Znw N _ _ N _).trans h3
theorem Zrg : Zbh ZmY [] = [([0, 1, 0, 1], ZjL)] := by kernel_rfl
theorem ZsA {R : Type} (N : Nat) (w_1 : ByteArray) (K : V → S → Option R) : Za9 C (Zjo N) (Zj2 N) 15 Try.f15 [.str w_1] [] K =
 ZhW N w_1 (fun x_2 b_3 => K (.tuple [.int .i64 x_2, .bool b_3]) []) := by kernel_rfl
theorem Zne {N : Nat} (hC : Ok Try.prog C) (hΦ : Zab Try.prog C (Zjo N)) : ZaY Try.prog C (Zj2 N) ZmY [] :=
 Zbb ZmY [] (by
  rw [Zrg]
  intro p hp
  simp only [List.mem_cons, List.mem_nil_iff, or_false] at hp
  rcases hp with rfl
  ·exact (ZoZ hC hΦ))
theorem ZlP (hC : Ok Try.prog C) {N : Nat} (hΦ : Zab Try.prog C (Zjo N)) : Zab Try.prog C (ZpA N) := by
 refine hΦ.add_pure rfl fun R vs K r h => ?_
 unfold ZrJ at h
 obtain ⟨_, rfl, h1⟩ := Zay h
 obtain ⟨_, rfl, h2⟩ := ZaK h1
 obtain ⟨_, h3⟩ := Zak h2
 refine Zaz (fn := Try.f15) (c := ZmY) hC hΦ Try.func15 (by kernel_rfl) (by kernel_rfl) (Zne (N := N) hC hΦ) rfl rfl ?_
 refine (ZsA N _ _).trans ?_
 rw [← Zk9]
 exact h3
def ZrB (N : Nat) : (R : Type) → List V → S → (V → S → Option R) → Option R := fun _ vs s K =>
 ZkD vs fun v'1 v'2 => ZgV v'1 fun o0 k'4 k'5 k'6 => isN k'4 0 <| isN k'5 0 <| isN k'6 0 <| ZbD 1 v'2 fun e_1 f_2 => Zps s o0 0 fun o'7 => ZnX o'7 3 36 fun e'8 k'9 => isN k'9 0 <| Zdm e'8 fun v'10 => Za5 v'10 fun e_3 f_4 x_5 x_6 => Zal (Za1 [o0]) <| Zal (okI 1 [true] [some ⟨[.agg [.list 1 e_3 f_4, .int .i64 x_5, .int .u64 x_6]], 3, 36, 0⟩]) <| Zlz N e_1 f_2 e_3 f_4 x_5 x_6 (fun w_901 e_902 f_903 x_904 x_905 => FK s [o0] rl K (.str w_901) [some ⟨[.agg [.list 1 e_902 f_903, .int .i64 x_904, .int .u64 x_905]], 3, 36, 0⟩])
def Zot (N : Nat) : Zar := (ZpA N).add 29 (ZrB N)
def Zsk : Code := ZaU Try.f29
theorem ZsS {R : Type} (N : Nat) (e_1 : List V) (f_2 : Fl) (e_3 : List V) (f_4 : Fl) (x_5 x_6 : Int) (K : V → S → Option R) : Za9 C (ZpA N) (Zae) 29 Try.f29 [.ptr 0 0 0 0, .list 1 e_1 f_2] [some ⟨[.agg [.list 1 e_3 f_4, .int .i64 x_5, .int .u64 x_6]], 3, 36, 0⟩] (GK rl 1 K) =
 Zhq N e_1 f_2 e_3 f_4 x_5 x_6 (fun w_901 e_902 f_903 x_904 x_905 => K (.str w_901) [some ⟨[.agg [.list 1 e_902 f_903, .int .i64 x_904, .int .u64 x_905]], 3, 36, 0⟩]) := by kernel_rfl
theorem Zmm (hC : Ok Try.prog C) {N : Nat} (hΦ : Zab Try.prog C (ZpA N)) : Zab Try.prog C (Zot N) := by
 refine hΦ.add_shared rfl fun R vs s K r h => ?_
 unfold ZrB at h
 obtain ⟨_, _, rfl, h1⟩ := Zbl h
 obtain ⟨o0, _, _, _, rfl, h2⟩ := ZbN h1
 obtain ⟨rfl, h3⟩ := ZaD h2
 obtain ⟨rfl, h4⟩ := ZaD h3
 obtain ⟨rfl, h5⟩ := ZaD h4
 obtain ⟨e_1, f_2, rfl, h6⟩ := ZaH h5
 obtain ⟨_, hob0, h7⟩ := Zce h6
 obtain ⟨_, _, rfl, h8⟩ := ZbG h7
 obtain ⟨rfl, h9⟩ := ZaD h8
 obtain ⟨_, rfl, h10⟩ := Zay h9
 obtain ⟨e_3, f_4, x_5, x_6, rfl, h11⟩ := ZaQ h10
 obtain ⟨hdist, h12⟩ := Zaa h11
 obtain ⟨hin, h13⟩ := Zaa h12
 refine ZbA (fn := Try.f29) (c := Zsk) (os := [o0]) (rl := rl) (bi := [true]) (s0 := [some ⟨[.agg [.list 1 e_3 f_4, .int .i64 x_5, .int .u64 x_6]], 3, 36, 0⟩]) (as0 := [.ptr 0 0 0 0, .list 1 e_1 f_2]) hC hΦ Try.func29 (by kernel_rfl) (by kernel_rfl) (Zam (Λ := Zae) (by kernel_rfl)) rfl hdist ⟨⟨_, rfl, hob0⟩, trivial⟩ hin rfl rfl ?_
 refine (ZsS N _ _ _ _ _ _ _).trans ?_
 rw [← Zkh]
 exact h13
def Zru (N : Nat) : (R : Type) → List V → S → (V → S → Option R) → Option R := fun _ vs s K =>
 Zdm vs fun v'1 => ZbD 1 v'1 fun e_1 f_2 => Zba s <| Zos N e_1 f_2 (fun x_3 w_4 => K (.tuple [.int .i64 x_3, .str w_4]) [])
def Zp3 (N : Nat) : Zar := (Zot N).add 16 (Zru N)
def Zsv : Code := ZaU Try.f16
theorem Zs7 {R : Type} (N : Nat) (e_1 : List V) (f_2 : Fl) (K : V → S → Option R) : Za9 C (Zot N) (Zae) 16 Try.f16 [.list 1 e_1 f_2] [] K =
 Zim N e_1 f_2 (fun x_3 w_4 => K (.tuple [.int .i64 x_3, .str w_4]) []) := by kernel_rfl
theorem Zll (hC : Ok Try.prog C) {N : Nat} (hΦ : Zab Try.prog C (Zot N)) : Zab Try.prog C (Zp3 N) := by
 refine hΦ.add_pure rfl fun R vs K r h => ?_
 unfold Zru at h
 obtain ⟨_, rfl, h1⟩ := Zay h
 obtain ⟨_, _, rfl, h2⟩ := ZaH h1
 obtain ⟨_, h3⟩ := Zak h2
 refine Zaz (fn := Try.f16) (c := Zsv) hC hΦ Try.func16 (by kernel_rfl) (by kernel_rfl) (Zam (Λ := Zae) (by kernel_rfl)) rfl rfl ?_
 refine (Zs7 N _ _ _).trans ?_
 rw [← Zk8]
 exact h3
def Zrz (N : Nat) : (R : Type) → List V → S → (V → S → Option R) → Option R := fun _ vs s K =>
 ZkD vs fun v'1 v'2 => Zb2 v'1 fun w_1 => asInt .u8 v'2 fun x_2 => Zba s <| Zqk N w_1 x_2 (fun x_3 => K (.int .i64 x_3) [])
def Zpq (N : Nat) : Zar := (Zp3 N).add 47 (Zrz N)
theorem ZlJ (hC : Ok Try.prog C) {N : Nat} (hΦ : Zab Try.prog C (Zp3 N)) : Zab Try.prog C (Zpq N) := by
 refine hΦ.add_pure rfl fun R vs K r h => ?_
 unfold Zrz at h
 obtain ⟨_, _, rfl, h1⟩ := Zbl h
 obtain ⟨_, rfl, h2⟩ := ZaK h1
 obtain ⟨_, rfl, h3⟩ := Zas h2
 obtain ⟨_, h4⟩ := Zak h3
 rw [Zkq] at h4
 exact ⟨_, h4, Zdd Try.func47 (by kernel_rfl) (by kernel_rfl) (by kernel_rfl) (by kernel_rfl) _ _⟩
def ZrU (N : Nat) : (R : Type) → List V → S → (V → S → Option R) → Option R := fun _ vs s K =>
 ZkD vs fun v'1 v'2 => Zb2 v'1 fun w_1 => asInt .u8 v'2 fun x_2 => Zba s <| Zqz N w_1 x_2 (fun x_3 => K (.int .i64 x_3) [])
def Zpm (N : Nat) : Zar := (Zpq N).add 46 (ZrU N)
def Zse : Code := ZaU Try.f46
theorem Zsq {R : Type} (N : Nat) (w_1 : ByteArray) (x_2 : Int) (K : V → S → Option R) : Za9 C (Zpq N) (Zae) 46 Try.f46 [.str w_1, .int .u8 x_2] [] K =
 Zhr N w_1 x_2 (fun x_3 => K (.int .i64 x_3) []) := by kernel_rfl
theorem Zmi (hC : Ok Try.prog C) {N : Nat} (hΦ : Zab Try.prog C (Zpq N)) : Zab Try.prog C (Zpm N) := by
 refine hΦ.add_pure rfl fun R vs K r h => ?_
 unfold ZrU at h
 obtain ⟨_, _, rfl, h1⟩ := Zbl h
 obtain ⟨_, rfl, h2⟩ := ZaK h1
 obtain ⟨_, rfl, h3⟩ := Zas h2
 obtain ⟨_, h4⟩ := Zak h3
 refine Zaz (fn := Try.f46) (c := Zse) hC hΦ Try.func46 (by kernel_rfl) (by kernel_rfl) (Zam (Λ := Zae) (by kernel_rfl)) rfl rfl ?_
 refine (Zsq N _ _ _).trans ?_
 rw [← Zlj]
 exact h4
def Zq6 (N : Nat) : (R : Type) → List V → S → (V → S → Option R) → Option R := fun _ vs s K =>
 ZkD vs fun v'1 v'2 => Zb2 v'1 fun w_1 => asInt .u8 v'2 fun x_2 => Zba s <| ZnN N w_1 x_2 (fun x_3 => K (.int .i64 x_3) [])
def Zop (N : Nat) : Zar := (Zpm N).add 42 (Zq6 N)
def Zs9 : Code := ZaU Try.f42
theorem Ztq {R : Type} (N : Nat) (w_1 : ByteArray) (x_2 : Int) (K : V → S → Option R) : Za9 C (Zpm N) (Zae) 42 Try.f42 [.str w_1, .int .u8 x_2] [] K =
 Zh9 N w_1 x_2 (fun x_3 => K (.int .i64 x_3) []) := by kernel_rfl
theorem ZlX (hC : Ok Try.prog C) {N : Nat} (hΦ : Zab Try.prog C (Zpm N)) : Zab Try.prog C (Zop N) := by
 refine hΦ.add_pure rfl fun R vs K r h => ?_
 unfold Zq6 at h
 obtain ⟨_, _, rfl, h1⟩ := Zbl h
 obtain ⟨_, rfl, h2⟩ := ZaK h1
 obtain ⟨_, rfl, h3⟩ := Zas h2
 obtain ⟨_, h4⟩ := Zak h3
 refine Zaz (fn := Try.f42) (c := Zs9) hC hΦ Try.func42 (by kernel_rfl) (by kernel_rfl) (Zam (Λ := Zae) (by kernel_rfl)) rfl rfl ?_
 refine (Ztq N _ _ _).trans ?_
 rw [← ZkQ]
 exact h4
def Zq7 (N : Nat) : (R : Type) → List V → S → (V → S → Option R) → Option R := fun _ vs s K =>
 Zdm vs fun v'1 => asInt .i32 v'1 fun x_1 => Zba s <| ZrS N x_1 (fun b_2 => K (.bool b_2) [])
def ZqK (N : Nat) : Zar := (Zop N).add 43 (Zq7 N)
def Zsi : Code := ZaU Try.f43
theorem Zst {R : Type} (N : Nat) (x_1 : Int) (K : V → S → Option R) : Za9 C (Zop N) (Zae) 43 Try.f43 [.int .i32 x_1] [] K =
 ZkI N x_1 (fun b_2 => K (.bool b_2) []) := by kernel_rfl
theorem Zl2 (hC : Ok Try.prog C) {N : Nat} (hΦ : Zab Try.prog C (Zop N)) : Zab Try.prog C (ZqK N) := by
 refine hΦ.add_pure rfl fun R vs K r h => ?_
 unfold Zq7 at h
 obtain ⟨_, rfl, h1⟩ := Zay h
 obtain ⟨_, rfl, h2⟩ := Zas h1
 obtain ⟨_, h3⟩ := Zak h2
 refine Zaz (fn := Try.f43) (c := Zsi) hC hΦ Try.func43 (by kernel_rfl) (by kernel_rfl) (Zam (Λ := Zae) (by kernel_rfl)) rfl rfl ?_
 refine (Zst N _ _).trans ?_
 rw [← Zpr]
 exact h3
def Zra (N : Nat) : (R : Type) → List V → S → (V → S → Option R) → Option R := fun _ vs s K =>
 ZkD vs fun v'1 v'2 => Zb2 v'1 fun w_1 => Zb2 v'2 fun w_2 => Zba s <| Zqs N w_1 w_2 (fun x_3 => K (.int .i64 x_3) [])
def ZiZ (N : Nat) : Zar := (ZqK N).add 30 (Zra N)
theorem Zl6 (hC : Ok Try.prog C) {N : Nat} (hΦ : Zab Try.prog C (ZqK N)) : Zab Try.prog C (ZiZ N) := by
 refine hΦ.add_pure rfl fun R vs K r h => ?_
 unfold Zra at h
 obtain ⟨_, _, rfl, h1⟩ := Zbl h
 obtain ⟨_, rfl, h2⟩ := ZaK h1
 obtain ⟨_, rfl, h3⟩ := ZaK h2
 obtain ⟨_, h4⟩ := Zak h3
 rw [Zkv] at h4
 unfold Zhz at h4
 obtain ⟨_, h1, h2⟩ := ZfR Try.func30 (by kernel_rfl) (by kernel_rfl) (fun s c w h1 h2 h3 h4 => Try.strings_IndexAny_laid s c w h1 h2 h3 h4) h4
 exact ⟨_, h1, h2⟩
def Zrj (N : Nat) : (R : Type) → List V → S → (V → S → Option R) → Option R := fun _ vs s K =>
 ZpO vs fun v'1 v'2 v'3 => Zb2 v'1 fun w_1 => Zb2 v'2 fun w_2 => ZbD 1 v'3 fun e_3 f_4 => Zba s <| ZlG N w_1 w_2 e_3 f_4 (fun x_5 b_6 => K (.tuple [.int .i64 x_5, .bool b_6]) [])
def Zpa (N : Nat) : Zar := (ZiZ N).add 31 (Zrj N)
def Zoa : Code := ZaU Try.f31
def Zi2 : Code := (ZcN Zoa [] 0).2
def Zg7 : List Nat := ZeW 41 [0, 1, 2, 8, 12, 13]
def Zko : List Nat := ZeW 41 [6, 7, 8]
def ZeR (w_1 w_2 : ByteArray) (e_3 : List V) (f_4 : Fl) (x_6 x_5 x_7 : Int) : List V := mkF 0 41 [(0, .str w_1), (1, .str w_2), (2, .list 1 e_3 f_4), (8, .int .i64 x_5), (12, .int .i64 x_6), (13, .int .i64 x_7)]
def Zd4 {R : Type} (K : X → List V → S → Option R) (w_1 : ByteArray) (w_2 : ByteArray) (e_3 : List V) (f_4 : Fl) (x_6 : Int) : Int → Option R := (fun x_1' => K .ret (mkF 0 41 [(6, .int .i64 0), (7, .bool false), (8, .int .i64 (x_1'))]) [])
def ZdS {R : Type} (K : X → List V → S → Option R) (w_1 : ByteArray) (w_2 : ByteArray) (e_3 : List V) (f_4 : Fl) (x_6 : Int) : Int → Option R := (fun x_1' => K (.exit 0) (mkF 0 41 [(8, .int .i64 (x_1'))]) [])
abbrev ZgK {R : Type} (N : Nat) : Nat → List V → S → (X → List V → S → Option R) → Option R := fun n => iter C (ZiZ N) (Zae) Zi2 [0, 1, 0, 1, 1] false Zg7 Zko n R
theorem Zqa {R : Type} (N n : Nat) (w_1 w_2 : ByteArray) (e_3 : List V) (f_4 : Fl) (x_6 : Int) (x_5 x_7 : Int) (K : X → List V → S → Option R) :
 ZgK N (n + 1) (ZeR w_1 w_2 e_3 f_4 x_6 x_5 x_7) [] K =
 ZbT N w_1 w_2 e_3 f_4 x_6 (fun x_5 x_7 => ZgK N n (ZeR w_1 w_2 e_3 f_4 x_6 x_5 x_7) [] K) x_5 x_7 (Zd4 K w_1 w_2 e_3 f_4 x_6) (ZdS K w_1 w_2 e_3 f_4 x_6) := by kernel_rfl
theorem Zm9 {R : Type} (N : Nat) (w_1 w_2 : ByteArray) (e_3 : List V) (f_4 : Fl) (x_6 : Int) (K : X → List V → S → Option R) : ∀ (n : Nat) (x_5 x_7 : Int),
 ZgK N n (ZeR w_1 w_2 e_3 f_4 x_6 x_5 x_7) [] K = Zdr N w_1 w_2 e_3 f_4 x_6 (Zd4 K w_1 w_2 e_3 f_4 x_6) (ZdS K w_1 w_2 e_3 f_4 x_6) n x_5 x_7
 | 0, _, _ => rfl
 | n + 1, x_5, x_7 => (Zqa N n w_1 w_2 e_3 f_4 x_6 x_5 x_7 K).trans (congrArg (fun nx => ZbT N w_1 w_2 e_3 f_4 x_6 nx x_5 x_7 (Zd4 K w_1 w_2 e_3 f_4 x_6) (ZdS K w_1 w_2 e_3 f_4 x_6)) (funext fun x_5 => funext fun x_7 => Zm9 N w_1 w_2 e_3 f_4 x_6 K n x_5 x_7))
def ZiX {R : Type} (E : List V) (s : S) (k : ByteArray → ByteArray → List V → Fl → Int → Int → Int → Option R) : Option R :=
 Zal (ZbE 41 [0, 1, 2, 8, 12, 13] E) <| ZcR E 0 fun w_1 => ZcR E 1 fun w_2 => Ziq E 2 1 fun e_3 f_4 => ZbO E 8 .i64 fun x_5 => ZbO E 12 .i64 fun x_6 => ZbO E 13 .i64 fun x_7 => Zba s <| k w_1 w_2 e_3 f_4 x_5 x_6 x_7
theorem Zh7 {R : Type} {E : List V} {s : S} {k : ByteArray → ByteArray → List V → Fl → Int → Int → Int → Option R} {r : R} (h : ZiX E s k = some r) : ∃ w_1 w_2 e_3 f_4 x_5 x_6 x_7, E = ZeR w_1 w_2 e_3 f_4 x_6 x_5 x_7 ∧ s = [] ∧ k w_1 w_2 e_3 f_4 x_5 x_6 x_7 = some r := by
 unfold ZiX at h
 obtain ⟨hg, h1⟩ := Zaa h
 obtain ⟨_, hu0, h2⟩ := ZaR h1
 obtain ⟨_, hu1, h3⟩ := ZaR h2
 obtain ⟨_, _, hu2, h4⟩ := ZcE h3
 obtain ⟨_, hu8, h5⟩ := ZaB h4
 obtain ⟨_, hu12, h6⟩ := ZaB h5
 obtain ⟨_, hu13, h7⟩ := ZaB h6
 obtain ⟨rfl, h8⟩ := Zak h7
 exact ⟨_, _, _, _, _, _, _, Zby hg rfl (Zaj hu0 (Zaj hu1 (Zaj hu2 (Zaj hu8 (Zaj hu12 (Zaj hu13 Zbk)))))), rfl, h8⟩
def Zi7 (N : Nat) : ZaI := (Zae).add [0, 1, 0, 1, 1] fun _ E s K => ZiX (Za7 Zg7 E) s fun w_1 w_2 e_3 f_4 x_5 x_6 x_7 => Zdr N w_1 w_2 e_3 f_4 x_6 (Zd4 K w_1 w_2 e_3 f_4 x_6) (ZdS K w_1 w_2 e_3 f_4 x_6) N x_5 x_7
theorem ZoV {N : Nat} (hC : Ok Try.prog C) (hΦ : Zab Try.prog C (ZiZ N)) : ZbF Try.prog C (Zi7 N) Zi2 [0, 1, 0, 1, 1] :=
 Zb3 (Λi := Zae) (tr := false) (ks := Zg7) (kx := Zko) (N := N) hC hΦ
  (Zam (by kernel_rfl))
  fun R E s K r h => by
   have h2 := ZaI.add_self.symm.trans h
   obtain ⟨_, _, _, _, _, _, _, he, rfl, h3⟩ := Zh7 h2
   rw [he]
   exact (Zm9 N _ _ _ _ _ _ N _ _).trans h3
theorem Zrh : Zbh Zoa [] = [([0, 1, 0, 1, 1], Zi2)] := by kernel_rfl
theorem ZsH {R : Type} (N : Nat) (w_1 w_2 : ByteArray) (e_3 : List V) (f_4 : Fl) (K : V → S → Option R) : Za9 C (ZiZ N) (Zi7 N) 31 Try.f31 [.str w_1, .str w_2, .list 1 e_3 f_4] [] K =
 ZhL N w_1 w_2 e_3 f_4 (fun x_5 b_6 => K (.tuple [.int .i64 x_5, .bool b_6]) []) := by kernel_rfl
theorem ZmI {N : Nat} (hC : Ok Try.prog C) (hΦ : Zab Try.prog C (ZiZ N)) : ZaY Try.prog C (Zi7 N) Zoa [] :=
 Zbb Zoa [] (by
  rw [Zrh]
  intro p hp
  simp only [List.mem_cons, List.mem_nil_iff, or_false] at hp
  rcases hp with rfl
  ·exact (ZoV hC hΦ))
theorem ZlW (hC : Ok Try.prog C) {N : Nat} (hΦ : Zab Try.prog C (ZiZ N)) : Zab Try.prog C (Zpa N) := by
 refine hΦ.add_pure rfl fun R vs K r h => ?_
 unfold Zrj at h
 obtain ⟨_, _, _, rfl, h1⟩ := Zct h
 obtain ⟨_, rfl, h2⟩ := ZaK h1
 obtain ⟨_, rfl, h3⟩ := ZaK h2
 obtain ⟨_, _, rfl, h4⟩ := ZaH h3
 obtain ⟨_, h5⟩ := Zak h4
 refine Zaz (fn := Try.f31) (c := Zoa) hC hΦ Try.func31 (by kernel_rfl) (by kernel_rfl) (ZmI (N := N) hC hΦ) rfl rfl ?_
 refine (ZsH N _ _ _ _ _).trans ?_
 rw [← Zli]
 exact h5
def ZqU (N : Nat) : (R : Type) → List V → S → (V → S → Option R) → Option R := fun _ vs s K =>
 ZkD vs fun v'1 v'2 => asInt .i64 v'1 fun x_1 => Zb2 v'2 fun w_2 => Zba s <| ZmJ N x_1 w_2 (fun x_3 b_4 => K (.tuple [.int .i64 x_3, .bool b_4]) [])
def Ze7 (N : Nat) : Zar := (Zpa N).add 17 (ZqU N)
def Zsm : Code := ZaU Try.f17
theorem Zsj {R : Type} (N : Nat) (x_1 : Int) (w_2 : ByteArray) (K : V → S → Option R) : Za9 C (Zpa N) (Zae) 17 Try.f17 [.int .i64 x_1, .str w_2] [] K =
 Zio N x_1 w_2 (fun x_3 b_4 => K (.tuple [.int .i64 x_3, .bool b_4]) []) := by kernel_rfl
theorem ZlK (hC : Ok Try.prog C) {N : Nat} (hΦ : Zab Try.prog C (Zpa N)) : Zab Try.prog C (Ze7 N) := by
 refine hΦ.add_pure rfl fun R vs K r h => ?_
 unfold ZqU at h
 obtain ⟨_, _, rfl, h1⟩ := Zbl h
 obtain ⟨_, rfl, h2⟩ := Zas h1
 obtain ⟨_, rfl, h3⟩ := ZaK h2
 obtain ⟨_, h4⟩ := Zak h3
 refine Zaz (fn := Try.f17) (c := Zsm) hC hΦ Try.func17 (by kernel_rfl) (by kernel_rfl) (Zam (Λ := Zae) (by kernel_rfl)) rfl rfl ?_
 refine (Zsj N _ _ _).trans ?_
 rw [← Zkg]
 exact h4
def Zq9 (N : Nat) : (R : Type) → List V → S → (V → S → Option R) → Option R := fun _ vs s K =>
 ZpO vs fun v'1 v'2 v'3 => Zb2 v'1 fun w_1 => Zb2 v'2 fun w_2 => ZbD 1 v'3 fun e_3 f_4 => Zba s <| Zlv N w_1 w_2 e_3 f_4 (fun x_5 => K (.int .i64 x_5) [])
def ZjG (N : Nat) : Zar := (Ze7 N).add 32 (Zq9 N)
def ZmZ : Code := ZaU Try.f32
def ZdA : Code := (ZcN ZmZ [] 0).2
def ZjH : Code := (ZcN ZdA (0 :: [0, 1, 0, 1, 1]) 0).2
def Zjf : Code := (ZcN ZdA (0 :: [0, 1, 0, 1, 1]) 1).2
def Zgx : List Nat := ZeW 55 [0, 1, 2, 7, 8, 9]
def Zkj : List Nat := ZeW 55 [0, 1, 2, 7, 8, 9]
def ZeL (w_1 w_2 : ByteArray) (e_3 : List V) (f_4 : Fl) (x_5 x_6 x_7 : Int) : List V := mkF 0 55 [(0, .str w_1), (1, .str w_2), (2, .list 1 e_3 f_4), (7, .int .i64 x_5), (8, .int .i64 x_6), (9, .int .i64 x_7)]
def ZdZ {R : Type} (K : X → List V → S → Option R) (w_1 : ByteArray) (w_2 : ByteArray) (e_3 : List V) (f_4 : Fl) (x_5 : Int) (x_6 : Int) : Int → Option R := (fun x_1' => K (.exit 2) (mkF 0 55 [(0, .str w_1), (1, .str w_2), (2, .list 1 e_3 f_4), (7, .int .i64 x_5), (8, .int .i64 x_6), (9, .int .i64 (x_1'))]) [])
abbrev ZgO {R : Type} (N : Nat) : Nat → List V → S → (X → List V → S → Option R) → Option R := fun n => iter C (Ze7 N) (Zae) ZjH [0, 0, 1, 0, 0, 1, 0, 0, 1, 0, 1, 1] false Zgx Zkj n R
theorem Zql {R : Type} (N n : Nat) (w_1 w_2 : ByteArray) (e_3 : List V) (f_4 : Fl) (x_5 x_6 : Int) (x_7 : Int) (K : X → List V → S → Option R) :
 ZgO N (n + 1) (ZeL w_1 w_2 e_3 f_4 x_5 x_6 x_7) [] K =
 Zb0 N w_1 w_2 e_3 f_4 x_5 x_6 (fun x_7 => ZgO N n (ZeL w_1 w_2 e_3 f_4 x_5 x_6 x_7) [] K) x_7 (ZdZ K w_1 w_2 e_3 f_4 x_5 x_6) := by kernel_rfl
theorem Zm7 {R : Type} (N : Nat) (w_1 w_2 : ByteArray) (e_3 : List V) (f_4 : Fl) (x_5 x_6 : Int) (K : X → List V → S → Option R) : ∀ (n : Nat) (x_7 : Int),
 ZgO N n (ZeL w_1 w_2 e_3 f_4 x_5 x_6 x_7) [] K = ZcY N w_1 w_2 e_3 f_4 x_5 x_6 (ZdZ K w_1 w_2 e_3 f_4 x_5 x_6) n x_7
 | 0, _ => rfl
 | n + 1, x_7 => (Zql N n w_1 w_2 e_3 f_4 x_5 x_6 x_7 K).trans (congrArg (fun nx => Zb0 N w_1 w_2 e_3 f_4 x_5 x_6 nx x_7 (ZdZ K w_1 w_2 e_3 f_4 x_5 x_6)) (funext fun x_7 => Zm7 N w_1 w_2 e_3 f_4 x_5 x_6 K n x_7))
def Zjl {R : Type} (E : List V) (s : S) (k : ByteArray → ByteArray → List V → Fl → Int → Int → Int → Option R) : Option R :=
 Zal (ZbE 55 [0, 1, 2, 7, 8, 9] E) <| ZcR E 0 fun w_1 => ZcR E 1 fun w_2 => Ziq E 2 1 fun e_3 f_4 => ZbO E 7 .i64 fun x_5 => ZbO E 8 .i64 fun x_6 => ZbO E 9 .i64 fun x_7 => Zba s <| k w_1 w_2 e_3 f_4 x_5 x_6 x_7
theorem ZhK {R : Type} {E : List V} {s : S} {k : ByteArray → ByteArray → List V → Fl → Int → Int → Int → Option R} {r : R} (h : Zjl E s k = some r) : ∃ w_1 w_2 e_3 f_4 x_5 x_6 x_7, E = ZeL w_1 w_2 e_3 f_4 x_5 x_6 x_7 ∧ s = [] ∧ k w_1 w_2 e_3 f_4 x_5 x_6 x_7 = some r := by
 unfold Zjl at h
 obtain ⟨hg, h1⟩ := Zaa h
 obtain ⟨_, hu0, h2⟩ := ZaR h1
 obtain ⟨_, hu1, h3⟩ := ZaR h2
 obtain ⟨_, _, hu2, h4⟩ := ZcE h3
 obtain ⟨_, hu7, h5⟩ := ZaB h4
 obtain ⟨_, hu8, h6⟩ := ZaB h5
 obtain ⟨_, hu9, h7⟩ := ZaB h6
 obtain ⟨rfl, h8⟩ := Zak h7
 exact ⟨_, _, _, _, _, _, _, Zby hg rfl (Zaj hu0 (Zaj hu1 (Zaj hu2 (Zaj hu7 (Zaj hu8 (Zaj hu9 Zbk)))))), rfl, h8⟩
def Zgr (N : Nat) : ZaI := (Zae).add [0, 0, 1, 0, 0, 1, 0, 0, 1, 0, 1, 1] fun _ E s K => Zjl (Za7 Zgx E) s fun w_1 w_2 e_3 f_4 x_5 x_6 x_7 => ZcY N w_1 w_2 e_3 f_4 x_5 x_6 (ZdZ K w_1 w_2 e_3 f_4 x_5 x_6) N x_7
theorem Zom {N : Nat} (hC : Ok Try.prog C) (hΦ : Zab Try.prog C (Ze7 N)) : ZbF Try.prog C (Zgr N) ZjH [0, 0, 1, 0, 0, 1, 0, 0, 1, 0, 1, 1] :=
 Zb3 (Λi := Zae) (tr := false) (ks := Zgx) (kx := Zkj) (N := N) hC hΦ
  (Zam (by kernel_rfl))
  fun R E s K r h => by
   have h2 := ZaI.add_self.symm.trans h
   obtain ⟨_, _, _, _, _, _, _, he, rfl, h3⟩ := ZhK h2
   rw [he]
   exact (Zm7 N _ _ _ _ _ _ _ N _).trans h3
def ZgI : List Nat := ZeW 55 [0, 1, 2, 7, 8, 9, 10]
def Zks : List Nat := ZeW 55 [0, 1, 2, 6, 7, 8, 9]
def ZeN (w_1 w_2 : ByteArray) (e_3 : List V) (f_4 : Fl) (x_5 x_6 x_7 x_8 : Int) : List V := mkF 0 55 [(0, .str w_1), (1, .str w_2), (2, .list 1 e_3 f_4), (7, .int .i64 x_5), (8, .int .i64 x_6), (9, .int .i64 x_7), (10, .int .i64 x_8)]
def ZdH {R : Type} (K : X → List V → S → Option R) (w_1 : ByteArray) (w_2 : ByteArray) (e_3 : List V) (f_4 : Fl) (x_5 : Int) (x_6 : Int) (x_7 : Int) : Unit → Option R := (fun _ => K .ret (mkF 0 55 [(0, .str w_1), (1, .str w_2), (2, .list 1 e_3 f_4), (6, .int .i64 (-1)), (7, .int .i64 x_5), (8, .int .i64 x_6), (9, .int .i64 x_7)]) [])
def ZdV {R : Type} (K : X → List V → S → Option R) (w_1 : ByteArray) (w_2 : ByteArray) (e_3 : List V) (f_4 : Fl) (x_5 : Int) (x_6 : Int) (x_7 : Int) : Unit → Option R := (fun _ => K (.exit 4) (mkF 0 55 [(0, .str w_1), (1, .str w_2), (2, .list 1 e_3 f_4), (7, .int .i64 x_5), (8, .int .i64 x_6), (9, .int .i64 x_7)]) [])
abbrev Zg0 {R : Type} (N : Nat) : Nat → List V → S → (X → List V → S → Option R) → Option R := fun n => iter C (Ze7 N) (Zgr N) Zjf [0, 1, 0, 1, 1, 1, 0, 0, 1, 0, 0, 1, 0, 1, 1] false ZgI Zks n R
theorem Zp0 {R : Type} (N n : Nat) (w_1 w_2 : ByteArray) (e_3 : List V) (f_4 : Fl) (x_5 x_6 x_7 : Int) (x_8 : Int) (K : X → List V → S → Option R) :
 Zg0 N (n + 1) (ZeN w_1 w_2 e_3 f_4 x_5 x_6 x_7 x_8) [] K =
 ZbZ N w_1 w_2 e_3 f_4 x_5 x_6 x_7 (fun x_8 => Zg0 N n (ZeN w_1 w_2 e_3 f_4 x_5 x_6 x_7 x_8) [] K) x_8 (ZdH K w_1 w_2 e_3 f_4 x_5 x_6 x_7) (ZdV K w_1 w_2 e_3 f_4 x_5 x_6 x_7) := by kernel_rfl
theorem ZmK {R : Type} (N : Nat) (w_1 w_2 : ByteArray) (e_3 : List V) (f_4 : Fl) (x_5 x_6 x_7 : Int) (K : X → List V → S → Option R) : ∀ (n : Nat) (x_8 : Int),
 Zg0 N n (ZeN w_1 w_2 e_3 f_4 x_5 x_6 x_7 x_8) [] K = ZcT N w_1 w_2 e_3 f_4 x_5 x_6 x_7 (ZdH K w_1 w_2 e_3 f_4 x_5 x_6 x_7) (ZdV K w_1 w_2 e_3 f_4 x_5 x_6 x_7) n x_8
 | 0, _ => rfl
 | n + 1, x_8 => (Zp0 N n w_1 w_2 e_3 f_4 x_5 x_6 x_7 x_8 K).trans (congrArg (fun nx => ZbZ N w_1 w_2 e_3 f_4 x_5 x_6 x_7 nx x_8 (ZdH K w_1 w_2 e_3 f_4 x_5 x_6 x_7) (ZdV K w_1 w_2 e_3 f_4 x_5 x_6 x_7)) (funext fun x_8 => ZmK N w_1 w_2 e_3 f_4 x_5 x_6 x_7 K n x_8))
def Zjq {R : Type} (E : List V) (s : S) (k : ByteArray → ByteArray → List V → Fl → Int → Int → Int → Int → Option R) : Option R :=
 Zal (ZbE 55 [0, 1, 2, 7, 8, 9, 10] E) <| ZcR E 0 fun w_1 => ZcR E 1 fun w_2 => Ziq E 2 1 fun e_3 f_4 => ZbO E 7 .i64 fun x_5 => ZbO E 8 .i64 fun x_6 => ZbO E 9 .i64 fun x_7 => ZbO E 10 .i64 fun x_8 => Zba s <| k w_1 w_2 e_3 f_4 x_5 x_6 x_7 x_8
theorem Zix {R : Type} {E : List V} {s : S} {k : ByteArray → ByteArray → List V → Fl → Int → Int → Int → Int → Option R} {r : R} (h : Zjq E s k = some r) : ∃ w_1 w_2 e_3 f_4 x_5 x_6 x_7 x_8, E = ZeN w_1 w_2 e_3 f_4 x_5 x_6 x_7 x_8 ∧ s = [] ∧ k w_1 w_2 e_3 f_4 x_5 x_6 x_7 x_8 = some r := by
 unfold Zjq at h
 obtain ⟨hg, h1⟩ := Zaa h
 obtain ⟨_, hu0, h2⟩ := ZaR h1
 obtain ⟨_, hu1, h3⟩ := ZaR h2
 obtain ⟨_, _, hu2, h4⟩ := ZcE h3
 obtain ⟨_, hu7, h5⟩ := ZaB h4
 obtain ⟨_, hu8, h6⟩ := ZaB h5
 obtain ⟨_, hu9, h7⟩ := ZaB h6
 obtain ⟨_, hu10, h8⟩ := ZaB h7
 obtain ⟨rfl, h9⟩ := Zak h8
 exact ⟨_, _, _, _, _, _, _, _, Zby hg rfl (Zaj hu0 (Zaj hu1 (Zaj hu2 (Zaj hu7 (Zaj hu8 (Zaj hu9 (Zaj hu10 Zbk))))))), rfl, h9⟩
def Zg3 (N : Nat) : ZaI := (Zgr N).add [0, 1, 0, 1, 1, 1, 0, 0, 1, 0, 0, 1, 0, 1, 1] fun _ E s K => Zjq (Za7 ZgI E) s fun w_1 w_2 e_3 f_4 x_5 x_6 x_7 x_8 => ZcT N w_1 w_2 e_3 f_4 x_5 x_6 x_7 (ZdH K w_1 w_2 e_3 f_4 x_5 x_6 x_7) (ZdV K w_1 w_2 e_3 f_4 x_5 x_6 x_7) N x_8
theorem Zo0 {N : Nat} (hC : Ok Try.prog C) (hΦ : Zab Try.prog C (Ze7 N)) : ZbF Try.prog C (Zg3 N) Zjf [0, 1, 0, 1, 1, 1, 0, 0, 1, 0, 0, 1, 0, 1, 1] :=
 Zb3 (Λi := Zgr N) (tr := false) (ks := ZgI) (kx := Zks) (N := N) hC hΦ
  (Zam (by kernel_rfl))
  fun R E s K r h => by
   have h2 := ZaI.add_self.symm.trans h
   obtain ⟨_, _, _, _, _, _, _, _, he, rfl, h3⟩ := Zix h2
   rw [he]
   exact (ZmK N _ _ _ _ _ _ _ _ N _).trans h3
def Zhb : List Nat := ZeW 55 [0, 1, 2, 7, 8]
def ZkG : List Nat := ZeW 55 [6, 7]
def ZeT (w_1 w_2 : ByteArray) (e_3 : List V) (f_4 : Fl) (x_5 x_6 : Int) : List V := mkF 0 55 [(0, .str w_1), (1, .str w_2), (2, .list 1 e_3 f_4), (7, .int .i64 x_5), (8, .int .i64 x_6)]
def ZdX {R : Type} (K : X → List V → S → Option R) (w_1 : ByteArray) (w_2 : ByteArray) (e_3 : List V) (f_4 : Fl) : Int → Option R := (fun x_1' => K .ret (mkF 0 55 [(6, .int .i64 (-1)), (7, .int .i64 (x_1'))]) [])
def Zec {R : Type} (K : X → List V → S → Option R) (w_1 : ByteArray) (w_2 : ByteArray) (e_3 : List V) (f_4 : Fl) : Int → Option R := (fun x_1' => K (.exit 0) (mkF 0 55 [(7, .int .i64 (x_1'))]) [])
abbrev ZgR {R : Type} (N : Nat) : Nat → List V → S → (X → List V → S → Option R) → Option R := fun n => iter C (Ze7 N) (Zg3 N) ZdA [0, 1, 0, 1, 1] false Zhb ZkG n R
theorem ZqE {R : Type} (N n : Nat) (w_1 w_2 : ByteArray) (e_3 : List V) (f_4 : Fl) (x_5 x_6 : Int) (K : X → List V → S → Option R) :
 ZgR N (n + 1) (ZeT w_1 w_2 e_3 f_4 x_5 x_6) [] K =
 ZbS N w_1 w_2 e_3 f_4 (fun x_5 x_6 => ZgR N n (ZeT w_1 w_2 e_3 f_4 x_5 x_6) [] K) x_5 x_6 (ZdX K w_1 w_2 e_3 f_4) (Zec K w_1 w_2 e_3 f_4) := by kernel_rfl
theorem ZnS {R : Type} (N : Nat) (w_1 w_2 : ByteArray) (e_3 : List V) (f_4 : Fl) (K : X → List V → S → Option R) : ∀ (n : Nat) (x_5 x_6 : Int),
 ZgR N n (ZeT w_1 w_2 e_3 f_4 x_5 x_6) [] K = Zdw N w_1 w_2 e_3 f_4 (ZdX K w_1 w_2 e_3 f_4) (Zec K w_1 w_2 e_3 f_4) n x_5 x_6
 | 0, _, _ => rfl
 | n + 1, x_5, x_6 => (ZqE N n w_1 w_2 e_3 f_4 x_5 x_6 K).trans (congrArg (fun nx => ZbS N w_1 w_2 e_3 f_4 nx x_5 x_6 (ZdX K w_1 w_2 e_3 f_4) (Zec K w_1 w_2 e_3 f_4)) (funext fun x_5 => funext fun x_6 => ZnS N w_1 w_2 e_3 f_4 K n x_5 x_6))
def Zi6 {R : Type} (E : List V) (s : S) (k : ByteArray → ByteArray → List V → Fl → Int → Int → Option R) : Option R :=
 Zal (ZbE 55 [0, 1, 2, 7, 8] E) <| ZcR E 0 fun w_1 => ZcR E 1 fun w_2 => Ziq E 2 1 fun e_3 f_4 => ZbO E 7 .i64 fun x_5 => ZbO E 8 .i64 fun x_6 => Zba s <| k w_1 w_2 e_3 f_4 x_5 x_6
theorem Zii {R : Type} {E : List V} {s : S} {k : ByteArray → ByteArray → List V → Fl → Int → Int → Option R} {r : R} (h : Zi6 E s k = some r) : ∃ w_1 w_2 e_3 f_4 x_5 x_6, E = ZeT w_1 w_2 e_3 f_4 x_5 x_6 ∧ s = [] ∧ k w_1 w_2 e_3 f_4 x_5 x_6 = some r := by
 unfold Zi6 at h
 obtain ⟨hg, h1⟩ := Zaa h
 obtain ⟨_, hu0, h2⟩ := ZaR h1
 obtain ⟨_, hu1, h3⟩ := ZaR h2
 obtain ⟨_, _, hu2, h4⟩ := ZcE h3
 obtain ⟨_, hu7, h5⟩ := ZaB h4
 obtain ⟨_, hu8, h6⟩ := ZaB h5
 obtain ⟨rfl, h7⟩ := Zak h6
 exact ⟨_, _, _, _, _, _, Zby hg rfl (Zaj hu0 (Zaj hu1 (Zaj hu2 (Zaj hu7 (Zaj hu8 Zbk))))), rfl, h7⟩
def Zjm (N : Nat) : ZaI := (Zg3 N).add [0, 1, 0, 1, 1] fun _ E s K => Zi6 (Za7 Zhb E) s fun w_1 w_2 e_3 f_4 x_5 x_6 => Zdw N w_1 w_2 e_3 f_4 (ZdX K w_1 w_2 e_3 f_4) (Zec K w_1 w_2 e_3 f_4) N x_5 x_6
theorem Zpu : Zbh ZdA (0 :: [0, 1, 0, 1, 1]) = [([0, 0, 1, 0, 0, 1, 0, 0, 1, 0, 1, 1], ZjH), ([0, 1, 0, 1, 1, 1, 0, 0, 1, 0, 0, 1, 0, 1, 1], Zjf)] := by kernel_rfl
theorem Zpv {N : Nat} (hC : Ok Try.prog C) (hΦ : Zab Try.prog C (Ze7 N)) : ZbF Try.prog C (Zjm N) ZdA [0, 1, 0, 1, 1] :=
 Zb3 (Λi := Zg3 N) (tr := false) (ks := Zhb) (kx := ZkG) (N := N) hC hΦ
  (Zbb ZdA _ (by
   rw [Zpu]
   intro p hp
   simp only [List.mem_cons, List.mem_nil_iff, or_false] at hp
   rcases hp with rfl | rfl
   ·exact (ZbF.add (Zom hC hΦ) rfl)
   ·exact (Zo0 hC hΦ)))
  fun R E s K r h => by
   have h2 := ZaI.add_self.symm.trans h
   obtain ⟨_, _, _, _, _, _, he, rfl, h3⟩ := Zii h2
   rw [he]
   exact (ZnS N _ _ _ _ _ N _ _).trans h3
theorem Zrf : Zbh ZmZ [] = [([0, 1, 0, 1, 1], ZdA)] := by kernel_rfl
theorem Zti {R : Type} (N : Nat) (w_1 w_2 : ByteArray) (e_3 : List V) (f_4 : Fl) (K : V → S → Option R) : Za9 C (Ze7 N) (Zjm N) 32 Try.f32 [.str w_1, .str w_2, .list 1 e_3 f_4] [] K =
 Ziu N w_1 w_2 e_3 f_4 (fun x_5 => K (.int .i64 x_5) []) := by kernel_rfl
theorem Znp {N : Nat} (hC : Ok Try.prog C) (hΦ : Zab Try.prog C (Ze7 N)) : ZaY Try.prog C (Zjm N) ZmZ [] :=
 Zbb ZmZ [] (by
  rw [Zrf]
  intro p hp
  simp only [List.mem_cons, List.mem_nil_iff, or_false] at hp
  rcases hp with rfl
  ·exact (Zpv hC hΦ))
theorem Zme (hC : Ok Try.prog C) {N : Nat} (hΦ : Zab Try.prog C (Ze7 N)) : Zab Try.prog C (ZjG N) := by
 refine hΦ.add_pure rfl fun R vs K r h => ?_
 unfold Zq9 at h
 obtain ⟨_, _, _, rfl, h1⟩ := Zct h
 obtain ⟨_, rfl, h2⟩ := ZaK h1
 obtain ⟨_, rfl, h3⟩ := ZaK h2
 obtain ⟨_, _, rfl, h4⟩ := ZaH h3
 obtain ⟨_, h5⟩ := Zak h4
 refine Zaz (fn := Try.f32) (c := ZmZ) hC hΦ Try.func32 (by kernel_rfl) (by kernel_rfl) (Znp (N := N) hC hΦ) rfl rfl ?_
 refine (Zti N _ _ _ _ _).trans ?_
 rw [← ZkB]
 exact h5
def Zrc (N : Nat) : (R : Type) → List V → S → (V → S → Option R) → Option R := fun _ vs s K =>
 ZkD vs fun v'1 v'2 => asInt .i64 v'1 fun x_1 => Zb2 v'2 fun w_2 => Zba s <| Zo1 N x_1 w_2 (fun x_3 b_4 => K (.tuple [.int .i64 x_3, .bool b_4]) [])
def Zgw (N : Nat) : Zar := (ZjG N).add 18 (Zrc N)
def Zmu : Code := ZaU Try.f18
def Zi1 : Code := (ZcN Zmu [] 0).2
def ZgU : List Nat := ZeW 87 [0, 1, 6]
def Zkm : List Nat := ZeW 87 [0, 1, 6]
def ZeV (x_1 : Int) (w_2 : ByteArray) (x_3 : Int) : List V := mkF 0 87 [(0, .int .i64 x_1), (1, .str w_2), (6, .int .i64 x_3)]
def Zd0 {R : Type} (K : X → List V → S → Option R) (x_1 : Int) (w_2 : ByteArray) : Int → Option R := (fun x_1' => K (.exit 0) (mkF 0 87 [(0, .int .i64 x_1), (1, .str w_2), (6, .int .i64 (x_1'))]) [])
abbrev Zhn {R : Type} (N : Nat) : Nat → List V → S → (X → List V → S → Option R) → Option R := fun n => iter C (ZjG N) (Zae) Zi1 [0, 0, 1, 1] false ZgU Zkm n R
theorem Zp5 {R : Type} (N n : Nat) (x_1 : Int) (w_2 : ByteArray) (x_3 : Int) (K : X → List V → S → Option R) :
 Zhn N (n + 1) (ZeV x_1 w_2 x_3) [] K =
 ZbW N x_1 w_2 (fun x_3 => Zhn N n (ZeV x_1 w_2 x_3) [] K) x_3 (Zd0 K x_1 w_2) := by kernel_rfl
theorem ZmR {R : Type} (N : Nat) (x_1 : Int) (w_2 : ByteArray) (K : X → List V → S → Option R) : ∀ (n : Nat) (x_3 : Int),
 Zhn N n (ZeV x_1 w_2 x_3) [] K = Zc0 N x_1 w_2 (Zd0 K x_1 w_2) n x_3
 | 0, _ => rfl
 | n + 1, x_3 => (Zp5 N n x_1 w_2 x_3 K).trans (congrArg (fun nx => ZbW N x_1 w_2 nx x_3 (Zd0 K x_1 w_2)) (funext fun x_3 => ZmR N x_1 w_2 K n x_3))
def ZiV {R : Type} (E : List V) (s : S) (k : Int → ByteArray → Int → Option R) : Option R :=
 Zal (ZbE 87 [0, 1, 6] E) <| ZbO E 0 .i64 fun x_1 => ZcR E 1 fun w_2 => ZbO E 6 .i64 fun x_3 => Zba s <| k x_1 w_2 x_3
theorem Zir {R : Type} {E : List V} {s : S} {k : Int → ByteArray → Int → Option R} {r : R} (h : ZiV E s k = some r) : ∃ x_1 w_2 x_3, E = ZeV x_1 w_2 x_3 ∧ s = [] ∧ k x_1 w_2 x_3 = some r := by
 unfold ZiV at h
 obtain ⟨hg, h1⟩ := Zaa h
 obtain ⟨_, hu0, h2⟩ := ZaB h1
 obtain ⟨_, hu1, h3⟩ := ZaR h2
 obtain ⟨_, hu6, h4⟩ := ZaB h3
 obtain ⟨rfl, h5⟩ := Zak h4
 exact ⟨_, _, _, Zby hg rfl (Zaj hu0 (Zaj hu1 (Zaj hu6 Zbk))), rfl, h5⟩
def Zi0 (N : Nat) : ZaI := (Zae).add [0, 0, 1, 1] fun _ E s K => ZiV (Za7 ZgU E) s fun x_1 w_2 x_3 => Zc0 N x_1 w_2 (Zd0 K x_1 w_2) N x_3
theorem Zpi {N : Nat} (hC : Ok Try.prog C) (hΦ : Zab Try.prog C (ZjG N)) : ZbF Try.prog C (Zi0 N) Zi1 [0, 0, 1, 1] :=
 Zb3 (Λi := Zae) (tr := false) (ks := ZgU) (kx := Zkm) (N := N) hC hΦ
  (Zam (by kernel_rfl))
  fun R E s K r h => by
   have h2 := ZaI.add_self.symm.trans h
   obtain ⟨_, _, _, he, rfl, h3⟩ := Zir h2
   rw [he]
   exact (ZmR N _ _ _ N _).trans h3
theorem ZrR : Zbh Zmu [] = [([0, 0, 1, 1], Zi1)] := by kernel_rfl
theorem Zsb {R : Type} (N : Nat) (x_1 : Int) (w_2 : ByteArray) (K : V → S → Option R) : Za9 C (ZjG N) (Zi0 N) 18 Try.f18 [.int .i64 x_1, .str w_2] [] K =
 ZiH N x_1 w_2 (fun x_3 b_4 => K (.tuple [.int .i64 x_3, .bool b_4]) []) := by kernel_rfl
theorem ZmF {N : Nat} (hC : Ok Try.prog C) (hΦ : Zab Try.prog C (ZjG N)) : ZaY Try.prog C (Zi0 N) Zmu [] :=
 Zbb Zmu [] (by
  rw [ZrR]
  intro p hp
  simp only [List.mem_cons, List.mem_nil_iff, or_false] at hp
  rcases hp with rfl
  ·exact (Zpi hC hΦ))
theorem Zl8 (hC : Ok Try.prog C) {N : Nat} (hΦ : Zab Try.prog C (ZjG N)) : Zab Try.prog C (Zgw N) := by
 refine hΦ.add_pure rfl fun R vs K r h => ?_
 unfold Zrc at h
 obtain ⟨_, _, rfl, h1⟩ := Zbl h
 obtain ⟨_, rfl, h2⟩ := Zas h1
 obtain ⟨_, rfl, h3⟩ := ZaK h2
 obtain ⟨_, h4⟩ := Zak h3
 refine Zaz (fn := Try.f18) (c := Zmu) hC hΦ Try.func18 (by kernel_rfl) (by kernel_rfl) (ZmF (N := N) hC hΦ) rfl rfl ?_
 refine (Zsb N _ _ _).trans ?_
 rw [← Zlg]
 exact h4
def ZqT (N : Nat) : (R : Type) → List V → S → (V → S → Option R) → Option R := fun _ vs s K =>
 ZkD vs fun v'1 v'2 => ZbD 1 v'1 fun e_1 f_2 => ZbD 1 v'2 fun e_3 f_4 => Zba s <| ZrV N e_1 f_2 e_3 f_4 (fun b_5 => K (.bool b_5) [])
def ZsO (N : Nat) : Zar := (Zgw N).add 3 (ZqT N)
def ZmD : Code := ZaU Try.f3
def ZpJ (e_1 : List V) (f_2 : Fl) (e_3 : List V) (f_4 : Fl) (v_1005 v_1006 v_1007 v_1008 v_1009 v_1010 v_1011 v_1012 v_1013 v_1014 v_1015 v_1016 v_1017 v_1038 v_1040 v_1041 v_1042 v_1043 v_1044 v_1045 v_1046 v_1047 v_1048 v_1049 v_1050 v_1051 v_1052 v_1053 v_1054 v_1055 v_1056 v_1057 v_1058 v_1059 v_1060 v_1061 v_1062 v_1063 v_1065 v_1066 v_1067 v_1068 v_1070 v_1071 v_1072 v_1073 v_1075 v_1076 v_1077 v_1078 v_1080 v_1081 v_1082 v_1083 v_1084 v_1085 v_1086 v_1087 v_1088 v_1089 v_1090 v_1091 v_1092 v_1093 v_1094 v_1095 v_1096 v_1097 v_1098 v_1099 v_1100 v_1101 v_1102 v_1103 v_1104 v_1105 v_1106 v_1107 v_1108 v_1109 v_1110 : V) : List V := mkF 0 201 [(0, .list 1 e_1 f_2), (1, .list 1 e_3 f_4), (4, .bool false), (5, v_1005), (6, v_1006), (7, v_1007), (8, v_1008), (9, v_1009), (10, v_1010), (11, v_1011), (12, v_1012), (13, v_1013), (14, v_1014), (15, v_1015), (16, v_1016), (17, v_1017), (36, .list 1 e_1 f_2.noOwn), (37, .list 1 e_3 f_4.noOwn), (38, v_1038), (39, .list 1 e_1 f_2.noOwn), (40, v_1040), (41, v_1041), (42, v_1042), (43, v_1043), (44, v_1044), (45, v_1045), (46, v_1046), (47, v_1047), (48, v_1048), (49, v_1049), (50, v_1050), (51, v_1051), (52, v_1052), (53, v_1053), (54, v_1054), (55, v_1055), (56, v_1056), (57, v_1057), (58, v_1058), (59, v_1059), (60, v_1060), (61, v_1061), (62, v_1062), (63, v_1063), (64, .bool false), (65, v_1065), (66, v_1066), (67, v_1067), (68, v_1068), (69, .bool false), (70, v_1070), (71, v_1071), (72, v_1072), (73, v_1073), (74, .bool false), (75, v_1075), (76, v_1076), (77, v_1077), (78, v_1078), (79, .bool false), (80, v_1080), (81, v_1081), (82, v_1082), (83, v_1083), (84, v_1084), (85, v_1085), (86, v_1086), (87, v_1087), (88, v_1088), (89, v_1089), (90, v_1090), (91, v_1091), (92, v_1092), (93, v_1093), (94, v_1094), (95, v_1095), (96, v_1096), (97, v_1097), (98, v_1098), (99, v_1099), (100, v_1100), (101, v_1101), (102, v_1102), (103, v_1103), (104, v_1104), (105, v_1105), (106, v_1106), (107, v_1107), (108, v_1108), (109, v_1109), (110, v_1110)]
theorem Zs0 {R : Type} (N : Nat) (e_1 : List V) (f_2 : Fl) (e_3 : List V) (f_4 : Fl) (K : V → S → Option R) (T : Code) : ZfL C (Zgw N) Zae (Zhi 9 ZmD T) [] ([.list 1 e_1 f_2, .list 1 e_3 f_4] ++ List.replicate (Try.f3.ntmps - ([.list 1 e_1 f_2, .list 1 e_3 f_4] : List V).length) .dead) [] (Zrp C 3 Try.f3 K) =
 Zh2 N e_1 f_2 e_3 f_4 (fun v_1005 v_1006 v_1007 v_1008 v_1009 v_1010 v_1011 v_1012 v_1013 v_1014 v_1015 v_1016 v_1017 v_1038 v_1040 v_1041 v_1042 v_1043 v_1044 v_1045 v_1046 v_1047 v_1048 v_1049 v_1050 v_1051 v_1052 v_1053 v_1054 v_1055 v_1056 v_1057 v_1058 v_1059 v_1060 v_1061 v_1062 v_1063 v_1065 v_1066 v_1067 v_1068 v_1070 v_1071 v_1072 v_1073 v_1075 v_1076 v_1077 v_1078 v_1080 v_1081 v_1082 v_1083 v_1084 v_1085 v_1086 v_1087 v_1088 v_1089 v_1090 v_1091 v_1092 v_1093 v_1094 v_1095 v_1096 v_1097 v_1098 v_1099 v_1100 v_1101 v_1102 v_1103 v_1104 v_1105 v_1106 v_1107 v_1108 v_1109 v_1110 => ZfL C (Zgw N) Zae T [1, 1, 1, 1, 1, 1, 1, 1, 1] (ZpJ e_1 f_2 e_3 f_4 v_1005 v_1006 v_1007 v_1008 v_1009 v_1010 v_1011 v_1012 v_1013 v_1014 v_1015 v_1016 v_1017 v_1038 v_1040 v_1041 v_1042 v_1043 v_1044 v_1045 v_1046 v_1047 v_1048 v_1049 v_1050 v_1051 v_1052 v_1053 v_1054 v_1055 v_1056 v_1057 v_1058 v_1059 v_1060 v_1061 v_1062 v_1063 v_1065 v_1066 v_1067 v_1068 v_1070 v_1071 v_1072 v_1073 v_1075 v_1076 v_1077 v_1078 v_1080 v_1081 v_1082 v_1083 v_1084 v_1085 v_1086 v_1087 v_1088 v_1089 v_1090 v_1091 v_1092 v_1093 v_1094 v_1095 v_1096 v_1097 v_1098 v_1099 v_1100 v_1101 v_1102 v_1103 v_1104 v_1105 v_1106 v_1107 v_1108 v_1109 v_1110) [] (Zrp C 3 Try.f3 K)) (fun b_5 => K (.bool b_5) []) := by kernel_rfl
theorem Zs8 {R : Type} (N : Nat) (e_1 : List V) (f_2 : Fl) (e_3 : List V) (f_4 : Fl) (v_1005 v_1006 v_1007 v_1008 v_1009 v_1010 v_1011 v_1012 v_1013 v_1014 v_1015 v_1016 v_1017 v_1038 v_1040 v_1041 v_1042 v_1043 v_1044 v_1045 v_1046 v_1047 v_1048 v_1049 v_1050 v_1051 v_1052 v_1053 v_1054 v_1055 v_1056 v_1057 v_1058 v_1059 v_1060 v_1061 v_1062 v_1063 v_1065 v_1066 v_1067 v_1068 v_1070 v_1071 v_1072 v_1073 v_1075 v_1076 v_1077 v_1078 v_1080 v_1081 v_1082 v_1083 v_1084 v_1085 v_1086 v_1087 v_1088 v_1089 v_1090 v_1091 v_1092 v_1093 v_1094 v_1095 v_1096 v_1097 v_1098 v_1099 v_1100 v_1101 v_1102 v_1103 v_1104 v_1105 v_1106 v_1107 v_1108 v_1109 v_1110 : V) (K : V → S → Option R) : ZfL C (Zgw N) Zae (Zfn 9 ZmD) [1, 1, 1, 1, 1, 1, 1, 1, 1] (ZpJ e_1 f_2 e_3 f_4 v_1005 v_1006 v_1007 v_1008 v_1009 v_1010 v_1011 v_1012 v_1013 v_1014 v_1015 v_1016 v_1017 v_1038 v_1040 v_1041 v_1042 v_1043 v_1044 v_1045 v_1046 v_1047 v_1048 v_1049 v_1050 v_1051 v_1052 v_1053 v_1054 v_1055 v_1056 v_1057 v_1058 v_1059 v_1060 v_1061 v_1062 v_1063 v_1065 v_1066 v_1067 v_1068 v_1070 v_1071 v_1072 v_1073 v_1075 v_1076 v_1077 v_1078 v_1080 v_1081 v_1082 v_1083 v_1084 v_1085 v_1086 v_1087 v_1088 v_1089 v_1090 v_1091 v_1092 v_1093 v_1094 v_1095 v_1096 v_1097 v_1098 v_1099 v_1100 v_1101 v_1102 v_1103 v_1104 v_1105 v_1106 v_1107 v_1108 v_1109 v_1110) [] (Zrp C 3 Try.f3 K) =
 Zky N e_1 f_2 e_3 f_4 (fun b_5 => K (.bool b_5) []) := by kernel_rfl
theorem b_zbg {R : Type} (N : Nat) (e_1 : List V) (f_2 : Fl) (e_3 : List V) (f_4 : Fl) (K : V → S → Option R) : Za9 C (Zgw N) Zae 3 Try.f3 [.list 1 e_1 f_2, .list 1 e_3 f_4] [] K =
 Zfv N e_1 f_2 e_3 f_4 (fun b_5 => K (.bool b_5) []) := by
 refine (ZnK (c := ZmD) (by kernel_rfl)).trans ?_
 unfold Zfv
 refine (congrArg (fun c => ZfL C (Zgw N) Zae c [] ([.list 1 e_1 f_2, .list 1 e_3 f_4] ++ List.replicate (Try.f3.ntmps - ([.list 1 e_1 f_2, .list 1 e_3 f_4] : List V).length) .dead) [] (Zrp C 3 Try.f3 K)) (ZgQ 9 ZmD)).symm.trans ?_
 refine (Zs0 N _ _ _ _ K _).trans ?_
 refine congrArg (fun j => Zh2 N e_1 f_2 e_3 f_4 j (fun b_5 => K (.bool b_5) [])) ?_
 funext v_1005 v_1006 v_1007 v_1008 v_1009 v_1010 v_1011 v_1012 v_1013 v_1014 v_1015 v_1016 v_1017 v_1038 v_1040 v_1041 v_1042 v_1043 v_1044 v_1045 v_1046 v_1047 v_1048 v_1049 v_1050 v_1051 v_1052 v_1053 v_1054 v_1055 v_1056 v_1057 v_1058 v_1059 v_1060 v_1061 v_1062 v_1063 v_1065 v_1066 v_1067 v_1068 v_1070 v_1071 v_1072 v_1073 v_1075 v_1076 v_1077 v_1078 v_1080 v_1081 v_1082 v_1083 v_1084 v_1085 v_1086 v_1087 v_1088 v_1089 v_1090 v_1091 v_1092 v_1093 v_1094 v_1095 v_1096 v_1097 v_1098 v_1099 v_1100 v_1101 v_1102 v_1103 v_1104 v_1105 v_1106 v_1107 v_1108 v_1109 v_1110
 skip
 exact Zs8 N _ _ _ _ _ _ _ _ _ _ _ _ _ _ _ _ _ _ _ _ _ _ _ _ _ _ _ _ _ _ _ _ _ _ _ _ _ _ _ _ _ _ _ _ _ _ _ _ _ _ _ _ _ _ _ _ _ _ _ _ _ _ _ _ _ _ _ _ _ _ _ _ _ _ _ _ _ _ _ _ _ _ _ _ _ K
theorem ZqQ (hC : Ok Try.prog C) {N : Nat} (hΦ : Zab Try.prog C (Zgw N)) : Zab Try.prog C (ZsO N) := by
 refine hΦ.add_pure rfl fun R vs K r h => ?_
 unfold ZqT at h
 obtain ⟨_, _, rfl, h1⟩ := Zbl h
 obtain ⟨_, _, rfl, h2⟩ := ZaH h1
 obtain ⟨_, _, rfl, h3⟩ := ZaH h2
 obtain ⟨_, h4⟩ := Zak h3
 refine Zaz (fn := Try.f3) (c := ZmD) hC hΦ Try.func3 (by kernel_rfl) (by kernel_rfl) (Zam (Λ := Zae) (by kernel_rfl)) rfl rfl ?_
 refine (b_zbg N _ _ _ _ _).trans ?_
 rw [← ZoM]
 exact h4
theorem callee_zbg_prev (hC : Ok Try.prog C) (N : Nat) : Zab Try.prog C (Zgw N) :=
 have h0 := ZcH Try.prog C
 have h1 := ZlN hC (N := N) h0
 have h2 := Zl9 hC (N := N) h1
 have h3 := Zml hC (N := N) h2
 have h4 := ZlY hC (N := N) h3
 have h5 := ZlT hC (N := N) h4
 have h6 := ZlC hC (N := N) h5
 have h7 := Zmk hC (N := N) h6
 have h8 := Zmc hC (N := N) h7
 have h9 := Zlx hC (N := N) h8
 have h10 := Zma hC (N := N) h9
 have h11 := Zlu hC (N := N) h10
 have h12 := Zl7 hC (N := N) h11
 have h13 := Zmf hC (N := N) h12
 have h14 := ZlZ hC (N := N) h13
 have h15 := Zmh hC (N := N) h14
 have h16 := Zmg hC (N := N) h15
 have h17 := ZlH hC (N := N) h16
 have h18 := Zlw hC (N := N) h17
 have h19 := Zmo hC (N := N) h18
 have h20 := Zl0 hC (N := N) h19
 have h21 := ZlR hC (N := N) h20
 have h22 := Zly hC (N := N) h21
 have h23 := Zl5 hC (N := N) h22
 have h24 := ZlO hC (N := N) h23
 have h25 := ZlE hC (N := N) h24
 have h26 := Zl4 hC (N := N) h25
 have h27 := ZlP hC (N := N) h26
 have h28 := Zmm hC (N := N) h27
 have h29 := Zll hC (N := N) h28
 have h30 := ZlJ hC (N := N) h29
 have h31 := Zmi hC (N := N) h30
 have h32 := ZlX hC (N := N) h31
 have h33 := Zl2 hC (N := N) h32
 have h34 := Zl6 hC (N := N) h33
 have h35 := ZlW hC (N := N) h34
 have h36 := ZlK hC (N := N) h35
 have h37 := Zme hC (N := N) h36
 have h38 := Zl8 hC (N := N) h37
 h38
end
end Go.VM.VL
