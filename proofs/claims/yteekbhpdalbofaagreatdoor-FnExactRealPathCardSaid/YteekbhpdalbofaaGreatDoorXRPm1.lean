/- The functions of the program, told plainly: what each computes, as a function of its letters; and that the machine does the same. Printed by vgen.py, a program of this session's own. -/
import Derived.Test.YteekbhpdalbofaaGreatDoorXRP
import Derived.WalkKit
import Derived.Lib.Walk
import Derived.Lib.SliceRun
import Derived.Lib.AppendZerosOnto
import Derived.Test.YteekbhpdalbofaaGreatDoorTryzShelf
import Derived.Test.YteekbhpdalbofaaGreatDoorProg
import Derived.KernelRfl
set_option linter.unusedVariables false
namespace Go.VM.VL
noncomputable section
open Go.Proofs
def rl (t : TypeId) : Bool := [9].any (Nat.beq t)
def mode (f : FuncId) : Mode :=
 match [89, 110, 152, 153, 174].any (Nat.beq f) with
 | true => .shared
 | false => match [60, 88, 155].any (Nat.beq f) with
  | true => .own
  | false => .pure
abbrev C : Cfg := Cfg.of Tryz.prog 9 mode (fun f => [155].any (Nat.beq f))
def ZKJ (N : Nat) : (R : Type) → List V → S → (V → S → Option R) → Option R := fun _ vs s K =>
 Zch vs fun v'1 v'2 => Zca v'1 fun w_1 x_2 => asInt .i64 v'2 fun x_3 => ZaI s <| ZFs N w_1 x_2 x_3 (fun x_4 => K (.int .i64 x_4) [])
def Zrz (N : Nat) : Zar := (Zjo).add 166 (ZKJ N)
def ZMe : Code := ZaK Tryz.f166
theorem ZL2 {R : Type} (N : Nat) (w_1 : ByteArray) (x_2 x_3 : Int) (K : V → S → Option R) : Za0 C (Zjo) (Zac) 166 Tryz.f166 [.agg [.str w_1, .int .i64 x_2], .int .i64 x_3] [] K =
 Zn4 N w_1 x_2 x_3 (fun x_4 => K (.int .i64 x_4) []) := by kernel_rfl
theorem Zyc (hC : Ok Tryz.prog C) {N : Nat} (hΦ : Zaa Tryz.prog C (Zjo)) : Zaa Tryz.prog C (Zrz N) := by
 refine hΦ.add_pure rfl fun R vs K r h => ?_
 unfold ZKJ at h
 obtain ⟨_, _, rfl, h1⟩ := Zap h
 obtain ⟨_, _, rfl, h2⟩ := Zd0 h1
 obtain ⟨_, rfl, h3⟩ := Zaf h2
 obtain ⟨_, h4⟩ := Zae h3
 refine Zam (fn := Tryz.f166) (c := ZMe) hC hΦ Tryz.func166 (by kernel_rfl) (by kernel_rfl) (Zah (Λ := Zac) (by kernel_rfl)) rfl rfl ?_
 refine (ZL2 N _ _ _ _).trans ?_
 rw [← Zuu]
 exact h4
def ZKO (N : Nat) : (R : Type) → List V → S → (V → S → Option R) → Option R := fun _ vs s K =>
 Zch vs fun v'1 v'2 => ZaQ 2 v'1 fun e_1 f_2 => asInt .i64 v'2 fun x_3 => ZaI s <| ZE1 N e_1 f_2 x_3 (fun x_4 => K (.int .i64 x_4) [])
def ZEm (N : Nat) : Zar := (Zrz N).add 137 (ZKO N)
def ZzW : Code := ZaK Tryz.f137
def Zti : Code := (Zbo ZzW [] 0).2
def ZmH : List Nat := ZbQ 27 [0, 1, 5]
def ZtW : List Nat := ZbQ 27 [1, 4]
def Zji (e_1 : List V) (f_2 : Fl) (x_3 x_4 : Int) : List V := mkF 0 27 [(0, .list 2 e_1 f_2), (1, .int .i64 x_3), (5, .int .i64 x_4)]
def Zhu {R : Type} (K : X → List V → S → Option R) (e_1 : List V) (f_2 : Fl) : Int → Option R := (fun x_1' => K .ret (mkF 0 27 [(1, .int .i64 (x_1')), (4, .int .i64 (-1))]) [])
def ZhC {R : Type} (K : X → List V → S → Option R) (e_1 : List V) (f_2 : Fl) : Int → Option R := (fun x_1' => K (.exit 0) (mkF 0 27 [(1, .int .i64 (x_1'))]) [])
abbrev ZlX {R : Type} (N : Nat) : Nat → List V → S → (X → List V → S → Option R) → Option R := fun n => Zdx C (Zrz N) (Zac) Zti [0, 1, 0, 1, 1, 1] false ZmH ZtW n R
theorem ZG3 {R : Type} (N n : Nat) (e_1 : List V) (f_2 : Fl) (x_3 x_4 : Int) (K : X → List V → S → Option R) :
 ZlX N (n + 1) (Zji e_1 f_2 x_3 x_4) [] K =
 ZcY N e_1 f_2 (fun x_3 x_4 => ZlX N n (Zji e_1 f_2 x_3 x_4) [] K) x_3 x_4 (Zhu K e_1 f_2) (ZhC K e_1 f_2) := by kernel_rfl
theorem ZC7 {R : Type} (N : Nat) (e_1 : List V) (f_2 : Fl) (K : X → List V → S → Option R) : ∀ (n : Nat) (x_3 x_4 : Int),
 ZlX N n (Zji e_1 f_2 x_3 x_4) [] K = ZeO N e_1 f_2 (Zhu K e_1 f_2) (ZhC K e_1 f_2) n x_3 x_4
 | 0, _, _ => rfl
 | n + 1, x_3, x_4 => (ZG3 N n e_1 f_2 x_3 x_4 K).trans (congrArg (fun nx => ZcY N e_1 f_2 nx x_3 x_4 (Zhu K e_1 f_2) (ZhC K e_1 f_2)) (funext fun x_3 => funext fun x_4 => ZC7 N e_1 f_2 K n x_3 x_4))
def ZrJ {R : Type} (E : List V) (s : S) (k : List V → Fl → Int → Int → Option R) : Option R :=
 Zao (Za1 27 [0, 1, 5] E) <| Zbr E 0 2 fun e_1 f_2 => ZaT E 1 .i64 fun x_3 => ZaT E 5 .i64 fun x_4 => ZaI s <| k e_1 f_2 x_3 x_4
theorem Zon {R : Type} {E : List V} {s : S} {k : List V → Fl → Int → Int → Option R} {r : R} (h : ZrJ E s k = some r) : ∃ e_1 f_2 x_3 x_4, E = Zji e_1 f_2 x_3 x_4 ∧ s = [] ∧ k e_1 f_2 x_3 x_4 = some r := by
 unfold ZrJ at h
 obtain ⟨hg, h1⟩ := Zad h
 obtain ⟨_, _, hu0, h2⟩ := Zax h1
 obtain ⟨_, hu1, h3⟩ := Zai h2
 obtain ⟨_, hu5, h4⟩ := Zai h3
 obtain ⟨rfl, h5⟩ := Zae h4
 exact ⟨_, _, _, _, ZaP hg rfl (Zab hu0 (Zab hu1 (Zab hu5 ZaG))), rfl, h5⟩
def Zq4 (N : Nat) : ZaA := (Zac).add [0, 1, 0, 1, 1, 1] fun _ E s K => ZrJ (Zbd ZmH E) s fun e_1 f_2 x_3 x_4 => ZeO N e_1 f_2 (Zhu K e_1 f_2) (ZhC K e_1 f_2) N x_3 x_4
theorem ZE2 {N : Nat} (hC : Ok Tryz.prog C) (hΦ : Zaa Tryz.prog C (Zrz N)) : Za6 Tryz.prog C (Zq4 N) Zti [0, 1, 0, 1, 1, 1] :=
 Za7 (Λi := Zac) (tr := false) (ks := ZmH) (kx := ZtW) (N := N) hC hΦ
  (Zah (by kernel_rfl))
  fun R E s K r h => by
   have h2 := ZaA.add_self.symm.trans h
   obtain ⟨_, _, _, _, he, rfl, h3⟩ := Zon h2
   rw [he]
   exact (ZC7 N _ _ _ N _ _).trans h3
theorem ZJq : ZaX ZzW [] = [([0, 1, 0, 1, 1, 1], Zti)] := by kernel_rfl
theorem ZN8 {R : Type} (N : Nat) (e_1 : List V) (f_2 : Fl) (x_3 : Int) (K : V → S → Option R) : Za0 C (Zrz N) (Zq4 N) 137 Tryz.f137 [.list 2 e_1 f_2, .int .i64 x_3] [] K =
 Zp3 N e_1 f_2 x_3 (fun x_4 => K (.int .i64 x_4) []) := by kernel_rfl
theorem ZzJ {N : Nat} (hC : Ok Tryz.prog C) (hΦ : Zaa Tryz.prog C (Zrz N)) : ZaV Tryz.prog C (Zq4 N) ZzW [] :=
 ZaC ZzW [] (by
  rw [ZJq]
  intro p hp
  simp only [List.mem_cons, List.mem_nil_iff, or_false] at hp
  rcases hp with rfl
  ·exact (ZE2 hC hΦ))
theorem ZxL (hC : Ok Tryz.prog C) {N : Nat} (hΦ : Zaa Tryz.prog C (Zrz N)) : Zaa Tryz.prog C (ZEm N) := by
 refine hΦ.add_pure rfl fun R vs K r h => ?_
 unfold ZKO at h
 obtain ⟨_, _, rfl, h1⟩ := Zap h
 obtain ⟨_, _, rfl, h2⟩ := Zaj h1
 obtain ⟨_, rfl, h3⟩ := Zaf h2
 obtain ⟨_, h4⟩ := Zae h3
 refine Zam (fn := Tryz.f137) (c := ZzW) hC hΦ Tryz.func137 (by kernel_rfl) (by kernel_rfl) (ZzJ (N := N) hC hΦ) rfl rfl ?_
 refine (ZN8 N _ _ _ _).trans ?_
 rw [← ZtX]
 exact h4
def ZKF (N : Nat) : (R : Type) → List V → S → (V → S → Option R) → Option R := fun _ vs s K =>
 Zch vs fun v'1 v'2 => Zck v'1 fun x_1 x_2 x_3 x_4 x_5 w_6 e_7 f_8 => asInt .i64 v'2 fun x_9 => ZaI s <| ZGk N x_1 x_2 x_3 x_4 x_5 w_6 e_7 f_8 x_9 (fun x_10 => K (.int .i64 x_10) [])
def Ztg (N : Nat) : Zar := (ZEm N).add 84 (ZKF N)
def ZMO : Code := ZaK Tryz.f84
theorem ZNS {R : Type} (N : Nat) (x_1 x_2 x_3 x_4 x_5 : Int) (w_6 : ByteArray) (e_7 : List V) (f_8 : Fl) (x_9 : Int) (K : V → S → Option R) : Za0 C (ZEm N) (Zac) 84 Tryz.f84 [.agg [.int .i64 x_1, .int .i64 x_2, .int .i64 x_3, .int .i64 x_4, .int .i64 x_5, .str w_6, .list 2 e_7 f_8], .int .i64 x_9] [] K =
 ZqD N x_1 x_2 x_3 x_4 x_5 w_6 e_7 f_8 x_9 (fun x_10 => K (.int .i64 x_10) []) := by kernel_rfl
theorem Zxk (hC : Ok Tryz.prog C) {N : Nat} (hΦ : Zaa Tryz.prog C (ZEm N)) : Zaa Tryz.prog C (Ztg N) := by
 refine hΦ.add_pure rfl fun R vs K r h => ?_
 unfold ZKF at h
 obtain ⟨_, _, rfl, h1⟩ := Zap h
 obtain ⟨_, _, _, _, _, _, _, _, rfl, h2⟩ := Zem h1
 obtain ⟨_, rfl, h3⟩ := Zaf h2
 obtain ⟨_, h4⟩ := Zae h3
 refine Zam (fn := Tryz.f84) (c := ZMO) hC hΦ Tryz.func84 (by kernel_rfl) (by kernel_rfl) (Zah (Λ := Zac) (by kernel_rfl)) rfl rfl ?_
 refine (ZNS N _ _ _ _ _ _ _ _ _ _).trans ?_
 rw [← Zuz]
 exact h4
def ZKd (N : Nat) : (R : Type) → List V → S → (V → S → Option R) → Option R := fun _ vs s K =>
 Zch vs fun v'1 v'2 => ZaQ 7 v'1 fun e_1 f_2 => asInt .i64 v'2 fun x_3 => ZaI s <| ZDD N e_1 f_2 x_3 (fun x_4 => K (.int .i64 x_4) [])
def ZGC (N : Nat) : Zar := (Ztg N).add 44 (ZKd N)
def ZAw : Code := ZaK Tryz.f44
def Ztl : Code := (Zbo ZAw [] 0).2
def Zne : List Nat := ZbQ 27 [0, 1, 5]
def Zut : List Nat := ZbQ 27 [1, 4]
def ZjI (e_1 : List V) (f_2 : Fl) (x_3 x_4 : Int) : List V := mkF 0 27 [(0, .list 7 e_1 f_2), (1, .int .i64 x_3), (5, .int .i64 x_4)]
def ZgU {R : Type} (K : X → List V → S → Option R) (e_1 : List V) (f_2 : Fl) : Int → Option R := (fun x_1' => K .ret (mkF 0 27 [(1, .int .i64 (x_1')), (4, .int .i64 (-1))]) [])
def Zgx {R : Type} (K : X → List V → S → Option R) (e_1 : List V) (f_2 : Fl) : Int → Option R := (fun x_1' => K (.exit 0) (mkF 0 27 [(1, .int .i64 (x_1'))]) [])
abbrev Zmg {R : Type} (N : Nat) : Nat → List V → S → (X → List V → S → Option R) → Option R := fun n => Zdx C (Ztg N) (Zac) Ztl [0, 1, 0, 1, 1, 1] false Zne Zut n R
theorem ZH3 {R : Type} (N n : Nat) (e_1 : List V) (f_2 : Fl) (x_3 x_4 : Int) (K : X → List V → S → Option R) :
 Zmg N (n + 1) (ZjI e_1 f_2 x_3 x_4) [] K =
 Zdd N e_1 f_2 (fun x_3 x_4 => Zmg N n (ZjI e_1 f_2 x_3 x_4) [] K) x_3 x_4 (ZgU K e_1 f_2) (Zgx K e_1 f_2) := by kernel_rfl
theorem ZBf {R : Type} (N : Nat) (e_1 : List V) (f_2 : Fl) (K : X → List V → S → Option R) : ∀ (n : Nat) (x_3 x_4 : Int),
 Zmg N n (ZjI e_1 f_2 x_3 x_4) [] K = ZeU N e_1 f_2 (ZgU K e_1 f_2) (Zgx K e_1 f_2) n x_3 x_4
 | 0, _, _ => rfl
 | n + 1, x_3, x_4 => (ZH3 N n e_1 f_2 x_3 x_4 K).trans (congrArg (fun nx => Zdd N e_1 f_2 nx x_3 x_4 (ZgU K e_1 f_2) (Zgx K e_1 f_2)) (funext fun x_3 => funext fun x_4 => ZBf N e_1 f_2 K n x_3 x_4))
def ZqX {R : Type} (E : List V) (s : S) (k : List V → Fl → Int → Int → Option R) : Option R :=
 Zao (Za1 27 [0, 1, 5] E) <| Zbr E 0 7 fun e_1 f_2 => ZaT E 1 .i64 fun x_3 => ZaT E 5 .i64 fun x_4 => ZaI s <| k e_1 f_2 x_3 x_4
theorem Zpd {R : Type} {E : List V} {s : S} {k : List V → Fl → Int → Int → Option R} {r : R} (h : ZqX E s k = some r) : ∃ e_1 f_2 x_3 x_4, E = ZjI e_1 f_2 x_3 x_4 ∧ s = [] ∧ k e_1 f_2 x_3 x_4 = some r := by
 unfold ZqX at h
 obtain ⟨hg, h1⟩ := Zad h
 obtain ⟨_, _, hu0, h2⟩ := Zax h1
 obtain ⟨_, hu1, h3⟩ := Zai h2
 obtain ⟨_, hu5, h4⟩ := Zai h3
 obtain ⟨rfl, h5⟩ := Zae h4
 exact ⟨_, _, _, _, ZaP hg rfl (Zab hu0 (Zab hu1 (Zab hu5 ZaG))), rfl, h5⟩
def ZqW (N : Nat) : ZaA := (Zac).add [0, 1, 0, 1, 1, 1] fun _ E s K => ZqX (Zbd Zne E) s fun e_1 f_2 x_3 x_4 => ZeU N e_1 f_2 (ZgU K e_1 f_2) (Zgx K e_1 f_2) N x_3 x_4
theorem ZDB {N : Nat} (hC : Ok Tryz.prog C) (hΦ : Zaa Tryz.prog C (Ztg N)) : Za6 Tryz.prog C (ZqW N) Ztl [0, 1, 0, 1, 1, 1] :=
 Za7 (Λi := Zac) (tr := false) (ks := Zne) (kx := Zut) (N := N) hC hΦ
  (Zah (by kernel_rfl))
  fun R E s K r h => by
   have h2 := ZaA.add_self.symm.trans h
   obtain ⟨_, _, _, _, he, rfl, h3⟩ := Zpd h2
   rw [he]
   exact (ZBf N _ _ _ N _ _).trans h3
theorem ZJP : ZaX ZAw [] = [([0, 1, 0, 1, 1, 1], Ztl)] := by kernel_rfl
theorem ZL7 {R : Type} (N : Nat) (e_1 : List V) (f_2 : Fl) (x_3 : Int) (K : V → S → Option R) : Za0 C (Ztg N) (ZqW N) 44 Tryz.f44 [.list 7 e_1 f_2, .int .i64 x_3] [] K =
 Zo5 N e_1 f_2 x_3 (fun x_4 => K (.int .i64 x_4) []) := by kernel_rfl
theorem ZCq {N : Nat} (hC : Ok Tryz.prog C) (hΦ : Zaa Tryz.prog C (Ztg N)) : ZaV Tryz.prog C (ZqW N) ZAw [] :=
 ZaC ZAw [] (by
  rw [ZJP]
  intro p hp
  simp only [List.mem_cons, List.mem_nil_iff, or_false] at hp
  rcases hp with rfl
  ·exact (ZDB hC hΦ))
theorem Zzh (hC : Ok Tryz.prog C) {N : Nat} (hΦ : Zaa Tryz.prog C (Ztg N)) : Zaa Tryz.prog C (ZGC N) := by
 refine hΦ.add_pure rfl fun R vs K r h => ?_
 unfold ZKd at h
 obtain ⟨_, _, rfl, h1⟩ := Zap h
 obtain ⟨_, _, rfl, h2⟩ := Zaj h1
 obtain ⟨_, rfl, h3⟩ := Zaf h2
 obtain ⟨_, h4⟩ := Zae h3
 refine Zam (fn := Tryz.f44) (c := ZAw) hC hΦ Tryz.func44 (by kernel_rfl) (by kernel_rfl) (ZCq (N := N) hC hΦ) rfl rfl ?_
 refine (ZL7 N _ _ _ _).trans ?_
 rw [← ZuD]
 exact h4
def ZJs (N : Nat) : (R : Type) → List V → S → (V → S → Option R) → Option R := fun _ vs s K =>
 Zch vs fun v'1 v'2 => Zel v'1 fun e_1 f_2 x_3 => asInt .i64 v'2 fun x_4 => ZaI s <| ZFP N e_1 f_2 x_3 x_4 (fun x_5 => K (.int .i64 x_5) [])
def ZDK (N : Nat) : Zar := (ZGC N).add 11 (ZJs N)
def ZNu : Code := ZaK Tryz.f11
theorem ZL3 {R : Type} (N : Nat) (e_1 : List V) (f_2 : Fl) (x_3 x_4 : Int) (K : V → S → Option R) : Za0 C (ZGC N) (Zac) 11 Tryz.f11 [.agg [.list 7 e_1 f_2, .int .i64 x_3], .int .i64 x_4] [] K =
 Zqn N e_1 f_2 x_3 x_4 (fun x_5 => K (.int .i64 x_5) []) := by kernel_rfl
theorem Zxi (hC : Ok Tryz.prog C) {N : Nat} (hΦ : Zaa Tryz.prog C (ZGC N)) : Zaa Tryz.prog C (ZDK N) := by
 refine hΦ.add_pure rfl fun R vs K r h => ?_
 unfold ZJs at h
 obtain ⟨_, _, rfl, h1⟩ := Zap h
 obtain ⟨_, _, _, rfl, h2⟩ := ZdL h1
 obtain ⟨_, rfl, h3⟩ := Zaf h2
 obtain ⟨_, h4⟩ := Zae h3
 refine Zam (fn := Tryz.f11) (c := ZNu) hC hΦ Tryz.func11 (by kernel_rfl) (by kernel_rfl) (Zah (Λ := Zac) (by kernel_rfl)) rfl rfl ?_
 refine (ZL3 N _ _ _ _ _).trans ?_
 rw [← Zwp]
 exact h4
def ZK0 (N : Nat) : (R : Type) → List V → S → (V → S → Option R) → Option R := fun _ vs s K =>
 Zcf vs fun v'1 => Zca v'1 fun w_1 x_2 => ZaI s <| ZFe N w_1 x_2 (fun w_3 x_4 => K (.agg [.str w_3, .int .i64 x_4]) [])
def ZsQ (N : Nat) : Zar := (ZDK N).add 168 (ZK0 N)
def ZNz : Code := ZaK Tryz.f168
theorem ZMD {R : Type} (N : Nat) (w_1 : ByteArray) (x_2 : Int) (K : V → S → Option R) : Za0 C (ZDK N) (Zac) 168 Tryz.f168 [.agg [.str w_1, .int .i64 x_2]] [] K =
 Zvy N w_1 x_2 (fun w_3 x_4 => K (.agg [.str w_3, .int .i64 x_4]) []) := by kernel_rfl
theorem Zx0 (hC : Ok Tryz.prog C) {N : Nat} (hΦ : Zaa Tryz.prog C (ZDK N)) : Zaa Tryz.prog C (ZsQ N) := by
 refine hΦ.add_pure rfl fun R vs K r h => ?_
 unfold ZK0 at h
 obtain ⟨_, rfl, h1⟩ := Zaq h
 obtain ⟨_, _, rfl, h2⟩ := Zd0 h1
 obtain ⟨_, h3⟩ := Zae h2
 refine Zam (fn := Tryz.f168) (c := ZNz) hC hΦ Tryz.func168 (by kernel_rfl) (by kernel_rfl) (Zah (Λ := Zac) (by kernel_rfl)) rfl rfl ?_
 refine (ZMD N _ _ _).trans ?_
 rw [← Zvo]
 exact h3
def ZIS (N : Nat) : (R : Type) → List V → S → (V → S → Option R) → Option R := fun _ vs s K =>
 Zcf vs fun v'1 => ZaQ 2 v'1 fun e_1 f_2 => ZaI s <| ZFE N e_1 f_2 (fun e_3 => K (.list 2 e_3 .sh) [])
def ZFv (N : Nat) : Zar := (ZsQ N).add 144 (ZIS N)
def ZCB : Code := ZaK Tryz.f144
def Zsk : Code := (Zbo ZCB [] 0).2
def ZmV : List Nat := ZbQ 23 [0, 3, 4]
def Zvv : List Nat := ZbQ 23 [3]
def Zje (e_1 : List V) (f_2 : Fl) (k_3 : Nat) (x_4 : Int) (e_5 : List V) : List V := mkF 0 23 [(0, .list 2 e_1 f_2), (3, .arr 0 0 0 k_3), (4, .int .i64 x_4)]
def Zhj {R : Type} (K : X → List V → S → Option R) (e_1 : List V) (f_2 : Fl) (k_3 : Nat) : List V → Option R := (fun e_1' => K (.exit 0) (mkF 0 23 [(3, .arr 0 0 0 k_3)]) [some ⟨e_1', 2, 89, 0⟩])
abbrev Zmf {R : Type} (N : Nat) : Nat → List V → S → (X → List V → S → Option R) → Option R := fun n => Zdx C (ZsQ N) (Zac) Zsk [0, 1, 0, 1, 1] false ZmV Zvv n R
theorem ZHS {R : Type} (N n : Nat) (e_1 : List V) (f_2 : Fl) (k_3 : Nat) (x_4 : Int) (e_5 : List V) (K : X → List V → S → Option R) :
 Zmf N (n + 1) (Zje e_1 f_2 k_3 x_4 e_5) [some ⟨e_5, 2, 89, 0⟩] K =
 ZcR N e_1 f_2 k_3 (fun x_4 e_5 => Zmf N n (Zje e_1 f_2 k_3 x_4 e_5) [some ⟨e_5, 2, 89, 0⟩] K) x_4 e_5 (Zhj K e_1 f_2 k_3) := by kernel_rfl
theorem ZBx {R : Type} (N : Nat) (e_1 : List V) (f_2 : Fl) (k_3 : Nat) (K : X → List V → S → Option R) : ∀ (n : Nat) (x_4 : Int) (e_5 : List V),
 Zmf N n (Zje e_1 f_2 k_3 x_4 e_5) [some ⟨e_5, 2, 89, 0⟩] K = Zfm N e_1 f_2 k_3 (Zhj K e_1 f_2 k_3) n x_4 e_5
 | 0, _, _ => rfl
 | n + 1, x_4, e_5 => (ZHS N n e_1 f_2 k_3 x_4 e_5 K).trans (congrArg (fun nx => ZcR N e_1 f_2 k_3 nx x_4 e_5 (Zhj K e_1 f_2 k_3)) (funext fun x_4 => funext fun e_5 => ZBx N e_1 f_2 k_3 K n x_4 e_5))
def ZrE {R : Type} (E : List V) (s : S) (k : List V → Fl → Nat → Int → List V → Option R) : Option R :=
 Zao (Za1 23 [0, 3, 4] E) <| Zbr E 0 2 fun e_1 f_2 => Zbq (nth E 3) fun u3 => Ziq u3 fun k'1 k'2 k'3 k_3 => isN k'1 0 <| isN k'2 0 <| isN k'3 0 <| ZaT E 4 .i64 fun x_4 => ZdV s fun o'4 s'5 => ZdU o'4 2 89 fun e_5 k'6 => isN k'6 0 <| ZaI s'5 <| k e_1 f_2 k_3 x_4 e_5
theorem ZoC {R : Type} {E : List V} {s : S} {k : List V → Fl → Nat → Int → List V → Option R} {r : R} (h : ZrE E s k = some r) : ∃ e_1 f_2 k_3 x_4 e_5, E = Zje e_1 f_2 k_3 x_4 e_5 ∧ s = [some ⟨e_5, 2, 89, 0⟩] ∧ k e_1 f_2 k_3 x_4 e_5 = some r := by
 unfold ZrE at h
 obtain ⟨hg, h1⟩ := Zad h
 obtain ⟨_, _, hu0, h2⟩ := Zax h1
 obtain ⟨_, hu3, h3⟩ := Zag h2
 obtain ⟨_, _, _, _, rfl, h4⟩ := Zb3 h3
 obtain ⟨rfl, h5⟩ := Zat h4
 obtain ⟨rfl, h6⟩ := Zat h5
 obtain ⟨rfl, h7⟩ := Zat h6
 obtain ⟨_, hu4, h8⟩ := Zai h7
 obtain ⟨_, _, rfl, h9⟩ := ZaN h8
 obtain ⟨_, _, rfl, h10⟩ := ZaM h9
 obtain ⟨rfl, h11⟩ := Zat h10
 obtain ⟨rfl, h12⟩ := Zae h11
 exact ⟨_, _, _, _, _, ZaP hg rfl (Zab hu0 (Zab hu3 (Zab hu4 ZaG))), rfl, h12⟩
def ZtD (N : Nat) : ZaA := (Zac).add [0, 1, 0, 1, 1] fun _ E s K => ZrE (Zbd ZmV E) s fun e_1 f_2 k_3 x_4 e_5 => Zfm N e_1 f_2 k_3 (Zhj K e_1 f_2 k_3) N x_4 e_5
theorem ZFb {N : Nat} (hC : Ok Tryz.prog C) (hΦ : Zaa Tryz.prog C (ZsQ N)) : Za6 Tryz.prog C (ZtD N) Zsk [0, 1, 0, 1, 1] :=
 Za7 (Λi := Zac) (tr := false) (ks := ZmV) (kx := Zvv) (N := N) hC hΦ
  (Zah (by kernel_rfl))
  fun R E s K r h => by
   have h2 := ZaA.add_self.symm.trans h
   obtain ⟨_, _, _, _, _, he, rfl, h3⟩ := ZoC h2
   rw [he]
   exact (ZBx N _ _ _ _ N _ _).trans h3
theorem ZKf : ZaX ZCB [] = [([0, 1, 0, 1, 1], Zsk)] := by kernel_rfl
theorem ZNN {R : Type} (N : Nat) (e_1 : List V) (f_2 : Fl) (K : V → S → Option R) : Za0 C (ZsQ N) (ZtD N) 144 Tryz.f144 [.list 2 e_1 f_2] [] K =
 ZnJ N e_1 f_2 (fun e_3 => K (.list 2 e_3 .sh) []) := by kernel_rfl
theorem ZCY {N : Nat} (hC : Ok Tryz.prog C) (hΦ : Zaa Tryz.prog C (ZsQ N)) : ZaV Tryz.prog C (ZtD N) ZCB [] :=
 ZaC ZCB [] (by
  rw [ZKf]
  intro p hp
  simp only [List.mem_cons, List.mem_nil_iff, or_false] at hp
  rcases hp with rfl
  ·exact (ZFb hC hΦ))
theorem Zxd (hC : Ok Tryz.prog C) {N : Nat} (hΦ : Zaa Tryz.prog C (ZsQ N)) : Zaa Tryz.prog C (ZFv N) := by
 refine hΦ.add_pure rfl fun R vs K r h => ?_
 unfold ZIS at h
 obtain ⟨_, rfl, h1⟩ := Zaq h
 obtain ⟨_, _, rfl, h2⟩ := Zaj h1
 obtain ⟨_, h3⟩ := Zae h2
 refine Zam (fn := Tryz.f144) (c := ZCB) hC hΦ Tryz.func144 (by kernel_rfl) (by kernel_rfl) (ZCY (N := N) hC hΦ) rfl rfl ?_
 refine (ZNN N _ _ _).trans ?_
 rw [← Zt0]
 exact h3
def ZIV (N : Nat) : (R : Type) → List V → S → (V → S → Option R) → Option R := fun _ vs s K =>
 Zcf vs fun v'1 => Zck v'1 fun x_1 x_2 x_3 x_4 x_5 w_6 e_7 f_8 => ZaI s <| ZGr N x_1 x_2 x_3 x_4 x_5 w_6 e_7 f_8 (fun x_9 x_10 x_11 x_12 x_13 w_14 e_15 => K (.agg [.int .i64 x_9, .int .i64 x_10, .int .i64 x_11, .int .i64 x_12, .int .i64 x_13, .str w_14, .list 2 e_15 .sh]) [])
def ZsR (N : Nat) : Zar := (ZFv N).add 93 (ZIV N)
def ZMm : Code := ZaK Tryz.f93
theorem ZNP {R : Type} (N : Nat) (x_1 x_2 x_3 x_4 x_5 : Int) (w_6 : ByteArray) (e_7 : List V) (f_8 : Fl) (K : V → S → Option R) : Za0 C (ZFv N) (Zac) 93 Tryz.f93 [.agg [.int .i64 x_1, .int .i64 x_2, .int .i64 x_3, .int .i64 x_4, .int .i64 x_5, .str w_6, .list 2 e_7 f_8]] [] K =
 ZoF N x_1 x_2 x_3 x_4 x_5 w_6 e_7 f_8 (fun x_9 x_10 x_11 x_12 x_13 w_14 e_15 => K (.agg [.int .i64 x_9, .int .i64 x_10, .int .i64 x_11, .int .i64 x_12, .int .i64 x_13, .str w_14, .list 2 e_15 .sh]) []) := by kernel_rfl
theorem Zxc (hC : Ok Tryz.prog C) {N : Nat} (hΦ : Zaa Tryz.prog C (ZFv N)) : Zaa Tryz.prog C (ZsR N) := by
 refine hΦ.add_pure rfl fun R vs K r h => ?_
 unfold ZIV at h
 obtain ⟨_, rfl, h1⟩ := Zaq h
 obtain ⟨_, _, _, _, _, _, _, _, rfl, h2⟩ := Zem h1
 obtain ⟨_, h3⟩ := Zae h2
 refine Zam (fn := Tryz.f93) (c := ZMm) hC hΦ Tryz.func93 (by kernel_rfl) (by kernel_rfl) (Zah (Λ := Zac) (by kernel_rfl)) rfl rfl ?_
 refine (ZNP N _ _ _ _ _ _ _ _ _).trans ?_
 rw [← ZwO]
 exact h3
def ZJe (N : Nat) : (R : Type) → List V → S → (V → S → Option R) → Option R := fun _ vs s K =>
 Zcf vs fun v'1 => ZaQ 7 v'1 fun e_1 f_2 => ZaI s <| ZGv N e_1 f_2 (fun e_3 => K (.list 7 e_3 .sh) [])
def ZE3 (N : Nat) : Zar := (ZsR N).add 48 (ZJe N)
def ZBm : Code := ZaK Tryz.f48
def ZsH : Code := (Zbo ZBm [] 0).2
def Zl1 : List Nat := ZbQ 23 [0, 3, 4]
def Zwq : List Nat := ZbQ 23 [3]
def Zjf (e_1 : List V) (f_2 : Fl) (k_3 : Nat) (x_4 : Int) (e_5 : List V) : List V := mkF 0 23 [(0, .list 7 e_1 f_2), (3, .arr 0 0 0 k_3), (4, .int .i64 x_4)]
def ZgR {R : Type} (K : X → List V → S → Option R) (e_1 : List V) (f_2 : Fl) (k_3 : Nat) : List V → Option R := (fun e_1' => K (.exit 0) (mkF 0 23 [(3, .arr 0 0 0 k_3)]) [some ⟨e_1', 7, 87, 0⟩])
abbrev Zlm {R : Type} (N : Nat) : Nat → List V → S → (X → List V → S → Option R) → Option R := fun n => Zdx C (ZsR N) (Zac) ZsH [0, 1, 0, 1, 1] false Zl1 Zwq n R
theorem ZGZ {R : Type} (N n : Nat) (e_1 : List V) (f_2 : Fl) (k_3 : Nat) (x_4 : Int) (e_5 : List V) (K : X → List V → S → Option R) :
 Zlm N (n + 1) (Zjf e_1 f_2 k_3 x_4 e_5) [some ⟨e_5, 7, 87, 0⟩] K =
 Zdi N e_1 f_2 k_3 (fun x_4 e_5 => Zlm N n (Zjf e_1 f_2 k_3 x_4 e_5) [some ⟨e_5, 7, 87, 0⟩] K) x_4 e_5 (ZgR K e_1 f_2 k_3) := by kernel_rfl
theorem ZzV {R : Type} (N : Nat) (e_1 : List V) (f_2 : Fl) (k_3 : Nat) (K : X → List V → S → Option R) : ∀ (n : Nat) (x_4 : Int) (e_5 : List V),
 Zlm N n (Zjf e_1 f_2 k_3 x_4 e_5) [some ⟨e_5, 7, 87, 0⟩] K = Ze7 N e_1 f_2 k_3 (ZgR K e_1 f_2 k_3) n x_4 e_5
 | 0, _, _ => rfl
 | n + 1, x_4, e_5 => (ZGZ N n e_1 f_2 k_3 x_4 e_5 K).trans (congrArg (fun nx => Zdi N e_1 f_2 k_3 nx x_4 e_5 (ZgR K e_1 f_2 k_3)) (funext fun x_4 => funext fun e_5 => ZzV N e_1 f_2 k_3 K n x_4 e_5))
def Zth {R : Type} (E : List V) (s : S) (k : List V → Fl → Nat → Int → List V → Option R) : Option R :=
 Zao (Za1 23 [0, 3, 4] E) <| Zbr E 0 7 fun e_1 f_2 => Zbq (nth E 3) fun u3 => Ziq u3 fun k'1 k'2 k'3 k_3 => isN k'1 0 <| isN k'2 0 <| isN k'3 0 <| ZaT E 4 .i64 fun x_4 => ZdV s fun o'4 s'5 => ZdU o'4 7 87 fun e_5 k'6 => isN k'6 0 <| ZaI s'5 <| k e_1 f_2 k_3 x_4 e_5
theorem ZnH {R : Type} {E : List V} {s : S} {k : List V → Fl → Nat → Int → List V → Option R} {r : R} (h : Zth E s k = some r) : ∃ e_1 f_2 k_3 x_4 e_5, E = Zjf e_1 f_2 k_3 x_4 e_5 ∧ s = [some ⟨e_5, 7, 87, 0⟩] ∧ k e_1 f_2 k_3 x_4 e_5 = some r := by
 unfold Zth at h
 obtain ⟨hg, h1⟩ := Zad h
 obtain ⟨_, _, hu0, h2⟩ := Zax h1
 obtain ⟨_, hu3, h3⟩ := Zag h2
 obtain ⟨_, _, _, _, rfl, h4⟩ := Zb3 h3
 obtain ⟨rfl, h5⟩ := Zat h4
 obtain ⟨rfl, h6⟩ := Zat h5
 obtain ⟨rfl, h7⟩ := Zat h6
 obtain ⟨_, hu4, h8⟩ := Zai h7
 obtain ⟨_, _, rfl, h9⟩ := ZaN h8
 obtain ⟨_, _, rfl, h10⟩ := ZaM h9
 obtain ⟨rfl, h11⟩ := Zat h10
 obtain ⟨rfl, h12⟩ := Zae h11
 exact ⟨_, _, _, _, _, ZaP hg rfl (Zab hu0 (Zab hu3 (Zab hu4 ZaG))), rfl, h12⟩
def ZrF (N : Nat) : ZaA := (Zac).add [0, 1, 0, 1, 1] fun _ E s K => Zth (Zbd Zl1 E) s fun e_1 f_2 k_3 x_4 e_5 => Ze7 N e_1 f_2 k_3 (ZgR K e_1 f_2 k_3) N x_4 e_5
theorem ZEG {N : Nat} (hC : Ok Tryz.prog C) (hΦ : Zaa Tryz.prog C (ZsR N)) : Za6 Tryz.prog C (ZrF N) ZsH [0, 1, 0, 1, 1] :=
 Za7 (Λi := Zac) (tr := false) (ks := Zl1) (kx := Zwq) (N := N) hC hΦ
  (Zah (by kernel_rfl))
  fun R E s K r h => by
   have h2 := ZaA.add_self.symm.trans h
   obtain ⟨_, _, _, _, _, he, rfl, h3⟩ := ZnH h2
   rw [he]
   exact (ZzV N _ _ _ _ N _ _).trans h3
theorem ZKp : ZaX ZBm [] = [([0, 1, 0, 1, 1], ZsH)] := by kernel_rfl
theorem ZMR {R : Type} (N : Nat) (e_1 : List V) (f_2 : Fl) (K : V → S → Option R) : Za0 C (ZsR N) (ZrF N) 48 Tryz.f48 [.list 7 e_1 f_2] [] K =
 Zqc N e_1 f_2 (fun e_3 => K (.list 7 e_3 .sh) []) := by kernel_rfl
theorem ZAf {N : Nat} (hC : Ok Tryz.prog C) (hΦ : Zaa Tryz.prog C (ZsR N)) : ZaV Tryz.prog C (ZrF N) ZBm [] :=
 ZaC ZBm [] (by
  rw [ZKp]
  intro p hp
  simp only [List.mem_cons, List.mem_nil_iff, or_false] at hp
  rcases hp with rfl
  ·exact (ZEG hC hΦ))
theorem Zx3 (hC : Ok Tryz.prog C) {N : Nat} (hΦ : Zaa Tryz.prog C (ZsR N)) : Zaa Tryz.prog C (ZE3 N) := by
 refine hΦ.add_pure rfl fun R vs K r h => ?_
 unfold ZJe at h
 obtain ⟨_, rfl, h1⟩ := Zaq h
 obtain ⟨_, _, rfl, h2⟩ := Zaj h1
 obtain ⟨_, h3⟩ := Zae h2
 refine Zam (fn := Tryz.f48) (c := ZBm) hC hΦ Tryz.func48 (by kernel_rfl) (by kernel_rfl) (ZAf (N := N) hC hΦ) rfl rfl ?_
 refine (ZMR N _ _ _).trans ?_
 rw [← ZuJ]
 exact h3
def ZKR (N : Nat) : (R : Type) → List V → S → (V → S → Option R) → Option R := fun _ vs s K =>
 Zcf vs fun v'1 => Zel v'1 fun e_1 f_2 x_3 => ZaI s <| ZyS N e_1 f_2 x_3 (fun e_4 x_5 => K (.agg [.list 7 e_4 .sh, .int .i64 x_5]) [])
def ZEF (N : Nat) : Zar := (ZE3 N).add 14 (ZKR N)
def ZLX : Code := ZaK Tryz.f14
theorem ZNh {R : Type} (N : Nat) (e_1 : List V) (f_2 : Fl) (x_3 : Int) (K : V → S → Option R) : Za0 C (ZE3 N) (Zac) 14 Tryz.f14 [.agg [.list 7 e_1 f_2, .int .i64 x_3]] [] K =
 ZpF N e_1 f_2 x_3 (fun e_4 x_5 => K (.agg [.list 7 e_4 .sh, .int .i64 x_5]) []) := by kernel_rfl
theorem Zxq (hC : Ok Tryz.prog C) {N : Nat} (hΦ : Zaa Tryz.prog C (ZE3 N)) : Zaa Tryz.prog C (ZEF N) := by
 refine hΦ.add_pure rfl fun R vs K r h => ?_
 unfold ZKR at h
 obtain ⟨_, rfl, h1⟩ := Zaq h
 obtain ⟨_, _, _, rfl, h2⟩ := ZdL h1
 obtain ⟨_, h3⟩ := Zae h2
 refine Zam (fn := Tryz.f14) (c := ZLX) hC hΦ Tryz.func14 (by kernel_rfl) (by kernel_rfl) (Zah (Λ := Zac) (by kernel_rfl)) rfl rfl ?_
 refine (ZNh N _ _ _ _).trans ?_
 rw [← ZwK]
 exact h3
def ZKN (N : Nat) : (R : Type) → List V → S → (V → S → Option R) → Option R := fun _ vs s K =>
 Zcf vs fun v'1 => Zd7 v'1 fun x_1 x_2 => ZaI s <| ZDc N x_1 x_2 (fun x_3 x_4 => K (.agg [.int .i64 x_3, .int .i64 x_4]) [])
def ZDz (N : Nat) : Zar := (ZEF N).add 15 (ZKN N)
def ZNA : Code := ZaK Tryz.f15
theorem ZNI {R : Type} (N : Nat) (x_1 x_2 : Int) (K : V → S → Option R) : Za0 C (ZEF N) (Zac) 15 Tryz.f15 [.agg [.int .i64 x_1, .int .i64 x_2]] [] K =
 Zur N x_1 x_2 (fun x_3 x_4 => K (.agg [.int .i64 x_3, .int .i64 x_4]) []) := by kernel_rfl
theorem ZyO (hC : Ok Tryz.prog C) {N : Nat} (hΦ : Zaa Tryz.prog C (ZEF N)) : Zaa Tryz.prog C (ZDz N) := by
 refine hΦ.add_pure rfl fun R vs K r h => ?_
 unfold ZKN at h
 obtain ⟨_, rfl, h1⟩ := Zaq h
 obtain ⟨_, _, rfl, h2⟩ := Zei h1
 obtain ⟨_, h3⟩ := Zae h2
 refine Zam (fn := Tryz.f15) (c := ZNA) hC hΦ Tryz.func15 (by kernel_rfl) (by kernel_rfl) (Zah (Λ := Zac) (by kernel_rfl)) rfl rfl ?_
 refine (ZNI N _ _ _).trans ?_
 rw [← ZuT]
 exact h3
def ZKH (N : Nat) : (R : Type) → List V → S → (V → S → Option R) → Option R := fun _ vs s K =>
 Zch vs fun v'1 v'2 => ZaZ v'1 fun w_1 x_2 => ZaZ v'2 fun w_3 x_4 => ZaI s <| ZD7 N w_1 x_2 w_3 x_4 (fun b_5 => K (.bool b_5) [])
def Zsh (N : Nat) : Zar := (ZDz N).add 175 (ZKH N)
def ZLP : Code := ZaK Tryz.f175
theorem ZMM {R : Type} (N : Nat) (w_1 : ByteArray) (x_2 : Int) (w_3 : ByteArray) (x_4 : Int) (K : V → S → Option R) : Za0 C (ZDz N) (Zac) 175 Tryz.f175 [.agg [.str w_1, .int .i64 x_2], .agg [.str w_3, .int .i64 x_4]] [] K =
 Zqp N w_1 x_2 w_3 x_4 (fun b_5 => K (.bool b_5) []) := by kernel_rfl
theorem ZxS (hC : Ok Tryz.prog C) {N : Nat} (hΦ : Zaa Tryz.prog C (ZDz N)) : Zaa Tryz.prog C (Zsh N) := by
 refine hΦ.add_pure rfl fun R vs K r h => ?_
 unfold ZKH at h
 obtain ⟨_, _, rfl, h1⟩ := Zap h
 obtain ⟨_, _, rfl, h2⟩ := Zd3 h1
 obtain ⟨_, _, rfl, h3⟩ := Zd3 h2
 obtain ⟨_, h4⟩ := Zae h3
 refine Zam (fn := Tryz.f175) (c := ZLP) hC hΦ Tryz.func175 (by kernel_rfl) (by kernel_rfl) (Zah (Λ := Zac) (by kernel_rfl)) rfl rfl ?_
 refine (ZMM N _ _ _ _ _).trans ?_
 rw [← Zv4]
 exact h4
def ZJn (N : Nat) : (R : Type) → List V → S → (V → S → Option R) → Option R := fun _ vs s K =>
 Zch vs fun v'1 v'2 => ZaQ 2 v'1 fun e_1 f_2 => ZaQ 2 v'2 fun e_3 f_4 => ZaI s <| ZD4 N e_1 f_2 e_3 f_4 (fun b_5 => K (.bool b_5) [])
def ZEw (N : Nat) : Zar := (Zsh N).add 156 (ZJn N)
def ZCR : Code := ZaK Tryz.f156
def Zs1 : Code := (Zbo ZCR [] 0).2
def Zmo : List Nat := ZbQ 27 [0, 1, 5]
def ZuS : List Nat := ZbQ 27 [4]
def ZiX (e_1 : List V) (f_2 : Fl) (e_3 : List V) (f_4 : Fl) (x_5 : Int) : List V := mkF 0 27 [(0, .list 2 e_1 f_2), (1, .list 2 e_3 f_4), (5, .int .i64 x_5)]
def ZgN {R : Type} (K : X → List V → S → Option R) (e_1 : List V) (f_2 : Fl) (e_3 : List V) (f_4 : Fl) : Unit → Option R := (fun _ => K .ret (mkF 0 27 [(4, .bool false)]) [])
def ZgO {R : Type} (K : X → List V → S → Option R) (e_1 : List V) (f_2 : Fl) (e_3 : List V) (f_4 : Fl) : Unit → Option R := (fun _ => K (.exit 0) (mkF 0 27 []) [])
abbrev ZmB {R : Type} (N : Nat) : Nat → List V → S → (X → List V → S → Option R) → Option R := fun n => Zdx C (Zsh N) (Zac) Zs1 [0, 1, 0, 1, 1] false Zmo ZuS n R
theorem ZHW {R : Type} (N n : Nat) (e_1 : List V) (f_2 : Fl) (e_3 : List V) (f_4 : Fl) (x_5 : Int) (K : X → List V → S → Option R) :
 ZmB N (n + 1) (ZiX e_1 f_2 e_3 f_4 x_5) [] K =
 Zc5 N e_1 f_2 e_3 f_4 (fun x_5 => ZmB N n (ZiX e_1 f_2 e_3 f_4 x_5) [] K) x_5 (ZgN K e_1 f_2 e_3 f_4) (ZgO K e_1 f_2 e_3 f_4) := by kernel_rfl
theorem ZAp {R : Type} (N : Nat) (e_1 : List V) (f_2 : Fl) (e_3 : List V) (f_4 : Fl) (K : X → List V → S → Option R) : ∀ (n : Nat) (x_5 : Int),
 ZmB N n (ZiX e_1 f_2 e_3 f_4 x_5) [] K = ZfX N e_1 f_2 e_3 f_4 (ZgN K e_1 f_2 e_3 f_4) (ZgO K e_1 f_2 e_3 f_4) n x_5
 | 0, _ => rfl
 | n + 1, x_5 => (ZHW N n e_1 f_2 e_3 f_4 x_5 K).trans (congrArg (fun nx => Zc5 N e_1 f_2 e_3 f_4 nx x_5 (ZgN K e_1 f_2 e_3 f_4) (ZgO K e_1 f_2 e_3 f_4)) (funext fun x_5 => ZAp N e_1 f_2 e_3 f_4 K n x_5))
def Zr4 {R : Type} (E : List V) (s : S) (k : List V → Fl → List V → Fl → Int → Option R) : Option R :=
 Zao (Za1 27 [0, 1, 5] E) <| Zbr E 0 2 fun e_1 f_2 => Zbr E 1 2 fun e_3 f_4 => ZaT E 5 .i64 fun x_5 => ZaI s <| k e_1 f_2 e_3 f_4 x_5
theorem Zoj {R : Type} {E : List V} {s : S} {k : List V → Fl → List V → Fl → Int → Option R} {r : R} (h : Zr4 E s k = some r) : ∃ e_1 f_2 e_3 f_4 x_5, E = ZiX e_1 f_2 e_3 f_4 x_5 ∧ s = [] ∧ k e_1 f_2 e_3 f_4 x_5 = some r := by
 unfold Zr4 at h
 obtain ⟨hg, h1⟩ := Zad h
 obtain ⟨_, _, hu0, h2⟩ := Zax h1
 obtain ⟨_, _, hu1, h3⟩ := Zax h2
 obtain ⟨_, hu5, h4⟩ := Zai h3
 obtain ⟨rfl, h5⟩ := Zae h4
 exact ⟨_, _, _, _, _, ZaP hg rfl (Zab hu0 (Zab hu1 (Zab hu5 ZaG))), rfl, h5⟩
def Zsr (N : Nat) : ZaA := (Zac).add [0, 1, 0, 1, 1] fun _ E s K => Zr4 (Zbd Zmo E) s fun e_1 f_2 e_3 f_4 x_5 => ZfX N e_1 f_2 e_3 f_4 (ZgN K e_1 f_2 e_3 f_4) (ZgO K e_1 f_2 e_3 f_4) N x_5
theorem ZF7 {N : Nat} (hC : Ok Tryz.prog C) (hΦ : Zaa Tryz.prog C (Zsh N)) : Za6 Tryz.prog C (Zsr N) Zs1 [0, 1, 0, 1, 1] :=
 Za7 (Λi := Zac) (tr := false) (ks := Zmo) (kx := ZuS) (N := N) hC hΦ
  (Zah (by kernel_rfl))
  fun R E s K r h => by
   have h2 := ZaA.add_self.symm.trans h
   obtain ⟨_, _, _, _, _, he, rfl, h3⟩ := Zoj h2
   rw [he]
   exact (ZAp N _ _ _ _ _ N _).trans h3
theorem ZKV : ZaX ZCR [] = [([0, 1, 0, 1, 1], Zs1)] := by kernel_rfl
theorem ZNp {R : Type} (N : Nat) (e_1 : List V) (f_2 : Fl) (e_3 : List V) (f_4 : Fl) (K : V → S → Option R) : Za0 C (Zsh N) (Zsr N) 156 Tryz.f156 [.list 2 e_1 f_2, .list 2 e_3 f_4] [] K =
 Zqw N e_1 f_2 e_3 f_4 (fun b_5 => K (.bool b_5) []) := by kernel_rfl
theorem ZBi {N : Nat} (hC : Ok Tryz.prog C) (hΦ : Zaa Tryz.prog C (Zsh N)) : ZaV Tryz.prog C (Zsr N) ZCR [] :=
 ZaC ZCR [] (by
  rw [ZKV]
  intro p hp
  simp only [List.mem_cons, List.mem_nil_iff, or_false] at hp
  rcases hp with rfl
  ·exact (ZF7 hC hΦ))
theorem Zx1 (hC : Ok Tryz.prog C) {N : Nat} (hΦ : Zaa Tryz.prog C (Zsh N)) : Zaa Tryz.prog C (ZEw N) := by
 refine hΦ.add_pure rfl fun R vs K r h => ?_
 unfold ZJn at h
 obtain ⟨_, _, rfl, h1⟩ := Zap h
 obtain ⟨_, _, rfl, h2⟩ := Zaj h1
 obtain ⟨_, _, rfl, h3⟩ := Zaj h2
 obtain ⟨_, h4⟩ := Zae h3
 refine Zam (fn := Tryz.f156) (c := ZCR) hC hΦ Tryz.func156 (by kernel_rfl) (by kernel_rfl) (ZBi (N := N) hC hΦ) rfl rfl ?_
 refine (ZNp N _ _ _ _ _).trans ?_
 rw [← Zt8]
 exact h4
def ZI2 (N : Nat) : (R : Type) → List V → S → (V → S → Option R) → Option R := fun _ vs s K =>
 Zch vs fun v'1 v'2 => Zaw v'1 fun x_1 x_2 x_3 x_4 x_5 w_6 e_7 f_8 => Zaw v'2 fun x_9 x_10 x_11 x_12 x_13 w_14 e_15 f_16 => ZaI s <| ZF4 N x_1 x_2 x_3 x_4 x_5 w_6 e_7 f_8 x_9 x_10 x_11 x_12 x_13 w_14 e_15 f_16 (fun b_17 => K (.bool b_17) [])
def ZsF (N : Nat) : Zar := (ZEw N).add 105 (ZI2 N)
def ZN1 : Code := ZaK Tryz.f105
theorem ZLL {R : Type} (N : Nat) (x_1 x_2 x_3 x_4 x_5 : Int) (w_6 : ByteArray) (e_7 : List V) (f_8 : Fl) (x_9 x_10 x_11 x_12 x_13 : Int) (w_14 : ByteArray) (e_15 : List V) (f_16 : Fl) (K : V → S → Option R) : Za0 C (ZEw N) (Zac) 105 Tryz.f105 [.agg [.int .i64 x_1, .int .i64 x_2, .int .i64 x_3, .int .i64 x_4, .int .i64 x_5, .str w_6, .list 2 e_7 f_8], .agg [.int .i64 x_9, .int .i64 x_10, .int .i64 x_11, .int .i64 x_12, .int .i64 x_13, .str w_14, .list 2 e_15 f_16]] [] K =
 ZpU N x_1 x_2 x_3 x_4 x_5 w_6 e_7 f_8 x_9 x_10 x_11 x_12 x_13 w_14 e_15 f_16 (fun b_17 => K (.bool b_17) []) := by kernel_rfl
theorem Zxw (hC : Ok Tryz.prog C) {N : Nat} (hΦ : Zaa Tryz.prog C (ZEw N)) : Zaa Tryz.prog C (ZsF N) := by
 refine hΦ.add_pure rfl fun R vs K r h => ?_
 unfold ZI2 at h
 obtain ⟨_, _, rfl, h1⟩ := Zap h
 obtain ⟨_, _, _, _, _, _, _, _, rfl, h2⟩ := ZbZ h1
 obtain ⟨_, _, _, _, _, _, _, _, rfl, h3⟩ := ZbZ h2
 obtain ⟨_, h4⟩ := Zae h3
 refine Zam (fn := Tryz.f105) (c := ZN1) hC hΦ Tryz.func105 (by kernel_rfl) (by kernel_rfl) (Zah (Λ := Zac) (by kernel_rfl)) rfl rfl ?_
 refine (ZLL N _ _ _ _ _ _ _ _ _ _ _ _ _ _ _ _ _).trans ?_
 rw [← Zuy]
 exact h4
def ZJa (N : Nat) : (R : Type) → List V → S → (V → S → Option R) → Option R := fun _ vs s K =>
 Zch vs fun v'1 v'2 => ZaQ 7 v'1 fun e_1 f_2 => ZaQ 7 v'2 fun e_3 f_4 => ZaI s <| ZEA N e_1 f_2 e_3 f_4 (fun b_5 => K (.bool b_5) [])
def ZDp (N : Nat) : Zar := (ZsF N).add 52 (ZJa N)
def ZBt : Code := ZaK Tryz.f52
def Zsq : Code := (Zbo ZBt [] 0).2
def ZmG : List Nat := ZbQ 27 [0, 1, 5]
def Zuj : List Nat := ZbQ 27 [4]
def Zi7 (e_1 : List V) (f_2 : Fl) (e_3 : List V) (f_4 : Fl) (x_5 : Int) : List V := mkF 0 27 [(0, .list 7 e_1 f_2), (1, .list 7 e_3 f_4), (5, .int .i64 x_5)]
def ZhE {R : Type} (K : X → List V → S → Option R) (e_1 : List V) (f_2 : Fl) (e_3 : List V) (f_4 : Fl) : Unit → Option R := (fun _ => K .ret (mkF 0 27 [(4, .bool false)]) [])
def ZgY {R : Type} (K : X → List V → S → Option R) (e_1 : List V) (f_2 : Fl) (e_3 : List V) (f_4 : Fl) : Unit → Option R := (fun _ => K (.exit 0) (mkF 0 27 []) [])
abbrev Zmk {R : Type} (N : Nat) : Nat → List V → S → (X → List V → S → Option R) → Option R := fun n => Zdx C (ZsF N) (Zac) Zsq [0, 1, 0, 1, 1] false ZmG Zuj n R
theorem ZH4 {R : Type} (N n : Nat) (e_1 : List V) (f_2 : Fl) (e_3 : List V) (f_4 : Fl) (x_5 : Int) (K : X → List V → S → Option R) :
 Zmk N (n + 1) (Zi7 e_1 f_2 e_3 f_4 x_5) [] K =
 ZcU N e_1 f_2 e_3 f_4 (fun x_5 => Zmk N n (Zi7 e_1 f_2 e_3 f_4 x_5) [] K) x_5 (ZhE K e_1 f_2 e_3 f_4) (ZgY K e_1 f_2 e_3 f_4) := by kernel_rfl
theorem Zz1 {R : Type} (N : Nat) (e_1 : List V) (f_2 : Fl) (e_3 : List V) (f_4 : Fl) (K : X → List V → S → Option R) : ∀ (n : Nat) (x_5 : Int),
 Zmk N n (Zi7 e_1 f_2 e_3 f_4 x_5) [] K = ZfW N e_1 f_2 e_3 f_4 (ZhE K e_1 f_2 e_3 f_4) (ZgY K e_1 f_2 e_3 f_4) n x_5
 | 0, _ => rfl
 | n + 1, x_5 => (ZH4 N n e_1 f_2 e_3 f_4 x_5 K).trans (congrArg (fun nx => ZcU N e_1 f_2 e_3 f_4 nx x_5 (ZhE K e_1 f_2 e_3 f_4) (ZgY K e_1 f_2 e_3 f_4)) (funext fun x_5 => Zz1 N e_1 f_2 e_3 f_4 K n x_5))
def ZsY {R : Type} (E : List V) (s : S) (k : List V → Fl → List V → Fl → Int → Option R) : Option R :=
 Zao (Za1 27 [0, 1, 5] E) <| Zbr E 0 7 fun e_1 f_2 => Zbr E 1 7 fun e_3 f_4 => ZaT E 5 .i64 fun x_5 => ZaI s <| k e_1 f_2 e_3 f_4 x_5
theorem ZoH {R : Type} {E : List V} {s : S} {k : List V → Fl → List V → Fl → Int → Option R} {r : R} (h : ZsY E s k = some r) : ∃ e_1 f_2 e_3 f_4 x_5, E = Zi7 e_1 f_2 e_3 f_4 x_5 ∧ s = [] ∧ k e_1 f_2 e_3 f_4 x_5 = some r := by
 unfold ZsY at h
 obtain ⟨hg, h1⟩ := Zad h
 obtain ⟨_, _, hu0, h2⟩ := Zax h1
 obtain ⟨_, _, hu1, h3⟩ := Zax h2
 obtain ⟨_, hu5, h4⟩ := Zai h3
 obtain ⟨rfl, h5⟩ := Zae h4
 exact ⟨_, _, _, _, _, ZaP hg rfl (Zab hu0 (Zab hu1 (Zab hu5 ZaG))), rfl, h5⟩
def Zrf (N : Nat) : ZaA := (Zac).add [0, 1, 0, 1, 1] fun _ E s K => ZsY (Zbd ZmG E) s fun e_1 f_2 e_3 f_4 x_5 => ZfW N e_1 f_2 e_3 f_4 (ZhE K e_1 f_2 e_3 f_4) (ZgY K e_1 f_2 e_3 f_4) N x_5
theorem ZFA {N : Nat} (hC : Ok Tryz.prog C) (hΦ : Zaa Tryz.prog C (ZsF N)) : Za6 Tryz.prog C (Zrf N) Zsq [0, 1, 0, 1, 1] :=
 Za7 (Λi := Zac) (tr := false) (ks := ZmG) (kx := Zuj) (N := N) hC hΦ
  (Zah (by kernel_rfl))
  fun R E s K r h => by
   have h2 := ZaA.add_self.symm.trans h
   obtain ⟨_, _, _, _, _, he, rfl, h3⟩ := ZoH h2
   rw [he]
   exact (Zz1 N _ _ _ _ _ N _).trans h3
theorem ZKq : ZaX ZBt [] = [([0, 1, 0, 1, 1], Zsq)] := by kernel_rfl
theorem ZME {R : Type} (N : Nat) (e_1 : List V) (f_2 : Fl) (e_3 : List V) (f_4 : Fl) (K : V → S → Option R) : Za0 C (ZsF N) (Zrf N) 52 Tryz.f52 [.list 7 e_1 f_2, .list 7 e_3 f_4] [] K =
 ZpO N e_1 f_2 e_3 f_4 (fun b_5 => K (.bool b_5) []) := by kernel_rfl
theorem ZCC {N : Nat} (hC : Ok Tryz.prog C) (hΦ : Zaa Tryz.prog C (ZsF N)) : ZaV Tryz.prog C (Zrf N) ZBt [] :=
 ZaC ZBt [] (by
  rw [ZKq]
  intro p hp
  simp only [List.mem_cons, List.mem_nil_iff, or_false] at hp
  rcases hp with rfl
  ·exact (ZFA hC hΦ))
theorem ZxG (hC : Ok Tryz.prog C) {N : Nat} (hΦ : Zaa Tryz.prog C (ZsF N)) : Zaa Tryz.prog C (ZDp N) := by
 refine hΦ.add_pure rfl fun R vs K r h => ?_
 unfold ZJa at h
 obtain ⟨_, _, rfl, h1⟩ := Zap h
 obtain ⟨_, _, rfl, h2⟩ := Zaj h1
 obtain ⟨_, _, rfl, h3⟩ := Zaj h2
 obtain ⟨_, h4⟩ := Zae h3
 refine Zam (fn := Tryz.f52) (c := ZBt) hC hΦ Tryz.func52 (by kernel_rfl) (by kernel_rfl) (ZCC (N := N) hC hΦ) rfl rfl ?_
 refine (ZME N _ _ _ _ _).trans ?_
 rw [← Zwg]
 exact h4
def ZKE (N : Nat) : (R : Type) → List V → S → (V → S → Option R) → Option R := fun _ vs s K =>
 Zch vs fun v'1 v'2 => ZaU v'1 fun e_1 f_2 x_3 => ZaU v'2 fun e_4 f_5 x_6 => ZaI s <| ZF3 N e_1 f_2 x_3 e_4 f_5 x_6 (fun b_7 => K (.bool b_7) [])
def Zrw (N : Nat) : Zar := (ZDp N).add 18 (ZKE N)
def ZNM : Code := ZaK Tryz.f18
theorem ZN0 {R : Type} (N : Nat) (e_1 : List V) (f_2 : Fl) (x_3 : Int) (e_4 : List V) (f_5 : Fl) (x_6 : Int) (K : V → S → Option R) : Za0 C (ZDp N) (Zac) 18 Tryz.f18 [.agg [.list 7 e_1 f_2, .int .i64 x_3], .agg [.list 7 e_4 f_5, .int .i64 x_6]] [] K =
 Zql N e_1 f_2 x_3 e_4 f_5 x_6 (fun b_7 => K (.bool b_7) []) := by kernel_rfl
theorem Zw3 (hC : Ok Tryz.prog C) {N : Nat} (hΦ : Zaa Tryz.prog C (ZDp N)) : Zaa Tryz.prog C (Zrw N) := by
 refine hΦ.add_pure rfl fun R vs K r h => ?_
 unfold ZKE at h
 obtain ⟨_, _, rfl, h1⟩ := Zap h
 obtain ⟨_, _, _, rfl, h2⟩ := Zau h1
 obtain ⟨_, _, _, rfl, h3⟩ := Zau h2
 obtain ⟨_, h4⟩ := Zae h3
 refine Zam (fn := Tryz.f18) (c := ZNM) hC hΦ Tryz.func18 (by kernel_rfl) (by kernel_rfl) (Zah (Λ := Zac) (by kernel_rfl)) rfl rfl ?_
 refine (ZN0 N _ _ _ _ _ _ _).trans ?_
 rw [← Zvt]
 exact h4
def ZJy (N : Nat) : (R : Type) → List V → S → (V → S → Option R) → Option R := fun _ vs s K =>
 Zch vs fun v'1 v'2 => ZaQ 1 v'1 fun e_1 f_2 => asInt .i64 v'2 fun x_3 => ZaI s <| Zkz N e_1 f_2 x_3 (fun b_4 => K (.bool b_4) [])
def ZDT (N : Nat) : Zar := (Zrw N).add 90 (ZJy N)
def ZAs : Code := ZaK Tryz.f90
def ZrI : Code := (Zbo ZAs [] 0).2
def Zm0 : List Nat := ZbQ 17 [1, 7, 8, 9]
def Zwy : List Nat := ZbQ 17 [4]
def Zjp (x_1 : Int) (e_2 : List V) (f_3 : Fl) (x_4 x_5 : Int) : List V := mkF 0 17 [(1, .int .i64 x_1), (7, .list 1 e_2 f_3), (8, .int .i64 x_4), (9, .int .i64 x_5)]
def Zhs {R : Type} (K : X → List V → S → Option R) (x_1 : Int) (e_2 : List V) (f_3 : Fl) (x_4 : Int) : Unit → Option R := (fun _ => K .ret (mkF 0 17 [(4, .bool true)]) [])
def ZhL {R : Type} (K : X → List V → S → Option R) (x_1 : Int) (e_2 : List V) (f_3 : Fl) (x_4 : Int) : Unit → Option R := (fun _ => K (.exit 0) (mkF 0 17 []) [])
abbrev Zme {R : Type} (N : Nat) : Nat → List V → S → (X → List V → S → Option R) → Option R := fun n => Zdx C (Zrw N) (Zac) ZrI [0, 1, 0, 1] false Zm0 Zwy n R
theorem ZIk {R : Type} (N n : Nat) (x_1 : Int) (e_2 : List V) (f_3 : Fl) (x_4 : Int) (x_5 : Int) (K : X → List V → S → Option R) :
 Zme N (n + 1) (Zjp x_1 e_2 f_3 x_4 x_5) [] K =
 Zdt N x_1 e_2 f_3 x_4 (fun x_5 => Zme N n (Zjp x_1 e_2 f_3 x_4 x_5) [] K) x_5 (Zhs K x_1 e_2 f_3 x_4) (ZhL K x_1 e_2 f_3 x_4) := by kernel_rfl
theorem ZBy {R : Type} (N : Nat) (x_1 : Int) (e_2 : List V) (f_3 : Fl) (x_4 : Int) (K : X → List V → S → Option R) : ∀ (n : Nat) (x_5 : Int),
 Zme N n (Zjp x_1 e_2 f_3 x_4 x_5) [] K = Zf3 N x_1 e_2 f_3 x_4 (Zhs K x_1 e_2 f_3 x_4) (ZhL K x_1 e_2 f_3 x_4) n x_5
 | 0, _ => rfl
 | n + 1, x_5 => (ZIk N n x_1 e_2 f_3 x_4 x_5 K).trans (congrArg (fun nx => Zdt N x_1 e_2 f_3 x_4 nx x_5 (Zhs K x_1 e_2 f_3 x_4) (ZhL K x_1 e_2 f_3 x_4)) (funext fun x_5 => ZBy N x_1 e_2 f_3 x_4 K n x_5))
def Zs2 {R : Type} (E : List V) (s : S) (k : Int → List V → Fl → Int → Int → Option R) : Option R :=
 Zao (Za1 17 [1, 7, 8, 9] E) <| ZaT E 1 .i64 fun x_1 => Zbr E 7 1 fun e_2 f_3 => ZaT E 8 .i64 fun x_4 => ZaT E 9 .i64 fun x_5 => ZaI s <| k x_1 e_2 f_3 x_4 x_5
theorem Zp8 {R : Type} {E : List V} {s : S} {k : Int → List V → Fl → Int → Int → Option R} {r : R} (h : Zs2 E s k = some r) : ∃ x_1 e_2 f_3 x_4 x_5, E = Zjp x_1 e_2 f_3 x_4 x_5 ∧ s = [] ∧ k x_1 e_2 f_3 x_4 x_5 = some r := by
 unfold Zs2 at h
 obtain ⟨hg, h1⟩ := Zad h
 obtain ⟨_, hu1, h2⟩ := Zai h1
 obtain ⟨_, _, hu7, h3⟩ := Zax h2
 obtain ⟨_, hu8, h4⟩ := Zai h3
 obtain ⟨_, hu9, h5⟩ := Zai h4
 obtain ⟨rfl, h6⟩ := Zae h5
 exact ⟨_, _, _, _, _, ZaP hg rfl (Zab hu1 (Zab hu7 (Zab hu8 (Zab hu9 ZaG)))), rfl, h6⟩
def ZtG (N : Nat) : ZaA := (Zac).add [0, 1, 0, 1] fun _ E s K => Zs2 (Zbd Zm0 E) s fun x_1 e_2 f_3 x_4 x_5 => Zf3 N x_1 e_2 f_3 x_4 (Zhs K x_1 e_2 f_3 x_4) (ZhL K x_1 e_2 f_3 x_4) N x_5
theorem ZF5 {N : Nat} (hC : Ok Tryz.prog C) (hΦ : Zaa Tryz.prog C (Zrw N)) : Za6 Tryz.prog C (ZtG N) ZrI [0, 1, 0, 1] :=
 Za7 (Λi := Zac) (tr := false) (ks := Zm0) (kx := Zwy) (N := N) hC hΦ
  (Zah (by kernel_rfl))
  fun R E s K r h => by
   have h2 := ZaA.add_self.symm.trans h
   obtain ⟨_, _, _, _, _, he, rfl, h3⟩ := Zp8 h2
   rw [he]
   exact (ZBy N _ _ _ _ _ N _).trans h3
theorem ZKU : ZaX ZAs [] = [([0, 1, 0, 1], ZrI)] := by kernel_rfl
theorem ZNJ {R : Type} (N : Nat) (e_1 : List V) (f_2 : Fl) (x_3 : Int) (K : V → S → Option R) : Za0 C (Zrw N) (ZtG N) 90 Tryz.f90 [.list 1 e_1 f_2, .int .i64 x_3] [] K =
 ZpX N e_1 f_2 x_3 (fun b_4 => K (.bool b_4) []) := by kernel_rfl
theorem ZBb {N : Nat} (hC : Ok Tryz.prog C) (hΦ : Zaa Tryz.prog C (Zrw N)) : ZaV Tryz.prog C (ZtG N) ZAs [] :=
 ZaC ZAs [] (by
  rw [ZKU]
  intro p hp
  simp only [List.mem_cons, List.mem_nil_iff, or_false] at hp
  rcases hp with rfl
  ·exact (ZF5 hC hΦ))
theorem Zyq (hC : Ok Tryz.prog C) {N : Nat} (hΦ : Zaa Tryz.prog C (Zrw N)) : Zaa Tryz.prog C (ZDT N) := by
 refine hΦ.add_pure rfl fun R vs K r h => ?_
 unfold ZJy at h
 obtain ⟨_, _, rfl, h1⟩ := Zap h
 obtain ⟨_, _, rfl, h2⟩ := Zaj h1
 obtain ⟨_, rfl, h3⟩ := Zaf h2
 obtain ⟨_, h4⟩ := Zae h3
 refine Zam (fn := Tryz.f90) (c := ZAs) hC hΦ Tryz.func90 (by kernel_rfl) (by kernel_rfl) (ZBb (N := N) hC hΦ) rfl rfl ?_
 refine (ZNJ N _ _ _ _).trans ?_
 rw [← ZwE]
 exact h4
def ZIW (N : Nat) : (R : Type) → List V → S → (V → S → Option R) → Option R := fun _ vs s K =>
 ZCF vs fun v'1 v'2 v'3 => asInt .i64 v'1 fun x_1 => asInt .i64 v'2 fun x_2 => asInt .i64 v'3 fun x_3 => ZaI s <| Zgi N x_1 x_2 x_3 (fun b_4 => K (.bool b_4) [])
def ZtN (N : Nat) : Zar := (ZDT N).add 112 (ZIW N)
def ZMN : Code := ZaK Tryz.f112
theorem ZMA {R : Type} (N : Nat) (x_1 x_2 x_3 : Int) (K : V → S → Option R) : Za0 C (ZDT N) (Zac) 112 Tryz.f112 [.int .i64 x_1, .int .i64 x_2, .int .i64 x_3] [] K =
 Zo9 N x_1 x_2 x_3 (fun b_4 => K (.bool b_4) []) := by kernel_rfl
theorem Zyr (hC : Ok Tryz.prog C) {N : Nat} (hΦ : Zaa Tryz.prog C (ZDT N)) : Zaa Tryz.prog C (ZtN N) := by
 refine hΦ.add_pure rfl fun R vs K r h => ?_
 unfold ZIW at h
 obtain ⟨_, _, _, rfl, h1⟩ := Zcp h
 obtain ⟨_, rfl, h2⟩ := Zaf h1
 obtain ⟨_, rfl, h3⟩ := Zaf h2
 obtain ⟨_, rfl, h4⟩ := Zaf h3
 obtain ⟨_, h5⟩ := Zae h4
 refine Zam (fn := Tryz.f112) (c := ZMN) hC hΦ Tryz.func112 (by kernel_rfl) (by kernel_rfl) (Zah (Λ := Zac) (by kernel_rfl)) rfl rfl ?_
 refine (ZMA N _ _ _ _).trans ?_
 rw [← Zuk]
 exact h5
def ZKK (N : Nat) : (R : Type) → List V → S → (V → S → Option R) → Option R := fun _ vs s K =>
 Zcf vs fun v'1 => ZaU v'1 fun e_1 f_2 x_3 => ZaI s <| ZFV N e_1 f_2 x_3 (fun x_4 => K (.int .i64 x_4) [])
def ZFD (N : Nat) : Zar := (ZtN N).add 138 (ZKK N)
def ZBl : Code := ZaK Tryz.f138
def ZrV : Code := (Zbo ZBl [] 0).2
def ZlL : List Nat := ZbQ 20 [3, 7, 8, 9]
def ZuZ : List Nat := ZbQ 20 [3]
def ZjE (e_2 : List V) (f_3 : Fl) (x_4 : Int) (e_6 : List V) (f_7 : Fl) (x_8 x_1 x_5 : Int) : List V := mkF 0 20 [(3, .int .i64 x_1), (7, .list 7 e_2 f_3), (8, .int .i64 x_4), (9, .int .i64 x_5)]
def ZgX {R : Type} (K : X → List V → S → Option R) (e_2 : List V) (f_3 : Fl) (x_4 : Int) (e_6 : List V) (f_7 : Fl) (x_8 : Int) : Int → Option R := (fun x_1' => K (.exit 0) (mkF 0 20 [(3, .int .i64 (x_1'))]) [some ⟨[.agg [.list 7 e_6 f_7, .int .i64 x_8]], 2, 34, 0⟩])
abbrev Zlh {R : Type} (N : Nat) : Nat → List V → S → (X → List V → S → Option R) → Option R := fun n => Zdx C (ZtN N) (Zac) ZrV [0, 1, 0, 1, 1] true ZlL ZuZ n R
theorem ZHQ {R : Type} (N n : Nat) (e_2 : List V) (f_3 : Fl) (x_4 : Int) (e_6 : List V) (f_7 : Fl) (x_8 : Int) (x_1 x_5 : Int) (K : X → List V → S → Option R) :
 Zlh N (n + 1) (ZjE e_2 f_3 x_4 e_6 f_7 x_8 x_1 x_5) [some ⟨[.agg [.list 7 e_6 f_7, .int .i64 x_8]], 2, 34, 0⟩] K =
 Zc1 N e_2 f_3 x_4 e_6 f_7 x_8 (fun x_1 x_5 => Zlh N n (ZjE e_2 f_3 x_4 e_6 f_7 x_8 x_1 x_5) [some ⟨[.agg [.list 7 e_6 f_7, .int .i64 x_8]], 2, 34, 0⟩] K) x_1 x_5 (ZgX K e_2 f_3 x_4 e_6 f_7 x_8) := by kernel_rfl
theorem ZAW {R : Type} (N : Nat) (e_2 : List V) (f_3 : Fl) (x_4 : Int) (e_6 : List V) (f_7 : Fl) (x_8 : Int) (K : X → List V → S → Option R) : ∀ (n : Nat) (x_1 x_5 : Int),
 Zlh N n (ZjE e_2 f_3 x_4 e_6 f_7 x_8 x_1 x_5) [some ⟨[.agg [.list 7 e_6 f_7, .int .i64 x_8]], 2, 34, 0⟩] K = ZfR N e_2 f_3 x_4 e_6 f_7 x_8 (ZgX K e_2 f_3 x_4 e_6 f_7 x_8) n x_1 x_5
 | 0, _, _ => rfl
 | n + 1, x_1, x_5 => (ZHQ N n e_2 f_3 x_4 e_6 f_7 x_8 x_1 x_5 K).trans (congrArg (fun nx => Zc1 N e_2 f_3 x_4 e_6 f_7 x_8 nx x_1 x_5 (ZgX K e_2 f_3 x_4 e_6 f_7 x_8)) (funext fun x_1 => funext fun x_5 => ZAW N e_2 f_3 x_4 e_6 f_7 x_8 K n x_1 x_5))
def ZrU {R : Type} (E : List V) (s : S) (k : Int → List V → Fl → Int → Int → List V → Fl → Int → Option R) : Option R :=
 Zao (Za1 20 [3, 7, 8, 9] E) <| ZaT E 3 .i64 fun x_1 => Zbr E 7 7 fun e_2 f_3 => ZaT E 8 .i64 fun x_4 => ZaT E 9 .i64 fun x_5 => ZdV s fun o'1 s'2 => ZdU o'1 2 34 fun e'3 k'4 => isN k'4 0 <| Zcf e'3 fun v'5 => asAgg v'5 fun c'6 => Zch c'6 fun v'7 v'8 => ZaQ 7 v'7 fun e_6 f_7 => asInt .i64 v'8 fun x_8 => ZaI s'2 <| k x_1 e_2 f_3 x_4 x_5 e_6 f_7 x_8
theorem Zo6 {R : Type} {E : List V} {s : S} {k : Int → List V → Fl → Int → Int → List V → Fl → Int → Option R} {r : R} (h : ZrU E s k = some r) : ∃ x_1 e_2 f_3 x_4 x_5 e_6 f_7 x_8, E = ZjE e_2 f_3 x_4 e_6 f_7 x_8 x_1 x_5 ∧ s = [some ⟨[.agg [.list 7 e_6 f_7, .int .i64 x_8]], 2, 34, 0⟩] ∧ k x_1 e_2 f_3 x_4 x_5 e_6 f_7 x_8 = some r := by
 unfold ZrU at h
 obtain ⟨hg, h1⟩ := Zad h
 obtain ⟨_, hu3, h2⟩ := Zai h1
 obtain ⟨_, _, hu7, h3⟩ := Zax h2
 obtain ⟨_, hu8, h4⟩ := Zai h3
 obtain ⟨_, hu9, h5⟩ := Zai h4
 obtain ⟨_, _, rfl, h6⟩ := ZaN h5
 obtain ⟨_, _, rfl, h7⟩ := ZaM h6
 obtain ⟨rfl, h8⟩ := Zat h7
 obtain ⟨_, rfl, h9⟩ := Zaq h8
 obtain ⟨_, rfl, h10⟩ := ZaB h9
 obtain ⟨_, _, rfl, h11⟩ := Zap h10
 obtain ⟨_, _, rfl, h12⟩ := Zaj h11
 obtain ⟨_, rfl, h13⟩ := Zaf h12
 obtain ⟨rfl, h14⟩ := Zae h13
 exact ⟨_, _, _, _, _, _, _, _, ZaP hg rfl (Zab hu3 (Zab hu7 (Zab hu8 (Zab hu9 ZaG)))), rfl, h14⟩
def Zr1 (N : Nat) : ZaA := (Zac).add [0, 1, 0, 1, 1] fun _ E s K => ZrU (Zbd ZlL E) s fun x_1 e_2 f_3 x_4 x_5 e_6 f_7 x_8 => ZfR N e_2 f_3 x_4 e_6 f_7 x_8 (ZgX K e_2 f_3 x_4 e_6 f_7 x_8) N x_1 x_5
theorem ZD8 {N : Nat} (hC : Ok Tryz.prog C) (hΦ : Zaa Tryz.prog C (ZtN N)) : Za6 Tryz.prog C (Zr1 N) ZrV [0, 1, 0, 1, 1] :=
 Za7 (Λi := Zac) (tr := true) (ks := ZlL) (kx := ZuZ) (N := N) hC hΦ
  (Zah (by kernel_rfl))
  fun R E s K r h => by
   have h2 := ZaA.add_self.symm.trans h
   obtain ⟨_, _, _, _, _, _, _, _, he, rfl, h3⟩ := Zo6 h2
   rw [he]
   exact (ZAW N _ _ _ _ _ _ _ N _ _).trans h3
theorem ZLc : ZaX ZBl [] = [([0, 1, 0, 1, 1], ZrV)] := by kernel_rfl
theorem ZLE {R : Type} (N : Nat) (e_1 : List V) (f_2 : Fl) (x_3 : Int) (K : V → S → Option R) : Za0 C (ZtN N) (Zr1 N) 138 Tryz.f138 [.agg [.list 7 e_1 f_2, .int .i64 x_3]] [] K =
 ZpL N e_1 f_2 x_3 (fun x_4 => K (.int .i64 x_4) []) := by kernel_rfl
theorem ZAt {N : Nat} (hC : Ok Tryz.prog C) (hΦ : Zaa Tryz.prog C (ZtN N)) : ZaV Tryz.prog C (Zr1 N) ZBl [] :=
 ZaC ZBl [] (by
  rw [ZLc]
  intro p hp
  simp only [List.mem_cons, List.mem_nil_iff, or_false] at hp
  rcases hp with rfl
  ·exact (ZD8 hC hΦ))
theorem Zw2 (hC : Ok Tryz.prog C) {N : Nat} (hΦ : Zaa Tryz.prog C (ZtN N)) : Zaa Tryz.prog C (ZFD N) := by
 refine hΦ.add_pure rfl fun R vs K r h => ?_
 unfold ZKK at h
 obtain ⟨_, rfl, h1⟩ := Zaq h
 obtain ⟨_, _, _, rfl, h2⟩ := Zau h1
 obtain ⟨_, h3⟩ := Zae h2
 refine Zam (fn := Tryz.f138) (c := ZBl) hC hΦ Tryz.func138 (by kernel_rfl) (by kernel_rfl) (ZAt (N := N) hC hΦ) rfl rfl ?_
 refine (ZLE N _ _ _ _).trans ?_
 rw [← Zvi]
 exact h3
def ZJV (N : Nat) : (R : Type) → List V → S → (V → S → Option R) → Option R := fun _ vs s K =>
 Zcf vs fun v'1 => asInt .i64 v'1 fun x_1 => ZaI s <| ZIu N x_1 (fun b_2 => K (.bool b_2) [])
def ZtH (N : Nat) : Zar := (ZFD N).add 62 (ZJV N)
def ZLN : Code := ZaK Tryz.f62
theorem ZMg {R : Type} (N : Nat) (x_1 : Int) (K : V → S → Option R) : Za0 C (ZFD N) (Zac) 62 Tryz.f62 [.int .i64 x_1] [] K =
 Zpw N x_1 (fun b_2 => K (.bool b_2) []) := by kernel_rfl
theorem ZxV (hC : Ok Tryz.prog C) {N : Nat} (hΦ : Zaa Tryz.prog C (ZFD N)) : Zaa Tryz.prog C (ZtH N) := by
 refine hΦ.add_pure rfl fun R vs K r h => ?_
 unfold ZJV at h
 obtain ⟨_, rfl, h1⟩ := Zaq h
 obtain ⟨_, rfl, h2⟩ := Zaf h1
 obtain ⟨_, h3⟩ := Zae h2
 refine Zam (fn := Tryz.f62) (c := ZLN) hC hΦ Tryz.func62 (by kernel_rfl) (by kernel_rfl) (Zah (Λ := Zac) (by kernel_rfl)) rfl rfl ?_
 refine (ZMg N _ _).trans ?_
 rw [← ZuB]
 exact h3
def ZKI (N : Nat) : (R : Type) → List V → S → (V → S → Option R) → Option R := fun _ vs s K =>
 Zch vs fun v'1 v'2 => Zbt v'1 fun w_1 => asInt .u8 v'2 fun x_2 => ZaI s <| ZDC N w_1 x_2 (fun e_3 => K (.list 1 e_3 .sh) [])
def ZrB (N : Nat) : Zar := (ZtH N).add 143 (ZKI N)
def ZzQ : Code := ZaK Tryz.f143
def ZqO : Code := (Zbo ZzQ [] 0).2
def Zm1 : List Nat := ZbQ 34 [0, 1, 5, 6, 7]
def ZwH : List Nat := ZbQ 34 [0, 5, 6]
def Zi5 (w_1 : ByteArray) (x_2 : Int) (e_3 : List V) (x_4 x_5 : Int) : List V := mkF 0 34 [(0, .str w_1), (1, .int .u8 x_2), (5, .list 1 e_3 (.own 9)), (6, .int .i64 x_4), (7, .int .i64 x_5)]
def ZgB {R : Type} (K : X → List V → S → Option R) (w_1 : ByteArray) (x_2 : Int) : List V → Int → Option R := (fun e_1' x_2' => K (.exit 0) (mkF 0 34 [(0, .str w_1), (5, .list 1 (e_1') (.own 9)), (6, .int .i64 (x_2'))]) [])
abbrev Znh {R : Type} (N : Nat) : Nat → List V → S → (X → List V → S → Option R) → Option R := fun n => Zdx C (ZtH N) (Zac) ZqO [0, 1, 0, 1, 1, 1] false Zm1 ZwH n R
theorem ZHH {R : Type} (N n : Nat) (w_1 : ByteArray) (x_2 : Int) (e_3 : List V) (x_4 x_5 : Int) (K : X → List V → S → Option R) :
 Znh N (n + 1) (Zi5 w_1 x_2 e_3 x_4 x_5) [] K =
 ZcP N w_1 x_2 (fun e_3 x_4 x_5 => Znh N n (Zi5 w_1 x_2 e_3 x_4 x_5) [] K) e_3 x_4 x_5 (ZgB K w_1 x_2) := by kernel_rfl
theorem ZBq {R : Type} (N : Nat) (w_1 : ByteArray) (x_2 : Int) (K : X → List V → S → Option R) : ∀ (n : Nat) (e_3 : List V) (x_4 x_5 : Int),
 Znh N n (Zi5 w_1 x_2 e_3 x_4 x_5) [] K = Zf7 N w_1 x_2 (ZgB K w_1 x_2) n e_3 x_4 x_5
 | 0, _, _, _ => rfl
 | n + 1, e_3, x_4, x_5 => (ZHH N n w_1 x_2 e_3 x_4 x_5 K).trans (congrArg (fun nx => ZcP N w_1 x_2 nx e_3 x_4 x_5 (ZgB K w_1 x_2)) (funext fun e_3 => funext fun x_4 => funext fun x_5 => ZBq N w_1 x_2 K n e_3 x_4 x_5))
def ZsT {R : Type} (E : List V) (s : S) (k : ByteArray → Int → List V → Int → Int → Option R) : Option R :=
 Zao (Za1 34 [0, 1, 5, 6, 7] E) <| ZiT E 0 fun w_1 => ZaT E 1 .u8 fun x_2 => Zbq (nth E 5) fun u5 => ZaQ 1 u5 fun e_3 f'1 => ZqJ 9 f'1 <| ZaT E 6 .i64 fun x_4 => ZaT E 7 .i64 fun x_5 => ZaI s <| k w_1 x_2 e_3 x_4 x_5
theorem Zpz {R : Type} {E : List V} {s : S} {k : ByteArray → Int → List V → Int → Int → Option R} {r : R} (h : ZsT E s k = some r) : ∃ w_1 x_2 e_3 x_4 x_5, E = Zi5 w_1 x_2 e_3 x_4 x_5 ∧ s = [] ∧ k w_1 x_2 e_3 x_4 x_5 = some r := by
 unfold ZsT at h
 obtain ⟨hg, h1⟩ := Zad h
 obtain ⟨_, hu0, h2⟩ := Zb0 h1
 obtain ⟨_, hu1, h3⟩ := Zai h2
 obtain ⟨_, hu5, h4⟩ := Zag h3
 obtain ⟨_, _, rfl, h5⟩ := Zaj h4
 obtain ⟨rfl, h6⟩ := ZdH h5
 obtain ⟨_, hu6, h7⟩ := Zai h6
 obtain ⟨_, hu7, h8⟩ := Zai h7
 obtain ⟨rfl, h9⟩ := Zae h8
 exact ⟨_, _, _, _, _, ZaP hg rfl (Zab hu0 (Zab hu1 (Zab hu5 (Zab hu6 (Zab hu7 ZaG))))), rfl, h9⟩
def ZrO (N : Nat) : ZaA := (Zac).add [0, 1, 0, 1, 1, 1] fun _ E s K => ZsT (Zbd Zm1 E) s fun w_1 x_2 e_3 x_4 x_5 => Zf7 N w_1 x_2 (ZgB K w_1 x_2) N e_3 x_4 x_5
theorem ZFO {N : Nat} (hC : Ok Tryz.prog C) (hΦ : Zaa Tryz.prog C (ZtH N)) : Za6 Tryz.prog C (ZrO N) ZqO [0, 1, 0, 1, 1, 1] :=
 Za7 (Λi := Zac) (tr := false) (ks := Zm1) (kx := ZwH) (N := N) hC hΦ
  (Zah (by kernel_rfl))
  fun R E s K r h => by
   have h2 := ZaA.add_self.symm.trans h
   obtain ⟨_, _, _, _, _, he, rfl, h3⟩ := Zpz h2
   rw [he]
   exact (ZBq N _ _ _ N _ _ _).trans h3
theorem ZIT : ZaX ZzQ [] = [([0, 1, 0, 1, 1, 1], ZqO)] := by kernel_rfl
theorem ZNU {R : Type} (N : Nat) (w_1 : ByteArray) (x_2 : Int) (K : V → S → Option R) : Za0 C (ZtH N) (ZrO N) 143 Tryz.f143 [.str w_1, .int .u8 x_2] [] K =
 Zqi N w_1 x_2 (fun e_3 => K (.list 1 e_3 .sh) []) := by kernel_rfl
theorem ZBS {N : Nat} (hC : Ok Tryz.prog C) (hΦ : Zaa Tryz.prog C (ZtH N)) : ZaV Tryz.prog C (ZrO N) ZzQ [] :=
 ZaC ZzQ [] (by
  rw [ZIT]
  intro p hp
  simp only [List.mem_cons, List.mem_nil_iff, or_false] at hp
  rcases hp with rfl
  ·exact (ZFO hC hΦ))
theorem ZxZ (hC : Ok Tryz.prog C) {N : Nat} (hΦ : Zaa Tryz.prog C (ZtH N)) : Zaa Tryz.prog C (ZrB N) := by
 refine hΦ.add_pure rfl fun R vs K r h => ?_
 unfold ZKI at h
 obtain ⟨_, _, rfl, h1⟩ := Zap h
 obtain ⟨_, rfl, h2⟩ := Zav h1
 obtain ⟨_, rfl, h3⟩ := Zaf h2
 obtain ⟨_, h4⟩ := Zae h3
 refine Zam (fn := Tryz.f143) (c := ZzQ) hC hΦ Tryz.func143 (by kernel_rfl) (by kernel_rfl) (ZBS (N := N) hC hΦ) rfl rfl ?_
 refine (ZNU N _ _ _).trans ?_
 rw [← Zt5]
 exact h4
def ZJc (N : Nat) : (R : Type) → List V → S → (V → S → Option R) → Option R := fun _ vs s K =>
 Zcf vs fun v'1 => Zbt v'1 fun w_1 => ZaI s <| ZpS N w_1 (fun e_2 => K (.list 1 e_2 (.own 9)) [])
def Ztq (N : Nat) : Zar := (ZrB N).add 88 (ZJc N)
def ZCs : Code := ZaK Tryz.f88
def Ztf : Code := (Zbo ZCs [] 0).2
def Znt : List Nat := ZbQ 21 [3, 7, 8, 9]
def Zve : List Nat := ZbQ 21 [3]
def Zjt (e_2 : List V) (x_3 : Int) (e_1 : List V) (x_4 : Int) : List V := mkF 0 21 [(3, .list 1 e_1 (.own 9)), (7, .list 1 e_2 .sh), (8, .int .i64 x_3), (9, .int .i64 x_4)]
def Zhy {R : Type} (K : X → List V → S → Option R) (e_2 : List V) (x_3 : Int) : List V → Option R := (fun e_1' => K (.exit 0) (mkF 0 21 [(3, .list 1 (e_1') (.own 9))]) [])
abbrev Znc {R : Type} (N : Nat) : Nat → List V → S → (X → List V → S → Option R) → Option R := fun n => Zdx C (ZrB N) (Zac) Ztf [0, 1, 0, 1, 1] false Znt Zve n R
theorem ZIa {R : Type} (N n : Nat) (e_2 : List V) (x_3 : Int) (e_1 : List V) (x_4 : Int) (K : X → List V → S → Option R) :
 Znc N (n + 1) (Zjt e_2 x_3 e_1 x_4) [] K =
 Zdj N e_2 x_3 (fun e_1 x_4 => Znc N n (Zjt e_2 x_3 e_1 x_4) [] K) e_1 x_4 (Zhy K e_2 x_3) := by kernel_rfl
theorem ZCH {R : Type} (N : Nat) (e_2 : List V) (x_3 : Int) (K : X → List V → S → Option R) : ∀ (n : Nat) (e_1 : List V) (x_4 : Int),
 Znc N n (Zjt e_2 x_3 e_1 x_4) [] K = Zgl N e_2 x_3 (Zhy K e_2 x_3) n e_1 x_4
 | 0, _, _ => rfl
 | n + 1, e_1, x_4 => (ZIa N n e_2 x_3 e_1 x_4 K).trans (congrArg (fun nx => Zdj N e_2 x_3 nx e_1 x_4 (Zhy K e_2 x_3)) (funext fun e_1 => funext fun x_4 => ZCH N e_2 x_3 K n e_1 x_4))
def ZtB {R : Type} (E : List V) (s : S) (k : List V → List V → Int → Int → Option R) : Option R :=
 Zao (Za1 21 [3, 7, 8, 9] E) <| Zbq (nth E 3) fun u3 => ZaQ 1 u3 fun e_1 f'1 => ZqJ 9 f'1 <| Zbq (nth E 7) fun u7 => ZaQ 1 u7 fun e_2 f'2 => ZHn f'2 <| ZaT E 8 .i64 fun x_3 => ZaT E 9 .i64 fun x_4 => ZaI s <| k e_1 e_2 x_3 x_4
theorem Zp7 {R : Type} {E : List V} {s : S} {k : List V → List V → Int → Int → Option R} {r : R} (h : ZtB E s k = some r) : ∃ e_1 e_2 x_3 x_4, E = Zjt e_2 x_3 e_1 x_4 ∧ s = [] ∧ k e_1 e_2 x_3 x_4 = some r := by
 unfold ZtB at h
 obtain ⟨hg, h1⟩ := Zad h
 obtain ⟨_, hu3, h2⟩ := Zag h1
 obtain ⟨_, _, rfl, h3⟩ := Zaj h2
 obtain ⟨rfl, h4⟩ := ZdH h3
 obtain ⟨_, hu7, h5⟩ := Zag h4
 obtain ⟨_, _, rfl, h6⟩ := Zaj h5
 obtain ⟨rfl, h7⟩ := Zff h6
 obtain ⟨_, hu8, h8⟩ := Zai h7
 obtain ⟨_, hu9, h9⟩ := Zai h8
 obtain ⟨rfl, h10⟩ := Zae h9
 exact ⟨_, _, _, _, ZaP hg rfl (Zab hu3 (Zab hu7 (Zab hu8 (Zab hu9 ZaG)))), rfl, h10⟩
def Zs0 (N : Nat) : ZaA := (Zac).add [0, 1, 0, 1, 1] fun _ E s K => ZtB (Zbd Znt E) s fun e_1 e_2 x_3 x_4 => Zgl N e_2 x_3 (Zhy K e_2 x_3) N e_1 x_4
theorem ZFx {N : Nat} (hC : Ok Tryz.prog C) (hΦ : Zaa Tryz.prog C (ZrB N)) : Za6 Tryz.prog C (Zs0 N) Ztf [0, 1, 0, 1, 1] :=
 Za7 (Λi := Zac) (tr := false) (ks := Znt) (kx := Zve) (N := N) hC hΦ
  (Zah (by kernel_rfl))
  fun R E s K r h => by
   have h2 := ZaA.add_self.symm.trans h
   obtain ⟨_, _, _, _, he, rfl, h3⟩ := Zp7 h2
   rw [he]
   exact (ZCH N _ _ _ N _ _).trans h3
theorem ZJo : ZaX ZCs [] = [([0, 1, 0, 1, 1], Ztf)] := by kernel_rfl
theorem ZLM {R : Type} (N : Nat) (w_1 : ByteArray) (K : V → S → Option R) : Za0 C (ZrB N) (Zs0 N) 88 Tryz.f88 [.str w_1] [] K =
 ZnC N w_1 (fun e_2 => K (.list 1 e_2 (.own 9)) []) := by kernel_rfl
theorem ZBV {N : Nat} (hC : Ok Tryz.prog C) (hΦ : Zaa Tryz.prog C (ZrB N)) : ZaV Tryz.prog C (Zs0 N) ZCs [] :=
 ZaC ZCs [] (by
  rw [ZJo]
  intro p hp
  simp only [List.mem_cons, List.mem_nil_iff, or_false] at hp
  rcases hp with rfl
  ·exact (ZFx hC hΦ))
theorem Zx7 (hC : Ok Tryz.prog C) {N : Nat} (hΦ : Zaa Tryz.prog C (ZrB N)) : Zaa Tryz.prog C (Ztq N) := by
 refine hΦ.add_own rfl fun R vs K r h => ?_
 unfold ZJc at h
 obtain ⟨_, rfl, h1⟩ := Zaq h
 obtain ⟨_, rfl, h2⟩ := Zav h1
 obtain ⟨_, h3⟩ := Zae h2
 refine ZwI (fn := Tryz.f88) (c := ZCs) hC hΦ Tryz.func88 (by kernel_rfl) (by kernel_rfl) (ZBV (N := N) hC hΦ) rfl rfl ?_
 refine (ZLM N _ _).trans ?_
 rw [← Zvh]
 exact h3
def ZI9 (N : Nat) : (R : Type) → List V → S → (V → S → Option R) → Option R := fun _ vs s K =>
 Zcf vs fun v'1 => Zbt v'1 fun w_1 => ZaI s <| Zz8 N w_1 (fun b_2 => K (.bool b_2) [])
def Zr7 (N : Nat) : Zar := (Ztq N).add 117 (ZI9 N)
def ZAS : Code := ZaK Tryz.f117
def Ztr : Code := (Zbo ZAS [] 0).2
def Zld : List Nat := ZbQ 51 [0, 3]
def ZvT : List Nat := ZbQ 51 [0, 2]
def Zjm (w_1 : ByteArray) (x_2 : Int) : List V := mkF 0 51 [(0, .str w_1), (3, .int .i64 x_2)]
def ZhS {R : Type} (K : X → List V → S → Option R) (w_1 : ByteArray) : Unit → Option R := (fun _ => K .ret (mkF 0 51 [(0, .str w_1), (2, .bool false)]) [])
def ZhP {R : Type} (K : X → List V → S → Option R) (w_1 : ByteArray) : Unit → Option R := (fun _ => K (.exit 0) (mkF 0 51 [(0, .str w_1)]) [])
abbrev Zms {R : Type} (N : Nat) : Nat → List V → S → (X → List V → S → Option R) → Option R := fun n => Zdx C (Ztq N) (Zac) Ztr [0, 1, 0, 1] false Zld ZvT n R
theorem ZHU {R : Type} (N n : Nat) (w_1 : ByteArray) (x_2 : Int) (K : X → List V → S → Option R) :
 Zms N (n + 1) (Zjm w_1 x_2) [] K =
 ZcZ N w_1 (fun x_2 => Zms N n (Zjm w_1 x_2) [] K) x_2 (ZhS K w_1) (ZhP K w_1) := by kernel_rfl
theorem ZCv {R : Type} (N : Nat) (w_1 : ByteArray) (K : X → List V → S → Option R) : ∀ (n : Nat) (x_2 : Int),
 Zms N n (Zjm w_1 x_2) [] K = Ze3 N w_1 (ZhS K w_1) (ZhP K w_1) n x_2
 | 0, _ => rfl
 | n + 1, x_2 => (ZHU N n w_1 x_2 K).trans (congrArg (fun nx => ZcZ N w_1 nx x_2 (ZhS K w_1) (ZhP K w_1)) (funext fun x_2 => ZCv N w_1 K n x_2))
def ZqR {R : Type} (E : List V) (s : S) (k : ByteArray → Int → Option R) : Option R :=
 Zao (Za1 51 [0, 3] E) <| ZiT E 0 fun w_1 => ZaT E 3 .i64 fun x_2 => ZaI s <| k w_1 x_2
theorem Zqj {R : Type} {E : List V} {s : S} {k : ByteArray → Int → Option R} {r : R} (h : ZqR E s k = some r) : ∃ w_1 x_2, E = Zjm w_1 x_2 ∧ s = [] ∧ k w_1 x_2 = some r := by
 unfold ZqR at h
 obtain ⟨hg, h1⟩ := Zad h
 obtain ⟨_, hu0, h2⟩ := Zb0 h1
 obtain ⟨_, hu3, h3⟩ := Zai h2
 obtain ⟨rfl, h4⟩ := Zae h3
 exact ⟨_, _, ZaP hg rfl (Zab hu0 (Zab hu3 ZaG)), rfl, h4⟩
def Zs3 (N : Nat) : ZaA := (Zac).add [0, 1, 0, 1] fun _ E s K => ZqR (Zbd Zld E) s fun w_1 x_2 => Ze3 N w_1 (ZhS K w_1) (ZhP K w_1) N x_2
theorem ZFf {N : Nat} (hC : Ok Tryz.prog C) (hΦ : Zaa Tryz.prog C (Ztq N)) : Za6 Tryz.prog C (Zs3 N) Ztr [0, 1, 0, 1] :=
 Za7 (Λi := Zac) (tr := false) (ks := Zld) (kx := ZvT) (N := N) hC hΦ
  (Zah (by kernel_rfl))
  fun R E s K r h => by
   have h2 := ZaA.add_self.symm.trans h
   obtain ⟨_, _, he, rfl, h3⟩ := Zqj h2
   rw [he]
   exact (ZCv N _ _ N _).trans h3
theorem ZK4 : ZaX ZAS [] = [([0, 1, 0, 1], Ztr)] := by kernel_rfl
theorem ZMK {R : Type} (N : Nat) (w_1 : ByteArray) (K : V → S → Option R) : Za0 C (Ztq N) (Zs3 N) 117 Tryz.f117 [.str w_1] [] K =
 Zp5 N w_1 (fun b_2 => K (.bool b_2) []) := by kernel_rfl
theorem ZBh {N : Nat} (hC : Ok Tryz.prog C) (hΦ : Zaa Tryz.prog C (Ztq N)) : ZaV Tryz.prog C (Zs3 N) ZAS [] :=
 ZaC ZAS [] (by
  rw [ZK4]
  intro p hp
  simp only [List.mem_cons, List.mem_nil_iff, or_false] at hp
  rcases hp with rfl
  ·exact (ZFf hC hΦ))
theorem Zx9 (hC : Ok Tryz.prog C) {N : Nat} (hΦ : Zaa Tryz.prog C (Ztq N)) : Zaa Tryz.prog C (Zr7 N) := by
 refine hΦ.add_pure rfl fun R vs K r h => ?_
 unfold ZI9 at h
 obtain ⟨_, rfl, h1⟩ := Zaq h
 obtain ⟨_, rfl, h2⟩ := Zav h1
 obtain ⟨_, h3⟩ := Zae h2
 refine Zam (fn := Tryz.f117) (c := ZAS) hC hΦ Tryz.func117 (by kernel_rfl) (by kernel_rfl) (ZBh (N := N) hC hΦ) rfl rfl ?_
 refine (ZMK N _ _).trans ?_
 rw [← Zun]
 exact h3
def ZKz (N : Nat) : (R : Type) → List V → S → (V → S → Option R) → Option R := fun _ vs s K =>
 Zcf vs fun v'1 => Zbt v'1 fun w_1 => ZaI s <| ZC4 N w_1 (fun b_2 => K (.bool b_2) [])
def Zr9 (N : Nat) : Zar := (Zr7 N).add 142 (ZKz N)
def ZzF : Code := ZaK Tryz.f142
def Zq2 : Code := (Zbo ZzF [] 0).2
def Zmj : List Nat := ZbQ 27 [0, 6, 7, 8]
def Zu3 : List Nat := ZbQ 27 [0, 2]
def Zjz (w_1 : ByteArray) (e_2 : List V) (x_3 x_4 : Int) : List V := mkF 0 27 [(0, .str w_1), (6, .list 1 e_2 (.own 9)), (7, .int .i64 x_3), (8, .int .i64 x_4)]
def Zhe {R : Type} (K : X → List V → S → Option R) (w_1 : ByteArray) (e_2 : List V) (x_3 : Int) : Unit → Option R := (fun _ => K .ret (mkF 0 27 [(0, .str w_1), (2, .bool false)]) [])
def Zhb {R : Type} (K : X → List V → S → Option R) (w_1 : ByteArray) (e_2 : List V) (x_3 : Int) : Unit → Option R := (fun _ => K (.exit 0) (mkF 0 27 [(0, .str w_1)]) [])
abbrev Zmq {R : Type} (N : Nat) : Nat → List V → S → (X → List V → S → Option R) → Option R := fun n => Zdx C (Zr7 N) (Zac) Zq2 [0, 1, 0, 1] false Zmj Zu3 n R
theorem ZHK {R : Type} (N n : Nat) (w_1 : ByteArray) (e_2 : List V) (x_3 : Int) (x_4 : Int) (K : X → List V → S → Option R) :
 Zmq N (n + 1) (Zjz w_1 e_2 x_3 x_4) [] K =
 Zc4 N w_1 e_2 x_3 (fun x_4 => Zmq N n (Zjz w_1 e_2 x_3 x_4) [] K) x_4 (Zhe K w_1 e_2 x_3) (Zhb K w_1 e_2 x_3) := by kernel_rfl
theorem ZB8 {R : Type} (N : Nat) (w_1 : ByteArray) (e_2 : List V) (x_3 : Int) (K : X → List V → S → Option R) : ∀ (n : Nat) (x_4 : Int),
 Zmq N n (Zjz w_1 e_2 x_3 x_4) [] K = ZfZ N w_1 e_2 x_3 (Zhe K w_1 e_2 x_3) (Zhb K w_1 e_2 x_3) n x_4
 | 0, _ => rfl
 | n + 1, x_4 => (ZHK N n w_1 e_2 x_3 x_4 K).trans (congrArg (fun nx => Zc4 N w_1 e_2 x_3 nx x_4 (Zhe K w_1 e_2 x_3) (Zhb K w_1 e_2 x_3)) (funext fun x_4 => ZB8 N w_1 e_2 x_3 K n x_4))
def Zs4 {R : Type} (E : List V) (s : S) (k : ByteArray → List V → Int → Int → Option R) : Option R :=
 Zao (Za1 27 [0, 6, 7, 8] E) <| ZiT E 0 fun w_1 => Zbq (nth E 6) fun u6 => ZaQ 1 u6 fun e_2 f'1 => ZqJ 9 f'1 <| ZaT E 7 .i64 fun x_3 => ZaT E 8 .i64 fun x_4 => ZaI s <| k w_1 e_2 x_3 x_4
theorem Zn1 {R : Type} {E : List V} {s : S} {k : ByteArray → List V → Int → Int → Option R} {r : R} (h : Zs4 E s k = some r) : ∃ w_1 e_2 x_3 x_4, E = Zjz w_1 e_2 x_3 x_4 ∧ s = [] ∧ k w_1 e_2 x_3 x_4 = some r := by
 unfold Zs4 at h
 obtain ⟨hg, h1⟩ := Zad h
 obtain ⟨_, hu0, h2⟩ := Zb0 h1
 obtain ⟨_, hu6, h3⟩ := Zag h2
 obtain ⟨_, _, rfl, h4⟩ := Zaj h3
 obtain ⟨rfl, h5⟩ := ZdH h4
 obtain ⟨_, hu7, h6⟩ := Zai h5
 obtain ⟨_, hu8, h7⟩ := Zai h6
 obtain ⟨rfl, h8⟩ := Zae h7
 exact ⟨_, _, _, _, ZaP hg rfl (Zab hu0 (Zab hu6 (Zab hu7 (Zab hu8 ZaG)))), rfl, h8⟩
def ZqS (N : Nat) : ZaA := (Zac).add [0, 1, 0, 1] fun _ E s K => Zs4 (Zbd Zmj E) s fun w_1 e_2 x_3 x_4 => ZfZ N w_1 e_2 x_3 (Zhe K w_1 e_2 x_3) (Zhb K w_1 e_2 x_3) N x_4
theorem ZGf {N : Nat} (hC : Ok Tryz.prog C) (hΦ : Zaa Tryz.prog C (Zr7 N)) : Za6 Tryz.prog C (ZqS N) Zq2 [0, 1, 0, 1] :=
 Za7 (Λi := Zac) (tr := false) (ks := Zmj) (kx := Zu3) (N := N) hC hΦ
  (Zah (by kernel_rfl))
  fun R E s K r h => by
   have h2 := ZaA.add_self.symm.trans h
   obtain ⟨_, _, _, _, he, rfl, h3⟩ := Zn1 h2
   rw [he]
   exact (ZB8 N _ _ _ _ N _).trans h3
theorem ZKi : ZaX ZzF [] = [([0, 1, 0, 1], Zq2)] := by kernel_rfl
theorem ZNT {R : Type} (N : Nat) (w_1 : ByteArray) (K : V → S → Option R) : Za0 C (Zr7 N) (ZqS N) 142 Tryz.f142 [.str w_1] [] K =
 Zpc N w_1 (fun b_2 => K (.bool b_2) []) := by kernel_rfl
theorem ZDb {N : Nat} (hC : Ok Tryz.prog C) (hΦ : Zaa Tryz.prog C (Zr7 N)) : ZaV Tryz.prog C (ZqS N) ZzF [] :=
 ZaC ZzF [] (by
  rw [ZKi]
  intro p hp
  simp only [List.mem_cons, List.mem_nil_iff, or_false] at hp
  rcases hp with rfl
  ·exact (ZGf hC hΦ))
theorem ZxO (hC : Ok Tryz.prog C) {N : Nat} (hΦ : Zaa Tryz.prog C (Zr7 N)) : Zaa Tryz.prog C (Zr9 N) := by
 refine hΦ.add_pure rfl fun R vs K r h => ?_
 unfold ZKz at h
 obtain ⟨_, rfl, h1⟩ := Zaq h
 obtain ⟨_, rfl, h2⟩ := Zav h1
 obtain ⟨_, h3⟩ := Zae h2
 refine Zam (fn := Tryz.f142) (c := ZzF) hC hΦ Tryz.func142 (by kernel_rfl) (by kernel_rfl) (ZDb (N := N) hC hΦ) rfl rfl ?_
 refine (ZNT N _ _).trans ?_
 rw [← ZwL]
 exact h3
def ZJJ (N : Nat) : (R : Type) → List V → S → (V → S → Option R) → Option R := fun _ vs s K =>
 Zch vs fun v'1 v'2 => ZaU v'1 fun e_1 f_2 x_3 => ZaQ 2 v'2 fun e_4 f_5 => ZaI s <| ZEM N e_1 f_2 x_3 e_4 f_5 (fun b_6 => K (.bool b_6) [])
def ZDj (N : Nat) : Zar := (Zr9 N).add 167 (ZJJ N)
def ZBk : Code := ZaK Tryz.f167
def ZqZ : Code := (Zbo ZBk [] 0).2
def Zlo : List Nat := ZbQ 54 [1, 2, 7, 8, 9]
def Zww : List Nat := ZbQ 54 [4]
def ZjP (e_1 : List V) (f_2 : Fl) (e_3 : List V) (f_4 : Fl) (x_5 : Int) (e_7 : List V) (f_8 : Fl) (x_9 x_6 : Int) : List V := mkF 0 54 [(1, .list 2 e_1 f_2), (2, .ptr 0 0 0 0), (7, .list 2 e_3 f_4), (8, .int .i64 x_5), (9, .int .i64 x_6)]
def Zh2 {R : Type} (K : X → List V → S → Option R) (e_1 : List V) (f_2 : Fl) (e_3 : List V) (f_4 : Fl) (x_5 : Int) (e_7 : List V) (f_8 : Fl) (x_9 : Int) : Unit → Option R := (fun _ => K .ret (mkF 0 54 [(4, .bool false)]) [some ⟨[.agg [.list 7 e_7 f_8, .int .i64 x_9]], 2, 34, 0⟩])
def ZhU {R : Type} (K : X → List V → S → Option R) (e_1 : List V) (f_2 : Fl) (e_3 : List V) (f_4 : Fl) (x_5 : Int) (e_7 : List V) (f_8 : Fl) (x_9 : Int) : Unit → Option R := (fun _ => K (.exit 0) (mkF 0 54 []) [some ⟨[.agg [.list 7 e_7 f_8, .int .i64 x_9]], 2, 34, 0⟩])
abbrev Zmi {R : Type} (N : Nat) : Nat → List V → S → (X → List V → S → Option R) → Option R := fun n => Zdx C (Zr9 N) (Zac) ZqZ [0, 1, 0, 1] true Zlo Zww n R
theorem ZHE {R : Type} (N n : Nat) (e_1 : List V) (f_2 : Fl) (e_3 : List V) (f_4 : Fl) (x_5 : Int) (e_7 : List V) (f_8 : Fl) (x_9 : Int) (x_6 : Int) (K : X → List V → S → Option R) :
 Zmi N (n + 1) (ZjP e_1 f_2 e_3 f_4 x_5 e_7 f_8 x_9 x_6) [some ⟨[.agg [.list 7 e_7 f_8, .int .i64 x_9]], 2, 34, 0⟩] K =
 Zdp N e_1 f_2 e_3 f_4 x_5 e_7 f_8 x_9 (fun x_6 => Zmi N n (ZjP e_1 f_2 e_3 f_4 x_5 e_7 f_8 x_9 x_6) [some ⟨[.agg [.list 7 e_7 f_8, .int .i64 x_9]], 2, 34, 0⟩] K) x_6 (Zh2 K e_1 f_2 e_3 f_4 x_5 e_7 f_8 x_9) (ZhU K e_1 f_2 e_3 f_4 x_5 e_7 f_8 x_9) := by kernel_rfl
theorem ZCz {R : Type} (N : Nat) (e_1 : List V) (f_2 : Fl) (e_3 : List V) (f_4 : Fl) (x_5 : Int) (e_7 : List V) (f_8 : Fl) (x_9 : Int) (K : X → List V → S → Option R) : ∀ (n : Nat) (x_6 : Int),
 Zmi N n (ZjP e_1 f_2 e_3 f_4 x_5 e_7 f_8 x_9 x_6) [some ⟨[.agg [.list 7 e_7 f_8, .int .i64 x_9]], 2, 34, 0⟩] K = Zgv N e_1 f_2 e_3 f_4 x_5 e_7 f_8 x_9 (Zh2 K e_1 f_2 e_3 f_4 x_5 e_7 f_8 x_9) (ZhU K e_1 f_2 e_3 f_4 x_5 e_7 f_8 x_9) n x_6
 | 0, _ => rfl
 | n + 1, x_6 => (ZHE N n e_1 f_2 e_3 f_4 x_5 e_7 f_8 x_9 x_6 K).trans (congrArg (fun nx => Zdp N e_1 f_2 e_3 f_4 x_5 e_7 f_8 x_9 nx x_6 (Zh2 K e_1 f_2 e_3 f_4 x_5 e_7 f_8 x_9) (ZhU K e_1 f_2 e_3 f_4 x_5 e_7 f_8 x_9)) (funext fun x_6 => ZCz N e_1 f_2 e_3 f_4 x_5 e_7 f_8 x_9 K n x_6))
def ZrZ {R : Type} (E : List V) (s : S) (k : List V → Fl → List V → Fl → Int → Int → List V → Fl → Int → Option R) : Option R :=
 Zao (Za1 54 [1, 2, 7, 8, 9] E) <| Zbr E 1 2 fun e_1 f_2 => ZoS E 2 (.ptr 0 0 0 0) <| Zbr E 7 2 fun e_3 f_4 => ZaT E 8 .i64 fun x_5 => ZaT E 9 .i64 fun x_6 => ZdV s fun o'1 s'2 => ZdU o'1 2 34 fun e'3 k'4 => isN k'4 0 <| Zcf e'3 fun v'5 => asAgg v'5 fun c'6 => Zch c'6 fun v'7 v'8 => ZaQ 7 v'7 fun e_7 f_8 => asInt .i64 v'8 fun x_9 => ZaI s'2 <| k e_1 f_2 e_3 f_4 x_5 x_6 e_7 f_8 x_9
theorem ZoL {R : Type} {E : List V} {s : S} {k : List V → Fl → List V → Fl → Int → Int → List V → Fl → Int → Option R} {r : R} (h : ZrZ E s k = some r) : ∃ e_1 f_2 e_3 f_4 x_5 x_6 e_7 f_8 x_9, E = ZjP e_1 f_2 e_3 f_4 x_5 e_7 f_8 x_9 x_6 ∧ s = [some ⟨[.agg [.list 7 e_7 f_8, .int .i64 x_9]], 2, 34, 0⟩] ∧ k e_1 f_2 e_3 f_4 x_5 x_6 e_7 f_8 x_9 = some r := by
 unfold ZrZ at h
 obtain ⟨hg, h1⟩ := Zad h
 obtain ⟨_, _, hu1, h2⟩ := Zax h1
 obtain ⟨hu2, h3⟩ := ZbK h2
 obtain ⟨_, _, hu7, h4⟩ := Zax h3
 obtain ⟨_, hu8, h5⟩ := Zai h4
 obtain ⟨_, hu9, h6⟩ := Zai h5
 obtain ⟨_, _, rfl, h7⟩ := ZaN h6
 obtain ⟨_, _, rfl, h8⟩ := ZaM h7
 obtain ⟨rfl, h9⟩ := Zat h8
 obtain ⟨_, rfl, h10⟩ := Zaq h9
 obtain ⟨_, rfl, h11⟩ := ZaB h10
 obtain ⟨_, _, rfl, h12⟩ := Zap h11
 obtain ⟨_, _, rfl, h13⟩ := Zaj h12
 obtain ⟨_, rfl, h14⟩ := Zaf h13
 obtain ⟨rfl, h15⟩ := Zae h14
 exact ⟨_, _, _, _, _, _, _, _, _, ZaP hg rfl (Zab hu1 (Zab hu2 (Zab hu7 (Zab hu8 (Zab hu9 ZaG))))), rfl, h15⟩
def ZrQ (N : Nat) : ZaA := (Zac).add [0, 1, 0, 1] fun _ E s K => ZrZ (Zbd Zlo E) s fun e_1 f_2 e_3 f_4 x_5 x_6 e_7 f_8 x_9 => Zgv N e_1 f_2 e_3 f_4 x_5 e_7 f_8 x_9 (Zh2 K e_1 f_2 e_3 f_4 x_5 e_7 f_8 x_9) (ZhU K e_1 f_2 e_3 f_4 x_5 e_7 f_8 x_9) N x_6
theorem ZDq {N : Nat} (hC : Ok Tryz.prog C) (hΦ : Zaa Tryz.prog C (Zr9 N)) : Za6 Tryz.prog C (ZrQ N) ZqZ [0, 1, 0, 1] :=
 Za7 (Λi := Zac) (tr := true) (ks := Zlo) (kx := Zww) (N := N) hC hΦ
  (Zah (by kernel_rfl))
  fun R E s K r h => by
   have h2 := ZaA.add_self.symm.trans h
   obtain ⟨_, _, _, _, _, _, _, _, _, he, rfl, h3⟩ := ZoL h2
   rw [he]
   exact (ZCz N _ _ _ _ _ _ _ _ _ N _).trans h3
theorem ZJ7 : ZaX ZBk [] = [([0, 1, 0, 1], ZqZ)] := by kernel_rfl
theorem ZMU {R : Type} (N : Nat) (e_1 : List V) (f_2 : Fl) (x_3 : Int) (e_4 : List V) (f_5 : Fl) (K : V → S → Option R) : Za0 C (Zr9 N) (ZrQ N) 167 Tryz.f167 [.agg [.list 7 e_1 f_2, .int .i64 x_3], .list 2 e_4 f_5] [] K =
 Zpi N e_1 f_2 x_3 e_4 f_5 (fun b_6 => K (.bool b_6) []) := by kernel_rfl
theorem ZBu {N : Nat} (hC : Ok Tryz.prog C) (hΦ : Zaa Tryz.prog C (Zr9 N)) : ZaV Tryz.prog C (ZrQ N) ZBk [] :=
 ZaC ZBk [] (by
  rw [ZJ7]
  intro p hp
  simp only [List.mem_cons, List.mem_nil_iff, or_false] at hp
  rcases hp with rfl
  ·exact (ZDq hC hΦ))
theorem ZxP (hC : Ok Tryz.prog C) {N : Nat} (hΦ : Zaa Tryz.prog C (Zr9 N)) : Zaa Tryz.prog C (ZDj N) := by
 refine hΦ.add_pure rfl fun R vs K r h => ?_
 unfold ZJJ at h
 obtain ⟨_, _, rfl, h1⟩ := Zap h
 obtain ⟨_, _, _, rfl, h2⟩ := Zau h1
 obtain ⟨_, _, rfl, h3⟩ := Zaj h2
 obtain ⟨_, h4⟩ := Zae h3
 refine Zam (fn := Tryz.f167) (c := ZBk) hC hΦ Tryz.func167 (by kernel_rfl) (by kernel_rfl) (ZBu (N := N) hC hΦ) rfl rfl ?_
 refine (ZMU N _ _ _ _ _ _).trans ?_
 rw [← ZvV]
 exact h4
def ZKM (N : Nat) : (R : Type) → List V → S → (V → S → Option R) → Option R := fun _ vs s K =>
 Zch vs fun v'1 v'2 => ZaU v'1 fun e_1 f_2 x_3 => Zaw v'2 fun x_4 x_5 x_6 x_7 x_8 w_9 e_10 f_11 => ZaI s <| ZGd N e_1 f_2 x_3 x_4 x_5 x_6 x_7 x_8 w_9 e_10 f_11 (fun b_12 => K (.bool b_12) [])
def ZsE (N : Nat) : Zar := (ZDj N).add 139 (ZKM N)
def ZLZ : Code := ZaK Tryz.f139
theorem ZL4 {R : Type} (N : Nat) (e_1 : List V) (f_2 : Fl) (x_3 x_4 x_5 x_6 x_7 x_8 : Int) (w_9 : ByteArray) (e_10 : List V) (f_11 : Fl) (K : V → S → Option R) : Za0 C (ZDj N) (Zac) 139 Tryz.f139 [.agg [.list 7 e_1 f_2, .int .i64 x_3], .agg [.int .i64 x_4, .int .i64 x_5, .int .i64 x_6, .int .i64 x_7, .int .i64 x_8, .str w_9, .list 2 e_10 f_11]] [] K =
 Zpt N e_1 f_2 x_3 x_4 x_5 x_6 x_7 x_8 w_9 e_10 f_11 (fun b_12 => K (.bool b_12) []) := by kernel_rfl
theorem ZyW (hC : Ok Tryz.prog C) {N : Nat} (hΦ : Zaa Tryz.prog C (ZDj N)) : Zaa Tryz.prog C (ZsE N) := by
 refine hΦ.add_pure rfl fun R vs K r h => ?_
 unfold ZKM at h
 obtain ⟨_, _, rfl, h1⟩ := Zap h
 obtain ⟨_, _, _, rfl, h2⟩ := Zau h1
 obtain ⟨_, _, _, _, _, _, _, _, rfl, h3⟩ := ZbZ h2
 obtain ⟨_, h4⟩ := Zae h3
 refine Zam (fn := Tryz.f139) (c := ZLZ) hC hΦ Tryz.func139 (by kernel_rfl) (by kernel_rfl) (Zah (Λ := Zac) (by kernel_rfl)) rfl rfl ?_
 refine (ZL4 N _ _ _ _ _ _ _ _ _ _ _ _).trans ?_
 rw [← Zt9]
 exact h4
def ZKX (N : Nat) : (R : Type) → List V → S → (V → S → Option R) → Option R := fun _ vs s K =>
 Zch vs fun v'1 v'2 => ZaQ 1 v'1 fun e_1 f_2 => asInt .i64 v'2 fun x_3 => ZaI s <| ZD2 N e_1 f_2 x_3 (fun e_4 => K (.list 1 e_4 .sh) [])
def ZEz (N : Nat) : Zar := (ZsE N).add 91 (ZKX N)
def Zz3 : Code := ZaK Tryz.f91
def Zty : Code := (Zbo Zz3 [] 0).2
def ZlD : List Nat := ZbQ 48 [0, 1, 5]
def ZvE : List Nat := ZbQ 48 [0, 1, 5]
def Zjl (e_1 : List V) (f_2 : Fl) (x_3 x_4 : Int) : List V := mkF 0 48 [(0, .list 1 e_1 f_2), (1, .int .i64 x_3), (5, .int .i64 x_4)]
def ZgC {R : Type} (K : X → List V → S → Option R) (e_1 : List V) (f_2 : Fl) (x_3 : Int) : Int → Option R := (fun x_1' => K (.exit 0) (mkF 0 48 [(0, .list 1 e_1 f_2), (1, .int .i64 x_3), (5, .int .i64 (x_1'))]) [])
abbrev Zlu {R : Type} (N : Nat) : Nat → List V → S → (X → List V → S → Option R) → Option R := fun n => Zdx C (ZsE N) (Zac) Zty [0, 0, 1, 1] false ZlD ZvE n R
theorem ZHc {R : Type} (N n : Nat) (e_1 : List V) (f_2 : Fl) (x_3 : Int) (x_4 : Int) (K : X → List V → S → Option R) :
 Zlu N (n + 1) (Zjl e_1 f_2 x_3 x_4) [] K =
 Zdn N e_1 f_2 x_3 (fun x_4 => Zlu N n (Zjl e_1 f_2 x_3 x_4) [] K) x_4 (ZgC K e_1 f_2 x_3) := by kernel_rfl
theorem ZBH {R : Type} (N : Nat) (e_1 : List V) (f_2 : Fl) (x_3 : Int) (K : X → List V → S → Option R) : ∀ (n : Nat) (x_4 : Int),
 Zlu N n (Zjl e_1 f_2 x_3 x_4) [] K = Zgr N e_1 f_2 x_3 (ZgC K e_1 f_2 x_3) n x_4
 | 0, _ => rfl
 | n + 1, x_4 => (ZHc N n e_1 f_2 x_3 x_4 K).trans (congrArg (fun nx => Zdn N e_1 f_2 x_3 nx x_4 (ZgC K e_1 f_2 x_3)) (funext fun x_4 => ZBH N e_1 f_2 x_3 K n x_4))
def Ztm {R : Type} (E : List V) (s : S) (k : List V → Fl → Int → Int → Option R) : Option R :=
 Zao (Za1 48 [0, 1, 5] E) <| Zbr E 0 1 fun e_1 f_2 => ZaT E 1 .i64 fun x_3 => ZaT E 5 .i64 fun x_4 => ZaI s <| k e_1 f_2 x_3 x_4
theorem Zpk {R : Type} {E : List V} {s : S} {k : List V → Fl → Int → Int → Option R} {r : R} (h : Ztm E s k = some r) : ∃ e_1 f_2 x_3 x_4, E = Zjl e_1 f_2 x_3 x_4 ∧ s = [] ∧ k e_1 f_2 x_3 x_4 = some r := by
 unfold Ztm at h
 obtain ⟨hg, h1⟩ := Zad h
 obtain ⟨_, _, hu0, h2⟩ := Zax h1
 obtain ⟨_, hu1, h3⟩ := Zai h2
 obtain ⟨_, hu5, h4⟩ := Zai h3
 obtain ⟨rfl, h5⟩ := Zae h4
 exact ⟨_, _, _, _, ZaP hg rfl (Zab hu0 (Zab hu1 (Zab hu5 ZaG))), rfl, h5⟩
def ZsP (N : Nat) : ZaA := (Zac).add [0, 0, 1, 1] fun _ E s K => Ztm (Zbd ZlD E) s fun e_1 f_2 x_3 x_4 => Zgr N e_1 f_2 x_3 (ZgC K e_1 f_2 x_3) N x_4
theorem ZF8 {N : Nat} (hC : Ok Tryz.prog C) (hΦ : Zaa Tryz.prog C (ZsE N)) : Za6 Tryz.prog C (ZsP N) Zty [0, 0, 1, 1] :=
 Za7 (Λi := Zac) (tr := false) (ks := ZlD) (kx := ZvE) (N := N) hC hΦ
  (Zah (by kernel_rfl))
  fun R E s K r h => by
   have h2 := ZaA.add_self.symm.trans h
   obtain ⟨_, _, _, _, he, rfl, h3⟩ := Zpk h2
   rw [he]
   exact (ZBH N _ _ _ _ N _).trans h3
theorem ZJQ : ZaX Zz3 [] = [([0, 0, 1, 1], Zty)] := by kernel_rfl
theorem ZNF {R : Type} (N : Nat) (e_1 : List V) (f_2 : Fl) (x_3 : Int) (K : V → S → Option R) : Za0 C (ZsE N) (ZsP N) 91 Tryz.f91 [.list 1 e_1 f_2, .int .i64 x_3] [] K =
 ZpP N e_1 f_2 x_3 (fun e_4 => K (.list 1 e_4 .sh) []) := by kernel_rfl
theorem ZAn {N : Nat} (hC : Ok Tryz.prog C) (hΦ : Zaa Tryz.prog C (ZsE N)) : ZaV Tryz.prog C (ZsP N) Zz3 [] :=
 ZaC Zz3 [] (by
  rw [ZJQ]
  intro p hp
  simp only [List.mem_cons, List.mem_nil_iff, or_false] at hp
  rcases hp with rfl
  ·exact (ZF8 hC hΦ))
theorem Zxs (hC : Ok Tryz.prog C) {N : Nat} (hΦ : Zaa Tryz.prog C (ZsE N)) : Zaa Tryz.prog C (ZEz N) := by
 refine hΦ.add_pure rfl fun R vs K r h => ?_
 unfold ZKX at h
 obtain ⟨_, _, rfl, h1⟩ := Zap h
 obtain ⟨_, _, rfl, h2⟩ := Zaj h1
 obtain ⟨_, rfl, h3⟩ := Zaf h2
 obtain ⟨_, h4⟩ := Zae h3
 refine Zam (fn := Tryz.f91) (c := Zz3) hC hΦ Tryz.func91 (by kernel_rfl) (by kernel_rfl) (ZAn (N := N) hC hΦ) rfl rfl ?_
 refine (ZNF N _ _ _ _).trans ?_
 rw [← ZuL]
 exact h4
def ZIs (N M : Nat) : (R : Type) → List V → S → (V → S → Option R) → Option R := fun _ vs s K =>
 ZCF vs fun v'1 v'2 v'3 => ZaU v'1 fun e_1 f_2 x_3 => asInt .i64 v'2 fun x_4 => ZaQ 1 v'3 fun e_5 f_6 => ZaI s <| ZgP N M _ e_1 f_2 x_3 x_4 e_5 f_6 (fun e_7 => K (.list 1 e_7 .sh) [])
def ZhK (N M : Nat) : Zar := (ZEz N).add 140 (ZIs N M)
def ZB9 : Code := ZaK Tryz.f140
def Ztd : Code := (Zbo ZB9 [] 0).2
def Zm3 : List Nat := ZbQ 34 [2, 3, 21, 22, 23]
def Zwe : List Nat := ZbQ 34 [2]
def Zi1 (e_2 : List V) (f_3 : Fl) (x_4 : Int) (e_6 : List V) (f_7 : Fl) (x_8 : Int) (e_1 : List V) (x_5 : Int) : List V := mkF 0 34 [(2, .list 1 e_1 .sh), (3, .ptr 0 0 0 0), (21, .list 2 e_2 f_3), (22, .int .i64 x_4), (23, .int .i64 x_5)]
def Zg3 {R : Type} (K : X → List V → S → Option R) (e_2 : List V) (f_3 : Fl) (x_4 : Int) (e_6 : List V) (f_7 : Fl) (x_8 : Int) : List V → Option R := (fun e_1' => K (.exit 0) (mkF 0 34 [(2, .list 1 (e_1') .sh)]) [some ⟨[.agg [.list 7 e_6 f_7, .int .i64 x_8]], 2, 34, 0⟩])
abbrev ZlS {R : Type} (N M : Nat) : Nat → List V → S → (X → List V → S → Option R) → Option R := fun n => Zdx C (ZhK N M) (Zac) Ztd [0, 1, 0, 1, 1, 1] true Zm3 Zwe n R
theorem ZId {R : Type} (N M n : Nat) (e_2 : List V) (f_3 : Fl) (x_4 : Int) (e_6 : List V) (f_7 : Fl) (x_8 : Int) (e_1 : List V) (x_5 : Int) (K : X → List V → S → Option R) :
 ZlS N M (n + 1) (Zi1 e_2 f_3 x_4 e_6 f_7 x_8 e_1 x_5) [some ⟨[.agg [.list 7 e_6 f_7, .int .i64 x_8]], 2, 34, 0⟩] K =
 Zdu N (ZgP N M) e_2 f_3 x_4 e_6 f_7 x_8 (fun e_1 x_5 => ZlS N M n (Zi1 e_2 f_3 x_4 e_6 f_7 x_8 e_1 x_5) [some ⟨[.agg [.list 7 e_6 f_7, .int .i64 x_8]], 2, 34, 0⟩] K) e_1 x_5 (Zg3 K e_2 f_3 x_4 e_6 f_7 x_8) := by kernel_rfl
theorem ZzH {R : Type} (N M : Nat) (e_2 : List V) (f_3 : Fl) (x_4 : Int) (e_6 : List V) (f_7 : Fl) (x_8 : Int) (K : X → List V → S → Option R) : ∀ (n : Nat) (e_1 : List V) (x_5 : Int),
 ZlS N M n (Zi1 e_2 f_3 x_4 e_6 f_7 x_8 e_1 x_5) [some ⟨[.agg [.list 7 e_6 f_7, .int .i64 x_8]], 2, 34, 0⟩] K = Zgf N (ZgP N M) e_2 f_3 x_4 e_6 f_7 x_8 (Zg3 K e_2 f_3 x_4 e_6 f_7 x_8) n e_1 x_5
 | 0, _, _ => rfl
 | n + 1, e_1, x_5 => (ZId N M n e_2 f_3 x_4 e_6 f_7 x_8 e_1 x_5 K).trans (congrArg (fun nx => Zdu N (ZgP N M) e_2 f_3 x_4 e_6 f_7 x_8 nx e_1 x_5 (Zg3 K e_2 f_3 x_4 e_6 f_7 x_8)) (funext fun e_1 => funext fun x_5 => ZzH N M e_2 f_3 x_4 e_6 f_7 x_8 K n e_1 x_5))
def Zri {R : Type} (E : List V) (s : S) (k : List V → List V → Fl → Int → Int → List V → Fl → Int → Option R) : Option R :=
 Zao (Za1 34 [2, 3, 21, 22, 23] E) <| Zbq (nth E 2) fun u2 => ZaQ 1 u2 fun e_1 f'1 => ZHn f'1 <| ZoS E 3 (.ptr 0 0 0 0) <| Zbr E 21 2 fun e_2 f_3 => ZaT E 22 .i64 fun x_4 => ZaT E 23 .i64 fun x_5 => ZdV s fun o'2 s'3 => ZdU o'2 2 34 fun e'4 k'5 => isN k'5 0 <| Zcf e'4 fun v'6 => asAgg v'6 fun c'7 => Zch c'7 fun v'8 v'9 => ZaQ 7 v'8 fun e_6 f_7 => asInt .i64 v'9 fun x_8 => ZaI s'3 <| k e_1 e_2 f_3 x_4 x_5 e_6 f_7 x_8
theorem Znz {R : Type} {E : List V} {s : S} {k : List V → List V → Fl → Int → Int → List V → Fl → Int → Option R} {r : R} (h : Zri E s k = some r) : ∃ e_1 e_2 f_3 x_4 x_5 e_6 f_7 x_8, E = Zi1 e_2 f_3 x_4 e_6 f_7 x_8 e_1 x_5 ∧ s = [some ⟨[.agg [.list 7 e_6 f_7, .int .i64 x_8]], 2, 34, 0⟩] ∧ k e_1 e_2 f_3 x_4 x_5 e_6 f_7 x_8 = some r := by
 unfold Zri at h
 obtain ⟨hg, h1⟩ := Zad h
 obtain ⟨_, hu2, h2⟩ := Zag h1
 obtain ⟨_, _, rfl, h3⟩ := Zaj h2
 obtain ⟨rfl, h4⟩ := Zff h3
 obtain ⟨hu3, h5⟩ := ZbK h4
 obtain ⟨_, _, hu21, h6⟩ := Zax h5
 obtain ⟨_, hu22, h7⟩ := Zai h6
 obtain ⟨_, hu23, h8⟩ := Zai h7
 obtain ⟨_, _, rfl, h9⟩ := ZaN h8
 obtain ⟨_, _, rfl, h10⟩ := ZaM h9
 obtain ⟨rfl, h11⟩ := Zat h10
 obtain ⟨_, rfl, h12⟩ := Zaq h11
 obtain ⟨_, rfl, h13⟩ := ZaB h12
 obtain ⟨_, _, rfl, h14⟩ := Zap h13
 obtain ⟨_, _, rfl, h15⟩ := Zaj h14
 obtain ⟨_, rfl, h16⟩ := Zaf h15
 obtain ⟨rfl, h17⟩ := Zae h16
 exact ⟨_, _, _, _, _, _, _, _, ZaP hg rfl (Zab hu2 (Zab hu3 (Zab hu21 (Zab hu22 (Zab hu23 ZaG))))), rfl, h17⟩
def Zsu (N M : Nat) : ZaA := (Zac).add [0, 1, 0, 1, 1, 1] fun _ E s K => Zri (Zbd Zm3 E) s fun e_1 e_2 f_3 x_4 x_5 e_6 f_7 x_8 => Zgf N (ZgP N M) e_2 f_3 x_4 e_6 f_7 x_8 (Zg3 K e_2 f_3 x_4 e_6 f_7 x_8) N e_1 x_5
theorem ZD0 {N M : Nat} (hC : Ok Tryz.prog C) (hΦ : Zaa Tryz.prog C (ZhK N M)) : Za6 Tryz.prog C (Zsu N M) Ztd [0, 1, 0, 1, 1, 1] :=
 Za7 (Λi := Zac) (tr := true) (ks := Zm3) (kx := Zwe) (N := N) hC hΦ
  (Zah (by kernel_rfl))
  fun R E s K r h => by
   have h2 := ZaA.add_self.symm.trans h
   obtain ⟨_, _, _, _, _, _, _, _, he, rfl, h3⟩ := Znz h2
   rw [he]
   exact (ZzH N M _ _ _ _ _ _ _ N _ _).trans h3
theorem ZJE : ZaX ZB9 [] = [([0, 1, 0, 1, 1, 1], Ztd)] := by kernel_rfl
theorem ZNO {R : Type} (N M : Nat) (e_1 : List V) (f_2 : Fl) (x_3 x_4 : Int) (e_5 : List V) (f_6 : Fl) (K : V → S → Option R) : Za0 C (ZhK N M) (Zsu N M) 140 Tryz.f140 [.agg [.list 7 e_1 f_2, .int .i64 x_3], .int .i64 x_4, .list 1 e_5 f_6] [] K =
 ZuA N (ZgP N M) e_1 f_2 x_3 x_4 e_5 f_6 (fun e_7 => K (.list 1 e_7 .sh) []) := by kernel_rfl
theorem ZzA {N M : Nat} (hC : Ok Tryz.prog C) (hΦ : Zaa Tryz.prog C (ZhK N M)) : ZaV Tryz.prog C (Zsu N M) ZB9 [] :=
 ZaC ZB9 [] (by
  rw [ZJE]
  intro p hp
  simp only [List.mem_cons, List.mem_nil_iff, or_false] at hp
  rcases hp with rfl
  ·exact (ZD0 hC hΦ))
theorem Zqa (hC : Ok Tryz.prog C) {N : Nat} (hΦ : Zaa Tryz.prog C (ZEz N)) : ∀ M, Zaa Tryz.prog C (ZhK N M) := by
 intro M
 induction M with
 | zero =>
  refine hΦ.add_pure rfl fun R vs K r h => ?_
  exfalso
  unfold ZIs at h
  obtain ⟨_, _, _, rfl, h1⟩ := Zcp h
  obtain ⟨_, _, _, rfl, h2⟩ := Zau h1
  obtain ⟨_, rfl, h3⟩ := Zaf h2
  obtain ⟨_, _, rfl, h4⟩ := Zaj h3
  obtain ⟨_, h5⟩ := Zae h4
  rw [Zye] at h5
  cases h5
 | succ M ih =>
  refine hΦ.add_pure rfl fun R vs K r h => ?_
  unfold ZIs at h
  obtain ⟨_, _, _, rfl, h1⟩ := Zcp h
  obtain ⟨_, _, _, rfl, h2⟩ := Zau h1
  obtain ⟨_, rfl, h3⟩ := Zaf h2
  obtain ⟨_, _, rfl, h4⟩ := Zaj h3
  obtain ⟨_, h5⟩ := Zae h4
  refine Zam (fn := Tryz.f140) (c := ZB9) hC ih Tryz.func140 (by kernel_rfl) (by kernel_rfl) (ZzA (N := N) (M := M) hC ih) rfl rfl ?_
  refine (ZNO N M _ _ _ _ _ _ _).trans ?_
  rw [← ZwB]
  exact h5
theorem Zy0 (hC : Ok Tryz.prog C) {N : Nat} (hΦ : Zaa Tryz.prog C (ZEz N)) : Zaa Tryz.prog C (ZhK N N) := Zqa hC hΦ N
def ZKa (N : Nat) : (R : Type) → List V → S → (V → S → Option R) → Option R := fun _ vs s K =>
 Zch vs fun v'1 v'2 => ZaU v'1 fun e_1 f_2 x_3 => asInt .i64 v'2 fun x_4 => ZaI s <| ZFa N e_1 f_2 x_3 x_4 (fun x_5 => K (.int .i64 x_5) [])
def Znf (N : Nat) : Zar := (ZhK N N).add 141 (ZKa N)
def ZAE : Code := ZaK Tryz.f141
def Zik : Code := (Zbo ZAE [] 0).2
def Zsa : Code := (Zbo Zik (0 :: [0, 1, 0, 1, 1]) 0).2
def Zni : List Nat := ZbQ 33 [1, 5, 11, 12, 13, 18, 19, 20]
def Zu7 : List Nat := ZbQ 33 [1, 5, 11, 12, 13]
def ZjL (x_1 : Int) (e_3 : List V) (f_4 : Fl) (x_5 x_6 : Int) (e_7 : List V) (f_8 : Fl) (x_9 : Int) (e_11 : List V) (f_12 : Fl) (x_13 x_14 x_15 x_16 x_17 x_18 : Int) (w_19 : ByteArray) (e_20 : List V) (f_21 : Fl) (x_2 x_10 : Int) : List V := mkF 0 33 [(1, .int .i64 x_1), (5, .int .i64 x_2), (11, .list 7 e_3 f_4), (12, .int .i64 x_5), (13, .int .i64 x_6), (18, .list 2 e_7 f_8), (19, .int .i64 x_9), (20, .int .i64 x_10)]
def ZgK {R : Type} (K : X → List V → S → Option R) (x_1 : Int) (e_3 : List V) (f_4 : Fl) (x_5 : Int) (x_6 : Int) (e_7 : List V) (f_8 : Fl) (x_9 : Int) (e_11 : List V) (f_12 : Fl) (x_13 : Int) (x_14 : Int) (x_15 : Int) (x_16 : Int) (x_17 : Int) (x_18 : Int) (w_19 : ByteArray) (e_20 : List V) (f_21 : Fl) : Int → Option R := (fun x_1' => K (.exit 2) (mkF 0 33 [(1, .int .i64 x_1), (5, .int .i64 (x_1')), (11, .list 7 e_3 f_4), (12, .int .i64 x_5), (13, .int .i64 x_6)]) [some ⟨[.agg [.list 7 e_11 f_12, .int .i64 x_13]], 2, 34, 0⟩, some ⟨[.agg [.int .i64 x_14, .int .i64 x_15, .int .i64 x_16, .int .i64 x_17, .int .i64 x_18, .str w_19, .list 2 e_20 f_21]], 7, 87, 0⟩])
abbrev Zlg {R : Type} (N : Nat) : Nat → List V → S → (X → List V → S → Option R) → Option R := fun n => Zdx C (ZhK N N) (Zac) Zsa [0, 1, 1, 0, 0, 1, 1, 0, 0, 1, 0, 1, 1] true Zni Zu7 n R
theorem ZHF {R : Type} (N n : Nat) (x_1 : Int) (e_3 : List V) (f_4 : Fl) (x_5 x_6 : Int) (e_7 : List V) (f_8 : Fl) (x_9 : Int) (e_11 : List V) (f_12 : Fl) (x_13 x_14 x_15 x_16 x_17 x_18 : Int) (w_19 : ByteArray) (e_20 : List V) (f_21 : Fl) (x_2 x_10 : Int) (K : X → List V → S → Option R) :
 Zlg N (n + 1) (ZjL x_1 e_3 f_4 x_5 x_6 e_7 f_8 x_9 e_11 f_12 x_13 x_14 x_15 x_16 x_17 x_18 w_19 e_20 f_21 x_2 x_10) [some ⟨[.agg [.list 7 e_11 f_12, .int .i64 x_13]], 2, 34, 0⟩, some ⟨[.agg [.int .i64 x_14, .int .i64 x_15, .int .i64 x_16, .int .i64 x_17, .int .i64 x_18, .str w_19, .list 2 e_20 f_21]], 7, 87, 0⟩] K =
 Zc8 N x_1 e_3 f_4 x_5 x_6 e_7 f_8 x_9 e_11 f_12 x_13 x_14 x_15 x_16 x_17 x_18 w_19 e_20 f_21 (fun x_2 x_10 => Zlg N n (ZjL x_1 e_3 f_4 x_5 x_6 e_7 f_8 x_9 e_11 f_12 x_13 x_14 x_15 x_16 x_17 x_18 w_19 e_20 f_21 x_2 x_10) [some ⟨[.agg [.list 7 e_11 f_12, .int .i64 x_13]], 2, 34, 0⟩, some ⟨[.agg [.int .i64 x_14, .int .i64 x_15, .int .i64 x_16, .int .i64 x_17, .int .i64 x_18, .str w_19, .list 2 e_20 f_21]], 7, 87, 0⟩] K) x_2 x_10 (ZgK K x_1 e_3 f_4 x_5 x_6 e_7 f_8 x_9 e_11 f_12 x_13 x_14 x_15 x_16 x_17 x_18 w_19 e_20 f_21) := by kernel_rfl
theorem ZCt {R : Type} (N : Nat) (x_1 : Int) (e_3 : List V) (f_4 : Fl) (x_5 x_6 : Int) (e_7 : List V) (f_8 : Fl) (x_9 : Int) (e_11 : List V) (f_12 : Fl) (x_13 x_14 x_15 x_16 x_17 x_18 : Int) (w_19 : ByteArray) (e_20 : List V) (f_21 : Fl) (K : X → List V → S → Option R) : ∀ (n : Nat) (x_2 x_10 : Int),
 Zlg N n (ZjL x_1 e_3 f_4 x_5 x_6 e_7 f_8 x_9 e_11 f_12 x_13 x_14 x_15 x_16 x_17 x_18 w_19 e_20 f_21 x_2 x_10) [some ⟨[.agg [.list 7 e_11 f_12, .int .i64 x_13]], 2, 34, 0⟩, some ⟨[.agg [.int .i64 x_14, .int .i64 x_15, .int .i64 x_16, .int .i64 x_17, .int .i64 x_18, .str w_19, .list 2 e_20 f_21]], 7, 87, 0⟩] K = ZeY N x_1 e_3 f_4 x_5 x_6 e_7 f_8 x_9 e_11 f_12 x_13 x_14 x_15 x_16 x_17 x_18 w_19 e_20 f_21 (ZgK K x_1 e_3 f_4 x_5 x_6 e_7 f_8 x_9 e_11 f_12 x_13 x_14 x_15 x_16 x_17 x_18 w_19 e_20 f_21) n x_2 x_10
 | 0, _, _ => rfl
 | n + 1, x_2, x_10 => (ZHF N n x_1 e_3 f_4 x_5 x_6 e_7 f_8 x_9 e_11 f_12 x_13 x_14 x_15 x_16 x_17 x_18 w_19 e_20 f_21 x_2 x_10 K).trans (congrArg (fun nx => Zc8 N x_1 e_3 f_4 x_5 x_6 e_7 f_8 x_9 e_11 f_12 x_13 x_14 x_15 x_16 x_17 x_18 w_19 e_20 f_21 nx x_2 x_10 (ZgK K x_1 e_3 f_4 x_5 x_6 e_7 f_8 x_9 e_11 f_12 x_13 x_14 x_15 x_16 x_17 x_18 w_19 e_20 f_21)) (funext fun x_2 => funext fun x_10 => ZCt N x_1 e_3 f_4 x_5 x_6 e_7 f_8 x_9 e_11 f_12 x_13 x_14 x_15 x_16 x_17 x_18 w_19 e_20 f_21 K n x_2 x_10))
def Zrk {R : Type} (E : List V) (s : S) (k : Int → Int → List V → Fl → Int → Int → List V → Fl → Int → Int → List V → Fl → Int → Int → Int → Int → Int → Int → ByteArray → List V → Fl → Option R) : Option R :=
 Zao (Za1 33 [1, 5, 11, 12, 13, 18, 19, 20] E) <| ZaT E 1 .i64 fun x_1 => ZaT E 5 .i64 fun x_2 => Zbr E 11 7 fun e_3 f_4 => ZaT E 12 .i64 fun x_5 => ZaT E 13 .i64 fun x_6 => Zbr E 18 2 fun e_7 f_8 => ZaT E 19 .i64 fun x_9 => ZaT E 20 .i64 fun x_10 => ZdV s fun o'1 s'2 => ZdU o'1 2 34 fun e'3 k'4 => isN k'4 0 <| Zcf e'3 fun v'5 => asAgg v'5 fun c'6 => Zch c'6 fun v'7 v'8 => ZaQ 7 v'7 fun e_11 f_12 => asInt .i64 v'8 fun x_13 => ZdV s'2 fun o'9 s'10 => ZdU o'9 7 87 fun e'11 k'12 => isN k'12 0 <| Zcf e'11 fun v'13 => asAgg v'13 fun c'14 => ZGO c'14 fun v'15 v'16 v'17 v'18 v'19 v'20 v'21 => asInt .i64 v'15 fun x_14 => asInt .i64 v'16 fun x_15 => asInt .i64 v'17 fun x_16 => asInt .i64 v'18 fun x_17 => asInt .i64 v'19 fun x_18 => Zbt v'20 fun w_19 => ZaQ 2 v'21 fun e_20 f_21 => ZaI s'10 <| k x_1 x_2 e_3 f_4 x_5 x_6 e_7 f_8 x_9 x_10 e_11 f_12 x_13 x_14 x_15 x_16 x_17 x_18 w_19 e_20 f_21
theorem ZnP {R : Type} {E : List V} {s : S} {k : Int → Int → List V → Fl → Int → Int → List V → Fl → Int → Int → List V → Fl → Int → Int → Int → Int → Int → Int → ByteArray → List V → Fl → Option R} {r : R} (h : Zrk E s k = some r) : ∃ x_1 x_2 e_3 f_4 x_5 x_6 e_7 f_8 x_9 x_10 e_11 f_12 x_13 x_14 x_15 x_16 x_17 x_18 w_19 e_20 f_21, E = ZjL x_1 e_3 f_4 x_5 x_6 e_7 f_8 x_9 e_11 f_12 x_13 x_14 x_15 x_16 x_17 x_18 w_19 e_20 f_21 x_2 x_10 ∧ s = [some ⟨[.agg [.list 7 e_11 f_12, .int .i64 x_13]], 2, 34, 0⟩, some ⟨[.agg [.int .i64 x_14, .int .i64 x_15, .int .i64 x_16, .int .i64 x_17, .int .i64 x_18, .str w_19, .list 2 e_20 f_21]], 7, 87, 0⟩] ∧ k x_1 x_2 e_3 f_4 x_5 x_6 e_7 f_8 x_9 x_10 e_11 f_12 x_13 x_14 x_15 x_16 x_17 x_18 w_19 e_20 f_21 = some r := by
 unfold Zrk at h
 obtain ⟨hg, h1⟩ := Zad h
 obtain ⟨_, hu1, h2⟩ := Zai h1
 obtain ⟨_, hu5, h3⟩ := Zai h2
 obtain ⟨_, _, hu11, h4⟩ := Zax h3
 obtain ⟨_, hu12, h5⟩ := Zai h4
 obtain ⟨_, hu13, h6⟩ := Zai h5
 obtain ⟨_, _, hu18, h7⟩ := Zax h6
 obtain ⟨_, hu19, h8⟩ := Zai h7
 obtain ⟨_, hu20, h9⟩ := Zai h8
 obtain ⟨_, _, rfl, h10⟩ := ZaN h9
 obtain ⟨_, _, rfl, h11⟩ := ZaM h10
 obtain ⟨rfl, h12⟩ := Zat h11
 obtain ⟨_, rfl, h13⟩ := Zaq h12
 obtain ⟨_, rfl, h14⟩ := ZaB h13
 obtain ⟨_, _, rfl, h15⟩ := Zap h14
 obtain ⟨_, _, rfl, h16⟩ := Zaj h15
 obtain ⟨_, rfl, h17⟩ := Zaf h16
 obtain ⟨_, _, rfl, h18⟩ := ZaN h17
 obtain ⟨_, _, rfl, h19⟩ := ZaM h18
 obtain ⟨rfl, h20⟩ := Zat h19
 obtain ⟨_, rfl, h21⟩ := Zaq h20
 obtain ⟨_, rfl, h22⟩ := ZaB h21
 obtain ⟨_, _, _, _, _, _, _, rfl, h23⟩ := Zen h22
 obtain ⟨_, rfl, h24⟩ := Zaf h23
 obtain ⟨_, rfl, h25⟩ := Zaf h24
 obtain ⟨_, rfl, h26⟩ := Zaf h25
 obtain ⟨_, rfl, h27⟩ := Zaf h26
 obtain ⟨_, rfl, h28⟩ := Zaf h27
 obtain ⟨_, rfl, h29⟩ := Zav h28
 obtain ⟨_, _, rfl, h30⟩ := Zaj h29
 obtain ⟨rfl, h31⟩ := Zae h30
 exact ⟨_, _, _, _, _, _, _, _, _, _, _, _, _, _, _, _, _, _, _, _, _, ZaP hg rfl (Zab hu1 (Zab hu5 (Zab hu11 (Zab hu12 (Zab hu13 (Zab hu18 (Zab hu19 (Zab hu20 ZaG)))))))), rfl, h31⟩
def ZlP (N : Nat) : ZaA := (Zac).add [0, 1, 1, 0, 0, 1, 1, 0, 0, 1, 0, 1, 1] fun _ E s K => Zrk (Zbd Zni E) s fun x_1 x_2 e_3 f_4 x_5 x_6 e_7 f_8 x_9 x_10 e_11 f_12 x_13 x_14 x_15 x_16 x_17 x_18 w_19 e_20 f_21 => ZeY N x_1 e_3 f_4 x_5 x_6 e_7 f_8 x_9 e_11 f_12 x_13 x_14 x_15 x_16 x_17 x_18 w_19 e_20 f_21 (ZgK K x_1 e_3 f_4 x_5 x_6 e_7 f_8 x_9 e_11 f_12 x_13 x_14 x_15 x_16 x_17 x_18 w_19 e_20 f_21) N x_2 x_10
theorem ZFT {N : Nat} (hC : Ok Tryz.prog C) (hΦ : Zaa Tryz.prog C (ZhK N N)) : Za6 Tryz.prog C (ZlP N) Zsa [0, 1, 1, 0, 0, 1, 1, 0, 0, 1, 0, 1, 1] :=
 Za7 (Λi := Zac) (tr := true) (ks := Zni) (kx := Zu7) (N := N) hC hΦ
  (Zah (by kernel_rfl))
  fun R E s K r h => by
   have h2 := ZaA.add_self.symm.trans h
   obtain ⟨_, _, _, _, _, _, _, _, _, _, _, _, _, _, _, _, _, _, _, _, _, he, rfl, h3⟩ := ZnP h2
   rw [he]
   exact (ZCt N _ _ _ _ _ _ _ _ _ _ _ _ _ _ _ _ _ _ _ _ N _ _).trans h3
def ZmA : List Nat := ZbQ 33 [1, 5, 11, 12, 13]
def Zug : List Nat := ZbQ 33 [5]
def Zjh (x_1 : Int) (e_3 : List V) (f_4 : Fl) (x_5 : Int) (e_7 : List V) (f_8 : Fl) (x_9 x_2 x_6 : Int) : List V := mkF 0 33 [(1, .int .i64 x_1), (5, .int .i64 x_2), (11, .list 7 e_3 f_4), (12, .int .i64 x_5), (13, .int .i64 x_6)]
def ZgS {R : Type} (K : X → List V → S → Option R) (x_1 : Int) (e_3 : List V) (f_4 : Fl) (x_5 : Int) (e_7 : List V) (f_8 : Fl) (x_9 : Int) : Int → Option R := (fun x_1' => K (.exit 0) (mkF 0 33 [(5, .int .i64 (x_1'))]) [some ⟨[.agg [.list 7 e_7 f_8, .int .i64 x_9]], 2, 34, 0⟩])
abbrev ZlZ {R : Type} (N : Nat) : Nat → List V → S → (X → List V → S → Option R) → Option R := fun n => Zdx C (ZhK N N) (ZlP N) Zik [0, 1, 0, 1, 1] true ZmA Zug n R
theorem ZHp {R : Type} (N n : Nat) (x_1 : Int) (e_3 : List V) (f_4 : Fl) (x_5 : Int) (e_7 : List V) (f_8 : Fl) (x_9 : Int) (x_2 x_6 : Int) (K : X → List V → S → Option R) :
 ZlZ N (n + 1) (Zjh x_1 e_3 f_4 x_5 e_7 f_8 x_9 x_2 x_6) [some ⟨[.agg [.list 7 e_7 f_8, .int .i64 x_9]], 2, 34, 0⟩] K =
 Zdk N x_1 e_3 f_4 x_5 e_7 f_8 x_9 (fun x_2 x_6 => ZlZ N n (Zjh x_1 e_3 f_4 x_5 e_7 f_8 x_9 x_2 x_6) [some ⟨[.agg [.list 7 e_7 f_8, .int .i64 x_9]], 2, 34, 0⟩] K) x_2 x_6 (ZgS K x_1 e_3 f_4 x_5 e_7 f_8 x_9) := by kernel_rfl
theorem ZBe {R : Type} (N : Nat) (x_1 : Int) (e_3 : List V) (f_4 : Fl) (x_5 : Int) (e_7 : List V) (f_8 : Fl) (x_9 : Int) (K : X → List V → S → Option R) : ∀ (n : Nat) (x_2 x_6 : Int),
 ZlZ N n (Zjh x_1 e_3 f_4 x_5 e_7 f_8 x_9 x_2 x_6) [some ⟨[.agg [.list 7 e_7 f_8, .int .i64 x_9]], 2, 34, 0⟩] K = Zgd N x_1 e_3 f_4 x_5 e_7 f_8 x_9 (ZgS K x_1 e_3 f_4 x_5 e_7 f_8 x_9) n x_2 x_6
 | 0, _, _ => rfl
 | n + 1, x_2, x_6 => (ZHp N n x_1 e_3 f_4 x_5 e_7 f_8 x_9 x_2 x_6 K).trans (congrArg (fun nx => Zdk N x_1 e_3 f_4 x_5 e_7 f_8 x_9 nx x_2 x_6 (ZgS K x_1 e_3 f_4 x_5 e_7 f_8 x_9)) (funext fun x_2 => funext fun x_6 => ZBe N x_1 e_3 f_4 x_5 e_7 f_8 x_9 K n x_2 x_6))
def ZrT {R : Type} (E : List V) (s : S) (k : Int → Int → List V → Fl → Int → Int → List V → Fl → Int → Option R) : Option R :=
 Zao (Za1 33 [1, 5, 11, 12, 13] E) <| ZaT E 1 .i64 fun x_1 => ZaT E 5 .i64 fun x_2 => Zbr E 11 7 fun e_3 f_4 => ZaT E 12 .i64 fun x_5 => ZaT E 13 .i64 fun x_6 => ZdV s fun o'1 s'2 => ZdU o'1 2 34 fun e'3 k'4 => isN k'4 0 <| Zcf e'3 fun v'5 => asAgg v'5 fun c'6 => Zch c'6 fun v'7 v'8 => ZaQ 7 v'7 fun e_7 f_8 => asInt .i64 v'8 fun x_9 => ZaI s'2 <| k x_1 x_2 e_3 f_4 x_5 x_6 e_7 f_8 x_9
theorem Zod {R : Type} {E : List V} {s : S} {k : Int → Int → List V → Fl → Int → Int → List V → Fl → Int → Option R} {r : R} (h : ZrT E s k = some r) : ∃ x_1 x_2 e_3 f_4 x_5 x_6 e_7 f_8 x_9, E = Zjh x_1 e_3 f_4 x_5 e_7 f_8 x_9 x_2 x_6 ∧ s = [some ⟨[.agg [.list 7 e_7 f_8, .int .i64 x_9]], 2, 34, 0⟩] ∧ k x_1 x_2 e_3 f_4 x_5 x_6 e_7 f_8 x_9 = some r := by
 unfold ZrT at h
 obtain ⟨hg, h1⟩ := Zad h
 obtain ⟨_, hu1, h2⟩ := Zai h1
 obtain ⟨_, hu5, h3⟩ := Zai h2
 obtain ⟨_, _, hu11, h4⟩ := Zax h3
 obtain ⟨_, hu12, h5⟩ := Zai h4
 obtain ⟨_, hu13, h6⟩ := Zai h5
 obtain ⟨_, _, rfl, h7⟩ := ZaN h6
 obtain ⟨_, _, rfl, h8⟩ := ZaM h7
 obtain ⟨rfl, h9⟩ := Zat h8
 obtain ⟨_, rfl, h10⟩ := Zaq h9
 obtain ⟨_, rfl, h11⟩ := ZaB h10
 obtain ⟨_, _, rfl, h12⟩ := Zap h11
 obtain ⟨_, _, rfl, h13⟩ := Zaj h12
 obtain ⟨_, rfl, h14⟩ := Zaf h13
 obtain ⟨rfl, h15⟩ := Zae h14
 exact ⟨_, _, _, _, _, _, _, _, _, ZaP hg rfl (Zab hu1 (Zab hu5 (Zab hu11 (Zab hu12 (Zab hu13 ZaG))))), rfl, h15⟩
def ZrX (N : Nat) : ZaA := (ZlP N).add [0, 1, 0, 1, 1] fun _ E s K => ZrT (Zbd ZmA E) s fun x_1 x_2 e_3 f_4 x_5 x_6 e_7 f_8 x_9 => Zgd N x_1 e_3 f_4 x_5 e_7 f_8 x_9 (ZgS K x_1 e_3 f_4 x_5 e_7 f_8 x_9) N x_2 x_6
theorem ZFk : ZaX Zik (0 :: [0, 1, 0, 1, 1]) = [([0, 1, 1, 0, 0, 1, 1, 0, 0, 1, 0, 1, 1], Zsa)] := by kernel_rfl
theorem ZFm {N : Nat} (hC : Ok Tryz.prog C) (hΦ : Zaa Tryz.prog C (ZhK N N)) : Za6 Tryz.prog C (ZrX N) Zik [0, 1, 0, 1, 1] :=
 Za7 (Λi := ZlP N) (tr := true) (ks := ZmA) (kx := Zug) (N := N) hC hΦ
  (ZaC Zik _ (by
   rw [ZFk]
   intro p hp
   simp only [List.mem_cons, List.mem_nil_iff, or_false] at hp
   rcases hp with rfl
   ·exact (ZFT hC hΦ)))
  fun R E s K r h => by
   have h2 := ZaA.add_self.symm.trans h
   obtain ⟨_, _, _, _, _, _, _, _, _, he, rfl, h3⟩ := Zod h2
   rw [he]
   exact (ZBe N _ _ _ _ _ _ _ _ N _ _).trans h3
theorem ZI5 : ZaX ZAE [] = [([0, 1, 0, 1, 1], Zik)] := by kernel_rfl
theorem ZMV {R : Type} (N : Nat) (e_1 : List V) (f_2 : Fl) (x_3 x_4 : Int) (K : V → S → Option R) : Za0 C (ZhK N N) (ZrX N) 141 Tryz.f141 [.agg [.list 7 e_1 f_2, .int .i64 x_3], .int .i64 x_4] [] K =
 Zoo N e_1 f_2 x_3 x_4 (fun x_5 => K (.int .i64 x_5) []) := by kernel_rfl
theorem ZBs {N : Nat} (hC : Ok Tryz.prog C) (hΦ : Zaa Tryz.prog C (ZhK N N)) : ZaV Tryz.prog C (ZrX N) ZAE [] :=
 ZaC ZAE [] (by
  rw [ZI5]
  intro p hp
  simp only [List.mem_cons, List.mem_nil_iff, or_false] at hp
  rcases hp with rfl
  ·exact (ZFm hC hΦ))
theorem Zy9 (hC : Ok Tryz.prog C) {N : Nat} (hΦ : Zaa Tryz.prog C (ZhK N N)) : Zaa Tryz.prog C (Znf N) := by
 refine hΦ.add_pure rfl fun R vs K r h => ?_
 unfold ZKa at h
 obtain ⟨_, _, rfl, h1⟩ := Zap h
 obtain ⟨_, _, _, rfl, h2⟩ := Zau h1
 obtain ⟨_, rfl, h3⟩ := Zaf h2
 obtain ⟨_, h4⟩ := Zae h3
 refine Zam (fn := Tryz.f141) (c := ZAE) hC hΦ Tryz.func141 (by kernel_rfl) (by kernel_rfl) (ZBs (N := N) hC hΦ) rfl rfl ?_
 refine (ZMV N _ _ _ _ _).trans ?_
 rw [← ZuX]
 exact h4
def ZJ1 (N : Nat) : (R : Type) → List V → S → (V → S → Option R) → Option R := fun _ vs s K =>
 Zcf vs fun v'1 => ZaU v'1 fun e_1 f_2 x_3 => ZaI s <| ZEt N e_1 f_2 x_3 (fun b_4 => K (.bool b_4) [])
def ZEr (N : Nat) : Zar := (Znf N).add 85 (ZJ1 N)
def ZyV : Code := ZaK Tryz.f85
def ZsJ : Code := (Zbo ZyV [] 0).2
def ZsL : Code := (Zbo ZyV [] 1).2
def ZmE : List Nat := ZbQ 91 [1, 36, 37, 38]
def ZvB : List Nat := ZbQ 91 [1, 2]
def ZiZ (e_1 : List V) (f_2 : Fl) (x_3 : Int) (e_5 : List V) (f_6 : Fl) (x_7 x_4 : Int) : List V := mkF 0 91 [(1, .ptr 0 0 0 0), (36, .list 7 e_1 f_2), (37, .int .i64 x_3), (38, .int .i64 x_4)]
def ZhX {R : Type} (K : X → List V → S → Option R) (e_1 : List V) (f_2 : Fl) (x_3 : Int) (e_5 : List V) (f_6 : Fl) (x_7 : Int) : Unit → Option R := (fun _ => K .ret (mkF 0 91 [(1, .ptr 0 0 0 0), (2, .bool false)]) [some ⟨[.agg [.list 7 e_5 f_6, .int .i64 x_7]], 2, 34, 0⟩])
def ZgT {R : Type} (K : X → List V → S → Option R) (e_1 : List V) (f_2 : Fl) (x_3 : Int) (e_5 : List V) (f_6 : Fl) (x_7 : Int) : Unit → Option R := (fun _ => K (.exit 0) (mkF 0 91 [(1, .ptr 0 0 0 0)]) [some ⟨[.agg [.list 7 e_5 f_6, .int .i64 x_7]], 2, 34, 0⟩])
abbrev ZlW {R : Type} (N : Nat) : Nat → List V → S → (X → List V → S → Option R) → Option R := fun n => Zdx C (Znf N) (Zac) ZsJ [0, 1, 0, 1, 1] true ZmE ZvB n R
theorem ZHG {R : Type} (N n : Nat) (e_1 : List V) (f_2 : Fl) (x_3 : Int) (e_5 : List V) (f_6 : Fl) (x_7 : Int) (x_4 : Int) (K : X → List V → S → Option R) :
 ZlW N (n + 1) (ZiZ e_1 f_2 x_3 e_5 f_6 x_7 x_4) [some ⟨[.agg [.list 7 e_5 f_6, .int .i64 x_7]], 2, 34, 0⟩] K =
 Zda N e_1 f_2 x_3 e_5 f_6 x_7 (fun x_4 => ZlW N n (ZiZ e_1 f_2 x_3 e_5 f_6 x_7 x_4) [some ⟨[.agg [.list 7 e_5 f_6, .int .i64 x_7]], 2, 34, 0⟩] K) x_4 (ZhX K e_1 f_2 x_3 e_5 f_6 x_7) (ZgT K e_1 f_2 x_3 e_5 f_6 x_7) := by kernel_rfl
theorem ZBo {R : Type} (N : Nat) (e_1 : List V) (f_2 : Fl) (x_3 : Int) (e_5 : List V) (f_6 : Fl) (x_7 : Int) (K : X → List V → S → Option R) : ∀ (n : Nat) (x_4 : Int),
 ZlW N n (ZiZ e_1 f_2 x_3 e_5 f_6 x_7 x_4) [some ⟨[.agg [.list 7 e_5 f_6, .int .i64 x_7]], 2, 34, 0⟩] K = Zf5 N e_1 f_2 x_3 e_5 f_6 x_7 (ZhX K e_1 f_2 x_3 e_5 f_6 x_7) (ZgT K e_1 f_2 x_3 e_5 f_6 x_7) n x_4
 | 0, _ => rfl
 | n + 1, x_4 => (ZHG N n e_1 f_2 x_3 e_5 f_6 x_7 x_4 K).trans (congrArg (fun nx => Zda N e_1 f_2 x_3 e_5 f_6 x_7 nx x_4 (ZhX K e_1 f_2 x_3 e_5 f_6 x_7) (ZgT K e_1 f_2 x_3 e_5 f_6 x_7)) (funext fun x_4 => ZBo N e_1 f_2 x_3 e_5 f_6 x_7 K n x_4))
def Zq1 {R : Type} (E : List V) (s : S) (k : List V → Fl → Int → Int → List V → Fl → Int → Option R) : Option R :=
 Zao (Za1 91 [1, 36, 37, 38] E) <| ZoS E 1 (.ptr 0 0 0 0) <| Zbr E 36 7 fun e_1 f_2 => ZaT E 37 .i64 fun x_3 => ZaT E 38 .i64 fun x_4 => ZdV s fun o'1 s'2 => ZdU o'1 2 34 fun e'3 k'4 => isN k'4 0 <| Zcf e'3 fun v'5 => asAgg v'5 fun c'6 => Zch c'6 fun v'7 v'8 => ZaQ 7 v'7 fun e_5 f_6 => asInt .i64 v'8 fun x_7 => ZaI s'2 <| k e_1 f_2 x_3 x_4 e_5 f_6 x_7
theorem Zo8 {R : Type} {E : List V} {s : S} {k : List V → Fl → Int → Int → List V → Fl → Int → Option R} {r : R} (h : Zq1 E s k = some r) : ∃ e_1 f_2 x_3 x_4 e_5 f_6 x_7, E = ZiZ e_1 f_2 x_3 e_5 f_6 x_7 x_4 ∧ s = [some ⟨[.agg [.list 7 e_5 f_6, .int .i64 x_7]], 2, 34, 0⟩] ∧ k e_1 f_2 x_3 x_4 e_5 f_6 x_7 = some r := by
 unfold Zq1 at h
 obtain ⟨hg, h1⟩ := Zad h
 obtain ⟨hu1, h2⟩ := ZbK h1
 obtain ⟨_, _, hu36, h3⟩ := Zax h2
 obtain ⟨_, hu37, h4⟩ := Zai h3
 obtain ⟨_, hu38, h5⟩ := Zai h4
 obtain ⟨_, _, rfl, h6⟩ := ZaN h5
 obtain ⟨_, _, rfl, h7⟩ := ZaM h6
 obtain ⟨rfl, h8⟩ := Zat h7
 obtain ⟨_, rfl, h9⟩ := Zaq h8
 obtain ⟨_, rfl, h10⟩ := ZaB h9
 obtain ⟨_, _, rfl, h11⟩ := Zap h10
 obtain ⟨_, _, rfl, h12⟩ := Zaj h11
 obtain ⟨_, rfl, h13⟩ := Zaf h12
 obtain ⟨rfl, h14⟩ := Zae h13
 exact ⟨_, _, _, _, _, _, _, ZaP hg rfl (Zab hu1 (Zab hu36 (Zab hu37 (Zab hu38 ZaG)))), rfl, h14⟩
def ZlT (N : Nat) : ZaA := (Zac).add [0, 1, 0, 1, 1] fun _ E s K => Zq1 (Zbd ZmE E) s fun e_1 f_2 x_3 x_4 e_5 f_6 x_7 => Zf5 N e_1 f_2 x_3 e_5 f_6 x_7 (ZhX K e_1 f_2 x_3 e_5 f_6 x_7) (ZgT K e_1 f_2 x_3 e_5 f_6 x_7) N x_4
theorem ZEj {N : Nat} (hC : Ok Tryz.prog C) (hΦ : Zaa Tryz.prog C (Znf N)) : Za6 Tryz.prog C (ZlT N) ZsJ [0, 1, 0, 1, 1] :=
 Za7 (Λi := Zac) (tr := true) (ks := ZmE) (kx := ZvB) (N := N) hC hΦ
  (Zah (by kernel_rfl))
  fun R E s K r h => by
   have h2 := ZaA.add_self.symm.trans h
   obtain ⟨_, _, _, _, _, _, _, he, rfl, h3⟩ := Zo8 h2
   rw [he]
   exact (ZBo N _ _ _ _ _ _ _ N _).trans h3
def ZmF : List Nat := ZbQ 91 [1, 5, 50, 51, 52]
def Zt2 : List Nat := ZbQ 91 [2]
def Zi4 (e_1 e_2 : List V) (f_3 : Fl) (x_4 : Int) (e_6 : List V) (f_7 : Fl) (x_8 x_5 : Int) : List V := mkF 0 91 [(1, .ptr 0 0 0 0), (5, .list 1 e_1 .sh), (50, .list 7 e_2 f_3), (51, .int .i64 x_4), (52, .int .i64 x_5)]
def Zho {R : Type} (K : X → List V → S → Option R) (e_1 : List V) (e_2 : List V) (f_3 : Fl) (x_4 : Int) (e_6 : List V) (f_7 : Fl) (x_8 : Int) : Unit → Option R := (fun _ => K .ret (mkF 0 91 [(2, .bool false)]) [some ⟨[.agg [.list 7 e_6 f_7, .int .i64 x_8]], 2, 34, 0⟩])
def ZhB {R : Type} (K : X → List V → S → Option R) (e_1 : List V) (e_2 : List V) (f_3 : Fl) (x_4 : Int) (e_6 : List V) (f_7 : Fl) (x_8 : Int) : Unit → Option R := (fun _ => K (.exit 2) (mkF 0 91 []) [some ⟨[.agg [.list 7 e_6 f_7, .int .i64 x_8]], 2, 34, 0⟩])
abbrev Zm7 {R : Type} (N : Nat) : Nat → List V → S → (X → List V → S → Option R) → Option R := fun n => Zdx C (Znf N) (ZlT N) ZsL [0, 1, 0, 1, 1, 1, 1] true ZmF Zt2 n R
theorem ZIi {R : Type} (N n : Nat) (e_1 e_2 : List V) (f_3 : Fl) (x_4 : Int) (e_6 : List V) (f_7 : Fl) (x_8 : Int) (x_5 : Int) (K : X → List V → S → Option R) :
 Zm7 N (n + 1) (Zi4 e_1 e_2 f_3 x_4 e_6 f_7 x_8 x_5) [some ⟨[.agg [.list 7 e_6 f_7, .int .i64 x_8]], 2, 34, 0⟩] K =
 Zdh N e_1 e_2 f_3 x_4 e_6 f_7 x_8 (fun x_5 => Zm7 N n (Zi4 e_1 e_2 f_3 x_4 e_6 f_7 x_8 x_5) [some ⟨[.agg [.list 7 e_6 f_7, .int .i64 x_8]], 2, 34, 0⟩] K) x_5 (Zho K e_1 e_2 f_3 x_4 e_6 f_7 x_8) (ZhB K e_1 e_2 f_3 x_4 e_6 f_7 x_8) := by kernel_rfl
theorem Zz6 {R : Type} (N : Nat) (e_1 e_2 : List V) (f_3 : Fl) (x_4 : Int) (e_6 : List V) (f_7 : Fl) (x_8 : Int) (K : X → List V → S → Option R) : ∀ (n : Nat) (x_5 : Int),
 Zm7 N n (Zi4 e_1 e_2 f_3 x_4 e_6 f_7 x_8 x_5) [some ⟨[.agg [.list 7 e_6 f_7, .int .i64 x_8]], 2, 34, 0⟩] K = Zf0 N e_1 e_2 f_3 x_4 e_6 f_7 x_8 (Zho K e_1 e_2 f_3 x_4 e_6 f_7 x_8) (ZhB K e_1 e_2 f_3 x_4 e_6 f_7 x_8) n x_5
 | 0, _ => rfl
 | n + 1, x_5 => (ZIi N n e_1 e_2 f_3 x_4 e_6 f_7 x_8 x_5 K).trans (congrArg (fun nx => Zdh N e_1 e_2 f_3 x_4 e_6 f_7 x_8 nx x_5 (Zho K e_1 e_2 f_3 x_4 e_6 f_7 x_8) (ZhB K e_1 e_2 f_3 x_4 e_6 f_7 x_8)) (funext fun x_5 => Zz6 N e_1 e_2 f_3 x_4 e_6 f_7 x_8 K n x_5))
def Zta {R : Type} (E : List V) (s : S) (k : List V → List V → Fl → Int → Int → List V → Fl → Int → Option R) : Option R :=
 Zao (Za1 91 [1, 5, 50, 51, 52] E) <| ZoS E 1 (.ptr 0 0 0 0) <| Zbq (nth E 5) fun u5 => ZaQ 1 u5 fun e_1 f'1 => ZHn f'1 <| Zbr E 50 7 fun e_2 f_3 => ZaT E 51 .i64 fun x_4 => ZaT E 52 .i64 fun x_5 => ZdV s fun o'2 s'3 => ZdU o'2 2 34 fun e'4 k'5 => isN k'5 0 <| Zcf e'4 fun v'6 => asAgg v'6 fun c'7 => Zch c'7 fun v'8 v'9 => ZaQ 7 v'8 fun e_6 f_7 => asInt .i64 v'9 fun x_8 => ZaI s'3 <| k e_1 e_2 f_3 x_4 x_5 e_6 f_7 x_8
theorem ZnN {R : Type} {E : List V} {s : S} {k : List V → List V → Fl → Int → Int → List V → Fl → Int → Option R} {r : R} (h : Zta E s k = some r) : ∃ e_1 e_2 f_3 x_4 x_5 e_6 f_7 x_8, E = Zi4 e_1 e_2 f_3 x_4 e_6 f_7 x_8 x_5 ∧ s = [some ⟨[.agg [.list 7 e_6 f_7, .int .i64 x_8]], 2, 34, 0⟩] ∧ k e_1 e_2 f_3 x_4 x_5 e_6 f_7 x_8 = some r := by
 unfold Zta at h
 obtain ⟨hg, h1⟩ := Zad h
 obtain ⟨hu1, h2⟩ := ZbK h1
 obtain ⟨_, hu5, h3⟩ := Zag h2
 obtain ⟨_, _, rfl, h4⟩ := Zaj h3
 obtain ⟨rfl, h5⟩ := Zff h4
 obtain ⟨_, _, hu50, h6⟩ := Zax h5
 obtain ⟨_, hu51, h7⟩ := Zai h6
 obtain ⟨_, hu52, h8⟩ := Zai h7
 obtain ⟨_, _, rfl, h9⟩ := ZaN h8
 obtain ⟨_, _, rfl, h10⟩ := ZaM h9
 obtain ⟨rfl, h11⟩ := Zat h10
 obtain ⟨_, rfl, h12⟩ := Zaq h11
 obtain ⟨_, rfl, h13⟩ := ZaB h12
 obtain ⟨_, _, rfl, h14⟩ := Zap h13
 obtain ⟨_, _, rfl, h15⟩ := Zaj h14
 obtain ⟨_, rfl, h16⟩ := Zaf h15
 obtain ⟨rfl, h17⟩ := Zae h16
 exact ⟨_, _, _, _, _, _, _, _, ZaP hg rfl (Zab hu1 (Zab hu5 (Zab hu50 (Zab hu51 (Zab hu52 ZaG))))), rfl, h17⟩
def ZtE (N : Nat) : ZaA := (ZlT N).add [0, 1, 0, 1, 1, 1, 1] fun _ E s K => Zta (Zbd ZmF E) s fun e_1 e_2 f_3 x_4 x_5 e_6 f_7 x_8 => Zf0 N e_1 e_2 f_3 x_4 e_6 f_7 x_8 (Zho K e_1 e_2 f_3 x_4 e_6 f_7 x_8) (ZhB K e_1 e_2 f_3 x_4 e_6 f_7 x_8) N x_5
theorem ZFu {N : Nat} (hC : Ok Tryz.prog C) (hΦ : Zaa Tryz.prog C (Znf N)) : Za6 Tryz.prog C (ZtE N) ZsL [0, 1, 0, 1, 1, 1, 1] :=
 Za7 (Λi := ZlT N) (tr := true) (ks := ZmF) (kx := Zt2) (N := N) hC hΦ
  (Zah (by kernel_rfl))
  fun R E s K r h => by
   have h2 := ZaA.add_self.symm.trans h
   obtain ⟨_, _, _, _, _, _, _, _, he, rfl, h3⟩ := ZnN h2
   rw [he]
   exact (Zz6 N _ _ _ _ _ _ _ _ N _).trans h3
theorem ZKj : ZaX ZyV [] = [([0, 1, 0, 1, 1], ZsJ), ([0, 1, 0, 1, 1, 1, 1], ZsL)] := by kernel_rfl
theorem ZLS {R : Type} (N : Nat) (e_1 : List V) (f_2 : Fl) (x_3 : Int) (K : V → S → Option R) : Za0 C (Znf N) (ZtE N) 85 Tryz.f85 [.agg [.list 7 e_1 f_2, .int .i64 x_3]] [] K =
 Zom N e_1 f_2 x_3 (fun b_4 => K (.bool b_4) []) := by kernel_rfl
theorem ZCj {N : Nat} (hC : Ok Tryz.prog C) (hΦ : Zaa Tryz.prog C (Znf N)) : ZaV Tryz.prog C (ZtE N) ZyV [] :=
 ZaC ZyV [] (by
  rw [ZKj]
  intro p hp
  simp only [List.mem_cons, List.mem_nil_iff, or_false] at hp
  rcases hp with rfl | rfl
  ·exact (Za6.add (ZEj hC hΦ) rfl)
  ·exact (ZFu hC hΦ))
theorem Zw9 (hC : Ok Tryz.prog C) {N : Nat} (hΦ : Zaa Tryz.prog C (Znf N)) : Zaa Tryz.prog C (ZEr N) := by
 refine hΦ.add_pure rfl fun R vs K r h => ?_
 unfold ZJ1 at h
 obtain ⟨_, rfl, h1⟩ := Zaq h
 obtain ⟨_, _, _, rfl, h2⟩ := Zau h1
 obtain ⟨_, h3⟩ := Zae h2
 refine Zam (fn := Tryz.f85) (c := ZyV) hC hΦ Tryz.func85 (by kernel_rfl) (by kernel_rfl) (ZCj (N := N) hC hΦ) rfl rfl ?_
 refine (ZLS N _ _ _ _).trans ?_
 rw [← Zwk]
 exact h3
def ZJS (N : Nat) : (R : Type) → List V → S → (V → S → Option R) → Option R := fun _ vs s K =>
 Zcf vs fun v'1 => Zbk v'1 fun x_1 x_2 => ZaI s <| ZIA N x_1 x_2 (fun b_3 => K (.bool b_3) [])
def ZEs (N : Nat) : Zar := (ZEr N).add 86 (ZJS N)
def ZMQ : Code := ZaK Tryz.f86
theorem ZL6 {R : Type} (N : Nat) (x_1 x_2 : Int) (K : V → S → Option R) : Za0 C (ZEr N) (Zac) 86 Tryz.f86 [.agg [.int .i64 x_1, .int .i64 x_2]] [] K =
 Zn2 N x_1 x_2 (fun b_3 => K (.bool b_3) []) := by kernel_rfl
theorem Zyp (hC : Ok Tryz.prog C) {N : Nat} (hΦ : Zaa Tryz.prog C (ZEr N)) : Zaa Tryz.prog C (ZEs N) := by
 refine hΦ.add_pure rfl fun R vs K r h => ?_
 unfold ZJS at h
 obtain ⟨_, rfl, h1⟩ := Zaq h
 obtain ⟨_, _, rfl, h2⟩ := ZaY h1
 obtain ⟨_, h3⟩ := Zae h2
 refine Zam (fn := Tryz.f86) (c := ZMQ) hC hΦ Tryz.func86 (by kernel_rfl) (by kernel_rfl) (Zah (Λ := Zac) (by kernel_rfl)) rfl rfl ?_
 refine (ZL6 N _ _ _).trans ?_
 rw [← Zwf]
 exact h3
def ZLg (N : Nat) : (R : Type) → List V → S → (V → S → Option R) → Option R := fun _ vs s K =>
 Zch vs fun v'1 v'2 => ZaU v'1 fun e_1 f_2 x_3 => Zbk v'2 fun x_4 x_5 => ZaI s <| ZFW N e_1 f_2 x_3 x_4 x_5 (fun b_6 => K (.bool b_6) [])
def ZDO (N : Nat) : Zar := (ZEs N).add 45 (ZLg N)
def ZL8 : Code := ZaK Tryz.f45
theorem ZNy {R : Type} (N : Nat) (e_1 : List V) (f_2 : Fl) (x_3 x_4 x_5 : Int) (K : V → S → Option R) : Za0 C (ZEs N) (Zac) 45 Tryz.f45 [.agg [.list 7 e_1 f_2, .int .i64 x_3], .agg [.int .i64 x_4, .int .i64 x_5]] [] K =
 ZpG N e_1 f_2 x_3 x_4 x_5 (fun b_6 => K (.bool b_6) []) := by kernel_rfl
theorem Zyk (hC : Ok Tryz.prog C) {N : Nat} (hΦ : Zaa Tryz.prog C (ZEs N)) : Zaa Tryz.prog C (ZDO N) := by
 refine hΦ.add_pure rfl fun R vs K r h => ?_
 unfold ZLg at h
 obtain ⟨_, _, rfl, h1⟩ := Zap h
 obtain ⟨_, _, _, rfl, h2⟩ := Zau h1
 obtain ⟨_, _, rfl, h3⟩ := ZaY h2
 obtain ⟨_, h4⟩ := Zae h3
 refine Zam (fn := Tryz.f45) (c := ZL8) hC hΦ Tryz.func45 (by kernel_rfl) (by kernel_rfl) (Zah (Λ := Zac) (by kernel_rfl)) rfl rfl ?_
 refine (ZNy N _ _ _ _ _ _).trans ?_
 rw [← ZvH]
 exact h4
def ZJu (N : Nat) : (R : Type) → List V → S → (V → S → Option R) → Option R := fun _ vs s K =>
 Zcf vs fun v'1 => Zbt v'1 fun w_1 => ZaI s <| ZGA N w_1 (fun b_2 => K (.bool b_2) [])
def ZDE (N : Nat) : Zar := (ZDO N).add 87 (ZJu N)
def ZM3 : Code := ZaK Tryz.f87
theorem ZM2 {R : Type} (N : Nat) (w_1 : ByteArray) (K : V → S → Option R) : Za0 C (ZDO N) (Zac) 87 Tryz.f87 [.str w_1] [] K =
 ZoX N w_1 (fun b_2 => K (.bool b_2) []) := by kernel_rfl
theorem ZyP (hC : Ok Tryz.prog C) {N : Nat} (hΦ : Zaa Tryz.prog C (ZDO N)) : Zaa Tryz.prog C (ZDE N) := by
 refine hΦ.add_pure rfl fun R vs K r h => ?_
 unfold ZJu at h
 obtain ⟨_, rfl, h1⟩ := Zaq h
 obtain ⟨_, rfl, h2⟩ := Zav h1
 obtain ⟨_, h3⟩ := Zae h2
 refine Zam (fn := Tryz.f87) (c := ZM3) hC hΦ Tryz.func87 (by kernel_rfl) (by kernel_rfl) (Zah (Λ := Zac) (by kernel_rfl)) rfl rfl ?_
 refine (ZM2 N _ _).trans ?_
 rw [← ZwF]
 exact h3
def ZJD (N : Nat) : (R : Type) → List V → S → (V → S → Option R) → Option R := fun _ vs s K =>
 ZLu vs fun v'1 v'2 v'3 v'4 v'5 => Zbk v'1 fun x_1 x_2 => asInt .i64 v'2 fun x_3 => asInt .i64 v'3 fun x_4 => asInt .i64 v'4 fun x_5 => asInt .i64 v'5 fun x_6 => ZaI s <| ZDv N x_1 x_2 x_3 x_4 x_5 x_6 (fun b_7 => K (.bool b_7) [])
def ZGl (N : Nat) : Zar := (ZDE N).add 106 (ZJD N)
def ZNt : Code := ZaK Tryz.f106
theorem ZMn {R : Type} (N : Nat) (x_1 x_2 x_3 x_4 x_5 x_6 : Int) (K : V → S → Option R) : Za0 C (ZDE N) (Zac) 106 Tryz.f106 [.agg [.int .i64 x_1, .int .i64 x_2], .int .i64 x_3, .int .i64 x_4, .int .i64 x_5, .int .i64 x_6] [] K =
 Zp0 N x_1 x_2 x_3 x_4 x_5 x_6 (fun b_7 => K (.bool b_7) []) := by kernel_rfl
theorem Zxj (hC : Ok Tryz.prog C) {N : Nat} (hΦ : Zaa Tryz.prog C (ZDE N)) : Zaa Tryz.prog C (ZGl N) := by
 refine hΦ.add_pure rfl fun R vs K r h => ?_
 unfold ZJD at h
 obtain ⟨_, _, _, _, _, rfl, h1⟩ := ZpE h
 obtain ⟨_, _, rfl, h2⟩ := ZaY h1
 obtain ⟨_, rfl, h3⟩ := Zaf h2
 obtain ⟨_, rfl, h4⟩ := Zaf h3
 obtain ⟨_, rfl, h5⟩ := Zaf h4
 obtain ⟨_, rfl, h6⟩ := Zaf h5
 obtain ⟨_, h7⟩ := Zae h6
 refine Zam (fn := Tryz.f106) (c := ZNt) hC hΦ Tryz.func106 (by kernel_rfl) (by kernel_rfl) (Zah (Λ := Zac) (by kernel_rfl)) rfl rfl ?_
 refine (ZMn N _ _ _ _ _ _ _).trans ?_
 rw [← ZuW]
 exact h7
def ZJw (N : Nat) : (R : Type) → List V → S → (V → S → Option R) → Option R := fun _ vs s K =>
 ZHg vs fun v'1 v'2 v'3 v'4 => ZaU v'1 fun e_1 f_2 x_3 => Zbk v'2 fun x_4 x_5 => asInt .i64 v'3 fun x_6 => asInt .i64 v'4 fun x_7 => ZaI s <| ZD3 N e_1 f_2 x_3 x_4 x_5 x_6 x_7 (fun b_8 => K (.bool b_8) [])
def Zl2 (N : Nat) : Zar := (ZGl N).add 54 (ZJw N)
def ZMB : Code := ZaK Tryz.f54
theorem ZNk {R : Type} (N : Nat) (e_1 : List V) (f_2 : Fl) (x_3 x_4 x_5 x_6 x_7 : Int) (K : V → S → Option R) : Za0 C (ZGl N) (Zac) 54 Tryz.f54 [.agg [.list 7 e_1 f_2, .int .i64 x_3], .agg [.int .i64 x_4, .int .i64 x_5], .int .i64 x_6, .int .i64 x_7] [] K =
 ZqA N e_1 f_2 x_3 x_4 x_5 x_6 x_7 (fun b_8 => K (.bool b_8) []) := by kernel_rfl
theorem ZxN (hC : Ok Tryz.prog C) {N : Nat} (hΦ : Zaa Tryz.prog C (ZGl N)) : Zaa Tryz.prog C (Zl2 N) := by
 refine hΦ.add_pure rfl fun R vs K r h => ?_
 unfold ZJw at h
 obtain ⟨_, _, _, _, rfl, h1⟩ := ZeN h
 obtain ⟨_, _, _, rfl, h2⟩ := Zau h1
 obtain ⟨_, _, rfl, h3⟩ := ZaY h2
 obtain ⟨_, rfl, h4⟩ := Zaf h3
 obtain ⟨_, rfl, h5⟩ := Zaf h4
 obtain ⟨_, h6⟩ := Zae h5
 refine Zam (fn := Tryz.f54) (c := ZMB) hC hΦ Tryz.func54 (by kernel_rfl) (by kernel_rfl) (Zah (Λ := Zac) (by kernel_rfl)) rfl rfl ?_
 refine (ZNk N _ _ _ _ _ _ _ _).trans ?_
 rw [← ZwP]
 exact h6
def ZKB (N : Nat) : (R : Type) → List V → S → (V → S → Option R) → Option R := fun _ vs s K =>
 Zch vs fun v'1 v'2 => ZaU v'1 fun e_1 f_2 x_3 => asInt .i64 v'2 fun x_4 => ZaI s <| ZBG N e_1 f_2 x_3 x_4 (fun x_5 => K (.int .i64 x_5) [])
def Zru (N : Nat) : Zar := (Zl2 N).add 109 (ZKB N)
def ZCU : Code := ZaK Tryz.f109
def Zh7 : Code := (Zbo ZCU [] 0).2
def Ztx : Code := (Zbo Zh7 (0 :: [0, 1, 0, 1]) 0).2
def ZlN : List Nat := ZbQ 31 [1, 5, 10, 11, 12, 18, 19, 20]
def ZvN : List Nat := ZbQ 31 [1, 4, 10, 11, 12]
def Zja (x_1 x_2 : Int) (e_3 : List V) (f_4 : Fl) (x_5 x_6 : Int) (e_7 : List V) (f_8 : Fl) (x_9 : Int) (e_11 : List V) (f_12 : Fl) (x_13 x_14 x_15 x_16 x_17 x_18 : Int) (w_19 : ByteArray) (e_20 : List V) (f_21 : Fl) (x_10 : Int) : List V := mkF 0 31 [(1, .int .i64 x_1), (5, .int .i64 x_2), (10, .list 7 e_3 f_4), (11, .int .i64 x_5), (12, .int .i64 x_6), (18, .list 2 e_7 f_8), (19, .int .i64 x_9), (20, .int .i64 x_10)]
def Zhk {R : Type} (K : X → List V → S → Option R) (x_1 : Int) (x_2 : Int) (e_3 : List V) (f_4 : Fl) (x_5 : Int) (x_6 : Int) (e_7 : List V) (f_8 : Fl) (x_9 : Int) (e_11 : List V) (f_12 : Fl) (x_13 : Int) (x_14 : Int) (x_15 : Int) (x_16 : Int) (x_17 : Int) (x_18 : Int) (w_19 : ByteArray) (e_20 : List V) (f_21 : Fl) : Unit → Option R := (fun _ => K .ret (mkF 0 31 [(1, .int .i64 x_1), (4, .int .i64 x_2), (10, .list 7 e_3 f_4), (11, .int .i64 x_5), (12, .int .i64 x_6)]) [some ⟨[.agg [.list 7 e_11 f_12, .int .i64 x_13]], 2, 34, 0⟩, some ⟨[.agg [.int .i64 x_14, .int .i64 x_15, .int .i64 x_16, .int .i64 x_17, .int .i64 x_18, .str w_19, .list 2 e_20 f_21]], 7, 87, 0⟩])
def ZhO {R : Type} (K : X → List V → S → Option R) (x_1 : Int) (x_2 : Int) (e_3 : List V) (f_4 : Fl) (x_5 : Int) (x_6 : Int) (e_7 : List V) (f_8 : Fl) (x_9 : Int) (e_11 : List V) (f_12 : Fl) (x_13 : Int) (x_14 : Int) (x_15 : Int) (x_16 : Int) (x_17 : Int) (x_18 : Int) (w_19 : ByteArray) (e_20 : List V) (f_21 : Fl) : Unit → Option R := (fun _ => K (.exit 2) (mkF 0 31 [(1, .int .i64 x_1), (10, .list 7 e_3 f_4), (11, .int .i64 x_5), (12, .int .i64 x_6)]) [some ⟨[.agg [.list 7 e_11 f_12, .int .i64 x_13]], 2, 34, 0⟩, some ⟨[.agg [.int .i64 x_14, .int .i64 x_15, .int .i64 x_16, .int .i64 x_17, .int .i64 x_18, .str w_19, .list 2 e_20 f_21]], 7, 87, 0⟩])
abbrev ZmS {R : Type} (N : Nat) : Nat → List V → S → (X → List V → S → Option R) → Option R := fun n => Zdx C (Zl2 N) (Zac) Ztx [0, 1, 1, 0, 0, 1, 1, 0, 0, 1, 0, 1] true ZlN ZvN n R
theorem ZHO {R : Type} (N n : Nat) (x_1 x_2 : Int) (e_3 : List V) (f_4 : Fl) (x_5 x_6 : Int) (e_7 : List V) (f_8 : Fl) (x_9 : Int) (e_11 : List V) (f_12 : Fl) (x_13 x_14 x_15 x_16 x_17 x_18 : Int) (w_19 : ByteArray) (e_20 : List V) (f_21 : Fl) (x_10 : Int) (K : X → List V → S → Option R) :
 ZmS N (n + 1) (Zja x_1 x_2 e_3 f_4 x_5 x_6 e_7 f_8 x_9 e_11 f_12 x_13 x_14 x_15 x_16 x_17 x_18 w_19 e_20 f_21 x_10) [some ⟨[.agg [.list 7 e_11 f_12, .int .i64 x_13]], 2, 34, 0⟩, some ⟨[.agg [.int .i64 x_14, .int .i64 x_15, .int .i64 x_16, .int .i64 x_17, .int .i64 x_18, .str w_19, .list 2 e_20 f_21]], 7, 87, 0⟩] K =
 Zdc N x_1 x_2 e_3 f_4 x_5 x_6 e_7 f_8 x_9 e_11 f_12 x_13 x_14 x_15 x_16 x_17 x_18 w_19 e_20 f_21 (fun x_10 => ZmS N n (Zja x_1 x_2 e_3 f_4 x_5 x_6 e_7 f_8 x_9 e_11 f_12 x_13 x_14 x_15 x_16 x_17 x_18 w_19 e_20 f_21 x_10) [some ⟨[.agg [.list 7 e_11 f_12, .int .i64 x_13]], 2, 34, 0⟩, some ⟨[.agg [.int .i64 x_14, .int .i64 x_15, .int .i64 x_16, .int .i64 x_17, .int .i64 x_18, .str w_19, .list 2 e_20 f_21]], 7, 87, 0⟩] K) x_10 (Zhk K x_1 x_2 e_3 f_4 x_5 x_6 e_7 f_8 x_9 e_11 f_12 x_13 x_14 x_15 x_16 x_17 x_18 w_19 e_20 f_21) (ZhO K x_1 x_2 e_3 f_4 x_5 x_6 e_7 f_8 x_9 e_11 f_12 x_13 x_14 x_15 x_16 x_17 x_18 w_19 e_20 f_21) := by kernel_rfl
theorem ZAU {R : Type} (N : Nat) (x_1 x_2 : Int) (e_3 : List V) (f_4 : Fl) (x_5 x_6 : Int) (e_7 : List V) (f_8 : Fl) (x_9 : Int) (e_11 : List V) (f_12 : Fl) (x_13 x_14 x_15 x_16 x_17 x_18 : Int) (w_19 : ByteArray) (e_20 : List V) (f_21 : Fl) (K : X → List V → S → Option R) : ∀ (n : Nat) (x_10 : Int),
 ZmS N n (Zja x_1 x_2 e_3 f_4 x_5 x_6 e_7 f_8 x_9 e_11 f_12 x_13 x_14 x_15 x_16 x_17 x_18 w_19 e_20 f_21 x_10) [some ⟨[.agg [.list 7 e_11 f_12, .int .i64 x_13]], 2, 34, 0⟩, some ⟨[.agg [.int .i64 x_14, .int .i64 x_15, .int .i64 x_16, .int .i64 x_17, .int .i64 x_18, .str w_19, .list 2 e_20 f_21]], 7, 87, 0⟩] K = Zfd N x_1 x_2 e_3 f_4 x_5 x_6 e_7 f_8 x_9 e_11 f_12 x_13 x_14 x_15 x_16 x_17 x_18 w_19 e_20 f_21 (Zhk K x_1 x_2 e_3 f_4 x_5 x_6 e_7 f_8 x_9 e_11 f_12 x_13 x_14 x_15 x_16 x_17 x_18 w_19 e_20 f_21) (ZhO K x_1 x_2 e_3 f_4 x_5 x_6 e_7 f_8 x_9 e_11 f_12 x_13 x_14 x_15 x_16 x_17 x_18 w_19 e_20 f_21) n x_10
 | 0, _ => rfl
 | n + 1, x_10 => (ZHO N n x_1 x_2 e_3 f_4 x_5 x_6 e_7 f_8 x_9 e_11 f_12 x_13 x_14 x_15 x_16 x_17 x_18 w_19 e_20 f_21 x_10 K).trans (congrArg (fun nx => Zdc N x_1 x_2 e_3 f_4 x_5 x_6 e_7 f_8 x_9 e_11 f_12 x_13 x_14 x_15 x_16 x_17 x_18 w_19 e_20 f_21 nx x_10 (Zhk K x_1 x_2 e_3 f_4 x_5 x_6 e_7 f_8 x_9 e_11 f_12 x_13 x_14 x_15 x_16 x_17 x_18 w_19 e_20 f_21) (ZhO K x_1 x_2 e_3 f_4 x_5 x_6 e_7 f_8 x_9 e_11 f_12 x_13 x_14 x_15 x_16 x_17 x_18 w_19 e_20 f_21)) (funext fun x_10 => ZAU N x_1 x_2 e_3 f_4 x_5 x_6 e_7 f_8 x_9 e_11 f_12 x_13 x_14 x_15 x_16 x_17 x_18 w_19 e_20 f_21 K n x_10))
def Zrj {R : Type} (E : List V) (s : S) (k : Int → Int → List V → Fl → Int → Int → List V → Fl → Int → Int → List V → Fl → Int → Int → Int → Int → Int → Int → ByteArray → List V → Fl → Option R) : Option R :=
 Zao (Za1 31 [1, 5, 10, 11, 12, 18, 19, 20] E) <| ZaT E 1 .i64 fun x_1 => ZaT E 5 .i64 fun x_2 => Zbr E 10 7 fun e_3 f_4 => ZaT E 11 .i64 fun x_5 => ZaT E 12 .i64 fun x_6 => Zbr E 18 2 fun e_7 f_8 => ZaT E 19 .i64 fun x_9 => ZaT E 20 .i64 fun x_10 => ZdV s fun o'1 s'2 => ZdU o'1 2 34 fun e'3 k'4 => isN k'4 0 <| Zcf e'3 fun v'5 => asAgg v'5 fun c'6 => Zch c'6 fun v'7 v'8 => ZaQ 7 v'7 fun e_11 f_12 => asInt .i64 v'8 fun x_13 => ZdV s'2 fun o'9 s'10 => ZdU o'9 7 87 fun e'11 k'12 => isN k'12 0 <| Zcf e'11 fun v'13 => asAgg v'13 fun c'14 => ZGO c'14 fun v'15 v'16 v'17 v'18 v'19 v'20 v'21 => asInt .i64 v'15 fun x_14 => asInt .i64 v'16 fun x_15 => asInt .i64 v'17 fun x_16 => asInt .i64 v'18 fun x_17 => asInt .i64 v'19 fun x_18 => Zbt v'20 fun w_19 => ZaQ 2 v'21 fun e_20 f_21 => ZaI s'10 <| k x_1 x_2 e_3 f_4 x_5 x_6 e_7 f_8 x_9 x_10 e_11 f_12 x_13 x_14 x_15 x_16 x_17 x_18 w_19 e_20 f_21
theorem ZnG {R : Type} {E : List V} {s : S} {k : Int → Int → List V → Fl → Int → Int → List V → Fl → Int → Int → List V → Fl → Int → Int → Int → Int → Int → Int → ByteArray → List V → Fl → Option R} {r : R} (h : Zrj E s k = some r) : ∃ x_1 x_2 e_3 f_4 x_5 x_6 e_7 f_8 x_9 x_10 e_11 f_12 x_13 x_14 x_15 x_16 x_17 x_18 w_19 e_20 f_21, E = Zja x_1 x_2 e_3 f_4 x_5 x_6 e_7 f_8 x_9 e_11 f_12 x_13 x_14 x_15 x_16 x_17 x_18 w_19 e_20 f_21 x_10 ∧ s = [some ⟨[.agg [.list 7 e_11 f_12, .int .i64 x_13]], 2, 34, 0⟩, some ⟨[.agg [.int .i64 x_14, .int .i64 x_15, .int .i64 x_16, .int .i64 x_17, .int .i64 x_18, .str w_19, .list 2 e_20 f_21]], 7, 87, 0⟩] ∧ k x_1 x_2 e_3 f_4 x_5 x_6 e_7 f_8 x_9 x_10 e_11 f_12 x_13 x_14 x_15 x_16 x_17 x_18 w_19 e_20 f_21 = some r := by
 unfold Zrj at h
 obtain ⟨hg, h1⟩ := Zad h
 obtain ⟨_, hu1, h2⟩ := Zai h1
 obtain ⟨_, hu5, h3⟩ := Zai h2
 obtain ⟨_, _, hu10, h4⟩ := Zax h3
 obtain ⟨_, hu11, h5⟩ := Zai h4
 obtain ⟨_, hu12, h6⟩ := Zai h5
 obtain ⟨_, _, hu18, h7⟩ := Zax h6
 obtain ⟨_, hu19, h8⟩ := Zai h7
 obtain ⟨_, hu20, h9⟩ := Zai h8
 obtain ⟨_, _, rfl, h10⟩ := ZaN h9
 obtain ⟨_, _, rfl, h11⟩ := ZaM h10
 obtain ⟨rfl, h12⟩ := Zat h11
 obtain ⟨_, rfl, h13⟩ := Zaq h12
 obtain ⟨_, rfl, h14⟩ := ZaB h13
 obtain ⟨_, _, rfl, h15⟩ := Zap h14
 obtain ⟨_, _, rfl, h16⟩ := Zaj h15
 obtain ⟨_, rfl, h17⟩ := Zaf h16
 obtain ⟨_, _, rfl, h18⟩ := ZaN h17
 obtain ⟨_, _, rfl, h19⟩ := ZaM h18
 obtain ⟨rfl, h20⟩ := Zat h19
 obtain ⟨_, rfl, h21⟩ := Zaq h20
 obtain ⟨_, rfl, h22⟩ := ZaB h21
 obtain ⟨_, _, _, _, _, _, _, rfl, h23⟩ := Zen h22
 obtain ⟨_, rfl, h24⟩ := Zaf h23
 obtain ⟨_, rfl, h25⟩ := Zaf h24
 obtain ⟨_, rfl, h26⟩ := Zaf h25
 obtain ⟨_, rfl, h27⟩ := Zaf h26
 obtain ⟨_, rfl, h28⟩ := Zaf h27
 obtain ⟨_, rfl, h29⟩ := Zav h28
 obtain ⟨_, _, rfl, h30⟩ := Zaj h29
 obtain ⟨rfl, h31⟩ := Zae h30
 exact ⟨_, _, _, _, _, _, _, _, _, _, _, _, _, _, _, _, _, _, _, _, _, ZaP hg rfl (Zab hu1 (Zab hu5 (Zab hu10 (Zab hu11 (Zab hu12 (Zab hu18 (Zab hu19 (Zab hu20 ZaG)))))))), rfl, h31⟩
def Zlf (N : Nat) : ZaA := (Zac).add [0, 1, 1, 0, 0, 1, 1, 0, 0, 1, 0, 1] fun _ E s K => Zrj (Zbd ZlN E) s fun x_1 x_2 e_3 f_4 x_5 x_6 e_7 f_8 x_9 x_10 e_11 f_12 x_13 x_14 x_15 x_16 x_17 x_18 w_19 e_20 f_21 => Zfd N x_1 x_2 e_3 f_4 x_5 x_6 e_7 f_8 x_9 e_11 f_12 x_13 x_14 x_15 x_16 x_17 x_18 w_19 e_20 f_21 (Zhk K x_1 x_2 e_3 f_4 x_5 x_6 e_7 f_8 x_9 e_11 f_12 x_13 x_14 x_15 x_16 x_17 x_18 w_19 e_20 f_21) (ZhO K x_1 x_2 e_3 f_4 x_5 x_6 e_7 f_8 x_9 e_11 f_12 x_13 x_14 x_15 x_16 x_17 x_18 w_19 e_20 f_21) N x_10
theorem ZF9 {N : Nat} (hC : Ok Tryz.prog C) (hΦ : Zaa Tryz.prog C (Zl2 N)) : Za6 Tryz.prog C (Zlf N) Ztx [0, 1, 1, 0, 0, 1, 1, 0, 0, 1, 0, 1] :=
 Za7 (Λi := Zac) (tr := true) (ks := ZlN) (kx := ZvN) (N := N) hC hΦ
  (Zah (by kernel_rfl))
  fun R E s K r h => by
   have h2 := ZaA.add_self.symm.trans h
   obtain ⟨_, _, _, _, _, _, _, _, _, _, _, _, _, _, _, _, _, _, _, _, _, he, rfl, h3⟩ := ZnG h2
   rw [he]
   exact (ZAU N _ _ _ _ _ _ _ _ _ _ _ _ _ _ _ _ _ _ _ _ _ N _).trans h3
def Zmx : List Nat := ZbQ 31 [1, 10, 11, 12]
def ZuH : List Nat := ZbQ 31 [4]
def Zjk (x_1 : Int) (e_2 : List V) (f_3 : Fl) (x_4 : Int) (e_6 : List V) (f_7 : Fl) (x_8 x_5 : Int) : List V := mkF 0 31 [(1, .int .i64 x_1), (10, .list 7 e_2 f_3), (11, .int .i64 x_4), (12, .int .i64 x_5)]
def Zht {R : Type} (K : X → List V → S → Option R) (x_1 : Int) (e_2 : List V) (f_3 : Fl) (x_4 : Int) (e_6 : List V) (f_7 : Fl) (x_8 : Int) : Int → Option R := (fun x_1' => K .ret (mkF 0 31 [(4, .int .i64 (x_1'))]) [some ⟨[.agg [.list 7 e_6 f_7, .int .i64 x_8]], 2, 34, 0⟩])
def Zgy {R : Type} (K : X → List V → S → Option R) (x_1 : Int) (e_2 : List V) (f_3 : Fl) (x_4 : Int) (e_6 : List V) (f_7 : Fl) (x_8 : Int) : Unit → Option R := (fun _ => K (.exit 0) (mkF 0 31 []) [some ⟨[.agg [.list 7 e_6 f_7, .int .i64 x_8]], 2, 34, 0⟩])
abbrev Zmb {R : Type} (N : Nat) : Nat → List V → S → (X → List V → S → Option R) → Option R := fun n => Zdx C (Zl2 N) (Zlf N) Zh7 [0, 1, 0, 1] true Zmx ZuH n R
theorem ZHq {R : Type} (N n : Nat) (x_1 : Int) (e_2 : List V) (f_3 : Fl) (x_4 : Int) (e_6 : List V) (f_7 : Fl) (x_8 : Int) (x_5 : Int) (K : X → List V → S → Option R) :
 Zmb N (n + 1) (Zjk x_1 e_2 f_3 x_4 e_6 f_7 x_8 x_5) [some ⟨[.agg [.list 7 e_6 f_7, .int .i64 x_8]], 2, 34, 0⟩] K =
 Zdl N x_1 e_2 f_3 x_4 e_6 f_7 x_8 (fun x_5 => Zmb N n (Zjk x_1 e_2 f_3 x_4 e_6 f_7 x_8 x_5) [some ⟨[.agg [.list 7 e_6 f_7, .int .i64 x_8]], 2, 34, 0⟩] K) x_5 (Zht K x_1 e_2 f_3 x_4 e_6 f_7 x_8) (Zgy K x_1 e_2 f_3 x_4 e_6 f_7 x_8) := by kernel_rfl
theorem ZzD {R : Type} (N : Nat) (x_1 : Int) (e_2 : List V) (f_3 : Fl) (x_4 : Int) (e_6 : List V) (f_7 : Fl) (x_8 : Int) (K : X → List V → S → Option R) : ∀ (n : Nat) (x_5 : Int),
 Zmb N n (Zjk x_1 e_2 f_3 x_4 e_6 f_7 x_8 x_5) [some ⟨[.agg [.list 7 e_6 f_7, .int .i64 x_8]], 2, 34, 0⟩] K = Zgg N x_1 e_2 f_3 x_4 e_6 f_7 x_8 (Zht K x_1 e_2 f_3 x_4 e_6 f_7 x_8) (Zgy K x_1 e_2 f_3 x_4 e_6 f_7 x_8) n x_5
 | 0, _ => rfl
 | n + 1, x_5 => (ZHq N n x_1 e_2 f_3 x_4 e_6 f_7 x_8 x_5 K).trans (congrArg (fun nx => Zdl N x_1 e_2 f_3 x_4 e_6 f_7 x_8 nx x_5 (Zht K x_1 e_2 f_3 x_4 e_6 f_7 x_8) (Zgy K x_1 e_2 f_3 x_4 e_6 f_7 x_8)) (funext fun x_5 => ZzD N x_1 e_2 f_3 x_4 e_6 f_7 x_8 K n x_5))
def Zsx {R : Type} (E : List V) (s : S) (k : Int → List V → Fl → Int → Int → List V → Fl → Int → Option R) : Option R :=
 Zao (Za1 31 [1, 10, 11, 12] E) <| ZaT E 1 .i64 fun x_1 => Zbr E 10 7 fun e_2 f_3 => ZaT E 11 .i64 fun x_4 => ZaT E 12 .i64 fun x_5 => ZdV s fun o'1 s'2 => ZdU o'1 2 34 fun e'3 k'4 => isN k'4 0 <| Zcf e'3 fun v'5 => asAgg v'5 fun c'6 => Zch c'6 fun v'7 v'8 => ZaQ 7 v'7 fun e_6 f_7 => asInt .i64 v'8 fun x_8 => ZaI s'2 <| k x_1 e_2 f_3 x_4 x_5 e_6 f_7 x_8
theorem Zn5 {R : Type} {E : List V} {s : S} {k : Int → List V → Fl → Int → Int → List V → Fl → Int → Option R} {r : R} (h : Zsx E s k = some r) : ∃ x_1 e_2 f_3 x_4 x_5 e_6 f_7 x_8, E = Zjk x_1 e_2 f_3 x_4 e_6 f_7 x_8 x_5 ∧ s = [some ⟨[.agg [.list 7 e_6 f_7, .int .i64 x_8]], 2, 34, 0⟩] ∧ k x_1 e_2 f_3 x_4 x_5 e_6 f_7 x_8 = some r := by
 unfold Zsx at h
 obtain ⟨hg, h1⟩ := Zad h
 obtain ⟨_, hu1, h2⟩ := Zai h1
 obtain ⟨_, _, hu10, h3⟩ := Zax h2
 obtain ⟨_, hu11, h4⟩ := Zai h3
 obtain ⟨_, hu12, h5⟩ := Zai h4
 obtain ⟨_, _, rfl, h6⟩ := ZaN h5
 obtain ⟨_, _, rfl, h7⟩ := ZaM h6
 obtain ⟨rfl, h8⟩ := Zat h7
 obtain ⟨_, rfl, h9⟩ := Zaq h8
 obtain ⟨_, rfl, h10⟩ := ZaB h9
 obtain ⟨_, _, rfl, h11⟩ := Zap h10
 obtain ⟨_, _, rfl, h12⟩ := Zaj h11
 obtain ⟨_, rfl, h13⟩ := Zaf h12
 obtain ⟨rfl, h14⟩ := Zae h13
 exact ⟨_, _, _, _, _, _, _, _, ZaP hg rfl (Zab hu1 (Zab hu10 (Zab hu11 (Zab hu12 ZaG)))), rfl, h14⟩
def Ztu (N : Nat) : ZaA := (Zlf N).add [0, 1, 0, 1] fun _ E s K => Zsx (Zbd Zmx E) s fun x_1 e_2 f_3 x_4 x_5 e_6 f_7 x_8 => Zgg N x_1 e_2 f_3 x_4 e_6 f_7 x_8 (Zht K x_1 e_2 f_3 x_4 e_6 f_7 x_8) (Zgy K x_1 e_2 f_3 x_4 e_6 f_7 x_8) N x_5
theorem ZDm : ZaX Zh7 (0 :: [0, 1, 0, 1]) = [([0, 1, 1, 0, 0, 1, 1, 0, 0, 1, 0, 1], Ztx)] := by kernel_rfl
theorem ZEN {N : Nat} (hC : Ok Tryz.prog C) (hΦ : Zaa Tryz.prog C (Zl2 N)) : Za6 Tryz.prog C (Ztu N) Zh7 [0, 1, 0, 1] :=
 Za7 (Λi := Zlf N) (tr := true) (ks := Zmx) (kx := ZuH) (N := N) hC hΦ
  (ZaC Zh7 _ (by
   rw [ZDm]
   intro p hp
   simp only [List.mem_cons, List.mem_nil_iff, or_false] at hp
   rcases hp with rfl
   ·exact (ZF9 hC hΦ)))
  fun R E s K r h => by
   have h2 := ZaA.add_self.symm.trans h
   obtain ⟨_, _, _, _, _, _, _, _, he, rfl, h3⟩ := Zn5 h2
   rw [he]
   exact (ZzD N _ _ _ _ _ _ _ _ N _).trans h3
theorem ZI4 : ZaX ZCU [] = [([0, 1, 0, 1], Zh7)] := by kernel_rfl
theorem ZNa {R : Type} (N : Nat) (e_1 : List V) (f_2 : Fl) (x_3 x_4 : Int) (K : V → S → Option R) : Za0 C (Zl2 N) (Ztu N) 109 Tryz.f109 [.agg [.list 7 e_1 f_2, .int .i64 x_3], .int .i64 x_4] [] K =
 ZnR N e_1 f_2 x_3 x_4 (fun x_5 => K (.int .i64 x_5) []) := by kernel_rfl
theorem ZAY {N : Nat} (hC : Ok Tryz.prog C) (hΦ : Zaa Tryz.prog C (Zl2 N)) : ZaV Tryz.prog C (Ztu N) ZCU [] :=
 ZaC ZCU [] (by
  rw [ZI4]
  intro p hp
  simp only [List.mem_cons, List.mem_nil_iff, or_false] at hp
  rcases hp with rfl
  ·exact (ZEN hC hΦ))
theorem ZxC (hC : Ok Tryz.prog C) {N : Nat} (hΦ : Zaa Tryz.prog C (Zl2 N)) : Zaa Tryz.prog C (Zru N) := by
 refine hΦ.add_pure rfl fun R vs K r h => ?_
 unfold ZKB at h
 obtain ⟨_, _, rfl, h1⟩ := Zap h
 obtain ⟨_, _, _, rfl, h2⟩ := Zau h1
 obtain ⟨_, rfl, h3⟩ := Zaf h2
 obtain ⟨_, h4⟩ := Zae h3
 refine Zam (fn := Tryz.f109) (c := ZCU) hC hΦ Tryz.func109 (by kernel_rfl) (by kernel_rfl) (ZAY (N := N) hC hΦ) rfl rfl ?_
 refine (ZNa N _ _ _ _ _).trans ?_
 rw [← Zt4]
 exact h4
def ZKg (N : Nat) : (R : Type) → List V → S → (V → S → Option R) → Option R := fun _ vs s K =>
 Zch vs fun v'1 v'2 => ZaQ 2 v'1 fun e_1 f_2 => Zbt v'2 fun w_3 => ZaI s <| ZFz N e_1 f_2 w_3 (fun x_4 => K (.int .i64 x_4) [])
def ZFd (N : Nat) : Zar := (Zru N).add 123 (ZKg N)
def ZAN : Code := ZaK Tryz.f123
def Zr6 : Code := (Zbo ZAN [] 0).2
def Zlp : List Nat := ZbQ 20 [1, 7, 8, 9]
def ZvF : List Nat := ZbQ 20 [4]
def Zjx (w_1 : ByteArray) (e_2 : List V) (f_3 : Fl) (x_4 x_5 : Int) : List V := mkF 0 20 [(1, .str w_1), (7, .list 2 e_2 f_3), (8, .int .i64 x_4), (9, .int .i64 x_5)]
def Zhh {R : Type} (K : X → List V → S → Option R) (w_1 : ByteArray) (e_2 : List V) (f_3 : Fl) (x_4 : Int) : Int → Option R := (fun x_1' => K .ret (mkF 0 20 [(4, .int .i64 (x_1'))]) [])
def ZhH {R : Type} (K : X → List V → S → Option R) (w_1 : ByteArray) (e_2 : List V) (f_3 : Fl) (x_4 : Int) : Unit → Option R := (fun _ => K (.exit 0) (mkF 0 20 []) [])
abbrev Zl3 {R : Type} (N : Nat) : Nat → List V → S → (X → List V → S → Option R) → Option R := fun n => Zdx C (Zru N) (Zac) Zr6 [0, 1, 0, 1] true Zlp ZvF n R
theorem ZHd {R : Type} (N n : Nat) (w_1 : ByteArray) (e_2 : List V) (f_3 : Fl) (x_4 : Int) (x_5 : Int) (K : X → List V → S → Option R) :
 Zl3 N (n + 1) (Zjx w_1 e_2 f_3 x_4 x_5) [] K =
 Zc9 N w_1 e_2 f_3 x_4 (fun x_5 => Zl3 N n (Zjx w_1 e_2 f_3 x_4 x_5) [] K) x_5 (Zhh K w_1 e_2 f_3 x_4) (ZhH K w_1 e_2 f_3 x_4) := by kernel_rfl
theorem ZA9 {R : Type} (N : Nat) (w_1 : ByteArray) (e_2 : List V) (f_3 : Fl) (x_4 : Int) (K : X → List V → S → Option R) : ∀ (n : Nat) (x_5 : Int),
 Zl3 N n (Zjx w_1 e_2 f_3 x_4 x_5) [] K = Zgb N w_1 e_2 f_3 x_4 (Zhh K w_1 e_2 f_3 x_4) (ZhH K w_1 e_2 f_3 x_4) n x_5
 | 0, _ => rfl
 | n + 1, x_5 => (ZHd N n w_1 e_2 f_3 x_4 x_5 K).trans (congrArg (fun nx => Zc9 N w_1 e_2 f_3 x_4 nx x_5 (Zhh K w_1 e_2 f_3 x_4) (ZhH K w_1 e_2 f_3 x_4)) (funext fun x_5 => ZA9 N w_1 e_2 f_3 x_4 K n x_5))
def ZqT {R : Type} (E : List V) (s : S) (k : ByteArray → List V → Fl → Int → Int → Option R) : Option R :=
 Zao (Za1 20 [1, 7, 8, 9] E) <| ZiT E 1 fun w_1 => Zbr E 7 2 fun e_2 f_3 => ZaT E 8 .i64 fun x_4 => ZaT E 9 .i64 fun x_5 => ZaI s <| k w_1 e_2 f_3 x_4 x_5
theorem ZnE {R : Type} {E : List V} {s : S} {k : ByteArray → List V → Fl → Int → Int → Option R} {r : R} (h : ZqT E s k = some r) : ∃ w_1 e_2 f_3 x_4 x_5, E = Zjx w_1 e_2 f_3 x_4 x_5 ∧ s = [] ∧ k w_1 e_2 f_3 x_4 x_5 = some r := by
 unfold ZqT at h
 obtain ⟨hg, h1⟩ := Zad h
 obtain ⟨_, hu1, h2⟩ := Zb0 h1
 obtain ⟨_, _, hu7, h3⟩ := Zax h2
 obtain ⟨_, hu8, h4⟩ := Zai h3
 obtain ⟨_, hu9, h5⟩ := Zai h4
 obtain ⟨rfl, h6⟩ := Zae h5
 exact ⟨_, _, _, _, _, ZaP hg rfl (Zab hu1 (Zab hu7 (Zab hu8 (Zab hu9 ZaG)))), rfl, h6⟩
def ZsM (N : Nat) : ZaA := (Zac).add [0, 1, 0, 1] fun _ E s K => ZqT (Zbd Zlp E) s fun w_1 e_2 f_3 x_4 x_5 => Zgb N w_1 e_2 f_3 x_4 (Zhh K w_1 e_2 f_3 x_4) (ZhH K w_1 e_2 f_3 x_4) N x_5
theorem ZFG {N : Nat} (hC : Ok Tryz.prog C) (hΦ : Zaa Tryz.prog C (Zru N)) : Za6 Tryz.prog C (ZsM N) Zr6 [0, 1, 0, 1] :=
 Za7 (Λi := Zac) (tr := true) (ks := Zlp) (kx := ZvF) (N := N) hC hΦ
  (Zah (by kernel_rfl))
  fun R E s K r h => by
   have h2 := ZaA.add_self.symm.trans h
   obtain ⟨_, _, _, _, _, he, rfl, h3⟩ := ZnE h2
   rw [he]
   exact (ZA9 N _ _ _ _ _ N _).trans h3
theorem ZKS : ZaX ZAN [] = [([0, 1, 0, 1], Zr6)] := by kernel_rfl
theorem ZMa {R : Type} (N : Nat) (e_1 : List V) (f_2 : Fl) (w_3 : ByteArray) (K : V → S → Option R) : Za0 C (Zru N) (ZsM N) 123 Tryz.f123 [.list 2 e_1 f_2, .str w_3] [] K =
 Zqu N e_1 f_2 w_3 (fun x_4 => K (.int .i64 x_4) []) := by kernel_rfl
theorem ZzX {N : Nat} (hC : Ok Tryz.prog C) (hΦ : Zaa Tryz.prog C (Zru N)) : ZaV Tryz.prog C (ZsM N) ZAN [] :=
 ZaC ZAN [] (by
  rw [ZKS]
  intro p hp
  simp only [List.mem_cons, List.mem_nil_iff, or_false] at hp
  rcases hp with rfl
  ·exact (ZFG hC hΦ))
theorem ZyI (hC : Ok Tryz.prog C) {N : Nat} (hΦ : Zaa Tryz.prog C (Zru N)) : Zaa Tryz.prog C (ZFd N) := by
 refine hΦ.add_pure rfl fun R vs K r h => ?_
 unfold ZKg at h
 obtain ⟨_, _, rfl, h1⟩ := Zap h
 obtain ⟨_, _, rfl, h2⟩ := Zaj h1
 obtain ⟨_, rfl, h3⟩ := Zav h2
 obtain ⟨_, h4⟩ := Zae h3
 refine Zam (fn := Tryz.f123) (c := ZAN) hC hΦ Tryz.func123 (by kernel_rfl) (by kernel_rfl) (ZzX (N := N) hC hΦ) rfl rfl ?_
 refine (ZMa N _ _ _ _).trans ?_
 rw [← Zvz]
 exact h4
def ZJr (N : Nat) : (R : Type) → List V → S → (V → S → Option R) → Option R := fun _ vs s K =>
 Zch vs fun v'1 v'2 => ZIn v'1 fun o0 k'4 k'5 k'6 => isN k'4 0 <| isN k'5 0 <| isN k'6 0 <| asBool v'2 fun b_1 => ZLt s o0 0 fun o'7 => ZdU o'7 7 134 fun e'8 k'9 => isN k'9 0 <| Zcf e'8 fun v'10 => Zgt v'10 fun e_2 f_3 x_4 x_5 x_6 x_7 e_8 f_9 x_10 => Zao (ZbU [o0]) <| Zao (okI 1 [true] [some ⟨[.agg [.list 7 e_2 f_3, .int .i64 x_4, .int .i64 x_5, .int .i64 x_6, .int .i64 x_7, .list 1 e_8 f_9, .int .i64 x_10]], 7, 134, 0⟩]) <| Zza N b_1 e_2 f_3 x_4 x_5 x_6 x_7 e_8 f_9 x_10 (fun x_901 e_902 f_903 x_904 x_905 x_906 x_907 e_908 f_909 x_910 => FK s [o0] rl K (.int .i64 x_901) [some ⟨[.agg [.list 7 e_902 f_903, .int .i64 x_904, .int .i64 x_905, .int .i64 x_906, .int .i64 x_907, .list 1 e_908 f_909, .int .i64 x_910]], 7, 134, 0⟩])
def Zsc (N : Nat) : Zar := (ZFd N).add 89 (ZJr N)
def ZMf : Code := ZaK Tryz.f89
theorem ZL1 {R : Type} (N : Nat) (b_1 : Bool) (e_2 : List V) (f_3 : Fl) (x_4 x_5 x_6 x_7 : Int) (e_8 : List V) (f_9 : Fl) (x_10 : Int) (K : V → S → Option R) : Za0 C (ZFd N) (Zac) 89 Tryz.f89 [.ptr 0 0 0 0, .bool b_1] [some ⟨[.agg [.list 7 e_2 f_3, .int .i64 x_4, .int .i64 x_5, .int .i64 x_6, .int .i64 x_7, .list 1 e_8 f_9, .int .i64 x_10]], 7, 134, 0⟩] (GK rl 1 K) =
 Zof N b_1 e_2 f_3 x_4 x_5 x_6 x_7 e_8 f_9 x_10 (fun x_901 e_902 f_903 x_904 x_905 x_906 x_907 e_908 f_909 x_910 => K (.int .i64 x_901) [some ⟨[.agg [.list 7 e_902 f_903, .int .i64 x_904, .int .i64 x_905, .int .i64 x_906, .int .i64 x_907, .list 1 e_908 f_909, .int .i64 x_910]], 7, 134, 0⟩]) := by kernel_rfl
theorem Zzc (hC : Ok Tryz.prog C) {N : Nat} (hΦ : Zaa Tryz.prog C (ZFd N)) : Zaa Tryz.prog C (Zsc N) := by
 refine hΦ.add_shared rfl fun R vs s K r h => ?_
 unfold ZJr at h
 obtain ⟨_, _, rfl, h1⟩ := Zap h
 obtain ⟨o0, _, _, _, rfl, h2⟩ := ZxK h1
 obtain ⟨rfl, h3⟩ := Zat h2
 obtain ⟨rfl, h4⟩ := Zat h3
 obtain ⟨rfl, h5⟩ := Zat h4
 obtain ⟨b_1, rfl, h6⟩ := Zcj h5
 obtain ⟨_, hob0, h7⟩ := Zpa h6
 obtain ⟨_, _, rfl, h8⟩ := ZaM h7
 obtain ⟨rfl, h9⟩ := Zat h8
 obtain ⟨_, rfl, h10⟩ := Zaq h9
 obtain ⟨e_2, f_3, x_4, x_5, x_6, x_7, e_8, f_9, x_10, rfl, h11⟩ := ZiQ h10
 obtain ⟨hdist, h12⟩ := Zad h11
 obtain ⟨hin, h13⟩ := Zad h12
 refine ZeB (fn := Tryz.f89) (c := ZMf) (os := [o0]) (rl := rl) (bi := [true]) (s0 := [some ⟨[.agg [.list 7 e_2 f_3, .int .i64 x_4, .int .i64 x_5, .int .i64 x_6, .int .i64 x_7, .list 1 e_8 f_9, .int .i64 x_10]], 7, 134, 0⟩]) (as0 := [.ptr 0 0 0 0, .bool b_1]) hC hΦ Tryz.func89 (by kernel_rfl) (by kernel_rfl) (Zah (Λ := Zac) (by kernel_rfl)) rfl hdist ⟨⟨_, rfl, hob0⟩, trivial⟩ hin rfl rfl ?_
 refine (ZL1 N _ _ _ _ _ _ _ _ _ _ _).trans ?_
 rw [← ZvM]
 exact h13
def ZKu (N : Nat) : (R : Type) → List V → S → (V → S → Option R) → Option R := fun _ vs s K =>
 ZHg vs fun v'1 v'2 v'3 v'4 => ZaU v'1 fun e_1 f_2 x_3 => Zbk v'2 fun x_4 x_5 => Zbt v'3 fun w_6 => asBool v'4 fun b_7 => ZaI s <| ZGH N e_1 f_2 x_3 x_4 x_5 w_6 b_7 (fun x_8 x_9 => K (.tuple [.int .i64 x_8, .int .i64 x_9]) [])
def ZEq (N : Nat) : Zar := (Zsc N).add 46 (ZKu N)
def ZCg : Code := ZaK Tryz.f46
def Zss : Code := (Zbo ZCg [] 0).2
def ZmQ : List Nat := ZbQ 60 [3, 4, 10, 11]
def Zwz : List Nat := ZbQ 60 [4, 8, 9, 10, 11]
def Zi9 (b_1 b_2 : Bool) (e_3 : List V) (f_4 : Fl) (x_5 x_6 x_7 : Int) (e_8 : List V) (f_9 : Fl) (x_10 x_11 x_12 x_13 : Int) (e_14 : List V) (f_16 : Fl) (x_15 : Int) : List V := mkF 0 60 [(3, .bool b_1), (4, .ptr 0 0 0 0), (10, .bool b_2), (11, .ptr 2 0 0 0)]
def ZgL {R : Type} (K : X → List V → S → Option R) (b_1 : Bool) (b_2 : Bool) (e_3 : List V) (f_4 : Fl) (x_5 : Int) (x_6 : Int) (x_7 : Int) : Int → List V → Fl → Int → Int → Int → Int → List V → Fl → Int → Option R := (fun x_1' e_2' f_3' x_4' x_5' x_6' x_7' e_8' f_9' x_10' => K .ret (mkF 0 60 [(4, .ptr 0 0 0 0), (8, .int .i64 0), (9, .int .i64 (x_1')), (10, .bool b_2), (11, .ptr 2 0 0 0)]) [some ⟨[.agg [.list 7 e_3 f_4, .int .i64 x_5]], 2, 34, 0⟩, some ⟨[.agg [.int .i64 x_6, .int .i64 x_7]], 2, 36, 0⟩, some ⟨[.agg [.list 7 (e_2') (f_3'), .int .i64 (x_4'), .int .i64 (x_5'), .int .i64 (x_6'), .int .i64 (x_7'), .list 1 (e_8') (f_9'), .int .i64 (x_10')]], 7, 134, 0⟩])
def Zhv {R : Type} (K : X → List V → S → Option R) (b_1 : Bool) (b_2 : Bool) (e_3 : List V) (f_4 : Fl) (x_5 : Int) (x_6 : Int) (x_7 : Int) : List V → Fl → Int → Int → Int → Int → List V → Fl → Int → Option R := (fun e_1' f_2' x_3' x_4' x_5' x_6' e_7' f_8' x_9' => K (.exit 0) (mkF 0 60 [(4, .ptr 0 0 0 0), (10, .bool b_2), (11, .ptr 2 0 0 0)]) [some ⟨[.agg [.list 7 e_3 f_4, .int .i64 x_5]], 2, 34, 0⟩, some ⟨[.agg [.int .i64 x_6, .int .i64 x_7]], 2, 36, 0⟩, some ⟨[.agg [.list 7 (e_1') (f_2'), .int .i64 (x_3'), .int .i64 (x_4'), .int .i64 (x_5'), .int .i64 (x_6'), .list 1 (e_7') (f_8'), .int .i64 (x_9')]], 7, 134, 0⟩])
abbrev ZmT {R : Type} (N : Nat) : Nat → List V → S → (X → List V → S → Option R) → Option R := fun n => Zdx C (Zsc N) (Zac) Zss [0, 0, 1, 1, 1, 1] false ZmQ Zwz n R
theorem ZG2 {R : Type} (N n : Nat) (b_1 b_2 : Bool) (e_3 : List V) (f_4 : Fl) (x_5 x_6 x_7 : Int) (e_8 : List V) (f_9 : Fl) (x_10 x_11 x_12 x_13 : Int) (e_14 : List V) (f_16 : Fl) (x_15 : Int) (K : X → List V → S → Option R) :
 ZmT N (n + 1) (Zi9 b_1 b_2 e_3 f_4 x_5 x_6 x_7 e_8 f_9 x_10 x_11 x_12 x_13 e_14 f_16 x_15) [some ⟨[.agg [.list 7 e_3 f_4, .int .i64 x_5]], 2, 34, 0⟩, some ⟨[.agg [.int .i64 x_6, .int .i64 x_7]], 2, 36, 0⟩, some ⟨[.agg [.list 7 e_8 f_9, .int .i64 x_10, .int .i64 x_11, .int .i64 x_12, .int .i64 x_13, .list 1 e_14 f_16, .int .i64 x_15]], 7, 134, 0⟩] K =
 Zd1 N b_1 b_2 e_3 f_4 x_5 x_6 x_7 (fun e_8 f_9 x_10 x_11 x_12 x_13 e_14 f_16 x_15 => ZmT N n (Zi9 b_1 b_2 e_3 f_4 x_5 x_6 x_7 e_8 f_9 x_10 x_11 x_12 x_13 e_14 f_16 x_15) [some ⟨[.agg [.list 7 e_3 f_4, .int .i64 x_5]], 2, 34, 0⟩, some ⟨[.agg [.int .i64 x_6, .int .i64 x_7]], 2, 36, 0⟩, some ⟨[.agg [.list 7 e_8 f_9, .int .i64 x_10, .int .i64 x_11, .int .i64 x_12, .int .i64 x_13, .list 1 e_14 f_16, .int .i64 x_15]], 7, 134, 0⟩] K) e_8 f_9 x_10 x_11 x_12 x_13 e_14 f_16 x_15 (ZgL K b_1 b_2 e_3 f_4 x_5 x_6 x_7) (Zhv K b_1 b_2 e_3 f_4 x_5 x_6 x_7) := by kernel_rfl
theorem ZAb {R : Type} (N : Nat) (b_1 b_2 : Bool) (e_3 : List V) (f_4 : Fl) (x_5 x_6 x_7 : Int) (K : X → List V → S → Option R) : ∀ (n : Nat) (e_8 : List V) (f_9 : Fl) (x_10 x_11 x_12 x_13 : Int) (e_14 : List V) (f_16 : Fl) (x_15 : Int),
 ZmT N n (Zi9 b_1 b_2 e_3 f_4 x_5 x_6 x_7 e_8 f_9 x_10 x_11 x_12 x_13 e_14 f_16 x_15) [some ⟨[.agg [.list 7 e_3 f_4, .int .i64 x_5]], 2, 34, 0⟩, some ⟨[.agg [.int .i64 x_6, .int .i64 x_7]], 2, 36, 0⟩, some ⟨[.agg [.list 7 e_8 f_9, .int .i64 x_10, .int .i64 x_11, .int .i64 x_12, .int .i64 x_13, .list 1 e_14 f_16, .int .i64 x_15]], 7, 134, 0⟩] K = Zer N b_1 b_2 e_3 f_4 x_5 x_6 x_7 (ZgL K b_1 b_2 e_3 f_4 x_5 x_6 x_7) (Zhv K b_1 b_2 e_3 f_4 x_5 x_6 x_7) n e_8 f_9 x_10 x_11 x_12 x_13 e_14 f_16 x_15
 | 0, _, _, _, _, _, _, _, _, _ => rfl
 | n + 1, e_8, f_9, x_10, x_11, x_12, x_13, e_14, f_16, x_15 => (ZG2 N n b_1 b_2 e_3 f_4 x_5 x_6 x_7 e_8 f_9 x_10 x_11 x_12 x_13 e_14 f_16 x_15 K).trans (congrArg (fun nx => Zd1 N b_1 b_2 e_3 f_4 x_5 x_6 x_7 nx e_8 f_9 x_10 x_11 x_12 x_13 e_14 f_16 x_15 (ZgL K b_1 b_2 e_3 f_4 x_5 x_6 x_7) (Zhv K b_1 b_2 e_3 f_4 x_5 x_6 x_7)) (funext fun e_8 => funext fun f_9 => funext fun x_10 => funext fun x_11 => funext fun x_12 => funext fun x_13 => funext fun e_14 => funext fun f_16 => funext fun x_15 => ZAb N b_1 b_2 e_3 f_4 x_5 x_6 x_7 K n e_8 f_9 x_10 x_11 x_12 x_13 e_14 f_16 x_15))
def ZrA {R : Type} (E : List V) (s : S) (k : Bool → Bool → List V → Fl → Int → Int → Int → List V → Fl → Int → Int → Int → Int → List V → Fl → Int → Option R) : Option R :=
 Zao (Za1 60 [3, 4, 10, 11] E) <| Zpy E 3 fun b_1 => ZoS E 4 (.ptr 0 0 0 0) <| Zpy E 10 fun b_2 => ZoS E 11 (.ptr 2 0 0 0) <| ZdV s fun o'1 s'2 => ZdU o'1 2 34 fun e'3 k'4 => isN k'4 0 <| Zcf e'3 fun v'5 => asAgg v'5 fun c'6 => Zch c'6 fun v'7 v'8 => ZaQ 7 v'7 fun e_3 f_4 => asInt .i64 v'8 fun x_5 => ZdV s'2 fun o'9 s'10 => ZdU o'9 2 36 fun e'11 k'12 => isN k'12 0 <| Zcf e'11 fun v'13 => asAgg v'13 fun c'14 => Zch c'14 fun v'15 v'16 => asInt .i64 v'15 fun x_6 => asInt .i64 v'16 fun x_7 => ZdV s'10 fun o'17 s'18 => ZdU o'17 7 134 fun e'19 k'20 => isN k'20 0 <| Zcf e'19 fun v'21 => asAgg v'21 fun c'22 => ZGO c'22 fun v'23 v'24 v'25 v'26 v'27 v'28 v'29 => ZaQ 7 v'23 fun e_8 f_9 => asInt .i64 v'24 fun x_10 => asInt .i64 v'25 fun x_11 => asInt .i64 v'26 fun x_12 => asInt .i64 v'27 fun x_13 => ZaQ 1 v'28 fun e_14 f_16 => asInt .i64 v'29 fun x_15 => ZaI s'18 <| k b_1 b_2 e_3 f_4 x_5 x_6 x_7 e_8 f_9 x_10 x_11 x_12 x_13 e_14 f_16 x_15
theorem Zqb {R : Type} {E : List V} {s : S} {k : Bool → Bool → List V → Fl → Int → Int → Int → List V → Fl → Int → Int → Int → Int → List V → Fl → Int → Option R} {r : R} (h : ZrA E s k = some r) : ∃ b_1 b_2 e_3 f_4 x_5 x_6 x_7 e_8 f_9 x_10 x_11 x_12 x_13 e_14 f_16 x_15, E = Zi9 b_1 b_2 e_3 f_4 x_5 x_6 x_7 e_8 f_9 x_10 x_11 x_12 x_13 e_14 f_16 x_15 ∧ s = [some ⟨[.agg [.list 7 e_3 f_4, .int .i64 x_5]], 2, 34, 0⟩, some ⟨[.agg [.int .i64 x_6, .int .i64 x_7]], 2, 36, 0⟩, some ⟨[.agg [.list 7 e_8 f_9, .int .i64 x_10, .int .i64 x_11, .int .i64 x_12, .int .i64 x_13, .list 1 e_14 f_16, .int .i64 x_15]], 7, 134, 0⟩] ∧ k b_1 b_2 e_3 f_4 x_5 x_6 x_7 e_8 f_9 x_10 x_11 x_12 x_13 e_14 f_16 x_15 = some r := by
 unfold ZrA at h
 obtain ⟨hg, h1⟩ := Zad h
 obtain ⟨_, hu3, h2⟩ := Zet h1
 obtain ⟨hu4, h3⟩ := ZbK h2
 obtain ⟨_, hu10, h4⟩ := Zet h3
 obtain ⟨hu11, h5⟩ := ZbK h4
 obtain ⟨_, _, rfl, h6⟩ := ZaN h5
 obtain ⟨_, _, rfl, h7⟩ := ZaM h6
 obtain ⟨rfl, h8⟩ := Zat h7
 obtain ⟨_, rfl, h9⟩ := Zaq h8
 obtain ⟨_, rfl, h10⟩ := ZaB h9
 obtain ⟨_, _, rfl, h11⟩ := Zap h10
 obtain ⟨_, _, rfl, h12⟩ := Zaj h11
 obtain ⟨_, rfl, h13⟩ := Zaf h12
 obtain ⟨_, _, rfl, h14⟩ := ZaN h13
 obtain ⟨_, _, rfl, h15⟩ := ZaM h14
 obtain ⟨rfl, h16⟩ := Zat h15
 obtain ⟨_, rfl, h17⟩ := Zaq h16
 obtain ⟨_, rfl, h18⟩ := ZaB h17
 obtain ⟨_, _, rfl, h19⟩ := Zap h18
 obtain ⟨_, rfl, h20⟩ := Zaf h19
 obtain ⟨_, rfl, h21⟩ := Zaf h20
 obtain ⟨_, _, rfl, h22⟩ := ZaN h21
 obtain ⟨_, _, rfl, h23⟩ := ZaM h22
 obtain ⟨rfl, h24⟩ := Zat h23
 obtain ⟨_, rfl, h25⟩ := Zaq h24
 obtain ⟨_, rfl, h26⟩ := ZaB h25
 obtain ⟨_, _, _, _, _, _, _, rfl, h27⟩ := Zen h26
 obtain ⟨_, _, rfl, h28⟩ := Zaj h27
 obtain ⟨_, rfl, h29⟩ := Zaf h28
 obtain ⟨_, rfl, h30⟩ := Zaf h29
 obtain ⟨_, rfl, h31⟩ := Zaf h30
 obtain ⟨_, rfl, h32⟩ := Zaf h31
 obtain ⟨_, _, rfl, h33⟩ := Zaj h32
 obtain ⟨_, rfl, h34⟩ := Zaf h33
 obtain ⟨rfl, h35⟩ := Zae h34
 exact ⟨_, _, _, _, _, _, _, _, _, _, _, _, _, _, _, _, ZaP hg rfl (Zab hu3 (Zab hu4 (Zab hu10 (Zab hu11 ZaG)))), rfl, h35⟩
def Ztz (N : Nat) : ZaA := (Zac).add [0, 0, 1, 1, 1, 1] fun _ E s K => ZrA (Zbd ZmQ E) s fun b_1 b_2 e_3 f_4 x_5 x_6 x_7 e_8 f_9 x_10 x_11 x_12 x_13 e_14 f_16 x_15 => Zer N b_1 b_2 e_3 f_4 x_5 x_6 x_7 (ZgL K b_1 b_2 e_3 f_4 x_5 x_6 x_7) (Zhv K b_1 b_2 e_3 f_4 x_5 x_6 x_7) N e_8 f_9 x_10 x_11 x_12 x_13 e_14 f_16 x_15
theorem ZF2 {N : Nat} (hC : Ok Tryz.prog C) (hΦ : Zaa Tryz.prog C (Zsc N)) : Za6 Tryz.prog C (Ztz N) Zss [0, 0, 1, 1, 1, 1] :=
 Za7 (Λi := Zac) (tr := false) (ks := ZmQ) (kx := Zwz) (N := N) hC hΦ
  (Zah (by kernel_rfl))
  fun R E s K r h => by
   have h2 := ZaA.add_self.symm.trans h
   obtain ⟨_, _, _, _, _, _, _, _, _, _, _, _, _, _, _, _, he, rfl, h3⟩ := Zqb h2
   rw [he]
   exact (ZAb N _ _ _ _ _ _ _ _ N _ _ _ _ _ _ _ _ _).trans h3
theorem ZJM : ZaX ZCg [] = [([0, 0, 1, 1, 1, 1], Zss)] := by kernel_rfl
theorem ZN7 {R : Type} (N : Nat) (e_1 : List V) (f_2 : Fl) (x_3 x_4 x_5 : Int) (w_6 : ByteArray) (b_7 : Bool) (K : V → S → Option R) : Za0 C (Zsc N) (Ztz N) 46 Tryz.f46 [.agg [.list 7 e_1 f_2, .int .i64 x_3], .agg [.int .i64 x_4, .int .i64 x_5], .str w_6, .bool b_7] [] K =
 ZoT N e_1 f_2 x_3 x_4 x_5 w_6 b_7 (fun x_8 x_9 => K (.tuple [.int .i64 x_8, .int .i64 x_9]) []) := by kernel_rfl
theorem ZCZ {N : Nat} (hC : Ok Tryz.prog C) (hΦ : Zaa Tryz.prog C (Zsc N)) : ZaV Tryz.prog C (Ztz N) ZCg [] :=
 ZaC ZCg [] (by
  rw [ZJM]
  intro p hp
  simp only [List.mem_cons, List.mem_nil_iff, or_false] at hp
  rcases hp with rfl
  ·exact (ZF2 hC hΦ))
theorem ZyA (hC : Ok Tryz.prog C) {N : Nat} (hΦ : Zaa Tryz.prog C (Zsc N)) : Zaa Tryz.prog C (ZEq N) := by
 refine hΦ.add_pure rfl fun R vs K r h => ?_
 unfold ZKu at h
 obtain ⟨_, _, _, _, rfl, h1⟩ := ZeN h
 obtain ⟨_, _, _, rfl, h2⟩ := Zau h1
 obtain ⟨_, _, rfl, h3⟩ := ZaY h2
 obtain ⟨_, rfl, h4⟩ := Zav h3
 obtain ⟨_, rfl, h5⟩ := Zcj h4
 obtain ⟨_, h6⟩ := Zae h5
 refine Zam (fn := Tryz.f46) (c := ZCg) hC hΦ Tryz.func46 (by kernel_rfl) (by kernel_rfl) (ZCZ (N := N) hC hΦ) rfl rfl ?_
 refine (ZN7 N _ _ _ _ _ _ _ _).trans ?_
 rw [← ZvX]
 exact h6
def ZKo (N : Nat) : (R : Type) → List V → S → (V → S → Option R) → Option R := fun _ vs s K =>
 ZCF vs fun v'1 v'2 v'3 => ZaU v'1 fun e_1 f_2 x_3 => Zbk v'2 fun x_4 x_5 => Zbt v'3 fun w_6 => ZaI s <| ZD9 N e_1 f_2 x_3 x_4 x_5 w_6 (fun x_7 x_8 => K (.tuple [.int .i64 x_7, .int .i64 x_8]) [])
def Zsn (N : Nat) : Zar := (ZEq N).add 53 (ZKo N)
def ZNB : Code := ZaK Tryz.f53
theorem ZN2 {R : Type} (N : Nat) (e_1 : List V) (f_2 : Fl) (x_3 x_4 x_5 : Int) (w_6 : ByteArray) (K : V → S → Option R) : Za0 C (ZEq N) (Zac) 53 Tryz.f53 [.agg [.list 7 e_1 f_2, .int .i64 x_3], .agg [.int .i64 x_4, .int .i64 x_5], .str w_6] [] K =
 Zqk N e_1 f_2 x_3 x_4 x_5 w_6 (fun x_7 x_8 => K (.tuple [.int .i64 x_7, .int .i64 x_8]) []) := by kernel_rfl
theorem Zxm (hC : Ok Tryz.prog C) {N : Nat} (hΦ : Zaa Tryz.prog C (ZEq N)) : Zaa Tryz.prog C (Zsn N) := by
 refine hΦ.add_pure rfl fun R vs K r h => ?_
 unfold ZKo at h
 obtain ⟨_, _, _, rfl, h1⟩ := Zcp h
 obtain ⟨_, _, _, rfl, h2⟩ := Zau h1
 obtain ⟨_, _, rfl, h3⟩ := ZaY h2
 obtain ⟨_, rfl, h4⟩ := Zav h3
 obtain ⟨_, h5⟩ := Zae h4
 refine Zam (fn := Tryz.f53) (c := ZNB) hC hΦ Tryz.func53 (by kernel_rfl) (by kernel_rfl) (Zah (Λ := Zac) (by kernel_rfl)) rfl rfl ?_
 refine (ZN2 N _ _ _ _ _ _ _).trans ?_
 rw [← ZwA]
 exact h5
def ZKT (N : Nat) : (R : Type) → List V → S → (V → S → Option R) → Option R := fun _ vs s K =>
 Zcf vs fun v'1 => ZaQ 1 v'1 fun e_1 f_2 => ZaI s <| ZD1 N e_1 f_2 (fun w_3 => K (.str w_3) [])
def ZEB (N : Nat) : Zar := (Zsn N).add 59 (ZKT N)
def ZBw : Code := ZaK Tryz.f59
def ZsK : Code := (Zbo ZBw [] 0).2
def Zlz : List Nat := ZbQ 21 [3, 9, 10, 11]
def Zv2 : List Nat := ZbQ 21 [3]
def Zjv (e_2 : List V) (f_3 : Fl) (x_4 : Int) (w_1 : ByteArray) (x_5 : Int) : List V := mkF 0 21 [(3, .str w_1), (9, .list 1 e_2 f_3), (10, .int .i64 x_4), (11, .int .i64 x_5)]
def Zhd {R : Type} (K : X → List V → S → Option R) (e_2 : List V) (f_3 : Fl) (x_4 : Int) : ByteArray → Option R := (fun w_1' => K (.exit 0) (mkF 0 21 [(3, .str (w_1'))]) [])
abbrev Zno {R : Type} (N : Nat) : Nat → List V → S → (X → List V → S → Option R) → Option R := fun n => Zdx C (Zsn N) (Zac) ZsK [0, 1, 0, 1, 1, 1] false Zlz Zv2 n R
theorem ZHy {R : Type} (N n : Nat) (e_2 : List V) (f_3 : Fl) (x_4 : Int) (w_1 : ByteArray) (x_5 : Int) (K : X → List V → S → Option R) :
 Zno N (n + 1) (Zjv e_2 f_3 x_4 w_1 x_5) [] K =
 ZcS N e_2 f_3 x_4 (fun w_1 x_5 => Zno N n (Zjv e_2 f_3 x_4 w_1 x_5) [] K) w_1 x_5 (Zhd K e_2 f_3 x_4) := by kernel_rfl
theorem Zz5 {R : Type} (N : Nat) (e_2 : List V) (f_3 : Fl) (x_4 : Int) (K : X → List V → S → Option R) : ∀ (n : Nat) (w_1 : ByteArray) (x_5 : Int),
 Zno N n (Zjv e_2 f_3 x_4 w_1 x_5) [] K = Zf9 N e_2 f_3 x_4 (Zhd K e_2 f_3 x_4) n w_1 x_5
 | 0, _, _ => rfl
 | n + 1, w_1, x_5 => (ZHy N n e_2 f_3 x_4 w_1 x_5 K).trans (congrArg (fun nx => ZcS N e_2 f_3 x_4 nx w_1 x_5 (Zhd K e_2 f_3 x_4)) (funext fun w_1 => funext fun x_5 => Zz5 N e_2 f_3 x_4 K n w_1 x_5))
def ZrS {R : Type} (E : List V) (s : S) (k : ByteArray → List V → Fl → Int → Int → Option R) : Option R :=
 Zao (Za1 21 [3, 9, 10, 11] E) <| ZiT E 3 fun w_1 => Zbr E 9 1 fun e_2 f_3 => ZaT E 10 .i64 fun x_4 => ZaT E 11 .i64 fun x_5 => ZaI s <| k w_1 e_2 f_3 x_4 x_5
theorem ZnF {R : Type} {E : List V} {s : S} {k : ByteArray → List V → Fl → Int → Int → Option R} {r : R} (h : ZrS E s k = some r) : ∃ w_1 e_2 f_3 x_4 x_5, E = Zjv e_2 f_3 x_4 w_1 x_5 ∧ s = [] ∧ k w_1 e_2 f_3 x_4 x_5 = some r := by
 unfold ZrS at h
 obtain ⟨hg, h1⟩ := Zad h
 obtain ⟨_, hu3, h2⟩ := Zb0 h1
 obtain ⟨_, _, hu9, h3⟩ := Zax h2
 obtain ⟨_, hu10, h4⟩ := Zai h3
 obtain ⟨_, hu11, h5⟩ := Zai h4
 obtain ⟨rfl, h6⟩ := Zae h5
 exact ⟨_, _, _, _, _, ZaP hg rfl (Zab hu3 (Zab hu9 (Zab hu10 (Zab hu11 ZaG)))), rfl, h6⟩
def Zs9 (N : Nat) : ZaA := (Zac).add [0, 1, 0, 1, 1, 1] fun _ E s K => ZrS (Zbd Zlz E) s fun w_1 e_2 f_3 x_4 x_5 => Zf9 N e_2 f_3 x_4 (Zhd K e_2 f_3 x_4) N w_1 x_5
theorem ZGe {N : Nat} (hC : Ok Tryz.prog C) (hΦ : Zaa Tryz.prog C (Zsn N)) : Za6 Tryz.prog C (Zs9 N) ZsK [0, 1, 0, 1, 1, 1] :=
 Za7 (Λi := Zac) (tr := false) (ks := Zlz) (kx := Zv2) (N := N) hC hΦ
  (Zah (by kernel_rfl))
  fun R E s K r h => by
   have h2 := ZaA.add_self.symm.trans h
   obtain ⟨_, _, _, _, _, he, rfl, h3⟩ := ZnF h2
   rw [he]
   exact (Zz5 N _ _ _ _ N _ _).trans h3
theorem ZKL : ZaX ZBw [] = [([0, 1, 0, 1, 1, 1], ZsK)] := by kernel_rfl
theorem ZMw {R : Type} (N : Nat) (e_1 : List V) (f_2 : Fl) (K : V → S → Option R) : Za0 C (Zsn N) (Zs9 N) 59 Tryz.f59 [.list 1 e_1 f_2] [] K =
 Zqg N e_1 f_2 (fun w_3 => K (.str w_3) []) := by kernel_rfl
theorem ZCh {N : Nat} (hC : Ok Tryz.prog C) (hΦ : Zaa Tryz.prog C (Zsn N)) : ZaV Tryz.prog C (Zs9 N) ZBw [] :=
 ZaC ZBw [] (by
  rw [ZKL]
  intro p hp
  simp only [List.mem_cons, List.mem_nil_iff, or_false] at hp
  rcases hp with rfl
  ·exact (ZGe hC hΦ))
theorem Zxv (hC : Ok Tryz.prog C) {N : Nat} (hΦ : Zaa Tryz.prog C (Zsn N)) : Zaa Tryz.prog C (ZEB N) := by
 refine hΦ.add_pure rfl fun R vs K r h => ?_
 unfold ZKT at h
 obtain ⟨_, rfl, h1⟩ := Zaq h
 obtain ⟨_, _, rfl, h2⟩ := Zaj h1
 obtain ⟨_, h3⟩ := Zae h2
 refine Zam (fn := Tryz.f59) (c := ZBw) hC hΦ Tryz.func59 (by kernel_rfl) (by kernel_rfl) (ZCh (N := N) hC hΦ) rfl rfl ?_
 refine (ZMw N _ _ _).trans ?_
 rw [← Zt1]
 exact h3
def ZIw (N M : Nat) : (R : Type) → List V → S → (V → S → Option R) → Option R := fun _ vs s K =>
 Zch vs fun v'1 v'2 => ZaU v'1 fun e_1 f_2 x_3 => asInt .i64 v'2 fun x_4 => ZaI s <| Zit N M _ e_1 f_2 x_3 x_4 (fun e_5 => K (.list 1 e_5 (.own 9)) [])
def Zmn (N M : Nat) : Zar := (ZEB N).add 60 (ZIw N M)
def Zzr : Code := ZaK Tryz.f60
def Zrb : Code := (Zbo Zzr [] 0).2
def ZlG : List Nat := ZbQ 38 [1, 2, 5, 6, 19, 20, 21]
def Zwo : List Nat := ZbQ 38 [2, 5, 6]
def ZiW (x_1 x_2 : Int) (e_4 : List V) (f_5 : Fl) (x_6 : Int) (e_8 : List V) (f_9 : Fl) (x_10 : Int) (w_3 : ByteArray) (x_7 : Int) : List V := mkF 0 38 [(1, .int .i64 x_1), (2, .ptr 0 0 0 0), (5, .int .i64 x_2), (6, .str w_3), (19, .list 2 e_4 f_5), (20, .int .i64 x_6), (21, .int .i64 x_7)]
def Zhc {R : Type} (K : X → List V → S → Option R) (x_1 : Int) (x_2 : Int) (e_4 : List V) (f_5 : Fl) (x_6 : Int) (e_8 : List V) (f_9 : Fl) (x_10 : Int) : ByteArray → Option R := (fun w_1' => K (.exit 0) (mkF 0 38 [(2, .ptr 0 0 0 0), (5, .int .i64 x_2), (6, .str (w_1'))]) [some ⟨[.agg [.list 7 e_8 f_9, .int .i64 x_10]], 2, 34, 0⟩])
abbrev Zmh {R : Type} (N M : Nat) : Nat → List V → S → (X → List V → S → Option R) → Option R := fun n => Zdx C (Zmn N M) (Zac) Zrb [0, 1, 0, 1, 1, 1, 1] true ZlG Zwo n R
theorem ZG7 {R : Type} (N M n : Nat) (x_1 x_2 : Int) (e_4 : List V) (f_5 : Fl) (x_6 : Int) (e_8 : List V) (f_9 : Fl) (x_10 : Int) (w_3 : ByteArray) (x_7 : Int) (K : X → List V → S → Option R) :
 Zmh N M (n + 1) (ZiW x_1 x_2 e_4 f_5 x_6 e_8 f_9 x_10 w_3 x_7) [some ⟨[.agg [.list 7 e_8 f_9, .int .i64 x_10]], 2, 34, 0⟩] K =
 Zds N (Zit N M) x_1 x_2 e_4 f_5 x_6 e_8 f_9 x_10 (fun w_3 x_7 => Zmh N M n (ZiW x_1 x_2 e_4 f_5 x_6 e_8 f_9 x_10 w_3 x_7) [some ⟨[.agg [.list 7 e_8 f_9, .int .i64 x_10]], 2, 34, 0⟩] K) w_3 x_7 (Zhc K x_1 x_2 e_4 f_5 x_6 e_8 f_9 x_10) := by kernel_rfl
theorem ZCW {R : Type} (N M : Nat) (x_1 x_2 : Int) (e_4 : List V) (f_5 : Fl) (x_6 : Int) (e_8 : List V) (f_9 : Fl) (x_10 : Int) (K : X → List V → S → Option R) : ∀ (n : Nat) (w_3 : ByteArray) (x_7 : Int),
 Zmh N M n (ZiW x_1 x_2 e_4 f_5 x_6 e_8 f_9 x_10 w_3 x_7) [some ⟨[.agg [.list 7 e_8 f_9, .int .i64 x_10]], 2, 34, 0⟩] K = Ze4 N (Zit N M) x_1 x_2 e_4 f_5 x_6 e_8 f_9 x_10 (Zhc K x_1 x_2 e_4 f_5 x_6 e_8 f_9 x_10) n w_3 x_7
 | 0, _, _ => rfl
 | n + 1, w_3, x_7 => (ZG7 N M n x_1 x_2 e_4 f_5 x_6 e_8 f_9 x_10 w_3 x_7 K).trans (congrArg (fun nx => Zds N (Zit N M) x_1 x_2 e_4 f_5 x_6 e_8 f_9 x_10 nx w_3 x_7 (Zhc K x_1 x_2 e_4 f_5 x_6 e_8 f_9 x_10)) (funext fun w_3 => funext fun x_7 => ZCW N M x_1 x_2 e_4 f_5 x_6 e_8 f_9 x_10 K n w_3 x_7))
def ZtA {R : Type} (E : List V) (s : S) (k : Int → Int → ByteArray → List V → Fl → Int → Int → List V → Fl → Int → Option R) : Option R :=
 Zao (Za1 38 [1, 2, 5, 6, 19, 20, 21] E) <| ZaT E 1 .i64 fun x_1 => ZoS E 2 (.ptr 0 0 0 0) <| ZaT E 5 .i64 fun x_2 => ZiT E 6 fun w_3 => Zbr E 19 2 fun e_4 f_5 => ZaT E 20 .i64 fun x_6 => ZaT E 21 .i64 fun x_7 => ZdV s fun o'1 s'2 => ZdU o'1 2 34 fun e'3 k'4 => isN k'4 0 <| Zcf e'3 fun v'5 => asAgg v'5 fun c'6 => Zch c'6 fun v'7 v'8 => ZaQ 7 v'7 fun e_8 f_9 => asInt .i64 v'8 fun x_10 => ZaI s'2 <| k x_1 x_2 w_3 e_4 f_5 x_6 x_7 e_8 f_9 x_10
theorem Zp9 {R : Type} {E : List V} {s : S} {k : Int → Int → ByteArray → List V → Fl → Int → Int → List V → Fl → Int → Option R} {r : R} (h : ZtA E s k = some r) : ∃ x_1 x_2 w_3 e_4 f_5 x_6 x_7 e_8 f_9 x_10, E = ZiW x_1 x_2 e_4 f_5 x_6 e_8 f_9 x_10 w_3 x_7 ∧ s = [some ⟨[.agg [.list 7 e_8 f_9, .int .i64 x_10]], 2, 34, 0⟩] ∧ k x_1 x_2 w_3 e_4 f_5 x_6 x_7 e_8 f_9 x_10 = some r := by
 unfold ZtA at h
 obtain ⟨hg, h1⟩ := Zad h
 obtain ⟨_, hu1, h2⟩ := Zai h1
 obtain ⟨hu2, h3⟩ := ZbK h2
 obtain ⟨_, hu5, h4⟩ := Zai h3
 obtain ⟨_, hu6, h5⟩ := Zb0 h4
 obtain ⟨_, _, hu19, h6⟩ := Zax h5
 obtain ⟨_, hu20, h7⟩ := Zai h6
 obtain ⟨_, hu21, h8⟩ := Zai h7
 obtain ⟨_, _, rfl, h9⟩ := ZaN h8
 obtain ⟨_, _, rfl, h10⟩ := ZaM h9
 obtain ⟨rfl, h11⟩ := Zat h10
 obtain ⟨_, rfl, h12⟩ := Zaq h11
 obtain ⟨_, rfl, h13⟩ := ZaB h12
 obtain ⟨_, _, rfl, h14⟩ := Zap h13
 obtain ⟨_, _, rfl, h15⟩ := Zaj h14
 obtain ⟨_, rfl, h16⟩ := Zaf h15
 obtain ⟨rfl, h17⟩ := Zae h16
 exact ⟨_, _, _, _, _, _, _, _, _, _, ZaP hg rfl (Zab hu1 (Zab hu2 (Zab hu5 (Zab hu6 (Zab hu19 (Zab hu20 (Zab hu21 ZaG))))))), rfl, h17⟩
def Zry (N M : Nat) : ZaA := (Zac).add [0, 1, 0, 1, 1, 1, 1] fun _ E s K => ZtA (Zbd ZlG E) s fun x_1 x_2 w_3 e_4 f_5 x_6 x_7 e_8 f_9 x_10 => Ze4 N (Zit N M) x_1 x_2 e_4 f_5 x_6 e_8 f_9 x_10 (Zhc K x_1 x_2 e_4 f_5 x_6 e_8 f_9 x_10) N w_3 x_7
theorem ZEv {N M : Nat} (hC : Ok Tryz.prog C) (hΦ : Zaa Tryz.prog C (Zmn N M)) : Za6 Tryz.prog C (Zry N M) Zrb [0, 1, 0, 1, 1, 1, 1] :=
 Za7 (Λi := Zac) (tr := true) (ks := ZlG) (kx := Zwo) (N := N) hC hΦ
  (Zah (by kernel_rfl))
  fun R E s K r h => by
   have h2 := ZaA.add_self.symm.trans h
   obtain ⟨_, _, _, _, _, _, _, _, _, _, he, rfl, h3⟩ := Zp9 h2
   rw [he]
   exact (ZCW N M _ _ _ _ _ _ _ _ _ N _ _).trans h3
theorem ZKy : ZaX Zzr [] = [([0, 1, 0, 1, 1, 1, 1], Zrb)] := by kernel_rfl
theorem ZNb {R : Type} (N M : Nat) (e_1 : List V) (f_2 : Fl) (x_3 x_4 : Int) (K : V → S → Option R) : Za0 C (Zmn N M) (Zry N M) 60 Tryz.f60 [.agg [.list 7 e_1 f_2, .int .i64 x_3], .int .i64 x_4] [] K =
 Zt3 N (Zit N M) e_1 f_2 x_3 x_4 (fun e_5 => K (.list 1 e_5 (.own 9)) []) := by kernel_rfl
theorem ZBn {N M : Nat} (hC : Ok Tryz.prog C) (hΦ : Zaa Tryz.prog C (Zmn N M)) : ZaV Tryz.prog C (Zry N M) Zzr [] :=
 ZaC Zzr [] (by
  rw [ZKy]
  intro p hp
  simp only [List.mem_cons, List.mem_nil_iff, or_false] at hp
  rcases hp with rfl
  ·exact (ZEv hC hΦ))
theorem ZoU (hC : Ok Tryz.prog C) {N : Nat} (hΦ : Zaa Tryz.prog C (ZEB N)) : ∀ M, Zaa Tryz.prog C (Zmn N M) := by
 intro M
 induction M with
 | zero =>
  refine hΦ.add_own rfl fun R vs K r h => ?_
  exfalso
  unfold ZIw at h
  obtain ⟨_, _, rfl, h1⟩ := Zap h
  obtain ⟨_, _, _, rfl, h2⟩ := Zau h1
  obtain ⟨_, rfl, h3⟩ := Zaf h2
  obtain ⟨_, h4⟩ := Zae h3
  rw [Zx5] at h4
  cases h4
 | succ M ih =>
  refine hΦ.add_own rfl fun R vs K r h => ?_
  unfold ZIw at h
  obtain ⟨_, _, rfl, h1⟩ := Zap h
  obtain ⟨_, _, _, rfl, h2⟩ := Zau h1
  obtain ⟨_, rfl, h3⟩ := Zaf h2
  obtain ⟨_, h4⟩ := Zae h3
  refine ZwI (fn := Tryz.f60) (c := Zzr) hC ih Tryz.func60 (by kernel_rfl) (by kernel_rfl) (ZBn (N := N) (M := M) hC ih) rfl rfl ?_
  refine (ZNb N M _ _ _ _ _).trans ?_
  rw [← Zmd]
  exact h4
theorem Zy3 (hC : Ok Tryz.prog C) {N : Nat} (hΦ : Zaa Tryz.prog C (ZEB N)) : Zaa Tryz.prog C (Zmn N N) := ZoU hC hΦ N
def ZI3 (N : Nat) : (R : Type) → List V → S → (V → S → Option R) → Option R := fun _ vs s K =>
 ZCF vs fun v'1 v'2 v'3 => ZaU v'1 fun e_1 f_2 x_3 => Zbk v'2 fun x_4 x_5 => Zbt v'3 fun w_6 => ZaI s <| ZG6 N e_1 f_2 x_3 x_4 x_5 w_6 (fun w_7 x_8 b_9 => K (.tuple [.str w_7, .int .i64 x_8, .bool b_9]) [])
def ZDw (N : Nat) : Zar := (Zmn N N).add 25 (ZI3 N)
def ZMP : Code := ZaK Tryz.f25
theorem ZN6 {R : Type} (N : Nat) (e_1 : List V) (f_2 : Fl) (x_3 x_4 x_5 : Int) (w_6 : ByteArray) (K : V → S → Option R) : Za0 C (Zmn N N) (Zac) 25 Tryz.f25 [.agg [.list 7 e_1 f_2, .int .i64 x_3], .agg [.int .i64 x_4, .int .i64 x_5], .str w_6] [] K =
 ZpT N e_1 f_2 x_3 x_4 x_5 w_6 (fun w_7 x_8 b_9 => K (.tuple [.str w_7, .int .i64 x_8, .bool b_9]) []) := by kernel_rfl
theorem Zy5 (hC : Ok Tryz.prog C) {N : Nat} (hΦ : Zaa Tryz.prog C (Zmn N N)) : Zaa Tryz.prog C (ZDw N) := by
 refine hΦ.add_pure rfl fun R vs K r h => ?_
 unfold ZI3 at h
 obtain ⟨_, _, _, rfl, h1⟩ := Zcp h
 obtain ⟨_, _, _, rfl, h2⟩ := Zau h1
 obtain ⟨_, _, rfl, h3⟩ := ZaY h2
 obtain ⟨_, rfl, h4⟩ := Zav h3
 obtain ⟨_, h5⟩ := Zae h4
 refine Zam (fn := Tryz.f25) (c := ZMP) hC hΦ Tryz.func25 (by kernel_rfl) (by kernel_rfl) (Zah (Λ := Zac) (by kernel_rfl)) rfl rfl ?_
 refine (ZN6 N _ _ _ _ _ _ _).trans ?_
 rw [← Zwr]
 exact h5
def ZIX (N : Nat) : (R : Type) → List V → S → (V → S → Option R) → Option R := fun _ vs s K =>
 ZCF vs fun v'1 v'2 v'3 => asInt .i64 v'1 fun x_1 => asInt .i64 v'2 fun x_2 => asInt .i64 v'3 fun x_3 => ZaI s <| Zip N x_1 x_2 x_3 (fun b_4 => K (.bool b_4) [])
def ZFY (N : Nat) : Zar := (ZDw N).add 115 (ZIX N)
def ZMk : Code := ZaK Tryz.f115
theorem ZMj {R : Type} (N : Nat) (x_1 x_2 x_3 : Int) (K : V → S → Option R) : Za0 C (ZDw N) (Zac) 115 Tryz.f115 [.int .i64 x_1, .int .i64 x_2, .int .i64 x_3] [] K =
 Zou N x_1 x_2 x_3 (fun b_4 => K (.bool b_4) []) := by kernel_rfl
theorem Zw0 (hC : Ok Tryz.prog C) {N : Nat} (hΦ : Zaa Tryz.prog C (ZDw N)) : Zaa Tryz.prog C (ZFY N) := by
 refine hΦ.add_pure rfl fun R vs K r h => ?_
 unfold ZIX at h
 obtain ⟨_, _, _, rfl, h1⟩ := Zcp h
 obtain ⟨_, rfl, h2⟩ := Zaf h1
 obtain ⟨_, rfl, h3⟩ := Zaf h2
 obtain ⟨_, rfl, h4⟩ := Zaf h3
 obtain ⟨_, h5⟩ := Zae h4
 refine Zam (fn := Tryz.f115) (c := ZMk) hC hΦ Tryz.func115 (by kernel_rfl) (by kernel_rfl) (Zah (Λ := Zac) (by kernel_rfl)) rfl rfl ?_
 refine (ZMj N _ _ _ _).trans ?_
 rw [← Zuq]
 exact h5
def ZKk (N : Nat) : (R : Type) → List V → S → (V → S → Option R) → Option R := fun _ vs s K =>
 Zcf vs fun v'1 => asInt .i64 v'1 fun x_1 => ZaI s <| ZH5 N x_1 (fun b_2 => K (.bool b_2) [])
def ZEL (N : Nat) : Zar := (ZFY N).add 145 (ZKk N)
def ZMl : Code := ZaK Tryz.f145
theorem ZL0 {R : Type} (N : Nat) (x_1 : Int) (K : V → S → Option R) : Za0 C (ZFY N) (Zac) 145 Tryz.f145 [.int .i64 x_1] [] K =
 Zqz N x_1 (fun b_2 => K (.bool b_2) []) := by kernel_rfl
theorem Zzi (hC : Ok Tryz.prog C) {N : Nat} (hΦ : Zaa Tryz.prog C (ZFY N)) : Zaa Tryz.prog C (ZEL N) := by
 refine hΦ.add_pure rfl fun R vs K r h => ?_
 unfold ZKk at h
 obtain ⟨_, rfl, h1⟩ := Zaq h
 obtain ⟨_, rfl, h2⟩ := Zaf h1
 obtain ⟨_, h3⟩ := Zae h2
 refine Zam (fn := Tryz.f145) (c := ZMl) hC hΦ Tryz.func145 (by kernel_rfl) (by kernel_rfl) (Zah (Λ := Zac) (by kernel_rfl)) rfl rfl ?_
 refine (ZL0 N _ _).trans ?_
 rw [← Zux]
 exact h3
def ZK5 (N : Nat) : (R : Type) → List V → S → (V → S → Option R) → Option R := fun _ vs s K =>
 Zcf vs fun v'1 => asInt .i64 v'1 fun x_1 => ZaI s <| ZG9 N x_1 (fun b_2 => K (.bool b_2) [])
def ZFl (N : Nat) : Zar := (ZEL N).add 65 (ZK5 N)
def ZNc : Code := ZaK Tryz.f65
theorem ZND {R : Type} (N : Nat) (x_1 : Int) (K : V → S → Option R) : Za0 C (ZEL N) (Zac) 65 Tryz.f65 [.int .i64 x_1] [] K =
 Zog N x_1 (fun b_2 => K (.bool b_2) []) := by kernel_rfl
theorem Zw6 (hC : Ok Tryz.prog C) {N : Nat} (hΦ : Zaa Tryz.prog C (ZEL N)) : Zaa Tryz.prog C (ZFl N) := by
 refine hΦ.add_pure rfl fun R vs K r h => ?_
 unfold ZK5 at h
 obtain ⟨_, rfl, h1⟩ := Zaq h
 obtain ⟨_, rfl, h2⟩ := Zaf h1
 obtain ⟨_, h3⟩ := Zae h2
 refine Zam (fn := Tryz.f65) (c := ZNc) hC hΦ Tryz.func65 (by kernel_rfl) (by kernel_rfl) (Zah (Λ := Zac) (by kernel_rfl)) rfl rfl ?_
 refine (ZND N _ _).trans ?_
 rw [← Zwi]
 exact h3
def ZJp (N : Nat) : (R : Type) → List V → S → (V → S → Option R) → Option R := fun _ vs s K =>
 Zcf vs fun v'1 => Zbt v'1 fun w_1 => ZaI s <| ZHl N w_1 (fun b_2 => K (.bool b_2) [])
def ZF1 (N : Nat) : Zar := (ZFl N).add 136 (ZJp N)
def ZNK : Code := ZaK Tryz.f136
theorem ZM9 {R : Type} (N : Nat) (w_1 : ByteArray) (K : V → S → Option R) : Za0 C (ZFl N) (Zac) 136 Tryz.f136 [.str w_1] [] K =
 Zqy N w_1 (fun b_2 => K (.bool b_2) []) := by kernel_rfl
theorem ZyN (hC : Ok Tryz.prog C) {N : Nat} (hΦ : Zaa Tryz.prog C (ZFl N)) : Zaa Tryz.prog C (ZF1 N) := by
 refine hΦ.add_pure rfl fun R vs K r h => ?_
 unfold ZJp at h
 obtain ⟨_, rfl, h1⟩ := Zaq h
 obtain ⟨_, rfl, h2⟩ := Zav h1
 obtain ⟨_, h3⟩ := Zae h2
 refine Zam (fn := Tryz.f136) (c := ZNK) hC hΦ Tryz.func136 (by kernel_rfl) (by kernel_rfl) (Zah (Λ := Zac) (by kernel_rfl)) rfl rfl ?_
 refine (ZM9 N _ _).trans ?_
 rw [← Zus]
 exact h3
def ZIZ (N : Nat) : (R : Type) → List V → S → (V → S → Option R) → Option R := fun _ vs s K =>
 Zcf vs fun v'1 => asInt .u8 v'1 fun x_1 => ZaI s <| ZGn N x_1 (fun b_2 => K (.bool b_2) [])
def ZF6 (N : Nat) : Zar := (ZF1 N).add 132 (ZIZ N)
def ZNC : Code := ZaK Tryz.f132
theorem ZLT {R : Type} (N : Nat) (x_1 : Int) (K : V → S → Option R) : Za0 C (ZF1 N) (Zac) 132 Tryz.f132 [.int .u8 x_1] [] K =
 Zpl N x_1 (fun b_2 => K (.bool b_2) []) := by kernel_rfl
theorem ZyR (hC : Ok Tryz.prog C) {N : Nat} (hΦ : Zaa Tryz.prog C (ZF1 N)) : Zaa Tryz.prog C (ZF6 N) := by
 refine hΦ.add_pure rfl fun R vs K r h => ?_
 unfold ZIZ at h
 obtain ⟨_, rfl, h1⟩ := Zaq h
 obtain ⟨_, rfl, h2⟩ := Zaf h1
 obtain ⟨_, h3⟩ := Zae h2
 refine Zam (fn := Tryz.f132) (c := ZNC) hC hΦ Tryz.func132 (by kernel_rfl) (by kernel_rfl) (Zah (Λ := Zac) (by kernel_rfl)) rfl rfl ?_
 refine (ZLT N _ _).trans ?_
 rw [← ZvA]
 exact h3
def ZJK (N : Nat) : (R : Type) → List V → S → (V → S → Option R) → Option R := fun _ vs s K =>
 Zcf vs fun v'1 => asInt .u8 v'1 fun x_1 => ZaI s <| ZHI N x_1 (fun b_2 => K (.bool b_2) [])
def ZsD (N : Nat) : Zar := (ZF6 N).add 181 (ZJK N)
def ZNq : Code := ZaK Tryz.f181
theorem ZMY {R : Type} (N : Nat) (x_1 : Int) (K : V → S → Option R) : Za0 C (ZF6 N) (Zac) 181 Tryz.f181 [.int .u8 x_1] [] K =
 Zpr N x_1 (fun b_2 => K (.bool b_2) []) := by kernel_rfl
theorem ZxF (hC : Ok Tryz.prog C) {N : Nat} (hΦ : Zaa Tryz.prog C (ZF6 N)) : Zaa Tryz.prog C (ZsD N) := by
 refine hΦ.add_pure rfl fun R vs K r h => ?_
 unfold ZJK at h
 obtain ⟨_, rfl, h1⟩ := Zaq h
 obtain ⟨_, rfl, h2⟩ := Zaf h1
 obtain ⟨_, h3⟩ := Zae h2
 refine Zam (fn := Tryz.f181) (c := ZNq) hC hΦ Tryz.func181 (by kernel_rfl) (by kernel_rfl) (Zah (Λ := Zac) (by kernel_rfl)) rfl rfl ?_
 refine (ZMY N _ _).trans ?_
 rw [← ZuY]
 exact h3
def ZJj (N : Nat) : (R : Type) → List V → S → (V → S → Option R) → Option R := fun _ vs s K =>
 Zch vs fun v'1 v'2 => ZaQ 1 v'1 fun e_1 f_2 => Zzm 181 v'2 fun c'3 => Zzk c'3 <| ZaI s <| ZHC N e_1 f_2 (fun x_3 => K (.int .i64 x_3) [])
def ZEd (N : Nat) : Zar := (ZsD N).addIf 165 (fun l => ZLm 1 181 l) (ZJj N)
def ZCu : Code := ZaK Tryz.f165
def ZtL : Code := (Zbo ZCu [] 0).2
def ZlF : List Nat := ZbQ 19 [0, 1, 7, 8]
def ZvR : List Nat := ZbQ 19 [4]
def Zjc (e_1 : List V) (f_2 : Fl) (x_3 x_4 : Int) : List V := mkF 0 19 [(0, .list 1 e_1 f_2), (1, .fn 181 []), (7, .int .i64 x_3), (8, .int .i64 x_4)]
def ZgV {R : Type} (K : X → List V → S → Option R) (e_1 : List V) (f_2 : Fl) (x_3 : Int) : Int → Option R := (fun x_1' => K .ret (mkF 0 19 [(4, .int .i64 (x_1'))]) [])
def ZhN {R : Type} (K : X → List V → S → Option R) (e_1 : List V) (f_2 : Fl) (x_3 : Int) : Unit → Option R := (fun _ => K (.exit 0) (mkF 0 19 []) [])
abbrev Zlq {R : Type} (N : Nat) : Nat → List V → S → (X → List V → S → Option R) → Option R := fun n => Zdx C (ZsD N) (Zac) ZtL [0, 1, 0, 1] false ZlF ZvR n R
theorem ZIE {R : Type} (N n : Nat) (e_1 : List V) (f_2 : Fl) (x_3 : Int) (x_4 : Int) (K : X → List V → S → Option R) :
 Zlq N (n + 1) (Zjc e_1 f_2 x_3 x_4) [] K =
 ZcT N e_1 f_2 x_3 (fun x_4 => Zlq N n (Zjc e_1 f_2 x_3 x_4) [] K) x_4 (ZgV K e_1 f_2 x_3) (ZhN K e_1 f_2 x_3) := by kernel_rfl
theorem ZCx {R : Type} (N : Nat) (e_1 : List V) (f_2 : Fl) (x_3 : Int) (K : X → List V → S → Option R) : ∀ (n : Nat) (x_4 : Int),
 Zlq N n (Zjc e_1 f_2 x_3 x_4) [] K = ZfP N e_1 f_2 x_3 (ZgV K e_1 f_2 x_3) (ZhN K e_1 f_2 x_3) n x_4
 | 0, _ => rfl
 | n + 1, x_4 => (ZIE N n e_1 f_2 x_3 x_4 K).trans (congrArg (fun nx => ZcT N e_1 f_2 x_3 nx x_4 (ZgV K e_1 f_2 x_3) (ZhN K e_1 f_2 x_3)) (funext fun x_4 => ZCx N e_1 f_2 x_3 K n x_4))
def Zsv {R : Type} (E : List V) (s : S) (k : List V → Fl → Int → Int → Option R) : Option R :=
 Zao (Za1 19 [0, 1, 7, 8] E) <| Zbr E 0 1 fun e_1 f_2 => Zbq (nth E 1) fun u1 => Zzm 181 u1 fun c'1 => Zzk c'1 <| ZaT E 7 .i64 fun x_3 => ZaT E 8 .i64 fun x_4 => ZaI s <| k e_1 f_2 x_3 x_4
theorem Zpm {R : Type} {E : List V} {s : S} {k : List V → Fl → Int → Int → Option R} {r : R} (h : Zsv E s k = some r) : ∃ e_1 f_2 x_3 x_4, E = Zjc e_1 f_2 x_3 x_4 ∧ s = [] ∧ k e_1 f_2 x_3 x_4 = some r := by
 unfold Zsv at h
 obtain ⟨hg, h1⟩ := Zad h
 obtain ⟨_, _, hu0, h2⟩ := Zax h1
 obtain ⟨_, hu1, h3⟩ := Zag h2
 obtain ⟨_, rfl, h4⟩ := Zco h3
 obtain ⟨rfl, h5⟩ := Zcn h4
 obtain ⟨_, hu7, h6⟩ := Zai h5
 obtain ⟨_, hu8, h7⟩ := Zai h6
 obtain ⟨rfl, h8⟩ := Zae h7
 exact ⟨_, _, _, _, ZaP hg rfl (Zab hu0 (Zab hu1 (Zab hu7 (Zab hu8 ZaG)))), rfl, h8⟩
def ZrW (N : Nat) : ZaA := (Zac).add [0, 1, 0, 1] fun _ E s K => Zsv (Zbd ZlF E) s fun e_1 f_2 x_3 x_4 => ZfP N e_1 f_2 x_3 (ZgV K e_1 f_2 x_3) (ZhN K e_1 f_2 x_3) N x_4
theorem ZDn {N : Nat} (hC : Ok Tryz.prog C) (hΦ : Zaa Tryz.prog C (ZsD N)) : Za6 Tryz.prog C (ZrW N) ZtL [0, 1, 0, 1] :=
 Za7 (Λi := Zac) (tr := false) (ks := ZlF) (kx := ZvR) (N := N) hC hΦ
  (Zah (by kernel_rfl))
  fun R E s K r h => by
   have h2 := ZaA.add_self.symm.trans h
   obtain ⟨_, _, _, _, he, rfl, h3⟩ := Zpm h2
   rw [he]
   exact (ZCx N _ _ _ _ N _).trans h3
theorem ZK7 : ZaX ZCu [] = [([0, 1, 0, 1], ZtL)] := by kernel_rfl
theorem ZMo {R : Type} (N : Nat) (e_1 : List V) (f_2 : Fl) (K : V → S → Option R) : Za0 C (ZsD N) (ZrW N) 165 Tryz.f165 [.list 1 e_1 f_2, .fn 181 []] [] K =
 Zo7 N e_1 f_2 (fun x_3 => K (.int .i64 x_3) []) := by kernel_rfl
theorem Zz0 {N : Nat} (hC : Ok Tryz.prog C) (hΦ : Zaa Tryz.prog C (ZsD N)) : ZaV Tryz.prog C (ZrW N) ZCu [] :=
 ZaC ZCu [] (by
  rw [ZK7]
  intro p hp
  simp only [List.mem_cons, List.mem_nil_iff, or_false] at hp
  rcases hp with rfl
  ·exact (ZDn hC hΦ))
theorem Zyt (hC : Ok Tryz.prog C) {N : Nat} (hΦ : Zaa Tryz.prog C (ZsD N)) : Zaa Tryz.prog C (ZEd N) := by
 refine hΦ.addIf_pure rfl fun R vs K r h => ?_
 unfold ZJj at h
 obtain ⟨_, _, rfl, h1⟩ := Zap h
 obtain ⟨_, _, rfl, h2⟩ := Zaj h1
 obtain ⟨_, rfl, h3⟩ := Zco h2
 obtain ⟨rfl, h4⟩ := Zcn h3
 obtain ⟨_, h5⟩ := Zae h4
 refine Zam (fn := Tryz.f165) (c := ZCu) hC hΦ Tryz.func165 (by kernel_rfl) (by kernel_rfl) (Zz0 (N := N) hC hΦ) rfl rfl ?_
 refine (ZMo N _ _ _).trans ?_
 rw [← Zu0]
 exact h5
def ZKl (N : Nat) : (R : Type) → List V → S → (V → S → Option R) → Option R := fun _ vs s K =>
 Zch vs fun v'1 v'2 => ZaQ 1 v'1 fun e_1 f_2 => Zzm 181 v'2 fun c'3 => Zzk c'3 <| ZaI s <| ZFq N e_1 f_2 (fun b_3 => K (.bool b_3) [])
def ZEp (N : Nat) : Zar := (ZEd N).addIf 130 (fun l => ZLm 1 181 l) (ZKl N)
def ZML : Code := ZaK Tryz.f130
theorem ZMu {R : Type} (N : Nat) (e_1 : List V) (f_2 : Fl) (K : V → S → Option R) : Za0 C (ZEd N) (Zac) 130 Tryz.f130 [.list 1 e_1 f_2, .fn 181 []] [] K =
 ZnZ N e_1 f_2 (fun b_3 => K (.bool b_3) []) := by kernel_rfl
theorem Zzg (hC : Ok Tryz.prog C) {N : Nat} (hΦ : Zaa Tryz.prog C (ZEd N)) : Zaa Tryz.prog C (ZEp N) := by
 refine hΦ.addIf_pure rfl fun R vs K r h => ?_
 unfold ZKl at h
 obtain ⟨_, _, rfl, h1⟩ := Zap h
 obtain ⟨_, _, rfl, h2⟩ := Zaj h1
 obtain ⟨_, rfl, h3⟩ := Zco h2
 obtain ⟨rfl, h4⟩ := Zcn h3
 obtain ⟨_, h5⟩ := Zae h4
 refine Zam (fn := Tryz.f130) (c := ZML) hC hΦ Tryz.func130 (by kernel_rfl) (by kernel_rfl) (Zah (Λ := Zac) (by kernel_rfl)) rfl rfl ?_
 refine (ZMu N _ _ _).trans ?_
 rw [← ZuF]
 exact h5
def ZKP (N : Nat) : (R : Type) → List V → S → (V → S → Option R) → Option R := fun _ vs s K =>
 Zcf vs fun v'1 => Zbt v'1 fun w_1 => ZaI s <| ZzE N w_1 (fun b_2 => K (.bool b_2) [])
def ZDW (N : Nat) : Zar := (ZEp N).add 160 (ZKP N)
def ZM4 : Code := ZaK Tryz.f160
theorem ZMz {R : Type} (N : Nat) (w_1 : ByteArray) (K : V → S → Option R) : Za0 C (ZEp N) (Zac) 160 Tryz.f160 [.str w_1] [] K =
 ZnI N w_1 (fun b_2 => K (.bool b_2) []) := by kernel_rfl
theorem Zx6 (hC : Ok Tryz.prog C) {N : Nat} (hΦ : Zaa Tryz.prog C (ZEp N)) : Zaa Tryz.prog C (ZDW N) := by
 refine hΦ.add_pure rfl fun R vs K r h => ?_
 unfold ZKP at h
 obtain ⟨_, rfl, h1⟩ := Zaq h
 obtain ⟨_, rfl, h2⟩ := Zav h1
 obtain ⟨_, h3⟩ := Zae h2
 refine Zam (fn := Tryz.f160) (c := ZM4) hC hΦ Tryz.func160 (by kernel_rfl) (by kernel_rfl) (Zah (Λ := Zac) (by kernel_rfl)) rfl rfl ?_
 refine (ZMz N _ _).trans ?_
 rw [← ZuR]
 exact h3
def ZJh (N : Nat) : (R : Type) → List V → S → (V → S → Option R) → Option R := fun _ vs s K =>
 Zcf vs fun v'1 => Zbt v'1 fun w_1 => ZaI s <| ZDx N w_1 (fun b_2 => K (.bool b_2) [])
def ZET (N : Nat) : Zar := (ZDW N).add 120 (ZJh N)
def ZMG : Code := ZaK Tryz.f120
theorem ZMx {R : Type} (N : Nat) (w_1 : ByteArray) (K : V → S → Option R) : Za0 C (ZDW N) (Zac) 120 Tryz.f120 [.str w_1] [] K =
 ZpY N w_1 (fun b_2 => K (.bool b_2) []) := by kernel_rfl
theorem ZyD (hC : Ok Tryz.prog C) {N : Nat} (hΦ : Zaa Tryz.prog C (ZDW N)) : Zaa Tryz.prog C (ZET N) := by
 refine hΦ.add_pure rfl fun R vs K r h => ?_
 unfold ZJh at h
 obtain ⟨_, rfl, h1⟩ := Zaq h
 obtain ⟨_, rfl, h2⟩ := Zav h1
 obtain ⟨_, h3⟩ := Zae h2
 refine Zam (fn := Tryz.f120) (c := ZMG) hC hΦ Tryz.func120 (by kernel_rfl) (by kernel_rfl) (Zah (Λ := Zac) (by kernel_rfl)) rfl rfl ?_
 refine (ZMx N _ _).trans ?_
 rw [← ZvS]
 exact h3
def ZJH (N : Nat) : (R : Type) → List V → S → (V → S → Option R) → Option R := fun _ vs s K =>
 Zcf vs fun v'1 => asInt .i64 v'1 fun x_1 => ZaI s <| Zyo N x_1 (fun b_2 => K (.bool b_2) [])
def ZIr (N : Nat) : Zar := (ZET N).add 149 (ZJH N)
def ZNR : Code := ZaK Tryz.f149
theorem ZMt {R : Type} (N : Nat) (x_1 : Int) (K : V → S → Option R) : Za0 C (ZET N) (Zac) 149 Tryz.f149 [.int .i64 x_1] [] K =
 ZkV N x_1 (fun b_2 => K (.bool b_2) []) := by kernel_rfl
theorem ZyT (hC : Ok Tryz.prog C) {N : Nat} (hΦ : Zaa Tryz.prog C (ZET N)) : Zaa Tryz.prog C (ZIr N) := by
 refine hΦ.add_pure rfl fun R vs K r h => ?_
 unfold ZJH at h
 obtain ⟨_, rfl, h1⟩ := Zaq h
 obtain ⟨_, rfl, h2⟩ := Zaf h1
 obtain ⟨_, h3⟩ := Zae h2
 refine Zam (fn := Tryz.f149) (c := ZNR) hC hΦ Tryz.func149 (by kernel_rfl) (by kernel_rfl) (Zah (Λ := Zac) (by kernel_rfl)) rfl rfl ?_
 refine (ZMt N _ _).trans ?_
 rw [← Zm2]
 exact h3
def ZI6 (N : Nat) : (R : Type) → List V → S → (V → S → Option R) → Option R := fun _ vs s K =>
 Zch vs fun v'1 v'2 => Zbt v'1 fun w_1 => asInt .u8 v'2 fun x_2 => ZaI s <| ZHJ N w_1 x_2 (fun x_3 => K (.int .i64 x_3) [])
def ZE7 (N : Nat) : Zar := (ZIr N).add 207 (ZI6 N)
theorem ZxI (hC : Ok Tryz.prog C) {N : Nat} (hΦ : Zaa Tryz.prog C (ZIr N)) : Zaa Tryz.prog C (ZE7 N) := by
 refine hΦ.add_pure rfl fun R vs K r h => ?_
 unfold ZI6 at h
 obtain ⟨_, _, rfl, h1⟩ := Zap h
 obtain ⟨_, rfl, h2⟩ := Zav h1
 obtain ⟨_, rfl, h3⟩ := Zaf h2
 obtain ⟨_, h4⟩ := Zae h3
 rw [Zws] at h4
 exact ⟨_, h4, ZfB Tryz.func207 (by kernel_rfl) (by kernel_rfl) (by kernel_rfl) (by kernel_rfl) _ _⟩
def ZJO (N : Nat) : (R : Type) → List V → S → (V → S → Option R) → Option R := fun _ vs s K =>
 Zch vs fun v'1 v'2 => Zbt v'1 fun w_1 => asInt .u8 v'2 fun x_2 => ZaI s <| ZFr N w_1 x_2 (fun x_3 => K (.int .i64 x_3) [])
def ZAL (N : Nat) : Zar := (ZE7 N).add 205 (ZJO N)
def ZNn : Code := ZaK Tryz.f205
theorem ZMJ {R : Type} (N : Nat) (w_1 : ByteArray) (x_2 : Int) (K : V → S → Option R) : Za0 C (ZE7 N) (Zac) 205 Tryz.f205 [.str w_1, .int .u8 x_2] [] K =
 Zo2 N w_1 x_2 (fun x_3 => K (.int .i64 x_3) []) := by kernel_rfl
theorem Zyw (hC : Ok Tryz.prog C) {N : Nat} (hΦ : Zaa Tryz.prog C (ZE7 N)) : Zaa Tryz.prog C (ZAL N) := by
 refine hΦ.add_pure rfl fun R vs K r h => ?_
 unfold ZJO at h
 obtain ⟨_, _, rfl, h1⟩ := Zap h
 obtain ⟨_, rfl, h2⟩ := Zav h1
 obtain ⟨_, rfl, h3⟩ := Zaf h2
 obtain ⟨_, h4⟩ := Zae h3
 refine Zam (fn := Tryz.f205) (c := ZNn) hC hΦ Tryz.func205 (by kernel_rfl) (by kernel_rfl) (Zah (Λ := Zac) (by kernel_rfl)) rfl rfl ?_
 refine (ZMJ N _ _ _).trans ?_
 rw [← Zvj]
 exact h4
def ZI7 (N : Nat) : (R : Type) → List V → S → (V → S → Option R) → Option R := fun _ vs s K =>
 Zch vs fun v'1 v'2 => Zbt v'1 fun w_1 => Zbt v'2 fun w_2 => ZaI s <| ZHk N w_1 w_2 (fun x_3 => K (.int .i64 x_3) [])
def ZDQ (N : Nat) : Zar := (ZAL N).add 197 (ZI7 N)
def ZB7 : Code := ZaK Tryz.f197
def ZdW : Code := (Zbo ZB7 [] 0).2
theorem ZJ3 : ZaX ZB7 [] = [([0, 0, 1, 1, 1, 1, 1, 1, 1, 1], ZdW)] := by kernel_rfl
theorem ZLK {R : Type} (N : Nat) (w_1 w_2 : ByteArray) (K : V → S → Option R) : Za0 C (ZAL N) (Zac) 197 Tryz.f197 [.str w_1, .str w_2] [] K =
 ZoM N w_1 w_2 (fun x_3 => K (.int .i64 x_3) []) := by kernel_rfl
theorem Zzx {N : Nat} (hC : Ok Tryz.prog C) (hΦ : Zaa Tryz.prog C (ZAL N)) : ZaV Tryz.prog C (Zac) ZB7 [] :=
 ZaC ZB7 [] (by
  rw [ZJ3]
  intro p hp
  simp only [List.mem_cons, List.mem_nil_iff, or_false] at hp
  rcases hp with rfl
  ·exact ZtF)
theorem ZxM (hC : Ok Tryz.prog C) {N : Nat} (hΦ : Zaa Tryz.prog C (ZAL N)) : Zaa Tryz.prog C (ZDQ N) := by
 refine hΦ.add_pure rfl fun R vs K r h => ?_
 unfold ZI7 at h
 obtain ⟨_, _, rfl, h1⟩ := Zap h
 obtain ⟨_, rfl, h2⟩ := Zav h1
 obtain ⟨_, rfl, h3⟩ := Zav h2
 obtain ⟨_, h4⟩ := Zae h3
 refine Zam (fn := Tryz.f197) (c := ZB7) hC hΦ Tryz.func197 (by kernel_rfl) (by kernel_rfl) (Zzx (N := N) hC hΦ) rfl rfl ?_
 refine (ZLK N _ _ _).trans ?_
 rw [← Zwc]
 exact h4
def ZJg (N : Nat) : (R : Type) → List V → S → (V → S → Option R) → Option R := fun _ vs s K =>
 Zch vs fun v'1 v'2 => Zbt v'1 fun w_1 => Zbt v'2 fun w_2 => ZaI s <| ZBp N w_1 w_2 (fun x_3 => K (.int .i64 x_3) [])
def ZIH (N : Nat) : Zar := (ZDQ N).add 189 (ZJg N)
def ZMq : Code := ZaK Tryz.f189
theorem ZM8 {R : Type} (N : Nat) (w_1 w_2 : ByteArray) (K : V → S → Option R) : Za0 C (ZDQ N) (Zac) 189 Tryz.f189 [.str w_1, .str w_2] [] K =
 Zqd N w_1 w_2 (fun x_3 => K (.int .i64 x_3) []) := by kernel_rfl
theorem ZyL (hC : Ok Tryz.prog C) {N : Nat} (hΦ : Zaa Tryz.prog C (ZDQ N)) : Zaa Tryz.prog C (ZIH N) := by
 refine hΦ.add_pure rfl fun R vs K r h => ?_
 unfold ZJg at h
 obtain ⟨_, _, rfl, h1⟩ := Zap h
 obtain ⟨_, rfl, h2⟩ := Zav h1
 obtain ⟨_, rfl, h3⟩ := Zav h2
 obtain ⟨_, h4⟩ := Zae h3
 refine Zam (fn := Tryz.f189) (c := ZMq) hC hΦ Tryz.func189 (by kernel_rfl) (by kernel_rfl) (Zah (Λ := Zac) (by kernel_rfl)) rfl rfl ?_
 refine (ZM8 N _ _ _).trans ?_
 rw [← Zu1]
 exact h4
def ZKQ (N : Nat) : (R : Type) → List V → S → (V → S → Option R) → Option R := fun _ vs s K =>
 Zch vs fun v'1 v'2 => Zbt v'1 fun w_1 => asInt .u8 v'2 fun x_2 => ZaI s <| ZFB N w_1 x_2 (fun x_3 => K (.int .i64 x_3) [])
def ZrP (N : Nat) : Zar := (ZIH N).add 196 (ZKQ N)
theorem Zze (hC : Ok Tryz.prog C) {N : Nat} (hΦ : Zaa Tryz.prog C (ZIH N)) : Zaa Tryz.prog C (ZrP N) := by
 refine hΦ.add_pure rfl fun R vs K r h => ?_
 unfold ZKQ at h
 obtain ⟨_, _, rfl, h1⟩ := Zap h
 obtain ⟨_, rfl, h2⟩ := Zav h1
 obtain ⟨_, rfl, h3⟩ := Zaf h2
 obtain ⟨_, h4⟩ := Zae h3
 rw [Zu6] at h4
 exact ⟨_, h4, ZiR Tryz.func196 (by kernel_rfl) (by kernel_rfl) (by kernel_rfl) (by kernel_rfl) _ _⟩
def ZJC (N : Nat) : (R : Type) → List V → S → (V → S → Option R) → Option R := fun _ vs s K =>
 Zch vs fun v'1 v'2 => Zbt v'1 fun w_1 => Zbt v'2 fun w_2 => ZaI s <| ZAQ N w_1 w_2 (fun x_3 => K (.int .i64 x_3) [])
def Zsg (N : Nat) : Zar := (ZrP N).add 188 (ZJC N)
def ZB4 : Code := ZaK Tryz.f188
def ZqU : Code := (Zbo ZB4 [] 0).2
def Zm5 : List Nat := ZbQ 34 [0, 1, 5]
def Zuo : List Nat := ZbQ 34 [4]
def ZjC (w_2 w_1 : ByteArray) (x_3 : Int) : List V := mkF 0 34 [(0, .str w_1), (1, .str w_2), (5, .int .i64 x_3)]
def Zg5 {R : Type} (K : X → List V → S → Option R) (w_2 : ByteArray) : Int → Option R := (fun x_1' => K .ret (mkF 0 34 [(4, .int .i64 (x_1'))]) [])
abbrev Zlj {R : Type} (N : Nat) : Nat → List V → S → (X → List V → S → Option R) → Option R := fun n => Zdx C (ZrP N) (Zac) ZqU [0, 1, 1, 1, 1] false Zm5 Zuo n R
theorem ZIy {R : Type} (N n : Nat) (w_2 : ByteArray) (w_1 : ByteArray) (x_3 : Int) (K : X → List V → S → Option R) :
 Zlj N (n + 1) (ZjC w_2 w_1 x_3) [] K =
 Zfe N w_2 (fun w_1 x_3 => Zlj N n (ZjC w_2 w_1 x_3) [] K) w_1 x_3 (Zg5 K w_2) := by kernel_rfl
theorem ZzT {R : Type} (N : Nat) (w_2 : ByteArray) (K : X → List V → S → Option R) : ∀ (n : Nat) (w_1 : ByteArray) (x_3 : Int),
 Zlj N n (ZjC w_2 w_1 x_3) [] K = ZlE N w_2 (Zg5 K w_2) n w_1 x_3
 | 0, _, _ => rfl
 | n + 1, w_1, x_3 => (ZIy N n w_2 w_1 x_3 K).trans (congrArg (fun nx => Zfe N w_2 nx w_1 x_3 (Zg5 K w_2)) (funext fun w_1 => funext fun x_3 => ZzT N w_2 K n w_1 x_3))
def ZsO {R : Type} (E : List V) (s : S) (k : ByteArray → ByteArray → Int → Option R) : Option R :=
 Zao (Za1 34 [0, 1, 5] E) <| ZiT E 0 fun w_1 => ZiT E 1 fun w_2 => ZaT E 5 .i64 fun x_3 => ZaI s <| k w_1 w_2 x_3
theorem ZoA {R : Type} {E : List V} {s : S} {k : ByteArray → ByteArray → Int → Option R} {r : R} (h : ZsO E s k = some r) : ∃ w_1 w_2 x_3, E = ZjC w_2 w_1 x_3 ∧ s = [] ∧ k w_1 w_2 x_3 = some r := by
 unfold ZsO at h
 obtain ⟨hg, h1⟩ := Zad h
 obtain ⟨_, hu0, h2⟩ := Zb0 h1
 obtain ⟨_, hu1, h3⟩ := Zb0 h2
 obtain ⟨_, hu5, h4⟩ := Zai h3
 obtain ⟨rfl, h5⟩ := Zae h4
 exact ⟨_, _, _, ZaP hg rfl (Zab hu0 (Zab hu1 (Zab hu5 ZaG))), rfl, h5⟩
def Zrq (N : Nat) : ZaA := (Zac).add [0, 1, 1, 1, 1] fun _ E s K => ZsO (Zbd Zm5 E) s fun w_1 w_2 x_3 => ZlE N w_2 (Zg5 K w_2) N w_1 x_3
theorem ZFK {N : Nat} (hC : Ok Tryz.prog C) (hΦ : Zaa Tryz.prog C (ZrP N)) : Za6 Tryz.prog C (Zrq N) ZqU [0, 1, 1, 1, 1] :=
 Za7 (Λi := Zac) (tr := false) (ks := Zm5) (kx := Zuo) (N := N) hC hΦ
  (Zah (by kernel_rfl))
  fun R E s K r h => by
   have h2 := ZaA.add_self.symm.trans h
   obtain ⟨_, _, _, he, rfl, h3⟩ := ZoA h2
   rw [he]
   exact (ZzT N _ _ N _ _).trans h3
theorem ZLj : ZaX ZB4 [] = [([0, 1, 1, 1, 1], ZqU)] := by kernel_rfl
theorem ZMW {R : Type} (N : Nat) (w_1 w_2 : ByteArray) (K : V → S → Option R) : Za0 C (ZrP N) (Zrq N) 188 Tryz.f188 [.str w_1, .str w_2] [] K =
 ZoG N w_1 w_2 (fun x_3 => K (.int .i64 x_3) []) := by kernel_rfl
theorem ZCD {N : Nat} (hC : Ok Tryz.prog C) (hΦ : Zaa Tryz.prog C (ZrP N)) : ZaV Tryz.prog C (Zrq N) ZB4 [] :=
 ZaC ZB4 [] (by
  rw [ZLj]
  intro p hp
  simp only [List.mem_cons, List.mem_nil_iff, or_false] at hp
  rcases hp with rfl
  ·exact (ZFK hC hΦ))
theorem Zzf (hC : Ok Tryz.prog C) {N : Nat} (hΦ : Zaa Tryz.prog C (ZrP N)) : Zaa Tryz.prog C (Zsg N) := by
 refine hΦ.add_pure rfl fun R vs K r h => ?_
 unfold ZJC at h
 obtain ⟨_, _, rfl, h1⟩ := Zap h
 obtain ⟨_, rfl, h2⟩ := Zav h1
 obtain ⟨_, rfl, h3⟩ := Zav h2
 obtain ⟨_, h4⟩ := Zae h3
 refine Zam (fn := Tryz.f188) (c := ZB4) hC hΦ Tryz.func188 (by kernel_rfl) (by kernel_rfl) (ZCD (N := N) hC hΦ) rfl rfl ?_
 refine (ZMW N _ _ _).trans ?_
 rw [← ZuK]
 exact h4
def ZJY (N : Nat) : (R : Type) → List V → S → (V → S → Option R) → Option R := fun _ vs s K =>
 ZHg vs fun v'1 v'2 v'3 v'4 => Zbt v'1 fun w_1 => Zbt v'2 fun w_2 => asInt .i64 v'3 fun x_3 => asInt .i64 v'4 fun x_4 => Zao (ZbU []) <| Zao (okI 0 [] []) <| ZIg N w_1 w_2 x_3 x_4 (fun e_901 => FK s [] rl K (.list 1 e_901 .sh) []) (fun k_902 e_903 => FK s [] rl K (.arr 0 0 0 k_902) [some ⟨e_903, 1, 9, 0⟩])
def ZFh (N : Nat) : Zar := (Zsg N).add 174 (ZJY N)
def ZAD : Code := ZaK Tryz.f174
def ZsG : Code := (Zbo ZAD [] 0).2
def Zm4 : List Nat := ZbQ 66 [0, 1, 2, 3, 9, 10]
def ZvP : List Nat := ZbQ 66 [0, 9, 10]
def Zju (w_2 : ByteArray) (x_3 x_4 : Int) (k_5 : Nat) (w_1 : ByteArray) (x_6 : Int) (e_7 : List V) : List V := mkF 0 66 [(0, .str w_1), (1, .str w_2), (2, .int .i64 x_3), (3, .int .i64 x_4), (9, .arr 0 0 0 k_5), (10, .int .i64 x_6)]
def ZhQ {R : Type} (K : X → List V → S → Option R) (w_2 : ByteArray) (x_3 : Int) (x_4 : Int) (k_5 : Nat) : ByteArray → Int → List V → Option R := (fun w_1' x_2' e_3' => K (.exit 0) (mkF 0 66 [(0, .str (w_1')), (9, .arr 0 0 0 k_5), (10, .int .i64 (x_2'))]) [some ⟨e_3', 1, 9, 0⟩])
abbrev ZlU {R : Type} (N : Nat) : Nat → List V → S → (X → List V → S → Option R) → Option R := fun n => Zdx C (Zsg N) (Zac) ZsG [0, 0, 1, 1, 1, 1, 1, 1, 1, 1] false Zm4 ZvP n R
theorem ZHv {R : Type} (N n : Nat) (w_2 : ByteArray) (x_3 x_4 : Int) (k_5 : Nat) (w_1 : ByteArray) (x_6 : Int) (e_7 : List V) (K : X → List V → S → Option R) :
 ZlU N (n + 1) (Zju w_2 x_3 x_4 k_5 w_1 x_6 e_7) [some ⟨e_7, 1, 9, 0⟩] K =
 ZcO N w_2 x_3 x_4 k_5 (fun w_1 x_6 e_7 => ZlU N n (Zju w_2 x_3 x_4 k_5 w_1 x_6 e_7) [some ⟨e_7, 1, 9, 0⟩] K) w_1 x_6 e_7 (ZhQ K w_2 x_3 x_4 k_5) := by kernel_rfl
theorem ZAv {R : Type} (N : Nat) (w_2 : ByteArray) (x_3 x_4 : Int) (k_5 : Nat) (K : X → List V → S → Option R) : ∀ (n : Nat) (w_1 : ByteArray) (x_6 : Int) (e_7 : List V),
 ZlU N n (Zju w_2 x_3 x_4 k_5 w_1 x_6 e_7) [some ⟨e_7, 1, 9, 0⟩] K = ZeX N w_2 x_3 x_4 k_5 (ZhQ K w_2 x_3 x_4 k_5) n w_1 x_6 e_7
 | 0, _, _, _ => rfl
 | n + 1, w_1, x_6, e_7 => (ZHv N n w_2 x_3 x_4 k_5 w_1 x_6 e_7 K).trans (congrArg (fun nx => ZcO N w_2 x_3 x_4 k_5 nx w_1 x_6 e_7 (ZhQ K w_2 x_3 x_4 k_5)) (funext fun w_1 => funext fun x_6 => funext fun e_7 => ZAv N w_2 x_3 x_4 k_5 K n w_1 x_6 e_7))
def Zsd {R : Type} (E : List V) (s : S) (k : ByteArray → ByteArray → Int → Int → Nat → Int → List V → Option R) : Option R :=
 Zao (Za1 66 [0, 1, 2, 3, 9, 10] E) <| ZiT E 0 fun w_1 => ZiT E 1 fun w_2 => ZaT E 2 .i64 fun x_3 => ZaT E 3 .i64 fun x_4 => Zbq (nth E 9) fun u9 => Ziq u9 fun k'1 k'2 k'3 k_5 => isN k'1 0 <| isN k'2 0 <| isN k'3 0 <| ZaT E 10 .i64 fun x_6 => ZdV s fun o'4 s'5 => ZdU o'4 1 9 fun e_7 k'6 => isN k'6 0 <| ZaI s'5 <| k w_1 w_2 x_3 x_4 k_5 x_6 e_7
theorem ZnB {R : Type} {E : List V} {s : S} {k : ByteArray → ByteArray → Int → Int → Nat → Int → List V → Option R} {r : R} (h : Zsd E s k = some r) : ∃ w_1 w_2 x_3 x_4 k_5 x_6 e_7, E = Zju w_2 x_3 x_4 k_5 w_1 x_6 e_7 ∧ s = [some ⟨e_7, 1, 9, 0⟩] ∧ k w_1 w_2 x_3 x_4 k_5 x_6 e_7 = some r := by
 unfold Zsd at h
 obtain ⟨hg, h1⟩ := Zad h
 obtain ⟨_, hu0, h2⟩ := Zb0 h1
 obtain ⟨_, hu1, h3⟩ := Zb0 h2
 obtain ⟨_, hu2, h4⟩ := Zai h3
 obtain ⟨_, hu3, h5⟩ := Zai h4
 obtain ⟨_, hu9, h6⟩ := Zag h5
 obtain ⟨_, _, _, _, rfl, h7⟩ := Zb3 h6
 obtain ⟨rfl, h8⟩ := Zat h7
 obtain ⟨rfl, h9⟩ := Zat h8
 obtain ⟨rfl, h10⟩ := Zat h9
 obtain ⟨_, hu10, h11⟩ := Zai h10
 obtain ⟨_, _, rfl, h12⟩ := ZaN h11
 obtain ⟨_, _, rfl, h13⟩ := ZaM h12
 obtain ⟨rfl, h14⟩ := Zat h13
 obtain ⟨rfl, h15⟩ := Zae h14
 exact ⟨_, _, _, _, _, _, _, ZaP hg rfl (Zab hu0 (Zab hu1 (Zab hu2 (Zab hu3 (Zab hu9 (Zab hu10 ZaG)))))), rfl, h15⟩
def Zs8 (N : Nat) : ZaA := (Zac).add [0, 0, 1, 1, 1, 1, 1, 1, 1, 1] fun _ E s K => Zsd (Zbd Zm4 E) s fun w_1 w_2 x_3 x_4 k_5 x_6 e_7 => ZeX N w_2 x_3 x_4 k_5 (ZhQ K w_2 x_3 x_4 k_5) N w_1 x_6 e_7
theorem ZFL {N : Nat} (hC : Ok Tryz.prog C) (hΦ : Zaa Tryz.prog C (Zsg N)) : Za6 Tryz.prog C (Zs8 N) ZsG [0, 0, 1, 1, 1, 1, 1, 1, 1, 1] :=
 Za7 (Λi := Zac) (tr := false) (ks := Zm4) (kx := ZvP) (N := N) hC hΦ
  (Zah (by kernel_rfl))
  fun R E s K r h => by
   have h2 := ZaA.add_self.symm.trans h
   obtain ⟨_, _, _, _, _, _, _, he, rfl, h3⟩ := ZnB h2
   rw [he]
   exact (ZAv N _ _ _ _ _ N _ _ _).trans h3
theorem ZJZ : ZaX ZAD [] = [([0, 0, 1, 1, 1, 1, 1, 1, 1, 1], ZsG)] := by kernel_rfl
theorem ZMF {R : Type} (N : Nat) (w_1 w_2 : ByteArray) (x_3 x_4 : Int) (K : V → S → Option R) : Za0 C (Zsg N) (Zs8 N) 174 Tryz.f174 [.str w_1, .str w_2, .int .i64 x_3, .int .i64 x_4] [] (GK rl 0 K) =
 Zo0 N w_1 w_2 x_3 x_4 (fun e_901 => K (.list 1 e_901 .sh) []) (fun k_902 e_903 => K (.arr 0 0 0 k_902) [some ⟨e_903, 1, 9, 0⟩]) := by kernel_rfl
theorem ZCJ {N : Nat} (hC : Ok Tryz.prog C) (hΦ : Zaa Tryz.prog C (Zsg N)) : ZaV Tryz.prog C (Zs8 N) ZAD [] :=
 ZaC ZAD [] (by
  rw [ZJZ]
  intro p hp
  simp only [List.mem_cons, List.mem_nil_iff, or_false] at hp
  rcases hp with rfl
  ·exact (ZFL hC hΦ))
theorem ZwV (hC : Ok Tryz.prog C) {N : Nat} (hΦ : Zaa Tryz.prog C (Zsg N)) : Zaa Tryz.prog C (ZFh N) := by
 refine hΦ.add_shared rfl fun R vs s K r h => ?_
 unfold ZJY at h
 obtain ⟨_, _, _, _, rfl, h1⟩ := ZeN h
 obtain ⟨w_1, rfl, h2⟩ := Zav h1
 obtain ⟨w_2, rfl, h3⟩ := Zav h2
 obtain ⟨x_3, rfl, h4⟩ := Zaf h3
 obtain ⟨x_4, rfl, h5⟩ := Zaf h4
 obtain ⟨hdist, h6⟩ := Zad h5
 obtain ⟨hin, h7⟩ := Zad h6
 refine ZeB (fn := Tryz.f174) (c := ZAD) (os := []) (rl := rl) (bi := []) (s0 := []) (as0 := [.str w_1, .str w_2, .int .i64 x_3, .int .i64 x_4]) hC hΦ Tryz.func174 (by kernel_rfl) (by kernel_rfl) (ZCJ (N := N) hC hΦ) rfl hdist trivial hin rfl rfl ?_
 refine (ZMF N _ _ _ _ _).trans ?_
 rw [← ZwG]
 exact h7
def ZJ9 (N : Nat) : (R : Type) → List V → S → (V → S → Option R) → Option R := fun _ vs s K =>
 Zch vs fun v'1 v'2 => Zbt v'1 fun w_1 => Zbt v'2 fun w_2 => Zao (ZbU []) <| Zao (okI 0 [] []) <| ZEC N w_1 w_2 (fun e_901 => FK s [] rl K (.list 1 e_901 .sh) []) (fun k_902 e_903 => FK s [] rl K (.arr 0 0 0 k_902) [some ⟨e_903, 1, 9, 0⟩])
def ZGx (N : Nat) : Zar := (ZFh N).add 153 (ZJ9 N)
def ZMh : Code := ZaK Tryz.f153
theorem ZM5 {R : Type} (N : Nat) (w_1 w_2 : ByteArray) (K : V → S → Option R) : Za0 C (ZFh N) (Zac) 153 Tryz.f153 [.str w_1, .str w_2] [] (GK rl 0 K) =
 ZoP N w_1 w_2 (fun e_901 => K (.list 1 e_901 .sh) []) (fun k_902 e_903 => K (.arr 0 0 0 k_902) [some ⟨e_903, 1, 9, 0⟩]) := by kernel_rfl
theorem ZwW (hC : Ok Tryz.prog C) {N : Nat} (hΦ : Zaa Tryz.prog C (ZFh N)) : Zaa Tryz.prog C (ZGx N) := by
 refine hΦ.add_shared rfl fun R vs s K r h => ?_
 unfold ZJ9 at h
 obtain ⟨_, _, rfl, h1⟩ := Zap h
 obtain ⟨w_1, rfl, h2⟩ := Zav h1
 obtain ⟨w_2, rfl, h3⟩ := Zav h2
 obtain ⟨hdist, h4⟩ := Zad h3
 obtain ⟨hin, h5⟩ := Zad h4
 refine ZeB (fn := Tryz.f153) (c := ZMh) (os := []) (rl := rl) (bi := []) (s0 := []) (as0 := [.str w_1, .str w_2]) hC hΦ Tryz.func153 (by kernel_rfl) (by kernel_rfl) (Zah (Λ := Zac) (by kernel_rfl)) rfl hdist trivial hin rfl rfl ?_
 refine (ZM5 N _ _ _).trans ?_
 rw [← ZvG]
 exact h5
def ZKb (N : Nat) : (R : Type) → List V → S → (V → S → Option R) → Option R := fun _ vs s K =>
 Zcf vs fun v'1 => Zbt v'1 fun w_1 => ZaI s <| ZC5 N w_1 (fun b_2 => K (.bool b_2) [])
def ZsX (N : Nat) : Zar := (ZGx N).add 154 (ZKb N)
def ZNv : Code := ZaK Tryz.f154
theorem ZM7 {R : Type} (N : Nat) (w_1 : ByteArray) (K : V → S → Option R) : Za0 C (ZGx N) (Zac) 154 Tryz.f154 [.str w_1] [] K =
 ZkI N w_1 (fun b_2 => K (.bool b_2) []) := by kernel_rfl
theorem Zxn (hC : Ok Tryz.prog C) {N : Nat} (hΦ : Zaa Tryz.prog C (ZGx N)) : Zaa Tryz.prog C (ZsX N) := by
 refine hΦ.add_pure rfl fun R vs K r h => ?_
 unfold ZKb at h
 obtain ⟨_, rfl, h1⟩ := Zaq h
 obtain ⟨_, rfl, h2⟩ := Zav h1
 obtain ⟨_, h3⟩ := Zae h2
 refine Zam (fn := Tryz.f154) (c := ZNv) hC hΦ Tryz.func154 (by kernel_rfl) (by kernel_rfl) (Zah (Λ := Zac) (by kernel_rfl)) rfl rfl ?_
 refine (ZM7 N _ _).trans ?_
 rw [← Zmt]
 exact h3
def ZJU (N : Nat) : (R : Type) → List V → S → (V → S → Option R) → Option R := fun _ vs s K =>
 Zch vs fun v'1 v'2 => ZaQ 1 v'1 fun e_1 f_2 => Zzm 154 v'2 fun c'3 => Zzk c'3 <| ZaI s <| ZEe N e_1 f_2 (fun x_3 => K (.int .i64 x_3) [])
def Zs5 (N : Nat) : Zar := (ZsX N).addIf 173 (fun l => ZLm 1 154 l) (ZJU N)
def ZAZ : Code := ZaK Tryz.f173
def Zq0 : Code := (Zbo ZAZ [] 0).2
def Zmm : List Nat := ZbQ 19 [0, 1, 7, 8]
def Zvf : List Nat := ZbQ 19 [4]
def Zjs (e_1 : List V) (f_2 : Fl) (x_3 x_4 : Int) : List V := mkF 0 19 [(0, .list 1 e_1 f_2), (1, .fn 154 []), (7, .int .i64 x_3), (8, .int .i64 x_4)]
def ZhJ {R : Type} (K : X → List V → S → Option R) (e_1 : List V) (f_2 : Fl) (x_3 : Int) : Int → Option R := (fun x_1' => K .ret (mkF 0 19 [(4, .int .i64 (x_1'))]) [])
def ZgH {R : Type} (K : X → List V → S → Option R) (e_1 : List V) (f_2 : Fl) (x_3 : Int) : Unit → Option R := (fun _ => K (.exit 0) (mkF 0 19 []) [])
abbrev Znj {R : Type} (N : Nat) : Nat → List V → S → (X → List V → S → Option R) → Option R := fun n => Zdx C (ZsX N) (Zac) Zq0 [0, 1, 0, 1] false Zmm Zvf n R
theorem ZH1 {R : Type} (N n : Nat) (e_1 : List V) (f_2 : Fl) (x_3 : Int) (x_4 : Int) (K : X → List V → S → Option R) :
 Znj N (n + 1) (Zjs e_1 f_2 x_3 x_4) [] K =
 Zdq N e_1 f_2 x_3 (fun x_4 => Znj N n (Zjs e_1 f_2 x_3 x_4) [] K) x_4 (ZhJ K e_1 f_2 x_3) (ZgH K e_1 f_2 x_3) := by kernel_rfl
theorem ZzM {R : Type} (N : Nat) (e_1 : List V) (f_2 : Fl) (x_3 : Int) (K : X → List V → S → Option R) : ∀ (n : Nat) (x_4 : Int),
 Znj N n (Zjs e_1 f_2 x_3 x_4) [] K = ZfQ N e_1 f_2 x_3 (ZhJ K e_1 f_2 x_3) (ZgH K e_1 f_2 x_3) n x_4
 | 0, _ => rfl
 | n + 1, x_4 => (ZH1 N n e_1 f_2 x_3 x_4 K).trans (congrArg (fun nx => Zdq N e_1 f_2 x_3 nx x_4 (ZhJ K e_1 f_2 x_3) (ZgH K e_1 f_2 x_3)) (funext fun x_4 => ZzM N e_1 f_2 x_3 K n x_4))
def ZsC {R : Type} (E : List V) (s : S) (k : List V → Fl → Int → Int → Option R) : Option R :=
 Zao (Za1 19 [0, 1, 7, 8] E) <| Zbr E 0 1 fun e_1 f_2 => Zbq (nth E 1) fun u1 => Zzm 154 u1 fun c'1 => Zzk c'1 <| ZaT E 7 .i64 fun x_3 => ZaT E 8 .i64 fun x_4 => ZaI s <| k e_1 f_2 x_3 x_4
theorem ZpC {R : Type} {E : List V} {s : S} {k : List V → Fl → Int → Int → Option R} {r : R} (h : ZsC E s k = some r) : ∃ e_1 f_2 x_3 x_4, E = Zjs e_1 f_2 x_3 x_4 ∧ s = [] ∧ k e_1 f_2 x_3 x_4 = some r := by
 unfold ZsC at h
 obtain ⟨hg, h1⟩ := Zad h
 obtain ⟨_, _, hu0, h2⟩ := Zax h1
 obtain ⟨_, hu1, h3⟩ := Zag h2
 obtain ⟨_, rfl, h4⟩ := Zco h3
 obtain ⟨rfl, h5⟩ := Zcn h4
 obtain ⟨_, hu7, h6⟩ := Zai h5
 obtain ⟨_, hu8, h7⟩ := Zai h6
 obtain ⟨rfl, h8⟩ := Zae h7
 exact ⟨_, _, _, _, ZaP hg rfl (Zab hu0 (Zab hu1 (Zab hu7 (Zab hu8 ZaG)))), rfl, h8⟩
def Ztj (N : Nat) : ZaA := (Zac).add [0, 1, 0, 1] fun _ E s K => ZsC (Zbd Zmm E) s fun e_1 f_2 x_3 x_4 => ZfQ N e_1 f_2 x_3 (ZhJ K e_1 f_2 x_3) (ZgH K e_1 f_2 x_3) N x_4
theorem ZGE {N : Nat} (hC : Ok Tryz.prog C) (hΦ : Zaa Tryz.prog C (ZsX N)) : Za6 Tryz.prog C (Ztj N) Zq0 [0, 1, 0, 1] :=
 Za7 (Λi := Zac) (tr := false) (ks := Zmm) (kx := Zvf) (N := N) hC hΦ
  (Zah (by kernel_rfl))
  fun R E s K r h => by
   have h2 := ZaA.add_self.symm.trans h
   obtain ⟨_, _, _, _, he, rfl, h3⟩ := ZpC h2
   rw [he]
   exact (ZzM N _ _ _ _ N _).trans h3
theorem ZKA : ZaX ZAZ [] = [([0, 1, 0, 1], Zq0)] := by kernel_rfl
theorem ZLQ {R : Type} (N : Nat) (e_1 : List V) (f_2 : Fl) (K : V → S → Option R) : Za0 C (ZsX N) (Ztj N) 173 Tryz.f173 [.list 1 e_1 f_2, .fn 154 []] [] K =
 Zqm N e_1 f_2 (fun x_3 => K (.int .i64 x_3) []) := by kernel_rfl
theorem ZzU {N : Nat} (hC : Ok Tryz.prog C) (hΦ : Zaa Tryz.prog C (ZsX N)) : ZaV Tryz.prog C (Ztj N) ZAZ [] :=
 ZaC ZAZ [] (by
  rw [ZKA]
  intro p hp
  simp only [List.mem_cons, List.mem_nil_iff, or_false] at hp
  rcases hp with rfl
  ·exact (ZGE hC hΦ))
theorem Zyl (hC : Ok Tryz.prog C) {N : Nat} (hΦ : Zaa Tryz.prog C (ZsX N)) : Zaa Tryz.prog C (Zs5 N) := by
 refine hΦ.addIf_pure rfl fun R vs K r h => ?_
 unfold ZJU at h
 obtain ⟨_, _, rfl, h1⟩ := Zap h
 obtain ⟨_, _, rfl, h2⟩ := Zaj h1
 obtain ⟨_, rfl, h3⟩ := Zco h2
 obtain ⟨rfl, h4⟩ := Zcn h3
 obtain ⟨_, h5⟩ := Zae h4
 refine Zam (fn := Tryz.f173) (c := ZAZ) hC hΦ Tryz.func173 (by kernel_rfl) (by kernel_rfl) (ZzU (N := N) hC hΦ) rfl rfl ?_
 refine (ZLQ N _ _ _).trans ?_
 rw [← ZuU]
 exact h5
def ZJA (N : Nat) : (R : Type) → List V → S → (V → S → Option R) → Option R := fun _ vs s K =>
 Zch vs fun v'1 v'2 => Ziq v'1 fun o0 k'4 k'5 k_1 => isN k'4 0 <| isN k'5 0 <| Zzm 154 v'2 fun c'6 => Zzk c'6 <| ZLt s o0 0 fun o'7 => ZdU o'7 1 9 fun e_2 k'9 => isN k'9 0 <| Zao (ZbU [o0]) <| Zao (okI 1 [false] [some ⟨e_2, 1, 9, 0⟩]) <| ZDu N k_1 e_2 (fun k_901 e_902 => FK s [o0] rl K (.arr 0 0 0 k_901) [some ⟨e_902, 1, 9, 0⟩])
def ZFw (N : Nat) : Zar := (Zs5 N).addIf 152 (fun l => ZNY 1 154 l) (ZJA N)
def ZCa : Code := ZaK Tryz.f152
def ZtO : Code := (Zbo ZCa [] 0).2
def Zlb : List Nat := ZbQ 42 [0, 1, 5, 6]
def ZtV : List Nat := ZbQ 42 [0, 5]
def Zi2 (k_1 : Nat) (x_2 x_3 : Int) (e_4 : List V) : List V := mkF 0 42 [(0, .arr 0 0 0 k_1), (1, .fn 154 []), (5, .int .i64 x_2), (6, .int .i64 x_3)]
def ZgQ {R : Type} (K : X → List V → S → Option R) (k_1 : Nat) : Int → List V → Option R := (fun x_1' e_2' => K (.exit 0) (mkF 0 42 [(0, .arr 0 0 0 k_1), (5, .int .i64 (x_1'))]) [some ⟨e_2', 1, 9, 0⟩])
abbrev Zmu {R : Type} (N : Nat) : Nat → List V → S → (X → List V → S → Option R) → Option R := fun n => Zdx C (Zs5 N) (Zac) ZtO [0, 1, 0, 1, 1, 1] false Zlb ZtV n R
theorem ZIz {R : Type} (N n : Nat) (k_1 : Nat) (x_2 x_3 : Int) (e_4 : List V) (K : X → List V → S → Option R) :
 Zmu N (n + 1) (Zi2 k_1 x_2 x_3 e_4) [some ⟨e_4, 1, 9, 0⟩] K =
 Zdm N k_1 (fun x_2 x_3 e_4 => Zmu N n (Zi2 k_1 x_2 x_3 e_4) [some ⟨e_4, 1, 9, 0⟩] K) x_2 x_3 e_4 (ZgQ K k_1) := by kernel_rfl
theorem ZAF {R : Type} (N : Nat) (k_1 : Nat) (K : X → List V → S → Option R) : ∀ (n : Nat) (x_2 x_3 : Int) (e_4 : List V),
 Zmu N n (Zi2 k_1 x_2 x_3 e_4) [some ⟨e_4, 1, 9, 0⟩] K = ZeT N k_1 (ZgQ K k_1) n x_2 x_3 e_4
 | 0, _, _, _ => rfl
 | n + 1, x_2, x_3, e_4 => (ZIz N n k_1 x_2 x_3 e_4 K).trans (congrArg (fun nx => Zdm N k_1 nx x_2 x_3 e_4 (ZgQ K k_1)) (funext fun x_2 => funext fun x_3 => funext fun e_4 => ZAF N k_1 K n x_2 x_3 e_4))
def Zr8 {R : Type} (E : List V) (s : S) (k : Nat → Int → Int → List V → Option R) : Option R :=
 Zao (Za1 42 [0, 1, 5, 6] E) <| Zbq (nth E 0) fun u0 => Ziq u0 fun k'1 k'2 k'3 k_1 => isN k'1 0 <| isN k'2 0 <| isN k'3 0 <| Zbq (nth E 1) fun u1 => Zzm 154 u1 fun c'4 => Zzk c'4 <| ZaT E 5 .i64 fun x_2 => ZaT E 6 .i64 fun x_3 => ZdV s fun o'5 s'6 => ZdU o'5 1 9 fun e_4 k'7 => isN k'7 0 <| ZaI s'6 <| k k_1 x_2 x_3 e_4
theorem ZpQ {R : Type} {E : List V} {s : S} {k : Nat → Int → Int → List V → Option R} {r : R} (h : Zr8 E s k = some r) : ∃ k_1 x_2 x_3 e_4, E = Zi2 k_1 x_2 x_3 e_4 ∧ s = [some ⟨e_4, 1, 9, 0⟩] ∧ k k_1 x_2 x_3 e_4 = some r := by
 unfold Zr8 at h
 obtain ⟨hg, h1⟩ := Zad h
 obtain ⟨_, hu0, h2⟩ := Zag h1
 obtain ⟨_, _, _, _, rfl, h3⟩ := Zb3 h2
 obtain ⟨rfl, h4⟩ := Zat h3
 obtain ⟨rfl, h5⟩ := Zat h4
 obtain ⟨rfl, h6⟩ := Zat h5
 obtain ⟨_, hu1, h7⟩ := Zag h6
 obtain ⟨_, rfl, h8⟩ := Zco h7
 obtain ⟨rfl, h9⟩ := Zcn h8
 obtain ⟨_, hu5, h10⟩ := Zai h9
 obtain ⟨_, hu6, h11⟩ := Zai h10
 obtain ⟨_, _, rfl, h12⟩ := ZaN h11
 obtain ⟨_, _, rfl, h13⟩ := ZaM h12
 obtain ⟨rfl, h14⟩ := Zat h13
 obtain ⟨rfl, h15⟩ := Zae h14
 exact ⟨_, _, _, _, ZaP hg rfl (Zab hu0 (Zab hu1 (Zab hu5 (Zab hu6 ZaG)))), rfl, h15⟩
def Zrg (N : Nat) : ZaA := (Zac).add [0, 1, 0, 1, 1, 1] fun _ E s K => Zr8 (Zbd Zlb E) s fun k_1 x_2 x_3 e_4 => ZeT N k_1 (ZgQ K k_1) N x_2 x_3 e_4
theorem ZFF {N : Nat} (hC : Ok Tryz.prog C) (hΦ : Zaa Tryz.prog C (Zs5 N)) : Za6 Tryz.prog C (Zrg N) ZtO [0, 1, 0, 1, 1, 1] :=
 Za7 (Λi := Zac) (tr := false) (ks := Zlb) (kx := ZtV) (N := N) hC hΦ
  (Zah (by kernel_rfl))
  fun R E s K r h => by
   have h2 := ZaA.add_self.symm.trans h
   obtain ⟨_, _, _, _, he, rfl, h3⟩ := ZpQ h2
   rw [he]
   exact (ZAF N _ _ N _ _ _).trans h3
theorem ZJm : ZaX ZCa [] = [([0, 1, 0, 1, 1, 1], ZtO)] := by kernel_rfl
theorem ZMd {R : Type} (N : Nat) (k_1 : Nat) (e_2 : List V) (K : V → S → Option R) : Za0 C (Zs5 N) (Zrg N) 152 Tryz.f152 [.arr 0 0 0 k_1, .fn 154 []] [some ⟨e_2, 1, 9, 0⟩] (GK rl 1 K) =
 ZnD N k_1 e_2 (fun k_901 e_902 => K (.arr 0 0 0 k_901) [some ⟨e_902, 1, 9, 0⟩]) := by kernel_rfl
theorem ZAz {N : Nat} (hC : Ok Tryz.prog C) (hΦ : Zaa Tryz.prog C (Zs5 N)) : ZaV Tryz.prog C (Zrg N) ZCa [] :=
 ZaC ZCa [] (by
  rw [ZJm]
  intro p hp
  simp only [List.mem_cons, List.mem_nil_iff, or_false] at hp
  rcases hp with rfl
  ·exact (ZFF hC hΦ))
theorem Zx2 (hC : Ok Tryz.prog C) {N : Nat} (hΦ : Zaa Tryz.prog C (Zs5 N)) : Zaa Tryz.prog C (ZFw N) := by
 refine hΦ.addIf_shared rfl fun R vs s K r h => ?_
 unfold ZJA at h
 obtain ⟨_, _, rfl, h1⟩ := Zap h
 obtain ⟨o0, _, _, k_1, rfl, h2⟩ := Zb3 h1
 obtain ⟨rfl, h3⟩ := Zat h2
 obtain ⟨rfl, h4⟩ := Zat h3
 obtain ⟨_, rfl, h5⟩ := Zco h4
 obtain ⟨rfl, h6⟩ := Zcn h5
 obtain ⟨_, hob0, h7⟩ := Zpa h6
 obtain ⟨e_2, _, rfl, h8⟩ := ZaM h7
 obtain ⟨rfl, h9⟩ := Zat h8
 obtain ⟨hdist, h10⟩ := Zad h9
 obtain ⟨hin, h11⟩ := Zad h10
 refine ZeB (fn := Tryz.f152) (c := ZCa) (os := [o0]) (rl := rl) (bi := [false]) (s0 := [some ⟨e_2, 1, 9, 0⟩]) (as0 := [.arr 0 0 0 k_1, .fn 154 []]) hC hΦ Tryz.func152 (by kernel_rfl) (by kernel_rfl) (ZAz (N := N) hC hΦ) rfl hdist ⟨⟨_, rfl, hob0⟩, trivial⟩ hin rfl rfl ?_
 refine (ZMd N _ _ _).trans ?_
 rw [← Zt6]
 exact h11
def ZJR (N : Nat) : (R : Type) → List V → S → (V → S → Option R) → Option R := fun _ vs s K =>
 Zcf vs fun v'1 => Zbt v'1 fun w_1 => ZaI s <| ZpW N w_1 (fun e_2 => K (.list 1 e_2 .sh) [])
def ZEO (N : Nat) : Zar := (ZFw N).add 98 (ZJR N)
def ZMT : Code := ZaK Tryz.f98
theorem ZNx {R : Type} (N : Nat) (w_1 : ByteArray) (K : V → S → Option R) : Za0 C (ZFw N) (Zac) 98 Tryz.f98 [.str w_1] [] K =
 ZpH N w_1 (fun e_2 => K (.list 1 e_2 .sh) []) := by kernel_rfl
theorem Zyx (hC : Ok Tryz.prog C) {N : Nat} (hΦ : Zaa Tryz.prog C (ZFw N)) : Zaa Tryz.prog C (ZEO N) := by
 refine hΦ.add_pure rfl fun R vs K r h => ?_
 unfold ZJR at h
 obtain ⟨_, rfl, h1⟩ := Zaq h
 obtain ⟨_, rfl, h2⟩ := Zav h1
 obtain ⟨_, h3⟩ := Zae h2
 refine Zam (fn := Tryz.f98) (c := ZMT) hC hΦ Tryz.func98 (by kernel_rfl) (by kernel_rfl) (Zah (Λ := Zac) (by kernel_rfl)) rfl rfl ?_
 refine (ZNx N _ _).trans ?_
 rw [← Zwv]
 exact h3
end
end Go.VM.VL
