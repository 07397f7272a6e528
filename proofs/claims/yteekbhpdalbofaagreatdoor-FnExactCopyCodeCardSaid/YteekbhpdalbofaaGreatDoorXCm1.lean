/- The functions of the program, told plainly: what each computes, as a function of its letters; and that the machine does the same. Printed by vgen.py, a program of this session's own. -/
import Derived.Test.YteekbhpdalbofaaGreatDoorXC
import Derived.WalkKit
import Derived.Lib.Walk
import Derived.Lib.SliceRun
import Derived.Lib.AppendZerosOnto
import Derived.Test.YteekbhpdalbofaaGreatDoorProg
import Derived.KernelRfl
set_option linter.unusedVariables false
namespace Go.VM.VL
noncomputable section
open Go.Proofs
def rl (t : TypeId) : Bool := [9].any (Nat.beq t)
def mode (f : FuncId) : Mode :=
 match [73, 89, 127, 152, 153, 174].any (Nat.beq f) with
 | true => .shared
 | false => match [88, 155].any (Nat.beq f) with
  | true => .own
  | false => .pure
abbrev C : Cfg := Cfg.of Tryz.prog 9 mode (fun f => [155].any (Nat.beq f))
def ZNX (N : Nat) : (R : Type) → List V → S → (V → S → Option R) → Option R := fun _ vs s K =>
 Zcf vs fun v'1 v'2 => Zcc v'1 fun w_1 x_2 => asInt .i64 v'2 fun x_3 => ZaF s <| ZGS N w_1 x_2 x_3 (fun x_4 => K (.int .i64 x_4) [])
def Zsh (N : Nat) : Zar := (Zkg).add 166 (ZNX N)
def ZOC : Code := ZaE Tryz.f166
theorem ZQK {R : Type} (N : Nat) (w_1 : ByteArray) (x_2 x_3 : Int) (K : V → S → Option R) : ZaU C (Zkg) (Zac) 166 Tryz.f166 [.agg [.str w_1, .int .i64 x_2], .int .i64 x_3] [] K =
 ZqG N w_1 x_2 x_3 (fun x_4 => K (.int .i64 x_4) []) := by kernel_rfl
theorem ZAr (hC : Ok Tryz.prog C) {N : Nat} (hΦ : Zaa Tryz.prog C (Zkg)) : Zaa Tryz.prog C (Zsh N) := by
 refine hΦ.add_pure rfl fun R vs K r h => ?_
 unfold ZNX at h
 obtain ⟨_, _, rfl, h1⟩ := Zat h
 obtain ⟨_, _, rfl, h2⟩ := Zeb h1
 obtain ⟨_, rfl, h3⟩ := Zaf h2
 obtain ⟨_, h4⟩ := Zae h3
 refine Zak (fn := Tryz.f166) (c := ZOC) hC hΦ Tryz.func166 (by kernel_rfl) (by kernel_rfl) (Zah (Λ := Zac) (by kernel_rfl)) rfl rfl ?_
 refine (ZQK N _ _ _ _).trans ?_
 rw [← ZwD]
 exact h4
def ZLR (N : Nat) : (R : Type) → List V → S → (V → S → Option R) → Option R := fun _ vs s K =>
 Zcf vs fun v'1 v'2 => ZaV 2 v'1 fun e_1 f_2 => asInt .i64 v'2 fun x_3 => ZaF s <| ZGa N e_1 f_2 x_3 (fun x_4 => K (.int .i64 x_4) [])
def ZGl (N : Nat) : Zar := (Zsh N).add 137 (ZLR N)
def ZEe : Code := ZaE Tryz.f137
def Zsa : Code := (Zbj ZEe [] 0).2
def Znz : List Nat := ZbO 27 [0, 1, 5]
def ZwF : List Nat := ZbO 27 [1, 4]
def Zj6 (e_1 : List V) (f_2 : Fl) (x_3 x_4 : Int) : List V := mkF 0 27 [(0, .list 2 e_1 f_2), (1, .int .i64 x_3), (5, .int .i64 x_4)]
def Zio {R : Type} (K : X → List V → S → Option R) (e_1 : List V) (f_2 : Fl) : Int → Option R := (fun x_1' => K .ret (mkF 0 27 [(1, .int .i64 (x_1')), (4, .int .i64 (-1))]) [])
def Zg2 {R : Type} (K : X → List V → S → Option R) (e_1 : List V) (f_2 : Fl) : Int → Option R := (fun x_1' => K (.exit 0) (mkF 0 27 [(1, .int .i64 (x_1'))]) [])
abbrev Zl5 {R : Type} (N : Nat) : Nat → List V → S → (X → List V → S → Option R) → Option R := fun n => ZcO C (Zsh N) (Zac) Zsa [0, 1, 0, 1, 1, 1] false Znz ZwF n R
theorem ZKU {R : Type} (N n : Nat) (e_1 : List V) (f_2 : Fl) (x_3 x_4 : Int) (K : X → List V → S → Option R) :
 Zl5 N (n + 1) (Zj6 e_1 f_2 x_3 x_4) [] K =
 Zdl N e_1 f_2 (fun x_3 x_4 => Zl5 N n (Zj6 e_1 f_2 x_3 x_4) [] K) x_3 x_4 (Zio K e_1 f_2) (Zg2 K e_1 f_2) := by kernel_rfl
theorem ZES {R : Type} (N : Nat) (e_1 : List V) (f_2 : Fl) (K : X → List V → S → Option R) : ∀ (n : Nat) (x_3 x_4 : Int),
 Zl5 N n (Zj6 e_1 f_2 x_3 x_4) [] K = Zfe N e_1 f_2 (Zio K e_1 f_2) (Zg2 K e_1 f_2) n x_3 x_4
 | 0, _, _ => rfl
 | n + 1, x_3, x_4 => (ZKU N n e_1 f_2 x_3 x_4 K).trans (congrArg (fun nx => Zdl N e_1 f_2 nx x_3 x_4 (Zio K e_1 f_2) (Zg2 K e_1 f_2)) (funext fun x_3 => funext fun x_4 => ZES N e_1 f_2 K n x_3 x_4))
def Zsp {R : Type} (E : List V) (s : S) (k : List V → Fl → Int → Int → Option R) : Option R :=
 Zan (ZaZ 27 [0, 1, 5] E) <| Zbz E 0 2 fun e_1 f_2 => ZaR E 1 .i64 fun x_3 => ZaR E 5 .i64 fun x_4 => ZaF s <| k e_1 f_2 x_3 x_4
theorem ZrU {R : Type} {E : List V} {s : S} {k : List V → Fl → Int → Int → Option R} {r : R} (h : Zsp E s k = some r) : ∃ e_1 f_2 x_3 x_4, E = Zj6 e_1 f_2 x_3 x_4 ∧ s = [] ∧ k e_1 f_2 x_3 x_4 = some r := by
 unfold Zsp at h
 obtain ⟨hg, h1⟩ := Zad h
 obtain ⟨_, _, hu0, h2⟩ := ZaA h1
 obtain ⟨_, hu1, h3⟩ := Zai h2
 obtain ⟨_, hu5, h4⟩ := Zai h3
 obtain ⟨rfl, h5⟩ := Zae h4
 exact ⟨_, _, _, _, ZaP hg rfl (Zab hu0 (Zab hu1 (Zab hu5 ZaG))), rfl, h5⟩
def Zum (N : Nat) : Zaw := (Zac).add [0, 1, 0, 1, 1, 1] fun _ E s K => Zsp (Zbc Znz E) s fun e_1 f_2 x_3 x_4 => Zfe N e_1 f_2 (Zio K e_1 f_2) (Zg2 K e_1 f_2) N x_3 x_4
theorem ZFC {N : Nat} (hC : Ok Tryz.prog C) (hΦ : Zaa Tryz.prog C (Zsh N)) : Za1 Tryz.prog C (Zum N) Zsa [0, 1, 0, 1, 1, 1] :=
 Za2 (Λi := Zac) (tr := false) (ks := Znz) (kx := ZwF) (N := N) hC hΦ
  (Zah (by kernel_rfl))
  fun R E s K r h => by
   have h2 := Zaw.add_self.symm.trans h
   obtain ⟨_, _, _, _, he, rfl, h3⟩ := ZrU h2
   rw [he]
   exact (ZES N _ _ _ N _ _).trans h3
theorem ZM2 : ZaY ZEe [] = [([0, 1, 0, 1, 1, 1], Zsa)] := by kernel_rfl
theorem ZPo {R : Type} (N : Nat) (e_1 : List V) (f_2 : Fl) (x_3 : Int) (K : V → S → Option R) : ZaU C (Zsh N) (Zum N) 137 Tryz.f137 [.list 2 e_1 f_2, .int .i64 x_3] [] K =
 ZpN N e_1 f_2 x_3 (fun x_4 => K (.int .i64 x_4) []) := by kernel_rfl
theorem ZEH {N : Nat} (hC : Ok Tryz.prog C) (hΦ : Zaa Tryz.prog C (Zsh N)) : ZaT Tryz.prog C (Zum N) ZEe [] :=
 ZaB ZEe [] (by
  rw [ZM2]
  intro p hp
  simp only [List.mem_cons, List.mem_nil_iff, or_false] at hp
  rcases hp with rfl
  ·exact (ZFC hC hΦ))
theorem Zzu (hC : Ok Tryz.prog C) {N : Nat} (hΦ : Zaa Tryz.prog C (Zsh N)) : Zaa Tryz.prog C (ZGl N) := by
 refine hΦ.add_pure rfl fun R vs K r h => ?_
 unfold ZLR at h
 obtain ⟨_, _, rfl, h1⟩ := Zat h
 obtain ⟨_, _, rfl, h2⟩ := Zal h1
 obtain ⟨_, rfl, h3⟩ := Zaf h2
 obtain ⟨_, h4⟩ := Zae h3
 refine Zak (fn := Tryz.f137) (c := ZEe) hC hΦ Tryz.func137 (by kernel_rfl) (by kernel_rfl) (ZEH (N := N) hC hΦ) rfl rfl ?_
 refine (ZPo N _ _ _ _).trans ?_
 rw [← ZvZ]
 exact h4
def ZL0 (N : Nat) : (R : Type) → List V → S → (V → S → Option R) → Option R := fun _ vs s K =>
 Zcf vs fun v'1 v'2 => Zcm v'1 fun x_1 x_2 x_3 x_4 x_5 w_6 e_7 f_8 => asInt .i64 v'2 fun x_9 => ZaF s <| ZFY N x_1 x_2 x_3 x_4 x_5 w_6 e_7 f_8 x_9 (fun x_10 => K (.int .i64 x_10) [])
def Ztk (N : Nat) : Zar := (ZGl N).add 84 (ZL0 N)
def ZQo : Code := ZaE Tryz.f84
theorem ZPL {R : Type} (N : Nat) (x_1 x_2 x_3 x_4 x_5 : Int) (w_6 : ByteArray) (e_7 : List V) (f_8 : Fl) (x_9 : Int) (K : V → S → Option R) : ZaU C (ZGl N) (Zac) 84 Tryz.f84 [.agg [.int .i64 x_1, .int .i64 x_2, .int .i64 x_3, .int .i64 x_4, .int .i64 x_5, .str w_6, .list 2 e_7 f_8], .int .i64 x_9] [] K =
 Zq7 N x_1 x_2 x_3 x_4 x_5 w_6 e_7 f_8 x_9 (fun x_10 => K (.int .i64 x_10) []) := by kernel_rfl
theorem Zz9 (hC : Ok Tryz.prog C) {N : Nat} (hΦ : Zaa Tryz.prog C (ZGl N)) : Zaa Tryz.prog C (Ztk N) := by
 refine hΦ.add_pure rfl fun R vs K r h => ?_
 unfold ZL0 at h
 obtain ⟨_, _, rfl, h1⟩ := Zat h
 obtain ⟨_, _, _, _, _, _, _, _, rfl, h2⟩ := Zez h1
 obtain ⟨_, rfl, h3⟩ := Zaf h2
 obtain ⟨_, h4⟩ := Zae h3
 refine Zak (fn := Tryz.f84) (c := ZQo) hC hΦ Tryz.func84 (by kernel_rfl) (by kernel_rfl) (Zah (Λ := Zac) (by kernel_rfl)) rfl rfl ?_
 refine (ZPL N _ _ _ _ _ _ _ _ _ _).trans ?_
 rw [← Zw2]
 exact h4
def ZNW (N : Nat) : (R : Type) → List V → S → (V → S → Option R) → Option R := fun _ vs s K =>
 Zcf vs fun v'1 v'2 => ZaV 7 v'1 fun e_1 f_2 => asInt .i64 v'2 fun x_3 => ZaF s <| ZFN N e_1 f_2 x_3 (fun x_4 => K (.int .i64 x_4) [])
def ZI9 (N : Nat) : Zar := (Ztk N).add 44 (ZNW N)
def ZBH : Code := ZaE Tryz.f44
def ZrZ : Code := (Zbj ZBH [] 0).2
def ZlY : List Nat := ZbO 27 [0, 1, 5]
def ZvT : List Nat := ZbO 27 [1, 4]
def Zjt (e_1 : List V) (f_2 : Fl) (x_3 x_4 : Int) : List V := mkF 0 27 [(0, .list 7 e_1 f_2), (1, .int .i64 x_3), (5, .int .i64 x_4)]
def Zhy {R : Type} (K : X → List V → S → Option R) (e_1 : List V) (f_2 : Fl) : Int → Option R := (fun x_1' => K .ret (mkF 0 27 [(1, .int .i64 (x_1')), (4, .int .i64 (-1))]) [])
def ZhB {R : Type} (K : X → List V → S → Option R) (e_1 : List V) (f_2 : Fl) : Int → Option R := (fun x_1' => K (.exit 0) (mkF 0 27 [(1, .int .i64 (x_1'))]) [])
abbrev ZlW {R : Type} (N : Nat) : Nat → List V → S → (X → List V → S → Option R) → Option R := fun n => ZcO C (Ztk N) (Zac) ZrZ [0, 1, 0, 1, 1, 1] false ZlY ZvT n R
theorem ZJI {R : Type} (N n : Nat) (e_1 : List V) (f_2 : Fl) (x_3 x_4 : Int) (K : X → List V → S → Option R) :
 ZlW N (n + 1) (Zjt e_1 f_2 x_3 x_4) [] K =
 ZdB N e_1 f_2 (fun x_3 x_4 => ZlW N n (Zjt e_1 f_2 x_3 x_4) [] K) x_3 x_4 (Zhy K e_1 f_2) (ZhB K e_1 f_2) := by kernel_rfl
theorem ZEb {R : Type} (N : Nat) (e_1 : List V) (f_2 : Fl) (K : X → List V → S → Option R) : ∀ (n : Nat) (x_3 x_4 : Int),
 ZlW N n (Zjt e_1 f_2 x_3 x_4) [] K = ZeY N e_1 f_2 (Zhy K e_1 f_2) (ZhB K e_1 f_2) n x_3 x_4
 | 0, _, _ => rfl
 | n + 1, x_3, x_4 => (ZJI N n e_1 f_2 x_3 x_4 K).trans (congrArg (fun nx => ZdB N e_1 f_2 nx x_3 x_4 (Zhy K e_1 f_2) (ZhB K e_1 f_2)) (funext fun x_3 => funext fun x_4 => ZEb N e_1 f_2 K n x_3 x_4))
def ZuN {R : Type} (E : List V) (s : S) (k : List V → Fl → Int → Int → Option R) : Option R :=
 Zan (ZaZ 27 [0, 1, 5] E) <| Zbz E 0 7 fun e_1 f_2 => ZaR E 1 .i64 fun x_3 => ZaR E 5 .i64 fun x_4 => ZaF s <| k e_1 f_2 x_3 x_4
theorem Zqy {R : Type} {E : List V} {s : S} {k : List V → Fl → Int → Int → Option R} {r : R} (h : ZuN E s k = some r) : ∃ e_1 f_2 x_3 x_4, E = Zjt e_1 f_2 x_3 x_4 ∧ s = [] ∧ k e_1 f_2 x_3 x_4 = some r := by
 unfold ZuN at h
 obtain ⟨hg, h1⟩ := Zad h
 obtain ⟨_, _, hu0, h2⟩ := ZaA h1
 obtain ⟨_, hu1, h3⟩ := Zai h2
 obtain ⟨_, hu5, h4⟩ := Zai h3
 obtain ⟨rfl, h5⟩ := Zae h4
 exact ⟨_, _, _, _, ZaP hg rfl (Zab hu0 (Zab hu1 (Zab hu5 ZaG))), rfl, h5⟩
def ZuX (N : Nat) : Zaw := (Zac).add [0, 1, 0, 1, 1, 1] fun _ E s K => ZuN (Zbc ZlY E) s fun e_1 f_2 x_3 x_4 => ZeY N e_1 f_2 (Zhy K e_1 f_2) (ZhB K e_1 f_2) N x_3 x_4
theorem ZHL {N : Nat} (hC : Ok Tryz.prog C) (hΦ : Zaa Tryz.prog C (Ztk N)) : Za1 Tryz.prog C (ZuX N) ZrZ [0, 1, 0, 1, 1, 1] :=
 Za2 (Λi := Zac) (tr := false) (ks := ZlY) (kx := ZvT) (N := N) hC hΦ
  (Zah (by kernel_rfl))
  fun R E s K r h => by
   have h2 := Zaw.add_self.symm.trans h
   obtain ⟨_, _, _, _, he, rfl, h3⟩ := Zqy h2
   rw [he]
   exact (ZEb N _ _ _ N _ _).trans h3
theorem ZLA : ZaY ZBH [] = [([0, 1, 0, 1, 1, 1], ZrZ)] := by kernel_rfl
theorem ZQL {R : Type} (N : Nat) (e_1 : List V) (f_2 : Fl) (x_3 : Int) (K : V → S → Option R) : ZaU C (Ztk N) (ZuX N) 44 Tryz.f44 [.list 7 e_1 f_2, .int .i64 x_3] [] K =
 ZoC N e_1 f_2 x_3 (fun x_4 => K (.int .i64 x_4) []) := by kernel_rfl
theorem ZDw {N : Nat} (hC : Ok Tryz.prog C) (hΦ : Zaa Tryz.prog C (Ztk N)) : ZaT Tryz.prog C (ZuX N) ZBH [] :=
 ZaB ZBH [] (by
  rw [ZLA]
  intro p hp
  simp only [List.mem_cons, List.mem_nil_iff, or_false] at hp
  rcases hp with rfl
  ·exact (ZHL hC hΦ))
theorem ZAT (hC : Ok Tryz.prog C) {N : Nat} (hΦ : Zaa Tryz.prog C (Ztk N)) : Zaa Tryz.prog C (ZI9 N) := by
 refine hΦ.add_pure rfl fun R vs K r h => ?_
 unfold ZNW at h
 obtain ⟨_, _, rfl, h1⟩ := Zat h
 obtain ⟨_, _, rfl, h2⟩ := Zal h1
 obtain ⟨_, rfl, h3⟩ := Zaf h2
 obtain ⟨_, h4⟩ := Zae h3
 refine Zak (fn := Tryz.f44) (c := ZBH) hC hΦ Tryz.func44 (by kernel_rfl) (by kernel_rfl) (ZDw (N := N) hC hΦ) rfl rfl ?_
 refine (ZQL N _ _ _ _).trans ?_
 rw [← Zvy]
 exact h4
def ZNp (N : Nat) : (R : Type) → List V → S → (V → S → Option R) → Option R := fun _ vs s K =>
 Zcf vs fun v'1 v'2 => Zeu v'1 fun e_1 f_2 x_3 => asInt .i64 v'2 fun x_4 => ZaF s <| ZH0 N e_1 f_2 x_3 x_4 (fun x_5 => K (.int .i64 x_5) [])
def ZHH (N : Nat) : Zar := (ZI9 N).add 11 (ZNp N)
def ZOU : Code := ZaE Tryz.f11
theorem ZQq {R : Type} (N : Nat) (e_1 : List V) (f_2 : Fl) (x_3 x_4 : Int) (K : V → S → Option R) : ZaU C (ZI9 N) (Zac) 11 Tryz.f11 [.agg [.list 7 e_1 f_2, .int .i64 x_3], .int .i64 x_4] [] K =
 Zqe N e_1 f_2 x_3 x_4 (fun x_5 => K (.int .i64 x_5) []) := by kernel_rfl
theorem ZA9 (hC : Ok Tryz.prog C) {N : Nat} (hΦ : Zaa Tryz.prog C (ZI9 N)) : Zaa Tryz.prog C (ZHH N) := by
 refine hΦ.add_pure rfl fun R vs K r h => ?_
 unfold ZNp at h
 obtain ⟨_, _, rfl, h1⟩ := Zat h
 obtain ⟨_, _, _, rfl, h2⟩ := ZdV h1
 obtain ⟨_, rfl, h3⟩ := Zaf h2
 obtain ⟨_, h4⟩ := Zae h3
 refine Zak (fn := Tryz.f11) (c := ZOU) hC hΦ Tryz.func11 (by kernel_rfl) (by kernel_rfl) (Zah (Λ := Zac) (by kernel_rfl)) rfl rfl ?_
 refine (ZQq N _ _ _ _ _).trans ?_
 rw [← ZwP]
 exact h4
def ZLZ (N : Nat) : (R : Type) → List V → S → (V → S → Option R) → Option R := fun _ vs s K =>
 Zcb vs fun v'1 => Zcc v'1 fun w_1 x_2 => ZaF s <| ZG7 N w_1 x_2 (fun w_3 x_4 => K (.agg [.str w_3, .int .i64 x_4]) [])
def Zsr (N : Nat) : Zar := (ZHH N).add 168 (ZLZ N)
def ZQv : Code := ZaE Tryz.f168
theorem ZP7 {R : Type} (N : Nat) (w_1 : ByteArray) (x_2 : Int) (K : V → S → Option R) : ZaU C (ZHH N) (Zac) 168 Tryz.f168 [.agg [.str w_1, .int .i64 x_2]] [] K =
 ZvM N w_1 x_2 (fun w_3 x_4 => K (.agg [.str w_3, .int .i64 x_4]) []) := by kernel_rfl
theorem ZAI (hC : Ok Tryz.prog C) {N : Nat} (hΦ : Zaa Tryz.prog C (ZHH N)) : Zaa Tryz.prog C (Zsr N) := by
 refine hΦ.add_pure rfl fun R vs K r h => ?_
 unfold ZLZ at h
 obtain ⟨_, rfl, h1⟩ := Zaq h
 obtain ⟨_, _, rfl, h2⟩ := Zeb h1
 obtain ⟨_, h3⟩ := Zae h2
 refine Zak (fn := Tryz.f168) (c := ZQv) hC hΦ Tryz.func168 (by kernel_rfl) (by kernel_rfl) (Zah (Λ := Zac) (by kernel_rfl)) rfl rfl ?_
 refine (ZP7 N _ _ _).trans ?_
 rw [← Zvu]
 exact h3
def ZLs (N : Nat) : (R : Type) → List V → S → (V → S → Option R) → Option R := fun _ vs s K =>
 Zcb vs fun v'1 => ZaV 2 v'1 fun e_1 f_2 => ZaF s <| ZG2 N e_1 f_2 (fun e_3 => K (.list 2 e_3 .sh) [])
def ZGP (N : Nat) : Zar := (Zsr N).add 144 (ZLs N)
def ZCn : Code := ZaE Tryz.f144
def ZuF : Code := (Zbj ZCn [] 0).2
def ZnP : List Nat := ZbO 23 [0, 3, 4]
def ZxP : List Nat := ZbO 23 [3]
def ZjJ (e_1 : List V) (f_2 : Fl) (k_3 : Nat) (x_4 : Int) (e_5 : List V) : List V := mkF 0 23 [(0, .list 2 e_1 f_2), (3, .arr 0 0 0 k_3), (4, .int .i64 x_4)]
def ZhF {R : Type} (K : X → List V → S → Option R) (e_1 : List V) (f_2 : Fl) (k_3 : Nat) : List V → Option R := (fun e_1' => K (.exit 0) (mkF 0 23 [(3, .arr 0 0 0 k_3)]) [some ⟨e_1', 2, 89, 0⟩])
abbrev ZnW {R : Type} (N : Nat) : Nat → List V → S → (X → List V → S → Option R) → Option R := fun n => ZcO C (Zsr N) (Zac) ZuF [0, 1, 0, 1, 1] false ZnP ZxP n R
theorem ZJZ {R : Type} (N n : Nat) (e_1 : List V) (f_2 : Fl) (k_3 : Nat) (x_4 : Int) (e_5 : List V) (K : X → List V → S → Option R) :
 ZnW N (n + 1) (ZjJ e_1 f_2 k_3 x_4 e_5) [some ⟨e_5, 2, 89, 0⟩] K =
 Zc7 N e_1 f_2 k_3 (fun x_4 e_5 => ZnW N n (ZjJ e_1 f_2 k_3 x_4 e_5) [some ⟨e_5, 2, 89, 0⟩] K) x_4 e_5 (ZhF K e_1 f_2 k_3) := by kernel_rfl
theorem ZEE {R : Type} (N : Nat) (e_1 : List V) (f_2 : Fl) (k_3 : Nat) (K : X → List V → S → Option R) : ∀ (n : Nat) (x_4 : Int) (e_5 : List V),
 ZnW N n (ZjJ e_1 f_2 k_3 x_4 e_5) [some ⟨e_5, 2, 89, 0⟩] K = Zfs N e_1 f_2 k_3 (ZhF K e_1 f_2 k_3) n x_4 e_5
 | 0, _, _ => rfl
 | n + 1, x_4, e_5 => (ZJZ N n e_1 f_2 k_3 x_4 e_5 K).trans (congrArg (fun nx => Zc7 N e_1 f_2 k_3 nx x_4 e_5 (ZhF K e_1 f_2 k_3)) (funext fun x_4 => funext fun e_5 => ZEE N e_1 f_2 k_3 K n x_4 e_5))
def ZsO {R : Type} (E : List V) (s : S) (k : List V → Fl → Nat → Int → List V → Option R) : Option R :=
 Zan (ZaZ 23 [0, 3, 4] E) <| Zbz E 0 2 fun e_1 f_2 => Zbu (nth E 3) fun u3 => ZiG u3 fun k'1 k'2 k'3 k_3 => isN k'1 0 <| isN k'2 0 <| isN k'3 0 <| ZaR E 4 .i64 fun x_4 => Zd4 s fun o'4 s'5 => ZdP o'4 2 89 fun e_5 k'6 => isN k'6 0 <| ZaF s'5 <| k e_1 f_2 k_3 x_4 e_5
theorem ZpB {R : Type} {E : List V} {s : S} {k : List V → Fl → Nat → Int → List V → Option R} {r : R} (h : ZsO E s k = some r) : ∃ e_1 f_2 k_3 x_4 e_5, E = ZjJ e_1 f_2 k_3 x_4 e_5 ∧ s = [some ⟨e_5, 2, 89, 0⟩] ∧ k e_1 f_2 k_3 x_4 e_5 = some r := by
 unfold ZsO at h
 obtain ⟨hg, h1⟩ := Zad h
 obtain ⟨_, _, hu0, h2⟩ := ZaA h1
 obtain ⟨_, hu3, h3⟩ := Zag h2
 obtain ⟨_, _, _, _, rfl, h4⟩ := Zb5 h3
 obtain ⟨rfl, h5⟩ := Zas h4
 obtain ⟨rfl, h6⟩ := Zas h5
 obtain ⟨rfl, h7⟩ := Zas h6
 obtain ⟨_, hu4, h8⟩ := Zai h7
 obtain ⟨_, _, rfl, h9⟩ := ZaN h8
 obtain ⟨_, _, rfl, h10⟩ := ZaK h9
 obtain ⟨rfl, h11⟩ := Zas h10
 obtain ⟨rfl, h12⟩ := Zae h11
 exact ⟨_, _, _, _, _, ZaP hg rfl (Zab hu0 (Zab hu3 (Zab hu4 ZaG))), rfl, h12⟩
def Zui (N : Nat) : Zaw := (Zac).add [0, 1, 0, 1, 1] fun _ E s K => ZsO (Zbc ZnP E) s fun e_1 f_2 k_3 x_4 e_5 => Zfs N e_1 f_2 k_3 (ZhF K e_1 f_2 k_3) N x_4 e_5
theorem ZI1 {N : Nat} (hC : Ok Tryz.prog C) (hΦ : Zaa Tryz.prog C (Zsr N)) : Za1 Tryz.prog C (Zui N) ZuF [0, 1, 0, 1, 1] :=
 Za2 (Λi := Zac) (tr := false) (ks := ZnP) (kx := ZxP) (N := N) hC hΦ
  (Zah (by kernel_rfl))
  fun R E s K r h => by
   have h2 := Zaw.add_self.symm.trans h
   obtain ⟨_, _, _, _, _, he, rfl, h3⟩ := ZpB h2
   rw [he]
   exact (ZEE N _ _ _ _ N _ _).trans h3
theorem ZNv : ZaY ZCn [] = [([0, 1, 0, 1, 1], ZuF)] := by kernel_rfl
theorem ZPP {R : Type} (N : Nat) (e_1 : List V) (f_2 : Fl) (K : V → S → Option R) : ZaU C (Zsr N) (Zui N) 144 Tryz.f144 [.list 2 e_1 f_2] [] K =
 Zox N e_1 f_2 (fun e_3 => K (.list 2 e_3 .sh) []) := by kernel_rfl
theorem ZEl {N : Nat} (hC : Ok Tryz.prog C) (hΦ : Zaa Tryz.prog C (Zsr N)) : ZaT Tryz.prog C (Zui N) ZCn [] :=
 ZaB ZCn [] (by
  rw [ZNv]
  intro p hp
  simp only [List.mem_cons, List.mem_nil_iff, or_false] at hp
  rcases hp with rfl
  ·exact (ZI1 hC hΦ))
theorem Zy6 (hC : Ok Tryz.prog C) {N : Nat} (hΦ : Zaa Tryz.prog C (Zsr N)) : Zaa Tryz.prog C (ZGP N) := by
 refine hΦ.add_pure rfl fun R vs K r h => ?_
 unfold ZLs at h
 obtain ⟨_, rfl, h1⟩ := Zaq h
 obtain ⟨_, _, rfl, h2⟩ := Zal h1
 obtain ⟨_, h3⟩ := Zae h2
 refine Zak (fn := Tryz.f144) (c := ZCn) hC hΦ Tryz.func144 (by kernel_rfl) (by kernel_rfl) (ZEl (N := N) hC hΦ) rfl rfl ?_
 refine (ZPP N _ _ _).trans ?_
 rw [← Zwh]
 exact h3
def ZLv (N : Nat) : (R : Type) → List V → S → (V → S → Option R) → Option R := fun _ vs s K =>
 Zcb vs fun v'1 => Zcm v'1 fun x_1 x_2 x_3 x_4 x_5 w_6 e_7 f_8 => ZaF s <| ZHq N x_1 x_2 x_3 x_4 x_5 w_6 e_7 f_8 (fun x_9 x_10 x_11 x_12 x_13 w_14 e_15 => K (.agg [.int .i64 x_9, .int .i64 x_10, .int .i64 x_11, .int .i64 x_12, .int .i64 x_13, .str w_14, .list 2 e_15 .sh]) [])
def ZsZ (N : Nat) : Zar := (ZGP N).add 93 (ZLv N)
def ZQP : Code := ZaE Tryz.f93
theorem ZQ5 {R : Type} (N : Nat) (x_1 x_2 x_3 x_4 x_5 : Int) (w_6 : ByteArray) (e_7 : List V) (f_8 : Fl) (K : V → S → Option R) : ZaU C (ZGP N) (Zac) 93 Tryz.f93 [.agg [.int .i64 x_1, .int .i64 x_2, .int .i64 x_3, .int .i64 x_4, .int .i64 x_5, .str w_6, .list 2 e_7 f_8]] [] K =
 Zri N x_1 x_2 x_3 x_4 x_5 w_6 e_7 f_8 (fun x_9 x_10 x_11 x_12 x_13 w_14 e_15 => K (.agg [.int .i64 x_9, .int .i64 x_10, .int .i64 x_11, .int .i64 x_12, .int .i64 x_13, .str w_14, .list 2 e_15 .sh]) []) := by kernel_rfl
theorem ZzA (hC : Ok Tryz.prog C) {N : Nat} (hΦ : Zaa Tryz.prog C (ZGP N)) : Zaa Tryz.prog C (ZsZ N) := by
 refine hΦ.add_pure rfl fun R vs K r h => ?_
 unfold ZLv at h
 obtain ⟨_, rfl, h1⟩ := Zaq h
 obtain ⟨_, _, _, _, _, _, _, _, rfl, h2⟩ := Zez h1
 obtain ⟨_, h3⟩ := Zae h2
 refine Zak (fn := Tryz.f93) (c := ZQP) hC hΦ Tryz.func93 (by kernel_rfl) (by kernel_rfl) (Zah (Λ := Zac) (by kernel_rfl)) rfl rfl ?_
 refine (ZQ5 N _ _ _ _ _ _ _ _ _).trans ?_
 rw [← Zwr]
 exact h3
def ZOe (N : Nat) : (R : Type) → List V → S → (V → S → Option R) → Option R := fun _ vs s K =>
 Zcb vs fun v'1 => ZaV 7 v'1 fun e_1 f_2 => ZaF s <| ZGQ N e_1 f_2 (fun e_3 => K (.list 7 e_3 .sh) [])
def ZG3 (N : Nat) : Zar := (ZsZ N).add 48 (ZOe N)
def ZDl : Code := ZaE Tryz.f48
def Zs5 : Code := (Zbj ZDl [] 0).2
def Zmt : List Nat := ZbO 23 [0, 3, 4]
def Zx9 : List Nat := ZbO 23 [3]
def ZjD (e_1 : List V) (f_2 : Fl) (k_3 : Nat) (x_4 : Int) (e_5 : List V) : List V := mkF 0 23 [(0, .list 7 e_1 f_2), (3, .arr 0 0 0 k_3), (4, .int .i64 x_4)]
def Zhx {R : Type} (K : X → List V → S → Option R) (e_1 : List V) (f_2 : Fl) (k_3 : Nat) : List V → Option R := (fun e_1' => K (.exit 0) (mkF 0 23 [(3, .arr 0 0 0 k_3)]) [some ⟨e_1', 7, 87, 0⟩])
abbrev Zon {R : Type} (N : Nat) : Nat → List V → S → (X → List V → S → Option R) → Option R := fun n => ZcO C (ZsZ N) (Zac) Zs5 [0, 1, 0, 1, 1] false Zmt Zx9 n R
theorem ZJX {R : Type} (N n : Nat) (e_1 : List V) (f_2 : Fl) (k_3 : Nat) (x_4 : Int) (e_5 : List V) (K : X → List V → S → Option R) :
 Zon N (n + 1) (ZjD e_1 f_2 k_3 x_4 e_5) [some ⟨e_5, 7, 87, 0⟩] K =
 Zde N e_1 f_2 k_3 (fun x_4 e_5 => Zon N n (ZjD e_1 f_2 k_3 x_4 e_5) [some ⟨e_5, 7, 87, 0⟩] K) x_4 e_5 (Zhx K e_1 f_2 k_3) := by kernel_rfl
theorem ZB5 {R : Type} (N : Nat) (e_1 : List V) (f_2 : Fl) (k_3 : Nat) (K : X → List V → S → Option R) : ∀ (n : Nat) (x_4 : Int) (e_5 : List V),
 Zon N n (ZjD e_1 f_2 k_3 x_4 e_5) [some ⟨e_5, 7, 87, 0⟩] K = Zfz N e_1 f_2 k_3 (Zhx K e_1 f_2 k_3) n x_4 e_5
 | 0, _, _ => rfl
 | n + 1, x_4, e_5 => (ZJX N n e_1 f_2 k_3 x_4 e_5 K).trans (congrArg (fun nx => Zde N e_1 f_2 k_3 nx x_4 e_5 (Zhx K e_1 f_2 k_3)) (funext fun x_4 => funext fun e_5 => ZB5 N e_1 f_2 k_3 K n x_4 e_5))
def Zta {R : Type} (E : List V) (s : S) (k : List V → Fl → Nat → Int → List V → Option R) : Option R :=
 Zan (ZaZ 23 [0, 3, 4] E) <| Zbz E 0 7 fun e_1 f_2 => Zbu (nth E 3) fun u3 => ZiG u3 fun k'1 k'2 k'3 k_3 => isN k'1 0 <| isN k'2 0 <| isN k'3 0 <| ZaR E 4 .i64 fun x_4 => Zd4 s fun o'4 s'5 => ZdP o'4 7 87 fun e_5 k'6 => isN k'6 0 <| ZaF s'5 <| k e_1 f_2 k_3 x_4 e_5
theorem ZqR {R : Type} {E : List V} {s : S} {k : List V → Fl → Nat → Int → List V → Option R} {r : R} (h : Zta E s k = some r) : ∃ e_1 f_2 k_3 x_4 e_5, E = ZjD e_1 f_2 k_3 x_4 e_5 ∧ s = [some ⟨e_5, 7, 87, 0⟩] ∧ k e_1 f_2 k_3 x_4 e_5 = some r := by
 unfold Zta at h
 obtain ⟨hg, h1⟩ := Zad h
 obtain ⟨_, _, hu0, h2⟩ := ZaA h1
 obtain ⟨_, hu3, h3⟩ := Zag h2
 obtain ⟨_, _, _, _, rfl, h4⟩ := Zb5 h3
 obtain ⟨rfl, h5⟩ := Zas h4
 obtain ⟨rfl, h6⟩ := Zas h5
 obtain ⟨rfl, h7⟩ := Zas h6
 obtain ⟨_, hu4, h8⟩ := Zai h7
 obtain ⟨_, _, rfl, h9⟩ := ZaN h8
 obtain ⟨_, _, rfl, h10⟩ := ZaK h9
 obtain ⟨rfl, h11⟩ := Zas h10
 obtain ⟨rfl, h12⟩ := Zae h11
 exact ⟨_, _, _, _, _, ZaP hg rfl (Zab hu0 (Zab hu3 (Zab hu4 ZaG))), rfl, h12⟩
def ZtN (N : Nat) : Zaw := (Zac).add [0, 1, 0, 1, 1] fun _ E s K => Zta (Zbc Zmt E) s fun e_1 f_2 k_3 x_4 e_5 => Zfz N e_1 f_2 k_3 (Zhx K e_1 f_2 k_3) N x_4 e_5
theorem ZI2 {N : Nat} (hC : Ok Tryz.prog C) (hΦ : Zaa Tryz.prog C (ZsZ N)) : Za1 Tryz.prog C (ZtN N) Zs5 [0, 1, 0, 1, 1] :=
 Za2 (Λi := Zac) (tr := false) (ks := Zmt) (kx := Zx9) (N := N) hC hΦ
  (Zah (by kernel_rfl))
  fun R E s K r h => by
   have h2 := Zaw.add_self.symm.trans h
   obtain ⟨_, _, _, _, _, he, rfl, h3⟩ := ZqR h2
   rw [he]
   exact (ZB5 N _ _ _ _ N _ _).trans h3
theorem ZMQ : ZaY ZDl [] = [([0, 1, 0, 1, 1], Zs5)] := by kernel_rfl
theorem ZQQ {R : Type} (N : Nat) (e_1 : List V) (f_2 : Fl) (K : V → S → Option R) : ZaU C (ZsZ N) (ZtN N) 48 Tryz.f48 [.list 7 e_1 f_2] [] K =
 Zqw N e_1 f_2 (fun e_3 => K (.list 7 e_3 .sh) []) := by kernel_rfl
theorem ZDn {N : Nat} (hC : Ok Tryz.prog C) (hΦ : Zaa Tryz.prog C (ZsZ N)) : ZaT Tryz.prog C (ZtN N) ZDl [] :=
 ZaB ZDl [] (by
  rw [ZMQ]
  intro p hp
  simp only [List.mem_cons, List.mem_nil_iff, or_false] at hp
  rcases hp with rfl
  ·exact (ZI2 hC hΦ))
theorem ZAK (hC : Ok Tryz.prog C) {N : Nat} (hΦ : Zaa Tryz.prog C (ZsZ N)) : Zaa Tryz.prog C (ZG3 N) := by
 refine hΦ.add_pure rfl fun R vs K r h => ?_
 unfold ZOe at h
 obtain ⟨_, rfl, h1⟩ := Zaq h
 obtain ⟨_, _, rfl, h2⟩ := Zal h1
 obtain ⟨_, h3⟩ := Zae h2
 refine Zak (fn := Tryz.f48) (c := ZDl) hC hΦ Tryz.func48 (by kernel_rfl) (by kernel_rfl) (ZDn (N := N) hC hΦ) rfl rfl ?_
 refine (ZQQ N _ _ _).trans ?_
 rw [← ZwT]
 exact h3
def ZNx (N : Nat) : (R : Type) → List V → S → (V → S → Option R) → Option R := fun _ vs s K =>
 Zcb vs fun v'1 => Zeu v'1 fun e_1 f_2 x_3 => ZaF s <| ZAQ N e_1 f_2 x_3 (fun e_4 x_5 => K (.agg [.list 7 e_4 .sh, .int .i64 x_5]) [])
def ZG0 (N : Nat) : Zar := (ZG3 N).add 14 (ZNx N)
def ZRe : Code := ZaE Tryz.f14
theorem ZPO {R : Type} (N : Nat) (e_1 : List V) (f_2 : Fl) (x_3 : Int) (K : V → S → Option R) : ZaU C (ZG3 N) (Zac) 14 Tryz.f14 [.agg [.list 7 e_1 f_2, .int .i64 x_3]] [] K =
 ZpQ N e_1 f_2 x_3 (fun e_4 x_5 => K (.agg [.list 7 e_4 .sh, .int .i64 x_5]) []) := by kernel_rfl
theorem Zzk (hC : Ok Tryz.prog C) {N : Nat} (hΦ : Zaa Tryz.prog C (ZG3 N)) : Zaa Tryz.prog C (ZG0 N) := by
 refine hΦ.add_pure rfl fun R vs K r h => ?_
 unfold ZNx at h
 obtain ⟨_, rfl, h1⟩ := Zaq h
 obtain ⟨_, _, _, rfl, h2⟩ := ZdV h1
 obtain ⟨_, h3⟩ := Zae h2
 refine Zak (fn := Tryz.f14) (c := ZRe) hC hΦ Tryz.func14 (by kernel_rfl) (by kernel_rfl) (Zah (Λ := Zac) (by kernel_rfl)) rfl rfl ?_
 refine (ZPO N _ _ _ _).trans ?_
 rw [← Zyd]
 exact h3
def ZMu (N : Nat) : (R : Type) → List V → S → (V → S → Option R) → Option R := fun _ vs s K =>
 Zcb vs fun v'1 => Zel v'1 fun x_1 x_2 => ZaF s <| ZDY N x_1 x_2 (fun x_3 x_4 => K (.agg [.int .i64 x_3, .int .i64 x_4]) [])
def ZGu (N : Nat) : Zar := (ZG0 N).add 15 (ZMu N)
def ZP1 : Code := ZaE Tryz.f15
theorem ZOx {R : Type} (N : Nat) (x_1 x_2 : Int) (K : V → S → Option R) : ZaU C (ZG0 N) (Zac) 15 Tryz.f15 [.agg [.int .i64 x_1, .int .i64 x_2]] [] K =
 Zx2 N x_1 x_2 (fun x_3 x_4 => K (.agg [.int .i64 x_3, .int .i64 x_4]) []) := by kernel_rfl
theorem ZA5 (hC : Ok Tryz.prog C) {N : Nat} (hΦ : Zaa Tryz.prog C (ZG0 N)) : Zaa Tryz.prog C (ZGu N) := by
 refine hΦ.add_pure rfl fun R vs K r h => ?_
 unfold ZMu at h
 obtain ⟨_, rfl, h1⟩ := Zaq h
 obtain ⟨_, _, rfl, h2⟩ := ZeC h1
 obtain ⟨_, h3⟩ := Zae h2
 refine Zak (fn := Tryz.f15) (c := ZP1) hC hΦ Tryz.func15 (by kernel_rfl) (by kernel_rfl) (Zah (Λ := Zac) (by kernel_rfl)) rfl rfl ?_
 refine (ZOx N _ _ _).trans ?_
 rw [← ZxZ]
 exact h3
def ZMe (N : Nat) : (R : Type) → List V → S → (V → S → Option R) → Option R := fun _ vs s K =>
 Zcf vs fun v'1 v'2 => Za3 v'1 fun w_1 x_2 => Za3 v'2 fun w_3 x_4 => ZaF s <| ZFQ N w_1 x_2 w_3 x_4 (fun b_5 => K (.bool b_5) [])
def Zuh (N : Nat) : Zar := (ZGu N).add 175 (ZMe N)
def ZP0 : Code := ZaE Tryz.f175
theorem ZPJ {R : Type} (N : Nat) (w_1 : ByteArray) (x_2 : Int) (w_3 : ByteArray) (x_4 : Int) (K : V → S → Option R) : ZaU C (ZGu N) (Zac) 175 Tryz.f175 [.agg [.str w_1, .int .i64 x_2], .agg [.str w_3, .int .i64 x_4]] [] K =
 ZpS N w_1 x_2 w_3 x_4 (fun b_5 => K (.bool b_5) []) := by kernel_rfl
theorem ZzZ (hC : Ok Tryz.prog C) {N : Nat} (hΦ : Zaa Tryz.prog C (ZGu N)) : Zaa Tryz.prog C (Zuh N) := by
 refine hΦ.add_pure rfl fun R vs K r h => ?_
 unfold ZMe at h
 obtain ⟨_, _, rfl, h1⟩ := Zat h
 obtain ⟨_, _, rfl, h2⟩ := Zee h1
 obtain ⟨_, _, rfl, h3⟩ := Zee h2
 obtain ⟨_, h4⟩ := Zae h3
 refine Zak (fn := Tryz.f175) (c := ZP0) hC hΦ Tryz.func175 (by kernel_rfl) (by kernel_rfl) (Zah (Λ := Zac) (by kernel_rfl)) rfl rfl ?_
 refine (ZPJ N _ _ _ _ _).trans ?_
 rw [← Zws]
 exact h4
def ZLI (N : Nat) : (R : Type) → List V → S → (V → S → Option R) → Option R := fun _ vs s K =>
 Zcf vs fun v'1 v'2 => ZaV 2 v'1 fun e_1 f_2 => ZaV 2 v'2 fun e_3 f_4 => ZaF s <| ZH9 N e_1 f_2 e_3 f_4 (fun b_5 => K (.bool b_5) [])
def ZH8 (N : Nat) : Zar := (Zuh N).add 156 (ZLI N)
def ZCg : Code := ZaE Tryz.f156
def Zt2 : Code := (Zbj ZCg [] 0).2
def ZnF : List Nat := ZbO 27 [0, 1, 5]
def ZxA : List Nat := ZbO 27 [4]
def Zj3 (e_1 : List V) (f_2 : Fl) (e_3 : List V) (f_4 : Fl) (x_5 : Int) : List V := mkF 0 27 [(0, .list 2 e_1 f_2), (1, .list 2 e_3 f_4), (5, .int .i64 x_5)]
def ZhT {R : Type} (K : X → List V → S → Option R) (e_1 : List V) (f_2 : Fl) (e_3 : List V) (f_4 : Fl) : Unit → Option R := (fun _ => K .ret (mkF 0 27 [(4, .bool false)]) [])
def ZhD {R : Type} (K : X → List V → S → Option R) (e_1 : List V) (f_2 : Fl) (e_3 : List V) (f_4 : Fl) : Unit → Option R := (fun _ => K (.exit 0) (mkF 0 27 []) [])
abbrev Zl4 {R : Type} (N : Nat) : Nat → List V → S → (X → List V → S → Option R) → Option R := fun n => ZcO C (Zuh N) (Zac) Zt2 [0, 1, 0, 1, 1] false ZnF ZxA n R
theorem ZKI {R : Type} (N n : Nat) (e_1 : List V) (f_2 : Fl) (e_3 : List V) (f_4 : Fl) (x_5 : Int) (K : X → List V → S → Option R) :
 Zl4 N (n + 1) (Zj3 e_1 f_2 e_3 f_4 x_5) [] K =
 Zc5 N e_1 f_2 e_3 f_4 (fun x_5 => Zl4 N n (Zj3 e_1 f_2 e_3 f_4 x_5) [] K) x_5 (ZhT K e_1 f_2 e_3 f_4) (ZhD K e_1 f_2 e_3 f_4) := by kernel_rfl
theorem ZCv {R : Type} (N : Nat) (e_1 : List V) (f_2 : Fl) (e_3 : List V) (f_4 : Fl) (K : X → List V → S → Option R) : ∀ (n : Nat) (x_5 : Int),
 Zl4 N n (Zj3 e_1 f_2 e_3 f_4 x_5) [] K = Zgs N e_1 f_2 e_3 f_4 (ZhT K e_1 f_2 e_3 f_4) (ZhD K e_1 f_2 e_3 f_4) n x_5
 | 0, _ => rfl
 | n + 1, x_5 => (ZKI N n e_1 f_2 e_3 f_4 x_5 K).trans (congrArg (fun nx => Zc5 N e_1 f_2 e_3 f_4 nx x_5 (ZhT K e_1 f_2 e_3 f_4) (ZhD K e_1 f_2 e_3 f_4)) (funext fun x_5 => ZCv N e_1 f_2 e_3 f_4 K n x_5))
def Zvg {R : Type} (E : List V) (s : S) (k : List V → Fl → List V → Fl → Int → Option R) : Option R :=
 Zan (ZaZ 27 [0, 1, 5] E) <| Zbz E 0 2 fun e_1 f_2 => Zbz E 1 2 fun e_3 f_4 => ZaR E 5 .i64 fun x_5 => ZaF s <| k e_1 f_2 e_3 f_4 x_5
theorem ZoQ {R : Type} {E : List V} {s : S} {k : List V → Fl → List V → Fl → Int → Option R} {r : R} (h : Zvg E s k = some r) : ∃ e_1 f_2 e_3 f_4 x_5, E = Zj3 e_1 f_2 e_3 f_4 x_5 ∧ s = [] ∧ k e_1 f_2 e_3 f_4 x_5 = some r := by
 unfold Zvg at h
 obtain ⟨hg, h1⟩ := Zad h
 obtain ⟨_, _, hu0, h2⟩ := ZaA h1
 obtain ⟨_, _, hu1, h3⟩ := ZaA h2
 obtain ⟨_, hu5, h4⟩ := Zai h3
 obtain ⟨rfl, h5⟩ := Zae h4
 exact ⟨_, _, _, _, _, ZaP hg rfl (Zab hu0 (Zab hu1 (Zab hu5 ZaG))), rfl, h5⟩
def Zsy (N : Nat) : Zaw := (Zac).add [0, 1, 0, 1, 1] fun _ E s K => Zvg (Zbc ZnF E) s fun e_1 f_2 e_3 f_4 x_5 => Zgs N e_1 f_2 e_3 f_4 (ZhT K e_1 f_2 e_3 f_4) (ZhD K e_1 f_2 e_3 f_4) N x_5
theorem ZHz {N : Nat} (hC : Ok Tryz.prog C) (hΦ : Zaa Tryz.prog C (Zuh N)) : Za1 Tryz.prog C (Zsy N) Zt2 [0, 1, 0, 1, 1] :=
 Za2 (Λi := Zac) (tr := false) (ks := ZnF) (kx := ZxA) (N := N) hC hΦ
  (Zah (by kernel_rfl))
  fun R E s K r h => by
   have h2 := Zaw.add_self.symm.trans h
   obtain ⟨_, _, _, _, _, he, rfl, h3⟩ := ZoQ h2
   rw [he]
   exact (ZCv N _ _ _ _ _ N _).trans h3
theorem ZNZ : ZaY ZCg [] = [([0, 1, 0, 1, 1], Zt2)] := by kernel_rfl
theorem ZQO {R : Type} (N : Nat) (e_1 : List V) (f_2 : Fl) (e_3 : List V) (f_4 : Fl) (K : V → S → Option R) : ZaU C (Zuh N) (Zsy N) 156 Tryz.f156 [.list 2 e_1 f_2, .list 2 e_3 f_4] [] K =
 Zqd N e_1 f_2 e_3 f_4 (fun b_5 => K (.bool b_5) []) := by kernel_rfl
theorem ZDf {N : Nat} (hC : Ok Tryz.prog C) (hΦ : Zaa Tryz.prog C (Zuh N)) : ZaT Tryz.prog C (Zsy N) ZCg [] :=
 ZaB ZCg [] (by
  rw [ZNZ]
  intro p hp
  simp only [List.mem_cons, List.mem_nil_iff, or_false] at hp
  rcases hp with rfl
  ·exact (ZHz hC hΦ))
theorem ZAw (hC : Ok Tryz.prog C) {N : Nat} (hΦ : Zaa Tryz.prog C (Zuh N)) : Zaa Tryz.prog C (ZH8 N) := by
 refine hΦ.add_pure rfl fun R vs K r h => ?_
 unfold ZLI at h
 obtain ⟨_, _, rfl, h1⟩ := Zat h
 obtain ⟨_, _, rfl, h2⟩ := Zal h1
 obtain ⟨_, _, rfl, h3⟩ := Zal h2
 obtain ⟨_, h4⟩ := Zae h3
 refine Zak (fn := Tryz.f156) (c := ZCg) hC hΦ Tryz.func156 (by kernel_rfl) (by kernel_rfl) (ZDf (N := N) hC hΦ) rfl rfl ?_
 refine (ZQO N _ _ _ _ _).trans ?_
 rw [← ZvR]
 exact h4
def ZMG (N : Nat) : (R : Type) → List V → S → (V → S → Option R) → Option R := fun _ vs s K =>
 Zcf vs fun v'1 v'2 => Zax v'1 fun x_1 x_2 x_3 x_4 x_5 w_6 e_7 f_8 => Zax v'2 fun x_9 x_10 x_11 x_12 x_13 w_14 e_15 f_16 => ZaF s <| ZFO N x_1 x_2 x_3 x_4 x_5 w_6 e_7 f_8 x_9 x_10 x_11 x_12 x_13 w_14 e_15 f_16 (fun b_17 => K (.bool b_17) [])
def Zsv (N : Nat) : Zar := (ZH8 N).add 105 (ZMG N)
def ZPN : Code := ZaE Tryz.f105
theorem ZQr {R : Type} (N : Nat) (x_1 x_2 x_3 x_4 x_5 : Int) (w_6 : ByteArray) (e_7 : List V) (f_8 : Fl) (x_9 x_10 x_11 x_12 x_13 : Int) (w_14 : ByteArray) (e_15 : List V) (f_16 : Fl) (K : V → S → Option R) : ZaU C (ZH8 N) (Zac) 105 Tryz.f105 [.agg [.int .i64 x_1, .int .i64 x_2, .int .i64 x_3, .int .i64 x_4, .int .i64 x_5, .str w_6, .list 2 e_7 f_8], .agg [.int .i64 x_9, .int .i64 x_10, .int .i64 x_11, .int .i64 x_12, .int .i64 x_13, .str w_14, .list 2 e_15 f_16]] [] K =
 Zrf N x_1 x_2 x_3 x_4 x_5 w_6 e_7 f_8 x_9 x_10 x_11 x_12 x_13 w_14 e_15 f_16 (fun b_17 => K (.bool b_17) []) := by kernel_rfl
theorem Zz5 (hC : Ok Tryz.prog C) {N : Nat} (hΦ : Zaa Tryz.prog C (ZH8 N)) : Zaa Tryz.prog C (Zsv N) := by
 refine hΦ.add_pure rfl fun R vs K r h => ?_
 unfold ZMG at h
 obtain ⟨_, _, rfl, h1⟩ := Zat h
 obtain ⟨_, _, _, _, _, _, _, _, rfl, h2⟩ := Zb2 h1
 obtain ⟨_, _, _, _, _, _, _, _, rfl, h3⟩ := Zb2 h2
 obtain ⟨_, h4⟩ := Zae h3
 refine Zak (fn := Tryz.f105) (c := ZPN) hC hΦ Tryz.func105 (by kernel_rfl) (by kernel_rfl) (Zah (Λ := Zac) (by kernel_rfl)) rfl rfl ?_
 refine (ZQr N _ _ _ _ _ _ _ _ _ _ _ _ _ _ _ _ _).trans ?_
 rw [← Zwj]
 exact h4
def ZNA (N : Nat) : (R : Type) → List V → S → (V → S → Option R) → Option R := fun _ vs s K =>
 Zcf vs fun v'1 v'2 => ZaV 7 v'1 fun e_1 f_2 => ZaV 7 v'2 fun e_3 f_4 => ZaF s <| ZFF N e_1 f_2 e_3 f_4 (fun b_5 => K (.bool b_5) [])
def ZHx (N : Nat) : Zar := (Zsv N).add 52 (ZNA N)
def ZEi : Code := ZaE Tryz.f52
def Zuy : Code := (Zbj ZEi [] 0).2
def ZnR : List Nat := ZbO 27 [0, 1, 5]
def Zxv : List Nat := ZbO 27 [4]
def Zj2 (e_1 : List V) (f_2 : Fl) (e_3 : List V) (f_4 : Fl) (x_5 : Int) : List V := mkF 0 27 [(0, .list 7 e_1 f_2), (1, .list 7 e_3 f_4), (5, .int .i64 x_5)]
def ZgR {R : Type} (K : X → List V → S → Option R) (e_1 : List V) (f_2 : Fl) (e_3 : List V) (f_4 : Fl) : Unit → Option R := (fun _ => K .ret (mkF 0 27 [(4, .bool false)]) [])
def Zij {R : Type} (K : X → List V → S → Option R) (e_1 : List V) (f_2 : Fl) (e_3 : List V) (f_4 : Fl) : Unit → Option R := (fun _ => K (.exit 0) (mkF 0 27 []) [])
abbrev Zmr {R : Type} (N : Nat) : Nat → List V → S → (X → List V → S → Option R) → Option R := fun n => ZcO C (Zsv N) (Zac) Zuy [0, 1, 0, 1, 1] false ZnR Zxv n R
theorem ZJC {R : Type} (N n : Nat) (e_1 : List V) (f_2 : Fl) (e_3 : List V) (f_4 : Fl) (x_5 : Int) (K : X → List V → S → Option R) :
 Zmr N (n + 1) (Zj2 e_1 f_2 e_3 f_4 x_5) [] K =
 ZdJ N e_1 f_2 e_3 f_4 (fun x_5 => Zmr N n (Zj2 e_1 f_2 e_3 f_4 x_5) [] K) x_5 (ZgR K e_1 f_2 e_3 f_4) (Zij K e_1 f_2 e_3 f_4) := by kernel_rfl
theorem ZCW {R : Type} (N : Nat) (e_1 : List V) (f_2 : Fl) (e_3 : List V) (f_4 : Fl) (K : X → List V → S → Option R) : ∀ (n : Nat) (x_5 : Int),
 Zmr N n (Zj2 e_1 f_2 e_3 f_4 x_5) [] K = Zgq N e_1 f_2 e_3 f_4 (ZgR K e_1 f_2 e_3 f_4) (Zij K e_1 f_2 e_3 f_4) n x_5
 | 0, _ => rfl
 | n + 1, x_5 => (ZJC N n e_1 f_2 e_3 f_4 x_5 K).trans (congrArg (fun nx => ZdJ N e_1 f_2 e_3 f_4 nx x_5 (ZgR K e_1 f_2 e_3 f_4) (Zij K e_1 f_2 e_3 f_4)) (funext fun x_5 => ZCW N e_1 f_2 e_3 f_4 K n x_5))
def ZsQ {R : Type} (E : List V) (s : S) (k : List V → Fl → List V → Fl → Int → Option R) : Option R :=
 Zan (ZaZ 27 [0, 1, 5] E) <| Zbz E 0 7 fun e_1 f_2 => Zbz E 1 7 fun e_3 f_4 => ZaR E 5 .i64 fun x_5 => ZaF s <| k e_1 f_2 e_3 f_4 x_5
theorem ZqQ {R : Type} {E : List V} {s : S} {k : List V → Fl → List V → Fl → Int → Option R} {r : R} (h : ZsQ E s k = some r) : ∃ e_1 f_2 e_3 f_4 x_5, E = Zj2 e_1 f_2 e_3 f_4 x_5 ∧ s = [] ∧ k e_1 f_2 e_3 f_4 x_5 = some r := by
 unfold ZsQ at h
 obtain ⟨hg, h1⟩ := Zad h
 obtain ⟨_, _, hu0, h2⟩ := ZaA h1
 obtain ⟨_, _, hu1, h3⟩ := ZaA h2
 obtain ⟨_, hu5, h4⟩ := Zai h3
 obtain ⟨rfl, h5⟩ := Zae h4
 exact ⟨_, _, _, _, _, ZaP hg rfl (Zab hu0 (Zab hu1 (Zab hu5 ZaG))), rfl, h5⟩
def Ztf (N : Nat) : Zaw := (Zac).add [0, 1, 0, 1, 1] fun _ E s K => ZsQ (Zbc ZnR E) s fun e_1 f_2 e_3 f_4 x_5 => Zgq N e_1 f_2 e_3 f_4 (ZgR K e_1 f_2 e_3 f_4) (Zij K e_1 f_2 e_3 f_4) N x_5
theorem ZIL {N : Nat} (hC : Ok Tryz.prog C) (hΦ : Zaa Tryz.prog C (Zsv N)) : Za1 Tryz.prog C (Ztf N) Zuy [0, 1, 0, 1, 1] :=
 Za2 (Λi := Zac) (tr := false) (ks := ZnR) (kx := Zxv) (N := N) hC hΦ
  (Zah (by kernel_rfl))
  fun R E s K r h => by
   have h2 := Zaw.add_self.symm.trans h
   obtain ⟨_, _, _, _, _, he, rfl, h3⟩ := ZqQ h2
   rw [he]
   exact (ZCW N _ _ _ _ _ N _).trans h3
theorem ZMj : ZaY ZEi [] = [([0, 1, 0, 1, 1], Zuy)] := by kernel_rfl
theorem ZOt {R : Type} (N : Nat) (e_1 : List V) (f_2 : Fl) (e_3 : List V) (f_4 : Fl) (K : V → S → Option R) : ZaU C (Zsv N) (Ztf N) 52 Tryz.f52 [.list 7 e_1 f_2, .list 7 e_3 f_4] [] K =
 ZrF N e_1 f_2 e_3 f_4 (fun b_5 => K (.bool b_5) []) := by kernel_rfl
theorem ZDx {N : Nat} (hC : Ok Tryz.prog C) (hΦ : Zaa Tryz.prog C (Zsv N)) : ZaT Tryz.prog C (Ztf N) ZEi [] :=
 ZaB ZEi [] (by
  rw [ZMj]
  intro p hp
  simp only [List.mem_cons, List.mem_nil_iff, or_false] at hp
  rcases hp with rfl
  ·exact (ZIL hC hΦ))
theorem Zzw (hC : Ok Tryz.prog C) {N : Nat} (hΦ : Zaa Tryz.prog C (Zsv N)) : Zaa Tryz.prog C (ZHx N) := by
 refine hΦ.add_pure rfl fun R vs K r h => ?_
 unfold ZNA at h
 obtain ⟨_, _, rfl, h1⟩ := Zat h
 obtain ⟨_, _, rfl, h2⟩ := Zal h1
 obtain ⟨_, _, rfl, h3⟩ := Zal h2
 obtain ⟨_, h4⟩ := Zae h3
 refine Zak (fn := Tryz.f52) (c := ZEi) hC hΦ Tryz.func52 (by kernel_rfl) (by kernel_rfl) (ZDx (N := N) hC hΦ) rfl rfl ?_
 refine (ZOt N _ _ _ _ _).trans ?_
 rw [← Zvx]
 exact h4
def ZNF (N : Nat) : (R : Type) → List V → S → (V → S → Option R) → Option R := fun _ vs s K =>
 Zcf vs fun v'1 v'2 => ZaQ v'1 fun e_1 f_2 x_3 => ZaQ v'2 fun e_4 f_5 x_6 => ZaF s <| ZIQ N e_1 f_2 x_3 e_4 f_5 x_6 (fun b_7 => K (.bool b_7) [])
def ZsE (N : Nat) : Zar := (ZHx N).add 18 (ZNF N)
def ZQx : Code := ZaE Tryz.f18
theorem ZRj {R : Type} (N : Nat) (e_1 : List V) (f_2 : Fl) (x_3 : Int) (e_4 : List V) (f_5 : Fl) (x_6 : Int) (K : V → S → Option R) : ZaU C (ZHx N) (Zac) 18 Tryz.f18 [.agg [.list 7 e_1 f_2, .int .i64 x_3], .agg [.list 7 e_4 f_5, .int .i64 x_6]] [] K =
 Zos N e_1 f_2 x_3 e_4 f_5 x_6 (fun b_7 => K (.bool b_7) []) := by kernel_rfl
theorem Zz8 (hC : Ok Tryz.prog C) {N : Nat} (hΦ : Zaa Tryz.prog C (ZHx N)) : Zaa Tryz.prog C (ZsE N) := by
 refine hΦ.add_pure rfl fun R vs K r h => ?_
 unfold ZNF at h
 obtain ⟨_, _, rfl, h1⟩ := Zat h
 obtain ⟨_, _, _, rfl, h2⟩ := Zav h1
 obtain ⟨_, _, _, rfl, h3⟩ := Zav h2
 obtain ⟨_, h4⟩ := Zae h3
 refine Zak (fn := Tryz.f18) (c := ZQx) hC hΦ Tryz.func18 (by kernel_rfl) (by kernel_rfl) (Zah (Λ := Zac) (by kernel_rfl)) rfl rfl ?_
 refine (ZRj N _ _ _ _ _ _ _).trans ?_
 rw [← Zxb]
 exact h4
def ZLq (N : Nat) : (R : Type) → List V → S → (V → S → Option R) → Option R := fun _ vs s K =>
 Zcf vs fun v'1 v'2 => ZaV 1 v'1 fun e_1 f_2 => asInt .i64 v'2 fun x_3 => ZaF s <| Zlf N e_1 f_2 x_3 (fun b_4 => K (.bool b_4) [])
def ZIH (N : Nat) : Zar := (ZsE N).add 90 (ZLq N)
def ZCZ : Code := ZaE Tryz.f90
def Zub : Code := (Zbj ZCZ [] 0).2
def Zmy : List Nat := ZbO 17 [1, 7, 8, 9]
def ZvB : List Nat := ZbO 17 [4]
def Zjr (x_1 : Int) (e_2 : List V) (f_3 : Fl) (x_4 x_5 : Int) : List V := mkF 0 17 [(1, .int .i64 x_1), (7, .list 1 e_2 f_3), (8, .int .i64 x_4), (9, .int .i64 x_5)]
def Zh3 {R : Type} (K : X → List V → S → Option R) (x_1 : Int) (e_2 : List V) (f_3 : Fl) (x_4 : Int) : Unit → Option R := (fun _ => K .ret (mkF 0 17 [(4, .bool true)]) [])
def ZgQ {R : Type} (K : X → List V → S → Option R) (x_1 : Int) (e_2 : List V) (f_3 : Fl) (x_4 : Int) : Unit → Option R := (fun _ => K (.exit 0) (mkF 0 17 []) [])
abbrev Zmq {R : Type} (N : Nat) : Nat → List V → S → (X → List V → S → Option R) → Option R := fun n => ZcO C (ZsE N) (Zac) Zub [0, 1, 0, 1] false Zmy ZvB n R
theorem ZLc {R : Type} (N n : Nat) (x_1 : Int) (e_2 : List V) (f_3 : Fl) (x_4 : Int) (x_5 : Int) (K : X → List V → S → Option R) :
 Zmq N (n + 1) (Zjr x_1 e_2 f_3 x_4 x_5) [] K =
 Zc3 N x_1 e_2 f_3 x_4 (fun x_5 => Zmq N n (Zjr x_1 e_2 f_3 x_4 x_5) [] K) x_5 (Zh3 K x_1 e_2 f_3 x_4) (ZgQ K x_1 e_2 f_3 x_4) := by kernel_rfl
theorem ZBy {R : Type} (N : Nat) (x_1 : Int) (e_2 : List V) (f_3 : Fl) (x_4 : Int) (K : X → List V → S → Option R) : ∀ (n : Nat) (x_5 : Int),
 Zmq N n (Zjr x_1 e_2 f_3 x_4 x_5) [] K = Zf7 N x_1 e_2 f_3 x_4 (Zh3 K x_1 e_2 f_3 x_4) (ZgQ K x_1 e_2 f_3 x_4) n x_5
 | 0, _ => rfl
 | n + 1, x_5 => (ZLc N n x_1 e_2 f_3 x_4 x_5 K).trans (congrArg (fun nx => Zc3 N x_1 e_2 f_3 x_4 nx x_5 (Zh3 K x_1 e_2 f_3 x_4) (ZgQ K x_1 e_2 f_3 x_4)) (funext fun x_5 => ZBy N x_1 e_2 f_3 x_4 K n x_5))
def ZsS {R : Type} (E : List V) (s : S) (k : Int → List V → Fl → Int → Int → Option R) : Option R :=
 Zan (ZaZ 17 [1, 7, 8, 9] E) <| ZaR E 1 .i64 fun x_1 => Zbz E 7 1 fun e_2 f_3 => ZaR E 8 .i64 fun x_4 => ZaR E 9 .i64 fun x_5 => ZaF s <| k x_1 e_2 f_3 x_4 x_5
theorem ZoA {R : Type} {E : List V} {s : S} {k : Int → List V → Fl → Int → Int → Option R} {r : R} (h : ZsS E s k = some r) : ∃ x_1 e_2 f_3 x_4 x_5, E = Zjr x_1 e_2 f_3 x_4 x_5 ∧ s = [] ∧ k x_1 e_2 f_3 x_4 x_5 = some r := by
 unfold ZsS at h
 obtain ⟨hg, h1⟩ := Zad h
 obtain ⟨_, hu1, h2⟩ := Zai h1
 obtain ⟨_, _, hu7, h3⟩ := ZaA h2
 obtain ⟨_, hu8, h4⟩ := Zai h3
 obtain ⟨_, hu9, h5⟩ := Zai h4
 obtain ⟨rfl, h6⟩ := Zae h5
 exact ⟨_, _, _, _, _, ZaP hg rfl (Zab hu1 (Zab hu7 (Zab hu8 (Zab hu9 ZaG)))), rfl, h6⟩
def Zsd (N : Nat) : Zaw := (Zac).add [0, 1, 0, 1] fun _ E s K => ZsS (Zbc Zmy E) s fun x_1 e_2 f_3 x_4 x_5 => Zf7 N x_1 e_2 f_3 x_4 (Zh3 K x_1 e_2 f_3 x_4) (ZgQ K x_1 e_2 f_3 x_4) N x_5
theorem ZFx {N : Nat} (hC : Ok Tryz.prog C) (hΦ : Zaa Tryz.prog C (ZsE N)) : Za1 Tryz.prog C (Zsd N) Zub [0, 1, 0, 1] :=
 Za2 (Λi := Zac) (tr := false) (ks := Zmy) (kx := ZvB) (N := N) hC hΦ
  (Zah (by kernel_rfl))
  fun R E s K r h => by
   have h2 := Zaw.add_self.symm.trans h
   obtain ⟨_, _, _, _, _, he, rfl, h3⟩ := ZoA h2
   rw [he]
   exact (ZBy N _ _ _ _ _ N _).trans h3
theorem ZMp : ZaY ZCZ [] = [([0, 1, 0, 1], Zub)] := by kernel_rfl
theorem ZPd {R : Type} (N : Nat) (e_1 : List V) (f_2 : Fl) (x_3 : Int) (K : V → S → Option R) : ZaU C (ZsE N) (Zsd N) 90 Tryz.f90 [.list 1 e_1 f_2, .int .i64 x_3] [] K =
 ZrI N e_1 f_2 x_3 (fun b_4 => K (.bool b_4) []) := by kernel_rfl
theorem ZC2 {N : Nat} (hC : Ok Tryz.prog C) (hΦ : Zaa Tryz.prog C (ZsE N)) : ZaT Tryz.prog C (Zsd N) ZCZ [] :=
 ZaB ZCZ [] (by
  rw [ZMp]
  intro p hp
  simp only [List.mem_cons, List.mem_nil_iff, or_false] at hp
  rcases hp with rfl
  ·exact (ZFx hC hΦ))
theorem Zz2 (hC : Ok Tryz.prog C) {N : Nat} (hΦ : Zaa Tryz.prog C (ZsE N)) : Zaa Tryz.prog C (ZIH N) := by
 refine hΦ.add_pure rfl fun R vs K r h => ?_
 unfold ZLq at h
 obtain ⟨_, _, rfl, h1⟩ := Zat h
 obtain ⟨_, _, rfl, h2⟩ := Zal h1
 obtain ⟨_, rfl, h3⟩ := Zaf h2
 obtain ⟨_, h4⟩ := Zae h3
 refine Zak (fn := Tryz.f90) (c := ZCZ) hC hΦ Tryz.func90 (by kernel_rfl) (by kernel_rfl) (ZC2 (N := N) hC hΦ) rfl rfl ?_
 refine (ZPd N _ _ _ _).trans ?_
 rw [← Zxd]
 exact h4
def ZLF (N : Nat) : (R : Type) → List V → S → (V → S → Option R) → Option R := fun _ vs s K =>
 ZBm vs fun v'1 v'2 v'3 => asInt .i64 v'1 fun x_1 => asInt .i64 v'2 fun x_2 => asInt .i64 v'3 fun x_3 => ZaF s <| Zgl N x_1 x_2 x_3 (fun b_4 => K (.bool b_4) [])
def Zuo (N : Nat) : Zar := (ZIH N).add 112 (ZLF N)
def ZOM : Code := ZaE Tryz.f112
theorem ZQi {R : Type} (N : Nat) (x_1 x_2 x_3 : Int) (K : V → S → Option R) : ZaU C (ZIH N) (Zac) 112 Tryz.f112 [.int .i64 x_1, .int .i64 x_2, .int .i64 x_3] [] K =
 Zq3 N x_1 x_2 x_3 (fun b_4 => K (.bool b_4) []) := by kernel_rfl
theorem ZzK (hC : Ok Tryz.prog C) {N : Nat} (hΦ : Zaa Tryz.prog C (ZIH N)) : Zaa Tryz.prog C (Zuo N) := by
 refine hΦ.add_pure rfl fun R vs K r h => ?_
 unfold ZLF at h
 obtain ⟨_, _, _, rfl, h1⟩ := Zcn h
 obtain ⟨_, rfl, h2⟩ := Zaf h1
 obtain ⟨_, rfl, h3⟩ := Zaf h2
 obtain ⟨_, rfl, h4⟩ := Zaf h3
 obtain ⟨_, h5⟩ := Zae h4
 refine Zak (fn := Tryz.f112) (c := ZOM) hC hΦ Tryz.func112 (by kernel_rfl) (by kernel_rfl) (Zah (Λ := Zac) (by kernel_rfl)) rfl rfl ?_
 refine (ZQi N _ _ _ _).trans ?_
 rw [← Zw7]
 exact h5
def ZNO (N : Nat) : (R : Type) → List V → S → (V → S → Option R) → Option R := fun _ vs s K =>
 Zcb vs fun v'1 => ZaQ v'1 fun e_1 f_2 x_3 => ZaF s <| ZFW N e_1 f_2 x_3 (fun x_4 => K (.int .i64 x_4) [])
def ZHF (N : Nat) : Zar := (Zuo N).add 138 (ZNO N)
def ZDV : Code := ZaE Tryz.f138
def Zsz : Code := (Zbj ZDV [] 0).2
def Zm9 : List Nat := ZbO 20 [3, 7, 8, 9]
def Zvs : List Nat := ZbO 20 [3]
def Zkq (e_2 : List V) (f_3 : Fl) (x_4 : Int) (e_6 : List V) (f_7 : Fl) (x_8 x_1 x_5 : Int) : List V := mkF 0 20 [(3, .int .i64 x_1), (7, .list 7 e_2 f_3), (8, .int .i64 x_4), (9, .int .i64 x_5)]
def Zhu {R : Type} (K : X → List V → S → Option R) (e_2 : List V) (f_3 : Fl) (x_4 : Int) (e_6 : List V) (f_7 : Fl) (x_8 : Int) : Int → Option R := (fun x_1' => K (.exit 0) (mkF 0 20 [(3, .int .i64 (x_1'))]) [some ⟨[.agg [.list 7 e_6 f_7, .int .i64 x_8]], 2, 34, 0⟩])
abbrev ZmP {R : Type} (N : Nat) : Nat → List V → S → (X → List V → S → Option R) → Option R := fun n => ZcO C (Zuo N) (Zac) Zsz [0, 1, 0, 1, 1] true Zm9 Zvs n R
theorem ZKe {R : Type} (N n : Nat) (e_2 : List V) (f_3 : Fl) (x_4 : Int) (e_6 : List V) (f_7 : Fl) (x_8 : Int) (x_1 x_5 : Int) (K : X → List V → S → Option R) :
 ZmP N (n + 1) (Zkq e_2 f_3 x_4 e_6 f_7 x_8 x_1 x_5) [some ⟨[.agg [.list 7 e_6 f_7, .int .i64 x_8]], 2, 34, 0⟩] K =
 Zdu N e_2 f_3 x_4 e_6 f_7 x_8 (fun x_1 x_5 => ZmP N n (Zkq e_2 f_3 x_4 e_6 f_7 x_8 x_1 x_5) [some ⟨[.agg [.list 7 e_6 f_7, .int .i64 x_8]], 2, 34, 0⟩] K) x_1 x_5 (Zhu K e_2 f_3 x_4 e_6 f_7 x_8) := by kernel_rfl
theorem ZFe {R : Type} (N : Nat) (e_2 : List V) (f_3 : Fl) (x_4 : Int) (e_6 : List V) (f_7 : Fl) (x_8 : Int) (K : X → List V → S → Option R) : ∀ (n : Nat) (x_1 x_5 : Int),
 ZmP N n (Zkq e_2 f_3 x_4 e_6 f_7 x_8 x_1 x_5) [some ⟨[.agg [.list 7 e_6 f_7, .int .i64 x_8]], 2, 34, 0⟩] K = ZgK N e_2 f_3 x_4 e_6 f_7 x_8 (Zhu K e_2 f_3 x_4 e_6 f_7 x_8) n x_1 x_5
 | 0, _, _ => rfl
 | n + 1, x_1, x_5 => (ZKe N n e_2 f_3 x_4 e_6 f_7 x_8 x_1 x_5 K).trans (congrArg (fun nx => Zdu N e_2 f_3 x_4 e_6 f_7 x_8 nx x_1 x_5 (Zhu K e_2 f_3 x_4 e_6 f_7 x_8)) (funext fun x_1 => funext fun x_5 => ZFe N e_2 f_3 x_4 e_6 f_7 x_8 K n x_1 x_5))
def ZuO {R : Type} (E : List V) (s : S) (k : Int → List V → Fl → Int → Int → List V → Fl → Int → Option R) : Option R :=
 Zan (ZaZ 20 [3, 7, 8, 9] E) <| ZaR E 3 .i64 fun x_1 => Zbz E 7 7 fun e_2 f_3 => ZaR E 8 .i64 fun x_4 => ZaR E 9 .i64 fun x_5 => Zd4 s fun o'1 s'2 => ZdP o'1 2 34 fun e'3 k'4 => isN k'4 0 <| Zcb e'3 fun v'5 => asAgg v'5 fun c'6 => Zcf c'6 fun v'7 v'8 => ZaV 7 v'7 fun e_6 f_7 => asInt .i64 v'8 fun x_8 => ZaF s'2 <| k x_1 e_2 f_3 x_4 x_5 e_6 f_7 x_8
theorem Zp6 {R : Type} {E : List V} {s : S} {k : Int → List V → Fl → Int → Int → List V → Fl → Int → Option R} {r : R} (h : ZuO E s k = some r) : ∃ x_1 e_2 f_3 x_4 x_5 e_6 f_7 x_8, E = Zkq e_2 f_3 x_4 e_6 f_7 x_8 x_1 x_5 ∧ s = [some ⟨[.agg [.list 7 e_6 f_7, .int .i64 x_8]], 2, 34, 0⟩] ∧ k x_1 e_2 f_3 x_4 x_5 e_6 f_7 x_8 = some r := by
 unfold ZuO at h
 obtain ⟨hg, h1⟩ := Zad h
 obtain ⟨_, hu3, h2⟩ := Zai h1
 obtain ⟨_, _, hu7, h3⟩ := ZaA h2
 obtain ⟨_, hu8, h4⟩ := Zai h3
 obtain ⟨_, hu9, h5⟩ := Zai h4
 obtain ⟨_, _, rfl, h6⟩ := ZaN h5
 obtain ⟨_, _, rfl, h7⟩ := ZaK h6
 obtain ⟨rfl, h8⟩ := Zas h7
 obtain ⟨_, rfl, h9⟩ := Zaq h8
 obtain ⟨_, rfl, h10⟩ := ZaD h9
 obtain ⟨_, _, rfl, h11⟩ := Zat h10
 obtain ⟨_, _, rfl, h12⟩ := Zal h11
 obtain ⟨_, rfl, h13⟩ := Zaf h12
 obtain ⟨rfl, h14⟩ := Zae h13
 exact ⟨_, _, _, _, _, _, _, _, ZaP hg rfl (Zab hu3 (Zab hu7 (Zab hu8 (Zab hu9 ZaG)))), rfl, h14⟩
def Zs3 (N : Nat) : Zaw := (Zac).add [0, 1, 0, 1, 1] fun _ E s K => ZuO (Zbc Zm9 E) s fun x_1 e_2 f_3 x_4 x_5 e_6 f_7 x_8 => ZgK N e_2 f_3 x_4 e_6 f_7 x_8 (Zhu K e_2 f_3 x_4 e_6 f_7 x_8) N x_1 x_5
theorem ZIh {N : Nat} (hC : Ok Tryz.prog C) (hΦ : Zaa Tryz.prog C (Zuo N)) : Za1 Tryz.prog C (Zs3 N) Zsz [0, 1, 0, 1, 1] :=
 Za2 (Λi := Zac) (tr := true) (ks := Zm9) (kx := Zvs) (N := N) hC hΦ
  (Zah (by kernel_rfl))
  fun R E s K r h => by
   have h2 := Zaw.add_self.symm.trans h
   obtain ⟨_, _, _, _, _, _, _, _, he, rfl, h3⟩ := Zp6 h2
   rw [he]
   exact (ZFe N _ _ _ _ _ _ _ N _ _).trans h3
theorem ZMU : ZaY ZDV [] = [([0, 1, 0, 1, 1], Zsz)] := by kernel_rfl
theorem ZOW {R : Type} (N : Nat) (e_1 : List V) (f_2 : Fl) (x_3 : Int) (K : V → S → Option R) : ZaU C (Zuo N) (Zs3 N) 138 Tryz.f138 [.agg [.list 7 e_1 f_2, .int .i64 x_3]] [] K =
 ZqC N e_1 f_2 x_3 (fun x_4 => K (.int .i64 x_4) []) := by kernel_rfl
theorem ZDo {N : Nat} (hC : Ok Tryz.prog C) (hΦ : Zaa Tryz.prog C (Zuo N)) : ZaT Tryz.prog C (Zs3 N) ZDV [] :=
 ZaB ZDV [] (by
  rw [ZMU]
  intro p hp
  simp only [List.mem_cons, List.mem_nil_iff, or_false] at hp
  rcases hp with rfl
  ·exact (ZIh hC hΦ))
theorem ZBa (hC : Ok Tryz.prog C) {N : Nat} (hΦ : Zaa Tryz.prog C (Zuo N)) : Zaa Tryz.prog C (ZHF N) := by
 refine hΦ.add_pure rfl fun R vs K r h => ?_
 unfold ZNO at h
 obtain ⟨_, rfl, h1⟩ := Zaq h
 obtain ⟨_, _, _, rfl, h2⟩ := Zav h1
 obtain ⟨_, h3⟩ := Zae h2
 refine Zak (fn := Tryz.f138) (c := ZDV) hC hΦ Tryz.func138 (by kernel_rfl) (by kernel_rfl) (ZDo (N := N) hC hΦ) rfl rfl ?_
 refine (ZOW N _ _ _ _).trans ?_
 rw [← Zyw]
 exact h3
def ZMw (N : Nat) : (R : Type) → List V → S → (V → S → Option R) → Option R := fun _ vs s K =>
 Zcb vs fun v'1 => asInt .i64 v'1 fun x_1 => ZaF s <| ZJK N x_1 (fun b_2 => K (.bool b_2) [])
def Zvi (N : Nat) : Zar := (ZHF N).add 62 (ZMw N)
def ZO6 : Code := ZaE Tryz.f62
theorem ZQD {R : Type} (N : Nat) (x_1 : Int) (K : V → S → Option R) : ZaU C (ZHF N) (Zac) 62 Tryz.f62 [.int .i64 x_1] [] K =
 ZoX N x_1 (fun b_2 => K (.bool b_2) []) := by kernel_rfl
theorem Zy7 (hC : Ok Tryz.prog C) {N : Nat} (hΦ : Zaa Tryz.prog C (ZHF N)) : Zaa Tryz.prog C (Zvi N) := by
 refine hΦ.add_pure rfl fun R vs K r h => ?_
 unfold ZMw at h
 obtain ⟨_, rfl, h1⟩ := Zaq h
 obtain ⟨_, rfl, h2⟩ := Zaf h1
 obtain ⟨_, h3⟩ := Zae h2
 refine Zak (fn := Tryz.f62) (c := ZO6) hC hΦ Tryz.func62 (by kernel_rfl) (by kernel_rfl) (Zah (Λ := Zac) (by kernel_rfl)) rfl rfl ?_
 refine (ZQD N _ _).trans ?_
 rw [← Zyf]
 exact h3
def ZN1 (N : Nat) : (R : Type) → List V → S → (V → S → Option R) → Option R := fun _ vs s K =>
 Zcf vs fun v'1 v'2 => Zbd v'1 fun w_1 => asInt .u8 v'2 fun x_2 => ZaF s <| ZIx N w_1 x_2 (fun e_3 => K (.list 1 e_3 .sh) [])
def ZuE (N : Nat) : Zar := (Zvi N).add 143 (ZN1 N)
def ZCG : Code := ZaE Tryz.f143
def Ztv : Code := (Zbj ZCG [] 0).2
def ZmL : List Nat := ZbO 34 [0, 1, 5, 6, 7]
def ZyD : List Nat := ZbO 34 [0, 5, 6]
def Zke (w_1 : ByteArray) (x_2 : Int) (e_3 : List V) (x_4 x_5 : Int) : List V := mkF 0 34 [(0, .str w_1), (1, .int .u8 x_2), (5, .list 1 e_3 (.own 9)), (6, .int .i64 x_4), (7, .int .i64 x_5)]
def ZhH {R : Type} (K : X → List V → S → Option R) (w_1 : ByteArray) (x_2 : Int) : List V → Int → Option R := (fun e_1' x_2' => K (.exit 0) (mkF 0 34 [(0, .str w_1), (5, .list 1 (e_1') (.own 9)), (6, .int .i64 (x_2'))]) [])
abbrev ZnT {R : Type} (N : Nat) : Nat → List V → S → (X → List V → S → Option R) → Option R := fun n => ZcO C (Zvi N) (Zac) Ztv [0, 1, 0, 1, 1, 1] false ZmL ZyD n R
theorem ZK3 {R : Type} (N n : Nat) (w_1 : ByteArray) (x_2 : Int) (e_3 : List V) (x_4 x_5 : Int) (K : X → List V → S → Option R) :
 ZnT N (n + 1) (Zke w_1 x_2 e_3 x_4 x_5) [] K =
 Zdb N w_1 x_2 (fun e_3 x_4 x_5 => ZnT N n (Zke w_1 x_2 e_3 x_4 x_5) [] K) e_3 x_4 x_5 (ZhH K w_1 x_2) := by kernel_rfl
theorem ZC4 {R : Type} (N : Nat) (w_1 : ByteArray) (x_2 : Int) (K : X → List V → S → Option R) : ∀ (n : Nat) (e_3 : List V) (x_4 x_5 : Int),
 ZnT N n (Zke w_1 x_2 e_3 x_4 x_5) [] K = Zf4 N w_1 x_2 (ZhH K w_1 x_2) n e_3 x_4 x_5
 | 0, _, _, _ => rfl
 | n + 1, e_3, x_4, x_5 => (ZK3 N n w_1 x_2 e_3 x_4 x_5 K).trans (congrArg (fun nx => Zdb N w_1 x_2 nx e_3 x_4 x_5 (ZhH K w_1 x_2)) (funext fun e_3 => funext fun x_4 => funext fun x_5 => ZC4 N w_1 x_2 K n e_3 x_4 x_5))
def ZuT {R : Type} (E : List V) (s : S) (k : ByteArray → Int → List V → Int → Int → Option R) : Option R :=
 Zan (ZaZ 34 [0, 1, 5, 6, 7] E) <| ZfO E 0 fun w_1 => ZaR E 1 .u8 fun x_2 => Zbu (nth E 5) fun u5 => ZaV 1 u5 fun e_3 f'1 => Zn5 9 f'1 <| ZaR E 6 .i64 fun x_4 => ZaR E 7 .i64 fun x_5 => ZaF s <| k w_1 x_2 e_3 x_4 x_5
theorem Zpz {R : Type} {E : List V} {s : S} {k : ByteArray → Int → List V → Int → Int → Option R} {r : R} (h : ZuT E s k = some r) : ∃ w_1 x_2 e_3 x_4 x_5, E = Zke w_1 x_2 e_3 x_4 x_5 ∧ s = [] ∧ k w_1 x_2 e_3 x_4 x_5 = some r := by
 unfold ZuT at h
 obtain ⟨hg, h1⟩ := Zad h
 obtain ⟨_, hu0, h2⟩ := ZbI h1
 obtain ⟨_, hu1, h3⟩ := Zai h2
 obtain ⟨_, hu5, h4⟩ := Zag h3
 obtain ⟨_, _, rfl, h5⟩ := Zal h4
 obtain ⟨rfl, h6⟩ := ZcQ h5
 obtain ⟨_, hu6, h7⟩ := Zai h6
 obtain ⟨_, hu7, h8⟩ := Zai h7
 obtain ⟨rfl, h9⟩ := Zae h8
 exact ⟨_, _, _, _, _, ZaP hg rfl (Zab hu0 (Zab hu1 (Zab hu5 (Zab hu6 (Zab hu7 ZaG))))), rfl, h9⟩
def ZtI (N : Nat) : Zaw := (Zac).add [0, 1, 0, 1, 1, 1] fun _ E s K => ZuT (Zbc ZmL E) s fun w_1 x_2 e_3 x_4 x_5 => Zf4 N w_1 x_2 (ZhH K w_1 x_2) N e_3 x_4 x_5
theorem ZH3 {N : Nat} (hC : Ok Tryz.prog C) (hΦ : Zaa Tryz.prog C (Zvi N)) : Za1 Tryz.prog C (ZtI N) Ztv [0, 1, 0, 1, 1, 1] :=
 Za2 (Λi := Zac) (tr := false) (ks := ZmL) (kx := ZyD) (N := N) hC hΦ
  (Zah (by kernel_rfl))
  fun R E s K r h => by
   have h2 := Zaw.add_self.symm.trans h
   obtain ⟨_, _, _, _, _, he, rfl, h3⟩ := Zpz h2
   rw [he]
   exact (ZC4 N _ _ _ N _ _ _).trans h3
theorem ZL3 : ZaY ZCG [] = [([0, 1, 0, 1, 1, 1], Ztv)] := by kernel_rfl
theorem ZPs {R : Type} (N : Nat) (w_1 : ByteArray) (x_2 : Int) (K : V → S → Option R) : ZaU C (Zvi N) (ZtI N) 143 Tryz.f143 [.str w_1, .int .u8 x_2] [] K =
 Zoy N w_1 x_2 (fun e_3 => K (.list 1 e_3 .sh) []) := by kernel_rfl
theorem ZDI {N : Nat} (hC : Ok Tryz.prog C) (hΦ : Zaa Tryz.prog C (Zvi N)) : ZaT Tryz.prog C (ZtI N) ZCG [] :=
 ZaB ZCG [] (by
  rw [ZL3]
  intro p hp
  simp only [List.mem_cons, List.mem_nil_iff, or_false] at hp
  rcases hp with rfl
  ·exact (ZH3 hC hΦ))
theorem Zzj (hC : Ok Tryz.prog C) {N : Nat} (hΦ : Zaa Tryz.prog C (Zvi N)) : Zaa Tryz.prog C (ZuE N) := by
 refine hΦ.add_pure rfl fun R vs K r h => ?_
 unfold ZN1 at h
 obtain ⟨_, _, rfl, h1⟩ := Zat h
 obtain ⟨_, rfl, h2⟩ := Zao h1
 obtain ⟨_, rfl, h3⟩ := Zaf h2
 obtain ⟨_, h4⟩ := Zae h3
 refine Zak (fn := Tryz.f143) (c := ZCG) hC hΦ Tryz.func143 (by kernel_rfl) (by kernel_rfl) (ZDI (N := N) hC hΦ) rfl rfl ?_
 refine (ZPs N _ _ _).trans ?_
 rw [← Zv8]
 exact h4
def ZN3 (N : Nat) : (R : Type) → List V → S → (V → S → Option R) → Option R := fun _ vs s K =>
 Zcb vs fun v'1 => Zbd v'1 fun w_1 => ZaF s <| Zlh N w_1 (fun e_2 => K (.list 1 e_2 (.own 9)) [])
def Zuf (N : Nat) : Zar := (ZuE N).add 88 (ZN3 N)
def ZFd : Code := ZaE Tryz.f88
def Zs2 : Code := (Zbj ZFd [] 0).2
def ZmO : List Nat := ZbO 21 [3, 7, 8, 9]
def ZwW : List Nat := ZbO 21 [3]
def ZjZ (e_2 : List V) (x_3 : Int) (e_1 : List V) (x_4 : Int) : List V := mkF 0 21 [(3, .list 1 e_1 (.own 9)), (7, .list 1 e_2 .sh), (8, .int .i64 x_3), (9, .int .i64 x_4)]
def Zil {R : Type} (K : X → List V → S → Option R) (e_2 : List V) (x_3 : Int) : List V → Option R := (fun e_1' => K (.exit 0) (mkF 0 21 [(3, .list 1 (e_1') (.own 9))]) [])
abbrev ZmQ {R : Type} (N : Nat) : Nat → List V → S → (X → List V → S → Option R) → Option R := fun n => ZcO C (ZuE N) (Zac) Zs2 [0, 1, 0, 1, 1] false ZmO ZwW n R
theorem ZJL {R : Type} (N n : Nat) (e_2 : List V) (x_3 : Int) (e_1 : List V) (x_4 : Int) (K : X → List V → S → Option R) :
 ZmQ N (n + 1) (ZjZ e_2 x_3 e_1 x_4) [] K =
 Zc1 N e_2 x_3 (fun e_1 x_4 => ZmQ N n (ZjZ e_2 x_3 e_1 x_4) [] K) e_1 x_4 (Zil K e_2 x_3) := by kernel_rfl
theorem ZCK {R : Type} (N : Nat) (e_2 : List V) (x_3 : Int) (K : X → List V → S → Option R) : ∀ (n : Nat) (e_1 : List V) (x_4 : Int),
 ZmQ N n (ZjZ e_2 x_3 e_1 x_4) [] K = Zf3 N e_2 x_3 (Zil K e_2 x_3) n e_1 x_4
 | 0, _, _ => rfl
 | n + 1, e_1, x_4 => (ZJL N n e_2 x_3 e_1 x_4 K).trans (congrArg (fun nx => Zc1 N e_2 x_3 nx e_1 x_4 (Zil K e_2 x_3)) (funext fun e_1 => funext fun x_4 => ZCK N e_2 x_3 K n e_1 x_4))
def Zvf {R : Type} (E : List V) (s : S) (k : List V → List V → Int → Int → Option R) : Option R :=
 Zan (ZaZ 21 [3, 7, 8, 9] E) <| Zbu (nth E 3) fun u3 => ZaV 1 u3 fun e_1 f'1 => Zn5 9 f'1 <| Zbu (nth E 7) fun u7 => ZaV 1 u7 fun e_2 f'2 => ZKA f'2 <| ZaR E 8 .i64 fun x_3 => ZaR E 9 .i64 fun x_4 => ZaF s <| k e_1 e_2 x_3 x_4
theorem Zqp {R : Type} {E : List V} {s : S} {k : List V → List V → Int → Int → Option R} {r : R} (h : Zvf E s k = some r) : ∃ e_1 e_2 x_3 x_4, E = ZjZ e_2 x_3 e_1 x_4 ∧ s = [] ∧ k e_1 e_2 x_3 x_4 = some r := by
 unfold Zvf at h
 obtain ⟨hg, h1⟩ := Zad h
 obtain ⟨_, hu3, h2⟩ := Zag h1
 obtain ⟨_, _, rfl, h3⟩ := Zal h2
 obtain ⟨rfl, h4⟩ := ZcQ h3
 obtain ⟨_, hu7, h5⟩ := Zag h4
 obtain ⟨_, _, rfl, h6⟩ := Zal h5
 obtain ⟨rfl, h7⟩ := Ze5 h6
 obtain ⟨_, hu8, h8⟩ := Zai h7
 obtain ⟨_, hu9, h9⟩ := Zai h8
 obtain ⟨rfl, h10⟩ := Zae h9
 exact ⟨_, _, _, _, ZaP hg rfl (Zab hu3 (Zab hu7 (Zab hu8 (Zab hu9 ZaG)))), rfl, h10⟩
def Zuk (N : Nat) : Zaw := (Zac).add [0, 1, 0, 1, 1] fun _ E s K => Zvf (Zbc ZmO E) s fun e_1 e_2 x_3 x_4 => Zf3 N e_2 x_3 (Zil K e_2 x_3) N e_1 x_4
theorem ZHN {N : Nat} (hC : Ok Tryz.prog C) (hΦ : Zaa Tryz.prog C (ZuE N)) : Za1 Tryz.prog C (Zuk N) Zs2 [0, 1, 0, 1, 1] :=
 Za2 (Λi := Zac) (tr := false) (ks := ZmO) (kx := ZwW) (N := N) hC hΦ
  (Zah (by kernel_rfl))
  fun R E s K r h => by
   have h2 := Zaw.add_self.symm.trans h
   obtain ⟨_, _, _, _, he, rfl, h3⟩ := Zqp h2
   rw [he]
   exact (ZCK N _ _ _ N _ _).trans h3
theorem ZLz : ZaY ZFd [] = [([0, 1, 0, 1, 1], Zs2)] := by kernel_rfl
theorem ZPW {R : Type} (N : Nat) (w_1 : ByteArray) (K : V → S → Option R) : ZaU C (ZuE N) (Zuk N) 88 Tryz.f88 [.str w_1] [] K =
 Zpc N w_1 (fun e_2 => K (.list 1 e_2 (.own 9)) []) := by kernel_rfl
theorem ZDS {N : Nat} (hC : Ok Tryz.prog C) (hΦ : Zaa Tryz.prog C (ZuE N)) : ZaT Tryz.prog C (Zuk N) ZFd [] :=
 ZaB ZFd [] (by
  rw [ZLz]
  intro p hp
  simp only [List.mem_cons, List.mem_nil_iff, or_false] at hp
  rcases hp with rfl
  ·exact (ZHN hC hΦ))
theorem ZyT (hC : Ok Tryz.prog C) {N : Nat} (hΦ : Zaa Tryz.prog C (ZuE N)) : Zaa Tryz.prog C (Zuf N) := by
 refine hΦ.add_own rfl fun R vs K r h => ?_
 unfold ZN3 at h
 obtain ⟨_, rfl, h1⟩ := Zaq h
 obtain ⟨_, rfl, h2⟩ := Zao h1
 obtain ⟨_, h3⟩ := Zae h2
 refine ZHE (fn := Tryz.f88) (c := ZFd) hC hΦ Tryz.func88 (by kernel_rfl) (by kernel_rfl) (ZDS (N := N) hC hΦ) rfl rfl ?_
 refine (ZPW N _ _).trans ?_
 rw [← ZxF]
 exact h3
def ZM7 (N : Nat) : (R : Type) → List V → S → (V → S → Option R) → Option R := fun _ vs s K =>
 Zcb vs fun v'1 => Zbd v'1 fun w_1 => ZaF s <| Zz1 N w_1 (fun b_2 => K (.bool b_2) [])
def Zss (N : Nat) : Zar := (Zuf N).add 117 (ZM7 N)
def ZDB : Code := ZaE Tryz.f117
def Zt8 : Code := (Zbj ZDB [] 0).2
def Zmx : List Nat := ZbO 51 [0, 3]
def Zx1 : List Nat := ZbO 51 [0, 2]
def Zkn (w_1 : ByteArray) (x_2 : Int) : List V := mkF 0 51 [(0, .str w_1), (3, .int .i64 x_2)]
def Zht {R : Type} (K : X → List V → S → Option R) (w_1 : ByteArray) : Unit → Option R := (fun _ => K .ret (mkF 0 51 [(0, .str w_1), (2, .bool false)]) [])
def Zik {R : Type} (K : X → List V → S → Option R) (w_1 : ByteArray) : Unit → Option R := (fun _ => K (.exit 0) (mkF 0 51 [(0, .str w_1)]) [])
abbrev Znm {R : Type} (N : Nat) : Nat → List V → S → (X → List V → S → Option R) → Option R := fun n => ZcO C (Zuf N) (Zac) Zt8 [0, 1, 0, 1] false Zmx Zx1 n R
theorem ZLb {R : Type} (N n : Nat) (w_1 : ByteArray) (x_2 : Int) (K : X → List V → S → Option R) :
 Znm N (n + 1) (Zkn w_1 x_2) [] K =
 ZdE N w_1 (fun x_2 => Znm N n (Zkn w_1 x_2) [] K) x_2 (Zht K w_1) (Zik K w_1) := by kernel_rfl
theorem ZB6 {R : Type} (N : Nat) (w_1 : ByteArray) (K : X → List V → S → Option R) : ∀ (n : Nat) (x_2 : Int),
 Znm N n (Zkn w_1 x_2) [] K = Ze0 N w_1 (Zht K w_1) (Zik K w_1) n x_2
 | 0, _ => rfl
 | n + 1, x_2 => (ZLb N n w_1 x_2 K).trans (congrArg (fun nx => ZdE N w_1 nx x_2 (Zht K w_1) (Zik K w_1)) (funext fun x_2 => ZB6 N w_1 K n x_2))
def ZuJ {R : Type} (E : List V) (s : S) (k : ByteArray → Int → Option R) : Option R :=
 Zan (ZaZ 51 [0, 3] E) <| ZfO E 0 fun w_1 => ZaR E 3 .i64 fun x_2 => ZaF s <| k w_1 x_2
theorem ZpO {R : Type} {E : List V} {s : S} {k : ByteArray → Int → Option R} {r : R} (h : ZuJ E s k = some r) : ∃ w_1 x_2, E = Zkn w_1 x_2 ∧ s = [] ∧ k w_1 x_2 = some r := by
 unfold ZuJ at h
 obtain ⟨hg, h1⟩ := Zad h
 obtain ⟨_, hu0, h2⟩ := ZbI h1
 obtain ⟨_, hu3, h3⟩ := Zai h2
 obtain ⟨rfl, h4⟩ := Zae h3
 exact ⟨_, _, ZaP hg rfl (Zab hu0 (Zab hu3 ZaG)), rfl, h4⟩
def Zu3 (N : Nat) : Zaw := (Zac).add [0, 1, 0, 1] fun _ E s K => ZuJ (Zbc Zmx E) s fun w_1 x_2 => Ze0 N w_1 (Zht K w_1) (Zik K w_1) N x_2
theorem ZGo {N : Nat} (hC : Ok Tryz.prog C) (hΦ : Zaa Tryz.prog C (Zuf N)) : Za1 Tryz.prog C (Zu3 N) Zt8 [0, 1, 0, 1] :=
 Za2 (Λi := Zac) (tr := false) (ks := Zmx) (kx := Zx1) (N := N) hC hΦ
  (Zah (by kernel_rfl))
  fun R E s K r h => by
   have h2 := Zaw.add_self.symm.trans h
   obtain ⟨_, _, he, rfl, h3⟩ := ZpO h2
   rw [he]
   exact (ZB6 N _ _ N _).trans h3
theorem ZLV : ZaY ZDB [] = [([0, 1, 0, 1], Zt8)] := by kernel_rfl
theorem ZPi {R : Type} (N : Nat) (w_1 : ByteArray) (K : V → S → Option R) : ZaU C (Zuf N) (Zu3 N) 117 Tryz.f117 [.str w_1] [] K =
 Zov N w_1 (fun b_2 => K (.bool b_2) []) := by kernel_rfl
theorem ZE5 {N : Nat} (hC : Ok Tryz.prog C) (hΦ : Zaa Tryz.prog C (Zuf N)) : ZaT Tryz.prog C (Zu3 N) ZDB [] :=
 ZaB ZDB [] (by
  rw [ZLV]
  intro p hp
  simp only [List.mem_cons, List.mem_nil_iff, or_false] at hp
  rcases hp with rfl
  ·exact (ZGo hC hΦ))
theorem Zy0 (hC : Ok Tryz.prog C) {N : Nat} (hΦ : Zaa Tryz.prog C (Zuf N)) : Zaa Tryz.prog C (Zss N) := by
 refine hΦ.add_pure rfl fun R vs K r h => ?_
 unfold ZM7 at h
 obtain ⟨_, rfl, h1⟩ := Zaq h
 obtain ⟨_, rfl, h2⟩ := Zao h1
 obtain ⟨_, h3⟩ := Zae h2
 refine Zak (fn := Tryz.f117) (c := ZDB) hC hΦ Tryz.func117 (by kernel_rfl) (by kernel_rfl) (ZE5 (N := N) hC hΦ) rfl rfl ?_
 refine (ZPi N _ _).trans ?_
 rw [← Zwy]
 exact h3
def ZNk (N : Nat) : (R : Type) → List V → S → (V → S → Option R) → Option R := fun _ vs s K =>
 Zcb vs fun v'1 => Zbd v'1 fun w_1 => ZaF s <| ZBD N w_1 (fun b_2 => K (.bool b_2) [])
def Zup (N : Nat) : Zar := (Zss N).add 142 (ZNk N)
def ZDq : Code := ZaE Tryz.f142
def ZsU : Code := (Zbj ZDq [] 0).2
def ZnN : List Nat := ZbO 27 [0, 6, 7, 8]
def Zw5 : List Nat := ZbO 27 [0, 2]
def ZjM (w_1 : ByteArray) (e_2 : List V) (x_3 x_4 : Int) : List V := mkF 0 27 [(0, .str w_1), (6, .list 1 e_2 (.own 9)), (7, .int .i64 x_3), (8, .int .i64 x_4)]
def Zhl {R : Type} (K : X → List V → S → Option R) (w_1 : ByteArray) (e_2 : List V) (x_3 : Int) : Unit → Option R := (fun _ => K .ret (mkF 0 27 [(0, .str w_1), (2, .bool false)]) [])
def Zhe {R : Type} (K : X → List V → S → Option R) (w_1 : ByteArray) (e_2 : List V) (x_3 : Int) : Unit → Option R := (fun _ => K (.exit 0) (mkF 0 27 [(0, .str w_1)]) [])
abbrev Zod {R : Type} (N : Nat) : Nat → List V → S → (X → List V → S → Option R) → Option R := fun n => ZcO C (Zss N) (Zac) ZsU [0, 1, 0, 1] false ZnN Zw5 n R
theorem ZKJ {R : Type} (N n : Nat) (w_1 : ByteArray) (e_2 : List V) (x_3 : Int) (x_4 : Int) (K : X → List V → S → Option R) :
 Zod N (n + 1) (ZjM w_1 e_2 x_3 x_4) [] K =
 Zdq N w_1 e_2 x_3 (fun x_4 => Zod N n (ZjM w_1 e_2 x_3 x_4) [] K) x_4 (Zhl K w_1 e_2 x_3) (Zhe K w_1 e_2 x_3) := by kernel_rfl
theorem ZFj {R : Type} (N : Nat) (w_1 : ByteArray) (e_2 : List V) (x_3 : Int) (K : X → List V → S → Option R) : ∀ (n : Nat) (x_4 : Int),
 Zod N n (ZjM w_1 e_2 x_3 x_4) [] K = ZgD N w_1 e_2 x_3 (Zhl K w_1 e_2 x_3) (Zhe K w_1 e_2 x_3) n x_4
 | 0, _ => rfl
 | n + 1, x_4 => (ZKJ N n w_1 e_2 x_3 x_4 K).trans (congrArg (fun nx => Zdq N w_1 e_2 x_3 nx x_4 (Zhl K w_1 e_2 x_3) (Zhe K w_1 e_2 x_3)) (funext fun x_4 => ZFj N w_1 e_2 x_3 K n x_4))
def ZtL {R : Type} (E : List V) (s : S) (k : ByteArray → List V → Int → Int → Option R) : Option R :=
 Zan (ZaZ 27 [0, 6, 7, 8] E) <| ZfO E 0 fun w_1 => Zbu (nth E 6) fun u6 => ZaV 1 u6 fun e_2 f'1 => Zn5 9 f'1 <| ZaR E 7 .i64 fun x_3 => ZaR E 8 .i64 fun x_4 => ZaF s <| k w_1 e_2 x_3 x_4
theorem Zps {R : Type} {E : List V} {s : S} {k : ByteArray → List V → Int → Int → Option R} {r : R} (h : ZtL E s k = some r) : ∃ w_1 e_2 x_3 x_4, E = ZjM w_1 e_2 x_3 x_4 ∧ s = [] ∧ k w_1 e_2 x_3 x_4 = some r := by
 unfold ZtL at h
 obtain ⟨hg, h1⟩ := Zad h
 obtain ⟨_, hu0, h2⟩ := ZbI h1
 obtain ⟨_, hu6, h3⟩ := Zag h2
 obtain ⟨_, _, rfl, h4⟩ := Zal h3
 obtain ⟨rfl, h5⟩ := ZcQ h4
 obtain ⟨_, hu7, h6⟩ := Zai h5
 obtain ⟨_, hu8, h7⟩ := Zai h6
 obtain ⟨rfl, h8⟩ := Zae h7
 exact ⟨_, _, _, _, ZaP hg rfl (Zab hu0 (Zab hu6 (Zab hu7 (Zab hu8 ZaG)))), rfl, h8⟩
def Zvh (N : Nat) : Zaw := (Zac).add [0, 1, 0, 1] fun _ E s K => ZtL (Zbc ZnN E) s fun w_1 e_2 x_3 x_4 => ZgD N w_1 e_2 x_3 (Zhl K w_1 e_2 x_3) (Zhe K w_1 e_2 x_3) N x_4
theorem ZI6 {N : Nat} (hC : Ok Tryz.prog C) (hΦ : Zaa Tryz.prog C (Zss N)) : Za1 Tryz.prog C (Zvh N) ZsU [0, 1, 0, 1] :=
 Za2 (Λi := Zac) (tr := false) (ks := ZnN) (kx := Zw5) (N := N) hC hΦ
  (Zah (by kernel_rfl))
  fun R E s K r h => by
   have h2 := Zaw.add_self.symm.trans h
   obtain ⟨_, _, _, _, he, rfl, h3⟩ := Zps h2
   rw [he]
   exact (ZFj N _ _ _ _ N _).trans h3
theorem ZMi : ZaY ZDq [] = [([0, 1, 0, 1], ZsU)] := by kernel_rfl
theorem ZQE {R : Type} (N : Nat) (w_1 : ByteArray) (K : V → S → Option R) : ZaU C (Zss N) (Zvh N) 142 Tryz.f142 [.str w_1] [] K =
 Zp4 N w_1 (fun b_2 => K (.bool b_2) []) := by kernel_rfl
theorem ZEp {N : Nat} (hC : Ok Tryz.prog C) (hΦ : Zaa Tryz.prog C (Zss N)) : ZaT Tryz.prog C (Zvh N) ZDq [] :=
 ZaB ZDq [] (by
  rw [ZMi]
  intro p hp
  simp only [List.mem_cons, List.mem_nil_iff, or_false] at hp
  rcases hp with rfl
  ·exact (ZI6 hC hΦ))
theorem Zz0 (hC : Ok Tryz.prog C) {N : Nat} (hΦ : Zaa Tryz.prog C (Zss N)) : Zaa Tryz.prog C (Zup N) := by
 refine hΦ.add_pure rfl fun R vs K r h => ?_
 unfold ZNk at h
 obtain ⟨_, rfl, h1⟩ := Zaq h
 obtain ⟨_, rfl, h2⟩ := Zao h1
 obtain ⟨_, h3⟩ := Zae h2
 refine Zak (fn := Tryz.f142) (c := ZDq) hC hΦ Tryz.func142 (by kernel_rfl) (by kernel_rfl) (ZEp (N := N) hC hΦ) rfl rfl ?_
 refine (ZQE N _ _).trans ?_
 rw [← Zwa]
 exact h3
def ZN7 (N : Nat) : (R : Type) → List V → S → (V → S → Option R) → Option R := fun _ vs s K =>
 Zcf vs fun v'1 v'2 => ZaQ v'1 fun e_1 f_2 x_3 => ZaV 2 v'2 fun e_4 f_5 => ZaF s <| ZGB N e_1 f_2 x_3 e_4 f_5 (fun b_6 => K (.bool b_6) [])
def ZH6 (N : Nat) : Zar := (Zup N).add 167 (ZN7 N)
def ZBr : Code := ZaE Tryz.f167
def ZtT : Code := (Zbj ZBr [] 0).2
def Zof : List Nat := ZbO 54 [1, 2, 7, 8, 9]
def ZvJ : List Nat := ZbO 54 [4]
def ZjO (e_1 : List V) (f_2 : Fl) (e_3 : List V) (f_4 : Fl) (x_5 : Int) (e_7 : List V) (f_8 : Fl) (x_9 x_6 : Int) : List V := mkF 0 54 [(1, .list 2 e_1 f_2), (2, .ptr 0 0 0 0), (7, .list 2 e_3 f_4), (8, .int .i64 x_5), (9, .int .i64 x_6)]
def ZgY {R : Type} (K : X → List V → S → Option R) (e_1 : List V) (f_2 : Fl) (e_3 : List V) (f_4 : Fl) (x_5 : Int) (e_7 : List V) (f_8 : Fl) (x_9 : Int) : Unit → Option R := (fun _ => K .ret (mkF 0 54 [(4, .bool false)]) [some ⟨[.agg [.list 7 e_7 f_8, .int .i64 x_9]], 2, 34, 0⟩])
def ZhG {R : Type} (K : X → List V → S → Option R) (e_1 : List V) (f_2 : Fl) (e_3 : List V) (f_4 : Fl) (x_5 : Int) (e_7 : List V) (f_8 : Fl) (x_9 : Int) : Unit → Option R := (fun _ => K (.exit 0) (mkF 0 54 []) [some ⟨[.agg [.list 7 e_7 f_8, .int .i64 x_9]], 2, 34, 0⟩])
abbrev Zm0 {R : Type} (N : Nat) : Nat → List V → S → (X → List V → S → Option R) → Option R := fun n => ZcO C (Zup N) (Zac) ZtT [0, 1, 0, 1] true Zof ZvJ n R
theorem ZKY {R : Type} (N n : Nat) (e_1 : List V) (f_2 : Fl) (e_3 : List V) (f_4 : Fl) (x_5 : Int) (e_7 : List V) (f_8 : Fl) (x_9 : Int) (x_6 : Int) (K : X → List V → S → Option R) :
 Zm0 N (n + 1) (ZjO e_1 f_2 e_3 f_4 x_5 e_7 f_8 x_9 x_6) [some ⟨[.agg [.list 7 e_7 f_8, .int .i64 x_9]], 2, 34, 0⟩] K =
 Zdm N e_1 f_2 e_3 f_4 x_5 e_7 f_8 x_9 (fun x_6 => Zm0 N n (ZjO e_1 f_2 e_3 f_4 x_5 e_7 f_8 x_9 x_6) [some ⟨[.agg [.list 7 e_7 f_8, .int .i64 x_9]], 2, 34, 0⟩] K) x_6 (ZgY K e_1 f_2 e_3 f_4 x_5 e_7 f_8 x_9) (ZhG K e_1 f_2 e_3 f_4 x_5 e_7 f_8 x_9) := by kernel_rfl
theorem ZDF {R : Type} (N : Nat) (e_1 : List V) (f_2 : Fl) (e_3 : List V) (f_4 : Fl) (x_5 : Int) (e_7 : List V) (f_8 : Fl) (x_9 : Int) (K : X → List V → S → Option R) : ∀ (n : Nat) (x_6 : Int),
 Zm0 N n (ZjO e_1 f_2 e_3 f_4 x_5 e_7 f_8 x_9 x_6) [some ⟨[.agg [.list 7 e_7 f_8, .int .i64 x_9]], 2, 34, 0⟩] K = ZgG N e_1 f_2 e_3 f_4 x_5 e_7 f_8 x_9 (ZgY K e_1 f_2 e_3 f_4 x_5 e_7 f_8 x_9) (ZhG K e_1 f_2 e_3 f_4 x_5 e_7 f_8 x_9) n x_6
 | 0, _ => rfl
 | n + 1, x_6 => (ZKY N n e_1 f_2 e_3 f_4 x_5 e_7 f_8 x_9 x_6 K).trans (congrArg (fun nx => Zdm N e_1 f_2 e_3 f_4 x_5 e_7 f_8 x_9 nx x_6 (ZgY K e_1 f_2 e_3 f_4 x_5 e_7 f_8 x_9) (ZhG K e_1 f_2 e_3 f_4 x_5 e_7 f_8 x_9)) (funext fun x_6 => ZDF N e_1 f_2 e_3 f_4 x_5 e_7 f_8 x_9 K n x_6))
def ZsK {R : Type} (E : List V) (s : S) (k : List V → Fl → List V → Fl → Int → Int → List V → Fl → Int → Option R) : Option R :=
 Zan (ZaZ 54 [1, 2, 7, 8, 9] E) <| Zbz E 1 2 fun e_1 f_2 => ZpH E 2 (.ptr 0 0 0 0) <| Zbz E 7 2 fun e_3 f_4 => ZaR E 8 .i64 fun x_5 => ZaR E 9 .i64 fun x_6 => Zd4 s fun o'1 s'2 => ZdP o'1 2 34 fun e'3 k'4 => isN k'4 0 <| Zcb e'3 fun v'5 => asAgg v'5 fun c'6 => Zcf c'6 fun v'7 v'8 => ZaV 7 v'7 fun e_7 f_8 => asInt .i64 v'8 fun x_9 => ZaF s'2 <| k e_1 f_2 e_3 f_4 x_5 x_6 e_7 f_8 x_9
theorem Zpj {R : Type} {E : List V} {s : S} {k : List V → Fl → List V → Fl → Int → Int → List V → Fl → Int → Option R} {r : R} (h : ZsK E s k = some r) : ∃ e_1 f_2 e_3 f_4 x_5 x_6 e_7 f_8 x_9, E = ZjO e_1 f_2 e_3 f_4 x_5 e_7 f_8 x_9 x_6 ∧ s = [some ⟨[.agg [.list 7 e_7 f_8, .int .i64 x_9]], 2, 34, 0⟩] ∧ k e_1 f_2 e_3 f_4 x_5 x_6 e_7 f_8 x_9 = some r := by
 unfold ZsK at h
 obtain ⟨hg, h1⟩ := Zad h
 obtain ⟨_, _, hu1, h2⟩ := ZaA h1
 obtain ⟨hu2, h3⟩ := ZbR h2
 obtain ⟨_, _, hu7, h4⟩ := ZaA h3
 obtain ⟨_, hu8, h5⟩ := Zai h4
 obtain ⟨_, hu9, h6⟩ := Zai h5
 obtain ⟨_, _, rfl, h7⟩ := ZaN h6
 obtain ⟨_, _, rfl, h8⟩ := ZaK h7
 obtain ⟨rfl, h9⟩ := Zas h8
 obtain ⟨_, rfl, h10⟩ := Zaq h9
 obtain ⟨_, rfl, h11⟩ := ZaD h10
 obtain ⟨_, _, rfl, h12⟩ := Zat h11
 obtain ⟨_, _, rfl, h13⟩ := Zal h12
 obtain ⟨_, rfl, h14⟩ := Zaf h13
 obtain ⟨rfl, h15⟩ := Zae h14
 exact ⟨_, _, _, _, _, _, _, _, _, ZaP hg rfl (Zab hu1 (Zab hu2 (Zab hu7 (Zab hu8 (Zab hu9 ZaG))))), rfl, h15⟩
def Zr8 (N : Nat) : Zaw := (Zac).add [0, 1, 0, 1] fun _ E s K => ZsK (Zbc Zof E) s fun e_1 f_2 e_3 f_4 x_5 x_6 e_7 f_8 x_9 => ZgG N e_1 f_2 e_3 f_4 x_5 e_7 f_8 x_9 (ZgY K e_1 f_2 e_3 f_4 x_5 e_7 f_8 x_9) (ZhG K e_1 f_2 e_3 f_4 x_5 e_7 f_8 x_9) N x_6
theorem ZHR {N : Nat} (hC : Ok Tryz.prog C) (hΦ : Zaa Tryz.prog C (Zup N)) : Za1 Tryz.prog C (Zr8 N) ZtT [0, 1, 0, 1] :=
 Za2 (Λi := Zac) (tr := true) (ks := Zof) (kx := ZvJ) (N := N) hC hΦ
  (Zah (by kernel_rfl))
  fun R E s K r h => by
   have h2 := Zaw.add_self.symm.trans h
   obtain ⟨_, _, _, _, _, _, _, _, _, he, rfl, h3⟩ := Zpj h2
   rw [he]
   exact (ZDF N _ _ _ _ _ _ _ _ _ N _).trans h3
theorem ZLS : ZaY ZBr [] = [([0, 1, 0, 1], ZtT)] := by kernel_rfl
theorem ZQp {R : Type} (N : Nat) (e_1 : List V) (f_2 : Fl) (x_3 : Int) (e_4 : List V) (f_5 : Fl) (K : V → S → Option R) : ZaU C (Zup N) (Zr8 N) 167 Tryz.f167 [.agg [.list 7 e_1 f_2, .int .i64 x_3], .list 2 e_4 f_5] [] K =
 ZrL N e_1 f_2 x_3 e_4 f_5 (fun b_6 => K (.bool b_6) []) := by kernel_rfl
theorem ZD0 {N : Nat} (hC : Ok Tryz.prog C) (hΦ : Zaa Tryz.prog C (Zup N)) : ZaT Tryz.prog C (Zr8 N) ZBr [] :=
 ZaB ZBr [] (by
  rw [ZLS]
  intro p hp
  simp only [List.mem_cons, List.mem_nil_iff, or_false] at hp
  rcases hp with rfl
  ·exact (ZHR hC hΦ))
theorem ZzJ (hC : Ok Tryz.prog C) {N : Nat} (hΦ : Zaa Tryz.prog C (Zup N)) : Zaa Tryz.prog C (ZH6 N) := by
 refine hΦ.add_pure rfl fun R vs K r h => ?_
 unfold ZN7 at h
 obtain ⟨_, _, rfl, h1⟩ := Zat h
 obtain ⟨_, _, _, rfl, h2⟩ := Zav h1
 obtain ⟨_, _, rfl, h3⟩ := Zal h2
 obtain ⟨_, h4⟩ := Zae h3
 refine Zak (fn := Tryz.f167) (c := ZBr) hC hΦ Tryz.func167 (by kernel_rfl) (by kernel_rfl) (ZD0 (N := N) hC hΦ) rfl rfl ?_
 refine (ZQp N _ _ _ _ _ _).trans ?_
 rw [← ZwQ]
 exact h4
def ZNb (N : Nat) : (R : Type) → List V → S → (V → S → Option R) → Option R := fun _ vs s K =>
 Zcf vs fun v'1 v'2 => ZaQ v'1 fun e_1 f_2 x_3 => Zax v'2 fun x_4 x_5 x_6 x_7 x_8 w_9 e_10 f_11 => ZaF s <| ZGk N e_1 f_2 x_3 x_4 x_5 x_6 x_7 x_8 w_9 e_10 f_11 (fun b_12 => K (.bool b_12) [])
def ZtX (N : Nat) : Zar := (ZH6 N).add 139 (ZNb N)
def ZPq : Code := ZaE Tryz.f139
theorem ZPx {R : Type} (N : Nat) (e_1 : List V) (f_2 : Fl) (x_3 x_4 x_5 x_6 x_7 x_8 : Int) (w_9 : ByteArray) (e_10 : List V) (f_11 : Fl) (K : V → S → Option R) : ZaU C (ZH6 N) (Zac) 139 Tryz.f139 [.agg [.list 7 e_1 f_2, .int .i64 x_3], .agg [.int .i64 x_4, .int .i64 x_5, .int .i64 x_6, .int .i64 x_7, .int .i64 x_8, .str w_9, .list 2 e_10 f_11]] [] K =
 ZqX N e_1 f_2 x_3 x_4 x_5 x_6 x_7 x_8 w_9 e_10 f_11 (fun b_12 => K (.bool b_12) []) := by kernel_rfl
theorem Zzm (hC : Ok Tryz.prog C) {N : Nat} (hΦ : Zaa Tryz.prog C (ZH6 N)) : Zaa Tryz.prog C (ZtX N) := by
 refine hΦ.add_pure rfl fun R vs K r h => ?_
 unfold ZNb at h
 obtain ⟨_, _, rfl, h1⟩ := Zat h
 obtain ⟨_, _, _, rfl, h2⟩ := Zav h1
 obtain ⟨_, _, _, _, _, _, _, _, rfl, h3⟩ := Zb2 h2
 obtain ⟨_, h4⟩ := Zae h3
 refine Zak (fn := Tryz.f139) (c := ZPq) hC hΦ Tryz.func139 (by kernel_rfl) (by kernel_rfl) (Zah (Λ := Zac) (by kernel_rfl)) rfl rfl ?_
 refine (ZPx N _ _ _ _ _ _ _ _ _ _ _ _).trans ?_
 rw [← Zyq]
 exact h4
def ZN8 (N : Nat) : (R : Type) → List V → S → (V → S → Option R) → Option R := fun _ vs s K =>
 Zcf vs fun v'1 v'2 => ZaV 1 v'1 fun e_1 f_2 => asInt .i64 v'2 fun x_3 => ZaF s <| ZGy N e_1 f_2 x_3 (fun e_4 => K (.list 1 e_4 .sh) [])
def ZIM (N : Nat) : Zar := (ZtX N).add 91 (ZN8 N)
def ZEm : Code := ZaE Tryz.f91
def ZsN : Code := (Zbj ZEm [] 0).2
def Znn : List Nat := ZbO 48 [0, 1, 5]
def ZyA : List Nat := ZbO 48 [0, 1, 5]
def Zkl (e_1 : List V) (f_2 : Fl) (x_3 x_4 : Int) : List V := mkF 0 48 [(0, .list 1 e_1 f_2), (1, .int .i64 x_3), (5, .int .i64 x_4)]
def Zhp {R : Type} (K : X → List V → S → Option R) (e_1 : List V) (f_2 : Fl) (x_3 : Int) : Int → Option R := (fun x_1' => K (.exit 0) (mkF 0 48 [(0, .list 1 e_1 f_2), (1, .int .i64 x_3), (5, .int .i64 (x_1'))]) [])
abbrev ZmU {R : Type} (N : Nat) : Nat → List V → S → (X → List V → S → Option R) → Option R := fun n => ZcO C (ZtX N) (Zac) ZsN [0, 0, 1, 1] false Znn ZyA n R
theorem ZJ9 {R : Type} (N n : Nat) (e_1 : List V) (f_2 : Fl) (x_3 : Int) (x_4 : Int) (K : X → List V → S → Option R) :
 ZmU N (n + 1) (Zkl e_1 f_2 x_3 x_4) [] K =
 Zc4 N e_1 f_2 x_3 (fun x_4 => ZmU N n (Zkl e_1 f_2 x_3 x_4) [] K) x_4 (Zhp K e_1 f_2 x_3) := by kernel_rfl
theorem ZDi {R : Type} (N : Nat) (e_1 : List V) (f_2 : Fl) (x_3 : Int) (K : X → List V → S → Option R) : ∀ (n : Nat) (x_4 : Int),
 ZmU N n (Zkl e_1 f_2 x_3 x_4) [] K = Zgy N e_1 f_2 x_3 (Zhp K e_1 f_2 x_3) n x_4
 | 0, _ => rfl
 | n + 1, x_4 => (ZJ9 N n e_1 f_2 x_3 x_4 K).trans (congrArg (fun nx => Zc4 N e_1 f_2 x_3 nx x_4 (Zhp K e_1 f_2 x_3)) (funext fun x_4 => ZDi N e_1 f_2 x_3 K n x_4))
def Zsu {R : Type} (E : List V) (s : S) (k : List V → Fl → Int → Int → Option R) : Option R :=
 Zan (ZaZ 48 [0, 1, 5] E) <| Zbz E 0 1 fun e_1 f_2 => ZaR E 1 .i64 fun x_3 => ZaR E 5 .i64 fun x_4 => ZaF s <| k e_1 f_2 x_3 x_4
theorem ZpI {R : Type} {E : List V} {s : S} {k : List V → Fl → Int → Int → Option R} {r : R} (h : Zsu E s k = some r) : ∃ e_1 f_2 x_3 x_4, E = Zkl e_1 f_2 x_3 x_4 ∧ s = [] ∧ k e_1 f_2 x_3 x_4 = some r := by
 unfold Zsu at h
 obtain ⟨hg, h1⟩ := Zad h
 obtain ⟨_, _, hu0, h2⟩ := ZaA h1
 obtain ⟨_, hu1, h3⟩ := Zai h2
 obtain ⟨_, hu5, h4⟩ := Zai h3
 obtain ⟨rfl, h5⟩ := Zae h4
 exact ⟨_, _, _, _, ZaP hg rfl (Zab hu0 (Zab hu1 (Zab hu5 ZaG))), rfl, h5⟩
def Zt3 (N : Nat) : Zaw := (Zac).add [0, 0, 1, 1] fun _ E s K => Zsu (Zbc Znn E) s fun e_1 f_2 x_3 x_4 => Zgy N e_1 f_2 x_3 (Zhp K e_1 f_2 x_3) N x_4
theorem ZIP {N : Nat} (hC : Ok Tryz.prog C) (hΦ : Zaa Tryz.prog C (ZtX N)) : Za1 Tryz.prog C (Zt3 N) ZsN [0, 0, 1, 1] :=
 Za2 (Λi := Zac) (tr := false) (ks := Znn) (kx := ZyA) (N := N) hC hΦ
  (Zah (by kernel_rfl))
  fun R E s K r h => by
   have h2 := Zaw.add_self.symm.trans h
   obtain ⟨_, _, _, _, he, rfl, h3⟩ := ZpI h2
   rw [he]
   exact (ZDi N _ _ _ _ N _).trans h3
theorem ZMg : ZaY ZEm [] = [([0, 0, 1, 1], ZsN)] := by kernel_rfl
theorem ZO8 {R : Type} (N : Nat) (e_1 : List V) (f_2 : Fl) (x_3 : Int) (K : V → S → Option R) : ZaU C (ZtX N) (Zt3 N) 91 Tryz.f91 [.list 1 e_1 f_2, .int .i64 x_3] [] K =
 Zqj N e_1 f_2 x_3 (fun e_4 => K (.list 1 e_4 .sh) []) := by kernel_rfl
theorem ZCl {N : Nat} (hC : Ok Tryz.prog C) (hΦ : Zaa Tryz.prog C (ZtX N)) : ZaT Tryz.prog C (Zt3 N) ZEm [] :=
 ZaB ZEm [] (by
  rw [ZMg]
  intro p hp
  simp only [List.mem_cons, List.mem_nil_iff, or_false] at hp
  rcases hp with rfl
  ·exact (ZIP hC hΦ))
theorem ZzM (hC : Ok Tryz.prog C) {N : Nat} (hΦ : Zaa Tryz.prog C (ZtX N)) : Zaa Tryz.prog C (ZIM N) := by
 refine hΦ.add_pure rfl fun R vs K r h => ?_
 unfold ZN8 at h
 obtain ⟨_, _, rfl, h1⟩ := Zat h
 obtain ⟨_, _, rfl, h2⟩ := Zal h1
 obtain ⟨_, rfl, h3⟩ := Zaf h2
 obtain ⟨_, h4⟩ := Zae h3
 refine Zak (fn := Tryz.f91) (c := ZEm) hC hΦ Tryz.func91 (by kernel_rfl) (by kernel_rfl) (ZCl (N := N) hC hΦ) rfl rfl ?_
 refine (ZO8 N _ _ _ _).trans ?_
 rw [← ZxE]
 exact h4
def ZKv (N M : Nat) : (R : Type) → List V → S → (V → S → Option R) → Option R := fun _ vs s K =>
 ZBm vs fun v'1 v'2 v'3 => ZaQ v'1 fun e_1 f_2 x_3 => asInt .i64 v'2 fun x_4 => ZaV 1 v'3 fun e_5 f_6 => ZaF s <| ZgM N M _ e_1 f_2 x_3 x_4 e_5 f_6 (fun e_7 => K (.list 1 e_7 .sh) [])
def ZhO (N M : Nat) : Zar := (ZIM N).add 140 (ZKv N M)
def ZB8 : Code := ZaE Tryz.f140
def ZtG : Code := (Zbj ZB8 [] 0).2
def Zm8 : List Nat := ZbO 34 [2, 3, 21, 22, 23]
def ZvK : List Nat := ZbO 34 [2]
def ZjQ (e_2 : List V) (f_3 : Fl) (x_4 : Int) (e_6 : List V) (f_7 : Fl) (x_8 : Int) (e_1 : List V) (x_5 : Int) : List V := mkF 0 34 [(2, .list 1 e_1 .sh), (3, .ptr 0 0 0 0), (21, .list 2 e_2 f_3), (22, .int .i64 x_4), (23, .int .i64 x_5)]
def Zhb {R : Type} (K : X → List V → S → Option R) (e_2 : List V) (f_3 : Fl) (x_4 : Int) (e_6 : List V) (f_7 : Fl) (x_8 : Int) : List V → Option R := (fun e_1' => K (.exit 0) (mkF 0 34 [(2, .list 1 (e_1') .sh)]) [some ⟨[.agg [.list 7 e_6 f_7, .int .i64 x_8]], 2, 34, 0⟩])
abbrev Zma {R : Type} (N M : Nat) : Nat → List V → S → (X → List V → S → Option R) → Option R := fun n => ZcO C (ZhO N M) (Zac) ZtG [0, 1, 0, 1, 1, 1] true Zm8 ZvK n R
theorem ZJs {R : Type} (N M n : Nat) (e_2 : List V) (f_3 : Fl) (x_4 : Int) (e_6 : List V) (f_7 : Fl) (x_8 : Int) (e_1 : List V) (x_5 : Int) (K : X → List V → S → Option R) :
 Zma N M (n + 1) (ZjQ e_2 f_3 x_4 e_6 f_7 x_8 e_1 x_5) [some ⟨[.agg [.list 7 e_6 f_7, .int .i64 x_8]], 2, 34, 0⟩] K =
 Zdp N (ZgM N M) e_2 f_3 x_4 e_6 f_7 x_8 (fun e_1 x_5 => Zma N M n (ZjQ e_2 f_3 x_4 e_6 f_7 x_8 e_1 x_5) [some ⟨[.agg [.list 7 e_6 f_7, .int .i64 x_8]], 2, 34, 0⟩] K) e_1 x_5 (Zhb K e_2 f_3 x_4 e_6 f_7 x_8) := by kernel_rfl
theorem ZDj {R : Type} (N M : Nat) (e_2 : List V) (f_3 : Fl) (x_4 : Int) (e_6 : List V) (f_7 : Fl) (x_8 : Int) (K : X → List V → S → Option R) : ∀ (n : Nat) (e_1 : List V) (x_5 : Int),
 Zma N M n (ZjQ e_2 f_3 x_4 e_6 f_7 x_8 e_1 x_5) [some ⟨[.agg [.list 7 e_6 f_7, .int .i64 x_8]], 2, 34, 0⟩] K = Zgz N (ZgM N M) e_2 f_3 x_4 e_6 f_7 x_8 (Zhb K e_2 f_3 x_4 e_6 f_7 x_8) n e_1 x_5
 | 0, _, _ => rfl
 | n + 1, e_1, x_5 => (ZJs N M n e_2 f_3 x_4 e_6 f_7 x_8 e_1 x_5 K).trans (congrArg (fun nx => Zdp N (ZgM N M) e_2 f_3 x_4 e_6 f_7 x_8 nx e_1 x_5 (Zhb K e_2 f_3 x_4 e_6 f_7 x_8)) (funext fun e_1 => funext fun x_5 => ZDj N M e_2 f_3 x_4 e_6 f_7 x_8 K n e_1 x_5))
def Zvl {R : Type} (E : List V) (s : S) (k : List V → List V → Fl → Int → Int → List V → Fl → Int → Option R) : Option R :=
 Zan (ZaZ 34 [2, 3, 21, 22, 23] E) <| Zbu (nth E 2) fun u2 => ZaV 1 u2 fun e_1 f'1 => ZKA f'1 <| ZpH E 3 (.ptr 0 0 0 0) <| Zbz E 21 2 fun e_2 f_3 => ZaR E 22 .i64 fun x_4 => ZaR E 23 .i64 fun x_5 => Zd4 s fun o'2 s'3 => ZdP o'2 2 34 fun e'4 k'5 => isN k'5 0 <| Zcb e'4 fun v'6 => asAgg v'6 fun c'7 => Zcf c'7 fun v'8 v'9 => ZaV 7 v'8 fun e_6 f_7 => asInt .i64 v'9 fun x_8 => ZaF s'3 <| k e_1 e_2 f_3 x_4 x_5 e_6 f_7 x_8
theorem ZoW {R : Type} {E : List V} {s : S} {k : List V → List V → Fl → Int → Int → List V → Fl → Int → Option R} {r : R} (h : Zvl E s k = some r) : ∃ e_1 e_2 f_3 x_4 x_5 e_6 f_7 x_8, E = ZjQ e_2 f_3 x_4 e_6 f_7 x_8 e_1 x_5 ∧ s = [some ⟨[.agg [.list 7 e_6 f_7, .int .i64 x_8]], 2, 34, 0⟩] ∧ k e_1 e_2 f_3 x_4 x_5 e_6 f_7 x_8 = some r := by
 unfold Zvl at h
 obtain ⟨hg, h1⟩ := Zad h
 obtain ⟨_, hu2, h2⟩ := Zag h1
 obtain ⟨_, _, rfl, h3⟩ := Zal h2
 obtain ⟨rfl, h4⟩ := Ze5 h3
 obtain ⟨hu3, h5⟩ := ZbR h4
 obtain ⟨_, _, hu21, h6⟩ := ZaA h5
 obtain ⟨_, hu22, h7⟩ := Zai h6
 obtain ⟨_, hu23, h8⟩ := Zai h7
 obtain ⟨_, _, rfl, h9⟩ := ZaN h8
 obtain ⟨_, _, rfl, h10⟩ := ZaK h9
 obtain ⟨rfl, h11⟩ := Zas h10
 obtain ⟨_, rfl, h12⟩ := Zaq h11
 obtain ⟨_, rfl, h13⟩ := ZaD h12
 obtain ⟨_, _, rfl, h14⟩ := Zat h13
 obtain ⟨_, _, rfl, h15⟩ := Zal h14
 obtain ⟨_, rfl, h16⟩ := Zaf h15
 obtain ⟨rfl, h17⟩ := Zae h16
 exact ⟨_, _, _, _, _, _, _, _, ZaP hg rfl (Zab hu2 (Zab hu3 (Zab hu21 (Zab hu22 (Zab hu23 ZaG))))), rfl, h17⟩
def Zt5 (N M : Nat) : Zaw := (Zac).add [0, 1, 0, 1, 1, 1] fun _ E s K => Zvl (Zbc Zm8 E) s fun e_1 e_2 f_3 x_4 x_5 e_6 f_7 x_8 => Zgz N (ZgM N M) e_2 f_3 x_4 e_6 f_7 x_8 (Zhb K e_2 f_3 x_4 e_6 f_7 x_8) N e_1 x_5
theorem ZGf {N M : Nat} (hC : Ok Tryz.prog C) (hΦ : Zaa Tryz.prog C (ZhO N M)) : Za1 Tryz.prog C (Zt5 N M) ZtG [0, 1, 0, 1, 1, 1] :=
 Za2 (Λi := Zac) (tr := true) (ks := Zm8) (kx := ZvK) (N := N) hC hΦ
  (Zah (by kernel_rfl))
  fun R E s K r h => by
   have h2 := Zaw.add_self.symm.trans h
   obtain ⟨_, _, _, _, _, _, _, _, he, rfl, h3⟩ := ZoW h2
   rw [he]
   exact (ZDj N M _ _ _ _ _ _ _ N _ _).trans h3
theorem ZMJ : ZaY ZB8 [] = [([0, 1, 0, 1, 1, 1], ZtG)] := by kernel_rfl
theorem ZQR {R : Type} (N M : Nat) (e_1 : List V) (f_2 : Fl) (x_3 x_4 : Int) (e_5 : List V) (f_6 : Fl) (K : V → S → Option R) : ZaU C (ZhO N M) (Zt5 N M) 140 Tryz.f140 [.agg [.list 7 e_1 f_2, .int .i64 x_3], .int .i64 x_4, .list 1 e_5 f_6] [] K =
 Zxs N (ZgM N M) e_1 f_2 x_3 x_4 e_5 f_6 (fun e_7 => K (.list 1 e_7 .sh) []) := by kernel_rfl
theorem ZBC {N M : Nat} (hC : Ok Tryz.prog C) (hΦ : Zaa Tryz.prog C (ZhO N M)) : ZaT Tryz.prog C (Zt5 N M) ZB8 [] :=
 ZaB ZB8 [] (by
  rw [ZMJ]
  intro p hp
  simp only [List.mem_cons, List.mem_nil_iff, or_false] at hp
  rcases hp with rfl
  ·exact (ZGf hC hΦ))
theorem ZoE (hC : Ok Tryz.prog C) {N : Nat} (hΦ : Zaa Tryz.prog C (ZIM N)) : ∀ M, Zaa Tryz.prog C (ZhO N M) := by
 intro M
 induction M with
 | zero =>
  refine hΦ.add_pure rfl fun R vs K r h => ?_
  exfalso
  unfold ZKv at h
  obtain ⟨_, _, _, rfl, h1⟩ := Zcn h
  obtain ⟨_, _, _, rfl, h2⟩ := Zav h1
  obtain ⟨_, rfl, h3⟩ := Zaf h2
  obtain ⟨_, _, rfl, h4⟩ := Zal h3
  obtain ⟨_, h5⟩ := Zae h4
  rw [ZyS] at h5
  cases h5
 | succ M ih =>
  refine hΦ.add_pure rfl fun R vs K r h => ?_
  unfold ZKv at h
  obtain ⟨_, _, _, rfl, h1⟩ := Zcn h
  obtain ⟨_, _, _, rfl, h2⟩ := Zav h1
  obtain ⟨_, rfl, h3⟩ := Zaf h2
  obtain ⟨_, _, rfl, h4⟩ := Zal h3
  obtain ⟨_, h5⟩ := Zae h4
  refine Zak (fn := Tryz.f140) (c := ZB8) hC ih Tryz.func140 (by kernel_rfl) (by kernel_rfl) (ZBC (N := N) (M := M) hC ih) rfl rfl ?_
  refine (ZQR N M _ _ _ _ _ _ _).trans ?_
  rw [← Zyy]
  exact h5
theorem ZAF (hC : Ok Tryz.prog C) {N : Nat} (hΦ : Zaa Tryz.prog C (ZIM N)) : Zaa Tryz.prog C (ZhO N N) := ZoE hC hΦ N
def ZLX (N : Nat) : (R : Type) → List V → S → (V → S → Option R) → Option R := fun _ vs s K =>
 Zcf vs fun v'1 v'2 => ZaQ v'1 fun e_1 f_2 x_3 => asInt .i64 v'2 fun x_4 => ZaF s <| ZIj N e_1 f_2 x_3 x_4 (fun x_5 => K (.int .i64 x_5) [])
def ZnS (N : Nat) : Zar := (ZhO N N).add 141 (ZLX N)
def ZDg : Code := ZaE Tryz.f141
def ZiS : Code := (Zbj ZDg [] 0).2
def Ztm : Code := (Zbj ZiS (0 :: [0, 1, 0, 1, 1]) 0).2
def Zmi : List Nat := ZbO 33 [1, 5, 11, 12, 13, 18, 19, 20]
def Zyn : List Nat := ZbO 33 [1, 5, 11, 12, 13]
def Zj0 (x_1 : Int) (e_3 : List V) (f_4 : Fl) (x_5 x_6 : Int) (e_7 : List V) (f_8 : Fl) (x_9 : Int) (e_11 : List V) (f_12 : Fl) (x_13 x_14 x_15 x_16 x_17 x_18 : Int) (w_19 : ByteArray) (e_20 : List V) (f_21 : Fl) (x_2 x_10 : Int) : List V := mkF 0 33 [(1, .int .i64 x_1), (5, .int .i64 x_2), (11, .list 7 e_3 f_4), (12, .int .i64 x_5), (13, .int .i64 x_6), (18, .list 2 e_7 f_8), (19, .int .i64 x_9), (20, .int .i64 x_10)]
def Zg5 {R : Type} (K : X → List V → S → Option R) (x_1 : Int) (e_3 : List V) (f_4 : Fl) (x_5 : Int) (x_6 : Int) (e_7 : List V) (f_8 : Fl) (x_9 : Int) (e_11 : List V) (f_12 : Fl) (x_13 : Int) (x_14 : Int) (x_15 : Int) (x_16 : Int) (x_17 : Int) (x_18 : Int) (w_19 : ByteArray) (e_20 : List V) (f_21 : Fl) : Int → Option R := (fun x_1' => K (.exit 2) (mkF 0 33 [(1, .int .i64 x_1), (5, .int .i64 (x_1')), (11, .list 7 e_3 f_4), (12, .int .i64 x_5), (13, .int .i64 x_6)]) [some ⟨[.agg [.list 7 e_11 f_12, .int .i64 x_13]], 2, 34, 0⟩, some ⟨[.agg [.int .i64 x_14, .int .i64 x_15, .int .i64 x_16, .int .i64 x_17, .int .i64 x_18, .str w_19, .list 2 e_20 f_21]], 7, 87, 0⟩])
abbrev ZlV {R : Type} (N : Nat) : Nat → List V → S → (X → List V → S → Option R) → Option R := fun n => ZcO C (ZhO N N) (Zac) Ztm [0, 1, 1, 0, 0, 1, 1, 0, 0, 1, 0, 1, 1] true Zmi Zyn n R
theorem ZJV {R : Type} (N n : Nat) (x_1 : Int) (e_3 : List V) (f_4 : Fl) (x_5 x_6 : Int) (e_7 : List V) (f_8 : Fl) (x_9 : Int) (e_11 : List V) (f_12 : Fl) (x_13 x_14 x_15 x_16 x_17 x_18 : Int) (w_19 : ByteArray) (e_20 : List V) (f_21 : Fl) (x_2 x_10 : Int) (K : X → List V → S → Option R) :
 ZlV N (n + 1) (Zj0 x_1 e_3 f_4 x_5 x_6 e_7 f_8 x_9 e_11 f_12 x_13 x_14 x_15 x_16 x_17 x_18 w_19 e_20 f_21 x_2 x_10) [some ⟨[.agg [.list 7 e_11 f_12, .int .i64 x_13]], 2, 34, 0⟩, some ⟨[.agg [.int .i64 x_14, .int .i64 x_15, .int .i64 x_16, .int .i64 x_17, .int .i64 x_18, .str w_19, .list 2 e_20 f_21]], 7, 87, 0⟩] K =
 Zc8 N x_1 e_3 f_4 x_5 x_6 e_7 f_8 x_9 e_11 f_12 x_13 x_14 x_15 x_16 x_17 x_18 w_19 e_20 f_21 (fun x_2 x_10 => ZlV N n (Zj0 x_1 e_3 f_4 x_5 x_6 e_7 f_8 x_9 e_11 f_12 x_13 x_14 x_15 x_16 x_17 x_18 w_19 e_20 f_21 x_2 x_10) [some ⟨[.agg [.list 7 e_11 f_12, .int .i64 x_13]], 2, 34, 0⟩, some ⟨[.agg [.int .i64 x_14, .int .i64 x_15, .int .i64 x_16, .int .i64 x_17, .int .i64 x_18, .str w_19, .list 2 e_20 f_21]], 7, 87, 0⟩] K) x_2 x_10 (Zg5 K x_1 e_3 f_4 x_5 x_6 e_7 f_8 x_9 e_11 f_12 x_13 x_14 x_15 x_16 x_17 x_18 w_19 e_20 f_21) := by kernel_rfl
theorem ZC6 {R : Type} (N : Nat) (x_1 : Int) (e_3 : List V) (f_4 : Fl) (x_5 x_6 : Int) (e_7 : List V) (f_8 : Fl) (x_9 : Int) (e_11 : List V) (f_12 : Fl) (x_13 x_14 x_15 x_16 x_17 x_18 : Int) (w_19 : ByteArray) (e_20 : List V) (f_21 : Fl) (K : X → List V → S → Option R) : ∀ (n : Nat) (x_2 x_10 : Int),
 ZlV N n (Zj0 x_1 e_3 f_4 x_5 x_6 e_7 f_8 x_9 e_11 f_12 x_13 x_14 x_15 x_16 x_17 x_18 w_19 e_20 f_21 x_2 x_10) [some ⟨[.agg [.list 7 e_11 f_12, .int .i64 x_13]], 2, 34, 0⟩, some ⟨[.agg [.int .i64 x_14, .int .i64 x_15, .int .i64 x_16, .int .i64 x_17, .int .i64 x_18, .str w_19, .list 2 e_20 f_21]], 7, 87, 0⟩] K = Zfc N x_1 e_3 f_4 x_5 x_6 e_7 f_8 x_9 e_11 f_12 x_13 x_14 x_15 x_16 x_17 x_18 w_19 e_20 f_21 (Zg5 K x_1 e_3 f_4 x_5 x_6 e_7 f_8 x_9 e_11 f_12 x_13 x_14 x_15 x_16 x_17 x_18 w_19 e_20 f_21) n x_2 x_10
 | 0, _, _ => rfl
 | n + 1, x_2, x_10 => (ZJV N n x_1 e_3 f_4 x_5 x_6 e_7 f_8 x_9 e_11 f_12 x_13 x_14 x_15 x_16 x_17 x_18 w_19 e_20 f_21 x_2 x_10 K).trans (congrArg (fun nx => Zc8 N x_1 e_3 f_4 x_5 x_6 e_7 f_8 x_9 e_11 f_12 x_13 x_14 x_15 x_16 x_17 x_18 w_19 e_20 f_21 nx x_2 x_10 (Zg5 K x_1 e_3 f_4 x_5 x_6 e_7 f_8 x_9 e_11 f_12 x_13 x_14 x_15 x_16 x_17 x_18 w_19 e_20 f_21)) (funext fun x_2 => funext fun x_10 => ZC6 N x_1 e_3 f_4 x_5 x_6 e_7 f_8 x_9 e_11 f_12 x_13 x_14 x_15 x_16 x_17 x_18 w_19 e_20 f_21 K n x_2 x_10))
def Zs1 {R : Type} (E : List V) (s : S) (k : Int → Int → List V → Fl → Int → Int → List V → Fl → Int → Int → List V → Fl → Int → Int → Int → Int → Int → Int → ByteArray → List V → Fl → Option R) : Option R :=
 Zan (ZaZ 33 [1, 5, 11, 12, 13, 18, 19, 20] E) <| ZaR E 1 .i64 fun x_1 => ZaR E 5 .i64 fun x_2 => Zbz E 11 7 fun e_3 f_4 => ZaR E 12 .i64 fun x_5 => ZaR E 13 .i64 fun x_6 => Zbz E 18 2 fun e_7 f_8 => ZaR E 19 .i64 fun x_9 => ZaR E 20 .i64 fun x_10 => Zd4 s fun o'1 s'2 => ZdP o'1 2 34 fun e'3 k'4 => isN k'4 0 <| Zcb e'3 fun v'5 => asAgg v'5 fun c'6 => Zcf c'6 fun v'7 v'8 => ZaV 7 v'7 fun e_11 f_12 => asInt .i64 v'8 fun x_13 => Zd4 s'2 fun o'9 s'10 => ZdP o'9 7 87 fun e'11 k'12 => isN k'12 0 <| Zcb e'11 fun v'13 => asAgg v'13 fun c'14 => ZJl c'14 fun v'15 v'16 v'17 v'18 v'19 v'20 v'21 => asInt .i64 v'15 fun x_14 => asInt .i64 v'16 fun x_15 => asInt .i64 v'17 fun x_16 => asInt .i64 v'18 fun x_17 => asInt .i64 v'19 fun x_18 => Zbd v'20 fun w_19 => ZaV 2 v'21 fun e_20 f_21 => ZaF s'10 <| k x_1 x_2 e_3 f_4 x_5 x_6 e_7 f_8 x_9 x_10 e_11 f_12 x_13 x_14 x_15 x_16 x_17 x_18 w_19 e_20 f_21
theorem ZqY {R : Type} {E : List V} {s : S} {k : Int → Int → List V → Fl → Int → Int → List V → Fl → Int → Int → List V → Fl → Int → Int → Int → Int → Int → Int → ByteArray → List V → Fl → Option R} {r : R} (h : Zs1 E s k = some r) : ∃ x_1 x_2 e_3 f_4 x_5 x_6 e_7 f_8 x_9 x_10 e_11 f_12 x_13 x_14 x_15 x_16 x_17 x_18 w_19 e_20 f_21, E = Zj0 x_1 e_3 f_4 x_5 x_6 e_7 f_8 x_9 e_11 f_12 x_13 x_14 x_15 x_16 x_17 x_18 w_19 e_20 f_21 x_2 x_10 ∧ s = [some ⟨[.agg [.list 7 e_11 f_12, .int .i64 x_13]], 2, 34, 0⟩, some ⟨[.agg [.int .i64 x_14, .int .i64 x_15, .int .i64 x_16, .int .i64 x_17, .int .i64 x_18, .str w_19, .list 2 e_20 f_21]], 7, 87, 0⟩] ∧ k x_1 x_2 e_3 f_4 x_5 x_6 e_7 f_8 x_9 x_10 e_11 f_12 x_13 x_14 x_15 x_16 x_17 x_18 w_19 e_20 f_21 = some r := by
 unfold Zs1 at h
 obtain ⟨hg, h1⟩ := Zad h
 obtain ⟨_, hu1, h2⟩ := Zai h1
 obtain ⟨_, hu5, h3⟩ := Zai h2
 obtain ⟨_, _, hu11, h4⟩ := ZaA h3
 obtain ⟨_, hu12, h5⟩ := Zai h4
 obtain ⟨_, hu13, h6⟩ := Zai h5
 obtain ⟨_, _, hu18, h7⟩ := ZaA h6
 obtain ⟨_, hu19, h8⟩ := Zai h7
 obtain ⟨_, hu20, h9⟩ := Zai h8
 obtain ⟨_, _, rfl, h10⟩ := ZaN h9
 obtain ⟨_, _, rfl, h11⟩ := ZaK h10
 obtain ⟨rfl, h12⟩ := Zas h11
 obtain ⟨_, rfl, h13⟩ := Zaq h12
 obtain ⟨_, rfl, h14⟩ := ZaD h13
 obtain ⟨_, _, rfl, h15⟩ := Zat h14
 obtain ⟨_, _, rfl, h16⟩ := Zal h15
 obtain ⟨_, rfl, h17⟩ := Zaf h16
 obtain ⟨_, _, rfl, h18⟩ := ZaN h17
 obtain ⟨_, _, rfl, h19⟩ := ZaK h18
 obtain ⟨rfl, h20⟩ := Zas h19
 obtain ⟨_, rfl, h21⟩ := Zaq h20
 obtain ⟨_, rfl, h22⟩ := ZaD h21
 obtain ⟨_, _, _, _, _, _, _, rfl, h23⟩ := Zet h22
 obtain ⟨_, rfl, h24⟩ := Zaf h23
 obtain ⟨_, rfl, h25⟩ := Zaf h24
 obtain ⟨_, rfl, h26⟩ := Zaf h25
 obtain ⟨_, rfl, h27⟩ := Zaf h26
 obtain ⟨_, rfl, h28⟩ := Zaf h27
 obtain ⟨_, rfl, h29⟩ := Zao h28
 obtain ⟨_, _, rfl, h30⟩ := Zal h29
 obtain ⟨rfl, h31⟩ := Zae h30
 exact ⟨_, _, _, _, _, _, _, _, _, _, _, _, _, _, _, _, _, _, _, _, _, ZaP hg rfl (Zab hu1 (Zab hu5 (Zab hu11 (Zab hu12 (Zab hu13 (Zab hu18 (Zab hu19 (Zab hu20 ZaG)))))))), rfl, h31⟩
def Znd (N : Nat) : Zaw := (Zac).add [0, 1, 1, 0, 0, 1, 1, 0, 0, 1, 0, 1, 1] fun _ E s K => Zs1 (Zbc Zmi E) s fun x_1 x_2 e_3 f_4 x_5 x_6 e_7 f_8 x_9 x_10 e_11 f_12 x_13 x_14 x_15 x_16 x_17 x_18 w_19 e_20 f_21 => Zfc N x_1 e_3 f_4 x_5 x_6 e_7 f_8 x_9 e_11 f_12 x_13 x_14 x_15 x_16 x_17 x_18 w_19 e_20 f_21 (Zg5 K x_1 e_3 f_4 x_5 x_6 e_7 f_8 x_9 e_11 f_12 x_13 x_14 x_15 x_16 x_17 x_18 w_19 e_20 f_21) N x_2 x_10
theorem ZF4 {N : Nat} (hC : Ok Tryz.prog C) (hΦ : Zaa Tryz.prog C (ZhO N N)) : Za1 Tryz.prog C (Znd N) Ztm [0, 1, 1, 0, 0, 1, 1, 0, 0, 1, 0, 1, 1] :=
 Za2 (Λi := Zac) (tr := true) (ks := Zmi) (kx := Zyn) (N := N) hC hΦ
  (Zah (by kernel_rfl))
  fun R E s K r h => by
   have h2 := Zaw.add_self.symm.trans h
   obtain ⟨_, _, _, _, _, _, _, _, _, _, _, _, _, _, _, _, _, _, _, _, _, he, rfl, h3⟩ := ZqY h2
   rw [he]
   exact (ZC6 N _ _ _ _ _ _ _ _ _ _ _ _ _ _ _ _ _ _ _ _ N _ _).trans h3
def Zl7 : List Nat := ZbO 33 [1, 5, 11, 12, 13]
def Zv2 : List Nat := ZbO 33 [5]
def ZjV (x_1 : Int) (e_3 : List V) (f_4 : Fl) (x_5 : Int) (e_7 : List V) (f_8 : Fl) (x_9 x_2 x_6 : Int) : List V := mkF 0 33 [(1, .int .i64 x_1), (5, .int .i64 x_2), (11, .list 7 e_3 f_4), (12, .int .i64 x_5), (13, .int .i64 x_6)]
def Zh7 {R : Type} (K : X → List V → S → Option R) (x_1 : Int) (e_3 : List V) (f_4 : Fl) (x_5 : Int) (e_7 : List V) (f_8 : Fl) (x_9 : Int) : Int → Option R := (fun x_1' => K (.exit 0) (mkF 0 33 [(5, .int .i64 (x_1'))]) [some ⟨[.agg [.list 7 e_7 f_8, .int .i64 x_9]], 2, 34, 0⟩])
abbrev Zms {R : Type} (N : Nat) : Nat → List V → S → (X → List V → S → Option R) → Option R := fun n => ZcO C (ZhO N N) (Znd N) ZiS [0, 1, 0, 1, 1] true Zl7 Zv2 n R
theorem ZLe {R : Type} (N n : Nat) (x_1 : Int) (e_3 : List V) (f_4 : Fl) (x_5 : Int) (e_7 : List V) (f_8 : Fl) (x_9 : Int) (x_2 x_6 : Int) (K : X → List V → S → Option R) :
 Zms N (n + 1) (ZjV x_1 e_3 f_4 x_5 e_7 f_8 x_9 x_2 x_6) [some ⟨[.agg [.list 7 e_7 f_8, .int .i64 x_9]], 2, 34, 0⟩] K =
 ZdI N x_1 e_3 f_4 x_5 e_7 f_8 x_9 (fun x_2 x_6 => Zms N n (ZjV x_1 e_3 f_4 x_5 e_7 f_8 x_9 x_2 x_6) [some ⟨[.agg [.list 7 e_7 f_8, .int .i64 x_9]], 2, 34, 0⟩] K) x_2 x_6 (Zh7 K x_1 e_3 f_4 x_5 e_7 f_8 x_9) := by kernel_rfl
theorem ZD1 {R : Type} (N : Nat) (x_1 : Int) (e_3 : List V) (f_4 : Fl) (x_5 : Int) (e_7 : List V) (f_8 : Fl) (x_9 : Int) (K : X → List V → S → Option R) : ∀ (n : Nat) (x_2 x_6 : Int),
 Zms N n (ZjV x_1 e_3 f_4 x_5 e_7 f_8 x_9 x_2 x_6) [some ⟨[.agg [.list 7 e_7 f_8, .int .i64 x_9]], 2, 34, 0⟩] K = ZgC N x_1 e_3 f_4 x_5 e_7 f_8 x_9 (Zh7 K x_1 e_3 f_4 x_5 e_7 f_8 x_9) n x_2 x_6
 | 0, _, _ => rfl
 | n + 1, x_2, x_6 => (ZLe N n x_1 e_3 f_4 x_5 e_7 f_8 x_9 x_2 x_6 K).trans (congrArg (fun nx => ZdI N x_1 e_3 f_4 x_5 e_7 f_8 x_9 nx x_2 x_6 (Zh7 K x_1 e_3 f_4 x_5 e_7 f_8 x_9)) (funext fun x_2 => funext fun x_6 => ZD1 N x_1 e_3 f_4 x_5 e_7 f_8 x_9 K n x_2 x_6))
def ZsV {R : Type} (E : List V) (s : S) (k : Int → Int → List V → Fl → Int → Int → List V → Fl → Int → Option R) : Option R :=
 Zan (ZaZ 33 [1, 5, 11, 12, 13] E) <| ZaR E 1 .i64 fun x_1 => ZaR E 5 .i64 fun x_2 => Zbz E 11 7 fun e_3 f_4 => ZaR E 12 .i64 fun x_5 => ZaR E 13 .i64 fun x_6 => Zd4 s fun o'1 s'2 => ZdP o'1 2 34 fun e'3 k'4 => isN k'4 0 <| Zcb e'3 fun v'5 => asAgg v'5 fun c'6 => Zcf c'6 fun v'7 v'8 => ZaV 7 v'7 fun e_7 f_8 => asInt .i64 v'8 fun x_9 => ZaF s'2 <| k x_1 x_2 e_3 f_4 x_5 x_6 e_7 f_8 x_9
theorem Zo8 {R : Type} {E : List V} {s : S} {k : Int → Int → List V → Fl → Int → Int → List V → Fl → Int → Option R} {r : R} (h : ZsV E s k = some r) : ∃ x_1 x_2 e_3 f_4 x_5 x_6 e_7 f_8 x_9, E = ZjV x_1 e_3 f_4 x_5 e_7 f_8 x_9 x_2 x_6 ∧ s = [some ⟨[.agg [.list 7 e_7 f_8, .int .i64 x_9]], 2, 34, 0⟩] ∧ k x_1 x_2 e_3 f_4 x_5 x_6 e_7 f_8 x_9 = some r := by
 unfold ZsV at h
 obtain ⟨hg, h1⟩ := Zad h
 obtain ⟨_, hu1, h2⟩ := Zai h1
 obtain ⟨_, hu5, h3⟩ := Zai h2
 obtain ⟨_, _, hu11, h4⟩ := ZaA h3
 obtain ⟨_, hu12, h5⟩ := Zai h4
 obtain ⟨_, hu13, h6⟩ := Zai h5
 obtain ⟨_, _, rfl, h7⟩ := ZaN h6
 obtain ⟨_, _, rfl, h8⟩ := ZaK h7
 obtain ⟨rfl, h9⟩ := Zas h8
 obtain ⟨_, rfl, h10⟩ := Zaq h9
 obtain ⟨_, rfl, h11⟩ := ZaD h10
 obtain ⟨_, _, rfl, h12⟩ := Zat h11
 obtain ⟨_, _, rfl, h13⟩ := Zal h12
 obtain ⟨_, rfl, h14⟩ := Zaf h13
 obtain ⟨rfl, h15⟩ := Zae h14
 exact ⟨_, _, _, _, _, _, _, _, _, ZaP hg rfl (Zab hu1 (Zab hu5 (Zab hu11 (Zab hu12 (Zab hu13 ZaG))))), rfl, h15⟩
def ZsI (N : Nat) : Zaw := (Znd N).add [0, 1, 0, 1, 1] fun _ E s K => ZsV (Zbc Zl7 E) s fun x_1 x_2 e_3 f_4 x_5 x_6 e_7 f_8 x_9 => ZgC N x_1 e_3 f_4 x_5 e_7 f_8 x_9 (Zh7 K x_1 e_3 f_4 x_5 e_7 f_8 x_9) N x_2 x_6
theorem ZHb : ZaY ZiS (0 :: [0, 1, 0, 1, 1]) = [([0, 1, 1, 0, 0, 1, 1, 0, 0, 1, 0, 1, 1], Ztm)] := by kernel_rfl
theorem ZGY {N : Nat} (hC : Ok Tryz.prog C) (hΦ : Zaa Tryz.prog C (ZhO N N)) : Za1 Tryz.prog C (ZsI N) ZiS [0, 1, 0, 1, 1] :=
 Za2 (Λi := Znd N) (tr := true) (ks := Zl7) (kx := Zv2) (N := N) hC hΦ
  (ZaB ZiS _ (by
   rw [ZHb]
   intro p hp
   simp only [List.mem_cons, List.mem_nil_iff, or_false] at hp
   rcases hp with rfl
   ·exact (ZF4 hC hΦ)))
  fun R E s K r h => by
   have h2 := Zaw.add_self.symm.trans h
   obtain ⟨_, _, _, _, _, _, _, _, _, he, rfl, h3⟩ := Zo8 h2
   rw [he]
   exact (ZD1 N _ _ _ _ _ _ _ _ N _ _).trans h3
theorem ZMT : ZaY ZDg [] = [([0, 1, 0, 1, 1], ZiS)] := by kernel_rfl
theorem ZRf {R : Type} (N : Nat) (e_1 : List V) (f_2 : Fl) (x_3 x_4 : Int) (K : V → S → Option R) : ZaU C (ZhO N N) (ZsI N) 141 Tryz.f141 [.agg [.list 7 e_1 f_2, .int .i64 x_3], .int .i64 x_4] [] K =
 Zp5 N e_1 f_2 x_3 x_4 (fun x_5 => K (.int .i64 x_5) []) := by kernel_rfl
theorem ZD6 {N : Nat} (hC : Ok Tryz.prog C) (hΦ : Zaa Tryz.prog C (ZhO N N)) : ZaT Tryz.prog C (ZsI N) ZDg [] :=
 ZaB ZDg [] (by
  rw [ZMT]
  intro p hp
  simp only [List.mem_cons, List.mem_nil_iff, or_false] at hp
  rcases hp with rfl
  ·exact (ZGY hC hΦ))
theorem Zy1 (hC : Ok Tryz.prog C) {N : Nat} (hΦ : Zaa Tryz.prog C (ZhO N N)) : Zaa Tryz.prog C (ZnS N) := by
 refine hΦ.add_pure rfl fun R vs K r h => ?_
 unfold ZLX at h
 obtain ⟨_, _, rfl, h1⟩ := Zat h
 obtain ⟨_, _, _, rfl, h2⟩ := Zav h1
 obtain ⟨_, rfl, h3⟩ := Zaf h2
 obtain ⟨_, h4⟩ := Zae h3
 refine Zak (fn := Tryz.f141) (c := ZDg) hC hΦ Tryz.func141 (by kernel_rfl) (by kernel_rfl) (ZD6 (N := N) hC hΦ) rfl rfl ?_
 refine (ZRf N _ _ _ _ _).trans ?_
 rw [← Zwk]
 exact h4
def ZNu (N : Nat) : (R : Type) → List V → S → (V → S → Option R) → Option R := fun _ vs s K =>
 Zcb vs fun v'1 => ZaQ v'1 fun e_1 f_2 x_3 => ZaF s <| ZHY N e_1 f_2 x_3 (fun b_4 => K (.bool b_4) [])
def ZII (N : Nat) : Zar := (ZnS N).add 85 (ZNu N)
def Zza : Code := ZaE Tryz.f85
def Zso : Code := (Zbj Zza [] 0).2
def ZsG : Code := (Zbj Zza [] 1).2
def ZmX : List Nat := ZbO 91 [1, 36, 37, 38]
def Zwz : List Nat := ZbO 91 [1, 2]
def Zj5 (e_1 : List V) (f_2 : Fl) (x_3 : Int) (e_5 : List V) (f_6 : Fl) (x_7 x_4 : Int) : List V := mkF 0 91 [(1, .ptr 0 0 0 0), (36, .list 7 e_1 f_2), (37, .int .i64 x_3), (38, .int .i64 x_4)]
def ZgW {R : Type} (K : X → List V → S → Option R) (e_1 : List V) (f_2 : Fl) (x_3 : Int) (e_5 : List V) (f_6 : Fl) (x_7 : Int) : Unit → Option R := (fun _ => K .ret (mkF 0 91 [(1, .ptr 0 0 0 0), (2, .bool false)]) [some ⟨[.agg [.list 7 e_5 f_6, .int .i64 x_7]], 2, 34, 0⟩])
def ZhR {R : Type} (K : X → List V → S → Option R) (e_1 : List V) (f_2 : Fl) (x_3 : Int) (e_5 : List V) (f_6 : Fl) (x_7 : Int) : Unit → Option R := (fun _ => K (.exit 0) (mkF 0 91 [(1, .ptr 0 0 0 0)]) [some ⟨[.agg [.list 7 e_5 f_6, .int .i64 x_7]], 2, 34, 0⟩])
abbrev Zny {R : Type} (N : Nat) : Nat → List V → S → (X → List V → S → Option R) → Option R := fun n => ZcO C (ZnS N) (Zac) Zso [0, 1, 0, 1, 1] true ZmX Zwz n R
theorem ZJE {R : Type} (N n : Nat) (e_1 : List V) (f_2 : Fl) (x_3 : Int) (e_5 : List V) (f_6 : Fl) (x_7 : Int) (x_4 : Int) (K : X → List V → S → Option R) :
 Zny N (n + 1) (Zj5 e_1 f_2 x_3 e_5 f_6 x_7 x_4) [some ⟨[.agg [.list 7 e_5 f_6, .int .i64 x_7]], 2, 34, 0⟩] K =
 Zdc N e_1 f_2 x_3 e_5 f_6 x_7 (fun x_4 => Zny N n (Zj5 e_1 f_2 x_3 e_5 f_6 x_7 x_4) [some ⟨[.agg [.list 7 e_5 f_6, .int .i64 x_7]], 2, 34, 0⟩] K) x_4 (ZgW K e_1 f_2 x_3 e_5 f_6 x_7) (ZhR K e_1 f_2 x_3 e_5 f_6 x_7) := by kernel_rfl
theorem ZDh {R : Type} (N : Nat) (e_1 : List V) (f_2 : Fl) (x_3 : Int) (e_5 : List V) (f_6 : Fl) (x_7 : Int) (K : X → List V → S → Option R) : ∀ (n : Nat) (x_4 : Int),
 Zny N n (Zj5 e_1 f_2 x_3 e_5 f_6 x_7 x_4) [some ⟨[.agg [.list 7 e_5 f_6, .int .i64 x_7]], 2, 34, 0⟩] K = ZfZ N e_1 f_2 x_3 e_5 f_6 x_7 (ZgW K e_1 f_2 x_3 e_5 f_6 x_7) (ZhR K e_1 f_2 x_3 e_5 f_6 x_7) n x_4
 | 0, _ => rfl
 | n + 1, x_4 => (ZJE N n e_1 f_2 x_3 e_5 f_6 x_7 x_4 K).trans (congrArg (fun nx => Zdc N e_1 f_2 x_3 e_5 f_6 x_7 nx x_4 (ZgW K e_1 f_2 x_3 e_5 f_6 x_7) (ZhR K e_1 f_2 x_3 e_5 f_6 x_7)) (funext fun x_4 => ZDh N e_1 f_2 x_3 e_5 f_6 x_7 K n x_4))
def ZtE {R : Type} (E : List V) (s : S) (k : List V → Fl → Int → Int → List V → Fl → Int → Option R) : Option R :=
 Zan (ZaZ 91 [1, 36, 37, 38] E) <| ZpH E 1 (.ptr 0 0 0 0) <| Zbz E 36 7 fun e_1 f_2 => ZaR E 37 .i64 fun x_3 => ZaR E 38 .i64 fun x_4 => Zd4 s fun o'1 s'2 => ZdP o'1 2 34 fun e'3 k'4 => isN k'4 0 <| Zcb e'3 fun v'5 => asAgg v'5 fun c'6 => Zcf c'6 fun v'7 v'8 => ZaV 7 v'7 fun e_5 f_6 => asInt .i64 v'8 fun x_7 => ZaF s'2 <| k e_1 f_2 x_3 x_4 e_5 f_6 x_7
theorem Zq5 {R : Type} {E : List V} {s : S} {k : List V → Fl → Int → Int → List V → Fl → Int → Option R} {r : R} (h : ZtE E s k = some r) : ∃ e_1 f_2 x_3 x_4 e_5 f_6 x_7, E = Zj5 e_1 f_2 x_3 e_5 f_6 x_7 x_4 ∧ s = [some ⟨[.agg [.list 7 e_5 f_6, .int .i64 x_7]], 2, 34, 0⟩] ∧ k e_1 f_2 x_3 x_4 e_5 f_6 x_7 = some r := by
 unfold ZtE at h
 obtain ⟨hg, h1⟩ := Zad h
 obtain ⟨hu1, h2⟩ := ZbR h1
 obtain ⟨_, _, hu36, h3⟩ := ZaA h2
 obtain ⟨_, hu37, h4⟩ := Zai h3
 obtain ⟨_, hu38, h5⟩ := Zai h4
 obtain ⟨_, _, rfl, h6⟩ := ZaN h5
 obtain ⟨_, _, rfl, h7⟩ := ZaK h6
 obtain ⟨rfl, h8⟩ := Zas h7
 obtain ⟨_, rfl, h9⟩ := Zaq h8
 obtain ⟨_, rfl, h10⟩ := ZaD h9
 obtain ⟨_, _, rfl, h11⟩ := Zat h10
 obtain ⟨_, _, rfl, h12⟩ := Zal h11
 obtain ⟨_, rfl, h13⟩ := Zaf h12
 obtain ⟨rfl, h14⟩ := Zae h13
 exact ⟨_, _, _, _, _, _, _, ZaP hg rfl (Zab hu1 (Zab hu36 (Zab hu37 (Zab hu38 ZaG)))), rfl, h14⟩
def Zns (N : Nat) : Zaw := (Zac).add [0, 1, 0, 1, 1] fun _ E s K => ZtE (Zbc ZmX E) s fun e_1 f_2 x_3 x_4 e_5 f_6 x_7 => ZfZ N e_1 f_2 x_3 e_5 f_6 x_7 (ZgW K e_1 f_2 x_3 e_5 f_6 x_7) (ZhR K e_1 f_2 x_3 e_5 f_6 x_7) N x_4
theorem ZGz {N : Nat} (hC : Ok Tryz.prog C) (hΦ : Zaa Tryz.prog C (ZnS N)) : Za1 Tryz.prog C (Zns N) Zso [0, 1, 0, 1, 1] :=
 Za2 (Λi := Zac) (tr := true) (ks := ZmX) (kx := Zwz) (N := N) hC hΦ
  (Zah (by kernel_rfl))
  fun R E s K r h => by
   have h2 := Zaw.add_self.symm.trans h
   obtain ⟨_, _, _, _, _, _, _, he, rfl, h3⟩ := Zq5 h2
   rw [he]
   exact (ZDh N _ _ _ _ _ _ _ N _).trans h3
def Zoa : List Nat := ZbO 91 [1, 5, 50, 51, 52]
def Zwq : List Nat := ZbO 91 [2]
def ZjX (e_1 e_2 : List V) (f_3 : Fl) (x_4 : Int) (e_6 : List V) (f_7 : Fl) (x_8 x_5 : Int) : List V := mkF 0 91 [(1, .ptr 0 0 0 0), (5, .list 1 e_1 .sh), (50, .list 7 e_2 f_3), (51, .int .i64 x_4), (52, .int .i64 x_5)]
def ZhW {R : Type} (K : X → List V → S → Option R) (e_1 : List V) (e_2 : List V) (f_3 : Fl) (x_4 : Int) (e_6 : List V) (f_7 : Fl) (x_8 : Int) : Unit → Option R := (fun _ => K .ret (mkF 0 91 [(2, .bool false)]) [some ⟨[.agg [.list 7 e_6 f_7, .int .i64 x_8]], 2, 34, 0⟩])
def Zh8 {R : Type} (K : X → List V → S → Option R) (e_1 : List V) (e_2 : List V) (f_3 : Fl) (x_4 : Int) (e_6 : List V) (f_7 : Fl) (x_8 : Int) : Unit → Option R := (fun _ => K (.exit 2) (mkF 0 91 []) [some ⟨[.agg [.list 7 e_6 f_7, .int .i64 x_8]], 2, 34, 0⟩])
abbrev Zmk {R : Type} (N : Nat) : Nat → List V → S → (X → List V → S → Option R) → Option R := fun n => ZcO C (ZnS N) (Zns N) ZsG [0, 1, 0, 1, 1, 1, 1] true Zoa Zwq n R
theorem ZKR {R : Type} (N n : Nat) (e_1 e_2 : List V) (f_3 : Fl) (x_4 : Int) (e_6 : List V) (f_7 : Fl) (x_8 : Int) (x_5 : Int) (K : X → List V → S → Option R) :
 Zmk N (n + 1) (ZjX e_1 e_2 f_3 x_4 e_6 f_7 x_8 x_5) [some ⟨[.agg [.list 7 e_6 f_7, .int .i64 x_8]], 2, 34, 0⟩] K =
 Zdo N e_1 e_2 f_3 x_4 e_6 f_7 x_8 (fun x_5 => Zmk N n (ZjX e_1 e_2 f_3 x_4 e_6 f_7 x_8 x_5) [some ⟨[.agg [.list 7 e_6 f_7, .int .i64 x_8]], 2, 34, 0⟩] K) x_5 (ZhW K e_1 e_2 f_3 x_4 e_6 f_7 x_8) (Zh8 K e_1 e_2 f_3 x_4 e_6 f_7 x_8) := by kernel_rfl
theorem ZEj {R : Type} (N : Nat) (e_1 e_2 : List V) (f_3 : Fl) (x_4 : Int) (e_6 : List V) (f_7 : Fl) (x_8 : Int) (K : X → List V → S → Option R) : ∀ (n : Nat) (x_5 : Int),
 Zmk N n (ZjX e_1 e_2 f_3 x_4 e_6 f_7 x_8 x_5) [some ⟨[.agg [.list 7 e_6 f_7, .int .i64 x_8]], 2, 34, 0⟩] K = Zgk N e_1 e_2 f_3 x_4 e_6 f_7 x_8 (ZhW K e_1 e_2 f_3 x_4 e_6 f_7 x_8) (Zh8 K e_1 e_2 f_3 x_4 e_6 f_7 x_8) n x_5
 | 0, _ => rfl
 | n + 1, x_5 => (ZKR N n e_1 e_2 f_3 x_4 e_6 f_7 x_8 x_5 K).trans (congrArg (fun nx => Zdo N e_1 e_2 f_3 x_4 e_6 f_7 x_8 nx x_5 (ZhW K e_1 e_2 f_3 x_4 e_6 f_7 x_8) (Zh8 K e_1 e_2 f_3 x_4 e_6 f_7 x_8)) (funext fun x_5 => ZEj N e_1 e_2 f_3 x_4 e_6 f_7 x_8 K n x_5))
def ZsD {R : Type} (E : List V) (s : S) (k : List V → List V → Fl → Int → Int → List V → Fl → Int → Option R) : Option R :=
 Zan (ZaZ 91 [1, 5, 50, 51, 52] E) <| ZpH E 1 (.ptr 0 0 0 0) <| Zbu (nth E 5) fun u5 => ZaV 1 u5 fun e_1 f'1 => ZKA f'1 <| Zbz E 50 7 fun e_2 f_3 => ZaR E 51 .i64 fun x_4 => ZaR E 52 .i64 fun x_5 => Zd4 s fun o'2 s'3 => ZdP o'2 2 34 fun e'4 k'5 => isN k'5 0 <| Zcb e'4 fun v'6 => asAgg v'6 fun c'7 => Zcf c'7 fun v'8 v'9 => ZaV 7 v'8 fun e_6 f_7 => asInt .i64 v'9 fun x_8 => ZaF s'3 <| k e_1 e_2 f_3 x_4 x_5 e_6 f_7 x_8
theorem Zow {R : Type} {E : List V} {s : S} {k : List V → List V → Fl → Int → Int → List V → Fl → Int → Option R} {r : R} (h : ZsD E s k = some r) : ∃ e_1 e_2 f_3 x_4 x_5 e_6 f_7 x_8, E = ZjX e_1 e_2 f_3 x_4 e_6 f_7 x_8 x_5 ∧ s = [some ⟨[.agg [.list 7 e_6 f_7, .int .i64 x_8]], 2, 34, 0⟩] ∧ k e_1 e_2 f_3 x_4 x_5 e_6 f_7 x_8 = some r := by
 unfold ZsD at h
 obtain ⟨hg, h1⟩ := Zad h
 obtain ⟨hu1, h2⟩ := ZbR h1
 obtain ⟨_, hu5, h3⟩ := Zag h2
 obtain ⟨_, _, rfl, h4⟩ := Zal h3
 obtain ⟨rfl, h5⟩ := Ze5 h4
 obtain ⟨_, _, hu50, h6⟩ := ZaA h5
 obtain ⟨_, hu51, h7⟩ := Zai h6
 obtain ⟨_, hu52, h8⟩ := Zai h7
 obtain ⟨_, _, rfl, h9⟩ := ZaN h8
 obtain ⟨_, _, rfl, h10⟩ := ZaK h9
 obtain ⟨rfl, h11⟩ := Zas h10
 obtain ⟨_, rfl, h12⟩ := Zaq h11
 obtain ⟨_, rfl, h13⟩ := ZaD h12
 obtain ⟨_, _, rfl, h14⟩ := Zat h13
 obtain ⟨_, _, rfl, h15⟩ := Zal h14
 obtain ⟨_, rfl, h16⟩ := Zaf h15
 obtain ⟨rfl, h17⟩ := Zae h16
 exact ⟨_, _, _, _, _, _, _, _, ZaP hg rfl (Zab hu1 (Zab hu5 (Zab hu50 (Zab hu51 (Zab hu52 ZaG))))), rfl, h17⟩
def ZtU (N : Nat) : Zaw := (Zns N).add [0, 1, 0, 1, 1, 1, 1] fun _ E s K => ZsD (Zbc Zoa E) s fun e_1 e_2 f_3 x_4 x_5 e_6 f_7 x_8 => Zgk N e_1 e_2 f_3 x_4 e_6 f_7 x_8 (ZhW K e_1 e_2 f_3 x_4 e_6 f_7 x_8) (Zh8 K e_1 e_2 f_3 x_4 e_6 f_7 x_8) N x_5
theorem ZHy {N : Nat} (hC : Ok Tryz.prog C) (hΦ : Zaa Tryz.prog C (ZnS N)) : Za1 Tryz.prog C (ZtU N) ZsG [0, 1, 0, 1, 1, 1, 1] :=
 Za2 (Λi := Zns N) (tr := true) (ks := Zoa) (kx := Zwq) (N := N) hC hΦ
  (Zah (by kernel_rfl))
  fun R E s K r h => by
   have h2 := Zaw.add_self.symm.trans h
   obtain ⟨_, _, _, _, _, _, _, _, he, rfl, h3⟩ := Zow h2
   rw [he]
   exact (ZEj N _ _ _ _ _ _ _ _ N _).trans h3
theorem ZOg : ZaY Zza [] = [([0, 1, 0, 1, 1], Zso), ([0, 1, 0, 1, 1, 1, 1], ZsG)] := by kernel_rfl
theorem ZOV {R : Type} (N : Nat) (e_1 : List V) (f_2 : Fl) (x_3 : Int) (K : V → S → Option R) : ZaU C (ZnS N) (ZtU N) 85 Tryz.f85 [.agg [.list 7 e_1 f_2, .int .i64 x_3]] [] K =
 ZrM N e_1 f_2 x_3 (fun b_4 => K (.bool b_4) []) := by kernel_rfl
theorem ZCF {N : Nat} (hC : Ok Tryz.prog C) (hΦ : Zaa Tryz.prog C (ZnS N)) : ZaT Tryz.prog C (ZtU N) Zza [] :=
 ZaB Zza [] (by
  rw [ZOg]
  intro p hp
  simp only [List.mem_cons, List.mem_nil_iff, or_false] at hp
  rcases hp with rfl | rfl
  ·exact (Za1.add (ZGz hC hΦ) rfl)
  ·exact (ZHy hC hΦ))
theorem ZBe (hC : Ok Tryz.prog C) {N : Nat} (hΦ : Zaa Tryz.prog C (ZnS N)) : Zaa Tryz.prog C (ZII N) := by
 refine hΦ.add_pure rfl fun R vs K r h => ?_
 unfold ZNu at h
 obtain ⟨_, rfl, h1⟩ := Zaq h
 obtain ⟨_, _, _, rfl, h2⟩ := Zav h1
 obtain ⟨_, h3⟩ := Zae h2
 refine Zak (fn := Tryz.f85) (c := Zza) hC hΦ Tryz.func85 (by kernel_rfl) (by kernel_rfl) (ZCF (N := N) hC hΦ) rfl rfl ?_
 refine (ZOV N _ _ _ _).trans ?_
 rw [← Zyp]
 exact h3
def ZLQ (N : Nat) : (R : Type) → List V → S → (V → S → Option R) → Option R := fun _ vs s K =>
 Zcb vs fun v'1 => Zba v'1 fun x_1 x_2 => ZaF s <| ZKi N x_1 x_2 (fun b_3 => K (.bool b_3) [])
def ZGA (N : Nat) : Zar := (ZII N).add 86 (ZLQ N)
def ZQd : Code := ZaE Tryz.f86
theorem ZOv {R : Type} (N : Nat) (x_1 x_2 : Int) (K : V → S → Option R) : ZaU C (ZII N) (Zac) 86 Tryz.f86 [.agg [.int .i64 x_1, .int .i64 x_2]] [] K =
 Zpx N x_1 x_2 (fun b_3 => K (.bool b_3) []) := by kernel_rfl
theorem ZAt (hC : Ok Tryz.prog C) {N : Nat} (hΦ : Zaa Tryz.prog C (ZII N)) : Zaa Tryz.prog C (ZGA N) := by
 refine hΦ.add_pure rfl fun R vs K r h => ?_
 unfold ZLQ at h
 obtain ⟨_, rfl, h1⟩ := Zaq h
 obtain ⟨_, _, rfl, h2⟩ := ZaO h1
 obtain ⟨_, h3⟩ := Zae h2
 refine Zak (fn := Tryz.f86) (c := ZQd) hC hΦ Tryz.func86 (by kernel_rfl) (by kernel_rfl) (Zah (Λ := Zac) (by kernel_rfl)) rfl rfl ?_
 refine (ZOv N _ _ _).trans ?_
 rw [← Zvw]
 exact h3
def ZNH (N : Nat) : (R : Type) → List V → S → (V → S → Option R) → Option R := fun _ vs s K =>
 Zcf vs fun v'1 v'2 => ZaQ v'1 fun e_1 f_2 x_3 => Zba v'2 fun x_4 x_5 => ZaF s <| ZGC N e_1 f_2 x_3 x_4 x_5 (fun b_6 => K (.bool b_6) [])
def ZGJ (N : Nat) : Zar := (ZGA N).add 45 (ZNH N)
def ZRb : Code := ZaE Tryz.f45
theorem ZP6 {R : Type} (N : Nat) (e_1 : List V) (f_2 : Fl) (x_3 x_4 x_5 : Int) (K : V → S → Option R) : ZaU C (ZGA N) (Zac) 45 Tryz.f45 [.agg [.list 7 e_1 f_2, .int .i64 x_3], .agg [.int .i64 x_4, .int .i64 x_5]] [] K =
 Zrt N e_1 f_2 x_3 x_4 x_5 (fun b_6 => K (.bool b_6) []) := by kernel_rfl
theorem ZAs (hC : Ok Tryz.prog C) {N : Nat} (hΦ : Zaa Tryz.prog C (ZGA N)) : Zaa Tryz.prog C (ZGJ N) := by
 refine hΦ.add_pure rfl fun R vs K r h => ?_
 unfold ZNH at h
 obtain ⟨_, _, rfl, h1⟩ := Zat h
 obtain ⟨_, _, _, rfl, h2⟩ := Zav h1
 obtain ⟨_, _, rfl, h3⟩ := ZaO h2
 obtain ⟨_, h4⟩ := Zae h3
 refine Zak (fn := Tryz.f45) (c := ZRb) hC hΦ Tryz.func45 (by kernel_rfl) (by kernel_rfl) (Zah (Λ := Zac) (by kernel_rfl)) rfl rfl ?_
 refine (ZP6 N _ _ _ _ _ _).trans ?_
 rw [← Zya]
 exact h4
def ZMq (N : Nat) : (R : Type) → List V → S → (V → S → Option R) → Option R := fun _ vs s K =>
 Zcb vs fun v'1 => Zbd v'1 fun w_1 => ZaF s <| ZBF N w_1 (fun b_2 => K (.bool b_2) [])
def ZFV (N : Nat) : Zar := (ZGJ N).add 87 (ZMq N)
def ZPF : Code := ZaE Tryz.f87
theorem ZO5 {R : Type} (N : Nat) (w_1 : ByteArray) (K : V → S → Option R) : ZaU C (ZGJ N) (Zac) 87 Tryz.f87 [.str w_1] [] K =
 ZqJ N w_1 (fun b_2 => K (.bool b_2) []) := by kernel_rfl
theorem ZzX (hC : Ok Tryz.prog C) {N : Nat} (hΦ : Zaa Tryz.prog C (ZGJ N)) : Zaa Tryz.prog C (ZFV N) := by
 refine hΦ.add_pure rfl fun R vs K r h => ?_
 unfold ZMq at h
 obtain ⟨_, rfl, h1⟩ := Zaq h
 obtain ⟨_, rfl, h2⟩ := Zao h1
 obtain ⟨_, h3⟩ := Zae h2
 refine Zak (fn := Tryz.f87) (c := ZPF) hC hΦ Tryz.func87 (by kernel_rfl) (by kernel_rfl) (Zah (Λ := Zac) (by kernel_rfl)) rfl rfl ?_
 refine (ZO5 N _ _).trans ?_
 rw [← ZwV]
 exact h3
def ZNi (N : Nat) : (R : Type) → List V → S → (V → S → Option R) → Option R := fun _ vs s K =>
 ZOs vs fun v'1 v'2 v'3 v'4 v'5 => Zba v'1 fun x_1 x_2 => asInt .i64 v'2 fun x_3 => asInt .i64 v'3 fun x_4 => asInt .i64 v'4 fun x_5 => asInt .i64 v'5 fun x_6 => ZaF s <| ZFD N x_1 x_2 x_3 x_4 x_5 x_6 (fun b_7 => K (.bool b_7) [])
def ZIB (N : Nat) : Zar := (ZFV N).add 106 (ZNi N)
def ZQy : Code := ZaE Tryz.f106
theorem ZPc {R : Type} (N : Nat) (x_1 x_2 x_3 x_4 x_5 x_6 : Int) (K : V → S → Option R) : ZaU C (ZFV N) (Zac) 106 Tryz.f106 [.agg [.int .i64 x_1, .int .i64 x_2], .int .i64 x_3, .int .i64 x_4, .int .i64 x_5, .int .i64 x_6] [] K =
 Zpm N x_1 x_2 x_3 x_4 x_5 x_6 (fun b_7 => K (.bool b_7) []) := by kernel_rfl
theorem ZzS (hC : Ok Tryz.prog C) {N : Nat} (hΦ : Zaa Tryz.prog C (ZFV N)) : Zaa Tryz.prog C (ZIB N) := by
 refine hΦ.add_pure rfl fun R vs K r h => ?_
 unfold ZNi at h
 obtain ⟨_, _, _, _, _, rfl, h1⟩ := Zo3 h
 obtain ⟨_, _, rfl, h2⟩ := ZaO h1
 obtain ⟨_, rfl, h3⟩ := Zaf h2
 obtain ⟨_, rfl, h4⟩ := Zaf h3
 obtain ⟨_, rfl, h5⟩ := Zaf h4
 obtain ⟨_, rfl, h6⟩ := Zaf h5
 obtain ⟨_, h7⟩ := Zae h6
 refine Zak (fn := Tryz.f106) (c := ZQy) hC hΦ Tryz.func106 (by kernel_rfl) (by kernel_rfl) (Zah (Λ := Zac) (by kernel_rfl)) rfl rfl ?_
 refine (ZPc N _ _ _ _ _ _ _).trans ?_
 rw [← Zym]
 exact h7
def ZNQ (N : Nat) : (R : Type) → List V → S → (V → S → Option R) → Option R := fun _ vs s K =>
 ZBj vs fun v'1 v'2 v'3 v'4 => ZaQ v'1 fun e_1 f_2 x_3 => Zba v'2 fun x_4 x_5 => asInt .i64 v'3 fun x_6 => asInt .i64 v'4 fun x_7 => ZaF s <| ZAo N e_1 f_2 x_3 x_4 x_5 x_6 x_7 (fun b_8 => K (.bool b_8) [])
def Zmo (N : Nat) : Zar := (ZIB N).add 54 (ZNQ N)
def ZRl : Code := ZaE Tryz.f54
theorem ZQc {R : Type} (N : Nat) (e_1 : List V) (f_2 : Fl) (x_3 x_4 x_5 x_6 x_7 : Int) (K : V → S → Option R) : ZaU C (ZIB N) (Zac) 54 Tryz.f54 [.agg [.list 7 e_1 f_2, .int .i64 x_3], .agg [.int .i64 x_4, .int .i64 x_5], .int .i64 x_6, .int .i64 x_7] [] K =
 ZkT N e_1 f_2 x_3 x_4 x_5 x_6 x_7 (fun b_8 => K (.bool b_8) []) := by kernel_rfl
theorem Zy9 (hC : Ok Tryz.prog C) {N : Nat} (hΦ : Zaa Tryz.prog C (ZIB N)) : Zaa Tryz.prog C (Zmo N) := by
 refine hΦ.add_pure rfl fun R vs K r h => ?_
 unfold ZNQ at h
 obtain ⟨_, _, _, _, rfl, h1⟩ := Zcu h
 obtain ⟨_, _, _, rfl, h2⟩ := Zav h1
 obtain ⟨_, _, rfl, h3⟩ := ZaO h2
 obtain ⟨_, rfl, h4⟩ := Zaf h3
 obtain ⟨_, rfl, h5⟩ := Zaf h4
 obtain ⟨_, h6⟩ := Zae h5
 refine Zak (fn := Tryz.f54) (c := ZRl) hC hΦ Tryz.func54 (by kernel_rfl) (by kernel_rfl) (Zah (Λ := Zac) (by kernel_rfl)) rfl rfl ?_
 refine (ZQc N _ _ _ _ _ _ _ _).trans ?_
 rw [← Zkk]
 exact h6
def ZNK (N : Nat) : (R : Type) → List V → S → (V → S → Option R) → Option R := fun _ vs s K =>
 Zcf vs fun v'1 v'2 => ZaQ v'1 fun e_1 f_2 x_3 => asInt .i64 v'2 fun x_4 => ZaF s <| ZFl N e_1 f_2 x_3 x_4 (fun x_5 => K (.int .i64 x_5) [])
def ZuD (N : Nat) : Zar := (Zmo N).add 109 (ZNK N)
def ZBM : Code := ZaE Tryz.f109
def ZiY : Code := (Zbj ZBM [] 0).2
def Zs7 : Code := (Zbj ZiY (0 :: [0, 1, 0, 1]) 0).2
def ZnE : List Nat := ZbO 31 [1, 5, 10, 11, 12, 18, 19, 20]
def ZwN : List Nat := ZbO 31 [1, 4, 10, 11, 12]
def ZjN (x_1 x_2 : Int) (e_3 : List V) (f_4 : Fl) (x_5 x_6 : Int) (e_7 : List V) (f_8 : Fl) (x_9 : Int) (e_11 : List V) (f_12 : Fl) (x_13 x_14 x_15 x_16 x_17 x_18 : Int) (w_19 : ByteArray) (e_20 : List V) (f_21 : Fl) (x_10 : Int) : List V := mkF 0 31 [(1, .int .i64 x_1), (5, .int .i64 x_2), (10, .list 7 e_3 f_4), (11, .int .i64 x_5), (12, .int .i64 x_6), (18, .list 2 e_7 f_8), (19, .int .i64 x_9), (20, .int .i64 x_10)]
def Zhw {R : Type} (K : X → List V → S → Option R) (x_1 : Int) (x_2 : Int) (e_3 : List V) (f_4 : Fl) (x_5 : Int) (x_6 : Int) (e_7 : List V) (f_8 : Fl) (x_9 : Int) (e_11 : List V) (f_12 : Fl) (x_13 : Int) (x_14 : Int) (x_15 : Int) (x_16 : Int) (x_17 : Int) (x_18 : Int) (w_19 : ByteArray) (e_20 : List V) (f_21 : Fl) : Unit → Option R := (fun _ => K .ret (mkF 0 31 [(1, .int .i64 x_1), (4, .int .i64 x_2), (10, .list 7 e_3 f_4), (11, .int .i64 x_5), (12, .int .i64 x_6)]) [some ⟨[.agg [.list 7 e_11 f_12, .int .i64 x_13]], 2, 34, 0⟩, some ⟨[.agg [.int .i64 x_14, .int .i64 x_15, .int .i64 x_16, .int .i64 x_17, .int .i64 x_18, .str w_19, .list 2 e_20 f_21]], 7, 87, 0⟩])
def Ziq {R : Type} (K : X → List V → S → Option R) (x_1 : Int) (x_2 : Int) (e_3 : List V) (f_4 : Fl) (x_5 : Int) (x_6 : Int) (e_7 : List V) (f_8 : Fl) (x_9 : Int) (e_11 : List V) (f_12 : Fl) (x_13 : Int) (x_14 : Int) (x_15 : Int) (x_16 : Int) (x_17 : Int) (x_18 : Int) (w_19 : ByteArray) (e_20 : List V) (f_21 : Fl) : Unit → Option R := (fun _ => K (.exit 2) (mkF 0 31 [(1, .int .i64 x_1), (10, .list 7 e_3 f_4), (11, .int .i64 x_5), (12, .int .i64 x_6)]) [some ⟨[.agg [.list 7 e_11 f_12, .int .i64 x_13]], 2, 34, 0⟩, some ⟨[.agg [.int .i64 x_14, .int .i64 x_15, .int .i64 x_16, .int .i64 x_17, .int .i64 x_18, .str w_19, .list 2 e_20 f_21]], 7, 87, 0⟩])
abbrev Znh {R : Type} (N : Nat) : Nat → List V → S → (X → List V → S → Option R) → Option R := fun n => ZcO C (Zmo N) (Zac) Zs7 [0, 1, 1, 0, 0, 1, 1, 0, 0, 1, 0, 1] true ZnE ZwN n R
theorem ZJ1 {R : Type} (N n : Nat) (x_1 x_2 : Int) (e_3 : List V) (f_4 : Fl) (x_5 x_6 : Int) (e_7 : List V) (f_8 : Fl) (x_9 : Int) (e_11 : List V) (f_12 : Fl) (x_13 x_14 x_15 x_16 x_17 x_18 : Int) (w_19 : ByteArray) (e_20 : List V) (f_21 : Fl) (x_10 : Int) (K : X → List V → S → Option R) :
 Znh N (n + 1) (ZjN x_1 x_2 e_3 f_4 x_5 x_6 e_7 f_8 x_9 e_11 f_12 x_13 x_14 x_15 x_16 x_17 x_18 w_19 e_20 f_21 x_10) [some ⟨[.agg [.list 7 e_11 f_12, .int .i64 x_13]], 2, 34, 0⟩, some ⟨[.agg [.int .i64 x_14, .int .i64 x_15, .int .i64 x_16, .int .i64 x_17, .int .i64 x_18, .str w_19, .list 2 e_20 f_21]], 7, 87, 0⟩] K =
 Zc2 N x_1 x_2 e_3 f_4 x_5 x_6 e_7 f_8 x_9 e_11 f_12 x_13 x_14 x_15 x_16 x_17 x_18 w_19 e_20 f_21 (fun x_10 => Znh N n (ZjN x_1 x_2 e_3 f_4 x_5 x_6 e_7 f_8 x_9 e_11 f_12 x_13 x_14 x_15 x_16 x_17 x_18 w_19 e_20 f_21 x_10) [some ⟨[.agg [.list 7 e_11 f_12, .int .i64 x_13]], 2, 34, 0⟩, some ⟨[.agg [.int .i64 x_14, .int .i64 x_15, .int .i64 x_16, .int .i64 x_17, .int .i64 x_18, .str w_19, .list 2 e_20 f_21]], 7, 87, 0⟩] K) x_10 (Zhw K x_1 x_2 e_3 f_4 x_5 x_6 e_7 f_8 x_9 e_11 f_12 x_13 x_14 x_15 x_16 x_17 x_18 w_19 e_20 f_21) (Ziq K x_1 x_2 e_3 f_4 x_5 x_6 e_7 f_8 x_9 e_11 f_12 x_13 x_14 x_15 x_16 x_17 x_18 w_19 e_20 f_21) := by kernel_rfl
theorem ZCr {R : Type} (N : Nat) (x_1 x_2 : Int) (e_3 : List V) (f_4 : Fl) (x_5 x_6 : Int) (e_7 : List V) (f_8 : Fl) (x_9 : Int) (e_11 : List V) (f_12 : Fl) (x_13 x_14 x_15 x_16 x_17 x_18 : Int) (w_19 : ByteArray) (e_20 : List V) (f_21 : Fl) (K : X → List V → S → Option R) : ∀ (n : Nat) (x_10 : Int),
 Znh N n (ZjN x_1 x_2 e_3 f_4 x_5 x_6 e_7 f_8 x_9 e_11 f_12 x_13 x_14 x_15 x_16 x_17 x_18 w_19 e_20 f_21 x_10) [some ⟨[.agg [.list 7 e_11 f_12, .int .i64 x_13]], 2, 34, 0⟩, some ⟨[.agg [.int .i64 x_14, .int .i64 x_15, .int .i64 x_16, .int .i64 x_17, .int .i64 x_18, .str w_19, .list 2 e_20 f_21]], 7, 87, 0⟩] K = ZeW N x_1 x_2 e_3 f_4 x_5 x_6 e_7 f_8 x_9 e_11 f_12 x_13 x_14 x_15 x_16 x_17 x_18 w_19 e_20 f_21 (Zhw K x_1 x_2 e_3 f_4 x_5 x_6 e_7 f_8 x_9 e_11 f_12 x_13 x_14 x_15 x_16 x_17 x_18 w_19 e_20 f_21) (Ziq K x_1 x_2 e_3 f_4 x_5 x_6 e_7 f_8 x_9 e_11 f_12 x_13 x_14 x_15 x_16 x_17 x_18 w_19 e_20 f_21) n x_10
 | 0, _ => rfl
 | n + 1, x_10 => (ZJ1 N n x_1 x_2 e_3 f_4 x_5 x_6 e_7 f_8 x_9 e_11 f_12 x_13 x_14 x_15 x_16 x_17 x_18 w_19 e_20 f_21 x_10 K).trans (congrArg (fun nx => Zc2 N x_1 x_2 e_3 f_4 x_5 x_6 e_7 f_8 x_9 e_11 f_12 x_13 x_14 x_15 x_16 x_17 x_18 w_19 e_20 f_21 nx x_10 (Zhw K x_1 x_2 e_3 f_4 x_5 x_6 e_7 f_8 x_9 e_11 f_12 x_13 x_14 x_15 x_16 x_17 x_18 w_19 e_20 f_21) (Ziq K x_1 x_2 e_3 f_4 x_5 x_6 e_7 f_8 x_9 e_11 f_12 x_13 x_14 x_15 x_16 x_17 x_18 w_19 e_20 f_21)) (funext fun x_10 => ZCr N x_1 x_2 e_3 f_4 x_5 x_6 e_7 f_8 x_9 e_11 f_12 x_13 x_14 x_15 x_16 x_17 x_18 w_19 e_20 f_21 K n x_10))
def Zu9 {R : Type} (E : List V) (s : S) (k : Int → Int → List V → Fl → Int → Int → List V → Fl → Int → Int → List V → Fl → Int → Int → Int → Int → Int → Int → ByteArray → List V → Fl → Option R) : Option R :=
 Zan (ZaZ 31 [1, 5, 10, 11, 12, 18, 19, 20] E) <| ZaR E 1 .i64 fun x_1 => ZaR E 5 .i64 fun x_2 => Zbz E 10 7 fun e_3 f_4 => ZaR E 11 .i64 fun x_5 => ZaR E 12 .i64 fun x_6 => Zbz E 18 2 fun e_7 f_8 => ZaR E 19 .i64 fun x_9 => ZaR E 20 .i64 fun x_10 => Zd4 s fun o'1 s'2 => ZdP o'1 2 34 fun e'3 k'4 => isN k'4 0 <| Zcb e'3 fun v'5 => asAgg v'5 fun c'6 => Zcf c'6 fun v'7 v'8 => ZaV 7 v'7 fun e_11 f_12 => asInt .i64 v'8 fun x_13 => Zd4 s'2 fun o'9 s'10 => ZdP o'9 7 87 fun e'11 k'12 => isN k'12 0 <| Zcb e'11 fun v'13 => asAgg v'13 fun c'14 => ZJl c'14 fun v'15 v'16 v'17 v'18 v'19 v'20 v'21 => asInt .i64 v'15 fun x_14 => asInt .i64 v'16 fun x_15 => asInt .i64 v'17 fun x_16 => asInt .i64 v'18 fun x_17 => asInt .i64 v'19 fun x_18 => Zbd v'20 fun w_19 => ZaV 2 v'21 fun e_20 f_21 => ZaF s'10 <| k x_1 x_2 e_3 f_4 x_5 x_6 e_7 f_8 x_9 x_10 e_11 f_12 x_13 x_14 x_15 x_16 x_17 x_18 w_19 e_20 f_21
theorem Zp9 {R : Type} {E : List V} {s : S} {k : Int → Int → List V → Fl → Int → Int → List V → Fl → Int → Int → List V → Fl → Int → Int → Int → Int → Int → Int → ByteArray → List V → Fl → Option R} {r : R} (h : Zu9 E s k = some r) : ∃ x_1 x_2 e_3 f_4 x_5 x_6 e_7 f_8 x_9 x_10 e_11 f_12 x_13 x_14 x_15 x_16 x_17 x_18 w_19 e_20 f_21, E = ZjN x_1 x_2 e_3 f_4 x_5 x_6 e_7 f_8 x_9 e_11 f_12 x_13 x_14 x_15 x_16 x_17 x_18 w_19 e_20 f_21 x_10 ∧ s = [some ⟨[.agg [.list 7 e_11 f_12, .int .i64 x_13]], 2, 34, 0⟩, some ⟨[.agg [.int .i64 x_14, .int .i64 x_15, .int .i64 x_16, .int .i64 x_17, .int .i64 x_18, .str w_19, .list 2 e_20 f_21]], 7, 87, 0⟩] ∧ k x_1 x_2 e_3 f_4 x_5 x_6 e_7 f_8 x_9 x_10 e_11 f_12 x_13 x_14 x_15 x_16 x_17 x_18 w_19 e_20 f_21 = some r := by
 unfold Zu9 at h
 obtain ⟨hg, h1⟩ := Zad h
 obtain ⟨_, hu1, h2⟩ := Zai h1
 obtain ⟨_, hu5, h3⟩ := Zai h2
 obtain ⟨_, _, hu10, h4⟩ := ZaA h3
 obtain ⟨_, hu11, h5⟩ := Zai h4
 obtain ⟨_, hu12, h6⟩ := Zai h5
 obtain ⟨_, _, hu18, h7⟩ := ZaA h6
 obtain ⟨_, hu19, h8⟩ := Zai h7
 obtain ⟨_, hu20, h9⟩ := Zai h8
 obtain ⟨_, _, rfl, h10⟩ := ZaN h9
 obtain ⟨_, _, rfl, h11⟩ := ZaK h10
 obtain ⟨rfl, h12⟩ := Zas h11
 obtain ⟨_, rfl, h13⟩ := Zaq h12
 obtain ⟨_, rfl, h14⟩ := ZaD h13
 obtain ⟨_, _, rfl, h15⟩ := Zat h14
 obtain ⟨_, _, rfl, h16⟩ := Zal h15
 obtain ⟨_, rfl, h17⟩ := Zaf h16
 obtain ⟨_, _, rfl, h18⟩ := ZaN h17
 obtain ⟨_, _, rfl, h19⟩ := ZaK h18
 obtain ⟨rfl, h20⟩ := Zas h19
 obtain ⟨_, rfl, h21⟩ := Zaq h20
 obtain ⟨_, rfl, h22⟩ := ZaD h21
 obtain ⟨_, _, _, _, _, _, _, rfl, h23⟩ := Zet h22
 obtain ⟨_, rfl, h24⟩ := Zaf h23
 obtain ⟨_, rfl, h25⟩ := Zaf h24
 obtain ⟨_, rfl, h26⟩ := Zaf h25
 obtain ⟨_, rfl, h27⟩ := Zaf h26
 obtain ⟨_, rfl, h28⟩ := Zaf h27
 obtain ⟨_, rfl, h29⟩ := Zao h28
 obtain ⟨_, _, rfl, h30⟩ := Zal h29
 obtain ⟨rfl, h31⟩ := Zae h30
 exact ⟨_, _, _, _, _, _, _, _, _, _, _, _, _, _, _, _, _, _, _, _, _, ZaP hg rfl (Zab hu1 (Zab hu5 (Zab hu10 (Zab hu11 (Zab hu12 (Zab hu18 (Zab hu19 (Zab hu20 ZaG)))))))), rfl, h31⟩
def Zoc (N : Nat) : Zaw := (Zac).add [0, 1, 1, 0, 0, 1, 1, 0, 0, 1, 0, 1] fun _ E s K => Zu9 (Zbc ZnE E) s fun x_1 x_2 e_3 f_4 x_5 x_6 e_7 f_8 x_9 x_10 e_11 f_12 x_13 x_14 x_15 x_16 x_17 x_18 w_19 e_20 f_21 => ZeW N x_1 x_2 e_3 f_4 x_5 x_6 e_7 f_8 x_9 e_11 f_12 x_13 x_14 x_15 x_16 x_17 x_18 w_19 e_20 f_21 (Zhw K x_1 x_2 e_3 f_4 x_5 x_6 e_7 f_8 x_9 e_11 f_12 x_13 x_14 x_15 x_16 x_17 x_18 w_19 e_20 f_21) (Ziq K x_1 x_2 e_3 f_4 x_5 x_6 e_7 f_8 x_9 e_11 f_12 x_13 x_14 x_15 x_16 x_17 x_18 w_19 e_20 f_21) N x_10
theorem ZGT {N : Nat} (hC : Ok Tryz.prog C) (hΦ : Zaa Tryz.prog C (Zmo N)) : Za1 Tryz.prog C (Zoc N) Zs7 [0, 1, 1, 0, 0, 1, 1, 0, 0, 1, 0, 1] :=
 Za2 (Λi := Zac) (tr := true) (ks := ZnE) (kx := ZwN) (N := N) hC hΦ
  (Zah (by kernel_rfl))
  fun R E s K r h => by
   have h2 := Zaw.add_self.symm.trans h
   obtain ⟨_, _, _, _, _, _, _, _, _, _, _, _, _, _, _, _, _, _, _, _, _, he, rfl, h3⟩ := Zp9 h2
   rw [he]
   exact (ZCr N _ _ _ _ _ _ _ _ _ _ _ _ _ _ _ _ _ _ _ _ _ N _).trans h3
def Zmb : List Nat := ZbO 31 [1, 10, 11, 12]
def ZvP : List Nat := ZbO 31 [4]
def Zj8 (x_1 : Int) (e_2 : List V) (f_3 : Fl) (x_4 : Int) (e_6 : List V) (f_7 : Fl) (x_8 x_5 : Int) : List V := mkF 0 31 [(1, .int .i64 x_1), (10, .list 7 e_2 f_3), (11, .int .i64 x_4), (12, .int .i64 x_5)]
def Zh2 {R : Type} (K : X → List V → S → Option R) (x_1 : Int) (e_2 : List V) (f_3 : Fl) (x_4 : Int) (e_6 : List V) (f_7 : Fl) (x_8 : Int) : Int → Option R := (fun x_1' => K .ret (mkF 0 31 [(4, .int .i64 (x_1'))]) [some ⟨[.agg [.list 7 e_6 f_7, .int .i64 x_8]], 2, 34, 0⟩])
def Zim {R : Type} (K : X → List V → S → Option R) (x_1 : Int) (e_2 : List V) (f_3 : Fl) (x_4 : Int) (e_6 : List V) (f_7 : Fl) (x_8 : Int) : Unit → Option R := (fun _ => K (.exit 0) (mkF 0 31 []) [some ⟨[.agg [.list 7 e_6 f_7, .int .i64 x_8]], 2, 34, 0⟩])
abbrev ZnV {R : Type} (N : Nat) : Nat → List V → S → (X → List V → S → Option R) → Option R := fun n => ZcO C (Zmo N) (Zoc N) ZiY [0, 1, 0, 1] true Zmb ZvP n R
theorem ZJM {R : Type} (N n : Nat) (x_1 : Int) (e_2 : List V) (f_3 : Fl) (x_4 : Int) (e_6 : List V) (f_7 : Fl) (x_8 : Int) (x_5 : Int) (K : X → List V → S → Option R) :
 ZnV N (n + 1) (Zj8 x_1 e_2 f_3 x_4 e_6 f_7 x_8 x_5) [some ⟨[.agg [.list 7 e_6 f_7, .int .i64 x_8]], 2, 34, 0⟩] K =
 Zdk N x_1 e_2 f_3 x_4 e_6 f_7 x_8 (fun x_5 => ZnV N n (Zj8 x_1 e_2 f_3 x_4 e_6 f_7 x_8 x_5) [some ⟨[.agg [.list 7 e_6 f_7, .int .i64 x_8]], 2, 34, 0⟩] K) x_5 (Zh2 K x_1 e_2 f_3 x_4 e_6 f_7 x_8) (Zim K x_1 e_2 f_3 x_4 e_6 f_7 x_8) := by kernel_rfl
theorem ZEv {R : Type} (N : Nat) (x_1 : Int) (e_2 : List V) (f_3 : Fl) (x_4 : Int) (e_6 : List V) (f_7 : Fl) (x_8 : Int) (K : X → List V → S → Option R) : ∀ (n : Nat) (x_5 : Int),
 ZnV N n (Zj8 x_1 e_2 f_3 x_4 e_6 f_7 x_8 x_5) [some ⟨[.agg [.list 7 e_6 f_7, .int .i64 x_8]], 2, 34, 0⟩] K = Zf0 N x_1 e_2 f_3 x_4 e_6 f_7 x_8 (Zh2 K x_1 e_2 f_3 x_4 e_6 f_7 x_8) (Zim K x_1 e_2 f_3 x_4 e_6 f_7 x_8) n x_5
 | 0, _ => rfl
 | n + 1, x_5 => (ZJM N n x_1 e_2 f_3 x_4 e_6 f_7 x_8 x_5 K).trans (congrArg (fun nx => Zdk N x_1 e_2 f_3 x_4 e_6 f_7 x_8 nx x_5 (Zh2 K x_1 e_2 f_3 x_4 e_6 f_7 x_8) (Zim K x_1 e_2 f_3 x_4 e_6 f_7 x_8)) (funext fun x_5 => ZEv N x_1 e_2 f_3 x_4 e_6 f_7 x_8 K n x_5))
def Zvj {R : Type} (E : List V) (s : S) (k : Int → List V → Fl → Int → Int → List V → Fl → Int → Option R) : Option R :=
 Zan (ZaZ 31 [1, 10, 11, 12] E) <| ZaR E 1 .i64 fun x_1 => Zbz E 10 7 fun e_2 f_3 => ZaR E 11 .i64 fun x_4 => ZaR E 12 .i64 fun x_5 => Zd4 s fun o'1 s'2 => ZdP o'1 2 34 fun e'3 k'4 => isN k'4 0 <| Zcb e'3 fun v'5 => asAgg v'5 fun c'6 => Zcf c'6 fun v'7 v'8 => ZaV 7 v'7 fun e_6 f_7 => asInt .i64 v'8 fun x_8 => ZaF s'2 <| k x_1 e_2 f_3 x_4 x_5 e_6 f_7 x_8
theorem Zo0 {R : Type} {E : List V} {s : S} {k : Int → List V → Fl → Int → Int → List V → Fl → Int → Option R} {r : R} (h : Zvj E s k = some r) : ∃ x_1 e_2 f_3 x_4 x_5 e_6 f_7 x_8, E = Zj8 x_1 e_2 f_3 x_4 e_6 f_7 x_8 x_5 ∧ s = [some ⟨[.agg [.list 7 e_6 f_7, .int .i64 x_8]], 2, 34, 0⟩] ∧ k x_1 e_2 f_3 x_4 x_5 e_6 f_7 x_8 = some r := by
 unfold Zvj at h
 obtain ⟨hg, h1⟩ := Zad h
 obtain ⟨_, hu1, h2⟩ := Zai h1
 obtain ⟨_, _, hu10, h3⟩ := ZaA h2
 obtain ⟨_, hu11, h4⟩ := Zai h3
 obtain ⟨_, hu12, h5⟩ := Zai h4
 obtain ⟨_, _, rfl, h6⟩ := ZaN h5
 obtain ⟨_, _, rfl, h7⟩ := ZaK h6
 obtain ⟨rfl, h8⟩ := Zas h7
 obtain ⟨_, rfl, h9⟩ := Zaq h8
 obtain ⟨_, rfl, h10⟩ := ZaD h9
 obtain ⟨_, _, rfl, h11⟩ := Zat h10
 obtain ⟨_, _, rfl, h12⟩ := Zal h11
 obtain ⟨_, rfl, h13⟩ := Zaf h12
 obtain ⟨rfl, h14⟩ := Zae h13
 exact ⟨_, _, _, _, _, _, _, _, ZaP hg rfl (Zab hu1 (Zab hu10 (Zab hu11 (Zab hu12 ZaG)))), rfl, h14⟩
def Zr6 (N : Nat) : Zaw := (Zoc N).add [0, 1, 0, 1] fun _ E s K => Zvj (Zbc Zmb E) s fun x_1 e_2 f_3 x_4 x_5 e_6 f_7 x_8 => Zf0 N x_1 e_2 f_3 x_4 e_6 f_7 x_8 (Zh2 K x_1 e_2 f_3 x_4 e_6 f_7 x_8) (Zim K x_1 e_2 f_3 x_4 e_6 f_7 x_8) N x_5
theorem ZIZ : ZaY ZiY (0 :: [0, 1, 0, 1]) = [([0, 1, 1, 0, 0, 1, 1, 0, 0, 1, 0, 1], Zs7)] := by kernel_rfl
theorem ZI3 {N : Nat} (hC : Ok Tryz.prog C) (hΦ : Zaa Tryz.prog C (Zmo N)) : Za1 Tryz.prog C (Zr6 N) ZiY [0, 1, 0, 1] :=
 Za2 (Λi := Zoc N) (tr := true) (ks := Zmb) (kx := ZvP) (N := N) hC hΦ
  (ZaB ZiY _ (by
   rw [ZIZ]
   intro p hp
   simp only [List.mem_cons, List.mem_nil_iff, or_false] at hp
   rcases hp with rfl
   ·exact (ZGT hC hΦ)))
  fun R E s K r h => by
   have h2 := Zaw.add_self.symm.trans h
   obtain ⟨_, _, _, _, _, _, _, _, he, rfl, h3⟩ := Zo0 h2
   rw [he]
   exact (ZEv N _ _ _ _ _ _ _ _ N _).trans h3
theorem ZMo : ZaY ZBM [] = [([0, 1, 0, 1], ZiY)] := by kernel_rfl
theorem ZPY {R : Type} (N : Nat) (e_1 : List V) (f_2 : Fl) (x_3 x_4 : Int) (K : V → S → Option R) : ZaU C (Zmo N) (Zr6 N) 109 Tryz.f109 [.agg [.list 7 e_1 f_2, .int .i64 x_3], .int .i64 x_4] [] K =
 ZrH N e_1 f_2 x_3 x_4 (fun x_5 => K (.int .i64 x_5) []) := by kernel_rfl
theorem ZEZ {N : Nat} (hC : Ok Tryz.prog C) (hΦ : Zaa Tryz.prog C (Zmo N)) : ZaT Tryz.prog C (Zr6 N) ZBM [] :=
 ZaB ZBM [] (by
  rw [ZMo]
  intro p hp
  simp only [List.mem_cons, List.mem_nil_iff, or_false] at hp
  rcases hp with rfl
  ·exact (ZI3 hC hΦ))
theorem Zzt (hC : Ok Tryz.prog C) {N : Nat} (hΦ : Zaa Tryz.prog C (Zmo N)) : Zaa Tryz.prog C (ZuD N) := by
 refine hΦ.add_pure rfl fun R vs K r h => ?_
 unfold ZNK at h
 obtain ⟨_, _, rfl, h1⟩ := Zat h
 obtain ⟨_, _, _, rfl, h2⟩ := Zav h1
 obtain ⟨_, rfl, h3⟩ := Zaf h2
 obtain ⟨_, h4⟩ := Zae h3
 refine Zak (fn := Tryz.f109) (c := ZBM) hC hΦ Tryz.func109 (by kernel_rfl) (by kernel_rfl) (ZEZ (N := N) hC hΦ) rfl rfl ?_
 refine (ZPY N _ _ _ _ _).trans ?_
 rw [← ZxM]
 exact h4
def ZNL (N : Nat) : (R : Type) → List V → S → (V → S → Option R) → Option R := fun _ vs s K =>
 Zcf vs fun v'1 v'2 => ZaV 2 v'1 fun e_1 f_2 => Zbd v'2 fun w_3 => ZaF s <| ZFc N e_1 f_2 w_3 (fun x_4 => K (.int .i64 x_4) [])
def ZHV (N : Nat) : Zar := (ZuD N).add 123 (ZNL N)
def ZCu : Code := ZaE Tryz.f123
def Zuz : Code := (Zbj ZCu [] 0).2
def Zmg : List Nat := ZbO 20 [1, 7, 8, 9]
def Zwl : List Nat := ZbO 20 [4]
def Zkj (w_1 : ByteArray) (e_2 : List V) (f_3 : Fl) (x_4 x_5 : Int) : List V := mkF 0 20 [(1, .str w_1), (7, .list 2 e_2 f_3), (8, .int .i64 x_4), (9, .int .i64 x_5)]
def Zhc {R : Type} (K : X → List V → S → Option R) (w_1 : ByteArray) (e_2 : List V) (f_3 : Fl) (x_4 : Int) : Int → Option R := (fun x_1' => K .ret (mkF 0 20 [(4, .int .i64 (x_1'))]) [])
def Zh9 {R : Type} (K : X → List V → S → Option R) (w_1 : ByteArray) (e_2 : List V) (f_3 : Fl) (x_4 : Int) : Unit → Option R := (fun _ => K (.exit 0) (mkF 0 20 []) [])
abbrev ZnL {R : Type} (N : Nat) : Nat → List V → S → (X → List V → S → Option R) → Option R := fun n => ZcO C (ZuD N) (Zac) Zuz [0, 1, 0, 1] true Zmg Zwl n R
theorem ZKC {R : Type} (N n : Nat) (w_1 : ByteArray) (e_2 : List V) (f_3 : Fl) (x_4 : Int) (x_5 : Int) (K : X → List V → S → Option R) :
 ZnL N (n + 1) (Zkj w_1 e_2 f_3 x_4 x_5) [] K =
 ZcZ N w_1 e_2 f_3 x_4 (fun x_5 => ZnL N n (Zkj w_1 e_2 f_3 x_4 x_5) [] K) x_5 (Zhc K w_1 e_2 f_3 x_4) (Zh9 K w_1 e_2 f_3 x_4) := by kernel_rfl
theorem ZD7 {R : Type} (N : Nat) (w_1 : ByteArray) (e_2 : List V) (f_3 : Fl) (x_4 : Int) (K : X → List V → S → Option R) : ∀ (n : Nat) (x_5 : Int),
 ZnL N n (Zkj w_1 e_2 f_3 x_4 x_5) [] K = Zgr N w_1 e_2 f_3 x_4 (Zhc K w_1 e_2 f_3 x_4) (Zh9 K w_1 e_2 f_3 x_4) n x_5
 | 0, _ => rfl
 | n + 1, x_5 => (ZKC N n w_1 e_2 f_3 x_4 x_5 K).trans (congrArg (fun nx => ZcZ N w_1 e_2 f_3 x_4 nx x_5 (Zhc K w_1 e_2 f_3 x_4) (Zh9 K w_1 e_2 f_3 x_4)) (funext fun x_5 => ZD7 N w_1 e_2 f_3 x_4 K n x_5))
def Zst {R : Type} (E : List V) (s : S) (k : ByteArray → List V → Fl → Int → Int → Option R) : Option R :=
 Zan (ZaZ 20 [1, 7, 8, 9] E) <| ZfO E 1 fun w_1 => Zbz E 7 2 fun e_2 f_3 => ZaR E 8 .i64 fun x_4 => ZaR E 9 .i64 fun x_5 => ZaF s <| k w_1 e_2 f_3 x_4 x_5
theorem ZrS {R : Type} {E : List V} {s : S} {k : ByteArray → List V → Fl → Int → Int → Option R} {r : R} (h : Zst E s k = some r) : ∃ w_1 e_2 f_3 x_4 x_5, E = Zkj w_1 e_2 f_3 x_4 x_5 ∧ s = [] ∧ k w_1 e_2 f_3 x_4 x_5 = some r := by
 unfold Zst at h
 obtain ⟨hg, h1⟩ := Zad h
 obtain ⟨_, hu1, h2⟩ := ZbI h1
 obtain ⟨_, _, hu7, h3⟩ := ZaA h2
 obtain ⟨_, hu8, h4⟩ := Zai h3
 obtain ⟨_, hu9, h5⟩ := Zai h4
 obtain ⟨rfl, h6⟩ := Zae h5
 exact ⟨_, _, _, _, _, ZaP hg rfl (Zab hu1 (Zab hu7 (Zab hu8 (Zab hu9 ZaG)))), rfl, h6⟩
def Zu5 (N : Nat) : Zaw := (Zac).add [0, 1, 0, 1] fun _ E s K => Zst (Zbc Zmg E) s fun w_1 e_2 f_3 x_4 x_5 => Zgr N w_1 e_2 f_3 x_4 (Zhc K w_1 e_2 f_3 x_4) (Zh9 K w_1 e_2 f_3 x_4) N x_5
theorem ZFG {N : Nat} (hC : Ok Tryz.prog C) (hΦ : Zaa Tryz.prog C (ZuD N)) : Za1 Tryz.prog C (Zu5 N) Zuz [0, 1, 0, 1] :=
 Za2 (Λi := Zac) (tr := true) (ks := Zmg) (kx := Zwl) (N := N) hC hΦ
  (Zah (by kernel_rfl))
  fun R E s K r h => by
   have h2 := Zaw.add_self.symm.trans h
   obtain ⟨_, _, _, _, _, he, rfl, h3⟩ := ZrS h2
   rw [he]
   exact (ZD7 N _ _ _ _ _ N _).trans h3
theorem ZMs : ZaY ZCu [] = [([0, 1, 0, 1], Zuz)] := by kernel_rfl
theorem ZQT {R : Type} (N : Nat) (e_1 : List V) (f_2 : Fl) (w_3 : ByteArray) (K : V → S → Option R) : ZaU C (ZuD N) (Zu5 N) 123 Tryz.f123 [.list 2 e_1 f_2, .str w_3] [] K =
 Zq2 N e_1 f_2 w_3 (fun x_4 => K (.int .i64 x_4) []) := by kernel_rfl
theorem ZBZ {N : Nat} (hC : Ok Tryz.prog C) (hΦ : Zaa Tryz.prog C (ZuD N)) : ZaT Tryz.prog C (Zu5 N) ZCu [] :=
 ZaB ZCu [] (by
  rw [ZMs]
  intro p hp
  simp only [List.mem_cons, List.mem_nil_iff, or_false] at hp
  rcases hp with rfl
  ·exact (ZFG hC hΦ))
theorem ZAC (hC : Ok Tryz.prog C) {N : Nat} (hΦ : Zaa Tryz.prog C (ZuD N)) : Zaa Tryz.prog C (ZHV N) := by
 refine hΦ.add_pure rfl fun R vs K r h => ?_
 unfold ZNL at h
 obtain ⟨_, _, rfl, h1⟩ := Zat h
 obtain ⟨_, _, rfl, h2⟩ := Zal h1
 obtain ⟨_, rfl, h3⟩ := Zao h2
 obtain ⟨_, h4⟩ := Zae h3
 refine Zak (fn := Tryz.f123) (c := ZCu) hC hΦ Tryz.func123 (by kernel_rfl) (by kernel_rfl) (ZBZ (N := N) hC hΦ) rfl rfl ?_
 refine (ZQT N _ _ _ _).trans ?_
 rw [← ZwO]
 exact h4
def ZLU (N : Nat) : (R : Type) → List V → S → (V → S → Option R) → Option R := fun _ vs s K =>
 Zcf vs fun v'1 v'2 => ZFm v'1 fun o0 k'4 k'5 k'6 => isN k'4 0 <| isN k'5 0 <| isN k'6 0 <| asBool v'2 fun b_1 => ZLj s o0 0 fun o'7 => ZdP o'7 7 134 fun e'8 k'9 => isN k'9 0 <| Zcb e'8 fun v'10 => Zgb v'10 fun e_2 f_3 x_4 x_5 x_6 x_7 e_8 f_9 x_10 => Zan (ZbT [o0]) <| Zan (okI 1 [true] [some ⟨[.agg [.list 7 e_2 f_3, .int .i64 x_4, .int .i64 x_5, .int .i64 x_6, .int .i64 x_7, .list 1 e_8 f_9, .int .i64 x_10]], 7, 134, 0⟩]) <| Zz4 N b_1 e_2 f_3 x_4 x_5 x_6 x_7 e_8 f_9 x_10 (fun x_901 e_902 f_903 x_904 x_905 x_906 x_907 e_908 f_909 x_910 => FK s [o0] rl K (.int .i64 x_901) [some ⟨[.agg [.list 7 e_902 f_903, .int .i64 x_904, .int .i64 x_905, .int .i64 x_906, .int .i64 x_907, .list 1 e_908 f_909, .int .i64 x_910]], 7, 134, 0⟩])
def Zvc (N : Nat) : Zar := (ZHV N).add 89 (ZLU N)
def ZQ7 : Code := ZaE Tryz.f89
theorem ZPa {R : Type} (N : Nat) (b_1 : Bool) (e_2 : List V) (f_3 : Fl) (x_4 x_5 x_6 x_7 : Int) (e_8 : List V) (f_9 : Fl) (x_10 : Int) (K : V → S → Option R) : ZaU C (ZHV N) (Zac) 89 Tryz.f89 [.ptr 0 0 0 0, .bool b_1] [some ⟨[.agg [.list 7 e_2 f_3, .int .i64 x_4, .int .i64 x_5, .int .i64 x_6, .int .i64 x_7, .list 1 e_8 f_9, .int .i64 x_10]], 7, 134, 0⟩] (GK rl 1 K) =
 ZpZ N b_1 e_2 f_3 x_4 x_5 x_6 x_7 e_8 f_9 x_10 (fun x_901 e_902 f_903 x_904 x_905 x_906 x_907 e_908 f_909 x_910 => K (.int .i64 x_901) [some ⟨[.agg [.list 7 e_902 f_903, .int .i64 x_904, .int .i64 x_905, .int .i64 x_906, .int .i64 x_907, .list 1 e_908 f_909, .int .i64 x_910]], 7, 134, 0⟩]) := by kernel_rfl
theorem Zzz (hC : Ok Tryz.prog C) {N : Nat} (hΦ : Zaa Tryz.prog C (ZHV N)) : Zaa Tryz.prog C (Zvc N) := by
 refine hΦ.add_shared rfl fun R vs s K r h => ?_
 unfold ZLU at h
 obtain ⟨_, _, rfl, h1⟩ := Zat h
 obtain ⟨o0, _, _, _, rfl, h2⟩ := ZiU h1
 obtain ⟨rfl, h3⟩ := Zas h2
 obtain ⟨rfl, h4⟩ := Zas h3
 obtain ⟨rfl, h5⟩ := Zas h4
 obtain ⟨b_1, rfl, h6⟩ := Zcq h5
 obtain ⟨_, hob0, h7⟩ := ZhX h6
 obtain ⟨_, _, rfl, h8⟩ := ZaK h7
 obtain ⟨rfl, h9⟩ := Zas h8
 obtain ⟨_, rfl, h10⟩ := Zaq h9
 obtain ⟨e_2, f_3, x_4, x_5, x_6, x_7, e_8, f_9, x_10, rfl, h11⟩ := Zjk h10
 obtain ⟨hdist, h12⟩ := Zad h11
 obtain ⟨hin, h13⟩ := Zad h12
 refine ZcU (fn := Tryz.f89) (c := ZQ7) (os := [o0]) (rl := rl) (bi := [true]) (s0 := [some ⟨[.agg [.list 7 e_2 f_3, .int .i64 x_4, .int .i64 x_5, .int .i64 x_6, .int .i64 x_7, .list 1 e_8 f_9, .int .i64 x_10]], 7, 134, 0⟩]) (as0 := [.ptr 0 0 0 0, .bool b_1]) hC hΦ Tryz.func89 (by kernel_rfl) (by kernel_rfl) (Zah (Λ := Zac) (by kernel_rfl)) rfl hdist ⟨⟨_, rfl, hob0⟩, trivial⟩ hin rfl rfl ?_
 refine (ZPa N _ _ _ _ _ _ _ _ _ _ _).trans ?_
 rw [← ZxW]
 exact h13
def ZM8 (N : Nat) : (R : Type) → List V → S → (V → S → Option R) → Option R := fun _ vs s K =>
 ZBj vs fun v'1 v'2 v'3 v'4 => ZaQ v'1 fun e_1 f_2 x_3 => Zba v'2 fun x_4 x_5 => Zbd v'3 fun w_6 => asBool v'4 fun b_7 => ZaF s <| ZDJ N e_1 f_2 x_3 x_4 x_5 w_6 b_7 (fun x_8 x_9 => K (.tuple [.int .i64 x_8, .int .i64 x_9]) [])
def Ztq (N : Nat) : Zar := (Zvc N).add 46 (ZM8 N)
def ZEG : Code := ZaE Tryz.f46
def Zvn : Code := (Zbj ZEG [] 0).2
def ZnM : List Nat := ZbO 60 [3, 4, 10, 11]
def ZwR : List Nat := ZbO 60 [4, 8, 9, 10, 11]
def ZjB (b_1 b_2 : Bool) (e_3 : List V) (f_4 : Fl) (x_5 x_6 x_7 : Int) (e_8 : List V) (f_9 : Fl) (x_10 x_11 x_12 x_13 : Int) (e_14 : List V) (f_16 : Fl) (x_15 : Int) : List V := mkF 0 60 [(3, .bool b_1), (4, .ptr 0 0 0 0), (10, .bool b_2), (11, .ptr 2 0 0 0)]
def Zih {R : Type} (K : X → List V → S → Option R) (b_1 : Bool) (b_2 : Bool) (e_3 : List V) (f_4 : Fl) (x_5 : Int) (x_6 : Int) (x_7 : Int) : Int → List V → Fl → Int → Int → Int → Int → List V → Fl → Int → Option R := (fun x_1' e_2' f_3' x_4' x_5' x_6' x_7' e_8' f_9' x_10' => K .ret (mkF 0 60 [(4, .ptr 0 0 0 0), (8, .int .i64 0), (9, .int .i64 (x_1')), (10, .bool b_2), (11, .ptr 2 0 0 0)]) [some ⟨[.agg [.list 7 e_3 f_4, .int .i64 x_5]], 2, 34, 0⟩, some ⟨[.agg [.int .i64 x_6, .int .i64 x_7]], 2, 36, 0⟩, some ⟨[.agg [.list 7 (e_2') (f_3'), .int .i64 (x_4'), .int .i64 (x_5'), .int .i64 (x_6'), .int .i64 (x_7'), .list 1 (e_8') (f_9'), .int .i64 (x_10')]], 7, 134, 0⟩])
def ZhZ {R : Type} (K : X → List V → S → Option R) (b_1 : Bool) (b_2 : Bool) (e_3 : List V) (f_4 : Fl) (x_5 : Int) (x_6 : Int) (x_7 : Int) : List V → Fl → Int → Int → Int → Int → List V → Fl → Int → Option R := (fun e_1' f_2' x_3' x_4' x_5' x_6' e_7' f_8' x_9' => K (.exit 0) (mkF 0 60 [(4, .ptr 0 0 0 0), (10, .bool b_2), (11, .ptr 2 0 0 0)]) [some ⟨[.agg [.list 7 e_3 f_4, .int .i64 x_5]], 2, 34, 0⟩, some ⟨[.agg [.int .i64 x_6, .int .i64 x_7]], 2, 36, 0⟩, some ⟨[.agg [.list 7 (e_1') (f_2'), .int .i64 (x_3'), .int .i64 (x_4'), .int .i64 (x_5'), .int .i64 (x_6'), .list 1 (e_7') (f_8'), .int .i64 (x_9')]], 7, 134, 0⟩])
abbrev Zm2 {R : Type} (N : Nat) : Nat → List V → S → (X → List V → S → Option R) → Option R := fun n => ZcO C (Zvc N) (Zac) Zvn [0, 0, 1, 1, 1, 1] false ZnM ZwR n R
theorem ZKg {R : Type} (N n : Nat) (b_1 b_2 : Bool) (e_3 : List V) (f_4 : Fl) (x_5 x_6 x_7 : Int) (e_8 : List V) (f_9 : Fl) (x_10 x_11 x_12 x_13 : Int) (e_14 : List V) (f_16 : Fl) (x_15 : Int) (K : X → List V → S → Option R) :
 Zm2 N (n + 1) (ZjB b_1 b_2 e_3 f_4 x_5 x_6 x_7 e_8 f_9 x_10 x_11 x_12 x_13 e_14 f_16 x_15) [some ⟨[.agg [.list 7 e_3 f_4, .int .i64 x_5]], 2, 34, 0⟩, some ⟨[.agg [.int .i64 x_6, .int .i64 x_7]], 2, 36, 0⟩, some ⟨[.agg [.list 7 e_8 f_9, .int .i64 x_10, .int .i64 x_11, .int .i64 x_12, .int .i64 x_13, .list 1 e_14 f_16, .int .i64 x_15]], 7, 134, 0⟩] K =
 Zeg N b_1 b_2 e_3 f_4 x_5 x_6 x_7 (fun e_8 f_9 x_10 x_11 x_12 x_13 e_14 f_16 x_15 => Zm2 N n (ZjB b_1 b_2 e_3 f_4 x_5 x_6 x_7 e_8 f_9 x_10 x_11 x_12 x_13 e_14 f_16 x_15) [some ⟨[.agg [.list 7 e_3 f_4, .int .i64 x_5]], 2, 34, 0⟩, some ⟨[.agg [.int .i64 x_6, .int .i64 x_7]], 2, 36, 0⟩, some ⟨[.agg [.list 7 e_8 f_9, .int .i64 x_10, .int .i64 x_11, .int .i64 x_12, .int .i64 x_13, .list 1 e_14 f_16, .int .i64 x_15]], 7, 134, 0⟩] K) e_8 f_9 x_10 x_11 x_12 x_13 e_14 f_16 x_15 (Zih K b_1 b_2 e_3 f_4 x_5 x_6 x_7) (ZhZ K b_1 b_2 e_3 f_4 x_5 x_6 x_7) := by kernel_rfl
theorem ZCy {R : Type} (N : Nat) (b_1 b_2 : Bool) (e_3 : List V) (f_4 : Fl) (x_5 x_6 x_7 : Int) (K : X → List V → S → Option R) : ∀ (n : Nat) (e_8 : List V) (f_9 : Fl) (x_10 x_11 x_12 x_13 : Int) (e_14 : List V) (f_16 : Fl) (x_15 : Int),
 Zm2 N n (ZjB b_1 b_2 e_3 f_4 x_5 x_6 x_7 e_8 f_9 x_10 x_11 x_12 x_13 e_14 f_16 x_15) [some ⟨[.agg [.list 7 e_3 f_4, .int .i64 x_5]], 2, 34, 0⟩, some ⟨[.agg [.int .i64 x_6, .int .i64 x_7]], 2, 36, 0⟩, some ⟨[.agg [.list 7 e_8 f_9, .int .i64 x_10, .int .i64 x_11, .int .i64 x_12, .int .i64 x_13, .list 1 e_14 f_16, .int .i64 x_15]], 7, 134, 0⟩] K = ZeH N b_1 b_2 e_3 f_4 x_5 x_6 x_7 (Zih K b_1 b_2 e_3 f_4 x_5 x_6 x_7) (ZhZ K b_1 b_2 e_3 f_4 x_5 x_6 x_7) n e_8 f_9 x_10 x_11 x_12 x_13 e_14 f_16 x_15
 | 0, _, _, _, _, _, _, _, _, _ => rfl
 | n + 1, e_8, f_9, x_10, x_11, x_12, x_13, e_14, f_16, x_15 => (ZKg N n b_1 b_2 e_3 f_4 x_5 x_6 x_7 e_8 f_9 x_10 x_11 x_12 x_13 e_14 f_16 x_15 K).trans (congrArg (fun nx => Zeg N b_1 b_2 e_3 f_4 x_5 x_6 x_7 nx e_8 f_9 x_10 x_11 x_12 x_13 e_14 f_16 x_15 (Zih K b_1 b_2 e_3 f_4 x_5 x_6 x_7) (ZhZ K b_1 b_2 e_3 f_4 x_5 x_6 x_7)) (funext fun e_8 => funext fun f_9 => funext fun x_10 => funext fun x_11 => funext fun x_12 => funext fun x_13 => funext fun e_14 => funext fun f_16 => funext fun x_15 => ZCy N b_1 b_2 e_3 f_4 x_5 x_6 x_7 K n e_8 f_9 x_10 x_11 x_12 x_13 e_14 f_16 x_15))
def ZuA {R : Type} (E : List V) (s : S) (k : Bool → Bool → List V → Fl → Int → Int → Int → List V → Fl → Int → Int → Int → Int → List V → Fl → Int → Option R) : Option R :=
 Zan (ZaZ 60 [3, 4, 10, 11] E) <| ZpP E 3 fun b_1 => ZpH E 4 (.ptr 0 0 0 0) <| ZpP E 10 fun b_2 => ZpH E 11 (.ptr 2 0 0 0) <| Zd4 s fun o'1 s'2 => ZdP o'1 2 34 fun e'3 k'4 => isN k'4 0 <| Zcb e'3 fun v'5 => asAgg v'5 fun c'6 => Zcf c'6 fun v'7 v'8 => ZaV 7 v'7 fun e_3 f_4 => asInt .i64 v'8 fun x_5 => Zd4 s'2 fun o'9 s'10 => ZdP o'9 2 36 fun e'11 k'12 => isN k'12 0 <| Zcb e'11 fun v'13 => asAgg v'13 fun c'14 => Zcf c'14 fun v'15 v'16 => asInt .i64 v'15 fun x_6 => asInt .i64 v'16 fun x_7 => Zd4 s'10 fun o'17 s'18 => ZdP o'17 7 134 fun e'19 k'20 => isN k'20 0 <| Zcb e'19 fun v'21 => asAgg v'21 fun c'22 => ZJl c'22 fun v'23 v'24 v'25 v'26 v'27 v'28 v'29 => ZaV 7 v'23 fun e_8 f_9 => asInt .i64 v'24 fun x_10 => asInt .i64 v'25 fun x_11 => asInt .i64 v'26 fun x_12 => asInt .i64 v'27 fun x_13 => ZaV 1 v'28 fun e_14 f_16 => asInt .i64 v'29 fun x_15 => ZaF s'18 <| k b_1 b_2 e_3 f_4 x_5 x_6 x_7 e_8 f_9 x_10 x_11 x_12 x_13 e_14 f_16 x_15
theorem Zrl {R : Type} {E : List V} {s : S} {k : Bool → Bool → List V → Fl → Int → Int → Int → List V → Fl → Int → Int → Int → Int → List V → Fl → Int → Option R} {r : R} (h : ZuA E s k = some r) : ∃ b_1 b_2 e_3 f_4 x_5 x_6 x_7 e_8 f_9 x_10 x_11 x_12 x_13 e_14 f_16 x_15, E = ZjB b_1 b_2 e_3 f_4 x_5 x_6 x_7 e_8 f_9 x_10 x_11 x_12 x_13 e_14 f_16 x_15 ∧ s = [some ⟨[.agg [.list 7 e_3 f_4, .int .i64 x_5]], 2, 34, 0⟩, some ⟨[.agg [.int .i64 x_6, .int .i64 x_7]], 2, 36, 0⟩, some ⟨[.agg [.list 7 e_8 f_9, .int .i64 x_10, .int .i64 x_11, .int .i64 x_12, .int .i64 x_13, .list 1 e_14 f_16, .int .i64 x_15]], 7, 134, 0⟩] ∧ k b_1 b_2 e_3 f_4 x_5 x_6 x_7 e_8 f_9 x_10 x_11 x_12 x_13 e_14 f_16 x_15 = some r := by
 unfold ZuA at h
 obtain ⟨hg, h1⟩ := Zad h
 obtain ⟨_, hu3, h2⟩ := ZeJ h1
 obtain ⟨hu4, h3⟩ := ZbR h2
 obtain ⟨_, hu10, h4⟩ := ZeJ h3
 obtain ⟨hu11, h5⟩ := ZbR h4
 obtain ⟨_, _, rfl, h6⟩ := ZaN h5
 obtain ⟨_, _, rfl, h7⟩ := ZaK h6
 obtain ⟨rfl, h8⟩ := Zas h7
 obtain ⟨_, rfl, h9⟩ := Zaq h8
 obtain ⟨_, rfl, h10⟩ := ZaD h9
 obtain ⟨_, _, rfl, h11⟩ := Zat h10
 obtain ⟨_, _, rfl, h12⟩ := Zal h11
 obtain ⟨_, rfl, h13⟩ := Zaf h12
 obtain ⟨_, _, rfl, h14⟩ := ZaN h13
 obtain ⟨_, _, rfl, h15⟩ := ZaK h14
 obtain ⟨rfl, h16⟩ := Zas h15
 obtain ⟨_, rfl, h17⟩ := Zaq h16
 obtain ⟨_, rfl, h18⟩ := ZaD h17
 obtain ⟨_, _, rfl, h19⟩ := Zat h18
 obtain ⟨_, rfl, h20⟩ := Zaf h19
 obtain ⟨_, rfl, h21⟩ := Zaf h20
 obtain ⟨_, _, rfl, h22⟩ := ZaN h21
 obtain ⟨_, _, rfl, h23⟩ := ZaK h22
 obtain ⟨rfl, h24⟩ := Zas h23
 obtain ⟨_, rfl, h25⟩ := Zaq h24
 obtain ⟨_, rfl, h26⟩ := ZaD h25
 obtain ⟨_, _, _, _, _, _, _, rfl, h27⟩ := Zet h26
 obtain ⟨_, _, rfl, h28⟩ := Zal h27
 obtain ⟨_, rfl, h29⟩ := Zaf h28
 obtain ⟨_, rfl, h30⟩ := Zaf h29
 obtain ⟨_, rfl, h31⟩ := Zaf h30
 obtain ⟨_, rfl, h32⟩ := Zaf h31
 obtain ⟨_, _, rfl, h33⟩ := Zal h32
 obtain ⟨_, rfl, h34⟩ := Zaf h33
 obtain ⟨rfl, h35⟩ := Zae h34
 exact ⟨_, _, _, _, _, _, _, _, _, _, _, _, _, _, _, _, ZaP hg rfl (Zab hu3 (Zab hu4 (Zab hu10 (Zab hu11 ZaG)))), rfl, h35⟩
def Zvk (N : Nat) : Zaw := (Zac).add [0, 0, 1, 1, 1, 1] fun _ E s K => ZuA (Zbc ZnM E) s fun b_1 b_2 e_3 f_4 x_5 x_6 x_7 e_8 f_9 x_10 x_11 x_12 x_13 e_14 f_16 x_15 => ZeH N b_1 b_2 e_3 f_4 x_5 x_6 x_7 (Zih K b_1 b_2 e_3 f_4 x_5 x_6 x_7) (ZhZ K b_1 b_2 e_3 f_4 x_5 x_6 x_7) N e_8 f_9 x_10 x_11 x_12 x_13 e_14 f_16 x_15
theorem ZIm {N : Nat} (hC : Ok Tryz.prog C) (hΦ : Zaa Tryz.prog C (Zvc N)) : Za1 Tryz.prog C (Zvk N) Zvn [0, 0, 1, 1, 1, 1] :=
 Za2 (Λi := Zac) (tr := false) (ks := ZnM) (kx := ZwR) (N := N) hC hΦ
  (Zah (by kernel_rfl))
  fun R E s K r h => by
   have h2 := Zaw.add_self.symm.trans h
   obtain ⟨_, _, _, _, _, _, _, _, _, _, _, _, _, _, _, _, he, rfl, h3⟩ := Zrl h2
   rw [he]
   exact (ZCy N _ _ _ _ _ _ _ _ N _ _ _ _ _ _ _ _ _).trans h3
theorem ZMb : ZaY ZEG [] = [([0, 0, 1, 1, 1, 1], Zvn)] := by kernel_rfl
theorem ZPI {R : Type} (N : Nat) (e_1 : List V) (f_2 : Fl) (x_3 x_4 x_5 : Int) (w_6 : ByteArray) (b_7 : Bool) (K : V → S → Option R) : ZaU C (Zvc N) (Zvk N) 46 Tryz.f46 [.agg [.list 7 e_1 f_2, .int .i64 x_3], .agg [.int .i64 x_4, .int .i64 x_5], .str w_6, .bool b_7] [] K =
 Zo6 N e_1 f_2 x_3 x_4 x_5 w_6 b_7 (fun x_8 x_9 => K (.tuple [.int .i64 x_8, .int .i64 x_9]) []) := by kernel_rfl
theorem ZEd {N : Nat} (hC : Ok Tryz.prog C) (hΦ : Zaa Tryz.prog C (Zvc N)) : ZaT Tryz.prog C (Zvk N) ZEG [] :=
 ZaB ZEG [] (by
  rw [ZMb]
  intro p hp
  simp only [List.mem_cons, List.mem_nil_iff, or_false] at hp
  rcases hp with rfl
  ·exact (ZIm hC hΦ))
theorem ZAu (hC : Ok Tryz.prog C) {N : Nat} (hΦ : Zaa Tryz.prog C (Zvc N)) : Zaa Tryz.prog C (Ztq N) := by
 refine hΦ.add_pure rfl fun R vs K r h => ?_
 unfold ZM8 at h
 obtain ⟨_, _, _, _, rfl, h1⟩ := Zcu h
 obtain ⟨_, _, _, rfl, h2⟩ := Zav h1
 obtain ⟨_, _, rfl, h3⟩ := ZaO h2
 obtain ⟨_, rfl, h4⟩ := Zao h3
 obtain ⟨_, rfl, h5⟩ := Zcq h4
 obtain ⟨_, h6⟩ := Zae h5
 refine Zak (fn := Tryz.f46) (c := ZEG) hC hΦ Tryz.func46 (by kernel_rfl) (by kernel_rfl) (ZEd (N := N) hC hΦ) rfl rfl ?_
 refine (ZPI N _ _ _ _ _ _ _ _).trans ?_
 rw [← ZxJ]
 exact h6
def ZLH (N : Nat) : (R : Type) → List V → S → (V → S → Option R) → Option R := fun _ vs s K =>
 Zcb vs fun v'1 => Zbd v'1 fun w_1 => ZaF s <| ZGL N w_1 (fun e_2 => K (.list 1 e_2 .sh) [])
def ZFL (N : Nat) : Zar := (Ztq N).add 129 (ZLH N)
def ZDe : Code := ZaE Tryz.f129
def ZsX : Code := (Zbj ZDe [] 0).2
def Zl1 : List Nat := ZbO 52 [0, 3, 8, 9, 10]
def Zyc : List Nat := ZbO 52 [3]
def Zjq (w_1 : ByteArray) (e_2 : List V) (x_3 : Int) (k_5 k_6 : Nat) (x_4 : Int) (O_9 : Ob) : List V := mkF 0 52 [(0, .str w_1), (3, .arr 1 k_5 0 k_6), (8, .list 1 e_2 (.own 9)), (9, .int .i64 x_3), (10, .int .i64 x_4)]
def Zhk {R : Type} (K : X → List V → S → Option R) (w_1 : ByteArray) (e_2 : List V) (x_3 : Int) : Nat → Nat → Ob → Option R := (fun k_1' k_2' O_3' => K (.exit 0) (mkF 0 52 [(3, .arr 1 (k_1') 0 (k_2'))]) [some ⟨[], 1, 9, 0⟩, some (O_3')])
abbrev ZlX {R : Type} (N : Nat) : Nat → List V → S → (X → List V → S → Option R) → Option R := fun n => ZcO C.objs (Ztq N) (Zac) ZsX [0, 1, 0, 1, 1] false Zl1 Zyc n R
theorem ZJu {R : Type} (N n : Nat) (w_1 : ByteArray) (e_2 : List V) (x_3 : Int) (k_5 k_6 : Nat) (x_4 : Int) (O_9 : Ob) (K : X → List V → S → Option R) :
 ZlX N (n + 1) (Zjq w_1 e_2 x_3 k_5 k_6 x_4 O_9) [some ⟨[], 1, 9, 0⟩, some O_9] K =
 ZcF N w_1 e_2 x_3 (fun k_5 k_6 x_4 O_9 => ZlX N n (Zjq w_1 e_2 x_3 k_5 k_6 x_4 O_9) [some ⟨[], 1, 9, 0⟩, some O_9] K) k_5 k_6 x_4 O_9 (Zhk K w_1 e_2 x_3) := by kernel_rfl
theorem ZB9 {R : Type} (N : Nat) (w_1 : ByteArray) (e_2 : List V) (x_3 : Int) (K : X → List V → S → Option R) : ∀ (n : Nat) (k_5 k_6 : Nat) (x_4 : Int) (O_9 : Ob),
 ZlX N n (Zjq w_1 e_2 x_3 k_5 k_6 x_4 O_9) [some ⟨[], 1, 9, 0⟩, some O_9] K = ZfB N w_1 e_2 x_3 (Zhk K w_1 e_2 x_3) n k_5 k_6 x_4 O_9
 | 0, _, _, _, _ => rfl
 | n + 1, k_5, k_6, x_4, O_9 => (ZJu N n w_1 e_2 x_3 k_5 k_6 x_4 O_9 K).trans (congrArg (fun nx => ZcF N w_1 e_2 x_3 nx k_5 k_6 x_4 O_9 (Zhk K w_1 e_2 x_3)) (funext fun k_5 => funext fun k_6 => funext fun x_4 => funext fun O_9 => ZB9 N w_1 e_2 x_3 K n k_5 k_6 x_4 O_9))
def Zvm {R : Type} (E : List V) (s : S) (k : ByteArray → Nat → Nat → List V → Int → Int → Ob → Option R) : Option R :=
 Zan (ZaZ 52 [0, 3, 8, 9, 10] E) <| ZfO E 0 fun w_1 => Zbu (nth E 3) fun u3 => ZiG u3 fun k'1 k_5 k'2 k_6 => isN k'1 1 <| isN k'2 0 <| Zbu (nth E 8) fun u8 => ZaV 1 u8 fun e_2 f'3 => Zn5 9 f'3 <| ZaR E 9 .i64 fun x_3 => ZaR E 10 .i64 fun x_4 => Zd4 s fun o'4 s'5 => ZdP o'4 1 9 fun e'6 k'7 => isN k'7 0 <| Zy3 e'6 <| Zd4 s'5 fun O_9 s'8 => ZaF s'8 <| k w_1 k_5 k_6 e_2 x_3 x_4 O_9
theorem Zqf {R : Type} {E : List V} {s : S} {k : ByteArray → Nat → Nat → List V → Int → Int → Ob → Option R} {r : R} (h : Zvm E s k = some r) : ∃ w_1 k_5 k_6 e_2 x_3 x_4 O_9, E = Zjq w_1 e_2 x_3 k_5 k_6 x_4 O_9 ∧ s = [some ⟨[], 1, 9, 0⟩, some O_9] ∧ k w_1 k_5 k_6 e_2 x_3 x_4 O_9 = some r := by
 unfold Zvm at h
 obtain ⟨hg, h1⟩ := Zad h
 obtain ⟨_, hu0, h2⟩ := ZbI h1
 obtain ⟨_, hu3, h3⟩ := Zag h2
 obtain ⟨_, _, _, _, rfl, h4⟩ := Zb5 h3
 obtain ⟨rfl, h5⟩ := Zas h4
 obtain ⟨rfl, h6⟩ := Zas h5
 obtain ⟨_, hu8, h7⟩ := Zag h6
 obtain ⟨_, _, rfl, h8⟩ := Zal h7
 obtain ⟨rfl, h9⟩ := ZcQ h8
 obtain ⟨_, hu9, h10⟩ := Zai h9
 obtain ⟨_, hu10, h11⟩ := Zai h10
 obtain ⟨_, _, rfl, h12⟩ := ZaN h11
 obtain ⟨_, _, rfl, h13⟩ := ZaK h12
 obtain ⟨rfl, h14⟩ := Zas h13
 obtain ⟨rfl, h15⟩ := Zcp h14
 obtain ⟨_, _, rfl, h16⟩ := ZaN h15
 obtain ⟨rfl, h17⟩ := Zae h16
 exact ⟨_, _, _, _, _, _, _, ZaP hg rfl (Zab hu0 (Zab hu3 (Zab hu8 (Zab hu9 (Zab hu10 ZaG))))), rfl, h17⟩
def ZsP (N : Nat) : Zaw := (Zac).add [0, 1, 0, 1, 1] fun _ E s K => Zvm (Zbc Zl1 E) s fun w_1 k_5 k_6 e_2 x_3 x_4 O_9 => ZfB N w_1 e_2 x_3 (Zhk K w_1 e_2 x_3) N k_5 k_6 x_4 O_9
theorem ZHd {N : Nat} (hC : Ok Tryz.prog C) (hΦ : Zaa Tryz.prog C (Ztq N)) : Za1 Tryz.prog C.objs (ZsP N) ZsX [0, 1, 0, 1, 1] :=
 Za2 (Λi := Zac) (tr := false) (ks := Zl1) (kx := Zyc) (N := N) hC.objs hΦ.objs
  (Zah (by kernel_rfl))
  fun R E s K r h => by
   have h2 := Zaw.add_self.symm.trans h
   obtain ⟨_, _, _, _, _, _, _, he, rfl, h3⟩ := Zqf h2
   rw [he]
   exact (ZB9 N _ _ _ _ N _ _ _ _).trans h3
theorem ZMm : ZaY ZDe [] = [([0, 1, 0, 1, 1], ZsX)] := by kernel_rfl
theorem ZPj {R : Type} (N : Nat) (w_1 : ByteArray) (K : V → S → Option R) : ZaU C.objs (Ztq N) (ZsP N) 129 Tryz.f129 [.str w_1] [] K =
 Zqb N w_1 (fun e_2 => K (.list 1 e_2 .sh) []) := by kernel_rfl
theorem ZDZ {N : Nat} (hC : Ok Tryz.prog C) (hΦ : Zaa Tryz.prog C (Ztq N)) : ZaT Tryz.prog C.objs (ZsP N) ZDe [] :=
 ZaB ZDe [] (by
  rw [ZMm]
  intro p hp
  simp only [List.mem_cons, List.mem_nil_iff, or_false] at hp
  rcases hp with rfl
  ·exact (ZHd hC hΦ))
theorem ZAn (hC : Ok Tryz.prog C) {N : Nat} (hΦ : Zaa Tryz.prog C (Ztq N)) : Zaa Tryz.prog C (ZFL N) := by
 refine hΦ.add_pure rfl fun R vs K r h => ?_
 unfold ZLH at h
 obtain ⟨_, rfl, h1⟩ := Zaq h
 obtain ⟨_, rfl, h2⟩ := Zao h1
 obtain ⟨_, h3⟩ := Zae h2
 refine Zak (fn := Tryz.f129) (c := ZDe) hC.objs hΦ.objs Tryz.func129 (by kernel_rfl) (by kernel_rfl) (ZDZ (N := N) hC hΦ) rfl rfl ?_
 refine (ZPj N _ _).trans ?_
 rw [← Zw3]
 exact h3
def ZLP (N : Nat) : (R : Type) → List V → S → (V → S → Option R) → Option R := fun _ vs s K =>
 Zcb vs fun v'1 => Zbd v'1 fun w_1 => ZaF s <| ZG1 N w_1 (fun w_2 => K (.str w_2) [])
def ZmY (N : Nat) : Zar := (ZFL N).add 77 (ZLP N)
def ZPM : Code := ZaE Tryz.f77
theorem ZPB {R : Type} (N : Nat) (w_1 : ByteArray) (K : V → S → Option R) : ZaU C (ZFL N) (Zac) 77 Tryz.f77 [.str w_1] [] K =
 Zqt N w_1 (fun w_2 => K (.str w_2) []) := by kernel_rfl
theorem ZAU (hC : Ok Tryz.prog C) {N : Nat} (hΦ : Zaa Tryz.prog C (ZFL N)) : Zaa Tryz.prog C (ZmY N) := by
 refine hΦ.add_pure rfl fun R vs K r h => ?_
 unfold ZLP at h
 obtain ⟨_, rfl, h1⟩ := Zaq h
 obtain ⟨_, rfl, h2⟩ := Zao h1
 obtain ⟨_, h3⟩ := Zae h2
 refine Zak (fn := Tryz.f77) (c := ZPM) hC hΦ Tryz.func77 (by kernel_rfl) (by kernel_rfl) (Zah (Λ := Zac) (by kernel_rfl)) rfl rfl ?_
 refine (ZPB N _ _).trans ?_
 rw [← Zv4]
 exact h3
def ZLG (N : Nat) : (R : Type) → List V → S → (V → S → Option R) → Option R := fun _ vs s K =>
 Zcb vs fun v'1 => Zbd v'1 fun w_1 => ZaF s <| ZI0 N w_1 (fun w_2 => K (.str w_2) [])
def ZFP (N : Nat) : Zar := (ZmY N).add 118 (ZLG N)
def Zzv : Code := ZaE Tryz.f118
def ZsF : Code := (Zbj Zzv [] 0).2
def Zsc : Code := (Zbj Zzv [] 1).2
def Zol : List Nat := ZbO 27 [0, 3]
def Zv9 : List Nat := ZbO 27 [0, 3]
def ZjC (w_1 : ByteArray) (x_2 : Int) : List V := mkF 0 27 [(0, .str w_1), (3, .int .i64 x_2)]
def Zhj {R : Type} (K : X → List V → S → Option R) (w_1 : ByteArray) : Int → Option R := (fun x_1' => K (.exit 0) (mkF 0 27 [(0, .str w_1), (3, .int .i64 (x_1'))]) [])
abbrev ZmW {R : Type} (N : Nat) : Nat → List V → S → (X → List V → S → Option R) → Option R := fun n => ZcO C (ZmY N) (Zac) ZsF [0, 0, 1, 1] false Zol Zv9 n R
theorem ZKZ {R : Type} (N n : Nat) (w_1 : ByteArray) (x_2 : Int) (K : X → List V → S → Option R) :
 ZmW N (n + 1) (ZjC w_1 x_2) [] K =
 Zds N w_1 (fun x_2 => ZmW N n (ZjC w_1 x_2) [] K) x_2 (Zhj K w_1) := by kernel_rfl
theorem ZCB {R : Type} (N : Nat) (w_1 : ByteArray) (K : X → List V → S → Option R) : ∀ (n : Nat) (x_2 : Int),
 ZmW N n (ZjC w_1 x_2) [] K = Zgo N w_1 (Zhj K w_1) n x_2
 | 0, _ => rfl
 | n + 1, x_2 => (ZKZ N n w_1 x_2 K).trans (congrArg (fun nx => Zds N w_1 nx x_2 (Zhj K w_1)) (funext fun x_2 => ZCB N w_1 K n x_2))
def ZtK {R : Type} (E : List V) (s : S) (k : ByteArray → Int → Option R) : Option R :=
 Zan (ZaZ 27 [0, 3] E) <| ZfO E 0 fun w_1 => ZaR E 3 .i64 fun x_2 => ZaF s <| k w_1 x_2
theorem Zro {R : Type} {E : List V} {s : S} {k : ByteArray → Int → Option R} {r : R} (h : ZtK E s k = some r) : ∃ w_1 x_2, E = ZjC w_1 x_2 ∧ s = [] ∧ k w_1 x_2 = some r := by
 unfold ZtK at h
 obtain ⟨hg, h1⟩ := Zad h
 obtain ⟨_, hu0, h2⟩ := ZbI h1
 obtain ⟨_, hu3, h3⟩ := Zai h2
 obtain ⟨rfl, h4⟩ := Zae h3
 exact ⟨_, _, ZaP hg rfl (Zab hu0 (Zab hu3 ZaG)), rfl, h4⟩
def Zme (N : Nat) : Zaw := (Zac).add [0, 0, 1, 1] fun _ E s K => ZtK (Zbc Zol E) s fun w_1 x_2 => Zgo N w_1 (Zhj K w_1) N x_2
theorem ZGH {N : Nat} (hC : Ok Tryz.prog C) (hΦ : Zaa Tryz.prog C (ZmY N)) : Za1 Tryz.prog C (Zme N) ZsF [0, 0, 1, 1] :=
 Za2 (Λi := Zac) (tr := false) (ks := Zol) (kx := Zv9) (N := N) hC hΦ
  (Zah (by kernel_rfl))
  fun R E s K r h => by
   have h2 := Zaw.add_self.symm.trans h
   obtain ⟨_, _, he, rfl, h3⟩ := Zro h2
   rw [he]
   exact (ZCB N _ _ N _).trans h3
def Zn7 : List Nat := ZbO 27 [0, 3]
def Zw4 : List Nat := ZbO 27 [0, 3]
def ZjH (w_1 : ByteArray) (x_2 : Int) : List V := mkF 0 27 [(0, .str w_1), (3, .int .i64 x_2)]
def Zib {R : Type} (K : X → List V → S → Option R) (w_1 : ByteArray) : Int → Option R := (fun x_1' => K (.exit 2) (mkF 0 27 [(0, .str w_1), (3, .int .i64 (x_1'))]) [])
abbrev Zng {R : Type} (N : Nat) : Nat → List V → S → (X → List V → S → Option R) → Option R := fun n => ZcO C (ZmY N) (Zme N) Zsc [0, 0, 1, 1, 1] false Zn7 Zw4 n R
theorem ZKm {R : Type} (N n : Nat) (w_1 : ByteArray) (x_2 : Int) (K : X → List V → S → Option R) :
 Zng N (n + 1) (ZjH w_1 x_2) [] K =
 Zed N w_1 (fun x_2 => Zng N n (ZjH w_1 x_2) [] K) x_2 (Zib K w_1) := by kernel_rfl
theorem ZEP {R : Type} (N : Nat) (w_1 : ByteArray) (K : X → List V → S → Option R) : ∀ (n : Nat) (x_2 : Int),
 Zng N n (ZjH w_1 x_2) [] K = Zgh N w_1 (Zib K w_1) n x_2
 | 0, _ => rfl
 | n + 1, x_2 => (ZKm N n w_1 x_2 K).trans (congrArg (fun nx => Zed N w_1 nx x_2 (Zib K w_1)) (funext fun x_2 => ZEP N w_1 K n x_2))
def ZuR {R : Type} (E : List V) (s : S) (k : ByteArray → Int → Option R) : Option R :=
 Zan (ZaZ 27 [0, 3] E) <| ZfO E 0 fun w_1 => ZaR E 3 .i64 fun x_2 => ZaF s <| k w_1 x_2
theorem ZqF {R : Type} {E : List V} {s : S} {k : ByteArray → Int → Option R} {r : R} (h : ZuR E s k = some r) : ∃ w_1 x_2, E = ZjH w_1 x_2 ∧ s = [] ∧ k w_1 x_2 = some r := by
 unfold ZuR at h
 obtain ⟨hg, h1⟩ := Zad h
 obtain ⟨_, hu0, h2⟩ := ZbI h1
 obtain ⟨_, hu3, h3⟩ := Zai h2
 obtain ⟨rfl, h4⟩ := Zae h3
 exact ⟨_, _, ZaP hg rfl (Zab hu0 (Zab hu3 ZaG)), rfl, h4⟩
def Zs4 (N : Nat) : Zaw := (Zme N).add [0, 0, 1, 1, 1] fun _ E s K => ZuR (Zbc Zn7 E) s fun w_1 x_2 => Zgh N w_1 (Zib K w_1) N x_2
theorem ZIc {N : Nat} (hC : Ok Tryz.prog C) (hΦ : Zaa Tryz.prog C (ZmY N)) : Za1 Tryz.prog C (Zs4 N) Zsc [0, 0, 1, 1, 1] :=
 Za2 (Λi := Zme N) (tr := false) (ks := Zn7) (kx := Zw4) (N := N) hC hΦ
  (Zah (by kernel_rfl))
  fun R E s K r h => by
   have h2 := Zaw.add_self.symm.trans h
   obtain ⟨_, _, he, rfl, h3⟩ := ZqF h2
   rw [he]
   exact (ZEP N _ _ N _).trans h3
theorem ZL9 : ZaY Zzv [] = [([0, 0, 1, 1], ZsF), ([0, 0, 1, 1, 1], Zsc)] := by kernel_rfl
theorem ZOL {R : Type} (N : Nat) (w_1 : ByteArray) (K : V → S → Option R) : ZaU C (ZmY N) (Zs4 N) 118 Tryz.f118 [.str w_1] [] K =
 Zq6 N w_1 (fun w_2 => K (.str w_2) []) := by kernel_rfl
theorem ZDR {N : Nat} (hC : Ok Tryz.prog C) (hΦ : Zaa Tryz.prog C (ZmY N)) : ZaT Tryz.prog C (Zs4 N) Zzv [] :=
 ZaB Zzv [] (by
  rw [ZL9]
  intro p hp
  simp only [List.mem_cons, List.mem_nil_iff, or_false] at hp
  rcases hp with rfl | rfl
  ·exact (Za1.add (ZGH hC hΦ) rfl)
  ·exact (ZIc hC hΦ))
theorem ZyG (hC : Ok Tryz.prog C) {N : Nat} (hΦ : Zaa Tryz.prog C (ZmY N)) : Zaa Tryz.prog C (ZFP N) := by
 refine hΦ.add_pure rfl fun R vs K r h => ?_
 unfold ZLG at h
 obtain ⟨_, rfl, h1⟩ := Zaq h
 obtain ⟨_, rfl, h2⟩ := Zao h1
 obtain ⟨_, h3⟩ := Zae h2
 refine Zak (fn := Tryz.f118) (c := Zzv) hC hΦ Tryz.func118 (by kernel_rfl) (by kernel_rfl) (ZDR (N := N) hC hΦ) rfl rfl ?_
 refine (ZOL N _ _).trans ?_
 rw [← Zxi]
 exact h3
def ZMr (N : Nat) : (R : Type) → List V → S → (V → S → Option R) → Option R := fun _ vs s K =>
 ZBm vs fun v'1 v'2 v'3 => ZaQ v'1 fun e_1 f_2 x_3 => Zba v'2 fun x_4 x_5 => Zbd v'3 fun w_6 => ZaF s <| ZIa N e_1 f_2 x_3 x_4 x_5 w_6 (fun x_7 w_8 x_9 => K (.tuple [.int .i64 x_7, .str w_8, .int .i64 x_9]) [])
def ZHS (N : Nat) : Zar := (ZFP N).add 70 (ZMr N)
def ZQV : Code := ZaE Tryz.f70
theorem ZOE {R : Type} (N : Nat) (e_1 : List V) (f_2 : Fl) (x_3 x_4 x_5 : Int) (w_6 : ByteArray) (K : V → S → Option R) : ZaU C (ZFP N) (Zac) 70 Tryz.f70 [.agg [.list 7 e_1 f_2, .int .i64 x_3], .agg [.int .i64 x_4, .int .i64 x_5], .str w_6] [] K =
 Zrv N e_1 f_2 x_3 x_4 x_5 w_6 (fun x_7 w_8 x_9 => K (.tuple [.int .i64 x_7, .str w_8, .int .i64 x_9]) []) := by kernel_rfl
theorem ZyH (hC : Ok Tryz.prog C) {N : Nat} (hΦ : Zaa Tryz.prog C (ZFP N)) : Zaa Tryz.prog C (ZHS N) := by
 refine hΦ.add_pure rfl fun R vs K r h => ?_
 unfold ZMr at h
 obtain ⟨_, _, _, rfl, h1⟩ := Zcn h
 obtain ⟨_, _, _, rfl, h2⟩ := Zav h1
 obtain ⟨_, _, rfl, h3⟩ := ZaO h2
 obtain ⟨_, rfl, h4⟩ := Zao h3
 obtain ⟨_, h5⟩ := Zae h4
 refine Zak (fn := Tryz.f70) (c := ZQV) hC hΦ Tryz.func70 (by kernel_rfl) (by kernel_rfl) (Zah (Λ := Zac) (by kernel_rfl)) rfl rfl ?_
 refine (ZOE N _ _ _ _ _ _ _).trans ?_
 rw [← Zyl]
 exact h5
def ZMH (N : Nat) : (R : Type) → List V → S → (V → S → Option R) → Option R := fun _ vs s K =>
 Zcb vs fun v'1 => Zbd v'1 fun w_1 => ZaF s <| Zlg N w_1 (fun w_2 => K (.str w_2) [])
def ZI8 (N : Nat) : Zar := (ZHS N).add 122 (ZMH N)
def ZRh : Code := ZaE Tryz.f122
theorem ZRa {R : Type} (N : Nat) (w_1 : ByteArray) (K : V → S → Option R) : ZaU C (ZHS N) (Zac) 122 Tryz.f122 [.str w_1] [] K =
 Zqn N w_1 (fun w_2 => K (.str w_2) []) := by kernel_rfl
theorem Zzn (hC : Ok Tryz.prog C) {N : Nat} (hΦ : Zaa Tryz.prog C (ZHS N)) : Zaa Tryz.prog C (ZI8 N) := by
 refine hΦ.add_pure rfl fun R vs K r h => ?_
 unfold ZMH at h
 obtain ⟨_, rfl, h1⟩ := Zaq h
 obtain ⟨_, rfl, h2⟩ := Zao h1
 obtain ⟨_, h3⟩ := Zae h2
 refine Zak (fn := Tryz.f122) (c := ZRh) hC hΦ Tryz.func122 (by kernel_rfl) (by kernel_rfl) (Zah (Λ := Zac) (by kernel_rfl)) rfl rfl ?_
 refine (ZRa N _ _).trans ?_
 rw [← Zxa]
 exact h3
def ZNT (N : Nat) : (R : Type) → List V → S → (V → S → Option R) → Option R := fun _ vs s K =>
 ZBm vs fun v'1 v'2 v'3 => ZaQ v'1 fun e_1 f_2 x_3 => Zba v'2 fun x_4 x_5 => asInt .i64 v'3 fun x_6 => ZaF s <| ZKB N e_1 f_2 x_3 x_4 x_5 x_6 (fun b_7 => K (.bool b_7) [])
def Zvd (N : Nat) : Zar := (ZI8 N).add 124 (ZNT N)
def ZPX : Code := ZaE Tryz.f124
theorem ZQh {R : Type} (N : Nat) (e_1 : List V) (f_2 : Fl) (x_3 x_4 x_5 x_6 : Int) (K : V → S → Option R) : ZaU C (ZI8 N) (Zac) 124 Tryz.f124 [.agg [.list 7 e_1 f_2, .int .i64 x_3], .agg [.int .i64 x_4, .int .i64 x_5], .int .i64 x_6] [] K =
 Zrd N e_1 f_2 x_3 x_4 x_5 x_6 (fun b_7 => K (.bool b_7) []) := by kernel_rfl
theorem ZBb (hC : Ok Tryz.prog C) {N : Nat} (hΦ : Zaa Tryz.prog C (ZI8 N)) : Zaa Tryz.prog C (Zvd N) := by
 refine hΦ.add_pure rfl fun R vs K r h => ?_
 unfold ZNT at h
 obtain ⟨_, _, _, rfl, h1⟩ := Zcn h
 obtain ⟨_, _, _, rfl, h2⟩ := Zav h1
 obtain ⟨_, _, rfl, h3⟩ := ZaO h2
 obtain ⟨_, rfl, h4⟩ := Zaf h3
 obtain ⟨_, h5⟩ := Zae h4
 refine Zak (fn := Tryz.f124) (c := ZPX) hC hΦ Tryz.func124 (by kernel_rfl) (by kernel_rfl) (Zah (Λ := Zac) (by kernel_rfl)) rfl rfl ?_
 refine (ZQh N _ _ _ _ _ _ _).trans ?_
 rw [← ZvV]
 exact h5
def ZMz (N : Nat) : (R : Type) → List V → S → (V → S → Option R) → Option R := fun _ vs s K =>
 ZBm vs fun v'1 v'2 v'3 => ZaQ v'1 fun e_1 f_2 x_3 => asInt .i64 v'2 fun x_4 => asInt .i64 v'3 fun x_5 => ZaF s <| ZHo N e_1 f_2 x_3 x_4 x_5 (fun b_6 => K (.bool b_6) [])
def ZF0 (N : Nat) : Zar := (Zvd N).add 125 (ZMz N)
def ZCL : Code := ZaE Tryz.f125
def ZtO : Code := (Zbj ZCL [] 0).2
def Znf : List Nat := ZbO 20 [1, 2, 3]
def Zxo : List Nat := ZbO 20 [1, 2]
def Zj1 (x_1 : Int) (e_3 : List V) (f_4 : Fl) (x_5 x_2 : Int) : List V := mkF 0 20 [(1, .int .i64 x_1), (2, .int .i64 x_2), (3, .ptr 0 0 0 0)]
def ZgN {R : Type} (K : X → List V → S → Option R) (x_1 : Int) (e_3 : List V) (f_4 : Fl) (x_5 : Int) : Int → Option R := (fun x_1' => K (.exit 0) (mkF 0 20 [(1, .int .i64 x_1), (2, .int .i64 (x_1'))]) [some ⟨[.agg [.list 7 e_3 f_4, .int .i64 x_5]], 2, 34, 0⟩])
abbrev Zl6 {R : Type} (N : Nat) : Nat → List V → S → (X → List V → S → Option R) → Option R := fun n => ZcO C (Zvd N) (Zac) ZtO [0, 0, 1] false Znf Zxo n R
theorem ZK7 {R : Type} (N n : Nat) (x_1 : Int) (e_3 : List V) (f_4 : Fl) (x_5 : Int) (x_2 : Int) (K : X → List V → S → Option R) :
 Zl6 N (n + 1) (Zj1 x_1 e_3 f_4 x_5 x_2) [some ⟨[.agg [.list 7 e_3 f_4, .int .i64 x_5]], 2, 34, 0⟩] K =
 Zd8 N x_1 e_3 f_4 x_5 (fun x_2 => Zl6 N n (Zj1 x_1 e_3 f_4 x_5 x_2) [some ⟨[.agg [.list 7 e_3 f_4, .int .i64 x_5]], 2, 34, 0⟩] K) x_2 (ZgN K x_1 e_3 f_4 x_5) := by kernel_rfl
theorem ZEO {R : Type} (N : Nat) (x_1 : Int) (e_3 : List V) (f_4 : Fl) (x_5 : Int) (K : X → List V → S → Option R) : ∀ (n : Nat) (x_2 : Int),
 Zl6 N n (Zj1 x_1 e_3 f_4 x_5 x_2) [some ⟨[.agg [.list 7 e_3 f_4, .int .i64 x_5]], 2, 34, 0⟩] K = ZiZ N x_1 e_3 f_4 x_5 (ZgN K x_1 e_3 f_4 x_5) n x_2
 | 0, _ => rfl
 | n + 1, x_2 => (ZK7 N n x_1 e_3 f_4 x_5 x_2 K).trans (congrArg (fun nx => Zd8 N x_1 e_3 f_4 x_5 nx x_2 (ZgN K x_1 e_3 f_4 x_5)) (funext fun x_2 => ZEO N x_1 e_3 f_4 x_5 K n x_2))
def Zse {R : Type} (E : List V) (s : S) (k : Int → Int → List V → Fl → Int → Option R) : Option R :=
 Zan (ZaZ 20 [1, 2, 3] E) <| ZaR E 1 .i64 fun x_1 => ZaR E 2 .i64 fun x_2 => ZpH E 3 (.ptr 0 0 0 0) <| Zd4 s fun o'1 s'2 => ZdP o'1 2 34 fun e'3 k'4 => isN k'4 0 <| Zcb e'3 fun v'5 => asAgg v'5 fun c'6 => Zcf c'6 fun v'7 v'8 => ZaV 7 v'7 fun e_3 f_4 => asInt .i64 v'8 fun x_5 => ZaF s'2 <| k x_1 x_2 e_3 f_4 x_5
theorem Zpv {R : Type} {E : List V} {s : S} {k : Int → Int → List V → Fl → Int → Option R} {r : R} (h : Zse E s k = some r) : ∃ x_1 x_2 e_3 f_4 x_5, E = Zj1 x_1 e_3 f_4 x_5 x_2 ∧ s = [some ⟨[.agg [.list 7 e_3 f_4, .int .i64 x_5]], 2, 34, 0⟩] ∧ k x_1 x_2 e_3 f_4 x_5 = some r := by
 unfold Zse at h
 obtain ⟨hg, h1⟩ := Zad h
 obtain ⟨_, hu1, h2⟩ := Zai h1
 obtain ⟨_, hu2, h3⟩ := Zai h2
 obtain ⟨hu3, h4⟩ := ZbR h3
 obtain ⟨_, _, rfl, h5⟩ := ZaN h4
 obtain ⟨_, _, rfl, h6⟩ := ZaK h5
 obtain ⟨rfl, h7⟩ := Zas h6
 obtain ⟨_, rfl, h8⟩ := Zaq h7
 obtain ⟨_, rfl, h9⟩ := ZaD h8
 obtain ⟨_, _, rfl, h10⟩ := Zat h9
 obtain ⟨_, _, rfl, h11⟩ := Zal h10
 obtain ⟨_, rfl, h12⟩ := Zaf h11
 obtain ⟨rfl, h13⟩ := Zae h12
 exact ⟨_, _, _, _, _, ZaP hg rfl (Zab hu1 (Zab hu2 (Zab hu3 ZaG))), rfl, h13⟩
def Zu8 (N : Nat) : Zaw := (Zac).add [0, 0, 1] fun _ E s K => Zse (Zbc Znf E) s fun x_1 x_2 e_3 f_4 x_5 => ZiZ N x_1 e_3 f_4 x_5 (ZgN K x_1 e_3 f_4 x_5) N x_2
theorem ZF5 {N : Nat} (hC : Ok Tryz.prog C) (hΦ : Zaa Tryz.prog C (Zvd N)) : Za1 Tryz.prog C (Zu8 N) ZtO [0, 0, 1] :=
 Za2 (Λi := Zac) (tr := false) (ks := Znf) (kx := Zxo) (N := N) hC hΦ
  (Zah (by kernel_rfl))
  fun R E s K r h => by
   have h2 := Zaw.add_self.symm.trans h
   obtain ⟨_, _, _, _, _, he, rfl, h3⟩ := Zpv h2
   rw [he]
   exact (ZEO N _ _ _ _ _ N _).trans h3
theorem ZN0 : ZaY ZCL [] = [([0, 0, 1], ZtO)] := by kernel_rfl
theorem ZQ6 {R : Type} (N : Nat) (e_1 : List V) (f_2 : Fl) (x_3 x_4 x_5 : Int) (K : V → S → Option R) : ZaU C (Zvd N) (Zu8 N) 125 Tryz.f125 [.agg [.list 7 e_1 f_2, .int .i64 x_3], .int .i64 x_4, .int .i64 x_5] [] K =
 Zqh N e_1 f_2 x_3 x_4 x_5 (fun b_6 => K (.bool b_6) []) := by kernel_rfl
theorem ZE4 {N : Nat} (hC : Ok Tryz.prog C) (hΦ : Zaa Tryz.prog C (Zvd N)) : ZaT Tryz.prog C (Zu8 N) ZCL [] :=
 ZaB ZCL [] (by
  rw [ZN0]
  intro p hp
  simp only [List.mem_cons, List.mem_nil_iff, or_false] at hp
  rcases hp with rfl
  ·exact (ZF5 hC hΦ))
theorem Zzq (hC : Ok Tryz.prog C) {N : Nat} (hΦ : Zaa Tryz.prog C (Zvd N)) : Zaa Tryz.prog C (ZF0 N) := by
 refine hΦ.add_pure rfl fun R vs K r h => ?_
 unfold ZMz at h
 obtain ⟨_, _, _, rfl, h1⟩ := Zcn h
 obtain ⟨_, _, _, rfl, h2⟩ := Zav h1
 obtain ⟨_, rfl, h3⟩ := Zaf h2
 obtain ⟨_, rfl, h4⟩ := Zaf h3
 obtain ⟨_, h5⟩ := Zae h4
 refine Zak (fn := Tryz.f125) (c := ZCL) hC hΦ Tryz.func125 (by kernel_rfl) (by kernel_rfl) (ZE4 (N := N) hC hΦ) rfl rfl ?_
 refine (ZQ6 N _ _ _ _ _ _).trans ?_
 rw [← Zwd]
 exact h5
def ZMd (N : Nat) : (R : Type) → List V → S → (V → S → Option R) → Option R := fun _ vs s K =>
 ZBj vs fun v'1 v'2 v'3 v'4 => ZaQ v'1 fun e_1 f_2 x_3 => Zba v'2 fun x_4 x_5 => Zbd v'3 fun w_6 => Zbd v'4 fun w_7 => ZaF s <| ZIr N e_1 f_2 x_3 x_4 x_5 w_6 w_7 (fun x_8 w_9 x_10 x_11 w_12 => K (.tuple [.int .i64 x_8, .str w_9, .int .i64 x_10, .int .i64 x_11, .str w_12]) [])
def ZIg (N : Nat) : Zar := (ZF0 N).add 72 (ZMd N)
def ZP9 : Code := ZaE Tryz.f72
theorem ZPy {R : Type} (N : Nat) (e_1 : List V) (f_2 : Fl) (x_3 x_4 x_5 : Int) (w_6 w_7 : ByteArray) (K : V → S → Option R) : ZaU C (ZF0 N) (Zac) 72 Tryz.f72 [.agg [.list 7 e_1 f_2, .int .i64 x_3], .agg [.int .i64 x_4, .int .i64 x_5], .str w_6, .str w_7] [] K =
 ZoD N e_1 f_2 x_3 x_4 x_5 w_6 w_7 (fun x_8 w_9 x_10 x_11 w_12 => K (.tuple [.int .i64 x_8, .str w_9, .int .i64 x_10, .int .i64 x_11, .str w_12]) []) := by kernel_rfl
theorem ZzT (hC : Ok Tryz.prog C) {N : Nat} (hΦ : Zaa Tryz.prog C (ZF0 N)) : Zaa Tryz.prog C (ZIg N) := by
 refine hΦ.add_pure rfl fun R vs K r h => ?_
 unfold ZMd at h
 obtain ⟨_, _, _, _, rfl, h1⟩ := Zcu h
 obtain ⟨_, _, _, rfl, h2⟩ := Zav h1
 obtain ⟨_, _, rfl, h3⟩ := ZaO h2
 obtain ⟨_, rfl, h4⟩ := Zao h3
 obtain ⟨_, rfl, h5⟩ := Zao h4
 obtain ⟨_, h6⟩ := Zae h5
 refine Zak (fn := Tryz.f72) (c := ZP9) hC hΦ Tryz.func72 (by kernel_rfl) (by kernel_rfl) (Zah (Λ := Zac) (by kernel_rfl)) rfl rfl ?_
 refine (ZPy N _ _ _ _ _ _ _ _).trans ?_
 rw [← Zxu]
 exact h6
def ZMC (N : Nat) : (R : Type) → List V → S → (V → S → Option R) → Option R := fun _ vs s K =>
 ZBj vs fun v'1 v'2 v'3 v'4 => ZaQ v'1 fun e_1 f_2 x_3 => Zba v'2 fun x_4 x_5 => Zbd v'3 fun w_6 => Zbd v'4 fun w_7 => ZaF s <| ZJP N e_1 f_2 x_3 x_4 x_5 w_6 w_7 (fun x_8 w_9 b_10 => K (.tuple [.int .i64 x_8, .str w_9, .bool b_10]) [])
def ZFM (N : Nat) : Zar := (ZIg N).add 40 (ZMC N)
def ZQj : Code := ZaE Tryz.f40
theorem ZPG {R : Type} (N : Nat) (e_1 : List V) (f_2 : Fl) (x_3 x_4 x_5 : Int) (w_6 w_7 : ByteArray) (K : V → S → Option R) : ZaU C (ZIg N) (Zac) 40 Tryz.f40 [.agg [.list 7 e_1 f_2, .int .i64 x_3], .agg [.int .i64 x_4, .int .i64 x_5], .str w_6, .str w_7] [] K =
 ZoZ N e_1 f_2 x_3 x_4 x_5 w_6 w_7 (fun x_8 w_9 b_10 => K (.tuple [.int .i64 x_8, .str w_9, .bool b_10]) []) := by kernel_rfl
theorem Zzl (hC : Ok Tryz.prog C) {N : Nat} (hΦ : Zaa Tryz.prog C (ZIg N)) : Zaa Tryz.prog C (ZFM N) := by
 refine hΦ.add_pure rfl fun R vs K r h => ?_
 unfold ZMC at h
 obtain ⟨_, _, _, _, rfl, h1⟩ := Zcu h
 obtain ⟨_, _, _, rfl, h2⟩ := Zav h1
 obtain ⟨_, _, rfl, h3⟩ := ZaO h2
 obtain ⟨_, rfl, h4⟩ := Zao h3
 obtain ⟨_, rfl, h5⟩ := Zao h4
 obtain ⟨_, h6⟩ := Zae h5
 refine Zak (fn := Tryz.f40) (c := ZQj) hC hΦ Tryz.func40 (by kernel_rfl) (by kernel_rfl) (Zah (Λ := Zac) (by kernel_rfl)) rfl rfl ?_
 refine (ZPG N _ _ _ _ _ _ _ _).trans ?_
 rw [← Zwp]
 exact h6
def ZND (N : Nat) : (R : Type) → List V → S → (V → S → Option R) → Option R := fun _ vs s K =>
 ZBm vs fun v'1 v'2 v'3 => asInt .i64 v'1 fun x_1 => asInt .i64 v'2 fun x_2 => asInt .i64 v'3 fun x_3 => ZaF s <| ZiV N x_1 x_2 x_3 (fun b_4 => K (.bool b_4) [])
def ZH5 (N : Nat) : Zar := (ZFM N).add 115 (ZND N)
def ZPD : Code := ZaE Tryz.f115
theorem ZPA {R : Type} (N : Nat) (x_1 x_2 x_3 : Int) (K : V → S → Option R) : ZaU C (ZFM N) (Zac) 115 Tryz.f115 [.int .i64 x_1, .int .i64 x_2, .int .i64 x_3] [] K =
 Zrg N x_1 x_2 x_3 (fun b_4 => K (.bool b_4) []) := by kernel_rfl
theorem ZyP (hC : Ok Tryz.prog C) {N : Nat} (hΦ : Zaa Tryz.prog C (ZFM N)) : Zaa Tryz.prog C (ZH5 N) := by
 refine hΦ.add_pure rfl fun R vs K r h => ?_
 unfold ZND at h
 obtain ⟨_, _, _, rfl, h1⟩ := Zcn h
 obtain ⟨_, rfl, h2⟩ := Zaf h1
 obtain ⟨_, rfl, h3⟩ := Zaf h2
 obtain ⟨_, rfl, h4⟩ := Zaf h3
 obtain ⟨_, h5⟩ := Zae h4
 refine Zak (fn := Tryz.f115) (c := ZPD) hC hΦ Tryz.func115 (by kernel_rfl) (by kernel_rfl) (Zah (Λ := Zac) (by kernel_rfl)) rfl rfl ?_
 refine (ZPA N _ _ _ _).trans ?_
 rw [← ZyE]
 exact h5
def ZOd (N : Nat) : (R : Type) → List V → S → (V → S → Option R) → Option R := fun _ vs s K =>
 Zcb vs fun v'1 => asInt .i64 v'1 fun x_1 => ZaF s <| ZK6 N x_1 (fun b_2 => K (.bool b_2) [])
def ZI7 (N : Nat) : Zar := (ZH5 N).add 145 (ZOd N)
def ZQS : Code := ZaE Tryz.f145
theorem ZQ8 {R : Type} (N : Nat) (x_1 : Int) (K : V → S → Option R) : ZaU C (ZH5 N) (Zac) 145 Tryz.f145 [.int .i64 x_1] [] K =
 Zph N x_1 (fun b_2 => K (.bool b_2) []) := by kernel_rfl
theorem ZBg (hC : Ok Tryz.prog C) {N : Nat} (hΦ : Zaa Tryz.prog C (ZH5 N)) : Zaa Tryz.prog C (ZI7 N) := by
 refine hΦ.add_pure rfl fun R vs K r h => ?_
 unfold ZOd at h
 obtain ⟨_, rfl, h1⟩ := Zaq h
 obtain ⟨_, rfl, h2⟩ := Zaf h1
 obtain ⟨_, h3⟩ := Zae h2
 refine Zak (fn := Tryz.f145) (c := ZQS) hC hΦ Tryz.func145 (by kernel_rfl) (by kernel_rfl) (Zah (Λ := Zac) (by kernel_rfl)) rfl rfl ?_
 refine (ZQ8 N _ _).trans ?_
 rw [← Zxm]
 exact h3
def ZLO (N : Nat) : (R : Type) → List V → S → (V → S → Option R) → Option R := fun _ vs s K =>
 Zcb vs fun v'1 => asInt .i64 v'1 fun x_1 => ZaF s <| ZJW N x_1 (fun b_2 => K (.bool b_2) [])
def ZGb (N : Nat) : Zar := (ZI7 N).add 65 (ZLO N)
def ZQY : Code := ZaE Tryz.f65
theorem ZP8 {R : Type} (N : Nat) (x_1 : Int) (K : V → S → Option R) : ZaU C (ZI7 N) (Zac) 65 Tryz.f65 [.int .i64 x_1] [] K =
 Zpa N x_1 (fun b_2 => K (.bool b_2) []) := by kernel_rfl
theorem ZzV (hC : Ok Tryz.prog C) {N : Nat} (hΦ : Zaa Tryz.prog C (ZI7 N)) : Zaa Tryz.prog C (ZGb N) := by
 refine hΦ.add_pure rfl fun R vs K r h => ?_
 unfold ZLO at h
 obtain ⟨_, rfl, h1⟩ := Zaq h
 obtain ⟨_, rfl, h2⟩ := Zaf h1
 obtain ⟨_, h3⟩ := Zae h2
 refine Zak (fn := Tryz.f65) (c := ZQY) hC hΦ Tryz.func65 (by kernel_rfl) (by kernel_rfl) (Zah (Λ := Zac) (by kernel_rfl)) rfl rfl ?_
 refine (ZP8 N _ _).trans ?_
 rw [← ZwH]
 exact h3
def ZLN (N : Nat) : (R : Type) → List V → S → (V → S → Option R) → Option R := fun _ vs s K =>
 Zcb vs fun v'1 => Zbd v'1 fun w_1 => ZaF s <| ZKG N w_1 (fun b_2 => K (.bool b_2) [])
def ZIn (N : Nat) : Zar := (ZGb N).add 136 (ZLN N)
def ZQ4 : Code := ZaE Tryz.f136
theorem ZQH {R : Type} (N : Nat) (w_1 : ByteArray) (K : V → S → Option R) : ZaU C (ZGb N) (Zac) 136 Tryz.f136 [.str w_1] [] K =
 Zpp N w_1 (fun b_2 => K (.bool b_2) []) := by kernel_rfl
theorem ZAf (hC : Ok Tryz.prog C) {N : Nat} (hΦ : Zaa Tryz.prog C (ZGb N)) : Zaa Tryz.prog C (ZIn N) := by
 refine hΦ.add_pure rfl fun R vs K r h => ?_
 unfold ZLN at h
 obtain ⟨_, rfl, h1⟩ := Zaq h
 obtain ⟨_, rfl, h2⟩ := Zao h1
 obtain ⟨_, h3⟩ := Zae h2
 refine Zak (fn := Tryz.f136) (c := ZQ4) hC hΦ Tryz.func136 (by kernel_rfl) (by kernel_rfl) (Zah (Λ := Zac) (by kernel_rfl)) rfl rfl ?_
 refine (ZQH N _ _).trans ?_
 rw [← ZvE]
 exact h3
def ZLJ (N : Nat) : (R : Type) → List V → S → (V → S → Option R) → Option R := fun _ vs s K =>
 Zcb vs fun v'1 => asInt .u8 v'1 fun x_1 => ZaF s <| ZHa N x_1 (fun b_2 => K (.bool b_2) [])
def ZGv (N : Nat) : Zar := (ZIn N).add 132 (ZLJ N)
def ZQu : Code := ZaE Tryz.f132
theorem ZPv {R : Type} (N : Nat) (x_1 : Int) (K : V → S → Option R) : ZaU C (ZIn N) (Zac) 132 Tryz.f132 [.int .u8 x_1] [] K =
 Zpi N x_1 (fun b_2 => K (.bool b_2) []) := by kernel_rfl
theorem ZyX (hC : Ok Tryz.prog C) {N : Nat} (hΦ : Zaa Tryz.prog C (ZIn N)) : Zaa Tryz.prog C (ZGv N) := by
 refine hΦ.add_pure rfl fun R vs K r h => ?_
 unfold ZLJ at h
 obtain ⟨_, rfl, h1⟩ := Zaq h
 obtain ⟨_, rfl, h2⟩ := Zaf h1
 obtain ⟨_, h3⟩ := Zae h2
 refine Zak (fn := Tryz.f132) (c := ZQu) hC hΦ Tryz.func132 (by kernel_rfl) (by kernel_rfl) (Zah (Λ := Zac) (by kernel_rfl)) rfl rfl ?_
 refine (ZPv N _ _).trans ?_
 rw [← ZvU]
 exact h3
def ZNr (N : Nat) : (R : Type) → List V → S → (V → S → Option R) → Option R := fun _ vs s K =>
 Zcb vs fun v'1 => asInt .u8 v'1 fun x_1 => ZaF s <| ZKW N x_1 (fun b_2 => K (.bool b_2) [])
def Zu7 (N : Nat) : Zar := (ZGv N).add 181 (ZNr N)
def ZQZ : Code := ZaE Tryz.f181
theorem ZQ9 {R : Type} (N : Nat) (x_1 : Int) (K : V → S → Option R) : ZaU C (ZGv N) (Zac) 181 Tryz.f181 [.int .u8 x_1] [] K =
 Zqu N x_1 (fun b_2 => K (.bool b_2) []) := by kernel_rfl
theorem ZA1 (hC : Ok Tryz.prog C) {N : Nat} (hΦ : Zaa Tryz.prog C (ZGv N)) : Zaa Tryz.prog C (Zu7 N) := by
 refine hΦ.add_pure rfl fun R vs K r h => ?_
 unfold ZNr at h
 obtain ⟨_, rfl, h1⟩ := Zaq h
 obtain ⟨_, rfl, h2⟩ := Zaf h1
 obtain ⟨_, h3⟩ := Zae h2
 refine Zak (fn := Tryz.f181) (c := ZQZ) hC hΦ Tryz.func181 (by kernel_rfl) (by kernel_rfl) (Zah (Λ := Zac) (by kernel_rfl)) rfl rfl ?_
 refine (ZQ9 N _ _).trans ?_
 rw [← Zye]
 exact h3
def ZNw (N : Nat) : (R : Type) → List V → S → (V → S → Option R) → Option R := fun _ vs s K =>
 Zcf vs fun v'1 v'2 => ZaV 1 v'1 fun e_1 f_2 => ZBi 181 v'2 fun c'3 => Zy3 c'3 <| ZaF s <| ZKu N e_1 f_2 (fun x_3 => K (.int .i64 x_3) [])
def ZGW (N : Nat) : Zar := (Zu7 N).addIf 165 (fun l => ZNV 1 181 l) (ZNw N)
def ZEN : Code := ZaE Tryz.f165
def Zs8 : Code := (Zbj ZEN [] 0).2
def Zml : List Nat := ZbO 19 [0, 1, 7, 8]
def Zx4 : List Nat := ZbO 19 [4]
def Zjz (e_1 : List V) (f_2 : Fl) (x_3 x_4 : Int) : List V := mkF 0 19 [(0, .list 1 e_1 f_2), (1, .fn 181 []), (7, .int .i64 x_3), (8, .int .i64 x_4)]
def ZhS {R : Type} (K : X → List V → S → Option R) (e_1 : List V) (f_2 : Fl) (x_3 : Int) : Int → Option R := (fun x_1' => K .ret (mkF 0 19 [(4, .int .i64 (x_1'))]) [])
def Zh4 {R : Type} (K : X → List V → S → Option R) (e_1 : List V) (f_2 : Fl) (x_3 : Int) : Unit → Option R := (fun _ => K (.exit 0) (mkF 0 19 []) [])
abbrev Znx {R : Type} (N : Nat) : Nat → List V → S → (X → List V → S → Option R) → Option R := fun n => ZcO C (Zu7 N) (Zac) Zs8 [0, 1, 0, 1] false Zml Zx4 n R
theorem ZKc {R : Type} (N n : Nat) (e_1 : List V) (f_2 : Fl) (x_3 : Int) (x_4 : Int) (K : X → List V → S → Option R) :
 Znx N (n + 1) (Zjz e_1 f_2 x_3 x_4) [] K =
 Zdd N e_1 f_2 x_3 (fun x_4 => Znx N n (Zjz e_1 f_2 x_3 x_4) [] K) x_4 (ZhS K e_1 f_2 x_3) (Zh4 K e_1 f_2 x_3) := by kernel_rfl
theorem ZBv {R : Type} (N : Nat) (e_1 : List V) (f_2 : Fl) (x_3 : Int) (K : X → List V → S → Option R) : ∀ (n : Nat) (x_4 : Int),
 Znx N n (Zjz e_1 f_2 x_3 x_4) [] K = Zge N e_1 f_2 x_3 (ZhS K e_1 f_2 x_3) (Zh4 K e_1 f_2 x_3) n x_4
 | 0, _ => rfl
 | n + 1, x_4 => (ZKc N n e_1 f_2 x_3 x_4 K).trans (congrArg (fun nx => Zdd N e_1 f_2 x_3 nx x_4 (ZhS K e_1 f_2 x_3) (Zh4 K e_1 f_2 x_3)) (funext fun x_4 => ZBv N e_1 f_2 x_3 K n x_4))
def Zsq {R : Type} (E : List V) (s : S) (k : List V → Fl → Int → Int → Option R) : Option R :=
 Zan (ZaZ 19 [0, 1, 7, 8] E) <| Zbz E 0 1 fun e_1 f_2 => Zbu (nth E 1) fun u1 => ZBi 181 u1 fun c'1 => Zy3 c'1 <| ZaR E 7 .i64 fun x_3 => ZaR E 8 .i64 fun x_4 => ZaF s <| k e_1 f_2 x_3 x_4
theorem ZqV {R : Type} {E : List V} {s : S} {k : List V → Fl → Int → Int → Option R} {r : R} (h : Zsq E s k = some r) : ∃ e_1 f_2 x_3 x_4, E = Zjz e_1 f_2 x_3 x_4 ∧ s = [] ∧ k e_1 f_2 x_3 x_4 = some r := by
 unfold Zsq at h
 obtain ⟨hg, h1⟩ := Zad h
 obtain ⟨_, _, hu0, h2⟩ := ZaA h1
 obtain ⟨_, hu1, h3⟩ := Zag h2
 obtain ⟨_, rfl, h4⟩ := Zcx h3
 obtain ⟨rfl, h5⟩ := Zcp h4
 obtain ⟨_, hu7, h6⟩ := Zai h5
 obtain ⟨_, hu8, h7⟩ := Zai h6
 obtain ⟨rfl, h8⟩ := Zae h7
 exact ⟨_, _, _, _, ZaP hg rfl (Zab hu0 (Zab hu1 (Zab hu7 (Zab hu8 ZaG)))), rfl, h8⟩
def Zt4 (N : Nat) : Zaw := (Zac).add [0, 1, 0, 1] fun _ E s K => Zsq (Zbc Zml E) s fun e_1 f_2 x_3 x_4 => Zge N e_1 f_2 x_3 (ZhS K e_1 f_2 x_3) (Zh4 K e_1 f_2 x_3) N x_4
theorem ZHh {N : Nat} (hC : Ok Tryz.prog C) (hΦ : Zaa Tryz.prog C (Zu7 N)) : Za1 Tryz.prog C (Zt4 N) Zs8 [0, 1, 0, 1] :=
 Za2 (Λi := Zac) (tr := false) (ks := Zml) (kx := Zx4) (N := N) hC hΦ
  (Zah (by kernel_rfl))
  fun R E s K r h => by
   have h2 := Zaw.add_self.symm.trans h
   obtain ⟨_, _, _, _, he, rfl, h3⟩ := ZqV h2
   rw [he]
   exact (ZBv N _ _ _ _ N _).trans h3
theorem ZLy : ZaY ZEN [] = [([0, 1, 0, 1], Zs8)] := by kernel_rfl
theorem ZO0 {R : Type} (N : Nat) (e_1 : List V) (f_2 : Fl) (K : V → S → Option R) : ZaU C (Zu7 N) (Zt4 N) 165 Tryz.f165 [.list 1 e_1 f_2, .fn 181 []] [] K =
 Zp1 N e_1 f_2 (fun x_3 => K (.int .i64 x_3) []) := by kernel_rfl
theorem ZEg {N : Nat} (hC : Ok Tryz.prog C) (hΦ : Zaa Tryz.prog C (Zu7 N)) : ZaT Tryz.prog C (Zt4 N) ZEN [] :=
 ZaB ZEN [] (by
  rw [ZLy]
  intro p hp
  simp only [List.mem_cons, List.mem_nil_iff, or_false] at hp
  rcases hp with rfl
  ·exact (ZHh hC hΦ))
theorem ZAd (hC : Ok Tryz.prog C) {N : Nat} (hΦ : Zaa Tryz.prog C (Zu7 N)) : Zaa Tryz.prog C (ZGW N) := by
 refine hΦ.addIf_pure rfl fun R vs K r h => ?_
 unfold ZNw at h
 obtain ⟨_, _, rfl, h1⟩ := Zat h
 obtain ⟨_, _, rfl, h2⟩ := Zal h1
 obtain ⟨_, rfl, h3⟩ := Zcx h2
 obtain ⟨rfl, h4⟩ := Zcp h3
 obtain ⟨_, h5⟩ := Zae h4
 refine Zak (fn := Tryz.f165) (c := ZEN) hC hΦ Tryz.func165 (by kernel_rfl) (by kernel_rfl) (ZEg (N := N) hC hΦ) rfl rfl ?_
 refine (ZO0 N _ _ _).trans ?_
 rw [← ZwA]
 exact h5
def ZN6 (N : Nat) : (R : Type) → List V → S → (V → S → Option R) → Option R := fun _ vs s K =>
 Zcf vs fun v'1 v'2 => ZaV 1 v'1 fun e_1 f_2 => ZBi 181 v'2 fun c'3 => Zy3 c'3 <| ZaF s <| ZFE N e_1 f_2 (fun b_3 => K (.bool b_3) [])
def ZGh (N : Nat) : Zar := (ZGW N).addIf 130 (fun l => ZNV 1 181 l) (ZN6 N)
def ZQl : Code := ZaE Tryz.f130
theorem ZQb {R : Type} (N : Nat) (e_1 : List V) (f_2 : Fl) (K : V → S → Option R) : ZaU C (ZGW N) (Zac) 130 Tryz.f130 [.list 1 e_1 f_2, .fn 181 []] [] K =
 Zoz N e_1 f_2 (fun b_3 => K (.bool b_3) []) := by kernel_rfl
theorem ZAA (hC : Ok Tryz.prog C) {N : Nat} (hΦ : Zaa Tryz.prog C (ZGW N)) : Zaa Tryz.prog C (ZGh N) := by
 refine hΦ.addIf_pure rfl fun R vs K r h => ?_
 unfold ZN6 at h
 obtain ⟨_, _, rfl, h1⟩ := Zat h
 obtain ⟨_, _, rfl, h2⟩ := Zal h1
 obtain ⟨_, rfl, h3⟩ := Zcx h2
 obtain ⟨rfl, h4⟩ := Zcp h3
 obtain ⟨_, h5⟩ := Zae h4
 refine Zak (fn := Tryz.f130) (c := ZQl) hC hΦ Tryz.func130 (by kernel_rfl) (by kernel_rfl) (Zah (Λ := Zac) (by kernel_rfl)) rfl rfl ?_
 refine (ZQb N _ _ _).trans ?_
 rw [← ZvL]
 exact h5
def ZLr (N : Nat) : (R : Type) → List V → S → (V → S → Option R) → Option R := fun _ vs s K =>
 Zcb vs fun v'1 => Zbd v'1 fun w_1 => ZaF s <| ZDv N w_1 (fun b_2 => K (.bool b_2) [])
def ZFI (N : Nat) : Zar := (ZGh N).add 160 (ZLr N)
def ZP4 : Code := ZaE Tryz.f160
theorem ZRg {R : Type} (N : Nat) (w_1 : ByteArray) (K : V → S → Option R) : ZaU C (ZGh N) (Zac) 160 Tryz.f160 [.str w_1] [] K =
 ZpX N w_1 (fun b_2 => K (.bool b_2) []) := by kernel_rfl
theorem ZzP (hC : Ok Tryz.prog C) {N : Nat} (hΦ : Zaa Tryz.prog C (ZGh N)) : Zaa Tryz.prog C (ZFI N) := by
 refine hΦ.add_pure rfl fun R vs K r h => ?_
 unfold ZLr at h
 obtain ⟨_, rfl, h1⟩ := Zaq h
 obtain ⟨_, rfl, h2⟩ := Zao h1
 obtain ⟨_, h3⟩ := Zae h2
 refine Zak (fn := Tryz.f160) (c := ZP4) hC hΦ Tryz.func160 (by kernel_rfl) (by kernel_rfl) (Zah (Λ := Zac) (by kernel_rfl)) rfl rfl ?_
 refine (ZRg N _ _).trans ?_
 rw [← Zx8]
 exact h3
def ZL8 (N : Nat) : (R : Type) → List V → S → (V → S → Option R) → Option R := fun _ vs s K =>
 Zcb vs fun v'1 => Zbd v'1 fun w_1 => ZaF s <| ZD4 N w_1 (fun b_2 => K (.bool b_2) [])
def ZG4 (N : Nat) : Zar := (ZFI N).add 120 (ZL8 N)
def ZPe : Code := ZaE Tryz.f120
theorem ZQA {R : Type} (N : Nat) (w_1 : ByteArray) (K : V → S → Option R) : ZaU C (ZFI N) (Zac) 120 Tryz.f120 [.str w_1] [] K =
 ZqK N w_1 (fun b_2 => K (.bool b_2) []) := by kernel_rfl
theorem ZyW (hC : Ok Tryz.prog C) {N : Nat} (hΦ : Zaa Tryz.prog C (ZFI N)) : Zaa Tryz.prog C (ZG4 N) := by
 refine hΦ.add_pure rfl fun R vs K r h => ?_
 unfold ZL8 at h
 obtain ⟨_, rfl, h1⟩ := Zaq h
 obtain ⟨_, rfl, h2⟩ := Zao h1
 obtain ⟨_, h3⟩ := Zae h2
 refine Zak (fn := Tryz.f120) (c := ZPe) hC hΦ Tryz.func120 (by kernel_rfl) (by kernel_rfl) (Zah (Λ := Zac) (by kernel_rfl)) rfl rfl ?_
 refine (ZQA N _ _).trans ?_
 rw [← Zxx]
 exact h3
def ZNB (N : Nat) : (R : Type) → List V → S → (V → S → Option R) → Option R := fun _ vs s K =>
 Zcb vs fun v'1 => asInt .i64 v'1 fun x_1 => ZaF s <| ZA3 N x_1 (fun b_2 => K (.bool b_2) [])
def ZKM (N : Nat) : Zar := (ZG4 N).add 149 (ZNB N)
def ZQ0 : Code := ZaE Tryz.f149
theorem ZQz {R : Type} (N : Nat) (x_1 : Int) (K : V → S → Option R) : ZaU C (ZG4 N) (Zac) 149 Tryz.f149 [.int .i64 x_1] [] K =
 ZlE N x_1 (fun b_2 => K (.bool b_2) []) := by kernel_rfl
theorem Zy2 (hC : Ok Tryz.prog C) {N : Nat} (hΦ : Zaa Tryz.prog C (ZG4 N)) : Zaa Tryz.prog C (ZKM N) := by
 refine hΦ.add_pure rfl fun R vs K r h => ?_
 unfold ZNB at h
 obtain ⟨_, rfl, h1⟩ := Zaq h
 obtain ⟨_, rfl, h2⟩ := Zaf h1
 obtain ⟨_, h3⟩ := Zae h2
 refine Zak (fn := Tryz.f149) (c := ZQ0) hC hΦ Tryz.func149 (by kernel_rfl) (by kernel_rfl) (Zah (Λ := Zac) (by kernel_rfl)) rfl rfl ?_
 refine (ZQz N _ _).trans ?_
 rw [← Znw]
 exact h3
def ZL1 (N : Nat) : (R : Type) → List V → S → (V → S → Option R) → Option R := fun _ vs s K =>
 Zcf vs fun v'1 v'2 => Zbd v'1 fun w_1 => asInt .u8 v'2 fun x_2 => ZaF s <| ZJv N w_1 x_2 (fun x_3 => K (.int .i64 x_3) [])
def ZFS (N : Nat) : Zar := (ZKM N).add 207 (ZL1 N)
theorem ZAJ (hC : Ok Tryz.prog C) {N : Nat} (hΦ : Zaa Tryz.prog C (ZKM N)) : Zaa Tryz.prog C (ZFS N) := by
 refine hΦ.add_pure rfl fun R vs K r h => ?_
 unfold ZL1 at h
 obtain ⟨_, _, rfl, h1⟩ := Zat h
 obtain ⟨_, rfl, h2⟩ := Zao h1
 obtain ⟨_, rfl, h3⟩ := Zaf h2
 obtain ⟨_, h4⟩ := Zae h3
 rw [ZvH] at h4
 exact ⟨_, h4, ZfP Tryz.func207 (by kernel_rfl) (by kernel_rfl) (by kernel_rfl) (by kernel_rfl) _ _⟩
def ZNl (N : Nat) : (R : Type) → List V → S → (V → S → Option R) → Option R := fun _ vs s K =>
 Zcf vs fun v'1 v'2 => Zbd v'1 fun w_1 => asInt .u8 v'2 fun x_2 => ZaF s <| ZEx N w_1 x_2 (fun x_3 => K (.int .i64 x_3) [])
def ZDD (N : Nat) : Zar := (ZFS N).add 205 (ZNl N)
def ZRc : Code := ZaE Tryz.f205
theorem ZO7 {R : Type} (N : Nat) (w_1 : ByteArray) (x_2 : Int) (K : V → S → Option R) : ZaU C (ZFS N) (Zac) 205 Tryz.f205 [.str w_1, .int .u8 x_2] [] K =
 Zp7 N w_1 x_2 (fun x_3 => K (.int .i64 x_3) []) := by kernel_rfl
theorem ZyL (hC : Ok Tryz.prog C) {N : Nat} (hΦ : Zaa Tryz.prog C (ZFS N)) : Zaa Tryz.prog C (ZDD N) := by
 refine hΦ.add_pure rfl fun R vs K r h => ?_
 unfold ZNl at h
 obtain ⟨_, _, rfl, h1⟩ := Zat h
 obtain ⟨_, rfl, h2⟩ := Zao h1
 obtain ⟨_, rfl, h3⟩ := Zaf h2
 obtain ⟨_, h4⟩ := Zae h3
 refine Zak (fn := Tryz.f205) (c := ZRc) hC hΦ Tryz.func205 (by kernel_rfl) (by kernel_rfl) (Zah (Λ := Zac) (by kernel_rfl)) rfl rfl ?_
 refine (ZO7 N _ _ _).trans ?_
 rw [← ZxB]
 exact h4
def ZMS (N : Nat) : (R : Type) → List V → S → (V → S → Option R) → Option R := fun _ vs s K =>
 Zcf vs fun v'1 v'2 => Zbd v'1 fun w_1 => Zbd v'2 fun w_2 => ZaF s <| ZJz N w_1 w_2 (fun x_3 => K (.int .i64 x_3) [])
def ZHe (N : Nat) : Zar := (ZDD N).add 197 (ZMS N)
def ZDa : Code := ZaE Tryz.f197
def Zd7 : Code := (Zbj ZDa [] 0).2
theorem ZLB : ZaY ZDa [] = [([0, 0, 1, 1, 1, 1, 1, 1, 1, 1], Zd7)] := by kernel_rfl
theorem ZPR {R : Type} (N : Nat) (w_1 w_2 : ByteArray) (K : V → S → Option R) : ZaU C (ZDD N) (Zac) 197 Tryz.f197 [.str w_1, .str w_2] [] K =
 ZoT N w_1 w_2 (fun x_3 => K (.int .i64 x_3) []) := by kernel_rfl
theorem ZBE {N : Nat} (hC : Ok Tryz.prog C) (hΦ : Zaa Tryz.prog C (ZDD N)) : ZaT Tryz.prog C (Zac) ZDa [] :=
 ZaB ZDa [] (by
  rw [ZLB]
  intro p hp
  simp only [List.mem_cons, List.mem_nil_iff, or_false] at hp
  rcases hp with rfl
  ·exact ZsJ)
theorem ZzY (hC : Ok Tryz.prog C) {N : Nat} (hΦ : Zaa Tryz.prog C (ZDD N)) : Zaa Tryz.prog C (ZHe N) := by
 refine hΦ.add_pure rfl fun R vs K r h => ?_
 unfold ZMS at h
 obtain ⟨_, _, rfl, h1⟩ := Zat h
 obtain ⟨_, rfl, h2⟩ := Zao h1
 obtain ⟨_, rfl, h3⟩ := Zao h2
 obtain ⟨_, h4⟩ := Zae h3
 refine Zak (fn := Tryz.f197) (c := ZDa) hC hΦ Tryz.func197 (by kernel_rfl) (by kernel_rfl) (ZBE (N := N) hC hΦ) rfl rfl ?_
 refine (ZPR N _ _ _).trans ?_
 rw [← ZwZ]
 exact h4
def ZNa (N : Nat) : (R : Type) → List V → S → (V → S → Option R) → Option R := fun _ vs s K =>
 Zcf vs fun v'1 v'2 => Zbd v'1 fun w_1 => Zbd v'2 fun w_2 => ZaF s <| ZCQ N w_1 w_2 (fun x_3 => K (.int .i64 x_3) [])
def ZK1 (N : Nat) : Zar := (ZHe N).add 189 (ZNa N)
def ZON : Code := ZaE Tryz.f189
theorem ZPp {R : Type} (N : Nat) (w_1 w_2 : ByteArray) (K : V → S → Option R) : ZaU C (ZHe N) (Zac) 189 Tryz.f189 [.str w_1, .str w_2] [] K =
 Zo2 N w_1 w_2 (fun x_3 => K (.int .i64 x_3) []) := by kernel_rfl
theorem ZAc (hC : Ok Tryz.prog C) {N : Nat} (hΦ : Zaa Tryz.prog C (ZHe N)) : Zaa Tryz.prog C (ZK1 N) := by
 refine hΦ.add_pure rfl fun R vs K r h => ?_
 unfold ZNa at h
 obtain ⟨_, _, rfl, h1⟩ := Zat h
 obtain ⟨_, rfl, h2⟩ := Zao h1
 obtain ⟨_, rfl, h3⟩ := Zao h2
 obtain ⟨_, h4⟩ := Zae h3
 refine Zak (fn := Tryz.f189) (c := ZON) hC hΦ Tryz.func189 (by kernel_rfl) (by kernel_rfl) (Zah (Λ := Zac) (by kernel_rfl)) rfl rfl ?_
 refine (ZPp N _ _ _).trans ?_
 rw [← Zxn]
 exact h4
def ZMB (N : Nat) : (R : Type) → List V → S → (V → S → Option R) → Option R := fun _ vs s K =>
 Zcf vs fun v'1 v'2 => Zbd v'1 fun w_1 => asInt .u8 v'2 fun x_2 => ZaF s <| ZIz N w_1 x_2 (fun x_3 => K (.int .i64 x_3) [])
def Ztt (N : Nat) : Zar := (ZK1 N).add 196 (ZMB N)
theorem ZAy (hC : Ok Tryz.prog C) {N : Nat} (hΦ : Zaa Tryz.prog C (ZK1 N)) : Zaa Tryz.prog C (Ztt N) := by
 refine hΦ.add_pure rfl fun R vs K r h => ?_
 unfold ZMB at h
 obtain ⟨_, _, rfl, h1⟩ := Zat h
 obtain ⟨_, rfl, h2⟩ := Zao h1
 obtain ⟨_, rfl, h3⟩ := Zaf h2
 obtain ⟨_, h4⟩ := Zae h3
 rw [ZxK] at h4
 exact ⟨_, h4, Zjp Tryz.func196 (by kernel_rfl) (by kernel_rfl) (by kernel_rfl) (by kernel_rfl) _ _⟩
def ZMK (N : Nat) : (R : Type) → List V → S → (V → S → Option R) → Option R := fun _ vs s K =>
 Zcf vs fun v'1 v'2 => Zbd v'1 fun w_1 => Zbd v'2 fun w_2 => ZaF s <| ZDW N w_1 w_2 (fun x_3 => K (.int .i64 x_3) [])
def ZuV (N : Nat) : Zar := (Ztt N).add 188 (ZMK N)
def ZBW : Code := ZaE Tryz.f188
def Zr3 : Code := (Zbj ZBW [] 0).2
def Znk : List Nat := ZbO 34 [0, 1, 5]
def ZvY : List Nat := ZbO 34 [4]
def Zkb (w_2 w_1 : ByteArray) (x_3 : Int) : List V := mkF 0 34 [(0, .str w_1), (1, .str w_2), (5, .int .i64 x_3)]
def Zho {R : Type} (K : X → List V → S → Option R) (w_2 : ByteArray) : Int → Option R := (fun x_1' => K .ret (mkF 0 34 [(4, .int .i64 (x_1'))]) [])
abbrev Zl8 {R : Type} (N : Nat) : Nat → List V → S → (X → List V → S → Option R) → Option R := fun n => ZcO C (Ztt N) (Zac) Zr3 [0, 1, 1, 1, 1] false Znk ZvY n R
theorem ZKH {R : Type} (N n : Nat) (w_2 : ByteArray) (w_1 : ByteArray) (x_3 : Int) (K : X → List V → S → Option R) :
 Zl8 N (n + 1) (Zkb w_2 w_1 x_3) [] K =
 Zff N w_2 (fun w_1 x_3 => Zl8 N n (Zkb w_2 w_1 x_3) [] K) w_1 x_3 (Zho K w_2) := by kernel_rfl
theorem ZC0 {R : Type} (N : Nat) (w_2 : ByteArray) (K : X → List V → S → Option R) : ∀ (n : Nat) (w_1 : ByteArray) (x_3 : Int),
 Zl8 N n (Zkb w_2 w_1 x_3) [] K = ZnC N w_2 (Zho K w_2) n w_1 x_3
 | 0, _, _ => rfl
 | n + 1, w_1, x_3 => (ZKH N n w_2 w_1 x_3 K).trans (congrArg (fun nx => Zff N w_2 nx w_1 x_3 (Zho K w_2)) (funext fun w_1 => funext fun x_3 => ZC0 N w_2 K n w_1 x_3))
def Zud {R : Type} (E : List V) (s : S) (k : ByteArray → ByteArray → Int → Option R) : Option R :=
 Zan (ZaZ 34 [0, 1, 5] E) <| ZfO E 0 fun w_1 => ZfO E 1 fun w_2 => ZaR E 5 .i64 fun x_3 => ZaF s <| k w_1 w_2 x_3
theorem Zp8 {R : Type} {E : List V} {s : S} {k : ByteArray → ByteArray → Int → Option R} {r : R} (h : Zud E s k = some r) : ∃ w_1 w_2 x_3, E = Zkb w_2 w_1 x_3 ∧ s = [] ∧ k w_1 w_2 x_3 = some r := by
 unfold Zud at h
 obtain ⟨hg, h1⟩ := Zad h
 obtain ⟨_, hu0, h2⟩ := ZbI h1
 obtain ⟨_, hu1, h3⟩ := ZbI h2
 obtain ⟨_, hu5, h4⟩ := Zai h3
 obtain ⟨rfl, h5⟩ := Zae h4
 exact ⟨_, _, _, ZaP hg rfl (Zab hu0 (Zab hu1 (Zab hu5 ZaG))), rfl, h5⟩
def ZuW (N : Nat) : Zaw := (Zac).add [0, 1, 1, 1, 1] fun _ E s K => Zud (Zbc Znk E) s fun w_1 w_2 x_3 => ZnC N w_2 (Zho K w_2) N w_1 x_3
theorem ZIE {N : Nat} (hC : Ok Tryz.prog C) (hΦ : Zaa Tryz.prog C (Ztt N)) : Za1 Tryz.prog C (ZuW N) Zr3 [0, 1, 1, 1, 1] :=
 Za2 (Λi := Zac) (tr := false) (ks := Znk) (kx := ZvY) (N := N) hC hΦ
  (Zah (by kernel_rfl))
  fun R E s K r h => by
   have h2 := Zaw.add_self.symm.trans h
   obtain ⟨_, _, _, he, rfl, h3⟩ := Zp8 h2
   rw [he]
   exact (ZC0 N _ _ N _ _).trans h3
theorem ZNc : ZaY ZBW [] = [([0, 1, 1, 1, 1], Zr3)] := by kernel_rfl
theorem ZP3 {R : Type} (N : Nat) (w_1 w_2 : ByteArray) (K : V → S → Option R) : ZaU C (Ztt N) (ZuW N) 188 Tryz.f188 [.str w_1, .str w_2] [] K =
 Zpe N w_1 w_2 (fun x_3 => K (.int .i64 x_3) []) := by kernel_rfl
theorem ZCj {N : Nat} (hC : Ok Tryz.prog C) (hΦ : Zaa Tryz.prog C (Ztt N)) : ZaT Tryz.prog C (ZuW N) ZBW [] :=
 ZaB ZBW [] (by
  rw [ZNc]
  intro p hp
  simp only [List.mem_cons, List.mem_nil_iff, or_false] at hp
  rcases hp with rfl
  ·exact (ZIE hC hΦ))
theorem ZAZ (hC : Ok Tryz.prog C) {N : Nat} (hΦ : Zaa Tryz.prog C (Ztt N)) : Zaa Tryz.prog C (ZuV N) := by
 refine hΦ.add_pure rfl fun R vs K r h => ?_
 unfold ZMK at h
 obtain ⟨_, _, rfl, h1⟩ := Zat h
 obtain ⟨_, rfl, h2⟩ := Zao h1
 obtain ⟨_, rfl, h3⟩ := Zao h2
 obtain ⟨_, h4⟩ := Zae h3
 refine Zak (fn := Tryz.f188) (c := ZBW) hC hΦ Tryz.func188 (by kernel_rfl) (by kernel_rfl) (ZCj (N := N) hC hΦ) rfl rfl ?_
 refine (ZP3 N _ _ _).trans ?_
 rw [← ZyF]
 exact h4
def ZN4 (N : Nat) : (R : Type) → List V → S → (V → S → Option R) → Option R := fun _ vs s K =>
 ZBj vs fun v'1 v'2 v'3 v'4 => Zbd v'1 fun w_1 => Zbd v'2 fun w_2 => asInt .i64 v'3 fun x_3 => asInt .i64 v'4 fun x_4 => Zan (ZbT []) <| Zan (okI 0 [] []) <| ZJU N w_1 w_2 x_3 x_4 (fun e_901 => FK s [] rl K (.list 1 e_901 .sh) []) (fun k_902 e_903 => FK s [] rl K (.arr 0 0 0 k_902) [some ⟨e_903, 1, 9, 0⟩])
def ZHc (N : Nat) : Zar := (ZuV N).add 174 (ZN4 N)
def ZE0 : Code := ZaE Tryz.f174
def Zsn : Code := (Zbj ZE0 [] 0).2
def Zoj : List Nat := ZbO 66 [0, 1, 2, 3, 9, 10]
def ZyB : List Nat := ZbO 66 [0, 9, 10]
def ZjW (w_2 : ByteArray) (x_3 x_4 : Int) (k_5 : Nat) (w_1 : ByteArray) (x_6 : Int) (e_7 : List V) : List V := mkF 0 66 [(0, .str w_1), (1, .str w_2), (2, .int .i64 x_3), (3, .int .i64 x_4), (9, .arr 0 0 0 k_5), (10, .int .i64 x_6)]
def ZhN {R : Type} (K : X → List V → S → Option R) (w_2 : ByteArray) (x_3 : Int) (x_4 : Int) (k_5 : Nat) : ByteArray → Int → List V → Option R := (fun w_1' x_2' e_3' => K (.exit 0) (mkF 0 66 [(0, .str (w_1')), (9, .arr 0 0 0 k_5), (10, .int .i64 (x_2'))]) [some ⟨e_3', 1, 9, 0⟩])
abbrev Zno {R : Type} (N : Nat) : Nat → List V → S → (X → List V → S → Option R) → Option R := fun n => ZcO C (ZuV N) (Zac) Zsn [0, 0, 1, 1, 1, 1, 1, 1, 1, 1] false Zoj ZyB n R
theorem ZKE {R : Type} (N n : Nat) (w_2 : ByteArray) (x_3 x_4 : Int) (k_5 : Nat) (w_1 : ByteArray) (x_6 : Int) (e_7 : List V) (K : X → List V → S → Option R) :
 Zno N (n + 1) (ZjW w_2 x_3 x_4 k_5 w_1 x_6 e_7) [some ⟨e_7, 1, 9, 0⟩] K =
 Zc0 N w_2 x_3 x_4 k_5 (fun w_1 x_6 e_7 => Zno N n (ZjW w_2 x_3 x_4 k_5 w_1 x_6 e_7) [some ⟨e_7, 1, 9, 0⟩] K) w_1 x_6 e_7 (ZhN K w_2 x_3 x_4 k_5) := by kernel_rfl
theorem ZCJ {R : Type} (N : Nat) (w_2 : ByteArray) (x_3 x_4 : Int) (k_5 : Nat) (K : X → List V → S → Option R) : ∀ (n : Nat) (w_1 : ByteArray) (x_6 : Int) (e_7 : List V),
 Zno N n (ZjW w_2 x_3 x_4 k_5 w_1 x_6 e_7) [some ⟨e_7, 1, 9, 0⟩] K = Zfv N w_2 x_3 x_4 k_5 (ZhN K w_2 x_3 x_4 k_5) n w_1 x_6 e_7
 | 0, _, _, _ => rfl
 | n + 1, w_1, x_6, e_7 => (ZKE N n w_2 x_3 x_4 k_5 w_1 x_6 e_7 K).trans (congrArg (fun nx => Zc0 N w_2 x_3 x_4 k_5 nx w_1 x_6 e_7 (ZhN K w_2 x_3 x_4 k_5)) (funext fun w_1 => funext fun x_6 => funext fun e_7 => ZCJ N w_2 x_3 x_4 k_5 K n w_1 x_6 e_7))
def ZtA {R : Type} (E : List V) (s : S) (k : ByteArray → ByteArray → Int → Int → Nat → Int → List V → Option R) : Option R :=
 Zan (ZaZ 66 [0, 1, 2, 3, 9, 10] E) <| ZfO E 0 fun w_1 => ZfO E 1 fun w_2 => ZaR E 2 .i64 fun x_3 => ZaR E 3 .i64 fun x_4 => Zbu (nth E 9) fun u9 => ZiG u9 fun k'1 k'2 k'3 k_5 => isN k'1 0 <| isN k'2 0 <| isN k'3 0 <| ZaR E 10 .i64 fun x_6 => Zd4 s fun o'4 s'5 => ZdP o'4 1 9 fun e_7 k'6 => isN k'6 0 <| ZaF s'5 <| k w_1 w_2 x_3 x_4 k_5 x_6 e_7
theorem ZoL {R : Type} {E : List V} {s : S} {k : ByteArray → ByteArray → Int → Int → Nat → Int → List V → Option R} {r : R} (h : ZtA E s k = some r) : ∃ w_1 w_2 x_3 x_4 k_5 x_6 e_7, E = ZjW w_2 x_3 x_4 k_5 w_1 x_6 e_7 ∧ s = [some ⟨e_7, 1, 9, 0⟩] ∧ k w_1 w_2 x_3 x_4 k_5 x_6 e_7 = some r := by
 unfold ZtA at h
 obtain ⟨hg, h1⟩ := Zad h
 obtain ⟨_, hu0, h2⟩ := ZbI h1
 obtain ⟨_, hu1, h3⟩ := ZbI h2
 obtain ⟨_, hu2, h4⟩ := Zai h3
 obtain ⟨_, hu3, h5⟩ := Zai h4
 obtain ⟨_, hu9, h6⟩ := Zag h5
 obtain ⟨_, _, _, _, rfl, h7⟩ := Zb5 h6
 obtain ⟨rfl, h8⟩ := Zas h7
 obtain ⟨rfl, h9⟩ := Zas h8
 obtain ⟨rfl, h10⟩ := Zas h9
 obtain ⟨_, hu10, h11⟩ := Zai h10
 obtain ⟨_, _, rfl, h12⟩ := ZaN h11
 obtain ⟨_, _, rfl, h13⟩ := ZaK h12
 obtain ⟨rfl, h14⟩ := Zas h13
 obtain ⟨rfl, h15⟩ := Zae h14
 exact ⟨_, _, _, _, _, _, _, ZaP hg rfl (Zab hu0 (Zab hu1 (Zab hu2 (Zab hu3 (Zab hu9 (Zab hu10 ZaG)))))), rfl, h15⟩
def ZrX (N : Nat) : Zaw := (Zac).add [0, 0, 1, 1, 1, 1, 1, 1, 1, 1] fun _ E s K => ZtA (Zbc Zoj E) s fun w_1 w_2 x_3 x_4 k_5 x_6 e_7 => Zfv N w_2 x_3 x_4 k_5 (ZhN K w_2 x_3 x_4 k_5) N w_1 x_6 e_7
theorem ZHp {N : Nat} (hC : Ok Tryz.prog C) (hΦ : Zaa Tryz.prog C (ZuV N)) : Za1 Tryz.prog C (ZrX N) Zsn [0, 0, 1, 1, 1, 1, 1, 1, 1, 1] :=
 Za2 (Λi := Zac) (tr := false) (ks := Zoj) (kx := ZyB) (N := N) hC hΦ
  (Zah (by kernel_rfl))
  fun R E s K r h => by
   have h2 := Zaw.add_self.symm.trans h
   obtain ⟨_, _, _, _, _, _, _, he, rfl, h3⟩ := ZoL h2
   rw [he]
   exact (ZCJ N _ _ _ _ _ N _ _ _).trans h3
theorem ZNI : ZaY ZE0 [] = [([0, 0, 1, 1, 1, 1, 1, 1, 1, 1], Zsn)] := by kernel_rfl
theorem ZPn {R : Type} (N : Nat) (w_1 w_2 : ByteArray) (x_3 x_4 : Int) (K : V → S → Option R) : ZaU C (ZuV N) (ZrX N) 174 Tryz.f174 [.str w_1, .str w_2, .int .i64 x_3, .int .i64 x_4] [] (GK rl 0 K) =
 Zrx N w_1 w_2 x_3 x_4 (fun e_901 => K (.list 1 e_901 .sh) []) (fun k_902 e_903 => K (.arr 0 0 0 k_902) [some ⟨e_903, 1, 9, 0⟩]) := by kernel_rfl
theorem ZEw {N : Nat} (hC : Ok Tryz.prog C) (hΦ : Zaa Tryz.prog C (ZuV N)) : ZaT Tryz.prog C (ZrX N) ZE0 [] :=
 ZaB ZE0 [] (by
  rw [ZNI]
  intro p hp
  simp only [List.mem_cons, List.mem_nil_iff, or_false] at hp
  rcases hp with rfl
  ·exact (ZHp hC hΦ))
theorem ZAl (hC : Ok Tryz.prog C) {N : Nat} (hΦ : Zaa Tryz.prog C (ZuV N)) : Zaa Tryz.prog C (ZHc N) := by
 refine hΦ.add_shared rfl fun R vs s K r h => ?_
 unfold ZN4 at h
 obtain ⟨_, _, _, _, rfl, h1⟩ := Zcu h
 obtain ⟨w_1, rfl, h2⟩ := Zao h1
 obtain ⟨w_2, rfl, h3⟩ := Zao h2
 obtain ⟨x_3, rfl, h4⟩ := Zaf h3
 obtain ⟨x_4, rfl, h5⟩ := Zaf h4
 obtain ⟨hdist, h6⟩ := Zad h5
 obtain ⟨hin, h7⟩ := Zad h6
 refine ZcU (fn := Tryz.f174) (c := ZE0) (os := []) (rl := rl) (bi := []) (s0 := []) (as0 := [.str w_1, .str w_2, .int .i64 x_3, .int .i64 x_4]) hC hΦ Tryz.func174 (by kernel_rfl) (by kernel_rfl) (ZEw (N := N) hC hΦ) rfl hdist trivial hin rfl rfl ?_
 refine (ZPn N _ _ _ _ _).trans ?_
 rw [← Zvt]
 exact h7
def ZNN (N : Nat) : (R : Type) → List V → S → (V → S → Option R) → Option R := fun _ vs s K =>
 Zcf vs fun v'1 v'2 => Zbd v'1 fun w_1 => Zbd v'2 fun w_2 => Zan (ZbT []) <| Zan (okI 0 [] []) <| ZIp N w_1 w_2 (fun e_901 => FK s [] rl K (.list 1 e_901 .sh) []) (fun k_902 e_903 => FK s [] rl K (.arr 0 0 0 k_902) [some ⟨e_903, 1, 9, 0⟩])
def ZGF (N : Nat) : Zar := (ZHc N).add 153 (ZNN N)
def ZOw : Code := ZaE Tryz.f153
theorem ZQk {R : Type} (N : Nat) (w_1 w_2 : ByteArray) (K : V → S → Option R) : ZaU C (ZHc N) (Zac) 153 Tryz.f153 [.str w_1, .str w_2] [] (GK rl 0 K) =
 Zpn N w_1 w_2 (fun e_901 => K (.list 1 e_901 .sh) []) (fun k_902 e_903 => K (.arr 0 0 0 k_902) [some ⟨e_903, 1, 9, 0⟩]) := by kernel_rfl
theorem ZyN (hC : Ok Tryz.prog C) {N : Nat} (hΦ : Zaa Tryz.prog C (ZHc N)) : Zaa Tryz.prog C (ZGF N) := by
 refine hΦ.add_shared rfl fun R vs s K r h => ?_
 unfold ZNN at h
 obtain ⟨_, _, rfl, h1⟩ := Zat h
 obtain ⟨w_1, rfl, h2⟩ := Zao h1
 obtain ⟨w_2, rfl, h3⟩ := Zao h2
 obtain ⟨hdist, h4⟩ := Zad h3
 obtain ⟨hin, h5⟩ := Zad h4
 refine ZcU (fn := Tryz.f153) (c := ZOw) (os := []) (rl := rl) (bi := []) (s0 := []) (as0 := [.str w_1, .str w_2]) hC hΦ Tryz.func153 (by kernel_rfl) (by kernel_rfl) (Zah (Λ := Zac) (by kernel_rfl)) rfl hdist trivial hin rfl rfl ?_
 refine (ZQk N _ _ _).trans ?_
 rw [← Zxj]
 exact h5
def ZMO (N : Nat) : (R : Type) → List V → S → (V → S → Option R) → Option R := fun _ vs s K =>
 Zcb vs fun v'1 => Zbd v'1 fun w_1 => ZaF s <| ZDc N w_1 (fun b_2 => K (.bool b_2) [])
def ZsL (N : Nat) : Zar := (ZGF N).add 154 (ZMO N)
def ZOR : Code := ZaE Tryz.f154
theorem ZRk {R : Type} (N : Nat) (w_1 : ByteArray) (K : V → S → Option R) : ZaU C (ZGF N) (Zac) 154 Tryz.f154 [.str w_1] [] K =
 Zlq N w_1 (fun b_2 => K (.bool b_2) []) := by kernel_rfl
theorem ZA2 (hC : Ok Tryz.prog C) {N : Nat} (hΦ : Zaa Tryz.prog C (ZGF N)) : Zaa Tryz.prog C (ZsL N) := by
 refine hΦ.add_pure rfl fun R vs K r h => ?_
 unfold ZMO at h
 obtain ⟨_, rfl, h1⟩ := Zaq h
 obtain ⟨_, rfl, h2⟩ := Zao h1
 obtain ⟨_, h3⟩ := Zae h2
 refine Zak (fn := Tryz.f154) (c := ZOR) hC hΦ Tryz.func154 (by kernel_rfl) (by kernel_rfl) (Zah (Λ := Zac) (by kernel_rfl)) rfl rfl ?_
 refine (ZRk N _ _).trans ?_
 rw [← ZnK]
 exact h3
end
end Go.VM.VL
