/- The functions of the program, told plainly: what each computes, as a function of its letters; and that the machine does the same. Printed by vgen.py, a program of this session's own. -/
import Derived.Test.YtfebgjdmddegjaaDoorXW
import Derived.WalkKit
import Derived.Lib.Walk
import Derived.Lib.SliceRun
import Derived.Lib.AppendZerosOnto
import Derived.Test.YtfebgjdmddegjaaDoorTrydShelf
import Derived.Test.YtfebgjdmddegjaaDoorProg
import Derived.KernelRfl
set_option linter.unusedVariables false
namespace Go.VM.VL
noncomputable section
open Go.Proofs
def rl (t : TypeId) : Bool := [9].any (Nat.beq t)
def mode (f : FuncId) : Mode :=
 match [49, 51, 52, 62, 67, 68, 75, 78, 83].any (Nat.beq f) with
 | true => .shared
 | false => match [55].any (Nat.beq f) with
  | true => .own
  | false => .pure
abbrev C : Cfg := Cfg.of Tryd.prog 9 mode
def Zxq (N : Nat) : (R : Type) → List V → S → (V → S → Option R) → Option R := fun _ vs s K =>
 Zej vs fun v'1 v'2 => Zbq 1 v'1 fun e_1 f_2 => Zbq 1 v'2 fun e_3 f_4 => ZaR s <| Zt9 N e_1 f_2 e_3 f_4 (fun b_5 => K (.bool b_5) [])
def Zwt (N : Nat) : Zao := (Zgm).add 5 (Zxq N)
def ZAe : Code := ZaE Tryd.f5
theorem ZzF {R : Type} (N : Nat) (e_1 : List V) (f_2 : Fl) (e_3 : List V) (f_4 : Fl) (K : V → S → Option R) : ZaV C (Zgm) (Zac) 5 Tryd.f5 [.list 1 e_1 f_2, .list 1 e_3 f_4] [] K =
 Zlk N e_1 f_2 e_3 f_4 (fun b_5 => K (.bool b_5) []) := by kernel_rfl
theorem ZqI (hC : Ok Tryd.prog C) {N : Nat} (hΦ : Zaa Tryd.prog C (Zgm)) : Zaa Tryd.prog C (Zwt N) := by
 refine hΦ.add_pure rfl fun R vs K r h => ?_
 unfold Zxq at h
 obtain ⟨_, _, rfl, h1⟩ := ZaG h
 obtain ⟨_, _, rfl, h2⟩ := Zat h1
 obtain ⟨_, _, rfl, h3⟩ := Zat h2
 obtain ⟨_, h4⟩ := Zaf h3
 refine Zap (fn := Tryd.f5) (c := ZAe) hC hΦ Tryd.func5 (by kernel_rfl) (by kernel_rfl) (Zag (Λ := Zac) (by kernel_rfl)) rfl rfl ?_
 refine (ZzF N _ _ _ _ _).trans ?_
 rw [← Zos]
 exact h4
def Zym (N : Nat) : (R : Type) → List V → S → (V → S → Option R) → Option R := fun _ vs s K =>
 Zej vs fun v'1 v'2 => ZaQ v'1 fun w_1 => asInt .u8 v'2 fun x_2 => ZaR s <| ZwB N w_1 x_2 (fun x_3 => K (.int .i64 x_3) [])
def Zui (N : Nat) : Zao := (Zwt N).add 102 (Zym N)
theorem ZqN (hC : Ok Tryd.prog C) {N : Nat} (hΦ : Zaa Tryd.prog C (Zwt N)) : Zaa Tryd.prog C (Zui N) := by
 refine hΦ.add_pure rfl fun R vs K r h => ?_
 unfold Zym at h
 obtain ⟨_, _, rfl, h1⟩ := ZaG h
 obtain ⟨_, rfl, h2⟩ := Zaj h1
 obtain ⟨_, rfl, h3⟩ := ZaI h2
 obtain ⟨_, h4⟩ := Zaf h3
 rw [Zpn] at h4
 exact ⟨_, h4, Zek Tryd.func102 (by kernel_rfl) (by kernel_rfl) (by kernel_rfl) (by kernel_rfl) _ _⟩
def ZxT (N : Nat) : (R : Type) → List V → S → (V → S → Option R) → Option R := fun _ vs s K =>
 Zej vs fun v'1 v'2 => ZaQ v'1 fun w_1 => asInt .u8 v'2 fun x_2 => ZaR s <| Zt4 N w_1 x_2 (fun x_3 => K (.int .i64 x_3) [])
def ZsE (N : Nat) : Zao := (Zui N).add 98 (ZxT N)
def ZBk : Code := ZaE Tryd.f98
theorem ZBb {R : Type} (N : Nat) (w_1 : ByteArray) (x_2 : Int) (K : V → S → Option R) : ZaV C (Zui N) (Zac) 98 Tryd.f98 [.str w_1, .int .u8 x_2] [] K =
 ZjG N w_1 x_2 (fun x_3 => K (.int .i64 x_3) []) := by kernel_rfl
theorem Zq4 (hC : Ok Tryd.prog C) {N : Nat} (hΦ : Zaa Tryd.prog C (Zui N)) : Zaa Tryd.prog C (ZsE N) := by
 refine hΦ.add_pure rfl fun R vs K r h => ?_
 unfold ZxT at h
 obtain ⟨_, _, rfl, h1⟩ := ZaG h
 obtain ⟨_, rfl, h2⟩ := Zaj h1
 obtain ⟨_, rfl, h3⟩ := ZaI h2
 obtain ⟨_, h4⟩ := Zaf h3
 refine Zap (fn := Tryd.f98) (c := ZBk) hC hΦ Tryd.func98 (by kernel_rfl) (by kernel_rfl) (Zag (Λ := Zac) (by kernel_rfl)) rfl rfl ?_
 refine (ZBb N _ _ _).trans ?_
 rw [← Zoa]
 exact h4
def ZxS (N : Nat) : (R : Type) → List V → S → (V → S → Option R) → Option R := fun _ vs s K =>
 Zej vs fun v'1 v'2 => ZaQ v'1 fun w_1 => ZaQ v'2 fun w_2 => ZaR s <| Zwi N w_1 w_2 (fun x_3 => K (.int .i64 x_3) [])
def ZuH (N : Nat) : Zao := (ZsE N).add 96 (ZxS N)
def ZrJ : Code := ZaE Tryd.f96
def Zc9 : Code := (Zcp ZrJ [] 0).2
theorem ZxI : Zbh ZrJ [] = [([0, 0, 1, 1, 1, 1, 1, 1, 1, 1], Zc9)] := by kernel_rfl
theorem ZzB {R : Type} (N : Nat) (w_1 w_2 : ByteArray) (K : V → S → Option R) : ZaV C (ZsE N) (Zac) 96 Tryd.f96 [.str w_1, .str w_2] [] K =
 ZkQ N w_1 w_2 (fun x_3 => K (.int .i64 x_3) []) := by kernel_rfl
theorem Ztv {N : Nat} (hC : Ok Tryd.prog C) (hΦ : Zaa Tryd.prog C (ZsE N)) : Za4 Tryd.prog C (Zac) ZrJ [] :=
 Za5 ZrJ [] (by
  rw [ZxI]
  intro p hp
  simp only [List.mem_cons, List.mem_nil_iff, or_false] at hp
  rcases hp with rfl
  ·exact Zmn)
theorem Zra (hC : Ok Tryd.prog C) {N : Nat} (hΦ : Zaa Tryd.prog C (ZsE N)) : Zaa Tryd.prog C (ZuH N) := by
 refine hΦ.add_pure rfl fun R vs K r h => ?_
 unfold ZxS at h
 obtain ⟨_, _, rfl, h1⟩ := ZaG h
 obtain ⟨_, rfl, h2⟩ := Zaj h1
 obtain ⟨_, rfl, h3⟩ := Zaj h2
 obtain ⟨_, h4⟩ := Zaf h3
 refine Zap (fn := Tryd.f96) (c := ZrJ) hC hΦ Tryd.func96 (by kernel_rfl) (by kernel_rfl) (Ztv (N := N) hC hΦ) rfl rfl ?_
 refine (ZzB N _ _ _).trans ?_
 rw [← Zob]
 exact h4
def ZxR (N : Nat) : (R : Type) → List V → S → (V → S → Option R) → Option R := fun _ vs s K =>
 Zej vs fun v'1 v'2 => ZaQ v'1 fun w_1 => ZaQ v'2 fun w_2 => ZaR s <| ZtB N w_1 w_2 (fun x_3 => K (.int .i64 x_3) [])
def ZwI (N : Nat) : Zao := (ZuH N).add 90 (ZxR N)
def ZzA : Code := ZaE Tryd.f90
theorem ZBw {R : Type} (N : Nat) (w_1 w_2 : ByteArray) (K : V → S → Option R) : ZaV C (ZuH N) (Zac) 90 Tryd.f90 [.str w_1, .str w_2] [] K =
 Zlf N w_1 w_2 (fun x_3 => K (.int .i64 x_3) []) := by kernel_rfl
theorem ZqT (hC : Ok Tryd.prog C) {N : Nat} (hΦ : Zaa Tryd.prog C (ZuH N)) : Zaa Tryd.prog C (ZwI N) := by
 refine hΦ.add_pure rfl fun R vs K r h => ?_
 unfold ZxR at h
 obtain ⟨_, _, rfl, h1⟩ := ZaG h
 obtain ⟨_, rfl, h2⟩ := Zaj h1
 obtain ⟨_, rfl, h3⟩ := Zaj h2
 obtain ⟨_, h4⟩ := Zaf h3
 refine Zap (fn := Tryd.f90) (c := ZzA) hC hΦ Tryd.func90 (by kernel_rfl) (by kernel_rfl) (Zag (Λ := Zac) (by kernel_rfl)) rfl rfl ?_
 refine (ZBw N _ _ _).trans ?_
 rw [← Zo6]
 exact h4
def ZyQ (N : Nat) : (R : Type) → List V → S → (V → S → Option R) → Option R := fun _ vs s K =>
 Zej vs fun v'1 v'2 => ZaQ v'1 fun w_1 => asInt .u8 v'2 fun x_2 => ZaR s <| Zuf N w_1 x_2 (fun x_3 => K (.int .i64 x_3) [])
def ZmS (N : Nat) : Zao := (ZwI N).add 95 (ZyQ N)
theorem ZpF (hC : Ok Tryd.prog C) {N : Nat} (hΦ : Zaa Tryd.prog C (ZwI N)) : Zaa Tryd.prog C (ZmS N) := by
 refine hΦ.add_pure rfl fun R vs K r h => ?_
 unfold ZyQ at h
 obtain ⟨_, _, rfl, h1⟩ := ZaG h
 obtain ⟨_, rfl, h2⟩ := Zaj h1
 obtain ⟨_, rfl, h3⟩ := ZaI h2
 obtain ⟨_, h4⟩ := Zaf h3
 rw [Zox] at h4
 exact ⟨_, h4, Zgk Tryd.func95 (by kernel_rfl) (by kernel_rfl) (by kernel_rfl) (by kernel_rfl) _ _⟩
def Zyi (N : Nat) : (R : Type) → List V → S → (V → S → Option R) → Option R := fun _ vs s K =>
 Zej vs fun v'1 v'2 => ZaQ v'1 fun w_1 => ZaQ v'2 fun w_2 => ZaR s <| Zrk N w_1 w_2 (fun x_3 => K (.int .i64 x_3) [])
def ZlU (N : Nat) : Zao := (ZmS N).add 89 (Zyi N)
def ZtH : Code := ZaE Tryd.f89
def Zml : Code := (Zcp ZtH [] 0).2
def Zjh : List Nat := Zd3 34 [0, 1, 5]
def Zo2 : List Nat := Zd3 34 [4]
def Zgx (w_2 w_1 : ByteArray) (x_3 : Int) : List V := mkF 0 34 [(0, .str w_1), (1, .str w_2), (5, .int .i64 x_3)]
def ZeZ {R : Type} (K : X → List V → S → Option R) (w_2 : ByteArray) : Int → Option R := (fun x_1' => K .ret (mkF 0 34 [(4, .int .i64 (x_1'))]) [])
abbrev Zi4 {R : Type} (N : Nat) : Nat → List V → S → (X → List V → S → Option R) → Option R := fun n => ZhA C (ZmS N) (Zac) Zml [0, 1, 1, 1, 1] false Zjh Zo2 n R
theorem Zw7 {R : Type} (N n : Nat) (w_2 : ByteArray) (w_1 : ByteArray) (x_3 : Int) (K : X → List V → S → Option R) :
 Zi4 N (n + 1) (Zgx w_2 w_1 x_3) [] K =
 Zd1 N w_2 (fun w_1 x_3 => Zi4 N n (Zgx w_2 w_1 x_3) [] K) w_1 x_3 (ZeZ K w_2) := by kernel_rfl
theorem Zta {R : Type} (N : Nat) (w_2 : ByteArray) (K : X → List V → S → Option R) : ∀ (n : Nat) (w_1 : ByteArray) (x_3 : Int),
 Zi4 N n (Zgx w_2 w_1 x_3) [] K = Zin N w_2 (ZeZ K w_2) n w_1 x_3
 | 0, _, _ => rfl
 | n + 1, w_1, x_3 => (Zw7 N n w_2 w_1 x_3 K).trans (congrArg (fun nx => Zd1 N w_2 nx w_1 x_3 (ZeZ K w_2)) (funext fun w_1 => funext fun x_3 => Zta N w_2 K n w_1 x_3))
def Zl3 {R : Type} (E : List V) (s : S) (k : ByteArray → ByteArray → Int → Option R) : Option R :=
 Zak (ZbO 34 [0, 1, 5] E) <| ZfC E 0 fun w_1 => ZfC E 1 fun w_2 => Zca E 5 .i64 fun x_3 => ZaR s <| k w_1 w_2 x_3
theorem ZjK {R : Type} {E : List V} {s : S} {k : ByteArray → ByteArray → Int → Option R} {r : R} (h : Zl3 E s k = some r) : ∃ w_1 w_2 x_3, E = Zgx w_2 w_1 x_3 ∧ s = [] ∧ k w_1 w_2 x_3 = some r := by
 unfold Zl3 at h
 obtain ⟨hg, h1⟩ := Zab h
 obtain ⟨_, hu0, h2⟩ := Zbt h1
 obtain ⟨_, hu1, h3⟩ := Zbt h2
 obtain ⟨_, hu5, h4⟩ := Zax h3
 obtain ⟨rfl, h5⟩ := Zaf h4
 exact ⟨_, _, _, Zbz hg rfl (Zai hu0 (Zai hu1 (Zai hu5 Zbm))), rfl, h5⟩
def Zl0 (N : Nat) : ZaL := (Zac).add [0, 1, 1, 1, 1] fun _ E s K => Zl3 (Zbk Zjh E) s fun w_1 w_2 x_3 => Zin N w_2 (ZeZ K w_2) N w_1 x_3
theorem ZvL {N : Nat} (hC : Ok Tryd.prog C) (hΦ : Zaa Tryd.prog C (ZmS N)) : Zb0 Tryd.prog C (Zl0 N) Zml [0, 1, 1, 1, 1] :=
 Zb8 (Λi := Zac) (tr := false) (ks := Zjh) (kx := Zo2) (N := N) hC hΦ
  (Zag (by kernel_rfl))
  fun R E s K r h => by
   have h2 := ZaL.add_self.symm.trans h
   obtain ⟨_, _, _, he, rfl, h3⟩ := ZjK h2
   rw [he]
   exact (Zta N _ _ N _ _).trans h3
theorem Zyt : Zbh ZtH [] = [([0, 1, 1, 1, 1], Zml)] := by kernel_rfl
theorem ZBd {R : Type} (N : Nat) (w_1 w_2 : ByteArray) (K : V → S → Option R) : ZaV C (ZmS N) (Zl0 N) 89 Tryd.f89 [.str w_1, .str w_2] [] K =
 Zkf N w_1 w_2 (fun x_3 => K (.int .i64 x_3) []) := by kernel_rfl
theorem Zsh {N : Nat} (hC : Ok Tryd.prog C) (hΦ : Zaa Tryd.prog C (ZmS N)) : Za4 Tryd.prog C (Zl0 N) ZtH [] :=
 Za5 ZtH [] (by
  rw [Zyt]
  intro p hp
  simp only [List.mem_cons, List.mem_nil_iff, or_false] at hp
  rcases hp with rfl
  ·exact (ZvL hC hΦ))
theorem ZpI (hC : Ok Tryd.prog C) {N : Nat} (hΦ : Zaa Tryd.prog C (ZmS N)) : Zaa Tryd.prog C (ZlU N) := by
 refine hΦ.add_pure rfl fun R vs K r h => ?_
 unfold Zyi at h
 obtain ⟨_, _, rfl, h1⟩ := ZaG h
 obtain ⟨_, rfl, h2⟩ := Zaj h1
 obtain ⟨_, rfl, h3⟩ := Zaj h2
 obtain ⟨_, h4⟩ := Zaf h3
 refine Zap (fn := Tryd.f89) (c := ZtH) hC hΦ Tryd.func89 (by kernel_rfl) (by kernel_rfl) (Zsh (N := N) hC hΦ) rfl rfl ?_
 refine (ZBd N _ _ _).trans ?_
 rw [← Zot]
 exact h4
def ZyG (N : Nat) : (R : Type) → List V → S → (V → S → Option R) → Option R := fun _ vs s K =>
 ZBv vs fun v'1 v'2 v'3 v'4 => ZaQ v'1 fun w_1 => ZaQ v'2 fun w_2 => asInt .i64 v'3 fun x_3 => asInt .i64 v'4 fun x_4 => Zak (Zbf []) <| Zak (okI 0 [] []) <| ZwC N w_1 w_2 x_3 x_4 (fun e_901 => FK s [] rl K (.list 1 e_901 .sh) []) (fun k_902 e_903 => FK s [] rl K (.arr 0 0 0 k_902) [some ⟨e_903, 1, 9, 0⟩])
def Zuk (N : Nat) : Zao := (ZlU N).add 83 (ZyG N)
def Zto : Code := ZaE Tryd.f83
def Zm8 : Code := (Zcp Zto [] 0).2
def Zil : List Nat := Zd3 66 [0, 1, 2, 3, 9, 10]
def ZoC : List Nat := Zd3 66 [0, 9, 10]
def ZgP (w_2 : ByteArray) (x_3 x_4 : Int) (k_5 : Nat) (w_1 : ByteArray) (x_6 : Int) (e_7 : List V) : List V := mkF 0 66 [(0, .str w_1), (1, .str w_2), (2, .int .i64 x_3), (3, .int .i64 x_4), (9, .arr 0 0 0 k_5), (10, .int .i64 x_6)]
def ZfF {R : Type} (K : X → List V → S → Option R) (w_2 : ByteArray) (x_3 : Int) (x_4 : Int) (k_5 : Nat) : ByteArray → Int → List V → Option R := (fun w_1' x_2' e_3' => K (.exit 0) (mkF 0 66 [(0, .str (w_1')), (9, .arr 0 0 0 k_5), (10, .int .i64 (x_2'))]) [some ⟨e_3', 1, 9, 0⟩])
abbrev Zik {R : Type} (N : Nat) : Nat → List V → S → (X → List V → S → Option R) → Option R := fun n => ZhA C (ZlU N) (Zac) Zm8 [0, 0, 1, 1, 1, 1, 1, 1, 1, 1] false Zil ZoC n R
theorem Zwq {R : Type} (N n : Nat) (w_2 : ByteArray) (x_3 x_4 : Int) (k_5 : Nat) (w_1 : ByteArray) (x_6 : Int) (e_7 : List V) (K : X → List V → S → Option R) :
 Zik N (n + 1) (ZgP w_2 x_3 x_4 k_5 w_1 x_6 e_7) [some ⟨e_7, 1, 9, 0⟩] K =
 ZcK N w_2 x_3 x_4 k_5 (fun w_1 x_6 e_7 => Zik N n (ZgP w_2 x_3 x_4 k_5 w_1 x_6 e_7) [some ⟨e_7, 1, 9, 0⟩] K) w_1 x_6 e_7 (ZfF K w_2 x_3 x_4 k_5) := by kernel_rfl
theorem Ztw {R : Type} (N : Nat) (w_2 : ByteArray) (x_3 x_4 : Int) (k_5 : Nat) (K : X → List V → S → Option R) : ∀ (n : Nat) (w_1 : ByteArray) (x_6 : Int) (e_7 : List V),
 Zik N n (ZgP w_2 x_3 x_4 k_5 w_1 x_6 e_7) [some ⟨e_7, 1, 9, 0⟩] K = ZdT N w_2 x_3 x_4 k_5 (ZfF K w_2 x_3 x_4 k_5) n w_1 x_6 e_7
 | 0, _, _, _ => rfl
 | n + 1, w_1, x_6, e_7 => (Zwq N n w_2 x_3 x_4 k_5 w_1 x_6 e_7 K).trans (congrArg (fun nx => ZcK N w_2 x_3 x_4 k_5 nx w_1 x_6 e_7 (ZfF K w_2 x_3 x_4 k_5)) (funext fun w_1 => funext fun x_6 => funext fun e_7 => Ztw N w_2 x_3 x_4 k_5 K n w_1 x_6 e_7))
def ZmJ {R : Type} (E : List V) (s : S) (k : ByteArray → ByteArray → Int → Int → Nat → Int → List V → Option R) : Option R :=
 Zak (ZbO 66 [0, 1, 2, 3, 9, 10] E) <| ZfC E 0 fun w_1 => ZfC E 1 fun w_2 => Zca E 2 .i64 fun x_3 => Zca E 3 .i64 fun x_4 => ZbW (nth E 9) fun u9 => Zm5 u9 fun k'1 k'2 k'3 k_5 => isN k'1 0 <| isN k'2 0 <| isN k'3 0 <| Zca E 10 .i64 fun x_6 => ZuA s fun o'4 s'5 => ZnR o'4 1 9 fun e_7 k'6 => isN k'6 0 <| ZaR s'5 <| k w_1 w_2 x_3 x_4 k_5 x_6 e_7
theorem Zlo {R : Type} {E : List V} {s : S} {k : ByteArray → ByteArray → Int → Int → Nat → Int → List V → Option R} {r : R} (h : ZmJ E s k = some r) : ∃ w_1 w_2 x_3 x_4 k_5 x_6 e_7, E = ZgP w_2 x_3 x_4 k_5 w_1 x_6 e_7 ∧ s = [some ⟨e_7, 1, 9, 0⟩] ∧ k w_1 w_2 x_3 x_4 k_5 x_6 e_7 = some r := by
 unfold ZmJ at h
 obtain ⟨hg, h1⟩ := Zab h
 obtain ⟨_, hu0, h2⟩ := Zbt h1
 obtain ⟨_, hu1, h3⟩ := Zbt h2
 obtain ⟨_, hu2, h4⟩ := Zax h3
 obtain ⟨_, hu3, h5⟩ := Zax h4
 obtain ⟨_, hu9, h6⟩ := Zae h5
 obtain ⟨_, _, _, _, rfl, h7⟩ := Zds h6
 obtain ⟨rfl, h8⟩ := Zaw h7
 obtain ⟨rfl, h9⟩ := Zaw h8
 obtain ⟨rfl, h10⟩ := Zaw h9
 obtain ⟨_, hu10, h11⟩ := Zax h10
 obtain ⟨_, _, rfl, h12⟩ := Zc7 h11
 obtain ⟨_, _, rfl, h13⟩ := ZbR h12
 obtain ⟨rfl, h14⟩ := Zaw h13
 obtain ⟨rfl, h15⟩ := Zaf h14
 exact ⟨_, _, _, _, _, _, _, Zbz hg rfl (Zai hu0 (Zai hu1 (Zai hu2 (Zai hu3 (Zai hu9 (Zai hu10 Zbm)))))), rfl, h15⟩
def ZlZ (N : Nat) : ZaL := (Zac).add [0, 0, 1, 1, 1, 1, 1, 1, 1, 1] fun _ E s K => ZmJ (Zbk Zil E) s fun w_1 w_2 x_3 x_4 k_5 x_6 e_7 => ZdT N w_2 x_3 x_4 k_5 (ZfF K w_2 x_3 x_4 k_5) N w_1 x_6 e_7
theorem ZvT {N : Nat} (hC : Ok Tryd.prog C) (hΦ : Zaa Tryd.prog C (ZlU N)) : Zb0 Tryd.prog C (ZlZ N) Zm8 [0, 0, 1, 1, 1, 1, 1, 1, 1, 1] :=
 Zb8 (Λi := Zac) (tr := false) (ks := Zil) (kx := ZoC) (N := N) hC hΦ
  (Zag (by kernel_rfl))
  fun R E s K r h => by
   have h2 := ZaL.add_self.symm.trans h
   obtain ⟨_, _, _, _, _, _, _, he, rfl, h3⟩ := Zlo h2
   rw [he]
   exact (Ztw N _ _ _ _ _ N _ _ _).trans h3
theorem Zyw : Zbh Zto [] = [([0, 0, 1, 1, 1, 1, 1, 1, 1, 1], Zm8)] := by kernel_rfl
theorem ZA3 {R : Type} (N : Nat) (w_1 w_2 : ByteArray) (x_3 x_4 : Int) (K : V → S → Option R) : ZaV C (ZlU N) (ZlZ N) 83 Tryd.f83 [.str w_1, .str w_2, .int .i64 x_3, .int .i64 x_4] [] (GK rl 0 K) =
 ZkL N w_1 w_2 x_3 x_4 (fun e_901 => K (.list 1 e_901 .sh) []) (fun k_902 e_903 => K (.arr 0 0 0 k_902) [some ⟨e_903, 1, 9, 0⟩]) := by kernel_rfl
theorem ZsV {N : Nat} (hC : Ok Tryd.prog C) (hΦ : Zaa Tryd.prog C (ZlU N)) : Za4 Tryd.prog C (ZlZ N) Zto [] :=
 Za5 Zto [] (by
  rw [Zyw]
  intro p hp
  simp only [List.mem_cons, List.mem_nil_iff, or_false] at hp
  rcases hp with rfl
  ·exact (ZvT hC hΦ))
theorem Zp1 (hC : Ok Tryd.prog C) {N : Nat} (hΦ : Zaa Tryd.prog C (ZlU N)) : Zaa Tryd.prog C (Zuk N) := by
 refine hΦ.add_shared rfl fun R vs s K r h => ?_
 unfold ZyG at h
 obtain ⟨_, _, _, _, rfl, h1⟩ := Zrq h
 obtain ⟨w_1, rfl, h2⟩ := Zaj h1
 obtain ⟨w_2, rfl, h3⟩ := Zaj h2
 obtain ⟨x_3, rfl, h4⟩ := ZaI h3
 obtain ⟨x_4, rfl, h5⟩ := ZaI h4
 obtain ⟨hdist, h6⟩ := Zab h5
 obtain ⟨hin, h7⟩ := Zab h6
 refine ZbN (fn := Tryd.f83) (c := Zto) (os := []) (rl := rl) (bi := []) (s0 := []) (as0 := [.str w_1, .str w_2, .int .i64 x_3, .int .i64 x_4]) hC hΦ Tryd.func83 (by kernel_rfl) (by kernel_rfl) (ZsV (N := N) hC hΦ) rfl hdist trivial hin rfl rfl ?_
 refine (ZA3 N _ _ _ _ _).trans ?_
 rw [← ZoS]
 exact h7
def Zx2 (N : Nat) : (R : Type) → List V → S → (V → S → Option R) → Option R := fun _ vs s K =>
 Zej vs fun v'1 v'2 => ZaQ v'1 fun w_1 => ZaQ v'2 fun w_2 => Zak (Zbf []) <| Zak (okI 0 [] []) <| ZuM N w_1 w_2 (fun e_901 => FK s [] rl K (.list 1 e_901 .sh) []) (fun k_902 e_903 => FK s [] rl K (.arr 0 0 0 k_902) [some ⟨e_903, 1, 9, 0⟩])
def ZtK (N : Nat) : Zao := (Zuk N).add 68 (Zx2 N)
def Zz5 : Code := ZaE Tryd.f68
theorem ZAk {R : Type} (N : Nat) (w_1 w_2 : ByteArray) (K : V → S → Option R) : ZaV C (Zuk N) (Zac) 68 Tryd.f68 [.str w_1, .str w_2] [] (GK rl 0 K) =
 Zjv N w_1 w_2 (fun e_901 => K (.list 1 e_901 .sh) []) (fun k_902 e_903 => K (.arr 0 0 0 k_902) [some ⟨e_903, 1, 9, 0⟩]) := by kernel_rfl
theorem Zqb (hC : Ok Tryd.prog C) {N : Nat} (hΦ : Zaa Tryd.prog C (Zuk N)) : Zaa Tryd.prog C (ZtK N) := by
 refine hΦ.add_shared rfl fun R vs s K r h => ?_
 unfold Zx2 at h
 obtain ⟨_, _, rfl, h1⟩ := ZaG h
 obtain ⟨w_1, rfl, h2⟩ := Zaj h1
 obtain ⟨w_2, rfl, h3⟩ := Zaj h2
 obtain ⟨hdist, h4⟩ := Zab h3
 obtain ⟨hin, h5⟩ := Zab h4
 refine ZbN (fn := Tryd.f68) (c := Zz5) (os := []) (rl := rl) (bi := []) (s0 := []) (as0 := [.str w_1, .str w_2]) hC hΦ Tryd.func68 (by kernel_rfl) (by kernel_rfl) (Zag (Λ := Zac) (by kernel_rfl)) rfl hdist trivial hin rfl rfl ?_
 refine (ZAk N _ _ _).trans ?_
 rw [← ZnE]
 exact h5
def Zza (N : Nat) : (R : Type) → List V → S → (V → S → Option R) → Option R := fun _ vs s K =>
 Zde vs fun v'1 => ZaQ v'1 fun w_1 => ZaR s <| Zsk N w_1 (fun b_2 => K (.bool b_2) [])
def ZmK (N : Nat) : Zao := (ZtK N).add 69 (Zza N)
def ZzY : Code := ZaE Tryd.f69
theorem ZAm {R : Type} (N : Nat) (w_1 : ByteArray) (K : V → S → Option R) : ZaV C (ZtK N) (Zac) 69 Tryd.f69 [.str w_1] [] K =
 ZhP N w_1 (fun b_2 => K (.bool b_2) []) := by kernel_rfl
theorem ZqY (hC : Ok Tryd.prog C) {N : Nat} (hΦ : Zaa Tryd.prog C (ZtK N)) : Zaa Tryd.prog C (ZmK N) := by
 refine hΦ.add_pure rfl fun R vs K r h => ?_
 unfold Zza at h
 obtain ⟨_, rfl, h1⟩ := Zau h
 obtain ⟨_, rfl, h2⟩ := Zaj h1
 obtain ⟨_, h3⟩ := Zaf h2
 refine Zap (fn := Tryd.f69) (c := ZzY) hC hΦ Tryd.func69 (by kernel_rfl) (by kernel_rfl) (Zag (Λ := Zac) (by kernel_rfl)) rfl rfl ?_
 refine (ZAm N _ _).trans ?_
 rw [← Zi3]
 exact h3
def ZxH (N : Nat) : (R : Type) → List V → S → (V → S → Option R) → Option R := fun _ vs s K =>
 Zej vs fun v'1 v'2 => Zbq 1 v'1 fun e_1 f_2 => Zre 69 v'2 fun c'3 => ZqQ c'3 <| ZaR s <| Zuh N e_1 f_2 (fun x_3 => K (.int .i64 x_3) [])
def Zmv (N : Nat) : Zao := (ZmK N).addIf 70 (fun l => Zy1 1 69 l) (ZxH N)
def ZrO : Code := ZaE Tryd.f70
def ZlL : Code := (Zcp ZrO [] 0).2
def ZiC : List Nat := Zd3 19 [0, 1, 7, 8]
def Zo3 : List Nat := Zd3 19 [4]
def Zgq (e_1 : List V) (f_2 : Fl) (x_3 x_4 : Int) : List V := mkF 0 19 [(0, .list 1 e_1 f_2), (1, .fn 69 []), (7, .int .i64 x_3), (8, .int .i64 x_4)]
def Zfa {R : Type} (K : X → List V → S → Option R) (e_1 : List V) (f_2 : Fl) (x_3 : Int) : Int → Option R := (fun x_1' => K .ret (mkF 0 19 [(4, .int .i64 (x_1'))]) [])
def Ze1 {R : Type} (K : X → List V → S → Option R) (e_1 : List V) (f_2 : Fl) (x_3 : Int) : Unit → Option R := (fun _ => K (.exit 0) (mkF 0 19 []) [])
abbrev ZiA {R : Type} (N : Nat) : Nat → List V → S → (X → List V → S → Option R) → Option R := fun n => ZhA C (ZmK N) (Zac) ZlL [0, 1, 0, 1] false ZiC Zo3 n R
theorem Zwc {R : Type} (N n : Nat) (e_1 : List V) (f_2 : Fl) (x_3 : Int) (x_4 : Int) (K : X → List V → S → Option R) :
 ZiA N (n + 1) (Zgq e_1 f_2 x_3 x_4) [] K =
 ZcJ N e_1 f_2 x_3 (fun x_4 => ZiA N n (Zgq e_1 f_2 x_3 x_4) [] K) x_4 (Zfa K e_1 f_2 x_3) (Ze1 K e_1 f_2 x_3) := by kernel_rfl
theorem ZtA {R : Type} (N : Nat) (e_1 : List V) (f_2 : Fl) (x_3 : Int) (K : X → List V → S → Option R) : ∀ (n : Nat) (x_4 : Int),
 ZiA N n (Zgq e_1 f_2 x_3 x_4) [] K = ZeK N e_1 f_2 x_3 (Zfa K e_1 f_2 x_3) (Ze1 K e_1 f_2 x_3) n x_4
 | 0, _ => rfl
 | n + 1, x_4 => (Zwc N n e_1 f_2 x_3 x_4 K).trans (congrArg (fun nx => ZcJ N e_1 f_2 x_3 nx x_4 (Zfa K e_1 f_2 x_3) (Ze1 K e_1 f_2 x_3)) (funext fun x_4 => ZtA N e_1 f_2 x_3 K n x_4))
def Zmt {R : Type} (E : List V) (s : S) (k : List V → Fl → Int → Int → Option R) : Option R :=
 Zak (ZbO 19 [0, 1, 7, 8] E) <| ZjM E 0 1 fun e_1 f_2 => ZbW (nth E 1) fun u1 => Zre 69 u1 fun c'1 => ZqQ c'1 <| Zca E 7 .i64 fun x_3 => Zca E 8 .i64 fun x_4 => ZaR s <| k e_1 f_2 x_3 x_4
theorem ZjS {R : Type} {E : List V} {s : S} {k : List V → Fl → Int → Int → Option R} {r : R} (h : Zmt E s k = some r) : ∃ e_1 f_2 x_3 x_4, E = Zgq e_1 f_2 x_3 x_4 ∧ s = [] ∧ k e_1 f_2 x_3 x_4 = some r := by
 unfold Zmt at h
 obtain ⟨hg, h1⟩ := Zab h
 obtain ⟨_, _, hu0, h2⟩ := ZdD h1
 obtain ⟨_, hu1, h3⟩ := Zae h2
 obtain ⟨_, rfl, h4⟩ := Zce h3
 obtain ⟨rfl, h5⟩ := Zb5 h4
 obtain ⟨_, hu7, h6⟩ := Zax h5
 obtain ⟨_, hu8, h7⟩ := Zax h6
 obtain ⟨rfl, h8⟩ := Zaf h7
 exact ⟨_, _, _, _, Zbz hg rfl (Zai hu0 (Zai hu1 (Zai hu7 (Zai hu8 Zbm)))), rfl, h8⟩
def Zmk (N : Nat) : ZaL := (Zac).add [0, 1, 0, 1] fun _ E s K => Zmt (Zbk ZiC E) s fun e_1 f_2 x_3 x_4 => ZeK N e_1 f_2 x_3 (Zfa K e_1 f_2 x_3) (Ze1 K e_1 f_2 x_3) N x_4
theorem Zuz {N : Nat} (hC : Ok Tryd.prog C) (hΦ : Zaa Tryd.prog C (ZmK N)) : Zb0 Tryd.prog C (Zmk N) ZlL [0, 1, 0, 1] :=
 Zb8 (Λi := Zac) (tr := false) (ks := ZiC) (kx := Zo3) (N := N) hC hΦ
  (Zag (by kernel_rfl))
  fun R E s K r h => by
   have h2 := ZaL.add_self.symm.trans h
   obtain ⟨_, _, _, _, he, rfl, h3⟩ := ZjS h2
   rw [he]
   exact (ZtA N _ _ _ _ N _).trans h3
theorem ZxY : Zbh ZrO [] = [([0, 1, 0, 1], ZlL)] := by kernel_rfl
theorem ZAV {R : Type} (N : Nat) (e_1 : List V) (f_2 : Fl) (K : V → S → Option R) : ZaV C (ZmK N) (Zmk N) 70 Tryd.f70 [.list 1 e_1 f_2, .fn 69 []] [] K =
 Zk3 N e_1 f_2 (fun x_3 => K (.int .i64 x_3) []) := by kernel_rfl
theorem ZrX {N : Nat} (hC : Ok Tryd.prog C) (hΦ : Zaa Tryd.prog C (ZmK N)) : Za4 Tryd.prog C (Zmk N) ZrO [] :=
 Za5 ZrO [] (by
  rw [ZxY]
  intro p hp
  simp only [List.mem_cons, List.mem_nil_iff, or_false] at hp
  rcases hp with rfl
  ·exact (Zuz hC hΦ))
theorem Zqp (hC : Ok Tryd.prog C) {N : Nat} (hΦ : Zaa Tryd.prog C (ZmK N)) : Zaa Tryd.prog C (Zmv N) := by
 refine hΦ.addIf_pure rfl fun R vs K r h => ?_
 unfold ZxH at h
 obtain ⟨_, _, rfl, h1⟩ := ZaG h
 obtain ⟨_, _, rfl, h2⟩ := Zat h1
 obtain ⟨_, rfl, h3⟩ := Zce h2
 obtain ⟨rfl, h4⟩ := Zb5 h3
 obtain ⟨_, h5⟩ := Zaf h4
 refine Zap (fn := Tryd.f70) (c := ZrO) hC hΦ Tryd.func70 (by kernel_rfl) (by kernel_rfl) (ZrX (N := N) hC hΦ) rfl rfl ?_
 refine (ZAV N _ _ _).trans ?_
 rw [← Zoy]
 exact h5
def Zxr (N : Nat) : (R : Type) → List V → S → (V → S → Option R) → Option R := fun _ vs s K =>
 Zej vs fun v'1 v'2 => Zm5 v'1 fun o0 k'4 k'5 k_1 => isN k'4 0 <| isN k'5 0 <| Zre 69 v'2 fun c'6 => ZqQ c'6 <| ZuF s o0 0 fun o'7 => ZnR o'7 1 9 fun e_2 k'9 => isN k'9 0 <| Zak (Zbf [o0]) <| Zak (okI 1 [false] [some ⟨e_2, 1, 9, 0⟩]) <| Zvu N k_1 e_2 (fun k_901 e_902 => FK s [o0] rl K (.arr 0 0 0 k_901) [some ⟨e_902, 1, 9, 0⟩])
def ZuL (N : Nat) : Zao := (Zmv N).addIf 67 (fun l => Zz1 1 69 l) (Zxr N)
def Zr3 : Code := ZaE Tryd.f67
def ZlO : Code := (Zcp Zr3 [] 0).2
def Zi0 : List Nat := Zd3 42 [0, 1, 5, 6]
def Znw : List Nat := Zd3 42 [0, 5]
def Zgz (k_1 : Nat) (x_2 x_3 : Int) (e_4 : List V) : List V := mkF 0 42 [(0, .arr 0 0 0 k_1), (1, .fn 69 []), (5, .int .i64 x_2), (6, .int .i64 x_3)]
def ZfB {R : Type} (K : X → List V → S → Option R) (k_1 : Nat) : Int → List V → Option R := (fun x_1' e_2' => K (.exit 0) (mkF 0 42 [(0, .arr 0 0 0 k_1), (5, .int .i64 (x_1'))]) [some ⟨e_2', 1, 9, 0⟩])
abbrev Zid {R : Type} (N : Nat) : Nat → List V → S → (X → List V → S → Option R) → Option R := fun n => ZhA C (Zmv N) (Zac) ZlO [0, 1, 0, 1, 1, 1] false Zi0 Znw n R
theorem Zwn {R : Type} (N n : Nat) (k_1 : Nat) (x_2 x_3 : Int) (e_4 : List V) (K : X → List V → S → Option R) :
 Zid N (n + 1) (Zgz k_1 x_2 x_3 e_4) [some ⟨e_4, 1, 9, 0⟩] K =
 ZcL N k_1 (fun x_2 x_3 e_4 => Zid N n (Zgz k_1 x_2 x_3 e_4) [some ⟨e_4, 1, 9, 0⟩] K) x_2 x_3 e_4 (ZfB K k_1) := by kernel_rfl
theorem ZsA {R : Type} (N : Nat) (k_1 : Nat) (K : X → List V → S → Option R) : ∀ (n : Nat) (x_2 x_3 : Int) (e_4 : List V),
 Zid N n (Zgz k_1 x_2 x_3 e_4) [some ⟨e_4, 1, 9, 0⟩] K = ZdJ N k_1 (ZfB K k_1) n x_2 x_3 e_4
 | 0, _, _, _ => rfl
 | n + 1, x_2, x_3, e_4 => (Zwn N n k_1 x_2 x_3 e_4 K).trans (congrArg (fun nx => ZcL N k_1 nx x_2 x_3 e_4 (ZfB K k_1)) (funext fun x_2 => funext fun x_3 => funext fun e_4 => ZsA N k_1 K n x_2 x_3 e_4))
def ZlG {R : Type} (E : List V) (s : S) (k : Nat → Int → Int → List V → Option R) : Option R :=
 Zak (ZbO 42 [0, 1, 5, 6] E) <| ZbW (nth E 0) fun u0 => Zm5 u0 fun k'1 k'2 k'3 k_1 => isN k'1 0 <| isN k'2 0 <| isN k'3 0 <| ZbW (nth E 1) fun u1 => Zre 69 u1 fun c'4 => ZqQ c'4 <| Zca E 5 .i64 fun x_2 => Zca E 6 .i64 fun x_3 => ZuA s fun o'5 s'6 => ZnR o'5 1 9 fun e_4 k'7 => isN k'7 0 <| ZaR s'6 <| k k_1 x_2 x_3 e_4
theorem ZjE {R : Type} {E : List V} {s : S} {k : Nat → Int → Int → List V → Option R} {r : R} (h : ZlG E s k = some r) : ∃ k_1 x_2 x_3 e_4, E = Zgz k_1 x_2 x_3 e_4 ∧ s = [some ⟨e_4, 1, 9, 0⟩] ∧ k k_1 x_2 x_3 e_4 = some r := by
 unfold ZlG at h
 obtain ⟨hg, h1⟩ := Zab h
 obtain ⟨_, hu0, h2⟩ := Zae h1
 obtain ⟨_, _, _, _, rfl, h3⟩ := Zds h2
 obtain ⟨rfl, h4⟩ := Zaw h3
 obtain ⟨rfl, h5⟩ := Zaw h4
 obtain ⟨rfl, h6⟩ := Zaw h5
 obtain ⟨_, hu1, h7⟩ := Zae h6
 obtain ⟨_, rfl, h8⟩ := Zce h7
 obtain ⟨rfl, h9⟩ := Zb5 h8
 obtain ⟨_, hu5, h10⟩ := Zax h9
 obtain ⟨_, hu6, h11⟩ := Zax h10
 obtain ⟨_, _, rfl, h12⟩ := Zc7 h11
 obtain ⟨_, _, rfl, h13⟩ := ZbR h12
 obtain ⟨rfl, h14⟩ := Zaw h13
 obtain ⟨rfl, h15⟩ := Zaf h14
 exact ⟨_, _, _, _, Zbz hg rfl (Zai hu0 (Zai hu1 (Zai hu5 (Zai hu6 Zbm)))), rfl, h15⟩
def ZmU (N : Nat) : ZaL := (Zac).add [0, 1, 0, 1, 1, 1] fun _ E s K => ZlG (Zbk Zi0 E) s fun k_1 x_2 x_3 e_4 => ZdJ N k_1 (ZfB K k_1) N x_2 x_3 e_4
theorem Zut {N : Nat} (hC : Ok Tryd.prog C) (hΦ : Zaa Tryd.prog C (Zmv N)) : Zb0 Tryd.prog C (ZmU N) ZlO [0, 1, 0, 1, 1, 1] :=
 Zb8 (Λi := Zac) (tr := false) (ks := Zi0) (kx := Znw) (N := N) hC hΦ
  (Zag (by kernel_rfl))
  fun R E s K r h => by
   have h2 := ZaL.add_self.symm.trans h
   obtain ⟨_, _, _, _, he, rfl, h3⟩ := ZjE h2
   rw [he]
   exact (ZsA N _ _ N _ _ _).trans h3
theorem Zxv : Zbh Zr3 [] = [([0, 1, 0, 1, 1, 1], ZlO)] := by kernel_rfl
theorem ZA4 {R : Type} (N : Nat) (k_1 : Nat) (e_2 : List V) (K : V → S → Option R) : ZaV C (Zmv N) (ZmU N) 67 Tryd.f67 [.arr 0 0 0 k_1, .fn 69 []] [some ⟨e_2, 1, 9, 0⟩] (GK rl 1 K) =
 ZjI N k_1 e_2 (fun k_901 e_902 => K (.arr 0 0 0 k_901) [some ⟨e_902, 1, 9, 0⟩]) := by kernel_rfl
theorem Zrh {N : Nat} (hC : Ok Tryd.prog C) (hΦ : Zaa Tryd.prog C (Zmv N)) : Za4 Tryd.prog C (ZmU N) Zr3 [] :=
 Za5 Zr3 [] (by
  rw [Zxv]
  intro p hp
  simp only [List.mem_cons, List.mem_nil_iff, or_false] at hp
  rcases hp with rfl
  ·exact (Zut hC hΦ))
theorem Zq7 (hC : Ok Tryd.prog C) {N : Nat} (hΦ : Zaa Tryd.prog C (Zmv N)) : Zaa Tryd.prog C (ZuL N) := by
 refine hΦ.addIf_shared rfl fun R vs s K r h => ?_
 unfold Zxr at h
 obtain ⟨_, _, rfl, h1⟩ := ZaG h
 obtain ⟨o0, _, _, k_1, rfl, h2⟩ := Zds h1
 obtain ⟨rfl, h3⟩ := Zaw h2
 obtain ⟨rfl, h4⟩ := Zaw h3
 obtain ⟨_, rfl, h5⟩ := Zce h4
 obtain ⟨rfl, h6⟩ := Zb5 h5
 obtain ⟨_, hob0, h7⟩ := Zc2 h6
 obtain ⟨e_2, _, rfl, h8⟩ := ZbR h7
 obtain ⟨rfl, h9⟩ := Zaw h8
 obtain ⟨hdist, h10⟩ := Zab h9
 obtain ⟨hin, h11⟩ := Zab h10
 refine ZbN (fn := Tryd.f67) (c := Zr3) (os := [o0]) (rl := rl) (bi := [false]) (s0 := [some ⟨e_2, 1, 9, 0⟩]) (as0 := [.arr 0 0 0 k_1, .fn 69 []]) hC hΦ Tryd.func67 (by kernel_rfl) (by kernel_rfl) (Zrh (N := N) hC hΦ) rfl hdist ⟨⟨_, rfl, hob0⟩, trivial⟩ hin rfl rfl ?_
 refine (ZA4 N _ _ _).trans ?_
 rw [← ZnK]
 exact h11
def Zyb (N : Nat) : (R : Type) → List V → S → (V → S → Option R) → Option R := fun _ vs s K =>
 Zde vs fun v'1 => ZaQ v'1 fun w_1 => ZaR s <| Zsn N w_1 (fun e_2 => K (.list 1 e_2 .sh) [])
def ZtS (N : Nat) : Zao := (ZuL N).add 43 (Zyb N)
def ZzI : Code := ZaE Tryd.f43
theorem Zz7 {R : Type} (N : Nat) (w_1 : ByteArray) (K : V → S → Option R) : ZaV C (ZuL N) (Zac) 43 Tryd.f43 [.str w_1] [] K =
 ZjL N w_1 (fun e_2 => K (.list 1 e_2 .sh) []) := by kernel_rfl
theorem Zp8 (hC : Ok Tryd.prog C) {N : Nat} (hΦ : Zaa Tryd.prog C (ZuL N)) : Zaa Tryd.prog C (ZtS N) := by
 refine hΦ.add_pure rfl fun R vs K r h => ?_
 unfold Zyb at h
 obtain ⟨_, rfl, h1⟩ := Zau h
 obtain ⟨_, rfl, h2⟩ := Zaj h1
 obtain ⟨_, h3⟩ := Zaf h2
 refine Zap (fn := Tryd.f43) (c := ZzI) hC hΦ Tryd.func43 (by kernel_rfl) (by kernel_rfl) (Zag (Λ := Zac) (by kernel_rfl)) rfl rfl ?_
 refine (Zz7 N _ _).trans ?_
 rw [← ZoD]
 exact h3
def ZyR (N : Nat) : (R : Type) → List V → S → (V → S → Option R) → Option R := fun _ vs s K =>
 Zwa vs fun v'1 v'2 v'3 => asInt .i64 v'1 fun x_1 => asInt .i64 v'2 fun x_2 => asInt .i64 v'3 fun x_3 => ZaR s <| Zvl N x_1 x_2 x_3 (fun b_4 => K (.bool b_4) [])
def ZvG (N : Nat) : Zao := (ZtS N).add 71 (ZyR N)
def Zz3 : Code := ZaE Tryd.f71
theorem ZAd {R : Type} (N : Nat) (x_1 x_2 x_3 : Int) (K : V → S → Option R) : ZaV C (ZtS N) (Zac) 71 Tryd.f71 [.int .i64 x_1, .int .i64 x_2, .int .i64 x_3] [] K =
 Zk1 N x_1 x_2 x_3 (fun b_4 => K (.bool b_4) []) := by kernel_rfl
theorem ZpM (hC : Ok Tryd.prog C) {N : Nat} (hΦ : Zaa Tryd.prog C (ZtS N)) : Zaa Tryd.prog C (ZvG N) := by
 refine hΦ.add_pure rfl fun R vs K r h => ?_
 unfold ZyR at h
 obtain ⟨_, _, _, rfl, h1⟩ := Zd2 h
 obtain ⟨_, rfl, h2⟩ := ZaI h1
 obtain ⟨_, rfl, h3⟩ := ZaI h2
 obtain ⟨_, rfl, h4⟩ := ZaI h3
 obtain ⟨_, h5⟩ := Zaf h4
 refine Zap (fn := Tryd.f71) (c := Zz3) hC hΦ Tryd.func71 (by kernel_rfl) (by kernel_rfl) (Zag (Λ := Zac) (by kernel_rfl)) rfl rfl ?_
 refine (ZAd N _ _ _ _).trans ?_
 rw [← Zop]
 exact h5
def Zzb (N : Nat) : (R : Type) → List V → S → (V → S → Option R) → Option R := fun _ vs s K =>
 Zde vs fun v'1 => asInt .u8 v'1 fun x_1 => ZaR s <| Zvm N x_1 (fun b_2 => K (.bool b_2) [])
def ZvI (N : Nat) : Zao := (ZvG N).add 74 (Zzb N)
def ZBj : Code := ZaE Tryd.f74
theorem ZBs {R : Type} (N : Nat) (x_1 : Int) (K : V → S → Option R) : ZaV C (ZvG N) (Zac) 74 Tryd.f74 [.int .u8 x_1] [] K =
 Zkw N x_1 (fun b_2 => K (.bool b_2) []) := by kernel_rfl
theorem ZpW (hC : Ok Tryd.prog C) {N : Nat} (hΦ : Zaa Tryd.prog C (ZvG N)) : Zaa Tryd.prog C (ZvI N) := by
 refine hΦ.add_pure rfl fun R vs K r h => ?_
 unfold Zzb at h
 obtain ⟨_, rfl, h1⟩ := Zau h
 obtain ⟨_, rfl, h2⟩ := ZaI h1
 obtain ⟨_, h3⟩ := Zaf h2
 refine Zap (fn := Tryd.f74) (c := ZBj) hC hΦ Tryd.func74 (by kernel_rfl) (by kernel_rfl) (Zag (Λ := Zac) (by kernel_rfl)) rfl rfl ?_
 refine (ZBs N _ _).trans ?_
 rw [← Zpa]
 exact h3
def ZyD (N : Nat) : (R : Type) → List V → S → (V → S → Option R) → Option R := fun _ vs s K =>
 Zde vs fun v'1 => asInt .u8 v'1 fun x_1 => ZaR s <| ZwS N x_1 (fun b_2 => K (.bool b_2) [])
def ZmF (N : Nat) : Zao := (ZvI N).add 73 (ZyD N)
def ZAT : Code := ZaE Tryd.f73
theorem Zzu {R : Type} (N : Nat) (x_1 : Int) (K : V → S → Option R) : ZaV C (ZvI N) (Zac) 73 Tryd.f73 [.int .u8 x_1] [] K =
 ZjP N x_1 (fun b_2 => K (.bool b_2) []) := by kernel_rfl
theorem Zp2 (hC : Ok Tryd.prog C) {N : Nat} (hΦ : Zaa Tryd.prog C (ZvI N)) : Zaa Tryd.prog C (ZmF N) := by
 refine hΦ.add_pure rfl fun R vs K r h => ?_
 unfold ZyD at h
 obtain ⟨_, rfl, h1⟩ := Zau h
 obtain ⟨_, rfl, h2⟩ := ZaI h1
 obtain ⟨_, h3⟩ := Zaf h2
 refine Zap (fn := Tryd.f73) (c := ZAT) hC hΦ Tryd.func73 (by kernel_rfl) (by kernel_rfl) (Zag (Λ := Zac) (by kernel_rfl)) rfl rfl ?_
 refine (Zzu N _ _).trans ?_
 rw [← Zon]
 exact h3
def Zyn (N : Nat) : (R : Type) → List V → S → (V → S → Option R) → Option R := fun _ vs s K =>
 Zej vs fun v'1 v'2 => Zbq 1 v'1 fun e_1 f_2 => Zre 73 v'2 fun c'3 => ZqQ c'3 <| ZaR s <| ZwM N e_1 f_2 (fun x_3 => K (.int .i64 x_3) [])
def ZuG (N : Nat) : Zao := (ZmF N).addIf 84 (fun l => Zy1 1 73 l) (Zyn N)
def Zsb : Code := ZaE Tryd.f84
def ZlH : Code := (Zcp Zsb [] 0).2
def Ziw : List Nat := Zd3 19 [0, 1, 7, 8]
def ZnO : List Nat := Zd3 19 [4]
def ZgD (e_1 : List V) (f_2 : Fl) (x_3 x_4 : Int) : List V := mkF 0 19 [(0, .list 1 e_1 f_2), (1, .fn 73 []), (7, .int .i64 x_3), (8, .int .i64 x_4)]
def Ze3 {R : Type} (K : X → List V → S → Option R) (e_1 : List V) (f_2 : Fl) (x_3 : Int) : Int → Option R := (fun x_1' => K .ret (mkF 0 19 [(4, .int .i64 (x_1'))]) [])
def Zfs {R : Type} (K : X → List V → S → Option R) (e_1 : List V) (f_2 : Fl) (x_3 : Int) : Unit → Option R := (fun _ => K (.exit 0) (mkF 0 19 []) [])
abbrev Ziv {R : Type} (N : Nat) : Nat → List V → S → (X → List V → S → Option R) → Option R := fun n => ZhA C (ZmF N) (Zac) ZlH [0, 1, 0, 1] false Ziw ZnO n R
theorem ZwE {R : Type} (N n : Nat) (e_1 : List V) (f_2 : Fl) (x_3 : Int) (x_4 : Int) (K : X → List V → S → Option R) :
 Ziv N (n + 1) (ZgD e_1 f_2 x_3 x_4) [] K =
 ZcF N e_1 f_2 x_3 (fun x_4 => Ziv N n (ZgD e_1 f_2 x_3 x_4) [] K) x_4 (Ze3 K e_1 f_2 x_3) (Zfs K e_1 f_2 x_3) := by kernel_rfl
theorem ZsL {R : Type} (N : Nat) (e_1 : List V) (f_2 : Fl) (x_3 : Int) (K : X → List V → S → Option R) : ∀ (n : Nat) (x_4 : Int),
 Ziv N n (ZgD e_1 f_2 x_3 x_4) [] K = ZeT N e_1 f_2 x_3 (Ze3 K e_1 f_2 x_3) (Zfs K e_1 f_2 x_3) n x_4
 | 0, _ => rfl
 | n + 1, x_4 => (ZwE N n e_1 f_2 x_3 x_4 K).trans (congrArg (fun nx => ZcF N e_1 f_2 x_3 nx x_4 (Ze3 K e_1 f_2 x_3) (Zfs K e_1 f_2 x_3)) (funext fun x_4 => ZsL N e_1 f_2 x_3 K n x_4))
def ZmQ {R : Type} (E : List V) (s : S) (k : List V → Fl → Int → Int → Option R) : Option R :=
 Zak (ZbO 19 [0, 1, 7, 8] E) <| ZjM E 0 1 fun e_1 f_2 => ZbW (nth E 1) fun u1 => Zre 73 u1 fun c'1 => ZqQ c'1 <| Zca E 7 .i64 fun x_3 => Zca E 8 .i64 fun x_4 => ZaR s <| k e_1 f_2 x_3 x_4
theorem Zkq {R : Type} {E : List V} {s : S} {k : List V → Fl → Int → Int → Option R} {r : R} (h : ZmQ E s k = some r) : ∃ e_1 f_2 x_3 x_4, E = ZgD e_1 f_2 x_3 x_4 ∧ s = [] ∧ k e_1 f_2 x_3 x_4 = some r := by
 unfold ZmQ at h
 obtain ⟨hg, h1⟩ := Zab h
 obtain ⟨_, _, hu0, h2⟩ := ZdD h1
 obtain ⟨_, hu1, h3⟩ := Zae h2
 obtain ⟨_, rfl, h4⟩ := Zce h3
 obtain ⟨rfl, h5⟩ := Zb5 h4
 obtain ⟨_, hu7, h6⟩ := Zax h5
 obtain ⟨_, hu8, h7⟩ := Zax h6
 obtain ⟨rfl, h8⟩ := Zaf h7
 exact ⟨_, _, _, _, Zbz hg rfl (Zai hu0 (Zai hu1 (Zai hu7 (Zai hu8 Zbm)))), rfl, h8⟩
def Znq (N : Nat) : ZaL := (Zac).add [0, 1, 0, 1] fun _ E s K => ZmQ (Zbk Ziw E) s fun e_1 f_2 x_3 x_4 => ZeT N e_1 f_2 x_3 (Ze3 K e_1 f_2 x_3) (Zfs K e_1 f_2 x_3) N x_4
theorem ZtN {N : Nat} (hC : Ok Tryd.prog C) (hΦ : Zaa Tryd.prog C (ZmF N)) : Zb0 Tryd.prog C (Znq N) ZlH [0, 1, 0, 1] :=
 Zb8 (Λi := Zac) (tr := false) (ks := Ziw) (kx := ZnO) (N := N) hC hΦ
  (Zag (by kernel_rfl))
  fun R E s K r h => by
   have h2 := ZaL.add_self.symm.trans h
   obtain ⟨_, _, _, _, he, rfl, h3⟩ := Zkq h2
   rw [he]
   exact (ZsL N _ _ _ _ N _).trans h3
theorem ZyV : Zbh Zsb [] = [([0, 1, 0, 1], ZlH)] := by kernel_rfl
theorem ZA1 {R : Type} (N : Nat) (e_1 : List V) (f_2 : Fl) (K : V → S → Option R) : ZaV C (ZmF N) (Znq N) 84 Tryd.f84 [.list 1 e_1 f_2, .fn 73 []] [] K =
 Zkk N e_1 f_2 (fun x_3 => K (.int .i64 x_3) []) := by kernel_rfl
theorem ZrF {N : Nat} (hC : Ok Tryd.prog C) (hΦ : Zaa Tryd.prog C (ZmF N)) : Za4 Tryd.prog C (Znq N) Zsb [] :=
 Za5 Zsb [] (by
  rw [ZyV]
  intro p hp
  simp only [List.mem_cons, List.mem_nil_iff, or_false] at hp
  rcases hp with rfl
  ·exact (ZtN hC hΦ))
theorem ZqS (hC : Ok Tryd.prog C) {N : Nat} (hΦ : Zaa Tryd.prog C (ZmF N)) : Zaa Tryd.prog C (ZuG N) := by
 refine hΦ.addIf_pure rfl fun R vs K r h => ?_
 unfold Zyn at h
 obtain ⟨_, _, rfl, h1⟩ := ZaG h
 obtain ⟨_, _, rfl, h2⟩ := Zat h1
 obtain ⟨_, rfl, h3⟩ := Zce h2
 obtain ⟨rfl, h4⟩ := Zb5 h3
 obtain ⟨_, h5⟩ := Zaf h4
 refine Zap (fn := Tryd.f84) (c := Zsb) hC hΦ Tryd.func84 (by kernel_rfl) (by kernel_rfl) (ZrF (N := N) hC hΦ) rfl rfl ?_
 refine (ZA1 N _ _ _).trans ?_
 rw [← Znx]
 exact h5
def Zxu (N : Nat) : (R : Type) → List V → S → (V → S → Option R) → Option R := fun _ vs s K =>
 Zej vs fun v'1 v'2 => Zbq 1 v'1 fun e_1 f_2 => Zre 73 v'2 fun c'3 => ZqQ c'3 <| ZaR s <| ZuB N e_1 f_2 (fun b_3 => K (.bool b_3) [])
def ZvF (N : Nat) : Zao := (ZuG N).addIf 72 (fun l => Zy1 1 73 l) (Zxu N)
def ZAC : Code := ZaE Tryd.f72
theorem ZAw {R : Type} (N : Nat) (e_1 : List V) (f_2 : Fl) (K : V → S → Option R) : ZaV C (ZuG N) (Zac) 72 Tryd.f72 [.list 1 e_1 f_2, .fn 73 []] [] K =
 Zj4 N e_1 f_2 (fun b_3 => K (.bool b_3) []) := by kernel_rfl
theorem Zq5 (hC : Ok Tryd.prog C) {N : Nat} (hΦ : Zaa Tryd.prog C (ZuG N)) : Zaa Tryd.prog C (ZvF N) := by
 refine hΦ.addIf_pure rfl fun R vs K r h => ?_
 unfold Zxu at h
 obtain ⟨_, _, rfl, h1⟩ := ZaG h
 obtain ⟨_, _, rfl, h2⟩ := Zat h1
 obtain ⟨_, rfl, h3⟩ := Zce h2
 obtain ⟨rfl, h4⟩ := Zb5 h3
 obtain ⟨_, h5⟩ := Zaf h4
 refine Zap (fn := Tryd.f72) (c := ZAC) hC hΦ Tryd.func72 (by kernel_rfl) (by kernel_rfl) (Zag (Λ := Zac) (by kernel_rfl)) rfl rfl ?_
 refine (ZAw N _ _ _).trans ?_
 rw [← Zo1]
 exact h5
def ZyP (N : Nat) : (R : Type) → List V → S → (V → S → Option R) → Option R := fun _ vs s K =>
 Zde vs fun v'1 => ZaQ v'1 fun w_1 => ZaR s <| Zs1 N w_1 (fun b_2 => K (.bool b_2) [])
def ZtR (N : Nat) : Zao := (ZvF N).add 47 (ZyP N)
def ZBr : Code := ZaE Tryd.f47
theorem ZAt {R : Type} (N : Nat) (w_1 : ByteArray) (K : V → S → Option R) : ZaV C (ZvF N) (Zac) 47 Tryd.f47 [.str w_1] [] K =
 Zke N w_1 (fun b_2 => K (.bool b_2) []) := by kernel_rfl
theorem Zq2 (hC : Ok Tryd.prog C) {N : Nat} (hΦ : Zaa Tryd.prog C (ZvF N)) : Zaa Tryd.prog C (ZtR N) := by
 refine hΦ.add_pure rfl fun R vs K r h => ?_
 unfold ZyP at h
 obtain ⟨_, rfl, h1⟩ := Zau h
 obtain ⟨_, rfl, h2⟩ := Zaj h1
 obtain ⟨_, h3⟩ := Zaf h2
 refine Zap (fn := Tryd.f47) (c := ZBr) hC hΦ Tryd.func47 (by kernel_rfl) (by kernel_rfl) (Zag (Λ := Zac) (by kernel_rfl)) rfl rfl ?_
 refine (ZAt N _ _).trans ?_
 rw [← ZnT]
 exact h3
def Zx3 (N : Nat) : (R : Type) → List V → S → (V → S → Option R) → Option R := fun _ vs s K =>
 Zde vs fun v'1 => ZaQ v'1 fun w_1 => ZaR s <| Zw5 N w_1 (fun b_2 => K (.bool b_2) [])
def Zmq (N : Nat) : Zao := (ZtR N).add 66 (Zx3 N)
def ZA9 : Code := ZaE Tryd.f66
theorem ZzQ {R : Type} (N : Nat) (w_1 : ByteArray) (K : V → S → Option R) : ZaV C (ZtR N) (Zac) 66 Tryd.f66 [.str w_1] [] K =
 Zj7 N w_1 (fun b_2 => K (.bool b_2) []) := by kernel_rfl
theorem ZqE (hC : Ok Tryd.prog C) {N : Nat} (hΦ : Zaa Tryd.prog C (ZtR N)) : Zaa Tryd.prog C (Zmq N) := by
 refine hΦ.add_pure rfl fun R vs K r h => ?_
 unfold Zx3 at h
 obtain ⟨_, rfl, h1⟩ := Zau h
 obtain ⟨_, rfl, h2⟩ := Zaj h1
 obtain ⟨_, h3⟩ := Zaf h2
 refine Zap (fn := Tryd.f66) (c := ZA9) hC hΦ Tryd.func66 (by kernel_rfl) (by kernel_rfl) (Zag (Λ := Zac) (by kernel_rfl)) rfl rfl ?_
 refine (ZzQ N _ _).trans ?_
 rw [← Zpl]
 exact h3
def Zyh (N : Nat) : (R : Type) → List V → S → (V → S → Option R) → Option R := fun _ vs s K =>
 Zej vs fun v'1 v'2 => Zbq 1 v'1 fun e_1 f_2 => Zre 66 v'2 fun c'3 => ZqQ c'3 <| ZaR s <| Zwr N e_1 f_2 (fun x_3 => K (.int .i64 x_3) [])
def ZuJ (N : Nat) : Zao := (Zmq N).addIf 70 (fun l => Zy1 1 66 l) (Zyh N)
def Zru : Code := ZaE Tryd.f70
def ZlN : Code := (Zcp Zru [] 0).2
def Zja : List Nat := Zd3 19 [0, 1, 7, 8]
def Zoz : List Nat := Zd3 19 [4]
def ZgQ (e_1 : List V) (f_2 : Fl) (x_3 x_4 : Int) : List V := mkF 0 19 [(0, .list 1 e_1 f_2), (1, .fn 66 []), (7, .int .i64 x_3), (8, .int .i64 x_4)]
def Zfc {R : Type} (K : X → List V → S → Option R) (e_1 : List V) (f_2 : Fl) (x_3 : Int) : Int → Option R := (fun x_1' => K .ret (mkF 0 19 [(4, .int .i64 (x_1'))]) [])
def Zfv {R : Type} (K : X → List V → S → Option R) (e_1 : List V) (f_2 : Fl) (x_3 : Int) : Unit → Option R := (fun _ => K (.exit 0) (mkF 0 19 []) [])
abbrev Zjj {R : Type} (N : Nat) : Nat → List V → S → (X → List V → S → Option R) → Option R := fun n => ZhA C (Zmq N) (Zac) ZlN [0, 1, 0, 1] false Zja Zoz n R
theorem Zw0 {R : Type} (N n : Nat) (e_1 : List V) (f_2 : Fl) (x_3 : Int) (x_4 : Int) (K : X → List V → S → Option R) :
 Zjj N (n + 1) (ZgQ e_1 f_2 x_3 x_4) [] K =
 ZcI N e_1 f_2 x_3 (fun x_4 => Zjj N n (ZgQ e_1 f_2 x_3 x_4) [] K) x_4 (Zfc K e_1 f_2 x_3) (Zfv K e_1 f_2 x_3) := by kernel_rfl
theorem ZrZ {R : Type} (N : Nat) (e_1 : List V) (f_2 : Fl) (x_3 : Int) (K : X → List V → S → Option R) : ∀ (n : Nat) (x_4 : Int),
 Zjj N n (ZgQ e_1 f_2 x_3 x_4) [] K = ZeN N e_1 f_2 x_3 (Zfc K e_1 f_2 x_3) (Zfv K e_1 f_2 x_3) n x_4
 | 0, _ => rfl
 | n + 1, x_4 => (Zw0 N n e_1 f_2 x_3 x_4 K).trans (congrArg (fun nx => ZcI N e_1 f_2 x_3 nx x_4 (Zfc K e_1 f_2 x_3) (Zfv K e_1 f_2 x_3)) (funext fun x_4 => ZrZ N e_1 f_2 x_3 K n x_4))
def Znb {R : Type} (E : List V) (s : S) (k : List V → Fl → Int → Int → Option R) : Option R :=
 Zak (ZbO 19 [0, 1, 7, 8] E) <| ZjM E 0 1 fun e_1 f_2 => ZbW (nth E 1) fun u1 => Zre 66 u1 fun c'1 => ZqQ c'1 <| Zca E 7 .i64 fun x_3 => Zca E 8 .i64 fun x_4 => ZaR s <| k e_1 f_2 x_3 x_4
theorem Zj6 {R : Type} {E : List V} {s : S} {k : List V → Fl → Int → Int → Option R} {r : R} (h : Znb E s k = some r) : ∃ e_1 f_2 x_3 x_4, E = ZgQ e_1 f_2 x_3 x_4 ∧ s = [] ∧ k e_1 f_2 x_3 x_4 = some r := by
 unfold Znb at h
 obtain ⟨hg, h1⟩ := Zab h
 obtain ⟨_, _, hu0, h2⟩ := ZdD h1
 obtain ⟨_, hu1, h3⟩ := Zae h2
 obtain ⟨_, rfl, h4⟩ := Zce h3
 obtain ⟨rfl, h5⟩ := Zb5 h4
 obtain ⟨_, hu7, h6⟩ := Zax h5
 obtain ⟨_, hu8, h7⟩ := Zax h6
 obtain ⟨rfl, h8⟩ := Zaf h7
 exact ⟨_, _, _, _, Zbz hg rfl (Zai hu0 (Zai hu1 (Zai hu7 (Zai hu8 Zbm)))), rfl, h8⟩
def Zns (N : Nat) : ZaL := (Zac).add [0, 1, 0, 1] fun _ E s K => Znb (Zbk Zja E) s fun e_1 f_2 x_3 x_4 => ZeN N e_1 f_2 x_3 (Zfc K e_1 f_2 x_3) (Zfv K e_1 f_2 x_3) N x_4
theorem Zum {N : Nat} (hC : Ok Tryd.prog C) (hΦ : Zaa Tryd.prog C (Zmq N)) : Zb0 Tryd.prog C (Zns N) ZlN [0, 1, 0, 1] :=
 Zb8 (Λi := Zac) (tr := false) (ks := Zja) (kx := Zoz) (N := N) hC hΦ
  (Zag (by kernel_rfl))
  fun R E s K r h => by
   have h2 := ZaL.add_self.symm.trans h
   obtain ⟨_, _, _, _, he, rfl, h3⟩ := Zj6 h2
   rw [he]
   exact (ZrZ N _ _ _ _ N _).trans h3
theorem Zx7 : Zbh Zru [] = [([0, 1, 0, 1], ZlN)] := by kernel_rfl
theorem ZAU {R : Type} (N : Nat) (e_1 : List V) (f_2 : Fl) (K : V → S → Option R) : ZaV C (Zmq N) (Zns N) 70 Tryd.f70 [.list 1 e_1 f_2, .fn 66 []] [] K =
 Zks N e_1 f_2 (fun x_3 => K (.int .i64 x_3) []) := by kernel_rfl
theorem Zsy {N : Nat} (hC : Ok Tryd.prog C) (hΦ : Zaa Tryd.prog C (Zmq N)) : Za4 Tryd.prog C (Zns N) Zru [] :=
 Za5 Zru [] (by
  rw [Zx7]
  intro p hp
  simp only [List.mem_cons, List.mem_nil_iff, or_false] at hp
  rcases hp with rfl
  ·exact (Zum hC hΦ))
theorem Zq9 (hC : Ok Tryd.prog C) {N : Nat} (hΦ : Zaa Tryd.prog C (Zmq N)) : Zaa Tryd.prog C (ZuJ N) := by
 refine hΦ.addIf_pure rfl fun R vs K r h => ?_
 unfold Zyh at h
 obtain ⟨_, _, rfl, h1⟩ := ZaG h
 obtain ⟨_, _, rfl, h2⟩ := Zat h1
 obtain ⟨_, rfl, h3⟩ := Zce h2
 obtain ⟨rfl, h4⟩ := Zb5 h3
 obtain ⟨_, h5⟩ := Zaf h4
 refine Zap (fn := Tryd.f70) (c := Zru) hC hΦ Tryd.func70 (by kernel_rfl) (by kernel_rfl) (Zsy (N := N) hC hΦ) rfl rfl ?_
 refine (ZAU N _ _ _).trans ?_
 rw [← ZoW]
 exact h5
def Zy7 (N : Nat) : (R : Type) → List V → S → (V → S → Option R) → Option R := fun _ vs s K =>
 Zej vs fun v'1 v'2 => Zbq 1 v'1 fun e_1 f_2 => Zre 66 v'2 fun c'3 => ZqQ c'3 <| ZaR s <| Zvr N e_1 f_2 (fun b_3 => K (.bool b_3) [])
def Zvz (N : Nat) : Zao := (ZuJ N).addIf 44 (fun l => Zy1 1 66 l) (Zy7 N)
def ZAJ : Code := ZaE Tryd.f44
theorem Zzs {R : Type} (N : Nat) (e_1 : List V) (f_2 : Fl) (K : V → S → Option R) : ZaV C (ZuJ N) (Zac) 44 Tryd.f44 [.list 1 e_1 f_2, .fn 66 []] [] K =
 Zll N e_1 f_2 (fun b_3 => K (.bool b_3) []) := by kernel_rfl
theorem Zqs (hC : Ok Tryd.prog C) {N : Nat} (hΦ : Zaa Tryd.prog C (ZuJ N)) : Zaa Tryd.prog C (Zvz N) := by
 refine hΦ.addIf_pure rfl fun R vs K r h => ?_
 unfold Zy7 at h
 obtain ⟨_, _, rfl, h1⟩ := ZaG h
 obtain ⟨_, _, rfl, h2⟩ := Zat h1
 obtain ⟨_, rfl, h3⟩ := Zce h2
 obtain ⟨rfl, h4⟩ := Zb5 h3
 obtain ⟨_, h5⟩ := Zaf h4
 refine Zap (fn := Tryd.f44) (c := ZAJ) hC hΦ Tryd.func44 (by kernel_rfl) (by kernel_rfl) (Zag (Λ := Zac) (by kernel_rfl)) rfl rfl ?_
 refine (Zzs N _ _ _).trans ?_
 rw [← Zph]
 exact h5
def Zyl (N : Nat) : (R : Type) → List V → S → (V → S → Option R) → Option R := fun _ vs s K =>
 Zde vs fun v'1 => ZaQ v'1 fun w_1 => ZaR s <| ZwV N w_1 (fun b_2 => K (.bool b_2) [])
def ZtU (N : Nat) : Zao := (Zvz N).add 41 (Zyl N)
def ZzS : Code := ZaE Tryd.f41
theorem ZAg {R : Type} (N : Nat) (w_1 : ByteArray) (K : V → S → Option R) : ZaV C (Zvz N) (Zac) 41 Tryd.f41 [.str w_1] [] K =
 Zjm N w_1 (fun b_2 => K (.bool b_2) []) := by kernel_rfl
theorem ZqU (hC : Ok Tryd.prog C) {N : Nat} (hΦ : Zaa Tryd.prog C (Zvz N)) : Zaa Tryd.prog C (ZtU N) := by
 refine hΦ.add_pure rfl fun R vs K r h => ?_
 unfold Zyl at h
 obtain ⟨_, rfl, h1⟩ := Zau h
 obtain ⟨_, rfl, h2⟩ := Zaj h1
 obtain ⟨_, h3⟩ := Zaf h2
 refine Zap (fn := Tryd.f41) (c := ZzS) hC hΦ Tryd.func41 (by kernel_rfl) (by kernel_rfl) (Zag (Λ := Zac) (by kernel_rfl)) rfl rfl ?_
 refine (ZAg N _ _).trans ?_
 rw [← ZoI]
 exact h3
def ZxB (N : Nat) : (R : Type) → List V → S → (V → S → Option R) → Option R := fun _ vs s K =>
 Zde vs fun v'1 => ZaQ v'1 fun w_1 => ZaR s <| Zlc N w_1 (fun b_2 => K (.bool b_2) [])
def Zwx (N : Nat) : Zao := (ZtU N).add 13 (ZxB N)
def ZAf : Code := ZaE Tryd.f13
theorem Zzv {R : Type} (N : Nat) (w_1 : ByteArray) (K : V → S → Option R) : ZaV C (ZtU N) (Zac) 13 Tryd.f13 [.str w_1] [] K =
 Zlx N w_1 (fun b_2 => K (.bool b_2) []) := by kernel_rfl
theorem Zp0 (hC : Ok Tryd.prog C) {N : Nat} (hΦ : Zaa Tryd.prog C (ZtU N)) : Zaa Tryd.prog C (Zwx N) := by
 refine hΦ.add_pure rfl fun R vs K r h => ?_
 unfold ZxB at h
 obtain ⟨_, rfl, h1⟩ := Zau h
 obtain ⟨_, rfl, h2⟩ := Zaj h1
 obtain ⟨_, h3⟩ := Zaf h2
 refine Zap (fn := Tryd.f13) (c := ZAf) hC hΦ Tryd.func13 (by kernel_rfl) (by kernel_rfl) (Zag (Λ := Zac) (by kernel_rfl)) rfl rfl ?_
 refine (Zzv N _ _).trans ?_
 rw [← Zok]
 exact h3
def Zxs (N : Nat) : (R : Type) → List V → S → (V → S → Option R) → Option R := fun _ vs s K =>
 Zej vs fun v'1 v'2 => Zbq 1 v'1 fun e_1 f_2 => ZaQ v'2 fun w_3 => ZaR s <| ZvH N e_1 f_2 w_3 (fun w_4 => K (.str w_4) [])
def Zub (N : Nat) : Zao := (Zwx N).add 63 (Zxs N)
theorem ZpQ (hC : Ok Tryd.prog C) {N : Nat} (hΦ : Zaa Tryd.prog C (Zwx N)) : Zaa Tryd.prog C (Zub N) := by
 refine hΦ.add_pure rfl fun R vs K r h => ?_
 unfold Zxs at h
 obtain ⟨_, _, rfl, h1⟩ := ZaG h
 obtain ⟨_, _, rfl, h2⟩ := Zat h1
 obtain ⟨_, rfl, h3⟩ := Zaj h2
 obtain ⟨_, h4⟩ := Zaf h3
 rw [Zi5] at h4
 unfold Zh2 at h4
 obtain ⟨_, h1, h2⟩ := Zqf Tryd.func63 (by kernel_rfl) (by kernel_rfl) (fun a c s w => Tryd.strings_Join_none a c s w) (fun b o c xs s w h1 h2 h3 h4 h5 => Tryd.strings_Join b o c xs s w h1 h2 h3 h4 h5) h4
 exact ⟨_, h1, h2⟩
def ZxM (N : Nat) : (R : Type) → List V → S → (V → S → Option R) → Option R := fun _ vs s K =>
 Zde vs fun v'1 => Zbq 1 v'1 fun e_1 f_2 => ZaR s <| Zt8 N e_1 f_2 (fun w_3 => K (.str w_3) [])
def ZmW (N : Nat) : Zao := (Zub N).add 46 (ZxM N)
def Zzy : Code := ZaE Tryd.f46
theorem ZAQ {R : Type} (N : Nat) (e_1 : List V) (f_2 : Fl) (K : V → S → Option R) : ZaV C (Zub N) (Zac) 46 Tryd.f46 [.list 1 e_1 f_2] [] K =
 Zkr N e_1 f_2 (fun w_3 => K (.str w_3) []) := by kernel_rfl
theorem Zp3 (hC : Ok Tryd.prog C) {N : Nat} (hΦ : Zaa Tryd.prog C (Zub N)) : Zaa Tryd.prog C (ZmW N) := by
 refine hΦ.add_pure rfl fun R vs K r h => ?_
 unfold ZxM at h
 obtain ⟨_, rfl, h1⟩ := Zau h
 obtain ⟨_, _, rfl, h2⟩ := Zat h1
 obtain ⟨_, h3⟩ := Zaf h2
 refine Zap (fn := Tryd.f46) (c := Zzy) hC hΦ Tryd.func46 (by kernel_rfl) (by kernel_rfl) (Zag (Λ := Zac) (by kernel_rfl)) rfl rfl ?_
 refine (ZAQ N _ _ _).trans ?_
 rw [← Zof]
 exact h3
def Zx6 (N : Nat) : (R : Type) → List V → S → (V → S → Option R) → Option R := fun _ vs s K =>
 Zde vs fun v'1 => ZaQ v'1 fun w_1 => ZaR s <| ZmM N w_1 (fun w_2 => K (.str w_2) [])
def ZtV (N : Nat) : Zao := (ZmW N).add 35 (Zx6 N)
def ZsH : Code := ZaE Tryd.f35
def Znh : Code := (Zcp ZsH [] 0).2
def ZiX : List Nat := Zd3 63 [3, 4, 13, 14, 15]
def ZoZ : List Nat := Zd3 63 [3, 4]
def ZgE (b_1 : Bool) (e_2 : List V) (x_3 : Int) (k_5 k_6 : Nat) (x_4 : Int) (O_9 : Ob) : List V := mkF 0 63 [(3, .bool b_1), (4, .arr 0 k_5 0 k_6), (13, .list 1 e_2 .sh), (14, .int .i64 x_3), (15, .int .i64 x_4)]
def Zfy {R : Type} (K : X → List V → S → Option R) (b_1 : Bool) (e_2 : List V) (x_3 : Int) : Nat → Nat → Ob → Option R := (fun k_1' k_2' O_3' => K (.exit 0) (mkF 0 63 [(3, .bool b_1), (4, .arr 0 (k_1') 0 (k_2'))]) [some (O_3')])
abbrev ZiN {R : Type} (N : Nat) : Nat → List V → S → (X → List V → S → Option R) → Option R := fun n => ZhA C.objs (ZmW N) (Zac) Znh [0, 1, 0, 1, 1] false ZiX ZoZ n R
theorem ZwT {R : Type} (N n : Nat) (b_1 : Bool) (e_2 : List V) (x_3 : Int) (k_5 k_6 : Nat) (x_4 : Int) (O_9 : Ob) (K : X → List V → S → Option R) :
 ZiN N (n + 1) (ZgE b_1 e_2 x_3 k_5 k_6 x_4 O_9) [some O_9] K =
 Zci N b_1 e_2 x_3 (fun k_5 k_6 x_4 O_9 => ZiN N n (ZgE b_1 e_2 x_3 k_5 k_6 x_4 O_9) [some O_9] K) k_5 k_6 x_4 O_9 (Zfy K b_1 e_2 x_3) := by kernel_rfl
theorem ZsZ {R : Type} (N : Nat) (b_1 : Bool) (e_2 : List V) (x_3 : Int) (K : X → List V → S → Option R) : ∀ (n : Nat) (k_5 k_6 : Nat) (x_4 : Int) (O_9 : Ob),
 ZiN N n (ZgE b_1 e_2 x_3 k_5 k_6 x_4 O_9) [some O_9] K = Zdk N b_1 e_2 x_3 (Zfy K b_1 e_2 x_3) n k_5 k_6 x_4 O_9
 | 0, _, _, _, _ => rfl
 | n + 1, k_5, k_6, x_4, O_9 => (ZwT N n b_1 e_2 x_3 k_5 k_6 x_4 O_9 K).trans (congrArg (fun nx => Zci N b_1 e_2 x_3 nx k_5 k_6 x_4 O_9 (Zfy K b_1 e_2 x_3)) (funext fun k_5 => funext fun k_6 => funext fun x_4 => funext fun O_9 => ZsZ N b_1 e_2 x_3 K n k_5 k_6 x_4 O_9))
def Zm6 {R : Type} (E : List V) (s : S) (k : Bool → Nat → Nat → List V → Int → Int → Ob → Option R) : Option R :=
 Zak (ZbO 63 [3, 4, 13, 14, 15] E) <| Zv3 E 3 fun b_1 => ZbW (nth E 4) fun u4 => Zm5 u4 fun k'1 k_5 k'2 k_6 => isN k'1 0 <| isN k'2 0 <| ZbW (nth E 13) fun u13 => Zbq 1 u13 fun e_2 f'3 => Zxm f'3 <| Zca E 14 .i64 fun x_3 => Zca E 15 .i64 fun x_4 => ZuA s fun O_9 s'4 => ZaR s'4 <| k b_1 k_5 k_6 e_2 x_3 x_4 O_9
theorem Zkh {R : Type} {E : List V} {s : S} {k : Bool → Nat → Nat → List V → Int → Int → Ob → Option R} {r : R} (h : Zm6 E s k = some r) : ∃ b_1 k_5 k_6 e_2 x_3 x_4 O_9, E = ZgE b_1 e_2 x_3 k_5 k_6 x_4 O_9 ∧ s = [some O_9] ∧ k b_1 k_5 k_6 e_2 x_3 x_4 O_9 = some r := by
 unfold Zm6 at h
 obtain ⟨hg, h1⟩ := Zab h
 obtain ⟨_, hu3, h2⟩ := Zl9 h1
 obtain ⟨_, hu4, h3⟩ := Zae h2
 obtain ⟨_, _, _, _, rfl, h4⟩ := Zds h3
 obtain ⟨rfl, h5⟩ := Zaw h4
 obtain ⟨rfl, h6⟩ := Zaw h5
 obtain ⟨_, hu13, h7⟩ := Zae h6
 obtain ⟨_, _, rfl, h8⟩ := Zat h7
 obtain ⟨rfl, h9⟩ := Zfh h8
 obtain ⟨_, hu14, h10⟩ := Zax h9
 obtain ⟨_, hu15, h11⟩ := Zax h10
 obtain ⟨_, _, rfl, h12⟩ := Zc7 h11
 obtain ⟨rfl, h13⟩ := Zaf h12
 exact ⟨_, _, _, _, _, _, _, Zbz hg rfl (Zai hu3 (Zai hu4 (Zai hu13 (Zai hu14 (Zai hu15 Zbm))))), rfl, h13⟩
def Zmf (N : Nat) : ZaL := (Zac).add [0, 1, 0, 1, 1] fun _ E s K => Zm6 (Zbk ZiX E) s fun b_1 k_5 k_6 e_2 x_3 x_4 O_9 => Zdk N b_1 e_2 x_3 (Zfy K b_1 e_2 x_3) N k_5 k_6 x_4 O_9
theorem ZuK {N : Nat} (hC : Ok Tryd.prog C) (hΦ : Zaa Tryd.prog C (ZmW N)) : Zb0 Tryd.prog C.objs (Zmf N) Znh [0, 1, 0, 1, 1] :=
 Zb8 (Λi := Zac) (tr := false) (ks := ZiX) (kx := ZoZ) (N := N) hC.objs hΦ.objs
  (Zag (by kernel_rfl))
  fun R E s K r h => by
   have h2 := ZaL.add_self.symm.trans h
   obtain ⟨_, _, _, _, _, _, _, he, rfl, h3⟩ := Zkh h2
   rw [he]
   exact (ZsZ N _ _ _ _ N _ _ _ _).trans h3
theorem ZxO : Zbh ZsH [] = [([0, 1, 0, 1, 1], Znh)] := by kernel_rfl
theorem ZAv {R : Type} (N : Nat) (w_1 : ByteArray) (K : V → S → Option R) : ZaV C.objs (ZmW N) (Zmf N) 35 Tryd.f35 [.str w_1] [] K =
 Zlw N w_1 (fun w_2 => K (.str w_2) []) := by kernel_rfl
theorem ZsD {N : Nat} (hC : Ok Tryd.prog C) (hΦ : Zaa Tryd.prog C (ZmW N)) : Za4 Tryd.prog C.objs (Zmf N) ZsH [] :=
 Za5 ZsH [] (by
  rw [ZxO]
  intro p hp
  simp only [List.mem_cons, List.mem_nil_iff, or_false] at hp
  rcases hp with rfl
  ·exact (ZuK hC hΦ))
theorem Zq0 (hC : Ok Tryd.prog C) {N : Nat} (hΦ : Zaa Tryd.prog C (ZmW N)) : Zaa Tryd.prog C (ZtV N) := by
 refine hΦ.add_pure rfl fun R vs K r h => ?_
 unfold Zx6 at h
 obtain ⟨_, rfl, h1⟩ := Zau h
 obtain ⟨_, rfl, h2⟩ := Zaj h1
 obtain ⟨_, h3⟩ := Zaf h2
 refine Zap (fn := Tryd.f35) (c := ZsH) hC.objs hΦ.objs Tryd.func35 (by kernel_rfl) (by kernel_rfl) (ZsD (N := N) hC hΦ) rfl rfl ?_
 refine (ZAv N _ _).trans ?_
 rw [← Zn7]
 exact h3
def ZxC (N : Nat) : (R : Type) → List V → S → (V → S → Option R) → Option R := fun _ vs s K =>
 Zde vs fun v'1 => ZaQ v'1 fun w_1 => ZaR s <| ZkB N w_1 (fun w_2 b_3 => K (.tuple [.str w_2, .bool b_3]) [])
def ZuW (N : Nat) : Zao := (ZtV N).add 7 (ZxC N)
def ZBh : Code := ZaE Tryd.f7
theorem ZzU {R : Type} (N : Nat) (w_1 : ByteArray) (K : V → S → Option R) : ZaV C (ZtV N) (Zac) 7 Tryd.f7 [.str w_1] [] K =
 Zk0 N w_1 (fun w_2 b_3 => K (.tuple [.str w_2, .bool b_3]) []) := by kernel_rfl
theorem Zrb (hC : Ok Tryd.prog C) {N : Nat} (hΦ : Zaa Tryd.prog C (ZtV N)) : Zaa Tryd.prog C (ZuW N) := by
 refine hΦ.add_pure rfl fun R vs K r h => ?_
 unfold ZxC at h
 obtain ⟨_, rfl, h1⟩ := Zau h
 obtain ⟨_, rfl, h2⟩ := Zaj h1
 obtain ⟨_, h3⟩ := Zaf h2
 refine Zap (fn := Tryd.f7) (c := ZBh) hC hΦ Tryd.func7 (by kernel_rfl) (by kernel_rfl) (Zag (Λ := Zac) (by kernel_rfl)) rfl rfl ?_
 refine (ZzU N _ _).trans ?_
 rw [← Zpo]
 exact h3
def ZxN (N : Nat) : (R : Type) → List V → S → (V → S → Option R) → Option R := fun _ vs s K =>
 Zde vs fun v'1 => ZaQ v'1 fun w_1 => ZaR s <| Zwe N w_1 (fun b_2 => K (.bool b_2) [])
def Zvf (N : Nat) : Zao := (ZuW N).add 48 (ZxN N)
def Zzt : Code := ZaE Tryd.f48
theorem ZAH {R : Type} (N : Nat) (w_1 : ByteArray) (K : V → S → Option R) : ZaV C (ZuW N) (Zac) 48 Tryd.f48 [.str w_1] [] K =
 Zka N w_1 (fun b_2 => K (.bool b_2) []) := by kernel_rfl
theorem Zqa (hC : Ok Tryd.prog C) {N : Nat} (hΦ : Zaa Tryd.prog C (ZuW N)) : Zaa Tryd.prog C (Zvf N) := by
 refine hΦ.add_pure rfl fun R vs K r h => ?_
 unfold ZxN at h
 obtain ⟨_, rfl, h1⟩ := Zau h
 obtain ⟨_, rfl, h2⟩ := Zaj h1
 obtain ⟨_, h3⟩ := Zaf h2
 refine Zap (fn := Tryd.f48) (c := Zzt) hC hΦ Tryd.func48 (by kernel_rfl) (by kernel_rfl) (Zag (Λ := Zac) (by kernel_rfl)) rfl rfl ?_
 refine (ZAH N _ _).trans ?_
 rw [← ZnN]
 exact h3
def Zx1 (N : Nat) : (R : Type) → List V → S → (V → S → Option R) → Option R := fun _ vs s K =>
 Zde vs fun v'1 => ZaQ v'1 fun w_1 => ZaR s <| ZsN N w_1 (fun b_2 => K (.bool b_2) [])
def Zm3 (N : Nat) : Zao := (Zvf N).add 18 (Zx1 N)
def ZzT : Code := ZaE Tryd.f18
theorem ZAr {R : Type} (N : Nat) (w_1 : ByteArray) (K : V → S → Option R) : ZaV C (Zvf N) (Zac) 18 Tryd.f18 [.str w_1] [] K =
 ZjZ N w_1 (fun b_2 => K (.bool b_2) []) := by kernel_rfl
theorem Zq3 (hC : Ok Tryd.prog C) {N : Nat} (hΦ : Zaa Tryd.prog C (Zvf N)) : Zaa Tryd.prog C (Zm3 N) := by
 refine hΦ.add_pure rfl fun R vs K r h => ?_
 unfold Zx1 at h
 obtain ⟨_, rfl, h1⟩ := Zau h
 obtain ⟨_, rfl, h2⟩ := Zaj h1
 obtain ⟨_, h3⟩ := Zaf h2
 refine Zap (fn := Tryd.f18) (c := ZzT) hC hΦ Tryd.func18 (by kernel_rfl) (by kernel_rfl) (Zag (Λ := Zac) (by kernel_rfl)) rfl rfl ?_
 refine (ZAr N _ _).trans ?_
 rw [← ZoO]
 exact h3
def ZyY (N : Nat) : (R : Type) → List V → S → (V → S → Option R) → Option R := fun _ vs s K =>
 Zej vs fun v'1 v'2 => ZaQ v'1 fun w_1 => asInt .u8 v'2 fun x_2 => ZaR s <| ZwU N w_1 x_2 (fun x_3 => K (.int .i64 x_3) [])
def Zvj (N : Nat) : Zao := (Zm3 N).add 82 (ZyY N)
def Ztk : Code := ZaE Tryd.f82
def ZlY : Code := (Zcp Ztk [] 0).2
def Zib : List Nat := Zd3 19 [0, 1, 5]
def ZoH : List Nat := Zd3 19 [4]
def Zgy (w_1 : ByteArray) (x_2 x_3 : Int) : List V := mkF 0 19 [(0, .str w_1), (1, .int .u8 x_2), (5, .int .i64 x_3)]
def Zfb {R : Type} (K : X → List V → S → Option R) (w_1 : ByteArray) (x_2 : Int) : Int → Option R := (fun x_1' => K .ret (mkF 0 19 [(4, .int .i64 (x_1'))]) [])
def Ze5 {R : Type} (K : X → List V → S → Option R) (w_1 : ByteArray) (x_2 : Int) : Unit → Option R := (fun _ => K (.exit 0) (mkF 0 19 []) [])
abbrev Ziq {R : Type} (N : Nat) : Nat → List V → S → (X → List V → S → Option R) → Option R := fun n => ZhA C (Zm3 N) (Zac) ZlY [0, 1, 0, 1] false Zib ZoH n R
theorem ZwW {R : Type} (N n : Nat) (w_1 : ByteArray) (x_2 : Int) (x_3 : Int) (K : X → List V → S → Option R) :
 Ziq N (n + 1) (Zgy w_1 x_2 x_3) [] K =
 ZcG N w_1 x_2 (fun x_3 => Ziq N n (Zgy w_1 x_2 x_3) [] K) x_3 (Zfb K w_1 x_2) (Ze5 K w_1 x_2) := by kernel_rfl
theorem ZsK {R : Type} (N : Nat) (w_1 : ByteArray) (x_2 : Int) (K : X → List V → S → Option R) : ∀ (n : Nat) (x_3 : Int),
 Ziq N n (Zgy w_1 x_2 x_3) [] K = ZeA N w_1 x_2 (Zfb K w_1 x_2) (Ze5 K w_1 x_2) n x_3
 | 0, _ => rfl
 | n + 1, x_3 => (ZwW N n w_1 x_2 x_3 K).trans (congrArg (fun nx => ZcG N w_1 x_2 nx x_3 (Zfb K w_1 x_2) (Ze5 K w_1 x_2)) (funext fun x_3 => ZsK N w_1 x_2 K n x_3))
def Zmz {R : Type} (E : List V) (s : S) (k : ByteArray → Int → Int → Option R) : Option R :=
 Zak (ZbO 19 [0, 1, 5] E) <| ZfC E 0 fun w_1 => Zca E 1 .u8 fun x_2 => Zca E 5 .i64 fun x_3 => ZaR s <| k w_1 x_2 x_3
theorem ZkO {R : Type} {E : List V} {s : S} {k : ByteArray → Int → Int → Option R} {r : R} (h : Zmz E s k = some r) : ∃ w_1 x_2 x_3, E = Zgy w_1 x_2 x_3 ∧ s = [] ∧ k w_1 x_2 x_3 = some r := by
 unfold Zmz at h
 obtain ⟨hg, h1⟩ := Zab h
 obtain ⟨_, hu0, h2⟩ := Zbt h1
 obtain ⟨_, hu1, h3⟩ := Zax h2
 obtain ⟨_, hu5, h4⟩ := Zax h3
 obtain ⟨rfl, h5⟩ := Zaf h4
 exact ⟨_, _, _, Zbz hg rfl (Zai hu0 (Zai hu1 (Zai hu5 Zbm))), rfl, h5⟩
def ZmN (N : Nat) : ZaL := (Zac).add [0, 1, 0, 1] fun _ E s K => Zmz (Zbk Zib E) s fun w_1 x_2 x_3 => ZeA N w_1 x_2 (Zfb K w_1 x_2) (Ze5 K w_1 x_2) N x_3
theorem Zvy {N : Nat} (hC : Ok Tryd.prog C) (hΦ : Zaa Tryd.prog C (Zm3 N)) : Zb0 Tryd.prog C (ZmN N) ZlY [0, 1, 0, 1] :=
 Zb8 (Λi := Zac) (tr := false) (ks := Zib) (kx := ZoH) (N := N) hC hΦ
  (Zag (by kernel_rfl))
  fun R E s K r h => by
   have h2 := ZaL.add_self.symm.trans h
   obtain ⟨_, _, _, he, rfl, h3⟩ := ZkO h2
   rw [he]
   exact (ZsK N _ _ _ N _).trans h3
theorem ZxL : Zbh Ztk [] = [([0, 1, 0, 1], ZlY)] := by kernel_rfl
theorem ZAY {R : Type} (N : Nat) (w_1 : ByteArray) (x_2 : Int) (K : V → S → Option R) : ZaV C (Zm3 N) (ZmN N) 82 Tryd.f82 [.str w_1, .int .u8 x_2] [] K =
 Zj1 N w_1 x_2 (fun x_3 => K (.int .i64 x_3) []) := by kernel_rfl
theorem Zsx {N : Nat} (hC : Ok Tryd.prog C) (hΦ : Zaa Tryd.prog C (Zm3 N)) : Za4 Tryd.prog C (ZmN N) Ztk [] :=
 Za5 Ztk [] (by
  rw [ZxL]
  intro p hp
  simp only [List.mem_cons, List.mem_nil_iff, or_false] at hp
  rcases hp with rfl
  ·exact (Zvy hC hΦ))
theorem Zpz (hC : Ok Tryd.prog C) {N : Nat} (hΦ : Zaa Tryd.prog C (Zm3 N)) : Zaa Tryd.prog C (Zvj N) := by
 refine hΦ.add_pure rfl fun R vs K r h => ?_
 unfold ZyY at h
 obtain ⟨_, _, rfl, h1⟩ := ZaG h
 obtain ⟨_, rfl, h2⟩ := Zaj h1
 obtain ⟨_, rfl, h3⟩ := ZaI h2
 obtain ⟨_, h4⟩ := Zaf h3
 refine Zap (fn := Tryd.f82) (c := Ztk) hC hΦ Tryd.func82 (by kernel_rfl) (by kernel_rfl) (Zsx (N := N) hC hΦ) rfl rfl ?_
 refine (ZAY N _ _ _).trans ?_
 rw [← Zpj]
 exact h4
def Zyc (N : Nat) : (R : Type) → List V → S → (V → S → Option R) → Option R := fun _ vs s K =>
 Zej vs fun v'1 v'2 => ZaQ v'1 fun w_1 => asInt .u8 v'2 fun x_2 => ZaR s <| Zue N w_1 x_2 (fun x_3 => K (.int .i64 x_3) [])
def Zuv (N : Nat) : Zao := (Zvj N).add 65 (Zyc N)
def ZBe : Code := ZaE Tryd.f65
theorem ZAF {R : Type} (N : Nat) (w_1 : ByteArray) (x_2 : Int) (K : V → S → Option R) : ZaV C (Zvj N) (Zac) 65 Tryd.f65 [.str w_1, .int .u8 x_2] [] K =
 ZjH N w_1 x_2 (fun x_3 => K (.int .i64 x_3) []) := by kernel_rfl
theorem Zqq (hC : Ok Tryd.prog C) {N : Nat} (hΦ : Zaa Tryd.prog C (Zvj N)) : Zaa Tryd.prog C (Zuv N) := by
 refine hΦ.add_pure rfl fun R vs K r h => ?_
 unfold Zyc at h
 obtain ⟨_, _, rfl, h1⟩ := ZaG h
 obtain ⟨_, rfl, h2⟩ := Zaj h1
 obtain ⟨_, rfl, h3⟩ := ZaI h2
 obtain ⟨_, h4⟩ := Zaf h3
 refine Zap (fn := Tryd.f65) (c := ZBe) hC hΦ Tryd.func65 (by kernel_rfl) (by kernel_rfl) (Zag (Λ := Zac) (by kernel_rfl)) rfl rfl ?_
 refine (ZAF N _ _ _).trans ?_
 rw [← ZoJ]
 exact h4
def ZyO (N : Nat) : (R : Type) → List V → S → (V → S → Option R) → Option R := fun _ vs s K =>
 Zde vs fun v'1 => ZaQ v'1 fun w_1 => ZaR s <| ZtP N w_1 (fun w_2 w_3 b_4 => K (.tuple [.str w_2, .str w_3, .bool b_4]) [])
def ZuI (N : Nat) : Zao := (Zuv N).add 38 (ZyO N)
def Zzr : Code := ZaE Tryd.f38
theorem Zz9 {R : Type} (N : Nat) (w_1 : ByteArray) (K : V → S → Option R) : ZaV C (Zuv N) (Zac) 38 Tryd.f38 [.str w_1] [] K =
 Zkz N w_1 (fun w_2 w_3 b_4 => K (.tuple [.str w_2, .str w_3, .bool b_4]) []) := by kernel_rfl
theorem Zqn (hC : Ok Tryd.prog C) {N : Nat} (hΦ : Zaa Tryd.prog C (Zuv N)) : Zaa Tryd.prog C (ZuI N) := by
 refine hΦ.add_pure rfl fun R vs K r h => ?_
 unfold ZyO at h
 obtain ⟨_, rfl, h1⟩ := Zau h
 obtain ⟨_, rfl, h2⟩ := Zaj h1
 obtain ⟨_, h3⟩ := Zaf h2
 refine Zap (fn := Tryd.f38) (c := Zzr) hC hΦ Tryd.func38 (by kernel_rfl) (by kernel_rfl) (Zag (Λ := Zac) (by kernel_rfl)) rfl rfl ?_
 refine (Zz9 N _ _).trans ?_
 rw [← Zpw]
 exact h3
def ZyA (N : Nat) : (R : Type) → List V → S → (V → S → Option R) → Option R := fun _ vs s K =>
 Zde vs fun v'1 => ZaQ v'1 fun w_1 => ZaR s <| ZuC N w_1 (fun w_2 b_3 => K (.tuple [.str w_2, .bool b_3]) [])
def ZuE (N : Nat) : Zao := (ZuI N).add 11 (ZyA N)
def Zzo : Code := ZaE Tryd.f11
theorem ZBp {R : Type} (N : Nat) (w_1 : ByteArray) (K : V → S → Option R) : ZaV C (ZuI N) (Zac) 11 Tryd.f11 [.str w_1] [] K =
 ZkW N w_1 (fun w_2 b_3 => K (.tuple [.str w_2, .bool b_3]) []) := by kernel_rfl
theorem Zqm (hC : Ok Tryd.prog C) {N : Nat} (hΦ : Zaa Tryd.prog C (ZuI N)) : Zaa Tryd.prog C (ZuE N) := by
 refine hΦ.add_pure rfl fun R vs K r h => ?_
 unfold ZyA at h
 obtain ⟨_, rfl, h1⟩ := Zau h
 obtain ⟨_, rfl, h2⟩ := Zaj h1
 obtain ⟨_, h3⟩ := Zaf h2
 refine Zap (fn := Tryd.f11) (c := Zzo) hC hΦ Tryd.func11 (by kernel_rfl) (by kernel_rfl) (Zag (Λ := Zac) (by kernel_rfl)) rfl rfl ?_
 refine (ZBp N _ _).trans ?_
 rw [← Zpu]
 exact h3
def Zy9 (N : Nat) : (R : Type) → List V → S → (V → S → Option R) → Option R := fun _ vs s K =>
 Zwa vs fun v'1 v'2 v'3 => asInt .i64 v'1 fun x_1 => asInt .i64 v'2 fun x_2 => asInt .i64 v'3 fun x_3 => ZaR s <| Zs9 N x_1 x_2 x_3 (fun b_4 => K (.bool b_4) [])
def Zl6 (N : Nat) : Zao := (ZuE N).add 64 (Zy9 N)
def ZBf : Code := ZaE Tryd.f64
theorem Zzz {R : Type} (N : Nat) (x_1 x_2 x_3 : Int) (K : V → S → Option R) : ZaV C (ZuE N) (Zac) 64 Tryd.f64 [.int .i64 x_1, .int .i64 x_2, .int .i64 x_3] [] K =
 Zjz N x_1 x_2 x_3 (fun b_4 => K (.bool b_4) []) := by kernel_rfl
theorem ZpA (hC : Ok Tryd.prog C) {N : Nat} (hΦ : Zaa Tryd.prog C (ZuE N)) : Zaa Tryd.prog C (Zl6 N) := by
 refine hΦ.add_pure rfl fun R vs K r h => ?_
 unfold Zy9 at h
 obtain ⟨_, _, _, rfl, h1⟩ := Zd2 h
 obtain ⟨_, rfl, h2⟩ := ZaI h1
 obtain ⟨_, rfl, h3⟩ := ZaI h2
 obtain ⟨_, rfl, h4⟩ := ZaI h3
 obtain ⟨_, h5⟩ := Zaf h4
 refine Zap (fn := Tryd.f64) (c := ZBf) hC hΦ Tryd.func64 (by kernel_rfl) (by kernel_rfl) (Zag (Λ := Zac) (by kernel_rfl)) rfl rfl ?_
 refine (Zzz N _ _ _ _).trans ?_
 rw [← Zpp]
 exact h5
def ZxU (N : Nat) : (R : Type) → List V → S → (V → S → Option R) → Option R := fun _ vs s K =>
 Zde vs fun v'1 => ZaQ v'1 fun w_1 => ZaR s <| Zt3 N w_1 (fun b_2 => K (.bool b_2) [])
def Zmr (N : Nat) : Zao := (Zl6 N).add 53 (ZxU N)
def Ztn : Code := ZaE Tryd.f53
def Zm0 : Code := (Zcp Ztn [] 0).2
def ZiK : List Nat := Zd3 51 [0, 3]
def Zn3 : List Nat := Zd3 51 [0, 2]
def Zgn (w_1 : ByteArray) (x_2 : Int) : List V := mkF 0 51 [(0, .str w_1), (3, .int .i64 x_2)]
def Zfz {R : Type} (K : X → List V → S → Option R) (w_1 : ByteArray) : Unit → Option R := (fun _ => K .ret (mkF 0 51 [(0, .str w_1), (2, .bool false)]) [])
def Zfe {R : Type} (K : X → List V → S → Option R) (w_1 : ByteArray) : Unit → Option R := (fun _ => K (.exit 0) (mkF 0 51 [(0, .str w_1)]) [])
abbrev Ziu {R : Type} (N : Nat) : Nat → List V → S → (X → List V → S → Option R) → Option R := fun n => ZhA C (Zl6 N) (Zac) Zm0 [0, 1, 0, 1] false ZiK Zn3 n R
theorem ZwY {R : Type} (N n : Nat) (w_1 : ByteArray) (x_2 : Int) (K : X → List V → S → Option R) :
 Ziu N (n + 1) (Zgn w_1 x_2) [] K =
 ZcE N w_1 (fun x_2 => Ziu N n (Zgn w_1 x_2) [] K) x_2 (Zfz K w_1) (Zfe K w_1) := by kernel_rfl
theorem ZrG {R : Type} (N : Nat) (w_1 : ByteArray) (K : X → List V → S → Option R) : ∀ (n : Nat) (x_2 : Int),
 Ziu N n (Zgn w_1 x_2) [] K = ZdX N w_1 (Zfz K w_1) (Zfe K w_1) n x_2
 | 0, _ => rfl
 | n + 1, x_2 => (ZwY N n w_1 x_2 K).trans (congrArg (fun nx => ZcE N w_1 nx x_2 (Zfz K w_1) (Zfe K w_1)) (funext fun x_2 => ZrG N w_1 K n x_2))
def Zmw {R : Type} (E : List V) (s : S) (k : ByteArray → Int → Option R) : Option R :=
 Zak (ZbO 51 [0, 3] E) <| ZfC E 0 fun w_1 => Zca E 3 .i64 fun x_2 => ZaR s <| k w_1 x_2
theorem Zjq {R : Type} {E : List V} {s : S} {k : ByteArray → Int → Option R} {r : R} (h : Zmw E s k = some r) : ∃ w_1 x_2, E = Zgn w_1 x_2 ∧ s = [] ∧ k w_1 x_2 = some r := by
 unfold Zmw at h
 obtain ⟨hg, h1⟩ := Zab h
 obtain ⟨_, hu0, h2⟩ := Zbt h1
 obtain ⟨_, hu3, h3⟩ := Zax h2
 obtain ⟨rfl, h4⟩ := Zaf h3
 exact ⟨_, _, Zbz hg rfl (Zai hu0 (Zai hu3 Zbm)), rfl, h4⟩
def Zl5 (N : Nat) : ZaL := (Zac).add [0, 1, 0, 1] fun _ E s K => Zmw (Zbk ZiK E) s fun w_1 x_2 => ZdX N w_1 (Zfz K w_1) (Zfe K w_1) N x_2
theorem Zva {N : Nat} (hC : Ok Tryd.prog C) (hΦ : Zaa Tryd.prog C (Zl6 N)) : Zb0 Tryd.prog C (Zl5 N) Zm0 [0, 1, 0, 1] :=
 Zb8 (Λi := Zac) (tr := false) (ks := ZiK) (kx := Zn3) (N := N) hC hΦ
  (Zag (by kernel_rfl))
  fun R E s K r h => by
   have h2 := ZaL.add_self.symm.trans h
   obtain ⟨_, _, he, rfl, h3⟩ := Zjq h2
   rw [he]
   exact (ZrG N _ _ N _).trans h3
theorem Zx0 : Zbh Ztn [] = [([0, 1, 0, 1], Zm0)] := by kernel_rfl
theorem ZBn {R : Type} (N : Nat) (w_1 : ByteArray) (K : V → S → Option R) : ZaV C (Zl6 N) (Zl5 N) 53 Tryd.f53 [.str w_1] [] K =
 Zj2 N w_1 (fun b_2 => K (.bool b_2) []) := by kernel_rfl
theorem Zte {N : Nat} (hC : Ok Tryd.prog C) (hΦ : Zaa Tryd.prog C (Zl6 N)) : Za4 Tryd.prog C (Zl5 N) Ztn [] :=
 Za5 Ztn [] (by
  rw [Zx0]
  intro p hp
  simp only [List.mem_cons, List.mem_nil_iff, or_false] at hp
  rcases hp with rfl
  ·exact (Zva hC hΦ))
theorem ZqZ (hC : Ok Tryd.prog C) {N : Nat} (hΦ : Zaa Tryd.prog C (Zl6 N)) : Zaa Tryd.prog C (Zmr N) := by
 refine hΦ.add_pure rfl fun R vs K r h => ?_
 unfold ZxU at h
 obtain ⟨_, rfl, h1⟩ := Zau h
 obtain ⟨_, rfl, h2⟩ := Zaj h1
 obtain ⟨_, h3⟩ := Zaf h2
 refine Zap (fn := Tryd.f53) (c := Ztn) hC hΦ Tryd.func53 (by kernel_rfl) (by kernel_rfl) (Zte (N := N) hC hΦ) rfl rfl ?_
 refine (ZBn N _ _).trans ?_
 rw [← ZoY]
 exact h3
def ZyZ (N : Nat) : (R : Type) → List V → S → (V → S → Option R) → Option R := fun _ vs s K =>
 Zej vs fun v'1 v'2 => ZaQ v'1 fun w_1 => asInt .u8 v'2 fun x_2 => ZaR s <| Zvh N w_1 x_2 (fun e_3 => K (.list 1 e_3 .sh) [])
def Zmd (N : Nat) : Zao := (Zmr N).add 76 (ZyZ N)
def ZrH : Code := ZaE Tryd.f76
def ZmC : Code := (Zcp ZrH [] 0).2
def Zi8 : List Nat := Zd3 34 [0, 1, 5, 6, 7]
def ZnS : List Nat := Zd3 34 [0, 5, 6]
def Zgv (w_1 : ByteArray) (x_2 : Int) (e_3 : List V) (x_4 x_5 : Int) : List V := mkF 0 34 [(0, .str w_1), (1, .int .u8 x_2), (5, .list 1 e_3 (.own 9)), (6, .int .i64 x_4), (7, .int .i64 x_5)]
def Zfd {R : Type} (K : X → List V → S → Option R) (w_1 : ByteArray) (x_2 : Int) : List V → Int → Option R := (fun e_1' x_2' => K (.exit 0) (mkF 0 34 [(0, .str w_1), (5, .list 1 (e_1') (.own 9)), (6, .int .i64 (x_2'))]) [])
abbrev ZiE {R : Type} (N : Nat) : Nat → List V → S → (X → List V → S → Option R) → Option R := fun n => ZhA C (Zmr N) (Zac) ZmC [0, 1, 0, 1, 1, 1] false Zi8 ZnS n R
theorem Zxb {R : Type} (N n : Nat) (w_1 : ByteArray) (x_2 : Int) (e_3 : List V) (x_4 x_5 : Int) (K : X → List V → S → Option R) :
 ZiE N (n + 1) (Zgv w_1 x_2 e_3 x_4 x_5) [] K =
 ZcH N w_1 x_2 (fun e_3 x_4 x_5 => ZiE N n (Zgv w_1 x_2 e_3 x_4 x_5) [] K) e_3 x_4 x_5 (Zfd K w_1 x_2) := by kernel_rfl
theorem ZsW {R : Type} (N : Nat) (w_1 : ByteArray) (x_2 : Int) (K : X → List V → S → Option R) : ∀ (n : Nat) (e_3 : List V) (x_4 x_5 : Int),
 ZiE N n (Zgv w_1 x_2 e_3 x_4 x_5) [] K = ZeG N w_1 x_2 (Zfd K w_1 x_2) n e_3 x_4 x_5
 | 0, _, _, _ => rfl
 | n + 1, e_3, x_4, x_5 => (Zxb N n w_1 x_2 e_3 x_4 x_5 K).trans (congrArg (fun nx => ZcH N w_1 x_2 nx e_3 x_4 x_5 (Zfd K w_1 x_2)) (funext fun e_3 => funext fun x_4 => funext fun x_5 => ZsW N w_1 x_2 K n e_3 x_4 x_5))
def ZmV {R : Type} (E : List V) (s : S) (k : ByteArray → Int → List V → Int → Int → Option R) : Option R :=
 Zak (ZbO 34 [0, 1, 5, 6, 7] E) <| ZfC E 0 fun w_1 => Zca E 1 .u8 fun x_2 => ZbW (nth E 5) fun u5 => Zbq 1 u5 fun e_3 f'1 => ZqA 9 f'1 <| Zca E 6 .i64 fun x_4 => Zca E 7 .i64 fun x_5 => ZaR s <| k w_1 x_2 e_3 x_4 x_5
theorem ZjN {R : Type} {E : List V} {s : S} {k : ByteArray → Int → List V → Int → Int → Option R} {r : R} (h : ZmV E s k = some r) : ∃ w_1 x_2 e_3 x_4 x_5, E = Zgv w_1 x_2 e_3 x_4 x_5 ∧ s = [] ∧ k w_1 x_2 e_3 x_4 x_5 = some r := by
 unfold ZmV at h
 obtain ⟨hg, h1⟩ := Zab h
 obtain ⟨_, hu0, h2⟩ := Zbt h1
 obtain ⟨_, hu1, h3⟩ := Zax h2
 obtain ⟨_, hu5, h4⟩ := Zae h3
 obtain ⟨_, _, rfl, h5⟩ := Zat h4
 obtain ⟨rfl, h6⟩ := Zee h5
 obtain ⟨_, hu6, h7⟩ := Zax h6
 obtain ⟨_, hu7, h8⟩ := Zax h7
 obtain ⟨rfl, h9⟩ := Zaf h8
 exact ⟨_, _, _, _, _, Zbz hg rfl (Zai hu0 (Zai hu1 (Zai hu5 (Zai hu6 (Zai hu7 Zbm))))), rfl, h9⟩
def ZmO (N : Nat) : ZaL := (Zac).add [0, 1, 0, 1, 1, 1] fun _ E s K => ZmV (Zbk Zi8 E) s fun w_1 x_2 e_3 x_4 x_5 => ZeG N w_1 x_2 (Zfd K w_1 x_2) N e_3 x_4 x_5
theorem Zvd {N : Nat} (hC : Ok Tryd.prog C) (hΦ : Zaa Tryd.prog C (Zmr N)) : Zb0 Tryd.prog C (ZmO N) ZmC [0, 1, 0, 1, 1, 1] :=
 Zb8 (Λi := Zac) (tr := false) (ks := Zi8) (kx := ZnS) (N := N) hC hΦ
  (Zag (by kernel_rfl))
  fun R E s K r h => by
   have h2 := ZaL.add_self.symm.trans h
   obtain ⟨_, _, _, _, _, he, rfl, h3⟩ := ZjN h2
   rw [he]
   exact (ZsW N _ _ _ N _ _ _).trans h3
theorem ZyF : Zbh ZrH [] = [([0, 1, 0, 1, 1, 1], ZmC)] := by kernel_rfl
theorem ZAW {R : Type} (N : Nat) (w_1 : ByteArray) (x_2 : Int) (K : V → S → Option R) : ZaV C (Zmr N) (ZmO N) 76 Tryd.f76 [.str w_1, .int .u8 x_2] [] K =
 Zlq N w_1 x_2 (fun e_3 => K (.list 1 e_3 .sh) []) := by kernel_rfl
theorem Zrr {N : Nat} (hC : Ok Tryd.prog C) (hΦ : Zaa Tryd.prog C (Zmr N)) : Za4 Tryd.prog C (ZmO N) ZrH [] :=
 Za5 ZrH [] (by
  rw [ZyF]
  intro p hp
  simp only [List.mem_cons, List.mem_nil_iff, or_false] at hp
  rcases hp with rfl
  ·exact (Zvd hC hΦ))
theorem Zqj (hC : Ok Tryd.prog C) {N : Nat} (hΦ : Zaa Tryd.prog C (Zmr N)) : Zaa Tryd.prog C (Zmd N) := by
 refine hΦ.add_pure rfl fun R vs K r h => ?_
 unfold ZyZ at h
 obtain ⟨_, _, rfl, h1⟩ := ZaG h
 obtain ⟨_, rfl, h2⟩ := Zaj h1
 obtain ⟨_, rfl, h3⟩ := ZaI h2
 obtain ⟨_, h4⟩ := Zaf h3
 refine Zap (fn := Tryd.f76) (c := ZrH) hC hΦ Tryd.func76 (by kernel_rfl) (by kernel_rfl) (Zrr (N := N) hC hΦ) rfl rfl ?_
 refine (ZAW N _ _ _).trans ?_
 rw [← Zpk]
 exact h4
def ZxK (N : Nat) : (R : Type) → List V → S → (V → S → Option R) → Option R := fun _ vs s K =>
 Zde vs fun v'1 => ZaQ v'1 fun w_1 => ZaR s <| Zs2 N w_1 (fun e_2 => K (.list 1 e_2 (.own 9)) [])
def Zmo (N : Nat) : Zao := (Zmd N).add 55 (ZxK N)
def ZrP : Code := ZaE Tryd.f55
def ZmB : Code := (Zcp ZrP [] 0).2
def Zjc : List Nat := Zd3 21 [3, 7, 8, 9]
def Zoq : List Nat := Zd3 21 [3]
def Zgu (e_2 : List V) (x_3 : Int) (e_1 : List V) (x_4 : Int) : List V := mkF 0 21 [(3, .list 1 e_1 (.own 9)), (7, .list 1 e_2 .sh), (8, .int .i64 x_3), (9, .int .i64 x_4)]
def Zfn {R : Type} (K : X → List V → S → Option R) (e_2 : List V) (x_3 : Int) : List V → Option R := (fun e_1' => K (.exit 0) (mkF 0 21 [(3, .list 1 (e_1') (.own 9))]) [])
abbrev Zje {R : Type} (N : Nat) : Nat → List V → S → (X → List V → S → Option R) → Option R := fun n => ZhA C (Zmd N) (Zac) ZmB [0, 1, 0, 1, 1] false Zjc Zoq n R
theorem ZwN {R : Type} (N n : Nat) (e_2 : List V) (x_3 : Int) (e_1 : List V) (x_4 : Int) (K : X → List V → S → Option R) :
 Zje N (n + 1) (Zgu e_2 x_3 e_1 x_4) [] K =
 ZcM N e_2 x_3 (fun e_1 x_4 => Zje N n (Zgu e_2 x_3 e_1 x_4) [] K) e_1 x_4 (Zfn K e_2 x_3) := by kernel_rfl
theorem ZrY {R : Type} (N : Nat) (e_2 : List V) (x_3 : Int) (K : X → List V → S → Option R) : ∀ (n : Nat) (e_1 : List V) (x_4 : Int),
 Zje N n (Zgu e_2 x_3 e_1 x_4) [] K = ZeL N e_2 x_3 (Zfn K e_2 x_3) n e_1 x_4
 | 0, _, _ => rfl
 | n + 1, e_1, x_4 => (ZwN N n e_2 x_3 e_1 x_4 K).trans (congrArg (fun nx => ZcM N e_2 x_3 nx e_1 x_4 (Zfn K e_2 x_3)) (funext fun e_1 => funext fun x_4 => ZrY N e_2 x_3 K n e_1 x_4))
def Zmj {R : Type} (E : List V) (s : S) (k : List V → List V → Int → Int → Option R) : Option R :=
 Zak (ZbO 21 [3, 7, 8, 9] E) <| ZbW (nth E 3) fun u3 => Zbq 1 u3 fun e_1 f'1 => ZqA 9 f'1 <| ZbW (nth E 7) fun u7 => Zbq 1 u7 fun e_2 f'2 => Zxm f'2 <| Zca E 8 .i64 fun x_3 => Zca E 9 .i64 fun x_4 => ZaR s <| k e_1 e_2 x_3 x_4
theorem Zlj {R : Type} {E : List V} {s : S} {k : List V → List V → Int → Int → Option R} {r : R} (h : Zmj E s k = some r) : ∃ e_1 e_2 x_3 x_4, E = Zgu e_2 x_3 e_1 x_4 ∧ s = [] ∧ k e_1 e_2 x_3 x_4 = some r := by
 unfold Zmj at h
 obtain ⟨hg, h1⟩ := Zab h
 obtain ⟨_, hu3, h2⟩ := Zae h1
 obtain ⟨_, _, rfl, h3⟩ := Zat h2
 obtain ⟨rfl, h4⟩ := Zee h3
 obtain ⟨_, hu7, h5⟩ := Zae h4
 obtain ⟨_, _, rfl, h6⟩ := Zat h5
 obtain ⟨rfl, h7⟩ := Zfh h6
 obtain ⟨_, hu8, h8⟩ := Zax h7
 obtain ⟨_, hu9, h9⟩ := Zax h8
 obtain ⟨rfl, h10⟩ := Zaf h9
 exact ⟨_, _, _, _, Zbz hg rfl (Zai hu3 (Zai hu7 (Zai hu8 (Zai hu9 Zbm)))), rfl, h10⟩
def Zme (N : Nat) : ZaL := (Zac).add [0, 1, 0, 1, 1] fun _ E s K => Zmj (Zbk Zjc E) s fun e_1 e_2 x_3 x_4 => ZeL N e_2 x_3 (Zfn K e_2 x_3) N e_1 x_4
theorem Zvp {N : Nat} (hC : Ok Tryd.prog C) (hΦ : Zaa Tryd.prog C (Zmd N)) : Zb0 Tryd.prog C (Zme N) ZmB [0, 1, 0, 1, 1] :=
 Zb8 (Λi := Zac) (tr := false) (ks := Zjc) (kx := Zoq) (N := N) hC hΦ
  (Zag (by kernel_rfl))
  fun R E s K r h => by
   have h2 := ZaL.add_self.symm.trans h
   obtain ⟨_, _, _, _, he, rfl, h3⟩ := Zlj h2
   rw [he]
   exact (ZrY N _ _ _ N _ _).trans h3
theorem Zyv : Zbh ZrP [] = [([0, 1, 0, 1, 1], ZmB)] := by kernel_rfl
theorem ZAj {R : Type} (N : Nat) (w_1 : ByteArray) (K : V → S → Option R) : ZaV C (Zmd N) (Zme N) 55 Tryd.f55 [.str w_1] [] K =
 ZjX N w_1 (fun e_2 => K (.list 1 e_2 (.own 9)) []) := by kernel_rfl
theorem Ztx {N : Nat} (hC : Ok Tryd.prog C) (hΦ : Zaa Tryd.prog C (Zmd N)) : Za4 Tryd.prog C (Zme N) ZrP [] :=
 Za5 ZrP [] (by
  rw [Zyv]
  intro p hp
  simp only [List.mem_cons, List.mem_nil_iff, or_false] at hp
  rcases hp with rfl
  ·exact (Zvp hC hΦ))
theorem Zpx (hC : Ok Tryd.prog C) {N : Nat} (hΦ : Zaa Tryd.prog C (Zmd N)) : Zaa Tryd.prog C (Zmo N) := by
 refine hΦ.add_own rfl fun R vs K r h => ?_
 unfold ZxK at h
 obtain ⟨_, rfl, h1⟩ := Zau h
 obtain ⟨_, rfl, h2⟩ := Zaj h1
 obtain ⟨_, h3⟩ := Zaf h2
 refine Zvw (fn := Tryd.f55) (c := ZrP) hC hΦ Tryd.func55 (by kernel_rfl) (by kernel_rfl) (Ztx (N := N) hC hΦ) rfl rfl ?_
 refine (ZAj N _ _).trans ?_
 rw [← ZnP]
 exact h3
def Zyf (N : Nat) : (R : Type) → List V → S → (V → S → Option R) → Option R := fun _ vs s K =>
 Zde vs fun v'1 => ZaQ v'1 fun w_1 => ZaR s <| ZjQ N w_1 (fun b_2 => K (.bool b_2) [])
def ZlV (N : Nat) : Zao := (Zmo N).add 36 (Zyf N)
def ZrW : Code := ZaE Tryd.f36
def Znl : Code := (Zcp ZrW [] 0).2
def ZiJ : List Nat := Zd3 27 [0, 6, 7, 8]
def Zpm : List Nat := Zd3 27 [0, 2]
def ZgN (w_1 : ByteArray) (e_2 : List V) (x_3 x_4 : Int) : List V := mkF 0 27 [(0, .str w_1), (6, .list 1 e_2 (.own 9)), (7, .int .i64 x_3), (8, .int .i64 x_4)]
def Zfg {R : Type} (K : X → List V → S → Option R) (w_1 : ByteArray) (e_2 : List V) (x_3 : Int) : Unit → Option R := (fun _ => K .ret (mkF 0 27 [(0, .str w_1), (2, .bool false)]) [])
def ZfG {R : Type} (K : X → List V → S → Option R) (w_1 : ByteArray) (e_2 : List V) (x_3 : Int) : Unit → Option R := (fun _ => K (.exit 0) (mkF 0 27 [(0, .str w_1)]) [])
abbrev ZiV {R : Type} (N : Nat) : Nat → List V → S → (X → List V → S → Option R) → Option R := fun n => ZhA C (Zmo N) (Zac) Znl [0, 1, 0, 1] false ZiJ Zpm n R
theorem Zwo {R : Type} (N n : Nat) (w_1 : ByteArray) (e_2 : List V) (x_3 : Int) (x_4 : Int) (K : X → List V → S → Option R) :
 ZiV N (n + 1) (ZgN w_1 e_2 x_3 x_4) [] K =
 ZcN N w_1 e_2 x_3 (fun x_4 => ZiV N n (ZgN w_1 e_2 x_3 x_4) [] K) x_4 (Zfg K w_1 e_2 x_3) (ZfG K w_1 e_2 x_3) := by kernel_rfl
theorem Zrw {R : Type} (N : Nat) (w_1 : ByteArray) (e_2 : List V) (x_3 : Int) (K : X → List V → S → Option R) : ∀ (n : Nat) (x_4 : Int),
 ZiV N n (ZgN w_1 e_2 x_3 x_4) [] K = ZeP N w_1 e_2 x_3 (Zfg K w_1 e_2 x_3) (ZfG K w_1 e_2 x_3) n x_4
 | 0, _ => rfl
 | n + 1, x_4 => (Zwo N n w_1 e_2 x_3 x_4 K).trans (congrArg (fun nx => ZcN N w_1 e_2 x_3 nx x_4 (Zfg K w_1 e_2 x_3) (ZfG K w_1 e_2 x_3)) (funext fun x_4 => Zrw N w_1 e_2 x_3 K n x_4))
def Zmg {R : Type} (E : List V) (s : S) (k : ByteArray → List V → Int → Int → Option R) : Option R :=
 Zak (ZbO 27 [0, 6, 7, 8] E) <| ZfC E 0 fun w_1 => ZbW (nth E 6) fun u6 => Zbq 1 u6 fun e_2 f'1 => ZqA 9 f'1 <| Zca E 7 .i64 fun x_3 => Zca E 8 .i64 fun x_4 => ZaR s <| k w_1 e_2 x_3 x_4
theorem Zle {R : Type} {E : List V} {s : S} {k : ByteArray → List V → Int → Int → Option R} {r : R} (h : Zmg E s k = some r) : ∃ w_1 e_2 x_3 x_4, E = ZgN w_1 e_2 x_3 x_4 ∧ s = [] ∧ k w_1 e_2 x_3 x_4 = some r := by
 unfold Zmg at h
 obtain ⟨hg, h1⟩ := Zab h
 obtain ⟨_, hu0, h2⟩ := Zbt h1
 obtain ⟨_, hu6, h3⟩ := Zae h2
 obtain ⟨_, _, rfl, h4⟩ := Zat h3
 obtain ⟨rfl, h5⟩ := Zee h4
 obtain ⟨_, hu7, h6⟩ := Zax h5
 obtain ⟨_, hu8, h7⟩ := Zax h6
 obtain ⟨rfl, h8⟩ := Zaf h7
 exact ⟨_, _, _, _, Zbz hg rfl (Zai hu0 (Zai hu6 (Zai hu7 (Zai hu8 Zbm)))), rfl, h8⟩
def Zms (N : Nat) : ZaL := (Zac).add [0, 1, 0, 1] fun _ E s K => Zmg (Zbk ZiJ E) s fun w_1 e_2 x_3 x_4 => ZeP N w_1 e_2 x_3 (Zfg K w_1 e_2 x_3) (ZfG K w_1 e_2 x_3) N x_4
theorem Zu1 {N : Nat} (hC : Ok Tryd.prog C) (hΦ : Zaa Tryd.prog C (Zmo N)) : Zb0 Tryd.prog C (Zms N) Znl [0, 1, 0, 1] :=
 Zb8 (Λi := Zac) (tr := false) (ks := ZiJ) (kx := Zpm) (N := N) hC hΦ
  (Zag (by kernel_rfl))
  fun R E s K r h => by
   have h2 := ZaL.add_self.symm.trans h
   obtain ⟨_, _, _, _, he, rfl, h3⟩ := Zle h2
   rw [he]
   exact (Zrw N _ _ _ _ N _).trans h3
theorem Zyg : Zbh ZrW [] = [([0, 1, 0, 1], Znl)] := by kernel_rfl
theorem ZAu {R : Type} (N : Nat) (w_1 : ByteArray) (K : V → S → Option R) : ZaV C (Zmo N) (Zms N) 36 Tryd.f36 [.str w_1] [] K =
 Zjx N w_1 (fun b_2 => K (.bool b_2) []) := by kernel_rfl
theorem ZrR {N : Nat} (hC : Ok Tryd.prog C) (hΦ : Zaa Tryd.prog C (Zmo N)) : Za4 Tryd.prog C (Zms N) ZrW [] :=
 Za5 ZrW [] (by
  rw [Zyg]
  intro p hp
  simp only [List.mem_cons, List.mem_nil_iff, or_false] at hp
  rcases hp with rfl
  ·exact (Zu1 hC hΦ))
theorem Zqz (hC : Ok Tryd.prog C) {N : Nat} (hΦ : Zaa Tryd.prog C (Zmo N)) : Zaa Tryd.prog C (ZlV N) := by
 refine hΦ.add_pure rfl fun R vs K r h => ?_
 unfold Zyf at h
 obtain ⟨_, rfl, h1⟩ := Zau h
 obtain ⟨_, rfl, h2⟩ := Zaj h1
 obtain ⟨_, h3⟩ := Zaf h2
 refine Zap (fn := Tryd.f36) (c := ZrW) hC hΦ Tryd.func36 (by kernel_rfl) (by kernel_rfl) (ZrR (N := N) hC hΦ) rfl rfl ?_
 refine (ZAu N _ _).trans ?_
 rw [← ZoG]
 exact h3
def Zy5 (N : Nat) : (R : Type) → List V → S → (V → S → Option R) → Option R := fun _ vs s K =>
 Zde vs fun v'1 => ZaQ v'1 fun w_1 => ZaR s <| Zhx N w_1 (fun e_2 => K (.list 1 e_2 .sh) [])
def Zvb (N : Nat) : Zao := (ZlV N).add 61 (Zy5 N)
def Zsr : Code := ZaE Tryd.f61
def ZlS : Code := (Zcp Zsr [] 0).2
def Zji : List Nat := Zd3 52 [0, 3, 8, 9, 10]
def ZnG : List Nat := Zd3 52 [3]
def ZgF (w_1 : ByteArray) (e_2 : List V) (x_3 : Int) (k_5 k_6 : Nat) (x_4 : Int) (O_9 : Ob) : List V := mkF 0 52 [(0, .str w_1), (3, .arr 1 k_5 0 k_6), (8, .list 1 e_2 (.own 9)), (9, .int .i64 x_3), (10, .int .i64 x_4)]
def Zfp {R : Type} (K : X → List V → S → Option R) (w_1 : ByteArray) (e_2 : List V) (x_3 : Int) : Nat → Nat → Ob → Option R := (fun k_1' k_2' O_3' => K (.exit 0) (mkF 0 52 [(3, .arr 1 (k_1') 0 (k_2'))]) [some ⟨[], 1, 9, 0⟩, some (O_3')])
abbrev Zih {R : Type} (N : Nat) : Nat → List V → S → (X → List V → S → Option R) → Option R := fun n => ZhA C.objs (ZlV N) (Zac) ZlS [0, 1, 0, 1, 1] false Zji ZnG n R
theorem Zwk {R : Type} (N n : Nat) (w_1 : ByteArray) (e_2 : List V) (x_3 : Int) (k_5 k_6 : Nat) (x_4 : Int) (O_9 : Ob) (K : X → List V → S → Option R) :
 Zih N (n + 1) (ZgF w_1 e_2 x_3 k_5 k_6 x_4 O_9) [some ⟨[], 1, 9, 0⟩, some O_9] K =
 Zcj N w_1 e_2 x_3 (fun k_5 k_6 x_4 O_9 => Zih N n (ZgF w_1 e_2 x_3 k_5 k_6 x_4 O_9) [some ⟨[], 1, 9, 0⟩, some O_9] K) k_5 k_6 x_4 O_9 (Zfp K w_1 e_2 x_3) := by kernel_rfl
theorem ZsU {R : Type} (N : Nat) (w_1 : ByteArray) (e_2 : List V) (x_3 : Int) (K : X → List V → S → Option R) : ∀ (n : Nat) (k_5 k_6 : Nat) (x_4 : Int) (O_9 : Ob),
 Zih N n (ZgF w_1 e_2 x_3 k_5 k_6 x_4 O_9) [some ⟨[], 1, 9, 0⟩, some O_9] K = ZdI N w_1 e_2 x_3 (Zfp K w_1 e_2 x_3) n k_5 k_6 x_4 O_9
 | 0, _, _, _, _ => rfl
 | n + 1, k_5, k_6, x_4, O_9 => (Zwk N n w_1 e_2 x_3 k_5 k_6 x_4 O_9 K).trans (congrArg (fun nx => Zcj N w_1 e_2 x_3 nx k_5 k_6 x_4 O_9 (Zfp K w_1 e_2 x_3)) (funext fun k_5 => funext fun k_6 => funext fun x_4 => funext fun O_9 => ZsU N w_1 e_2 x_3 K n k_5 k_6 x_4 O_9))
def ZmA {R : Type} (E : List V) (s : S) (k : ByteArray → Nat → Nat → List V → Int → Int → Ob → Option R) : Option R :=
 Zak (ZbO 52 [0, 3, 8, 9, 10] E) <| ZfC E 0 fun w_1 => ZbW (nth E 3) fun u3 => Zm5 u3 fun k'1 k_5 k'2 k_6 => isN k'1 1 <| isN k'2 0 <| ZbW (nth E 8) fun u8 => Zbq 1 u8 fun e_2 f'3 => ZqA 9 f'3 <| Zca E 9 .i64 fun x_3 => Zca E 10 .i64 fun x_4 => ZuA s fun o'4 s'5 => ZnR o'4 1 9 fun e'6 k'7 => isN k'7 0 <| ZqQ e'6 <| ZuA s'5 fun O_9 s'8 => ZaR s'8 <| k w_1 k_5 k_6 e_2 x_3 x_4 O_9
theorem Zlt {R : Type} {E : List V} {s : S} {k : ByteArray → Nat → Nat → List V → Int → Int → Ob → Option R} {r : R} (h : ZmA E s k = some r) : ∃ w_1 k_5 k_6 e_2 x_3 x_4 O_9, E = ZgF w_1 e_2 x_3 k_5 k_6 x_4 O_9 ∧ s = [some ⟨[], 1, 9, 0⟩, some O_9] ∧ k w_1 k_5 k_6 e_2 x_3 x_4 O_9 = some r := by
 unfold ZmA at h
 obtain ⟨hg, h1⟩ := Zab h
 obtain ⟨_, hu0, h2⟩ := Zbt h1
 obtain ⟨_, hu3, h3⟩ := Zae h2
 obtain ⟨_, _, _, _, rfl, h4⟩ := Zds h3
 obtain ⟨rfl, h5⟩ := Zaw h4
 obtain ⟨rfl, h6⟩ := Zaw h5
 obtain ⟨_, hu8, h7⟩ := Zae h6
 obtain ⟨_, _, rfl, h8⟩ := Zat h7
 obtain ⟨rfl, h9⟩ := Zee h8
 obtain ⟨_, hu9, h10⟩ := Zax h9
 obtain ⟨_, hu10, h11⟩ := Zax h10
 obtain ⟨_, _, rfl, h12⟩ := Zc7 h11
 obtain ⟨_, _, rfl, h13⟩ := ZbR h12
 obtain ⟨rfl, h14⟩ := Zaw h13
 obtain ⟨rfl, h15⟩ := Zb5 h14
 obtain ⟨_, _, rfl, h16⟩ := Zc7 h15
 obtain ⟨rfl, h17⟩ := Zaf h16
 exact ⟨_, _, _, _, _, _, _, Zbz hg rfl (Zai hu0 (Zai hu3 (Zai hu8 (Zai hu9 (Zai hu10 Zbm))))), rfl, h17⟩
def Znf (N : Nat) : ZaL := (Zac).add [0, 1, 0, 1, 1] fun _ E s K => ZmA (Zbk Zji E) s fun w_1 k_5 k_6 e_2 x_3 x_4 O_9 => ZdI N w_1 e_2 x_3 (Zfp K w_1 e_2 x_3) N k_5 k_6 x_4 O_9
theorem ZtT {N : Nat} (hC : Ok Tryd.prog C) (hΦ : Zaa Tryd.prog C (ZlV N)) : Zb0 Tryd.prog C.objs (Znf N) ZlS [0, 1, 0, 1, 1] :=
 Zb8 (Λi := Zac) (tr := false) (ks := Zji) (kx := ZnG) (N := N) hC.objs hΦ.objs
  (Zag (by kernel_rfl))
  fun R E s K r h => by
   have h2 := ZaL.add_self.symm.trans h
   obtain ⟨_, _, _, _, _, _, _, he, rfl, h3⟩ := Zlt h2
   rw [he]
   exact (ZsU N _ _ _ _ N _ _ _ _).trans h3
theorem ZyL : Zbh Zsr [] = [([0, 1, 0, 1, 1], ZlS)] := by kernel_rfl
theorem Zz2 {R : Type} (N : Nat) (w_1 : ByteArray) (K : V → S → Option R) : ZaV C.objs (ZlV N) (Znf N) 61 Tryd.f61 [.str w_1] [] K =
 Zkt N w_1 (fun e_2 => K (.list 1 e_2 .sh) []) := by kernel_rfl
theorem Zth {N : Nat} (hC : Ok Tryd.prog C) (hΦ : Zaa Tryd.prog C (ZlV N)) : Za4 Tryd.prog C.objs (Znf N) Zsr [] :=
 Za5 Zsr [] (by
  rw [ZyL]
  intro p hp
  simp only [List.mem_cons, List.mem_nil_iff, or_false] at hp
  rcases hp with rfl
  ·exact (ZtT hC hΦ))
theorem ZqR (hC : Ok Tryd.prog C) {N : Nat} (hΦ : Zaa Tryd.prog C (ZlV N)) : Zaa Tryd.prog C (Zvb N) := by
 refine hΦ.add_pure rfl fun R vs K r h => ?_
 unfold Zy5 at h
 obtain ⟨_, rfl, h1⟩ := Zau h
 obtain ⟨_, rfl, h2⟩ := Zaj h1
 obtain ⟨_, h3⟩ := Zaf h2
 refine Zap (fn := Tryd.f61) (c := Zsr) hC.objs hΦ.objs Tryd.func61 (by kernel_rfl) (by kernel_rfl) (Zth (N := N) hC hΦ) rfl rfl ?_
 refine (Zz2 N _ _).trans ?_
 rw [← Zoo]
 exact h3
def ZxE (N : Nat) : (R : Type) → List V → S → (V → S → Option R) → Option R := fun _ vs s K =>
 Zde vs fun v'1 => ZaQ v'1 fun w_1 => ZaR s <| Zvc N w_1 (fun w_2 => K (.str w_2) [])
def Zl4 (N : Nat) : Zao := (Zvb N).add 39 (ZxE N)
def ZBm : Code := ZaE Tryd.f39
theorem ZBl {R : Type} (N : Nat) (w_1 : ByteArray) (K : V → S → Option R) : ZaV C (Zvb N) (Zac) 39 Tryd.f39 [.str w_1] [] K =
 Zlg N w_1 (fun w_2 => K (.str w_2) []) := by kernel_rfl
theorem Zp5 (hC : Ok Tryd.prog C) {N : Nat} (hΦ : Zaa Tryd.prog C (Zvb N)) : Zaa Tryd.prog C (Zl4 N) := by
 refine hΦ.add_pure rfl fun R vs K r h => ?_
 unfold ZxE at h
 obtain ⟨_, rfl, h1⟩ := Zau h
 obtain ⟨_, rfl, h2⟩ := Zaj h1
 obtain ⟨_, h3⟩ := Zaf h2
 refine Zap (fn := Tryd.f39) (c := ZBm) hC hΦ Tryd.func39 (by kernel_rfl) (by kernel_rfl) (Zag (Λ := Zac) (by kernel_rfl)) rfl rfl ?_
 refine (ZBl N _ _).trans ?_
 rw [← ZoM]
 exact h3
def Zyo (N : Nat) : (R : Type) → List V → S → (V → S → Option R) → Option R := fun _ vs s K =>
 Zde vs fun v'1 => Zbq 1 v'1 fun e_1 f_2 => ZaR s <| Zi1 N e_1 f_2 (fun w_3 => K (.str w_3) [])
def Zu4 (N : Nat) : Zao := (Zl4 N).add 54 (Zyo N)
def ZsJ : Code := ZaE Tryd.f54
def ZlT : Code := (Zcp ZsJ [] 0).2
def ZiL : List Nat := Zd3 21 [3, 9, 10, 11]
def Zo7 : List Nat := Zd3 21 [3]
def Zgo (e_2 : List V) (f_3 : Fl) (x_4 : Int) (w_1 : ByteArray) (x_5 : Int) : List V := mkF 0 21 [(3, .str w_1), (9, .list 1 e_2 f_3), (10, .int .i64 x_4), (11, .int .i64 x_5)]
def ZfA {R : Type} (K : X → List V → S → Option R) (e_2 : List V) (f_3 : Fl) (x_4 : Int) : ByteArray → Option R := (fun w_1' => K (.exit 0) (mkF 0 21 [(3, .str (w_1'))]) [])
abbrev ZiQ {R : Type} (N : Nat) : Nat → List V → S → (X → List V → S → Option R) → Option R := fun n => ZhA C (Zl4 N) (Zac) ZlT [0, 1, 0, 1, 1, 1] false ZiL Zo7 n R
theorem Zwb {R : Type} (N n : Nat) (e_2 : List V) (f_3 : Fl) (x_4 : Int) (w_1 : ByteArray) (x_5 : Int) (K : X → List V → S → Option R) :
 ZiQ N (n + 1) (Zgo e_2 f_3 x_4 w_1 x_5) [] K =
 ZcC N e_2 f_3 x_4 (fun w_1 x_5 => ZiQ N n (Zgo e_2 f_3 x_4 w_1 x_5) [] K) w_1 x_5 (ZfA K e_2 f_3 x_4) := by kernel_rfl
theorem ZrB {R : Type} (N : Nat) (e_2 : List V) (f_3 : Fl) (x_4 : Int) (K : X → List V → S → Option R) : ∀ (n : Nat) (w_1 : ByteArray) (x_5 : Int),
 ZiQ N n (Zgo e_2 f_3 x_4 w_1 x_5) [] K = ZeR N e_2 f_3 x_4 (ZfA K e_2 f_3 x_4) n w_1 x_5
 | 0, _, _ => rfl
 | n + 1, w_1, x_5 => (Zwb N n e_2 f_3 x_4 w_1 x_5 K).trans (congrArg (fun nx => ZcC N e_2 f_3 x_4 nx w_1 x_5 (ZfA K e_2 f_3 x_4)) (funext fun w_1 => funext fun x_5 => ZrB N e_2 f_3 x_4 K n w_1 x_5))
def Zne {R : Type} (E : List V) (s : S) (k : ByteArray → List V → Fl → Int → Int → Option R) : Option R :=
 Zak (ZbO 21 [3, 9, 10, 11] E) <| ZfC E 3 fun w_1 => ZjM E 9 1 fun e_2 f_3 => Zca E 10 .i64 fun x_4 => Zca E 11 .i64 fun x_5 => ZaR s <| k w_1 e_2 f_3 x_4 x_5
theorem ZjT {R : Type} {E : List V} {s : S} {k : ByteArray → List V → Fl → Int → Int → Option R} {r : R} (h : Zne E s k = some r) : ∃ w_1 e_2 f_3 x_4 x_5, E = Zgo e_2 f_3 x_4 w_1 x_5 ∧ s = [] ∧ k w_1 e_2 f_3 x_4 x_5 = some r := by
 unfold Zne at h
 obtain ⟨hg, h1⟩ := Zab h
 obtain ⟨_, hu3, h2⟩ := Zbt h1
 obtain ⟨_, _, hu9, h3⟩ := ZdD h2
 obtain ⟨_, hu10, h4⟩ := Zax h3
 obtain ⟨_, hu11, h5⟩ := Zax h4
 obtain ⟨rfl, h6⟩ := Zaf h5
 exact ⟨_, _, _, _, _, Zbz hg rfl (Zai hu3 (Zai hu9 (Zai hu10 (Zai hu11 Zbm)))), rfl, h6⟩
def Zmh (N : Nat) : ZaL := (Zac).add [0, 1, 0, 1, 1, 1] fun _ E s K => Zne (Zbk ZiL E) s fun w_1 e_2 f_3 x_4 x_5 => ZeR N e_2 f_3 x_4 (ZfA K e_2 f_3 x_4) N w_1 x_5
theorem Zuw {N : Nat} (hC : Ok Tryd.prog C) (hΦ : Zaa Tryd.prog C (Zl4 N)) : Zb0 Tryd.prog C (Zmh N) ZlT [0, 1, 0, 1, 1, 1] :=
 Zb8 (Λi := Zac) (tr := false) (ks := ZiL) (kx := Zo7) (N := N) hC hΦ
  (Zag (by kernel_rfl))
  fun R E s K r h => by
   have h2 := ZaL.add_self.symm.trans h
   obtain ⟨_, _, _, _, _, he, rfl, h3⟩ := ZjT h2
   rw [he]
   exact (ZrB N _ _ _ _ N _ _).trans h3
theorem Zyj : Zbh ZsJ [] = [([0, 1, 0, 1, 1, 1], ZlT)] := by kernel_rfl
theorem ZBx {R : Type} (N : Nat) (e_1 : List V) (f_2 : Fl) (K : V → S → Option R) : ZaV C (Zl4 N) (Zmh N) 54 Tryd.f54 [.list 1 e_1 f_2] [] K =
 ZlC N e_1 f_2 (fun w_3 => K (.str w_3) []) := by kernel_rfl
theorem Ztc {N : Nat} (hC : Ok Tryd.prog C) (hΦ : Zaa Tryd.prog C (Zl4 N)) : Za4 Tryd.prog C (Zmh N) ZsJ [] :=
 Za5 ZsJ [] (by
  rw [Zyj]
  intro p hp
  simp only [List.mem_cons, List.mem_nil_iff, or_false] at hp
  rcases hp with rfl
  ·exact (Zuw hC hΦ))
theorem Zqg (hC : Ok Tryd.prog C) {N : Nat} (hΦ : Zaa Tryd.prog C (Zl4 N)) : Zaa Tryd.prog C (Zu4 N) := by
 refine hΦ.add_pure rfl fun R vs K r h => ?_
 unfold Zyo at h
 obtain ⟨_, rfl, h1⟩ := Zau h
 obtain ⟨_, _, rfl, h2⟩ := Zat h1
 obtain ⟨_, h3⟩ := Zaf h2
 refine Zap (fn := Tryd.f54) (c := ZsJ) hC hΦ Tryd.func54 (by kernel_rfl) (by kernel_rfl) (Ztc (N := N) hC hΦ) rfl rfl ?_
 refine (ZBx N _ _ _).trans ?_
 rw [← ZoK]
 exact h3
def Zyd (N : Nat) : (R : Type) → List V → S → (V → S → Option R) → Option R := fun _ vs s K =>
 Zde vs fun v'1 => ZaQ v'1 fun w_1 => ZaR s <| Zvg N w_1 (fun w_2 => K (.str w_2) [])
def ZtL (N : Nat) : Zao := (Zu4 N).add 40 (Zyd N)
def ZzG : Code := ZaE Tryd.f40
theorem ZzZ {R : Type} (N : Nat) (w_1 : ByteArray) (K : V → S → Option R) : ZaV C (Zu4 N) (Zac) 40 Tryd.f40 [.str w_1] [] K =
 ZkA N w_1 (fun w_2 => K (.str w_2) []) := by kernel_rfl
theorem ZqJ (hC : Ok Tryd.prog C) {N : Nat} (hΦ : Zaa Tryd.prog C (Zu4 N)) : Zaa Tryd.prog C (ZtL N) := by
 refine hΦ.add_pure rfl fun R vs K r h => ?_
 unfold Zyd at h
 obtain ⟨_, rfl, h1⟩ := Zau h
 obtain ⟨_, rfl, h2⟩ := Zaj h1
 obtain ⟨_, h3⟩ := Zaf h2
 refine Zap (fn := Tryd.f40) (c := ZzG) hC hΦ Tryd.func40 (by kernel_rfl) (by kernel_rfl) (Zag (Λ := Zac) (by kernel_rfl)) rfl rfl ?_
 refine (ZzZ N _ _).trans ?_
 rw [← Zpc]
 exact h3
def Zy0 (N : Nat) : (R : Type) → List V → S → (V → S → Option R) → Option R := fun _ vs s K =>
 Zde vs fun v'1 => ZaQ v'1 fun w_1 => ZaR s <| Zu6 N w_1 (fun w_2 b_3 => K (.tuple [.str w_2, .bool b_3]) [])
def ZvE (N : Nat) : Zao := (ZtL N).add 12 (Zy0 N)
def ZBa : Code := ZaE Tryd.f12
theorem ZBy {R : Type} (N : Nat) (w_1 : ByteArray) (K : V → S → Option R) : ZaV C (ZtL N) (Zac) 12 Tryd.f12 [.str w_1] [] K =
 Zjp N w_1 (fun w_2 b_3 => K (.tuple [.str w_2, .bool b_3]) []) := by kernel_rfl
theorem ZpO (hC : Ok Tryd.prog C) {N : Nat} (hΦ : Zaa Tryd.prog C (ZtL N)) : Zaa Tryd.prog C (ZvE N) := by
 refine hΦ.add_pure rfl fun R vs K r h => ?_
 unfold Zy0 at h
 obtain ⟨_, rfl, h1⟩ := Zau h
 obtain ⟨_, rfl, h2⟩ := Zaj h1
 obtain ⟨_, h3⟩ := Zaf h2
 refine Zap (fn := Tryd.f12) (c := ZBa) hC hΦ Tryd.func12 (by kernel_rfl) (by kernel_rfl) (Zag (Λ := Zac) (by kernel_rfl)) rfl rfl ?_
 refine (ZBy N _ _).trans ?_
 rw [← ZoP]
 exact h3
def Zya (N : Nat) : (R : Type) → List V → S → (V → S → Option R) → Option R := fun _ vs s K =>
 Zej vs fun v'1 v'2 => ZaQ v'1 fun w_1 => ZaQ v'2 fun w_2 => ZaR s <| ZtG N w_1 w_2 (fun w_3 b_4 => K (.tuple [.str w_3, .bool b_4]) [])
def Zt5 (N : Nat) : Zao := (ZvE N).add 17 (Zya N)
def ZAb : Code := ZaE Tryd.f17
theorem ZAD {R : Type} (N : Nat) (w_1 w_2 : ByteArray) (K : V → S → Option R) : ZaV C (ZvE N) (Zac) 17 Tryd.f17 [.str w_1, .str w_2] [] K =
 ZlA N w_1 w_2 (fun w_3 b_4 => K (.tuple [.str w_3, .bool b_4]) []) := by kernel_rfl
theorem Zqr (hC : Ok Tryd.prog C) {N : Nat} (hΦ : Zaa Tryd.prog C (ZvE N)) : Zaa Tryd.prog C (Zt5 N) := by
 refine hΦ.add_pure rfl fun R vs K r h => ?_
 unfold Zya at h
 obtain ⟨_, _, rfl, h1⟩ := ZaG h
 obtain ⟨_, rfl, h2⟩ := Zaj h1
 obtain ⟨_, rfl, h3⟩ := Zaj h2
 obtain ⟨_, h4⟩ := Zaf h3
 refine Zap (fn := Tryd.f17) (c := ZAb) hC hΦ Tryd.func17 (by kernel_rfl) (by kernel_rfl) (Zag (Λ := Zac) (by kernel_rfl)) rfl rfl ?_
 refine (ZAD N _ _ _).trans ?_
 rw [← ZoN]
 exact h4
def Zxw (N : Nat) : (R : Type) → List V → S → (V → S → Option R) → Option R := fun _ vs s K =>
 Zde vs fun v'1 => ZkK v'1 fun o0 k'3 k'4 k'5 => isN k'3 0 <| isN k'4 0 <| isN k'5 0 <| ZuF s o0 0 fun o'6 => ZnR o'6 3 49 fun e'7 k'8 => isN k'8 0 <| Zde e'7 fun v'9 => ZbB v'9 fun e_1 f_2 x_3 x_4 => Zak (Zbf [o0]) <| Zak (okI 1 [true] [some ⟨[.agg [.list 1 e_1 f_2, .int .i64 x_3, .int .u64 x_4]], 3, 49, 0⟩]) <| Zsq N e_1 f_2 x_3 x_4 (fun x_901 e_902 f_903 x_904 x_905 => FK s [o0] rl K (.int .i64 x_901) [some ⟨[.agg [.list 1 e_902 f_903, .int .i64 x_904, .int .u64 x_905]], 3, 49, 0⟩])
def Zvn (N : Nat) : Zao := (Zt5 N).add 75 (Zxw N)
def ZBo : Code := ZaE Tryd.f75
theorem ZA5 {R : Type} (N : Nat) (e_1 : List V) (f_2 : Fl) (x_3 x_4 : Int) (K : V → S → Option R) : ZaV C (Zt5 N) (Zac) 75 Tryd.f75 [.ptr 0 0 0 0] [some ⟨[.agg [.list 1 e_1 f_2, .int .i64 x_3, .int .u64 x_4]], 3, 49, 0⟩] (GK rl 1 K) =
 ZhN N e_1 f_2 x_3 x_4 (fun x_901 e_902 f_903 x_904 x_905 => K (.int .i64 x_901) [some ⟨[.agg [.list 1 e_902 f_903, .int .i64 x_904, .int .u64 x_905]], 3, 49, 0⟩]) := by kernel_rfl
theorem ZpC (hC : Ok Tryd.prog C) {N : Nat} (hΦ : Zaa Tryd.prog C (Zt5 N)) : Zaa Tryd.prog C (Zvn N) := by
 refine hΦ.add_shared rfl fun R vs s K r h => ?_
 unfold Zxw at h
 obtain ⟨_, rfl, h1⟩ := Zau h
 obtain ⟨o0, _, _, _, rfl, h2⟩ := ZcY h1
 obtain ⟨rfl, h3⟩ := Zaw h2
 obtain ⟨rfl, h4⟩ := Zaw h3
 obtain ⟨rfl, h5⟩ := Zaw h4
 obtain ⟨_, hob0, h6⟩ := Zc2 h5
 obtain ⟨_, _, rfl, h7⟩ := ZbR h6
 obtain ⟨rfl, h8⟩ := Zaw h7
 obtain ⟨_, rfl, h9⟩ := Zau h8
 obtain ⟨e_1, f_2, x_3, x_4, rfl, h10⟩ := Zbn h9
 obtain ⟨hdist, h11⟩ := Zab h10
 obtain ⟨hin, h12⟩ := Zab h11
 refine ZbN (fn := Tryd.f75) (c := ZBo) (os := [o0]) (rl := rl) (bi := [true]) (s0 := [some ⟨[.agg [.list 1 e_1 f_2, .int .i64 x_3, .int .u64 x_4]], 3, 49, 0⟩]) (as0 := [.ptr 0 0 0 0]) hC hΦ Tryd.func75 (by kernel_rfl) (by kernel_rfl) (Zag (Λ := Zac) (by kernel_rfl)) rfl hdist ⟨⟨_, rfl, hob0⟩, trivial⟩ hin rfl rfl ?_
 refine (ZA5 N _ _ _ _ _).trans ?_
 rw [← ZiH]
 exact h12
def ZyU (N : Nat) : (R : Type) → List V → S → (V → S → Option R) → Option R := fun _ vs s K =>
 Zej vs fun v'1 v'2 => ZkK v'1 fun o0 k'4 k'5 k'6 => isN k'4 0 <| isN k'5 0 <| isN k'6 0 <| asInt .i64 v'2 fun x_1 => ZuF s o0 0 fun o'7 => ZnR o'7 3 49 fun e'8 k'9 => isN k'9 0 <| Zde e'8 fun v'10 => ZbB v'10 fun e_2 f_3 x_4 x_5 => Zak (Zbf [o0]) <| Zak (okI 1 [true] [some ⟨[.agg [.list 1 e_2 f_3, .int .i64 x_4, .int .u64 x_5]], 3, 49, 0⟩]) <| ZhB N x_1 e_2 f_3 x_4 x_5 (fun x_901 e_902 f_903 x_904 x_905 => FK s [o0] rl K (.int .i64 x_901) [some ⟨[.agg [.list 1 e_902 f_903, .int .i64 x_904, .int .u64 x_905]], 3, 49, 0⟩])
def Zun (N : Nat) : Zao := (Zvn N).add 49 (ZyU N)
def ZA8 : Code := ZaE Tryd.f49
theorem ZAZ {R : Type} (N : Nat) (x_1 : Int) (e_2 : List V) (f_3 : Fl) (x_4 x_5 : Int) (K : V → S → Option R) : ZaV C (Zvn N) (Zac) 49 Tryd.f49 [.ptr 0 0 0 0, .int .i64 x_1] [some ⟨[.agg [.list 1 e_2 f_3, .int .i64 x_4, .int .u64 x_5]], 3, 49, 0⟩] (GK rl 1 K) =
 Zhc N x_1 e_2 f_3 x_4 x_5 (fun x_901 e_902 f_903 x_904 x_905 => K (.int .i64 x_901) [some ⟨[.agg [.list 1 e_902 f_903, .int .i64 x_904, .int .u64 x_905]], 3, 49, 0⟩]) := by kernel_rfl
theorem Zqi (hC : Ok Tryd.prog C) {N : Nat} (hΦ : Zaa Tryd.prog C (Zvn N)) : Zaa Tryd.prog C (Zun N) := by
 refine hΦ.add_shared rfl fun R vs s K r h => ?_
 unfold ZyU at h
 obtain ⟨_, _, rfl, h1⟩ := ZaG h
 obtain ⟨o0, _, _, _, rfl, h2⟩ := ZcY h1
 obtain ⟨rfl, h3⟩ := Zaw h2
 obtain ⟨rfl, h4⟩ := Zaw h3
 obtain ⟨rfl, h5⟩ := Zaw h4
 obtain ⟨x_1, rfl, h6⟩ := ZaI h5
 obtain ⟨_, hob0, h7⟩ := Zc2 h6
 obtain ⟨_, _, rfl, h8⟩ := ZbR h7
 obtain ⟨rfl, h9⟩ := Zaw h8
 obtain ⟨_, rfl, h10⟩ := Zau h9
 obtain ⟨e_2, f_3, x_4, x_5, rfl, h11⟩ := Zbn h10
 obtain ⟨hdist, h12⟩ := Zab h11
 obtain ⟨hin, h13⟩ := Zab h12
 refine ZbN (fn := Tryd.f49) (c := ZA8) (os := [o0]) (rl := rl) (bi := [true]) (s0 := [some ⟨[.agg [.list 1 e_2 f_3, .int .i64 x_4, .int .u64 x_5]], 3, 49, 0⟩]) (as0 := [.ptr 0 0 0 0, .int .i64 x_1]) hC hΦ Tryd.func49 (by kernel_rfl) (by kernel_rfl) (Zag (Λ := Zac) (by kernel_rfl)) rfl hdist ⟨⟨_, rfl, hob0⟩, trivial⟩ hin rfl rfl ?_
 refine (ZAZ N _ _ _ _ _ _).trans ?_
 rw [← Zgp]
 exact h13
def ZyW (N : Nat) : (R : Type) → List V → S → (V → S → Option R) → Option R := fun _ vs s K =>
 Zej vs fun v'1 v'2 => ZkK v'1 fun o0 k'4 k'5 k'6 => isN k'4 0 <| isN k'5 0 <| isN k'6 0 <| asInt .i64 v'2 fun x_1 => ZuF s o0 0 fun o'7 => ZnR o'7 3 49 fun e'8 k'9 => isN k'9 0 <| Zde e'8 fun v'10 => ZbB v'10 fun e_2 f_3 x_4 x_5 => Zak (Zbf [o0]) <| Zak (okI 1 [true] [some ⟨[.agg [.list 1 e_2 f_3, .int .i64 x_4, .int .u64 x_5]], 3, 49, 0⟩]) <| ZrD N x_1 e_2 f_3 x_4 x_5 (fun b_901 e_902 f_903 x_904 x_905 => FK s [o0] rl K (.bool b_901) [some ⟨[.agg [.list 1 e_902 f_903, .int .i64 x_904, .int .u64 x_905]], 3, 49, 0⟩])
def Zvk (N : Nat) : Zao := (Zun N).add 51 (ZyW N)
def ZAL : Code := ZaE Tryd.f51
theorem ZBg {R : Type} (N : Nat) (x_1 : Int) (e_2 : List V) (f_3 : Fl) (x_4 x_5 : Int) (K : V → S → Option R) : ZaV C (Zun N) (Zac) 51 Tryd.f51 [.ptr 0 0 0 0, .int .i64 x_1] [some ⟨[.agg [.list 1 e_2 f_3, .int .i64 x_4, .int .u64 x_5]], 3, 49, 0⟩] (GK rl 1 K) =
 Zly N x_1 e_2 f_3 x_4 x_5 (fun b_901 e_902 f_903 x_904 x_905 => K (.bool b_901) [some ⟨[.agg [.list 1 e_902 f_903, .int .i64 x_904, .int .u64 x_905]], 3, 49, 0⟩]) := by kernel_rfl
theorem ZpU (hC : Ok Tryd.prog C) {N : Nat} (hΦ : Zaa Tryd.prog C (Zun N)) : Zaa Tryd.prog C (Zvk N) := by
 refine hΦ.add_shared rfl fun R vs s K r h => ?_
 unfold ZyW at h
 obtain ⟨_, _, rfl, h1⟩ := ZaG h
 obtain ⟨o0, _, _, _, rfl, h2⟩ := ZcY h1
 obtain ⟨rfl, h3⟩ := Zaw h2
 obtain ⟨rfl, h4⟩ := Zaw h3
 obtain ⟨rfl, h5⟩ := Zaw h4
 obtain ⟨x_1, rfl, h6⟩ := ZaI h5
 obtain ⟨_, hob0, h7⟩ := Zc2 h6
 obtain ⟨_, _, rfl, h8⟩ := ZbR h7
 obtain ⟨rfl, h9⟩ := Zaw h8
 obtain ⟨_, rfl, h10⟩ := Zau h9
 obtain ⟨e_2, f_3, x_4, x_5, rfl, h11⟩ := Zbn h10
 obtain ⟨hdist, h12⟩ := Zab h11
 obtain ⟨hin, h13⟩ := Zab h12
 refine ZbN (fn := Tryd.f51) (c := ZAL) (os := [o0]) (rl := rl) (bi := [true]) (s0 := [some ⟨[.agg [.list 1 e_2 f_3, .int .i64 x_4, .int .u64 x_5]], 3, 49, 0⟩]) (as0 := [.ptr 0 0 0 0, .int .i64 x_1]) hC hΦ Tryd.func51 (by kernel_rfl) (by kernel_rfl) (Zag (Λ := Zac) (by kernel_rfl)) rfl hdist ⟨⟨_, rfl, hob0⟩, trivial⟩ hin rfl rfl ?_
 refine (ZBg N _ _ _ _ _ _).trans ?_
 rw [← Znz]
 exact h13
def Zzc (N : Nat) : (R : Type) → List V → S → (V → S → Option R) → Option R := fun _ vs s K =>
 Zej vs fun v'1 v'2 => ZkK v'1 fun o0 k'4 k'5 k'6 => isN k'4 0 <| isN k'5 0 <| isN k'6 0 <| Zbq 1 v'2 fun e_1 f_2 => ZuF s o0 0 fun o'7 => ZnR o'7 3 49 fun e'8 k'9 => isN k'9 0 <| Zde e'8 fun v'10 => ZbB v'10 fun e_3 f_4 x_5 x_6 => Zak (Zbf [o0]) <| Zak (okI 1 [true] [some ⟨[.agg [.list 1 e_3 f_4, .int .i64 x_5, .int .u64 x_6]], 3, 49, 0⟩]) <| ZlX N e_1 f_2 e_3 f_4 x_5 x_6 (fun w_901 e_902 f_903 x_904 x_905 => FK s [o0] rl K (.str w_901) [some ⟨[.agg [.list 1 e_902 f_903, .int .i64 x_904, .int .u64 x_905]], 3, 49, 0⟩])
def ZmT (N : Nat) : Zao := (Zvk N).add 52 (Zzc N)
def Zz0 : Code := ZaE Tryd.f52
theorem ZAA {R : Type} (N : Nat) (e_1 : List V) (f_2 : Fl) (e_3 : List V) (f_4 : Fl) (x_5 x_6 : Int) (K : V → S → Option R) : ZaV C (Zvk N) (Zac) 52 Tryd.f52 [.ptr 0 0 0 0, .list 1 e_1 f_2] [some ⟨[.agg [.list 1 e_3 f_4, .int .i64 x_5, .int .u64 x_6]], 3, 49, 0⟩] (GK rl 1 K) =
 Zkp N e_1 f_2 e_3 f_4 x_5 x_6 (fun w_901 e_902 f_903 x_904 x_905 => K (.str w_901) [some ⟨[.agg [.list 1 e_902 f_903, .int .i64 x_904, .int .u64 x_905]], 3, 49, 0⟩]) := by kernel_rfl
theorem Zqd (hC : Ok Tryd.prog C) {N : Nat} (hΦ : Zaa Tryd.prog C (Zvk N)) : Zaa Tryd.prog C (ZmT N) := by
 refine hΦ.add_shared rfl fun R vs s K r h => ?_
 unfold Zzc at h
 obtain ⟨_, _, rfl, h1⟩ := ZaG h
 obtain ⟨o0, _, _, _, rfl, h2⟩ := ZcY h1
 obtain ⟨rfl, h3⟩ := Zaw h2
 obtain ⟨rfl, h4⟩ := Zaw h3
 obtain ⟨rfl, h5⟩ := Zaw h4
 obtain ⟨e_1, f_2, rfl, h6⟩ := Zat h5
 obtain ⟨_, hob0, h7⟩ := Zc2 h6
 obtain ⟨_, _, rfl, h8⟩ := ZbR h7
 obtain ⟨rfl, h9⟩ := Zaw h8
 obtain ⟨_, rfl, h10⟩ := Zau h9
 obtain ⟨e_3, f_4, x_5, x_6, rfl, h11⟩ := Zbn h10
 obtain ⟨hdist, h12⟩ := Zab h11
 obtain ⟨hin, h13⟩ := Zab h12
 refine ZbN (fn := Tryd.f52) (c := Zz0) (os := [o0]) (rl := rl) (bi := [true]) (s0 := [some ⟨[.agg [.list 1 e_3 f_4, .int .i64 x_5, .int .u64 x_6]], 3, 49, 0⟩]) (as0 := [.ptr 0 0 0 0, .list 1 e_1 f_2]) hC hΦ Tryd.func52 (by kernel_rfl) (by kernel_rfl) (Zag (Λ := Zac) (by kernel_rfl)) rfl hdist ⟨⟨_, rfl, hob0⟩, trivial⟩ hin rfl rfl ?_
 refine (ZAA N _ _ _ _ _ _ _).trans ?_
 rw [← Zpe]
 exact h13
def Zyy (N : Nat) : (R : Type) → List V → S → (V → S → Option R) → Option R := fun _ vs s K =>
 Zwa vs fun v'1 v'2 v'3 => ZkK v'1 fun o0 k'5 k'6 k'7 => isN k'5 0 <| isN k'6 0 <| isN k'7 0 <| ZaQ v'2 fun w_1 => ZaQ v'3 fun w_2 => ZuF s o0 0 fun o'8 => ZnR o'8 3 49 fun e'9 k'10 => isN k'10 0 <| Zde e'9 fun v'11 => ZbB v'11 fun e_3 f_4 x_5 x_6 => Zak (Zbf [o0]) <| Zak (okI 1 [true] [some ⟨[.agg [.list 1 e_3 f_4, .int .i64 x_5, .int .u64 x_6]], 3, 49, 0⟩]) <| Zt2 N w_1 w_2 e_3 f_4 x_5 x_6 (fun w_901 e_902 f_903 x_904 x_905 => FK s [o0] rl K (.str w_901) [some ⟨[.agg [.list 1 e_902 f_903, .int .i64 x_904, .int .u64 x_905]], 3, 49, 0⟩])
def Zm7 (N : Nat) : Zao := (ZmT N).add 78 (Zyy N)
def ZrM : Code := ZaE Tryd.f78
def ZmI : Code := (Zcp ZrM [] 0).2
def Zjg : List Nat := Zd3 68 [0, 1, 2, 7]
def Zpr : List Nat := Zd3 68 [1]
def ZgH (w_2 w_1 : ByteArray) (x_3 : Int) (e_4 : List V) (f_5 : Fl) (x_6 x_7 : Int) : List V := mkF 0 68 [(0, .ptr 0 0 0 0), (1, .str w_1), (2, .str w_2), (7, .int .i64 x_3)]
def ZeV {R : Type} (K : X → List V → S → Option R) (w_2 : ByteArray) : ByteArray → List V → Fl → Int → Int → Option R := (fun w_1' e_2' f_3' x_4' x_5' => K (.exit 0) (mkF 0 68 [(1, .str (w_1'))]) [some ⟨[.agg [.list 1 (e_2') (f_3'), .int .i64 (x_4'), .int .u64 (x_5')]], 3, 49, 0⟩])
abbrev Zjd {R : Type} (N : Nat) : Nat → List V → S → (X → List V → S → Option R) → Option R := fun n => ZhA C (ZmT N) (Zac) ZmI [0, 1, 0, 1] false Zjg Zpr n R
theorem Zw1 {R : Type} (N n : Nat) (w_2 : ByteArray) (w_1 : ByteArray) (x_3 : Int) (e_4 : List V) (f_5 : Fl) (x_6 x_7 : Int) (K : X → List V → S → Option R) :
 Zjd N (n + 1) (ZgH w_2 w_1 x_3 e_4 f_5 x_6 x_7) [some ⟨[.agg [.list 1 e_4 f_5, .int .i64 x_6, .int .u64 x_7]], 3, 49, 0⟩] K =
 Zb4 N w_2 (fun w_1 x_3 e_4 f_5 x_6 x_7 => Zjd N n (ZgH w_2 w_1 x_3 e_4 f_5 x_6 x_7) [some ⟨[.agg [.list 1 e_4 f_5, .int .i64 x_6, .int .u64 x_7]], 3, 49, 0⟩] K) w_1 x_3 e_4 f_5 x_6 x_7 (ZeV K w_2) := by kernel_rfl
theorem Ztp {R : Type} (N : Nat) (w_2 : ByteArray) (K : X → List V → S → Option R) : ∀ (n : Nat) (w_1 : ByteArray) (x_3 : Int) (e_4 : List V) (f_5 : Fl) (x_6 x_7 : Int),
 Zjd N n (ZgH w_2 w_1 x_3 e_4 f_5 x_6 x_7) [some ⟨[.agg [.list 1 e_4 f_5, .int .i64 x_6, .int .u64 x_7]], 3, 49, 0⟩] K = ZcP N w_2 (ZeV K w_2) n w_1 x_3 e_4 f_5 x_6 x_7
 | 0, _, _, _, _, _, _ => rfl
 | n + 1, w_1, x_3, e_4, f_5, x_6, x_7 => (Zw1 N n w_2 w_1 x_3 e_4 f_5 x_6 x_7 K).trans (congrArg (fun nx => Zb4 N w_2 nx w_1 x_3 e_4 f_5 x_6 x_7 (ZeV K w_2)) (funext fun w_1 => funext fun x_3 => funext fun e_4 => funext fun f_5 => funext fun x_6 => funext fun x_7 => Ztp N w_2 K n w_1 x_3 e_4 f_5 x_6 x_7))
def ZlI {R : Type} (E : List V) (s : S) (k : ByteArray → ByteArray → Int → List V → Fl → Int → Int → Option R) : Option R :=
 Zak (ZbO 68 [0, 1, 2, 7] E) <| ZAn E 0 (.ptr 0 0 0 0) <| ZfC E 1 fun w_1 => ZfC E 2 fun w_2 => Zca E 7 .i64 fun x_3 => ZuA s fun o'1 s'2 => ZnR o'1 3 49 fun e'3 k'4 => isN k'4 0 <| Zde e'3 fun v'5 => asAgg v'5 fun c'6 => Zwa c'6 fun v'7 v'8 v'9 => Zbq 1 v'7 fun e_4 f_5 => asInt .i64 v'8 fun x_6 => asInt .u64 v'9 fun x_7 => ZaR s'2 <| k w_1 w_2 x_3 e_4 f_5 x_6 x_7
theorem ZkN {R : Type} {E : List V} {s : S} {k : ByteArray → ByteArray → Int → List V → Fl → Int → Int → Option R} {r : R} (h : ZlI E s k = some r) : ∃ w_1 w_2 x_3 e_4 f_5 x_6 x_7, E = ZgH w_2 w_1 x_3 e_4 f_5 x_6 x_7 ∧ s = [some ⟨[.agg [.list 1 e_4 f_5, .int .i64 x_6, .int .u64 x_7]], 3, 49, 0⟩] ∧ k w_1 w_2 x_3 e_4 f_5 x_6 x_7 = some r := by
 unfold ZlI at h
 obtain ⟨hg, h1⟩ := Zab h
 obtain ⟨hu0, h2⟩ := ZjD h1
 obtain ⟨_, hu1, h3⟩ := Zbt h2
 obtain ⟨_, hu2, h4⟩ := Zbt h3
 obtain ⟨_, hu7, h5⟩ := Zax h4
 obtain ⟨_, _, rfl, h6⟩ := Zc7 h5
 obtain ⟨_, _, rfl, h7⟩ := ZbR h6
 obtain ⟨rfl, h8⟩ := Zaw h7
 obtain ⟨_, rfl, h9⟩ := Zau h8
 obtain ⟨_, rfl, h10⟩ := Zcz h9
 obtain ⟨_, _, _, rfl, h11⟩ := Zd2 h10
 obtain ⟨_, _, rfl, h12⟩ := Zat h11
 obtain ⟨_, rfl, h13⟩ := ZaI h12
 obtain ⟨_, rfl, h14⟩ := ZaI h13
 obtain ⟨rfl, h15⟩ := Zaf h14
 exact ⟨_, _, _, _, _, _, _, Zbz hg rfl (Zai hu0 (Zai hu1 (Zai hu2 (Zai hu7 Zbm)))), rfl, h15⟩
def Zl8 (N : Nat) : ZaL := (Zac).add [0, 1, 0, 1] fun _ E s K => ZlI (Zbk Zjg E) s fun w_1 w_2 x_3 e_4 f_5 x_6 x_7 => ZcP N w_2 (ZeV K w_2) N w_1 x_3 e_4 f_5 x_6 x_7
theorem ZuY {N : Nat} (hC : Ok Tryd.prog C) (hΦ : Zaa Tryd.prog C (ZmT N)) : Zb0 Tryd.prog C (Zl8 N) ZmI [0, 1, 0, 1] :=
 Zb8 (Λi := Zac) (tr := false) (ks := Zjg) (kx := Zpr) (N := N) hC hΦ
  (Zag (by kernel_rfl))
  fun R E s K r h => by
   have h2 := ZaL.add_self.symm.trans h
   obtain ⟨_, _, _, _, _, _, _, he, rfl, h3⟩ := ZkN h2
   rw [he]
   exact (Ztp N _ _ N _ _ _ _ _ _).trans h3
theorem Zyq : Zbh ZrM [] = [([0, 1, 0, 1], ZmI)] := by kernel_rfl
theorem Zz4 {R : Type} (N : Nat) (w_1 w_2 : ByteArray) (e_3 : List V) (f_4 : Fl) (x_5 x_6 : Int) (K : V → S → Option R) : ZaV C (ZmT N) (Zl8 N) 78 Tryd.f78 [.ptr 0 0 0 0, .str w_1, .str w_2] [some ⟨[.agg [.list 1 e_3 f_4, .int .i64 x_5, .int .u64 x_6]], 3, 49, 0⟩] (GK rl 1 K) =
 ZjV N w_1 w_2 e_3 f_4 x_5 x_6 (fun w_901 e_902 f_903 x_904 x_905 => K (.str w_901) [some ⟨[.agg [.list 1 e_902 f_903, .int .i64 x_904, .int .u64 x_905]], 3, 49, 0⟩]) := by kernel_rfl
theorem Ztd {N : Nat} (hC : Ok Tryd.prog C) (hΦ : Zaa Tryd.prog C (ZmT N)) : Za4 Tryd.prog C (Zl8 N) ZrM [] :=
 Za5 ZrM [] (by
  rw [Zyq]
  intro p hp
  simp only [List.mem_cons, List.mem_nil_iff, or_false] at hp
  rcases hp with rfl
  ·exact (ZuY hC hΦ))
theorem ZqF (hC : Ok Tryd.prog C) {N : Nat} (hΦ : Zaa Tryd.prog C (ZmT N)) : Zaa Tryd.prog C (Zm7 N) := by
 refine hΦ.add_shared rfl fun R vs s K r h => ?_
 unfold Zyy at h
 obtain ⟨_, _, _, rfl, h1⟩ := Zd2 h
 obtain ⟨o0, _, _, _, rfl, h2⟩ := ZcY h1
 obtain ⟨rfl, h3⟩ := Zaw h2
 obtain ⟨rfl, h4⟩ := Zaw h3
 obtain ⟨rfl, h5⟩ := Zaw h4
 obtain ⟨w_1, rfl, h6⟩ := Zaj h5
 obtain ⟨w_2, rfl, h7⟩ := Zaj h6
 obtain ⟨_, hob0, h8⟩ := Zc2 h7
 obtain ⟨_, _, rfl, h9⟩ := ZbR h8
 obtain ⟨rfl, h10⟩ := Zaw h9
 obtain ⟨_, rfl, h11⟩ := Zau h10
 obtain ⟨e_3, f_4, x_5, x_6, rfl, h12⟩ := Zbn h11
 obtain ⟨hdist, h13⟩ := Zab h12
 obtain ⟨hin, h14⟩ := Zab h13
 refine ZbN (fn := Tryd.f78) (c := ZrM) (os := [o0]) (rl := rl) (bi := [true]) (s0 := [some ⟨[.agg [.list 1 e_3 f_4, .int .i64 x_5, .int .u64 x_6]], 3, 49, 0⟩]) (as0 := [.ptr 0 0 0 0, .str w_1, .str w_2]) hC hΦ Tryd.func78 (by kernel_rfl) (by kernel_rfl) (Ztd (N := N) hC hΦ) rfl hdist ⟨⟨_, rfl, hob0⟩, trivial⟩ hin rfl rfl ?_
 refine (Zz4 N _ _ _ _ _ _ _).trans ?_
 rw [← ZnB]
 exact h14
def Zy4 (N : Nat) : (R : Type) → List V → S → (V → S → Option R) → Option R := fun _ vs s K =>
 Zde vs fun v'1 => ZkK v'1 fun o0 k'3 k'4 k'5 => isN k'3 0 <| isN k'4 0 <| isN k'5 0 <| ZuF s o0 0 fun o'6 => ZnR o'6 3 49 fun e'7 k'8 => isN k'8 0 <| Zde e'7 fun v'9 => ZbB v'9 fun e_1 f_2 x_3 x_4 => Zak (Zbf [o0]) <| Zak (okI 1 [true] [some ⟨[.agg [.list 1 e_1 f_2, .int .i64 x_3, .int .u64 x_4]], 3, 49, 0⟩]) <| Zhz N e_1 f_2 x_3 x_4 (fun w_901 e_902 f_903 x_904 x_905 => FK s [o0] rl K (.str w_901) [some ⟨[.agg [.list 1 e_902 f_903, .int .i64 x_904, .int .u64 x_905]], 3, 49, 0⟩])
def ZuQ (N : Nat) : Zao := (Zm7 N).add 62 (Zy4 N)
def Zr5 : Code := ZaE Tryd.f62
def Zmc : Code := (Zcp Zr5 [] 0).2
def Ziz : List Nat := Zd3 34 [0, 3, 4]
def ZoA : List Nat := Zd3 34 [0, 3]
def Zgr (w_1 : ByteArray) (x_2 : Int) (e_3 : List V) (f_4 : Fl) (x_5 x_6 : Int) : List V := mkF 0 34 [(0, .ptr 0 0 0 0), (3, .str w_1), (4, .int .i64 x_2)]
def Zfr {R : Type} (K : X → List V → S → Option R) : ByteArray → List V → Fl → Int → Int → Option R := (fun w_1' e_2' f_3' x_4' x_5' => K (.exit 0) (mkF 0 34 [(0, .ptr 0 0 0 0), (3, .str (w_1'))]) [some ⟨[.agg [.list 1 (e_2') (f_3'), .int .i64 (x_4'), .int .u64 (x_5')]], 3, 49, 0⟩])
abbrev Zi9 {R : Type} (N : Nat) : Nat → List V → S → (X → List V → S → Option R) → Option R := fun n => ZhA C (Zm7 N) (Zac) Zmc [0, 1, 0, 1, 1] false Ziz ZoA n R
theorem ZwX {R : Type} (N n : Nat) (w_1 : ByteArray) (x_2 : Int) (e_3 : List V) (f_4 : Fl) (x_5 x_6 : Int) (K : X → List V → S → Option R) :
 Zi9 N (n + 1) (Zgr w_1 x_2 e_3 f_4 x_5 x_6) [some ⟨[.agg [.list 1 e_3 f_4, .int .i64 x_5, .int .u64 x_6]], 3, 49, 0⟩] K =
 Zdf N (fun w_1 x_2 e_3 f_4 x_5 x_6 => Zi9 N n (Zgr w_1 x_2 e_3 f_4 x_5 x_6) [some ⟨[.agg [.list 1 e_3 f_4, .int .i64 x_5, .int .u64 x_6]], 3, 49, 0⟩] K) w_1 x_2 e_3 f_4 x_5 x_6 (Zfr K) := by kernel_rfl
theorem Zr8 {R : Type} (N : Nat) (K : X → List V → S → Option R) : ∀ (n : Nat) (w_1 : ByteArray) (x_2 : Int) (e_3 : List V) (f_4 : Fl) (x_5 x_6 : Int),
 Zi9 N n (Zgr w_1 x_2 e_3 f_4 x_5 x_6) [some ⟨[.agg [.list 1 e_3 f_4, .int .i64 x_5, .int .u64 x_6]], 3, 49, 0⟩] K = ZfP N (Zfr K) n w_1 x_2 e_3 f_4 x_5 x_6
 | 0, _, _, _, _, _, _ => rfl
 | n + 1, w_1, x_2, e_3, f_4, x_5, x_6 => (ZwX N n w_1 x_2 e_3 f_4 x_5 x_6 K).trans (congrArg (fun nx => Zdf N nx w_1 x_2 e_3 f_4 x_5 x_6 (Zfr K)) (funext fun w_1 => funext fun x_2 => funext fun e_3 => funext fun f_4 => funext fun x_5 => funext fun x_6 => Zr8 N K n w_1 x_2 e_3 f_4 x_5 x_6))
def Znd {R : Type} (E : List V) (s : S) (k : ByteArray → Int → List V → Fl → Int → Int → Option R) : Option R :=
 Zak (ZbO 34 [0, 3, 4] E) <| ZAn E 0 (.ptr 0 0 0 0) <| ZfC E 3 fun w_1 => Zca E 4 .i64 fun x_2 => ZuA s fun o'1 s'2 => ZnR o'1 3 49 fun e'3 k'4 => isN k'4 0 <| Zde e'3 fun v'5 => asAgg v'5 fun c'6 => Zwa c'6 fun v'7 v'8 v'9 => Zbq 1 v'7 fun e_3 f_4 => asInt .i64 v'8 fun x_5 => asInt .u64 v'9 fun x_6 => ZaR s'2 <| k w_1 x_2 e_3 f_4 x_5 x_6
theorem Zjn {R : Type} {E : List V} {s : S} {k : ByteArray → Int → List V → Fl → Int → Int → Option R} {r : R} (h : Znd E s k = some r) : ∃ w_1 x_2 e_3 f_4 x_5 x_6, E = Zgr w_1 x_2 e_3 f_4 x_5 x_6 ∧ s = [some ⟨[.agg [.list 1 e_3 f_4, .int .i64 x_5, .int .u64 x_6]], 3, 49, 0⟩] ∧ k w_1 x_2 e_3 f_4 x_5 x_6 = some r := by
 unfold Znd at h
 obtain ⟨hg, h1⟩ := Zab h
 obtain ⟨hu0, h2⟩ := ZjD h1
 obtain ⟨_, hu3, h3⟩ := Zbt h2
 obtain ⟨_, hu4, h4⟩ := Zax h3
 obtain ⟨_, _, rfl, h5⟩ := Zc7 h4
 obtain ⟨_, _, rfl, h6⟩ := ZbR h5
 obtain ⟨rfl, h7⟩ := Zaw h6
 obtain ⟨_, rfl, h8⟩ := Zau h7
 obtain ⟨_, rfl, h9⟩ := Zcz h8
 obtain ⟨_, _, _, rfl, h10⟩ := Zd2 h9
 obtain ⟨_, _, rfl, h11⟩ := Zat h10
 obtain ⟨_, rfl, h12⟩ := ZaI h11
 obtain ⟨_, rfl, h13⟩ := ZaI h12
 obtain ⟨rfl, h14⟩ := Zaf h13
 exact ⟨_, _, _, _, _, _, Zbz hg rfl (Zai hu0 (Zai hu3 (Zai hu4 Zbm))), rfl, h14⟩
def ZlK (N : Nat) : ZaL := (Zac).add [0, 1, 0, 1, 1] fun _ E s K => Znd (Zbk Ziz E) s fun w_1 x_2 e_3 f_4 x_5 x_6 => ZfP N (Zfr K) N w_1 x_2 e_3 f_4 x_5 x_6
theorem ZuR {N : Nat} (hC : Ok Tryd.prog C) (hΦ : Zaa Tryd.prog C (Zm7 N)) : Zb0 Tryd.prog C (ZlK N) Zmc [0, 1, 0, 1, 1] :=
 Zb8 (Λi := Zac) (tr := false) (ks := Ziz) (kx := ZoA) (N := N) hC hΦ
  (Zag (by kernel_rfl))
  fun R E s K r h => by
   have h2 := ZaL.add_self.symm.trans h
   obtain ⟨_, _, _, _, _, _, he, rfl, h3⟩ := Zjn h2
   rw [he]
   exact (Zr8 N _ N _ _ _ _ _ _).trans h3
theorem Zxp : Zbh Zr5 [] = [([0, 1, 0, 1, 1], Zmc)] := by kernel_rfl
theorem ZzW {R : Type} (N : Nat) (e_1 : List V) (f_2 : Fl) (x_3 x_4 : Int) (K : V → S → Option R) : ZaV C (Zm7 N) (ZlK N) 62 Tryd.f62 [.ptr 0 0 0 0] [some ⟨[.agg [.list 1 e_1 f_2, .int .i64 x_3, .int .u64 x_4]], 3, 49, 0⟩] (GK rl 1 K) =
 Zkv N e_1 f_2 x_3 x_4 (fun w_901 e_902 f_903 x_904 x_905 => K (.str w_901) [some ⟨[.agg [.list 1 e_902 f_903, .int .i64 x_904, .int .u64 x_905]], 3, 49, 0⟩]) := by kernel_rfl
theorem Zs0 {N : Nat} (hC : Ok Tryd.prog C) (hΦ : Zaa Tryd.prog C (Zm7 N)) : Za4 Tryd.prog C (ZlK N) Zr5 [] :=
 Za5 Zr5 [] (by
  rw [Zxp]
  intro p hp
  simp only [List.mem_cons, List.mem_nil_iff, or_false] at hp
  rcases hp with rfl
  ·exact (ZuR hC hΦ))
theorem Zqw (hC : Ok Tryd.prog C) {N : Nat} (hΦ : Zaa Tryd.prog C (Zm7 N)) : Zaa Tryd.prog C (ZuQ N) := by
 refine hΦ.add_shared rfl fun R vs s K r h => ?_
 unfold Zy4 at h
 obtain ⟨_, rfl, h1⟩ := Zau h
 obtain ⟨o0, _, _, _, rfl, h2⟩ := ZcY h1
 obtain ⟨rfl, h3⟩ := Zaw h2
 obtain ⟨rfl, h4⟩ := Zaw h3
 obtain ⟨rfl, h5⟩ := Zaw h4
 obtain ⟨_, hob0, h6⟩ := Zc2 h5
 obtain ⟨_, _, rfl, h7⟩ := ZbR h6
 obtain ⟨rfl, h8⟩ := Zaw h7
 obtain ⟨_, rfl, h9⟩ := Zau h8
 obtain ⟨e_1, f_2, x_3, x_4, rfl, h10⟩ := Zbn h9
 obtain ⟨hdist, h11⟩ := Zab h10
 obtain ⟨hin, h12⟩ := Zab h11
 refine ZbN (fn := Tryd.f62) (c := Zr5) (os := [o0]) (rl := rl) (bi := [true]) (s0 := [some ⟨[.agg [.list 1 e_1 f_2, .int .i64 x_3, .int .u64 x_4]], 3, 49, 0⟩]) (as0 := [.ptr 0 0 0 0]) hC hΦ Tryd.func62 (by kernel_rfl) (by kernel_rfl) (Zs0 (N := N) hC hΦ) rfl hdist ⟨⟨_, rfl, hob0⟩, trivial⟩ hin rfl rfl ?_
 refine (ZzW N _ _ _ _ _).trans ?_
 rw [← Zpb]
 exact h12
def Zy2 (N : Nat) : (R : Type) → List V → S → (V → S → Option R) → Option R := fun _ vs s K =>
 Zde vs fun v'1 => Zbq 1 v'1 fun e_1 f_2 => ZaR s <| Zwd N e_1 f_2 (fun w_3 w_4 => K (.tuple [.str w_3, .str w_4]) [])
def Zud (N : Nat) : Zao := (ZuQ N).add 56 (Zy2 N)
def ZAh : Code := ZaE Tryd.f56
theorem ZzH {R : Type} (N : Nat) (e_1 : List V) (f_2 : Fl) (K : V → S → Option R) : ZaV C (ZuQ N) (Zac) 56 Tryd.f56 [.list 1 e_1 f_2] [] K =
 ZkV N e_1 f_2 (fun w_3 w_4 => K (.tuple [.str w_3, .str w_4]) []) := by kernel_rfl
theorem Zqe (hC : Ok Tryd.prog C) {N : Nat} (hΦ : Zaa Tryd.prog C (ZuQ N)) : Zaa Tryd.prog C (Zud N) := by
 refine hΦ.add_pure rfl fun R vs K r h => ?_
 unfold Zy2 at h
 obtain ⟨_, rfl, h1⟩ := Zau h
 obtain ⟨_, _, rfl, h2⟩ := Zat h1
 obtain ⟨_, h3⟩ := Zaf h2
 refine Zap (fn := Tryd.f56) (c := ZAh) hC hΦ Tryd.func56 (by kernel_rfl) (by kernel_rfl) (Zag (Λ := Zac) (by kernel_rfl)) rfl rfl ?_
 refine (ZzH N _ _ _).trans ?_
 rw [← ZnZ]
 exact h3
def ZxD (N : Nat) : (R : Type) → List V → S → (V → S → Option R) → Option R := fun _ vs s K =>
 Zde vs fun v'1 => Zbq 1 v'1 fun e_1 f_2 => ZaR s <| ZsY N e_1 f_2 (fun w_3 w_4 => K (.tuple [.str w_3, .str w_4]) [])
def ZvW (N : Nat) : Zao := (Zud N).add 26 (ZxD N)
def ZzJ : Code := ZaE Tryd.f26
theorem Zzx {R : Type} (N : Nat) (e_1 : List V) (f_2 : Fl) (K : V → S → Option R) : ZaV C (Zud N) (Zac) 26 Tryd.f26 [.list 1 e_1 f_2] [] K =
 Zk4 N e_1 f_2 (fun w_3 w_4 => K (.tuple [.str w_3, .str w_4]) []) := by kernel_rfl
theorem Zqk (hC : Ok Tryd.prog C) {N : Nat} (hΦ : Zaa Tryd.prog C (Zud N)) : Zaa Tryd.prog C (ZvW N) := by
 refine hΦ.add_pure rfl fun R vs K r h => ?_
 unfold ZxD at h
 obtain ⟨_, rfl, h1⟩ := Zau h
 obtain ⟨_, _, rfl, h2⟩ := Zat h1
 obtain ⟨_, h3⟩ := Zaf h2
 refine Zap (fn := Tryd.f26) (c := ZzJ) hC hΦ Tryd.func26 (by kernel_rfl) (by kernel_rfl) (Zag (Λ := Zac) (by kernel_rfl)) rfl rfl ?_
 refine (Zzx N _ _ _).trans ?_
 rw [← Zol]
 exact h3
def ZyT (N : Nat) : (R : Type) → List V → S → (V → S → Option R) → Option R := fun _ vs s K =>
 Zde vs fun v'1 => ZaQ v'1 fun w_1 => ZaR s <| ZlQ N w_1 (fun b_2 => K (.bool b_2) [])
def ZvK (N : Nat) : Zao := (ZvW N).add 57 (ZyT N)
def ZAi : Code := ZaE Tryd.f57
theorem Zzw {R : Type} (N : Nat) (w_1 : ByteArray) (K : V → S → Option R) : ZaV C (ZvW N) (Zac) 57 Tryd.f57 [.str w_1] [] K =
 Zjw N w_1 (fun b_2 => K (.bool b_2) []) := by kernel_rfl
theorem ZqB (hC : Ok Tryd.prog C) {N : Nat} (hΦ : Zaa Tryd.prog C (ZvW N)) : Zaa Tryd.prog C (ZvK N) := by
 refine hΦ.add_pure rfl fun R vs K r h => ?_
 unfold ZyT at h
 obtain ⟨_, rfl, h1⟩ := Zau h
 obtain ⟨_, rfl, h2⟩ := Zaj h1
 obtain ⟨_, h3⟩ := Zaf h2
 refine Zap (fn := Tryd.f57) (c := ZAi) hC hΦ Tryd.func57 (by kernel_rfl) (by kernel_rfl) (Zag (Λ := Zac) (by kernel_rfl)) rfl rfl ?_
 refine (Zzw N _ _).trans ?_
 rw [← ZnV]
 exact h3
def Zye (N : Nat) : (R : Type) → List V → S → (V → S → Option R) → Option R := fun _ vs s K =>
 Zej vs fun v'1 v'2 => ZaQ v'1 fun w_1 => ZaQ v'2 fun w_2 => ZaR s <| Zwf N w_1 w_2 (fun b_3 => K (.bool b_3) [])
def Zuo (N : Nat) : Zao := (ZvK N).add 85 (Zye N)
def ZzE : Code := ZaE Tryd.f85
theorem ZBq {R : Type} (N : Nat) (w_1 w_2 : ByteArray) (K : V → S → Option R) : ZaV C (ZvK N) (Zac) 85 Tryd.f85 [.str w_1, .str w_2] [] K =
 Zjo N w_1 w_2 (fun b_3 => K (.bool b_3) []) := by kernel_rfl
theorem ZpT (hC : Ok Tryd.prog C) {N : Nat} (hΦ : Zaa Tryd.prog C (ZvK N)) : Zaa Tryd.prog C (Zuo N) := by
 refine hΦ.add_pure rfl fun R vs K r h => ?_
 unfold Zye at h
 obtain ⟨_, _, rfl, h1⟩ := ZaG h
 obtain ⟨_, rfl, h2⟩ := Zaj h1
 obtain ⟨_, rfl, h3⟩ := Zaj h2
 obtain ⟨_, h4⟩ := Zaf h3
 refine Zap (fn := Tryd.f85) (c := ZzE) hC hΦ Tryd.func85 (by kernel_rfl) (by kernel_rfl) (Zag (Λ := Zac) (by kernel_rfl)) rfl rfl ?_
 refine (ZBq N _ _ _).trans ?_
 rw [← Zn0]
 exact h4
def Zyp (N : Nat) : (R : Type) → List V → S → (V → S → Option R) → Option R := fun _ vs s K =>
 Zej vs fun v'1 v'2 => ZaQ v'1 fun w_1 => ZaQ v'2 fun w_2 => ZaR s <| Zw4 N w_1 w_2 (fun w_3 b_4 => K (.tuple [.str w_3, .bool b_4]) [])
def ZtM (N : Nat) : Zao := (Zuo N).add 77 (Zyp N)
def ZzN : Code := ZaE Tryd.f77
theorem Zzp {R : Type} (N : Nat) (w_1 w_2 : ByteArray) (K : V → S → Option R) : ZaV C (Zuo N) (Zac) 77 Tryd.f77 [.str w_1, .str w_2] [] K =
 ZkY N w_1 w_2 (fun w_3 b_4 => K (.tuple [.str w_3, .bool b_4]) []) := by kernel_rfl
theorem ZpJ (hC : Ok Tryd.prog C) {N : Nat} (hΦ : Zaa Tryd.prog C (Zuo N)) : Zaa Tryd.prog C (ZtM N) := by
 refine hΦ.add_pure rfl fun R vs K r h => ?_
 unfold Zyp at h
 obtain ⟨_, _, rfl, h1⟩ := ZaG h
 obtain ⟨_, rfl, h2⟩ := Zaj h1
 obtain ⟨_, rfl, h3⟩ := Zaj h2
 obtain ⟨_, h4⟩ := Zaf h3
 refine Zap (fn := Tryd.f77) (c := ZzN) hC hΦ Tryd.func77 (by kernel_rfl) (by kernel_rfl) (Zag (Λ := Zac) (by kernel_rfl)) rfl rfl ?_
 refine (Zzp N _ _ _).trans ?_
 rw [← ZnY]
 exact h4
def ZxF (N : Nat) : (R : Type) → List V → S → (V → S → Option R) → Option R := fun _ vs s K =>
 Zej vs fun v'1 v'2 => ZaQ v'1 fun w_1 => ZaQ v'2 fun w_2 => ZaR s <| ZpZ N w_1 w_2 (fun w_3 b_4 => K (.tuple [.str w_3, .bool b_4]) [])
def ZvS (N : Nat) : Zao := (ZtM N).add 58 (ZxF N)
def ZzO : Code := ZaE Tryd.f58
theorem ZAS {R : Type} (N : Nat) (w_1 w_2 : ByteArray) (K : V → S → Option R) : ZaV C (ZtM N) (Zac) 58 Tryd.f58 [.str w_1, .str w_2] [] K =
 Zjy N w_1 w_2 (fun w_3 b_4 => K (.tuple [.str w_3, .bool b_4]) []) := by kernel_rfl
theorem Zq6 (hC : Ok Tryd.prog C) {N : Nat} (hΦ : Zaa Tryd.prog C (ZtM N)) : Zaa Tryd.prog C (ZvS N) := by
 refine hΦ.add_pure rfl fun R vs K r h => ?_
 unfold ZxF at h
 obtain ⟨_, _, rfl, h1⟩ := ZaG h
 obtain ⟨_, rfl, h2⟩ := Zaj h1
 obtain ⟨_, rfl, h3⟩ := Zaj h2
 obtain ⟨_, h4⟩ := Zaf h3
 refine Zap (fn := Tryd.f58) (c := ZzO) hC hΦ Tryd.func58 (by kernel_rfl) (by kernel_rfl) (Zag (Λ := Zac) (by kernel_rfl)) rfl rfl ?_
 refine (ZAS N _ _ _).trans ?_
 rw [← ZoU]
 exact h4
def ZxG (N : Nat) : (R : Type) → List V → S → (V → S → Option R) → Option R := fun _ vs s K =>
 Zej vs fun v'1 v'2 => ZaQ v'1 fun w_1 => ZaQ v'2 fun w_2 => ZaR s <| Zsc N w_1 w_2 (fun w_3 b_4 => K (.tuple [.str w_3, .bool b_4]) [])
def ZuU (N : Nat) : Zao := (ZvS N).add 27 (ZxG N)
def ZAG : Code := ZaE Tryd.f27
theorem ZzV {R : Type} (N : Nat) (w_1 w_2 : ByteArray) (K : V → S → Option R) : ZaV C (ZvS N) (Zac) 27 Tryd.f27 [.str w_1, .str w_2] [] K =
 Zjl N w_1 w_2 (fun w_3 b_4 => K (.tuple [.str w_3, .bool b_4]) []) := by kernel_rfl
theorem ZqX (hC : Ok Tryd.prog C) {N : Nat} (hΦ : Zaa Tryd.prog C (ZvS N)) : Zaa Tryd.prog C (ZuU N) := by
 refine hΦ.add_pure rfl fun R vs K r h => ?_
 unfold ZxG at h
 obtain ⟨_, _, rfl, h1⟩ := ZaG h
 obtain ⟨_, rfl, h2⟩ := Zaj h1
 obtain ⟨_, rfl, h3⟩ := Zaj h2
 obtain ⟨_, h4⟩ := Zaf h3
 refine Zap (fn := Tryd.f27) (c := ZAG) hC hΦ Tryd.func27 (by kernel_rfl) (by kernel_rfl) (Zag (Λ := Zac) (by kernel_rfl)) rfl rfl ?_
 refine (ZzV N _ _ _).trans ?_
 rw [← Zod]
 exact h4
def Zyx (N : Nat) : (R : Type) → List V → S → (V → S → Option R) → Option R := fun _ vs s K =>
 Zde vs fun v'1 => ZaQ v'1 fun w_1 => ZaR s <| Zng N w_1 (fun b_2 => K (.bool b_2) [])
def Znc (N : Nat) : Zao := (ZuU N).add 59 (Zyx N)
def ZzM : Code := ZaE Tryd.f59
theorem ZBz {R : Type} (N : Nat) (w_1 : ByteArray) (K : V → S → Option R) : ZaV C (ZuU N) (Zac) 59 Tryd.f59 [.str w_1] [] K =
 ZkH N w_1 (fun b_2 => K (.bool b_2) []) := by kernel_rfl
theorem Zqc (hC : Ok Tryd.prog C) {N : Nat} (hΦ : Zaa Tryd.prog C (ZuU N)) : Zaa Tryd.prog C (Znc N) := by
 refine hΦ.add_pure rfl fun R vs K r h => ?_
 unfold Zyx at h
 obtain ⟨_, rfl, h1⟩ := Zau h
 obtain ⟨_, rfl, h2⟩ := Zaj h1
 obtain ⟨_, h3⟩ := Zaf h2
 refine Zap (fn := Tryd.f59) (c := ZzM) hC hΦ Tryd.func59 (by kernel_rfl) (by kernel_rfl) (Zag (Λ := Zac) (by kernel_rfl)) rfl rfl ?_
 refine (ZBz N _ _).trans ?_
 rw [← ZnD]
 exact h3
def ZyH (N : Nat) : (R : Type) → List V → S → (V → S → Option R) → Option R := fun _ vs s K =>
 Zej vs fun v'1 v'2 => ZaQ v'1 fun w_1 => ZaQ v'2 fun w_2 => ZaR s <| Ztz N w_1 w_2 (fun b_3 => K (.bool b_3) [])
def Zuc (N : Nat) : Zao := (Znc N).add 60 (ZyH N)
def ZtE : Code := ZaE Tryd.f60
def Zna : Code := (Zcp ZtE [] 0).2
def Zir : List Nat := Zd3 32 [6, 18, 19, 20]
def ZoV : List Nat := Zd3 32 [4]
def ZgI (e_1 e_2 : List V) (x_3 x_4 : Int) : List V := mkF 0 32 [(6, .list 1 e_1 .sh), (18, .list 1 e_2 .sh), (19, .int .i64 x_3), (20, .int .i64 x_4)]
def Zfk {R : Type} (K : X → List V → S → Option R) (e_1 : List V) (e_2 : List V) (x_3 : Int) : Unit → Option R := (fun _ => K .ret (mkF 0 32 [(4, .bool false)]) [])
def Ze9 {R : Type} (K : X → List V → S → Option R) (e_1 : List V) (e_2 : List V) (x_3 : Int) : Unit → Option R := (fun _ => K (.exit 0) (mkF 0 32 []) [])
abbrev ZiF {R : Type} (N : Nat) : Nat → List V → S → (X → List V → S → Option R) → Option R := fun n => ZhA C (Znc N) (Zac) Zna [0, 1, 0, 1, 1, 1] false Zir ZoV n R
theorem ZwR {R : Type} (N n : Nat) (e_1 e_2 : List V) (x_3 : Int) (x_4 : Int) (K : X → List V → S → Option R) :
 ZiF N (n + 1) (ZgI e_1 e_2 x_3 x_4) [] K =
 Zb6 N e_1 e_2 x_3 (fun x_4 => ZiF N n (ZgI e_1 e_2 x_3 x_4) [] K) x_4 (Zfk K e_1 e_2 x_3) (Ze9 K e_1 e_2 x_3) := by kernel_rfl
theorem Zs5 {R : Type} (N : Nat) (e_1 e_2 : List V) (x_3 : Int) (K : X → List V → S → Option R) : ∀ (n : Nat) (x_4 : Int),
 ZiF N n (ZgI e_1 e_2 x_3 x_4) [] K = Zg4 N e_1 e_2 x_3 (Zfk K e_1 e_2 x_3) (Ze9 K e_1 e_2 x_3) n x_4
 | 0, _ => rfl
 | n + 1, x_4 => (ZwR N n e_1 e_2 x_3 x_4 K).trans (congrArg (fun nx => Zb6 N e_1 e_2 x_3 nx x_4 (Zfk K e_1 e_2 x_3) (Ze9 K e_1 e_2 x_3)) (funext fun x_4 => Zs5 N e_1 e_2 x_3 K n x_4))
def Znu {R : Type} (E : List V) (s : S) (k : List V → List V → Int → Int → Option R) : Option R :=
 Zak (ZbO 32 [6, 18, 19, 20] E) <| ZbW (nth E 6) fun u6 => Zbq 1 u6 fun e_1 f'1 => Zxm f'1 <| ZbW (nth E 18) fun u18 => Zbq 1 u18 fun e_2 f'2 => Zxm f'2 <| Zca E 19 .i64 fun x_3 => Zca E 20 .i64 fun x_4 => ZaR s <| k e_1 e_2 x_3 x_4
theorem ZkJ {R : Type} {E : List V} {s : S} {k : List V → List V → Int → Int → Option R} {r : R} (h : Znu E s k = some r) : ∃ e_1 e_2 x_3 x_4, E = ZgI e_1 e_2 x_3 x_4 ∧ s = [] ∧ k e_1 e_2 x_3 x_4 = some r := by
 unfold Znu at h
 obtain ⟨hg, h1⟩ := Zab h
 obtain ⟨_, hu6, h2⟩ := Zae h1
 obtain ⟨_, _, rfl, h3⟩ := Zat h2
 obtain ⟨rfl, h4⟩ := Zfh h3
 obtain ⟨_, hu18, h5⟩ := Zae h4
 obtain ⟨_, _, rfl, h6⟩ := Zat h5
 obtain ⟨rfl, h7⟩ := Zfh h6
 obtain ⟨_, hu19, h8⟩ := Zax h7
 obtain ⟨_, hu20, h9⟩ := Zax h8
 obtain ⟨rfl, h10⟩ := Zaf h9
 exact ⟨_, _, _, _, Zbz hg rfl (Zai hu6 (Zai hu18 (Zai hu19 (Zai hu20 Zbm)))), rfl, h10⟩
def ZmG (N : Nat) : ZaL := (Zac).add [0, 1, 0, 1, 1, 1] fun _ E s K => Znu (Zbk Zir E) s fun e_1 e_2 x_3 x_4 => Zg4 N e_1 e_2 x_3 (Zfk K e_1 e_2 x_3) (Ze9 K e_1 e_2 x_3) N x_4
theorem ZuN {N : Nat} (hC : Ok Tryd.prog C) (hΦ : Zaa Tryd.prog C (Znc N)) : Zb0 Tryd.prog C (ZmG N) Zna [0, 1, 0, 1, 1, 1] :=
 Zb8 (Λi := Zac) (tr := false) (ks := Zir) (kx := ZoV) (N := N) hC hΦ
  (Zag (by kernel_rfl))
  fun R E s K r h => by
   have h2 := ZaL.add_self.symm.trans h
   obtain ⟨_, _, _, _, he, rfl, h3⟩ := ZkJ h2
   rw [he]
   exact (Zs5 N _ _ _ _ N _).trans h3
theorem ZxJ : Zbh ZtE [] = [([0, 1, 0, 1, 1, 1], Zna)] := by kernel_rfl
theorem ZA6 {R : Type} (N : Nat) (w_1 w_2 : ByteArray) (K : V → S → Option R) : ZaV C (Znc N) (ZmG N) 60 Tryd.f60 [.str w_1, .str w_2] [] K =
 ZkF N w_1 w_2 (fun b_3 => K (.bool b_3) []) := by kernel_rfl
theorem ZtC {N : Nat} (hC : Ok Tryd.prog C) (hΦ : Zaa Tryd.prog C (Znc N)) : Za4 Tryd.prog C (ZmG N) ZtE [] :=
 Za5 ZtE [] (by
  rw [ZxJ]
  intro p hp
  simp only [List.mem_cons, List.mem_nil_iff, or_false] at hp
  rcases hp with rfl
  ·exact (ZuN hC hΦ))
theorem ZqP (hC : Ok Tryd.prog C) {N : Nat} (hΦ : Zaa Tryd.prog C (Znc N)) : Zaa Tryd.prog C (Zuc N) := by
 refine hΦ.add_pure rfl fun R vs K r h => ?_
 unfold ZyH at h
 obtain ⟨_, _, rfl, h1⟩ := ZaG h
 obtain ⟨_, rfl, h2⟩ := Zaj h1
 obtain ⟨_, rfl, h3⟩ := Zaj h2
 obtain ⟨_, h4⟩ := Zaf h3
 refine Zap (fn := Tryd.f60) (c := ZtE) hC hΦ Tryd.func60 (by kernel_rfl) (by kernel_rfl) (ZtC (N := N) hC hΦ) rfl rfl ?_
 refine (ZA6 N _ _ _).trans ?_
 rw [← Zou]
 exact h4
def ZxX (N : Nat) : (R : Type) → List V → S → (V → S → Option R) → Option R := fun _ vs s K =>
 Zej vs fun v'1 v'2 => ZaQ v'1 fun w_1 => ZaQ v'2 fun w_2 => ZaR s <| ZvJ N w_1 w_2 (fun w_3 b_4 => K (.tuple [.str w_3, .bool b_4]) [])
def Zvv (N : Nat) : Zao := (Zuc N).add 28 (ZxX N)
def ZAB : Code := ZaE Tryd.f28
theorem ZA0 {R : Type} (N : Nat) (w_1 w_2 : ByteArray) (K : V → S → Option R) : ZaV C (Zuc N) (Zac) 28 Tryd.f28 [.str w_1, .str w_2] [] K =
 ZkX N w_1 w_2 (fun w_3 b_4 => K (.tuple [.str w_3, .bool b_4]) []) := by kernel_rfl
theorem Zp6 (hC : Ok Tryd.prog C) {N : Nat} (hΦ : Zaa Tryd.prog C (Zuc N)) : Zaa Tryd.prog C (Zvv N) := by
 refine hΦ.add_pure rfl fun R vs K r h => ?_
 unfold ZxX at h
 obtain ⟨_, _, rfl, h1⟩ := ZaG h
 obtain ⟨_, rfl, h2⟩ := Zaj h1
 obtain ⟨_, rfl, h3⟩ := Zaj h2
 obtain ⟨_, h4⟩ := Zaf h3
 refine Zap (fn := Tryd.f28) (c := ZAB) hC hΦ Tryd.func28 (by kernel_rfl) (by kernel_rfl) (Zag (Λ := Zac) (by kernel_rfl)) rfl rfl ?_
 refine (ZA0 N _ _ _).trans ?_
 rw [← Zpi]
 exact h4
def ZxA (N : Nat) : (R : Type) → List V → S → (V → S → Option R) → Option R := fun _ vs s K =>
 Zej vs fun v'1 v'2 => ZaQ v'1 fun w_1 => ZaQ v'2 fun w_2 => ZaR s <| Zm9 N w_1 w_2 (fun b_3 b_4 => K (.tuple [.bool b_3, .bool b_4]) [])
def ZvQ (N : Nat) : Zao := (Zvv N).add 29 (ZxA N)
def ZAR : Code := ZaE Tryd.f29
theorem Zzn {R : Type} (N : Nat) (w_1 w_2 : ByteArray) (K : V → S → Option R) : ZaV C (Zvv N) (Zac) 29 Tryd.f29 [.str w_1, .str w_2] [] K =
 Zkn N w_1 w_2 (fun b_3 b_4 => K (.tuple [.bool b_3, .bool b_4]) []) := by kernel_rfl
theorem Zqu (hC : Ok Tryd.prog C) {N : Nat} (hΦ : Zaa Tryd.prog C (Zvv N)) : Zaa Tryd.prog C (ZvQ N) := by
 refine hΦ.add_pure rfl fun R vs K r h => ?_
 unfold ZxA at h
 obtain ⟨_, _, rfl, h1⟩ := ZaG h
 obtain ⟨_, rfl, h2⟩ := Zaj h1
 obtain ⟨_, rfl, h3⟩ := Zaj h2
 obtain ⟨_, h4⟩ := Zaf h3
 refine Zap (fn := Tryd.f29) (c := ZAR) hC hΦ Tryd.func29 (by kernel_rfl) (by kernel_rfl) (Zag (Λ := Zac) (by kernel_rfl)) rfl rfl ?_
 refine (Zzn N _ _ _).trans ?_
 rw [← ZnF]
 exact h4
def ZxV (N : Nat) : (R : Type) → List V → S → (V → S → Option R) → Option R := fun _ vs s K =>
 Zej vs fun v'1 v'2 => ZaQ v'1 fun w_1 => ZaQ v'2 fun w_2 => ZaR s <| ZuP N w_1 w_2 (fun b_3 b_4 => K (.tuple [.bool b_3, .bool b_4]) [])
def ZuX (N : Nat) : Zao := (ZvQ N).add 30 (ZxV N)
def ZAo : Code := ZaE Tryd.f30
theorem ZAl {R : Type} (N : Nat) (w_1 w_2 : ByteArray) (K : V → S → Option R) : ZaV C (ZvQ N) (Zac) 30 Tryd.f30 [.str w_1, .str w_2] [] K =
 ZjF N w_1 w_2 (fun b_3 b_4 => K (.tuple [.bool b_3, .bool b_4]) []) := by kernel_rfl
theorem ZqL (hC : Ok Tryd.prog C) {N : Nat} (hΦ : Zaa Tryd.prog C (ZvQ N)) : Zaa Tryd.prog C (ZuX N) := by
 refine hΦ.add_pure rfl fun R vs K r h => ?_
 unfold ZxV at h
 obtain ⟨_, _, rfl, h1⟩ := ZaG h
 obtain ⟨_, rfl, h2⟩ := Zaj h1
 obtain ⟨_, rfl, h3⟩ := Zaj h2
 obtain ⟨_, h4⟩ := Zaf h3
 refine Zap (fn := Tryd.f30) (c := ZAo) hC hΦ Tryd.func30 (by kernel_rfl) (by kernel_rfl) (Zag (Λ := Zac) (by kernel_rfl)) rfl rfl ?_
 refine (ZAl N _ _ _).trans ?_
 rw [← Zn4]
 exact h4
def Zxz (N : Nat) : (R : Type) → List V → S → (V → S → Option R) → Option R := fun _ vs s K =>
 Zde vs fun v'1 => Zbq 1 v'1 fun e_1 f_2 => ZaR s <| Zt6 N e_1 f_2 (fun w_3 w_4 => K (.tuple [.str w_3, .str w_4]) [])
def Zvs (N : Nat) : Zao := (ZuX N).add 31 (Zxz N)
def ZAE : Code := ZaE Tryd.f31
theorem ZBu {R : Type} (N : Nat) (e_1 : List V) (f_2 : Fl) (K : V → S → Option R) : ZaV C (ZuX N) (Zac) 31 Tryd.f31 [.list 1 e_1 f_2] [] K =
 ZkC N e_1 f_2 (fun w_3 w_4 => K (.tuple [.str w_3, .str w_4]) []) := by kernel_rfl
theorem Zql (hC : Ok Tryd.prog C) {N : Nat} (hΦ : Zaa Tryd.prog C (ZuX N)) : Zaa Tryd.prog C (Zvs N) := by
 refine hΦ.add_pure rfl fun R vs K r h => ?_
 unfold Zxz at h
 obtain ⟨_, rfl, h1⟩ := Zau h
 obtain ⟨_, _, rfl, h2⟩ := Zat h1
 obtain ⟨_, h3⟩ := Zaf h2
 refine Zap (fn := Tryd.f31) (c := ZAE) hC hΦ Tryd.func31 (by kernel_rfl) (by kernel_rfl) (Zag (Λ := Zac) (by kernel_rfl)) rfl rfl ?_
 refine (ZBu N _ _ _).trans ?_
 rw [← ZnQ]
 exact h3
def ZyC (N : Nat) : (R : Type) → List V → S → (V → S → Option R) → Option R := fun _ vs s K =>
 Zde vs fun v'1 => ZaQ v'1 fun w_1 => ZaR s <| Zua N w_1 (fun w_2 => K (.str w_2) [])
def Zu8 (N : Nat) : Zao := (Zvs N).add 37 (ZyC N)
def ZzK : Code := ZaE Tryd.f37
theorem ZBt {R : Type} (N : Nat) (w_1 : ByteArray) (K : V → S → Option R) : ZaV C (Zvs N) (Zac) 37 Tryd.f37 [.str w_1] [] K =
 Zkj N w_1 (fun w_2 => K (.str w_2) []) := by kernel_rfl
theorem ZqH (hC : Ok Tryd.prog C) {N : Nat} (hΦ : Zaa Tryd.prog C (Zvs N)) : Zaa Tryd.prog C (Zu8 N) := by
 refine hΦ.add_pure rfl fun R vs K r h => ?_
 unfold ZyC at h
 obtain ⟨_, rfl, h1⟩ := Zau h
 obtain ⟨_, rfl, h2⟩ := Zaj h1
 obtain ⟨_, h3⟩ := Zaf h2
 refine Zap (fn := Tryd.f37) (c := ZzK) hC hΦ Tryd.func37 (by kernel_rfl) (by kernel_rfl) (Zag (Λ := Zac) (by kernel_rfl)) rfl rfl ?_
 refine (ZBt N _ _).trans ?_
 rw [← Zor]
 exact h3
def Zxt (N : Nat) : (R : Type) → List V → S → (V → S → Option R) → Option R := fun _ vs s K =>
 Zde vs fun v'1 => ZaQ v'1 fun w_1 => ZaR s <| ZrA N w_1 (fun w_2 b_3 => K (.tuple [.str w_2, .bool b_3]) [])
def Zt7 (N : Nat) : Zao := (Zu8 N).add 8 (Zxt N)
def ZAq : Code := ZaE Tryd.f8
theorem Zz6 {R : Type} (N : Nat) (w_1 : ByteArray) (K : V → S → Option R) : ZaV C (Zu8 N) (Zac) 8 Tryd.f8 [.str w_1] [] K =
 Zk8 N w_1 (fun w_2 b_3 => K (.tuple [.str w_2, .bool b_3]) []) := by kernel_rfl
theorem ZpR (hC : Ok Tryd.prog C) {N : Nat} (hΦ : Zaa Tryd.prog C (Zu8 N)) : Zaa Tryd.prog C (Zt7 N) := by
 refine hΦ.add_pure rfl fun R vs K r h => ?_
 unfold Zxt at h
 obtain ⟨_, rfl, h1⟩ := Zau h
 obtain ⟨_, rfl, h2⟩ := Zaj h1
 obtain ⟨_, h3⟩ := Zaf h2
 refine Zap (fn := Tryd.f8) (c := ZAq) hC hΦ Tryd.func8 (by kernel_rfl) (by kernel_rfl) (Zag (Λ := Zac) (by kernel_rfl)) rfl rfl ?_
 refine (Zz6 N _ _).trans ?_
 rw [← Zom]
 exact h3
def ZyX (N : Nat) : (R : Type) → List V → S → (V → S → Option R) → Option R := fun _ vs s K =>
 Zej vs fun v'1 v'2 => ZaQ v'1 fun w_1 => ZaQ v'2 fun w_2 => ZaR s <| Zu7 N w_1 w_2 (fun w_3 b_4 => K (.tuple [.str w_3, .bool b_4]) [])
def ZvD (N : Nat) : Zao := (Zt7 N).add 32 (ZyX N)
def ZzC : Code := ZaE Tryd.f32
theorem ZAp {R : Type} (N : Nat) (w_1 w_2 : ByteArray) (K : V → S → Option R) : ZaV C (Zt7 N) (Zac) 32 Tryd.f32 [.str w_1, .str w_2] [] K =
 Zk7 N w_1 w_2 (fun w_3 b_4 => K (.tuple [.str w_3, .bool b_4]) []) := by kernel_rfl
theorem Zqt (hC : Ok Tryd.prog C) {N : Nat} (hΦ : Zaa Tryd.prog C (Zt7 N)) : Zaa Tryd.prog C (ZvD N) := by
 refine hΦ.add_pure rfl fun R vs K r h => ?_
 unfold ZyX at h
 obtain ⟨_, _, rfl, h1⟩ := ZaG h
 obtain ⟨_, rfl, h2⟩ := Zaj h1
 obtain ⟨_, rfl, h3⟩ := Zaj h2
 obtain ⟨_, h4⟩ := Zaf h3
 refine Zap (fn := Tryd.f32) (c := ZzC) hC hΦ Tryd.func32 (by kernel_rfl) (by kernel_rfl) (Zag (Λ := Zac) (by kernel_rfl)) rfl rfl ?_
 refine (ZAp N _ _ _).trans ?_
 rw [← Zn9]
 exact h4
def ZyN (N : Nat) : (R : Type) → List V → S → (V → S → Option R) → Option R := fun _ vs s K =>
 Zde vs fun v'1 => Zbq 1 v'1 fun e_1 f_2 => ZaR s <| Zuj N e_1 f_2 (fun w_3 => K (.str w_3) [])
def Zvo (N : Nat) : Zao := (ZvD N).add 34 (ZyN N)
def ZAc : Code := ZaE Tryd.f34
theorem Zzq {R : Type} (N : Nat) (e_1 : List V) (f_2 : Fl) (K : V → S → Option R) : ZaV C (ZvD N) (Zac) 34 Tryd.f34 [.list 1 e_1 f_2] [] K =
 Zjs N e_1 f_2 (fun w_3 => K (.str w_3) []) := by kernel_rfl
theorem Zqo (hC : Ok Tryd.prog C) {N : Nat} (hΦ : Zaa Tryd.prog C (ZvD N)) : Zaa Tryd.prog C (Zvo N) := by
 refine hΦ.add_pure rfl fun R vs K r h => ?_
 unfold ZyN at h
 obtain ⟨_, rfl, h1⟩ := Zau h
 obtain ⟨_, _, rfl, h2⟩ := Zat h1
 obtain ⟨_, h3⟩ := Zaf h2
 refine Zap (fn := Tryd.f34) (c := ZAc) hC hΦ Tryd.func34 (by kernel_rfl) (by kernel_rfl) (Zag (Λ := Zac) (by kernel_rfl)) rfl rfl ?_
 refine (Zzq N _ _ _).trans ?_
 rw [← Zps]
 exact h3
def ZxW (N : Nat) : (R : Type) → List V → S → (V → S → Option R) → Option R := fun _ vs s K =>
 Zde vs fun v'1 => Zbq 1 v'1 fun e_1 f_2 => ZaR s <| Zul N e_1 f_2 (fun w_3 => K (.str w_3) [])
def Zd0 (N : Nat) : Zao := (Zvo N).add 33 (ZxW N)
def ZAI : Code := ZaE Tryd.f33
theorem ZBc {R : Type} (N : Nat) (e_1 : List V) (f_2 : Fl) (K : V → S → Option R) : ZaV C (Zvo N) (Zac) 33 Tryd.f33 [.list 1 e_1 f_2] [] K =
 Zj0 N e_1 f_2 (fun w_3 => K (.str w_3) []) := by kernel_rfl
theorem ZpB (hC : Ok Tryd.prog C) {N : Nat} (hΦ : Zaa Tryd.prog C (Zvo N)) : Zaa Tryd.prog C (Zd0 N) := by
 refine hΦ.add_pure rfl fun R vs K r h => ?_
 unfold ZxW at h
 obtain ⟨_, rfl, h1⟩ := Zau h
 obtain ⟨_, _, rfl, h2⟩ := Zat h1
 obtain ⟨_, h3⟩ := Zaf h2
 refine Zap (fn := Tryd.f33) (c := ZAI) hC hΦ Tryd.func33 (by kernel_rfl) (by kernel_rfl) (Zag (Λ := Zac) (by kernel_rfl)) rfl rfl ?_
 refine (ZBc N _ _ _).trans ?_
 rw [← Zow]
 exact h3
def Zyr (N : Nat) : (R : Type) → List V → S → (V → S → Option R) → Option R := fun _ vs s K =>
 Zej vs fun v'1 v'2 => Zbq 1 v'1 fun e_1 f_2 => Zbq 1 v'2 fun e_3 f_4 => ZaR s <| ZyI N e_1 f_2 e_3 f_4 (fun b_5 => K (.bool b_5) [])
def ZzP (N : Nat) : Zao := (Zd0 N).add 4 (Zyr N)
def Zhr : Code := ZaE Tryd.f4
def Zr6 (e_1 : List V) (f_2 : Fl) (e_3 : List V) (f_4 : Fl) (v_1009 v_1010 v_1013 v_1014 v_1042 v_1043 v_1045 v_1046 v_1047 v_1048 v_1049 v_1050 v_1051 v_1052 v_1053 v_1054 v_1055 v_1056 v_1057 v_1058 v_1059 v_1060 v_1061 v_1062 v_1063 v_1064 v_1065 v_1066 v_1067 v_1068 v_1069 v_1070 v_1071 v_1072 v_1073 v_1074 v_1076 v_1077 v_1078 v_1079 v_1081 v_1082 v_1083 v_1084 v_1086 v_1087 v_1088 v_1089 v_1091 v_1092 v_1093 v_1094 v_1095 v_1096 v_1097 : V) (w_801 w_802 w_803 : ByteArray) (b_804 b_805 b_806 : Bool) : List V := mkF 0 227 [(0, .list 1 e_1 f_2), (1, .list 1 e_3 f_4), (4, .bool false), (5, .str w_801), (6, .str w_802), (7, .str w_803), (8, .bool b_804), (9, v_1009), (10, v_1010), (11, .bool b_805), (12, .bool b_806), (13, v_1013), (14, v_1014), (40, .list 1 e_1 f_2.noOwn), (41, .list 1 e_3 f_4.noOwn), (42, v_1042), (43, v_1043), (44, .list 1 e_1 f_2.noOwn), (45, v_1045), (46, v_1046), (47, v_1047), (48, v_1048), (49, v_1049), (50, v_1050), (51, v_1051), (52, v_1052), (53, v_1053), (54, v_1054), (55, v_1055), (56, v_1056), (57, v_1057), (58, v_1058), (59, v_1059), (60, v_1060), (61, v_1061), (62, v_1062), (63, v_1063), (64, v_1064), (65, v_1065), (66, v_1066), (67, v_1067), (68, v_1068), (69, v_1069), (70, v_1070), (71, v_1071), (72, v_1072), (73, v_1073), (74, v_1074), (75, .bool false), (76, v_1076), (77, v_1077), (78, v_1078), (79, v_1079), (80, .bool false), (81, v_1081), (82, v_1082), (83, v_1083), (84, v_1084), (85, .bool false), (86, v_1086), (87, v_1087), (88, v_1088), (89, v_1089), (90, .bool false), (91, v_1091), (92, v_1092), (93, v_1093), (94, v_1094), (95, v_1095), (96, v_1096), (97, v_1097)]
def Zn5 (e_1 : List V) (f_2 : Fl) (e_3 : List V) (f_4 : Fl) (v_2007 v_2008 v_2009 v_2010 v_2013 v_2014 v_2015 v_2016 v_2017 v_2018 v_2042 v_2043 v_2045 v_2046 v_2047 v_2048 v_2049 v_2050 v_2051 v_2052 v_2053 v_2054 v_2055 v_2056 v_2057 v_2058 v_2059 v_2060 v_2061 v_2062 v_2063 v_2064 v_2065 v_2066 v_2067 v_2068 v_2069 v_2070 v_2071 v_2072 v_2073 v_2074 v_2076 v_2077 v_2078 v_2079 v_2081 v_2082 v_2083 v_2084 v_2086 v_2087 v_2088 v_2089 v_2091 v_2092 v_2093 v_2094 v_2095 v_2096 v_2097 v_2098 v_2099 v_2100 v_2101 v_2102 v_2103 v_2104 v_2105 v_2106 v_2107 v_2108 v_2109 v_2110 v_2111 v_2112 v_2113 v_2114 v_2115 v_2116 v_2117 v_2118 v_2119 : V) (w_901 w_902 : ByteArray) (b_903 b_904 : Bool) : List V := mkF 0 227 [(0, .list 1 e_1 f_2), (1, .list 1 e_3 f_4), (4, .bool false), (5, .str w_901), (6, .str w_902), (7, v_2007), (8, v_2008), (9, v_2009), (10, v_2010), (11, .bool b_903), (12, .bool b_904), (13, v_2013), (14, v_2014), (15, v_2015), (16, v_2016), (17, v_2017), (18, v_2018), (40, .list 1 e_1 f_2.noOwn), (41, .list 1 e_3 f_4.noOwn), (42, v_2042), (43, v_2043), (44, .list 1 e_1 f_2.noOwn), (45, v_2045), (46, v_2046), (47, v_2047), (48, v_2048), (49, v_2049), (50, v_2050), (51, v_2051), (52, v_2052), (53, v_2053), (54, v_2054), (55, v_2055), (56, v_2056), (57, v_2057), (58, v_2058), (59, v_2059), (60, v_2060), (61, v_2061), (62, v_2062), (63, v_2063), (64, v_2064), (65, v_2065), (66, v_2066), (67, v_2067), (68, v_2068), (69, v_2069), (70, v_2070), (71, v_2071), (72, v_2072), (73, v_2073), (74, v_2074), (75, .bool false), (76, v_2076), (77, v_2077), (78, v_2078), (79, v_2079), (80, .bool false), (81, v_2081), (82, v_2082), (83, v_2083), (84, v_2084), (85, .bool false), (86, v_2086), (87, v_2087), (88, v_2088), (89, v_2089), (90, .bool false), (91, v_2091), (92, v_2092), (93, v_2093), (94, v_2094), (95, v_2095), (96, v_2096), (97, v_2097), (98, v_2098), (99, v_2099), (100, v_2100), (101, v_2101), (102, v_2102), (103, v_2103), (104, v_2104), (105, v_2105), (106, v_2106), (107, v_2107), (108, v_2108), (109, v_2109), (110, v_2110), (111, v_2111), (112, v_2112), (113, v_2113), (114, v_2114), (115, v_2115), (116, v_2116), (117, v_2117), (118, v_2118), (119, v_2119)]
def Ztu (e_1 : List V) (f_2 : Fl) (e_3 : List V) (f_4 : Fl) (v_3005 v_3006 v_3007 v_3008 v_3009 v_3010 v_3011 v_3012 v_3013 v_3014 v_3015 v_3016 v_3017 v_3018 v_3019 v_3020 v_3021 v_3022 v_3023 v_3024 v_3025 v_3026 v_3027 v_3028 v_3042 v_3043 v_3045 v_3046 v_3047 v_3048 v_3049 v_3050 v_3051 v_3052 v_3053 v_3054 v_3055 v_3056 v_3057 v_3058 v_3059 v_3060 v_3061 v_3062 v_3063 v_3064 v_3065 v_3066 v_3067 v_3068 v_3069 v_3070 v_3071 v_3072 v_3073 v_3074 v_3076 v_3077 v_3078 v_3079 v_3081 v_3082 v_3083 v_3084 v_3086 v_3087 v_3088 v_3089 v_3091 v_3092 v_3093 v_3094 v_3095 v_3096 v_3097 v_3098 v_3099 v_3100 v_3101 v_3102 v_3103 v_3104 v_3105 v_3106 v_3107 v_3108 v_3109 v_3110 v_3111 v_3112 v_3113 v_3114 v_3115 v_3116 v_3117 v_3118 v_3119 v_3120 v_3121 v_3122 v_3123 v_3124 v_3125 v_3126 v_3127 v_3128 v_3129 v_3130 v_3131 v_3132 v_3133 v_3134 v_3135 v_3136 v_3137 v_3138 v_3139 v_3140 v_3141 v_3142 v_3143 v_3144 v_3145 v_3146 v_3147 v_3148 v_3149 v_3150 v_3151 v_3152 v_3153 v_3154 v_3155 v_3156 v_3157 v_3158 v_3159 v_3160 v_3161 v_3162 v_3163 v_3164 v_3165 v_3166 v_3167 v_3168 v_3169 v_3170 v_3171 v_3172 v_3173 v_3174 v_3175 v_3176 v_3177 v_3178 v_3179 : V) : List V := mkF 0 227 [(0, .list 1 e_1 f_2), (1, .list 1 e_3 f_4), (4, .bool false), (5, v_3005), (6, v_3006), (7, v_3007), (8, v_3008), (9, v_3009), (10, v_3010), (11, v_3011), (12, v_3012), (13, v_3013), (14, v_3014), (15, v_3015), (16, v_3016), (17, v_3017), (18, v_3018), (19, v_3019), (20, v_3020), (21, v_3021), (22, v_3022), (23, v_3023), (24, v_3024), (25, v_3025), (26, v_3026), (27, v_3027), (28, v_3028), (40, .list 1 e_1 f_2.noOwn), (41, .list 1 e_3 f_4.noOwn), (42, v_3042), (43, v_3043), (44, .list 1 e_1 f_2.noOwn), (45, v_3045), (46, v_3046), (47, v_3047), (48, v_3048), (49, v_3049), (50, v_3050), (51, v_3051), (52, v_3052), (53, v_3053), (54, v_3054), (55, v_3055), (56, v_3056), (57, v_3057), (58, v_3058), (59, v_3059), (60, v_3060), (61, v_3061), (62, v_3062), (63, v_3063), (64, v_3064), (65, v_3065), (66, v_3066), (67, v_3067), (68, v_3068), (69, v_3069), (70, v_3070), (71, v_3071), (72, v_3072), (73, v_3073), (74, v_3074), (75, .bool false), (76, v_3076), (77, v_3077), (78, v_3078), (79, v_3079), (80, .bool false), (81, v_3081), (82, v_3082), (83, v_3083), (84, v_3084), (85, .bool false), (86, v_3086), (87, v_3087), (88, v_3088), (89, v_3089), (90, .bool false), (91, v_3091), (92, v_3092), (93, v_3093), (94, v_3094), (95, v_3095), (96, v_3096), (97, v_3097), (98, v_3098), (99, v_3099), (100, v_3100), (101, v_3101), (102, v_3102), (103, v_3103), (104, v_3104), (105, v_3105), (106, v_3106), (107, v_3107), (108, v_3108), (109, v_3109), (110, v_3110), (111, v_3111), (112, v_3112), (113, v_3113), (114, v_3114), (115, v_3115), (116, v_3116), (117, v_3117), (118, v_3118), (119, v_3119), (120, v_3120), (121, v_3121), (122, v_3122), (123, v_3123), (124, v_3124), (125, v_3125), (126, v_3126), (127, v_3127), (128, v_3128), (129, v_3129), (130, v_3130), (131, v_3131), (132, v_3132), (133, v_3133), (134, v_3134), (135, v_3135), (136, v_3136), (137, v_3137), (138, v_3138), (139, v_3139), (140, v_3140), (141, v_3141), (142, v_3142), (143, v_3143), (144, v_3144), (145, v_3145), (146, v_3146), (147, v_3147), (148, v_3148), (149, v_3149), (150, v_3150), (151, v_3151), (152, v_3152), (153, v_3153), (154, v_3154), (155, v_3155), (156, v_3156), (157, v_3157), (158, v_3158), (159, v_3159), (160, v_3160), (161, v_3161), (162, v_3162), (163, v_3163), (164, v_3164), (165, v_3165), (166, v_3166), (167, v_3167), (168, v_3168), (169, v_3169), (170, v_3170), (171, v_3171), (172, v_3172), (173, v_3173), (174, v_3174), (175, v_3175), (176, v_3176), (177, v_3177), (178, v_3178), (179, v_3179)]
theorem ZzR {R : Type} (N : Nat) (e_1 : List V) (f_2 : Fl) (e_3 : List V) (f_4 : Fl) (K : V → S → Option R) (T : Code) : ZeU C (Zd0 N) Zac (Zfo 8 Zhr T) [] ([.list 1 e_1 f_2, .list 1 e_3 f_4] ++ List.replicate (Tryd.f4.ntmps - ([.list 1 e_1 f_2, .list 1 e_3 f_4] : List V).length) .dead) [] (ZpV C 4 Tryd.f4 K) =
 Zpt N e_1 f_2 e_3 f_4 (fun v_1009 v_1010 v_1013 v_1014 v_1042 v_1043 v_1045 v_1046 v_1047 v_1048 v_1049 v_1050 v_1051 v_1052 v_1053 v_1054 v_1055 v_1056 v_1057 v_1058 v_1059 v_1060 v_1061 v_1062 v_1063 v_1064 v_1065 v_1066 v_1067 v_1068 v_1069 v_1070 v_1071 v_1072 v_1073 v_1074 v_1076 v_1077 v_1078 v_1079 v_1081 v_1082 v_1083 v_1084 v_1086 v_1087 v_1088 v_1089 v_1091 v_1092 v_1093 v_1094 v_1095 v_1096 v_1097 w_801 w_802 w_803 b_804 b_805 b_806 => ZeU C (Zd0 N) Zac T [1, 1, 1, 1, 1, 1, 1, 1] (Zr6 e_1 f_2 e_3 f_4 v_1009 v_1010 v_1013 v_1014 v_1042 v_1043 v_1045 v_1046 v_1047 v_1048 v_1049 v_1050 v_1051 v_1052 v_1053 v_1054 v_1055 v_1056 v_1057 v_1058 v_1059 v_1060 v_1061 v_1062 v_1063 v_1064 v_1065 v_1066 v_1067 v_1068 v_1069 v_1070 v_1071 v_1072 v_1073 v_1074 v_1076 v_1077 v_1078 v_1079 v_1081 v_1082 v_1083 v_1084 v_1086 v_1087 v_1088 v_1089 v_1091 v_1092 v_1093 v_1094 v_1095 v_1096 v_1097 w_801 w_802 w_803 b_804 b_805 b_806) [] (ZpV C 4 Tryd.f4 K)) (fun b_5 => K (.bool b_5) []) := by kernel_rfl
theorem ZAM {R : Type} (N : Nat) (e_1 : List V) (f_2 : Fl) (e_3 : List V) (f_4 : Fl) (v_1009 v_1010 v_1013 v_1014 v_1042 v_1043 v_1045 v_1046 v_1047 v_1048 v_1049 v_1050 v_1051 v_1052 v_1053 v_1054 v_1055 v_1056 v_1057 v_1058 v_1059 v_1060 v_1061 v_1062 v_1063 v_1064 v_1065 v_1066 v_1067 v_1068 v_1069 v_1070 v_1071 v_1072 v_1073 v_1074 v_1076 v_1077 v_1078 v_1079 v_1081 v_1082 v_1083 v_1084 v_1086 v_1087 v_1088 v_1089 v_1091 v_1092 v_1093 v_1094 v_1095 v_1096 v_1097 : V) (w_801 w_802 w_803 : ByteArray) (b_804 b_805 b_806 : Bool) (K : V → S → Option R) (T : Code) : ZeU C (Zd0 N) Zac (Zfo 1 (Zcc 8 Zhr) T) [1, 1, 1, 1, 1, 1, 1, 1] (Zr6 e_1 f_2 e_3 f_4 v_1009 v_1010 v_1013 v_1014 v_1042 v_1043 v_1045 v_1046 v_1047 v_1048 v_1049 v_1050 v_1051 v_1052 v_1053 v_1054 v_1055 v_1056 v_1057 v_1058 v_1059 v_1060 v_1061 v_1062 v_1063 v_1064 v_1065 v_1066 v_1067 v_1068 v_1069 v_1070 v_1071 v_1072 v_1073 v_1074 v_1076 v_1077 v_1078 v_1079 v_1081 v_1082 v_1083 v_1084 v_1086 v_1087 v_1088 v_1089 v_1091 v_1092 v_1093 v_1094 v_1095 v_1096 v_1097 w_801 w_802 w_803 b_804 b_805 b_806) [] (ZpV C 4 Tryd.f4 K) =
 ZhM N e_1 f_2 e_3 f_4 v_1009 v_1010 v_1013 v_1014 v_1042 v_1043 v_1045 v_1046 v_1047 v_1048 v_1049 v_1050 v_1051 v_1052 v_1053 v_1054 v_1055 v_1056 v_1057 v_1058 v_1059 v_1060 v_1061 v_1062 v_1063 v_1064 v_1065 v_1066 v_1067 v_1068 v_1069 v_1070 v_1071 v_1072 v_1073 v_1074 v_1076 v_1077 v_1078 v_1079 v_1081 v_1082 v_1083 v_1084 v_1086 v_1087 v_1088 v_1089 v_1091 v_1092 v_1093 v_1094 v_1095 v_1096 v_1097 w_801 w_802 w_803 b_804 b_805 b_806 (fun v_2007 v_2008 v_2009 v_2010 v_2013 v_2014 v_2015 v_2016 v_2017 v_2018 v_2042 v_2043 v_2045 v_2046 v_2047 v_2048 v_2049 v_2050 v_2051 v_2052 v_2053 v_2054 v_2055 v_2056 v_2057 v_2058 v_2059 v_2060 v_2061 v_2062 v_2063 v_2064 v_2065 v_2066 v_2067 v_2068 v_2069 v_2070 v_2071 v_2072 v_2073 v_2074 v_2076 v_2077 v_2078 v_2079 v_2081 v_2082 v_2083 v_2084 v_2086 v_2087 v_2088 v_2089 v_2091 v_2092 v_2093 v_2094 v_2095 v_2096 v_2097 v_2098 v_2099 v_2100 v_2101 v_2102 v_2103 v_2104 v_2105 v_2106 v_2107 v_2108 v_2109 v_2110 v_2111 v_2112 v_2113 v_2114 v_2115 v_2116 v_2117 v_2118 v_2119 w_901 w_902 b_903 b_904 => ZeU C (Zd0 N) Zac T [1, 1, 1, 1, 1, 1, 1, 1, 1] (Zn5 e_1 f_2 e_3 f_4 v_2007 v_2008 v_2009 v_2010 v_2013 v_2014 v_2015 v_2016 v_2017 v_2018 v_2042 v_2043 v_2045 v_2046 v_2047 v_2048 v_2049 v_2050 v_2051 v_2052 v_2053 v_2054 v_2055 v_2056 v_2057 v_2058 v_2059 v_2060 v_2061 v_2062 v_2063 v_2064 v_2065 v_2066 v_2067 v_2068 v_2069 v_2070 v_2071 v_2072 v_2073 v_2074 v_2076 v_2077 v_2078 v_2079 v_2081 v_2082 v_2083 v_2084 v_2086 v_2087 v_2088 v_2089 v_2091 v_2092 v_2093 v_2094 v_2095 v_2096 v_2097 v_2098 v_2099 v_2100 v_2101 v_2102 v_2103 v_2104 v_2105 v_2106 v_2107 v_2108 v_2109 v_2110 v_2111 v_2112 v_2113 v_2114 v_2115 v_2116 v_2117 v_2118 v_2119 w_901 w_902 b_903 b_904) [] (ZpV C 4 Tryd.f4 K)) (fun b_5 => K (.bool b_5) []) := by kernel_rfl
theorem ZAX {R : Type} (N : Nat) (e_1 : List V) (f_2 : Fl) (e_3 : List V) (f_4 : Fl) (v_2007 v_2008 v_2009 v_2010 v_2013 v_2014 v_2015 v_2016 v_2017 v_2018 v_2042 v_2043 v_2045 v_2046 v_2047 v_2048 v_2049 v_2050 v_2051 v_2052 v_2053 v_2054 v_2055 v_2056 v_2057 v_2058 v_2059 v_2060 v_2061 v_2062 v_2063 v_2064 v_2065 v_2066 v_2067 v_2068 v_2069 v_2070 v_2071 v_2072 v_2073 v_2074 v_2076 v_2077 v_2078 v_2079 v_2081 v_2082 v_2083 v_2084 v_2086 v_2087 v_2088 v_2089 v_2091 v_2092 v_2093 v_2094 v_2095 v_2096 v_2097 v_2098 v_2099 v_2100 v_2101 v_2102 v_2103 v_2104 v_2105 v_2106 v_2107 v_2108 v_2109 v_2110 v_2111 v_2112 v_2113 v_2114 v_2115 v_2116 v_2117 v_2118 v_2119 : V) (w_901 w_902 : ByteArray) (b_903 b_904 : Bool) (K : V → S → Option R) (T : Code) : ZeU C (Zd0 N) Zac (Zfo 1 (Zcc 9 Zhr) T) [1, 1, 1, 1, 1, 1, 1, 1, 1] (Zn5 e_1 f_2 e_3 f_4 v_2007 v_2008 v_2009 v_2010 v_2013 v_2014 v_2015 v_2016 v_2017 v_2018 v_2042 v_2043 v_2045 v_2046 v_2047 v_2048 v_2049 v_2050 v_2051 v_2052 v_2053 v_2054 v_2055 v_2056 v_2057 v_2058 v_2059 v_2060 v_2061 v_2062 v_2063 v_2064 v_2065 v_2066 v_2067 v_2068 v_2069 v_2070 v_2071 v_2072 v_2073 v_2074 v_2076 v_2077 v_2078 v_2079 v_2081 v_2082 v_2083 v_2084 v_2086 v_2087 v_2088 v_2089 v_2091 v_2092 v_2093 v_2094 v_2095 v_2096 v_2097 v_2098 v_2099 v_2100 v_2101 v_2102 v_2103 v_2104 v_2105 v_2106 v_2107 v_2108 v_2109 v_2110 v_2111 v_2112 v_2113 v_2114 v_2115 v_2116 v_2117 v_2118 v_2119 w_901 w_902 b_903 b_904) [] (ZpV C 4 Tryd.f4 K) =
 ZhX N e_1 f_2 e_3 f_4 v_2007 v_2008 v_2009 v_2010 v_2013 v_2014 v_2015 v_2016 v_2017 v_2018 v_2042 v_2043 v_2045 v_2046 v_2047 v_2048 v_2049 v_2050 v_2051 v_2052 v_2053 v_2054 v_2055 v_2056 v_2057 v_2058 v_2059 v_2060 v_2061 v_2062 v_2063 v_2064 v_2065 v_2066 v_2067 v_2068 v_2069 v_2070 v_2071 v_2072 v_2073 v_2074 v_2076 v_2077 v_2078 v_2079 v_2081 v_2082 v_2083 v_2084 v_2086 v_2087 v_2088 v_2089 v_2091 v_2092 v_2093 v_2094 v_2095 v_2096 v_2097 v_2098 v_2099 v_2100 v_2101 v_2102 v_2103 v_2104 v_2105 v_2106 v_2107 v_2108 v_2109 v_2110 v_2111 v_2112 v_2113 v_2114 v_2115 v_2116 v_2117 v_2118 v_2119 w_901 w_902 b_903 b_904 (fun v_3005 v_3006 v_3007 v_3008 v_3009 v_3010 v_3011 v_3012 v_3013 v_3014 v_3015 v_3016 v_3017 v_3018 v_3019 v_3020 v_3021 v_3022 v_3023 v_3024 v_3025 v_3026 v_3027 v_3028 v_3042 v_3043 v_3045 v_3046 v_3047 v_3048 v_3049 v_3050 v_3051 v_3052 v_3053 v_3054 v_3055 v_3056 v_3057 v_3058 v_3059 v_3060 v_3061 v_3062 v_3063 v_3064 v_3065 v_3066 v_3067 v_3068 v_3069 v_3070 v_3071 v_3072 v_3073 v_3074 v_3076 v_3077 v_3078 v_3079 v_3081 v_3082 v_3083 v_3084 v_3086 v_3087 v_3088 v_3089 v_3091 v_3092 v_3093 v_3094 v_3095 v_3096 v_3097 v_3098 v_3099 v_3100 v_3101 v_3102 v_3103 v_3104 v_3105 v_3106 v_3107 v_3108 v_3109 v_3110 v_3111 v_3112 v_3113 v_3114 v_3115 v_3116 v_3117 v_3118 v_3119 v_3120 v_3121 v_3122 v_3123 v_3124 v_3125 v_3126 v_3127 v_3128 v_3129 v_3130 v_3131 v_3132 v_3133 v_3134 v_3135 v_3136 v_3137 v_3138 v_3139 v_3140 v_3141 v_3142 v_3143 v_3144 v_3145 v_3146 v_3147 v_3148 v_3149 v_3150 v_3151 v_3152 v_3153 v_3154 v_3155 v_3156 v_3157 v_3158 v_3159 v_3160 v_3161 v_3162 v_3163 v_3164 v_3165 v_3166 v_3167 v_3168 v_3169 v_3170 v_3171 v_3172 v_3173 v_3174 v_3175 v_3176 v_3177 v_3178 v_3179 => ZeU C (Zd0 N) Zac T [1, 1, 1, 1, 1, 1, 1, 1, 1, 1] (Ztu e_1 f_2 e_3 f_4 v_3005 v_3006 v_3007 v_3008 v_3009 v_3010 v_3011 v_3012 v_3013 v_3014 v_3015 v_3016 v_3017 v_3018 v_3019 v_3020 v_3021 v_3022 v_3023 v_3024 v_3025 v_3026 v_3027 v_3028 v_3042 v_3043 v_3045 v_3046 v_3047 v_3048 v_3049 v_3050 v_3051 v_3052 v_3053 v_3054 v_3055 v_3056 v_3057 v_3058 v_3059 v_3060 v_3061 v_3062 v_3063 v_3064 v_3065 v_3066 v_3067 v_3068 v_3069 v_3070 v_3071 v_3072 v_3073 v_3074 v_3076 v_3077 v_3078 v_3079 v_3081 v_3082 v_3083 v_3084 v_3086 v_3087 v_3088 v_3089 v_3091 v_3092 v_3093 v_3094 v_3095 v_3096 v_3097 v_3098 v_3099 v_3100 v_3101 v_3102 v_3103 v_3104 v_3105 v_3106 v_3107 v_3108 v_3109 v_3110 v_3111 v_3112 v_3113 v_3114 v_3115 v_3116 v_3117 v_3118 v_3119 v_3120 v_3121 v_3122 v_3123 v_3124 v_3125 v_3126 v_3127 v_3128 v_3129 v_3130 v_3131 v_3132 v_3133 v_3134 v_3135 v_3136 v_3137 v_3138 v_3139 v_3140 v_3141 v_3142 v_3143 v_3144 v_3145 v_3146 v_3147 v_3148 v_3149 v_3150 v_3151 v_3152 v_3153 v_3154 v_3155 v_3156 v_3157 v_3158 v_3159 v_3160 v_3161 v_3162 v_3163 v_3164 v_3165 v_3166 v_3167 v_3168 v_3169 v_3170 v_3171 v_3172 v_3173 v_3174 v_3175 v_3176 v_3177 v_3178 v_3179) [] (ZpV C 4 Tryd.f4 K)) (fun b_5 => K (.bool b_5) []) := by kernel_rfl
theorem ZAK {R : Type} (N : Nat) (e_1 : List V) (f_2 : Fl) (e_3 : List V) (f_4 : Fl) (v_3005 v_3006 v_3007 v_3008 v_3009 v_3010 v_3011 v_3012 v_3013 v_3014 v_3015 v_3016 v_3017 v_3018 v_3019 v_3020 v_3021 v_3022 v_3023 v_3024 v_3025 v_3026 v_3027 v_3028 v_3042 v_3043 v_3045 v_3046 v_3047 v_3048 v_3049 v_3050 v_3051 v_3052 v_3053 v_3054 v_3055 v_3056 v_3057 v_3058 v_3059 v_3060 v_3061 v_3062 v_3063 v_3064 v_3065 v_3066 v_3067 v_3068 v_3069 v_3070 v_3071 v_3072 v_3073 v_3074 v_3076 v_3077 v_3078 v_3079 v_3081 v_3082 v_3083 v_3084 v_3086 v_3087 v_3088 v_3089 v_3091 v_3092 v_3093 v_3094 v_3095 v_3096 v_3097 v_3098 v_3099 v_3100 v_3101 v_3102 v_3103 v_3104 v_3105 v_3106 v_3107 v_3108 v_3109 v_3110 v_3111 v_3112 v_3113 v_3114 v_3115 v_3116 v_3117 v_3118 v_3119 v_3120 v_3121 v_3122 v_3123 v_3124 v_3125 v_3126 v_3127 v_3128 v_3129 v_3130 v_3131 v_3132 v_3133 v_3134 v_3135 v_3136 v_3137 v_3138 v_3139 v_3140 v_3141 v_3142 v_3143 v_3144 v_3145 v_3146 v_3147 v_3148 v_3149 v_3150 v_3151 v_3152 v_3153 v_3154 v_3155 v_3156 v_3157 v_3158 v_3159 v_3160 v_3161 v_3162 v_3163 v_3164 v_3165 v_3166 v_3167 v_3168 v_3169 v_3170 v_3171 v_3172 v_3173 v_3174 v_3175 v_3176 v_3177 v_3178 v_3179 : V) (K : V → S → Option R) : ZeU C (Zd0 N) Zac (Zcc 10 Zhr) [1, 1, 1, 1, 1, 1, 1, 1, 1, 1] (Ztu e_1 f_2 e_3 f_4 v_3005 v_3006 v_3007 v_3008 v_3009 v_3010 v_3011 v_3012 v_3013 v_3014 v_3015 v_3016 v_3017 v_3018 v_3019 v_3020 v_3021 v_3022 v_3023 v_3024 v_3025 v_3026 v_3027 v_3028 v_3042 v_3043 v_3045 v_3046 v_3047 v_3048 v_3049 v_3050 v_3051 v_3052 v_3053 v_3054 v_3055 v_3056 v_3057 v_3058 v_3059 v_3060 v_3061 v_3062 v_3063 v_3064 v_3065 v_3066 v_3067 v_3068 v_3069 v_3070 v_3071 v_3072 v_3073 v_3074 v_3076 v_3077 v_3078 v_3079 v_3081 v_3082 v_3083 v_3084 v_3086 v_3087 v_3088 v_3089 v_3091 v_3092 v_3093 v_3094 v_3095 v_3096 v_3097 v_3098 v_3099 v_3100 v_3101 v_3102 v_3103 v_3104 v_3105 v_3106 v_3107 v_3108 v_3109 v_3110 v_3111 v_3112 v_3113 v_3114 v_3115 v_3116 v_3117 v_3118 v_3119 v_3120 v_3121 v_3122 v_3123 v_3124 v_3125 v_3126 v_3127 v_3128 v_3129 v_3130 v_3131 v_3132 v_3133 v_3134 v_3135 v_3136 v_3137 v_3138 v_3139 v_3140 v_3141 v_3142 v_3143 v_3144 v_3145 v_3146 v_3147 v_3148 v_3149 v_3150 v_3151 v_3152 v_3153 v_3154 v_3155 v_3156 v_3157 v_3158 v_3159 v_3160 v_3161 v_3162 v_3163 v_3164 v_3165 v_3166 v_3167 v_3168 v_3169 v_3170 v_3171 v_3172 v_3173 v_3174 v_3175 v_3176 v_3177 v_3178 v_3179) [] (ZpV C 4 Tryd.f4 K) =
 Zjt N e_1 f_2 e_3 f_4 (fun b_5 => K (.bool b_5) []) := by kernel_rfl
theorem b_zbp {R : Type} (N : Nat) (e_1 : List V) (f_2 : Fl) (e_3 : List V) (f_4 : Fl) (K : V → S → Option R) : ZaV C (Zd0 N) Zac 4 Tryd.f4 [.list 1 e_1 f_2, .list 1 e_3 f_4] [] K =
 Zhn N e_1 f_2 e_3 f_4 (fun b_5 => K (.bool b_5) []) := by
 refine (ZrE (c := Zhr) (by kernel_rfl)).trans ?_
 unfold Zhn
 refine (congrArg (fun c => ZeU C (Zd0 N) Zac c [] ([.list 1 e_1 f_2, .list 1 e_3 f_4] ++ List.replicate (Tryd.f4.ntmps - ([.list 1 e_1 f_2, .list 1 e_3 f_4] : List V).length) .dead) [] (ZpV C 4 Tryd.f4 K)) (ZdE 8 Zhr)).symm.trans ?_
 refine (ZzR N _ _ _ _ K _).trans ?_
 refine congrArg (fun j => Zpt N e_1 f_2 e_3 f_4 j (fun b_5 => K (.bool b_5) [])) ?_
 funext v_1009 v_1010 v_1013 v_1014 v_1042 v_1043 v_1045 v_1046 v_1047 v_1048 v_1049 v_1050 v_1051 v_1052 v_1053 v_1054 v_1055 v_1056 v_1057 v_1058 v_1059 v_1060 v_1061 v_1062 v_1063 v_1064 v_1065 v_1066 v_1067 v_1068 v_1069 v_1070 v_1071 v_1072 v_1073 v_1074 v_1076 v_1077 v_1078 v_1079 v_1081 v_1082 v_1083 v_1084 v_1086 v_1087 v_1088 v_1089 v_1091 v_1092 v_1093 v_1094 v_1095 v_1096 v_1097 w_801 w_802 w_803 b_804 b_805 b_806
 skip
 refine (congrArg (fun c => ZeU C (Zd0 N) Zac c [1, 1, 1, 1, 1, 1, 1, 1] (Zr6 e_1 f_2 e_3 f_4 v_1009 v_1010 v_1013 v_1014 v_1042 v_1043 v_1045 v_1046 v_1047 v_1048 v_1049 v_1050 v_1051 v_1052 v_1053 v_1054 v_1055 v_1056 v_1057 v_1058 v_1059 v_1060 v_1061 v_1062 v_1063 v_1064 v_1065 v_1066 v_1067 v_1068 v_1069 v_1070 v_1071 v_1072 v_1073 v_1074 v_1076 v_1077 v_1078 v_1079 v_1081 v_1082 v_1083 v_1084 v_1086 v_1087 v_1088 v_1089 v_1091 v_1092 v_1093 v_1094 v_1095 v_1096 v_1097 w_801 w_802 w_803 b_804 b_805 b_806) [] (ZpV C 4 Tryd.f4 K)) (ZdE 1 (Zcc 8 Zhr))).symm.trans ?_
 refine (ZAM N _ _ _ _ _ _ _ _ _ _ _ _ _ _ _ _ _ _ _ _ _ _ _ _ _ _ _ _ _ _ _ _ _ _ _ _ _ _ _ _ _ _ _ _ _ _ _ _ _ _ _ _ _ _ _ _ _ _ _ _ _ _ _ _ _ K _).trans ?_
 refine congrArg (fun j => ZhM N e_1 f_2 e_3 f_4 v_1009 v_1010 v_1013 v_1014 v_1042 v_1043 v_1045 v_1046 v_1047 v_1048 v_1049 v_1050 v_1051 v_1052 v_1053 v_1054 v_1055 v_1056 v_1057 v_1058 v_1059 v_1060 v_1061 v_1062 v_1063 v_1064 v_1065 v_1066 v_1067 v_1068 v_1069 v_1070 v_1071 v_1072 v_1073 v_1074 v_1076 v_1077 v_1078 v_1079 v_1081 v_1082 v_1083 v_1084 v_1086 v_1087 v_1088 v_1089 v_1091 v_1092 v_1093 v_1094 v_1095 v_1096 v_1097 w_801 w_802 w_803 b_804 b_805 b_806 j (fun b_5 => K (.bool b_5) [])) ?_
 funext v_2007 v_2008 v_2009 v_2010 v_2013 v_2014 v_2015 v_2016 v_2017 v_2018 v_2042 v_2043 v_2045 v_2046 v_2047 v_2048 v_2049 v_2050 v_2051 v_2052 v_2053 v_2054 v_2055 v_2056 v_2057 v_2058 v_2059 v_2060 v_2061 v_2062 v_2063 v_2064 v_2065 v_2066 v_2067 v_2068 v_2069 v_2070 v_2071 v_2072 v_2073 v_2074 v_2076 v_2077 v_2078 v_2079 v_2081 v_2082 v_2083 v_2084 v_2086 v_2087 v_2088 v_2089 v_2091 v_2092 v_2093 v_2094 v_2095 v_2096 v_2097 v_2098 v_2099 v_2100 v_2101 v_2102 v_2103 v_2104 v_2105 v_2106 v_2107 v_2108 v_2109 v_2110 v_2111 v_2112 v_2113 v_2114 v_2115 v_2116 v_2117 v_2118 v_2119 w_901 w_902 b_903 b_904
 refine (congrArg (fun c => ZeU C (Zd0 N) Zac c [1, 1, 1, 1, 1, 1, 1, 1, 1] (Zn5 e_1 f_2 e_3 f_4 v_2007 v_2008 v_2009 v_2010 v_2013 v_2014 v_2015 v_2016 v_2017 v_2018 v_2042 v_2043 v_2045 v_2046 v_2047 v_2048 v_2049 v_2050 v_2051 v_2052 v_2053 v_2054 v_2055 v_2056 v_2057 v_2058 v_2059 v_2060 v_2061 v_2062 v_2063 v_2064 v_2065 v_2066 v_2067 v_2068 v_2069 v_2070 v_2071 v_2072 v_2073 v_2074 v_2076 v_2077 v_2078 v_2079 v_2081 v_2082 v_2083 v_2084 v_2086 v_2087 v_2088 v_2089 v_2091 v_2092 v_2093 v_2094 v_2095 v_2096 v_2097 v_2098 v_2099 v_2100 v_2101 v_2102 v_2103 v_2104 v_2105 v_2106 v_2107 v_2108 v_2109 v_2110 v_2111 v_2112 v_2113 v_2114 v_2115 v_2116 v_2117 v_2118 v_2119 w_901 w_902 b_903 b_904) [] (ZpV C 4 Tryd.f4 K)) (Ze0 1 8 9 rfl Zhr)).trans ?_
 refine (congrArg (fun c => ZeU C (Zd0 N) Zac c [1, 1, 1, 1, 1, 1, 1, 1, 1] (Zn5 e_1 f_2 e_3 f_4 v_2007 v_2008 v_2009 v_2010 v_2013 v_2014 v_2015 v_2016 v_2017 v_2018 v_2042 v_2043 v_2045 v_2046 v_2047 v_2048 v_2049 v_2050 v_2051 v_2052 v_2053 v_2054 v_2055 v_2056 v_2057 v_2058 v_2059 v_2060 v_2061 v_2062 v_2063 v_2064 v_2065 v_2066 v_2067 v_2068 v_2069 v_2070 v_2071 v_2072 v_2073 v_2074 v_2076 v_2077 v_2078 v_2079 v_2081 v_2082 v_2083 v_2084 v_2086 v_2087 v_2088 v_2089 v_2091 v_2092 v_2093 v_2094 v_2095 v_2096 v_2097 v_2098 v_2099 v_2100 v_2101 v_2102 v_2103 v_2104 v_2105 v_2106 v_2107 v_2108 v_2109 v_2110 v_2111 v_2112 v_2113 v_2114 v_2115 v_2116 v_2117 v_2118 v_2119 w_901 w_902 b_903 b_904) [] (ZpV C 4 Tryd.f4 K)) (ZdE 1 (Zcc 9 Zhr))).symm.trans ?_
 refine (ZAX N _ _ _ _ _ _ _ _ _ _ _ _ _ _ _ _ _ _ _ _ _ _ _ _ _ _ _ _ _ _ _ _ _ _ _ _ _ _ _ _ _ _ _ _ _ _ _ _ _ _ _ _ _ _ _ _ _ _ _ _ _ _ _ _ _ _ _ _ _ _ _ _ _ _ _ _ _ _ _ _ _ _ _ _ _ _ _ _ _ _ _ K _).trans ?_
 refine congrArg (fun j => ZhX N e_1 f_2 e_3 f_4 v_2007 v_2008 v_2009 v_2010 v_2013 v_2014 v_2015 v_2016 v_2017 v_2018 v_2042 v_2043 v_2045 v_2046 v_2047 v_2048 v_2049 v_2050 v_2051 v_2052 v_2053 v_2054 v_2055 v_2056 v_2057 v_2058 v_2059 v_2060 v_2061 v_2062 v_2063 v_2064 v_2065 v_2066 v_2067 v_2068 v_2069 v_2070 v_2071 v_2072 v_2073 v_2074 v_2076 v_2077 v_2078 v_2079 v_2081 v_2082 v_2083 v_2084 v_2086 v_2087 v_2088 v_2089 v_2091 v_2092 v_2093 v_2094 v_2095 v_2096 v_2097 v_2098 v_2099 v_2100 v_2101 v_2102 v_2103 v_2104 v_2105 v_2106 v_2107 v_2108 v_2109 v_2110 v_2111 v_2112 v_2113 v_2114 v_2115 v_2116 v_2117 v_2118 v_2119 w_901 w_902 b_903 b_904 j (fun b_5 => K (.bool b_5) [])) ?_
 funext v_3005 v_3006 v_3007 v_3008 v_3009 v_3010 v_3011 v_3012 v_3013 v_3014 v_3015 v_3016 v_3017 v_3018 v_3019 v_3020 v_3021 v_3022 v_3023 v_3024 v_3025 v_3026 v_3027 v_3028 v_3042 v_3043 v_3045 v_3046 v_3047 v_3048 v_3049 v_3050 v_3051 v_3052 v_3053 v_3054 v_3055 v_3056 v_3057 v_3058 v_3059 v_3060 v_3061 v_3062 v_3063 v_3064 v_3065 v_3066 v_3067 v_3068 v_3069 v_3070 v_3071 v_3072 v_3073 v_3074 v_3076 v_3077 v_3078 v_3079 v_3081 v_3082 v_3083 v_3084 v_3086 v_3087 v_3088 v_3089 v_3091 v_3092 v_3093 v_3094 v_3095 v_3096 v_3097 v_3098 v_3099 v_3100 v_3101 v_3102 v_3103 v_3104 v_3105 v_3106 v_3107 v_3108 v_3109 v_3110 v_3111 v_3112 v_3113 v_3114 v_3115 v_3116 v_3117 v_3118 v_3119 v_3120 v_3121 v_3122 v_3123 v_3124 v_3125 v_3126 v_3127 v_3128 v_3129 v_3130 v_3131 v_3132 v_3133 v_3134 v_3135 v_3136 v_3137 v_3138 v_3139 v_3140 v_3141 v_3142 v_3143 v_3144 v_3145 v_3146 v_3147 v_3148 v_3149 v_3150 v_3151 v_3152 v_3153 v_3154 v_3155 v_3156 v_3157 v_3158 v_3159 v_3160 v_3161 v_3162 v_3163 v_3164 v_3165 v_3166 v_3167 v_3168 v_3169 v_3170 v_3171 v_3172 v_3173 v_3174 v_3175 v_3176 v_3177 v_3178 v_3179
 refine (congrArg (fun c => ZeU C (Zd0 N) Zac c [1, 1, 1, 1, 1, 1, 1, 1, 1, 1] (Ztu e_1 f_2 e_3 f_4 v_3005 v_3006 v_3007 v_3008 v_3009 v_3010 v_3011 v_3012 v_3013 v_3014 v_3015 v_3016 v_3017 v_3018 v_3019 v_3020 v_3021 v_3022 v_3023 v_3024 v_3025 v_3026 v_3027 v_3028 v_3042 v_3043 v_3045 v_3046 v_3047 v_3048 v_3049 v_3050 v_3051 v_3052 v_3053 v_3054 v_3055 v_3056 v_3057 v_3058 v_3059 v_3060 v_3061 v_3062 v_3063 v_3064 v_3065 v_3066 v_3067 v_3068 v_3069 v_3070 v_3071 v_3072 v_3073 v_3074 v_3076 v_3077 v_3078 v_3079 v_3081 v_3082 v_3083 v_3084 v_3086 v_3087 v_3088 v_3089 v_3091 v_3092 v_3093 v_3094 v_3095 v_3096 v_3097 v_3098 v_3099 v_3100 v_3101 v_3102 v_3103 v_3104 v_3105 v_3106 v_3107 v_3108 v_3109 v_3110 v_3111 v_3112 v_3113 v_3114 v_3115 v_3116 v_3117 v_3118 v_3119 v_3120 v_3121 v_3122 v_3123 v_3124 v_3125 v_3126 v_3127 v_3128 v_3129 v_3130 v_3131 v_3132 v_3133 v_3134 v_3135 v_3136 v_3137 v_3138 v_3139 v_3140 v_3141 v_3142 v_3143 v_3144 v_3145 v_3146 v_3147 v_3148 v_3149 v_3150 v_3151 v_3152 v_3153 v_3154 v_3155 v_3156 v_3157 v_3158 v_3159 v_3160 v_3161 v_3162 v_3163 v_3164 v_3165 v_3166 v_3167 v_3168 v_3169 v_3170 v_3171 v_3172 v_3173 v_3174 v_3175 v_3176 v_3177 v_3178 v_3179) [] (ZpV C 4 Tryd.f4 K)) (Ze0 1 9 10 rfl Zhr)).trans ?_
 exact ZAK N _ _ _ _ _ _ _ _ _ _ _ _ _ _ _ _ _ _ _ _ _ _ _ _ _ _ _ _ _ _ _ _ _ _ _ _ _ _ _ _ _ _ _ _ _ _ _ _ _ _ _ _ _ _ _ _ _ _ _ _ _ _ _ _ _ _ _ _ _ _ _ _ _ _ _ _ _ _ _ _ _ _ _ _ _ _ _ _ _ _ _ _ _ _ _ _ _ _ _ _ _ _ _ _ _ _ _ _ _ _ _ _ _ _ _ _ _ _ _ _ _ _ _ _ _ _ _ _ _ _ _ _ _ _ _ _ _ _ _ _ _ _ _ _ _ _ _ _ _ _ _ _ _ _ _ _ _ _ _ _ _ K
theorem Zxl (hC : Ok Tryd.prog C) {N : Nat} (hΦ : Zaa Tryd.prog C (Zd0 N)) : Zaa Tryd.prog C (ZzP N) := by
 refine hΦ.add_pure rfl fun R vs K r h => ?_
 unfold Zyr at h
 obtain ⟨_, _, rfl, h1⟩ := ZaG h
 obtain ⟨_, _, rfl, h2⟩ := Zat h1
 obtain ⟨_, _, rfl, h3⟩ := Zat h2
 obtain ⟨_, h4⟩ := Zaf h3
 refine Zap (fn := Tryd.f4) (c := Zhr) hC hΦ Tryd.func4 (by kernel_rfl) (by kernel_rfl) (Zag (Λ := Zac) (by kernel_rfl)) rfl rfl ?_
 refine (b_zbp N _ _ _ _ _).trans ?_
 rw [← Zu9]
 exact h4
theorem callee_zbp_prev (hC : Ok Tryd.prog C) (N : Nat) : Zaa Tryd.prog C (Zd0 N) :=
 have h0 := ZlF Tryd.prog C
 have h1 := ZqI hC (N := N) h0
 have h2 := ZqN hC (N := N) h1
 have h3 := Zq4 hC (N := N) h2
 have h4 := Zra hC (N := N) h3
 have h5 := ZqT hC (N := N) h4
 have h6 := ZpF hC (N := N) h5
 have h7 := ZpI hC (N := N) h6
 have h8 := Zp1 hC (N := N) h7
 have h9 := Zqb hC (N := N) h8
 have h10 := ZqY hC (N := N) h9
 have h11 := Zqp hC (N := N) h10
 have h12 := Zq7 hC (N := N) h11
 have h13 := Zp8 hC (N := N) h12
 have h14 := ZpM hC (N := N) h13
 have h15 := ZpW hC (N := N) h14
 have h16 := Zp2 hC (N := N) h15
 have h17 := ZqS hC (N := N) h16
 have h18 := Zq5 hC (N := N) h17
 have h19 := Zq2 hC (N := N) h18
 have h20 := ZqE hC (N := N) h19
 have h21 := Zq9 hC (N := N) h20
 have h22 := Zqs hC (N := N) h21
 have h23 := ZqU hC (N := N) h22
 have h24 := Zp0 hC (N := N) h23
 have h25 := ZpQ hC (N := N) h24
 have h26 := Zp3 hC (N := N) h25
 have h27 := Zq0 hC (N := N) h26
 have h28 := Zrb hC (N := N) h27
 have h29 := Zqa hC (N := N) h28
 have h30 := Zq3 hC (N := N) h29
 have h31 := Zpz hC (N := N) h30
 have h32 := Zqq hC (N := N) h31
 have h33 := Zqn hC (N := N) h32
 have h34 := Zqm hC (N := N) h33
 have h35 := ZpA hC (N := N) h34
 have h36 := ZqZ hC (N := N) h35
 have h37 := Zqj hC (N := N) h36
 have h38 := Zpx hC (N := N) h37
 have h39 := Zqz hC (N := N) h38
 have h40 := ZqR hC (N := N) h39
 have h41 := Zp5 hC (N := N) h40
 have h42 := Zqg hC (N := N) h41
 have h43 := ZqJ hC (N := N) h42
 have h44 := ZpO hC (N := N) h43
 have h45 := Zqr hC (N := N) h44
 have h46 := ZpC hC (N := N) h45
 have h47 := Zqi hC (N := N) h46
 have h48 := ZpU hC (N := N) h47
 have h49 := Zqd hC (N := N) h48
 have h50 := ZqF hC (N := N) h49
 have h51 := Zqw hC (N := N) h50
 have h52 := Zqe hC (N := N) h51
 have h53 := Zqk hC (N := N) h52
 have h54 := ZqB hC (N := N) h53
 have h55 := ZpT hC (N := N) h54
 have h56 := ZpJ hC (N := N) h55
 have h57 := Zq6 hC (N := N) h56
 have h58 := ZqX hC (N := N) h57
 have h59 := Zqc hC (N := N) h58
 have h60 := ZqP hC (N := N) h59
 have h61 := Zp6 hC (N := N) h60
 have h62 := Zqu hC (N := N) h61
 have h63 := ZqL hC (N := N) h62
 have h64 := Zql hC (N := N) h63
 have h65 := ZqH hC (N := N) h64
 have h66 := ZpR hC (N := N) h65
 have h67 := Zqt hC (N := N) h66
 have h68 := Zqo hC (N := N) h67
 have h69 := ZpB hC (N := N) h68
 h69
end
end Go.VM.VL
