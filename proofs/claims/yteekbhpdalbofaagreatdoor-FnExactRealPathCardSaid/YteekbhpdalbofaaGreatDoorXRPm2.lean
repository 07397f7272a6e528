/- The functions of the program, told plainly: what each computes, as a function of its letters; and that the machine does the same. Printed by vgen.py, a program of this session's own. -/
import Derived.Test.YteekbhpdalbofaaGreatDoorXRPm1
set_option linter.unusedVariables false
namespace Go.VM.VL
noncomputable section
open Go.Proofs
def ZJl (N : Nat) : (R : Type) → List V → S → (V → S → Option R) → Option R := fun _ vs s K =>
 Zcf vs fun v'1 => Zbt v'1 fun w_1 => ZaI s <| ZHe N w_1 (fun b_2 => K (.bool b_2) [])
def Zs7 (N : Nat) : Zar := (ZEO N).add 186 (ZJl N)
def ZLI : Code := ZaK Tryz.f186
theorem ZNG {R : Type} (N : Nat) (w_1 : ByteArray) (K : V → S → Option R) : Za0 C (ZEO N) (Zac) 186 Tryz.f186 [.str w_1] [] K =
 ZnT N w_1 (fun b_2 => K (.bool b_2) []) := by kernel_rfl
theorem ZyQ (hC : Ok Tryz.prog C) {N : Nat} (hΦ : Zaa Tryz.prog C (ZEO N)) : Zaa Tryz.prog C (Zs7 N) := by
 refine hΦ.add_pure rfl fun R vs K r h => ?_
 unfold ZJl at h
 obtain ⟨_, rfl, h1⟩ := Zaq h
 obtain ⟨_, rfl, h2⟩ := Zav h1
 obtain ⟨_, h3⟩ := Zae h2
 refine Zam (fn := Tryz.f186) (c := ZLI) hC hΦ Tryz.func186 (by kernel_rfl) (by kernel_rfl) (Zah (Λ := Zac) (by kernel_rfl)) rfl rfl ?_
 refine (ZNG N _ _).trans ?_
 rw [← ZwN]
 exact h3
def ZKZ (N : Nat) : (R : Type) → List V → S → (V → S → Option R) → Option R := fun _ vs s K =>
 Zch vs fun v'1 v'2 => ZaQ 1 v'1 fun e_1 f_2 => Zzm 186 v'2 fun c'3 => Zzk c'3 <| ZaI s <| ZHh N e_1 f_2 (fun x_3 => K (.int .i64 x_3) [])
def ZEx (N : Nat) : Zar := (Zs7 N).addIf 173 (fun l => ZLm 1 186 l) (ZKZ N)
def ZzR : Code := ZaK Tryz.f173
def ZqN : Code := (Zbo ZzR [] 0).2
def Zlt : List Nat := ZbQ 19 [0, 1, 7, 8]
def Zwm : List Nat := ZbQ 19 [4]
def Zi0 (e_1 : List V) (f_2 : Fl) (x_3 x_4 : Int) : List V := mkF 0 19 [(0, .list 1 e_1 f_2), (1, .fn 186 []), (7, .int .i64 x_3), (8, .int .i64 x_4)]
def ZgA {R : Type} (K : X → List V → S → Option R) (e_1 : List V) (f_2 : Fl) (x_3 : Int) : Int → Option R := (fun x_1' => K .ret (mkF 0 19 [(4, .int .i64 (x_1'))]) [])
def ZhT {R : Type} (K : X → List V → S → Option R) (e_1 : List V) (f_2 : Fl) (x_3 : Int) : Unit → Option R := (fun _ => K (.exit 0) (mkF 0 19 []) [])
abbrev ZlV {R : Type} (N : Nat) : Nat → List V → S → (X → List V → S → Option R) → Option R := fun n => Zdx C (Zs7 N) (Zac) ZqN [0, 1, 0, 1] false Zlt Zwm n R
theorem ZG4 {R : Type} (N n : Nat) (e_1 : List V) (f_2 : Fl) (x_3 : Int) (x_4 : Int) (K : X → List V → S → Option R) :
 ZlV N (n + 1) (Zi0 e_1 f_2 x_3 x_4) [] K =
 Zdf N e_1 f_2 x_3 (fun x_4 => ZlV N n (Zi0 e_1 f_2 x_3 x_4) [] K) x_4 (ZgA K e_1 f_2 x_3) (ZhT K e_1 f_2 x_3) := by kernel_rfl
theorem ZBM {R : Type} (N : Nat) (e_1 : List V) (f_2 : Fl) (x_3 : Int) (K : X → List V → S → Option R) : ∀ (n : Nat) (x_4 : Int),
 ZlV N n (Zi0 e_1 f_2 x_3 x_4) [] K = ZfY N e_1 f_2 x_3 (ZgA K e_1 f_2 x_3) (ZhT K e_1 f_2 x_3) n x_4
 | 0, _ => rfl
 | n + 1, x_4 => (ZG4 N n e_1 f_2 x_3 x_4 K).trans (congrArg (fun nx => Zdf N e_1 f_2 x_3 nx x_4 (ZgA K e_1 f_2 x_3) (ZhT K e_1 f_2 x_3)) (funext fun x_4 => ZBM N e_1 f_2 x_3 K n x_4))
def Zq9 {R : Type} (E : List V) (s : S) (k : List V → Fl → Int → Int → Option R) : Option R :=
 Zao (Za1 19 [0, 1, 7, 8] E) <| Zbr E 0 1 fun e_1 f_2 => Zbq (nth E 1) fun u1 => Zzm 186 u1 fun c'1 => Zzk c'1 <| ZaT E 7 .i64 fun x_3 => ZaT E 8 .i64 fun x_4 => ZaI s <| k e_1 f_2 x_3 x_4
theorem Znx {R : Type} {E : List V} {s : S} {k : List V → Fl → Int → Int → Option R} {r : R} (h : Zq9 E s k = some r) : ∃ e_1 f_2 x_3 x_4, E = Zi0 e_1 f_2 x_3 x_4 ∧ s = [] ∧ k e_1 f_2 x_3 x_4 = some r := by
 unfold Zq9 at h
 obtain ⟨hg, h1⟩ := Zad h
 obtain ⟨_, _, hu0, h2⟩ := Zax h1
 obtain ⟨_, hu1, h3⟩ := Zag h2
 obtain ⟨_, rfl, h4⟩ := Zco h3
 obtain ⟨rfl, h5⟩ := Zcn h4
 obtain ⟨_, hu7, h6⟩ := Zai h5
 obtain ⟨_, hu8, h7⟩ := Zai h6
 obtain ⟨rfl, h8⟩ := Zae h7
 exact ⟨_, _, _, _, ZaP hg rfl (Zab hu0 (Zab hu1 (Zab hu7 (Zab hu8 ZaG)))), rfl, h8⟩
def ZtJ (N : Nat) : ZaA := (Zac).add [0, 1, 0, 1] fun _ E s K => Zq9 (Zbd Zlt E) s fun e_1 f_2 x_3 x_4 => ZfY N e_1 f_2 x_3 (ZgA K e_1 f_2 x_3) (ZhT K e_1 f_2 x_3) N x_4
theorem ZDo {N : Nat} (hC : Ok Tryz.prog C) (hΦ : Zaa Tryz.prog C (Zs7 N)) : Za6 Tryz.prog C (ZtJ N) ZqN [0, 1, 0, 1] :=
 Za7 (Λi := Zac) (tr := false) (ks := Zlt) (kx := Zwm) (N := N) hC hΦ
  (Zah (by kernel_rfl))
  fun R E s K r h => by
   have h2 := ZaA.add_self.symm.trans h
   obtain ⟨_, _, _, _, he, rfl, h3⟩ := Znx h2
   rw [he]
   exact (ZBM N _ _ _ _ N _).trans h3
theorem ZJ5 : ZaX ZzR [] = [([0, 1, 0, 1], ZqN)] := by kernel_rfl
theorem ZL9 {R : Type} (N : Nat) (e_1 : List V) (f_2 : Fl) (K : V → S → Option R) : Za0 C (Zs7 N) (ZtJ N) 173 Tryz.f173 [.list 1 e_1 f_2, .fn 186 []] [] K =
 Zoq N e_1 f_2 (fun x_3 => K (.int .i64 x_3) []) := by kernel_rfl
theorem ZAg {N : Nat} (hC : Ok Tryz.prog C) (hΦ : Zaa Tryz.prog C (Zs7 N)) : ZaV Tryz.prog C (ZtJ N) ZzR [] :=
 ZaC ZzR [] (by
  rw [ZJ5]
  intro p hp
  simp only [List.mem_cons, List.mem_nil_iff, or_false] at hp
  rcases hp with rfl
  ·exact (ZDo hC hΦ))
theorem Zy6 (hC : Ok Tryz.prog C) {N : Nat} (hΦ : Zaa Tryz.prog C (Zs7 N)) : Zaa Tryz.prog C (ZEx N) := by
 refine hΦ.addIf_pure rfl fun R vs K r h => ?_
 unfold ZKZ at h
 obtain ⟨_, _, rfl, h1⟩ := Zap h
 obtain ⟨_, _, rfl, h2⟩ := Zaj h1
 obtain ⟨_, rfl, h3⟩ := Zco h2
 obtain ⟨rfl, h4⟩ := Zcn h3
 obtain ⟨_, h5⟩ := Zae h4
 refine Zam (fn := Tryz.f173) (c := ZzR) hC hΦ Tryz.func173 (by kernel_rfl) (by kernel_rfl) (ZAg (N := N) hC hΦ) rfl rfl ?_
 refine (ZL9 N _ _ _).trans ?_
 rw [← Zud]
 exact h5
def ZJW (N : Nat) : (R : Type) → List V → S → (V → S → Option R) → Option R := fun _ vs s K =>
 Zch vs fun v'1 v'2 => ZaQ 1 v'1 fun e_1 f_2 => Zzm 186 v'2 fun c'3 => Zzk c'3 <| ZaI s <| ZFN N e_1 f_2 (fun b_3 => K (.bool b_3) [])
def ZFQ (N : Nat) : Zar := (ZEx N).addIf 185 (fun l => ZLm 1 186 l) (ZJW N)
def ZLY : Code := ZaK Tryz.f185
theorem ZMs {R : Type} (N : Nat) (e_1 : List V) (f_2 : Fl) (K : V → S → Option R) : Za0 C (ZEx N) (Zac) 185 Tryz.f185 [.list 1 e_1 f_2, .fn 186 []] [] K =
 ZnA N e_1 f_2 (fun b_3 => K (.bool b_3) []) := by kernel_rfl
theorem ZyG (hC : Ok Tryz.prog C) {N : Nat} (hΦ : Zaa Tryz.prog C (ZEx N)) : Zaa Tryz.prog C (ZFQ N) := by
 refine hΦ.addIf_pure rfl fun R vs K r h => ?_
 unfold ZJW at h
 obtain ⟨_, _, rfl, h1⟩ := Zap h
 obtain ⟨_, _, rfl, h2⟩ := Zaj h1
 obtain ⟨_, rfl, h3⟩ := Zco h2
 obtain ⟨rfl, h4⟩ := Zcn h3
 obtain ⟨_, h5⟩ := Zae h4
 refine Zam (fn := Tryz.f185) (c := ZLY) hC hΦ Tryz.func185 (by kernel_rfl) (by kernel_rfl) (Zah (Λ := Zac) (by kernel_rfl)) rfl rfl ?_
 refine (ZMs N _ _ _).trans ?_
 rw [← Zvl]
 exact h5
def ZI8 (N : Nat) : (R : Type) → List V → S → (V → S → Option R) → Option R := fun _ vs s K =>
 Zcf vs fun v'1 => Zbt v'1 fun w_1 => ZaI s <| ZIf N w_1 (fun b_2 => K (.bool b_2) [])
def ZEK (N : Nat) : Zar := (ZFQ N).add 172 (ZI8 N)
def ZN9 : Code := ZaK Tryz.f172
theorem ZMv {R : Type} (N : Nat) (w_1 : ByteArray) (K : V → S → Option R) : Za0 C (ZFQ N) (Zac) 172 Tryz.f172 [.str w_1] [] K =
 ZpD N w_1 (fun b_2 => K (.bool b_2) []) := by kernel_rfl
theorem Zyf (hC : Ok Tryz.prog C) {N : Nat} (hΦ : Zaa Tryz.prog C (ZFQ N)) : Zaa Tryz.prog C (ZEK N) := by
 refine hΦ.add_pure rfl fun R vs K r h => ?_
 unfold ZI8 at h
 obtain ⟨_, rfl, h1⟩ := Zaq h
 obtain ⟨_, rfl, h2⟩ := Zav h1
 obtain ⟨_, h3⟩ := Zae h2
 refine Zam (fn := Tryz.f172) (c := ZN9) hC hΦ Tryz.func172 (by kernel_rfl) (by kernel_rfl) (Zah (Λ := Zac) (by kernel_rfl)) rfl rfl ?_
 refine (ZMv N _ _).trans ?_
 rw [← Zv8]
 exact h3
def ZLl (N : Nat) : (R : Type) → List V → S → (V → S → Option R) → Option R := fun _ vs s K =>
 Zcf vs fun v'1 => Zbt v'1 fun w_1 => ZaI s <| ZxT N w_1 (fun b_2 => K (.bool b_2) [])
def ZDS (N : Nat) : Zar := (ZEK N).add 150 (ZLl N)
def ZNi : Code := ZaK Tryz.f150
theorem ZNX {R : Type} (N : Nat) (w_1 : ByteArray) (K : V → S → Option R) : Za0 C (ZEK N) (Zac) 150 Tryz.f150 [.str w_1] [] K =
 Zqs N w_1 (fun b_2 => K (.bool b_2) []) := by kernel_rfl
theorem ZyX (hC : Ok Tryz.prog C) {N : Nat} (hΦ : Zaa Tryz.prog C (ZEK N)) : Zaa Tryz.prog C (ZDS N) := by
 refine hΦ.add_pure rfl fun R vs K r h => ?_
 unfold ZLl at h
 obtain ⟨_, rfl, h1⟩ := Zaq h
 obtain ⟨_, rfl, h2⟩ := Zav h1
 obtain ⟨_, h3⟩ := Zae h2
 refine Zam (fn := Tryz.f150) (c := ZNi) hC hΦ Tryz.func150 (by kernel_rfl) (by kernel_rfl) (Zah (Λ := Zac) (by kernel_rfl)) rfl rfl ?_
 refine (ZNX N _ _).trans ?_
 rw [← Zv6]
 exact h3
def ZIU (N : Nat) : (R : Type) → List V → S → (V → S → Option R) → Option R := fun _ vs s K =>
 Zcf vs fun v'1 => Zaw v'1 fun x_1 x_2 x_3 x_4 x_5 w_6 e_7 f_8 => ZaI s <| ZHA N x_1 x_2 x_3 x_4 x_5 w_6 e_7 f_8 (fun b_9 => K (.bool b_9) [])
def ZFX (N : Nat) : Zar := (ZDS N).add 169 (ZIU N)
def ZMp : Code := ZaK Tryz.f169
theorem ZNL {R : Type} (N : Nat) (x_1 x_2 x_3 x_4 x_5 : Int) (w_6 : ByteArray) (e_7 : List V) (f_8 : Fl) (K : V → S → Option R) : Za0 C (ZDS N) (Zac) 169 Tryz.f169 [.agg [.int .i64 x_1, .int .i64 x_2, .int .i64 x_3, .int .i64 x_4, .int .i64 x_5, .str w_6, .list 2 e_7 f_8]] [] K =
 ZpA N x_1 x_2 x_3 x_4 x_5 w_6 e_7 f_8 (fun b_9 => K (.bool b_9) []) := by kernel_rfl
theorem ZyU (hC : Ok Tryz.prog C) {N : Nat} (hΦ : Zaa Tryz.prog C (ZDS N)) : Zaa Tryz.prog C (ZFX N) := by
 refine hΦ.add_pure rfl fun R vs K r h => ?_
 unfold ZIU at h
 obtain ⟨_, rfl, h1⟩ := Zaq h
 obtain ⟨_, _, _, _, _, _, _, _, rfl, h2⟩ := ZbZ h1
 obtain ⟨_, h3⟩ := Zae h2
 refine Zam (fn := Tryz.f169) (c := ZMp) hC hΦ Tryz.func169 (by kernel_rfl) (by kernel_rfl) (Zah (Λ := Zac) (by kernel_rfl)) rfl rfl ?_
 refine (ZNL N _ _ _ _ _ _ _ _ _).trans ?_
 rw [← ZvJ]
 exact h3
def ZJG (N : Nat) : (R : Type) → List V → S → (V → S → Option R) → Option R := fun _ vs s K =>
 Zcf vs fun v'1 => asInt .i64 v'1 fun x_1 => ZaI s <| ZHm N x_1 (fun b_2 => K (.bool b_2) [])
def ZEl (N : Nat) : Zar := (ZFX N).add 170 (ZJG N)
def ZNf : Code := ZaK Tryz.f170
theorem ZMX {R : Type} (N : Nat) (x_1 : Int) (K : V → S → Option R) : Za0 C (ZFX N) (Zac) 170 Tryz.f170 [.int .i64 x_1] [] K =
 ZnS N x_1 (fun b_2 => K (.bool b_2) []) := by kernel_rfl
theorem Zzd (hC : Ok Tryz.prog C) {N : Nat} (hΦ : Zaa Tryz.prog C (ZFX N)) : Zaa Tryz.prog C (ZEl N) := by
 refine hΦ.add_pure rfl fun R vs K r h => ?_
 unfold ZJG at h
 obtain ⟨_, rfl, h1⟩ := Zaq h
 obtain ⟨_, rfl, h2⟩ := Zaf h1
 obtain ⟨_, h3⟩ := Zae h2
 refine Zam (fn := Tryz.f170) (c := ZNf) hC hΦ Tryz.func170 (by kernel_rfl) (by kernel_rfl) (Zah (Λ := Zac) (by kernel_rfl)) rfl rfl ?_
 refine (ZMX N _ _).trans ?_
 rw [← ZwS]
 exact h3
def ZK2 (N : Nat) : (R : Type) → List V → S → (V → S → Option R) → Option R := fun _ vs s K =>
 Zch vs fun v'1 v'2 => ZaU v'1 fun e_1 f_2 x_3 => asInt .i64 v'2 fun x_4 => ZaI s <| ZBW N e_1 f_2 x_3 x_4 (fun b_5 => K (.bool b_5) [])
def Ztt (N : Nat) : Zar := (ZEl N).add 171 (ZK2 N)
def ZNw : Code := ZaK Tryz.f171
theorem ZNm {R : Type} (N : Nat) (e_1 : List V) (f_2 : Fl) (x_3 x_4 : Int) (K : V → S → Option R) : Za0 C (ZEl N) (Zac) 171 Tryz.f171 [.agg [.list 7 e_1 f_2, .int .i64 x_3], .int .i64 x_4] [] K =
 Zoc N e_1 f_2 x_3 x_4 (fun b_5 => K (.bool b_5) []) := by kernel_rfl
theorem ZwX (hC : Ok Tryz.prog C) {N : Nat} (hΦ : Zaa Tryz.prog C (ZEl N)) : Zaa Tryz.prog C (Ztt N) := by
 refine hΦ.add_pure rfl fun R vs K r h => ?_
 unfold ZK2 at h
 obtain ⟨_, _, rfl, h1⟩ := Zap h
 obtain ⟨_, _, _, rfl, h2⟩ := Zau h1
 obtain ⟨_, rfl, h3⟩ := Zaf h2
 obtain ⟨_, h4⟩ := Zae h3
 refine Zam (fn := Tryz.f171) (c := ZNw) hC hΦ Tryz.func171 (by kernel_rfl) (by kernel_rfl) (Zah (Λ := Zac) (by kernel_rfl)) rfl rfl ?_
 refine (ZNm N _ _ _ _ _).trans ?_
 rw [← Zvw]
 exact h4
def ZJ4 (N : Nat) : (R : Type) → List V → S → (V → S → Option R) → Option R := fun _ vs s K =>
 Zch vs fun v'1 v'2 => ZaU v'1 fun e_1 f_2 x_3 => Zaw v'2 fun x_4 x_5 x_6 x_7 x_8 w_9 e_10 f_11 => ZaI s <| ZES N e_1 f_2 x_3 x_4 x_5 x_6 x_7 x_8 w_9 e_10 f_11 (fun b_12 => K (.bool b_12) [])
def ZsN (N : Nat) : Zar := (Ztt N).add 146 (ZJ4 N)
def ZCM : Code := ZaK Tryz.f146
def Zrm : Code := (Zbo ZCM [] 0).2
def Znk : List Nat := ZbQ 99 [2, 3, 61, 62, 63]
def Zv5 : List Nat := ZbQ 99 [3, 4]
def Zjw (e_1 : List V) (f_2 : Fl) (x_3 : Int) (e_5 : List V) (f_6 : Fl) (x_7 x_8 x_9 x_10 x_11 x_12 : Int) (w_13 : ByteArray) (e_14 : List V) (f_15 : Fl) (x_4 : Int) : List V := mkF 0 99 [(2, .ptr 0 0 0 0), (3, .ptr 1 0 0 0), (61, .list 2 e_1 f_2), (62, .int .i64 x_3), (63, .int .i64 x_4)]
def ZhZ {R : Type} (K : X → List V → S → Option R) (e_1 : List V) (f_2 : Fl) (x_3 : Int) (e_5 : List V) (f_6 : Fl) (x_7 : Int) (x_8 : Int) (x_9 : Int) (x_10 : Int) (x_11 : Int) (x_12 : Int) (w_13 : ByteArray) (e_14 : List V) (f_15 : Fl) : Unit → Option R := (fun _ => K .ret (mkF 0 99 [(3, .ptr 1 0 0 0), (4, .bool false)]) [some ⟨[.agg [.list 7 e_5 f_6, .int .i64 x_7]], 2, 34, 0⟩, some ⟨[.agg [.int .i64 x_8, .int .i64 x_9, .int .i64 x_10, .int .i64 x_11, .int .i64 x_12, .str w_13, .list 2 e_14 f_15]], 7, 87, 0⟩])
def Zhq {R : Type} (K : X → List V → S → Option R) (e_1 : List V) (f_2 : Fl) (x_3 : Int) (e_5 : List V) (f_6 : Fl) (x_7 : Int) (x_8 : Int) (x_9 : Int) (x_10 : Int) (x_11 : Int) (x_12 : Int) (w_13 : ByteArray) (e_14 : List V) (f_15 : Fl) : Unit → Option R := (fun _ => K (.exit 1) (mkF 0 99 [(3, .ptr 1 0 0 0)]) [some ⟨[.agg [.list 7 e_5 f_6, .int .i64 x_7]], 2, 34, 0⟩, some ⟨[.agg [.int .i64 x_8, .int .i64 x_9, .int .i64 x_10, .int .i64 x_11, .int .i64 x_12, .str w_13, .list 2 e_14 f_15]], 7, 87, 0⟩])
abbrev Zlv {R : Type} (N : Nat) : Nat → List V → S → (X → List V → S → Option R) → Option R := fun n => Zdx C (Ztt N) (Zac) Zrm [0, 1, 0, 0, 1, 1, 1, 1, 1, 0, 1, 0, 1, 1, 1] true Znk Zv5 n R
theorem ZG1 {R : Type} (N n : Nat) (e_1 : List V) (f_2 : Fl) (x_3 : Int) (e_5 : List V) (f_6 : Fl) (x_7 x_8 x_9 x_10 x_11 x_12 : Int) (w_13 : ByteArray) (e_14 : List V) (f_15 : Fl) (x_4 : Int) (K : X → List V → S → Option R) :
 Zlv N (n + 1) (Zjw e_1 f_2 x_3 e_5 f_6 x_7 x_8 x_9 x_10 x_11 x_12 w_13 e_14 f_15 x_4) [some ⟨[.agg [.list 7 e_5 f_6, .int .i64 x_7]], 2, 34, 0⟩, some ⟨[.agg [.int .i64 x_8, .int .i64 x_9, .int .i64 x_10, .int .i64 x_11, .int .i64 x_12, .str w_13, .list 2 e_14 f_15]], 7, 87, 0⟩] K =
 Zde N e_1 f_2 x_3 e_5 f_6 x_7 x_8 x_9 x_10 x_11 x_12 w_13 e_14 f_15 (fun x_4 => Zlv N n (Zjw e_1 f_2 x_3 e_5 f_6 x_7 x_8 x_9 x_10 x_11 x_12 w_13 e_14 f_15 x_4) [some ⟨[.agg [.list 7 e_5 f_6, .int .i64 x_7]], 2, 34, 0⟩, some ⟨[.agg [.int .i64 x_8, .int .i64 x_9, .int .i64 x_10, .int .i64 x_11, .int .i64 x_12, .str w_13, .list 2 e_14 f_15]], 7, 87, 0⟩] K) x_4 (ZhZ K e_1 f_2 x_3 e_5 f_6 x_7 x_8 x_9 x_10 x_11 x_12 w_13 e_14 f_15) (Zhq K e_1 f_2 x_3 e_5 f_6 x_7 x_8 x_9 x_10 x_11 x_12 w_13 e_14 f_15) := by kernel_rfl
theorem ZBY {R : Type} (N : Nat) (e_1 : List V) (f_2 : Fl) (x_3 : Int) (e_5 : List V) (f_6 : Fl) (x_7 x_8 x_9 x_10 x_11 x_12 : Int) (w_13 : ByteArray) (e_14 : List V) (f_15 : Fl) (K : X → List V → S → Option R) : ∀ (n : Nat) (x_4 : Int),
 Zlv N n (Zjw e_1 f_2 x_3 e_5 f_6 x_7 x_8 x_9 x_10 x_11 x_12 w_13 e_14 f_15 x_4) [some ⟨[.agg [.list 7 e_5 f_6, .int .i64 x_7]], 2, 34, 0⟩, some ⟨[.agg [.int .i64 x_8, .int .i64 x_9, .int .i64 x_10, .int .i64 x_11, .int .i64 x_12, .str w_13, .list 2 e_14 f_15]], 7, 87, 0⟩] K = ZeG N e_1 f_2 x_3 e_5 f_6 x_7 x_8 x_9 x_10 x_11 x_12 w_13 e_14 f_15 (ZhZ K e_1 f_2 x_3 e_5 f_6 x_7 x_8 x_9 x_10 x_11 x_12 w_13 e_14 f_15) (Zhq K e_1 f_2 x_3 e_5 f_6 x_7 x_8 x_9 x_10 x_11 x_12 w_13 e_14 f_15) n x_4
 | 0, _ => rfl
 | n + 1, x_4 => (ZG1 N n e_1 f_2 x_3 e_5 f_6 x_7 x_8 x_9 x_10 x_11 x_12 w_13 e_14 f_15 x_4 K).trans (congrArg (fun nx => Zde N e_1 f_2 x_3 e_5 f_6 x_7 x_8 x_9 x_10 x_11 x_12 w_13 e_14 f_15 nx x_4 (ZhZ K e_1 f_2 x_3 e_5 f_6 x_7 x_8 x_9 x_10 x_11 x_12 w_13 e_14 f_15) (Zhq K e_1 f_2 x_3 e_5 f_6 x_7 x_8 x_9 x_10 x_11 x_12 w_13 e_14 f_15)) (funext fun x_4 => ZBY N e_1 f_2 x_3 e_5 f_6 x_7 x_8 x_9 x_10 x_11 x_12 w_13 e_14 f_15 K n x_4))
def Zr3 {R : Type} (E : List V) (s : S) (k : List V → Fl → Int → Int → List V → Fl → Int → Int → Int → Int → Int → Int → ByteArray → List V → Fl → Option R) : Option R :=
 Zao (Za1 99 [2, 3, 61, 62, 63] E) <| ZoS E 2 (.ptr 0 0 0 0) <| ZoS E 3 (.ptr 1 0 0 0) <| Zbr E 61 2 fun e_1 f_2 => ZaT E 62 .i64 fun x_3 => ZaT E 63 .i64 fun x_4 => ZdV s fun o'1 s'2 => ZdU o'1 2 34 fun e'3 k'4 => isN k'4 0 <| Zcf e'3 fun v'5 => asAgg v'5 fun c'6 => Zch c'6 fun v'7 v'8 => ZaQ 7 v'7 fun e_5 f_6 => asInt .i64 v'8 fun x_7 => ZdV s'2 fun o'9 s'10 => ZdU o'9 7 87 fun e'11 k'12 => isN k'12 0 <| Zcf e'11 fun v'13 => asAgg v'13 fun c'14 => ZGO c'14 fun v'15 v'16 v'17 v'18 v'19 v'20 v'21 => asInt .i64 v'15 fun x_8 => asInt .i64 v'16 fun x_9 => asInt .i64 v'17 fun x_10 => asInt .i64 v'18 fun x_11 => asInt .i64 v'19 fun x_12 => Zbt v'20 fun w_13 => ZaQ 2 v'21 fun e_14 f_15 => ZaI s'10 <| k e_1 f_2 x_3 x_4 e_5 f_6 x_7 x_8 x_9 x_10 x_11 x_12 w_13 e_14 f_15
theorem Zqh {R : Type} {E : List V} {s : S} {k : List V → Fl → Int → Int → List V → Fl → Int → Int → Int → Int → Int → Int → ByteArray → List V → Fl → Option R} {r : R} (h : Zr3 E s k = some r) : ∃ e_1 f_2 x_3 x_4 e_5 f_6 x_7 x_8 x_9 x_10 x_11 x_12 w_13 e_14 f_15, E = Zjw e_1 f_2 x_3 e_5 f_6 x_7 x_8 x_9 x_10 x_11 x_12 w_13 e_14 f_15 x_4 ∧ s = [some ⟨[.agg [.list 7 e_5 f_6, .int .i64 x_7]], 2, 34, 0⟩, some ⟨[.agg [.int .i64 x_8, .int .i64 x_9, .int .i64 x_10, .int .i64 x_11, .int .i64 x_12, .str w_13, .list 2 e_14 f_15]], 7, 87, 0⟩] ∧ k e_1 f_2 x_3 x_4 e_5 f_6 x_7 x_8 x_9 x_10 x_11 x_12 w_13 e_14 f_15 = some r := by
 unfold Zr3 at h
 obtain ⟨hg, h1⟩ := Zad h
 obtain ⟨hu2, h2⟩ := ZbK h1
 obtain ⟨hu3, h3⟩ := ZbK h2
 obtain ⟨_, _, hu61, h4⟩ := Zax h3
 obtain ⟨_, hu62, h5⟩ := Zai h4
 obtain ⟨_, hu63, h6⟩ := Zai h5
 obtain ⟨_, _, rfl, h7⟩ := ZaN h6
 obtain ⟨_, _, rfl, h8⟩ := ZaM h7
 obtain ⟨rfl, h9⟩ := Zat h8
 obtain ⟨_, rfl, h10⟩ := Zaq h9
 obtain ⟨_, rfl, h11⟩ := ZaB h10
 obtain ⟨_, _, rfl, h12⟩ := Zap h11
 obtain ⟨_, _, rfl, h13⟩ := Zaj h12
 obtain ⟨_, rfl, h14⟩ := Zaf h13
 obtain ⟨_, _, rfl, h15⟩ := ZaN h14
 obtain ⟨_, _, rfl, h16⟩ := ZaM h15
 obtain ⟨rfl, h17⟩ := Zat h16
 obtain ⟨_, rfl, h18⟩ := Zaq h17
 obtain ⟨_, rfl, h19⟩ := ZaB h18
 obtain ⟨_, _, _, _, _, _, _, rfl, h20⟩ := Zen h19
 obtain ⟨_, rfl, h21⟩ := Zaf h20
 obtain ⟨_, rfl, h22⟩ := Zaf h21
 obtain ⟨_, rfl, h23⟩ := Zaf h22
 obtain ⟨_, rfl, h24⟩ := Zaf h23
 obtain ⟨_, rfl, h25⟩ := Zaf h24
 obtain ⟨_, rfl, h26⟩ := Zav h25
 obtain ⟨_, _, rfl, h27⟩ := Zaj h26
 obtain ⟨rfl, h28⟩ := Zae h27
 exact ⟨_, _, _, _, _, _, _, _, _, _, _, _, _, _, _, ZaP hg rfl (Zab hu2 (Zab hu3 (Zab hu61 (Zab hu62 (Zab hu63 ZaG))))), rfl, h28⟩
def Zre (N : Nat) : ZaA := (Zac).add [0, 1, 0, 0, 1, 1, 1, 1, 1, 0, 1, 0, 1, 1, 1] fun _ E s K => Zr3 (Zbd Znk E) s fun e_1 f_2 x_3 x_4 e_5 f_6 x_7 x_8 x_9 x_10 x_11 x_12 w_13 e_14 f_15 => ZeG N e_1 f_2 x_3 e_5 f_6 x_7 x_8 x_9 x_10 x_11 x_12 w_13 e_14 f_15 (ZhZ K e_1 f_2 x_3 e_5 f_6 x_7 x_8 x_9 x_10 x_11 x_12 w_13 e_14 f_15) (Zhq K e_1 f_2 x_3 e_5 f_6 x_7 x_8 x_9 x_10 x_11 x_12 w_13 e_14 f_15) N x_4
theorem ZGi {N : Nat} (hC : Ok Tryz.prog C) (hΦ : Zaa Tryz.prog C (Ztt N)) : Za6 Tryz.prog C (Zre N) Zrm [0, 1, 0, 0, 1, 1, 1, 1, 1, 0, 1, 0, 1, 1, 1] :=
 Za7 (Λi := Zac) (tr := true) (ks := Znk) (kx := Zv5) (N := N) hC hΦ
  (Zah (by kernel_rfl))
  fun R E s K r h => by
   have h2 := ZaA.add_self.symm.trans h
   obtain ⟨_, _, _, _, _, _, _, _, _, _, _, _, _, _, _, he, rfl, h3⟩ := Zqh h2
   rw [he]
   exact (ZBY N _ _ _ _ _ _ _ _ _ _ _ _ _ _ _ N _).trans h3
theorem ZKw : ZaX ZCM [] = [([0, 1, 0, 0, 1, 1, 1, 1, 1, 0, 1, 0, 1, 1, 1], Zrm)] := by kernel_rfl
theorem ZNd {R : Type} (N : Nat) (e_1 : List V) (f_2 : Fl) (x_3 x_4 x_5 x_6 x_7 x_8 : Int) (w_9 : ByteArray) (e_10 : List V) (f_11 : Fl) (K : V → S → Option R) : Za0 C (Ztt N) (Zre N) 146 Tryz.f146 [.agg [.list 7 e_1 f_2, .int .i64 x_3], .agg [.int .i64 x_4, .int .i64 x_5, .int .i64 x_6, .int .i64 x_7, .int .i64 x_8, .str w_9, .list 2 e_10 f_11]] [] K =
 Zo1 N e_1 f_2 x_3 x_4 x_5 x_6 x_7 x_8 w_9 e_10 f_11 (fun b_12 => K (.bool b_12) []) := by kernel_rfl
theorem ZzY {N : Nat} (hC : Ok Tryz.prog C) (hΦ : Zaa Tryz.prog C (Ztt N)) : ZaV Tryz.prog C (Zre N) ZCM [] :=
 ZaC ZCM [] (by
  rw [ZKw]
  intro p hp
  simp only [List.mem_cons, List.mem_nil_iff, or_false] at hp
  rcases hp with rfl
  ·exact (ZGi hC hΦ))
theorem Zxb (hC : Ok Tryz.prog C) {N : Nat} (hΦ : Zaa Tryz.prog C (Ztt N)) : Zaa Tryz.prog C (ZsN N) := by
 refine hΦ.add_pure rfl fun R vs K r h => ?_
 unfold ZJ4 at h
 obtain ⟨_, _, rfl, h1⟩ := Zap h
 obtain ⟨_, _, _, rfl, h2⟩ := Zau h1
 obtain ⟨_, _, _, _, _, _, _, _, rfl, h3⟩ := ZbZ h2
 obtain ⟨_, h4⟩ := Zae h3
 refine Zam (fn := Tryz.f146) (c := ZCM) hC hΦ Tryz.func146 (by kernel_rfl) (by kernel_rfl) (ZzY (N := N) hC hΦ) rfl rfl ?_
 refine (ZNd N _ _ _ _ _ _ _ _ _ _ _ _).trans ?_
 rw [← ZtU]
 exact h4
def ZIR (N : Nat) : (R : Type) → List V → S → (V → S → Option R) → Option R := fun _ vs s K =>
 Zcf vs fun v'1 => ZaU v'1 fun e_1 f_2 x_3 => ZaI s <| ZEb N e_1 f_2 x_3 (fun x_4 => K (.int .i64 x_4) [])
def Zlc (N : Nat) : Zar := (ZsN N).add 147 (ZIR N)
def ZzZ : Code := ZaK Tryz.f147
def ZrR : Code := (Zbo ZzZ [] 0).2
def Znv : List Nat := ZbQ 20 [3, 7, 8, 9]
def ZwM : List Nat := ZbQ 20 [3]
def ZjJ (e_2 : List V) (f_3 : Fl) (x_4 : Int) (e_6 : List V) (f_7 : Fl) (x_8 x_1 x_5 : Int) : List V := mkF 0 20 [(3, .int .i64 x_1), (7, .list 7 e_2 f_3), (8, .int .i64 x_4), (9, .int .i64 x_5)]
def ZgJ {R : Type} (K : X → List V → S → Option R) (e_2 : List V) (f_3 : Fl) (x_4 : Int) (e_6 : List V) (f_7 : Fl) (x_8 : Int) : Int → Option R := (fun x_1' => K (.exit 0) (mkF 0 20 [(3, .int .i64 (x_1'))]) [some ⟨[.agg [.list 7 e_6 f_7, .int .i64 x_8]], 2, 34, 0⟩])
abbrev Zlk {R : Type} (N : Nat) : Nat → List V → S → (X → List V → S → Option R) → Option R := fun n => Zdx C (ZsN N) (Zac) ZrR [0, 1, 0, 1, 1] true Znv ZwM n R
theorem ZIl {R : Type} (N n : Nat) (e_2 : List V) (f_3 : Fl) (x_4 : Int) (e_6 : List V) (f_7 : Fl) (x_8 : Int) (x_1 x_5 : Int) (K : X → List V → S → Option R) :
 Zlk N (n + 1) (ZjJ e_2 f_3 x_4 e_6 f_7 x_8 x_1 x_5) [some ⟨[.agg [.list 7 e_6 f_7, .int .i64 x_8]], 2, 34, 0⟩] K =
 Zc6 N e_2 f_3 x_4 e_6 f_7 x_8 (fun x_1 x_5 => Zlk N n (ZjJ e_2 f_3 x_4 e_6 f_7 x_8 x_1 x_5) [some ⟨[.agg [.list 7 e_6 f_7, .int .i64 x_8]], 2, 34, 0⟩] K) x_1 x_5 (ZgJ K e_2 f_3 x_4 e_6 f_7 x_8) := by kernel_rfl
theorem ZzN {R : Type} (N : Nat) (e_2 : List V) (f_3 : Fl) (x_4 : Int) (e_6 : List V) (f_7 : Fl) (x_8 : Int) (K : X → List V → S → Option R) : ∀ (n : Nat) (x_1 x_5 : Int),
 Zlk N n (ZjJ e_2 f_3 x_4 e_6 f_7 x_8 x_1 x_5) [some ⟨[.agg [.list 7 e_6 f_7, .int .i64 x_8]], 2, 34, 0⟩] K = ZfU N e_2 f_3 x_4 e_6 f_7 x_8 (ZgJ K e_2 f_3 x_4 e_6 f_7 x_8) n x_1 x_5
 | 0, _, _ => rfl
 | n + 1, x_1, x_5 => (ZIl N n e_2 f_3 x_4 e_6 f_7 x_8 x_1 x_5 K).trans (congrArg (fun nx => Zc6 N e_2 f_3 x_4 e_6 f_7 x_8 nx x_1 x_5 (ZgJ K e_2 f_3 x_4 e_6 f_7 x_8)) (funext fun x_1 => funext fun x_5 => ZzN N e_2 f_3 x_4 e_6 f_7 x_8 K n x_1 x_5))
def Zse {R : Type} (E : List V) (s : S) (k : Int → List V → Fl → Int → Int → List V → Fl → Int → Option R) : Option R :=
 Zao (Za1 20 [3, 7, 8, 9] E) <| ZaT E 3 .i64 fun x_1 => Zbr E 7 7 fun e_2 f_3 => ZaT E 8 .i64 fun x_4 => ZaT E 9 .i64 fun x_5 => ZdV s fun o'1 s'2 => ZdU o'1 2 34 fun e'3 k'4 => isN k'4 0 <| Zcf e'3 fun v'5 => asAgg v'5 fun c'6 => Zch c'6 fun v'7 v'8 => ZaQ 7 v'7 fun e_6 f_7 => asInt .i64 v'8 fun x_8 => ZaI s'2 <| k x_1 e_2 f_3 x_4 x_5 e_6 f_7 x_8
theorem Zp4 {R : Type} {E : List V} {s : S} {k : Int → List V → Fl → Int → Int → List V → Fl → Int → Option R} {r : R} (h : Zse E s k = some r) : ∃ x_1 e_2 f_3 x_4 x_5 e_6 f_7 x_8, E = ZjJ e_2 f_3 x_4 e_6 f_7 x_8 x_1 x_5 ∧ s = [some ⟨[.agg [.list 7 e_6 f_7, .int .i64 x_8]], 2, 34, 0⟩] ∧ k x_1 e_2 f_3 x_4 x_5 e_6 f_7 x_8 = some r := by
 unfold Zse at h
 obtain ⟨hg, h1⟩ := Zad h
 obtain ⟨_, hu3, h2⟩ := Zai h1
 obtain ⟨_, _, hu7, h3⟩ := Zax h2
 obtain ⟨_, hu8, h4⟩ := Zai h3
 obtain ⟨_, hu9, h5⟩ := Zai h4
 obtain ⟨_, _, rfl, h6⟩ := ZaN h5
 obtain ⟨_, _, rfl, h7⟩ := ZaM h6
 obtain ⟨rfl, h8⟩ := Zat h7
 obtain ⟨_, rfl, h9⟩ := Zaq h8
 obtain ⟨_, rfl, h10⟩ := ZaB h9
 obtain ⟨_, _, rfl, h11⟩ := Zap h10
 obtain ⟨_, _, rfl, h12⟩ := Zaj h11
 obtain ⟨_, rfl, h13⟩ := Zaf h12
 obtain ⟨rfl, h14⟩ := Zae h13
 exact ⟨_, _, _, _, _, _, _, _, ZaP hg rfl (Zab hu3 (Zab hu7 (Zab hu8 (Zab hu9 ZaG)))), rfl, h14⟩
def Ztb (N : Nat) : ZaA := (Zac).add [0, 1, 0, 1, 1] fun _ E s K => Zse (Zbd Znv E) s fun x_1 e_2 f_3 x_4 x_5 e_6 f_7 x_8 => ZfU N e_2 f_3 x_4 e_6 f_7 x_8 (ZgJ K e_2 f_3 x_4 e_6 f_7 x_8) N x_1 x_5
theorem ZFj {N : Nat} (hC : Ok Tryz.prog C) (hΦ : Zaa Tryz.prog C (ZsN N)) : Za6 Tryz.prog C (Ztb N) ZrR [0, 1, 0, 1, 1] :=
 Za7 (Λi := Zac) (tr := true) (ks := Znv) (kx := ZwM) (N := N) hC hΦ
  (Zah (by kernel_rfl))
  fun R E s K r h => by
   have h2 := ZaA.add_self.symm.trans h
   obtain ⟨_, _, _, _, _, _, _, _, he, rfl, h3⟩ := Zp4 h2
   rw [he]
   exact (ZzN N _ _ _ _ _ _ _ N _ _).trans h3
theorem ZK1 : ZaX ZzZ [] = [([0, 1, 0, 1, 1], ZrR)] := by kernel_rfl
theorem ZM6 {R : Type} (N : Nat) (e_1 : List V) (f_2 : Fl) (x_3 : Int) (K : V → S → Option R) : Za0 C (ZsN N) (Ztb N) 147 Tryz.f147 [.agg [.list 7 e_1 f_2, .int .i64 x_3]] [] K =
 Zpp N e_1 f_2 x_3 (fun x_4 => K (.int .i64 x_4) []) := by kernel_rfl
theorem ZAM {N : Nat} (hC : Ok Tryz.prog C) (hΦ : Zaa Tryz.prog C (ZsN N)) : ZaV Tryz.prog C (Ztb N) ZzZ [] :=
 ZaC ZzZ [] (by
  rw [ZK1]
  intro p hp
  simp only [List.mem_cons, List.mem_nil_iff, or_false] at hp
  rcases hp with rfl
  ·exact (ZFj hC hΦ))
theorem Zy8 (hC : Ok Tryz.prog C) {N : Nat} (hΦ : Zaa Tryz.prog C (ZsN N)) : Zaa Tryz.prog C (Zlc N) := by
 refine hΦ.add_pure rfl fun R vs K r h => ?_
 unfold ZIR at h
 obtain ⟨_, rfl, h1⟩ := Zaq h
 obtain ⟨_, _, _, rfl, h2⟩ := Zau h1
 obtain ⟨_, h3⟩ := Zae h2
 refine Zam (fn := Tryz.f147) (c := ZzZ) hC hΦ Tryz.func147 (by kernel_rfl) (by kernel_rfl) (ZAM (N := N) hC hΦ) rfl rfl ?_
 refine (ZM6 N _ _ _ _).trans ?_
 rw [← Zwu]
 exact h3
def ZKC (N : Nat) : (R : Type) → List V → S → (V → S → Option R) → Option R := fun _ vs s K =>
 Zcf vs fun v'1 => ZaU v'1 fun e_1 f_2 x_3 => ZaI s <| ZEJ N e_1 f_2 x_3 (fun e_4 => K (.list 1 e_4 .sh) [])
def Zgc (N : Nat) : Zar := (Zlc N).add 148 (ZKC N)
def ZB5 : Code := ZaK Tryz.f148
def Zin : Code := (Zbo ZB5 [] 0).2
def ZrD : Code := (Zbo Zin (0 :: [0, 1, 0, 1, 1]) 0).2
def Zl8 : List Nat := ZbQ 36 [3, 13, 14, 15, 20, 21, 22]
def ZvZ : List Nat := ZbQ 36 [3, 13, 14, 15]
def ZjO (k_1 : Nat) (e_2 : List V) (f_3 : Fl) (x_4 x_5 : Int) (e_6 : List V) (f_7 : Fl) (x_8 : Int) (e_10 : List V) (f_11 : Fl) (x_12 x_14 x_15 x_16 x_17 x_18 : Int) (w_19 : ByteArray) (e_20 : List V) (f_21 : Fl) (x_9 : Int) (e_13 : List V) : List V := mkF 0 36 [(3, .arr 1 0 0 k_1), (13, .list 7 e_2 f_3), (14, .int .i64 x_4), (15, .int .i64 x_5), (20, .list 2 e_6 f_7), (21, .int .i64 x_8), (22, .int .i64 x_9)]
def ZgE {R : Type} (K : X → List V → S → Option R) (k_1 : Nat) (e_2 : List V) (f_3 : Fl) (x_4 : Int) (x_5 : Int) (e_6 : List V) (f_7 : Fl) (x_8 : Int) (e_10 : List V) (f_11 : Fl) (x_12 : Int) (x_14 : Int) (x_15 : Int) (x_16 : Int) (x_17 : Int) (x_18 : Int) (w_19 : ByteArray) (e_20 : List V) (f_21 : Fl) : List V → Option R := (fun e_1' => K (.exit 2) (mkF 0 36 [(3, .arr 1 0 0 k_1), (13, .list 7 e_2 f_3), (14, .int .i64 x_4), (15, .int .i64 x_5)]) [some ⟨[.agg [.list 7 e_10 f_11, .int .i64 x_12]], 2, 34, 0⟩, some ⟨e_1', 1, 3, 0⟩, some ⟨[.agg [.int .i64 x_14, .int .i64 x_15, .int .i64 x_16, .int .i64 x_17, .int .i64 x_18, .str w_19, .list 2 e_20 f_21]], 7, 87, 0⟩])
abbrev ZmJ {R : Type} (N : Nat) : Nat → List V → S → (X → List V → S → Option R) → Option R := fun n => Zdx C (Zlc N) (Zac) ZrD [0, 1, 1, 0, 0, 1, 1, 0, 0, 1, 0, 1, 1] true Zl8 ZvZ n R
theorem ZID {R : Type} (N n : Nat) (k_1 : Nat) (e_2 : List V) (f_3 : Fl) (x_4 x_5 : Int) (e_6 : List V) (f_7 : Fl) (x_8 : Int) (e_10 : List V) (f_11 : Fl) (x_12 x_14 x_15 x_16 x_17 x_18 : Int) (w_19 : ByteArray) (e_20 : List V) (f_21 : Fl) (x_9 : Int) (e_13 : List V) (K : X → List V → S → Option R) :
 ZmJ N (n + 1) (ZjO k_1 e_2 f_3 x_4 x_5 e_6 f_7 x_8 e_10 f_11 x_12 x_14 x_15 x_16 x_17 x_18 w_19 e_20 f_21 x_9 e_13) [some ⟨[.agg [.list 7 e_10 f_11, .int .i64 x_12]], 2, 34, 0⟩, some ⟨e_13, 1, 3, 0⟩, some ⟨[.agg [.int .i64 x_14, .int .i64 x_15, .int .i64 x_16, .int .i64 x_17, .int .i64 x_18, .str w_19, .list 2 e_20 f_21]], 7, 87, 0⟩] K =
 Zc3 N k_1 e_2 f_3 x_4 x_5 e_6 f_7 x_8 e_10 f_11 x_12 x_14 x_15 x_16 x_17 x_18 w_19 e_20 f_21 (fun x_9 e_13 => ZmJ N n (ZjO k_1 e_2 f_3 x_4 x_5 e_6 f_7 x_8 e_10 f_11 x_12 x_14 x_15 x_16 x_17 x_18 w_19 e_20 f_21 x_9 e_13) [some ⟨[.agg [.list 7 e_10 f_11, .int .i64 x_12]], 2, 34, 0⟩, some ⟨e_13, 1, 3, 0⟩, some ⟨[.agg [.int .i64 x_14, .int .i64 x_15, .int .i64 x_16, .int .i64 x_17, .int .i64 x_18, .str w_19, .list 2 e_20 f_21]], 7, 87, 0⟩] K) x_9 e_13 (ZgE K k_1 e_2 f_3 x_4 x_5 e_6 f_7 x_8 e_10 f_11 x_12 x_14 x_15 x_16 x_17 x_18 w_19 e_20 f_21) := by kernel_rfl
theorem ZCk {R : Type} (N : Nat) (k_1 : Nat) (e_2 : List V) (f_3 : Fl) (x_4 x_5 : Int) (e_6 : List V) (f_7 : Fl) (x_8 : Int) (e_10 : List V) (f_11 : Fl) (x_12 x_14 x_15 x_16 x_17 x_18 : Int) (w_19 : ByteArray) (e_20 : List V) (f_21 : Fl) (K : X → List V → S → Option R) : ∀ (n : Nat) (x_9 : Int) (e_13 : List V),
 ZmJ N n (ZjO k_1 e_2 f_3 x_4 x_5 e_6 f_7 x_8 e_10 f_11 x_12 x_14 x_15 x_16 x_17 x_18 w_19 e_20 f_21 x_9 e_13) [some ⟨[.agg [.list 7 e_10 f_11, .int .i64 x_12]], 2, 34, 0⟩, some ⟨e_13, 1, 3, 0⟩, some ⟨[.agg [.int .i64 x_14, .int .i64 x_15, .int .i64 x_16, .int .i64 x_17, .int .i64 x_18, .str w_19, .list 2 e_20 f_21]], 7, 87, 0⟩] K = Ze5 N k_1 e_2 f_3 x_4 x_5 e_6 f_7 x_8 e_10 f_11 x_12 x_14 x_15 x_16 x_17 x_18 w_19 e_20 f_21 (ZgE K k_1 e_2 f_3 x_4 x_5 e_6 f_7 x_8 e_10 f_11 x_12 x_14 x_15 x_16 x_17 x_18 w_19 e_20 f_21) n x_9 e_13
 | 0, _, _ => rfl
 | n + 1, x_9, e_13 => (ZID N n k_1 e_2 f_3 x_4 x_5 e_6 f_7 x_8 e_10 f_11 x_12 x_14 x_15 x_16 x_17 x_18 w_19 e_20 f_21 x_9 e_13 K).trans (congrArg (fun nx => Zc3 N k_1 e_2 f_3 x_4 x_5 e_6 f_7 x_8 e_10 f_11 x_12 x_14 x_15 x_16 x_17 x_18 w_19 e_20 f_21 nx x_9 e_13 (ZgE K k_1 e_2 f_3 x_4 x_5 e_6 f_7 x_8 e_10 f_11 x_12 x_14 x_15 x_16 x_17 x_18 w_19 e_20 f_21)) (funext fun x_9 => funext fun e_13 => ZCk N k_1 e_2 f_3 x_4 x_5 e_6 f_7 x_8 e_10 f_11 x_12 x_14 x_15 x_16 x_17 x_18 w_19 e_20 f_21 K n x_9 e_13))
def ZqQ {R : Type} (E : List V) (s : S) (k : Nat → List V → Fl → Int → Int → List V → Fl → Int → Int → List V → Fl → Int → List V → Int → Int → Int → Int → Int → ByteArray → List V → Fl → Option R) : Option R :=
 Zao (Za1 36 [3, 13, 14, 15, 20, 21, 22] E) <| Zbq (nth E 3) fun u3 => Ziq u3 fun k'1 k'2 k'3 k_1 => isN k'1 1 <| isN k'2 0 <| isN k'3 0 <| Zbr E 13 7 fun e_2 f_3 => ZaT E 14 .i64 fun x_4 => ZaT E 15 .i64 fun x_5 => Zbr E 20 2 fun e_6 f_7 => ZaT E 21 .i64 fun x_8 => ZaT E 22 .i64 fun x_9 => ZdV s fun o'4 s'5 => ZdU o'4 2 34 fun e'6 k'7 => isN k'7 0 <| Zcf e'6 fun v'8 => asAgg v'8 fun c'9 => Zch c'9 fun v'10 v'11 => ZaQ 7 v'10 fun e_10 f_11 => asInt .i64 v'11 fun x_12 => ZdV s'5 fun o'12 s'13 => ZdU o'12 1 3 fun e_13 k'14 => isN k'14 0 <| ZdV s'13 fun o'15 s'16 => ZdU o'15 7 87 fun e'17 k'18 => isN k'18 0 <| Zcf e'17 fun v'19 => asAgg v'19 fun c'20 => ZGO c'20 fun v'21 v'22 v'23 v'24 v'25 v'26 v'27 => asInt .i64 v'21 fun x_14 => asInt .i64 v'22 fun x_15 => asInt .i64 v'23 fun x_16 => asInt .i64 v'24 fun x_17 => asInt .i64 v'25 fun x_18 => Zbt v'26 fun w_19 => ZaQ 2 v'27 fun e_20 f_21 => ZaI s'16 <| k k_1 e_2 f_3 x_4 x_5 e_6 f_7 x_8 x_9 e_10 f_11 x_12 e_13 x_14 x_15 x_16 x_17 x_18 w_19 e_20 f_21
theorem Zqq {R : Type} {E : List V} {s : S} {k : Nat → List V → Fl → Int → Int → List V → Fl → Int → Int → List V → Fl → Int → List V → Int → Int → Int → Int → Int → ByteArray → List V → Fl → Option R} {r : R} (h : ZqQ E s k = some r) : ∃ k_1 e_2 f_3 x_4 x_5 e_6 f_7 x_8 x_9 e_10 f_11 x_12 e_13 x_14 x_15 x_16 x_17 x_18 w_19 e_20 f_21, E = ZjO k_1 e_2 f_3 x_4 x_5 e_6 f_7 x_8 e_10 f_11 x_12 x_14 x_15 x_16 x_17 x_18 w_19 e_20 f_21 x_9 e_13 ∧ s = [some ⟨[.agg [.list 7 e_10 f_11, .int .i64 x_12]], 2, 34, 0⟩, some ⟨e_13, 1, 3, 0⟩, some ⟨[.agg [.int .i64 x_14, .int .i64 x_15, .int .i64 x_16, .int .i64 x_17, .int .i64 x_18, .str w_19, .list 2 e_20 f_21]], 7, 87, 0⟩] ∧ k k_1 e_2 f_3 x_4 x_5 e_6 f_7 x_8 x_9 e_10 f_11 x_12 e_13 x_14 x_15 x_16 x_17 x_18 w_19 e_20 f_21 = some r := by
 unfold ZqQ at h
 obtain ⟨hg, h1⟩ := Zad h
 obtain ⟨_, hu3, h2⟩ := Zag h1
 obtain ⟨_, _, _, _, rfl, h3⟩ := Zb3 h2
 obtain ⟨rfl, h4⟩ := Zat h3
 obtain ⟨rfl, h5⟩ := Zat h4
 obtain ⟨rfl, h6⟩ := Zat h5
 obtain ⟨_, _, hu13, h7⟩ := Zax h6
 obtain ⟨_, hu14, h8⟩ := Zai h7
 obtain ⟨_, hu15, h9⟩ := Zai h8
 obtain ⟨_, _, hu20, h10⟩ := Zax h9
 obtain ⟨_, hu21, h11⟩ := Zai h10
 obtain ⟨_, hu22, h12⟩ := Zai h11
 obtain ⟨_, _, rfl, h13⟩ := ZaN h12
 obtain ⟨_, _, rfl, h14⟩ := ZaM h13
 obtain ⟨rfl, h15⟩ := Zat h14
 obtain ⟨_, rfl, h16⟩ := Zaq h15
 obtain ⟨_, rfl, h17⟩ := ZaB h16
 obtain ⟨_, _, rfl, h18⟩ := Zap h17
 obtain ⟨_, _, rfl, h19⟩ := Zaj h18
 obtain ⟨_, rfl, h20⟩ := Zaf h19
 obtain ⟨_, _, rfl, h21⟩ := ZaN h20
 obtain ⟨_, _, rfl, h22⟩ := ZaM h21
 obtain ⟨rfl, h23⟩ := Zat h22
 obtain ⟨_, _, rfl, h24⟩ := ZaN h23
 obtain ⟨_, _, rfl, h25⟩ := ZaM h24
 obtain ⟨rfl, h26⟩ := Zat h25
 obtain ⟨_, rfl, h27⟩ := Zaq h26
 obtain ⟨_, rfl, h28⟩ := ZaB h27
 obtain ⟨_, _, _, _, _, _, _, rfl, h29⟩ := Zen h28
 obtain ⟨_, rfl, h30⟩ := Zaf h29
 obtain ⟨_, rfl, h31⟩ := Zaf h30
 obtain ⟨_, rfl, h32⟩ := Zaf h31
 obtain ⟨_, rfl, h33⟩ := Zaf h32
 obtain ⟨_, rfl, h34⟩ := Zaf h33
 obtain ⟨_, rfl, h35⟩ := Zav h34
 obtain ⟨_, _, rfl, h36⟩ := Zaj h35
 obtain ⟨rfl, h37⟩ := Zae h36
 exact ⟨_, _, _, _, _, _, _, _, _, _, _, _, _, _, _, _, _, _, _, _, _, ZaP hg rfl (Zab hu3 (Zab hu13 (Zab hu14 (Zab hu15 (Zab hu20 (Zab hu21 (Zab hu22 ZaG))))))), rfl, h37⟩
def Znb (N : Nat) : ZaA := (Zac).add [0, 1, 1, 0, 0, 1, 1, 0, 0, 1, 0, 1, 1] fun _ E s K => ZqQ (Zbd Zl8 E) s fun k_1 e_2 f_3 x_4 x_5 e_6 f_7 x_8 x_9 e_10 f_11 x_12 e_13 x_14 x_15 x_16 x_17 x_18 w_19 e_20 f_21 => Ze5 N k_1 e_2 f_3 x_4 x_5 e_6 f_7 x_8 e_10 f_11 x_12 x_14 x_15 x_16 x_17 x_18 w_19 e_20 f_21 (ZgE K k_1 e_2 f_3 x_4 x_5 e_6 f_7 x_8 e_10 f_11 x_12 x_14 x_15 x_16 x_17 x_18 w_19 e_20 f_21) N x_9 e_13
theorem ZGj {N : Nat} (hC : Ok Tryz.prog C) (hΦ : Zaa Tryz.prog C (Zlc N)) : Za6 Tryz.prog C (Znb N) ZrD [0, 1, 1, 0, 0, 1, 1, 0, 0, 1, 0, 1, 1] :=
 Za7 (Λi := Zac) (tr := true) (ks := Zl8) (kx := ZvZ) (N := N) hC hΦ
  (Zah (by kernel_rfl))
  fun R E s K r h => by
   have h2 := ZaA.add_self.symm.trans h
   obtain ⟨_, _, _, _, _, _, _, _, _, _, _, _, _, _, _, _, _, _, _, _, _, he, rfl, h3⟩ := Zqq h2
   rw [he]
   exact (ZCk N _ _ _ _ _ _ _ _ _ _ _ _ _ _ _ _ _ _ _ _ N _ _).trans h3
def ZlA : List Nat := ZbQ 36 [3, 13, 14, 15]
def Zvn : List Nat := ZbQ 36 [3]
def ZjT (k_1 : Nat) (e_2 : List V) (f_3 : Fl) (x_4 : Int) (e_6 : List V) (f_7 : Fl) (x_8 x_5 : Int) (e_9 : List V) : List V := mkF 0 36 [(3, .arr 1 0 0 k_1), (13, .list 7 e_2 f_3), (14, .int .i64 x_4), (15, .int .i64 x_5)]
def ZhM {R : Type} (K : X → List V → S → Option R) (k_1 : Nat) (e_2 : List V) (f_3 : Fl) (x_4 : Int) (e_6 : List V) (f_7 : Fl) (x_8 : Int) : List V → Option R := (fun e_1' => K (.exit 0) (mkF 0 36 [(3, .arr 1 0 0 k_1)]) [some ⟨[.agg [.list 7 e_6 f_7, .int .i64 x_8]], 2, 34, 0⟩, some ⟨e_1', 1, 3, 0⟩])
abbrev ZlQ {R : Type} (N : Nat) : Nat → List V → S → (X → List V → S → Option R) → Option R := fun n => Zdx C (Zlc N) (Znb N) Zin [0, 1, 0, 1, 1] true ZlA Zvn n R
theorem ZG5 {R : Type} (N n : Nat) (k_1 : Nat) (e_2 : List V) (f_3 : Fl) (x_4 : Int) (e_6 : List V) (f_7 : Fl) (x_8 : Int) (x_5 : Int) (e_9 : List V) (K : X → List V → S → Option R) :
 ZlQ N (n + 1) (ZjT k_1 e_2 f_3 x_4 e_6 f_7 x_8 x_5 e_9) [some ⟨[.agg [.list 7 e_6 f_7, .int .i64 x_8]], 2, 34, 0⟩, some ⟨e_9, 1, 3, 0⟩] K =
 Zdg N k_1 e_2 f_3 x_4 e_6 f_7 x_8 (fun x_5 e_9 => ZlQ N n (ZjT k_1 e_2 f_3 x_4 e_6 f_7 x_8 x_5 e_9) [some ⟨[.agg [.list 7 e_6 f_7, .int .i64 x_8]], 2, 34, 0⟩, some ⟨e_9, 1, 3, 0⟩] K) x_5 e_9 (ZhM K k_1 e_2 f_3 x_4 e_6 f_7 x_8) := by kernel_rfl
theorem ZCb {R : Type} (N : Nat) (k_1 : Nat) (e_2 : List V) (f_3 : Fl) (x_4 : Int) (e_6 : List V) (f_7 : Fl) (x_8 : Int) (K : X → List V → S → Option R) : ∀ (n : Nat) (x_5 : Int) (e_9 : List V),
 ZlQ N n (ZjT k_1 e_2 f_3 x_4 e_6 f_7 x_8 x_5 e_9) [some ⟨[.agg [.list 7 e_6 f_7, .int .i64 x_8]], 2, 34, 0⟩, some ⟨e_9, 1, 3, 0⟩] K = ZfS N k_1 e_2 f_3 x_4 e_6 f_7 x_8 (ZhM K k_1 e_2 f_3 x_4 e_6 f_7 x_8) n x_5 e_9
 | 0, _, _ => rfl
 | n + 1, x_5, e_9 => (ZG5 N n k_1 e_2 f_3 x_4 e_6 f_7 x_8 x_5 e_9 K).trans (congrArg (fun nx => Zdg N k_1 e_2 f_3 x_4 e_6 f_7 x_8 nx x_5 e_9 (ZhM K k_1 e_2 f_3 x_4 e_6 f_7 x_8)) (funext fun x_5 => funext fun e_9 => ZCb N k_1 e_2 f_3 x_4 e_6 f_7 x_8 K n x_5 e_9))
def Zrs {R : Type} (E : List V) (s : S) (k : Nat → List V → Fl → Int → Int → List V → Fl → Int → List V → Option R) : Option R :=
 Zao (Za1 36 [3, 13, 14, 15] E) <| Zbq (nth E 3) fun u3 => Ziq u3 fun k'1 k'2 k'3 k_1 => isN k'1 1 <| isN k'2 0 <| isN k'3 0 <| Zbr E 13 7 fun e_2 f_3 => ZaT E 14 .i64 fun x_4 => ZaT E 15 .i64 fun x_5 => ZdV s fun o'4 s'5 => ZdU o'4 2 34 fun e'6 k'7 => isN k'7 0 <| Zcf e'6 fun v'8 => asAgg v'8 fun c'9 => Zch c'9 fun v'10 v'11 => ZaQ 7 v'10 fun e_6 f_7 => asInt .i64 v'11 fun x_8 => ZdV s'5 fun o'12 s'13 => ZdU o'12 1 3 fun e_9 k'14 => isN k'14 0 <| ZaI s'13 <| k k_1 e_2 f_3 x_4 x_5 e_6 f_7 x_8 e_9
theorem ZpI {R : Type} {E : List V} {s : S} {k : Nat → List V → Fl → Int → Int → List V → Fl → Int → List V → Option R} {r : R} (h : Zrs E s k = some r) : ∃ k_1 e_2 f_3 x_4 x_5 e_6 f_7 x_8 e_9, E = ZjT k_1 e_2 f_3 x_4 e_6 f_7 x_8 x_5 e_9 ∧ s = [some ⟨[.agg [.list 7 e_6 f_7, .int .i64 x_8]], 2, 34, 0⟩, some ⟨e_9, 1, 3, 0⟩] ∧ k k_1 e_2 f_3 x_4 x_5 e_6 f_7 x_8 e_9 = some r := by
 unfold Zrs at h
 obtain ⟨hg, h1⟩ := Zad h
 obtain ⟨_, hu3, h2⟩ := Zag h1
 obtain ⟨_, _, _, _, rfl, h3⟩ := Zb3 h2
 obtain ⟨rfl, h4⟩ := Zat h3
 obtain ⟨rfl, h5⟩ := Zat h4
 obtain ⟨rfl, h6⟩ := Zat h5
 obtain ⟨_, _, hu13, h7⟩ := Zax h6
 obtain ⟨_, hu14, h8⟩ := Zai h7
 obtain ⟨_, hu15, h9⟩ := Zai h8
 obtain ⟨_, _, rfl, h10⟩ := ZaN h9
 obtain ⟨_, _, rfl, h11⟩ := ZaM h10
 obtain ⟨rfl, h12⟩ := Zat h11
 obtain ⟨_, rfl, h13⟩ := Zaq h12
 obtain ⟨_, rfl, h14⟩ := ZaB h13
 obtain ⟨_, _, rfl, h15⟩ := Zap h14
 obtain ⟨_, _, rfl, h16⟩ := Zaj h15
 obtain ⟨_, rfl, h17⟩ := Zaf h16
 obtain ⟨_, _, rfl, h18⟩ := ZaN h17
 obtain ⟨_, _, rfl, h19⟩ := ZaM h18
 obtain ⟨rfl, h20⟩ := Zat h19
 obtain ⟨rfl, h21⟩ := Zae h20
 exact ⟨_, _, _, _, _, _, _, _, _, ZaP hg rfl (Zab hu3 (Zab hu13 (Zab hu14 (Zab hu15 ZaG)))), rfl, h21⟩
def Zts (N : Nat) : ZaA := (Znb N).add [0, 1, 0, 1, 1] fun _ E s K => Zrs (Zbd ZlA E) s fun k_1 e_2 f_3 x_4 x_5 e_6 f_7 x_8 e_9 => ZfS N k_1 e_2 f_3 x_4 e_6 f_7 x_8 (ZhM K k_1 e_2 f_3 x_4 e_6 f_7 x_8) N x_5 e_9
theorem ZFM : ZaX Zin (0 :: [0, 1, 0, 1, 1]) = [([0, 1, 1, 0, 0, 1, 1, 0, 0, 1, 0, 1, 1], ZrD)] := by kernel_rfl
theorem ZER {N : Nat} (hC : Ok Tryz.prog C) (hΦ : Zaa Tryz.prog C (Zlc N)) : Za6 Tryz.prog C (Zts N) Zin [0, 1, 0, 1, 1] :=
 Za7 (Λi := Znb N) (tr := true) (ks := ZlA) (kx := Zvn) (N := N) hC hΦ
  (ZaC Zin _ (by
   rw [ZFM]
   intro p hp
   simp only [List.mem_cons, List.mem_nil_iff, or_false] at hp
   rcases hp with rfl
   ·exact (ZGj hC hΦ)))
  fun R E s K r h => by
   have h2 := ZaA.add_self.symm.trans h
   obtain ⟨_, _, _, _, _, _, _, _, _, he, rfl, h3⟩ := ZpI h2
   rw [he]
   exact (ZCb N _ _ _ _ _ _ _ _ N _ _).trans h3
theorem ZKY : ZaX ZB5 [] = [([0, 1, 0, 1, 1], Zin)] := by kernel_rfl
theorem ZMb {R : Type} (N : Nat) (e_1 : List V) (f_2 : Fl) (x_3 : Int) (K : V → S → Option R) : Za0 C (Zlc N) (Zts N) 148 Tryz.f148 [.agg [.list 7 e_1 f_2, .int .i64 x_3]] [] K =
 ZqH N e_1 f_2 x_3 (fun e_4 => K (.list 1 e_4 .sh) []) := by kernel_rfl
theorem ZzO {N : Nat} (hC : Ok Tryz.prog C) (hΦ : Zaa Tryz.prog C (Zlc N)) : ZaV Tryz.prog C (Zts N) ZB5 [] :=
 ZaC ZB5 [] (by
  rw [ZKY]
  intro p hp
  simp only [List.mem_cons, List.mem_nil_iff, or_false] at hp
  rcases hp with rfl
  ·exact (ZER hC hΦ))
theorem Zyz (hC : Ok Tryz.prog C) {N : Nat} (hΦ : Zaa Tryz.prog C (Zlc N)) : Zaa Tryz.prog C (Zgc N) := by
 refine hΦ.add_pure rfl fun R vs K r h => ?_
 unfold ZKC at h
 obtain ⟨_, rfl, h1⟩ := Zaq h
 obtain ⟨_, _, _, rfl, h2⟩ := Zau h1
 obtain ⟨_, h3⟩ := Zae h2
 refine Zam (fn := Tryz.f148) (c := ZB5) hC hΦ Tryz.func148 (by kernel_rfl) (by kernel_rfl) (ZzO (N := N) hC hΦ) rfl rfl ?_
 refine (ZMb N _ _ _ _).trans ?_
 rw [← Zu4]
 exact h3
def ZK3 (N : Nat) : (R : Type) → List V → S → (V → S → Option R) → Option R := fun _ vs s K =>
 Zcf vs fun v'1 => ZaU v'1 fun e_1 f_2 x_3 => ZaI s <| ZFt N e_1 f_2 x_3 (fun b_4 => K (.bool b_4) [])
def ZDF (N : Nat) : Zar := (Zgc N).add 94 (ZK3 N)
def Zpf : Code := ZaK Tryz.f94
def Zst : Code := (Zbo Zpf [] 0).2
def Zsz : Code := (Zbo Zpf [] 1).2
def Zid : Code := (Zbo Zpf [] 2).2
def ZsB : Code := (Zbo Zpf [] 3).2
def Zsy : Code := (Zbo Zid (0 :: [0, 1, 0, 1, 1, 1, 1, 1, 1, 1, 1]) 0).2
def Zl6 : List Nat := ZbQ 156 [1, 36, 37, 38]
def ZvW : List Nat := ZbQ 156 [1, 2]
def Zjq (e_1 : List V) (f_2 : Fl) (x_3 : Int) (e_5 : List V) (f_6 : Fl) (x_7 x_4 : Int) : List V := mkF 0 156 [(1, .ptr 0 0 0 0), (36, .list 7 e_1 f_2), (37, .int .i64 x_3), (38, .int .i64 x_4)]
def ZgG {R : Type} (K : X → List V → S → Option R) (e_1 : List V) (f_2 : Fl) (x_3 : Int) (e_5 : List V) (f_6 : Fl) (x_7 : Int) : Unit → Option R := (fun _ => K .ret (mkF 0 156 [(1, .ptr 0 0 0 0), (2, .bool false)]) [some ⟨[.agg [.list 7 e_5 f_6, .int .i64 x_7]], 2, 34, 0⟩])
def ZgI {R : Type} (K : X → List V → S → Option R) (e_1 : List V) (f_2 : Fl) (x_3 : Int) (e_5 : List V) (f_6 : Fl) (x_7 : Int) : Unit → Option R := (fun _ => K (.exit 0) (mkF 0 156 [(1, .ptr 0 0 0 0)]) [some ⟨[.agg [.list 7 e_5 f_6, .int .i64 x_7]], 2, 34, 0⟩])
abbrev ZlB {R : Type} (N : Nat) : Nat → List V → S → (X → List V → S → Option R) → Option R := fun n => Zdx C (Zgc N) (Zac) Zst [0, 1, 0, 1, 1] true Zl6 ZvW n R
theorem ZG0 {R : Type} (N n : Nat) (e_1 : List V) (f_2 : Fl) (x_3 : Int) (e_5 : List V) (f_6 : Fl) (x_7 : Int) (x_4 : Int) (K : X → List V → S → Option R) :
 ZlB N (n + 1) (Zjq e_1 f_2 x_3 e_5 f_6 x_7 x_4) [some ⟨[.agg [.list 7 e_5 f_6, .int .i64 x_7]], 2, 34, 0⟩] K =
 ZcV N e_1 f_2 x_3 e_5 f_6 x_7 (fun x_4 => ZlB N n (Zjq e_1 f_2 x_3 e_5 f_6 x_7 x_4) [some ⟨[.agg [.list 7 e_5 f_6, .int .i64 x_7]], 2, 34, 0⟩] K) x_4 (ZgG K e_1 f_2 x_3 e_5 f_6 x_7) (ZgI K e_1 f_2 x_3 e_5 f_6 x_7) := by kernel_rfl
theorem ZBa {R : Type} (N : Nat) (e_1 : List V) (f_2 : Fl) (x_3 : Int) (e_5 : List V) (f_6 : Fl) (x_7 : Int) (K : X → List V → S → Option R) : ∀ (n : Nat) (x_4 : Int),
 ZlB N n (Zjq e_1 f_2 x_3 e_5 f_6 x_7 x_4) [some ⟨[.agg [.list 7 e_5 f_6, .int .i64 x_7]], 2, 34, 0⟩] K = Zf4 N e_1 f_2 x_3 e_5 f_6 x_7 (ZgG K e_1 f_2 x_3 e_5 f_6 x_7) (ZgI K e_1 f_2 x_3 e_5 f_6 x_7) n x_4
 | 0, _ => rfl
 | n + 1, x_4 => (ZG0 N n e_1 f_2 x_3 e_5 f_6 x_7 x_4 K).trans (congrArg (fun nx => ZcV N e_1 f_2 x_3 e_5 f_6 x_7 nx x_4 (ZgG K e_1 f_2 x_3 e_5 f_6 x_7) (ZgI K e_1 f_2 x_3 e_5 f_6 x_7)) (funext fun x_4 => ZBa N e_1 f_2 x_3 e_5 f_6 x_7 K n x_4))
def Zsp {R : Type} (E : List V) (s : S) (k : List V → Fl → Int → Int → List V → Fl → Int → Option R) : Option R :=
 Zao (Za1 156 [1, 36, 37, 38] E) <| ZoS E 1 (.ptr 0 0 0 0) <| Zbr E 36 7 fun e_1 f_2 => ZaT E 37 .i64 fun x_3 => ZaT E 38 .i64 fun x_4 => ZdV s fun o'1 s'2 => ZdU o'1 2 34 fun e'3 k'4 => isN k'4 0 <| Zcf e'3 fun v'5 => asAgg v'5 fun c'6 => Zch c'6 fun v'7 v'8 => ZaQ 7 v'7 fun e_5 f_6 => asInt .i64 v'8 fun x_7 => ZaI s'2 <| k e_1 f_2 x_3 x_4 e_5 f_6 x_7
theorem Zoi {R : Type} {E : List V} {s : S} {k : List V → Fl → Int → Int → List V → Fl → Int → Option R} {r : R} (h : Zsp E s k = some r) : ∃ e_1 f_2 x_3 x_4 e_5 f_6 x_7, E = Zjq e_1 f_2 x_3 e_5 f_6 x_7 x_4 ∧ s = [some ⟨[.agg [.list 7 e_5 f_6, .int .i64 x_7]], 2, 34, 0⟩] ∧ k e_1 f_2 x_3 x_4 e_5 f_6 x_7 = some r := by
 unfold Zsp at h
 obtain ⟨hg, h1⟩ := Zad h
 obtain ⟨hu1, h2⟩ := ZbK h1
 obtain ⟨_, _, hu36, h3⟩ := Zax h2
 obtain ⟨_, hu37, h4⟩ := Zai h3
 obtain ⟨_, hu38, h5⟩ := Zai h4
 obtain ⟨_, _, rfl, h6⟩ := ZaN h5
 obtain ⟨_, _, rfl, h7⟩ := ZaM h6
 obtain ⟨rfl, h8⟩ := Zat h7
 obtain ⟨_, rfl, h9⟩ := Zaq h8
 obtain ⟨_, rfl, h10⟩ := ZaB h9
 obtain ⟨_, _, rfl, h11⟩ := Zap h10
 obtain ⟨_, _, rfl, h12⟩ := Zaj h11
 obtain ⟨_, rfl, h13⟩ := Zaf h12
 obtain ⟨rfl, h14⟩ := Zae h13
 exact ⟨_, _, _, _, _, _, _, ZaP hg rfl (Zab hu1 (Zab hu36 (Zab hu37 (Zab hu38 ZaG)))), rfl, h14⟩
def ZlC (N : Nat) : ZaA := (Zac).add [0, 1, 0, 1, 1] fun _ E s K => Zsp (Zbd Zl6 E) s fun e_1 f_2 x_3 x_4 e_5 f_6 x_7 => Zf4 N e_1 f_2 x_3 e_5 f_6 x_7 (ZgG K e_1 f_2 x_3 e_5 f_6 x_7) (ZgI K e_1 f_2 x_3 e_5 f_6 x_7) N x_4
theorem ZED {N : Nat} (hC : Ok Tryz.prog C) (hΦ : Zaa Tryz.prog C (Zgc N)) : Za6 Tryz.prog C (ZlC N) Zst [0, 1, 0, 1, 1] :=
 Za7 (Λi := Zac) (tr := true) (ks := Zl6) (kx := ZvW) (N := N) hC hΦ
  (Zah (by kernel_rfl))
  fun R E s K r h => by
   have h2 := ZaA.add_self.symm.trans h
   obtain ⟨_, _, _, _, _, _, _, he, rfl, h3⟩ := Zoi h2
   rw [he]
   exact (ZBa N _ _ _ _ _ _ _ N _).trans h3
def ZmX : List Nat := ZbQ 156 [1, 5, 55, 56, 57]
def Zvx : List Nat := ZbQ 156 [1, 2]
def ZjH (e_1 e_2 : List V) (f_3 : Fl) (x_4 : Int) (e_6 : List V) (f_7 : Fl) (x_8 x_5 : Int) : List V := mkF 0 156 [(1, .ptr 0 0 0 0), (5, .list 1 e_1 .sh), (55, .list 7 e_2 f_3), (56, .int .i64 x_4), (57, .int .i64 x_5)]
def ZgM {R : Type} (K : X → List V → S → Option R) (e_1 : List V) (e_2 : List V) (f_3 : Fl) (x_4 : Int) (e_6 : List V) (f_7 : Fl) (x_8 : Int) : Unit → Option R := (fun _ => K .ret (mkF 0 156 [(1, .ptr 0 0 0 0), (2, .bool false)]) [some ⟨[.agg [.list 7 e_6 f_7, .int .i64 x_8]], 2, 34, 0⟩])
def Zhw {R : Type} (K : X → List V → S → Option R) (e_1 : List V) (e_2 : List V) (f_3 : Fl) (x_4 : Int) (e_6 : List V) (f_7 : Fl) (x_8 : Int) : Unit → Option R := (fun _ => K (.exit 2) (mkF 0 156 [(1, .ptr 0 0 0 0)]) [some ⟨[.agg [.list 7 e_6 f_7, .int .i64 x_8]], 2, 34, 0⟩])
abbrev ZmD {R : Type} (N : Nat) : Nat → List V → S → (X → List V → S → Option R) → Option R := fun n => Zdx C (Zgc N) (ZlC N) Zsz [0, 1, 0, 1, 1, 1, 1, 1] true ZmX Zvx n R
theorem ZHM {R : Type} (N n : Nat) (e_1 e_2 : List V) (f_3 : Fl) (x_4 : Int) (e_6 : List V) (f_7 : Fl) (x_8 : Int) (x_5 : Int) (K : X → List V → S → Option R) :
 ZmD N (n + 1) (ZjH e_1 e_2 f_3 x_4 e_6 f_7 x_8 x_5) [some ⟨[.agg [.list 7 e_6 f_7, .int .i64 x_8]], 2, 34, 0⟩] K =
 Zdw N e_1 e_2 f_3 x_4 e_6 f_7 x_8 (fun x_5 => ZmD N n (ZjH e_1 e_2 f_3 x_4 e_6 f_7 x_8 x_5) [some ⟨[.agg [.list 7 e_6 f_7, .int .i64 x_8]], 2, 34, 0⟩] K) x_5 (ZgM K e_1 e_2 f_3 x_4 e_6 f_7 x_8) (Zhw K e_1 e_2 f_3 x_4 e_6 f_7 x_8) := by kernel_rfl
theorem ZCN {R : Type} (N : Nat) (e_1 e_2 : List V) (f_3 : Fl) (x_4 : Int) (e_6 : List V) (f_7 : Fl) (x_8 : Int) (K : X → List V → S → Option R) : ∀ (n : Nat) (x_5 : Int),
 ZmD N n (ZjH e_1 e_2 f_3 x_4 e_6 f_7 x_8 x_5) [some ⟨[.agg [.list 7 e_6 f_7, .int .i64 x_8]], 2, 34, 0⟩] K = Zf2 N e_1 e_2 f_3 x_4 e_6 f_7 x_8 (ZgM K e_1 e_2 f_3 x_4 e_6 f_7 x_8) (Zhw K e_1 e_2 f_3 x_4 e_6 f_7 x_8) n x_5
 | 0, _ => rfl
 | n + 1, x_5 => (ZHM N n e_1 e_2 f_3 x_4 e_6 f_7 x_8 x_5 K).trans (congrArg (fun nx => Zdw N e_1 e_2 f_3 x_4 e_6 f_7 x_8 nx x_5 (ZgM K e_1 e_2 f_3 x_4 e_6 f_7 x_8) (Zhw K e_1 e_2 f_3 x_4 e_6 f_7 x_8)) (funext fun x_5 => ZCN N e_1 e_2 f_3 x_4 e_6 f_7 x_8 K n x_5))
def ZrL {R : Type} (E : List V) (s : S) (k : List V → List V → Fl → Int → Int → List V → Fl → Int → Option R) : Option R :=
 Zao (Za1 156 [1, 5, 55, 56, 57] E) <| ZoS E 1 (.ptr 0 0 0 0) <| Zbq (nth E 5) fun u5 => ZaQ 1 u5 fun e_1 f'1 => ZHn f'1 <| Zbr E 55 7 fun e_2 f_3 => ZaT E 56 .i64 fun x_4 => ZaT E 57 .i64 fun x_5 => ZdV s fun o'2 s'3 => ZdU o'2 2 34 fun e'4 k'5 => isN k'5 0 <| Zcf e'4 fun v'6 => asAgg v'6 fun c'7 => Zch c'7 fun v'8 v'9 => ZaQ 7 v'8 fun e_6 f_7 => asInt .i64 v'9 fun x_8 => ZaI s'3 <| k e_1 e_2 f_3 x_4 x_5 e_6 f_7 x_8
theorem ZqF {R : Type} {E : List V} {s : S} {k : List V → List V → Fl → Int → Int → List V → Fl → Int → Option R} {r : R} (h : ZrL E s k = some r) : ∃ e_1 e_2 f_3 x_4 x_5 e_6 f_7 x_8, E = ZjH e_1 e_2 f_3 x_4 e_6 f_7 x_8 x_5 ∧ s = [some ⟨[.agg [.list 7 e_6 f_7, .int .i64 x_8]], 2, 34, 0⟩] ∧ k e_1 e_2 f_3 x_4 x_5 e_6 f_7 x_8 = some r := by
 unfold ZrL at h
 obtain ⟨hg, h1⟩ := Zad h
 obtain ⟨hu1, h2⟩ := ZbK h1
 obtain ⟨_, hu5, h3⟩ := Zag h2
 obtain ⟨_, _, rfl, h4⟩ := Zaj h3
 obtain ⟨rfl, h5⟩ := Zff h4
 obtain ⟨_, _, hu55, h6⟩ := Zax h5
 obtain ⟨_, hu56, h7⟩ := Zai h6
 obtain ⟨_, hu57, h8⟩ := Zai h7
 obtain ⟨_, _, rfl, h9⟩ := ZaN h8
 obtain ⟨_, _, rfl, h10⟩ := ZaM h9
 obtain ⟨rfl, h11⟩ := Zat h10
 obtain ⟨_, rfl, h12⟩ := Zaq h11
 obtain ⟨_, rfl, h13⟩ := ZaB h12
 obtain ⟨_, _, rfl, h14⟩ := Zap h13
 obtain ⟨_, _, rfl, h15⟩ := Zaj h14
 obtain ⟨_, rfl, h16⟩ := Zaf h15
 obtain ⟨rfl, h17⟩ := Zae h16
 exact ⟨_, _, _, _, _, _, _, _, ZaP hg rfl (Zab hu1 (Zab hu5 (Zab hu55 (Zab hu56 (Zab hu57 ZaG))))), rfl, h17⟩
def ZmP (N : Nat) : ZaA := (ZlC N).add [0, 1, 0, 1, 1, 1, 1, 1] fun _ E s K => ZrL (Zbd ZmX E) s fun e_1 e_2 f_3 x_4 x_5 e_6 f_7 x_8 => Zf2 N e_1 e_2 f_3 x_4 e_6 f_7 x_8 (ZgM K e_1 e_2 f_3 x_4 e_6 f_7 x_8) (Zhw K e_1 e_2 f_3 x_4 e_6 f_7 x_8) N x_5
theorem ZDr {N : Nat} (hC : Ok Tryz.prog C) (hΦ : Zaa Tryz.prog C (Zgc N)) : Za6 Tryz.prog C (ZmP N) Zsz [0, 1, 0, 1, 1, 1, 1, 1] :=
 Za7 (Λi := ZlC N) (tr := true) (ks := ZmX) (kx := Zvx) (N := N) hC hΦ
  (Zah (by kernel_rfl))
  fun R E s K r h => by
   have h2 := ZaA.add_self.symm.trans h
   obtain ⟨_, _, _, _, _, _, _, _, he, rfl, h3⟩ := ZqF h2
   rw [he]
   exact (ZCN N _ _ _ _ _ _ _ _ N _).trans h3
def ZmN : List Nat := ZbQ 156 [1, 9, 10, 11, 109, 110, 111]
def Zvb : List Nat := ZbQ 156 [1, 9, 10, 11]
def ZjA (k_1 : Nat) (x_3 : Int) (e_4 : List V) (f_5 : Fl) (x_6 : Int) (e_8 : List V) (f_9 : Fl) (x_10 : Int) (e_2 : List V) (x_7 : Int) (e_11 : List V) : List V := mkF 0 156 [(1, .ptr 0 0 0 0), (9, .arr 1 0 0 k_1), (10, .list 1 e_2 (.own 3)), (11, .int .i64 x_3), (109, .list 2 e_4 f_5), (110, .int .i64 x_6), (111, .int .i64 x_7)]
def ZhR {R : Type} (K : X → List V → S → Option R) (k_1 : Nat) (x_3 : Int) (e_4 : List V) (f_5 : Fl) (x_6 : Int) (e_8 : List V) (f_9 : Fl) (x_10 : Int) : List V → List V → Option R := (fun e_1' e_2' => K (.exit 7) (mkF 0 156 [(1, .ptr 0 0 0 0), (9, .arr 1 0 0 k_1), (10, .list 1 (e_1') (.own 3)), (11, .int .i64 x_3)]) [some ⟨[.agg [.list 7 e_8 f_9, .int .i64 x_10]], 2, 34, 0⟩, some ⟨e_2', 1, 4, 0⟩])
abbrev Zly {R : Type} (N : Nat) : Nat → List V → S → (X → List V → S → Option R) → Option R := fun n => Zdx C (Zgc N) (ZmP N) Zsy [0, 1, 1, 0, 0, 1, 0, 0, 1, 0, 1, 1, 1, 1, 1, 1, 1, 1] true ZmN Zvb n R
theorem ZII {R : Type} (N n : Nat) (k_1 : Nat) (x_3 : Int) (e_4 : List V) (f_5 : Fl) (x_6 : Int) (e_8 : List V) (f_9 : Fl) (x_10 : Int) (e_2 : List V) (x_7 : Int) (e_11 : List V) (K : X → List V → S → Option R) :
 Zly N (n + 1) (ZjA k_1 x_3 e_4 f_5 x_6 e_8 f_9 x_10 e_2 x_7 e_11) [some ⟨[.agg [.list 7 e_8 f_9, .int .i64 x_10]], 2, 34, 0⟩, some ⟨e_11, 1, 4, 0⟩] K =
 Zc0 N k_1 x_3 e_4 f_5 x_6 e_8 f_9 x_10 (fun e_2 x_7 e_11 => Zly N n (ZjA k_1 x_3 e_4 f_5 x_6 e_8 f_9 x_10 e_2 x_7 e_11) [some ⟨[.agg [.list 7 e_8 f_9, .int .i64 x_10]], 2, 34, 0⟩, some ⟨e_11, 1, 4, 0⟩] K) e_2 x_7 e_11 (ZhR K k_1 x_3 e_4 f_5 x_6 e_8 f_9 x_10) := by kernel_rfl
theorem ZCL {R : Type} (N : Nat) (k_1 : Nat) (x_3 : Int) (e_4 : List V) (f_5 : Fl) (x_6 : Int) (e_8 : List V) (f_9 : Fl) (x_10 : Int) (K : X → List V → S → Option R) : ∀ (n : Nat) (e_2 : List V) (x_7 : Int) (e_11 : List V),
 Zly N n (ZjA k_1 x_3 e_4 f_5 x_6 e_8 f_9 x_10 e_2 x_7 e_11) [some ⟨[.agg [.list 7 e_8 f_9, .int .i64 x_10]], 2, 34, 0⟩, some ⟨e_11, 1, 4, 0⟩] K = ZeV N k_1 x_3 e_4 f_5 x_6 e_8 f_9 x_10 (ZhR K k_1 x_3 e_4 f_5 x_6 e_8 f_9 x_10) n e_2 x_7 e_11
 | 0, _, _, _ => rfl
 | n + 1, e_2, x_7, e_11 => (ZII N n k_1 x_3 e_4 f_5 x_6 e_8 f_9 x_10 e_2 x_7 e_11 K).trans (congrArg (fun nx => Zc0 N k_1 x_3 e_4 f_5 x_6 e_8 f_9 x_10 nx e_2 x_7 e_11 (ZhR K k_1 x_3 e_4 f_5 x_6 e_8 f_9 x_10)) (funext fun e_2 => funext fun x_7 => funext fun e_11 => ZCL N k_1 x_3 e_4 f_5 x_6 e_8 f_9 x_10 K n e_2 x_7 e_11))
def ZtQ {R : Type} (E : List V) (s : S) (k : Nat → List V → Int → List V → Fl → Int → Int → List V → Fl → Int → List V → Option R) : Option R :=
 Zao (Za1 156 [1, 9, 10, 11, 109, 110, 111] E) <| ZoS E 1 (.ptr 0 0 0 0) <| Zbq (nth E 9) fun u9 => Ziq u9 fun k'1 k'2 k'3 k_1 => isN k'1 1 <| isN k'2 0 <| isN k'3 0 <| Zbq (nth E 10) fun u10 => ZaQ 1 u10 fun e_2 f'4 => ZqJ 3 f'4 <| ZaT E 11 .i64 fun x_3 => Zbr E 109 2 fun e_4 f_5 => ZaT E 110 .i64 fun x_6 => ZaT E 111 .i64 fun x_7 => ZdV s fun o'5 s'6 => ZdU o'5 2 34 fun e'7 k'8 => isN k'8 0 <| Zcf e'7 fun v'9 => asAgg v'9 fun c'10 => Zch c'10 fun v'11 v'12 => ZaQ 7 v'11 fun e_8 f_9 => asInt .i64 v'12 fun x_10 => ZdV s'6 fun o'13 s'14 => ZdU o'13 1 4 fun e_11 k'15 => isN k'15 0 <| ZaI s'14 <| k k_1 e_2 x_3 e_4 f_5 x_6 x_7 e_8 f_9 x_10 e_11
theorem ZoZ {R : Type} {E : List V} {s : S} {k : Nat → List V → Int → List V → Fl → Int → Int → List V → Fl → Int → List V → Option R} {r : R} (h : ZtQ E s k = some r) : ∃ k_1 e_2 x_3 e_4 f_5 x_6 x_7 e_8 f_9 x_10 e_11, E = ZjA k_1 x_3 e_4 f_5 x_6 e_8 f_9 x_10 e_2 x_7 e_11 ∧ s = [some ⟨[.agg [.list 7 e_8 f_9, .int .i64 x_10]], 2, 34, 0⟩, some ⟨e_11, 1, 4, 0⟩] ∧ k k_1 e_2 x_3 e_4 f_5 x_6 x_7 e_8 f_9 x_10 e_11 = some r := by
 unfold ZtQ at h
 obtain ⟨hg, h1⟩ := Zad h
 obtain ⟨hu1, h2⟩ := ZbK h1
 obtain ⟨_, hu9, h3⟩ := Zag h2
 obtain ⟨_, _, _, _, rfl, h4⟩ := Zb3 h3
 obtain ⟨rfl, h5⟩ := Zat h4
 obtain ⟨rfl, h6⟩ := Zat h5
 obtain ⟨rfl, h7⟩ := Zat h6
 obtain ⟨_, hu10, h8⟩ := Zag h7
 obtain ⟨_, _, rfl, h9⟩ := Zaj h8
 obtain ⟨rfl, h10⟩ := ZdH h9
 obtain ⟨_, hu11, h11⟩ := Zai h10
 obtain ⟨_, _, hu109, h12⟩ := Zax h11
 obtain ⟨_, hu110, h13⟩ := Zai h12
 obtain ⟨_, hu111, h14⟩ := Zai h13
 obtain ⟨_, _, rfl, h15⟩ := ZaN h14
 obtain ⟨_, _, rfl, h16⟩ := ZaM h15
 obtain ⟨rfl, h17⟩ := Zat h16
 obtain ⟨_, rfl, h18⟩ := Zaq h17
 obtain ⟨_, rfl, h19⟩ := ZaB h18
 obtain ⟨_, _, rfl, h20⟩ := Zap h19
 obtain ⟨_, _, rfl, h21⟩ := Zaj h20
 obtain ⟨_, rfl, h22⟩ := Zaf h21
 obtain ⟨_, _, rfl, h23⟩ := ZaN h22
 obtain ⟨_, _, rfl, h24⟩ := ZaM h23
 obtain ⟨rfl, h25⟩ := Zat h24
 obtain ⟨rfl, h26⟩ := Zae h25
 exact ⟨_, _, _, _, _, _, _, _, _, _, _, ZaP hg rfl (Zab hu1 (Zab hu9 (Zab hu10 (Zab hu11 (Zab hu109 (Zab hu110 (Zab hu111 ZaG))))))), rfl, h26⟩
def Zle (N : Nat) : ZaA := (ZmP N).add [0, 1, 1, 0, 0, 1, 0, 0, 1, 0, 1, 1, 1, 1, 1, 1, 1, 1] fun _ E s K => ZtQ (Zbd ZmN E) s fun k_1 e_2 x_3 e_4 f_5 x_6 x_7 e_8 f_9 x_10 e_11 => ZeV N k_1 x_3 e_4 f_5 x_6 e_8 f_9 x_10 (ZhR K k_1 x_3 e_4 f_5 x_6 e_8 f_9 x_10) N e_2 x_7 e_11
theorem ZDU {N : Nat} (hC : Ok Tryz.prog C) (hΦ : Zaa Tryz.prog C (Zgc N)) : Za6 Tryz.prog C (Zle N) Zsy [0, 1, 1, 0, 0, 1, 0, 0, 1, 0, 1, 1, 1, 1, 1, 1, 1, 1] :=
 Za7 (Λi := ZmP N) (tr := true) (ks := ZmN) (kx := Zvb) (N := N) hC hΦ
  (Zah (by kernel_rfl))
  fun R E s K r h => by
   have h2 := ZaA.add_self.symm.trans h
   obtain ⟨_, _, _, _, _, _, _, _, _, _, _, he, rfl, h3⟩ := ZoZ h2
   rw [he]
   exact (ZCL N _ _ _ _ _ _ _ _ _ N _ _ _).trans h3
def Zl9 : List Nat := ZbQ 156 [1, 9, 10, 11]
def ZvO : List Nat := ZbQ 156 [1, 9]
def ZjN (k_1 : Nat) (e_4 : List V) (f_5 : Fl) (x_6 : Int) (e_2 : List V) (x_3 : Int) (e_7 : List V) : List V := mkF 0 156 [(1, .ptr 0 0 0 0), (9, .arr 1 0 0 k_1), (10, .list 1 e_2 (.own 3)), (11, .int .i64 x_3)]
def ZhA {R : Type} (K : X → List V → S → Option R) (k_1 : Nat) (e_4 : List V) (f_5 : Fl) (x_6 : Int) : List V → Option R := (fun e_1' => K (.exit 5) (mkF 0 156 [(1, .ptr 0 0 0 0), (9, .arr 1 0 0 k_1)]) [some ⟨[.agg [.list 7 e_4 f_5, .int .i64 x_6]], 2, 34, 0⟩, some ⟨e_1', 1, 4, 0⟩])
abbrev ZlY {R : Type} (N : Nat) : Nat → List V → S → (X → List V → S → Option R) → Option R := fun n => Zdx C (Zgc N) (Zle N) Zid [0, 1, 0, 1, 1, 1, 1, 1, 1, 1, 1] false Zl9 ZvO n R
theorem ZHu {R : Type} (N n : Nat) (k_1 : Nat) (e_4 : List V) (f_5 : Fl) (x_6 : Int) (e_2 : List V) (x_3 : Int) (e_7 : List V) (K : X → List V → S → Option R) :
 ZlY N (n + 1) (ZjN k_1 e_4 f_5 x_6 e_2 x_3 e_7) [some ⟨[.agg [.list 7 e_4 f_5, .int .i64 x_6]], 2, 34, 0⟩, some ⟨e_7, 1, 4, 0⟩] K =
 Zc7 N k_1 e_4 f_5 x_6 (fun e_2 x_3 e_7 => ZlY N n (ZjN k_1 e_4 f_5 x_6 e_2 x_3 e_7) [some ⟨[.agg [.list 7 e_4 f_5, .int .i64 x_6]], 2, 34, 0⟩, some ⟨e_7, 1, 4, 0⟩] K) e_2 x_3 e_7 (ZhA K k_1 e_4 f_5 x_6) := by kernel_rfl
theorem ZAq {R : Type} (N : Nat) (k_1 : Nat) (e_4 : List V) (f_5 : Fl) (x_6 : Int) (K : X → List V → S → Option R) : ∀ (n : Nat) (e_2 : List V) (x_3 : Int) (e_7 : List V),
 ZlY N n (ZjN k_1 e_4 f_5 x_6 e_2 x_3 e_7) [some ⟨[.agg [.list 7 e_4 f_5, .int .i64 x_6]], 2, 34, 0⟩, some ⟨e_7, 1, 4, 0⟩] K = Ze0 N k_1 e_4 f_5 x_6 (ZhA K k_1 e_4 f_5 x_6) n e_2 x_3 e_7
 | 0, _, _, _ => rfl
 | n + 1, e_2, x_3, e_7 => (ZHu N n k_1 e_4 f_5 x_6 e_2 x_3 e_7 K).trans (congrArg (fun nx => Zc7 N k_1 e_4 f_5 x_6 nx e_2 x_3 e_7 (ZhA K k_1 e_4 f_5 x_6)) (funext fun e_2 => funext fun x_3 => funext fun e_7 => ZAq N k_1 e_4 f_5 x_6 K n e_2 x_3 e_7))
def Zrv {R : Type} (E : List V) (s : S) (k : Nat → List V → Int → List V → Fl → Int → List V → Option R) : Option R :=
 Zao (Za1 156 [1, 9, 10, 11] E) <| ZoS E 1 (.ptr 0 0 0 0) <| Zbq (nth E 9) fun u9 => Ziq u9 fun k'1 k'2 k'3 k_1 => isN k'1 1 <| isN k'2 0 <| isN k'3 0 <| Zbq (nth E 10) fun u10 => ZaQ 1 u10 fun e_2 f'4 => ZqJ 3 f'4 <| ZaT E 11 .i64 fun x_3 => ZdV s fun o'5 s'6 => ZdU o'5 2 34 fun e'7 k'8 => isN k'8 0 <| Zcf e'7 fun v'9 => asAgg v'9 fun c'10 => Zch c'10 fun v'11 v'12 => ZaQ 7 v'11 fun e_4 f_5 => asInt .i64 v'12 fun x_6 => ZdV s'6 fun o'13 s'14 => ZdU o'13 1 4 fun e_7 k'15 => isN k'15 0 <| ZaI s'14 <| k k_1 e_2 x_3 e_4 f_5 x_6 e_7
theorem Zob {R : Type} {E : List V} {s : S} {k : Nat → List V → Int → List V → Fl → Int → List V → Option R} {r : R} (h : Zrv E s k = some r) : ∃ k_1 e_2 x_3 e_4 f_5 x_6 e_7, E = ZjN k_1 e_4 f_5 x_6 e_2 x_3 e_7 ∧ s = [some ⟨[.agg [.list 7 e_4 f_5, .int .i64 x_6]], 2, 34, 0⟩, some ⟨e_7, 1, 4, 0⟩] ∧ k k_1 e_2 x_3 e_4 f_5 x_6 e_7 = some r := by
 unfold Zrv at h
 obtain ⟨hg, h1⟩ := Zad h
 obtain ⟨hu1, h2⟩ := ZbK h1
 obtain ⟨_, hu9, h3⟩ := Zag h2
 obtain ⟨_, _, _, _, rfl, h4⟩ := Zb3 h3
 obtain ⟨rfl, h5⟩ := Zat h4
 obtain ⟨rfl, h6⟩ := Zat h5
 obtain ⟨rfl, h7⟩ := Zat h6
 obtain ⟨_, hu10, h8⟩ := Zag h7
 obtain ⟨_, _, rfl, h9⟩ := Zaj h8
 obtain ⟨rfl, h10⟩ := ZdH h9
 obtain ⟨_, hu11, h11⟩ := Zai h10
 obtain ⟨_, _, rfl, h12⟩ := ZaN h11
 obtain ⟨_, _, rfl, h13⟩ := ZaM h12
 obtain ⟨rfl, h14⟩ := Zat h13
 obtain ⟨_, rfl, h15⟩ := Zaq h14
 obtain ⟨_, rfl, h16⟩ := ZaB h15
 obtain ⟨_, _, rfl, h17⟩ := Zap h16
 obtain ⟨_, _, rfl, h18⟩ := Zaj h17
 obtain ⟨_, rfl, h19⟩ := Zaf h18
 obtain ⟨_, _, rfl, h20⟩ := ZaN h19
 obtain ⟨_, _, rfl, h21⟩ := ZaM h20
 obtain ⟨rfl, h22⟩ := Zat h21
 obtain ⟨rfl, h23⟩ := Zae h22
 exact ⟨_, _, _, _, _, _, _, ZaP hg rfl (Zab hu1 (Zab hu9 (Zab hu10 (Zab hu11 ZaG)))), rfl, h23⟩
def Zli (N : Nat) : ZaA := (Zle N).add [0, 1, 0, 1, 1, 1, 1, 1, 1, 1, 1] fun _ E s K => Zrv (Zbd Zl9 E) s fun k_1 e_2 x_3 e_4 f_5 x_6 e_7 => Ze0 N k_1 e_4 f_5 x_6 (ZhA K k_1 e_4 f_5 x_6) N e_2 x_3 e_7
theorem ZDX : ZaX Zid (0 :: [0, 1, 0, 1, 1, 1, 1, 1, 1, 1, 1]) = [([0, 1, 1, 0, 0, 1, 0, 0, 1, 0, 1, 1, 1, 1, 1, 1, 1, 1], Zsy)] := by kernel_rfl
theorem ZDZ {N : Nat} (hC : Ok Tryz.prog C) (hΦ : Zaa Tryz.prog C (Zgc N)) : Za6 Tryz.prog C (Zli N) Zid [0, 1, 0, 1, 1, 1, 1, 1, 1, 1, 1] :=
 Za7 (Λi := Zle N) (tr := false) (ks := Zl9) (kx := ZvO) (N := N) hC hΦ
  (ZaC Zid _ (by
   rw [ZDX]
   intro p hp
   simp only [List.mem_cons, List.mem_nil_iff, or_false] at hp
   rcases hp with rfl
   ·exact (ZDU hC hΦ)))
  fun R E s K r h => by
   have h2 := ZaA.add_self.symm.trans h
   obtain ⟨_, _, _, _, _, _, _, he, rfl, h3⟩ := Zob h2
   rw [he]
   exact (ZAq N _ _ _ _ _ N _ _ _).trans h3
def Znm : List Nat := ZbQ 156 [9, 138, 139, 140]
def ZvQ : List Nat := ZbQ 156 [2]
def Zjr (k_1 : Nat) (e_2 : List V) (f_3 : Fl) (x_4 : Int) (e_6 : List V) (f_7 : Fl) (x_8 x_5 : Int) (e_9 : List V) : List V := mkF 0 156 [(9, .arr 1 0 0 k_1), (138, .list 7 e_2 f_3), (139, .int .i64 x_4), (140, .int .i64 x_5)]
def Zg9 {R : Type} (K : X → List V → S → Option R) (k_1 : Nat) (e_2 : List V) (f_3 : Fl) (x_4 : Int) (e_6 : List V) (f_7 : Fl) (x_8 : Int) : List V → Option R := (fun e_1' => K .ret (mkF 0 156 [(2, .bool false)]) [some ⟨[.agg [.list 7 e_6 f_7, .int .i64 x_8]], 2, 34, 0⟩, some ⟨e_1', 1, 4, 0⟩])
def ZhG {R : Type} (K : X → List V → S → Option R) (k_1 : Nat) (e_2 : List V) (f_3 : Fl) (x_4 : Int) (e_6 : List V) (f_7 : Fl) (x_8 : Int) : List V → Option R := (fun e_1' => K (.exit 9) (mkF 0 156 []) [some ⟨[.agg [.list 7 e_6 f_7, .int .i64 x_8]], 2, 34, 0⟩, some ⟨e_1', 1, 4, 0⟩])
abbrev Zls {R : Type} (N : Nat) : Nat → List V → S → (X → List V → S → Option R) → Option R := fun n => Zdx C (Zgc N) (Zli N) ZsB [0, 1, 0, 1, 1, 1, 1, 1, 1, 1, 1, 1] true Znm ZvQ n R
theorem ZHV {R : Type} (N n : Nat) (k_1 : Nat) (e_2 : List V) (f_3 : Fl) (x_4 : Int) (e_6 : List V) (f_7 : Fl) (x_8 : Int) (x_5 : Int) (e_9 : List V) (K : X → List V → S → Option R) :
 Zls N (n + 1) (Zjr k_1 e_2 f_3 x_4 e_6 f_7 x_8 x_5 e_9) [some ⟨[.agg [.list 7 e_6 f_7, .int .i64 x_8]], 2, 34, 0⟩, some ⟨e_9, 1, 4, 0⟩] K =
 Zdr N k_1 e_2 f_3 x_4 e_6 f_7 x_8 (fun x_5 e_9 => Zls N n (Zjr k_1 e_2 f_3 x_4 e_6 f_7 x_8 x_5 e_9) [some ⟨[.agg [.list 7 e_6 f_7, .int .i64 x_8]], 2, 34, 0⟩, some ⟨e_9, 1, 4, 0⟩] K) x_5 e_9 (Zg9 K k_1 e_2 f_3 x_4 e_6 f_7 x_8) (ZhG K k_1 e_2 f_3 x_4 e_6 f_7 x_8) := by kernel_rfl
theorem ZA6 {R : Type} (N : Nat) (k_1 : Nat) (e_2 : List V) (f_3 : Fl) (x_4 : Int) (e_6 : List V) (f_7 : Fl) (x_8 : Int) (K : X → List V → S → Option R) : ∀ (n : Nat) (x_5 : Int) (e_9 : List V),
 Zls N n (Zjr k_1 e_2 f_3 x_4 e_6 f_7 x_8 x_5 e_9) [some ⟨[.agg [.list 7 e_6 f_7, .int .i64 x_8]], 2, 34, 0⟩, some ⟨e_9, 1, 4, 0⟩] K = Zgq N k_1 e_2 f_3 x_4 e_6 f_7 x_8 (Zg9 K k_1 e_2 f_3 x_4 e_6 f_7 x_8) (ZhG K k_1 e_2 f_3 x_4 e_6 f_7 x_8) n x_5 e_9
 | 0, _, _ => rfl
 | n + 1, x_5, e_9 => (ZHV N n k_1 e_2 f_3 x_4 e_6 f_7 x_8 x_5 e_9 K).trans (congrArg (fun nx => Zdr N k_1 e_2 f_3 x_4 e_6 f_7 x_8 nx x_5 e_9 (Zg9 K k_1 e_2 f_3 x_4 e_6 f_7 x_8) (ZhG K k_1 e_2 f_3 x_4 e_6 f_7 x_8)) (funext fun x_5 => funext fun e_9 => ZA6 N k_1 e_2 f_3 x_4 e_6 f_7 x_8 K n x_5 e_9))
def Zto {R : Type} (E : List V) (s : S) (k : Nat → List V → Fl → Int → Int → List V → Fl → Int → List V → Option R) : Option R :=
 Zao (Za1 156 [9, 138, 139, 140] E) <| Zbq (nth E 9) fun u9 => Ziq u9 fun k'1 k'2 k'3 k_1 => isN k'1 1 <| isN k'2 0 <| isN k'3 0 <| Zbr E 138 7 fun e_2 f_3 => ZaT E 139 .i64 fun x_4 => ZaT E 140 .i64 fun x_5 => ZdV s fun o'4 s'5 => ZdU o'4 2 34 fun e'6 k'7 => isN k'7 0 <| Zcf e'6 fun v'8 => asAgg v'8 fun c'9 => Zch c'9 fun v'10 v'11 => ZaQ 7 v'10 fun e_6 f_7 => asInt .i64 v'11 fun x_8 => ZdV s'5 fun o'12 s'13 => ZdU o'12 1 4 fun e_9 k'14 => isN k'14 0 <| ZaI s'13 <| k k_1 e_2 f_3 x_4 x_5 e_6 f_7 x_8 e_9
theorem ZnL {R : Type} {E : List V} {s : S} {k : Nat → List V → Fl → Int → Int → List V → Fl → Int → List V → Option R} {r : R} (h : Zto E s k = some r) : ∃ k_1 e_2 f_3 x_4 x_5 e_6 f_7 x_8 e_9, E = Zjr k_1 e_2 f_3 x_4 e_6 f_7 x_8 x_5 e_9 ∧ s = [some ⟨[.agg [.list 7 e_6 f_7, .int .i64 x_8]], 2, 34, 0⟩, some ⟨e_9, 1, 4, 0⟩] ∧ k k_1 e_2 f_3 x_4 x_5 e_6 f_7 x_8 e_9 = some r := by
 unfold Zto at h
 obtain ⟨hg, h1⟩ := Zad h
 obtain ⟨_, hu9, h2⟩ := Zag h1
 obtain ⟨_, _, _, _, rfl, h3⟩ := Zb3 h2
 obtain ⟨rfl, h4⟩ := Zat h3
 obtain ⟨rfl, h5⟩ := Zat h4
 obtain ⟨rfl, h6⟩ := Zat h5
 obtain ⟨_, _, hu138, h7⟩ := Zax h6
 obtain ⟨_, hu139, h8⟩ := Zai h7
 obtain ⟨_, hu140, h9⟩ := Zai h8
 obtain ⟨_, _, rfl, h10⟩ := ZaN h9
 obtain ⟨_, _, rfl, h11⟩ := ZaM h10
 obtain ⟨rfl, h12⟩ := Zat h11
 obtain ⟨_, rfl, h13⟩ := Zaq h12
 obtain ⟨_, rfl, h14⟩ := ZaB h13
 obtain ⟨_, _, rfl, h15⟩ := Zap h14
 obtain ⟨_, _, rfl, h16⟩ := Zaj h15
 obtain ⟨_, rfl, h17⟩ := Zaf h16
 obtain ⟨_, _, rfl, h18⟩ := ZaN h17
 obtain ⟨_, _, rfl, h19⟩ := ZaM h18
 obtain ⟨rfl, h20⟩ := Zat h19
 obtain ⟨rfl, h21⟩ := Zae h20
 exact ⟨_, _, _, _, _, _, _, _, _, ZaP hg rfl (Zab hu9 (Zab hu138 (Zab hu139 (Zab hu140 ZaG)))), rfl, h21⟩
def Zr0 (N : Nat) : ZaA := (Zli N).add [0, 1, 0, 1, 1, 1, 1, 1, 1, 1, 1, 1] fun _ E s K => Zto (Zbd Znm E) s fun k_1 e_2 f_3 x_4 x_5 e_6 f_7 x_8 e_9 => Zgq N k_1 e_2 f_3 x_4 e_6 f_7 x_8 (Zg9 K k_1 e_2 f_3 x_4 e_6 f_7 x_8) (ZhG K k_1 e_2 f_3 x_4 e_6 f_7 x_8) N x_5 e_9
theorem ZD5 {N : Nat} (hC : Ok Tryz.prog C) (hΦ : Zaa Tryz.prog C (Zgc N)) : Za6 Tryz.prog C (Zr0 N) ZsB [0, 1, 0, 1, 1, 1, 1, 1, 1, 1, 1, 1] :=
 Za7 (Λi := Zli N) (tr := true) (ks := Znm) (kx := ZvQ) (N := N) hC hΦ
  (Zah (by kernel_rfl))
  fun R E s K r h => by
   have h2 := ZaA.add_self.symm.trans h
   obtain ⟨_, _, _, _, _, _, _, _, _, he, rfl, h3⟩ := ZnL h2
   rw [he]
   exact (ZA6 N _ _ _ _ _ _ _ _ N _ _).trans h3
theorem ZKh : ZaX Zpf [] = [([0, 1, 0, 1, 1], Zst), ([0, 1, 0, 1, 1, 1, 1, 1], Zsz), ([0, 1, 0, 1, 1, 1, 1, 1, 1, 1, 1], Zid), ([0, 1, 0, 1, 1, 1, 1, 1, 1, 1, 1, 1], ZsB)] := by kernel_rfl
theorem ZNs {R : Type} (N : Nat) (e_1 : List V) (f_2 : Fl) (x_3 : Int) (K : V → S → Option R) : Za0 C (Zgc N) (Zr0 N) 94 Tryz.f94 [.agg [.list 7 e_1 f_2, .int .i64 x_3]] [] K =
 ZoR N e_1 f_2 x_3 (fun b_4 => K (.bool b_4) []) := by kernel_rfl
theorem ZAm {N : Nat} (hC : Ok Tryz.prog C) (hΦ : Zaa Tryz.prog C (Zgc N)) : ZaV Tryz.prog C (Zr0 N) Zpf [] :=
 ZaC Zpf [] (by
  rw [ZKh]
  intro p hp
  simp only [List.mem_cons, List.mem_nil_iff, or_false] at hp
  rcases hp with rfl | rfl | rfl | rfl
  ·exact (Za6.add (Za6.add (Za6.add (Za6.add (ZED hC hΦ) rfl) rfl) rfl) rfl)
  ·exact (Za6.add (Za6.add (Za6.add (ZDr hC hΦ) rfl) rfl) rfl)
  ·exact (Za6.add (ZDZ hC hΦ) rfl)
  ·exact (ZD5 hC hΦ))
theorem ZyE (hC : Ok Tryz.prog C) {N : Nat} (hΦ : Zaa Tryz.prog C (Zgc N)) : Zaa Tryz.prog C (ZDF N) := by
 refine hΦ.add_pure rfl fun R vs K r h => ?_
 unfold ZK3 at h
 obtain ⟨_, rfl, h1⟩ := Zaq h
 obtain ⟨_, _, _, rfl, h2⟩ := Zau h1
 obtain ⟨_, h3⟩ := Zae h2
 refine Zam (fn := Tryz.f94) (c := Zpf) hC hΦ Tryz.func94 (by kernel_rfl) (by kernel_rfl) (ZAm (N := N) hC hΦ) rfl rfl ?_
 refine (ZNs N _ _ _ _).trans ?_
 rw [← Zuv]
 exact h3
def ZJN (N : Nat) : (R : Type) → List V → S → (V → S → Option R) → Option R := fun _ vs s K =>
 Zcf vs fun v'1 => Zbk v'1 fun x_1 x_2 => ZaI s <| ZHr N x_1 x_2 (fun b_3 => K (.bool b_3) [])
def ZGD (N : Nat) : Zar := (ZDF N).add 95 (ZJN N)
def ZLF : Code := ZaK Tryz.f95
theorem ZL5 {R : Type} (N : Nat) (x_1 x_2 : Int) (K : V → S → Option R) : Za0 C (ZDF N) (Zac) 95 Tryz.f95 [.agg [.int .i64 x_1, .int .i64 x_2]] [] K =
 Zp6 N x_1 x_2 (fun b_3 => K (.bool b_3) []) := by kernel_rfl
theorem ZwU (hC : Ok Tryz.prog C) {N : Nat} (hΦ : Zaa Tryz.prog C (ZDF N)) : Zaa Tryz.prog C (ZGD N) := by
 refine hΦ.add_pure rfl fun R vs K r h => ?_
 unfold ZJN at h
 obtain ⟨_, rfl, h1⟩ := Zaq h
 obtain ⟨_, _, rfl, h2⟩ := ZaY h1
 obtain ⟨_, h3⟩ := Zae h2
 refine Zam (fn := Tryz.f95) (c := ZLF) hC hΦ Tryz.func95 (by kernel_rfl) (by kernel_rfl) (Zah (Λ := Zac) (by kernel_rfl)) rfl rfl ?_
 refine (ZL5 N _ _ _).trans ?_
 rw [← Zvg]
 exact h3
def ZLe (N : Nat) : (R : Type) → List V → S → (V → S → Option R) → Option R := fun _ vs s K =>
 Zch vs fun v'1 v'2 => ZaU v'1 fun e_1 f_2 x_3 => Zbk v'2 fun x_4 x_5 => ZaI s <| ZEV N e_1 f_2 x_3 x_4 x_5 (fun b_6 => K (.bool b_6) [])
def ZGq (N : Nat) : Zar := (ZGD N).add 49 (ZLe N)
def ZMZ : Code := ZaK Tryz.f49
theorem ZLO {R : Type} (N : Nat) (e_1 : List V) (f_2 : Fl) (x_3 x_4 x_5 : Int) (K : V → S → Option R) : Za0 C (ZGD N) (Zac) 49 Tryz.f49 [.agg [.list 7 e_1 f_2, .int .i64 x_3], .agg [.int .i64 x_4, .int .i64 x_5]] [] K =
 Zoa N e_1 f_2 x_3 x_4 x_5 (fun b_6 => K (.bool b_6) []) := by kernel_rfl
theorem Zxp (hC : Ok Tryz.prog C) {N : Nat} (hΦ : Zaa Tryz.prog C (ZGD N)) : Zaa Tryz.prog C (ZGq N) := by
 refine hΦ.add_pure rfl fun R vs K r h => ?_
 unfold ZLe at h
 obtain ⟨_, _, rfl, h1⟩ := Zap h
 obtain ⟨_, _, _, rfl, h2⟩ := Zau h1
 obtain ⟨_, _, rfl, h3⟩ := ZaY h2
 obtain ⟨_, h4⟩ := Zae h3
 refine Zam (fn := Tryz.f49) (c := ZMZ) hC hΦ Tryz.func49 (by kernel_rfl) (by kernel_rfl) (Zah (Λ := Zac) (by kernel_rfl)) rfl rfl ?_
 refine (ZLO N _ _ _ _ _ _).trans ?_
 rw [← Zt7]
 exact h4
def ZJX (N : Nat) : (R : Type) → List V → S → (V → S → Option R) → Option R := fun _ vs s K =>
 ZLu vs fun v'1 v'2 v'3 v'4 v'5 => Zbk v'1 fun x_1 x_2 => asInt .i64 v'2 fun x_3 => asInt .i64 v'3 fun x_4 => asInt .i64 v'4 fun x_5 => asInt .i64 v'5 fun x_6 => ZaI s <| ZGp N x_1 x_2 x_3 x_4 x_5 x_6 (fun b_7 => K (.bool b_7) [])
def ZFC (N : Nat) : Zar := (ZGq N).add 107 (ZJX N)
def ZLV : Code := ZaK Tryz.f107
theorem ZLH {R : Type} (N : Nat) (x_1 x_2 x_3 x_4 x_5 x_6 : Int) (K : V → S → Option R) : Za0 C (ZGq N) (Zac) 107 Tryz.f107 [.agg [.int .i64 x_1, .int .i64 x_2], .int .i64 x_3, .int .i64 x_4, .int .i64 x_5, .int .i64 x_6] [] K =
 ZpV N x_1 x_2 x_3 x_4 x_5 x_6 (fun b_7 => K (.bool b_7) []) := by kernel_rfl
theorem ZxX (hC : Ok Tryz.prog C) {N : Nat} (hΦ : Zaa Tryz.prog C (ZGq N)) : Zaa Tryz.prog C (ZFC N) := by
 refine hΦ.add_pure rfl fun R vs K r h => ?_
 unfold ZJX at h
 obtain ⟨_, _, _, _, _, rfl, h1⟩ := ZpE h
 obtain ⟨_, _, rfl, h2⟩ := ZaY h1
 obtain ⟨_, rfl, h3⟩ := Zaf h2
 obtain ⟨_, rfl, h4⟩ := Zaf h3
 obtain ⟨_, rfl, h5⟩ := Zaf h4
 obtain ⟨_, rfl, h6⟩ := Zaf h5
 obtain ⟨_, h7⟩ := Zae h6
 refine Zam (fn := Tryz.f107) (c := ZLV) hC hΦ Tryz.func107 (by kernel_rfl) (by kernel_rfl) (Zah (Λ := Zac) (by kernel_rfl)) rfl rfl ?_
 refine (ZLH N _ _ _ _ _ _ _).trans ?_
 rw [← ZwR]
 exact h7
def ZJT (N : Nat) : (R : Type) → List V → S → (V → S → Option R) → Option R := fun _ vs s K =>
 ZHg vs fun v'1 v'2 v'3 v'4 => ZaU v'1 fun e_1 f_2 x_3 => Zbk v'2 fun x_4 x_5 => asInt .i64 v'3 fun x_6 => asInt .i64 v'4 fun x_7 => ZaI s <| ZGB N e_1 f_2 x_3 x_4 x_5 x_6 x_7 (fun b_8 => K (.bool b_8) [])
def ZDk (N : Nat) : Zar := (ZFC N).add 56 (ZJT N)
def ZMc : Code := ZaK Tryz.f56
theorem ZN3 {R : Type} (N : Nat) (e_1 : List V) (f_2 : Fl) (x_3 x_4 x_5 x_6 x_7 : Int) (K : V → S → Option R) : Za0 C (ZFC N) (Zac) 56 Tryz.f56 [.agg [.list 7 e_1 f_2, .int .i64 x_3], .agg [.int .i64 x_4, .int .i64 x_5], .int .i64 x_6, .int .i64 x_7] [] K =
 Zn0 N e_1 f_2 x_3 x_4 x_5 x_6 x_7 (fun b_8 => K (.bool b_8) []) := by kernel_rfl
theorem ZyZ (hC : Ok Tryz.prog C) {N : Nat} (hΦ : Zaa Tryz.prog C (ZFC N)) : Zaa Tryz.prog C (ZDk N) := by
 refine hΦ.add_pure rfl fun R vs K r h => ?_
 unfold ZJT at h
 obtain ⟨_, _, _, _, rfl, h1⟩ := ZeN h
 obtain ⟨_, _, _, rfl, h2⟩ := Zau h1
 obtain ⟨_, _, rfl, h3⟩ := ZaY h2
 obtain ⟨_, rfl, h4⟩ := Zaf h3
 obtain ⟨_, rfl, h5⟩ := Zaf h4
 obtain ⟨_, h6⟩ := Zae h5
 refine Zam (fn := Tryz.f56) (c := ZMc) hC hΦ Tryz.func56 (by kernel_rfl) (by kernel_rfl) (Zah (Λ := Zac) (by kernel_rfl)) rfl rfl ?_
 refine (ZN3 N _ _ _ _ _ _ _ _).trans ?_
 rw [← Zue]
 exact h6
def ZJb (N : Nat) : (R : Type) → List V → S → (V → S → Option R) → Option R := fun _ vs s K =>
 Zcf vs fun v'1 => Zbt v'1 fun w_1 => ZaI s <| ZEn N w_1 (fun b_2 => K (.bool b_2) [])
def ZGo (N : Nat) : Zar := (ZDk N).add 96 (ZJb N)
def ZLG : Code := ZaK Tryz.f96
theorem ZNj {R : Type} (N : Nat) (w_1 : ByteArray) (K : V → S → Option R) : Za0 C (ZDk N) (Zac) 96 Tryz.f96 [.str w_1] [] K =
 ZoJ N w_1 (fun b_2 => K (.bool b_2) []) := by kernel_rfl
theorem Zyy (hC : Ok Tryz.prog C) {N : Nat} (hΦ : Zaa Tryz.prog C (ZDk N)) : Zaa Tryz.prog C (ZGo N) := by
 refine hΦ.add_pure rfl fun R vs K r h => ?_
 unfold ZJb at h
 obtain ⟨_, rfl, h1⟩ := Zaq h
 obtain ⟨_, rfl, h2⟩ := Zav h1
 obtain ⟨_, h3⟩ := Zae h2
 refine Zam (fn := Tryz.f96) (c := ZLG) hC hΦ Tryz.func96 (by kernel_rfl) (by kernel_rfl) (Zah (Λ := Zac) (by kernel_rfl)) rfl rfl ?_
 refine (ZNj N _ _).trans ?_
 rw [← ZuP]
 exact h3
def ZJz (N : Nat) : (R : Type) → List V → S → (V → S → Option R) → Option R := fun _ vs s K =>
 Zch vs fun v'1 v'2 => Zbt v'1 fun w_1 => Zbt v'2 fun w_2 => ZaI s <| ZHP N w_1 w_2 (fun b_3 => K (.bool b_3) [])
def ZGb (N : Nat) : Zar := (ZGo N).add 151 (ZJz N)
def ZMI : Code := ZaK Tryz.f151
theorem ZLR {R : Type} (N : Nat) (w_1 w_2 : ByteArray) (K : V → S → Option R) : Za0 C (ZGo N) (Zac) 151 Tryz.f151 [.str w_1, .str w_2] [] K =
 ZoE N w_1 w_2 (fun b_3 => K (.bool b_3) []) := by kernel_rfl
theorem Zx4 (hC : Ok Tryz.prog C) {N : Nat} (hΦ : Zaa Tryz.prog C (ZGo N)) : Zaa Tryz.prog C (ZGb N) := by
 refine hΦ.add_pure rfl fun R vs K r h => ?_
 unfold ZJz at h
 obtain ⟨_, _, rfl, h1⟩ := Zap h
 obtain ⟨_, rfl, h2⟩ := Zav h1
 obtain ⟨_, rfl, h3⟩ := Zav h2
 obtain ⟨_, h4⟩ := Zae h3
 refine Zam (fn := Tryz.f151) (c := ZMI) hC hΦ Tryz.func151 (by kernel_rfl) (by kernel_rfl) (Zah (Λ := Zac) (by kernel_rfl)) rfl rfl ?_
 refine (ZLR N _ _ _).trans ?_
 rw [← ZwJ]
 exact h4
def ZKm (N : Nat) : (R : Type) → List V → S → (V → S → Option R) → Option R := fun _ vs s K =>
 Zch vs fun v'1 v'2 => Zbt v'1 fun w_1 => Zbt v'2 fun w_2 => ZaI s <| ZEX N w_1 w_2 (fun b_3 => K (.bool b_3) [])
def ZEc (N : Nat) : Zar := (ZGb N).add 97 (ZKm N)
def ZN5 : Code := ZaK Tryz.f97
theorem ZMC {R : Type} (N : Nat) (w_1 w_2 : ByteArray) (K : V → S → Option R) : Za0 C (ZGb N) (Zac) 97 Tryz.f97 [.str w_1, .str w_2] [] K =
 ZoY N w_1 w_2 (fun b_3 => K (.bool b_3) []) := by kernel_rfl
theorem ZxD (hC : Ok Tryz.prog C) {N : Nat} (hΦ : Zaa Tryz.prog C (ZGb N)) : Zaa Tryz.prog C (ZEc N) := by
 refine hΦ.add_pure rfl fun R vs K r h => ?_
 unfold ZKm at h
 obtain ⟨_, _, rfl, h1⟩ := Zap h
 obtain ⟨_, rfl, h2⟩ := Zav h1
 obtain ⟨_, rfl, h3⟩ := Zav h2
 obtain ⟨_, h4⟩ := Zae h3
 refine Zam (fn := Tryz.f97) (c := ZN5) hC hΦ Tryz.func97 (by kernel_rfl) (by kernel_rfl) (Zah (Λ := Zac) (by kernel_rfl)) rfl rfl ?_
 refine (ZMC N _ _ _).trans ?_
 rw [← Zwl]
 exact h4
def ZK8 (N : Nat) : (R : Type) → List V → S → (V → S → Option R) → Option R := fun _ vs s K =>
 Zch vs fun v'1 v'2 => ZaU v'1 fun e_1 f_2 x_3 => asInt .i64 v'2 fun x_4 => ZaI s <| Zym N e_1 f_2 x_3 x_4 (fun b_5 => K (.bool b_5) [])
def Znd (N : Nat) : Zar := (ZEc N).add 99 (ZK8 N)
def ZNE : Code := ZaK Tryz.f99
theorem ZNl {R : Type} (N : Nat) (e_1 : List V) (f_2 : Fl) (x_3 x_4 : Int) (K : V → S → Option R) : Za0 C (ZEc N) (Zac) 99 Tryz.f99 [.agg [.list 7 e_1 f_2, .int .i64 x_3], .int .i64 x_4] [] K =
 ZnO N e_1 f_2 x_3 x_4 (fun b_5 => K (.bool b_5) []) := by kernel_rfl
theorem Zxr (hC : Ok Tryz.prog C) {N : Nat} (hΦ : Zaa Tryz.prog C (ZEc N)) : Zaa Tryz.prog C (Znd N) := by
 refine hΦ.add_pure rfl fun R vs K r h => ?_
 unfold ZK8 at h
 obtain ⟨_, _, rfl, h1⟩ := Zap h
 obtain ⟨_, _, _, rfl, h2⟩ := Zau h1
 obtain ⟨_, rfl, h3⟩ := Zaf h2
 obtain ⟨_, h4⟩ := Zae h3
 refine Zam (fn := Tryz.f99) (c := ZNE) hC hΦ Tryz.func99 (by kernel_rfl) (by kernel_rfl) (Zah (Λ := Zac) (by kernel_rfl)) rfl rfl ?_
 refine (ZNl N _ _ _ _ _).trans ?_
 rw [← Zwb]
 exact h4
def ZKW (N : Nat) : (R : Type) → List V → S → (V → S → Option R) → Option R := fun _ vs s K =>
 Zch vs fun v'1 v'2 => ZaU v'1 fun e_1 f_2 x_3 => asInt .i64 v'2 fun x_4 => ZaI s <| ZCS N e_1 f_2 x_3 x_4 (fun x_5 w_6 => K (.tuple [.int .i64 x_5, .str w_6]) [])
def Zrc (N : Nat) : Zar := (Znd N).add 100 (ZKW N)
def ZCn : Code := ZaK Tryz.f100
def Ziw : Code := (Zbo ZCn [] 0).2
def Zro : Code := (Zbo Ziw (0 :: [0, 1, 0, 1]) 0).2
def Zmw : List Nat := ZbQ 34 [1, 6, 11, 12, 13, 19, 20, 21]
def ZuN : List Nat := ZbQ 34 [1, 4, 5, 11, 12, 13]
def Zi6 (x_1 x_2 : Int) (e_3 : List V) (f_4 : Fl) (x_5 x_6 : Int) (e_7 : List V) (f_8 : Fl) (x_9 : Int) (e_11 : List V) (f_12 : Fl) (x_13 x_14 x_15 x_16 x_17 x_18 : Int) (w_19 : ByteArray) (e_20 : List V) (f_21 : Fl) (x_10 : Int) : List V := mkF 0 34 [(1, .int .i64 x_1), (6, .int .i64 x_2), (11, .list 7 e_3 f_4), (12, .int .i64 x_5), (13, .int .i64 x_6), (19, .list 2 e_7 f_8), (20, .int .i64 x_9), (21, .int .i64 x_10)]
def ZgW {R : Type} (K : X → List V → S → Option R) (x_1 : Int) (x_2 : Int) (e_3 : List V) (f_4 : Fl) (x_5 : Int) (x_6 : Int) (e_7 : List V) (f_8 : Fl) (x_9 : Int) (e_11 : List V) (f_12 : Fl) (x_13 : Int) (x_14 : Int) (x_15 : Int) (x_16 : Int) (x_17 : Int) (x_18 : Int) (w_19 : ByteArray) (e_20 : List V) (f_21 : Fl) : ByteArray → Option R := (fun w_1' => K .ret (mkF 0 34 [(1, .int .i64 x_1), (4, .int .i64 x_2), (5, .str (w_1')), (11, .list 7 e_3 f_4), (12, .int .i64 x_5), (13, .int .i64 x_6)]) [some ⟨[.agg [.list 7 e_11 f_12, .int .i64 x_13]], 2, 34, 0⟩, some ⟨[.agg [.int .i64 x_14, .int .i64 x_15, .int .i64 x_16, .int .i64 x_17, .int .i64 x_18, .str w_19, .list 2 e_20 f_21]], 7, 87, 0⟩])
def ZhY {R : Type} (K : X → List V → S → Option R) (x_1 : Int) (x_2 : Int) (e_3 : List V) (f_4 : Fl) (x_5 : Int) (x_6 : Int) (e_7 : List V) (f_8 : Fl) (x_9 : Int) (e_11 : List V) (f_12 : Fl) (x_13 : Int) (x_14 : Int) (x_15 : Int) (x_16 : Int) (x_17 : Int) (x_18 : Int) (w_19 : ByteArray) (e_20 : List V) (f_21 : Fl) : Unit → Option R := (fun _ => K (.exit 2) (mkF 0 34 [(1, .int .i64 x_1), (11, .list 7 e_3 f_4), (12, .int .i64 x_5), (13, .int .i64 x_6)]) [some ⟨[.agg [.list 7 e_11 f_12, .int .i64 x_13]], 2, 34, 0⟩, some ⟨[.agg [.int .i64 x_14, .int .i64 x_15, .int .i64 x_16, .int .i64 x_17, .int .i64 x_18, .str w_19, .list 2 e_20 f_21]], 7, 87, 0⟩])
abbrev ZlK {R : Type} (N : Nat) : Nat → List V → S → (X → List V → S → Option R) → Option R := fun n => Zdx C (Znd N) (Zac) Zro [0, 1, 1, 0, 0, 1, 1, 0, 0, 1, 0, 1] true Zmw ZuN n R
theorem ZHY {R : Type} (N n : Nat) (x_1 x_2 : Int) (e_3 : List V) (f_4 : Fl) (x_5 x_6 : Int) (e_7 : List V) (f_8 : Fl) (x_9 : Int) (e_11 : List V) (f_12 : Fl) (x_13 x_14 x_15 x_16 x_17 x_18 : Int) (w_19 : ByteArray) (e_20 : List V) (f_21 : Fl) (x_10 : Int) (K : X → List V → S → Option R) :
 ZlK N (n + 1) (Zi6 x_1 x_2 e_3 f_4 x_5 x_6 e_7 f_8 x_9 e_11 f_12 x_13 x_14 x_15 x_16 x_17 x_18 w_19 e_20 f_21 x_10) [some ⟨[.agg [.list 7 e_11 f_12, .int .i64 x_13]], 2, 34, 0⟩, some ⟨[.agg [.int .i64 x_14, .int .i64 x_15, .int .i64 x_16, .int .i64 x_17, .int .i64 x_18, .str w_19, .list 2 e_20 f_21]], 7, 87, 0⟩] K =
 ZcQ N x_1 x_2 e_3 f_4 x_5 x_6 e_7 f_8 x_9 e_11 f_12 x_13 x_14 x_15 x_16 x_17 x_18 w_19 e_20 f_21 (fun x_10 => ZlK N n (Zi6 x_1 x_2 e_3 f_4 x_5 x_6 e_7 f_8 x_9 e_11 f_12 x_13 x_14 x_15 x_16 x_17 x_18 w_19 e_20 f_21 x_10) [some ⟨[.agg [.list 7 e_11 f_12, .int .i64 x_13]], 2, 34, 0⟩, some ⟨[.agg [.int .i64 x_14, .int .i64 x_15, .int .i64 x_16, .int .i64 x_17, .int .i64 x_18, .str w_19, .list 2 e_20 f_21]], 7, 87, 0⟩] K) x_10 (ZgW K x_1 x_2 e_3 f_4 x_5 x_6 e_7 f_8 x_9 e_11 f_12 x_13 x_14 x_15 x_16 x_17 x_18 w_19 e_20 f_21) (ZhY K x_1 x_2 e_3 f_4 x_5 x_6 e_7 f_8 x_9 e_11 f_12 x_13 x_14 x_15 x_16 x_17 x_18 w_19 e_20 f_21) := by kernel_rfl
theorem ZB6 {R : Type} (N : Nat) (x_1 x_2 : Int) (e_3 : List V) (f_4 : Fl) (x_5 x_6 : Int) (e_7 : List V) (f_8 : Fl) (x_9 : Int) (e_11 : List V) (f_12 : Fl) (x_13 x_14 x_15 x_16 x_17 x_18 : Int) (w_19 : ByteArray) (e_20 : List V) (f_21 : Fl) (K : X → List V → S → Option R) : ∀ (n : Nat) (x_10 : Int),
 ZlK N n (Zi6 x_1 x_2 e_3 f_4 x_5 x_6 e_7 f_8 x_9 e_11 f_12 x_13 x_14 x_15 x_16 x_17 x_18 w_19 e_20 f_21 x_10) [some ⟨[.agg [.list 7 e_11 f_12, .int .i64 x_13]], 2, 34, 0⟩, some ⟨[.agg [.int .i64 x_14, .int .i64 x_15, .int .i64 x_16, .int .i64 x_17, .int .i64 x_18, .str w_19, .list 2 e_20 f_21]], 7, 87, 0⟩] K = ZeW N x_1 x_2 e_3 f_4 x_5 x_6 e_7 f_8 x_9 e_11 f_12 x_13 x_14 x_15 x_16 x_17 x_18 w_19 e_20 f_21 (ZgW K x_1 x_2 e_3 f_4 x_5 x_6 e_7 f_8 x_9 e_11 f_12 x_13 x_14 x_15 x_16 x_17 x_18 w_19 e_20 f_21) (ZhY K x_1 x_2 e_3 f_4 x_5 x_6 e_7 f_8 x_9 e_11 f_12 x_13 x_14 x_15 x_16 x_17 x_18 w_19 e_20 f_21) n x_10
 | 0, _ => rfl
 | n + 1, x_10 => (ZHY N n x_1 x_2 e_3 f_4 x_5 x_6 e_7 f_8 x_9 e_11 f_12 x_13 x_14 x_15 x_16 x_17 x_18 w_19 e_20 f_21 x_10 K).trans (congrArg (fun nx => ZcQ N x_1 x_2 e_3 f_4 x_5 x_6 e_7 f_8 x_9 e_11 f_12 x_13 x_14 x_15 x_16 x_17 x_18 w_19 e_20 f_21 nx x_10 (ZgW K x_1 x_2 e_3 f_4 x_5 x_6 e_7 f_8 x_9 e_11 f_12 x_13 x_14 x_15 x_16 x_17 x_18 w_19 e_20 f_21) (ZhY K x_1 x_2 e_3 f_4 x_5 x_6 e_7 f_8 x_9 e_11 f_12 x_13 x_14 x_15 x_16 x_17 x_18 w_19 e_20 f_21)) (funext fun x_10 => ZB6 N x_1 x_2 e_3 f_4 x_5 x_6 e_7 f_8 x_9 e_11 f_12 x_13 x_14 x_15 x_16 x_17 x_18 w_19 e_20 f_21 K n x_10))
def ZqY {R : Type} (E : List V) (s : S) (k : Int → Int → List V → Fl → Int → Int → List V → Fl → Int → Int → List V → Fl → Int → Int → Int → Int → Int → Int → ByteArray → List V → Fl → Option R) : Option R :=
 Zao (Za1 34 [1, 6, 11, 12, 13, 19, 20, 21] E) <| ZaT E 1 .i64 fun x_1 => ZaT E 6 .i64 fun x_2 => Zbr E 11 7 fun e_3 f_4 => ZaT E 12 .i64 fun x_5 => ZaT E 13 .i64 fun x_6 => Zbr E 19 2 fun e_7 f_8 => ZaT E 20 .i64 fun x_9 => ZaT E 21 .i64 fun x_10 => ZdV s fun o'1 s'2 => ZdU o'1 2 34 fun e'3 k'4 => isN k'4 0 <| Zcf e'3 fun v'5 => asAgg v'5 fun c'6 => Zch c'6 fun v'7 v'8 => ZaQ 7 v'7 fun e_11 f_12 => asInt .i64 v'8 fun x_13 => ZdV s'2 fun o'9 s'10 => ZdU o'9 7 87 fun e'11 k'12 => isN k'12 0 <| Zcf e'11 fun v'13 => asAgg v'13 fun c'14 => ZGO c'14 fun v'15 v'16 v'17 v'18 v'19 v'20 v'21 => asInt .i64 v'15 fun x_14 => asInt .i64 v'16 fun x_15 => asInt .i64 v'17 fun x_16 => asInt .i64 v'18 fun x_17 => asInt .i64 v'19 fun x_18 => Zbt v'20 fun w_19 => ZaQ 2 v'21 fun e_20 f_21 => ZaI s'10 <| k x_1 x_2 e_3 f_4 x_5 x_6 e_7 f_8 x_9 x_10 e_11 f_12 x_13 x_14 x_15 x_16 x_17 x_18 w_19 e_20 f_21
theorem ZoV {R : Type} {E : List V} {s : S} {k : Int → Int → List V → Fl → Int → Int → List V → Fl → Int → Int → List V → Fl → Int → Int → Int → Int → Int → Int → ByteArray → List V → Fl → Option R} {r : R} (h : ZqY E s k = some r) : ∃ x_1 x_2 e_3 f_4 x_5 x_6 e_7 f_8 x_9 x_10 e_11 f_12 x_13 x_14 x_15 x_16 x_17 x_18 w_19 e_20 f_21, E = Zi6 x_1 x_2 e_3 f_4 x_5 x_6 e_7 f_8 x_9 e_11 f_12 x_13 x_14 x_15 x_16 x_17 x_18 w_19 e_20 f_21 x_10 ∧ s = [some ⟨[.agg [.list 7 e_11 f_12, .int .i64 x_13]], 2, 34, 0⟩, some ⟨[.agg [.int .i64 x_14, .int .i64 x_15, .int .i64 x_16, .int .i64 x_17, .int .i64 x_18, .str w_19, .list 2 e_20 f_21]], 7, 87, 0⟩] ∧ k x_1 x_2 e_3 f_4 x_5 x_6 e_7 f_8 x_9 x_10 e_11 f_12 x_13 x_14 x_15 x_16 x_17 x_18 w_19 e_20 f_21 = some r := by
 unfold ZqY at h
 obtain ⟨hg, h1⟩ := Zad h
 obtain ⟨_, hu1, h2⟩ := Zai h1
 obtain ⟨_, hu6, h3⟩ := Zai h2
 obtain ⟨_, _, hu11, h4⟩ := Zax h3
 obtain ⟨_, hu12, h5⟩ := Zai h4
 obtain ⟨_, hu13, h6⟩ := Zai h5
 obtain ⟨_, _, hu19, h7⟩ := Zax h6
 obtain ⟨_, hu20, h8⟩ := Zai h7
 obtain ⟨_, hu21, h9⟩ := Zai h8
 obtain ⟨_, _, rfl, h10⟩ := ZaN h9
 obtain ⟨_, _, rfl, h11⟩ := ZaM h10
 obtain ⟨rfl, h12⟩ := Zat h11
 obtain ⟨_, rfl, h13⟩ := Zaq h12
 obtain ⟨_, rfl, h14⟩ := ZaB h13
 obtain ⟨_, _, rfl, h15⟩ := Zap h14
 obtain ⟨_, _, rfl, h16⟩ := Zaj h15
 obtain ⟨_, rfl, h17⟩ := Zaf h16
 obtain ⟨_, _, rfl, h18⟩ := ZaN h17
 obtain ⟨_, _, rfl, h19⟩ := ZaM h18
 obtain ⟨rfl, h20⟩ := Zat h19
 obtain ⟨_, rfl, h21⟩ := Zaq h20
 obtain ⟨_, rfl, h22⟩ := ZaB h21
 obtain ⟨_, _, _, _, _, _, _, rfl, h23⟩ := Zen h22
 obtain ⟨_, rfl, h24⟩ := Zaf h23
 obtain ⟨_, rfl, h25⟩ := Zaf h24
 obtain ⟨_, rfl, h26⟩ := Zaf h25
 obtain ⟨_, rfl, h27⟩ := Zaf h26
 obtain ⟨_, rfl, h28⟩ := Zaf h27
 obtain ⟨_, rfl, h29⟩ := Zav h28
 obtain ⟨_, _, rfl, h30⟩ := Zaj h29
 obtain ⟨rfl, h31⟩ := Zae h30
 exact ⟨_, _, _, _, _, _, _, _, _, _, _, _, _, _, _, _, _, _, _, _, _, ZaP hg rfl (Zab hu1 (Zab hu6 (Zab hu11 (Zab hu12 (Zab hu13 (Zab hu19 (Zab hu20 (Zab hu21 ZaG)))))))), rfl, h31⟩
def Zm9 (N : Nat) : ZaA := (Zac).add [0, 1, 1, 0, 0, 1, 1, 0, 0, 1, 0, 1] fun _ E s K => ZqY (Zbd Zmw E) s fun x_1 x_2 e_3 f_4 x_5 x_6 e_7 f_8 x_9 x_10 e_11 f_12 x_13 x_14 x_15 x_16 x_17 x_18 w_19 e_20 f_21 => ZeW N x_1 x_2 e_3 f_4 x_5 x_6 e_7 f_8 x_9 e_11 f_12 x_13 x_14 x_15 x_16 x_17 x_18 w_19 e_20 f_21 (ZgW K x_1 x_2 e_3 f_4 x_5 x_6 e_7 f_8 x_9 e_11 f_12 x_13 x_14 x_15 x_16 x_17 x_18 w_19 e_20 f_21) (ZhY K x_1 x_2 e_3 f_4 x_5 x_6 e_7 f_8 x_9 e_11 f_12 x_13 x_14 x_15 x_16 x_17 x_18 w_19 e_20 f_21) N x_10
theorem ZEi {N : Nat} (hC : Ok Tryz.prog C) (hΦ : Zaa Tryz.prog C (Znd N)) : Za6 Tryz.prog C (Zm9 N) Zro [0, 1, 1, 0, 0, 1, 1, 0, 0, 1, 0, 1] :=
 Za7 (Λi := Zac) (tr := true) (ks := Zmw) (kx := ZuN) (N := N) hC hΦ
  (Zah (by kernel_rfl))
  fun R E s K r h => by
   have h2 := ZaA.add_self.symm.trans h
   obtain ⟨_, _, _, _, _, _, _, _, _, _, _, _, _, _, _, _, _, _, _, _, _, he, rfl, h3⟩ := ZoV h2
   rw [he]
   exact (ZB6 N _ _ _ _ _ _ _ _ _ _ _ _ _ _ _ _ _ _ _ _ _ N _).trans h3
def ZmU : List Nat := ZbQ 34 [1, 11, 12, 13]
def Zwx : List Nat := ZbQ 34 [4, 5]
def ZjK (x_1 : Int) (e_2 : List V) (f_3 : Fl) (x_4 : Int) (e_6 : List V) (f_7 : Fl) (x_8 x_5 : Int) : List V := mkF 0 34 [(1, .int .i64 x_1), (11, .list 7 e_2 f_3), (12, .int .i64 x_4), (13, .int .i64 x_5)]
def ZhI {R : Type} (K : X → List V → S → Option R) (x_1 : Int) (e_2 : List V) (f_3 : Fl) (x_4 : Int) (e_6 : List V) (f_7 : Fl) (x_8 : Int) : Int → ByteArray → Option R := (fun x_1' w_2' => K .ret (mkF 0 34 [(4, .int .i64 (x_1')), (5, .str (w_2'))]) [some ⟨[.agg [.list 7 e_6 f_7, .int .i64 x_8]], 2, 34, 0⟩])
def Zhx {R : Type} (K : X → List V → S → Option R) (x_1 : Int) (e_2 : List V) (f_3 : Fl) (x_4 : Int) (e_6 : List V) (f_7 : Fl) (x_8 : Int) : Unit → Option R := (fun _ => K (.exit 0) (mkF 0 34 []) [some ⟨[.agg [.list 7 e_6 f_7, .int .i64 x_8]], 2, 34, 0⟩])
abbrev ZmI {R : Type} (N : Nat) : Nat → List V → S → (X → List V → S → Option R) → Option R := fun n => Zdx C (Znd N) (Zm9 N) Ziw [0, 1, 0, 1] true ZmU Zwx n R
theorem ZHz {R : Type} (N n : Nat) (x_1 : Int) (e_2 : List V) (f_3 : Fl) (x_4 : Int) (e_6 : List V) (f_7 : Fl) (x_8 : Int) (x_5 : Int) (K : X → List V → S → Option R) :
 ZmI N (n + 1) (ZjK x_1 e_2 f_3 x_4 e_6 f_7 x_8 x_5) [some ⟨[.agg [.list 7 e_6 f_7, .int .i64 x_8]], 2, 34, 0⟩] K =
 Zdb N x_1 e_2 f_3 x_4 e_6 f_7 x_8 (fun x_5 => ZmI N n (ZjK x_1 e_2 f_3 x_4 e_6 f_7 x_8 x_5) [some ⟨[.agg [.list 7 e_6 f_7, .int .i64 x_8]], 2, 34, 0⟩] K) x_5 (ZhI K x_1 e_2 f_3 x_4 e_6 f_7 x_8) (Zhx K x_1 e_2 f_3 x_4 e_6 f_7 x_8) := by kernel_rfl
theorem ZCw {R : Type} (N : Nat) (x_1 : Int) (e_2 : List V) (f_3 : Fl) (x_4 : Int) (e_6 : List V) (f_7 : Fl) (x_8 : Int) (K : X → List V → S → Option R) : ∀ (n : Nat) (x_5 : Int),
 ZmI N n (ZjK x_1 e_2 f_3 x_4 e_6 f_7 x_8 x_5) [some ⟨[.agg [.list 7 e_6 f_7, .int .i64 x_8]], 2, 34, 0⟩] K = Zf8 N x_1 e_2 f_3 x_4 e_6 f_7 x_8 (ZhI K x_1 e_2 f_3 x_4 e_6 f_7 x_8) (Zhx K x_1 e_2 f_3 x_4 e_6 f_7 x_8) n x_5
 | 0, _ => rfl
 | n + 1, x_5 => (ZHz N n x_1 e_2 f_3 x_4 e_6 f_7 x_8 x_5 K).trans (congrArg (fun nx => Zdb N x_1 e_2 f_3 x_4 e_6 f_7 x_8 nx x_5 (ZhI K x_1 e_2 f_3 x_4 e_6 f_7 x_8) (Zhx K x_1 e_2 f_3 x_4 e_6 f_7 x_8)) (funext fun x_5 => ZCw N x_1 e_2 f_3 x_4 e_6 f_7 x_8 K n x_5))
def Zq5 {R : Type} (E : List V) (s : S) (k : Int → List V → Fl → Int → Int → List V → Fl → Int → Option R) : Option R :=
 Zao (Za1 34 [1, 11, 12, 13] E) <| ZaT E 1 .i64 fun x_1 => Zbr E 11 7 fun e_2 f_3 => ZaT E 12 .i64 fun x_4 => ZaT E 13 .i64 fun x_5 => ZdV s fun o'1 s'2 => ZdU o'1 2 34 fun e'3 k'4 => isN k'4 0 <| Zcf e'3 fun v'5 => asAgg v'5 fun c'6 => Zch c'6 fun v'7 v'8 => ZaQ 7 v'7 fun e_6 f_7 => asInt .i64 v'8 fun x_8 => ZaI s'2 <| k x_1 e_2 f_3 x_4 x_5 e_6 f_7 x_8
theorem ZpB {R : Type} {E : List V} {s : S} {k : Int → List V → Fl → Int → Int → List V → Fl → Int → Option R} {r : R} (h : Zq5 E s k = some r) : ∃ x_1 e_2 f_3 x_4 x_5 e_6 f_7 x_8, E = ZjK x_1 e_2 f_3 x_4 e_6 f_7 x_8 x_5 ∧ s = [some ⟨[.agg [.list 7 e_6 f_7, .int .i64 x_8]], 2, 34, 0⟩] ∧ k x_1 e_2 f_3 x_4 x_5 e_6 f_7 x_8 = some r := by
 unfold Zq5 at h
 obtain ⟨hg, h1⟩ := Zad h
 obtain ⟨_, hu1, h2⟩ := Zai h1
 obtain ⟨_, _, hu11, h3⟩ := Zax h2
 obtain ⟨_, hu12, h4⟩ := Zai h3
 obtain ⟨_, hu13, h5⟩ := Zai h4
 obtain ⟨_, _, rfl, h6⟩ := ZaN h5
 obtain ⟨_, _, rfl, h7⟩ := ZaM h6
 obtain ⟨rfl, h8⟩ := Zat h7
 obtain ⟨_, rfl, h9⟩ := Zaq h8
 obtain ⟨_, rfl, h10⟩ := ZaB h9
 obtain ⟨_, _, rfl, h11⟩ := Zap h10
 obtain ⟨_, _, rfl, h12⟩ := Zaj h11
 obtain ⟨_, rfl, h13⟩ := Zaf h12
 obtain ⟨rfl, h14⟩ := Zae h13
 exact ⟨_, _, _, _, _, _, _, _, ZaP hg rfl (Zab hu1 (Zab hu11 (Zab hu12 (Zab hu13 ZaG)))), rfl, h14⟩
def Zr2 (N : Nat) : ZaA := (Zm9 N).add [0, 1, 0, 1] fun _ E s K => Zq5 (Zbd ZmU E) s fun x_1 e_2 f_3 x_4 x_5 e_6 f_7 x_8 => Zf8 N x_1 e_2 f_3 x_4 e_6 f_7 x_8 (ZhI K x_1 e_2 f_3 x_4 e_6 f_7 x_8) (Zhx K x_1 e_2 f_3 x_4 e_6 f_7 x_8) N x_5
theorem ZDA : ZaX Ziw (0 :: [0, 1, 0, 1]) = [([0, 1, 1, 0, 0, 1, 1, 0, 0, 1, 0, 1], Zro)] := by kernel_rfl
theorem ZGs {N : Nat} (hC : Ok Tryz.prog C) (hΦ : Zaa Tryz.prog C (Znd N)) : Za6 Tryz.prog C (Zr2 N) Ziw [0, 1, 0, 1] :=
 Za7 (Λi := Zm9 N) (tr := true) (ks := ZmU) (kx := Zwx) (N := N) hC hΦ
  (ZaC Ziw _ (by
   rw [ZDA]
   intro p hp
   simp only [List.mem_cons, List.mem_nil_iff, or_false] at hp
   rcases hp with rfl
   ·exact (ZEi hC hΦ)))
  fun R E s K r h => by
   have h2 := ZaA.add_self.symm.trans h
   obtain ⟨_, _, _, _, _, _, _, _, he, rfl, h3⟩ := ZpB h2
   rw [he]
   exact (ZCw N _ _ _ _ _ _ _ _ N _).trans h3
theorem ZKx : ZaX ZCn [] = [([0, 1, 0, 1], Ziw)] := by kernel_rfl
theorem ZNg {R : Type} (N : Nat) (e_1 : List V) (f_2 : Fl) (x_3 x_4 : Int) (K : V → S → Option R) : Za0 C (Znd N) (Zr2 N) 100 Tryz.f100 [.agg [.list 7 e_1 f_2, .int .i64 x_3], .int .i64 x_4] [] K =
 Zpb N e_1 f_2 x_3 x_4 (fun x_5 w_6 => K (.tuple [.int .i64 x_5, .str w_6]) []) := by kernel_rfl
theorem ZAO {N : Nat} (hC : Ok Tryz.prog C) (hΦ : Zaa Tryz.prog C (Znd N)) : ZaV Tryz.prog C (Zr2 N) ZCn [] :=
 ZaC ZCn [] (by
  rw [ZKx]
  intro p hp
  simp only [List.mem_cons, List.mem_nil_iff, or_false] at hp
  rcases hp with rfl
  ·exact (ZGs hC hΦ))
theorem Zyj (hC : Ok Tryz.prog C) {N : Nat} (hΦ : Zaa Tryz.prog C (Znd N)) : Zaa Tryz.prog C (Zrc N) := by
 refine hΦ.add_pure rfl fun R vs K r h => ?_
 unfold ZKW at h
 obtain ⟨_, _, rfl, h1⟩ := Zap h
 obtain ⟨_, _, _, rfl, h2⟩ := Zau h1
 obtain ⟨_, rfl, h3⟩ := Zaf h2
 obtain ⟨_, h4⟩ := Zae h3
 refine Zam (fn := Tryz.f100) (c := ZCn) hC hΦ Tryz.func100 (by kernel_rfl) (by kernel_rfl) (ZAO (N := N) hC hΦ) rfl rfl ?_
 refine (ZNg N _ _ _ _ _).trans ?_
 rw [← Zva]
 exact h4
def ZJf (N : Nat) : (R : Type) → List V → S → (V → S → Option R) → Option R := fun _ vs s K =>
 ZCF vs fun v'1 v'2 v'3 => ZaU v'1 fun e_1 f_2 x_3 => asInt .i64 v'2 fun x_4 => Zbt v'3 fun w_5 => ZaI s <| ZDy N e_1 f_2 x_3 x_4 w_5 (fun x_6 => K (.int .i64 x_6) [])
def ZH0 (N : Nat) : Zar := (Zrc N).add 101 (ZJf N)
def ZzL : Code := ZaK Tryz.f101
def ZqM : Code := (Zbo ZzL [] 0).2
def Znu : List Nat := ZbQ 27 [2, 14, 15, 16]
def Zu5 : List Nat := ZbQ 27 [6]
def ZiV (w_1 : ByteArray) (e_2 : List V) (f_3 : Fl) (x_4 : Int) (e_6 : List V) (f_7 : Fl) (x_8 x_5 : Int) : List V := mkF 0 27 [(2, .str w_1), (14, .list 2 e_2 f_3), (15, .int .i64 x_4), (16, .int .i64 x_5)]
def Zhr {R : Type} (K : X → List V → S → Option R) (w_1 : ByteArray) (e_2 : List V) (f_3 : Fl) (x_4 : Int) (e_6 : List V) (f_7 : Fl) (x_8 : Int) : Int → Option R := (fun x_1' => K .ret (mkF 0 27 [(6, .int .i64 (x_1'))]) [some ⟨[.agg [.list 7 e_6 f_7, .int .i64 x_8]], 2, 34, 0⟩])
def ZhV {R : Type} (K : X → List V → S → Option R) (w_1 : ByteArray) (e_2 : List V) (f_3 : Fl) (x_4 : Int) (e_6 : List V) (f_7 : Fl) (x_8 : Int) : Unit → Option R := (fun _ => K (.exit 0) (mkF 0 27 []) [some ⟨[.agg [.list 7 e_6 f_7, .int .i64 x_8]], 2, 34, 0⟩])
abbrev Zlw {R : Type} (N : Nat) : Nat → List V → S → (X → List V → S → Option R) → Option R := fun n => Zdx C (Zrc N) (Zac) ZqM [0, 1, 0, 1] true Znu Zu5 n R
theorem ZH2 {R : Type} (N n : Nat) (w_1 : ByteArray) (e_2 : List V) (f_3 : Fl) (x_4 : Int) (e_6 : List V) (f_7 : Fl) (x_8 : Int) (x_5 : Int) (K : X → List V → S → Option R) :
 Zlw N (n + 1) (ZiV w_1 e_2 f_3 x_4 e_6 f_7 x_8 x_5) [some ⟨[.agg [.list 7 e_6 f_7, .int .i64 x_8]], 2, 34, 0⟩] K =
 ZcX N w_1 e_2 f_3 x_4 e_6 f_7 x_8 (fun x_5 => Zlw N n (ZiV w_1 e_2 f_3 x_4 e_6 f_7 x_8 x_5) [some ⟨[.agg [.list 7 e_6 f_7, .int .i64 x_8]], 2, 34, 0⟩] K) x_5 (Zhr K w_1 e_2 f_3 x_4 e_6 f_7 x_8) (ZhV K w_1 e_2 f_3 x_4 e_6 f_7 x_8) := by kernel_rfl
theorem Zzt {R : Type} (N : Nat) (w_1 : ByteArray) (e_2 : List V) (f_3 : Fl) (x_4 : Int) (e_6 : List V) (f_7 : Fl) (x_8 : Int) (K : X → List V → S → Option R) : ∀ (n : Nat) (x_5 : Int),
 Zlw N n (ZiV w_1 e_2 f_3 x_4 e_6 f_7 x_8 x_5) [some ⟨[.agg [.list 7 e_6 f_7, .int .i64 x_8]], 2, 34, 0⟩] K = Zgw N w_1 e_2 f_3 x_4 e_6 f_7 x_8 (Zhr K w_1 e_2 f_3 x_4 e_6 f_7 x_8) (ZhV K w_1 e_2 f_3 x_4 e_6 f_7 x_8) n x_5
 | 0, _ => rfl
 | n + 1, x_5 => (ZH2 N n w_1 e_2 f_3 x_4 e_6 f_7 x_8 x_5 K).trans (congrArg (fun nx => ZcX N w_1 e_2 f_3 x_4 e_6 f_7 x_8 nx x_5 (Zhr K w_1 e_2 f_3 x_4 e_6 f_7 x_8) (ZhV K w_1 e_2 f_3 x_4 e_6 f_7 x_8)) (funext fun x_5 => Zzt N w_1 e_2 f_3 x_4 e_6 f_7 x_8 K n x_5))
def ZrC {R : Type} (E : List V) (s : S) (k : ByteArray → List V → Fl → Int → Int → List V → Fl → Int → Option R) : Option R :=
 Zao (Za1 27 [2, 14, 15, 16] E) <| ZiT E 2 fun w_1 => Zbr E 14 2 fun e_2 f_3 => ZaT E 15 .i64 fun x_4 => ZaT E 16 .i64 fun x_5 => ZdV s fun o'1 s'2 => ZdU o'1 2 34 fun e'3 k'4 => isN k'4 0 <| Zcf e'3 fun v'5 => asAgg v'5 fun c'6 => Zch c'6 fun v'7 v'8 => ZaQ 7 v'7 fun e_6 f_7 => asInt .i64 v'8 fun x_8 => ZaI s'2 <| k w_1 e_2 f_3 x_4 x_5 e_6 f_7 x_8
theorem Zps {R : Type} {E : List V} {s : S} {k : ByteArray → List V → Fl → Int → Int → List V → Fl → Int → Option R} {r : R} (h : ZrC E s k = some r) : ∃ w_1 e_2 f_3 x_4 x_5 e_6 f_7 x_8, E = ZiV w_1 e_2 f_3 x_4 e_6 f_7 x_8 x_5 ∧ s = [some ⟨[.agg [.list 7 e_6 f_7, .int .i64 x_8]], 2, 34, 0⟩] ∧ k w_1 e_2 f_3 x_4 x_5 e_6 f_7 x_8 = some r := by
 unfold ZrC at h
 obtain ⟨hg, h1⟩ := Zad h
 obtain ⟨_, hu2, h2⟩ := Zb0 h1
 obtain ⟨_, _, hu14, h3⟩ := Zax h2
 obtain ⟨_, hu15, h4⟩ := Zai h3
 obtain ⟨_, hu16, h5⟩ := Zai h4
 obtain ⟨_, _, rfl, h6⟩ := ZaN h5
 obtain ⟨_, _, rfl, h7⟩ := ZaM h6
 obtain ⟨rfl, h8⟩ := Zat h7
 obtain ⟨_, rfl, h9⟩ := Zaq h8
 obtain ⟨_, rfl, h10⟩ := ZaB h9
 obtain ⟨_, _, rfl, h11⟩ := Zap h10
 obtain ⟨_, _, rfl, h12⟩ := Zaj h11
 obtain ⟨_, rfl, h13⟩ := Zaf h12
 obtain ⟨rfl, h14⟩ := Zae h13
 exact ⟨_, _, _, _, _, _, _, _, ZaP hg rfl (Zab hu2 (Zab hu14 (Zab hu15 (Zab hu16 ZaG)))), rfl, h14⟩
def Zrt (N : Nat) : ZaA := (Zac).add [0, 1, 0, 1] fun _ E s K => ZrC (Zbd Znu E) s fun w_1 e_2 f_3 x_4 x_5 e_6 f_7 x_8 => Zgw N w_1 e_2 f_3 x_4 e_6 f_7 x_8 (Zhr K w_1 e_2 f_3 x_4 e_6 f_7 x_8) (ZhV K w_1 e_2 f_3 x_4 e_6 f_7 x_8) N x_5
theorem ZDP {N : Nat} (hC : Ok Tryz.prog C) (hΦ : Zaa Tryz.prog C (Zrc N)) : Za6 Tryz.prog C (Zrt N) ZqM [0, 1, 0, 1] :=
 Za7 (Λi := Zac) (tr := true) (ks := Znu) (kx := Zu5) (N := N) hC hΦ
  (Zah (by kernel_rfl))
  fun R E s K r h => by
   have h2 := ZaA.add_self.symm.trans h
   obtain ⟨_, _, _, _, _, _, _, _, he, rfl, h3⟩ := Zps h2
   rw [he]
   exact (Zzt N _ _ _ _ _ _ _ _ N _).trans h3
theorem ZLn : ZaX ZzL [] = [([0, 1, 0, 1], ZqM)] := by kernel_rfl
theorem ZMr {R : Type} (N : Nat) (e_1 : List V) (f_2 : Fl) (x_3 x_4 : Int) (w_5 : ByteArray) (K : V → S → Option R) : Za0 C (Zrc N) (Zrt N) 101 Tryz.f101 [.agg [.list 7 e_1 f_2, .int .i64 x_3], .int .i64 x_4, .str w_5] [] K =
 Zqe N e_1 f_2 x_3 x_4 w_5 (fun x_6 => K (.int .i64 x_6) []) := by kernel_rfl
theorem ZCX {N : Nat} (hC : Ok Tryz.prog C) (hΦ : Zaa Tryz.prog C (Zrc N)) : ZaV Tryz.prog C (Zrt N) ZzL [] :=
 ZaC ZzL [] (by
  rw [ZLn]
  intro p hp
  simp only [List.mem_cons, List.mem_nil_iff, or_false] at hp
  rcases hp with rfl
  ·exact (ZDP hC hΦ))
theorem ZxE (hC : Ok Tryz.prog C) {N : Nat} (hΦ : Zaa Tryz.prog C (Zrc N)) : Zaa Tryz.prog C (ZH0 N) := by
 refine hΦ.add_pure rfl fun R vs K r h => ?_
 unfold ZJf at h
 obtain ⟨_, _, _, rfl, h1⟩ := Zcp h
 obtain ⟨_, _, _, rfl, h2⟩ := Zau h1
 obtain ⟨_, rfl, h3⟩ := Zaf h2
 obtain ⟨_, rfl, h4⟩ := Zav h3
 obtain ⟨_, h5⟩ := Zae h4
 refine Zam (fn := Tryz.f101) (c := ZzL) hC hΦ Tryz.func101 (by kernel_rfl) (by kernel_rfl) (ZCX (N := N) hC hΦ) rfl rfl ?_
 refine (ZMr N _ _ _ _ _ _).trans ?_
 rw [← ZvL]
 exact h5
def ZJ0 (N : Nat) : (R : Type) → List V → S → (V → S → Option R) → Option R := fun _ vs s K =>
 Zch vs fun v'1 v'2 => ZGN v'1 <| asInt .i64 v'2 fun x_1 => ZaI s <| ZHi N x_1 (fun e_2 => K (.list 1 e_2 (.own 9)) [])
def Zma (N : Nat) : Zar := (ZH0 N).add 155 (ZJ0 N)
open Go.RowKit Go.Lib in
set_option maxRecDepth 100000 in
theorem ZAX (w : World) : Calls Tryz.prog 155 #[.slice none 0 0, .int .i64 0] w fun e w' => e = .returned (.slice none 0 0) ∧ w' = w := by
 go_enter Tryz.func155, Tryz.ntmps155
 go_wp2
 go_ret
 exact ⟨rfl, rfl⟩
open Go.RowKit Go.Lib in
set_option maxRecDepth 100000 in
set_option maxHeartbeats 1000000 in
theorem ZBP (w : World) (n : Nat) (i0 : TypeInfo) (z : Value) (hn : 0 < n) (hi0 : Tryz.prog.info? 9 = some i0) (hz0 : i0.zero = some z) (hs0 : 0 < i0.size) (hbig : n * i0.bytes ≤ 140737488355328) (h63 : n ≤ 4611686018427387904) :
  Calls Tryz.prog 155 #[.slice none 0 0, .int .i64 n] w fun e w' =>
   e = .returned (.slice (some ⟨w.heap.size, 0, none⟩) 0 (grownCap w n 0 9)) ∧
   w' = w.drew.alloc (.cells (Builtin.zeroCells z.cells n ++ Builtin.zeroCells z.cells (grownCap w n 0 9 - n)) 9) := by
 have h1 : ¬ ((n : Int) < 0) := by omega
 have h3 : wrap64 ((n : Int) - (0 - 0)) = (n : Int) := by unfold wrap64; omega
 have h4 : (n : Int) > 0 := by omega
 have hold : (Builtin.firstCells i0.size 0 (.slice none 0 0)).run Tryz.prog w.drew = .ok (#[] : Array Value) w.drew := run_firstCells_none w.drew i0.size 0 0 0
 have hrz : ∀ ty, (Builtin.append_ #[27, 3] ty #[.slice none 0 0, .int .i64 (n : Int)]).run Tryz.prog w =
   .ok (.slice (some ⟨w.heap.size, 0, none⟩) n (grownCap w n 0 9)) (w.drew.alloc (.cells (Builtin.zeroCells z.cells n ++ Builtin.zeroCells z.cells (grownCap w n 0 9 - n)) 9)) := fun ty => by
  have h := Lib.run_append_grow_zeros w 27 3 ty 9 i0 z .i64 .i64 Tryz.underlying27 Tryz.underlying3 hi0 hz0 none 0 0 [] hold n (by omega) hs0 (by omega) (by omega)
   (by omega) (by have := growslice_fits (old := 0) (need := n) hn hbig; simpa using this)
  simpa using h
 have hGn : n ≤ grownCap w n 0 9 := grownCap_ge w _ _ _
 obtain ⟨G, hG⟩ : ∃ G, G = grownCap w n 0 9 := ⟨_, rfl⟩
 rw [← hG] at hrz hGn ⊢
 have hG63 : G ≤ 9223372036854775807 := by
  have := grownCap_le_maxLen w n 0 9 (by unfold maxLen; omega)
  rw [← hG] at this
  unfold maxLen at this
  omega
 clear hold hG
 go_enter Tryz.func155, Tryz.ntmps155
 go_wp2_with (at_builtin; refine Lib.wpList_append_run _ rfl _ _ _ _ rfl _ _ rfl rfl _ _ (hrz _) ?_)
 all_goals (go_ret; exact ⟨rfl, rfl⟩)
theorem Zxf (hC : Ok Tryz.prog C) {N : Nat} (hΦ : Zaa Tryz.prog C (ZH0 N)) : Zaa Tryz.prog C (Zma N) := by
 refine hΦ.add_own rfl fun R vs K r h => ?_
 unfold ZJ0 at h
 obtain ⟨_, _, rfl, h1⟩ := Zap h
 obtain ⟨rfl, h2⟩ := Ztv h1
 obtain ⟨_, rfl, h3⟩ := Zaf h2
 obtain ⟨_, h4⟩ := Zae h3
 rw [ZvY] at h4
 unfold ZpM at h4
 split at h4 <;> first | (cases h4; done) | skip
 rename_i hcond
 exact ⟨_, h4, Zy2 hC (e := 9) (by kernel_rfl) Tryz.func155 (by kernel_rfl) (by kernel_rfl) ZAX ZBP (B := 16) (sz := 1) (by kernel_rfl) (by kernel_rfl) hcond⟩
def ZJv (N : Nat) : (R : Type) → List V → S → (V → S → Option R) → Option R := fun _ vs s K =>
 Zcf vs fun v'1 => ZaQ 1 v'1 fun e_1 f_2 => ZaI s <| Zxy N e_1 f_2 (fun e_3 => K (.list 1 e_3 .sh) [])
def ZqV (N : Nat) : Zar := (Zma N).add 102 (ZJv N)
def ZyY : Code := ZaK Tryz.f102
def Zrp : Code := (Zbo ZyY [] 0).2
def Ztp : Code := (Zbo ZyY [] 1).2
def ZlM : List Nat := ZbQ 36 [0, 3, 9, 10, 11]
def ZuV : List Nat := ZbQ 36 [0, 3]
def Zjg (e_1 : List V) (f_2 : Fl) (e_4 : List V) (f_5 : Fl) (x_6 x_3 x_7 : Int) : List V := mkF 0 36 [(0, .list 1 e_1 f_2), (3, .int .i64 x_3), (9, .list 1 e_4 f_5), (10, .int .i64 x_6), (11, .int .i64 x_7)]
def Zg0 {R : Type} (K : X → List V → S → Option R) (e_1 : List V) (f_2 : Fl) (e_4 : List V) (f_5 : Fl) (x_6 : Int) : Int → Option R := (fun x_1' => K (.exit 0) (mkF 0 36 [(0, .list 1 e_1 f_2), (3, .int .i64 (x_1'))]) [])
abbrev Zng {R : Type} (N : Nat) : Nat → List V → S → (X → List V → S → Option R) → Option R := fun n => Zdx C (Zma N) (Zac) Zrp [0, 1, 0, 1, 1] false ZlM ZuV n R
theorem ZIt {R : Type} (N n : Nat) (e_1 : List V) (f_2 : Fl) (e_4 : List V) (f_5 : Fl) (x_6 : Int) (x_3 x_7 : Int) (K : X → List V → S → Option R) :
 Zng N (n + 1) (Zjg e_1 f_2 e_4 f_5 x_6 x_3 x_7) [] K =
 Zfk N e_1 f_2 e_4 f_5 x_6 (fun x_3 x_7 => Zng N n (Zjg e_1 f_2 e_4 f_5 x_6 x_3 x_7) [] K) x_3 x_7 (Zg0 K e_1 f_2 e_4 f_5 x_6) := by kernel_rfl
theorem ZBc {R : Type} (N : Nat) (e_1 : List V) (f_2 : Fl) (e_4 : List V) (f_5 : Fl) (x_6 : Int) (K : X → List V → S → Option R) : ∀ (n : Nat) (x_3 x_7 : Int),
 Zng N n (Zjg e_1 f_2 e_4 f_5 x_6 x_3 x_7) [] K = Ze8 N e_1 f_2 e_4 f_5 x_6 (Zg0 K e_1 f_2 e_4 f_5 x_6) n x_3 x_7
 | 0, _, _ => rfl
 | n + 1, x_3, x_7 => (ZIt N n e_1 f_2 e_4 f_5 x_6 x_3 x_7 K).trans (congrArg (fun nx => Zfk N e_1 f_2 e_4 f_5 x_6 nx x_3 x_7 (Zg0 K e_1 f_2 e_4 f_5 x_6)) (funext fun x_3 => funext fun x_7 => ZBc N e_1 f_2 e_4 f_5 x_6 K n x_3 x_7))
def Zrl {R : Type} (E : List V) (s : S) (k : List V → Fl → Int → List V → Fl → Int → Int → Option R) : Option R :=
 Zao (Za1 36 [0, 3, 9, 10, 11] E) <| Zbr E 0 1 fun e_1 f_2 => ZaT E 3 .i64 fun x_3 => Zbr E 9 1 fun e_4 f_5 => ZaT E 10 .i64 fun x_6 => ZaT E 11 .i64 fun x_7 => ZaI s <| k e_1 f_2 x_3 e_4 f_5 x_6 x_7
theorem Zpv {R : Type} {E : List V} {s : S} {k : List V → Fl → Int → List V → Fl → Int → Int → Option R} {r : R} (h : Zrl E s k = some r) : ∃ e_1 f_2 x_3 e_4 f_5 x_6 x_7, E = Zjg e_1 f_2 e_4 f_5 x_6 x_3 x_7 ∧ s = [] ∧ k e_1 f_2 x_3 e_4 f_5 x_6 x_7 = some r := by
 unfold Zrl at h
 obtain ⟨hg, h1⟩ := Zad h
 obtain ⟨_, _, hu0, h2⟩ := Zax h1
 obtain ⟨_, hu3, h3⟩ := Zai h2
 obtain ⟨_, _, hu9, h4⟩ := Zax h3
 obtain ⟨_, hu10, h5⟩ := Zai h4
 obtain ⟨_, hu11, h6⟩ := Zai h5
 obtain ⟨rfl, h7⟩ := Zae h6
 exact ⟨_, _, _, _, _, _, _, ZaP hg rfl (Zab hu0 (Zab hu3 (Zab hu9 (Zab hu10 (Zab hu11 ZaG))))), rfl, h7⟩
def ZmC (N : Nat) : ZaA := (Zac).add [0, 1, 0, 1, 1] fun _ E s K => Zrl (Zbd ZlM E) s fun e_1 f_2 x_3 e_4 f_5 x_6 x_7 => Ze8 N e_1 f_2 e_4 f_5 x_6 (Zg0 K e_1 f_2 e_4 f_5 x_6) N x_3 x_7
theorem ZFZ {N : Nat} (hC : Ok Tryz.prog C) (hΦ : Zaa Tryz.prog C (Zma N)) : Za6 Tryz.prog C (ZmC N) Zrp [0, 1, 0, 1, 1] :=
 Za7 (Λi := Zac) (tr := false) (ks := ZlM) (kx := ZuV) (N := N) hC hΦ
  (Zah (by kernel_rfl))
  fun R E s K r h => by
   have h2 := ZaA.add_self.symm.trans h
   obtain ⟨_, _, _, _, _, _, _, he, rfl, h3⟩ := Zpv h2
   rw [he]
   exact (ZBc N _ _ _ _ _ _ N _ _).trans h3
def Zmy : List Nat := ZbQ 36 [6, 25, 26, 27]
def Zuc : List Nat := ZbQ 36 [6]
def ZjS (e_2 : List V) (f_3 : Fl) (x_4 : Int) (e_1 : List V) (x_5 : Int) : List V := mkF 0 36 [(6, .list 1 e_1 (.own 9)), (25, .list 1 e_2 f_3), (26, .int .i64 x_4), (27, .int .i64 x_5)]
def Zg2 {R : Type} (K : X → List V → S → Option R) (e_2 : List V) (f_3 : Fl) (x_4 : Int) : List V → Option R := (fun e_1' => K (.exit 2) (mkF 0 36 [(6, .list 1 (e_1') (.own 9))]) [])
abbrev ZlH {R : Type} (N : Nat) : Nat → List V → S → (X → List V → S → Option R) → Option R := fun n => Zdx C (Zma N) (ZmC N) Ztp [0, 1, 0, 1, 1, 1, 1] false Zmy Zuc n R
theorem ZHX {R : Type} (N n : Nat) (e_2 : List V) (f_3 : Fl) (x_4 : Int) (e_1 : List V) (x_5 : Int) (K : X → List V → S → Option R) :
 ZlH N (n + 1) (ZjS e_2 f_3 x_4 e_1 x_5) [] K =
 ZeP N e_2 f_3 x_4 (fun e_1 x_5 => ZlH N n (ZjS e_2 f_3 x_4 e_1 x_5) [] K) e_1 x_5 (Zg2 K e_2 f_3 x_4) := by kernel_rfl
theorem Zzy {R : Type} (N : Nat) (e_2 : List V) (f_3 : Fl) (x_4 : Int) (K : X → List V → S → Option R) : ∀ (n : Nat) (e_1 : List V) (x_5 : Int),
 ZlH N n (ZjS e_2 f_3 x_4 e_1 x_5) [] K = Ze6 N e_2 f_3 x_4 (Zg2 K e_2 f_3 x_4) n e_1 x_5
 | 0, _, _ => rfl
 | n + 1, e_1, x_5 => (ZHX N n e_2 f_3 x_4 e_1 x_5 K).trans (congrArg (fun nx => ZeP N e_2 f_3 x_4 nx e_1 x_5 (Zg2 K e_2 f_3 x_4)) (funext fun e_1 => funext fun x_5 => Zzy N e_2 f_3 x_4 K n e_1 x_5))
def Zrd {R : Type} (E : List V) (s : S) (k : List V → List V → Fl → Int → Int → Option R) : Option R :=
 Zao (Za1 36 [6, 25, 26, 27] E) <| Zbq (nth E 6) fun u6 => ZaQ 1 u6 fun e_1 f'1 => ZqJ 9 f'1 <| Zbr E 25 1 fun e_2 f_3 => ZaT E 26 .i64 fun x_4 => ZaT E 27 .i64 fun x_5 => ZaI s <| k e_1 e_2 f_3 x_4 x_5
theorem ZnV {R : Type} {E : List V} {s : S} {k : List V → List V → Fl → Int → Int → Option R} {r : R} (h : Zrd E s k = some r) : ∃ e_1 e_2 f_3 x_4 x_5, E = ZjS e_2 f_3 x_4 e_1 x_5 ∧ s = [] ∧ k e_1 e_2 f_3 x_4 x_5 = some r := by
 unfold Zrd at h
 obtain ⟨hg, h1⟩ := Zad h
 obtain ⟨_, hu6, h2⟩ := Zag h1
 obtain ⟨_, _, rfl, h3⟩ := Zaj h2
 obtain ⟨rfl, h4⟩ := ZdH h3
 obtain ⟨_, _, hu25, h5⟩ := Zax h4
 obtain ⟨_, hu26, h6⟩ := Zai h5
 obtain ⟨_, hu27, h7⟩ := Zai h6
 obtain ⟨rfl, h8⟩ := Zae h7
 exact ⟨_, _, _, _, _, ZaP hg rfl (Zab hu6 (Zab hu25 (Zab hu26 (Zab hu27 ZaG)))), rfl, h8⟩
def Ztw (N : Nat) : ZaA := (ZmC N).add [0, 1, 0, 1, 1, 1, 1] fun _ E s K => Zrd (Zbd Zmy E) s fun e_1 e_2 f_3 x_4 x_5 => Ze6 N e_2 f_3 x_4 (Zg2 K e_2 f_3 x_4) N e_1 x_5
theorem ZEo {N : Nat} (hC : Ok Tryz.prog C) (hΦ : Zaa Tryz.prog C (Zma N)) : Za6 Tryz.prog C (Ztw N) Ztp [0, 1, 0, 1, 1, 1, 1] :=
 Za7 (Λi := ZmC N) (tr := false) (ks := Zmy) (kx := Zuc) (N := N) hC hΦ
  (Zah (by kernel_rfl))
  fun R E s K r h => by
   have h2 := ZaA.add_self.symm.trans h
   obtain ⟨_, _, _, _, _, he, rfl, h3⟩ := ZnV h2
   rw [he]
   exact (Zzy N _ _ _ _ N _ _).trans h3
theorem ZKn : ZaX ZyY [] = [([0, 1, 0, 1, 1], Zrp), ([0, 1, 0, 1, 1, 1, 1], Ztp)] := by kernel_rfl
theorem ZNV {R : Type} (N : Nat) (e_1 : List V) (f_2 : Fl) (K : V → S → Option R) : Za0 C (Zma N) (Ztw N) 102 Tryz.f102 [.list 1 e_1 f_2] [] K =
 Zpo N e_1 f_2 (fun e_3 => K (.list 1 e_3 .sh) []) := by kernel_rfl
theorem Zz7 {N : Nat} (hC : Ok Tryz.prog C) (hΦ : Zaa Tryz.prog C (Zma N)) : ZaV Tryz.prog C (Ztw N) ZyY [] :=
 ZaC ZyY [] (by
  rw [ZKn]
  intro p hp
  simp only [List.mem_cons, List.mem_nil_iff, or_false] at hp
  rcases hp with rfl | rfl
  ·exact (Za6.add (ZFZ hC hΦ) rfl)
  ·exact (ZEo hC hΦ))
theorem Zxl (hC : Ok Tryz.prog C) {N : Nat} (hΦ : Zaa Tryz.prog C (Zma N)) : Zaa Tryz.prog C (ZqV N) := by
 refine hΦ.add_pure rfl fun R vs K r h => ?_
 unfold ZJv at h
 obtain ⟨_, rfl, h1⟩ := Zaq h
 obtain ⟨_, _, rfl, h2⟩ := Zaj h1
 obtain ⟨_, h3⟩ := Zae h2
 refine Zam (fn := Tryz.f102) (c := ZyY) hC hΦ Tryz.func102 (by kernel_rfl) (by kernel_rfl) (Zz7 (N := N) hC hΦ) rfl rfl ?_
 refine (ZNV N _ _ _).trans ?_
 rw [← Zv1]
 exact h3
def ZJt (N : Nat) : (R : Type) → List V → S → (V → S → Option R) → Option R := fun _ vs s K =>
 ZHg vs fun v'1 v'2 v'3 v'4 => ZaU v'1 fun e_1 f_2 x_3 => Zbk v'2 fun x_4 x_5 => Zbt v'3 fun w_6 => asBool v'4 fun b_7 => ZaI s <| ZFJ N e_1 f_2 x_3 x_4 x_5 w_6 b_7 (fun x_8 x_9 => K (.tuple [.int .i64 x_8, .int .i64 x_9]) [])
def ZEI (N : Nat) : Zar := (ZqV N).add 50 (ZJt N)
def ZA0 : Code := ZaK Tryz.f50
def Zsf : Code := (Zbo ZA0 [] 0).2
def ZmL : List Nat := ZbQ 103 [3, 4, 5, 10, 11, 12, 13]
def ZtT : List Nat := ZbQ 103 [4, 8, 9, 10, 12]
def Zi3 (b_1 b_2 : Bool) (e_6 : List V) (f_7 : Fl) (x_8 x_9 x_10 : Int) (e_3 : List V) (x_4 x_5 : Int) : List V := mkF 0 103 [(3, .bool b_1), (4, .ptr 0 0 0 0), (5, .ptr 1 0 0 0), (10, .bool b_2), (11, .list 1 e_3 .sh), (12, .int .i64 x_4), (13, .int .i64 x_5)]
def Zg6 {R : Type} (K : X → List V → S → Option R) (b_1 : Bool) (b_2 : Bool) (e_6 : List V) (f_7 : Fl) (x_8 : Int) (x_9 : Int) (x_10 : Int) : Int → Int → Option R := (fun x_2' x_1' => K .ret (mkF 0 103 [(4, .ptr 0 0 0 0), (8, .int .i64 0), (9, .int .i64 (x_2')), (10, .bool b_2), (12, .int .i64 (x_1'))]) [some ⟨[.agg [.list 7 e_6 f_7, .int .i64 x_8]], 2, 34, 0⟩, some ⟨[.agg [.int .i64 x_9, .int .i64 x_10]], 2, 36, 0⟩])
def Zhm {R : Type} (K : X → List V → S → Option R) (b_1 : Bool) (b_2 : Bool) (e_6 : List V) (f_7 : Fl) (x_8 : Int) (x_9 : Int) (x_10 : Int) : Int → Option R := (fun x_1' => K (.exit 0) (mkF 0 103 [(4, .ptr 0 0 0 0), (10, .bool b_2), (12, .int .i64 (x_1'))]) [some ⟨[.agg [.list 7 e_6 f_7, .int .i64 x_8]], 2, 34, 0⟩, some ⟨[.agg [.int .i64 x_9, .int .i64 x_10]], 2, 36, 0⟩])
abbrev ZmW {R : Type} (N : Nat) : Nat → List V → S → (X → List V → S → Option R) → Option R := fun n => Zdx C (ZqV N) (Zac) Zsf [0, 0, 1, 1, 1, 1] true ZmL ZtT n R
theorem ZH8 {R : Type} (N n : Nat) (b_1 b_2 : Bool) (e_6 : List V) (f_7 : Fl) (x_8 x_9 x_10 : Int) (e_3 : List V) (x_4 x_5 : Int) (K : X → List V → S → Option R) :
 ZmW N (n + 1) (Zi3 b_1 b_2 e_6 f_7 x_8 x_9 x_10 e_3 x_4 x_5) [some ⟨[.agg [.list 7 e_6 f_7, .int .i64 x_8]], 2, 34, 0⟩, some ⟨[.agg [.int .i64 x_9, .int .i64 x_10]], 2, 36, 0⟩] K =
 Zd2 N b_1 b_2 e_6 f_7 x_8 x_9 x_10 (fun e_3 x_4 x_5 => ZmW N n (Zi3 b_1 b_2 e_6 f_7 x_8 x_9 x_10 e_3 x_4 x_5) [some ⟨[.agg [.list 7 e_6 f_7, .int .i64 x_8]], 2, 34, 0⟩, some ⟨[.agg [.int .i64 x_9, .int .i64 x_10]], 2, 36, 0⟩] K) e_3 x_4 x_5 (Zg6 K b_1 b_2 e_6 f_7 x_8 x_9 x_10) (Zhm K b_1 b_2 e_6 f_7 x_8 x_9 x_10) := by kernel_rfl
theorem ZCQ {R : Type} (N : Nat) (b_1 b_2 : Bool) (e_6 : List V) (f_7 : Fl) (x_8 x_9 x_10 : Int) (K : X → List V → S → Option R) : ∀ (n : Nat) (e_3 : List V) (x_4 x_5 : Int),
 ZmW N n (Zi3 b_1 b_2 e_6 f_7 x_8 x_9 x_10 e_3 x_4 x_5) [some ⟨[.agg [.list 7 e_6 f_7, .int .i64 x_8]], 2, 34, 0⟩, some ⟨[.agg [.int .i64 x_9, .int .i64 x_10]], 2, 36, 0⟩] K = Zew N b_1 b_2 e_6 f_7 x_8 x_9 x_10 (Zg6 K b_1 b_2 e_6 f_7 x_8 x_9 x_10) (Zhm K b_1 b_2 e_6 f_7 x_8 x_9 x_10) n e_3 x_4 x_5
 | 0, _, _, _ => rfl
 | n + 1, e_3, x_4, x_5 => (ZH8 N n b_1 b_2 e_6 f_7 x_8 x_9 x_10 e_3 x_4 x_5 K).trans (congrArg (fun nx => Zd2 N b_1 b_2 e_6 f_7 x_8 x_9 x_10 nx e_3 x_4 x_5 (Zg6 K b_1 b_2 e_6 f_7 x_8 x_9 x_10) (Zhm K b_1 b_2 e_6 f_7 x_8 x_9 x_10)) (funext fun e_3 => funext fun x_4 => funext fun x_5 => ZCQ N b_1 b_2 e_6 f_7 x_8 x_9 x_10 K n e_3 x_4 x_5))
def Zsj {R : Type} (E : List V) (s : S) (k : Bool → Bool → List V → Int → Int → List V → Fl → Int → Int → Int → Option R) : Option R :=
 Zao (Za1 103 [3, 4, 5, 10, 11, 12, 13] E) <| Zpy E 3 fun b_1 => ZoS E 4 (.ptr 0 0 0 0) <| ZoS E 5 (.ptr 1 0 0 0) <| Zpy E 10 fun b_2 => Zbq (nth E 11) fun u11 => ZaQ 1 u11 fun e_3 f'1 => ZHn f'1 <| ZaT E 12 .i64 fun x_4 => ZaT E 13 .i64 fun x_5 => ZdV s fun o'2 s'3 => ZdU o'2 2 34 fun e'4 k'5 => isN k'5 0 <| Zcf e'4 fun v'6 => asAgg v'6 fun c'7 => Zch c'7 fun v'8 v'9 => ZaQ 7 v'8 fun e_6 f_7 => asInt .i64 v'9 fun x_8 => ZdV s'3 fun o'10 s'11 => ZdU o'10 2 36 fun e'12 k'13 => isN k'13 0 <| Zcf e'12 fun v'14 => asAgg v'14 fun c'15 => Zch c'15 fun v'16 v'17 => asInt .i64 v'16 fun x_9 => asInt .i64 v'17 fun x_10 => ZaI s'11 <| k b_1 b_2 e_3 x_4 x_5 e_6 f_7 x_8 x_9 x_10
theorem ZpN {R : Type} {E : List V} {s : S} {k : Bool → Bool → List V → Int → Int → List V → Fl → Int → Int → Int → Option R} {r : R} (h : Zsj E s k = some r) : ∃ b_1 b_2 e_3 x_4 x_5 e_6 f_7 x_8 x_9 x_10, E = Zi3 b_1 b_2 e_6 f_7 x_8 x_9 x_10 e_3 x_4 x_5 ∧ s = [some ⟨[.agg [.list 7 e_6 f_7, .int .i64 x_8]], 2, 34, 0⟩, some ⟨[.agg [.int .i64 x_9, .int .i64 x_10]], 2, 36, 0⟩] ∧ k b_1 b_2 e_3 x_4 x_5 e_6 f_7 x_8 x_9 x_10 = some r := by
 unfold Zsj at h
 obtain ⟨hg, h1⟩ := Zad h
 obtain ⟨_, hu3, h2⟩ := Zet h1
 obtain ⟨hu4, h3⟩ := ZbK h2
 obtain ⟨hu5, h4⟩ := ZbK h3
 obtain ⟨_, hu10, h5⟩ := Zet h4
 obtain ⟨_, hu11, h6⟩ := Zag h5
 obtain ⟨_, _, rfl, h7⟩ := Zaj h6
 obtain ⟨rfl, h8⟩ := Zff h7
 obtain ⟨_, hu12, h9⟩ := Zai h8
 obtain ⟨_, hu13, h10⟩ := Zai h9
 obtain ⟨_, _, rfl, h11⟩ := ZaN h10
 obtain ⟨_, _, rfl, h12⟩ := ZaM h11
 obtain ⟨rfl, h13⟩ := Zat h12
 obtain ⟨_, rfl, h14⟩ := Zaq h13
 obtain ⟨_, rfl, h15⟩ := ZaB h14
 obtain ⟨_, _, rfl, h16⟩ := Zap h15
 obtain ⟨_, _, rfl, h17⟩ := Zaj h16
 obtain ⟨_, rfl, h18⟩ := Zaf h17
 obtain ⟨_, _, rfl, h19⟩ := ZaN h18
 obtain ⟨_, _, rfl, h20⟩ := ZaM h19
 obtain ⟨rfl, h21⟩ := Zat h20
 obtain ⟨_, rfl, h22⟩ := Zaq h21
 obtain ⟨_, rfl, h23⟩ := ZaB h22
 obtain ⟨_, _, rfl, h24⟩ := Zap h23
 obtain ⟨_, rfl, h25⟩ := Zaf h24
 obtain ⟨_, rfl, h26⟩ := Zaf h25
 obtain ⟨rfl, h27⟩ := Zae h26
 exact ⟨_, _, _, _, _, _, _, _, _, _, ZaP hg rfl (Zab hu3 (Zab hu4 (Zab hu5 (Zab hu10 (Zab hu11 (Zab hu12 (Zab hu13 ZaG))))))), rfl, h27⟩
def Zso (N : Nat) : ZaA := (Zac).add [0, 0, 1, 1, 1, 1] fun _ E s K => Zsj (Zbd ZmL E) s fun b_1 b_2 e_3 x_4 x_5 e_6 f_7 x_8 x_9 x_10 => Zew N b_1 b_2 e_6 f_7 x_8 x_9 x_10 (Zg6 K b_1 b_2 e_6 f_7 x_8 x_9 x_10) (Zhm K b_1 b_2 e_6 f_7 x_8 x_9 x_10) N e_3 x_4 x_5
theorem ZDH {N : Nat} (hC : Ok Tryz.prog C) (hΦ : Zaa Tryz.prog C (ZqV N)) : Za6 Tryz.prog C (Zso N) Zsf [0, 0, 1, 1, 1, 1] :=
 Za7 (Λi := Zac) (tr := true) (ks := ZmL) (kx := ZtT) (N := N) hC hΦ
  (Zah (by kernel_rfl))
  fun R E s K r h => by
   have h2 := ZaA.add_self.symm.trans h
   obtain ⟨_, _, _, _, _, _, _, _, _, _, he, rfl, h3⟩ := ZpN h2
   rw [he]
   exact (ZCQ N _ _ _ _ _ _ _ _ N _ _ _).trans h3
theorem ZJk : ZaX ZA0 [] = [([0, 0, 1, 1, 1, 1], Zsf)] := by kernel_rfl
theorem ZMy {R : Type} (N : Nat) (e_1 : List V) (f_2 : Fl) (x_3 x_4 x_5 : Int) (w_6 : ByteArray) (b_7 : Bool) (K : V → S → Option R) : Za0 C (ZqV N) (Zso N) 50 Tryz.f50 [.agg [.list 7 e_1 f_2, .int .i64 x_3], .agg [.int .i64 x_4, .int .i64 x_5], .str w_6, .bool b_7] [] K =
 Zqv N e_1 f_2 x_3 x_4 x_5 w_6 b_7 (fun x_8 x_9 => K (.tuple [.int .i64 x_8, .int .i64 x_9]) []) := by kernel_rfl
theorem ZAH {N : Nat} (hC : Ok Tryz.prog C) (hΦ : Zaa Tryz.prog C (ZqV N)) : ZaV Tryz.prog C (Zso N) ZA0 [] :=
 ZaC ZA0 [] (by
  rw [ZJk]
  intro p hp
  simp only [List.mem_cons, List.mem_nil_iff, or_false] at hp
  rcases hp with rfl
  ·exact (ZDH hC hΦ))
theorem ZxH (hC : Ok Tryz.prog C) {N : Nat} (hΦ : Zaa Tryz.prog C (ZqV N)) : Zaa Tryz.prog C (ZEI N) := by
 refine hΦ.add_pure rfl fun R vs K r h => ?_
 unfold ZJt at h
 obtain ⟨_, _, _, _, rfl, h1⟩ := ZeN h
 obtain ⟨_, _, _, rfl, h2⟩ := Zau h1
 obtain ⟨_, _, rfl, h3⟩ := ZaY h2
 obtain ⟨_, rfl, h4⟩ := Zav h3
 obtain ⟨_, rfl, h5⟩ := Zcj h4
 obtain ⟨_, h6⟩ := Zae h5
 refine Zam (fn := Tryz.f50) (c := ZA0) hC hΦ Tryz.func50 (by kernel_rfl) (by kernel_rfl) (ZAH (N := N) hC hΦ) rfl rfl ?_
 refine (ZMy N _ _ _ _ _ _ _ _).trans ?_
 rw [← Zv7]
 exact h6
def ZJF (N : Nat) : (R : Type) → List V → S → (V → S → Option R) → Option R := fun _ vs s K =>
 ZCF vs fun v'1 v'2 v'3 => ZaU v'1 fun e_1 f_2 x_3 => Zbk v'2 fun x_4 x_5 => Zbt v'3 fun w_6 => ZaI s <| ZGc N e_1 f_2 x_3 x_4 x_5 w_6 (fun x_7 x_8 => K (.tuple [.int .i64 x_7, .int .i64 x_8]) [])
def ZHN (N : Nat) : Zar := (ZEI N).add 55 (ZJF N)
def ZMi : Code := ZaK Tryz.f55
theorem ZM0 {R : Type} (N : Nat) (e_1 : List V) (f_2 : Fl) (x_3 x_4 x_5 : Int) (w_6 : ByteArray) (K : V → S → Option R) : Za0 C (ZEI N) (Zac) 55 Tryz.f55 [.agg [.list 7 e_1 f_2, .int .i64 x_3], .agg [.int .i64 x_4, .int .i64 x_5], .str w_6] [] K =
 Zo4 N e_1 f_2 x_3 x_4 x_5 w_6 (fun x_7 x_8 => K (.tuple [.int .i64 x_7, .int .i64 x_8]) []) := by kernel_rfl
theorem Zxe (hC : Ok Tryz.prog C) {N : Nat} (hΦ : Zaa Tryz.prog C (ZEI N)) : Zaa Tryz.prog C (ZHN N) := by
 refine hΦ.add_pure rfl fun R vs K r h => ?_
 unfold ZJF at h
 obtain ⟨_, _, _, rfl, h1⟩ := Zcp h
 obtain ⟨_, _, _, rfl, h2⟩ := Zau h1
 obtain ⟨_, _, rfl, h3⟩ := ZaY h2
 obtain ⟨_, rfl, h4⟩ := Zav h3
 obtain ⟨_, h5⟩ := Zae h4
 refine Zam (fn := Tryz.f55) (c := ZMi) hC hΦ Tryz.func55 (by kernel_rfl) (by kernel_rfl) (Zah (Λ := Zac) (by kernel_rfl)) rfl rfl ?_
 refine (ZM0 N _ _ _ _ _ _ _).trans ?_
 rw [← Zui]
 exact h5
def ZJB (N : Nat) : (R : Type) → List V → S → (V → S → Option R) → Option R := fun _ vs s K =>
 Zcf vs fun v => ZN4 v s K
def ZIb (N : Nat) : Zar := (ZHN N).add 110 (ZJB N)
theorem Zyv (hC : Ok Tryz.prog C) {N : Nat} (hΦ : Zaa Tryz.prog C (ZHN N)) : Zaa Tryz.prog C (ZIb N) := by
 refine hΦ.add_shared rfl fun R vs s K r h => ?_
 unfold ZJB at h
 obtain ⟨_, rfl, h1⟩ := Zaq h
 exact ZGY Tryz.func110 (by kernel_rfl) (by kernel_rfl) (fun a c w => Tryz.slices_Reverse_string_empty a c w) (fun b o c d w hH hs => Tryz.slices_Reverse_string_arr b o c d w hH hs) h1
def ZLh (N : Nat) : (R : Type) → List V → S → (V → S → Option R) → Option R := fun _ vs s K =>
 Zch vs fun v'1 v'2 => ZaQ 1 v'1 fun e_1 f_2 => Zbt v'2 fun w_3 => ZaI s <| ZIG N e_1 f_2 w_3 (fun w_4 => K (.str w_4) [])
def ZFy (N : Nat) : Zar := (ZIb N).add 157 (ZLh N)
theorem Zx8 (hC : Ok Tryz.prog C) {N : Nat} (hΦ : Zaa Tryz.prog C (ZIb N)) : Zaa Tryz.prog C (ZFy N) := by
 refine hΦ.add_pure rfl fun R vs K r h => ?_
 unfold ZLh at h
 obtain ⟨_, _, rfl, h1⟩ := Zap h
 obtain ⟨_, _, rfl, h2⟩ := Zaj h1
 obtain ⟨_, rfl, h3⟩ := Zav h2
 obtain ⟨_, h4⟩ := Zae h3
 rw [Zvp] at h4
 unfold Zpn at h4
 obtain ⟨_, h1, h2⟩ := ZyC Tryz.func157 (by kernel_rfl) (by kernel_rfl) (fun a c s w => Tryz.strings_Join_none a c s w) (fun b o c xs s w h1 h2 h3 h4 h5 => Tryz.strings_Join b o c xs s w h1 h2 h3 h4 h5) h4
 exact ⟨_, h1, h2⟩
def ZJi (N : Nat) : (R : Type) → List V → S → (V → S → Option R) → Option R := fun _ vs s K =>
 Zcf vs fun v'1 => ZaQ 1 v'1 fun e_1 f_2 => ZaI s <| ZAc N e_1 f_2 (fun w_3 => K (.str w_3) [])
def ZrY (N : Nat) : Zar := (ZFy N).add 111 (ZJi N)
def ZM1 : Code := ZaK Tryz.f111
theorem ZNZ {R : Type} (N : Nat) (e_1 : List V) (f_2 : Fl) (K : V → S → Option R) : Za0 C (ZFy N) (Zac) 111 Tryz.f111 [.list 1 e_1 f_2] [] K =
 Zow N e_1 f_2 (fun w_3 => K (.str w_3) []) := by kernel_rfl
theorem Zyn (hC : Ok Tryz.prog C) {N : Nat} (hΦ : Zaa Tryz.prog C (ZFy N)) : Zaa Tryz.prog C (ZrY N) := by
 refine hΦ.add_pure rfl fun R vs K r h => ?_
 unfold ZJi at h
 obtain ⟨_, rfl, h1⟩ := Zaq h
 obtain ⟨_, _, rfl, h2⟩ := Zaj h1
 obtain ⟨_, h3⟩ := Zae h2
 refine Zam (fn := Tryz.f111) (c := ZM1) hC hΦ Tryz.func111 (by kernel_rfl) (by kernel_rfl) (Zah (Λ := Zac) (by kernel_rfl)) rfl rfl ?_
 refine (ZNZ N _ _ _).trans ?_
 rw [← ZuO]
 exact h3
def ZKt (N : Nat) : (R : Type) → List V → S → (V → S → Option R) → Option R := fun _ vs s K =>
 Zch vs fun v'1 v'2 => ZaU v'1 fun e_1 f_2 x_3 => asInt .i64 v'2 fun x_4 => ZaI s <| ZGm N e_1 f_2 x_3 x_4 (fun w_5 => K (.str w_5) [])
def ZDJ (N : Nat) : Zar := (ZrY N).add 61 (ZKt N)
def ZBE : Code := ZaK Tryz.f61
def ZtI : Code := (Zbo ZBE [] 0).2
def ZmO : List Nat := ZbQ 26 [1, 2, 5]
def ZuG : List Nat := ZbQ 26 [5]
def ZjF (e_2 : List V) (f_3 : Fl) (x_4 x_1 : Int) (k_5 k_6 : Nat) (O_9 : Ob) : List V := mkF 0 26 [(1, .int .i64 x_1), (2, .ptr 0 0 0 0), (5, .arr 1 k_5 0 k_6)]
def Zh1 {R : Type} (K : X → List V → S → Option R) (e_2 : List V) (f_3 : Fl) (x_4 : Int) : Nat → Nat → Ob → Option R := (fun k_1' k_2' O_3' => K (.exit 0) (mkF 0 26 [(5, .arr 1 (k_1') 0 (k_2'))]) [some ⟨[.agg [.list 7 e_2 f_3, .int .i64 x_4]], 2, 34, 0⟩, some (O_3')])
abbrev ZlJ {R : Type} (N : Nat) : Nat → List V → S → (X → List V → S → Option R) → Option R := fun n => Zdx C.objs (ZrY N) (Zac) ZtI [0, 0, 1, 1] false ZmO ZuG n R
theorem ZHT {R : Type} (N n : Nat) (e_2 : List V) (f_3 : Fl) (x_4 : Int) (x_1 : Int) (k_5 k_6 : Nat) (O_9 : Ob) (K : X → List V → S → Option R) :
 ZlJ N (n + 1) (ZjF e_2 f_3 x_4 x_1 k_5 k_6 O_9) [some ⟨[.agg [.list 7 e_2 f_3, .int .i64 x_4]], 2, 34, 0⟩, some O_9] K =
 Zd8 N e_2 f_3 x_4 (fun x_1 k_5 k_6 O_9 => ZlJ N n (ZjF e_2 f_3 x_4 x_1 k_5 k_6 O_9) [some ⟨[.agg [.list 7 e_2 f_3, .int .i64 x_4]], 2, 34, 0⟩, some O_9] K) x_1 k_5 k_6 O_9 (Zh1 K e_2 f_3 x_4) := by kernel_rfl
theorem ZzP {R : Type} (N : Nat) (e_2 : List V) (f_3 : Fl) (x_4 : Int) (K : X → List V → S → Option R) : ∀ (n : Nat) (x_1 : Int) (k_5 k_6 : Nat) (O_9 : Ob),
 ZlJ N n (ZjF e_2 f_3 x_4 x_1 k_5 k_6 O_9) [some ⟨[.agg [.list 7 e_2 f_3, .int .i64 x_4]], 2, 34, 0⟩, some O_9] K = Zig N e_2 f_3 x_4 (Zh1 K e_2 f_3 x_4) n x_1 k_5 k_6 O_9
 | 0, _, _, _, _ => rfl
 | n + 1, x_1, k_5, k_6, O_9 => (ZHT N n e_2 f_3 x_4 x_1 k_5 k_6 O_9 K).trans (congrArg (fun nx => Zd8 N e_2 f_3 x_4 nx x_1 k_5 k_6 O_9 (Zh1 K e_2 f_3 x_4)) (funext fun x_1 => funext fun k_5 => funext fun k_6 => funext fun O_9 => ZzP N e_2 f_3 x_4 K n x_1 k_5 k_6 O_9))
def ZsW {R : Type} (E : List V) (s : S) (k : Int → Nat → Nat → List V → Fl → Int → Ob → Option R) : Option R :=
 Zao (Za1 26 [1, 2, 5] E) <| ZaT E 1 .i64 fun x_1 => ZoS E 2 (.ptr 0 0 0 0) <| Zbq (nth E 5) fun u5 => Ziq u5 fun k'1 k_5 k'2 k_6 => isN k'1 1 <| isN k'2 0 <| ZdV s fun o'3 s'4 => ZdU o'3 2 34 fun e'5 k'6 => isN k'6 0 <| Zcf e'5 fun v'7 => asAgg v'7 fun c'8 => Zch c'8 fun v'9 v'10 => ZaQ 7 v'9 fun e_2 f_3 => asInt .i64 v'10 fun x_4 => ZdV s'4 fun O_9 s'11 => ZaI s'11 <| k x_1 k_5 k_6 e_2 f_3 x_4 O_9
theorem ZoI {R : Type} {E : List V} {s : S} {k : Int → Nat → Nat → List V → Fl → Int → Ob → Option R} {r : R} (h : ZsW E s k = some r) : ∃ x_1 k_5 k_6 e_2 f_3 x_4 O_9, E = ZjF e_2 f_3 x_4 x_1 k_5 k_6 O_9 ∧ s = [some ⟨[.agg [.list 7 e_2 f_3, .int .i64 x_4]], 2, 34, 0⟩, some O_9] ∧ k x_1 k_5 k_6 e_2 f_3 x_4 O_9 = some r := by
 unfold ZsW at h
 obtain ⟨hg, h1⟩ := Zad h
 obtain ⟨_, hu1, h2⟩ := Zai h1
 obtain ⟨hu2, h3⟩ := ZbK h2
 obtain ⟨_, hu5, h4⟩ := Zag h3
 obtain ⟨_, _, _, _, rfl, h5⟩ := Zb3 h4
 obtain ⟨rfl, h6⟩ := Zat h5
 obtain ⟨rfl, h7⟩ := Zat h6
 obtain ⟨_, _, rfl, h8⟩ := ZaN h7
 obtain ⟨_, _, rfl, h9⟩ := ZaM h8
 obtain ⟨rfl, h10⟩ := Zat h9
 obtain ⟨_, rfl, h11⟩ := Zaq h10
 obtain ⟨_, rfl, h12⟩ := ZaB h11
 obtain ⟨_, _, rfl, h13⟩ := Zap h12
 obtain ⟨_, _, rfl, h14⟩ := Zaj h13
 obtain ⟨_, rfl, h15⟩ := Zaf h14
 obtain ⟨_, _, rfl, h16⟩ := ZaN h15
 obtain ⟨rfl, h17⟩ := Zae h16
 exact ⟨_, _, _, _, _, _, _, ZaP hg rfl (Zab hu1 (Zab hu2 (Zab hu5 ZaG))), rfl, h17⟩
def ZrG (N : Nat) : ZaA := (Zac).add [0, 0, 1, 1] fun _ E s K => ZsW (Zbd ZmO E) s fun x_1 k_5 k_6 e_2 f_3 x_4 O_9 => Zig N e_2 f_3 x_4 (Zh1 K e_2 f_3 x_4) N x_1 k_5 k_6 O_9
theorem ZE4 {N : Nat} (hC : Ok Tryz.prog C) (hΦ : Zaa Tryz.prog C (ZrY N)) : Za6 Tryz.prog C.objs (ZrG N) ZtI [0, 0, 1, 1] :=
 Za7 (Λi := Zac) (tr := false) (ks := ZmO) (kx := ZuG) (N := N) hC.objs hΦ.objs
  (Zah (by kernel_rfl))
  fun R E s K r h => by
   have h2 := ZaA.add_self.symm.trans h
   obtain ⟨_, _, _, _, _, _, _, he, rfl, h3⟩ := ZoI h2
   rw [he]
   exact (ZzP N _ _ _ _ N _ _ _ _).trans h3
theorem ZLa : ZaX ZBE [] = [([0, 0, 1, 1], ZtI)] := by kernel_rfl
theorem ZNQ {R : Type} (N : Nat) (e_1 : List V) (f_2 : Fl) (x_3 x_4 : Int) (K : V → S → Option R) : Za0 C.objs (ZrY N) (ZrG N) 61 Tryz.f61 [.agg [.list 7 e_1 f_2, .int .i64 x_3], .int .i64 x_4] [] K =
 Zor N e_1 f_2 x_3 x_4 (fun w_5 => K (.str w_5) []) := by kernel_rfl
theorem ZCA {N : Nat} (hC : Ok Tryz.prog C) (hΦ : Zaa Tryz.prog C (ZrY N)) : ZaV Tryz.prog C.objs (ZrG N) ZBE [] :=
 ZaC ZBE [] (by
  rw [ZLa]
  intro p hp
  simp only [List.mem_cons, List.mem_nil_iff, or_false] at hp
  rcases hp with rfl
  ·exact (ZE4 hC hΦ))
theorem Zy4 (hC : Ok Tryz.prog C) {N : Nat} (hΦ : Zaa Tryz.prog C (ZrY N)) : Zaa Tryz.prog C (ZDJ N) := by
 refine hΦ.add_pure rfl fun R vs K r h => ?_
 unfold ZKt at h
 obtain ⟨_, _, rfl, h1⟩ := Zap h
 obtain ⟨_, _, _, rfl, h2⟩ := Zau h1
 obtain ⟨_, rfl, h3⟩ := Zaf h2
 obtain ⟨_, h4⟩ := Zae h3
 refine Zam (fn := Tryz.f61) (c := ZBE) hC.objs hΦ.objs Tryz.func61 (by kernel_rfl) (by kernel_rfl) (ZCA (N := N) hC hΦ) rfl rfl ?_
 refine (ZNQ N _ _ _ _ _).trans ?_
 rw [← Zwn]
 exact h4
def ZKr (N : Nat) : (R : Type) → List V → S → (V → S → Option R) → Option R := fun _ vs s K =>
 ZCF vs fun v'1 v'2 v'3 => ZaU v'1 fun e_1 f_2 x_3 => Zbk v'2 fun x_4 x_5 => Zbt v'3 fun w_6 => ZaI s <| ZHo N e_1 f_2 x_3 x_4 x_5 w_6 (fun w_7 x_8 b_9 => K (.tuple [.str w_7, .int .i64 x_8, .bool b_9]) [])
def ZBX (N : Nat) : Zar := (ZDJ N).add 26 (ZKr N)
def ZLU : Code := ZaK Tryz.f26
theorem ZNr {R : Type} (N : Nat) (e_1 : List V) (f_2 : Fl) (x_3 x_4 x_5 : Int) (w_6 : ByteArray) (K : V → S → Option R) : Za0 C (ZDJ N) (Zac) 26 Tryz.f26 [.agg [.list 7 e_1 f_2, .int .i64 x_3], .agg [.int .i64 x_4, .int .i64 x_5], .str w_6] [] K =
 Zp2 N e_1 f_2 x_3 x_4 x_5 w_6 (fun w_7 x_8 b_9 => K (.tuple [.str w_7, .int .i64 x_8, .bool b_9]) []) := by kernel_rfl
theorem ZxJ (hC : Ok Tryz.prog C) {N : Nat} (hΦ : Zaa Tryz.prog C (ZDJ N)) : Zaa Tryz.prog C (ZBX N) := by
 refine hΦ.add_pure rfl fun R vs K r h => ?_
 unfold ZKr at h
 obtain ⟨_, _, _, rfl, h1⟩ := Zcp h
 obtain ⟨_, _, _, rfl, h2⟩ := Zau h1
 obtain ⟨_, _, rfl, h3⟩ := ZaY h2
 obtain ⟨_, rfl, h4⟩ := Zav h3
 obtain ⟨_, h5⟩ := Zae h4
 refine Zam (fn := Tryz.f26) (c := ZLU) hC hΦ Tryz.func26 (by kernel_rfl) (by kernel_rfl) (Zah (Λ := Zac) (by kernel_rfl)) rfl rfl ?_
 refine (ZNr N _ _ _ _ _ _ _).trans ?_
 rw [← Zwd]
 exact h5
def ZJx (N : Nat) : (R : Type) → List V → S → (V → S → Option R) → Option R := fun _ vs s K =>
 ZCF vs fun v'1 v'2 v'3 => Zel v'1 fun e_1 f_2 x_3 => Zd7 v'2 fun x_4 x_5 => Zbt v'3 fun w_6 => ZaI s <| ZIY N e_1 f_2 x_3 x_4 x_5 w_6 (fun b_7 => K (.bool b_7) [])
def ZMS (N : Nat) : Zar := (ZBX N).add 5 (ZJx N)
def ZMH : Code := ZaK Tryz.f5
theorem b_zao {R : Type} (N : Nat) (e_1 : List V) (f_2 : Fl) (x_3 x_4 x_5 : Int) (w_6 : ByteArray) (K : V → S → Option R) : Za0 C (ZBX N) (Zac) 5 Tryz.f5 [.agg [.list 7 e_1 f_2, .int .i64 x_3], .agg [.int .i64 x_4, .int .i64 x_5], .str w_6] [] K =
 Zk6 N e_1 f_2 x_3 x_4 x_5 w_6 (fun b_7 => K (.bool b_7) []) := by kernel_rfl
theorem ZIN (hC : Ok Tryz.prog C) {N : Nat} (hΦ : Zaa Tryz.prog C (ZBX N)) : Zaa Tryz.prog C (ZMS N) := by
 refine hΦ.add_pure rfl fun R vs K r h => ?_
 unfold ZJx at h
 obtain ⟨_, _, _, rfl, h1⟩ := Zcp h
 obtain ⟨_, _, _, rfl, h2⟩ := ZdL h1
 obtain ⟨_, _, rfl, h3⟩ := Zei h2
 obtain ⟨_, rfl, h4⟩ := Zav h3
 obtain ⟨_, h5⟩ := Zae h4
 refine Zam (fn := Tryz.f5) (c := ZMH) hC hΦ Tryz.func5 (by kernel_rfl) (by kernel_rfl) (Zah (Λ := Zac) (by kernel_rfl)) rfl rfl ?_
 refine (b_zao N _ _ _ _ _ _ _).trans ?_
 rw [← ZFI]
 exact h5
theorem callee_zao_prev (hC : Ok Tryz.prog C) (N : Nat) : Zaa Tryz.prog C (ZBX N) :=
 have h0 := Zsi Tryz.prog C
 have h1 := Zyc hC (N := N) h0
 have h2 := ZxL hC (N := N) h1
 have h3 := Zxk hC (N := N) h2
 have h4 := Zzh hC (N := N) h3
 have h5 := Zxi hC (N := N) h4
 have h6 := Zx0 hC (N := N) h5
 have h7 := Zxd hC (N := N) h6
 have h8 := Zxc hC (N := N) h7
 have h9 := Zx3 hC (N := N) h8
 have h10 := Zxq hC (N := N) h9
 have h11 := ZyO hC (N := N) h10
 have h12 := ZxS hC (N := N) h11
 have h13 := Zx1 hC (N := N) h12
 have h14 := Zxw hC (N := N) h13
 have h15 := ZxG hC (N := N) h14
 have h16 := Zw3 hC (N := N) h15
 have h17 := Zyq hC (N := N) h16
 have h18 := Zyr hC (N := N) h17
 have h19 := Zw2 hC (N := N) h18
 have h20 := ZxV hC (N := N) h19
 have h21 := ZxZ hC (N := N) h20
 have h22 := Zx7 hC (N := N) h21
 have h23 := Zx9 hC (N := N) h22
 have h24 := ZxO hC (N := N) h23
 have h25 := ZxP hC (N := N) h24
 have h26 := ZyW hC (N := N) h25
 have h27 := Zxs hC (N := N) h26
 have h28 := Zy0 hC (N := N) h27
 have h29 := Zy9 hC (N := N) h28
 have h30 := Zw9 hC (N := N) h29
 have h31 := Zyp hC (N := N) h30
 have h32 := Zyk hC (N := N) h31
 have h33 := ZyP hC (N := N) h32
 have h34 := Zxj hC (N := N) h33
 have h35 := ZxN hC (N := N) h34
 have h36 := ZxC hC (N := N) h35
 have h37 := ZyI hC (N := N) h36
 have h38 := Zzc hC (N := N) h37
 have h39 := ZyA hC (N := N) h38
 have h40 := Zxm hC (N := N) h39
 have h41 := Zxv hC (N := N) h40
 have h42 := Zy3 hC (N := N) h41
 have h43 := Zy5 hC (N := N) h42
 have h44 := Zw0 hC (N := N) h43
 have h45 := Zzi hC (N := N) h44
 have h46 := Zw6 hC (N := N) h45
 have h47 := ZyN hC (N := N) h46
 have h48 := ZyR hC (N := N) h47
 have h49 := ZxF hC (N := N) h48
 have h50 := Zyt hC (N := N) h49
 have h51 := Zzg hC (N := N) h50
 have h52 := Zx6 hC (N := N) h51
 have h53 := ZyD hC (N := N) h52
 have h54 := ZyT hC (N := N) h53
 have h55 := ZxI hC (N := N) h54
 have h56 := Zyw hC (N := N) h55
 have h57 := ZxM hC (N := N) h56
 have h58 := ZyL hC (N := N) h57
 have h59 := Zze hC (N := N) h58
 have h60 := Zzf hC (N := N) h59
 have h61 := ZwV hC (N := N) h60
 have h62 := ZwW hC (N := N) h61
 have h63 := Zxn hC (N := N) h62
 have h64 := Zyl hC (N := N) h63
 have h65 := Zx2 hC (N := N) h64
 have h66 := Zyx hC (N := N) h65
 have h67 := ZyQ hC (N := N) h66
 have h68 := Zy6 hC (N := N) h67
 have h69 := ZyG hC (N := N) h68
 have h70 := Zyf hC (N := N) h69
 have h71 := ZyX hC (N := N) h70
 have h72 := ZyU hC (N := N) h71
 have h73 := Zzd hC (N := N) h72
 have h74 := ZwX hC (N := N) h73
 have h75 := Zxb hC (N := N) h74
 have h76 := Zy8 hC (N := N) h75
 have h77 := Zyz hC (N := N) h76
 have h78 := ZyE hC (N := N) h77
 have h79 := ZwU hC (N := N) h78
 have h80 := Zxp hC (N := N) h79
 have h81 := ZxX hC (N := N) h80
 have h82 := ZyZ hC (N := N) h81
 have h83 := Zyy hC (N := N) h82
 have h84 := Zx4 hC (N := N) h83
 have h85 := ZxD hC (N := N) h84
 have h86 := Zxr hC (N := N) h85
 have h87 := Zyj hC (N := N) h86
 have h88 := ZxE hC (N := N) h87
 have h89 := Zxf hC (N := N) h88
 have h90 := Zxl hC (N := N) h89
 have h91 := ZxH hC (N := N) h90
 have h92 := Zxe hC (N := N) h91
 have h93 := Zyv hC (N := N) h92
 have h94 := Zx8 hC (N := N) h93
 have h95 := Zyn hC (N := N) h94
 have h96 := Zy4 hC (N := N) h95
 have h97 := ZxJ hC (N := N) h96
 h97
end
end Go.VM.VL
