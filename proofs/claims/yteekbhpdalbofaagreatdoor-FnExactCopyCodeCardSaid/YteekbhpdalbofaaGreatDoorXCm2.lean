/- The functions of the program, told plainly: what each computes, as a function of its letters; and that the machine does the same. Printed by vgen.py, a program of this session's own. -/
import Derived.Test.YteekbhpdalbofaaGreatDoorXCm1
set_option linter.unusedVariables false
namespace Go.VM.VL
noncomputable section
open Go.Proofs
def ZLu (N : Nat) : (R : Type) → List V → S → (V → S → Option R) → Option R := fun _ vs s K =>
 Zcf vs fun v'1 v'2 => ZaV 1 v'1 fun e_1 f_2 => ZBi 154 v'2 fun c'3 => Zy3 c'3 <| ZaF s <| ZH4 N e_1 f_2 (fun x_3 => K (.int .i64 x_3) [])
def ZtY (N : Nat) : Zar := (ZsL N).addIf 173 (fun l => ZNV 1 154 l) (ZLu N)
def ZCw : Code := ZaE Tryz.f173
def Zuc : Code := (Zbj ZCw [] 0).2
def ZnD : List Nat := ZbO 19 [0, 1, 7, 8]
def Zv6 : List Nat := ZbO 19 [4]
def ZjL (e_1 : List V) (f_2 : Fl) (x_3 x_4 : Int) : List V := mkF 0 19 [(0, .list 1 e_1 f_2), (1, .fn 154 []), (7, .int .i64 x_3), (8, .int .i64 x_4)]
def ZhI {R : Type} (K : X → List V → S → Option R) (e_1 : List V) (f_2 : Fl) (x_3 : Int) : Int → Option R := (fun x_1' => K .ret (mkF 0 19 [(4, .int .i64 (x_1'))]) [])
def ZhE {R : Type} (K : X → List V → S → Option R) (e_1 : List V) (f_2 : Fl) (x_3 : Int) : Unit → Option R := (fun _ => K (.exit 0) (mkF 0 19 []) [])
abbrev ZmC {R : Type} (N : Nat) : Nat → List V → S → (X → List V → S → Option R) → Option R := fun n => ZcO C (ZsL N) (Zac) Zuc [0, 1, 0, 1] false ZnD Zv6 n R
theorem ZJ2 {R : Type} (N n : Nat) (e_1 : List V) (f_2 : Fl) (x_3 : Int) (x_4 : Int) (K : X → List V → S → Option R) :
 ZmC N (n + 1) (ZjL e_1 f_2 x_3 x_4) [] K =
 Zdg N e_1 f_2 x_3 (fun x_4 => ZmC N n (ZjL e_1 f_2 x_3 x_4) [] K) x_4 (ZhI K e_1 f_2 x_3) (ZhE K e_1 f_2 x_3) := by kernel_rfl
theorem ZEC {R : Type} (N : Nat) (e_1 : List V) (f_2 : Fl) (x_3 : Int) (K : X → List V → S → Option R) : ∀ (n : Nat) (x_4 : Int),
 ZmC N n (ZjL e_1 f_2 x_3 x_4) [] K = Zgg N e_1 f_2 x_3 (ZhI K e_1 f_2 x_3) (ZhE K e_1 f_2 x_3) n x_4
 | 0, _ => rfl
 | n + 1, x_4 => (ZJ2 N n e_1 f_2 x_3 x_4 K).trans (congrArg (fun nx => Zdg N e_1 f_2 x_3 nx x_4 (ZhI K e_1 f_2 x_3) (ZhE K e_1 f_2 x_3)) (funext fun x_4 => ZEC N e_1 f_2 x_3 K n x_4))
def Zr7 {R : Type} (E : List V) (s : S) (k : List V → Fl → Int → Int → Option R) : Option R :=
 Zan (ZaZ 19 [0, 1, 7, 8] E) <| Zbz E 0 1 fun e_1 f_2 => Zbu (nth E 1) fun u1 => ZBi 154 u1 fun c'1 => Zy3 c'1 <| ZaR E 7 .i64 fun x_3 => ZaR E 8 .i64 fun x_4 => ZaF s <| k e_1 f_2 x_3 x_4
theorem Zpk {R : Type} {E : List V} {s : S} {k : List V → Fl → Int → Int → Option R} {r : R} (h : Zr7 E s k = some r) : ∃ e_1 f_2 x_3 x_4, E = ZjL e_1 f_2 x_3 x_4 ∧ s = [] ∧ k e_1 f_2 x_3 x_4 = some r := by
 unfold Zr7 at h
 obtain ⟨hg, h1⟩ := Zad h
 obtain ⟨_, _, hu0, h2⟩ := ZaA h1
 obtain ⟨_, hu1, h3⟩ := Zag h2
 obtain ⟨_, rfl, h4⟩ := Zcx h3
 obtain ⟨rfl, h5⟩ := Zcp h4
 obtain ⟨_, hu7, h6⟩ := Zai h5
 obtain ⟨_, hu8, h7⟩ := Zai h6
 obtain ⟨rfl, h8⟩ := Zae h7
 exact ⟨_, _, _, _, ZaP hg rfl (Zab hu0 (Zab hu1 (Zab hu7 (Zab hu8 ZaG)))), rfl, h8⟩
def Zus (N : Nat) : Zaw := (Zac).add [0, 1, 0, 1] fun _ E s K => Zr7 (Zbc ZnD E) s fun e_1 f_2 x_3 x_4 => Zgg N e_1 f_2 x_3 (ZhI K e_1 f_2 x_3) (ZhE K e_1 f_2 x_3) N x_4
theorem ZIb {N : Nat} (hC : Ok Tryz.prog C) (hΦ : Zaa Tryz.prog C (ZsL N)) : Za1 Tryz.prog C (Zus N) Zuc [0, 1, 0, 1] :=
 Za2 (Λi := Zac) (tr := false) (ks := ZnD) (kx := Zv6) (N := N) hC hΦ
  (Zah (by kernel_rfl))
  fun R E s K r h => by
   have h2 := Zaw.add_self.symm.trans h
   obtain ⟨_, _, _, _, he, rfl, h3⟩ := Zpk h2
   rw [he]
   exact (ZEC N _ _ _ _ N _).trans h3
theorem ZMF : ZaY ZCw [] = [([0, 1, 0, 1], Zuc)] := by kernel_rfl
theorem ZPE {R : Type} (N : Nat) (e_1 : List V) (f_2 : Fl) (K : V → S → Option R) : ZaU C (ZsL N) (Zus N) 173 Tryz.f173 [.list 1 e_1 f_2, .fn 154 []] [] K =
 Zp3 N e_1 f_2 (fun x_3 => K (.int .i64 x_3) []) := by kernel_rfl
theorem ZFh {N : Nat} (hC : Ok Tryz.prog C) (hΦ : Zaa Tryz.prog C (ZsL N)) : ZaT Tryz.prog C (Zus N) ZCw [] :=
 ZaB ZCw [] (by
  rw [ZMF]
  intro p hp
  simp only [List.mem_cons, List.mem_nil_iff, or_false] at hp
  rcases hp with rfl
  ·exact (ZIb hC hΦ))
theorem ZAG (hC : Ok Tryz.prog C) {N : Nat} (hΦ : Zaa Tryz.prog C (ZsL N)) : Zaa Tryz.prog C (ZtY N) := by
 refine hΦ.addIf_pure rfl fun R vs K r h => ?_
 unfold ZLu at h
 obtain ⟨_, _, rfl, h1⟩ := Zat h
 obtain ⟨_, _, rfl, h2⟩ := Zal h1
 obtain ⟨_, rfl, h3⟩ := Zcx h2
 obtain ⟨rfl, h4⟩ := Zcp h3
 obtain ⟨_, h5⟩ := Zae h4
 refine Zak (fn := Tryz.f173) (c := ZCw) hC hΦ Tryz.func173 (by kernel_rfl) (by kernel_rfl) (ZFh (N := N) hC hΦ) rfl rfl ?_
 refine (ZPE N _ _ _).trans ?_
 rw [← ZxO]
 exact h5
def ZMN (N : Nat) : (R : Type) → List V → S → (V → S → Option R) → Option R := fun _ vs s K =>
 Zcf vs fun v'1 v'2 => ZiG v'1 fun o0 k'4 k'5 k_1 => isN k'4 0 <| isN k'5 0 <| ZBi 154 v'2 fun c'6 => Zy3 c'6 <| ZLj s o0 0 fun o'7 => ZdP o'7 1 9 fun e_2 k'9 => isN k'9 0 <| Zan (ZbT [o0]) <| Zan (okI 1 [false] [some ⟨e_2, 1, 9, 0⟩]) <| ZG5 N k_1 e_2 (fun k_901 e_902 => FK s [o0] rl K (.arr 0 0 0 k_901) [some ⟨e_902, 1, 9, 0⟩])
def ZHW (N : Nat) : Zar := (ZtY N).addIf 152 (fun l => ZOJ 1 154 l) (ZMN N)
def ZEV : Code := ZaE Tryz.f152
def Zte : Code := (Zbj ZEV [] 0).2
def ZnI : List Nat := ZbO 42 [0, 1, 5, 6]
def Zv5 : List Nat := ZbO 42 [0, 5]
def Zjs (k_1 : Nat) (x_2 x_3 : Int) (e_4 : List V) : List V := mkF 0 42 [(0, .arr 0 0 0 k_1), (1, .fn 154 []), (5, .int .i64 x_2), (6, .int .i64 x_3)]
def Zg7 {R : Type} (K : X → List V → S → Option R) (k_1 : Nat) : Int → List V → Option R := (fun x_1' e_2' => K (.exit 0) (mkF 0 42 [(0, .arr 0 0 0 k_1), (5, .int .i64 (x_1'))]) [some ⟨e_2', 1, 9, 0⟩])
abbrev ZnA {R : Type} (N : Nat) : Nat → List V → S → (X → List V → S → Option R) → Option R := fun n => ZcO C (ZtY N) (Zac) Zte [0, 1, 0, 1, 1, 1] false ZnI Zv5 n R
theorem ZJT {R : Type} (N n : Nat) (k_1 : Nat) (x_2 x_3 : Int) (e_4 : List V) (K : X → List V → S → Option R) :
 ZnA N (n + 1) (Zjs k_1 x_2 x_3 e_4) [some ⟨e_4, 1, 9, 0⟩] K =
 Zdt N k_1 (fun x_2 x_3 e_4 => ZnA N n (Zjs k_1 x_2 x_3 e_4) [some ⟨e_4, 1, 9, 0⟩] K) x_2 x_3 e_4 (Zg7 K k_1) := by kernel_rfl
theorem ZCE {R : Type} (N : Nat) (k_1 : Nat) (K : X → List V → S → Option R) : ∀ (n : Nat) (x_2 x_3 : Int) (e_4 : List V),
 ZnA N n (Zjs k_1 x_2 x_3 e_4) [some ⟨e_4, 1, 9, 0⟩] K = ZeX N k_1 (Zg7 K k_1) n x_2 x_3 e_4
 | 0, _, _, _ => rfl
 | n + 1, x_2, x_3, e_4 => (ZJT N n k_1 x_2 x_3 e_4 K).trans (congrArg (fun nx => Zdt N k_1 nx x_2 x_3 e_4 (Zg7 K k_1)) (funext fun x_2 => funext fun x_3 => funext fun e_4 => ZCE N k_1 K n x_2 x_3 e_4))
def ZuY {R : Type} (E : List V) (s : S) (k : Nat → Int → Int → List V → Option R) : Option R :=
 Zan (ZaZ 42 [0, 1, 5, 6] E) <| Zbu (nth E 0) fun u0 => ZiG u0 fun k'1 k'2 k'3 k_1 => isN k'1 0 <| isN k'2 0 <| isN k'3 0 <| Zbu (nth E 1) fun u1 => ZBi 154 u1 fun c'4 => Zy3 c'4 <| ZaR E 5 .i64 fun x_2 => ZaR E 6 .i64 fun x_3 => Zd4 s fun o'5 s'6 => ZdP o'5 1 9 fun e_4 k'7 => isN k'7 0 <| ZaF s'6 <| k k_1 x_2 x_3 e_4
theorem ZqE {R : Type} {E : List V} {s : S} {k : Nat → Int → Int → List V → Option R} {r : R} (h : ZuY E s k = some r) : ∃ k_1 x_2 x_3 e_4, E = Zjs k_1 x_2 x_3 e_4 ∧ s = [some ⟨e_4, 1, 9, 0⟩] ∧ k k_1 x_2 x_3 e_4 = some r := by
 unfold ZuY at h
 obtain ⟨hg, h1⟩ := Zad h
 obtain ⟨_, hu0, h2⟩ := Zag h1
 obtain ⟨_, _, _, _, rfl, h3⟩ := Zb5 h2
 obtain ⟨rfl, h4⟩ := Zas h3
 obtain ⟨rfl, h5⟩ := Zas h4
 obtain ⟨rfl, h6⟩ := Zas h5
 obtain ⟨_, hu1, h7⟩ := Zag h6
 obtain ⟨_, rfl, h8⟩ := Zcx h7
 obtain ⟨rfl, h9⟩ := Zcp h8
 obtain ⟨_, hu5, h10⟩ := Zai h9
 obtain ⟨_, hu6, h11⟩ := Zai h10
 obtain ⟨_, _, rfl, h12⟩ := ZaN h11
 obtain ⟨_, _, rfl, h13⟩ := ZaK h12
 obtain ⟨rfl, h14⟩ := Zas h13
 obtain ⟨rfl, h15⟩ := Zae h14
 exact ⟨_, _, _, _, ZaP hg rfl (Zab hu0 (Zab hu1 (Zab hu5 (Zab hu6 ZaG)))), rfl, h15⟩
def ZtF (N : Nat) : Zaw := (Zac).add [0, 1, 0, 1, 1, 1] fun _ E s K => ZuY (Zbc ZnI E) s fun k_1 x_2 x_3 e_4 => ZeX N k_1 (Zg7 K k_1) N x_2 x_3 e_4
theorem ZGE {N : Nat} (hC : Ok Tryz.prog C) (hΦ : Zaa Tryz.prog C (ZtY N)) : Za1 Tryz.prog C (ZtF N) Zte [0, 1, 0, 1, 1, 1] :=
 Za2 (Λi := Zac) (tr := false) (ks := ZnI) (kx := Zv5) (N := N) hC hΦ
  (Zah (by kernel_rfl))
  fun R E s K r h => by
   have h2 := Zaw.add_self.symm.trans h
   obtain ⟨_, _, _, _, he, rfl, h3⟩ := ZqE h2
   rw [he]
   exact (ZCE N _ _ N _ _ _).trans h3
theorem ZNs : ZaY ZEV [] = [([0, 1, 0, 1, 1, 1], Zte)] := by kernel_rfl
theorem ZPg {R : Type} (N : Nat) (k_1 : Nat) (e_2 : List V) (K : V → S → Option R) : ZaU C (ZtY N) (ZtF N) 152 Tryz.f152 [.arr 0 0 0 k_1, .fn 154 []] [some ⟨e_2, 1, 9, 0⟩] (GK rl 1 K) =
 ZpT N k_1 e_2 (fun k_901 e_902 => K (.arr 0 0 0 k_901) [some ⟨e_902, 1, 9, 0⟩]) := by kernel_rfl
theorem ZBp {N : Nat} (hC : Ok Tryz.prog C) (hΦ : Zaa Tryz.prog C (ZtY N)) : ZaT Tryz.prog C (ZtF N) ZEV [] :=
 ZaB ZEV [] (by
  rw [ZNs]
  intro p hp
  simp only [List.mem_cons, List.mem_nil_iff, or_false] at hp
  rcases hp with rfl
  ·exact (ZGE hC hΦ))
theorem ZBc (hC : Ok Tryz.prog C) {N : Nat} (hΦ : Zaa Tryz.prog C (ZtY N)) : Zaa Tryz.prog C (ZHW N) := by
 refine hΦ.addIf_shared rfl fun R vs s K r h => ?_
 unfold ZMN at h
 obtain ⟨_, _, rfl, h1⟩ := Zat h
 obtain ⟨o0, _, _, k_1, rfl, h2⟩ := Zb5 h1
 obtain ⟨rfl, h3⟩ := Zas h2
 obtain ⟨rfl, h4⟩ := Zas h3
 obtain ⟨_, rfl, h5⟩ := Zcx h4
 obtain ⟨rfl, h6⟩ := Zcp h5
 obtain ⟨_, hob0, h7⟩ := ZhX h6
 obtain ⟨e_2, _, rfl, h8⟩ := ZaK h7
 obtain ⟨rfl, h9⟩ := Zas h8
 obtain ⟨hdist, h10⟩ := Zad h9
 obtain ⟨hin, h11⟩ := Zad h10
 refine ZcU (fn := Tryz.f152) (c := ZEV) (os := [o0]) (rl := rl) (bi := [false]) (s0 := [some ⟨e_2, 1, 9, 0⟩]) (as0 := [.arr 0 0 0 k_1, .fn 154 []]) hC hΦ Tryz.func152 (by kernel_rfl) (by kernel_rfl) (ZBp (N := N) hC hΦ) rfl hdist ⟨⟨_, rfl, hob0⟩, trivial⟩ hin rfl rfl ?_
 refine (ZPg N _ _ _).trans ?_
 rw [← Zvz]
 exact h11
def ZMW (N : Nat) : (R : Type) → List V → S → (V → S → Option R) → Option R := fun _ vs s K =>
 Zcb vs fun v'1 => Zbd v'1 fun w_1 => ZaF s <| ZoB N w_1 (fun e_2 => K (.list 1 e_2 .sh) [])
def ZGe (N : Nat) : Zar := (ZHW N).add 98 (ZMW N)
def ZQ2 : Code := ZaE Tryz.f98
theorem ZPh {R : Type} (N : Nat) (w_1 : ByteArray) (K : V → S → Option R) : ZaU C (ZHW N) (Zac) 98 Tryz.f98 [.str w_1] [] K =
 ZrA N w_1 (fun e_2 => K (.list 1 e_2 .sh) []) := by kernel_rfl
theorem ZzO (hC : Ok Tryz.prog C) {N : Nat} (hΦ : Zaa Tryz.prog C (ZHW N)) : Zaa Tryz.prog C (ZGe N) := by
 refine hΦ.add_pure rfl fun R vs K r h => ?_
 unfold ZMW at h
 obtain ⟨_, rfl, h1⟩ := Zaq h
 obtain ⟨_, rfl, h2⟩ := Zao h1
 obtain ⟨_, h3⟩ := Zae h2
 refine Zak (fn := Tryz.f98) (c := ZQ2) hC hΦ Tryz.func98 (by kernel_rfl) (by kernel_rfl) (Zah (Λ := Zac) (by kernel_rfl)) rfl rfl ?_
 refine (ZPh N _ _).trans ?_
 rw [← Zww]
 exact h3
def ZLW (N : Nat) : (R : Type) → List V → S → (V → S → Option R) → Option R := fun _ vs s K =>
 Zcb vs fun v'1 => Zbd v'1 fun w_1 => ZaF s <| ZKQ N w_1 (fun b_2 => K (.bool b_2) [])
def ZsW (N : Nat) : Zar := (ZGe N).add 186 (ZLW N)
def ZQX : Code := ZaE Tryz.f186
theorem ZOu {R : Type} (N : Nat) (w_1 : ByteArray) (K : V → S → Option R) : ZaU C (ZGe N) (Zac) 186 Tryz.f186 [.str w_1] [] K =
 ZpA N w_1 (fun b_2 => K (.bool b_2) []) := by kernel_rfl
theorem ZAX (hC : Ok Tryz.prog C) {N : Nat} (hΦ : Zaa Tryz.prog C (ZGe N)) : Zaa Tryz.prog C (ZsW N) := by
 refine hΦ.add_pure rfl fun R vs K r h => ?_
 unfold ZLW at h
 obtain ⟨_, rfl, h1⟩ := Zaq h
 obtain ⟨_, rfl, h2⟩ := Zao h1
 obtain ⟨_, h3⟩ := Zae h2
 refine Zak (fn := Tryz.f186) (c := ZQX) hC hΦ Tryz.func186 (by kernel_rfl) (by kernel_rfl) (Zah (Λ := Zac) (by kernel_rfl)) rfl rfl ?_
 refine (ZOu N _ _).trans ?_
 rw [← ZvI]
 exact h3
def ZM4 (N : Nat) : (R : Type) → List V → S → (V → S → Option R) → Option R := fun _ vs s K =>
 Zcf vs fun v'1 v'2 => ZaV 1 v'1 fun e_1 f_2 => ZBi 186 v'2 fun c'3 => Zy3 c'3 <| ZaF s <| ZKL N e_1 f_2 (fun x_3 => K (.int .i64 x_3) [])
def ZG9 (N : Nat) : Zar := (ZsW N).addIf 173 (fun l => ZNV 1 186 l) (ZM4 N)
def ZBV : Code := ZaE Tryz.f173
def ZuS : Code := (Zbj ZBV [] 0).2
def ZnG : List Nat := ZbO 19 [0, 1, 7, 8]
def ZxQ : List Nat := ZbO 19 [4]
def Zku (e_1 : List V) (f_2 : Fl) (x_3 x_4 : Int) : List V := mkF 0 19 [(0, .list 1 e_1 f_2), (1, .fn 186 []), (7, .int .i64 x_3), (8, .int .i64 x_4)]
def Zg9 {R : Type} (K : X → List V → S → Option R) (e_1 : List V) (f_2 : Fl) (x_3 : Int) : Int → Option R := (fun x_1' => K .ret (mkF 0 19 [(4, .int .i64 (x_1'))]) [])
def Zhd {R : Type} (K : X → List V → S → Option R) (e_1 : List V) (f_2 : Fl) (x_3 : Int) : Unit → Option R := (fun _ => K (.exit 0) (mkF 0 19 []) [])
abbrev Zmv {R : Type} (N : Nat) : Nat → List V → S → (X → List V → S → Option R) → Option R := fun n => ZcO C (ZsW N) (Zac) ZuS [0, 1, 0, 1] false ZnG ZxQ n R
theorem ZKK {R : Type} (N n : Nat) (e_1 : List V) (f_2 : Fl) (x_3 : Int) (x_4 : Int) (K : X → List V → S → Option R) :
 Zmv N (n + 1) (Zku e_1 f_2 x_3 x_4) [] K =
 Zdv N e_1 f_2 x_3 (fun x_4 => Zmv N n (Zku e_1 f_2 x_3 x_4) [] K) x_4 (Zg9 K e_1 f_2 x_3) (Zhd K e_1 f_2 x_3) := by kernel_rfl
theorem ZDb {R : Type} (N : Nat) (e_1 : List V) (f_2 : Fl) (x_3 : Int) (K : X → List V → S → Option R) : ∀ (n : Nat) (x_4 : Int),
 Zmv N n (Zku e_1 f_2 x_3 x_4) [] K = Zgp N e_1 f_2 x_3 (Zg9 K e_1 f_2 x_3) (Zhd K e_1 f_2 x_3) n x_4
 | 0, _ => rfl
 | n + 1, x_4 => (ZKK N n e_1 f_2 x_3 x_4 K).trans (congrArg (fun nx => Zdv N e_1 f_2 x_3 nx x_4 (Zg9 K e_1 f_2 x_3) (Zhd K e_1 f_2 x_3)) (funext fun x_4 => ZDb N e_1 f_2 x_3 K n x_4))
def Zul {R : Type} (E : List V) (s : S) (k : List V → Fl → Int → Int → Option R) : Option R :=
 Zan (ZaZ 19 [0, 1, 7, 8] E) <| Zbz E 0 1 fun e_1 f_2 => Zbu (nth E 1) fun u1 => ZBi 186 u1 fun c'1 => Zy3 c'1 <| ZaR E 7 .i64 fun x_3 => ZaR E 8 .i64 fun x_4 => ZaF s <| k e_1 f_2 x_3 x_4
theorem Zqm {R : Type} {E : List V} {s : S} {k : List V → Fl → Int → Int → Option R} {r : R} (h : Zul E s k = some r) : ∃ e_1 f_2 x_3 x_4, E = Zku e_1 f_2 x_3 x_4 ∧ s = [] ∧ k e_1 f_2 x_3 x_4 = some r := by
 unfold Zul at h
 obtain ⟨hg, h1⟩ := Zad h
 obtain ⟨_, _, hu0, h2⟩ := ZaA h1
 obtain ⟨_, hu1, h3⟩ := Zag h2
 obtain ⟨_, rfl, h4⟩ := Zcx h3
 obtain ⟨rfl, h5⟩ := Zcp h4
 obtain ⟨_, hu7, h6⟩ := Zai h5
 obtain ⟨_, hu8, h7⟩ := Zai h6
 obtain ⟨rfl, h8⟩ := Zae h7
 exact ⟨_, _, _, _, ZaP hg rfl (Zab hu0 (Zab hu1 (Zab hu7 (Zab hu8 ZaG)))), rfl, h8⟩
def Zto (N : Nat) : Zaw := (Zac).add [0, 1, 0, 1] fun _ E s K => Zul (Zbc ZnG E) s fun e_1 f_2 x_3 x_4 => Zgp N e_1 f_2 x_3 (Zg9 K e_1 f_2 x_3) (Zhd K e_1 f_2 x_3) N x_4
theorem ZHf {N : Nat} (hC : Ok Tryz.prog C) (hΦ : Zaa Tryz.prog C (ZsW N)) : Za1 Tryz.prog C (Zto N) ZuS [0, 1, 0, 1] :=
 Za2 (Λi := Zac) (tr := false) (ks := ZnG) (kx := ZxQ) (N := N) hC hΦ
  (Zah (by kernel_rfl))
  fun R E s K r h => by
   have h2 := Zaw.add_self.symm.trans h
   obtain ⟨_, _, _, _, he, rfl, h3⟩ := Zqm h2
   rw [he]
   exact (ZDb N _ _ _ _ N _).trans h3
theorem ZL6 : ZaY ZBV [] = [([0, 1, 0, 1], ZuS)] := by kernel_rfl
theorem ZPU {R : Type} (N : Nat) (e_1 : List V) (f_2 : Fl) (K : V → S → Option R) : ZaU C (ZsW N) (Zto N) 173 Tryz.f173 [.list 1 e_1 f_2, .fn 186 []] [] K =
 Zqc N e_1 f_2 (fun x_3 => K (.int .i64 x_3) []) := by kernel_rfl
theorem ZB2 {N : Nat} (hC : Ok Tryz.prog C) (hΦ : Zaa Tryz.prog C (ZsW N)) : ZaT Tryz.prog C (Zto N) ZBV [] :=
 ZaB ZBV [] (by
  rw [ZL6]
  intro p hp
  simp only [List.mem_cons, List.mem_nil_iff, or_false] at hp
  rcases hp with rfl
  ·exact (ZHf hC hΦ))
theorem ZyQ (hC : Ok Tryz.prog C) {N : Nat} (hΦ : Zaa Tryz.prog C (ZsW N)) : Zaa Tryz.prog C (ZG9 N) := by
 refine hΦ.addIf_pure rfl fun R vs K r h => ?_
 unfold ZM4 at h
 obtain ⟨_, _, rfl, h1⟩ := Zat h
 obtain ⟨_, _, rfl, h2⟩ := Zal h1
 obtain ⟨_, rfl, h3⟩ := Zcx h2
 obtain ⟨rfl, h4⟩ := Zcp h3
 obtain ⟨_, h5⟩ := Zae h4
 refine Zak (fn := Tryz.f173) (c := ZBV) hC hΦ Tryz.func173 (by kernel_rfl) (by kernel_rfl) (ZB2 (N := N) hC hΦ) rfl rfl ?_
 refine (ZPU N _ _ _).trans ?_
 rw [← Zyb]
 exact h5
def ZMf (N : Nat) : (R : Type) → List V → S → (V → S → Option R) → Option R := fun _ vs s K =>
 Zcf vs fun v'1 v'2 => ZaV 1 v'1 fun e_1 f_2 => ZBi 186 v'2 fun c'3 => Zy3 c'3 <| ZaF s <| ZFH N e_1 f_2 (fun b_3 => K (.bool b_3) [])
def ZIA (N : Nat) : Zar := (ZG9 N).addIf 185 (fun l => ZNV 1 186 l) (ZMf N)
def ZO2 : Code := ZaE Tryz.f185
theorem ZPZ {R : Type} (N : Nat) (e_1 : List V) (f_2 : Fl) (K : V → S → Option R) : ZaU C (ZG9 N) (Zac) 185 Tryz.f185 [.list 1 e_1 f_2, .fn 186 []] [] K =
 Zpy N e_1 f_2 (fun b_3 => K (.bool b_3) []) := by kernel_rfl
theorem ZyJ (hC : Ok Tryz.prog C) {N : Nat} (hΦ : Zaa Tryz.prog C (ZG9 N)) : Zaa Tryz.prog C (ZIA N) := by
 refine hΦ.addIf_pure rfl fun R vs K r h => ?_
 unfold ZMf at h
 obtain ⟨_, _, rfl, h1⟩ := Zat h
 obtain ⟨_, _, rfl, h2⟩ := Zal h1
 obtain ⟨_, rfl, h3⟩ := Zcx h2
 obtain ⟨rfl, h4⟩ := Zcp h3
 obtain ⟨_, h5⟩ := Zae h4
 refine Zak (fn := Tryz.f185) (c := ZO2) hC hΦ Tryz.func185 (by kernel_rfl) (by kernel_rfl) (Zah (Λ := Zac) (by kernel_rfl)) rfl rfl ?_
 refine (ZPZ N _ _ _).trans ?_
 rw [← Zvq]
 exact h5
def ZOb (N : Nat) : (R : Type) → List V → S → (V → S → Option R) → Option R := fun _ vs s K =>
 Zcb vs fun v'1 => Zbd v'1 fun w_1 => ZaF s <| ZKq N w_1 (fun b_2 => K (.bool b_2) [])
def ZHr (N : Nat) : Zar := (ZIA N).add 172 (ZOb N)
def ZQB : Code := ZaE Tryz.f172
theorem ZQw {R : Type} (N : Nat) (w_1 : ByteArray) (K : V → S → Option R) : ZaU C (ZIA N) (Zac) 172 Tryz.f172 [.str w_1] [] K =
 Zqi N w_1 (fun b_2 => K (.bool b_2) []) := by kernel_rfl
theorem Zzb (hC : Ok Tryz.prog C) {N : Nat} (hΦ : Zaa Tryz.prog C (ZIA N)) : Zaa Tryz.prog C (ZHr N) := by
 refine hΦ.add_pure rfl fun R vs K r h => ?_
 unfold ZOb at h
 obtain ⟨_, rfl, h1⟩ := Zaq h
 obtain ⟨_, rfl, h2⟩ := Zao h1
 obtain ⟨_, h3⟩ := Zae h2
 refine Zak (fn := Tryz.f172) (c := ZQB) hC hΦ Tryz.func172 (by kernel_rfl) (by kernel_rfl) (Zah (Λ := Zac) (by kernel_rfl)) rfl rfl ?_
 refine (ZQw N _ _).trans ?_
 rw [← ZvN]
 exact h3
def ZNR (N : Nat) : (R : Type) → List V → S → (V → S → Option R) → Option R := fun _ vs s K =>
 Zcb vs fun v'1 => Zbd v'1 fun w_1 => ZaF s <| ZAD N w_1 (fun b_2 => K (.bool b_2) [])
def ZHA (N : Nat) : Zar := (ZHr N).add 150 (ZNR N)
def ZQe : Code := ZaE Tryz.f150
theorem ZP5 {R : Type} (N : Nat) (w_1 : ByteArray) (K : V → S → Option R) : ZaU C (ZHr N) (Zac) 150 Tryz.f150 [.str w_1] [] K =
 Zot N w_1 (fun b_2 => K (.bool b_2) []) := by kernel_rfl
theorem ZAg (hC : Ok Tryz.prog C) {N : Nat} (hΦ : Zaa Tryz.prog C (ZHr N)) : Zaa Tryz.prog C (ZHA N) := by
 refine hΦ.add_pure rfl fun R vs K r h => ?_
 unfold ZNR at h
 obtain ⟨_, rfl, h1⟩ := Zaq h
 obtain ⟨_, rfl, h2⟩ := Zao h1
 obtain ⟨_, h3⟩ := Zae h2
 refine Zak (fn := Tryz.f150) (c := ZQe) hC hΦ Tryz.func150 (by kernel_rfl) (by kernel_rfl) (Zah (Λ := Zac) (by kernel_rfl)) rfl rfl ?_
 refine (ZP5 N _ _).trans ?_
 rw [← Zyi]
 exact h3
def ZNU (N : Nat) : (R : Type) → List V → S → (V → S → Option R) → Option R := fun _ vs s K =>
 Zcb vs fun v'1 => Zax v'1 fun x_1 x_2 x_3 x_4 x_5 w_6 e_7 f_8 => ZaF s <| ZLd N x_1 x_2 x_3 x_4 x_5 w_6 e_7 f_8 (fun b_9 => K (.bool b_9) [])
def ZHJ (N : Nat) : Zar := (ZHA N).add 169 (ZNU N)
def ZRi : Code := ZaE Tryz.f169
theorem ZQt {R : Type} (N : Nat) (x_1 x_2 x_3 x_4 x_5 : Int) (w_6 : ByteArray) (e_7 : List V) (f_8 : Fl) (K : V → S → Option R) : ZaU C (ZHA N) (Zac) 169 Tryz.f169 [.agg [.int .i64 x_1, .int .i64 x_2, .int .i64 x_3, .int .i64 x_4, .int .i64 x_5, .str w_6, .list 2 e_7 f_8]] [] K =
 Zpr N x_1 x_2 x_3 x_4 x_5 w_6 e_7 f_8 (fun b_9 => K (.bool b_9) []) := by kernel_rfl
theorem ZzH (hC : Ok Tryz.prog C) {N : Nat} (hΦ : Zaa Tryz.prog C (ZHA N)) : Zaa Tryz.prog C (ZHJ N) := by
 refine hΦ.add_pure rfl fun R vs K r h => ?_
 unfold ZNU at h
 obtain ⟨_, rfl, h1⟩ := Zaq h
 obtain ⟨_, _, _, _, _, _, _, _, rfl, h2⟩ := Zb2 h1
 obtain ⟨_, h3⟩ := Zae h2
 refine Zak (fn := Tryz.f169) (c := ZRi) hC hΦ Tryz.func169 (by kernel_rfl) (by kernel_rfl) (Zah (Λ := Zac) (by kernel_rfl)) rfl rfl ?_
 refine (ZQt N _ _ _ _ _ _ _ _ _).trans ?_
 rw [← ZvC]
 exact h3
def ZM3 (N : Nat) : (R : Type) → List V → S → (V → S → Option R) → Option R := fun _ vs s K =>
 Zcb vs fun v'1 => asInt .i64 v'1 fun x_1 => ZaF s <| ZJH N x_1 (fun b_2 => K (.bool b_2) [])
def ZG6 (N : Nat) : Zar := (ZHJ N).add 170 (ZM3 N)
def ZQW : Code := ZaE Tryz.f170
theorem ZQG {R : Type} (N : Nat) (x_1 : Int) (K : V → S → Option R) : ZaU C (ZHJ N) (Zac) 170 Tryz.f170 [.int .i64 x_1] [] K =
 Zpt N x_1 (fun b_2 => K (.bool b_2) []) := by kernel_rfl
theorem ZAb (hC : Ok Tryz.prog C) {N : Nat} (hΦ : Zaa Tryz.prog C (ZHJ N)) : Zaa Tryz.prog C (ZG6 N) := by
 refine hΦ.add_pure rfl fun R vs K r h => ?_
 unfold ZM3 at h
 obtain ⟨_, rfl, h1⟩ := Zaq h
 obtain ⟨_, rfl, h2⟩ := Zaf h1
 obtain ⟨_, h3⟩ := Zae h2
 refine Zak (fn := Tryz.f170) (c := ZQW) hC hΦ Tryz.func170 (by kernel_rfl) (by kernel_rfl) (Zah (Λ := Zac) (by kernel_rfl)) rfl rfl ?_
 refine (ZQG N _ _).trans ?_
 rw [← ZvF]
 exact h3
def ZMZ (N : Nat) : (R : Type) → List V → S → (V → S → Option R) → Option R := fun _ vs s K =>
 Zcf vs fun v'1 v'2 => ZaQ v'1 fun e_1 f_2 x_3 => asInt .i64 v'2 fun x_4 => ZaF s <| ZDO N e_1 f_2 x_3 x_4 (fun b_5 => K (.bool b_5) [])
def ZsB (N : Nat) : Zar := (ZG6 N).add 171 (ZMZ N)
def ZRm : Code := ZaE Tryz.f171
theorem ZQa {R : Type} (N : Nat) (e_1 : List V) (f_2 : Fl) (x_3 x_4 : Int) (K : V → S → Option R) : ZaU C (ZG6 N) (Zac) 171 Tryz.f171 [.agg [.list 7 e_1 f_2, .int .i64 x_3], .int .i64 x_4] [] K =
 ZrQ N e_1 f_2 x_3 x_4 (fun b_5 => K (.bool b_5) []) := by kernel_rfl
theorem Zy5 (hC : Ok Tryz.prog C) {N : Nat} (hΦ : Zaa Tryz.prog C (ZG6 N)) : Zaa Tryz.prog C (ZsB N) := by
 refine hΦ.add_pure rfl fun R vs K r h => ?_
 unfold ZMZ at h
 obtain ⟨_, _, rfl, h1⟩ := Zat h
 obtain ⟨_, _, _, rfl, h2⟩ := Zav h1
 obtain ⟨_, rfl, h3⟩ := Zaf h2
 obtain ⟨_, h4⟩ := Zae h3
 refine Zak (fn := Tryz.f171) (c := ZRm) hC hΦ Tryz.func171 (by kernel_rfl) (by kernel_rfl) (Zah (Λ := Zac) (by kernel_rfl)) rfl rfl ?_
 refine (ZQa N _ _ _ _ _).trans ?_
 rw [← Zys]
 exact h4
def ZMY (N : Nat) : (R : Type) → List V → S → (V → S → Option R) → Option R := fun _ vs s K =>
 Zcf vs fun v'1 v'2 => ZaQ v'1 fun e_1 f_2 x_3 => Zax v'2 fun x_4 x_5 x_6 x_7 x_8 w_9 e_10 f_11 => ZaF s <| ZHD N e_1 f_2 x_3 x_4 x_5 x_6 x_7 x_8 w_9 e_10 f_11 (fun b_12 => K (.bool b_12) [])
def Zsk (N : Nat) : Zar := (ZsB N).add 146 (ZMY N)
def ZEW : Code := ZaE Tryz.f146
def Zty : Code := (Zbj ZEW [] 0).2
def Zni : List Nat := ZbO 99 [2, 3, 61, 62, 63]
def Zyz : List Nat := ZbO 99 [3, 4]
def Zks (e_1 : List V) (f_2 : Fl) (x_3 : Int) (e_5 : List V) (f_6 : Fl) (x_7 x_8 x_9 x_10 x_11 x_12 : Int) (w_13 : ByteArray) (e_14 : List V) (f_15 : Fl) (x_4 : Int) : List V := mkF 0 99 [(2, .ptr 0 0 0 0), (3, .ptr 1 0 0 0), (61, .list 2 e_1 f_2), (62, .int .i64 x_3), (63, .int .i64 x_4)]
def Zg6 {R : Type} (K : X → List V → S → Option R) (e_1 : List V) (f_2 : Fl) (x_3 : Int) (e_5 : List V) (f_6 : Fl) (x_7 : Int) (x_8 : Int) (x_9 : Int) (x_10 : Int) (x_11 : Int) (x_12 : Int) (w_13 : ByteArray) (e_14 : List V) (f_15 : Fl) : Unit → Option R := (fun _ => K .ret (mkF 0 99 [(3, .ptr 1 0 0 0), (4, .bool false)]) [some ⟨[.agg [.list 7 e_5 f_6, .int .i64 x_7]], 2, 34, 0⟩, some ⟨[.agg [.int .i64 x_8, .int .i64 x_9, .int .i64 x_10, .int .i64 x_11, .int .i64 x_12, .str w_13, .list 2 e_14 f_15]], 7, 87, 0⟩])
def ZgO {R : Type} (K : X → List V → S → Option R) (e_1 : List V) (f_2 : Fl) (x_3 : Int) (e_5 : List V) (f_6 : Fl) (x_7 : Int) (x_8 : Int) (x_9 : Int) (x_10 : Int) (x_11 : Int) (x_12 : Int) (w_13 : ByteArray) (e_14 : List V) (f_15 : Fl) : Unit → Option R := (fun _ => K (.exit 1) (mkF 0 99 [(3, .ptr 1 0 0 0)]) [some ⟨[.agg [.list 7 e_5 f_6, .int .i64 x_7]], 2, 34, 0⟩, some ⟨[.agg [.int .i64 x_8, .int .i64 x_9, .int .i64 x_10, .int .i64 x_11, .int .i64 x_12, .str w_13, .list 2 e_14 f_15]], 7, 87, 0⟩])
abbrev Zm3 {R : Type} (N : Nat) : Nat → List V → S → (X → List V → S → Option R) → Option R := fun n => ZcO C (ZsB N) (Zac) Zty [0, 1, 0, 0, 1, 1, 1, 1, 1, 0, 1, 0, 1, 1, 1] true Zni Zyz n R
theorem ZKr {R : Type} (N n : Nat) (e_1 : List V) (f_2 : Fl) (x_3 : Int) (e_5 : List V) (f_6 : Fl) (x_7 x_8 x_9 x_10 x_11 x_12 : Int) (w_13 : ByteArray) (e_14 : List V) (f_15 : Fl) (x_4 : Int) (K : X → List V → S → Option R) :
 Zm3 N (n + 1) (Zks e_1 f_2 x_3 e_5 f_6 x_7 x_8 x_9 x_10 x_11 x_12 w_13 e_14 f_15 x_4) [some ⟨[.agg [.list 7 e_5 f_6, .int .i64 x_7]], 2, 34, 0⟩, some ⟨[.agg [.int .i64 x_8, .int .i64 x_9, .int .i64 x_10, .int .i64 x_11, .int .i64 x_12, .str w_13, .list 2 e_14 f_15]], 7, 87, 0⟩] K =
 ZdC N e_1 f_2 x_3 e_5 f_6 x_7 x_8 x_9 x_10 x_11 x_12 w_13 e_14 f_15 (fun x_4 => Zm3 N n (Zks e_1 f_2 x_3 e_5 f_6 x_7 x_8 x_9 x_10 x_11 x_12 w_13 e_14 f_15 x_4) [some ⟨[.agg [.list 7 e_5 f_6, .int .i64 x_7]], 2, 34, 0⟩, some ⟨[.agg [.int .i64 x_8, .int .i64 x_9, .int .i64 x_10, .int .i64 x_11, .int .i64 x_12, .str w_13, .list 2 e_14 f_15]], 7, 87, 0⟩] K) x_4 (Zg6 K e_1 f_2 x_3 e_5 f_6 x_7 x_8 x_9 x_10 x_11 x_12 w_13 e_14 f_15) (ZgO K e_1 f_2 x_3 e_5 f_6 x_7 x_8 x_9 x_10 x_11 x_12 w_13 e_14 f_15) := by kernel_rfl
theorem ZED {R : Type} (N : Nat) (e_1 : List V) (f_2 : Fl) (x_3 : Int) (e_5 : List V) (f_6 : Fl) (x_7 x_8 x_9 x_10 x_11 x_12 : Int) (w_13 : ByteArray) (e_14 : List V) (f_15 : Fl) (K : X → List V → S → Option R) : ∀ (n : Nat) (x_4 : Int),
 Zm3 N n (Zks e_1 f_2 x_3 e_5 f_6 x_7 x_8 x_9 x_10 x_11 x_12 w_13 e_14 f_15 x_4) [some ⟨[.agg [.list 7 e_5 f_6, .int .i64 x_7]], 2, 34, 0⟩, some ⟨[.agg [.int .i64 x_8, .int .i64 x_9, .int .i64 x_10, .int .i64 x_11, .int .i64 x_12, .str w_13, .list 2 e_14 f_15]], 7, 87, 0⟩] K = ZeG N e_1 f_2 x_3 e_5 f_6 x_7 x_8 x_9 x_10 x_11 x_12 w_13 e_14 f_15 (Zg6 K e_1 f_2 x_3 e_5 f_6 x_7 x_8 x_9 x_10 x_11 x_12 w_13 e_14 f_15) (ZgO K e_1 f_2 x_3 e_5 f_6 x_7 x_8 x_9 x_10 x_11 x_12 w_13 e_14 f_15) n x_4
 | 0, _ => rfl
 | n + 1, x_4 => (ZKr N n e_1 f_2 x_3 e_5 f_6 x_7 x_8 x_9 x_10 x_11 x_12 w_13 e_14 f_15 x_4 K).trans (congrArg (fun nx => ZdC N e_1 f_2 x_3 e_5 f_6 x_7 x_8 x_9 x_10 x_11 x_12 w_13 e_14 f_15 nx x_4 (Zg6 K e_1 f_2 x_3 e_5 f_6 x_7 x_8 x_9 x_10 x_11 x_12 w_13 e_14 f_15) (ZgO K e_1 f_2 x_3 e_5 f_6 x_7 x_8 x_9 x_10 x_11 x_12 w_13 e_14 f_15)) (funext fun x_4 => ZED N e_1 f_2 x_3 e_5 f_6 x_7 x_8 x_9 x_10 x_11 x_12 w_13 e_14 f_15 K n x_4))
def ZsA {R : Type} (E : List V) (s : S) (k : List V → Fl → Int → Int → List V → Fl → Int → Int → Int → Int → Int → Int → ByteArray → List V → Fl → Option R) : Option R :=
 Zan (ZaZ 99 [2, 3, 61, 62, 63] E) <| ZpH E 2 (.ptr 0 0 0 0) <| ZpH E 3 (.ptr 1 0 0 0) <| Zbz E 61 2 fun e_1 f_2 => ZaR E 62 .i64 fun x_3 => ZaR E 63 .i64 fun x_4 => Zd4 s fun o'1 s'2 => ZdP o'1 2 34 fun e'3 k'4 => isN k'4 0 <| Zcb e'3 fun v'5 => asAgg v'5 fun c'6 => Zcf c'6 fun v'7 v'8 => ZaV 7 v'7 fun e_5 f_6 => asInt .i64 v'8 fun x_7 => Zd4 s'2 fun o'9 s'10 => ZdP o'9 7 87 fun e'11 k'12 => isN k'12 0 <| Zcb e'11 fun v'13 => asAgg v'13 fun c'14 => ZJl c'14 fun v'15 v'16 v'17 v'18 v'19 v'20 v'21 => asInt .i64 v'15 fun x_8 => asInt .i64 v'16 fun x_9 => asInt .i64 v'17 fun x_10 => asInt .i64 v'18 fun x_11 => asInt .i64 v'19 fun x_12 => Zbd v'20 fun w_13 => ZaV 2 v'21 fun e_14 f_15 => ZaF s'10 <| k e_1 f_2 x_3 x_4 e_5 f_6 x_7 x_8 x_9 x_10 x_11 x_12 w_13 e_14 f_15
theorem Zor {R : Type} {E : List V} {s : S} {k : List V → Fl → Int → Int → List V → Fl → Int → Int → Int → Int → Int → Int → ByteArray → List V → Fl → Option R} {r : R} (h : ZsA E s k = some r) : ∃ e_1 f_2 x_3 x_4 e_5 f_6 x_7 x_8 x_9 x_10 x_11 x_12 w_13 e_14 f_15, E = Zks e_1 f_2 x_3 e_5 f_6 x_7 x_8 x_9 x_10 x_11 x_12 w_13 e_14 f_15 x_4 ∧ s = [some ⟨[.agg [.list 7 e_5 f_6, .int .i64 x_7]], 2, 34, 0⟩, some ⟨[.agg [.int .i64 x_8, .int .i64 x_9, .int .i64 x_10, .int .i64 x_11, .int .i64 x_12, .str w_13, .list 2 e_14 f_15]], 7, 87, 0⟩] ∧ k e_1 f_2 x_3 x_4 e_5 f_6 x_7 x_8 x_9 x_10 x_11 x_12 w_13 e_14 f_15 = some r := by
 unfold ZsA at h
 obtain ⟨hg, h1⟩ := Zad h
 obtain ⟨hu2, h2⟩ := ZbR h1
 obtain ⟨hu3, h3⟩ := ZbR h2
 obtain ⟨_, _, hu61, h4⟩ := ZaA h3
 obtain ⟨_, hu62, h5⟩ := Zai h4
 obtain ⟨_, hu63, h6⟩ := Zai h5
 obtain ⟨_, _, rfl, h7⟩ := ZaN h6
 obtain ⟨_, _, rfl, h8⟩ := ZaK h7
 obtain ⟨rfl, h9⟩ := Zas h8
 obtain ⟨_, rfl, h10⟩ := Zaq h9
 obtain ⟨_, rfl, h11⟩ := ZaD h10
 obtain ⟨_, _, rfl, h12⟩ := Zat h11
 obtain ⟨_, _, rfl, h13⟩ := Zal h12
 obtain ⟨_, rfl, h14⟩ := Zaf h13
 obtain ⟨_, _, rfl, h15⟩ := ZaN h14
 obtain ⟨_, _, rfl, h16⟩ := ZaK h15
 obtain ⟨rfl, h17⟩ := Zas h16
 obtain ⟨_, rfl, h18⟩ := Zaq h17
 obtain ⟨_, rfl, h19⟩ := ZaD h18
 obtain ⟨_, _, _, _, _, _, _, rfl, h20⟩ := Zet h19
 obtain ⟨_, rfl, h21⟩ := Zaf h20
 obtain ⟨_, rfl, h22⟩ := Zaf h21
 obtain ⟨_, rfl, h23⟩ := Zaf h22
 obtain ⟨_, rfl, h24⟩ := Zaf h23
 obtain ⟨_, rfl, h25⟩ := Zaf h24
 obtain ⟨_, rfl, h26⟩ := Zao h25
 obtain ⟨_, _, rfl, h27⟩ := Zal h26
 obtain ⟨rfl, h28⟩ := Zae h27
 exact ⟨_, _, _, _, _, _, _, _, _, _, _, _, _, _, _, ZaP hg rfl (Zab hu2 (Zab hu3 (Zab hu61 (Zab hu62 (Zab hu63 ZaG))))), rfl, h28⟩
def ZtR (N : Nat) : Zaw := (Zac).add [0, 1, 0, 0, 1, 1, 1, 1, 1, 0, 1, 0, 1, 1, 1] fun _ E s K => ZsA (Zbc Zni E) s fun e_1 f_2 x_3 x_4 e_5 f_6 x_7 x_8 x_9 x_10 x_11 x_12 w_13 e_14 f_15 => ZeG N e_1 f_2 x_3 e_5 f_6 x_7 x_8 x_9 x_10 x_11 x_12 w_13 e_14 f_15 (Zg6 K e_1 f_2 x_3 e_5 f_6 x_7 x_8 x_9 x_10 x_11 x_12 w_13 e_14 f_15) (ZgO K e_1 f_2 x_3 e_5 f_6 x_7 x_8 x_9 x_10 x_11 x_12 w_13 e_14 f_15) N x_4
theorem ZHi {N : Nat} (hC : Ok Tryz.prog C) (hΦ : Zaa Tryz.prog C (ZsB N)) : Za1 Tryz.prog C (ZtR N) Zty [0, 1, 0, 0, 1, 1, 1, 1, 1, 0, 1, 0, 1, 1, 1] :=
 Za2 (Λi := Zac) (tr := true) (ks := Zni) (kx := Zyz) (N := N) hC hΦ
  (Zah (by kernel_rfl))
  fun R E s K r h => by
   have h2 := Zaw.add_self.symm.trans h
   obtain ⟨_, _, _, _, _, _, _, _, _, _, _, _, _, _, _, he, rfl, h3⟩ := Zor h2
   rw [he]
   exact (ZED N _ _ _ _ _ _ _ _ _ _ _ _ _ _ _ N _).trans h3
theorem ZM0 : ZaY ZEW [] = [([0, 1, 0, 0, 1, 1, 1, 1, 1, 0, 1, 0, 1, 1, 1], Zty)] := by kernel_rfl
theorem ZOF {R : Type} (N : Nat) (e_1 : List V) (f_2 : Fl) (x_3 x_4 x_5 x_6 x_7 x_8 : Int) (w_9 : ByteArray) (e_10 : List V) (f_11 : Fl) (K : V → S → Option R) : ZaU C (ZsB N) (ZtR N) 146 Tryz.f146 [.agg [.list 7 e_1 f_2, .int .i64 x_3], .agg [.int .i64 x_4, .int .i64 x_5, .int .i64 x_6, .int .i64 x_7, .int .i64 x_8, .str w_9, .list 2 e_10 f_11]] [] K =
 ZpD N e_1 f_2 x_3 x_4 x_5 x_6 x_7 x_8 w_9 e_10 f_11 (fun b_12 => K (.bool b_12) []) := by kernel_rfl
theorem ZEQ {N : Nat} (hC : Ok Tryz.prog C) (hΦ : Zaa Tryz.prog C (ZsB N)) : ZaT Tryz.prog C (ZtR N) ZEW [] :=
 ZaB ZEW [] (by
  rw [ZM0]
  intro p hp
  simp only [List.mem_cons, List.mem_nil_iff, or_false] at hp
  rcases hp with rfl
  ·exact (ZHi hC hΦ))
theorem Zz3 (hC : Ok Tryz.prog C) {N : Nat} (hΦ : Zaa Tryz.prog C (ZsB N)) : Zaa Tryz.prog C (Zsk N) := by
 refine hΦ.add_pure rfl fun R vs K r h => ?_
 unfold ZMY at h
 obtain ⟨_, _, rfl, h1⟩ := Zat h
 obtain ⟨_, _, _, rfl, h2⟩ := Zav h1
 obtain ⟨_, _, _, _, _, _, _, _, rfl, h3⟩ := Zb2 h2
 obtain ⟨_, h4⟩ := Zae h3
 refine Zak (fn := Tryz.f146) (c := ZEW) hC hΦ Tryz.func146 (by kernel_rfl) (by kernel_rfl) (ZEQ (N := N) hC hΦ) rfl rfl ?_
 refine (ZOF N _ _ _ _ _ _ _ _ _ _ _ _).trans ?_
 rw [← Zx5]
 exact h4
def ZNG (N : Nat) : (R : Type) → List V → S → (V → S → Option R) → Option R := fun _ vs s K =>
 Zcb vs fun v'1 => ZaQ v'1 fun e_1 f_2 x_3 => ZaF s <| ZFX N e_1 f_2 x_3 (fun x_4 => K (.int .i64 x_4) [])
def ZmT (N : Nat) : Zar := (Zsk N).add 147 (ZNG N)
def ZEt : Code := ZaE Tryz.f147
def Zt7 : Code := (Zbj ZEt [] 0).2
def Zl0 : List Nat := ZbO 20 [3, 7, 8, 9]
def Zx0 : List Nat := ZbO 20 [3]
def Zkm (e_2 : List V) (f_3 : Fl) (x_4 : Int) (e_6 : List V) (f_7 : Fl) (x_8 x_1 x_5 : Int) : List V := mkF 0 20 [(3, .int .i64 x_1), (7, .list 7 e_2 f_3), (8, .int .i64 x_4), (9, .int .i64 x_5)]
def Zhg {R : Type} (K : X → List V → S → Option R) (e_2 : List V) (f_3 : Fl) (x_4 : Int) (e_6 : List V) (f_7 : Fl) (x_8 : Int) : Int → Option R := (fun x_1' => K (.exit 0) (mkF 0 20 [(3, .int .i64 (x_1'))]) [some ⟨[.agg [.list 7 e_6 f_7, .int .i64 x_8]], 2, 34, 0⟩])
abbrev Zn9 {R : Type} (N : Nat) : Nat → List V → S → (X → List V → S → Option R) → Option R := fun n => ZcO C (Zsk N) (Zac) Zt7 [0, 1, 0, 1, 1] true Zl0 Zx0 n R
theorem ZKf {R : Type} (N n : Nat) (e_2 : List V) (f_3 : Fl) (x_4 : Int) (e_6 : List V) (f_7 : Fl) (x_8 : Int) (x_1 x_5 : Int) (K : X → List V → S → Option R) :
 Zn9 N (n + 1) (Zkm e_2 f_3 x_4 e_6 f_7 x_8 x_1 x_5) [some ⟨[.agg [.list 7 e_6 f_7, .int .i64 x_8]], 2, 34, 0⟩] K =
 Zdr N e_2 f_3 x_4 e_6 f_7 x_8 (fun x_1 x_5 => Zn9 N n (Zkm e_2 f_3 x_4 e_6 f_7 x_8 x_1 x_5) [some ⟨[.agg [.list 7 e_6 f_7, .int .i64 x_8]], 2, 34, 0⟩] K) x_1 x_5 (Zhg K e_2 f_3 x_4 e_6 f_7 x_8) := by kernel_rfl
theorem ZFa {R : Type} (N : Nat) (e_2 : List V) (f_3 : Fl) (x_4 : Int) (e_6 : List V) (f_7 : Fl) (x_8 : Int) (K : X → List V → S → Option R) : ∀ (n : Nat) (x_1 x_5 : Int),
 Zn9 N n (Zkm e_2 f_3 x_4 e_6 f_7 x_8 x_1 x_5) [some ⟨[.agg [.list 7 e_6 f_7, .int .i64 x_8]], 2, 34, 0⟩] K = Zga N e_2 f_3 x_4 e_6 f_7 x_8 (Zhg K e_2 f_3 x_4 e_6 f_7 x_8) n x_1 x_5
 | 0, _, _ => rfl
 | n + 1, x_1, x_5 => (ZKf N n e_2 f_3 x_4 e_6 f_7 x_8 x_1 x_5 K).trans (congrArg (fun nx => Zdr N e_2 f_3 x_4 e_6 f_7 x_8 nx x_1 x_5 (Zhg K e_2 f_3 x_4 e_6 f_7 x_8)) (funext fun x_1 => funext fun x_5 => ZFa N e_2 f_3 x_4 e_6 f_7 x_8 K n x_1 x_5))
def Ztu {R : Type} (E : List V) (s : S) (k : Int → List V → Fl → Int → Int → List V → Fl → Int → Option R) : Option R :=
 Zan (ZaZ 20 [3, 7, 8, 9] E) <| ZaR E 3 .i64 fun x_1 => Zbz E 7 7 fun e_2 f_3 => ZaR E 8 .i64 fun x_4 => ZaR E 9 .i64 fun x_5 => Zd4 s fun o'1 s'2 => ZdP o'1 2 34 fun e'3 k'4 => isN k'4 0 <| Zcb e'3 fun v'5 => asAgg v'5 fun c'6 => Zcf c'6 fun v'7 v'8 => ZaV 7 v'7 fun e_6 f_7 => asInt .i64 v'8 fun x_8 => ZaF s'2 <| k x_1 e_2 f_3 x_4 x_5 e_6 f_7 x_8
theorem Zqr {R : Type} {E : List V} {s : S} {k : Int → List V → Fl → Int → Int → List V → Fl → Int → Option R} {r : R} (h : Ztu E s k = some r) : ∃ x_1 e_2 f_3 x_4 x_5 e_6 f_7 x_8, E = Zkm e_2 f_3 x_4 e_6 f_7 x_8 x_1 x_5 ∧ s = [some ⟨[.agg [.list 7 e_6 f_7, .int .i64 x_8]], 2, 34, 0⟩] ∧ k x_1 e_2 f_3 x_4 x_5 e_6 f_7 x_8 = some r := by
 unfold Ztu at h
 obtain ⟨hg, h1⟩ := Zad h
 obtain ⟨_, hu3, h2⟩ := Zai h1
 obtain ⟨_, _, hu7, h3⟩ := ZaA h2
 obtain ⟨_, hu8, h4⟩ := Zai h3
 obtain ⟨_, hu9, h5⟩ := Zai h4
 obtain ⟨_, _, rfl, h6⟩ := ZaN h5
 obtain ⟨_, _, rfl, h7⟩ := ZaK h6
 obtain ⟨rfl, h8⟩ := Zas h7
 obtain ⟨_, rfl, h9⟩ := Zaq h8
 obtain ⟨_, rfl, h10⟩ := ZaD h9
 obtain ⟨_, _, rfl, h11⟩ := Zat h10
 obtain ⟨_, _, rfl, h12⟩ := Zal h11
 obtain ⟨_, rfl, h13⟩ := Zaf h12
 obtain ⟨rfl, h14⟩ := Zae h13
 exact ⟨_, _, _, _, _, _, _, _, ZaP hg rfl (Zab hu3 (Zab hu7 (Zab hu8 (Zab hu9 ZaG)))), rfl, h14⟩
def Zsb (N : Nat) : Zaw := (Zac).add [0, 1, 0, 1, 1] fun _ E s K => Ztu (Zbc Zl0 E) s fun x_1 e_2 f_3 x_4 x_5 e_6 f_7 x_8 => Zga N e_2 f_3 x_4 e_6 f_7 x_8 (Zhg K e_2 f_3 x_4 e_6 f_7 x_8) N x_1 x_5
theorem ZIS {N : Nat} (hC : Ok Tryz.prog C) (hΦ : Zaa Tryz.prog C (Zsk N)) : Za1 Tryz.prog C (Zsb N) Zt7 [0, 1, 0, 1, 1] :=
 Za2 (Λi := Zac) (tr := true) (ks := Zl0) (kx := Zx0) (N := N) hC hΦ
  (Zah (by kernel_rfl))
  fun R E s K r h => by
   have h2 := Zaw.add_self.symm.trans h
   obtain ⟨_, _, _, _, _, _, _, _, he, rfl, h3⟩ := Zqr h2
   rw [he]
   exact (ZFa N _ _ _ _ _ _ _ N _ _).trans h3
theorem ZL7 : ZaY ZEt [] = [([0, 1, 0, 1, 1], Zt7)] := by kernel_rfl
theorem ZPK {R : Type} (N : Nat) (e_1 : List V) (f_2 : Fl) (x_3 : Int) (K : V → S → Option R) : ZaU C (Zsk N) (Zsb N) 147 Tryz.f147 [.agg [.list 7 e_1 f_2, .int .i64 x_3]] [] K =
 Zpd N e_1 f_2 x_3 (fun x_4 => K (.int .i64 x_4) []) := by kernel_rfl
theorem ZCC {N : Nat} (hC : Ok Tryz.prog C) (hΦ : Zaa Tryz.prog C (Zsk N)) : ZaT Tryz.prog C (Zsb N) ZEt [] :=
 ZaB ZEt [] (by
  rw [ZL7]
  intro p hp
  simp only [List.mem_cons, List.mem_nil_iff, or_false] at hp
  rcases hp with rfl
  ·exact (ZIS hC hΦ))
theorem Zzr (hC : Ok Tryz.prog C) {N : Nat} (hΦ : Zaa Tryz.prog C (Zsk N)) : Zaa Tryz.prog C (ZmT N) := by
 refine hΦ.add_pure rfl fun R vs K r h => ?_
 unfold ZNG at h
 obtain ⟨_, rfl, h1⟩ := Zaq h
 obtain ⟨_, _, _, rfl, h2⟩ := Zav h1
 obtain ⟨_, h3⟩ := Zae h2
 refine Zak (fn := Tryz.f147) (c := ZEt) hC hΦ Tryz.func147 (by kernel_rfl) (by kernel_rfl) (ZCC (N := N) hC hΦ) rfl rfl ?_
 refine (ZPK N _ _ _ _).trans ?_
 rw [← Zyh]
 exact h3
def ZLE (N : Nat) : (R : Type) → List V → S → (V → S → Option R) → Option R := fun _ vs s K =>
 Zcb vs fun v'1 => ZaQ v'1 fun e_1 f_2 x_3 => ZaF s <| ZGI N e_1 f_2 x_3 (fun e_4 => K (.list 1 e_4 .sh) [])
def Zf2 (N : Nat) : Zar := (ZmT N).add 148 (ZLE N)
def ZDk : Code := ZaE Tryz.f148
def ZiH : Code := (Zbj ZDk [] 0).2
def ZtW : Code := (Zbj ZiH (0 :: [0, 1, 0, 1, 1]) 0).2
def Zn4 : List Nat := ZbO 36 [3, 13, 14, 15, 20, 21, 22]
def ZxY : List Nat := ZbO 36 [3, 13, 14, 15]
def Zkh (k_1 : Nat) (e_2 : List V) (f_3 : Fl) (x_4 x_5 : Int) (e_6 : List V) (f_7 : Fl) (x_8 : Int) (e_10 : List V) (f_11 : Fl) (x_12 x_14 x_15 x_16 x_17 x_18 : Int) (w_19 : ByteArray) (e_20 : List V) (f_21 : Fl) (x_9 : Int) (e_13 : List V) : List V := mkF 0 36 [(3, .arr 1 0 0 k_1), (13, .list 7 e_2 f_3), (14, .int .i64 x_4), (15, .int .i64 x_5), (20, .list 2 e_6 f_7), (21, .int .i64 x_8), (22, .int .i64 x_9)]
def Zhh {R : Type} (K : X → List V → S → Option R) (k_1 : Nat) (e_2 : List V) (f_3 : Fl) (x_4 : Int) (x_5 : Int) (e_6 : List V) (f_7 : Fl) (x_8 : Int) (e_10 : List V) (f_11 : Fl) (x_12 : Int) (x_14 : Int) (x_15 : Int) (x_16 : Int) (x_17 : Int) (x_18 : Int) (w_19 : ByteArray) (e_20 : List V) (f_21 : Fl) : List V → Option R := (fun e_1' => K (.exit 2) (mkF 0 36 [(3, .arr 1 0 0 k_1), (13, .list 7 e_2 f_3), (14, .int .i64 x_4), (15, .int .i64 x_5)]) [some ⟨[.agg [.list 7 e_10 f_11, .int .i64 x_12]], 2, 34, 0⟩, some ⟨e_1', 1, 3, 0⟩, some ⟨[.agg [.int .i64 x_14, .int .i64 x_15, .int .i64 x_16, .int .i64 x_17, .int .i64 x_18, .str w_19, .list 2 e_20 f_21]], 7, 87, 0⟩])
abbrev ZnJ {R : Type} (N : Nat) : Nat → List V → S → (X → List V → S → Option R) → Option R := fun n => ZcO C (ZmT N) (Zac) ZtW [0, 1, 1, 0, 0, 1, 1, 0, 0, 1, 0, 1, 1] true Zn4 ZxY n R
theorem ZJx {R : Type} (N n : Nat) (k_1 : Nat) (e_2 : List V) (f_3 : Fl) (x_4 x_5 : Int) (e_6 : List V) (f_7 : Fl) (x_8 : Int) (e_10 : List V) (f_11 : Fl) (x_12 x_14 x_15 x_16 x_17 x_18 : Int) (w_19 : ByteArray) (e_20 : List V) (f_21 : Fl) (x_9 : Int) (e_13 : List V) (K : X → List V → S → Option R) :
 ZnJ N (n + 1) (Zkh k_1 e_2 f_3 x_4 x_5 e_6 f_7 x_8 e_10 f_11 x_12 x_14 x_15 x_16 x_17 x_18 w_19 e_20 f_21 x_9 e_13) [some ⟨[.agg [.list 7 e_10 f_11, .int .i64 x_12]], 2, 34, 0⟩, some ⟨e_13, 1, 3, 0⟩, some ⟨[.agg [.int .i64 x_14, .int .i64 x_15, .int .i64 x_16, .int .i64 x_17, .int .i64 x_18, .str w_19, .list 2 e_20 f_21]], 7, 87, 0⟩] K =
 Zdh N k_1 e_2 f_3 x_4 x_5 e_6 f_7 x_8 e_10 f_11 x_12 x_14 x_15 x_16 x_17 x_18 w_19 e_20 f_21 (fun x_9 e_13 => ZnJ N n (Zkh k_1 e_2 f_3 x_4 x_5 e_6 f_7 x_8 e_10 f_11 x_12 x_14 x_15 x_16 x_17 x_18 w_19 e_20 f_21 x_9 e_13) [some ⟨[.agg [.list 7 e_10 f_11, .int .i64 x_12]], 2, 34, 0⟩, some ⟨e_13, 1, 3, 0⟩, some ⟨[.agg [.int .i64 x_14, .int .i64 x_15, .int .i64 x_16, .int .i64 x_17, .int .i64 x_18, .str w_19, .list 2 e_20 f_21]], 7, 87, 0⟩] K) x_9 e_13 (Zhh K k_1 e_2 f_3 x_4 x_5 e_6 f_7 x_8 e_10 f_11 x_12 x_14 x_15 x_16 x_17 x_18 w_19 e_20 f_21) := by kernel_rfl
theorem ZE7 {R : Type} (N : Nat) (k_1 : Nat) (e_2 : List V) (f_3 : Fl) (x_4 x_5 : Int) (e_6 : List V) (f_7 : Fl) (x_8 : Int) (e_10 : List V) (f_11 : Fl) (x_12 x_14 x_15 x_16 x_17 x_18 : Int) (w_19 : ByteArray) (e_20 : List V) (f_21 : Fl) (K : X → List V → S → Option R) : ∀ (n : Nat) (x_9 : Int) (e_13 : List V),
 ZnJ N n (Zkh k_1 e_2 f_3 x_4 x_5 e_6 f_7 x_8 e_10 f_11 x_12 x_14 x_15 x_16 x_17 x_18 w_19 e_20 f_21 x_9 e_13) [some ⟨[.agg [.list 7 e_10 f_11, .int .i64 x_12]], 2, 34, 0⟩, some ⟨e_13, 1, 3, 0⟩, some ⟨[.agg [.int .i64 x_14, .int .i64 x_15, .int .i64 x_16, .int .i64 x_17, .int .i64 x_18, .str w_19, .list 2 e_20 f_21]], 7, 87, 0⟩] K = Zfx N k_1 e_2 f_3 x_4 x_5 e_6 f_7 x_8 e_10 f_11 x_12 x_14 x_15 x_16 x_17 x_18 w_19 e_20 f_21 (Zhh K k_1 e_2 f_3 x_4 x_5 e_6 f_7 x_8 e_10 f_11 x_12 x_14 x_15 x_16 x_17 x_18 w_19 e_20 f_21) n x_9 e_13
 | 0, _, _ => rfl
 | n + 1, x_9, e_13 => (ZJx N n k_1 e_2 f_3 x_4 x_5 e_6 f_7 x_8 e_10 f_11 x_12 x_14 x_15 x_16 x_17 x_18 w_19 e_20 f_21 x_9 e_13 K).trans (congrArg (fun nx => Zdh N k_1 e_2 f_3 x_4 x_5 e_6 f_7 x_8 e_10 f_11 x_12 x_14 x_15 x_16 x_17 x_18 w_19 e_20 f_21 nx x_9 e_13 (Zhh K k_1 e_2 f_3 x_4 x_5 e_6 f_7 x_8 e_10 f_11 x_12 x_14 x_15 x_16 x_17 x_18 w_19 e_20 f_21)) (funext fun x_9 => funext fun e_13 => ZE7 N k_1 e_2 f_3 x_4 x_5 e_6 f_7 x_8 e_10 f_11 x_12 x_14 x_15 x_16 x_17 x_18 w_19 e_20 f_21 K n x_9 e_13))
def Zsi {R : Type} (E : List V) (s : S) (k : Nat → List V → Fl → Int → Int → List V → Fl → Int → Int → List V → Fl → Int → List V → Int → Int → Int → Int → Int → ByteArray → List V → Fl → Option R) : Option R :=
 Zan (ZaZ 36 [3, 13, 14, 15, 20, 21, 22] E) <| Zbu (nth E 3) fun u3 => ZiG u3 fun k'1 k'2 k'3 k_1 => isN k'1 1 <| isN k'2 0 <| isN k'3 0 <| Zbz E 13 7 fun e_2 f_3 => ZaR E 14 .i64 fun x_4 => ZaR E 15 .i64 fun x_5 => Zbz E 20 2 fun e_6 f_7 => ZaR E 21 .i64 fun x_8 => ZaR E 22 .i64 fun x_9 => Zd4 s fun o'4 s'5 => ZdP o'4 2 34 fun e'6 k'7 => isN k'7 0 <| Zcb e'6 fun v'8 => asAgg v'8 fun c'9 => Zcf c'9 fun v'10 v'11 => ZaV 7 v'10 fun e_10 f_11 => asInt .i64 v'11 fun x_12 => Zd4 s'5 fun o'12 s'13 => ZdP o'12 1 3 fun e_13 k'14 => isN k'14 0 <| Zd4 s'13 fun o'15 s'16 => ZdP o'15 7 87 fun e'17 k'18 => isN k'18 0 <| Zcb e'17 fun v'19 => asAgg v'19 fun c'20 => ZJl c'20 fun v'21 v'22 v'23 v'24 v'25 v'26 v'27 => asInt .i64 v'21 fun x_14 => asInt .i64 v'22 fun x_15 => asInt .i64 v'23 fun x_16 => asInt .i64 v'24 fun x_17 => asInt .i64 v'25 fun x_18 => Zbd v'26 fun w_19 => ZaV 2 v'27 fun e_20 f_21 => ZaF s'16 <| k k_1 e_2 f_3 x_4 x_5 e_6 f_7 x_8 x_9 e_10 f_11 x_12 e_13 x_14 x_15 x_16 x_17 x_18 w_19 e_20 f_21
theorem ZoN {R : Type} {E : List V} {s : S} {k : Nat → List V → Fl → Int → Int → List V → Fl → Int → Int → List V → Fl → Int → List V → Int → Int → Int → Int → Int → ByteArray → List V → Fl → Option R} {r : R} (h : Zsi E s k = some r) : ∃ k_1 e_2 f_3 x_4 x_5 e_6 f_7 x_8 x_9 e_10 f_11 x_12 e_13 x_14 x_15 x_16 x_17 x_18 w_19 e_20 f_21, E = Zkh k_1 e_2 f_3 x_4 x_5 e_6 f_7 x_8 e_10 f_11 x_12 x_14 x_15 x_16 x_17 x_18 w_19 e_20 f_21 x_9 e_13 ∧ s = [some ⟨[.agg [.list 7 e_10 f_11, .int .i64 x_12]], 2, 34, 0⟩, some ⟨e_13, 1, 3, 0⟩, some ⟨[.agg [.int .i64 x_14, .int .i64 x_15, .int .i64 x_16, .int .i64 x_17, .int .i64 x_18, .str w_19, .list 2 e_20 f_21]], 7, 87, 0⟩] ∧ k k_1 e_2 f_3 x_4 x_5 e_6 f_7 x_8 x_9 e_10 f_11 x_12 e_13 x_14 x_15 x_16 x_17 x_18 w_19 e_20 f_21 = some r := by
 unfold Zsi at h
 obtain ⟨hg, h1⟩ := Zad h
 obtain ⟨_, hu3, h2⟩ := Zag h1
 obtain ⟨_, _, _, _, rfl, h3⟩ := Zb5 h2
 obtain ⟨rfl, h4⟩ := Zas h3
 obtain ⟨rfl, h5⟩ := Zas h4
 obtain ⟨rfl, h6⟩ := Zas h5
 obtain ⟨_, _, hu13, h7⟩ := ZaA h6
 obtain ⟨_, hu14, h8⟩ := Zai h7
 obtain ⟨_, hu15, h9⟩ := Zai h8
 obtain ⟨_, _, hu20, h10⟩ := ZaA h9
 obtain ⟨_, hu21, h11⟩ := Zai h10
 obtain ⟨_, hu22, h12⟩ := Zai h11
 obtain ⟨_, _, rfl, h13⟩ := ZaN h12
 obtain ⟨_, _, rfl, h14⟩ := ZaK h13
 obtain ⟨rfl, h15⟩ := Zas h14
 obtain ⟨_, rfl, h16⟩ := Zaq h15
 obtain ⟨_, rfl, h17⟩ := ZaD h16
 obtain ⟨_, _, rfl, h18⟩ := Zat h17
 obtain ⟨_, _, rfl, h19⟩ := Zal h18
 obtain ⟨_, rfl, h20⟩ := Zaf h19
 obtain ⟨_, _, rfl, h21⟩ := ZaN h20
 obtain ⟨_, _, rfl, h22⟩ := ZaK h21
 obtain ⟨rfl, h23⟩ := Zas h22
 obtain ⟨_, _, rfl, h24⟩ := ZaN h23
 obtain ⟨_, _, rfl, h25⟩ := ZaK h24
 obtain ⟨rfl, h26⟩ := Zas h25
 obtain ⟨_, rfl, h27⟩ := Zaq h26
 obtain ⟨_, rfl, h28⟩ := ZaD h27
 obtain ⟨_, _, _, _, _, _, _, rfl, h29⟩ := Zet h28
 obtain ⟨_, rfl, h30⟩ := Zaf h29
 obtain ⟨_, rfl, h31⟩ := Zaf h30
 obtain ⟨_, rfl, h32⟩ := Zaf h31
 obtain ⟨_, rfl, h33⟩ := Zaf h32
 obtain ⟨_, rfl, h34⟩ := Zaf h33
 obtain ⟨_, rfl, h35⟩ := Zao h34
 obtain ⟨_, _, rfl, h36⟩ := Zal h35
 obtain ⟨rfl, h37⟩ := Zae h36
 exact ⟨_, _, _, _, _, _, _, _, _, _, _, _, _, _, _, _, _, _, _, _, _, ZaP hg rfl (Zab hu3 (Zab hu13 (Zab hu14 (Zab hu15 (Zab hu20 (Zab hu21 (Zab hu22 ZaG))))))), rfl, h37⟩
def Zoo (N : Nat) : Zaw := (Zac).add [0, 1, 1, 0, 0, 1, 1, 0, 0, 1, 0, 1, 1] fun _ E s K => Zsi (Zbc Zn4 E) s fun k_1 e_2 f_3 x_4 x_5 e_6 f_7 x_8 x_9 e_10 f_11 x_12 e_13 x_14 x_15 x_16 x_17 x_18 w_19 e_20 f_21 => Zfx N k_1 e_2 f_3 x_4 x_5 e_6 f_7 x_8 e_10 f_11 x_12 x_14 x_15 x_16 x_17 x_18 w_19 e_20 f_21 (Zhh K k_1 e_2 f_3 x_4 x_5 e_6 f_7 x_8 e_10 f_11 x_12 x_14 x_15 x_16 x_17 x_18 w_19 e_20 f_21) N x_9 e_13
theorem ZFy {N : Nat} (hC : Ok Tryz.prog C) (hΦ : Zaa Tryz.prog C (ZmT N)) : Za1 Tryz.prog C (Zoo N) ZtW [0, 1, 1, 0, 0, 1, 1, 0, 0, 1, 0, 1, 1] :=
 Za2 (Λi := Zac) (tr := true) (ks := Zn4) (kx := ZxY) (N := N) hC hΦ
  (Zah (by kernel_rfl))
  fun R E s K r h => by
   have h2 := Zaw.add_self.symm.trans h
   obtain ⟨_, _, _, _, _, _, _, _, _, _, _, _, _, _, _, _, _, _, _, _, _, he, rfl, h3⟩ := ZoN h2
   rw [he]
   exact (ZE7 N _ _ _ _ _ _ _ _ _ _ _ _ _ _ _ _ _ _ _ _ N _ _).trans h3
def Zmm : List Nat := ZbO 36 [3, 13, 14, 15]
def Zyu : List Nat := ZbO 36 [3]
def Zju (k_1 : Nat) (e_2 : List V) (f_3 : Fl) (x_4 : Int) (e_6 : List V) (f_7 : Fl) (x_8 x_5 : Int) (e_9 : List V) : List V := mkF 0 36 [(3, .arr 1 0 0 k_1), (13, .list 7 e_2 f_3), (14, .int .i64 x_4), (15, .int .i64 x_5)]
def Zhs {R : Type} (K : X → List V → S → Option R) (k_1 : Nat) (e_2 : List V) (f_3 : Fl) (x_4 : Int) (e_6 : List V) (f_7 : Fl) (x_8 : Int) : List V → Option R := (fun e_1' => K (.exit 0) (mkF 0 36 [(3, .arr 1 0 0 k_1)]) [some ⟨[.agg [.list 7 e_6 f_7, .int .i64 x_8]], 2, 34, 0⟩, some ⟨e_1', 1, 3, 0⟩])
abbrev Zog {R : Type} (N : Nat) : Nat → List V → S → (X → List V → S → Option R) → Option R := fun n => ZcO C (ZmT N) (Zoo N) ZiH [0, 1, 0, 1, 1] true Zmm Zyu n R
theorem ZK2 {R : Type} (N n : Nat) (k_1 : Nat) (e_2 : List V) (f_3 : Fl) (x_4 : Int) (e_6 : List V) (f_7 : Fl) (x_8 : Int) (x_5 : Int) (e_9 : List V) (K : X → List V → S → Option R) :
 Zog N (n + 1) (Zju k_1 e_2 f_3 x_4 e_6 f_7 x_8 x_5 e_9) [some ⟨[.agg [.list 7 e_6 f_7, .int .i64 x_8]], 2, 34, 0⟩, some ⟨e_9, 1, 3, 0⟩] K =
 Zda N k_1 e_2 f_3 x_4 e_6 f_7 x_8 (fun x_5 e_9 => Zog N n (Zju k_1 e_2 f_3 x_4 e_6 f_7 x_8 x_5 e_9) [some ⟨[.agg [.list 7 e_6 f_7, .int .i64 x_8]], 2, 34, 0⟩, some ⟨e_9, 1, 3, 0⟩] K) x_5 e_9 (Zhs K k_1 e_2 f_3 x_4 e_6 f_7 x_8) := by kernel_rfl
theorem ZEI {R : Type} (N : Nat) (k_1 : Nat) (e_2 : List V) (f_3 : Fl) (x_4 : Int) (e_6 : List V) (f_7 : Fl) (x_8 : Int) (K : X → List V → S → Option R) : ∀ (n : Nat) (x_5 : Int) (e_9 : List V),
 Zog N n (Zju k_1 e_2 f_3 x_4 e_6 f_7 x_8 x_5 e_9) [some ⟨[.agg [.list 7 e_6 f_7, .int .i64 x_8]], 2, 34, 0⟩, some ⟨e_9, 1, 3, 0⟩] K = ZgJ N k_1 e_2 f_3 x_4 e_6 f_7 x_8 (Zhs K k_1 e_2 f_3 x_4 e_6 f_7 x_8) n x_5 e_9
 | 0, _, _ => rfl
 | n + 1, x_5, e_9 => (ZK2 N n k_1 e_2 f_3 x_4 e_6 f_7 x_8 x_5 e_9 K).trans (congrArg (fun nx => Zda N k_1 e_2 f_3 x_4 e_6 f_7 x_8 nx x_5 e_9 (Zhs K k_1 e_2 f_3 x_4 e_6 f_7 x_8)) (funext fun x_5 => funext fun e_9 => ZEI N k_1 e_2 f_3 x_4 e_6 f_7 x_8 K n x_5 e_9))
def Zuv {R : Type} (E : List V) (s : S) (k : Nat → List V → Fl → Int → Int → List V → Fl → Int → List V → Option R) : Option R :=
 Zan (ZaZ 36 [3, 13, 14, 15] E) <| Zbu (nth E 3) fun u3 => ZiG u3 fun k'1 k'2 k'3 k_1 => isN k'1 1 <| isN k'2 0 <| isN k'3 0 <| Zbz E 13 7 fun e_2 f_3 => ZaR E 14 .i64 fun x_4 => ZaR E 15 .i64 fun x_5 => Zd4 s fun o'4 s'5 => ZdP o'4 2 34 fun e'6 k'7 => isN k'7 0 <| Zcb e'6 fun v'8 => asAgg v'8 fun c'9 => Zcf c'9 fun v'10 v'11 => ZaV 7 v'10 fun e_6 f_7 => asInt .i64 v'11 fun x_8 => Zd4 s'5 fun o'12 s'13 => ZdP o'12 1 3 fun e_9 k'14 => isN k'14 0 <| ZaF s'13 <| k k_1 e_2 f_3 x_4 x_5 e_6 f_7 x_8 e_9
theorem ZqO {R : Type} {E : List V} {s : S} {k : Nat → List V → Fl → Int → Int → List V → Fl → Int → List V → Option R} {r : R} (h : Zuv E s k = some r) : ∃ k_1 e_2 f_3 x_4 x_5 e_6 f_7 x_8 e_9, E = Zju k_1 e_2 f_3 x_4 e_6 f_7 x_8 x_5 e_9 ∧ s = [some ⟨[.agg [.list 7 e_6 f_7, .int .i64 x_8]], 2, 34, 0⟩, some ⟨e_9, 1, 3, 0⟩] ∧ k k_1 e_2 f_3 x_4 x_5 e_6 f_7 x_8 e_9 = some r := by
 unfold Zuv at h
 obtain ⟨hg, h1⟩ := Zad h
 obtain ⟨_, hu3, h2⟩ := Zag h1
 obtain ⟨_, _, _, _, rfl, h3⟩ := Zb5 h2
 obtain ⟨rfl, h4⟩ := Zas h3
 obtain ⟨rfl, h5⟩ := Zas h4
 obtain ⟨rfl, h6⟩ := Zas h5
 obtain ⟨_, _, hu13, h7⟩ := ZaA h6
 obtain ⟨_, hu14, h8⟩ := Zai h7
 obtain ⟨_, hu15, h9⟩ := Zai h8
 obtain ⟨_, _, rfl, h10⟩ := ZaN h9
 obtain ⟨_, _, rfl, h11⟩ := ZaK h10
 obtain ⟨rfl, h12⟩ := Zas h11
 obtain ⟨_, rfl, h13⟩ := Zaq h12
 obtain ⟨_, rfl, h14⟩ := ZaD h13
 obtain ⟨_, _, rfl, h15⟩ := Zat h14
 obtain ⟨_, _, rfl, h16⟩ := Zal h15
 obtain ⟨_, rfl, h17⟩ := Zaf h16
 obtain ⟨_, _, rfl, h18⟩ := ZaN h17
 obtain ⟨_, _, rfl, h19⟩ := ZaK h18
 obtain ⟨rfl, h20⟩ := Zas h19
 obtain ⟨rfl, h21⟩ := Zae h20
 exact ⟨_, _, _, _, _, _, _, _, _, ZaP hg rfl (Zab hu3 (Zab hu13 (Zab hu14 (Zab hu15 ZaG)))), rfl, h21⟩
def ZtS (N : Nat) : Zaw := (Zoo N).add [0, 1, 0, 1, 1] fun _ E s K => Zuv (Zbc Zmm E) s fun k_1 e_2 f_3 x_4 x_5 e_6 f_7 x_8 e_9 => ZgJ N k_1 e_2 f_3 x_4 e_6 f_7 x_8 (Zhs K k_1 e_2 f_3 x_4 e_6 f_7 x_8) N x_5 e_9
theorem ZIe : ZaY ZiH (0 :: [0, 1, 0, 1, 1]) = [([0, 1, 1, 0, 0, 1, 1, 0, 0, 1, 0, 1, 1], ZtW)] := by kernel_rfl
theorem ZIs {N : Nat} (hC : Ok Tryz.prog C) (hΦ : Zaa Tryz.prog C (ZmT N)) : Za1 Tryz.prog C (ZtS N) ZiH [0, 1, 0, 1, 1] :=
 Za2 (Λi := Zoo N) (tr := true) (ks := Zmm) (kx := Zyu) (N := N) hC hΦ
  (ZaB ZiH _ (by
   rw [ZIe]
   intro p hp
   simp only [List.mem_cons, List.mem_nil_iff, or_false] at hp
   rcases hp with rfl
   ·exact (ZFy hC hΦ)))
  fun R E s K r h => by
   have h2 := Zaw.add_self.symm.trans h
   obtain ⟨_, _, _, _, _, _, _, _, _, he, rfl, h3⟩ := ZqO h2
   rw [he]
   exact (ZEI N _ _ _ _ _ _ _ _ N _ _).trans h3
theorem ZNn : ZaY ZDk [] = [([0, 1, 0, 1, 1], ZiH)] := by kernel_rfl
theorem ZQm {R : Type} (N : Nat) (e_1 : List V) (f_2 : Fl) (x_3 : Int) (K : V → S → Option R) : ZaU C (ZmT N) (ZtS N) 148 Tryz.f148 [.agg [.list 7 e_1 f_2, .int .i64 x_3]] [] K =
 ZqD N e_1 f_2 x_3 (fun e_4 => K (.list 1 e_4 .sh) []) := by kernel_rfl
theorem ZBx {N : Nat} (hC : Ok Tryz.prog C) (hΦ : Zaa Tryz.prog C (ZmT N)) : ZaT Tryz.prog C (ZtS N) ZDk [] :=
 ZaB ZDk [] (by
  rw [ZNn]
  intro p hp
  simp only [List.mem_cons, List.mem_nil_iff, or_false] at hp
  rcases hp with rfl
  ·exact (ZIs hC hΦ))
theorem ZyM (hC : Ok Tryz.prog C) {N : Nat} (hΦ : Zaa Tryz.prog C (ZmT N)) : Zaa Tryz.prog C (Zf2 N) := by
 refine hΦ.add_pure rfl fun R vs K r h => ?_
 unfold ZLE at h
 obtain ⟨_, rfl, h1⟩ := Zaq h
 obtain ⟨_, _, _, rfl, h2⟩ := Zav h1
 obtain ⟨_, h3⟩ := Zae h2
 refine Zak (fn := Tryz.f148) (c := ZDk) hC hΦ Tryz.func148 (by kernel_rfl) (by kernel_rfl) (ZBx (N := N) hC hΦ) rfl rfl ?_
 refine (ZQm N _ _ _ _).trans ?_
 rw [← ZwI]
 exact h3
def ZLx (N : Nat) : (R : Type) → List V → S → (V → S → Option R) → Option R := fun _ vs s K =>
 Zcb vs fun v'1 => ZaQ v'1 fun e_1 f_2 x_3 => ZaF s <| ZHB N e_1 f_2 x_3 (fun b_4 => K (.bool b_4) [])
def ZIJ (N : Nat) : Zar := (Zf2 N).add 94 (ZLx N)
def ZqT : Code := ZaE Tryz.f94
def ZtZ : Code := (Zbj ZqT [] 0).2
def Ztn : Code := (Zbj ZqT [] 1).2
def ZiD : Code := (Zbj ZqT [] 2).2
def Zs6 : Code := (Zbj ZqT [] 3).2
def Zva : Code := (Zbj ZiD (0 :: [0, 1, 0, 1, 1, 1, 1, 1, 1, 1, 1]) 0).2
def Znt : List Nat := ZbO 156 [1, 36, 37, 38]
def Zwt : List Nat := ZbO 156 [1, 2]
def Zj7 (e_1 : List V) (f_2 : Fl) (x_3 : Int) (e_5 : List V) (f_6 : Fl) (x_7 x_4 : Int) : List V := mkF 0 156 [(1, .ptr 0 0 0 0), (36, .list 7 e_1 f_2), (37, .int .i64 x_3), (38, .int .i64 x_4)]
def ZhK {R : Type} (K : X → List V → S → Option R) (e_1 : List V) (f_2 : Fl) (x_3 : Int) (e_5 : List V) (f_6 : Fl) (x_7 : Int) : Unit → Option R := (fun _ => K .ret (mkF 0 156 [(1, .ptr 0 0 0 0), (2, .bool false)]) [some ⟨[.agg [.list 7 e_5 f_6, .int .i64 x_7]], 2, 34, 0⟩])
def Zhi {R : Type} (K : X → List V → S → Option R) (e_1 : List V) (f_2 : Fl) (x_3 : Int) (e_5 : List V) (f_6 : Fl) (x_7 : Int) : Unit → Option R := (fun _ => K (.exit 0) (mkF 0 156 [(1, .ptr 0 0 0 0)]) [some ⟨[.agg [.list 7 e_5 f_6, .int .i64 x_7]], 2, 34, 0⟩])
abbrev Zmd {R : Type} (N : Nat) : Nat → List V → S → (X → List V → S → Option R) → Option R := fun n => ZcO C (Zf2 N) (Zac) ZtZ [0, 1, 0, 1, 1] true Znt Zwt n R
theorem ZKn {R : Type} (N n : Nat) (e_1 : List V) (f_2 : Fl) (x_3 : Int) (e_5 : List V) (f_6 : Fl) (x_7 : Int) (x_4 : Int) (K : X → List V → S → Option R) :
 Zmd N (n + 1) (Zj7 e_1 f_2 x_3 e_5 f_6 x_7 x_4) [some ⟨[.agg [.list 7 e_5 f_6, .int .i64 x_7]], 2, 34, 0⟩] K =
 Zdn N e_1 f_2 x_3 e_5 f_6 x_7 (fun x_4 => Zmd N n (Zj7 e_1 f_2 x_3 e_5 f_6 x_7 x_4) [some ⟨[.agg [.list 7 e_5 f_6, .int .i64 x_7]], 2, 34, 0⟩] K) x_4 (ZhK K e_1 f_2 x_3 e_5 f_6 x_7) (Zhi K e_1 f_2 x_3 e_5 f_6 x_7) := by kernel_rfl
theorem ZBs {R : Type} (N : Nat) (e_1 : List V) (f_2 : Fl) (x_3 : Int) (e_5 : List V) (f_6 : Fl) (x_7 : Int) (K : X → List V → S → Option R) : ∀ (n : Nat) (x_4 : Int),
 Zmd N n (Zj7 e_1 f_2 x_3 e_5 f_6 x_7 x_4) [some ⟨[.agg [.list 7 e_5 f_6, .int .i64 x_7]], 2, 34, 0⟩] K = ZgB N e_1 f_2 x_3 e_5 f_6 x_7 (ZhK K e_1 f_2 x_3 e_5 f_6 x_7) (Zhi K e_1 f_2 x_3 e_5 f_6 x_7) n x_4
 | 0, _ => rfl
 | n + 1, x_4 => (ZKn N n e_1 f_2 x_3 e_5 f_6 x_7 x_4 K).trans (congrArg (fun nx => Zdn N e_1 f_2 x_3 e_5 f_6 x_7 nx x_4 (ZhK K e_1 f_2 x_3 e_5 f_6 x_7) (Zhi K e_1 f_2 x_3 e_5 f_6 x_7)) (funext fun x_4 => ZBs N e_1 f_2 x_3 e_5 f_6 x_7 K n x_4))
def Zuu {R : Type} (E : List V) (s : S) (k : List V → Fl → Int → Int → List V → Fl → Int → Option R) : Option R :=
 Zan (ZaZ 156 [1, 36, 37, 38] E) <| ZpH E 1 (.ptr 0 0 0 0) <| Zbz E 36 7 fun e_1 f_2 => ZaR E 37 .i64 fun x_3 => ZaR E 38 .i64 fun x_4 => Zd4 s fun o'1 s'2 => ZdP o'1 2 34 fun e'3 k'4 => isN k'4 0 <| Zcb e'3 fun v'5 => asAgg v'5 fun c'6 => Zcf c'6 fun v'7 v'8 => ZaV 7 v'7 fun e_5 f_6 => asInt .i64 v'8 fun x_7 => ZaF s'2 <| k e_1 f_2 x_3 x_4 e_5 f_6 x_7
theorem ZrC {R : Type} {E : List V} {s : S} {k : List V → Fl → Int → Int → List V → Fl → Int → Option R} {r : R} (h : Zuu E s k = some r) : ∃ e_1 f_2 x_3 x_4 e_5 f_6 x_7, E = Zj7 e_1 f_2 x_3 e_5 f_6 x_7 x_4 ∧ s = [some ⟨[.agg [.list 7 e_5 f_6, .int .i64 x_7]], 2, 34, 0⟩] ∧ k e_1 f_2 x_3 x_4 e_5 f_6 x_7 = some r := by
 unfold Zuu at h
 obtain ⟨hg, h1⟩ := Zad h
 obtain ⟨hu1, h2⟩ := ZbR h1
 obtain ⟨_, _, hu36, h3⟩ := ZaA h2
 obtain ⟨_, hu37, h4⟩ := Zai h3
 obtain ⟨_, hu38, h5⟩ := Zai h4
 obtain ⟨_, _, rfl, h6⟩ := ZaN h5
 obtain ⟨_, _, rfl, h7⟩ := ZaK h6
 obtain ⟨rfl, h8⟩ := Zas h7
 obtain ⟨_, rfl, h9⟩ := Zaq h8
 obtain ⟨_, rfl, h10⟩ := ZaD h9
 obtain ⟨_, _, rfl, h11⟩ := Zat h10
 obtain ⟨_, _, rfl, h12⟩ := Zal h11
 obtain ⟨_, rfl, h13⟩ := Zaf h12
 obtain ⟨rfl, h14⟩ := Zae h13
 exact ⟨_, _, _, _, _, _, _, ZaP hg rfl (Zab hu1 (Zab hu36 (Zab hu37 (Zab hu38 ZaG)))), rfl, h14⟩
def ZnY (N : Nat) : Zaw := (Zac).add [0, 1, 0, 1, 1] fun _ E s K => Zuu (Zbc Znt E) s fun e_1 f_2 x_3 x_4 e_5 f_6 x_7 => ZgB N e_1 f_2 x_3 e_5 f_6 x_7 (ZhK K e_1 f_2 x_3 e_5 f_6 x_7) (Zhi K e_1 f_2 x_3 e_5 f_6 x_7) N x_4
theorem ZHM {N : Nat} (hC : Ok Tryz.prog C) (hΦ : Zaa Tryz.prog C (Zf2 N)) : Za1 Tryz.prog C (ZnY N) ZtZ [0, 1, 0, 1, 1] :=
 Za2 (Λi := Zac) (tr := true) (ks := Znt) (kx := Zwt) (N := N) hC hΦ
  (Zah (by kernel_rfl))
  fun R E s K r h => by
   have h2 := Zaw.add_self.symm.trans h
   obtain ⟨_, _, _, _, _, _, _, he, rfl, h3⟩ := ZrC h2
   rw [he]
   exact (ZBs N _ _ _ _ _ _ _ N _).trans h3
def Zmf : List Nat := ZbO 156 [1, 5, 55, 56, 57]
def ZwX : List Nat := ZbO 156 [1, 2]
def Zkt (e_1 e_2 : List V) (f_3 : Fl) (x_4 : Int) (e_6 : List V) (f_7 : Fl) (x_8 x_5 : Int) : List V := mkF 0 156 [(1, .ptr 0 0 0 0), (5, .list 1 e_1 .sh), (55, .list 7 e_2 f_3), (56, .int .i64 x_4), (57, .int .i64 x_5)]
def Zhf {R : Type} (K : X → List V → S → Option R) (e_1 : List V) (e_2 : List V) (f_3 : Fl) (x_4 : Int) (e_6 : List V) (f_7 : Fl) (x_8 : Int) : Unit → Option R := (fun _ => K .ret (mkF 0 156 [(1, .ptr 0 0 0 0), (2, .bool false)]) [some ⟨[.agg [.list 7 e_6 f_7, .int .i64 x_8]], 2, 34, 0⟩])
def ZgP {R : Type} (K : X → List V → S → Option R) (e_1 : List V) (e_2 : List V) (f_3 : Fl) (x_4 : Int) (e_6 : List V) (f_7 : Fl) (x_8 : Int) : Unit → Option R := (fun _ => K (.exit 2) (mkF 0 156 [(1, .ptr 0 0 0 0)]) [some ⟨[.agg [.list 7 e_6 f_7, .int .i64 x_8]], 2, 34, 0⟩])
abbrev Znv {R : Type} (N : Nat) : Nat → List V → S → (X → List V → S → Option R) → Option R := fun n => ZcO C (Zf2 N) (ZnY N) Ztn [0, 1, 0, 1, 1, 1, 1, 1] true Zmf ZwX n R
theorem ZKj {R : Type} (N n : Nat) (e_1 e_2 : List V) (f_3 : Fl) (x_4 : Int) (e_6 : List V) (f_7 : Fl) (x_8 : Int) (x_5 : Int) (K : X → List V → S → Option R) :
 Znv N (n + 1) (Zkt e_1 e_2 f_3 x_4 e_6 f_7 x_8 x_5) [some ⟨[.agg [.list 7 e_6 f_7, .int .i64 x_8]], 2, 34, 0⟩] K =
 Zdw N e_1 e_2 f_3 x_4 e_6 f_7 x_8 (fun x_5 => Znv N n (Zkt e_1 e_2 f_3 x_4 e_6 f_7 x_8 x_5) [some ⟨[.agg [.list 7 e_6 f_7, .int .i64 x_8]], 2, 34, 0⟩] K) x_5 (Zhf K e_1 e_2 f_3 x_4 e_6 f_7 x_8) (ZgP K e_1 e_2 f_3 x_4 e_6 f_7 x_8) := by kernel_rfl
theorem ZCV {R : Type} (N : Nat) (e_1 e_2 : List V) (f_3 : Fl) (x_4 : Int) (e_6 : List V) (f_7 : Fl) (x_8 : Int) (K : X → List V → S → Option R) : ∀ (n : Nat) (x_5 : Int),
 Znv N n (Zkt e_1 e_2 f_3 x_4 e_6 f_7 x_8 x_5) [some ⟨[.agg [.list 7 e_6 f_7, .int .i64 x_8]], 2, 34, 0⟩] K = Zgt N e_1 e_2 f_3 x_4 e_6 f_7 x_8 (Zhf K e_1 e_2 f_3 x_4 e_6 f_7 x_8) (ZgP K e_1 e_2 f_3 x_4 e_6 f_7 x_8) n x_5
 | 0, _ => rfl
 | n + 1, x_5 => (ZKj N n e_1 e_2 f_3 x_4 e_6 f_7 x_8 x_5 K).trans (congrArg (fun nx => Zdw N e_1 e_2 f_3 x_4 e_6 f_7 x_8 nx x_5 (Zhf K e_1 e_2 f_3 x_4 e_6 f_7 x_8) (ZgP K e_1 e_2 f_3 x_4 e_6 f_7 x_8)) (funext fun x_5 => ZCV N e_1 e_2 f_3 x_4 e_6 f_7 x_8 K n x_5))
def Zr2 {R : Type} (E : List V) (s : S) (k : List V → List V → Fl → Int → Int → List V → Fl → Int → Option R) : Option R :=
 Zan (ZaZ 156 [1, 5, 55, 56, 57] E) <| ZpH E 1 (.ptr 0 0 0 0) <| Zbu (nth E 5) fun u5 => ZaV 1 u5 fun e_1 f'1 => ZKA f'1 <| Zbz E 55 7 fun e_2 f_3 => ZaR E 56 .i64 fun x_4 => ZaR E 57 .i64 fun x_5 => Zd4 s fun o'2 s'3 => ZdP o'2 2 34 fun e'4 k'5 => isN k'5 0 <| Zcb e'4 fun v'6 => asAgg v'6 fun c'7 => Zcf c'7 fun v'8 v'9 => ZaV 7 v'8 fun e_6 f_7 => asInt .i64 v'9 fun x_8 => ZaF s'3 <| k e_1 e_2 f_3 x_4 x_5 e_6 f_7 x_8
theorem Zqx {R : Type} {E : List V} {s : S} {k : List V → List V → Fl → Int → Int → List V → Fl → Int → Option R} {r : R} (h : Zr2 E s k = some r) : ∃ e_1 e_2 f_3 x_4 x_5 e_6 f_7 x_8, E = Zkt e_1 e_2 f_3 x_4 e_6 f_7 x_8 x_5 ∧ s = [some ⟨[.agg [.list 7 e_6 f_7, .int .i64 x_8]], 2, 34, 0⟩] ∧ k e_1 e_2 f_3 x_4 x_5 e_6 f_7 x_8 = some r := by
 unfold Zr2 at h
 obtain ⟨hg, h1⟩ := Zad h
 obtain ⟨hu1, h2⟩ := ZbR h1
 obtain ⟨_, hu5, h3⟩ := Zag h2
 obtain ⟨_, _, rfl, h4⟩ := Zal h3
 obtain ⟨rfl, h5⟩ := Ze5 h4
 obtain ⟨_, _, hu55, h6⟩ := ZaA h5
 obtain ⟨_, hu56, h7⟩ := Zai h6
 obtain ⟨_, hu57, h8⟩ := Zai h7
 obtain ⟨_, _, rfl, h9⟩ := ZaN h8
 obtain ⟨_, _, rfl, h10⟩ := ZaK h9
 obtain ⟨rfl, h11⟩ := Zas h10
 obtain ⟨_, rfl, h12⟩ := Zaq h11
 obtain ⟨_, rfl, h13⟩ := ZaD h12
 obtain ⟨_, _, rfl, h14⟩ := Zat h13
 obtain ⟨_, _, rfl, h15⟩ := Zal h14
 obtain ⟨_, rfl, h16⟩ := Zaf h15
 obtain ⟨rfl, h17⟩ := Zae h16
 exact ⟨_, _, _, _, _, _, _, _, ZaP hg rfl (Zab hu1 (Zab hu5 (Zab hu55 (Zab hu56 (Zab hu57 ZaG))))), rfl, h17⟩
def ZmJ (N : Nat) : Zaw := (ZnY N).add [0, 1, 0, 1, 1, 1, 1, 1] fun _ E s K => Zr2 (Zbc Zmf E) s fun e_1 e_2 f_3 x_4 x_5 e_6 f_7 x_8 => Zgt N e_1 e_2 f_3 x_4 e_6 f_7 x_8 (Zhf K e_1 e_2 f_3 x_4 e_6 f_7 x_8) (ZgP K e_1 e_2 f_3 x_4 e_6 f_7 x_8) N x_5
theorem ZGX {N : Nat} (hC : Ok Tryz.prog C) (hΦ : Zaa Tryz.prog C (Zf2 N)) : Za1 Tryz.prog C (ZmJ N) Ztn [0, 1, 0, 1, 1, 1, 1, 1] :=
 Za2 (Λi := ZnY N) (tr := true) (ks := Zmf) (kx := ZwX) (N := N) hC hΦ
  (Zah (by kernel_rfl))
  fun R E s K r h => by
   have h2 := Zaw.add_self.symm.trans h
   obtain ⟨_, _, _, _, _, _, _, _, he, rfl, h3⟩ := Zqx h2
   rw [he]
   exact (ZCV N _ _ _ _ _ _ _ _ N _).trans h3
def Zn2 : List Nat := ZbO 156 [1, 9, 10, 11, 109, 110, 111]
def Zxk : List Nat := ZbO 156 [1, 9, 10, 11]
def Zj4 (k_1 : Nat) (x_3 : Int) (e_4 : List V) (f_5 : Fl) (x_6 : Int) (e_8 : List V) (f_9 : Fl) (x_10 : Int) (e_2 : List V) (x_7 : Int) (e_11 : List V) : List V := mkF 0 156 [(1, .ptr 0 0 0 0), (9, .arr 1 0 0 k_1), (10, .list 1 e_2 (.own 3)), (11, .int .i64 x_3), (109, .list 2 e_4 f_5), (110, .int .i64 x_6), (111, .int .i64 x_7)]
def Zh6 {R : Type} (K : X → List V → S → Option R) (k_1 : Nat) (x_3 : Int) (e_4 : List V) (f_5 : Fl) (x_6 : Int) (e_8 : List V) (f_9 : Fl) (x_10 : Int) : List V → List V → Option R := (fun e_1' e_2' => K (.exit 7) (mkF 0 156 [(1, .ptr 0 0 0 0), (9, .arr 1 0 0 k_1), (10, .list 1 (e_1') (.own 3)), (11, .int .i64 x_3)]) [some ⟨[.agg [.list 7 e_8 f_9, .int .i64 x_10]], 2, 34, 0⟩, some ⟨e_2', 1, 4, 0⟩])
abbrev Zmj {R : Type} (N : Nat) : Nat → List V → S → (X → List V → S → Option R) → Option R := fun n => ZcO C (Zf2 N) (ZmJ N) Zva [0, 1, 1, 0, 0, 1, 0, 0, 1, 0, 1, 1, 1, 1, 1, 1, 1, 1] true Zn2 Zxk n R
theorem ZKX {R : Type} (N n : Nat) (k_1 : Nat) (x_3 : Int) (e_4 : List V) (f_5 : Fl) (x_6 : Int) (e_8 : List V) (f_9 : Fl) (x_10 : Int) (e_2 : List V) (x_7 : Int) (e_11 : List V) (K : X → List V → S → Option R) :
 Zmj N (n + 1) (Zj4 k_1 x_3 e_4 f_5 x_6 e_8 f_9 x_10 e_2 x_7 e_11) [some ⟨[.agg [.list 7 e_8 f_9, .int .i64 x_10]], 2, 34, 0⟩, some ⟨e_11, 1, 4, 0⟩] K =
 Zdy N k_1 x_3 e_4 f_5 x_6 e_8 f_9 x_10 (fun e_2 x_7 e_11 => Zmj N n (Zj4 k_1 x_3 e_4 f_5 x_6 e_8 f_9 x_10 e_2 x_7 e_11) [some ⟨[.agg [.list 7 e_8 f_9, .int .i64 x_10]], 2, 34, 0⟩, some ⟨e_11, 1, 4, 0⟩] K) e_2 x_7 e_11 (Zh6 K k_1 x_3 e_4 f_5 x_6 e_8 f_9 x_10) := by kernel_rfl
theorem ZE6 {R : Type} (N : Nat) (k_1 : Nat) (x_3 : Int) (e_4 : List V) (f_5 : Fl) (x_6 : Int) (e_8 : List V) (f_9 : Fl) (x_10 : Int) (K : X → List V → S → Option R) : ∀ (n : Nat) (e_2 : List V) (x_7 : Int) (e_11 : List V),
 Zmj N n (Zj4 k_1 x_3 e_4 f_5 x_6 e_8 f_9 x_10 e_2 x_7 e_11) [some ⟨[.agg [.list 7 e_8 f_9, .int .i64 x_10]], 2, 34, 0⟩, some ⟨e_11, 1, 4, 0⟩] K = ZfA N k_1 x_3 e_4 f_5 x_6 e_8 f_9 x_10 (Zh6 K k_1 x_3 e_4 f_5 x_6 e_8 f_9 x_10) n e_2 x_7 e_11
 | 0, _, _, _ => rfl
 | n + 1, e_2, x_7, e_11 => (ZKX N n k_1 x_3 e_4 f_5 x_6 e_8 f_9 x_10 e_2 x_7 e_11 K).trans (congrArg (fun nx => Zdy N k_1 x_3 e_4 f_5 x_6 e_8 f_9 x_10 nx e_2 x_7 e_11 (Zh6 K k_1 x_3 e_4 f_5 x_6 e_8 f_9 x_10)) (funext fun e_2 => funext fun x_7 => funext fun e_11 => ZE6 N k_1 x_3 e_4 f_5 x_6 e_8 f_9 x_10 K n e_2 x_7 e_11))
def Zve {R : Type} (E : List V) (s : S) (k : Nat → List V → Int → List V → Fl → Int → Int → List V → Fl → Int → List V → Option R) : Option R :=
 Zan (ZaZ 156 [1, 9, 10, 11, 109, 110, 111] E) <| ZpH E 1 (.ptr 0 0 0 0) <| Zbu (nth E 9) fun u9 => ZiG u9 fun k'1 k'2 k'3 k_1 => isN k'1 1 <| isN k'2 0 <| isN k'3 0 <| Zbu (nth E 10) fun u10 => ZaV 1 u10 fun e_2 f'4 => Zn5 3 f'4 <| ZaR E 11 .i64 fun x_3 => Zbz E 109 2 fun e_4 f_5 => ZaR E 110 .i64 fun x_6 => ZaR E 111 .i64 fun x_7 => Zd4 s fun o'5 s'6 => ZdP o'5 2 34 fun e'7 k'8 => isN k'8 0 <| Zcb e'7 fun v'9 => asAgg v'9 fun c'10 => Zcf c'10 fun v'11 v'12 => ZaV 7 v'11 fun e_8 f_9 => asInt .i64 v'12 fun x_10 => Zd4 s'6 fun o'13 s'14 => ZdP o'13 1 4 fun e_11 k'15 => isN k'15 0 <| ZaF s'14 <| k k_1 e_2 x_3 e_4 f_5 x_6 x_7 e_8 f_9 x_10 e_11
theorem ZqH {R : Type} {E : List V} {s : S} {k : Nat → List V → Int → List V → Fl → Int → Int → List V → Fl → Int → List V → Option R} {r : R} (h : Zve E s k = some r) : ∃ k_1 e_2 x_3 e_4 f_5 x_6 x_7 e_8 f_9 x_10 e_11, E = Zj4 k_1 x_3 e_4 f_5 x_6 e_8 f_9 x_10 e_2 x_7 e_11 ∧ s = [some ⟨[.agg [.list 7 e_8 f_9, .int .i64 x_10]], 2, 34, 0⟩, some ⟨e_11, 1, 4, 0⟩] ∧ k k_1 e_2 x_3 e_4 f_5 x_6 x_7 e_8 f_9 x_10 e_11 = some r := by
 unfold Zve at h
 obtain ⟨hg, h1⟩ := Zad h
 obtain ⟨hu1, h2⟩ := ZbR h1
 obtain ⟨_, hu9, h3⟩ := Zag h2
 obtain ⟨_, _, _, _, rfl, h4⟩ := Zb5 h3
 obtain ⟨rfl, h5⟩ := Zas h4
 obtain ⟨rfl, h6⟩ := Zas h5
 obtain ⟨rfl, h7⟩ := Zas h6
 obtain ⟨_, hu10, h8⟩ := Zag h7
 obtain ⟨_, _, rfl, h9⟩ := Zal h8
 obtain ⟨rfl, h10⟩ := ZcQ h9
 obtain ⟨_, hu11, h11⟩ := Zai h10
 obtain ⟨_, _, hu109, h12⟩ := ZaA h11
 obtain ⟨_, hu110, h13⟩ := Zai h12
 obtain ⟨_, hu111, h14⟩ := Zai h13
 obtain ⟨_, _, rfl, h15⟩ := ZaN h14
 obtain ⟨_, _, rfl, h16⟩ := ZaK h15
 obtain ⟨rfl, h17⟩ := Zas h16
 obtain ⟨_, rfl, h18⟩ := Zaq h17
 obtain ⟨_, rfl, h19⟩ := ZaD h18
 obtain ⟨_, _, rfl, h20⟩ := Zat h19
 obtain ⟨_, _, rfl, h21⟩ := Zal h20
 obtain ⟨_, rfl, h22⟩ := Zaf h21
 obtain ⟨_, _, rfl, h23⟩ := ZaN h22
 obtain ⟨_, _, rfl, h24⟩ := ZaK h23
 obtain ⟨rfl, h25⟩ := Zas h24
 obtain ⟨rfl, h26⟩ := Zae h25
 exact ⟨_, _, _, _, _, _, _, _, _, _, _, ZaP hg rfl (Zab hu1 (Zab hu9 (Zab hu10 (Zab hu11 (Zab hu109 (Zab hu110 (Zab hu111 ZaG))))))), rfl, h26⟩
def ZmI (N : Nat) : Zaw := (ZmJ N).add [0, 1, 1, 0, 0, 1, 0, 0, 1, 0, 1, 1, 1, 1, 1, 1, 1, 1] fun _ E s K => Zve (Zbc Zn2 E) s fun k_1 e_2 x_3 e_4 f_5 x_6 x_7 e_8 f_9 x_10 e_11 => ZfA N k_1 x_3 e_4 f_5 x_6 e_8 f_9 x_10 (Zh6 K k_1 x_3 e_4 f_5 x_6 e_8 f_9 x_10) N e_2 x_7 e_11
theorem ZFJ {N : Nat} (hC : Ok Tryz.prog C) (hΦ : Zaa Tryz.prog C (Zf2 N)) : Za1 Tryz.prog C (ZmI N) Zva [0, 1, 1, 0, 0, 1, 0, 0, 1, 0, 1, 1, 1, 1, 1, 1, 1, 1] :=
 Za2 (Λi := ZmJ N) (tr := true) (ks := Zn2) (kx := Zxk) (N := N) hC hΦ
  (Zah (by kernel_rfl))
  fun R E s K r h => by
   have h2 := Zaw.add_self.symm.trans h
   obtain ⟨_, _, _, _, _, _, _, _, _, _, _, he, rfl, h3⟩ := ZqH h2
   rw [he]
   exact (ZE6 N _ _ _ _ _ _ _ _ _ N _ _ _).trans h3
def Zn8 : List Nat := ZbO 156 [1, 9, 10, 11]
def ZwC : List Nat := ZbO 156 [1, 9]
def ZjF (k_1 : Nat) (e_4 : List V) (f_5 : Fl) (x_6 : Int) (e_2 : List V) (x_3 : Int) (e_7 : List V) : List V := mkF 0 156 [(1, .ptr 0 0 0 0), (9, .arr 1 0 0 k_1), (10, .list 1 e_2 (.own 3)), (11, .int .i64 x_3)]
def ZhV {R : Type} (K : X → List V → S → Option R) (k_1 : Nat) (e_4 : List V) (f_5 : Fl) (x_6 : Int) : List V → Option R := (fun e_1' => K (.exit 5) (mkF 0 156 [(1, .ptr 0 0 0 0), (9, .arr 1 0 0 k_1)]) [some ⟨[.agg [.list 7 e_4 f_5, .int .i64 x_6]], 2, 34, 0⟩, some ⟨e_1', 1, 4, 0⟩])
abbrev ZmR {R : Type} (N : Nat) : Nat → List V → S → (X → List V → S → Option R) → Option R := fun n => ZcO C (Zf2 N) (ZmI N) ZiD [0, 1, 0, 1, 1, 1, 1, 1, 1, 1, 1] false Zn8 ZwC n R
theorem ZJ8 {R : Type} (N n : Nat) (k_1 : Nat) (e_4 : List V) (f_5 : Fl) (x_6 : Int) (e_2 : List V) (x_3 : Int) (e_7 : List V) (K : X → List V → S → Option R) :
 ZmR N (n + 1) (ZjF k_1 e_4 f_5 x_6 e_2 x_3 e_7) [some ⟨[.agg [.list 7 e_4 f_5, .int .i64 x_6]], 2, 34, 0⟩, some ⟨e_7, 1, 4, 0⟩] K =
 Zc9 N k_1 e_4 f_5 x_6 (fun e_2 x_3 e_7 => ZmR N n (ZjF k_1 e_4 f_5 x_6 e_2 x_3 e_7) [some ⟨[.agg [.list 7 e_4 f_5, .int .i64 x_6]], 2, 34, 0⟩, some ⟨e_7, 1, 4, 0⟩] K) e_2 x_3 e_7 (ZhV K k_1 e_4 f_5 x_6) := by kernel_rfl
theorem ZEU {R : Type} (N : Nat) (k_1 : Nat) (e_4 : List V) (f_5 : Fl) (x_6 : Int) (K : X → List V → S → Option R) : ∀ (n : Nat) (e_2 : List V) (x_3 : Int) (e_7 : List V),
 ZmR N n (ZjF k_1 e_4 f_5 x_6 e_2 x_3 e_7) [some ⟨[.agg [.list 7 e_4 f_5, .int .i64 x_6]], 2, 34, 0⟩, some ⟨e_7, 1, 4, 0⟩] K = Zfi N k_1 e_4 f_5 x_6 (ZhV K k_1 e_4 f_5 x_6) n e_2 x_3 e_7
 | 0, _, _, _ => rfl
 | n + 1, e_2, x_3, e_7 => (ZJ8 N n k_1 e_4 f_5 x_6 e_2 x_3 e_7 K).trans (congrArg (fun nx => Zc9 N k_1 e_4 f_5 x_6 nx e_2 x_3 e_7 (ZhV K k_1 e_4 f_5 x_6)) (funext fun e_2 => funext fun x_3 => funext fun e_7 => ZEU N k_1 e_4 f_5 x_6 K n e_2 x_3 e_7))
def ZtD {R : Type} (E : List V) (s : S) (k : Nat → List V → Int → List V → Fl → Int → List V → Option R) : Option R :=
 Zan (ZaZ 156 [1, 9, 10, 11] E) <| ZpH E 1 (.ptr 0 0 0 0) <| Zbu (nth E 9) fun u9 => ZiG u9 fun k'1 k'2 k'3 k_1 => isN k'1 1 <| isN k'2 0 <| isN k'3 0 <| Zbu (nth E 10) fun u10 => ZaV 1 u10 fun e_2 f'4 => Zn5 3 f'4 <| ZaR E 11 .i64 fun x_3 => Zd4 s fun o'5 s'6 => ZdP o'5 2 34 fun e'7 k'8 => isN k'8 0 <| Zcb e'7 fun v'9 => asAgg v'9 fun c'10 => Zcf c'10 fun v'11 v'12 => ZaV 7 v'11 fun e_4 f_5 => asInt .i64 v'12 fun x_6 => Zd4 s'6 fun o'13 s'14 => ZdP o'13 1 4 fun e_7 k'15 => isN k'15 0 <| ZaF s'14 <| k k_1 e_2 x_3 e_4 f_5 x_6 e_7
theorem ZpG {R : Type} {E : List V} {s : S} {k : Nat → List V → Int → List V → Fl → Int → List V → Option R} {r : R} (h : ZtD E s k = some r) : ∃ k_1 e_2 x_3 e_4 f_5 x_6 e_7, E = ZjF k_1 e_4 f_5 x_6 e_2 x_3 e_7 ∧ s = [some ⟨[.agg [.list 7 e_4 f_5, .int .i64 x_6]], 2, 34, 0⟩, some ⟨e_7, 1, 4, 0⟩] ∧ k k_1 e_2 x_3 e_4 f_5 x_6 e_7 = some r := by
 unfold ZtD at h
 obtain ⟨hg, h1⟩ := Zad h
 obtain ⟨hu1, h2⟩ := ZbR h1
 obtain ⟨_, hu9, h3⟩ := Zag h2
 obtain ⟨_, _, _, _, rfl, h4⟩ := Zb5 h3
 obtain ⟨rfl, h5⟩ := Zas h4
 obtain ⟨rfl, h6⟩ := Zas h5
 obtain ⟨rfl, h7⟩ := Zas h6
 obtain ⟨_, hu10, h8⟩ := Zag h7
 obtain ⟨_, _, rfl, h9⟩ := Zal h8
 obtain ⟨rfl, h10⟩ := ZcQ h9
 obtain ⟨_, hu11, h11⟩ := Zai h10
 obtain ⟨_, _, rfl, h12⟩ := ZaN h11
 obtain ⟨_, _, rfl, h13⟩ := ZaK h12
 obtain ⟨rfl, h14⟩ := Zas h13
 obtain ⟨_, rfl, h15⟩ := Zaq h14
 obtain ⟨_, rfl, h16⟩ := ZaD h15
 obtain ⟨_, _, rfl, h17⟩ := Zat h16
 obtain ⟨_, _, rfl, h18⟩ := Zal h17
 obtain ⟨_, rfl, h19⟩ := Zaf h18
 obtain ⟨_, _, rfl, h20⟩ := ZaN h19
 obtain ⟨_, _, rfl, h21⟩ := ZaK h20
 obtain ⟨rfl, h22⟩ := Zas h21
 obtain ⟨rfl, h23⟩ := Zae h22
 exact ⟨_, _, _, _, _, _, _, ZaP hg rfl (Zab hu1 (Zab hu9 (Zab hu10 (Zab hu11 ZaG)))), rfl, h23⟩
def Zob (N : Nat) : Zaw := (ZmI N).add [0, 1, 0, 1, 1, 1, 1, 1, 1, 1, 1] fun _ E s K => ZtD (Zbc Zn8 E) s fun k_1 e_2 x_3 e_4 f_5 x_6 e_7 => Zfi N k_1 e_4 f_5 x_6 (ZhV K k_1 e_4 f_5 x_6) N e_2 x_3 e_7
theorem ZHC : ZaY ZiD (0 :: [0, 1, 0, 1, 1, 1, 1, 1, 1, 1, 1]) = [([0, 1, 1, 0, 0, 1, 0, 0, 1, 0, 1, 1, 1, 1, 1, 1, 1, 1], Zva)] := by kernel_rfl
theorem ZG8 {N : Nat} (hC : Ok Tryz.prog C) (hΦ : Zaa Tryz.prog C (Zf2 N)) : Za1 Tryz.prog C (Zob N) ZiD [0, 1, 0, 1, 1, 1, 1, 1, 1, 1, 1] :=
 Za2 (Λi := ZmI N) (tr := false) (ks := Zn8) (kx := ZwC) (N := N) hC hΦ
  (ZaB ZiD _ (by
   rw [ZHC]
   intro p hp
   simp only [List.mem_cons, List.mem_nil_iff, or_false] at hp
   rcases hp with rfl
   ·exact (ZFJ hC hΦ)))
  fun R E s K r h => by
   have h2 := Zaw.add_self.symm.trans h
   obtain ⟨_, _, _, _, _, _, _, he, rfl, h3⟩ := ZpG h2
   rw [he]
   exact (ZEU N _ _ _ _ _ N _ _ _).trans h3
def Zmh : List Nat := ZbO 156 [9, 138, 139, 140]
def Zv1 : List Nat := ZbO 156 [2]
def ZjG (k_1 : Nat) (e_2 : List V) (f_3 : Fl) (x_4 : Int) (e_6 : List V) (f_7 : Fl) (x_8 x_5 : Int) (e_9 : List V) : List V := mkF 0 156 [(9, .arr 1 0 0 k_1), (138, .list 7 e_2 f_3), (139, .int .i64 x_4), (140, .int .i64 x_5)]
def Zg0 {R : Type} (K : X → List V → S → Option R) (k_1 : Nat) (e_2 : List V) (f_3 : Fl) (x_4 : Int) (e_6 : List V) (f_7 : Fl) (x_8 : Int) : List V → Option R := (fun e_1' => K .ret (mkF 0 156 [(2, .bool false)]) [some ⟨[.agg [.list 7 e_6 f_7, .int .i64 x_8]], 2, 34, 0⟩, some ⟨e_1', 1, 4, 0⟩])
def Zhv {R : Type} (K : X → List V → S → Option R) (k_1 : Nat) (e_2 : List V) (f_3 : Fl) (x_4 : Int) (e_6 : List V) (f_7 : Fl) (x_8 : Int) : List V → Option R := (fun e_1' => K (.exit 9) (mkF 0 156 []) [some ⟨[.agg [.list 7 e_6 f_7, .int .i64 x_8]], 2, 34, 0⟩, some ⟨e_1', 1, 4, 0⟩])
abbrev ZnX {R : Type} (N : Nat) : Nat → List V → S → (X → List V → S → Option R) → Option R := fun n => ZcO C (Zf2 N) (Zob N) Zs6 [0, 1, 0, 1, 1, 1, 1, 1, 1, 1, 1, 1] true Zmh Zv1 n R
theorem ZJD {R : Type} (N n : Nat) (k_1 : Nat) (e_2 : List V) (f_3 : Fl) (x_4 : Int) (e_6 : List V) (f_7 : Fl) (x_8 : Int) (x_5 : Int) (e_9 : List V) (K : X → List V → S → Option R) :
 ZnX N (n + 1) (ZjG k_1 e_2 f_3 x_4 e_6 f_7 x_8 x_5 e_9) [some ⟨[.agg [.list 7 e_6 f_7, .int .i64 x_8]], 2, 34, 0⟩, some ⟨e_9, 1, 4, 0⟩] K =
 ZdD N k_1 e_2 f_3 x_4 e_6 f_7 x_8 (fun x_5 e_9 => ZnX N n (ZjG k_1 e_2 f_3 x_4 e_6 f_7 x_8 x_5 e_9) [some ⟨[.agg [.list 7 e_6 f_7, .int .i64 x_8]], 2, 34, 0⟩, some ⟨e_9, 1, 4, 0⟩] K) x_5 e_9 (Zg0 K k_1 e_2 f_3 x_4 e_6 f_7 x_8) (Zhv K k_1 e_2 f_3 x_4 e_6 f_7 x_8) := by kernel_rfl
theorem ZDQ {R : Type} (N : Nat) (k_1 : Nat) (e_2 : List V) (f_3 : Fl) (x_4 : Int) (e_6 : List V) (f_7 : Fl) (x_8 : Int) (K : X → List V → S → Option R) : ∀ (n : Nat) (x_5 : Int) (e_9 : List V),
 ZnX N n (ZjG k_1 e_2 f_3 x_4 e_6 f_7 x_8 x_5 e_9) [some ⟨[.agg [.list 7 e_6 f_7, .int .i64 x_8]], 2, 34, 0⟩, some ⟨e_9, 1, 4, 0⟩] K = ZgE N k_1 e_2 f_3 x_4 e_6 f_7 x_8 (Zg0 K k_1 e_2 f_3 x_4 e_6 f_7 x_8) (Zhv K k_1 e_2 f_3 x_4 e_6 f_7 x_8) n x_5 e_9
 | 0, _, _ => rfl
 | n + 1, x_5, e_9 => (ZJD N n k_1 e_2 f_3 x_4 e_6 f_7 x_8 x_5 e_9 K).trans (congrArg (fun nx => ZdD N k_1 e_2 f_3 x_4 e_6 f_7 x_8 nx x_5 e_9 (Zg0 K k_1 e_2 f_3 x_4 e_6 f_7 x_8) (Zhv K k_1 e_2 f_3 x_4 e_6 f_7 x_8)) (funext fun x_5 => funext fun e_9 => ZDQ N k_1 e_2 f_3 x_4 e_6 f_7 x_8 K n x_5 e_9))
def Zvb {R : Type} (E : List V) (s : S) (k : Nat → List V → Fl → Int → Int → List V → Fl → Int → List V → Option R) : Option R :=
 Zan (ZaZ 156 [9, 138, 139, 140] E) <| Zbu (nth E 9) fun u9 => ZiG u9 fun k'1 k'2 k'3 k_1 => isN k'1 1 <| isN k'2 0 <| isN k'3 0 <| Zbz E 138 7 fun e_2 f_3 => ZaR E 139 .i64 fun x_4 => ZaR E 140 .i64 fun x_5 => Zd4 s fun o'4 s'5 => ZdP o'4 2 34 fun e'6 k'7 => isN k'7 0 <| Zcb e'6 fun v'8 => asAgg v'8 fun c'9 => Zcf c'9 fun v'10 v'11 => ZaV 7 v'10 fun e_6 f_7 => asInt .i64 v'11 fun x_8 => Zd4 s'5 fun o'12 s'13 => ZdP o'12 1 4 fun e_9 k'14 => isN k'14 0 <| ZaF s'13 <| k k_1 e_2 f_3 x_4 x_5 e_6 f_7 x_8 e_9
theorem Zpq {R : Type} {E : List V} {s : S} {k : Nat → List V → Fl → Int → Int → List V → Fl → Int → List V → Option R} {r : R} (h : Zvb E s k = some r) : ∃ k_1 e_2 f_3 x_4 x_5 e_6 f_7 x_8 e_9, E = ZjG k_1 e_2 f_3 x_4 e_6 f_7 x_8 x_5 e_9 ∧ s = [some ⟨[.agg [.list 7 e_6 f_7, .int .i64 x_8]], 2, 34, 0⟩, some ⟨e_9, 1, 4, 0⟩] ∧ k k_1 e_2 f_3 x_4 x_5 e_6 f_7 x_8 e_9 = some r := by
 unfold Zvb at h
 obtain ⟨hg, h1⟩ := Zad h
 obtain ⟨_, hu9, h2⟩ := Zag h1
 obtain ⟨_, _, _, _, rfl, h3⟩ := Zb5 h2
 obtain ⟨rfl, h4⟩ := Zas h3
 obtain ⟨rfl, h5⟩ := Zas h4
 obtain ⟨rfl, h6⟩ := Zas h5
 obtain ⟨_, _, hu138, h7⟩ := ZaA h6
 obtain ⟨_, hu139, h8⟩ := Zai h7
 obtain ⟨_, hu140, h9⟩ := Zai h8
 obtain ⟨_, _, rfl, h10⟩ := ZaN h9
 obtain ⟨_, _, rfl, h11⟩ := ZaK h10
 obtain ⟨rfl, h12⟩ := Zas h11
 obtain ⟨_, rfl, h13⟩ := Zaq h12
 obtain ⟨_, rfl, h14⟩ := ZaD h13
 obtain ⟨_, _, rfl, h15⟩ := Zat h14
 obtain ⟨_, _, rfl, h16⟩ := Zal h15
 obtain ⟨_, rfl, h17⟩ := Zaf h16
 obtain ⟨_, _, rfl, h18⟩ := ZaN h17
 obtain ⟨_, _, rfl, h19⟩ := ZaK h18
 obtain ⟨rfl, h20⟩ := Zas h19
 obtain ⟨rfl, h21⟩ := Zae h20
 exact ⟨_, _, _, _, _, _, _, _, _, ZaP hg rfl (Zab hu9 (Zab hu138 (Zab hu139 (Zab hu140 ZaG)))), rfl, h21⟩
def Ztg (N : Nat) : Zaw := (Zob N).add [0, 1, 0, 1, 1, 1, 1, 1, 1, 1, 1, 1] fun _ E s K => Zvb (Zbc Zmh E) s fun k_1 e_2 f_3 x_4 x_5 e_6 f_7 x_8 e_9 => ZgE N k_1 e_2 f_3 x_4 e_6 f_7 x_8 (Zg0 K k_1 e_2 f_3 x_4 e_6 f_7 x_8) (Zhv K k_1 e_2 f_3 x_4 e_6 f_7 x_8) N x_5 e_9
theorem ZHs {N : Nat} (hC : Ok Tryz.prog C) (hΦ : Zaa Tryz.prog C (Zf2 N)) : Za1 Tryz.prog C (Ztg N) Zs6 [0, 1, 0, 1, 1, 1, 1, 1, 1, 1, 1, 1] :=
 Za2 (Λi := Zob N) (tr := true) (ks := Zmh) (kx := Zv1) (N := N) hC hΦ
  (Zah (by kernel_rfl))
  fun R E s K r h => by
   have h2 := Zaw.add_self.symm.trans h
   obtain ⟨_, _, _, _, _, _, _, _, _, he, rfl, h3⟩ := Zpq h2
   rw [he]
   exact (ZDQ N _ _ _ _ _ _ _ _ N _ _).trans h3
theorem ZNd : ZaY ZqT [] = [([0, 1, 0, 1, 1], ZtZ), ([0, 1, 0, 1, 1, 1, 1, 1], Ztn), ([0, 1, 0, 1, 1, 1, 1, 1, 1, 1, 1], ZiD), ([0, 1, 0, 1, 1, 1, 1, 1, 1, 1, 1, 1], Zs6)] := by kernel_rfl
theorem ZPV {R : Type} (N : Nat) (e_1 : List V) (f_2 : Fl) (x_3 : Int) (K : V → S → Option R) : ZaU C (Zf2 N) (Ztg N) 94 Tryz.f94 [.agg [.list 7 e_1 f_2, .int .i64 x_3]] [] K =
 ZqI N e_1 f_2 x_3 (fun b_4 => K (.bool b_4) []) := by kernel_rfl
theorem ZC1 {N : Nat} (hC : Ok Tryz.prog C) (hΦ : Zaa Tryz.prog C (Zf2 N)) : ZaT Tryz.prog C (Ztg N) ZqT [] :=
 ZaB ZqT [] (by
  rw [ZNd]
  intro p hp
  simp only [List.mem_cons, List.mem_nil_iff, or_false] at hp
  rcases hp with rfl | rfl | rfl | rfl
  ·exact (Za1.add (Za1.add (Za1.add (Za1.add (ZHM hC hΦ) rfl) rfl) rfl) rfl)
  ·exact (Za1.add (Za1.add (Za1.add (ZGX hC hΦ) rfl) rfl) rfl)
  ·exact (Za1.add (ZG8 hC hΦ) rfl)
  ·exact (ZHs hC hΦ))
theorem ZAe (hC : Ok Tryz.prog C) {N : Nat} (hΦ : Zaa Tryz.prog C (Zf2 N)) : Zaa Tryz.prog C (ZIJ N) := by
 refine hΦ.add_pure rfl fun R vs K r h => ?_
 unfold ZLx at h
 obtain ⟨_, rfl, h1⟩ := Zaq h
 obtain ⟨_, _, _, rfl, h2⟩ := Zav h1
 obtain ⟨_, h3⟩ := Zae h2
 refine Zak (fn := Tryz.f94) (c := ZqT) hC hΦ Tryz.func94 (by kernel_rfl) (by kernel_rfl) (ZC1 (N := N) hC hΦ) rfl rfl ?_
 refine (ZPV N _ _ _ _).trans ?_
 rw [← Zwb]
 exact h3
def ZMt (N : Nat) : (R : Type) → List V → S → (V → S → Option R) → Option R := fun _ vs s K =>
 Zcb vs fun v'1 => Zba v'1 fun x_1 x_2 => ZaF s <| ZJ4 N x_1 x_2 (fun b_3 => K (.bool b_3) [])
def ZIF (N : Nat) : Zar := (ZIJ N).add 95 (ZMt N)
def ZOI : Code := ZaE Tryz.f95
theorem ZPC {R : Type} (N : Nat) (x_1 x_2 : Int) (K : V → S → Option R) : ZaU C (ZIJ N) (Zac) 95 Tryz.f95 [.agg [.int .i64 x_1, .int .i64 x_2]] [] K =
 Zp0 N x_1 x_2 (fun b_3 => K (.bool b_3) []) := by kernel_rfl
theorem ZA6 (hC : Ok Tryz.prog C) {N : Nat} (hΦ : Zaa Tryz.prog C (ZIJ N)) : Zaa Tryz.prog C (ZIF N) := by
 refine hΦ.add_pure rfl fun R vs K r h => ?_
 unfold ZMt at h
 obtain ⟨_, rfl, h1⟩ := Zaq h
 obtain ⟨_, _, rfl, h2⟩ := ZaO h1
 obtain ⟨_, h3⟩ := Zae h2
 refine Zak (fn := Tryz.f95) (c := ZOI) hC hΦ Tryz.func95 (by kernel_rfl) (by kernel_rfl) (Zah (Λ := Zac) (by kernel_rfl)) rfl rfl ?_
 refine (ZPC N _ _ _).trans ?_
 rw [← Zxy]
 exact h3
def ZMI (N : Nat) : (R : Type) → List V → S → (V → S → Option R) → Option R := fun _ vs s K =>
 Zcf vs fun v'1 v'2 => ZaQ v'1 fun e_1 f_2 x_3 => Zba v'2 fun x_4 x_5 => ZaF s <| ZIv N e_1 f_2 x_3 x_4 x_5 (fun b_6 => K (.bool b_6) [])
def ZHT (N : Nat) : Zar := (ZIF N).add 49 (ZMI N)
def ZOA : Code := ZaE Tryz.f49
theorem ZPt {R : Type} (N : Nat) (e_1 : List V) (f_2 : Fl) (x_3 x_4 x_5 : Int) (K : V → S → Option R) : ZaU C (ZIF N) (Zac) 49 Tryz.f49 [.agg [.list 7 e_1 f_2, .int .i64 x_3], .agg [.int .i64 x_4, .int .i64 x_5]] [] K =
 Zrm N e_1 f_2 x_3 x_4 x_5 (fun b_6 => K (.bool b_6) []) := by kernel_rfl
theorem ZzG (hC : Ok Tryz.prog C) {N : Nat} (hΦ : Zaa Tryz.prog C (ZIF N)) : Zaa Tryz.prog C (ZHT N) := by
 refine hΦ.add_pure rfl fun R vs K r h => ?_
 unfold ZMI at h
 obtain ⟨_, _, rfl, h1⟩ := Zat h
 obtain ⟨_, _, _, rfl, h2⟩ := Zav h1
 obtain ⟨_, _, rfl, h3⟩ := ZaO h2
 obtain ⟨_, h4⟩ := Zae h3
 refine Zak (fn := Tryz.f49) (c := ZOA) hC hΦ Tryz.func49 (by kernel_rfl) (by kernel_rfl) (Zah (Λ := Zac) (by kernel_rfl)) rfl rfl ?_
 refine (ZPt N _ _ _ _ _ _).trans ?_
 rw [← Zw1]
 exact h4
def ZNE (N : Nat) : (R : Type) → List V → S → (V → S → Option R) → Option R := fun _ vs s K =>
 ZOs vs fun v'1 v'2 v'3 v'4 v'5 => Zba v'1 fun x_1 x_2 => asInt .i64 v'2 fun x_3 => asInt .i64 v'3 fun x_4 => asInt .i64 v'4 fun x_5 => asInt .i64 v'5 fun x_6 => ZaF s <| ZGr N x_1 x_2 x_3 x_4 x_5 x_6 (fun b_7 => K (.bool b_7) [])
def ZIR (N : Nat) : Zar := (ZHT N).add 107 (ZNE N)
def ZQf : Code := ZaE Tryz.f107
theorem ZOH {R : Type} (N : Nat) (x_1 x_2 x_3 x_4 x_5 x_6 : Int) (K : V → S → Option R) : ZaU C (ZHT N) (Zac) 107 Tryz.f107 [.agg [.int .i64 x_1, .int .i64 x_2], .int .i64 x_3, .int .i64 x_4, .int .i64 x_5, .int .i64 x_6] [] K =
 ZpM N x_1 x_2 x_3 x_4 x_5 x_6 (fun b_7 => K (.bool b_7) []) := by kernel_rfl
theorem ZAm (hC : Ok Tryz.prog C) {N : Nat} (hΦ : Zaa Tryz.prog C (ZHT N)) : Zaa Tryz.prog C (ZIR N) := by
 refine hΦ.add_pure rfl fun R vs K r h => ?_
 unfold ZNE at h
 obtain ⟨_, _, _, _, _, rfl, h1⟩ := Zo3 h
 obtain ⟨_, _, rfl, h2⟩ := ZaO h1
 obtain ⟨_, rfl, h3⟩ := Zaf h2
 obtain ⟨_, rfl, h4⟩ := Zaf h3
 obtain ⟨_, rfl, h5⟩ := Zaf h4
 obtain ⟨_, rfl, h6⟩ := Zaf h5
 obtain ⟨_, h7⟩ := Zae h6
 refine Zak (fn := Tryz.f107) (c := ZQf) hC hΦ Tryz.func107 (by kernel_rfl) (by kernel_rfl) (Zah (Λ := Zac) (by kernel_rfl)) rfl rfl ?_
 refine (ZOH N _ _ _ _ _ _ _).trans ?_
 rw [← Zxp]
 exact h7
def ZNo (N : Nat) : (R : Type) → List V → S → (V → S → Option R) → Option R := fun _ vs s K =>
 ZBj vs fun v'1 v'2 v'3 v'4 => ZaQ v'1 fun e_1 f_2 x_3 => Zba v'2 fun x_4 x_5 => asInt .i64 v'3 fun x_6 => asInt .i64 v'4 fun x_7 => ZaF s <| Zur N e_1 f_2 x_3 x_4 x_5 x_6 x_7 (fun b_8 => K (.bool b_8) [])
def ZFB (N : Nat) : Zar := (ZIR N).add 56 (ZNo N)
def ZPT : Code := ZaE Tryz.f56
theorem ZOX {R : Type} (N : Nat) (e_1 : List V) (f_2 : Fl) (x_3 x_4 x_5 x_6 x_7 : Int) (K : V → S → Option R) : ZaU C (ZIR N) (Zac) 56 Tryz.f56 [.agg [.list 7 e_1 f_2, .int .i64 x_3], .agg [.int .i64 x_4, .int .i64 x_5], .int .i64 x_6, .int .i64 x_7] [] K =
 ZkZ N e_1 f_2 x_3 x_4 x_5 x_6 x_7 (fun b_8 => K (.bool b_8) []) := by kernel_rfl
theorem ZzN (hC : Ok Tryz.prog C) {N : Nat} (hΦ : Zaa Tryz.prog C (ZIR N)) : Zaa Tryz.prog C (ZFB N) := by
 refine hΦ.add_pure rfl fun R vs K r h => ?_
 unfold ZNo at h
 obtain ⟨_, _, _, _, rfl, h1⟩ := Zcu h
 obtain ⟨_, _, _, rfl, h2⟩ := Zav h1
 obtain ⟨_, _, rfl, h3⟩ := ZaO h2
 obtain ⟨_, rfl, h4⟩ := Zaf h3
 obtain ⟨_, rfl, h5⟩ := Zaf h4
 obtain ⟨_, h6⟩ := Zae h5
 refine Zak (fn := Tryz.f56) (c := ZPT) hC hΦ Tryz.func56 (by kernel_rfl) (by kernel_rfl) (Zah (Λ := Zac) (by kernel_rfl)) rfl rfl ?_
 refine (ZOX N _ _ _ _ _ _ _ _).trans ?_
 rw [← Zkd]
 exact h6
def ZNq (N : Nat) : (R : Type) → List V → S → (V → S → Option R) → Option R := fun _ vs s K =>
 Zcb vs fun v'1 => Zbd v'1 fun w_1 => ZaF s <| ZDH N w_1 (fun b_2 => K (.bool b_2) [])
def ZGZ (N : Nat) : Zar := (ZFB N).add 96 (ZNq N)
def ZOP : Code := ZaE Tryz.f96
theorem ZOy {R : Type} (N : Nat) (w_1 : ByteArray) (K : V → S → Option R) : ZaU C (ZFB N) (Zac) 96 Tryz.f96 [.str w_1] [] K =
 ZqZ N w_1 (fun b_2 => K (.bool b_2) []) := by kernel_rfl
theorem Zz6 (hC : Ok Tryz.prog C) {N : Nat} (hΦ : Zaa Tryz.prog C (ZFB N)) : Zaa Tryz.prog C (ZGZ N) := by
 refine hΦ.add_pure rfl fun R vs K r h => ?_
 unfold ZNq at h
 obtain ⟨_, rfl, h1⟩ := Zaq h
 obtain ⟨_, rfl, h2⟩ := Zao h1
 obtain ⟨_, h3⟩ := Zae h2
 refine Zak (fn := Tryz.f96) (c := ZOP) hC hΦ Tryz.func96 (by kernel_rfl) (by kernel_rfl) (Zah (Λ := Zac) (by kernel_rfl)) rfl rfl ?_
 refine (ZOy N _ _).trans ?_
 rw [← ZvG]
 exact h3
def ZNP (N : Nat) : (R : Type) → List V → S → (V → S → Option R) → Option R := fun _ vs s K =>
 Zcf vs fun v'1 v'2 => Zbd v'1 fun w_1 => Zbd v'2 fun w_2 => ZaF s <| ZKy N w_1 w_2 (fun b_3 => K (.bool b_3) [])
def ZGO (N : Nat) : Zar := (ZGZ N).add 151 (ZNP N)
def ZQM : Code := ZaE Tryz.f151
theorem ZPH {R : Type} (N : Nat) (w_1 w_2 : ByteArray) (K : V → S → Option R) : ZaU C (ZGZ N) (Zac) 151 Tryz.f151 [.str w_1, .str w_2] [] K =
 ZrK N w_1 w_2 (fun b_3 => K (.bool b_3) []) := by kernel_rfl
theorem ZA0 (hC : Ok Tryz.prog C) {N : Nat} (hΦ : Zaa Tryz.prog C (ZGZ N)) : Zaa Tryz.prog C (ZGO N) := by
 refine hΦ.add_pure rfl fun R vs K r h => ?_
 unfold ZNP at h
 obtain ⟨_, _, rfl, h1⟩ := Zat h
 obtain ⟨_, rfl, h2⟩ := Zao h1
 obtain ⟨_, rfl, h3⟩ := Zao h2
 obtain ⟨_, h4⟩ := Zae h3
 refine Zak (fn := Tryz.f151) (c := ZQM) hC hΦ Tryz.func151 (by kernel_rfl) (by kernel_rfl) (Zah (Λ := Zac) (by kernel_rfl)) rfl rfl ?_
 refine (ZPH N _ _ _).trans ?_
 rw [← Zwx]
 exact h4
def ZNC (N : Nat) : (R : Type) → List V → S → (V → S → Option R) → Option R := fun _ vs s K =>
 Zcf vs fun v'1 v'2 => Zbd v'1 fun w_1 => Zbd v'2 fun w_2 => ZaF s <| ZHv N w_1 w_2 (fun b_3 => K (.bool b_3) [])
def ZIo (N : Nat) : Zar := (ZGO N).add 97 (ZNC N)
def ZQC : Code := ZaE Tryz.f97
theorem ZOY {R : Type} (N : Nat) (w_1 w_2 : ByteArray) (K : V → S → Option R) : ZaU C (ZGO N) (Zac) 97 Tryz.f97 [.str w_1, .str w_2] [] K =
 Zrj N w_1 w_2 (fun b_3 => K (.bool b_3) []) := by kernel_rfl
theorem Zzi (hC : Ok Tryz.prog C) {N : Nat} (hΦ : Zaa Tryz.prog C (ZGO N)) : Zaa Tryz.prog C (ZIo N) := by
 refine hΦ.add_pure rfl fun R vs K r h => ?_
 unfold ZNC at h
 obtain ⟨_, _, rfl, h1⟩ := Zat h
 obtain ⟨_, rfl, h2⟩ := Zao h1
 obtain ⟨_, rfl, h3⟩ := Zao h2
 obtain ⟨_, h4⟩ := Zae h3
 refine Zak (fn := Tryz.f97) (c := ZQC) hC hΦ Tryz.func97 (by kernel_rfl) (by kernel_rfl) (Zah (Λ := Zac) (by kernel_rfl)) rfl rfl ?_
 refine (ZOY N _ _ _).trans ?_
 rw [← ZxL]
 exact h4
def ZLt (N : Nat) : (R : Type) → List V → S → (V → S → Option R) → Option R := fun _ vs s K =>
 Zcf vs fun v'1 v'2 => ZaQ v'1 fun e_1 f_2 x_3 => asInt .i64 v'2 fun x_4 => ZaF s <| Zpf N e_1 f_2 x_3 x_4 (fun b_5 => K (.bool b_5) [])
def ZmD (N : Nat) : Zar := (ZIo N).add 99 (ZLt N)
def ZQU : Code := ZaE Tryz.f99
theorem ZPm {R : Type} (N : Nat) (e_1 : List V) (f_2 : Fl) (x_3 x_4 : Int) (K : V → S → Option R) : ZaU C (ZIo N) (Zac) 99 Tryz.f99 [.agg [.list 7 e_1 f_2, .int .i64 x_3], .int .i64 x_4] [] K =
 ZlO N e_1 f_2 x_3 x_4 (fun b_5 => K (.bool b_5) []) := by kernel_rfl
theorem ZAP (hC : Ok Tryz.prog C) {N : Nat} (hΦ : Zaa Tryz.prog C (ZIo N)) : Zaa Tryz.prog C (ZmD N) := by
 refine hΦ.add_pure rfl fun R vs K r h => ?_
 unfold ZLt at h
 obtain ⟨_, _, rfl, h1⟩ := Zat h
 obtain ⟨_, _, _, rfl, h2⟩ := Zav h1
 obtain ⟨_, rfl, h3⟩ := Zaf h2
 obtain ⟨_, h4⟩ := Zae h3
 refine Zak (fn := Tryz.f99) (c := ZQU) hC hΦ Tryz.func99 (by kernel_rfl) (by kernel_rfl) (Zah (Λ := Zac) (by kernel_rfl)) rfl rfl ?_
 refine (ZPm N _ _ _ _ _).trans ?_
 rw [← ZnH]
 exact h4
def ZM1 (N : Nat) : (R : Type) → List V → S → (V → S → Option R) → Option R := fun _ vs s K =>
 Zcf vs fun v'1 v'2 => ZaQ v'1 fun e_1 f_2 x_3 => asInt .i64 v'2 fun x_4 => ZaF s <| ZDd N e_1 f_2 x_3 x_4 (fun x_5 w_6 => K (.tuple [.int .i64 x_5, .str w_6]) [])
def Ztw (N : Nat) : Zar := (ZmD N).add 100 (ZM1 N)
def ZFi : Code := ZaE Tryz.f100
def ZiK : Code := (Zbj ZFi [] 0).2
def Zsm : Code := (Zbj ZiK (0 :: [0, 1, 0, 1]) 0).2
def Zm5 : List Nat := ZbO 34 [1, 6, 11, 12, 13, 19, 20, 21]
def Zwf : List Nat := ZbO 34 [1, 4, 5, 11, 12, 13]
def Zkv (x_1 x_2 : Int) (e_3 : List V) (f_4 : Fl) (x_5 x_6 : Int) (e_7 : List V) (f_8 : Fl) (x_9 : Int) (e_11 : List V) (f_12 : Fl) (x_13 x_14 x_15 x_16 x_17 x_18 : Int) (w_19 : ByteArray) (e_20 : List V) (f_21 : Fl) (x_10 : Int) : List V := mkF 0 34 [(1, .int .i64 x_1), (6, .int .i64 x_2), (11, .list 7 e_3 f_4), (12, .int .i64 x_5), (13, .int .i64 x_6), (19, .list 2 e_7 f_8), (20, .int .i64 x_9), (21, .int .i64 x_10)]
def Zha {R : Type} (K : X → List V → S → Option R) (x_1 : Int) (x_2 : Int) (e_3 : List V) (f_4 : Fl) (x_5 : Int) (x_6 : Int) (e_7 : List V) (f_8 : Fl) (x_9 : Int) (e_11 : List V) (f_12 : Fl) (x_13 : Int) (x_14 : Int) (x_15 : Int) (x_16 : Int) (x_17 : Int) (x_18 : Int) (w_19 : ByteArray) (e_20 : List V) (f_21 : Fl) : ByteArray → Option R := (fun w_1' => K .ret (mkF 0 34 [(1, .int .i64 x_1), (4, .int .i64 x_2), (5, .str (w_1')), (11, .list 7 e_3 f_4), (12, .int .i64 x_5), (13, .int .i64 x_6)]) [some ⟨[.agg [.list 7 e_11 f_12, .int .i64 x_13]], 2, 34, 0⟩, some ⟨[.agg [.int .i64 x_14, .int .i64 x_15, .int .i64 x_16, .int .i64 x_17, .int .i64 x_18, .str w_19, .list 2 e_20 f_21]], 7, 87, 0⟩])
def Zis {R : Type} (K : X → List V → S → Option R) (x_1 : Int) (x_2 : Int) (e_3 : List V) (f_4 : Fl) (x_5 : Int) (x_6 : Int) (e_7 : List V) (f_8 : Fl) (x_9 : Int) (e_11 : List V) (f_12 : Fl) (x_13 : Int) (x_14 : Int) (x_15 : Int) (x_16 : Int) (x_17 : Int) (x_18 : Int) (w_19 : ByteArray) (e_20 : List V) (f_21 : Fl) : Unit → Option R := (fun _ => K (.exit 2) (mkF 0 34 [(1, .int .i64 x_1), (11, .list 7 e_3 f_4), (12, .int .i64 x_5), (13, .int .i64 x_6)]) [some ⟨[.agg [.list 7 e_11 f_12, .int .i64 x_13]], 2, 34, 0⟩, some ⟨[.agg [.int .i64 x_14, .int .i64 x_15, .int .i64 x_16, .int .i64 x_17, .int .i64 x_18, .str w_19, .list 2 e_20 f_21]], 7, 87, 0⟩])
abbrev Zm1 {R : Type} (N : Nat) : Nat → List V → S → (X → List V → S → Option R) → Option R := fun n => ZcO C (ZmD N) (Zac) Zsm [0, 1, 1, 0, 0, 1, 1, 0, 0, 1, 0, 1] true Zm5 Zwf n R
theorem ZKa {R : Type} (N n : Nat) (x_1 x_2 : Int) (e_3 : List V) (f_4 : Fl) (x_5 x_6 : Int) (e_7 : List V) (f_8 : Fl) (x_9 : Int) (e_11 : List V) (f_12 : Fl) (x_13 x_14 x_15 x_16 x_17 x_18 : Int) (w_19 : ByteArray) (e_20 : List V) (f_21 : Fl) (x_10 : Int) (K : X → List V → S → Option R) :
 Zm1 N (n + 1) (Zkv x_1 x_2 e_3 f_4 x_5 x_6 e_7 f_8 x_9 e_11 f_12 x_13 x_14 x_15 x_16 x_17 x_18 w_19 e_20 f_21 x_10) [some ⟨[.agg [.list 7 e_11 f_12, .int .i64 x_13]], 2, 34, 0⟩, some ⟨[.agg [.int .i64 x_14, .int .i64 x_15, .int .i64 x_16, .int .i64 x_17, .int .i64 x_18, .str w_19, .list 2 e_20 f_21]], 7, 87, 0⟩] K =
 Zdz N x_1 x_2 e_3 f_4 x_5 x_6 e_7 f_8 x_9 e_11 f_12 x_13 x_14 x_15 x_16 x_17 x_18 w_19 e_20 f_21 (fun x_10 => Zm1 N n (Zkv x_1 x_2 e_3 f_4 x_5 x_6 e_7 f_8 x_9 e_11 f_12 x_13 x_14 x_15 x_16 x_17 x_18 w_19 e_20 f_21 x_10) [some ⟨[.agg [.list 7 e_11 f_12, .int .i64 x_13]], 2, 34, 0⟩, some ⟨[.agg [.int .i64 x_14, .int .i64 x_15, .int .i64 x_16, .int .i64 x_17, .int .i64 x_18, .str w_19, .list 2 e_20 f_21]], 7, 87, 0⟩] K) x_10 (Zha K x_1 x_2 e_3 f_4 x_5 x_6 e_7 f_8 x_9 e_11 f_12 x_13 x_14 x_15 x_16 x_17 x_18 w_19 e_20 f_21) (Zis K x_1 x_2 e_3 f_4 x_5 x_6 e_7 f_8 x_9 e_11 f_12 x_13 x_14 x_15 x_16 x_17 x_18 w_19 e_20 f_21) := by kernel_rfl
theorem ZBB {R : Type} (N : Nat) (x_1 x_2 : Int) (e_3 : List V) (f_4 : Fl) (x_5 x_6 : Int) (e_7 : List V) (f_8 : Fl) (x_9 : Int) (e_11 : List V) (f_12 : Fl) (x_13 x_14 x_15 x_16 x_17 x_18 : Int) (w_19 : ByteArray) (e_20 : List V) (f_21 : Fl) (K : X → List V → S → Option R) : ∀ (n : Nat) (x_10 : Int),
 Zm1 N n (Zkv x_1 x_2 e_3 f_4 x_5 x_6 e_7 f_8 x_9 e_11 f_12 x_13 x_14 x_15 x_16 x_17 x_18 w_19 e_20 f_21 x_10) [some ⟨[.agg [.list 7 e_11 f_12, .int .i64 x_13]], 2, 34, 0⟩, some ⟨[.agg [.int .i64 x_14, .int .i64 x_15, .int .i64 x_16, .int .i64 x_17, .int .i64 x_18, .str w_19, .list 2 e_20 f_21]], 7, 87, 0⟩] K = Zfo N x_1 x_2 e_3 f_4 x_5 x_6 e_7 f_8 x_9 e_11 f_12 x_13 x_14 x_15 x_16 x_17 x_18 w_19 e_20 f_21 (Zha K x_1 x_2 e_3 f_4 x_5 x_6 e_7 f_8 x_9 e_11 f_12 x_13 x_14 x_15 x_16 x_17 x_18 w_19 e_20 f_21) (Zis K x_1 x_2 e_3 f_4 x_5 x_6 e_7 f_8 x_9 e_11 f_12 x_13 x_14 x_15 x_16 x_17 x_18 w_19 e_20 f_21) n x_10
 | 0, _ => rfl
 | n + 1, x_10 => (ZKa N n x_1 x_2 e_3 f_4 x_5 x_6 e_7 f_8 x_9 e_11 f_12 x_13 x_14 x_15 x_16 x_17 x_18 w_19 e_20 f_21 x_10 K).trans (congrArg (fun nx => Zdz N x_1 x_2 e_3 f_4 x_5 x_6 e_7 f_8 x_9 e_11 f_12 x_13 x_14 x_15 x_16 x_17 x_18 w_19 e_20 f_21 nx x_10 (Zha K x_1 x_2 e_3 f_4 x_5 x_6 e_7 f_8 x_9 e_11 f_12 x_13 x_14 x_15 x_16 x_17 x_18 w_19 e_20 f_21) (Zis K x_1 x_2 e_3 f_4 x_5 x_6 e_7 f_8 x_9 e_11 f_12 x_13 x_14 x_15 x_16 x_17 x_18 w_19 e_20 f_21)) (funext fun x_10 => ZBB N x_1 x_2 e_3 f_4 x_5 x_6 e_7 f_8 x_9 e_11 f_12 x_13 x_14 x_15 x_16 x_17 x_18 w_19 e_20 f_21 K n x_10))
def ZtJ {R : Type} (E : List V) (s : S) (k : Int → Int → List V → Fl → Int → Int → List V → Fl → Int → Int → List V → Fl → Int → Int → Int → Int → Int → Int → ByteArray → List V → Fl → Option R) : Option R :=
 Zan (ZaZ 34 [1, 6, 11, 12, 13, 19, 20, 21] E) <| ZaR E 1 .i64 fun x_1 => ZaR E 6 .i64 fun x_2 => Zbz E 11 7 fun e_3 f_4 => ZaR E 12 .i64 fun x_5 => ZaR E 13 .i64 fun x_6 => Zbz E 19 2 fun e_7 f_8 => ZaR E 20 .i64 fun x_9 => ZaR E 21 .i64 fun x_10 => Zd4 s fun o'1 s'2 => ZdP o'1 2 34 fun e'3 k'4 => isN k'4 0 <| Zcb e'3 fun v'5 => asAgg v'5 fun c'6 => Zcf c'6 fun v'7 v'8 => ZaV 7 v'7 fun e_11 f_12 => asInt .i64 v'8 fun x_13 => Zd4 s'2 fun o'9 s'10 => ZdP o'9 7 87 fun e'11 k'12 => isN k'12 0 <| Zcb e'11 fun v'13 => asAgg v'13 fun c'14 => ZJl c'14 fun v'15 v'16 v'17 v'18 v'19 v'20 v'21 => asInt .i64 v'15 fun x_14 => asInt .i64 v'16 fun x_15 => asInt .i64 v'17 fun x_16 => asInt .i64 v'18 fun x_17 => asInt .i64 v'19 fun x_18 => Zbd v'20 fun w_19 => ZaV 2 v'21 fun e_20 f_21 => ZaF s'10 <| k x_1 x_2 e_3 f_4 x_5 x_6 e_7 f_8 x_9 x_10 e_11 f_12 x_13 x_14 x_15 x_16 x_17 x_18 w_19 e_20 f_21
theorem ZpC {R : Type} {E : List V} {s : S} {k : Int → Int → List V → Fl → Int → Int → List V → Fl → Int → Int → List V → Fl → Int → Int → Int → Int → Int → Int → ByteArray → List V → Fl → Option R} {r : R} (h : ZtJ E s k = some r) : ∃ x_1 x_2 e_3 f_4 x_5 x_6 e_7 f_8 x_9 x_10 e_11 f_12 x_13 x_14 x_15 x_16 x_17 x_18 w_19 e_20 f_21, E = Zkv x_1 x_2 e_3 f_4 x_5 x_6 e_7 f_8 x_9 e_11 f_12 x_13 x_14 x_15 x_16 x_17 x_18 w_19 e_20 f_21 x_10 ∧ s = [some ⟨[.agg [.list 7 e_11 f_12, .int .i64 x_13]], 2, 34, 0⟩, some ⟨[.agg [.int .i64 x_14, .int .i64 x_15, .int .i64 x_16, .int .i64 x_17, .int .i64 x_18, .str w_19, .list 2 e_20 f_21]], 7, 87, 0⟩] ∧ k x_1 x_2 e_3 f_4 x_5 x_6 e_7 f_8 x_9 x_10 e_11 f_12 x_13 x_14 x_15 x_16 x_17 x_18 w_19 e_20 f_21 = some r := by
 unfold ZtJ at h
 obtain ⟨hg, h1⟩ := Zad h
 obtain ⟨_, hu1, h2⟩ := Zai h1
 obtain ⟨_, hu6, h3⟩ := Zai h2
 obtain ⟨_, _, hu11, h4⟩ := ZaA h3
 obtain ⟨_, hu12, h5⟩ := Zai h4
 obtain ⟨_, hu13, h6⟩ := Zai h5
 obtain ⟨_, _, hu19, h7⟩ := ZaA h6
 obtain ⟨_, hu20, h8⟩ := Zai h7
 obtain ⟨_, hu21, h9⟩ := Zai h8
 obtain ⟨_, _, rfl, h10⟩ := ZaN h9
 obtain ⟨_, _, rfl, h11⟩ := ZaK h10
 obtain ⟨rfl, h12⟩ := Zas h11
 obtain ⟨_, rfl, h13⟩ := Zaq h12
 obtain ⟨_, rfl, h14⟩ := ZaD h13
 obtain ⟨_, _, rfl, h15⟩ := Zat h14
 obtain ⟨_, _, rfl, h16⟩ := Zal h15
 obtain ⟨_, rfl, h17⟩ := Zaf h16
 obtain ⟨_, _, rfl, h18⟩ := ZaN h17
 obtain ⟨_, _, rfl, h19⟩ := ZaK h18
 obtain ⟨rfl, h20⟩ := Zas h19
 obtain ⟨_, rfl, h21⟩ := Zaq h20
 obtain ⟨_, rfl, h22⟩ := ZaD h21
 obtain ⟨_, _, _, _, _, _, _, rfl, h23⟩ := Zet h22
 obtain ⟨_, rfl, h24⟩ := Zaf h23
 obtain ⟨_, rfl, h25⟩ := Zaf h24
 obtain ⟨_, rfl, h26⟩ := Zaf h25
 obtain ⟨_, rfl, h27⟩ := Zaf h26
 obtain ⟨_, rfl, h28⟩ := Zaf h27
 obtain ⟨_, rfl, h29⟩ := Zao h28
 obtain ⟨_, _, rfl, h30⟩ := Zal h29
 obtain ⟨rfl, h31⟩ := Zae h30
 exact ⟨_, _, _, _, _, _, _, _, _, _, _, _, _, _, _, _, _, _, _, _, _, ZaP hg rfl (Zab hu1 (Zab hu6 (Zab hu11 (Zab hu12 (Zab hu13 (Zab hu19 (Zab hu20 (Zab hu21 ZaG)))))))), rfl, h31⟩
def Zmn (N : Nat) : Zaw := (Zac).add [0, 1, 1, 0, 0, 1, 1, 0, 0, 1, 0, 1] fun _ E s K => ZtJ (Zbc Zm5 E) s fun x_1 x_2 e_3 f_4 x_5 x_6 e_7 f_8 x_9 x_10 e_11 f_12 x_13 x_14 x_15 x_16 x_17 x_18 w_19 e_20 f_21 => Zfo N x_1 x_2 e_3 f_4 x_5 x_6 e_7 f_8 x_9 e_11 f_12 x_13 x_14 x_15 x_16 x_17 x_18 w_19 e_20 f_21 (Zha K x_1 x_2 e_3 f_4 x_5 x_6 e_7 f_8 x_9 e_11 f_12 x_13 x_14 x_15 x_16 x_17 x_18 w_19 e_20 f_21) (Zis K x_1 x_2 e_3 f_4 x_5 x_6 e_7 f_8 x_9 e_11 f_12 x_13 x_14 x_15 x_16 x_17 x_18 w_19 e_20 f_21) N x_10
theorem ZFK {N : Nat} (hC : Ok Tryz.prog C) (hΦ : Zaa Tryz.prog C (ZmD N)) : Za1 Tryz.prog C (Zmn N) Zsm [0, 1, 1, 0, 0, 1, 1, 0, 0, 1, 0, 1] :=
 Za2 (Λi := Zac) (tr := true) (ks := Zm5) (kx := Zwf) (N := N) hC hΦ
  (Zah (by kernel_rfl))
  fun R E s K r h => by
   have h2 := Zaw.add_self.symm.trans h
   obtain ⟨_, _, _, _, _, _, _, _, _, _, _, _, _, _, _, _, _, _, _, _, _, he, rfl, h3⟩ := ZpC h2
   rw [he]
   exact (ZBB N _ _ _ _ _ _ _ _ _ _ _ _ _ _ _ _ _ _ _ _ _ N _).trans h3
def Zoi : List Nat := ZbO 34 [1, 11, 12, 13]
def ZwG : List Nat := ZbO 34 [4, 5]
def Zkc (x_1 : Int) (e_2 : List V) (f_3 : Fl) (x_4 : Int) (e_6 : List V) (f_7 : Fl) (x_8 x_5 : Int) : List V := mkF 0 34 [(1, .int .i64 x_1), (11, .list 7 e_2 f_3), (12, .int .i64 x_4), (13, .int .i64 x_5)]
def Zh5 {R : Type} (K : X → List V → S → Option R) (x_1 : Int) (e_2 : List V) (f_3 : Fl) (x_4 : Int) (e_6 : List V) (f_7 : Fl) (x_8 : Int) : Int → ByteArray → Option R := (fun x_1' w_2' => K .ret (mkF 0 34 [(4, .int .i64 (x_1')), (5, .str (w_2'))]) [some ⟨[.agg [.list 7 e_6 f_7, .int .i64 x_8]], 2, 34, 0⟩])
def Zg8 {R : Type} (K : X → List V → S → Option R) (x_1 : Int) (e_2 : List V) (f_3 : Fl) (x_4 : Int) (e_6 : List V) (f_7 : Fl) (x_8 : Int) : Unit → Option R := (fun _ => K (.exit 0) (mkF 0 34 []) [some ⟨[.agg [.list 7 e_6 f_7, .int .i64 x_8]], 2, 34, 0⟩])
abbrev Zl2 {R : Type} (N : Nat) : Nat → List V → S → (X → List V → S → Option R) → Option R := fun n => ZcO C (ZmD N) (Zmn N) ZiK [0, 1, 0, 1] true Zoi ZwG n R
theorem ZJR {R : Type} (N n : Nat) (x_1 : Int) (e_2 : List V) (f_3 : Fl) (x_4 : Int) (e_6 : List V) (f_7 : Fl) (x_8 : Int) (x_5 : Int) (K : X → List V → S → Option R) :
 Zl2 N (n + 1) (Zkc x_1 e_2 f_3 x_4 e_6 f_7 x_8 x_5) [some ⟨[.agg [.list 7 e_6 f_7, .int .i64 x_8]], 2, 34, 0⟩] K =
 ZdF N x_1 e_2 f_3 x_4 e_6 f_7 x_8 (fun x_5 => Zl2 N n (Zkc x_1 e_2 f_3 x_4 e_6 f_7 x_8 x_5) [some ⟨[.agg [.list 7 e_6 f_7, .int .i64 x_8]], 2, 34, 0⟩] K) x_5 (Zh5 K x_1 e_2 f_3 x_4 e_6 f_7 x_8) (Zg8 K x_1 e_2 f_3 x_4 e_6 f_7 x_8) := by kernel_rfl
theorem ZBR {R : Type} (N : Nat) (x_1 : Int) (e_2 : List V) (f_3 : Fl) (x_4 : Int) (e_6 : List V) (f_7 : Fl) (x_8 : Int) (K : X → List V → S → Option R) : ∀ (n : Nat) (x_5 : Int),
 Zl2 N n (Zkc x_1 e_2 f_3 x_4 e_6 f_7 x_8 x_5) [some ⟨[.agg [.list 7 e_6 f_7, .int .i64 x_8]], 2, 34, 0⟩] K = ZgI N x_1 e_2 f_3 x_4 e_6 f_7 x_8 (Zh5 K x_1 e_2 f_3 x_4 e_6 f_7 x_8) (Zg8 K x_1 e_2 f_3 x_4 e_6 f_7 x_8) n x_5
 | 0, _ => rfl
 | n + 1, x_5 => (ZJR N n x_1 e_2 f_3 x_4 e_6 f_7 x_8 x_5 K).trans (congrArg (fun nx => ZdF N x_1 e_2 f_3 x_4 e_6 f_7 x_8 nx x_5 (Zh5 K x_1 e_2 f_3 x_4 e_6 f_7 x_8) (Zg8 K x_1 e_2 f_3 x_4 e_6 f_7 x_8)) (funext fun x_5 => ZBR N x_1 e_2 f_3 x_4 e_6 f_7 x_8 K n x_5))
def ZsM {R : Type} (E : List V) (s : S) (k : Int → List V → Fl → Int → Int → List V → Fl → Int → Option R) : Option R :=
 Zan (ZaZ 34 [1, 11, 12, 13] E) <| ZaR E 1 .i64 fun x_1 => Zbz E 11 7 fun e_2 f_3 => ZaR E 12 .i64 fun x_4 => ZaR E 13 .i64 fun x_5 => Zd4 s fun o'1 s'2 => ZdP o'1 2 34 fun e'3 k'4 => isN k'4 0 <| Zcb e'3 fun v'5 => asAgg v'5 fun c'6 => Zcf c'6 fun v'7 v'8 => ZaV 7 v'7 fun e_6 f_7 => asInt .i64 v'8 fun x_8 => ZaF s'2 <| k x_1 e_2 f_3 x_4 x_5 e_6 f_7 x_8
theorem Zrr {R : Type} {E : List V} {s : S} {k : Int → List V → Fl → Int → Int → List V → Fl → Int → Option R} {r : R} (h : ZsM E s k = some r) : ∃ x_1 e_2 f_3 x_4 x_5 e_6 f_7 x_8, E = Zkc x_1 e_2 f_3 x_4 e_6 f_7 x_8 x_5 ∧ s = [some ⟨[.agg [.list 7 e_6 f_7, .int .i64 x_8]], 2, 34, 0⟩] ∧ k x_1 e_2 f_3 x_4 x_5 e_6 f_7 x_8 = some r := by
 unfold ZsM at h
 obtain ⟨hg, h1⟩ := Zad h
 obtain ⟨_, hu1, h2⟩ := Zai h1
 obtain ⟨_, _, hu11, h3⟩ := ZaA h2
 obtain ⟨_, hu12, h4⟩ := Zai h3
 obtain ⟨_, hu13, h5⟩ := Zai h4
 obtain ⟨_, _, rfl, h6⟩ := ZaN h5
 obtain ⟨_, _, rfl, h7⟩ := ZaK h6
 obtain ⟨rfl, h8⟩ := Zas h7
 obtain ⟨_, rfl, h9⟩ := Zaq h8
 obtain ⟨_, rfl, h10⟩ := ZaD h9
 obtain ⟨_, _, rfl, h11⟩ := Zat h10
 obtain ⟨_, _, rfl, h12⟩ := Zal h11
 obtain ⟨_, rfl, h13⟩ := Zaf h12
 obtain ⟨rfl, h14⟩ := Zae h13
 exact ⟨_, _, _, _, _, _, _, _, ZaP hg rfl (Zab hu1 (Zab hu11 (Zab hu12 (Zab hu13 ZaG)))), rfl, h14⟩
def Zt9 (N : Nat) : Zaw := (Zmn N).add [0, 1, 0, 1] fun _ E s K => ZsM (Zbc Zoi E) s fun x_1 e_2 f_3 x_4 x_5 e_6 f_7 x_8 => ZgI N x_1 e_2 f_3 x_4 e_6 f_7 x_8 (Zh5 K x_1 e_2 f_3 x_4 e_6 f_7 x_8) (Zg8 K x_1 e_2 f_3 x_4 e_6 f_7 x_8) N x_5
theorem ZFT : ZaY ZiK (0 :: [0, 1, 0, 1]) = [([0, 1, 1, 0, 0, 1, 1, 0, 0, 1, 0, 1], Zsm)] := by kernel_rfl
theorem ZGg {N : Nat} (hC : Ok Tryz.prog C) (hΦ : Zaa Tryz.prog C (ZmD N)) : Za1 Tryz.prog C (Zt9 N) ZiK [0, 1, 0, 1] :=
 Za2 (Λi := Zmn N) (tr := true) (ks := Zoi) (kx := ZwG) (N := N) hC hΦ
  (ZaB ZiK _ (by
   rw [ZFT]
   intro p hp
   simp only [List.mem_cons, List.mem_nil_iff, or_false] at hp
   rcases hp with rfl
   ·exact (ZFK hC hΦ)))
  fun R E s K r h => by
   have h2 := Zaw.add_self.symm.trans h
   obtain ⟨_, _, _, _, _, _, _, _, he, rfl, h3⟩ := Zrr h2
   rw [he]
   exact (ZBR N _ _ _ _ _ _ _ _ N _).trans h3
theorem ZN5 : ZaY ZFi [] = [([0, 1, 0, 1], ZiK)] := by kernel_rfl
theorem ZOO {R : Type} (N : Nat) (e_1 : List V) (f_2 : Fl) (x_3 x_4 : Int) (K : V → S → Option R) : ZaU C (ZmD N) (Zt9 N) 100 Tryz.f100 [.agg [.list 7 e_1 f_2, .int .i64 x_3], .int .i64 x_4] [] K =
 ZqP N e_1 f_2 x_3 x_4 (fun x_5 w_6 => K (.tuple [.int .i64 x_5, .str w_6]) []) := by kernel_rfl
theorem ZBt {N : Nat} (hC : Ok Tryz.prog C) (hΦ : Zaa Tryz.prog C (ZmD N)) : ZaT Tryz.prog C (Zt9 N) ZFi [] :=
 ZaB ZFi [] (by
  rw [ZN5]
  intro p hp
  simp only [List.mem_cons, List.mem_nil_iff, or_false] at hp
  rcases hp with rfl
  ·exact (ZGg hC hΦ))
theorem ZyK (hC : Ok Tryz.prog C) {N : Nat} (hΦ : Zaa Tryz.prog C (ZmD N)) : Zaa Tryz.prog C (Ztw N) := by
 refine hΦ.add_pure rfl fun R vs K r h => ?_
 unfold ZM1 at h
 obtain ⟨_, _, rfl, h1⟩ := Zat h
 obtain ⟨_, _, _, rfl, h2⟩ := Zav h1
 obtain ⟨_, rfl, h3⟩ := Zaf h2
 obtain ⟨_, h4⟩ := Zae h3
 refine Zak (fn := Tryz.f100) (c := ZFi) hC hΦ Tryz.func100 (by kernel_rfl) (by kernel_rfl) (ZBt (N := N) hC hΦ) rfl rfl ?_
 refine (ZOO N _ _ _ _ _).trans ?_
 rw [← Zyt]
 exact h4
def ZOa (N : Nat) : (R : Type) → List V → S → (V → S → Option R) → Option R := fun _ vs s K =>
 ZBm vs fun v'1 v'2 v'3 => ZaQ v'1 fun e_1 f_2 x_3 => asInt .i64 v'2 fun x_4 => Zbd v'3 fun w_5 => ZaF s <| ZER N e_1 f_2 x_3 x_4 w_5 (fun x_6 => K (.int .i64 x_6) [])
def ZJq (N : Nat) : Zar := (Ztw N).add 101 (ZOa N)
def ZBT : Code := ZaE Tryz.f101
def Zr1 : Code := (Zbj ZBT [] 0).2
def Znc : List Nat := ZbO 27 [2, 14, 15, 16]
def ZvD : List Nat := ZbO 27 [6]
def ZjY (w_1 : ByteArray) (e_2 : List V) (f_3 : Fl) (x_4 : Int) (e_6 : List V) (f_7 : Fl) (x_8 x_5 : Int) : List V := mkF 0 27 [(2, .str w_1), (14, .list 2 e_2 f_3), (15, .int .i64 x_4), (16, .int .i64 x_5)]
def Zhq {R : Type} (K : X → List V → S → Option R) (w_1 : ByteArray) (e_2 : List V) (f_3 : Fl) (x_4 : Int) (e_6 : List V) (f_7 : Fl) (x_8 : Int) : Int → Option R := (fun x_1' => K .ret (mkF 0 27 [(6, .int .i64 (x_1'))]) [some ⟨[.agg [.list 7 e_6 f_7, .int .i64 x_8]], 2, 34, 0⟩])
def Zg1 {R : Type} (K : X → List V → S → Option R) (w_1 : ByteArray) (e_2 : List V) (f_3 : Fl) (x_4 : Int) (e_6 : List V) (f_7 : Fl) (x_8 : Int) : Unit → Option R := (fun _ => K (.exit 0) (mkF 0 27 []) [some ⟨[.agg [.list 7 e_6 f_7, .int .i64 x_8]], 2, 34, 0⟩])
abbrev Zmw {R : Type} (N : Nat) : Nat → List V → S → (X → List V → S → Option R) → Option R := fun n => ZcO C (Ztw N) (Zac) Zr1 [0, 1, 0, 1] true Znc ZvD n R
theorem ZKp {R : Type} (N n : Nat) (w_1 : ByteArray) (e_2 : List V) (f_3 : Fl) (x_4 : Int) (e_6 : List V) (f_7 : Fl) (x_8 : Int) (x_5 : Int) (K : X → List V → S → Option R) :
 Zmw N (n + 1) (ZjY w_1 e_2 f_3 x_4 e_6 f_7 x_8 x_5) [some ⟨[.agg [.list 7 e_6 f_7, .int .i64 x_8]], 2, 34, 0⟩] K =
 Zdf N w_1 e_2 f_3 x_4 e_6 f_7 x_8 (fun x_5 => Zmw N n (ZjY w_1 e_2 f_3 x_4 e_6 f_7 x_8 x_5) [some ⟨[.agg [.list 7 e_6 f_7, .int .i64 x_8]], 2, 34, 0⟩] K) x_5 (Zhq K w_1 e_2 f_3 x_4 e_6 f_7 x_8) (Zg1 K w_1 e_2 f_3 x_4 e_6 f_7 x_8) := by kernel_rfl
theorem ZCi {R : Type} (N : Nat) (w_1 : ByteArray) (e_2 : List V) (f_3 : Fl) (x_4 : Int) (e_6 : List V) (f_7 : Fl) (x_8 : Int) (K : X → List V → S → Option R) : ∀ (n : Nat) (x_5 : Int),
 Zmw N n (ZjY w_1 e_2 f_3 x_4 e_6 f_7 x_8 x_5) [some ⟨[.agg [.list 7 e_6 f_7, .int .i64 x_8]], 2, 34, 0⟩] K = Zf5 N w_1 e_2 f_3 x_4 e_6 f_7 x_8 (Zhq K w_1 e_2 f_3 x_4 e_6 f_7 x_8) (Zg1 K w_1 e_2 f_3 x_4 e_6 f_7 x_8) n x_5
 | 0, _ => rfl
 | n + 1, x_5 => (ZKp N n w_1 e_2 f_3 x_4 e_6 f_7 x_8 x_5 K).trans (congrArg (fun nx => Zdf N w_1 e_2 f_3 x_4 e_6 f_7 x_8 nx x_5 (Zhq K w_1 e_2 f_3 x_4 e_6 f_7 x_8) (Zg1 K w_1 e_2 f_3 x_4 e_6 f_7 x_8)) (funext fun x_5 => ZCi N w_1 e_2 f_3 x_4 e_6 f_7 x_8 K n x_5))
def ZuU {R : Type} (E : List V) (s : S) (k : ByteArray → List V → Fl → Int → Int → List V → Fl → Int → Option R) : Option R :=
 Zan (ZaZ 27 [2, 14, 15, 16] E) <| ZfO E 2 fun w_1 => Zbz E 14 2 fun e_2 f_3 => ZaR E 15 .i64 fun x_4 => ZaR E 16 .i64 fun x_5 => Zd4 s fun o'1 s'2 => ZdP o'1 2 34 fun e'3 k'4 => isN k'4 0 <| Zcb e'3 fun v'5 => asAgg v'5 fun c'6 => Zcf c'6 fun v'7 v'8 => ZaV 7 v'7 fun e_6 f_7 => asInt .i64 v'8 fun x_8 => ZaF s'2 <| k w_1 e_2 f_3 x_4 x_5 e_6 f_7 x_8
theorem Zq0 {R : Type} {E : List V} {s : S} {k : ByteArray → List V → Fl → Int → Int → List V → Fl → Int → Option R} {r : R} (h : ZuU E s k = some r) : ∃ w_1 e_2 f_3 x_4 x_5 e_6 f_7 x_8, E = ZjY w_1 e_2 f_3 x_4 e_6 f_7 x_8 x_5 ∧ s = [some ⟨[.agg [.list 7 e_6 f_7, .int .i64 x_8]], 2, 34, 0⟩] ∧ k w_1 e_2 f_3 x_4 x_5 e_6 f_7 x_8 = some r := by
 unfold ZuU at h
 obtain ⟨hg, h1⟩ := Zad h
 obtain ⟨_, hu2, h2⟩ := ZbI h1
 obtain ⟨_, _, hu14, h3⟩ := ZaA h2
 obtain ⟨_, hu15, h4⟩ := Zai h3
 obtain ⟨_, hu16, h5⟩ := Zai h4
 obtain ⟨_, _, rfl, h6⟩ := ZaN h5
 obtain ⟨_, _, rfl, h7⟩ := ZaK h6
 obtain ⟨rfl, h8⟩ := Zas h7
 obtain ⟨_, rfl, h9⟩ := Zaq h8
 obtain ⟨_, rfl, h10⟩ := ZaD h9
 obtain ⟨_, _, rfl, h11⟩ := Zat h10
 obtain ⟨_, _, rfl, h12⟩ := Zal h11
 obtain ⟨_, rfl, h13⟩ := Zaf h12
 obtain ⟨rfl, h14⟩ := Zae h13
 exact ⟨_, _, _, _, _, _, _, _, ZaP hg rfl (Zab hu2 (Zab hu14 (Zab hu15 (Zab hu16 ZaG)))), rfl, h14⟩
def Zut (N : Nat) : Zaw := (Zac).add [0, 1, 0, 1] fun _ E s K => ZuU (Zbc Znc E) s fun w_1 e_2 f_3 x_4 x_5 e_6 f_7 x_8 => Zf5 N w_1 e_2 f_3 x_4 e_6 f_7 x_8 (Zhq K w_1 e_2 f_3 x_4 e_6 f_7 x_8) (Zg1 K w_1 e_2 f_3 x_4 e_6 f_7 x_8) N x_5
theorem ZGd {N : Nat} (hC : Ok Tryz.prog C) (hΦ : Zaa Tryz.prog C (Ztw N)) : Za1 Tryz.prog C (Zut N) Zr1 [0, 1, 0, 1] :=
 Za2 (Λi := Zac) (tr := true) (ks := Znc) (kx := ZvD) (N := N) hC hΦ
  (Zah (by kernel_rfl))
  fun R E s K r h => by
   have h2 := Zaw.add_self.symm.trans h
   obtain ⟨_, _, _, _, _, _, _, _, he, rfl, h3⟩ := Zq0 h2
   rw [he]
   exact (ZCi N _ _ _ _ _ _ _ _ N _).trans h3
theorem ZMD : ZaY ZBT [] = [([0, 1, 0, 1], Zr1)] := by kernel_rfl
theorem ZPw {R : Type} (N : Nat) (e_1 : List V) (f_2 : Fl) (x_3 x_4 : Int) (w_5 : ByteArray) (K : V → S → Option R) : ZaU C (Ztw N) (Zut N) 101 Tryz.f101 [.agg [.list 7 e_1 f_2, .int .i64 x_3], .int .i64 x_4, .str w_5] [] K =
 Zru N e_1 f_2 x_3 x_4 w_5 (fun x_6 => K (.int .i64 x_6) []) := by kernel_rfl
theorem ZEn {N : Nat} (hC : Ok Tryz.prog C) (hΦ : Zaa Tryz.prog C (Ztw N)) : ZaT Tryz.prog C (Zut N) ZBT [] :=
 ZaB ZBT [] (by
  rw [ZMD]
  intro p hp
  simp only [List.mem_cons, List.mem_nil_iff, or_false] at hp
  rcases hp with rfl
  ·exact (ZGd hC hΦ))
theorem ZAi (hC : Ok Tryz.prog C) {N : Nat} (hΦ : Zaa Tryz.prog C (Ztw N)) : Zaa Tryz.prog C (ZJq N) := by
 refine hΦ.add_pure rfl fun R vs K r h => ?_
 unfold ZOa at h
 obtain ⟨_, _, _, rfl, h1⟩ := Zcn h
 obtain ⟨_, _, _, rfl, h2⟩ := Zav h1
 obtain ⟨_, rfl, h3⟩ := Zaf h2
 obtain ⟨_, rfl, h4⟩ := Zao h3
 obtain ⟨_, h5⟩ := Zae h4
 refine Zak (fn := Tryz.f101) (c := ZBT) hC hΦ Tryz.func101 (by kernel_rfl) (by kernel_rfl) (ZEn (N := N) hC hΦ) rfl rfl ?_
 refine (ZPw N _ _ _ _ _ _).trans ?_
 rw [← Zwv]
 exact h5
def ZMk (N : Nat) : (R : Type) → List V → S → (V → S → Option R) → Option R := fun _ vs s K =>
 Zcf vs fun v'1 v'2 => ZJj v'1 <| asInt .i64 v'2 fun x_1 => ZaF s <| ZKk N x_1 (fun e_2 => K (.list 1 e_2 (.own 9)) [])
def ZnZ (N : Nat) : Zar := (ZJq N).add 155 (ZMk N)
open Go.RowKit Go.Lib in
set_option maxRecDepth 100000 in
theorem ZCx (w : World) : Calls Tryz.prog 155 #[.slice none 0 0, .int .i64 0] w fun e w' => e = .returned (.slice none 0 0) ∧ w' = w := by
 go_enter Tryz.func155, Tryz.ntmps155
 go_wp2
 go_ret
 exact ⟨rfl, rfl⟩
open Go.RowKit Go.Lib in
set_option maxRecDepth 100000 in
set_option maxHeartbeats 1000000 in
theorem ZBK (w : World) (n : Nat) (i0 : TypeInfo) (z : Value) (hn : 0 < n) (hi0 : Tryz.prog.info? 9 = some i0) (hz0 : i0.zero = some z) (hs0 : 0 < i0.size) (hbig : n * i0.bytes ≤ 140737488355328) (h63 : n ≤ 4611686018427387904) :
  Calls Tryz.prog 155 #[.slice none 0 0, .int .i64 n] w fun e w' =>
   e = .returned (.slice (some ⟨w.heap.size, 0, none⟩) 0 (grownCap w n 0 9)) ∧
   w' = w.drew.alloc (.cells (Builtin.zeroCells z.cells n ++ Builtin.zeroCells z.cells (grownCap w n 0 9 - n)) 9) := by
 have h1 : ¬ ((n : Int) < 0) := by omega
 have h3 : wrap64 ((n : Int) - (0 - 0)) = (n : Int) := by unfold wrap64; omega
 have h4 : (n : Int) > 0 := by omega
 have hold : (Builtin.firstCells i0.size 0 (.slice none 0 0)).run Tryz.prog w.drew = .ok (#[] : Array Value) w.drew := run_firstCells_none w.drew i0.size 0 0 0
 have hrz : ∀ ty, (Builtin.append_ #[27, 3] ty #[.slice none 0 0, .int .i64 (n : Int)]).run Tryz.prog w =
   .ok (.slice (some ⟨w.heap.size, 0, none⟩) n (grownCap w n 0 9)) (w.drew.alloc (.cells (Builtin.zeroCells z.cells n ++ Builtin.zeroCells z.cells (grownCap w n 0 9 - n)) 9)) := fun ty => by
  have h := Lib.run_append_grow_zeros w 27 3 ty 9 i0 z .i64 .i64 Tryz.underlying27 Tryz.underlying3 hi0 hz0 none 0 0 [] hold n (by omega) hs0 (by omega) (by omega)
   (by omega) (by have := growslice_fits (old := 0) (need := n) hn hbig; simpa using this)
  simpa using h
 have hGn : n ≤ grownCap w n 0 9 := grownCap_ge w _ _ _
 obtain ⟨G, hG⟩ : ∃ G, G = grownCap w n 0 9 := ⟨_, rfl⟩
 rw [← hG] at hrz hGn ⊢
 have hG63 : G ≤ 9223372036854775807 := by
  have := grownCap_le_maxLen w n 0 9 (by unfold maxLen; omega)
  rw [← hG] at this
  unfold maxLen at this
  omega
 clear hold hG
 go_enter Tryz.func155, Tryz.ntmps155
 go_wp2_with (at_builtin; refine Lib.wpList_append_run _ rfl _ _ _ _ rfl _ _ rfl rfl _ _ (hrz _) ?_)
 all_goals (go_ret; exact ⟨rfl, rfl⟩)
theorem Zzx (hC : Ok Tryz.prog C) {N : Nat} (hΦ : Zaa Tryz.prog C (ZJq N)) : Zaa Tryz.prog C (ZnZ N) := by
 refine hΦ.add_own rfl fun R vs K r h => ?_
 unfold ZMk at h
 obtain ⟨_, _, rfl, h1⟩ := Zat h
 obtain ⟨rfl, h2⟩ := Zuj h1
 obtain ⟨_, rfl, h3⟩ := Zaf h2
 obtain ⟨_, h4⟩ := Zae h3
 rw [Zvr] at h4
 unfold ZrJ at h4
 split at h4 <;> first | (cases h4; done) | skip
 rename_i hcond
 exact ⟨_, h4, ZzD hC (e := 9) (by kernel_rfl) Tryz.func155 (by kernel_rfl) (by kernel_rfl) ZCx ZBK (B := 16) (sz := 1) (by kernel_rfl) (by kernel_rfl) hcond⟩
def ZMy (N : Nat) : (R : Type) → List V → S → (V → S → Option R) → Option R := fun _ vs s K =>
 Zcb vs fun v'1 => ZaV 1 v'1 fun e_1 f_2 => ZaF s <| ZzB N e_1 f_2 (fun e_3 => K (.list 1 e_3 .sh) [])
def Zsg (N : Nat) : Zar := (ZnZ N).add 102 (ZMy N)
def ZzW : Code := ZaE Tryz.f102
def ZuK : Code := (Zbj ZzW [] 0).2
def ZuM : Code := (Zbj ZzW [] 1).2
def Zmz : List Nat := ZbO 36 [0, 3, 9, 10, 11]
def Zxw : List Nat := ZbO 36 [0, 3]
def Zki (e_1 : List V) (f_2 : Fl) (e_4 : List V) (f_5 : Fl) (x_6 x_3 x_7 : Int) : List V := mkF 0 36 [(0, .list 1 e_1 f_2), (3, .int .i64 x_3), (9, .list 1 e_4 f_5), (10, .int .i64 x_6), (11, .int .i64 x_7)]
def ZgU {R : Type} (K : X → List V → S → Option R) (e_1 : List V) (f_2 : Fl) (e_4 : List V) (f_5 : Fl) (x_6 : Int) : Int → Option R := (fun x_1' => K (.exit 0) (mkF 0 36 [(0, .list 1 e_1 f_2), (3, .int .i64 (x_1'))]) [])
abbrev Znu {R : Type} (N : Nat) : Nat → List V → S → (X → List V → S → Option R) → Option R := fun n => ZcO C (ZnZ N) (Zac) ZuK [0, 1, 0, 1, 1] false Zmz Zxw n R
theorem ZJy {R : Type} (N n : Nat) (e_1 : List V) (f_2 : Fl) (e_4 : List V) (f_5 : Fl) (x_6 : Int) (x_3 x_7 : Int) (K : X → List V → S → Option R) :
 Znu N (n + 1) (Zki e_1 f_2 e_4 f_5 x_6 x_3 x_7) [] K =
 Zfk N e_1 f_2 e_4 f_5 x_6 (fun x_3 x_7 => Znu N n (Zki e_1 f_2 e_4 f_5 x_6 x_3 x_7) [] K) x_3 x_7 (ZgU K e_1 f_2 e_4 f_5 x_6) := by kernel_rfl
theorem ZBz {R : Type} (N : Nat) (e_1 : List V) (f_2 : Fl) (e_4 : List V) (f_5 : Fl) (x_6 : Int) (K : X → List V → S → Option R) : ∀ (n : Nat) (x_3 x_7 : Int),
 Znu N n (Zki e_1 f_2 e_4 f_5 x_6 x_3 x_7) [] K = Zfr N e_1 f_2 e_4 f_5 x_6 (ZgU K e_1 f_2 e_4 f_5 x_6) n x_3 x_7
 | 0, _, _ => rfl
 | n + 1, x_3, x_7 => (ZJy N n e_1 f_2 e_4 f_5 x_6 x_3 x_7 K).trans (congrArg (fun nx => Zfk N e_1 f_2 e_4 f_5 x_6 nx x_3 x_7 (ZgU K e_1 f_2 e_4 f_5 x_6)) (funext fun x_3 => funext fun x_7 => ZBz N e_1 f_2 e_4 f_5 x_6 K n x_3 x_7))
def ZsT {R : Type} (E : List V) (s : S) (k : List V → Fl → Int → List V → Fl → Int → Int → Option R) : Option R :=
 Zan (ZaZ 36 [0, 3, 9, 10, 11] E) <| Zbz E 0 1 fun e_1 f_2 => ZaR E 3 .i64 fun x_3 => Zbz E 9 1 fun e_4 f_5 => ZaR E 10 .i64 fun x_6 => ZaR E 11 .i64 fun x_7 => ZaF s <| k e_1 f_2 x_3 e_4 f_5 x_6 x_7
theorem Zo5 {R : Type} {E : List V} {s : S} {k : List V → Fl → Int → List V → Fl → Int → Int → Option R} {r : R} (h : ZsT E s k = some r) : ∃ e_1 f_2 x_3 e_4 f_5 x_6 x_7, E = Zki e_1 f_2 e_4 f_5 x_6 x_3 x_7 ∧ s = [] ∧ k e_1 f_2 x_3 e_4 f_5 x_6 x_7 = some r := by
 unfold ZsT at h
 obtain ⟨hg, h1⟩ := Zad h
 obtain ⟨_, _, hu0, h2⟩ := ZaA h1
 obtain ⟨_, hu3, h3⟩ := Zai h2
 obtain ⟨_, _, hu9, h4⟩ := ZaA h3
 obtain ⟨_, hu10, h5⟩ := Zai h4
 obtain ⟨_, hu11, h6⟩ := Zai h5
 obtain ⟨rfl, h7⟩ := Zae h6
 exact ⟨_, _, _, _, _, _, _, ZaP hg rfl (Zab hu0 (Zab hu3 (Zab hu9 (Zab hu10 (Zab hu11 ZaG))))), rfl, h7⟩
def Zn3 (N : Nat) : Zaw := (Zac).add [0, 1, 0, 1, 1] fun _ E s K => ZsT (Zbc Zmz E) s fun e_1 f_2 x_3 e_4 f_5 x_6 x_7 => Zfr N e_1 f_2 e_4 f_5 x_6 (ZgU K e_1 f_2 e_4 f_5 x_6) N x_3 x_7
theorem ZGs {N : Nat} (hC : Ok Tryz.prog C) (hΦ : Zaa Tryz.prog C (ZnZ N)) : Za1 Tryz.prog C (Zn3 N) ZuK [0, 1, 0, 1, 1] :=
 Za2 (Λi := Zac) (tr := false) (ks := Zmz) (kx := Zxw) (N := N) hC hΦ
  (Zah (by kernel_rfl))
  fun R E s K r h => by
   have h2 := Zaw.add_self.symm.trans h
   obtain ⟨_, _, _, _, _, _, _, he, rfl, h3⟩ := Zo5 h2
   rw [he]
   exact (ZBz N _ _ _ _ _ _ N _ _).trans h3
def Zoe : List Nat := ZbO 36 [6, 25, 26, 27]
def Zvp : List Nat := ZbO 36 [6]
def ZjE (e_2 : List V) (f_3 : Fl) (x_4 : Int) (e_1 : List V) (x_5 : Int) : List V := mkF 0 36 [(6, .list 1 e_1 (.own 9)), (25, .list 1 e_2 f_3), (26, .int .i64 x_4), (27, .int .i64 x_5)]
def ZhU {R : Type} (K : X → List V → S → Option R) (e_2 : List V) (f_3 : Fl) (x_4 : Int) : List V → Option R := (fun e_1' => K (.exit 2) (mkF 0 36 [(6, .list 1 (e_1') (.own 9))]) [])
abbrev ZnQ {R : Type} (N : Nat) : Nat → List V → S → (X → List V → S → Option R) → Option R := fun n => ZcO C (ZnZ N) (Zn3 N) ZuM [0, 1, 0, 1, 1, 1, 1] false Zoe Zvp n R
theorem ZKs {R : Type} (N n : Nat) (e_2 : List V) (f_3 : Fl) (x_4 : Int) (e_1 : List V) (x_5 : Int) (K : X → List V → S → Option R) :
 ZnQ N (n + 1) (ZjE e_2 f_3 x_4 e_1 x_5) [] K =
 Zfn N e_2 f_3 x_4 (fun e_1 x_5 => ZnQ N n (ZjE e_2 f_3 x_4 e_1 x_5) [] K) e_1 x_5 (ZhU K e_2 f_3 x_4) := by kernel_rfl
theorem ZC9 {R : Type} (N : Nat) (e_2 : List V) (f_3 : Fl) (x_4 : Int) (K : X → List V → S → Option R) : ∀ (n : Nat) (e_1 : List V) (x_5 : Int),
 ZnQ N n (ZjE e_2 f_3 x_4 e_1 x_5) [] K = Zfp N e_2 f_3 x_4 (ZhU K e_2 f_3 x_4) n e_1 x_5
 | 0, _, _ => rfl
 | n + 1, e_1, x_5 => (ZKs N n e_2 f_3 x_4 e_1 x_5 K).trans (congrArg (fun nx => Zfn N e_2 f_3 x_4 nx e_1 x_5 (ZhU K e_2 f_3 x_4)) (funext fun e_1 => funext fun x_5 => ZC9 N e_2 f_3 x_4 K n e_1 x_5))
def Ztr {R : Type} (E : List V) (s : S) (k : List V → List V → Fl → Int → Int → Option R) : Option R :=
 Zan (ZaZ 36 [6, 25, 26, 27] E) <| Zbu (nth E 6) fun u6 => ZaV 1 u6 fun e_1 f'1 => Zn5 9 f'1 <| Zbz E 25 1 fun e_2 f_3 => ZaR E 26 .i64 fun x_4 => ZaR E 27 .i64 fun x_5 => ZaF s <| k e_1 e_2 f_3 x_4 x_5
theorem ZpU {R : Type} {E : List V} {s : S} {k : List V → List V → Fl → Int → Int → Option R} {r : R} (h : Ztr E s k = some r) : ∃ e_1 e_2 f_3 x_4 x_5, E = ZjE e_2 f_3 x_4 e_1 x_5 ∧ s = [] ∧ k e_1 e_2 f_3 x_4 x_5 = some r := by
 unfold Ztr at h
 obtain ⟨hg, h1⟩ := Zad h
 obtain ⟨_, hu6, h2⟩ := Zag h1
 obtain ⟨_, _, rfl, h3⟩ := Zal h2
 obtain ⟨rfl, h4⟩ := ZcQ h3
 obtain ⟨_, _, hu25, h5⟩ := ZaA h4
 obtain ⟨_, hu26, h6⟩ := Zai h5
 obtain ⟨_, hu27, h7⟩ := Zai h6
 obtain ⟨rfl, h8⟩ := Zae h7
 exact ⟨_, _, _, _, _, ZaP hg rfl (Zab hu6 (Zab hu25 (Zab hu26 (Zab hu27 ZaG)))), rfl, h8⟩
def Ztb (N : Nat) : Zaw := (Zn3 N).add [0, 1, 0, 1, 1, 1, 1] fun _ E s K => Ztr (Zbc Zoe E) s fun e_1 e_2 f_3 x_4 x_5 => Zfp N e_2 f_3 x_4 (ZhU K e_2 f_3 x_4) N e_1 x_5
theorem ZGR {N : Nat} (hC : Ok Tryz.prog C) (hΦ : Zaa Tryz.prog C (ZnZ N)) : Za1 Tryz.prog C (Ztb N) ZuM [0, 1, 0, 1, 1, 1, 1] :=
 Za2 (Λi := Zn3 N) (tr := false) (ks := Zoe) (kx := Zvp) (N := N) hC hΦ
  (Zah (by kernel_rfl))
  fun R E s K r h => by
   have h2 := Zaw.add_self.symm.trans h
   obtain ⟨_, _, _, _, _, he, rfl, h3⟩ := ZpU h2
   rw [he]
   exact (ZC9 N _ _ _ _ N _ _).trans h3
theorem ZLD : ZaY ZzW [] = [([0, 1, 0, 1, 1], ZuK), ([0, 1, 0, 1, 1, 1, 1], ZuM)] := by kernel_rfl
theorem ZO4 {R : Type} (N : Nat) (e_1 : List V) (f_2 : Fl) (K : V → S → Option R) : ZaU C (ZnZ N) (Ztb N) 102 Tryz.f102 [.list 1 e_1 f_2] [] K =
 Zo7 N e_1 f_2 (fun e_3 => K (.list 1 e_3 .sh) []) := by kernel_rfl
theorem ZBn {N : Nat} (hC : Ok Tryz.prog C) (hΦ : Zaa Tryz.prog C (ZnZ N)) : ZaT Tryz.prog C (Ztb N) ZzW [] :=
 ZaB ZzW [] (by
  rw [ZLD]
  intro p hp
  simp only [List.mem_cons, List.mem_nil_iff, or_false] at hp
  rcases hp with rfl | rfl
  ·exact (Za1.add (ZGs hC hΦ) rfl)
  ·exact (ZGR hC hΦ))
theorem Zz7 (hC : Ok Tryz.prog C) {N : Nat} (hΦ : Zaa Tryz.prog C (ZnZ N)) : Zaa Tryz.prog C (Zsg N) := by
 refine hΦ.add_pure rfl fun R vs K r h => ?_
 unfold ZMy at h
 obtain ⟨_, rfl, h1⟩ := Zaq h
 obtain ⟨_, _, rfl, h2⟩ := Zal h1
 obtain ⟨_, h3⟩ := Zae h2
 refine Zak (fn := Tryz.f102) (c := ZzW) hC hΦ Tryz.func102 (by kernel_rfl) (by kernel_rfl) (ZBn (N := N) hC hΦ) rfl rfl ?_
 refine (ZO4 N _ _ _).trans ?_
 rw [← Zxf]
 exact h3
def ZMa (N : Nat) : (R : Type) → List V → S → (V → S → Option R) → Option R := fun _ vs s K =>
 ZBj vs fun v'1 v'2 v'3 v'4 => ZaQ v'1 fun e_1 f_2 x_3 => Zba v'2 fun x_4 x_5 => Zbd v'3 fun w_6 => asBool v'4 fun b_7 => ZaF s <| Zrn N e_1 f_2 x_3 x_4 x_5 w_6 b_7 (fun x_8 x_9 => K (.tuple [.int .i64 x_8, .int .i64 x_9]) [])
def Zun (N : Nat) : Zar := (Zsg N).add 50 (ZMa N)
def ZCD : Code := ZaE Tryz.f50
def Zu4 : Code := (Zbj ZCD [] 0).2
def ZmN : List Nat := ZbO 103 [3, 4, 5, 10, 11, 12, 13]
def ZxN : List Nat := ZbO 103 [4, 8, 9, 10, 12]
def Zjy (b_1 b_2 : Bool) (e_6 : List V) (f_7 : Fl) (x_8 x_9 x_10 : Int) (e_3 : List V) (x_4 x_5 : Int) : List V := mkF 0 103 [(3, .bool b_1), (4, .ptr 0 0 0 0), (5, .ptr 1 0 0 0), (10, .bool b_2), (11, .list 1 e_3 .sh), (12, .int .i64 x_4), (13, .int .i64 x_5)]
def Zir {R : Type} (K : X → List V → S → Option R) (b_1 : Bool) (b_2 : Bool) (e_6 : List V) (f_7 : Fl) (x_8 : Int) (x_9 : Int) (x_10 : Int) : Int → Int → Option R := (fun x_2' x_1' => K .ret (mkF 0 103 [(4, .ptr 0 0 0 0), (8, .int .i64 0), (9, .int .i64 (x_2')), (10, .bool b_2), (12, .int .i64 (x_1'))]) [some ⟨[.agg [.list 7 e_6 f_7, .int .i64 x_8]], 2, 34, 0⟩, some ⟨[.agg [.int .i64 x_9, .int .i64 x_10]], 2, 36, 0⟩])
def ZhA {R : Type} (K : X → List V → S → Option R) (b_1 : Bool) (b_2 : Bool) (e_6 : List V) (f_7 : Fl) (x_8 : Int) (x_9 : Int) (x_10 : Int) : Int → Option R := (fun x_1' => K (.exit 0) (mkF 0 103 [(4, .ptr 0 0 0 0), (10, .bool b_2), (12, .int .i64 (x_1'))]) [some ⟨[.agg [.list 7 e_6 f_7, .int .i64 x_8]], 2, 34, 0⟩, some ⟨[.agg [.int .i64 x_9, .int .i64 x_10]], 2, 36, 0⟩])
abbrev Znb {R : Type} (N : Nat) : Nat → List V → S → (X → List V → S → Option R) → Option R := fun n => ZcO C (Zsg N) (Zac) Zu4 [0, 0, 1, 1, 1, 1] true ZmN ZxN n R
theorem ZKT {R : Type} (N n : Nat) (b_1 b_2 : Bool) (e_6 : List V) (f_7 : Fl) (x_8 x_9 x_10 : Int) (e_3 : List V) (x_4 x_5 : Int) (K : X → List V → S → Option R) :
 Znb N (n + 1) (Zjy b_1 b_2 e_6 f_7 x_8 x_9 x_10 e_3 x_4 x_5) [some ⟨[.agg [.list 7 e_6 f_7, .int .i64 x_8]], 2, 34, 0⟩, some ⟨[.agg [.int .i64 x_9, .int .i64 x_10]], 2, 36, 0⟩] K =
 Zeh N b_1 b_2 e_6 f_7 x_8 x_9 x_10 (fun e_3 x_4 x_5 => Znb N n (Zjy b_1 b_2 e_6 f_7 x_8 x_9 x_10 e_3 x_4 x_5) [some ⟨[.agg [.list 7 e_6 f_7, .int .i64 x_8]], 2, 34, 0⟩, some ⟨[.agg [.int .i64 x_9, .int .i64 x_10]], 2, 36, 0⟩] K) e_3 x_4 x_5 (Zir K b_1 b_2 e_6 f_7 x_8 x_9 x_10) (ZhA K b_1 b_2 e_6 f_7 x_8 x_9 x_10) := by kernel_rfl
theorem ZBO {R : Type} (N : Nat) (b_1 b_2 : Bool) (e_6 : List V) (f_7 : Fl) (x_8 x_9 x_10 : Int) (K : X → List V → S → Option R) : ∀ (n : Nat) (e_3 : List V) (x_4 x_5 : Int),
 Znb N n (Zjy b_1 b_2 e_6 f_7 x_8 x_9 x_10 e_3 x_4 x_5) [some ⟨[.agg [.list 7 e_6 f_7, .int .i64 x_8]], 2, 34, 0⟩, some ⟨[.agg [.int .i64 x_9, .int .i64 x_10]], 2, 36, 0⟩] K = ZeS N b_1 b_2 e_6 f_7 x_8 x_9 x_10 (Zir K b_1 b_2 e_6 f_7 x_8 x_9 x_10) (ZhA K b_1 b_2 e_6 f_7 x_8 x_9 x_10) n e_3 x_4 x_5
 | 0, _, _, _ => rfl
 | n + 1, e_3, x_4, x_5 => (ZKT N n b_1 b_2 e_6 f_7 x_8 x_9 x_10 e_3 x_4 x_5 K).trans (congrArg (fun nx => Zeh N b_1 b_2 e_6 f_7 x_8 x_9 x_10 nx e_3 x_4 x_5 (Zir K b_1 b_2 e_6 f_7 x_8 x_9 x_10) (ZhA K b_1 b_2 e_6 f_7 x_8 x_9 x_10)) (funext fun e_3 => funext fun x_4 => funext fun x_5 => ZBO N b_1 b_2 e_6 f_7 x_8 x_9 x_10 K n e_3 x_4 x_5))
def ZuB {R : Type} (E : List V) (s : S) (k : Bool → Bool → List V → Int → Int → List V → Fl → Int → Int → Int → Option R) : Option R :=
 Zan (ZaZ 103 [3, 4, 5, 10, 11, 12, 13] E) <| ZpP E 3 fun b_1 => ZpH E 4 (.ptr 0 0 0 0) <| ZpH E 5 (.ptr 1 0 0 0) <| ZpP E 10 fun b_2 => Zbu (nth E 11) fun u11 => ZaV 1 u11 fun e_3 f'1 => ZKA f'1 <| ZaR E 12 .i64 fun x_4 => ZaR E 13 .i64 fun x_5 => Zd4 s fun o'2 s'3 => ZdP o'2 2 34 fun e'4 k'5 => isN k'5 0 <| Zcb e'4 fun v'6 => asAgg v'6 fun c'7 => Zcf c'7 fun v'8 v'9 => ZaV 7 v'8 fun e_6 f_7 => asInt .i64 v'9 fun x_8 => Zd4 s'3 fun o'10 s'11 => ZdP o'10 2 36 fun e'12 k'13 => isN k'13 0 <| Zcb e'12 fun v'14 => asAgg v'14 fun c'15 => Zcf c'15 fun v'16 v'17 => asInt .i64 v'16 fun x_9 => asInt .i64 v'17 fun x_10 => ZaF s'11 <| k b_1 b_2 e_3 x_4 x_5 e_6 f_7 x_8 x_9 x_10
theorem ZpE {R : Type} {E : List V} {s : S} {k : Bool → Bool → List V → Int → Int → List V → Fl → Int → Int → Int → Option R} {r : R} (h : ZuB E s k = some r) : ∃ b_1 b_2 e_3 x_4 x_5 e_6 f_7 x_8 x_9 x_10, E = Zjy b_1 b_2 e_6 f_7 x_8 x_9 x_10 e_3 x_4 x_5 ∧ s = [some ⟨[.agg [.list 7 e_6 f_7, .int .i64 x_8]], 2, 34, 0⟩, some ⟨[.agg [.int .i64 x_9, .int .i64 x_10]], 2, 36, 0⟩] ∧ k b_1 b_2 e_3 x_4 x_5 e_6 f_7 x_8 x_9 x_10 = some r := by
 unfold ZuB at h
 obtain ⟨hg, h1⟩ := Zad h
 obtain ⟨_, hu3, h2⟩ := ZeJ h1
 obtain ⟨hu4, h3⟩ := ZbR h2
 obtain ⟨hu5, h4⟩ := ZbR h3
 obtain ⟨_, hu10, h5⟩ := ZeJ h4
 obtain ⟨_, hu11, h6⟩ := Zag h5
 obtain ⟨_, _, rfl, h7⟩ := Zal h6
 obtain ⟨rfl, h8⟩ := Ze5 h7
 obtain ⟨_, hu12, h9⟩ := Zai h8
 obtain ⟨_, hu13, h10⟩ := Zai h9
 obtain ⟨_, _, rfl, h11⟩ := ZaN h10
 obtain ⟨_, _, rfl, h12⟩ := ZaK h11
 obtain ⟨rfl, h13⟩ := Zas h12
 obtain ⟨_, rfl, h14⟩ := Zaq h13
 obtain ⟨_, rfl, h15⟩ := ZaD h14
 obtain ⟨_, _, rfl, h16⟩ := Zat h15
 obtain ⟨_, _, rfl, h17⟩ := Zal h16
 obtain ⟨_, rfl, h18⟩ := Zaf h17
 obtain ⟨_, _, rfl, h19⟩ := ZaN h18
 obtain ⟨_, _, rfl, h20⟩ := ZaK h19
 obtain ⟨rfl, h21⟩ := Zas h20
 obtain ⟨_, rfl, h22⟩ := Zaq h21
 obtain ⟨_, rfl, h23⟩ := ZaD h22
 obtain ⟨_, _, rfl, h24⟩ := Zat h23
 obtain ⟨_, rfl, h25⟩ := Zaf h24
 obtain ⟨_, rfl, h26⟩ := Zaf h25
 obtain ⟨rfl, h27⟩ := Zae h26
 exact ⟨_, _, _, _, _, _, _, _, _, _, ZaP hg rfl (Zab hu3 (Zab hu4 (Zab hu5 (Zab hu10 (Zab hu11 (Zab hu12 (Zab hu13 ZaG))))))), rfl, h27⟩
def Zt1 (N : Nat) : Zaw := (Zac).add [0, 0, 1, 1, 1, 1] fun _ E s K => ZuB (Zbc ZmN E) s fun b_1 b_2 e_3 x_4 x_5 e_6 f_7 x_8 x_9 x_10 => ZeS N b_1 b_2 e_6 f_7 x_8 x_9 x_10 (Zir K b_1 b_2 e_6 f_7 x_8 x_9 x_10) (ZhA K b_1 b_2 e_6 f_7 x_8 x_9 x_10) N e_3 x_4 x_5
theorem ZIO {N : Nat} (hC : Ok Tryz.prog C) (hΦ : Zaa Tryz.prog C (Zsg N)) : Za1 Tryz.prog C (Zt1 N) Zu4 [0, 0, 1, 1, 1, 1] :=
 Za2 (Λi := Zac) (tr := true) (ks := ZmN) (kx := ZxN) (N := N) hC hΦ
  (Zah (by kernel_rfl))
  fun R E s K r h => by
   have h2 := Zaw.add_self.symm.trans h
   obtain ⟨_, _, _, _, _, _, _, _, _, _, he, rfl, h3⟩ := ZpE h2
   rw [he]
   exact (ZBO N _ _ _ _ _ _ _ _ N _ _ _).trans h3
theorem ZN2 : ZaY ZCD [] = [([0, 0, 1, 1, 1, 1], Zu4)] := by kernel_rfl
theorem ZPl {R : Type} (N : Nat) (e_1 : List V) (f_2 : Fl) (x_3 x_4 x_5 : Int) (w_6 : ByteArray) (b_7 : Bool) (K : V → S → Option R) : ZaU C (Zsg N) (Zt1 N) 50 Tryz.f50 [.agg [.list 7 e_1 f_2, .int .i64 x_3], .agg [.int .i64 x_4, .int .i64 x_5], .str w_6, .bool b_7] [] K =
 ZoP N e_1 f_2 x_3 x_4 x_5 w_6 b_7 (fun x_8 x_9 => K (.tuple [.int .i64 x_8, .int .i64 x_9]) []) := by kernel_rfl
theorem ZDK {N : Nat} (hC : Ok Tryz.prog C) (hΦ : Zaa Tryz.prog C (Zsg N)) : ZaT Tryz.prog C (Zt1 N) ZCD [] :=
 ZaB ZCD [] (by
  rw [ZN2]
  intro p hp
  simp only [List.mem_cons, List.mem_nil_iff, or_false] at hp
  rcases hp with rfl
  ·exact (ZIO hC hΦ))
theorem ZyR (hC : Ok Tryz.prog C) {N : Nat} (hΦ : Zaa Tryz.prog C (Zsg N)) : Zaa Tryz.prog C (Zun N) := by
 refine hΦ.add_pure rfl fun R vs K r h => ?_
 unfold ZMa at h
 obtain ⟨_, _, _, _, rfl, h1⟩ := Zcu h
 obtain ⟨_, _, _, rfl, h2⟩ := Zav h1
 obtain ⟨_, _, rfl, h3⟩ := ZaO h2
 obtain ⟨_, rfl, h4⟩ := Zao h3
 obtain ⟨_, rfl, h5⟩ := Zcq h4
 obtain ⟨_, h6⟩ := Zae h5
 refine Zak (fn := Tryz.f50) (c := ZCD) hC hΦ Tryz.func50 (by kernel_rfl) (by kernel_rfl) (ZDK (N := N) hC hΦ) rfl rfl ?_
 refine (ZPl N _ _ _ _ _ _ _ _).trans ?_
 rw [← Zvv]
 exact h6
def ZLT (N : Nat) : (R : Type) → List V → S → (V → S → Option R) → Option R := fun _ vs s K =>
 Zcf vs fun v'1 v'2 => Zbd v'1 fun w_1 => asInt .u8 v'2 fun x_2 => ZaF s <| ZJ7 N w_1 x_2 (fun x_3 => K (.int .i64 x_3) [])
def ZGp (N : Nat) : Zar := (Zun N).add 159 (ZLT N)
def ZCp : Code := ZaE Tryz.f159
def Zsx : Code := (Zbj ZCp [] 0).2
def Znq : List Nat := ZbO 19 [0, 1, 5]
def ZvO : List Nat := ZbO 19 [4]
def ZjA (w_1 : ByteArray) (x_2 x_3 : Int) : List V := mkF 0 19 [(0, .str w_1), (1, .int .u8 x_2), (5, .int .i64 x_3)]
def Zia {R : Type} (K : X → List V → S → Option R) (w_1 : ByteArray) (x_2 : Int) : Int → Option R := (fun x_1' => K .ret (mkF 0 19 [(4, .int .i64 (x_1'))]) [])
def Zin {R : Type} (K : X → List V → S → Option R) (w_1 : ByteArray) (x_2 : Int) : Unit → Option R := (fun _ => K (.exit 0) (mkF 0 19 []) [])
abbrev Zl3 {R : Type} (N : Nat) : Nat → List V → S → (X → List V → S → Option R) → Option R := fun n => ZcO C (Zun N) (Zac) Zsx [0, 1, 0, 1] false Znq ZvO n R
theorem ZKd {R : Type} (N n : Nat) (w_1 : ByteArray) (x_2 : Int) (x_3 : Int) (K : X → List V → S → Option R) :
 Zl3 N (n + 1) (ZjA w_1 x_2 x_3) [] K =
 Zdx N w_1 x_2 (fun x_3 => Zl3 N n (ZjA w_1 x_2 x_3) [] K) x_3 (Zia K w_1 x_2) (Zin K w_1 x_2) := by kernel_rfl
theorem ZEh {R : Type} (N : Nat) (w_1 : ByteArray) (x_2 : Int) (K : X → List V → S → Option R) : ∀ (n : Nat) (x_3 : Int),
 Zl3 N n (ZjA w_1 x_2 x_3) [] K = Zgi N w_1 x_2 (Zia K w_1 x_2) (Zin K w_1 x_2) n x_3
 | 0, _ => rfl
 | n + 1, x_3 => (ZKd N n w_1 x_2 x_3 K).trans (congrArg (fun nx => Zdx N w_1 x_2 nx x_3 (Zia K w_1 x_2) (Zin K w_1 x_2)) (funext fun x_3 => ZEh N w_1 x_2 K n x_3))
def Zsj {R : Type} (E : List V) (s : S) (k : ByteArray → Int → Int → Option R) : Option R :=
 Zan (ZaZ 19 [0, 1, 5] E) <| ZfO E 0 fun w_1 => ZaR E 1 .u8 fun x_2 => ZaR E 5 .i64 fun x_3 => ZaF s <| k w_1 x_2 x_3
theorem Zrs {R : Type} {E : List V} {s : S} {k : ByteArray → Int → Int → Option R} {r : R} (h : Zsj E s k = some r) : ∃ w_1 x_2 x_3, E = ZjA w_1 x_2 x_3 ∧ s = [] ∧ k w_1 x_2 x_3 = some r := by
 unfold Zsj at h
 obtain ⟨hg, h1⟩ := Zad h
 obtain ⟨_, hu0, h2⟩ := ZbI h1
 obtain ⟨_, hu1, h3⟩ := Zai h2
 obtain ⟨_, hu5, h4⟩ := Zai h3
 obtain ⟨rfl, h5⟩ := Zae h4
 exact ⟨_, _, _, ZaP hg rfl (Zab hu0 (Zab hu1 (Zab hu5 ZaG))), rfl, h5⟩
def Ztx (N : Nat) : Zaw := (Zac).add [0, 1, 0, 1] fun _ E s K => Zsj (Zbc Znq E) s fun w_1 x_2 x_3 => Zgi N w_1 x_2 (Zia K w_1 x_2) (Zin K w_1 x_2) N x_3
theorem ZGD {N : Nat} (hC : Ok Tryz.prog C) (hΦ : Zaa Tryz.prog C (Zun N)) : Za1 Tryz.prog C (Ztx N) Zsx [0, 1, 0, 1] :=
 Za2 (Λi := Zac) (tr := false) (ks := Znq) (kx := ZvO) (N := N) hC hΦ
  (Zah (by kernel_rfl))
  fun R E s K r h => by
   have h2 := Zaw.add_self.symm.trans h
   obtain ⟨_, _, _, he, rfl, h3⟩ := Zrs h2
   rw [he]
   exact (ZEh N _ _ _ N _).trans h3
theorem ZLY : ZaY ZCp [] = [([0, 1, 0, 1], Zsx)] := by kernel_rfl
theorem ZQs {R : Type} (N : Nat) (w_1 : ByteArray) (x_2 : Int) (K : V → S → Option R) : ZaU C (Zun N) (Ztx N) 159 Tryz.f159 [.str w_1, .int .u8 x_2] [] K =
 ZoI N w_1 x_2 (fun x_3 => K (.int .i64 x_3) []) := by kernel_rfl
theorem ZDA {N : Nat} (hC : Ok Tryz.prog C) (hΦ : Zaa Tryz.prog C (Zun N)) : ZaT Tryz.prog C (Ztx N) ZCp [] :=
 ZaB ZCp [] (by
  rw [ZLY]
  intro p hp
  simp only [List.mem_cons, List.mem_nil_iff, or_false] at hp
  rcases hp with rfl
  ·exact (ZGD hC hΦ))
theorem ZzI (hC : Ok Tryz.prog C) {N : Nat} (hΦ : Zaa Tryz.prog C (Zun N)) : Zaa Tryz.prog C (ZGp N) := by
 refine hΦ.add_pure rfl fun R vs K r h => ?_
 unfold ZLT at h
 obtain ⟨_, _, rfl, h1⟩ := Zat h
 obtain ⟨_, rfl, h2⟩ := Zao h1
 obtain ⟨_, rfl, h3⟩ := Zaf h2
 obtain ⟨_, h4⟩ := Zae h3
 refine Zak (fn := Tryz.f159) (c := ZCp) hC hΦ Tryz.func159 (by kernel_rfl) (by kernel_rfl) (ZDA (N := N) hC hΦ) rfl rfl ?_
 refine (ZQs N _ _ _).trans ?_
 rw [← Zxq]
 exact h4
def ZNY (N : Nat) : (R : Type) → List V → S → (V → S → Option R) → Option R := fun _ vs s K =>
 Zcf vs fun v'1 v'2 => Zbd v'1 fun w_1 => asInt .u8 v'2 fun x_2 => ZaF s <| ZIT N w_1 x_2 (fun x_3 => K (.int .i64 x_3) [])
def ZtQ (N : Nat) : Zar := (ZGp N).add 119 (ZNY N)
def ZRd : Code := ZaE Tryz.f119
theorem ZQ3 {R : Type} (N : Nat) (w_1 : ByteArray) (x_2 : Int) (K : V → S → Option R) : ZaU C (ZGp N) (Zac) 119 Tryz.f119 [.str w_1, .int .u8 x_2] [] K =
 ZrR N w_1 x_2 (fun x_3 => K (.int .i64 x_3) []) := by kernel_rfl
theorem ZyI (hC : Ok Tryz.prog C) {N : Nat} (hΦ : Zaa Tryz.prog C (ZGp N)) : Zaa Tryz.prog C (ZtQ N) := by
 refine hΦ.add_pure rfl fun R vs K r h => ?_
 unfold ZNY at h
 obtain ⟨_, _, rfl, h1⟩ := Zat h
 obtain ⟨_, rfl, h2⟩ := Zao h1
 obtain ⟨_, rfl, h3⟩ := Zaf h2
 obtain ⟨_, h4⟩ := Zae h3
 refine Zak (fn := Tryz.f119) (c := ZRd) hC hΦ Tryz.func119 (by kernel_rfl) (by kernel_rfl) (Zah (Λ := Zac) (by kernel_rfl)) rfl rfl ?_
 refine (ZQ3 N _ _ _).trans ?_
 rw [← Zwn]
 exact h4
def ZNJ (N : Nat) : (R : Type) → List V → S → (V → S → Option R) → Option R := fun _ vs s K =>
 Zcf vs fun v'1 v'2 => Zbd v'1 fun w_1 => asInt .u8 v'2 fun x_2 => ZaF s <| ZJY N w_1 x_2 (fun w_3 => K (.str w_3) [])
def ZHg (N : Nat) : Zar := (ZtQ N).add 161 (ZNJ N)
def ZCb : Code := ZaE Tryz.f161
def ZrY : Code := (Zbj ZCb [] 0).2
def ZmV : List Nat := ZbO 23 [0, 1]
def ZwY : List Nat := ZbO 23 [0]
def ZjI (x_2 : Int) (w_1 : ByteArray) : List V := mkF 0 23 [(0, .str w_1), (1, .int .u8 x_2)]
def Zhr {R : Type} (K : X → List V → S → Option R) (x_2 : Int) : ByteArray → Option R := (fun w_1' => K (.exit 0) (mkF 0 23 [(0, .str (w_1'))]) [])
abbrev Zop {R : Type} (N : Nat) : Nat → List V → S → (X → List V → S → Option R) → Option R := fun n => ZcO C (ZtQ N) (Zac) ZrY [0, 0, 1] false ZmV ZwY n R
theorem ZLf {R : Type} (N n : Nat) (x_2 : Int) (w_1 : ByteArray) (K : X → List V → S → Option R) :
 Zop N (n + 1) (ZjI x_2 w_1) [] K =
 ZdA N x_2 (fun w_1 => Zop N n (ZjI x_2 w_1) [] K) w_1 (Zhr K x_2) := by kernel_rfl
theorem ZBP {R : Type} (N : Nat) (x_2 : Int) (K : X → List V → S → Option R) : ∀ (n : Nat) (w_1 : ByteArray),
 Zop N n (ZjI x_2 w_1) [] K = Zgd N x_2 (Zhr K x_2) n w_1
 | 0, _ => rfl
 | n + 1, w_1 => (ZLf N n x_2 w_1 K).trans (congrArg (fun nx => ZdA N x_2 nx w_1 (Zhr K x_2)) (funext fun w_1 => ZBP N x_2 K n w_1))
def Zsw {R : Type} (E : List V) (s : S) (k : ByteArray → Int → Option R) : Option R :=
 Zan (ZaZ 23 [0, 1] E) <| ZfO E 0 fun w_1 => ZaR E 1 .u8 fun x_2 => ZaF s <| k w_1 x_2
theorem ZrT {R : Type} {E : List V} {s : S} {k : ByteArray → Int → Option R} {r : R} (h : Zsw E s k = some r) : ∃ w_1 x_2, E = ZjI x_2 w_1 ∧ s = [] ∧ k w_1 x_2 = some r := by
 unfold Zsw at h
 obtain ⟨hg, h1⟩ := Zad h
 obtain ⟨_, hu0, h2⟩ := ZbI h1
 obtain ⟨_, hu1, h3⟩ := Zai h2
 obtain ⟨rfl, h4⟩ := Zae h3
 exact ⟨_, _, ZaP hg rfl (Zab hu0 (Zab hu1 ZaG)), rfl, h4⟩
def Ztc (N : Nat) : Zaw := (Zac).add [0, 0, 1] fun _ E s K => Zsw (Zbc ZmV E) s fun w_1 x_2 => Zgd N x_2 (Zhr K x_2) N w_1
theorem ZGi {N : Nat} (hC : Ok Tryz.prog C) (hΦ : Zaa Tryz.prog C (ZtQ N)) : Za1 Tryz.prog C (Ztc N) ZrY [0, 0, 1] :=
 Za2 (Λi := Zac) (tr := false) (ks := ZmV) (kx := ZwY) (N := N) hC hΦ
  (Zah (by kernel_rfl))
  fun R E s K r h => by
   have h2 := Zaw.add_self.symm.trans h
   obtain ⟨_, _, he, rfl, h3⟩ := ZrT h2
   rw [he]
   exact (ZBP N _ _ N _).trans h3
theorem ZL2 : ZaY ZCb [] = [([0, 0, 1], ZrY)] := by kernel_rfl
theorem ZO1 {R : Type} (N : Nat) (w_1 : ByteArray) (x_2 : Int) (K : V → S → Option R) : ZaU C (ZtQ N) (Ztc N) 161 Tryz.f161 [.str w_1, .int .u8 x_2] [] K =
 ZqS N w_1 x_2 (fun w_3 => K (.str w_3) []) := by kernel_rfl
theorem ZEA {N : Nat} (hC : Ok Tryz.prog C) (hΦ : Zaa Tryz.prog C (ZtQ N)) : ZaT Tryz.prog C (Ztc N) ZCb [] :=
 ZaB ZCb [] (by
  rw [ZL2]
  intro p hp
  simp only [List.mem_cons, List.mem_nil_iff, or_false] at hp
  rcases hp with rfl
  ·exact (ZGi hC hΦ))
theorem ZyV (hC : Ok Tryz.prog C) {N : Nat} (hΦ : Zaa Tryz.prog C (ZtQ N)) : Zaa Tryz.prog C (ZHg N) := by
 refine hΦ.add_pure rfl fun R vs K r h => ?_
 unfold ZNJ at h
 obtain ⟨_, _, rfl, h1⟩ := Zat h
 obtain ⟨_, rfl, h2⟩ := Zao h1
 obtain ⟨_, rfl, h3⟩ := Zaf h2
 obtain ⟨_, h4⟩ := Zae h3
 refine Zak (fn := Tryz.f161) (c := ZCb) hC hΦ Tryz.func161 (by kernel_rfl) (by kernel_rfl) (ZEA (N := N) hC hΦ) rfl rfl ?_
 refine (ZO1 N _ _ _).trans ?_
 rw [← ZxR]
 exact h4
def ZNM (N : Nat) : (R : Type) → List V → S → (V → S → Option R) → Option R := fun _ vs s K =>
 Zcb vs fun v'1 => asInt .u8 v'1 fun x_1 => ZaF s <| ZJ0 N x_1 (fun b_2 => K (.bool b_2) [])
def Zue (N : Nat) : Zar := (ZHg N).add 192 (ZNM N)
def ZRn : Code := ZaE Tryz.f192
theorem ZQN {R : Type} (N : Nat) (x_1 : Int) (K : V → S → Option R) : ZaU C (ZHg N) (Zac) 192 Tryz.f192 [.int .u8 x_1] [] K =
 Zx7 N x_1 (fun b_2 => K (.bool b_2) []) := by kernel_rfl
theorem Zzo (hC : Ok Tryz.prog C) {N : Nat} (hΦ : Zaa Tryz.prog C (ZHg N)) : Zaa Tryz.prog C (Zue N) := by
 refine hΦ.add_pure rfl fun R vs K r h => ?_
 unfold ZNM at h
 obtain ⟨_, rfl, h1⟩ := Zaq h
 obtain ⟨_, rfl, h2⟩ := Zaf h1
 obtain ⟨_, h3⟩ := Zae h2
 refine Zak (fn := Tryz.f192) (c := ZRn) hC hΦ Tryz.func192 (by kernel_rfl) (by kernel_rfl) (Zah (Λ := Zac) (by kernel_rfl)) rfl rfl ?_
 refine (ZQN N _ _).trans ?_
 rw [← ZHO]
 exact h3
def ZMl (N : Nat) : (R : Type) → List V → S → (V → S → Option R) → Option R := fun _ vs s K =>
 Zcb vs fun v'1 => Zbd v'1 fun w_1 => ZaF s <| ZMc N w_1 (fun x_2 x_3 => K (.tuple [.int .i32 x_2, .int .i64 x_3]) [])
def ZId (N : Nat) : Zar := (Zue N).add 183 (ZMl N)
def ZDs : Code := ZaE Tryz.f183
def Zt6 : Code := (Zbj ZDs [] 0).2
def ZmB : List Nat := ZbO 51 [0, 4, 5, 6]
def ZwM : List Nat := ZbO 51 [0, 4, 5]
def Zkr (w_1 : ByteArray) (x_2 x_4 x_3 : Int) : List V := mkF 0 51 [(0, .str w_1), (4, .int .i64 x_2), (5, .int .i64 x_3), (6, .int .i64 x_4)]
def ZgS {R : Type} (K : X → List V → S → Option R) (w_1 : ByteArray) (x_2 : Int) (x_4 : Int) : Int → Option R := (fun x_1' => K (.exit 0) (mkF 0 51 [(0, .str w_1), (4, .int .i64 x_2), (5, .int .i64 (x_1'))]) [])
abbrev Zom {R : Type} (N : Nat) : Nat → List V → S → (X → List V → S → Option R) → Option R := fun n => ZcO C (Zue N) (Zac) Zt6 [0, 1, 0, 1, 1, 1, 1, 1, 1, 1] false ZmB ZwM n R
theorem ZJr {R : Type} (N n : Nat) (w_1 : ByteArray) (x_2 x_4 : Int) (x_3 : Int) (K : X → List V → S → Option R) :
 Zom N (n + 1) (Zkr w_1 x_2 x_4 x_3) [] K =
 Zfg N w_1 x_2 x_4 (fun x_3 => Zom N n (Zkr w_1 x_2 x_4 x_3) [] K) x_3 (ZgS K w_1 x_2 x_4) := by kernel_rfl
theorem ZEo {R : Type} (N : Nat) (w_1 : ByteArray) (x_2 x_4 : Int) (K : X → List V → S → Option R) : ∀ (n : Nat) (x_3 : Int),
 Zom N n (Zkr w_1 x_2 x_4 x_3) [] K = Znj N w_1 x_2 x_4 (ZgS K w_1 x_2 x_4) n x_3
 | 0, _ => rfl
 | n + 1, x_3 => (ZJr N n w_1 x_2 x_4 x_3 K).trans (congrArg (fun nx => Zfg N w_1 x_2 x_4 nx x_3 (ZgS K w_1 x_2 x_4)) (funext fun x_3 => ZEo N w_1 x_2 x_4 K n x_3))
def Zua {R : Type} (E : List V) (s : S) (k : ByteArray → Int → Int → Int → Option R) : Option R :=
 Zan (ZaZ 51 [0, 4, 5, 6] E) <| ZfO E 0 fun w_1 => ZaR E 4 .i64 fun x_2 => ZaR E 5 .i64 fun x_3 => ZaR E 6 .i64 fun x_4 => ZaF s <| k w_1 x_2 x_3 x_4
theorem ZrD {R : Type} {E : List V} {s : S} {k : ByteArray → Int → Int → Int → Option R} {r : R} (h : Zua E s k = some r) : ∃ w_1 x_2 x_3 x_4, E = Zkr w_1 x_2 x_4 x_3 ∧ s = [] ∧ k w_1 x_2 x_3 x_4 = some r := by
 unfold Zua at h
 obtain ⟨hg, h1⟩ := Zad h
 obtain ⟨_, hu0, h2⟩ := ZbI h1
 obtain ⟨_, hu4, h3⟩ := Zai h2
 obtain ⟨_, hu5, h4⟩ := Zai h3
 obtain ⟨_, hu6, h5⟩ := Zai h4
 obtain ⟨rfl, h6⟩ := Zae h5
 exact ⟨_, _, _, _, ZaP hg rfl (Zab hu0 (Zab hu4 (Zab hu5 (Zab hu6 ZaG)))), rfl, h6⟩
def Zr4 (N : Nat) : Zaw := (Zac).add [0, 1, 0, 1, 1, 1, 1, 1, 1, 1] fun _ E s K => Zua (Zbc ZmB E) s fun w_1 x_2 x_3 x_4 => Znj N w_1 x_2 x_4 (ZgS K w_1 x_2 x_4) N x_3
theorem ZFZ {N : Nat} (hC : Ok Tryz.prog C) (hΦ : Zaa Tryz.prog C (Zue N)) : Za1 Tryz.prog C (Zr4 N) Zt6 [0, 1, 0, 1, 1, 1, 1, 1, 1, 1] :=
 Za2 (Λi := Zac) (tr := false) (ks := ZmB) (kx := ZwM) (N := N) hC hΦ
  (Zah (by kernel_rfl))
  fun R E s K r h => by
   have h2 := Zaw.add_self.symm.trans h
   obtain ⟨_, _, _, _, he, rfl, h3⟩ := ZrD h2
   rw [he]
   exact (ZEo N _ _ _ _ N _).trans h3
theorem ZN9 : ZaY ZDs [] = [([0, 1, 0, 1, 1, 1, 1, 1, 1, 1], Zt6)] := by kernel_rfl
theorem ZOT {R : Type} (N : Nat) (w_1 : ByteArray) (K : V → S → Option R) : ZaU C (Zue N) (Zr4 N) 183 Tryz.f183 [.str w_1] [] K =
 Zxr N w_1 (fun x_2 x_3 => K (.tuple [.int .i32 x_2, .int .i64 x_3]) []) := by kernel_rfl
theorem ZDz {N : Nat} (hC : Ok Tryz.prog C) (hΦ : Zaa Tryz.prog C (Zue N)) : ZaT Tryz.prog C (Zr4 N) ZDs [] :=
 ZaB ZDs [] (by
  rw [ZN9]
  intro p hp
  simp only [List.mem_cons, List.mem_nil_iff, or_false] at hp
  rcases hp with rfl
  ·exact (ZFZ hC hΦ))
theorem Zzc (hC : Ok Tryz.prog C) {N : Nat} (hΦ : Zaa Tryz.prog C (Zue N)) : Zaa Tryz.prog C (ZId N) := by
 refine hΦ.add_pure rfl fun R vs K r h => ?_
 unfold ZMl at h
 obtain ⟨_, rfl, h1⟩ := Zaq h
 obtain ⟨_, rfl, h2⟩ := Zao h1
 obtain ⟨_, h3⟩ := Zae h2
 refine Zak (fn := Tryz.f183) (c := ZDs) hC hΦ Tryz.func183 (by kernel_rfl) (by kernel_rfl) (ZDz (N := N) hC hΦ) rfl rfl ?_
 refine (ZOT N _ _).trans ?_
 rw [← ZHX]
 exact h3
def ZMx (N : Nat) : (R : Type) → List V → S → (V → S → Option R) → Option R := fun _ vs s K =>
 Zcf vs fun v'1 v'2 => Zbd v'1 fun w_1 => asInt .u8 v'2 fun x_2 => ZaF s <| ZNz N w_1 x_2 (fun x_3 => K (.int .i64 x_3) [])
def ZHI (N : Nat) : Zar := (ZId N).add 201 (ZMx N)
def ZOD : Code := ZaE Tryz.f201
theorem ZO3 {R : Type} (N : Nat) (w_1 : ByteArray) (x_2 : Int) (K : V → S → Option R) : ZaU C (ZId N) (Zac) 201 Tryz.f201 [.str w_1, .int .u8 x_2] [] K =
 Zyx N w_1 x_2 (fun x_3 => K (.int .i64 x_3) []) := by kernel_rfl
theorem Zy8 (hC : Ok Tryz.prog C) {N : Nat} (hΦ : Zaa Tryz.prog C (ZId N)) : Zaa Tryz.prog C (ZHI N) := by
 refine hΦ.add_pure rfl fun R vs K r h => ?_
 unfold ZMx at h
 obtain ⟨_, _, rfl, h1⟩ := Zat h
 obtain ⟨_, rfl, h2⟩ := Zao h1
 obtain ⟨_, rfl, h3⟩ := Zaf h2
 obtain ⟨_, h4⟩ := Zae h3
 refine Zak (fn := Tryz.f201) (c := ZOD) hC hΦ Tryz.func201 (by kernel_rfl) (by kernel_rfl) (Zah (Λ := Zac) (by kernel_rfl)) rfl rfl ?_
 refine (ZO3 N _ _ _).trans ?_
 rw [← ZIk]
 exact h4
def ZME (N : Nat) : (R : Type) → List V → S → (V → S → Option R) → Option R := fun _ vs s K =>
 Zcb vs fun v'1 => asInt .i32 v'1 fun x_1 => ZaF s <| ZNj N x_1 (fun b_2 => K (.bool b_2) [])
def ZIi (N : Nat) : Zar := (ZHI N).add 202 (ZME N)
def ZPf : Code := ZaE Tryz.f202
theorem ZPk {R : Type} (N : Nat) (x_1 : Int) (K : V → S → Option R) : ZaU C (ZHI N) (Zac) 202 Tryz.f202 [.int .i32 x_1] [] K =
 ZxS N x_1 (fun b_2 => K (.bool b_2) []) := by kernel_rfl
theorem Zzh (hC : Ok Tryz.prog C) {N : Nat} (hΦ : Zaa Tryz.prog C (ZHI N)) : Zaa Tryz.prog C (ZIi N) := by
 refine hΦ.add_pure rfl fun R vs K r h => ?_
 unfold ZME at h
 obtain ⟨_, rfl, h1⟩ := Zaq h
 obtain ⟨_, rfl, h2⟩ := Zaf h1
 obtain ⟨_, h3⟩ := Zae h2
 refine Zak (fn := Tryz.f202) (c := ZPf) hC hΦ Tryz.func202 (by kernel_rfl) (by kernel_rfl) (Zah (Λ := Zac) (by kernel_rfl)) rfl rfl ?_
 refine (ZPk N _ _).trans ?_
 rw [← ZGV]
 exact h3
def ZOc (N : Nat) : (R : Type) → List V → S → (V → S → Option R) → Option R := fun _ vs s K =>
 Zcf vs fun v'1 v'2 => Zbd v'1 fun w_1 => Zbd v'2 fun w_2 => ZaF s <| ZGj N w_1 w_2 (fun w_3 => K (.str w_3) [])
def ZGM (N : Nat) : Zar := (ZIi N).add 121 (ZOc N)
def ZOG : Code := ZaE Tryz.f121
theorem ZQ1 {R : Type} (N : Nat) (w_1 w_2 : ByteArray) (K : V → S → Option R) : ZaU C (ZIi N) (Zac) 121 Tryz.f121 [.str w_1, .str w_2] [] K =
 ZoY N w_1 w_2 (fun w_3 => K (.str w_3) []) := by kernel_rfl
theorem ZyO (hC : Ok Tryz.prog C) {N : Nat} (hΦ : Zaa Tryz.prog C (ZIi N)) : Zaa Tryz.prog C (ZGM N) := by
 refine hΦ.add_pure rfl fun R vs K r h => ?_
 unfold ZOc at h
 obtain ⟨_, _, rfl, h1⟩ := Zat h
 obtain ⟨_, rfl, h2⟩ := Zao h1
 obtain ⟨_, rfl, h3⟩ := Zao h2
 obtain ⟨_, h4⟩ := Zae h3
 refine Zak (fn := Tryz.f121) (c := ZOG) hC hΦ Tryz.func121 (by kernel_rfl) (by kernel_rfl) (Zah (Λ := Zac) (by kernel_rfl)) rfl rfl ?_
 refine (ZQ1 N _ _ _).trans ?_
 rw [← Zwc]
 exact h4
def ZML (N : Nat) : (R : Type) → List V → S → (V → S → Option R) → Option R := fun _ vs s K =>
 ZBm vs fun v'1 v'2 v'3 => ZaQ v'1 fun e_1 f_2 x_3 => Zba v'2 fun x_4 x_5 => Zbd v'3 fun w_6 => ZaF s <| ZFw N e_1 f_2 x_3 x_4 x_5 w_6 (fun x_7 w_8 x_9 => K (.tuple [.int .i64 x_7, .str w_8, .int .i64 x_9]) [])
def ZGK (N : Nat) : Zar := (ZGM N).add 71 (ZML N)
def ZQI : Code := ZaE Tryz.f71
theorem ZOZ {R : Type} (N : Nat) (e_1 : List V) (f_2 : Fl) (x_3 x_4 x_5 : Int) (w_6 : ByteArray) (K : V → S → Option R) : ZaU C (ZGM N) (Zac) 71 Tryz.f71 [.agg [.list 7 e_1 f_2, .int .i64 x_3], .agg [.int .i64 x_4, .int .i64 x_5], .str w_6] [] K =
 ZoO N e_1 f_2 x_3 x_4 x_5 w_6 (fun x_7 w_8 x_9 => K (.tuple [.int .i64 x_7, .str w_8, .int .i64 x_9]) []) := by kernel_rfl
theorem ZA8 (hC : Ok Tryz.prog C) {N : Nat} (hΦ : Zaa Tryz.prog C (ZGM N)) : Zaa Tryz.prog C (ZGK N) := by
 refine hΦ.add_pure rfl fun R vs K r h => ?_
 unfold ZML at h
 obtain ⟨_, _, _, rfl, h1⟩ := Zcn h
 obtain ⟨_, _, _, rfl, h2⟩ := Zav h1
 obtain ⟨_, _, rfl, h3⟩ := ZaO h2
 obtain ⟨_, rfl, h4⟩ := Zao h3
 obtain ⟨_, h5⟩ := Zae h4
 refine Zak (fn := Tryz.f71) (c := ZQI) hC hΦ Tryz.func71 (by kernel_rfl) (by kernel_rfl) (Zah (Λ := Zac) (by kernel_rfl)) rfl rfl ?_
 refine (ZOZ N _ _ _ _ _ _ _).trans ?_
 rw [← Zyj]
 exact h5
def ZNt (N : Nat) : (R : Type) → List V → S → (V → S → Option R) → Option R := fun _ vs s K =>
 ZBm vs fun v'1 v'2 v'3 => ZaQ v'1 fun e_1 f_2 x_3 => Zba v'2 fun x_4 x_5 => asInt .i64 v'3 fun x_6 => ZaF s <| ZJS N e_1 f_2 x_3 x_4 x_5 x_6 (fun b_7 => K (.bool b_7) [])
def Zsf (N : Nat) : Zar := (ZGK N).add 126 (ZNt N)
def ZQn : Code := ZaE Tryz.f126
theorem ZQF {R : Type} (N : Nat) (e_1 : List V) (f_2 : Fl) (x_3 x_4 x_5 x_6 : Int) (K : V → S → Option R) : ZaU C (ZGK N) (Zac) 126 Tryz.f126 [.agg [.list 7 e_1 f_2, .int .i64 x_3], .agg [.int .i64 x_4, .int .i64 x_5], .int .i64 x_6] [] K =
 ZoK N e_1 f_2 x_3 x_4 x_5 x_6 (fun b_7 => K (.bool b_7) []) := by kernel_rfl
theorem ZAN (hC : Ok Tryz.prog C) {N : Nat} (hΦ : Zaa Tryz.prog C (ZGK N)) : Zaa Tryz.prog C (Zsf N) := by
 refine hΦ.add_pure rfl fun R vs K r h => ?_
 unfold ZNt at h
 obtain ⟨_, _, _, rfl, h1⟩ := Zcn h
 obtain ⟨_, _, _, rfl, h2⟩ := Zav h1
 obtain ⟨_, _, rfl, h3⟩ := ZaO h2
 obtain ⟨_, rfl, h4⟩ := Zaf h3
 obtain ⟨_, h5⟩ := Zae h4
 refine Zak (fn := Tryz.f126) (c := ZQn) hC hΦ Tryz.func126 (by kernel_rfl) (by kernel_rfl) (Zah (Λ := Zac) (by kernel_rfl)) rfl rfl ?_
 refine (ZQF N _ _ _ _ _ _ _).trans ?_
 rw [← Zyv]
 exact h5
def ZNe (N : Nat) : (R : Type) → List V → S → (V → S → Option R) → Option R := fun _ vs s K =>
 ZBm vs fun v'1 v'2 v'3 => ZFm v'1 fun o0 k'5 k'6 k'7 => isN k'5 0 <| isN k'6 0 <| isN k'7 0 <| asInt .i64 v'2 fun x_1 => asInt .i64 v'3 fun x_2 => ZLj s o0 0 fun o'8 => ZdP o'8 2 34 fun e'9 k'10 => isN k'10 0 <| Zcb e'9 fun v'11 => ZaQ v'11 fun e_3 f_4 x_5 => Zan (ZbT [o0]) <| Zan (okI 1 [true] [some ⟨[.agg [.list 7 e_3 f_4, .int .i64 x_5]], 2, 34, 0⟩]) <| ZHG N x_1 x_2 e_3 f_4 x_5 (fun b_901 e_902 f_903 x_904 => FK s [o0] rl K (.bool b_901) [some ⟨[.agg [.list 7 e_902 f_903, .int .i64 x_904]], 2, 34, 0⟩])
def ZHl (N : Nat) : Zar := (Zsf N).add 127 (ZNe N)
def ZBN : Code := ZaE Tryz.f127
def ZsY : Code := (Zbj ZBN [] 0).2
def ZmE : List Nat := ZbO 25 [0, 1, 2]
def ZxV : List Nat := ZbO 25 [1, 2]
def ZjR (x_2 : Int) (e_3 : List V) (f_4 : Fl) (x_5 x_1 : Int) : List V := mkF 0 25 [(0, .ptr 0 0 0 0), (1, .int .i64 x_1), (2, .int .i64 x_2)]
def Zh0 {R : Type} (K : X → List V → S → Option R) (x_2 : Int) (e_3 : List V) (f_4 : Fl) (x_5 : Int) : Int → Option R := (fun x_1' => K (.exit 0) (mkF 0 25 [(1, .int .i64 (x_1')), (2, .int .i64 x_2)]) [some ⟨[.agg [.list 7 e_3 f_4, .int .i64 x_5]], 2, 34, 0⟩])
abbrev Zmc {R : Type} (N : Nat) : Nat → List V → S → (X → List V → S → Option R) → Option R := fun n => ZcO C (Zsf N) (Zac) ZsY [0, 0, 1] false ZmE ZxV n R
theorem ZJB {R : Type} (N n : Nat) (x_2 : Int) (e_3 : List V) (f_4 : Fl) (x_5 : Int) (x_1 : Int) (K : X → List V → S → Option R) :
 Zmc N (n + 1) (ZjR x_2 e_3 f_4 x_5 x_1) [some ⟨[.agg [.list 7 e_3 f_4, .int .i64 x_5]], 2, 34, 0⟩] K =
 Zea N x_2 e_3 f_4 x_5 (fun x_1 => Zmc N n (ZjR x_2 e_3 f_4 x_5 x_1) [some ⟨[.agg [.list 7 e_3 f_4, .int .i64 x_5]], 2, 34, 0⟩] K) x_1 (Zh0 K x_2 e_3 f_4 x_5) := by kernel_rfl
theorem ZCf {R : Type} (N : Nat) (x_2 : Int) (e_3 : List V) (f_4 : Fl) (x_5 : Int) (K : X → List V → S → Option R) : ∀ (n : Nat) (x_1 : Int),
 Zmc N n (ZjR x_2 e_3 f_4 x_5 x_1) [some ⟨[.agg [.list 7 e_3 f_4, .int .i64 x_5]], 2, 34, 0⟩] K = ZiO N x_2 e_3 f_4 x_5 (Zh0 K x_2 e_3 f_4 x_5) n x_1
 | 0, _ => rfl
 | n + 1, x_1 => (ZJB N n x_2 e_3 f_4 x_5 x_1 K).trans (congrArg (fun nx => Zea N x_2 e_3 f_4 x_5 nx x_1 (Zh0 K x_2 e_3 f_4 x_5)) (funext fun x_1 => ZCf N x_2 e_3 f_4 x_5 K n x_1))
def Zth {R : Type} (E : List V) (s : S) (k : Int → Int → List V → Fl → Int → Option R) : Option R :=
 Zan (ZaZ 25 [0, 1, 2] E) <| ZpH E 0 (.ptr 0 0 0 0) <| ZaR E 1 .i64 fun x_1 => ZaR E 2 .i64 fun x_2 => Zd4 s fun o'1 s'2 => ZdP o'1 2 34 fun e'3 k'4 => isN k'4 0 <| Zcb e'3 fun v'5 => asAgg v'5 fun c'6 => Zcf c'6 fun v'7 v'8 => ZaV 7 v'7 fun e_3 f_4 => asInt .i64 v'8 fun x_5 => ZaF s'2 <| k x_1 x_2 e_3 f_4 x_5
theorem Zpl {R : Type} {E : List V} {s : S} {k : Int → Int → List V → Fl → Int → Option R} {r : R} (h : Zth E s k = some r) : ∃ x_1 x_2 e_3 f_4 x_5, E = ZjR x_2 e_3 f_4 x_5 x_1 ∧ s = [some ⟨[.agg [.list 7 e_3 f_4, .int .i64 x_5]], 2, 34, 0⟩] ∧ k x_1 x_2 e_3 f_4 x_5 = some r := by
 unfold Zth at h
 obtain ⟨hg, h1⟩ := Zad h
 obtain ⟨hu0, h2⟩ := ZbR h1
 obtain ⟨_, hu1, h3⟩ := Zai h2
 obtain ⟨_, hu2, h4⟩ := Zai h3
 obtain ⟨_, _, rfl, h5⟩ := ZaN h4
 obtain ⟨_, _, rfl, h6⟩ := ZaK h5
 obtain ⟨rfl, h7⟩ := Zas h6
 obtain ⟨_, rfl, h8⟩ := Zaq h7
 obtain ⟨_, rfl, h9⟩ := ZaD h8
 obtain ⟨_, _, rfl, h10⟩ := Zat h9
 obtain ⟨_, _, rfl, h11⟩ := Zal h10
 obtain ⟨_, rfl, h12⟩ := Zaf h11
 obtain ⟨rfl, h13⟩ := Zae h12
 exact ⟨_, _, _, _, _, ZaP hg rfl (Zab hu0 (Zab hu1 (Zab hu2 ZaG))), rfl, h13⟩
def Zti (N : Nat) : Zaw := (Zac).add [0, 0, 1] fun _ E s K => Zth (Zbc ZmE E) s fun x_1 x_2 e_3 f_4 x_5 => ZiO N x_2 e_3 f_4 x_5 (Zh0 K x_2 e_3 f_4 x_5) N x_1
theorem ZIl {N : Nat} (hC : Ok Tryz.prog C) (hΦ : Zaa Tryz.prog C (Zsf N)) : Za1 Tryz.prog C (Zti N) ZsY [0, 0, 1] :=
 Za2 (Λi := Zac) (tr := false) (ks := ZmE) (kx := ZxV) (N := N) hC hΦ
  (Zah (by kernel_rfl))
  fun R E s K r h => by
   have h2 := Zaw.add_self.symm.trans h
   obtain ⟨_, _, _, _, _, he, rfl, h3⟩ := Zpl h2
   rw [he]
   exact (ZCf N _ _ _ _ _ N _).trans h3
theorem ZLw : ZaY ZBN [] = [([0, 0, 1], ZsY)] := by kernel_rfl
theorem ZPS {R : Type} (N : Nat) (x_1 x_2 : Int) (e_3 : List V) (f_4 : Fl) (x_5 : Int) (K : V → S → Option R) : ZaU C (Zsf N) (Zti N) 127 Tryz.f127 [.ptr 0 0 0 0, .int .i64 x_1, .int .i64 x_2] [some ⟨[.agg [.list 7 e_3 f_4, .int .i64 x_5]], 2, 34, 0⟩] (GK rl 1 K) =
 ZpL N x_1 x_2 e_3 f_4 x_5 (fun b_901 e_902 f_903 x_904 => K (.bool b_901) [some ⟨[.agg [.list 7 e_902 f_903, .int .i64 x_904]], 2, 34, 0⟩]) := by kernel_rfl
theorem ZDC {N : Nat} (hC : Ok Tryz.prog C) (hΦ : Zaa Tryz.prog C (Zsf N)) : ZaT Tryz.prog C (Zti N) ZBN [] :=
 ZaB ZBN [] (by
  rw [ZLw]
  intro p hp
  simp only [List.mem_cons, List.mem_nil_iff, or_false] at hp
  rcases hp with rfl
  ·exact (ZIl hC hΦ))
theorem ZAx (hC : Ok Tryz.prog C) {N : Nat} (hΦ : Zaa Tryz.prog C (Zsf N)) : Zaa Tryz.prog C (ZHl N) := by
 refine hΦ.add_shared rfl fun R vs s K r h => ?_
 unfold ZNe at h
 obtain ⟨_, _, _, rfl, h1⟩ := Zcn h
 obtain ⟨o0, _, _, _, rfl, h2⟩ := ZiU h1
 obtain ⟨rfl, h3⟩ := Zas h2
 obtain ⟨rfl, h4⟩ := Zas h3
 obtain ⟨rfl, h5⟩ := Zas h4
 obtain ⟨x_1, rfl, h6⟩ := Zaf h5
 obtain ⟨x_2, rfl, h7⟩ := Zaf h6
 obtain ⟨_, hob0, h8⟩ := ZhX h7
 obtain ⟨_, _, rfl, h9⟩ := ZaK h8
 obtain ⟨rfl, h10⟩ := Zas h9
 obtain ⟨_, rfl, h11⟩ := Zaq h10
 obtain ⟨e_3, f_4, x_5, rfl, h12⟩ := Zav h11
 obtain ⟨hdist, h13⟩ := Zad h12
 obtain ⟨hin, h14⟩ := Zad h13
 refine ZcU (fn := Tryz.f127) (c := ZBN) (os := [o0]) (rl := rl) (bi := [true]) (s0 := [some ⟨[.agg [.list 7 e_3 f_4, .int .i64 x_5]], 2, 34, 0⟩]) (as0 := [.ptr 0 0 0 0, .int .i64 x_1, .int .i64 x_2]) hC hΦ Tryz.func127 (by kernel_rfl) (by kernel_rfl) (ZDC (N := N) hC hΦ) rfl hdist ⟨⟨_, rfl, hob0⟩, trivial⟩ hin rfl rfl ?_
 refine (ZPS N _ _ _ _ _ _).trans ?_
 rw [← ZvX]
 exact h14
def ZOf (N : Nat) : (R : Type) → List V → S → (V → S → Option R) → Option R := fun _ vs s K =>
 ZBj vs fun v'1 v'2 v'3 v'4 => ZFm v'1 fun o0 k'6 k'7 k'8 => isN k'6 0 <| isN k'7 0 <| isN k'8 0 <| Zba v'2 fun x_1 x_2 => Zbd v'3 fun w_3 => Zbd v'4 fun w_4 => ZLj s o0 0 fun o'9 => ZdP o'9 2 34 fun e'10 k'11 => isN k'11 0 <| Zcb e'10 fun v'12 => ZaQ v'12 fun e_5 f_6 x_7 => Zan (ZbT [o0]) <| Zan (okI 1 [true] [some ⟨[.agg [.list 7 e_5 f_6, .int .i64 x_7]], 2, 34, 0⟩]) <| ZHj N x_1 x_2 w_3 w_4 e_5 f_6 x_7 (fun x_901 w_902 e_903 f_904 x_905 => FK s [o0] rl K (.tuple [.int .i64 x_901, .str w_902]) [some ⟨[.agg [.list 7 e_903 f_904, .int .i64 x_905]], 2, 34, 0⟩])
def ZHt (N : Nat) : Zar := (ZHl N).add 73 (ZOf N)
def ZOK : Code := ZaE Tryz.f73
theorem ZPz {R : Type} (N : Nat) (x_1 x_2 : Int) (w_3 w_4 : ByteArray) (e_5 : List V) (f_6 : Fl) (x_7 : Int) (K : V → S → Option R) : ZaU C (ZHl N) (Zac) 73 Tryz.f73 [.ptr 0 0 0 0, .agg [.int .i64 x_1, .int .i64 x_2], .str w_3, .str w_4] [some ⟨[.agg [.list 7 e_5 f_6, .int .i64 x_7]], 2, 34, 0⟩] (GK rl 1 K) =
 ZpK N x_1 x_2 w_3 w_4 e_5 f_6 x_7 (fun x_901 w_902 e_903 f_904 x_905 => K (.tuple [.int .i64 x_901, .str w_902]) [some ⟨[.agg [.list 7 e_903 f_904, .int .i64 x_905]], 2, 34, 0⟩]) := by kernel_rfl
theorem Zze (hC : Ok Tryz.prog C) {N : Nat} (hΦ : Zaa Tryz.prog C (ZHl N)) : Zaa Tryz.prog C (ZHt N) := by
 refine hΦ.add_shared rfl fun R vs s K r h => ?_
 unfold ZOf at h
 obtain ⟨_, _, _, _, rfl, h1⟩ := Zcu h
 obtain ⟨o0, _, _, _, rfl, h2⟩ := ZiU h1
 obtain ⟨rfl, h3⟩ := Zas h2
 obtain ⟨rfl, h4⟩ := Zas h3
 obtain ⟨rfl, h5⟩ := Zas h4
 obtain ⟨x_1, x_2, rfl, h6⟩ := ZaO h5
 obtain ⟨w_3, rfl, h7⟩ := Zao h6
 obtain ⟨w_4, rfl, h8⟩ := Zao h7
 obtain ⟨_, hob0, h9⟩ := ZhX h8
 obtain ⟨_, _, rfl, h10⟩ := ZaK h9
 obtain ⟨rfl, h11⟩ := Zas h10
 obtain ⟨_, rfl, h12⟩ := Zaq h11
 obtain ⟨e_5, f_6, x_7, rfl, h13⟩ := Zav h12
 obtain ⟨hdist, h14⟩ := Zad h13
 obtain ⟨hin, h15⟩ := Zad h14
 refine ZcU (fn := Tryz.f73) (c := ZOK) (os := [o0]) (rl := rl) (bi := [true]) (s0 := [some ⟨[.agg [.list 7 e_5 f_6, .int .i64 x_7]], 2, 34, 0⟩]) (as0 := [.ptr 0 0 0 0, .agg [.int .i64 x_1, .int .i64 x_2], .str w_3, .str w_4]) hC hΦ Tryz.func73 (by kernel_rfl) (by kernel_rfl) (Zah (Λ := Zac) (by kernel_rfl)) rfl hdist ⟨⟨_, rfl, hob0⟩, trivial⟩ hin rfl rfl ?_
 refine (ZPz N _ _ _ _ _ _ _ _).trans ?_
 rw [← ZvW]
 exact h15
def ZMh (N : Nat) : (R : Type) → List V → S → (V → S → Option R) → Option R := fun _ vs s K =>
 Zcf vs fun v'1 v'2 => Zbd v'1 fun w_1 => asInt .i64 v'2 fun x_2 => ZaF s <| ZC8 N w_1 x_2 (fun w_3 x_4 => K (.agg [.str w_3, .int .i64 x_4]) [])
def ZHZ (N : Nat) : Zar := (ZHt N).add 74 (ZMh N)
def ZOz : Code := ZaE Tryz.f74
theorem ZPu {R : Type} (N : Nat) (w_1 : ByteArray) (x_2 : Int) (K : V → S → Option R) : ZaU C (ZHt N) (Zac) 74 Tryz.f74 [.str w_1, .int .i64 x_2] [] K =
 ZoR N w_1 x_2 (fun w_3 x_4 => K (.agg [.str w_3, .int .i64 x_4]) []) := by kernel_rfl
theorem ZAp (hC : Ok Tryz.prog C) {N : Nat} (hΦ : Zaa Tryz.prog C (ZHt N)) : Zaa Tryz.prog C (ZHZ N) := by
 refine hΦ.add_pure rfl fun R vs K r h => ?_
 unfold ZMh at h
 obtain ⟨_, _, rfl, h1⟩ := Zat h
 obtain ⟨_, rfl, h2⟩ := Zao h1
 obtain ⟨_, rfl, h3⟩ := Zaf h2
 obtain ⟨_, h4⟩ := Zae h3
 refine Zak (fn := Tryz.f74) (c := ZOz) hC hΦ Tryz.func74 (by kernel_rfl) (by kernel_rfl) (Zah (Λ := Zac) (by kernel_rfl)) rfl rfl ?_
 refine (ZPu N _ _ _).trans ?_
 rw [← ZwK]
 exact h4
def ZMP (N : Nat) : (R : Type) → List V → S → (V → S → Option R) → Option R := fun _ vs s K =>
 ZBj vs fun v'1 v'2 v'3 v'4 => ZaQ v'1 fun e_1 f_2 x_3 => Zba v'2 fun x_4 x_5 => Zbd v'3 fun w_6 => Zbd v'4 fun w_7 => ZaF s <| ZK4 N e_1 f_2 x_3 x_4 x_5 w_6 w_7 (fun x_8 w_9 b_10 => K (.tuple [.int .i64 x_8, .str w_9, .bool b_10]) [])
def ZCh (N : Nat) : Zar := (ZHZ N).add 41 (ZMP N)
def ZP2 : Code := ZaE Tryz.f41
theorem ZPr {R : Type} (N : Nat) (e_1 : List V) (f_2 : Fl) (x_3 x_4 x_5 : Int) (w_6 w_7 : ByteArray) (K : V → S → Option R) : ZaU C (ZHZ N) (Zac) 41 Tryz.f41 [.agg [.list 7 e_1 f_2, .int .i64 x_3], .agg [.int .i64 x_4, .int .i64 x_5], .str w_6, .str w_7] [] K =
 Zra N e_1 f_2 x_3 x_4 x_5 w_6 w_7 (fun x_8 w_9 b_10 => K (.tuple [.int .i64 x_8, .str w_9, .bool b_10]) []) := by kernel_rfl
theorem ZAh (hC : Ok Tryz.prog C) {N : Nat} (hΦ : Zaa Tryz.prog C (ZHZ N)) : Zaa Tryz.prog C (ZCh N) := by
 refine hΦ.add_pure rfl fun R vs K r h => ?_
 unfold ZMP at h
 obtain ⟨_, _, _, _, rfl, h1⟩ := Zcu h
 obtain ⟨_, _, _, rfl, h2⟩ := Zav h1
 obtain ⟨_, _, rfl, h3⟩ := ZaO h2
 obtain ⟨_, rfl, h4⟩ := Zao h3
 obtain ⟨_, rfl, h5⟩ := Zao h4
 obtain ⟨_, h6⟩ := Zae h5
 refine Zak (fn := Tryz.f41) (c := ZP2) hC hΦ Tryz.func41 (by kernel_rfl) (by kernel_rfl) (Zah (Λ := Zac) (by kernel_rfl)) rfl rfl ?_
 refine (ZPr N _ _ _ _ _ _ _ _).trans ?_
 rw [← ZwU]
 exact h6
def ZM5 (N : Nat) : (R : Type) → List V → S → (V → S → Option R) → Option R := fun _ vs s K =>
 ZBj vs fun v'1 v'2 v'3 v'4 => Zeu v'1 fun e_1 f_2 x_3 => Zel v'2 fun x_4 x_5 => Zbd v'3 fun w_6 => Zbd v'4 fun w_7 => ZaF s <| ZM6 N e_1 f_2 x_3 x_4 x_5 w_6 w_7 (fun b_8 => K (.bool b_8) [])
def ZPb (N : Nat) : Zar := (ZCh N).add 9 (ZM5 N)
def ZOS : Code := ZaE Tryz.f9
theorem b_zat {R : Type} (N : Nat) (e_1 : List V) (f_2 : Fl) (x_3 x_4 x_5 : Int) (w_6 w_7 : ByteArray) (K : V → S → Option R) : ZaU C (ZCh N) (Zac) 9 Tryz.f9 [.agg [.list 7 e_1 f_2, .int .i64 x_3], .agg [.int .i64 x_4, .int .i64 x_5], .str w_6, .str w_7] [] K =
 ZlN N e_1 f_2 x_3 x_4 x_5 w_6 w_7 (fun b_8 => K (.bool b_8) []) := by kernel_rfl
theorem ZLk (hC : Ok Tryz.prog C) {N : Nat} (hΦ : Zaa Tryz.prog C (ZCh N)) : Zaa Tryz.prog C (ZPb N) := by
 refine hΦ.add_pure rfl fun R vs K r h => ?_
 unfold ZM5 at h
 obtain ⟨_, _, _, _, rfl, h1⟩ := Zcu h
 obtain ⟨_, _, _, rfl, h2⟩ := ZdV h1
 obtain ⟨_, _, rfl, h3⟩ := ZeC h2
 obtain ⟨_, rfl, h4⟩ := Zao h3
 obtain ⟨_, rfl, h5⟩ := Zao h4
 obtain ⟨_, h6⟩ := Zae h5
 refine Zak (fn := Tryz.f9) (c := ZOS) hC hΦ Tryz.func9 (by kernel_rfl) (by kernel_rfl) (Zah (Λ := Zac) (by kernel_rfl)) rfl rfl ?_
 refine (b_zat N _ _ _ _ _ _ _ _).trans ?_
 rw [← ZGU]
 exact h6
theorem callee_zat_prev (hC : Ok Tryz.prog C) (N : Nat) : Zaa Tryz.prog C (ZCh N) :=
 have h0 := ZtH Tryz.prog C
 have h1 := ZAr hC (N := N) h0
 have h2 := Zzu hC (N := N) h1
 have h3 := Zz9 hC (N := N) h2
 have h4 := ZAT hC (N := N) h3
 have h5 := ZA9 hC (N := N) h4
 have h6 := ZAI hC (N := N) h5
 have h7 := Zy6 hC (N := N) h6
 have h8 := ZzA hC (N := N) h7
 have h9 := ZAK hC (N := N) h8
 have h10 := Zzk hC (N := N) h9
 have h11 := ZA5 hC (N := N) h10
 have h12 := ZzZ hC (N := N) h11
 have h13 := ZAw hC (N := N) h12
 have h14 := Zz5 hC (N := N) h13
 have h15 := Zzw hC (N := N) h14
 have h16 := Zz8 hC (N := N) h15
 have h17 := Zz2 hC (N := N) h16
 have h18 := ZzK hC (N := N) h17
 have h19 := ZBa hC (N := N) h18
 have h20 := Zy7 hC (N := N) h19
 have h21 := Zzj hC (N := N) h20
 have h22 := ZyT hC (N := N) h21
 have h23 := Zy0 hC (N := N) h22
 have h24 := Zz0 hC (N := N) h23
 have h25 := ZzJ hC (N := N) h24
 have h26 := Zzm hC (N := N) h25
 have h27 := ZzM hC (N := N) h26
 have h28 := ZAF hC (N := N) h27
 have h29 := Zy1 hC (N := N) h28
 have h30 := ZBe hC (N := N) h29
 have h31 := ZAt hC (N := N) h30
 have h32 := ZAs hC (N := N) h31
 have h33 := ZzX hC (N := N) h32
 have h34 := ZzS hC (N := N) h33
 have h35 := Zy9 hC (N := N) h34
 have h36 := Zzt hC (N := N) h35
 have h37 := ZAC hC (N := N) h36
 have h38 := Zzz hC (N := N) h37
 have h39 := ZAu hC (N := N) h38
 have h40 := ZAn hC (N := N) h39
 have h41 := ZAU hC (N := N) h40
 have h42 := ZyG hC (N := N) h41
 have h43 := ZyH hC (N := N) h42
 have h44 := Zzn hC (N := N) h43
 have h45 := ZBb hC (N := N) h44
 have h46 := Zzq hC (N := N) h45
 have h47 := ZzT hC (N := N) h46
 have h48 := Zzl hC (N := N) h47
 have h49 := ZyP hC (N := N) h48
 have h50 := ZBg hC (N := N) h49
 have h51 := ZzV hC (N := N) h50
 have h52 := ZAf hC (N := N) h51
 have h53 := ZyX hC (N := N) h52
 have h54 := ZA1 hC (N := N) h53
 have h55 := ZAd hC (N := N) h54
 have h56 := ZAA hC (N := N) h55
 have h57 := ZzP hC (N := N) h56
 have h58 := ZyW hC (N := N) h57
 have h59 := Zy2 hC (N := N) h58
 have h60 := ZAJ hC (N := N) h59
 have h61 := ZyL hC (N := N) h60
 have h62 := ZzY hC (N := N) h61
 have h63 := ZAc hC (N := N) h62
 have h64 := ZAy hC (N := N) h63
 have h65 := ZAZ hC (N := N) h64
 have h66 := ZAl hC (N := N) h65
 have h67 := ZyN hC (N := N) h66
 have h68 := ZA2 hC (N := N) h67
 have h69 := ZAG hC (N := N) h68
 have h70 := ZBc hC (N := N) h69
 have h71 := ZzO hC (N := N) h70
 have h72 := ZAX hC (N := N) h71
 have h73 := ZyQ hC (N := N) h72
 have h74 := ZyJ hC (N := N) h73
 have h75 := Zzb hC (N := N) h74
 have h76 := ZAg hC (N := N) h75
 have h77 := ZzH hC (N := N) h76
 have h78 := ZAb hC (N := N) h77
 have h79 := Zy5 hC (N := N) h78
 have h80 := Zz3 hC (N := N) h79
 have h81 := Zzr hC (N := N) h80
 have h82 := ZyM hC (N := N) h81
 have h83 := ZAe hC (N := N) h82
 have h84 := ZA6 hC (N := N) h83
 have h85 := ZzG hC (N := N) h84
 have h86 := ZAm hC (N := N) h85
 have h87 := ZzN hC (N := N) h86
 have h88 := Zz6 hC (N := N) h87
 have h89 := ZA0 hC (N := N) h88
 have h90 := Zzi hC (N := N) h89
 have h91 := ZAP hC (N := N) h90
 have h92 := ZyK hC (N := N) h91
 have h93 := ZAi hC (N := N) h92
 have h94 := Zzx hC (N := N) h93
 have h95 := Zz7 hC (N := N) h94
 have h96 := ZyR hC (N := N) h95
 have h97 := ZzI hC (N := N) h96
 have h98 := ZyI hC (N := N) h97
 have h99 := ZyV hC (N := N) h98
 have h100 := Zzo hC (N := N) h99
 have h101 := Zzc hC (N := N) h100
 have h102 := Zy8 hC (N := N) h101
 have h103 := Zzh hC (N := N) h102
 have h104 := ZyO hC (N := N) h103
 have h105 := ZA8 hC (N := N) h104
 have h106 := ZAN hC (N := N) h105
 have h107 := ZAx hC (N := N) h106
 have h108 := Zze hC (N := N) h107
 have h109 := ZAp hC (N := N) h108
 have h110 := ZAh hC (N := N) h109
 h110
end
end Go.VM.VL
