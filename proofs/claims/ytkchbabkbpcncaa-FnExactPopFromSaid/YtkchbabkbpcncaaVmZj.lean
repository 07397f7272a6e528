/- A function by its body, that sees some objects alone, and of whose new objects some are told. -/
import Derived.Test.YtkchbabkbpcncaaVmZi
set_option linter.unusedSimpArgs false
set_option linter.unusedVariables false
namespace Go.VM
open Go.RowKit Go.Lib
theorem Zh1 {k:Nat} {v:V} (h:ZbK v = true):Zv5 k v = true:=by
 cases v <;> first | rfl | (cases h; done) | skip
 rename_i q caps
 cases caps with
 | nil=>rfl
 | cons=>cases h
theorem ZqD {k:Nat} {ob:Ob} (h:Zaw ob.es = true):ob.inR k = true:=by
 refine List.all_eq_true.2 fun e he=>?_
 obtain ⟨i,hi⟩:=List.getElem?_of_mem he
 have hi':nth ob.es i = some e:=by rw [Zad]; exact hi
 have key:∀ j c,nth e.cells j = some c → ZbK c = true:=fun j c hc=>Zbz h i e j c hi' hc
 cases e with
 | agg cs =>
  refine List.all_eq_true.2 fun c hc=>?_
  obtain ⟨j,hj⟩:=List.getElem?_of_mem hc
  exact Zh1 (key j c (by rw [Zad]; exact hj))
 | _=>exact Zh1 (k:=k) (key 0 _ rfl)
theorem ZlV {b:Bool} {f:Nat → Option Nat} {ob:Ob} (h:b = false → Zaw ob.es = true):ob.rhoB b f = ob.rho f:=by
 cases b with
 | true=>rfl
 | false=>exact (Zi4 (h rfl)).symm
def okI (k:Nat):List Bool → S → Bool
 | b :: bs,some ob :: s=>(match b with
  | true=>(match ob.inR k with
   | true=>okI k bs s
   | false=>false)
  | false=>Zaw ob.es && okI k bs s)
 | [],[]=>true
 | _,_=>false
def Zl8 (s:S) (f:Nat → Option Nat):List Nat → List Bool → S → Prop
 | o :: os,b :: bs,x :: s0=>(∃ ob0,x = some ob0 ∧ nth s o = some (some (ob0.rhoB b f))) ∧ Zl8 s f os bs s0
 | [],[],[]=>True
 | _,_,_=>False
theorem Zno {s:S} {f:Nat → Option Nat} {k:Nat}:∀ {os:List Nat} {bs:List Bool} {s0:S},Zl8 s f os bs s0 → okI k bs s0 = true → s0.length = os.length ∧
  ∀ i o,nth os i = some o → ∃ ob0,nth s0 i = some (some ob0) ∧ nth s o = some (some (ob0.rho f)) ∧ ob0.inR k = true
 | [],[],[],_,_=>⟨rfl,fun i o h=>by cases i <;> simp [nth] at h⟩
 | [],[],_ :: _,h,_=>h.elim
 | [],_ :: _,_,h,_=>by unfold Zl8 at h; exact h.elim
 | _ :: _,[],_,h,_=>by unfold Zl8 at h; exact h.elim
 | _ :: _,_ :: _,[],h,_=>by unfold Zl8 at h; exact h.elim
 | o :: os,b :: bs,x :: s0,h,hk=>by
  unfold Zl8 at h
  obtain ⟨⟨ob0,rfl,h1⟩,h2⟩:=h
  have hb:(b = false → Zaw ob0.es = true) ∧ ob0.inR k = true ∧ okI k bs s0 = true:=by
   cases b with
   | true =>
    simp only [okI] at hk
    split at hk
    ·rename_i hr
     exact ⟨(fun h=>by cases h),hr,hk⟩
    ·cases hk
   | false =>
    simp only [okI,Bool.and_eq_true] at hk
    exact ⟨fun _=>hk.1,ZqD hk.1,hk.2⟩
  obtain ⟨h3,h4⟩:=Zno h2 hb.2.2
  refine ⟨by simp [h3],fun i o' ho=>?_⟩
  cases i with
  | zero =>
   simp only [nth] at ho
   obtain rfl:=Option.some.inj ho
   exact ⟨ob0,rfl,by rw [h1,ZlV hb.1],hb.2.1⟩
  | succ i=>exact h4 i o' ho
def ZvC (f:Nat → Option Nat) (s:S):List Nat → List Bool → S
 | j :: ks,b :: bs=>(match nth s j with
  | some (some ob)=>some (ob.rhoB b f)
  | _=>none) :: ZvC f s ks bs
 | _,_=>[]
def okS (s:S):List Nat → List Bool → Bool
 | j :: ks,b :: bs=>(match b with
  | true=>okS s ks bs
  | false=>(match nth s j with
   | some (some ob)=>Zaw ob.es && okS s ks bs
   | _=>okS s ks bs))
 | [],[]=>true
 | _,_=>false
theorem ZmT {f:Nat → Option Nat} {s:S}:∀ {ks:List Nat} {bs:List Bool},okS s ks bs = true → ZvC f s ks bs = ZhM ks f s ∧ bs.length = ks.length
 | [],[],_=>⟨rfl,rfl⟩
 | [],_ :: _,h=>by cases h
 | _ :: _,[],h=>by cases h
 | j :: ks,b :: bs,h=>by
  have key:okS s ks bs = true ∧ ∀ ob,nth s j = some (some ob) → b = false → Zaw ob.es = true:=by
   unfold okS at h
   split at h
   ·exact ⟨h,fun _ _ hb=>by cases hb⟩
   ·split at h
    ·rename_i ob hob
     simp only [Bool.and_eq_true] at h
     exact ⟨h.2,fun ob' ho _=>by rw [hob] at ho; obtain rfl:=Option.some.inj (Option.some.inj ho); exact h.1⟩
    ·rename_i hn
     exact ⟨h,fun ob ho=>absurd ho (hn ob)⟩
  obtain ⟨h1,h2⟩:=ZmT (f:=f) key.1
  refine ⟨?_,by simp [h2]⟩
  show _ :: ZvC f s ks bs = Option.map (Ob.rho f) (ZkK (nth s j)) :: ZhM ks f s
  rw [h1]
  congr 1
  cases hq:nth s j with
  | none=>rfl
  | some y =>
   cases y with
   | none=>rfl
   | some ob=>show some _ = some _; rw [ZlV (key.2 ob hq)]
theorem ZrP {f q:Nat → Option Nat} {s:S}:∀ {ks:List Nat} {bs:List Bool},okS s ks bs = true → ZtL f (ZhM ks q s) bs = ZtJ f (ZhM ks q s)
 | [],[],_=>rfl
 | [],_ :: _,h=>by cases h
 | _ :: _,[],h=>by cases h
 | j :: ks,b :: bs,h=>by
  have key:okS s ks bs = true ∧ ∀ ob,nth s j = some (some ob) → b = false → Zaw ob.es = true:=by
   unfold okS at h
   split at h
   ·exact ⟨h,fun _ _ hb=>by cases hb⟩
   ·split at h
    ·rename_i ob hob
     simp only [Bool.and_eq_true] at h
     exact ⟨h.2,fun ob' ho _=>by rw [hob] at ho; obtain rfl:=Option.some.inj (Option.some.inj ho); exact h.1⟩
    ·rename_i hn
     exact ⟨h,fun ob ho=>absurd ho (hn ob)⟩
  show Option.map (Ob.rhoB b f) ((ZkK (nth s j)).map (Ob.rho q)) :: ZtL f (ZhM ks q s) bs = Option.map (Ob.rho f) ((ZkK (nth s j)).map (Ob.rho q)) :: ZtJ f (ZhM ks q s)
  rw [ZrP key.1]
  congr 1
  cases hq:nth s j with
  | none=>rfl
  | some y =>
   cases y with
   | none=>rfl
   | some ob =>
    show some _ = some _
    rw [ZlV fun hb=>by rw [Zi4 (key.2 ob hq hb)]; exact key.2 ob hq hb]
def ZvP:V → List Nat
 | .arr o _ _ _=>[o]
 | .ptr o _ _ _=>[o]
 | _=>[]
def Zvb:V → List Nat
 | .fn _ caps=>caps.flatMap ZvP
 | v=>ZvP v
def ZuQ:V → List Nat
 | .agg cs=>cs.flatMap Zvb
 | v=>Zvb v
def V.refs:V → List Nat
 | .tuple vs=>vs.flatMap ZuQ
 | v=>ZuQ v
def Zwh (rl:TypeId → Bool) (s:S) (j:Nat):List Nat :=
 match nth s j with
 | some (some ob)=>(match rl ob.elem with
  | true=>[]
  | false=>ob.es.flatMap ZuQ)
 | _=>[]
def Zn7 (l:List Nat):List Nat → List Nat
 | []=>l
 | j :: m=>match l.any (Nat.beq j) with
  | true=>Zn7 l m
  | false=>Zn7 (l ++ [j]) m
def ZtO (rl:TypeId → Bool) (s:S):Nat → List Nat → List Nat
 | 0,l=>l
 | n + 1,l=>ZtO rl s n (Zn7 l (l.flatMap (Zwh rl s)))
def gcL (rl:TypeId → Bool) (n:Nat) (v:V) (s:S):List Nat :=
 (fun l=>(List.range s.length).filter fun j=>Nat.blt j n || l.any (Nat.beq j)) (ZtO rl s s.length (Zn7 (List.range n) v.refs))
def ZgE (rl:TypeId → Bool) (s:S) (ks:List Nat):List Bool :=
 ks.map fun j=>match nth s j with
  | some (some ob)=>!rl ob.elem
  | _=>true
theorem Zcx (p:Nat → Bool):∀ n,Zbq ((List.range n).filter p) = true:=by
 have key:∀ l:List Nat,l.Nodup → Zbq l = true:=by
  intro l hl
  induction l with
  | nil=>rfl
  | cons a l ih =>
   rw [List.nodup_cons] at hl
   simp only [Zbq,Bool.and_eq_true,Bool.not_eq_true']
   refine ⟨?_,ih hl.2⟩
   cases hb:l.any (Nat.beq a) with
   | false=>rfl
   | true =>
    obtain ⟨b,hb1,hb2⟩:=List.any_eq_true.1 hb
    rw [Nat.eq_of_beq_eq_true hb2] at hl
    exact absurd hb1 hl.1
 intro n
 exact key _ (List.Pairwise.filter p List.nodup_range)
theorem Zem {p:Nat → Bool} {n:Nat}:∀ {m:Nat},n ≤ m → (∀ i,i < n → p i = true) → ∀ i,i < n → nth ((List.range m).filter p) i = some i:=by
 intro m hm hp i hi
 obtain ⟨d,rfl⟩:∃ d,m = n + d:=⟨m - n,by omega⟩
 rw [List.range_add,List.filter_append,Zal]
 ·have:(List.range n).filter p = List.range n:=List.filter_eq_self.2 fun a ha=>hp a (List.mem_range.1 ha)
  rw [this,Zad,List.getElem?_range hi]
 ·have:(List.range n).filter p = List.range n:=List.filter_eq_self.2 fun a ha=>hp a (List.mem_range.1 ha)
  rw [this,List.length_range]
  exact hi
def GK {R:Type} (rl:TypeId → Bool) (n:Nat) (K:V → S → Option R):V → S → Option R:=fun v s' =>
 (fun ks=>(fun bs=>Zaf (okS s' ks bs) (K (v.rho fun j=>Zc2 ks j 0) (ZvC (fun j=>Zc2 ks j 0) s' ks bs))) (ZgE rl s' ks)) (gcL rl n v s')
def FK {R:Type} (s:S) (os:List Nat) (rl:TypeId → Bool) (K:V → S → Option R):V → S → Option R:=fun v s' =>
 (fun r=>K (v.rho (Za5 os s.length)) (Zbf s os (r.take os.length) ++ r.drop os.length)) (ZtL (Za5 os s.length) s' (Zg5 rl s'))
theorem ZhE {rl:TypeId → Bool} {f:Nat → Option Nat} {s:S}:∀ ks:List Nat,Zg5 rl (ZhM ks f s) = ZgE rl s ks
 | []=>rfl
 | j :: ks=>by
  have h:=ZhE (rl:=rl) (f:=f) (s:=s) ks
  unfold Zg5 ZhM ZgE at h ⊢
  simp only [List.map_cons]
  rw [h]
  congr 1
  cases hq:nth s j with
  | none=>rfl
  | some y=>cases y <;> rfl
def ZqJ {R:Type} (f:Fl) (x:Option R):Option R :=
 match f with
 | .bor=>none
 | _=>x
def Zwm {R:Type} (l:List V) (f:Option R):Option R :=
 match l with
 | []=>f
 | _=>none
theorem Zkg {R:Type} {l:List V} {f:Option R} {r:R} (h:Zwm l f = some r):l = [] ∧ f = some r:=by
 unfold Zwm at h
 split at h <;> first | (cases h; done) | skip
 exact ⟨rfl,h⟩
def ZpM {R:Type} (l:List V) (f:V → Option R):Option R :=
 match l with
 | [a0]=>f a0
 | _=>none
theorem ZbO {R:Type} {l:List V} {f:V → Option R} {r:R} (h:ZpM l f = some r):∃ a0,l = [a0] ∧ f a0 = some r:=by
 unfold ZpM at h
 split at h <;> first | (cases h; done) | skip
 exact ⟨_,rfl,h⟩
def Zii {R:Type} (l:List V) (f:V → V → Option R):Option R :=
 match l with
 | [a0,a1]=>f a0 a1
 | _=>none
theorem Za9 {R:Type} {l:List V} {f:V → V → Option R} {r:R} (h:Zii l f = some r):∃ a0 a1,l = [a0,a1] ∧ f a0 a1 = some r:=by
 unfold Zii at h
 split at h <;> first | (cases h; done) | skip
 exact ⟨_,_,rfl,h⟩
def Zux {R:Type} (l:List V) (f:V → V → V → Option R):Option R :=
 match l with
 | [a0,a1,a2]=>f a0 a1 a2
 | _=>none
theorem ZdH {R:Type} {l:List V} {f:V → V → V → Option R} {r:R} (h:Zux l f = some r):∃ a0 a1 a2,l = [a0,a1,a2] ∧ f a0 a1 a2 = some r:=by
 unfold Zux at h
 split at h <;> first | (cases h; done) | skip
 exact ⟨_,_,_,rfl,h⟩
def Zdq (n:Nat) (l:List Nat):List Nat:=(List.range n).filter fun k=>!l.any (Nat.beq k)
theorem Zav {P:Program} {C:Cfg} {Λ:ZaB} {c:Code} {w:List Nat} (h:Za8 c w = []):ZaR P C Λ c w :=
 ZaT c w (by rw [h]; intro p hp; cases hp)
def Zbm {R:Type} (E:List V) (t:Nat) (k:IntKind) (f:Int → Option R):Option R:=ZbA (nth E t) fun u=>asInt k u f
def ZbC {R:Type} (E:List V) (t sz:Nat) (f:List V → Fl → Option R):Option R:=ZbA (nth E t) fun u=>ZaP sz u f
theorem Zaq {R:Type} {E:List V} {t:Nat} {k:IntKind} {f:Int → Option R} {r:R} (h:Zbm E t k f = some r):∃ x,nth E t = some (.int k x) ∧ f x = some r:=by
 obtain ⟨u,h1,h2⟩:=Zae h
 obtain ⟨x,rfl,h3⟩:=Zay h2
 exact ⟨x,h1,h3⟩
theorem ZaC {R:Type} {E:List V} {t sz:Nat} {f:List V → Fl → Option R} {r:R} (h:ZbC E t sz f = some r):∃ e g,nth E t = some (.list sz e g) ∧ f e g = some r:=by
 obtain ⟨u,h1,h2⟩:=Zae h
 obtain ⟨e,g,rfl,h3⟩:=Zas h2
 exact ⟨e,g,h1,h3⟩
def ZtK {R:Type} (v:V) (K:Option R):Option R :=
 match v with
 | .nils=>K
 | _=>none
theorem Zl2 {R:Type} {v:V} {K:Option R} {r:R} (h:ZtK v K = some r):v = .nils ∧ K = some r:=by
 cases v <;> first | exact ⟨rfl,h⟩ | cases h
section
variable {P:Program} {C:Cfg}
theorem Zhc (hC:Ok P C) {Φ:Zat} (hΦ:Zab P C Φ) {Λ:ZaB} {f:FuncId} {fn:Func} {c:Code} (hf:P.funcs[f]? = some fn) (hb:fn.body = some c)
  (hn : (fn.name == "runtime.NumGoroutine") = false) (hl : ZaR P C Λ c []) (hm : C.mode f = .shared) {R : Type} {s s0 : S} {os : List Nat} {rl : TypeId → Bool} {bi : List Bool} {as0 as : List V} {K : V → S → Option R} {r : R} (hkp : ∀ n, C.kp = some n → s0.length ≤ n)
  (hd:Zbq os = true) (hat:Zl8 s (nth os) os bi s0) (hin:okI os.length bi s0 = true) (has:as = as0.map (rho1 (nth os))) (hai:as0.all (Zwo os.length) = true)
  (h:Zbw C Φ Λ f fn as0 s0 (GK rl os.length (FK s os rl K)) = some r):∃ v s',K v s' = some r ∧ ZaW P C f as s v s':=by
 obtain ⟨v,s',h1,h2⟩:=ZlJ hC hΦ hf hb hn hl hm hkp h
 unfold GK at h1
 generalize hks:gcL rl os.length v s' = ks at h1
 obtain ⟨hok,h3⟩:=Zaa h1
 obtain ⟨hl0,hS⟩:=Zno hat hin
 have hkd:Zbq ks = true:=by rw [← hks]; exact Zcx _ _
 have hk:∀ i,i < s0.length → nth ks i = some i:=by
  rw [← hks]
  exact Zem h2.2.1 fun i hi=>by
   have:Nat.blt i os.length = true:=by rw [← hl0]; simp [Nat.blt]; omega
   rw [this,Bool.true_or]
 obtain ⟨e1,e2⟩:=ZmT (f:=fun j=>Zc2 ks j 0) hok
 have h4:=h2.gc hkd hk
 have h5:=h4.frames (S:=s) hd hl0 hS (as:=as) (by rw [has]; simp) fun i a0 a ha0 ha=>by
  rw [has,ZbF ha0] at ha
  exact ⟨(Option.some.inj ha).symm,List.all_eq_true.1 hai a0 (List.mem_of_getElem? (by rw [← Zad]; exact ha0))⟩
 unfold FK at h3
 rw [e1,ZhE,ZrP hok] at h3
 exact ⟨_,_,h3,h5⟩
end
end Go.VM
