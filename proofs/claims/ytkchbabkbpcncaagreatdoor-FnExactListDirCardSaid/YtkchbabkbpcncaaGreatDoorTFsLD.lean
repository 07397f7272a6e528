/- The plain laws of the printed functions, from the bottom up to the law itself. -/
import Derived.Test.YtkchbabkbpcncaaGreatDoorX1
import Derived.Test.YtkchbabkbpcncaaGreatDoorTLib
import Derived.Test.YtkchbabkbpcncaaGreatDoorVmY
import Derived.Lib.Bytealg
import Derived.Lib.IndexLaws
set_option linter.unusedSimpArgs false
set_option linter.unusedVariables false
namespace Go.VM.VL
section loops
variable {R β:Type} {l:Nat → Nat → Option R} {len:Nat} {k0 k1:Option R}
theorem Zr5 (hs:∀ n i,i < len → l (n + 1) i = l n (i + 1)) (he:∀ n,l (n + 1) len = k1):∀ (d n i:Nat),i + d = len → d < n → l n i = k1:=by
 intro d
 induction d with
 | zero =>
  intro n i hi hn
  obtain ⟨n,rfl⟩:∃ m,n = m + 1:=⟨n - 1,by omega⟩
  obtain rfl:i = len:=by omega
  exact he n
 | succ d ih =>
  intro n i hi hn
  obtain ⟨n,rfl⟩:∃ m,n = m + 1:=⟨n - 1,by omega⟩
  rw [hs n i (by omega)]
  exact ih n (i + 1) (by omega) (by omega)
theorem ZbK (hs:∀ n i,i < len → l (n + 1) i = l n (i + 1)) (he:∀ n,l (n + 1) len = k1) {N:Nat} (hN:len < N):l N 0 = k1 :=
 Zr5 hs he len N 0 (by omega) hN
theorem ZuN {q:Nat → Option β} {kb:β → Option R} (hs:∀ n i,i < len → (∀ j,j < i → q j = none) → l (n + 1) i = match q i with | some b=>kb b | none=>l n (i + 1)) (he:(∀ j,j < len → q j = none) → ∀ n,l (n + 1) len = k1) :
  ∀ (d n i:Nat),i + d = len → d < n → (∀ j,j < i → q j = none) → l n i = match (List.range' i d).findSome? q with | some b=>kb b | none=>k1:=by
 intro d
 induction d with
 | zero =>
  intro n i hi hn hq
  obtain ⟨n,rfl⟩:∃ m,n = m + 1:=⟨n - 1,by omega⟩
  obtain rfl:i = len:=by omega
  rw [he hq n]; rfl
 | succ d ih =>
  intro n i hi hn hq
  obtain ⟨n,rfl⟩:∃ m,n = m + 1:=⟨n - 1,by omega⟩
  rw [hs n i (by omega) hq,List.range'_succ,List.findSome?_cons]
  cases h:q i with
  | none=>exact ih n (i + 1) (by omega) (by omega) fun j hj=>(by
    rcases Nat.lt_or_ge j i with h2 | h2
    ·exact hq j h2
    ·obtain rfl:j = i:=by omega
     exact h)
  | some b=>rfl
theorem Zb6 {q:Nat → Option β} {kb:β → Option R} (hs:∀ n i,i < len → (∀ j,j < i → q j = none) → l (n + 1) i = match q i with | some b=>kb b | none=>l n (i + 1)) (he:(∀ j,j < len → q j = none) → ∀ n,l (n + 1) len = k1) {N:Nat} (hN:len < N) :
  l N 0 = match (List.range' 0 len).findSome? q with | some b=>kb b | none=>k1 :=
 ZuN hs he len N 0 (by omega) hN fun j hj=>absurd hj (by omega)
theorem ZcF {p:Nat → Bool} (hs:∀ n i,i < len → (∀ j,j < i → p j = true) → l (n + 1) i = if p i then l n (i + 1) else k0) (he:(∀ j,j < len → p j = true) → ∀ n,l (n + 1) len = k1) {N:Nat} (hN:len < N) :
  l N 0 = if (List.range' 0 len).all p then k1 else k0:=by
 have:=Zb6 (l:=l) (len:=len) (k1:=k1) (q:=fun i=>if p i then none else some ()) (kb:=fun _=>k0)
  (fun n i hi hq=>by
   rw [hs n i hi fun j hj=>by
    have:=hq j hj
    cases hp:p j with
    | true=>rfl
    | false=>simp [hp] at this]
   cases p i <;> rfl)
  (fun hq n=>he (fun j hj=>by
   have:=hq j hj
   cases hp:p j with
   | true=>rfl
   | false=>simp [hp] at this) n) hN
 rw [this]
 generalize List.range' 0 len = L
 clear this hs he
 induction L with
 | nil=>rfl
 | cons a L ih =>
  rw [List.findSome?_cons,List.all_cons]
  cases hp:p a with
  | false=>simp
  | true=>simpa using ih
theorem ZbA {p:Nat → Bool} {len:Nat}:(List.range' 0 len).all p = true ↔ ∀ i,i < len → p i = true:=by
 rw [List.all_eq_true]
 exact ⟨fun h i hi=>h i (by rw [List.mem_range']; exact ⟨i,hi,by omega⟩),fun h i hi=>by
  rw [List.mem_range'] at hi
  obtain ⟨j,hj,rfl⟩:=hi
  exact h _ (by omega)⟩
theorem Zja {q:Nat → Option β} {len:Nat}:(List.range' 0 len).findSome? q = none ↔ ∀ i,i < len → q i = none:=by
 rw [List.findSome?_eq_none_iff]
 exact ⟨fun h i hi=>h i (by rw [List.mem_range']; exact ⟨i,hi,by omega⟩),fun h i hi=>by
  rw [List.mem_range'] at hi
  obtain ⟨j,hj,rfl⟩:=hi
  exact h _ (by omega)⟩
end loops
theorem ZdX {α β:Type} (f:α → β) (l:List α) (i:Nat):nth (l.map f) i = (nth l i).map f:=by rw [Zal,Zal,List.getElem?_map]
theorem ZhP {α β:Type} (f:α → β) (l:List α) (i:Nat) (v:α):Zav (l.map f) i (f v) = (Zav l i v).map f:=by rw [Zbg,Zbg,List.map_set]
theorem Ze6 {α:Type} {l:List α} {i:Nat} (h:i < l.length):nth l i = some l[i]:=by rw [Zal,List.getElem?_eq_getElem h]
theorem ZfH {α:Type} {l:List α} {i:Nat} {v:α} (h:i < l.length):nth (Zav l i v) i = some v:=by rw [Zal,Zbg,List.getElem?_set_self h]
theorem ZcK {α:Type} {f:α → Option α}:∀ {l:List α},(∀ v ∈ l,f v = some v) → Zbb f l = some l
 | [],_=>rfl
 | a :: l,h=>by
  simp only [Zbb,h a (by simp),ZcK (l:=l) fun v hv=>h v (by simp [hv])]
def inR (a b c:Int):Bool:=decide (b ≤ a) && decide (a ≤ c)
theorem Zce {a b c:Int}:inR a b c = true ↔ b ≤ a ∧ a ≤ c:=by simp [inR]
theorem Zaz {i:Nat} (h:i < 9223372036854775807):IntKind.i64.wrap ((i:Int) + 1) = ((i + 1:Nat):Int):=by
 rw [ZbH (by omega) (by omega)]; rfl
theorem Zbf {i n:Nat} (h:i < n):decide ((i:Int) < (n:Int)) = true:=decide_eq_true (by omega)
abbrev Ent:=ByteArray × Int
structure Nod where
 kind:Int
 mode:Int
 uid:Int
 gid:Int
 time:Int
 data:ByteArray
 es:List Ent
instance:Inhabited Nod:=⟨⟨0,0,0,0,0,ByteArray.mk #[],[]⟩⟩
instance:Inhabited Ent:=⟨(ByteArray.mk #[],0)⟩
def ZDd (e:Ent):V:=.agg [.str e.1,.int .i64 e.2]
def Zbv (l:List Ent):List V:=l.map ZDd
def ZLf (fq:Fl) (n:Nod):V:=.agg [.int .i64 n.kind,.int .i64 n.mode,.int .i64 n.uid,.int .i64 n.gid,.int .i64 n.time,.str n.data,.list 2 (Zbv n.es) fq]
def nodsV (fq:Fl) (l:List Nod):List V:=l.map (ZLf fq)
def ZaK (l:List ByteArray):List V:=l.map V.str
def ZKv (l:List Int):List V:=l.map (V.int .i64)
def at_ {α:Type} [Inhabited α] (l:List α) (i:Nat):α:=l.getD i default
theorem Zb2 {α:Type} [Inhabited α] {l:List α} {i:Nat} (h:i < l.length):at_ l i = l[i]:=by
 simp [at_,List.getD_eq_getElem?_getD,List.getElem?_eq_getElem h]
theorem Zgm {α:Type} [Inhabited α] {l:List α} {i:Nat} (h:i < l.length):at_ l i ∈ l:=by rw [Zb2 h]; exact List.getElem_mem h
theorem Zbr (l:List Ent):(Zbv l).length = l.length:=by simp [Zbv]
variable {fq:Fl}
theorem ZbP (l:List Nod):(nodsV fq l).length = l.length:=by simp [nodsV]
theorem Zbi (l:List ByteArray):(ZaK l).length = l.length:=by simp [ZaK]
theorem ZPV (l:List Int):(ZKv l).length = l.length:=by simp [ZKv]
theorem ZbQ {l:List Ent} {i:Nat} (h:i < l.length):nth (Zbv l) i = some (ZDd (at_ l i)):=by rw [Zbv,ZdX,Ze6 h,Zb2 h]; rfl
theorem Zbj {l:List Nod} {i:Nat} (h:i < l.length):nth (nodsV fq l) i = some (ZLf fq (at_ l i)):=by rw [nodsV,ZdX,Ze6 h,Zb2 h]; rfl
theorem ZcQ {l:List ByteArray} {i:Nat} (h:i < l.length):nth (ZaK l) i = some (.str (at_ l i)):=by rw [ZaK,ZdX,Ze6 h,Zb2 h]; rfl
theorem ZP0 {l:List Int} {i:Nat} (h:i < l.length):nth (ZKv l) i = some (.int .i64 (at_ l i)):=by rw [ZKv,ZdX,Ze6 h,Zb2 h]; rfl
variable {R:Type}
theorem ZC1 (e:Ent) (k:ByteArray → Int → Option R):Zci (ZDd e) k = k e.1 e.2:=rfl
theorem Zcy (e:Ent) (k:ByteArray → Int → Option R):Za1 (ZDd e) k = k e.1 e.2:=rfl
theorem ZFo (n:Nod) (k:Int → Int → Int → Int → Int → ByteArray → List V → Fl → Option R):Zcr (ZLf fq n) k = k n.kind n.mode n.uid n.gid n.time n.data (Zbv n.es) fq:=rfl
theorem ZbD (n:Nod) (k:Int → Int → Int → Int → Int → ByteArray → List V → Fl → Option R):ZaB (ZLf fq n) k = k n.kind n.mode n.uid n.gid n.time n.data (Zbv n.es) fq:=rfl
theorem Zag (v:V) (k:V → Option R):Zbt (some v) k = k v:=rfl
theorem Zdh (b:ByteArray) (k:ByteArray → Option R):Zby (.str b) k = k b:=rfl
theorem Zfk (n:Int) (k:Int → Option R):asInt .i64 (.int .i64 n) k = k n:=rfl
theorem ZlH (b:Bool) (k:Bool → Option R):asBool (.bool b) k = k b:=rfl
def Zbw (g:Nat → Nat):Nat → Nat
 | 0=>0
 | n + 1=>Zbw g n + g n
theorem Zgd (g:Nat → Nat):∀ {a b:Nat},a ≤ b → Zbw g a ≤ Zbw g b:=by
 intro a b h
 induction b with
 | zero =>
  obtain rfl:a = 0:=by omega
  exact Nat.le_refl _
 | succ b ih =>
  rcases Nat.lt_or_ge a (b + 1) with h2 | h2
  ·exact Nat.le_trans (ih (by omega)) (Nat.le_add_right _ _)
  ·obtain rfl:a = b + 1:=by omega
   exact Nat.le_refl _
theorem Zyn (g:Nat → Nat) {i n:Nat} (h:i < n):g i ≤ Zbw g n:=Nat.le_trans (Nat.le_add_left _ _) (Zgd g (a:=i + 1) h)
def ZjS (l:List Ent):Nat:=l.length + Zbw (fun i=>(at_ l i).1.size) l.length
def ZgC (n:Nod):Nat:=n.data.size + ZjS n.es
def ZKN (l:List Nod):Nat:=l.length + Zbw (fun i=>ZgC (at_ l i)) l.length
def ZPs (n:Nod):Prop:=n.data.size ≤ 9223372036854775807 ∧ n.es.length ≤ 9223372036854775807 ∧ ∀ i,i < n.es.length → (at_ n.es i).1.size ≤ 9223372036854775807
def FsOk (l:List Nod):Prop:=l.length ≤ 9223372036854775807 ∧ ∀ i,i < l.length → ZPs (at_ l i)
def left (x:Int) (n:Nat):Int:=if (n:Int) ≤ x then x - n else -1
theorem ZjE {x:Int} {n:Nat} (h:(n:Int) ≤ x):left x n = x - n:=if_pos h
theorem Zfd {x:Int} {n:Nat} (h:¬ (n:Int) ≤ x):left x n = -1:=if_neg h
variable (N:Nat)
theorem ZGb (w:ByteArray) (n x:Int) (hw:w.size ≤ 9223372036854775807) (h0:0 ≤ x) (h1:x ≤ 1048576) (k:Int → Option R):ZGR N w n x k = k (left x w.size):=by
 rw [ZwV]
 unfold ZrJ left
 rw [ZbH (by omega) (by omega)]
 by_cases h:(w.size:Int) ≤ x
 ·rw [decide_eq_false (by omega),if_pos h]
 ·rw [decide_eq_true (by omega),if_neg h]
theorem ZzU {l:List Ent} (hl:l.length ≤ 9223372036854775807) (hz:∀ i,i < l.length → (at_ l i).1.size ≤ 9223372036854775807) (hN:1048576 < N) (f:Fl) (x:Int) (h0:0 ≤ x) (h1:x ≤ 1048576) (k:Int → Option R) :
  ZIn N (Zbv l) f x k = k (left x (ZjS l)):=by
 rw [ZyT]
 unfold Zq6
 rw [Zbr,ZbH (by omega) (by omega)]
 by_cases h:(l.length:Int) ≤ x
 ·rw [decide_eq_false (by omega)]
  let g:=fun i=>(at_ l i).1.size
  have ge:∀ i,Zbw g (i + 1) = Zbw g i + (at_ l i).1.size:=fun i=>rfl
  have e0:x - (l.length:Int) = x - l.length - (Zbw g 0:Nat):=by simp [Zbw]
  show ZfI N (Zbv l) f (fun _=>k (-1)) (fun x=>k x) N (x - l.length) 0 = _
  rw [e0]
  refine (ZcF (l:=fun n i=>ZfI N (Zbv l) f (fun _=>k (-1)) (fun x=>k x) n (x - l.length - Zbw g i) (i:Int)) (len:=l.length)
   (p:=fun i=>decide (0 ≤ x - l.length - Zbw g (i + 1))) (k0:=k (-1)) (k1:=k (x - l.length - Zbw g l.length)) ?_ ?_ (show l.length < N by omega)).trans ?_
  ·intro n i hi hq
   have hn:0 ≤ x - l.length - Zbw g i:=by
    cases i with
    | zero=>simp only [Zbw]; omega
    | succ i=>exact of_decide_eq_true (hq i (by omega))
   simp only [ZfI,ZdP,Zbr,Zbf hi,Int.natCast_nonneg,if_true,Int.toNat_natCast,ZbQ hi,Zag,ZC1]
   rw [ZGb N _ _ _ (hz i hi) hn (by omega)]
   simp only [ge]
   by_cases h3:((at_ l i).1.size:Int) ≤ x - l.length - Zbw g i
   ·rw [ZjE h3,decide_eq_true (p:=0 ≤ _) (by omega),decide_eq_false (by omega),Zaz (i:=i) (by omega)]
    simp only [Int.natCast_add,Int.sub_sub,Int.add_assoc,if_true]
   ·rw [Zfd h3,decide_eq_false (p:=0 ≤ _) (by omega)]
    simp
  ·intro _ n
   simp only [ZfI,ZdP,Zbr,Int.lt_irrefl,decide_false]
  ·have hall:(List.range' 0 l.length).all (fun i=>decide (0 ≤ x - l.length - Zbw g (i + 1))) = decide (0 ≤ x - l.length - Zbw g l.length):=by
    rw [Bool.eq_iff_iff,ZbA]
    constructor
    ·intro hq
     rcases Nat.eq_zero_or_pos l.length with hz0 | hz0
     ·have e1:Zbw g l.length = 0:=by rw [hz0]; rfl
      rw [e1]
      exact decide_eq_true (by omega)
     ·obtain ⟨m,hm⟩:∃ m,l.length = m + 1:=⟨l.length - 1,by omega⟩
      have:=hq m (by omega)
      rwa [← hm] at this
    ·intro hq i hi
     have:=of_decide_eq_true hq
     have:=Zgd g (a:=i + 1) (b:=l.length) (by omega)
     exact decide_eq_true (by omega)
   rw [hall]
   have e:ZjS l = l.length + Zbw g l.length:=rfl
   simp only [left,e]
   by_cases h4:0 ≤ x - l.length - Zbw g l.length
   ·rw [decide_eq_true h4,if_pos rfl,if_pos (by omega)]
    simp only [Int.natCast_add,Int.sub_sub]
   ·rw [decide_eq_false h4,if_neg (by simp),if_neg (by omega)]
 ·rw [decide_eq_true (by omega)]
  rw [Zfd]
  unfold ZjS
  omega
theorem ZIm {n:Nod} (hn:ZPs n) (hN:1048576 < N) (f:Fl) (x:Int) (h0:0 ≤ x) (h1:x ≤ 1048576) (k:Int → Option R) :
  ZJC N n.kind n.mode n.uid n.gid n.time n.data (Zbv n.es) f x k = k (left x (ZgC n)):=by
 rw [Zy3]
 unfold ZsZ ZgC
 have:=hn.1
 rw [ZbH (by omega) (by omega)]
 by_cases h:(n.data.size:Int) ≤ x
 ·rw [decide_eq_false (by omega)]
  simp only
  rw [ZzU N hn.2.1 hn.2.2 hN _ _ (by omega) (by omega)]
  by_cases h2:(ZjS n.es:Int) ≤ x - n.data.size
  ·rw [ZjE h2,ZjE (by omega),decide_eq_false (by omega)]
   simp only [Int.natCast_add,Int.sub_sub]
  ·rw [Zfd h2,Zfd (by omega)]
   rfl
 ·rw [decide_eq_true (by omega),Zfd (by omega)]
theorem ZEq {l:List Nod} (hl:FsOk l) (hN:1048576 < N) (f:Fl) (x:Int) (h0:0 ≤ x) (h1:x ≤ 1048576) (k:Int → Option R) :
  ZH7 N (nodsV fq l) f x k = k (left x (ZKN l)):=by
 rw [Zy9]
 unfold ZsL
 have hll:=hl.1
 rw [ZbP,ZbH (by omega) (by omega)]
 by_cases h:(l.length:Int) ≤ x
 ·rw [decide_eq_false (by omega)]
  let g:=fun i=>ZgC (at_ l i)
  have ge:∀ i,Zbw g (i + 1) = Zbw g i + ZgC (at_ l i):=fun i=>rfl
  have e0:x - (l.length:Int) = x - l.length - (Zbw g 0:Nat):=by simp [Zbw]
  show Zfo N (nodsV fq l) f (fun _=>k (-1)) (fun x=>k x) N (x - l.length) 0 = _
  rw [e0]
  refine (ZcF (l:=fun n i=>Zfo N (nodsV fq l) f (fun _=>k (-1)) (fun x=>k x) n (x - l.length - Zbw g i) (i:Int)) (len:=l.length)
   (p:=fun i=>decide (0 ≤ x - l.length - Zbw g (i + 1))) (k0:=k (-1)) (k1:=k (x - l.length - Zbw g l.length)) ?_ ?_ (show l.length < N by omega)).trans ?_
  ·intro n i hi hq
   have hn:0 ≤ x - l.length - Zbw g i:=by
    cases i with
    | zero=>simp only [Zbw]; omega
    | succ i=>exact of_decide_eq_true (hq i (by omega))
   simp only [Zfo,ZdE,ZbP,Zbf hi,Int.natCast_nonneg,if_true,Int.toNat_natCast,Zbj hi,Zag,ZFo]
   rw [ZIm N (hl.2 i hi) hN _ _ hn (by omega)]
   simp only [ge]
   by_cases h3:(ZgC (at_ l i):Int) ≤ x - l.length - Zbw g i
   ·rw [ZjE h3,decide_eq_true (p:=0 ≤ _) (by omega),decide_eq_false (by omega),Zaz (i:=i) (by omega)]
    simp only [Int.natCast_add,Int.sub_sub,Int.add_assoc,if_true]
   ·rw [Zfd h3,decide_eq_false (p:=0 ≤ _) (by omega)]
    simp
  ·intro _ n
   simp only [Zfo,ZdE,ZbP,Int.lt_irrefl,decide_false]
  ·have hall:(List.range' 0 l.length).all (fun i=>decide (0 ≤ x - l.length - Zbw g (i + 1))) = decide (0 ≤ x - l.length - Zbw g l.length):=by
    rw [Bool.eq_iff_iff,ZbA]
    constructor
    ·intro hq
     rcases Nat.eq_zero_or_pos l.length with hz0 | hz0
     ·have e1:Zbw g l.length = 0:=by rw [hz0]; rfl
      rw [e1]
      exact decide_eq_true (by omega)
     ·obtain ⟨m,hm⟩:∃ m,l.length = m + 1:=⟨l.length - 1,by omega⟩
      have:=hq m (by omega)
      rwa [← hm] at this
    ·intro hq i hi
     have:=of_decide_eq_true hq
     have:=Zgd g (a:=i + 1) (b:=l.length) (by omega)
     exact decide_eq_true (by omega)
   rw [hall]
   have e:ZKN l = l.length + Zbw g l.length:=rfl
   simp only [left,e]
   by_cases h4:0 ≤ x - l.length - Zbw g l.length
   ·rw [decide_eq_true h4,if_pos rfl,if_pos (by omega)]
    simp only [Int.natCast_add,Int.sub_sub]
   ·rw [decide_eq_false h4,if_neg (by simp),if_neg (by omega)]
 ·rw [decide_eq_true (by omega)]
  rw [Zfd]
  unfold ZKN
  omega
theorem ZOG {l:List Nod} (hl:FsOk l) (hN:1048576 < N) (f:Fl) (room x:Int) (h0:0 ≤ x) (h1:x ≤ 1048576) (k:Int → Option R) :
  ZJ7 N (nodsV fq l) f room x k = k (left x (ZKN l)):=by
 rw [ZyE]
 unfold Zsx
 rw [ZEq N hl hN _ _ h0 h1]
 by_cases h:(ZKN l:Int) ≤ x
 ·rw [ZjE h,decide_eq_false (by omega)]
 ·rw [Zfd h]; rfl
structure Small (l:List Nod):Prop where
 len:l.length ≤ 1048576
 data:∀ i,i < l.length → (at_ l i).data.size ≤ 1048576
 es:∀ i,i < l.length → (at_ l i).es.length ≤ 1048576
 sum:Zbw (fun i=>(at_ l i).data.size) l.length ≤ 1048576
 ents:Zbw (fun i=>(at_ l i).es.length) l.length ≤ 1048576
 name:∀ i,i < l.length → ∀ j,j < (at_ l i).es.length → (at_ (at_ l i).es j).1.size ≤ 1048576
theorem ZeO {g h:Nat → Nat} (hg:∀ i,g i ≤ h i):∀ n,Zbw g n ≤ Zbw h n
 | 0=>Nat.le_refl _
 | n + 1=>Nat.add_le_add (ZeO hg n) (hg n)
theorem Small.of {l:List Nod} (h:ZKN l ≤ 1048576):Small l:=by
 unfold ZKN at h
 have h1:∀ i,i < l.length → ZgC (at_ l i) ≤ 1048576:=fun i hi=>Nat.le_trans (Zyn (fun i=>ZgC (at_ l i)) hi) (by omega)
 refine ⟨by omega,fun i hi=>?_,fun i hi=>?_,?_,?_,fun i hi j hj=>?_⟩
 ·have:=h1 i hi; unfold ZgC at this; omega
 ·have:=h1 i hi; unfold ZgC ZjS at this; omega
 ·have:=ZeO (g:=fun i=>(at_ l i).data.size) (h:=fun i=>ZgC (at_ l i)) (fun i=>by simp only [ZgC]; omega) l.length
  omega
 ·have:=ZeO (g:=fun i=>(at_ l i).es.length) (h:=fun i=>ZgC (at_ l i)) (fun i=>by simp only [ZgC,ZjS]; omega) l.length
  omega
 ·have:=h1 i hi
  unfold ZgC ZjS at this
  have:=Zyn (fun j=>(at_ (at_ l i).es j).1.size) hj
  omega
end Go.VM.VL
set_option linter.unusedSimpArgs false
set_option linter.unusedVariables false
namespace Go.VM.VL
def Zee (xs:List V) (z:V) (i:Nat):List V:=xs.take i ++ List.replicate (xs.length - i) z
theorem ZDp (xs:List V) (z:V) {i:Nat} (h:i ≤ xs.length):(Zee xs z i).length = xs.length:=by
 simp only [Zee,List.length_append,List.length_take,List.length_replicate]; omega
theorem ZiA (xs:List V) (z:V) {i:Nat} (h:i < xs.length):nth (Zee xs z i) i = some z:=by
 rw [Zal,Zee,List.getElem?_append_right (by simp only [List.length_take]; omega)]
 rw [List.getElem?_replicate,if_pos (by simp; omega)]
theorem ZfL (xs:List V) (z v:V) {i:Nat} (h:i < xs.length) (hv:nth xs i = some v):Zav (Zee xs z i) i v = Zee xs z (i + 1):=by
 have hv':xs[i]? = some v:=by rw [← Zal]; exact hv
 rw [Zbg]
 apply List.ext_getElem?
 intro j
 rw [List.getElem?_set]
 have hlen:=ZDp xs z (i:=i) (by omega)
 have hT:(xs.take i).length = i:=by simp; omega
 have hT2:(xs.take (i + 1)).length = i + 1:=by simp; omega
 by_cases hij:i = j
 ·subst hij
  rw [if_pos rfl,if_pos (by omega)]
  unfold Zee
  rw [List.getElem?_append_left (by omega),List.getElem?_take_of_lt (by omega),hv']
 ·rw [if_neg hij]
  unfold Zee
  rcases Nat.lt_or_ge j i with h2 | h2
  ·rw [List.getElem?_append_left (by omega),List.getElem?_append_left (by omega),List.getElem?_take_of_lt (by omega),List.getElem?_take_of_lt (by omega)]
  ·rw [List.getElem?_append_right (by omega),List.getElem?_append_right (by omega),List.getElem?_replicate,List.getElem?_replicate,hT,hT2]
   by_cases h3:j - i < xs.length - i
   ·rw [if_pos h3,if_pos (by omega)]
   ·rw [if_neg h3,if_neg (by omega)]
theorem ZjF (xs:List V) (z:V):Zee xs z 0 = List.replicate xs.length z:=by simp [Zee]
theorem Zk6 (xs:List V) (z:V):Zee xs z xs.length = xs:=by simp [Zee]
variable {R:Type} (N:Nat) {fq:Fl}
abbrev uE:TypeId:=51
def ZLQ (n:Nod):V:=.agg [.int .i64 n.kind,.int .i64 n.mode,.int .i64 n.uid,.int .i64 n.gid,.int .i64 n.time,.str n.data,.uni uE 2 (Zbv n.es)]
def Zcu (l:List Nod):List V:=l.map ZLQ
theorem Zhr (l:List Nod):(Zcu l).length = l.length:=by simp [Zcu]
theorem Zlw {l:List Nod} {i:Nat} (h:i < l.length):nth (Zcu l) i = some (ZLQ (at_ l i)):=by rw [Zcu,ZdX,Ze6 h,Zb2 h]; rfl
theorem map_id {f:V → V} {l:List V} (h:∀ v ∈ l,f v = v):l.map f = l:=by
 conv=>rhs; rw [← List.map_id l]
 exact List.map_congr_left h
theorem ZCL (l:List Nod):(Zcu l).map V.unis = nodsV .sh l:=by
 rw [Zcu,nodsV,List.map_map]; rfl
theorem ZEc (l:List Nod):(Zcu l).map V.unil = nodsV .bor l:=by
 rw [Zcu,nodsV,List.map_map]; rfl
theorem ZFX (l:List Nod):(nodsV fq l).map V.lent = nodsV .bor l:=by
 rw [nodsV,nodsV,List.map_map]; rfl
theorem ZlG (n:Nat) (l:List Nod):(Zcu l).map (trimV n) = Zcu l:=map_id fun v hv=>by
 obtain ⟨e,_,rfl⟩:=List.mem_map.1 hv; rfl
theorem ZFT (l:List ByteArray):(ZaK l).map V.unis = ZaK l:=map_id fun v hv=>by
 obtain ⟨e,_,rfl⟩:=List.mem_map.1 hv; rfl
theorem ZDJ (l:List ByteArray):(ZaK l).map V.unil = ZaK l:=map_id fun v hv=>by
 obtain ⟨e,_,rfl⟩:=List.mem_map.1 hv; rfl
theorem ZPZ (l:List ByteArray):(ZaK l).map V.lent = ZaK l:=map_id fun v hv=>by
 obtain ⟨e,_,rfl⟩:=List.mem_map.1 hv; rfl
theorem Zqf (n:Nat) (l:List ByteArray):(ZaK l).map (trimV n) = ZaK l:=map_id fun v hv=>by
 obtain ⟨e,_,rfl⟩:=List.mem_map.1 hv; rfl
theorem ZGk (s:S) (n:Nat) (l:List Nod):Zbb (freeze false s (n + 2)) (nodsV .sh l) = some (nodsV .sh l):=ZcK fun v hv=>by
 obtain ⟨e,_,rfl⟩:=List.mem_map.1 hv; rfl
theorem ZEv (s:S) (n:Nat) (l:List Nod):Zbb (freeze true s (n + 2)) (nodsV .bor l) = some (nodsV .bor l):=ZcK fun v hv=>by
 obtain ⟨e,_,rfl⟩:=List.mem_map.1 hv; rfl
theorem ZKa (b:Bool) (s:S) (n:Nat) (l:List ByteArray):Zbb (freeze b s (n + 1)) (ZaK l) = some (ZaK l):=ZcK fun v hv=>by
 obtain ⟨e,_,rfl⟩:=List.mem_map.1 hv; rfl
theorem Zqm (l:List Ent):Zb1 (Zbv l) = true:=by
 unfold Zb1
 rw [List.all_eq_true]; intro v hv
 obtain ⟨e,_,rfl⟩:=List.mem_map.1 hv
 rfl
theorem ZmE (l:List Ent):ZaE (Zbv l) = true:=by
 unfold ZaE
 rw [List.all_eq_true]; intro v hv
 obtain ⟨e,_,rfl⟩:=List.mem_map.1 hv
 rfl
theorem Zrl (l:List Ent):(Zbv l).all V.scalE = true:=by
 rw [List.all_eq_true]; intro v hv
 obtain ⟨e,_,rfl⟩:=List.mem_map.1 hv
 rfl
theorem Zp5 (l:List Nod):Zb1 (Zcu l) = true:=by
 unfold Zb1
 rw [List.all_eq_true]; intro v hv
 obtain ⟨e,_,rfl⟩:=List.mem_map.1 hv
 rfl
theorem Zji (l:List Nod):ZaE (Zcu l) = true:=by
 unfold ZaE
 rw [List.all_eq_true]; intro v hv
 obtain ⟨e,_,rfl⟩:=List.mem_map.1 hv
 rfl
theorem ZF7 (l:List ByteArray):Zb1 (ZaK l) = true:=by
 unfold Zb1
 rw [List.all_eq_true]; intro v hv
 obtain ⟨e,_,rfl⟩:=List.mem_map.1 hv
 rfl
theorem Zf2 (l:List ByteArray):ZaE (ZaK l) = true:=by
 unfold ZaE
 rw [List.all_eq_true]; intro v hv
 obtain ⟨e,_,rfl⟩:=List.mem_map.1 hv
 rfl
theorem Zhj {α:Type} (l:List α) {n:Nat} (h:l.length = n):(l.drop 0).take n = l:=by
 rw [List.drop_zero,List.take_of_length_le (by omega)]
theorem ZMX (l:List Ent):(Zbv l).all V.plain = true:=by
 rw [List.all_eq_true]; intro v hv
 obtain ⟨e,_,rfl⟩:=List.mem_map.1 hv
 rfl
theorem ZBv (l:List Nod):(nodsV .sh l).all V.plain = true:=by
 rw [List.all_eq_true]; intro v hv
 obtain ⟨e,_,rfl⟩:=List.mem_map.1 hv
 rfl
theorem ZGH (w:ByteArray) (n:Int) (k:ByteArray → Int → Option R):ZHq N w n k = k w n:=by rw [Zx0]; rfl
theorem ZAR {l:List Ent} (hl:l.length ≤ 1048576) (hN:1048576 < N) (f:Fl) (z:V) (hp:∀ e:Ent,ZaM z 0 [.str e.1,.int .i64 e.2] = some (ZDd e)) (k0:List V → Option R) :
  ZfR N (Zbv l) f l.length k0 N 0 (List.replicate l.length z) = k0 (Zbv l):=by
 have e0:List.replicate l.length z = Zee (Zbv l) z 0:=by rw [ZjF,Zbr]
 rw [e0]
 refine ZbK (l:=fun n i=>ZfR N (Zbv l) f l.length k0 n (i:Int) (Zee (Zbv l) z i)) (len:=l.length) (k1:=k0 (Zbv l)) ?_ ?_ (show l.length < N by omega)
 ·intro n i hi
  have hi':i < (Zbv l).length:=by rw [Zbr]; exact hi
  simp only [ZfR,ZdI,Zbr,Zbf hi,Int.natCast_nonneg,if_true,Int.toNat_natCast,ZbQ hi,Zag,ZC1,ZGH,Nat.zero_add,ZiA _ _ hi',hp]
  rw [if_pos ⟨trivial,by omega⟩,Zaz (i:=i) (by omega),← ZfL (Zbv l) z _ hi' (ZbQ hi)]
 ·intro n
  simp only [ZfR,ZdI,Zbr,Int.lt_irrefl,decide_false]
  rw [show Zee (Zbv l) z l.length = Zbv l by rw [← Zbr l]; exact Zk6 _ _]
theorem ZBE {l:List Ent} (hl:l.length ≤ 1048576) (hN:1048576 < N) (f:Fl) (k:Nat → List V → Option R):ZIA N (Zbv l) f k = k l.length (Zbv l):=by
 rw [Zy2]
 unfold Zrg
 rw [Zbr,if_pos ⟨by omega,rfl,by omega⟩,Int.toNat_natCast]
 refine (ZAR N hl hN f _ (fun e=>rfl) _).trans ?_
 simp only [Zqm,Bool.and_true,Zaj]
theorem ZHf {n:Nod} (hl:n.es.length ≤ 1048576) (hN:1048576 < N) (f:Fl) (k:Int → Int → Int → Int → Int → ByteArray → Nat → List V → Option R) :
  ZIt N n.kind n.mode n.uid n.gid n.time n.data (Zbv n.es) f k = k n.kind n.mode n.uid n.gid n.time n.data n.es.length (Zbv n.es):=by
 rw [Zw1]; unfold Zs6; rw [ZBE N hl hN]; simp only [Zqm,Bool.and_true,Zaj]
theorem ZEk {f:V → V} {xs:List V} {z:V} (hx:∀ v ∈ xs,f v = v) (hz:f z = z) (i:Nat):(Zee xs z i).map f = Zee xs z i:=map_id fun v hv=>by
 rcases List.mem_append.1 hv with h | h
 ·exact hx v (List.mem_of_mem_take h)
 ·rw [(List.mem_replicate.1 h).2]; exact hz
theorem ZCY (n:Nat) (l:List Nod):∀ v ∈ Zcu l,trimV n v = v:=fun v hv=>by
 obtain ⟨e,_,rfl⟩:=List.mem_map.1 hv; rfl
theorem ZDl {l:List Nod} (hl:Small l) (hN:1048576 < N) (f:Fl) (z:V) (hz:trimV 1 z = z) (hp:∀ n:Nod,ZaM z 0 [.int .i64 n.kind,.int .i64 n.mode,.int .i64 n.uid,.int .i64 n.gid,.int .i64 n.time,.str n.data,.uni uE 2 (Zbv n.es)] = some (ZLQ n)) (k0:List V → Option R) :
  Zfl N (nodsV fq l) f l.length k0 N 0 (List.replicate l.length z) = k0 (Zcu l):=by
 have hll:=hl.len
 have e0:List.replicate l.length z = Zee (Zcu l) z 0:=by rw [ZjF,Zhr]
 rw [e0]
 refine ZbK (l:=fun n i=>Zfl N (nodsV fq l) f l.length k0 n (i:Int) (Zee (Zcu l) z i)) (len:=l.length) (k1:=k0 (Zcu l)) ?_ ?_ (show l.length < N by omega)
 ·intro n i hi
  have hi':i < (Zcu l).length:=by rw [Zhr]; exact hi
  simp only [Zfl,Zc9,ZbP,Zbf hi,Int.natCast_nonneg,if_true,Int.toNat_natCast,Zbj hi,Zag,ZFo,ZHf N (hl.es i hi) hN,Nat.zero_add,ZiA _ _ hi',Zhj _ (Zbr _),hp]
  rw [if_pos ⟨trivial,by omega⟩]
  simp only [Zbr,Nat.le_refl,decide_true,Zrl,Zaj]
  rw [Zaz (i:=i) (by omega),← ZfL (Zcu l) z _ hi' (Zlw hi),ZfL (Zcu l) z _ hi' (Zlw hi),ZEk (ZCY 1 l) hz]
 ·intro n
  simp only [Zfl,Zc9,ZbP,Int.lt_irrefl,decide_false]
  rw [show Zee (Zcu l) z l.length = Zcu l by rw [← Zhr l]; exact Zk6 _ _,ZlG]
theorem ZFQ {l:List Nod} (hl:Small l) (hN:1048576 < N) (f:Fl) (k:Nat → List V → Option R):ZI8 N (nodsV fq l) f k = k l.length (Zcu l):=by
 rw [ZyO]
 unfold ZsB
 have hll:=hl.len
 rw [ZbP,if_pos ⟨by omega,rfl,by omega⟩,Int.toNat_natCast]
 refine (ZDl N hl hN f _ rfl (fun n=>rfl) _).trans ?_
 simp only [Zp5,Bool.and_true,Zaj]
theorem ZOu {l:List Nod} (hl:Small l) (hN:1048576 < N) (f:Fl) (room:Int) (k:Nat → Int → List V → Option R):Zvr N (nodsV fq l) f room k = k l.length room (Zcu l):=by
 rw [Zx6]; unfold ZrK; rw [ZFQ N hl hN]; simp only [Zp5,Bool.and_true,Zaj]
theorem ZI3 (a b:Int) (k:Int → Int → Option R):ZAL N a b k = k a b:=by rw [Zzx]; rfl
theorem ZDM (w:ByteArray) (n:Int) (k:Bool → Option R):ZHy N w n w n k = k true:=by
 rw [Zyx]; unfold Zq1; simp
theorem ZCi {l:List Ent} (hl:l.length ≤ 1048576) (hN:1048576 < N) (f g:Fl) (k:Bool → Option R):ZHT N (Zbv l) f (Zbv l) g k = k true:=by
 rw [ZwR]
 unfold Zrk
 simp only [bne_self_eq_false]
 refine ZbK (l:=fun n i=>Zhd N (Zbv l) f (Zbv l) g (fun _=>k false) (fun _=>k true) n (i:Int)) (len:=l.length) (k1:=k true) ?_ ?_ (show l.length < N by omega)
 ·intro n i hi
  simp only [Zhd,ZdH,Zbr,Zbf hi,Int.natCast_nonneg,if_true,Int.toNat_natCast,ZbQ hi,Zag,Zcy,ZDM,Bool.not_true]
  rw [Zaz (i:=i) (by omega)]
 ·intro n
  simp only [Zhd,ZdH,Zbr,Int.lt_irrefl,decide_false]
theorem ZID {n:Nod} (hl:n.es.length ≤ 1048576) (hN:1048576 < N) (f g:Fl) (k:Bool → Option R) :
  ZKg N n.kind n.mode n.uid n.gid n.time n.data (Zbv n.es) f n.kind n.mode n.uid n.gid n.time n.data (Zbv n.es) g k = k true:=by
 rw [Zxn]; unfold Zrt; simp only [bne_self_eq_false,beq_self_eq_true,Bool.not_true,ZCi N hl hN]
theorem ZFN {fr:Fl} {l:List Nod} (hl:Small l) (hN:1048576 < N) (f g:Fl) (k:Bool → Option R):ZJ9 N (nodsV fq l) f (nodsV fr l) g k = k true:=by
 rw [Zxr]
 unfold Zr0
 have hll:=hl.len
 simp only [ZbP,bne_self_eq_false]
 refine ZbK (l:=fun n i=>Zhg N (nodsV fq l) f (nodsV fr l) g (fun _=>k false) (fun _=>k true) n (i:Int)) (len:=l.length) (k1:=k true) ?_ ?_ (show l.length < N by omega)
 ·intro n i hi
  simp only [Zhg,Zc8,ZbP,Zbf hi,Int.natCast_nonneg,if_true,Int.toNat_natCast,Zbj hi,Zag,ZbD,ZID N (hl.es i hi) hN,Bool.not_true]
  rw [Zaz (i:=i) (by omega)]
 ·intro n
  simp only [Zhg,Zc8,ZbP,Int.lt_irrefl,decide_false]
theorem ZO2 {fr:Fl} {l:List Nod} (hl:Small l) (hN:1048576 < N) (f g:Fl) (room:Int) (k:Bool → Option R):ZJS N (nodsV fq l) f room (nodsV fr l) g room k = k true:=by
 rw [ZzD]; unfold ZsA; rw [ZFN N hl hN]; simp only [bne_self_eq_false,Bool.not_true]
end Go.VM.VL
set_option linter.unusedSimpArgs false
set_option linter.unusedVariables false
namespace Go.VM.VL
open Go
abbrev bl (w:ByteArray):List UInt8:=w.data.toList
def ba (l:List UInt8):ByteArray:=⟨⟨l⟩⟩
theorem ZHA (w:ByteArray):ba (bl w) = w:=rfl
theorem ZIK (l:List UInt8):bl (ba l) = l:=rfl
theorem Zb5 (w:ByteArray):w.size = (bl w).length:=Array.length_toList.symm
theorem Zmf (w:ByteArray) (a b:Nat):bl (ByteArray.extract w a b) = ((bl w).take b).drop a:=by
 rw [bl,ByteArray.data_extract,Array.toList_extract,List.extract_eq_take_drop,List.drop_take]
theorem ZeT (w:ByteArray) (a b:Nat):ByteArray.extract w a b = ba (((bl w).take b).drop a):=by rw [← Zmf]; rfl
variable {R:Type} (N:Nat) {fq:Fl}
theorem ZcH (w:ByteArray) {i:Nat} (h:i < (bl w).length) (k:Int → Option R):ZcV w (i:Int) k = k ((at_ (bl w) i).toNat:Int):=by
 unfold ZcV
 rw [if_pos (by omega),Int.toNat_natCast]
 have e:w.data[i]? = some (bl w)[i]:=by rw [← Array.getElem?_toList,List.getElem?_eq_getElem h]
 rw [e,Zb2 h]
theorem ZAv (a b c:Int) (k:Bool → Option R):Zjh N a b c k = k (inR a b c):=by
 rw [ZzS]
 unfold Zq2 inR
 by_cases h:b ≤ a
 ·rw [decide_eq_true (show a ≥ b from h)]; simp
 ·rw [decide_eq_false (show ¬ a ≥ b from h)]; simp
theorem ZAQ (a b c:Int) (k:Bool → Option R):ZgO N a b c k = k (inR a b c):=by
 rw [ZxP]
 unfold Zp6 inR
 by_cases h:b ≤ a
 ·rw [decide_eq_true (show a ≥ b from h)]; simp
 ·rw [decide_eq_false (show ¬ a ≥ b from h)]; simp
def ZjX (n:Int):Bool:=(!decide (n < 97) && !decide (n > 122)) || (!decide (n < 48) && !decide (n > 57)) || (n == 46) || (n == 95) || (n == 45)
def Zjt (w:ByteArray):Bool:=(List.range' 0 w.size).all fun i=>ZjX ((at_ (bl w) i).toNat:Int)
def ZeB (w:ByteArray):Bool:=Zjt w && inR (w.size:Int) 1 8
def ZCz (w:ByteArray):Bool:=w.toList == (ByteArray.mk #[46]).toList
def ZjZ (w:ByteArray):Bool:=w.toList == (ByteArray.mk #[46,46]).toList
def Zb3 (w:ByteArray):Bool:=w.toList == (ByteArray.mk #[]).toList
def ZoX (w:ByteArray):Bool:=ZeB w && !ZCz w && !ZjZ w
theorem ZBz (w:ByteArray):Zb3 w = decide (w.size = 0):=by
 unfold Zb3
 rw [ByteArray.toList_eq,ByteArray.toList_eq,Zb5]
 cases h:bl w with
 | nil=>rw [show w.data.toList = [] from h]; rfl
 | cons a l=>rw [show w.data.toList = a :: l from h]; rfl
theorem ZNI {w:ByteArray} (hw:w.size ≤ 1048576) (hN:1048576 < N) (k:Bool → Option R):ZF3 N w k = k (ZoX w):=by
 rw [ZyJ]
 unfold ZqV
 rw [ZAQ]
 refine (ZcF (l:=fun n i=>ZfE N w _ _ n (i:Int)) (len:=w.size) (p:=fun i=>ZjX ((at_ (bl w) i).toNat:Int)) (k0:=k false) (k1:=(match inR (w.size:Int) 1 8 with
  | true=>(match (!(w.toList == (ByteArray.mk #[46]).toList)) with
   | true=>k (!(w.toList == (ByteArray.mk #[46,46]).toList))
   | false=>k false)
  | false=>k false)) ?_ ?_ (show w.size < N by omega)).trans ?_
 ·intro n i hi _
  simp only [ZfE,Zdn,Zbf hi]
  rw [ZcH w (by rw [← Zb5]; exact hi),Zaz (i:=i) (by omega)]
  generalize ZfE N w _ _ n ((i + 1:Nat):Int) = X
  generalize ((at_ (bl w) i).toNat:Int) = x
  unfold ZjX
  simp only [bne]
  generalize decide (x < 97) = a
  generalize decide (x > 122) = b
  generalize decide (x < 48) = c
  generalize decide (x > 57) = d
  generalize (x == 46) = e
  generalize (x == 95) = f
  generalize (x == 45) = g
  cases a <;> cases b <;> cases c <;> cases d <;> cases e <;> cases f <;> cases g <;> rfl
 ·intro _ n
  simp only [ZfE,Zdn,Int.lt_irrefl,decide_false]
  rfl
 ·show (if Zjt w = true then _ else _) = _
  unfold ZoX ZeB ZCz ZjZ
  cases Zjt w <;> cases inR (w.size:Int) 1 8 <;> cases (w.toList == (ByteArray.mk #[46]).toList) <;> cases (w.toList == (ByteArray.mk #[46,46]).toList) <;> rfl
theorem ZpI (x:Int) (k:Bool → Option R):ZHz N x k = k (ZjX x):=by
 rw [ZzC]
 unfold ZrX ZjX
 rw [show decide (x ≥ 97) = !decide (x < 97) by by_cases h:x < 97 <;> simp [h] <;> omega,show decide (x ≤ 122) = !decide (x > 122) by by_cases h:x > 122 <;> simp [h] <;> omega,
  show decide (x ≥ 48) = !decide (x < 48) by by_cases h:x < 48 <;> simp [h] <;> omega,show decide (x ≤ 57) = !decide (x > 57) by by_cases h:x > 57 <;> simp [h] <;> omega]
 generalize decide (x < 97) = a
 generalize decide (x > 122) = b
 generalize decide (x < 48) = c
 generalize decide (x > 57) = d
 generalize (x == 46) = e
 generalize (x == 95) = f
 generalize (x == 45) = g
 cases a <;> cases b <;> cases c <;> cases d <;> cases e <;> cases f <;> cases g <;> rfl
theorem ZAV {w:ByteArray} {i:Nat} (h:i < (bl w).length):nth (ZcY w) i = some (.int .u8 ((at_ (bl w) i).toNat:Int)):=by
 rw [ZcY,ZdX,Ze6 h,Zb2 h]; rfl
theorem ZAN (w:ByteArray):(ZcY w).length = w.size:=by rw [ZcY,List.length_map]; exact Array.length_toList
theorem ZKi (n:Int) (k:Int → Option R):asInt .u8 (.int .u8 n) k = k n:=rfl
def Zhb (q:Nat → Bool) (len:Nat):Int:=match (List.range' 0 len).findSome? (fun i=>if q i then some i else none) with | some i=>(i:Int) | none=>-1
theorem ZjI {q:Nat → Bool} {len:Nat}:decide (Zhb q len ≥ 0) = !(List.range' 0 len).all (fun i=>!q i):=by
 unfold Zhb
 cases h:(List.range' 0 len).findSome? (fun i=>if q i then some i else none) with
 | none =>
  have h2:(List.range' 0 len).all (fun i=>!q i) = true:=ZbA.2 fun i hi=>by
   have:=Zja.1 h i hi
   cases hq:q i with
   | true=>simp [hq] at this
   | false=>rfl
  rw [h2]; rfl
 | some j =>
  have h2:¬ (List.range' 0 len).all (fun i=>!q i) = true:=fun h2=>by
   have h3:(List.range' 0 len).findSome? (fun i=>if q i then some i else none) = none:=Zja.2 fun i hi=>by
    have:=ZbA.1 h2 i hi
    cases hq:q i with
    | true=>simp [hq] at this
    | false=>rfl
   rw [h] at h3; cases h3
  rw [Bool.eq_false_iff.2 h2]
  simp
theorem ZxI {w:ByteArray} (hw:w.size ≤ 1048576) (hN:1048576 < N) (k:Bool → Option R):ZDw N w k = k (ZeB w):=by
 rw [Zxq]
 unfold Zqr
 rw [ZAv]
 have hc:∀ K:Bool → Option R,ZKy N (ZcY w) .sh K = K (!Zjt w):=by
  intro K
  rw [Zxo]
  unfold Zr3
  rw [Zyk]
  unfold ZsV
  rw [ZAN]
  refine (Zb6 (β:=Nat) (l:=fun n i=>ZgJ N (ZcY w) _ (w.size:Int) _ _ n (i:Int)) (len:=w.size) (q:=fun i=>if !ZjX ((at_ (bl w) i).toNat:Int) then some i else none) (kb:=fun i=>K (decide ((i:Int) ≥ 0))) (k1:=K (decide ((-1:Int) ≥ 0))) ?_ ?_ (show w.size < N by omega)).trans ?_
  ·intro n i hi _
   have hi':i < (bl w).length:=by rw [← Zb5]; exact hi
   simp only [ZgJ,Zdc,Zbf hi,Int.natCast_nonneg,if_true,Int.toNat_natCast,ZAV hi',Zag,ZKi]
   rw [Zzc]
   unfold Zrx
   rw [ZpI,Zaz (i:=i) (by omega)]
   cases ZjX ((at_ (bl w) i).toNat:Int) <;> rfl
  ·intro _ n
   simp only [ZgJ,Zdc,Int.lt_irrefl,decide_false]
  ·have:=ZjI (q:=fun i=>!ZjX ((at_ (bl w) i).toNat:Int)) (len:=w.size)
   unfold Zhb at this
   unfold Zjt
   simp only [Bool.not_not] at this
   rw [← this]
   generalize (List.range' 0 w.size).findSome? _ = o
   cases o <;> rfl
 simp only [hc]
 unfold ZeB
 cases Zjt w <;> cases inR (w.size:Int) 1 8 <;> rfl
theorem ZBg {w:ByteArray} (hw:w.size ≤ 1048576) (hN:1048576 < N) (k:Bool → Option R):ZJn N w k = k (ZoX w):=by
 rw [ZyR]
 unfold Zqs
 rw [ZxI N hw hN]
 rw [ZxH]
 unfold Zsf ZoX ZCz ZjZ
 cases ZeB w <;> cases (w.toList == (ByteArray.mk #[46]).toList) <;> cases (w.toList == (ByteArray.mk #[46,46]).toList) <;> rfl
end Go.VM.VL
set_option linter.unusedSimpArgs false
set_option linter.unusedVariables false
namespace Go.VM.VL
open Go
def ZbE (c:UInt8):List UInt8 → List (List UInt8)
 | []=>[[]]
 | b :: l=>if b = c then [] :: ZbE c l else match ZbE c l with
  | p :: ps=>(b :: p) :: ps
  | []=>[[b]]
theorem ZeM (c:UInt8):∀ l,ZbE c l ≠ []
 | []=>by simp [ZbE]
 | b :: l=>by
  unfold ZbE
  split
  ·simp
  ·split <;> simp
theorem Zd6 (c:UInt8):∀ l,(ZbE c l).length = l.count c + 1
 | []=>rfl
 | b :: l=>by
  have ih:=Zd6 c l
  unfold ZbE
  split
  ·rename_i h
   rw [List.length_cons,ih,h,List.count_cons_self]
  ·rename_i h
   rw [List.count_cons_of_ne h]
   cases h2:ZbE c l with
   | nil=>exact absurd h2 (ZeM c l)
   | cons p ps=>rw [h2] at ih; exact ih
def ZKE (x:List UInt8):List (List UInt8) → List (List UInt8)
 | p :: ps=>(x ++ p) :: ps
 | []=>[x]
theorem Zjn {c b:UInt8} (h:b = c) (l:List UInt8):ZbE c (b :: l) = [] :: ZbE c l:=by rw [ZbE,if_pos h]
theorem Ze1 {c b:UInt8} (h:b ≠ c) (l:List UInt8):ZbE c (b :: l) = ZKE [b] (ZbE c l):=by
 conv=>lhs; unfold ZbE
 rw [if_neg h]
 cases ZbE c l <;> rfl
theorem ZDI (x y:List UInt8) (ps:List (List UInt8)) (h:ps ≠ []):ZKE x (ZKE y ps) = ZKE (x ++ y) ps:=by
 cases ps with
 | nil=>exact absurd rfl h
 | cons p ps=>simp [ZKE]
def Zgg (c:UInt8) (l:List UInt8):Nat → List (List UInt8) × Nat
 | 0=>([],0)
 | i + 1=>if at_ l i = c then ((Zgg c l i).1 ++ [(l.take i).drop (Zgg c l i).2],i + 1) else Zgg c l i
theorem Zkv (c:UInt8) (l:List UInt8):∀ i,(Zgg c l i).2 ≤ i ∧ (Zgg c l i).1.length ≤ i
 | 0=>⟨Nat.le_refl _,Nat.le_refl _⟩
 | i + 1=>by
  have:=Zkv c l i
  unfold Zgg
  split
  ·simp; omega
  ·omega
theorem Zxi (c:UInt8) (l:List UInt8):∀ i,i ≤ l.length → (Zgg c l i).1 ++ ZKE ((l.take i).drop (Zgg c l i).2) (ZbE c (l.drop i)) = ZbE c l
 | 0,_=>by
  simp only [Zgg,List.drop_zero,List.take_zero,List.nil_append]
  cases h:ZbE c l with
  | nil=>exact absurd h (ZeM c l)
  | cons p ps=>rfl
 | i + 1,hi=>by
  have ih:=Zxi c l i (by omega)
  have hlt:i < l.length:=by omega
  have hle:=(Zkv c l i).1
  rw [List.drop_eq_getElem_cons hlt] at ih
  unfold Zgg
  by_cases h:at_ l i = c
  ·rw [Zb2 hlt] at h
   rw [Zjn h] at ih
   rw [Zb2 hlt,if_pos h]
   simp only [List.append_assoc]
   rw [← ih]
   congr 1
   have e:(l.take (i + 1)).drop (i + 1) = []:=by
    apply List.drop_eq_nil_of_le
    simp only [List.length_take]; omega
   simp only [e,ZKE,List.append_nil,List.singleton_append]
   congr 1
   cases h2:ZbE c (l.drop (i + 1)) with
   | nil=>exact absurd h2 (ZeM c _)
   | cons p ps=>rfl
  ·rw [Zb2 hlt] at h
   rw [Ze1 h,ZDI _ _ _ (ZeM c _)] at ih
   rw [Zb2 hlt,if_neg h,← ih]
   congr 2
   rw [List.take_succ_eq_append_getElem hlt,List.drop_append_of_le_length (by simp only [List.length_take]; omega)]
theorem ZDY (c:UInt8) (l:List UInt8):(Zgg c l l.length).1 ++ [l.drop (Zgg c l l.length).2] = ZbE c l:=by
 have:=Zxi c l l.length (Nat.le_refl _)
 simpa [ZbE,ZKE] using this
def ZbB (w:ByteArray):List ByteArray:=(ZbE 47 (bl w)).map ba
def ZbW (w:ByteArray):List ByteArray:=(ZbB w).filter fun p=>!Zb3 p
theorem Zi8 (w:ByteArray):(ZbB w).length ≤ w.size + 1:=by
 unfold ZbB
 rw [List.length_map,Zd6,Zb5]
 have:=List.count_le_length (a:=(47:UInt8)) (l:=bl w)
 omega
theorem Zd5 (w:ByteArray):(ZbW w).length ≤ w.size + 1:=Nat.le_trans (List.length_filter_le _ _) (Zi8 w)
theorem Zgj (c:UInt8):∀ l,∀ p ∈ ZbE c l,p.length ≤ l.length
 | [],p,h=>by simp [ZbE] at h; subst h; exact Nat.le_refl _
 | b :: l,p,h=>by
  have ih:=Zgj c l
  by_cases hb:b = c
  ·rw [Zjn hb] at h
   rcases List.mem_cons.1 h with rfl | h
   ·simp
   ·have:=ih p h; rw [List.length_cons]; omega
  ·rw [Ze1 hb] at h
   cases h2:ZbE c l with
   | nil=>exact absurd h2 (ZeM c l)
   | cons q qs =>
    rw [h2] at h ih
    rcases List.mem_cons.1 h with rfl | h
    ·have:=ih q (by simp)
     simp; omega
    ·have:=ih p (by simp [h]); rw [List.length_cons]; omega
theorem Zlu {w p:ByteArray} (h:p ∈ ZbW w):p.size ≤ w.size:=by
 obtain ⟨q,hq,rfl⟩:=List.mem_map.1 (List.mem_filter.1 h).1
 rw [Zb5,Zb5,ZIK]
 exact Zgj 47 _ _ hq
variable {R:Type} (N:Nat) {fq:Fl}
theorem ZDB {b c:UInt8}:((b.toNat:Int) == (c.toNat:Int)) = decide (b = c):=by
 by_cases h:b = c
 ·subst h; simp
 ·rw [decide_eq_false h]
  apply beq_false_of_ne
  intro h2
  exact h (UInt8.toNat_inj.1 (by omega))
theorem ZD5 {w:ByteArray} (hw:w.size ≤ 1048576) (hN:1048580 < N) (k:List V → Option R):ZIe N w 47 k = k (ZaK (ZbB w)):=by
 rw [Zx9]
 unfold ZqW
 refine ZbK (l:=fun n i=>Zhf N w 47 _ n (ZaK ((Zgg 47 (bl w) i).1.map ba)) ((Zgg 47 (bl w) i).2:Int) (i:Int)) (len:=w.size) (k1:=k (ZaK (ZbB w))) ?_ ?_ (show w.size < N by omega)
 ·intro n i hi
  have hi':i < (bl w).length:=by rw [← Zb5]; exact hi
  have hle:=Zkv 47 (bl w) i
  simp only [Zhf,Zde,Zbf hi,ZcH w hi']
  rw [show (47:Int) = ((47:UInt8).toNat:Int) from rfl,ZDB,Zaz (i:=i) (by omega)]
  by_cases h:at_ (bl w) i = 47
  ·rw [decide_eq_true h]
   simp only [Zgg,if_pos h]
   rw [if_pos ⟨by omega,by omega⟩,if_pos ⟨by omega,by omega⟩,if_pos (by rw [Zbi,List.length_map]; omega),ZeT]
   simp only [Int.toNat_natCast,ZaK,List.map_append,List.map_cons,List.map_nil]
  ·rw [decide_eq_false h]
   simp only [Zgg,if_neg h]
 ·intro n
  have hle:=Zkv 47 (bl w) w.size
  simp only [Zhf,Zde,Int.lt_irrefl,decide_false]
  rw [if_pos ⟨by omega,by omega⟩,if_pos (by rw [Zbi,List.length_map]; omega),ZeT]
  have:=ZDY 47 (bl w)
  rw [← Zb5] at this
  unfold ZbB
  rw [← this,List.take_of_length_le (by rw [Zb5]; exact Nat.le_refl _)]
  simp only [Int.toNat_natCast,ZaK,List.map_append,List.map_cons,List.map_nil]
theorem Zed {α:Type} [Inhabited α] (p:α → Bool) (l:List α) {i:Nat} (h:i < l.length):(l.take (i + 1)).filter p = (l.take i).filter p ++ if p (at_ l i) then [at_ l i] else []:=by
 rw [List.take_succ_eq_append_getElem h,List.filter_append,Zb2 h]
 congr 1
 rw [List.filter_cons]
 split <;> rfl
theorem Zlh {w:ByteArray} (hw:w.size ≤ 1048576) (hN:1048580 < N) (k:List V → Option R):Zra N w k = k (ZaK (ZbW w)):=by
 rw [Zxl]
 unfold Zrr
 rw [ZD5 N hw hN,Zbi]
 have hl:=Zi8 w
 refine ZbK (l:=fun n i=>ZgU N (ZaK (ZbB w)) ((ZbB w).length:Int) _ n (ZaK (((ZbB w).take i).filter fun p=>!Zb3 p)) (i:Int)) (len:=(ZbB w).length) (k1:=k (ZaK (ZbW w))) ?_ ?_ (show (ZbB w).length < N by omega)
 ·intro n i hi
  simp only [ZgU,Zdt,Zbf hi,Int.natCast_nonneg,if_true,Int.toNat_natCast,ZcQ hi,Zag,Zdh]
  rw [Zaz (i:=i) (by omega),Zed _ _ hi]
  have hlf:(((ZbB w).take i).filter fun p=>!Zb3 p).length ≤ i:=Nat.le_trans (List.length_filter_le _ _) (by rw [List.length_take]; omega)
  cases h:Zb3 (at_ (ZbB w) i) with
  | true =>
   rw [show ((at_ (ZbB w) i).toList == (ByteArray.mk #[]).toList) = true from h]
   simp
  | false =>
   rw [show ((at_ (ZbB w) i).toList == (ByteArray.mk #[]).toList) = false from h,if_pos (by rw [Zbi]; omega)]
   simp [ZaK]
 ·intro n
  simp only [ZgU,Zdt,Int.lt_irrefl,decide_false]
  rw [List.take_of_length_le (Nat.le_refl _)]
  rfl
def ZgB (w:ByteArray):Bool:=(ZbW w).all ZeB && inR (w.size:Int) 1 60
theorem ZIb {w:ByteArray} (h:ZCz w = true):ZeB w = true:=by
 unfold ZCz at h
 rw [beq_iff_eq,ByteArray.toList_eq,ByteArray.toList_eq] at h
 have:w = ba [46]:=by rw [← ZHA w,show bl w = _ from h]
 subst this
 decide
theorem ZEy {w:ByteArray} (h:ZjZ w = true):ZeB w = true:=by
 unfold ZjZ at h
 rw [beq_iff_eq,ByteArray.toList_eq,ByteArray.toList_eq] at h
 have:w = ba [46,46]:=by rw [← ZHA w,show bl w = _ from h]
 subst this
 decide
theorem ZxW {w:ByteArray} (hw:w.size ≤ 1048576) (hN:1048580 < N) (k:Bool → Option R):ZEE N w k = k (ZgB w):=by
 rw [Zyf]
 unfold Zqp
 rw [Zlh N hw hN,Zbi]
 have hl:=Zd5 w
 refine (ZcF (l:=fun n i=>ZgX N w (ZaK (ZbW w)) ((ZbW w).length:Int) (fun _=>k false) _ n (i:Int)) (len:=(ZbW w).length) (p:=fun i=>ZeB (at_ (ZbW w) i)) (k0:=k false) (k1:=k (inR (w.size:Int) 1 60)) ?_ ?_ (show (ZbW w).length < N by omega)).trans ?_
 ·intro n i hi _
  have hsz:(at_ (ZbW w) i).size ≤ 1048576:=Nat.le_trans (Zlu (Zgm hi)) hw
  simp only [ZgX,ZdL,Zbf hi,Int.natCast_nonneg,if_true,Int.toNat_natCast,ZcQ hi,Zag,Zdh,ZNI N hsz (by omega:1048576 < N)]
  rw [Zaz (i:=i) (by omega)]
  have h1:=@ZIb (at_ (ZbW w) i)
  have h2:=@ZEy (at_ (ZbW w) i)
  unfold ZoX
  unfold ZCz ZjZ at *
  generalize ((at_ (ZbW w) i).toList == (ByteArray.mk #[46]).toList) = b at *
  generalize ((at_ (ZbW w) i).toList == (ByteArray.mk #[46,46]).toList) = c at *
  generalize ZeB (at_ (ZbW w) i) = a at *
  cases a <;> cases b <;> cases c <;> first | rfl | exact absurd (h1 rfl) (by decide) | exact absurd (h2 rfl) (by decide)
 ·intro _ n
  simp only [ZgX,ZdL,Int.lt_irrefl,decide_false,ZAQ]
 ·unfold ZgB
  have e:(List.range' 0 (ZbW w).length).all (fun i=>ZeB (at_ (ZbW w) i)) = (ZbW w).all ZeB:=by
   rw [Bool.eq_iff_iff,ZbA,List.all_eq_true]
   exact ⟨fun h p hp=>by
    obtain ⟨i,hi,rfl⟩:=List.getElem_of_mem hp
    rw [← Zb2 hi]
    exact h i hi,fun h i hi=>h _ (Zgm hi)⟩
  rw [e]
  cases (ZbW w).all ZeB <;> rfl
theorem ZcR {w:ByteArray} (h:ZgB w = true):1 ≤ w.size ∧ w.size ≤ 60:=by
 unfold ZgB at h
 rw [Bool.and_eq_true,Zce] at h
 omega
def Zfv (w:ByteArray):Bool:=ZgB w && (((at_ (bl w) 0).toNat:Int) == 47)
theorem ZGp {w:ByteArray} (hw:w.size ≤ 1048576) (hN:1048580 < N) (k:Bool → Option R):ZJF N w k = k (Zfv w):=by
 rw [Zyp]
 unfold ZsT Zfv
 rw [ZxW N hw hN]
 cases h:ZgB w with
 | false=>rfl
 | true =>
  have:=ZcR h
  simp only
  rw [show (0:Int) = ((0:Nat):Int) from rfl,ZcH w (by rw [← Zb5]; omega)]
  rfl
end Go.VM.VL
set_option linter.unusedSimpArgs false
set_option linter.unusedVariables false
namespace Go.VM.VL
open Go
theorem ZeU (c:UInt8):∀ (l:List UInt8) (m:Nat),Lib.indexByte l c = (m:Int) → m < l.length ∧ ZbE c l = l.take m :: ZbE c (l.drop (m + 1))
 | [],m,h=>by simp [Lib.indexByte] at h
 | b :: l,m,h=>by
  unfold Lib.indexByte at h
  by_cases hb:b = c
  ·rw [if_pos (by simp [hb])] at h
   obtain rfl:m = 0:=by omega
   exact ⟨by simp,by rw [Zjn hb]; rfl⟩
  ·rw [if_neg (by simp [hb])] at h
   have hge:=Lib.indexByte_ge l c
   by_cases h1:Lib.indexByte l c = -1
   ·rw [if_pos (by simp [h1])] at h; omega
   ·rw [if_neg (by simp [h1])] at h
    obtain ⟨m,rfl⟩:∃ k,m = k + 1:=⟨m - 1,by omega⟩
    obtain ⟨h2,h3⟩:=ZeU c l m (by omega)
    refine ⟨by rw [List.length_cons]; omega,?_⟩
    rw [Ze1 hb,h3]
    rfl
theorem Zi9 (c:UInt8):∀ (l:List UInt8),Lib.indexByte l c = -1 → ZbE c l = [l]
 | [],h=>rfl
 | b :: l,h=>by
  unfold Lib.indexByte at h
  by_cases hb:b = c
  ·rw [if_pos (by simp [hb])] at h; omega
  ·rw [if_neg (by simp [hb])] at h
   have hge:=Lib.indexByte_ge l c
   by_cases h1:Lib.indexByte l c = -1
   ·rw [Ze1 hb,Zi9 c l h1]; rfl
   ·rw [if_neg (by simp [h1])] at h; omega
def Zdy (l:List UInt8):Nat → List UInt8
 | 0=>l
 | i + 1=>(Zdy l i).drop ((Lib.indexByte (Zdy l i) 47).toNat + 1)
theorem Zw2 (l:List UInt8):∀ i,i ≤ l.count 47 → ZbE 47 (Zdy l i) = (ZbE 47 l).drop i ∧ (i < l.count 47 → ∃ m:Nat,Lib.indexByte (Zdy l i) 47 = m)
  ∧ (Zdy l i).length ≤ l.length:=by
 have idx:∀ (r:List UInt8),2 ≤ (ZbE 47 r).length → ∃ m:Nat,Lib.indexByte r 47 = m:=fun r h=>by
  have:=Lib.indexByte_ge r 47
  by_cases h1:Lib.indexByte r 47 = -1
  ·rw [Zi9 47 r h1] at h; simp at h
  ·exact ⟨(Lib.indexByte r 47).toNat,by omega⟩
 intro i
 induction i with
 | zero=>exact fun _=>⟨rfl,fun h=>idx l (by rw [Zd6]; omega),Nat.le_refl _⟩
 | succ i ih =>
  intro hi
  obtain ⟨h1,h2,h3⟩:=ih (by omega)
  obtain ⟨m,hm⟩:=h2 (by omega)
  obtain ⟨h4,h5⟩:=ZeU 47 _ m hm
  have e:ZbE 47 (Zdy l (i + 1)) = (ZbE 47 l).drop (i + 1):=by
   have:(ZbE 47 (Zdy l i)).drop 1 = ZbE 47 (Zdy l (i + 1)):=by
    rw [h5]
    show _ = ZbE 47 ((Zdy l i).drop ((Lib.indexByte (Zdy l i) 47).toNat + 1))
    rw [hm]; rfl
   rw [← this,h1,List.drop_drop]
  refine ⟨e,fun h=>idx _ (by rw [e,List.length_drop,Zd6]; omega),?_⟩
  show ((Zdy l i).drop _).length ≤ _
  rw [List.length_drop]; omega
variable {R:Type} (N:Nat) {fq:Fl}
def sl:ByteArray:=ByteArray.mk #[47]
theorem ZME (w:ByteArray) (k:Int → Option R):ZES N w (ByteArray.mk #[47]) k = k (Lib.indexByte (bl w) 47):=by
 rw [ZyV]
 unfold ZqJ
 rw [ZxN]
 unfold ZpJ
 show (match ((ByteArray.mk #[47]).toList == w.toList) with | true=>k 0 | false=>_) = _
 cases h:((ByteArray.mk #[47]).toList == w.toList) with
 | true =>
  rw [beq_iff_eq,ByteArray.toList_eq,ByteArray.toList_eq] at h
  show k 0 = k (Lib.indexByte w.data.toList 47)
  rw [← h]; rfl
 | false =>
  show ZIi N w _ _ = _
  rw [Zyl]
  unfold ZrH
  rw [ZwX]
  rfl
theorem ZLo (w:ByteArray) (k:Int → Option R):ZFt N w (ByteArray.mk #[47]) k = k (((bl w).count 47:Nat):Int):=by
 rw [ZxJ]
 unfold ZpO
 show ZH1 N w _ _ = _
 rw [Zxx]
 rfl
theorem Zd3 (l:List ByteArray):ZaE (ZaK l) = true:=by
 unfold ZaE
 rw [List.all_eq_true]
 intro v hv
 obtain ⟨s,_,rfl⟩:=List.mem_map.1 hv
 rfl
theorem Zzm (w:ByteArray) {i:Nat} (hi:i < (ZbB w).length):(ZbE 47 (bl w)).drop i = bl (at_ (ZbB w) i) :: (ZbE 47 (bl w)).drop (i + 1):=by
 have hi':i < (ZbE 47 (bl w)).length:=by unfold ZbB at hi; rwa [List.length_map] at hi
 rw [List.drop_eq_getElem_cons hi',Zb2 hi]
 simp only [ZbB,List.getElem_map,ZIK]
theorem ZL6 {w:ByteArray} (hw:w.size ≤ 1048576) (hN:1048580 < N) (k0:List V → Option R) (k1:Nat → List V → Option R) :
  ZJe N w (ByteArray.mk #[47]) k0 k1 = k1 (ZbB w).length (ZaK (ZbB w)):=by
 rw [ZyY]
 unfold ZqP
 rw [Zxs]
 unfold Zr2
 let c:=(bl w).count 47
 have hc:c ≤ w.size:=by rw [Zb5]; exact List.count_le_length
 have hL:(ZbB w).length = c + 1:=by unfold ZbB; rw [List.length_map,Zd6]
 rw [show ((ByteArray.mk #[47]).toList == (ByteArray.mk #[]).toList) = false by rw [ByteArray.toList_eq,ByteArray.toList_eq]; rfl]
 show ZFt N w (ByteArray.mk #[47]) _ = _
 rw [ZLo]
 show _ = k1 (ZbB w).length (ZaK (ZbB w))
 rw [ZbH (x:=(w.size:Int) + 1) (by omega) (by omega),ZbH (x:=(((bl w).count 47:Nat):Int) + 1) (by omega) (by omega)]
 have hif:(if (w.size:Int) + 1 < (((bl w).count 47:Nat):Int) + 1 then (w.size:Int) + 1 else (((bl w).count 47:Nat):Int) + 1) = ((c + 1:Nat):Int):=by
  rw [if_neg (by omega)]; rfl
 rw [hif,if_pos ⟨by omega,rfl,by omega⟩,Int.toNat_natCast,ZbH (x:=((c + 1:Nat):Int) - 1) (by omega) (by omega)]
 have hlim:((c + 1:Nat):Int) - 1 = (c:Int):=by omega
 rw [hlim]
 let z:V:=.str (ByteArray.mk #[])
 have hlen:(ZaK (ZbB w)).length = c + 1:=by rw [Zbi,hL]
 rw [show List.replicate (c + 1) (V.str (ByteArray.mk #[])) = Zee (ZaK (ZbB w)) z 0 by rw [ZjF,hlen]]
 refine ZbK (l:=fun n i=>ZfP N (ByteArray.mk #[47]) 0 (c:Int) (c + 1) _ n (ba (Zdy (bl w) i)) (i:Int) (Zee (ZaK (ZbB w)) z i)) (len:=c) (k1:=k1 (ZbB w).length (ZaK (ZbB w))) ?_ ?_ (show c < N by omega)
 ·intro n i hi
  obtain ⟨h1,h2,h3⟩:=Zw2 (bl w) i (by omega)
  obtain ⟨m,hm⟩:=h2 hi
  obtain ⟨h4,h5⟩:=ZeU 47 _ m hm
  have hi':i < (ZbB w).length:=by omega
  rw [h1,Zzm w hi'] at h5
  have hp:bl (at_ (ZbB w) i) = (Zdy (bl w) i).take m:=(List.cons.inj h5).1
  have hsz:(ba (Zdy (bl w) i)).size = (Zdy (bl w) i).length:=Zb5 _
  rw [← Zb5] at h3
  simp only [ZfP,Zdl,Zbf hi,ZME,ZIK,hm]
  rw [decide_eq_false (by omega)]
  simp only
  rw [show (m:Int) + 0 = m by omega,ZbH (x:=(m:Int)) (by omega) (by omega),if_pos ⟨by omega,by omega⟩,if_pos ⟨by omega,by omega⟩]
  rw [show ((ByteArray.mk #[47]).size:Int) = 1 from rfl,Zaz (i:=m) (by omega),Zaz (i:=i) (by omega)]
  simp only [Int.toNat_natCast,Nat.zero_add,ZiA (ZaK (ZbB w)) z (by rw [hlen]; omega:i < _)]
  have hput:∀ b,ZaM z 0 [.str b] = some (.str b):=fun b=>rfl
  simp only [hput]
  rw [if_pos ⟨by omega,by omega⟩,ZeT,ZeT,ZIK,List.drop_zero,← hp,ZHA,ZfL _ _ _ (by rw [hlen]; omega) (ZcQ hi'),
   List.take_of_length_le (by rw [hsz]; exact Nat.le_refl _)]
  have hr:Zdy (bl w) (i + 1) = (Zdy (bl w) i).drop (m + 1):=by
   show (Zdy (bl w) i).drop ((Lib.indexByte (Zdy (bl w) i) 47).toNat + 1) = _
   rw [hm]; rfl
  rw [hr]
 ·intro n
  obtain ⟨h1,h2,h3⟩:=Zw2 (bl w) c (Nat.le_refl _)
  simp only [ZfP,Zdl,Int.lt_irrefl,decide_false]
  rw [if_pos ⟨by omega,by omega⟩]
  simp only [Int.toNat_natCast,Nat.zero_add,ZiA (ZaK (ZbB w)) z (by rw [hlen]; omega:c < _)]
  have hput:∀ b,ZaM z 0 [.str b] = some (.str b):=fun b=>rfl
  simp only [hput]
  have hlast:nth (ZaK (ZbB w)) c = some (.str (ba (Zdy (bl w) c))):=by
   rw [ZcQ (by omega)]
   rw [Zzm w (by omega),List.drop_eq_nil_of_le (by rw [Zd6]; exact Nat.le_refl _)] at h1
   have h6:ZbE 47 (Zdy (bl w) c) = [Zdy (bl w) c]:=by
    apply Zi9
    have:=Lib.indexByte_ge (Zdy (bl w) c) 47
    by_cases h7:Lib.indexByte (Zdy (bl w) c) 47 = -1
    ·exact h7
    ·obtain ⟨m,hm⟩:∃ m:Nat,Lib.indexByte (Zdy (bl w) c) 47 = m:=⟨(Lib.indexByte (Zdy (bl w) c) 47).toNat,by omega⟩
     obtain ⟨_,h8⟩:=ZeU 47 _ m hm
     rw [h1] at h8
     exact absurd (List.cons.inj h8).2.symm (ZeM 47 _)
   rw [h6] at h1
   rw [(List.cons.inj h1).1,ZHA]
  rw [ZfL _ _ _ (by rw [hlen]; omega) hlast,show Zee (ZaK (ZbB w)) z (c + 1) = ZaK (ZbB w) by rw [← hlen]; exact Zk6 _ _,
   Zaz (i:=c) (by omega),if_pos ⟨by omega,by omega⟩,Zd3,hL]
  rfl
def ZbY (L:List ByteArray):List ByteArray:=L.filter fun p=>!Zb3 p
def Zwn (L:List ByteArray) (j:Nat):List ByteArray:=ZbY (L.take j) ++ L.drop (ZbY (L.take j)).length
theorem ZkQ (L:List ByteArray) (j:Nat):(ZbY (L.take j)).length ≤ j:=Nat.le_trans (List.length_filter_le _ _) (by rw [List.length_take]; omega)
theorem Zov {L:List ByteArray} {j:Nat} (h:j ≤ L.length):(Zwn L j).length = L.length:=by
 have:=ZkQ L j
 unfold Zwn
 rw [List.length_append,List.length_drop]; omega
theorem ZLy {L:List ByteArray} {j:Nat} (h:j < L.length):nth (ZaK (Zwn L j)) j = some (.str (at_ L j)):=by
 have:=ZkQ L j
 rw [ZcQ (by rw [Zov (by omega)]; exact h),Zb2 (by rw [Zov (by omega)]; exact h),Zb2 h]
 congr 2
 unfold Zwn
 rw [List.getElem_append_right (by omega),List.getElem_drop]
 congr 1
 omega
theorem ZIP {L:List ByteArray} {j:Nat} (h:j < L.length) (hp:Zb3 (at_ L j) = false):Zav (ZaK (Zwn L j)) (ZbY (L.take j)).length (.str (at_ L j)) = ZaK (Zwn L (j + 1)):=by
 have h2:=ZkQ L j
 have e:ZbY (L.take (j + 1)) = ZbY (L.take j) ++ [at_ L j]:=by
  unfold ZbY
  rw [Zed _ _ h,hp]; rfl
 unfold ZaK
 rw [ZhP V.str,Zbg]
 congr 1
 unfold Zwn
 rw [e,List.set_append_right _ _ (Nat.le_refl _),Nat.sub_self,List.length_append,List.append_assoc]
 congr 1
 have hd:(ZbY (L.take j)).length < L.length:=by omega
 rw [List.drop_eq_getElem_cons hd]
 rfl
theorem ZEx {L:List ByteArray} {j:Nat} (h:j < L.length) (hp:Zb3 (at_ L j) = true):Zwn L (j + 1) = Zwn L j ∧ (ZbY (L.take (j + 1))).length = (ZbY (L.take j)).length:=by
 have e:ZbY (L.take (j + 1)) = ZbY (L.take j):=by
  unfold ZbY
  rw [Zed _ _ h,hp]
  exact List.append_nil _
 exact ⟨by unfold Zwn; rw [e],by rw [e]⟩
theorem Zli (v:Bool) (s:S) (L:List ByteArray):Zbb (freeze v s 11) (ZaK L) = some (ZaK L) :=
 ZcK fun u hu=>by obtain ⟨b,_,rfl⟩:=List.mem_map.1 hu; rfl
theorem ZmP (L:List ByteArray):(ZaK L).all V.plain = true:=by
 rw [List.all_eq_true]; intro u hu; obtain ⟨b,_,rfl⟩:=List.mem_map.1 hu; rfl
theorem ZsY (L:List ByteArray):(ZaK L).map V.lent = ZaK L:=by
 unfold ZaK; rw [List.map_map]; rfl
theorem Zsc {L:List ByteArray} (hl:L.length ≤ 1048577) (hN:1048580 < N) (f:Fl) (k:Int → Option R) :
  ZKe N (ZaK L) f k = k (Zhb (fun i=>Zb3 (at_ L i)) L.length):=by
 rw [Zy1]
 unfold ZrB
 rw [Zbi]
 refine (Zb6 (β:=Nat) (l:=fun n i=>ZgI N (ZaK L) f (L.length:Int) _ _ n (i:Int)) (len:=L.length) (q:=fun i=>if Zb3 (at_ L i) then some i else none) (kb:=fun i=>k (i:Int)) (k1:=k (-1)) ?_ ?_ (show L.length < N by omega)).trans ?_
 ·intro n i hi _
  simp only [ZgI,Zdi,Zbf hi,Int.natCast_nonneg,if_true,Int.toNat_natCast,ZcQ hi,Zag,Zdh]
  rw [Zpp]
  unfold ZmG
  rw [Zaz (i:=i) (by omega),show ((at_ L i).toList == (ByteArray.mk #[]).toList) = Zb3 (at_ L i) from rfl]
  cases Zb3 (at_ L i) <;> rfl
 ·intro _ n
  simp only [ZgI,Zdi,Int.lt_irrefl,decide_false]
 ·unfold Zhb
  generalize (List.range' 0 L.length).findSome? _ = o
  cases o <;> rfl
theorem ZBU {q:Nat → Bool} {len i:Nat} (h:(List.range' 0 len).findSome? (fun i=>if q i then some i else none) = some i):i < len ∧ q i = true ∧ ∀ j,j < i → q j = false:=by
 have:∀ (d a:Nat),(List.range' a d).findSome? (fun i=>if q i then some i else none) = some i → i < a + d ∧ a ≤ i ∧ q i = true ∧ ∀ j,a ≤ j → j < i → q j = false:=by
  intro d
  induction d with
  | zero=>intro a h; cases h
  | succ d ih =>
   intro a h
   rw [List.range'_succ,List.findSome?_cons] at h
   cases hq:q a with
   | true =>
    rw [hq] at h
    obtain rfl:a = i:=by simpa using h
    exact ⟨by omega,Nat.le_refl _,hq,fun j h1 h2=>by omega⟩
   | false =>
    rw [hq] at h
    obtain ⟨h1,h2,h3,h4⟩:=ih (a + 1) h
    refine ⟨by omega,by omega,h3,fun j h5 h6=>?_⟩
    rcases Nat.lt_or_ge a j with h7 | h7
    ·exact h4 j h7 h6
    ·obtain rfl:a = j:=by omega
     exact hq
 obtain ⟨h1,_,h2,h3⟩:=this len 0 h
 exact ⟨by omega,h2,fun j hj=>h3 j (Nat.zero_le _) hj⟩
theorem Zpk {L:List ByteArray} (hl:L.length ≤ 1048577) (hN:1048580 < N) (k:Nat → List V → Option R) :
  ∃ es:List V,ZJ2 N L.length (ZaK L) k = k (ZbY L).length (ZaK (ZbY L) ++ es) ∧ ZaE (ZaK (ZbY L) ++ es) = true:=by
 rw [ZzB]
 unfold ZrW
 simp only [List.drop_zero]
 rw [List.take_of_length_le (by rw [Zbi]; exact Nat.le_refl _)]
 simp only [Zli]
 rw [ZsY,Zsc N hl hN,Zbi,Nat.zero_add]
 simp only [Nat.le_refl,decide_true,Zaj]
 unfold Zhb
 cases h:(List.range' 0 L.length).findSome? (fun i=>if Zb3 (at_ L i) = true then some i else none) with
 | none =>
  have h2:=Zja.1 h
  have e:ZbY L = L:=by
   unfold ZbY
   rw [List.filter_eq_self]
   intro p hp
   obtain ⟨i,hi,rfl⟩:=List.getElem_of_mem hp
   have:=h2 i hi
   rw [Zb2 hi] at this
   cases he:Zb3 L[i] with
   | true=>rw [he] at this; simp at this
   | false=>rfl
  refine ⟨[],?_,?_⟩
  ·rw [e,List.append_nil,Zd3]; rfl
  ·rw [List.append_nil,Zd3]
 | some i =>
  obtain ⟨hi,hq,hlt⟩:=ZBU h
  have hne:((i:Int) == -1) = false:=beq_false_of_ne (by omega)
  rw [hne]
  have e0:ZbY (L.take (i + 1)) = L.take i:=by
   have e1:ZbY (L.take i) = L.take i:=by
    unfold ZbY
    rw [List.filter_eq_self]
    intro p hp
    obtain ⟨j,hj,rfl⟩:=List.getElem_of_mem hp
    rw [List.length_take] at hj
    have:=hlt j (by omega)
    rw [Zb2 (by omega)] at this
    simp [this]
   rw [← e1]
   unfold ZbY
   rw [Zed _ _ hi,hq]
   exact List.append_nil _
  have hl0:(ZbY (L.take (i + 1))).length = i:=by rw [e0,List.length_take]; omega
  have hs0:Zwn L (i + 1) = L:=by unfold Zwn; rw [hl0,e0,List.take_append_drop]
  refine ⟨?es,?_,?_⟩
  case es=>exact List.replicate (L.length - (ZbY L).length) (.str (ByteArray.mk #[]))
  ·have hfl:(ZbY L).length ≤ L.length:=List.length_filter_le _ _
   have hfin:Zwn L L.length = ZbY L ++ L.drop (ZbY L).length:=by unfold Zwn; rw [List.take_of_length_le (Nat.le_refl _)]
   have hfill:Zgy (ZaK (ZbY L ++ L.drop (ZbY L).length)) (ZbY L).length (L.length - (ZbY L).length) (.str (ByteArray.mk #[])) = ZaK (ZbY L) ++ List.replicate (L.length - (ZbY L).length) (.str (ByteArray.mk #[])):=by
    unfold Zgy ZaK
    rw [List.map_append,List.take_append_of_le_length (by rw [List.length_map]; exact Nat.le_refl _),List.take_of_length_le (by rw [List.length_map]; exact Nat.le_refl _),
     List.drop_eq_nil_of_le (by simp only [List.length_append,List.length_map,List.length_drop]; omega),List.append_nil]
   have hnr:ZaE (ZaK (ZbY L) ++ List.replicate (L.length - (ZbY L).length) (.str (ByteArray.mk #[]))) = true:=by
    unfold ZaE
    rw [List.all_append]
    have h1:=Zd3 (ZbY L)
    unfold ZaE at h1
    rw [h1,Bool.true_and,List.all_eq_true]
    intro v hv
    rw [List.eq_of_mem_replicate hv]; rfl
   have hput:∀ b:ByteArray,∀ u:ByteArray,ZaM (.str u) 0 [.str b] = some (.str b):=fun b u=>rfl
   show Zfi N L.length _ N (i:Int) (IntKind.i64.wrap ((i:Int) + 1)) (ZaK L) = _
   rw [Zaz (i:=i) (by omega)]
   have hrun:=Zr5 (R:=R) (len:=L.length) (k1:=k (ZbY L).length (ZaK (ZbY L) ++ List.replicate (L.length - (ZbY L).length) (.str (ByteArray.mk #[]))))
    (l:=fun n j=>Zfi N L.length (fun x17 e18=>(if (0:Int) ≤ x17 ∧ x17 ≤ (L.length:Int) then Zaj (decide ((0 + (x17:Int).toNat) + (L.length - (x17:Int).toNat) ≤ e18.length)) ((if (0:Int) ≤ x17 ∧ x17 ≤ (L.length:Int) then Zaj (ZaE (Zgy e18 (0 + (x17:Int).toNat) (L.length - (x17:Int).toNat) (.str (ByteArray.mk #[]))) && true) (k ((x17:Int).toNat) (Zgy e18 (0 + (x17:Int).toNat) (L.length - (x17:Int).toNat) (.str (ByteArray.mk #[])))) else none)) else none)) n ((ZbY (L.take j)).length:Int) (j:Int) (ZaK (Zwn L j)))
    (fun n j hj=>by
     have hf:=ZkQ L j
     simp only [Zfi,Zdk,Zbf hj]
     rw [if_pos ⟨by omega,by omega⟩]
     simp only [Int.toNat_natCast,Nat.zero_add,ZLy hj]
     show ZED N (at_ L j) _ = _
     rw [Zpp]
     unfold ZmG
     rw [show ((at_ L j).toList == (ByteArray.mk #[]).toList) = Zb3 (at_ L j) from rfl]
     cases he:Zb3 (at_ L j) with
     | true =>
      obtain ⟨h1,h2⟩:=ZEx hj he
      simp only [Bool.not_true]
      rw [Zaz (i:=j) (by omega),h1,h2]
     | false =>
      have e:(ZbY (L.take (j + 1))).length = (ZbY (L.take j)).length + 1:=by
       unfold ZbY
       rw [Zed _ _ hj,he,List.length_append]; rfl
      simp only [Bool.not_false]
      rw [if_pos ⟨by omega,by omega⟩,ZcQ (by rw [Zov (by omega)]; omega)]
      simp only [hput]
      rw [ZIP hj he,Zaz (by omega),Zaz (by omega),e])
    (fun n=>by
     simp only [Zfi,Zdk,Int.lt_irrefl,decide_false]
     rw [List.take_of_length_le (Nat.le_refl _),hfin]
     rw [if_pos ⟨by omega,by omega⟩,if_pos ⟨by omega,by omega⟩]
     simp only [Int.toNat_natCast,Nat.zero_add,hfill,hnr]
     rw [decide_eq_true (by rw [Zbi,List.length_append,List.length_drop]; omega)]
     rfl) (L.length - (i + 1)) N (i + 1) (by omega) (by omega)
   rw [hl0,hs0] at hrun
   exact hrun
  ·unfold ZaE
   rw [List.all_append]
   have h1:=Zd3 (ZbY L)
   unfold ZaE at h1
   rw [h1,Bool.true_and,List.all_eq_true]
   intro v hv
   rw [List.eq_of_mem_replicate hv]; rfl
theorem ZlZ {w:ByteArray} (hw:w.size ≤ 1048576) (hN:1048580 < N) (k:List V → Option R):ZpK N w k = k (ZaK (ZbW w)):=by
 rw [ZxE]
 unfold Zsv
 rw [ZL6 N hw hN,Zd3]
 simp only [Bool.true_and,Bool.and_true,Zaj]
 have hl:=Zi8 w
 obtain ⟨es,he,hr⟩:=Zpk N (L:=ZbB w) (by omega) hN (fun k4 e5=>(match Zbb (freeze false [some ⟨e5,1,9,0⟩] 11) ((e5.drop 0).take k4) with
   | some e6=>Zaj (decide (0 + k4 ≤ e5.length)) (Zaj (e6.all V.plain) (k e6))
   | none=>none))
 refine he.trans ?_
 have e1:((ZaK (ZbY (ZbB w)) ++ es).drop 0).take (ZbY (ZbB w)).length = ZaK (ZbY (ZbB w)):=by
  rw [List.drop_zero,List.take_append_of_le_length (by rw [Zbi]; exact Nat.le_refl _),List.take_of_length_le (by rw [Zbi]; exact Nat.le_refl _)]
 simp only [e1,Zli,ZmP,Zaj]
 rw [decide_eq_true (by rw [List.length_append,Zbi]; omega)]
 rfl
theorem Zl3 {L:List ByteArray} (hl:L.length ≤ 1048577) (hz:∀ p ∈ L,p.size ≤ 1048576) (hN:1048580 < N) (f:Fl) (k:Bool → Option R) :
  ZHU N (ZaK L) f k = k (!L.all ZeB):=by
 rw [ZzO]
 unfold ZqG
 rw [Zza]
 unfold Zsw
 rw [Zbi]
 refine (Zb6 (β:=Nat) (l:=fun n i=>ZgF N (ZaK L) _ (L.length:Int) _ _ n (i:Int)) (len:=L.length) (q:=fun i=>if !ZeB (at_ L i) then some i else none) (kb:=fun i=>k (decide ((i:Int) ≥ 0))) (k1:=k (decide ((-1:Int) ≥ 0))) ?_ ?_ (show L.length < N by omega)).trans ?_
 ·intro n i hi _
  simp only [ZgF,Zda,Zbf hi,Int.natCast_nonneg,if_true,Int.toNat_natCast,ZcQ hi,Zag,Zdh]
  rw [Zxa]
  unfold Zqi
  rw [ZxI N (hz _ (Zgm hi)) (by omega),Zaz (i:=i) (by omega)]
  cases ZeB (at_ L i) <;> rfl
 ·intro _ n
  simp only [ZgF,Zda,Int.lt_irrefl,decide_false]
 ·have:=ZjI (q:=fun i=>!ZeB (at_ L i)) (len:=L.length)
  unfold Zhb at this
  simp only [Bool.not_not] at this
  have e:(List.range' 0 L.length).all (fun i=>ZeB (at_ L i)) = L.all ZeB:=by
   rw [Bool.eq_iff_iff,ZbA,List.all_eq_true]
   exact ⟨fun h p hp=>by
    obtain ⟨i,hi,rfl⟩:=List.getElem_of_mem hp
    rw [← Zb2 hi]
    exact h i hi,fun h i hi=>h _ (Zgm hi)⟩
  rw [← e,← this]
  generalize (List.range' 0 L.length).findSome? _ = o
  cases o <;> rfl
theorem Zms {w:ByteArray} (hw:w.size ≤ 1048576) (hN:1048580 < N) (k:Bool → Option R):ZAY N w k = k (ZgB w):=by
 rw [ZyB]
 unfold ZrA
 rw [Zyc]
 unfold ZrO ZgB
 rw [show (w.toList == (ByteArray.mk #[]).toList) = Zb3 w from rfl,ZBz,ZlZ N hw hN]
 have hl:=Zd5 w
 rw [Zl3 N (by omega) (fun p hp=>Nat.le_trans (Zlu hp) hw) hN]
 unfold inR
 by_cases h1:w.size = 0
 ·rw [decide_eq_true h1,decide_eq_false (p:=1 ≤ (w.size:Int)) (by omega),Bool.false_and,Bool.and_false]
  cases decide ((w.size:Int) ≤ 60) <;> rfl
 ·rw [decide_eq_false h1,decide_eq_true (p:=1 ≤ (w.size:Int)) (by omega),Bool.true_and]
  cases decide ((w.size:Int) ≤ 60) <;> cases (ZbW w).all ZeB <;> rfl
theorem ZFx {w:ByteArray} (hw:w.size ≤ 1048576) (hN:1048580 < N) (k:Bool → Option R):ZJ4 N w k = k (Zfv w):=by
 rw [Zw9]
 unfold ZrC Zfv
 rw [Zms N hw hN]
 cases h:ZgB w with
 | false=>rfl
 | true =>
  have:=ZcR h
  simp only
  rw [show (0:Int) = ((0:Nat):Int) from rfl,ZcH w (by rw [← Zb5]; omega)]
  rfl
end Go.VM.VL
set_option linter.unusedSimpArgs false
set_option linter.unusedVariables false
namespace Go.VM.VL
open Go
variable {R:Type} (N:Nat) {fq:Fl}
def ZeA (l:List Nod) (i:Nat):Nat:=Zbw (fun i=>(at_ l i).data.size) i
theorem ZGK {l:List Nod} (hl:Small l) (hN:1048580 < N) (f:Fl) (room:Int) (k:Int → Option R):ZIT N (nodsV fq l) f room k = k (ZeA l l.length:Nat):=by
 rw [ZxL]
 unfold ZrF
 rw [ZbP]
 have hll:=hl.len
 refine ZbK (l:=fun n i=>Zgp N (nodsV fq l) _ (l.length:Int) (nodsV fq l) f room _ n (ZeA l i:Nat) (i:Int)) (len:=l.length) (k1:=k (ZeA l l.length:Nat)) ?_ ?_ (show l.length < N by omega)
 ·intro n i hi
  have h1:=Zgd (fun i=>(at_ l i).data.size) (a:=i + 1) (b:=l.length) (by omega)
  have h2:=hl.sum
  have h3:Zbw (fun i=>(at_ l i).data.size) (i + 1) = ZeA l i + (at_ l i).data.size:=rfl
  simp only [Zgp,ZdK,Zbf hi,Int.natCast_nonneg,if_true,Int.toNat_natCast,Zbj hi,Zag,ZbD]
  rw [ZbH (by omega) (by omega),Zaz (i:=i) (by omega)]
  rfl
 ·intro n
  simp only [Zgp,ZdK,Int.lt_irrefl,decide_false]
theorem ZFJ {l:List Nod} (hl:Small l) (hN:1048580 < N) (f:Fl) (room:Int) (k:Int → Option R):ZKl N (nodsV fq l) f room k = k (ZeA l l.length:Nat):=by
 rw [ZyX]
 unfold Zp7
 rw [ZbP]
 have hll:=hl.len
 refine ZbK (l:=fun n i=>Zha N (nodsV fq l) _ (l.length:Int) (nodsV fq l) f room _ n (ZeA l i:Nat) (i:Int)) (len:=l.length) (k1:=k (ZeA l l.length:Nat)) ?_ ?_ (show l.length < N by omega)
 ·intro n i hi
  have h1:=Zgd (fun i=>(at_ l i).data.size) (a:=i + 1) (b:=l.length) (by omega)
  have h2:=hl.sum
  have h3:Zbw (fun i=>(at_ l i).data.size) (i + 1) = ZeA l i + (at_ l i).data.size:=rfl
  simp only [Zha,ZdT,Zbf hi,Int.natCast_nonneg,if_true,Int.toNat_natCast,Zbj hi,Zag,ZbD]
  rw [ZbH (by omega) (by omega),Zaz (i:=i) (by omega)]
  rfl
 ·intro n
  simp only [Zha,ZdT,Int.lt_irrefl,decide_false]
def Zd0 (es:List Ent) (x:Int) (j:Nat):Nat:=Zbw (fun j=>((at_ es j).2 == x).toNat) j
def Zbe (l:List Nod) (x:Int) (i:Nat):Nat:=Zbw (fun i=>Zd0 (at_ l i).es x (at_ l i).es.length) i
theorem Zku (es:List Ent) (x:Int):∀ j,Zd0 es x j ≤ j
 | 0=>Nat.le_refl _
 | j + 1=>by
  have ih:=Zku es x j
  show Zd0 es x j + ((at_ es j).2 == x).toNat ≤ _
  have:=Bool.toNat_le ((at_ es j).2 == x)
  omega
theorem Zjy {l:List Nod} (hl:Small l) (x:Int) {i:Nat} (h:i ≤ l.length):Zbe l x i ≤ 1048576:=by
 have h1:=ZeO (g:=fun i=>Zd0 (at_ l i).es x (at_ l i).es.length) (h:=fun i=>(at_ l i).es.length) (fun i=>Zku _ _ _) i
 have h2:=Zgd (fun i=>(at_ l i).es.length) h
 have h3:=hl.ents
 unfold Zbe; omega
theorem ZCO (es:List Ent) (hes:es.length ≤ 1048576) (hN:1048580 < N) (x:Int) (c0:Nat) (hc:c0 ≤ 1048576) (e_3:List V) (f_4:Fl) (x_5 x_6:Int) (f_8:Fl) (e_11:List V) (f_12:Fl) (x_13 x_14 x_15 x_16 x_17 x_18:Int) (w_19:ByteArray) (e_20:List V) (f_21:Fl) (k0:Int → Option R) :
  ZfQ N x e_3 f_4 x_5 x_6 (Zbv es) f_8 (es.length:Int) e_11 f_12 x_13 x_14 x_15 x_16 x_17 x_18 w_19 e_20 f_21 k0 N (c0:Int) 0 = k0 ((c0 + Zd0 es x es.length:Nat):Int):=by
 refine ZbK (l:=fun n i=>ZfQ N x e_3 f_4 x_5 x_6 (Zbv es) f_8 (es.length:Int) e_11 f_12 x_13 x_14 x_15 x_16 x_17 x_18 w_19 e_20 f_21 k0 n ((c0 + Zd0 es x i:Nat):Int) (i:Int)) (len:=es.length) (k1:=k0 ((c0 + Zd0 es x es.length:Nat):Int)) ?_ ?_ (show es.length < N by omega)
 ·intro n i hi
  have h1:=Zku es x i
  have h2:Zd0 es x (i + 1) = Zd0 es x i + ((at_ es i).2 == x).toNat:=rfl
  simp only [ZfQ,Zc5,Zbf hi,Int.natCast_nonneg,if_true,Int.toNat_natCast,ZbQ hi,Zag,Zcy]
  rw [h2,Zaz (i:=i) (by omega)]
  cases h:((at_ es i).2 == x) with
  | true=>simp only; rw [Zaz (i:=c0 + Zd0 es x i) (by omega)]; rfl
  | false=>rfl
 ·intro n
  simp only [ZfQ,Zc5,Int.lt_irrefl,decide_false]
theorem ZD0 {l:List Nod} (hl:Small l) (hN:1048580 < N) (f:Fl) (room x:Int) (k:Int → Option R):ZIY N (nodsV fq l) f room x k = k (Zbe l x l.length:Nat):=by
 rw [ZyA]
 unfold Zs7
 rw [ZbP]
 have hll:=hl.len
 refine ZbK (l:=fun n i=>ZgD N x (nodsV fq l) _ (l.length:Int) (nodsV fq l) f room _ n (Zbe l x i:Nat) (i:Int)) (len:=l.length) (k1:=k (Zbe l x l.length:Nat)) ?_ ?_ (show l.length < N by omega)
 ·intro n i hi
  simp only [ZgD,ZdA,Zbf hi,Int.natCast_nonneg,if_true,Int.toNat_natCast,Zbj hi,Zag,ZbD,Zbr]
  rw [ZCO N _ (hl.es i hi) hN _ _ (Zjy hl x (Nat.le_of_lt hi)),Zaz (i:=i) (by omega)]
  rfl
 ·intro n
  simp only [ZgD,ZdA,Int.lt_irrefl,decide_false]
def Zyw (lo:Int) (l:List Nod) (es:List Ent) (j:Nat):Bool :=
 ZoX (at_ es j).1 && (decide (j = 0) || Op.bytesLess (at_ es (j - 1)).1.toList (at_ es j).1.toList) && (inR (at_ es j).2 lo ((l.length:Int) - 1) && ((at_ l (at_ es j).2.toNat).kind != 0))
def ZpR (lo:Int) (l:List Nod) (es:List Ent):Bool:=(List.range' 0 es.length).all (Zyw lo l es)
theorem Zwh {l:List Nod} (hll:l.length ≤ 1048576) {es:List Ent} (hes:es.length ≤ 1048576) (hz:∀ j,j < es.length → (at_ es j).1.size ≤ 1048576) (hN:1048580 < N) (f g:Fl) (room:Int) (k:Bool → Option R) :
  ZHF N (nodsV fq l) f room (Zbv es) g k = k (ZpR 1 l es):=by
 rw [ZyN]
 unfold Zqc
 rw [Zbr]
 refine (ZcF (l:=fun n i=>Zhe N (Zbv es) g (Zbv es) _ (es.length:Int) (nodsV fq l) f room (fun _=>k false) (fun _=>k true) n (i:Int)) (len:=es.length) (p:=Zyw 1 l es) (k0:=k false) (k1:=k true) ?_ ?_ (show es.length < N by omega)).trans ?_
 ·intro n i hi _
  simp only [Zhe,ZdC,Zbf hi,Int.natCast_nonneg,if_true,Int.toNat_natCast,ZbQ hi,Zag,Zcy,ZNI N (hz i hi) (by omega:1048576 < N),ZbP,ZAQ]
  rw [Zaz (i:=i) (by omega),ZbH (x:=(l.length:Int) - 1) (by omega) (by omega)]
  unfold Zyw
  cases h:inR (at_ es i).2 1 ((l.length:Int) - 1) with
  | false =>
   cases ZoX (at_ es i).1 with
   | false=>rfl
   | true =>
    by_cases h0:i = 0
    ·subst h0; rfl
    ·rw [decide_eq_true (p:=((i:Int) > 0)) (by omega),decide_eq_false h0]
     simp only [Bool.not_true,Bool.true_and,Bool.false_or]
     rw [ZbH (x:=(i:Int) - 1) (by omega) (by omega),if_pos (by omega),show ((i:Int) - 1).toNat = i - 1 by omega,ZbQ (by omega)]
     simp only [Zag,Zcy]
     cases Op.bytesLess (at_ es (i - 1)).1.toList (at_ es i).1.toList <;> rfl
  | true =>
   obtain ⟨h1,h2⟩:=Zce.1 h
   have h3:0 ≤ (at_ es i).2:=by omega
   simp only [if_pos h3,Zbj (show (at_ es i).2.toNat < l.length by omega),Zag,ZbD]
   rw [show ((at_ l (at_ es i).2.toNat).kind != 0) = !((at_ l (at_ es i).2.toNat).kind == 0) from rfl]
   generalize ((at_ l (at_ es i).2.toNat).kind == 0) = c
   cases ZoX (at_ es i).1 with
   | false=>rfl
   | true =>
    by_cases h0:i = 0
    ·subst h0; cases c <;> rfl
    ·rw [decide_eq_true (p:=((i:Int) > 0)) (by omega),decide_eq_false h0]
     simp only [Bool.not_true,Bool.true_and,Bool.false_or]
     rw [ZbH (x:=(i:Int) - 1) (by omega) (by omega),if_pos (by omega),show ((i:Int) - 1).toNat = i - 1 by omega,ZbQ (by omega)]
     simp only [Zag,Zcy]
     cases Op.bytesLess (at_ es (i - 1)).1.toList (at_ es i).1.toList <;> cases c <;> rfl
 ·intro _ n
  simp only [Zhe,ZdC,Int.lt_irrefl,decide_false]
 ·show (if ZpR 1 l es = true then _ else _) = _
  cases ZpR 1 l es <;> rfl
def ZAx (n:Nod):Bool:=(n.mode == 0) && (n.uid == 0) && (n.gid == 0) && (n.time == 0) && Zb3 n.data && ((n.es.length:Int) == 0)
def ZtY (lo:Int) (l:List Nod) (n:Nod):Bool :=
 if n.kind = 1 then decide ((n.data.size:Int) ≤ 60) && ((n.es.length:Int) == 0)
 else if n.kind = 2 then Zb3 n.data && ZpR lo l n.es
 else if n.kind = 3 then ZgB n.data && ((n.es.length:Int) == 0)
 else false
def Zkp (lo:Int) (l:List Nod) (n:Nod):Bool :=
 if n.kind = 0 then ZAx n else inR n.mode 0 511 && inR n.uid 0 99 && inR n.gid 0 99 && inR n.time 0 1000000 && ZtY lo l n
structure NodSmall (n:Nod):Prop where
 data:n.data.size ≤ 1048576
 es:n.es.length ≤ 1048576
 name:∀ j,j < n.es.length → (at_ n.es j).1.size ≤ 1048576
theorem Small.nod {l:List Nod} (h:Small l) {i:Nat} (hi:i < l.length):NodSmall (at_ l i):=⟨h.data i hi,h.es i hi,h.name i hi⟩
theorem ZIw {l:List Nod} (hll:l.length ≤ 1048576) {n:Nod} (hn:NodSmall n) (hN:1048580 < N) (f g:Fl) (room:Int) (k:Bool → Option R) :
  ZJf N (nodsV fq l) f room n.kind n.mode n.uid n.gid n.time n.data (Zbv n.es) g k = k (Zkp 1 l n):=by
 rw [ZzL]
 unfold Zsi
 rw [Zzw]
 unfold Zqa
 simp only [ZAQ,Zwh N hll hn.es hn.name hN,ZxW N hn.data hN,Zbr]
 unfold Zkp ZtY ZAx
 rw [show (n.data.toList == (ByteArray.mk #[]).toList) = Zb3 n.data from rfl]
 by_cases h0:n.kind = 0
 ·rw [if_pos h0,beq_iff_eq.2 h0]
  cases (n.mode == 0) <;> cases (n.uid == 0) <;> cases (n.gid == 0) <;> cases (n.time == 0) <;> cases Zb3 n.data <;> rfl
 ·rw [if_neg h0,beq_false_of_ne h0]
  cases inR n.mode 0 511 <;> cases inR n.uid 0 99 <;> cases inR n.gid 0 99 <;> cases inR n.time 0 1000000 <;> try rfl
  simp only [Bool.not_true,Bool.true_and]
  by_cases h1:n.kind = 1
  ·rw [if_pos h1,beq_iff_eq.2 h1]
   cases decide ((n.data.size:Int) ≤ 60) <;> rfl
  ·rw [if_neg h1,beq_false_of_ne h1]
   by_cases h2:n.kind = 2
   ·rw [if_pos h2,beq_iff_eq.2 h2]
    cases Zb3 n.data <;> rfl
   ·rw [if_neg h2,beq_false_of_ne h2]
    by_cases h3:n.kind = 3
    ·rw [if_pos h3,beq_iff_eq.2 h3]
     cases ZgB n.data <;> rfl
    ·rw [if_neg h3,beq_false_of_ne h3]
theorem ZF4 {l:List Nod} (hll:l.length ≤ 1048576) (f:Fl) (room x:Int) (k:Bool → Option R) :
  ZCK N (nodsV fq l) f room x k = k (inR x 0 ((l.length:Int) - 1) && ((at_ l x.toNat).kind != 0)):=by
 rw [Zxh]
 unfold Zs4
 rw [ZAv,ZbP,ZbH (x:=(l.length:Int) - 1) (by omega) (by omega)]
 cases h:inR x 0 ((l.length:Int) - 1) with
 | false=>rfl
 | true =>
  obtain ⟨h1,h2⟩:=Zce.1 h
  simp only
  rw [if_pos h1,Zbj (by omega)]
  rfl
theorem ZHk {l:List Nod} (hll:l.length ≤ 1048576) {es:List Ent} (hes:es.length ≤ 1048576) (hz:∀ j,j < es.length → (at_ es j).1.size ≤ 1048576) (hN:1048580 < N) (f g h:Fl) (room x_8 x_9 x_10 x_11 x_12:Int) (w:ByteArray) (a b:Option R) :
  Ze7 N (Zbv es) f (es.length:Int) (nodsV fq l) g room x_8 x_9 x_10 x_11 x_12 w (Zbv es) h (fun _=>a) (fun _=>b) N 0 = if ZpR 0 l es then b else a:=by
 refine ZcF (l:=fun n i=>Ze7 N (Zbv es) f (es.length:Int) (nodsV fq l) g room x_8 x_9 x_10 x_11 x_12 w (Zbv es) h (fun _=>a) (fun _=>b) n (i:Int)) (len:=es.length) (p:=Zyw 0 l es) (k0:=a) (k1:=b) ?_ ?_ (show es.length < N by omega)
 ·intro n i hi _
  simp only [Ze7,Zc6,Zbf hi,Int.natCast_nonneg,if_true,Int.toNat_natCast,ZbQ hi,Zag,Zcy,ZBg N (hz i hi) (by omega:1048576 < N),ZF4 N hll]
  rw [Zaz (i:=i) (by omega)]
  unfold Zyw
  generalize (inR (at_ es i).2 0 ((l.length:Int) - 1) && ((at_ l (at_ es i).2.toNat).kind != 0)) = c
  cases ZoX (at_ es i).1 with
  | false=>rfl
  | true =>
   by_cases h0:i = 0
   ·subst h0
    cases c <;> rfl
   ·rw [decide_eq_true (p:=((i:Int) > 0)) (by omega),decide_eq_false h0]
    simp only [Bool.not_true,Bool.true_and,Bool.false_or]
    rw [ZbH (x:=(i:Int) - 1) (by omega) (by omega),if_pos (by omega),show ((i:Int) - 1).toNat = i - 1 by omega,ZbQ (by omega)]
    simp only [Zag,Zcy]
    cases Op.bytesLess (at_ es (i - 1)).1.toList (at_ es i).1.toList <;> cases c <;> rfl
 ·intro _ n
  simp only [Ze7,Zc6,Int.lt_irrefl,decide_false]
theorem ZJI {l:List Nod} (hll:l.length ≤ 1048576) {n:Nod} (hn:NodSmall n) (hN:1048580 < N) (f g:Fl) (room:Int) (k:Bool → Option R) :
  ZIE N (nodsV fq l) f room n.kind n.mode n.uid n.gid n.time n.data (Zbv n.es) g k = k (Zkp 0 l n):=by
 rw [ZxB]
 unfold ZsF
 rw [ZxK,Zo6,Zy8,Zx3]
 unfold Zso Zmo Zsk Zq8
 simp only [ZAv,Zms N hn.data hN,Zbr,ZHk N hll hn.es hn.name hN]
 unfold Zkp ZtY ZAx
 rw [show (n.data.toList == (ByteArray.mk #[]).toList) = Zb3 n.data from rfl]
 by_cases h0:n.kind = 0
 ·rw [if_pos h0,beq_iff_eq.2 h0]
  cases (n.mode == 0) <;> cases (n.uid == 0) <;> cases (n.gid == 0) <;> cases (n.time == 0) <;> cases Zb3 n.data <;> rfl
 ·rw [if_neg h0,beq_false_of_ne h0]
  cases inR n.mode 0 511 <;> cases inR n.uid 0 99 <;> cases inR n.gid 0 99 <;> cases inR n.time 0 1000000 <;> try rfl
  simp only [Bool.not_true,Bool.true_and]
  have hle:decide ((n.es.length:Int) > 0) = !((n.es.length:Int) == 0):=by
   by_cases h:(n.es.length:Int) = 0
   ·rw [h]; rfl
   ·rw [beq_false_of_ne h,decide_eq_true (by omega)]; rfl
  rw [hle]
  by_cases h1:n.kind = 1
  ·rw [h1]
   cases ((n.es.length:Int) == 0) <;> cases decide ((n.data.size:Int) ≤ 60) <;> rfl
  ·rw [if_neg h1]
   by_cases h2:n.kind = 2
   ·rw [h2]
    show (if ZpR 0 l n.es = true then k (Zb3 n.data) else k false) = k (Zb3 n.data && ZpR 0 l n.es)
    cases ZpR 0 l n.es <;> cases Zb3 n.data <;> rfl
   ·rw [if_neg h2,show (n.kind != 2) = true from bne_iff_ne.2 h2,beq_false_of_ne h1,beq_false_of_ne h2]
    by_cases h3:n.kind = 3
    ·rw [if_pos h3,beq_iff_eq.2 h3]
     cases ((n.es.length:Int) == 0) <;> cases ZgB n.data <;> rfl
    ·rw [if_neg h3,beq_false_of_ne h3]
     cases ((n.es.length:Int) == 0) <;> rfl
end Go.VM.VL
set_option linter.unusedSimpArgs false
set_option linter.unusedVariables false
namespace Go.VM.VL
open Go
variable {R:Type} (N:Nat) {fq:Fl}
theorem Zst (g h:Nat → Nat):∀ n,Zbw (fun i=>g i + h i) n = Zbw g n + Zbw h n
 | 0=>rfl
 | n + 1=>by
  have:=Zst g h n
  show Zbw (fun i=>g i + h i) n + (g n + h n) = _
  rw [this]
  show _ = (Zbw g n + g n) + (Zbw h n + h n)
  omega
theorem Zg2 {g h:Nat → Nat}:∀ n,(∀ i,i < n → g i = h i) → Zbw g n = Zbw h n
 | 0,_=>rfl
 | n + 1,e=>by
  show Zbw g n + g n = Zbw h n + h n
  rw [Zg2 n fun i hi=>e i (by omega),e n (by omega)]
theorem Zjo:∀ n,Zbw (fun _=>0) n = 0
 | 0=>rfl
 | n + 1=>by show Zbw (fun _=>0) n + 0 = 0; rw [Zjo n]
theorem ZpP (g:Nat → Nat) {a:Nat}:∀ n,a < n → Zbw (fun i=>if i = a then g i else 0) n = g a
 | 0,h=>by omega
 | n + 1,h=>by
  show Zbw (fun i=>if i = a then g i else 0) n + (if n = a then g n else 0) = _
  by_cases hn:n = a
  ·subst hn
   rw [if_pos rfl,Zg2 (h:=fun _=>0) n fun i hi=>if_neg (by omega),Zjo]; omega
  ·rw [if_neg hn,ZpP g n (by omega)]; rfl
structure Dist (len:Nat) (s:List Nat):Prop where
 one:∀ n,s.count n ≤ 1
 lt:∀ n ∈ s,n < len
def ZpF (g:Nat → Nat):List Nat → Nat
 | []=>0
 | a :: l=>g a + ZpF g l
theorem Zmu (g:Nat → Nat) {len:Nat}:∀ (s:List Nat),(∀ n ∈ s,n < len) → ZpF g s = Zbw (fun n=>s.count n * g n) len
 | [],_=>by simp [ZpF,Zjo]
 | a :: s,h=>by
  have ih:=Zmu g s fun n hn=>h n (List.mem_cons_of_mem _ hn)
  have e:Zbw (fun n=>(a :: s).count n * g n) len = Zbw (fun n=>(s.count n * g n) + (if n = a then g n else 0)) len:=Zg2 _ fun n _=>by
   by_cases hn:n = a
   ·subst hn; rw [List.count_cons_self,if_pos rfl,Nat.add_mul,Nat.one_mul]
   ·rw [List.count_cons_of_ne (fun h=>hn h.symm),if_neg hn,Nat.add_zero]
  show g a + ZpF g s = _
  rw [e,Zst,← ih,ZpP g len (h a List.mem_cons_self)]; omega
theorem Dist.sum {len:Nat} {s:List Nat} (h:Dist len s) (g:Nat → Nat):ZpF g s ≤ Zbw g len:=by
 rw [Zmu g s h.lt]
 exact ZeO (fun n=>by
  have:=h.one n
  calc s.count n * g n ≤ 1 * g n:=Nat.mul_le_mul_right _ this
   _ = g n:=Nat.one_mul _) _
theorem Zmm:∀ n,Zbw (fun _=>1) n = n
 | 0=>rfl
 | n + 1=>by show Zbw (fun _=>1) n + 1 = _; rw [Zmm n]
theorem Zr8:∀ s:List Nat,ZpF (fun _=>1) s = s.length
 | []=>rfl
 | a :: s=>by show 1 + ZpF _ s = _; rw [Zr8 s,List.length_cons]; omega
theorem Dist.len {len:Nat} {s:List Nat} (h:Dist len s):s.length ≤ len:=by
 have:=h.sum fun _=>1
 rwa [Zmm,Zr8] at this
def Zca (s:List Nat):List V:=s.map fun (n:Nat)=>V.int .i64 (n:Int)
theorem Zd1 (s:List Nat):(Zca s).length = s.length:=by simp [Zca]
theorem ZoL {s:List Nat} {i:Nat} (h:i < s.length):nth (Zca s) i = some (.int .i64 (at_ s i:Nat)):=by rw [Zca,ZdX,Ze6 h,Zb2 h]; rfl
theorem ZGI {s:List Nat} (hs:s.length ≤ 1048576) (hN:1048580 < N) (f:Fl) (x:Nat) (k:Bool → Option R):Zl8 N (Zca s) f (x:Int) k = k (s.contains x):=by
 rw [Zxd]
 unfold Zse
 rw [Zd1]
 refine (ZcF (l:=fun n i=>ZgG N (x:Int) (Zca s) _ (s.length:Int) _ _ n (i:Int)) (len:=s.length) (p:=fun i=>!(at_ s i == x)) (k0:=k true) (k1:=k false) ?_ ?_ (show s.length < N by omega)).trans ?_
 ·intro n i hi _
  simp only [ZgG,Zdr,Zbf hi,Int.natCast_nonneg,if_true,Int.toNat_natCast,ZoL hi,Zag,Zfk]
  rw [Zaz (i:=i) (by omega),show (((at_ s i:Nat):Int) == (x:Int)) = (at_ s i == x) by
   by_cases h:at_ s i = x
   ·rw [beq_iff_eq.2 h,beq_iff_eq.2 (by rw [h])]
   ·rw [beq_false_of_ne h,beq_false_of_ne (by omega)]]
  cases (at_ s i == x) <;> rfl
 ·intro _ n
  simp only [ZgG,Zdr,Int.lt_irrefl,decide_false]
 ·have e:(List.range' 0 s.length).all (fun i=>!(at_ s i == x)) = !s.contains x:=by
   rw [Bool.eq_iff_iff,ZbA,Bool.not_eq_true',← Bool.not_eq_true,List.contains_iff_mem]
   constructor
   ·intro h hm
    obtain ⟨i,hi,he⟩:=List.getElem_of_mem hm
    have:=h i hi
    rw [Zb2 hi,he] at this
    simp at this
   ·intro h i hi
    rw [Zb2 hi]
    cases hb:(s[i] == x) with
    | false=>rfl
    | true=>exact absurd (by rw [← beq_iff_eq.1 hb]; exact List.getElem_mem hi) h
  rw [e]
  cases s.contains x <;> rfl
def ZdY (s:List Nat) (x:Nat):Nat:=match (List.range' 0 s.length).findSome? (fun i=>if at_ s i < x then none else some i) with | some i=>i | none=>s.length
def Zgz (s:List Nat) (x:Nat):List Nat:=s.take (ZdY s x) ++ [x] ++ s.drop (ZdY s x)
theorem ZI9 (s:List Nat) (x:Nat):ZdY s x ≤ s.length:=by
 unfold ZdY
 cases h:(List.range' 0 s.length).findSome? (fun i=>if at_ s i < x then none else some i) with
 | none=>exact Nat.le_refl _
 | some i =>
  obtain ⟨j,hj,he⟩:=List.exists_of_findSome?_eq_some h
  rw [List.mem_range'] at hj
  obtain ⟨m,hm,rfl⟩:=hj
  split at he
  ·cases he
  ·obtain rfl:=Option.some.inj he
   show 0 + 1 * m ≤ _
   omega
theorem Zml (s:List Nat) (x n:Nat):(Zgz s x).count n = s.count n + if x = n then 1 else 0:=by
 unfold Zgz
 have e:(s.take (ZdY s x)).count n + (s.drop (ZdY s x)).count n = s.count n:=by rw [← List.count_append,List.take_append_drop]
 rw [List.count_append,List.count_append,List.count_singleton]
 by_cases h:x = n
 ·subst h; simp; omega
 ·rw [if_neg h,beq_false_of_ne h]; simp; omega
theorem Zhu (s:List Nat) (x n:Nat):n ∈ Zgz s x ↔ n ∈ s ∨ n = x:=by
 have h1:=Zml s x n
 rw [← List.count_pos_iff,← List.count_pos_iff,h1]
 by_cases h:x = n
 ·subst h; simp
 ·rw [if_neg h]
  constructor
  ·intro h2; exact .inl (by omega)
  ·rintro (h2 | rfl)
   ·omega
   ·exact absurd rfl h
theorem Zf8 (s:List Nat) (x:Nat):(Zgz s x).length = s.length + 1:=by
 have:=ZI9 s x
 unfold Zgz
 simp only [List.length_append,List.length_take,List.length_drop,List.length_singleton]; omega
theorem Zk8 (s:List Nat):(Zca s).map V.noOwn = Zca s:=by unfold Zca; rw [List.map_map]; rfl
theorem ZmU (s:List Nat) (j:Nat):(Zca s).take j = Zca (s.take j):=by unfold Zca; rw [List.map_take]
theorem Zme (s:List Nat) (j:Nat):(Zca s).drop j = Zca (s.drop j):=by unfold Zca; rw [List.map_drop]
theorem ZlC (s t:List Nat):Zca s ++ Zca t = Zca (s ++ t):=by unfold Zca; rw [List.map_append]
theorem Zw7 (es:List V):ZjY .sh es = true:=rfl
theorem ZK9 {s:List Nat} (hs:s.length ≤ 1048576) (hN:1048580 < N) {x:Nat} (hx:x ∉ s) (k:List V → Option R):ZHD N (Zca s) .sh (x:Int) k = k (Zca (Zgz s x)):=by
 rw [Zzj]
 unfold ZpS
 have hx1:([.int .i64 (x:Int)]:List V) = Zca [x]:=rfl
 simp only [hx1,Zd1,Fl.noOwn,Zw7,Zaj]
 refine (Zb6 (β:=Nat) (l:=fun n i=>Zgt N (Zca s) .sh (x:Int) _ n (i:Int)) (len:=s.length) (q:=fun i=>if at_ s i < x then none else some i) (kb:=fun i=>k (Zca (s.take i ++ [x] ++ s.drop i))) (k1:=k (Zca (s.take s.length ++ [x] ++ s.drop s.length))) ?_ ?_ (show s.length < N by omega)).trans ?_
 ·intro n i hi _
  simp only [Zgt,Zdz,Zd1,Zbf hi,Int.natCast_nonneg,if_true,Int.toNat_natCast,ZoL hi,Zag,Zfk]
  by_cases h:at_ s i < x
  ·rw [decide_eq_true (show ((at_ s i:Nat):Int) < (x:Int) by omega),if_pos h,Zaz (i:=i) (by omega)]
  ·rw [decide_eq_false (show ¬ ((at_ s i:Nat):Int) < (x:Int) by omega),if_neg h]
   have hne:(((at_ s i:Nat):Int) == (x:Int)) = false:=beq_false_of_ne fun he=>hx (by rw [← show at_ s i = x by omega]; exact Zgm hi)
   simp only [hne]
   simp only [ZmU,Zme,Zk8,List.drop_zero,List.nil_append,ZlC,Zd1]
   have hle:(i:Int) ≤ (s.length:Int):=by omega
   simp only [true_and,hle,if_true]
   repeat rw [if_pos (by (try simp only [List.length_append,List.length_take,List.length_drop,List.length_singleton]); omega)]
   rw [List.take_of_length_le (Nat.le_refl _)]
 ·intro _ n
  simp only [Zgt,Zdz,Zd1,Int.lt_irrefl,decide_false]
  simp only [ZmU,Zme,Zk8,List.drop_zero,List.nil_append,ZlC,Zd1,Int.toNat_natCast]
  rw [if_pos (show (0:Int) ≤ (s.length:Int) ∧ (s.length:Int) ≤ (s.length:Int) from ⟨by omega,by omega⟩),List.take_of_length_le (Nat.le_refl _)]
  repeat rw [if_pos (by (try simp only [List.length_append,List.length_take,List.length_drop,List.length_singleton]); omega)]
 ·unfold Zgz ZdY
  cases (List.range' 0 s.length).findSome? (fun i=>if at_ s i < x then none else some i) <;> rfl
def Zfg (l:List Nod):Prop:=∀ i,i < l.length → ∀ j,j < (at_ l i).es.length → 0 ≤ (at_ (at_ l i).es j).2 ∧ (at_ (at_ l i).es j).2 < l.length
def kid (l:List Nod) (x j:Nat):Nat:=(at_ (at_ l x).es j).2.toNat
theorem Zfg.kid {l:List Nod} (h:Zfg l) {x j:Nat} (hx:x < l.length) (hj:j < (at_ l x).es.length):kid l x j < l.length ∧ (at_ (at_ l x).es j).2 = (kid l x j:Nat):=by
 have:=h x hx j hj
 unfold VL.kid
 omega
def ZQ9 (f:Nat → List Nat → List Nat) (l:List Nod) (x:Nat) (s:List Nat):Nat → List Nat
 | 0=>s
 | j + 1=>f (kid l x j) (ZQ9 f l x s j)
def Zmd (l:List Nod):Nat → Nat → List Nat → List Nat
 | 0,_,s=>s
 | M + 1,x,s=>if s.contains x then s else ZQ9 (Zmd l M) l x (Zgz s x) (at_ l x).es.length
def ZsW (l:List Nod) (M x:Nat) (s:List Nat) (j:Nat):List Nat:=ZQ9 (Zmd l M) l x s j
theorem Dist.put {len:Nat} {s:List Nat} (h:Dist len s) {x:Nat} (hx:x < len) (hn:s.contains x = false):Dist len (Zgz s x):=by
 have hnm:x ∉ s:=fun hm=>by rw [List.contains_iff_mem.2 hm] at hn; cases hn
 refine ⟨fun n=>?_,fun n hm=>?_⟩
 ·rw [Zml]
  by_cases hxn:x = n
  ·subst hxn
   rw [if_pos rfl,List.count_eq_zero.2 hnm]; omega
  ·rw [if_neg hxn]; exact h.one n
 ·rcases (Zhu s x n).1 hm with h2 | rfl
  ·exact h.lt n h2
  ·exact hx
structure MetOk (l:List Nod) (s r:List Nat):Prop where
 dist:Dist l.length r
 sub:∀ n ∈ s,n ∈ r
 len:s.length ≤ r.length
 closed:∀ n ∈ r,n ∉ s → ∀ j,j < (at_ l n).es.length → kid l n j ∈ r
inductive Reach (l:List Nod):Nat → Prop where
 | root:Reach l 0
 | step {x j:Nat}:Reach l x → x < l.length → j < (at_ l x).es.length → Reach l (kid l x j)
theorem MetOk.refl {l:List Nod} {s:List Nat} (h:Dist l.length s):MetOk l s s:=⟨h,fun _ h=>h,Nat.le_refl _,fun n h1 h2=>absurd h1 h2⟩
theorem MetOk.trans {l:List Nod} {s r t:List Nat} (h1:MetOk l s r) (h2:MetOk l r t):MetOk l s t :=
 ⟨h2.dist,fun n h=>h2.sub n (h1.sub n h),Nat.le_trans h1.len h2.len,fun n hn hs j hj=>by
  by_cases hr:n ∈ r
  ·exact h2.sub _ (h1.closed n hr hs j hj)
  ·exact h2.closed n hn hr j hj⟩
theorem Zyj {l:List Nod} (he:Zfg l):∀ (M x:Nat) (s:List Nat),x < l.length → Dist l.length s → l.length - s.length < M →
  MetOk l s (Zmd l M x s) ∧ x ∈ Zmd l M x s ∧ ((Reach l x → ∀ n ∈ s,Reach l n) → Reach l x → ∀ n ∈ Zmd l M x s,Reach l n)
 | 0,x,s,_,_,h=>by omega
 | M + 1,x,s,hx,hs,hM=>by
  rw [show Zmd l (M + 1) x s = if s.contains x then s else ZsW l M x (Zgz s x) (at_ l x).es.length from rfl]
  cases hc:s.contains x with
  | true=>exact ⟨MetOk.refl hs,List.contains_iff_mem.1 hc,fun h1 h2=>h1 h2⟩
  | false =>
   have hd:=hs.put hx hc
   have hl:=hd.len
   rw [Zf8] at hl
   have hL:∀ j,j ≤ (at_ l x).es.length → MetOk l (Zgz s x) (ZsW l M x (Zgz s x) j) ∧ (∀ i,i < j → kid l x i ∈ ZsW l M x (Zgz s x) j) ∧
     ((∀ n ∈ s,Reach l n) → Reach l x → ∀ n ∈ ZsW l M x (Zgz s x) j,Reach l n):=by
    intro j
    induction j with
    | zero =>
     intro _
     rw [show ZsW l M x (Zgz s x) 0 = Zgz s x from rfl]
     refine ⟨MetOk.refl hd,fun i hi=>by omega,fun h1 h2 n hn=>?_⟩
     rcases (Zhu s x n).1 hn with h3 | rfl
     ·exact h1 n h3
     ·exact h2
    | succ j ih =>
     intro hj
     obtain ⟨i1,i2,i3⟩:=ih (by omega)
     have hk:=(he.kid hx (show j < (at_ l x).es.length by omega)).1
     have hlen:=i1.len
     rw [Zf8] at hlen
     obtain ⟨m1,m2,m3⟩:=Zyj he M (kid l x j) _ hk i1.dist (by omega)
     rw [show ZsW l M x (Zgz s x) (j + 1) = Zmd l M (kid l x j) (ZsW l M x (Zgz s x) j) from rfl]
     refine ⟨i1.trans m1,fun i hi=>?_,fun h1 h2 n hn=>?_⟩
     ·rcases Nat.lt_or_ge i j with h3 | h3
      ·exact m1.sub _ (i2 i h3)
      ·obtain rfl:i = j:=by omega
       exact m2
     ·exact m3 (fun _=>i3 h1 h2) (Reach.step h2 hx (by omega)) n hn
   obtain ⟨h1,h2,h3⟩:=hL _ (Nat.le_refl _)
   refine ⟨⟨h1.dist,fun n hn=>h1.sub n ((Zhu s x n).2 (.inl hn)),by have:=h1.len; rw [Zf8] at this; simp only [Bool.false_eq_true,if_false]; omega,fun n hn hns j hj=>?_⟩,h1.sub x ((Zhu s x x).2 (.inr rfl)),fun h4 h5=>h3 (h4 h5) h5⟩
   by_cases hnx:n = x
   ·subst hnx; exact h2 j hj
   ·exact h1.closed n hn (fun hm=>by
     rcases (Zhu s x n).1 hm with h6 | h6
     ·exact hns h6
     ·exact hnx h6) j hj
theorem ZEV {l:List Nod} (hl:Small l) (he:Zfg l) (hN:1048580 < N) (room:Int):∀ (M x:Nat) (s:List Nat) (f:Fl),x < l.length → Dist l.length s → l.length - s.length < M →
  ∀ (k:List V → Option R),ZhA N M R (nodsV fq l) f room (x:Int) (Zca s) .sh k = k (Zca (Zmd l M x s))
 | 0,x,s,_,_,_,h=>by omega
 | M + 1,x,s,f,hx,hs,hM=>by
  intro k
  have hll:=hl.len
  have hsl:=hs.len
  rw [ZyC]
  unfold ZzP
  rw [ZGI N (by omega) hN,show Zmd l (M + 1) x s = if s.contains x then s else ZsW l M x (Zgz s x) (at_ l x).es.length from rfl]
  cases hc:s.contains x with
  | true=>rfl
  | false =>
   have hnm:x ∉ s:=fun hm=>by rw [List.contains_iff_mem.2 hm] at hc; cases hc
   have hd:=hs.put hx hc
   have hl2:=hd.len
   rw [Zf8] at hl2
   simp only [Fl.noOwn,ZK9 N (show s.length ≤ 1048576 by omega) hN hnm,Bool.false_eq_true,if_false]
   rw [if_pos (by omega),Int.toNat_natCast,Zbj hx]
   simp only [Zag,ZbD,Zbr]
   have hes:=hl.es x hx
   have hmL:∀ j,j ≤ (at_ l x).es.length → MetOk l (Zgz s x) (ZsW l M x (Zgz s x) j):=by
    intro j
    induction j with
    | zero=>intro _; rw [show ZsW l M x (Zgz s x) 0 = Zgz s x from rfl]; exact MetOk.refl hd
    | succ j ih =>
     intro hj
     have i1:=ih (by omega)
     have hlen:=i1.len
     rw [Zf8] at hlen
     rw [show ZsW l M x (Zgz s x) (j + 1) = Zmd l M (kid l x j) (ZsW l M x (Zgz s x) j) from rfl]
     exact i1.trans (Zyj he M (kid l x j) _ (he.kid hx (show j < (at_ l x).es.length by omega)).1 i1.dist (by omega)).1
   have e0:Zca (Zgz s x) = Zca (ZsW l M x (Zgz s x) 0):=rfl
   conv=>lhs; rw [e0]
   refine ZbK (l:=fun n i=>Zgs N (ZhA N M) (Zbv (at_ l x).es) _ ((at_ l x).es.length:Int) (nodsV fq l) f room _ n (Zca (ZsW l M x (Zgz s x) i)) (i:Int)) (len:=(at_ l x).es.length) (k1:=k (Zca (ZsW l M x (Zgz s x) (at_ l x).es.length))) ?_ ?_ (show (at_ l x).es.length < N by omega)
   ·intro n i hi
    have h1:=hmL i (by omega)
    have h2:=h1.len
    rw [Zf8] at h2
    obtain ⟨h3,h4⟩:=he.kid hx hi
    simp only [Zgs,Zdb,Zbf hi,Int.natCast_nonneg,if_true,Int.toNat_natCast,ZbQ hi,Zag,Zcy,h4]
    rw [ZEV hl he hN room M (kid l x i) _ _ h3 h1.dist (by omega),Zaz (i:=i) (by omega)]
    rw [show ZsW l M x (Zgz s x) (i + 1) = Zmd l M (kid l x i) (ZsW l M x (Zgz s x) i) from rfl]
   ·intro n
    simp only [Zgs,Zdb,Int.lt_irrefl,decide_false]
end Go.VM.VL
set_option linter.unusedSimpArgs false
set_option linter.unusedVariables false
namespace Go.VM.VL
open Go
variable {R:Type} (N:Nat) {fq:Fl}
theorem Zf9 {lo:Int} (hlo:0 ≤ lo) {l:List Nod} (h:(List.range' 0 l.length).all (fun i=>Zkp lo l (at_ l i)) = true):Zfg l:=by
 intro i hi j hj
 have h1:=ZbA.1 h i hi
 unfold Zkp at h1
 split at h1
 ·simp only [ZAx,Bool.and_eq_true,beq_iff_eq] at h1; omega
 ·simp only [Bool.and_eq_true] at h1
  have h2:=h1.2
  unfold ZtY at h2
  split at h2
  ·simp only [Bool.and_eq_true,beq_iff_eq] at h2; omega
  ·split at h2
   ·rw [Bool.and_eq_true] at h2
    have h3:=ZbA.1 h2.2 j hj
    simp only [Zyw,Bool.and_eq_true,Zce] at h3
    omega
   ·split at h2
    ·simp only [Bool.and_eq_true,beq_iff_eq] at h2; omega
    ·cases h2
def ZeV (l:List Nod) (met:List Nat) (i:Nat):Bool :=
 !(decide (i = 0) && decide ((Zbe l i l.length:Int) > 0)) && !(decide (i > 0) && ((at_ l i).kind == 2) && !((Zbe l i l.length:Int) == 1)) && !(!((at_ l i).kind == 0) && !met.contains i)
def ZJr (l:List Nod) (room:Int):Bool :=
 inR (l.length:Int) 1 40 && inR room 0 1000 && !decide ((ZeA l l.length:Int) > room) && ((at_ l 0).kind == 2) && (List.range' 0 l.length).all (fun i=>Zkp 1 l (at_ l i))
  && (List.range' 0 l.length).all (ZeV l (Zmd l N 0 []))
theorem Zqe {a b:Nat}:((a:Int) == (b:Int)) = decide (a = b):=by
 by_cases h:a = b
 ·subst h; simp
 ·rw [decide_eq_false h,beq_false_of_ne (by omega)]
theorem ZIZ {l:List Nod} (hl:Small l) (hN:1048580 < N) (f:Fl) (room:Int) (k:Bool → Option R):ZHe N (nodsV fq l) f room k = k (ZJr N l room):=by
 rw [Zyg]
 unfold Zrv ZJr
 have hll:=hl.len
 simp only [ZAQ,ZbP,ZGK N hl hN]
 cases h1:inR (l.length:Int) 1 40 with
 | false=>rfl
 | true =>
  obtain ⟨h2,h3⟩:=Zce.1 h1
  cases inR room 0 1000 with
  | false=>rfl
  | true =>
   cases decide ((ZeA l l.length:Int) > room) with
   | true=>rfl
   | false =>
    simp only [Bool.not_true,Bool.true_and,Bool.not_false]
    rw [Zbj (show 0 < l.length by omega)]
    simp only [Zag,ZbD,bne]
    cases h4:((at_ l 0).kind == 2) with
    | false=>rfl
    | true =>
     simp only [Bool.not_true,Bool.true_and]
     refine (ZcF (l:=fun n i=>ZgL N (nodsV fq l) _ (l.length:Int) (nodsV fq l) f room _ _ n (i:Int)) (len:=l.length) (p:=fun i=>Zkp 1 l (at_ l i)) (k0:=k false) (k1:=k ((List.range' 0 l.length).all (ZeV l (Zmd l N 0 [])))) ?_ ?_ (show l.length < N by omega)).trans ?_
     ·intro n i hi _
      simp only [ZgL,ZdD,Zbf hi,Int.natCast_nonneg,if_true,Int.toNat_natCast,Zbj hi,Zag,ZbD,ZIw N hll (hl.nod hi) hN]
      rw [Zaz (i:=i) (by omega)]
      cases Zkp 1 l (at_ l i) <;> rfl
     ·intro hall n
      have he:Zfg l:=Zf9 (lo:=1) (by omega) (ZbA.2 hall)
      have hd:Dist l.length []:=⟨fun n=>by simp,fun n h=>by simp at h⟩
      have hmet:=(Zyj he N 0 [] (by omega) hd (by simp; omega)).1
      have hml:=hmet.dist.len
      simp only [ZgL,ZdD,Int.lt_irrefl,decide_false]
      refine (ZEV N hl he hN room N 0 [] _ (by omega) hd (by simp; omega) _).trans ?_
      refine (ZcF (l:=fun n i=>Zg7 N (Zca (Zmd l N 0 [])) (nodsV fq l) _ (l.length:Int) (nodsV fq l) f room _ _ n (i:Int)) (len:=l.length) (p:=ZeV l (Zmd l N 0 [])) (k0:=k false) (k1:=k true) ?_ ?_ (show l.length < N by omega)).trans ?_
      ·intro n i hi _
       simp only [Zg7,Zdj,Zbf hi,Int.natCast_nonneg,if_true,Int.toNat_natCast,Zbj hi,Zag,ZbD,ZD0 N hl hN,ZGI N (show (Zmd l N 0 []).length ≤ 1048576 by omega) hN]
       rw [Zaz (i:=i) (by omega),show ((i:Int) == 0) = decide (i = 0) from Zqe (b:=0),show decide ((i:Int) > 0) = decide (i > 0) by by_cases h:i > 0 <;> simp [h]]
       simp only [bne]
       unfold ZeV
       by_cases h0:i = 0
       ·rw [decide_eq_true h0,decide_eq_false (p:=i > 0) (by omega)]
        cases decide ((Zbe l i l.length:Int) > 0) <;> cases ((at_ l i).kind == 0) <;> cases (Zmd l N 0 []).contains i <;> rfl
       ·rw [decide_eq_false h0,decide_eq_true (p:=i > 0) (by omega)]
        cases ((at_ l i).kind == 2) <;> cases ((Zbe l i l.length:Int) == 1) <;> cases ((at_ l i).kind == 0) <;> cases (Zmd l N 0 []).contains i <;> rfl
      ·intro _ n
       simp only [Zg7,Zdj,Int.lt_irrefl,decide_false]
      ·cases (List.range' 0 l.length).all (ZeV l (Zmd l N 0 [])) <;> rfl
     ·cases (List.range' 0 l.length).all (fun i=>Zkp 1 l (at_ l i)) <;> rfl
def vec (len:Nat) (g:Nat → Nat):List V:=(List.range' 0 len).map fun x=>V.int .i64 (g x:Nat)
theorem Zv0 (len:Nat) (g:Nat → Nat):(vec len g).length = len:=by simp [vec]
theorem ZF1 {len:Nat} (g:Nat → Nat) {x:Nat} (h:x < len):nth (vec len g) x = some (.int .i64 (g x:Nat)):=by
 rw [vec,ZdX,Zal,List.getElem?_range' h]; simp
theorem ZLH {len:Nat} (g:Nat → Nat) {x:Nat} (h:x < len) (v:Nat):Zav (vec len g) x (.int .i64 (v:Int)) = vec len (fun y=>if y = x then v else g y):=by
 rw [Zbg]
 apply List.ext_getElem?
 intro j
 rw [List.getElem?_set,Zv0]
 unfold vec
 by_cases hj:j < len
 ·rw [List.getElem?_map,List.getElem?_map,List.getElem?_range' hj]
  by_cases hx:x = j
  ·subst hx; simp [h]
  ·rw [if_neg hx]
   simp only [Option.map_some]
   rw [if_neg (by omega)]
 ·rw [if_neg (by omega),List.getElem?_eq_none (by simp; omega),List.getElem?_eq_none (by simp; omega)]
theorem Zkl (len:Nat) (g:Nat → Nat) (n:Nat):(vec len g).map (trimV n) = vec len g:=by unfold vec; rw [List.map_map]; rfl
theorem ZE4 {len:Nat} {g h:Nat → Nat} (e:∀ x,x < len → g x = h x):vec len g = vec len h:=by
 unfold vec
 apply List.map_congr_left
 intro x hx
 rw [List.mem_range'] at hx
 obtain ⟨j,hj,rfl⟩:=hx
 rw [e _ (by omega)]
theorem ZLF {l:List Nod} (hl:Small l) (he:Zfg l) (hN:1048580 < N) {i:Nat} (hi:i < l.length) (e_2:List V) (f_3 f_7:Fl) (x_4 x_5:Int) (e_10:List V) (f_11:Fl) (x_12 x_14 x_15 x_16 x_17 x_18:Int) (w_19:ByteArray) (e_20:List V) (f_21:Fl) (k0:List V → Option R) :
  Zfu N l.length e_2 f_3 x_4 x_5 (Zbv (at_ l i).es) f_7 ((at_ l i).es.length:Int) e_10 f_11 x_12 x_14 x_15 x_16 x_17 x_18 w_19 e_20 f_21 k0 N 0 (vec l.length fun x=>Zbe l x i) = k0 (vec l.length fun x=>Zbe l x (i + 1)):=by
 have hes:=hl.es i hi
 have hll:=hl.len
 refine ZbK (l:=fun n j=>Zfu N l.length e_2 f_3 x_4 x_5 (Zbv (at_ l i).es) f_7 ((at_ l i).es.length:Int) e_10 f_11 x_12 x_14 x_15 x_16 x_17 x_18 w_19 e_20 f_21 k0 n (j:Int) (vec l.length fun x=>Zbe l x i + Zd0 (at_ l i).es x j)) (len:=(at_ l i).es.length) (k1:=k0 (vec l.length fun x=>Zbe l x (i + 1))) ?_ ?_ (show (at_ l i).es.length < N by omega)
 ·intro n j hj
  obtain ⟨h1,h2⟩:=he.kid hi hj
  have h3:=Zjy hl (kid l i j) (Nat.le_of_lt hi)
  have h4:=Zku (at_ l i).es (kid l i j) j
  simp only [Zfu,Zdp,Zbf hj,Int.natCast_nonneg,if_true,Int.toNat_natCast,ZbQ hj,Zag,Zcy,h2,Nat.zero_add,ZF1 _ h1]
  have hlt:((kid l i j:Nat):Int) < (l.length:Int):=by omega
  simp only [hlt,true_and,if_true]
  have hcell:∀ (v:Int) (K:V → List V → Option R),Zbl ((V.int .i64 v).cells.drop 0) K = K (.int .i64 v) []:=fun v K=>rfl
  have hput:∀ (u v:Int),ZaM (.int .i64 u) 0 [.int .i64 v] = some (.int .i64 v):=fun u v=>rfl
  simp only [hcell,Zfk,hput]
  rw [Zaz (i:=j) (by omega),Zaz (i:=Zbe l (kid l i j) i + Zd0 (at_ l i).es (kid l i j) j) (by omega)]
  rw [ZLH _ h1,Zkl]
  congr 1
  apply ZE4
  intro x hx
  have e:Zd0 (at_ l i).es x (j + 1) = Zd0 (at_ l i).es x j + ((at_ (at_ l i).es j).2 == (x:Int)).toNat:=rfl
  by_cases hxk:x = kid l i j
  ·subst hxk
   rw [if_pos rfl,e,h2,beq_self_eq_true]; rfl
  ·rw [if_neg hxk,e,h2,beq_false_of_ne (by omega)]; rfl
 ·intro n
  simp only [Zfu,Zdp,Int.lt_irrefl,decide_false,Zkl]
  rfl
theorem ZLs {l:List Nod} (hl:Small l) (he:Zfg l) (hN:1048580 < N) (f:Fl) (room:Int) (k:List V → Option R):ZHE N (nodsV fq l) f room k = k (vec l.length fun x=>Zbe l x l.length):=by
 rw [Zzq]
 unfold Zqo
 have hll:=hl.len
 rw [ZbP,if_pos ⟨by omega,rfl,by omega⟩,Int.toNat_natCast]
 have e0:List.replicate l.length (V.int .i64 0) = vec l.length fun x=>Zbe l x 0:=by
  unfold vec
  have:∀ x:Nat,Zbe l x 0 = 0:=fun x=>rfl
  simp only [this]
  rw [List.map_const']
  simp
 rw [e0]
 refine ZbK (l:=fun n i=>ZgV N l.length (nodsV fq l) _ (l.length:Int) (nodsV fq l) f room _ n (i:Int) (vec l.length fun x=>Zbe l x i)) (len:=l.length) (k1:=k (vec l.length fun x=>Zbe l x l.length)) ?_ ?_ (show l.length < N by omega)
 ·intro n i hi
  simp only [ZgV,ZdO,Zbf hi,Int.natCast_nonneg,if_true,Int.toNat_natCast,Zbj hi,Zag,ZbD,Zbr]
  rw [ZLF N hl he hN hi,Zkl,Zaz (i:=i) (by omega)]
 ·intro n
  simp only [ZgV,ZdO,Int.lt_irrefl,decide_false,Zkl,List.drop_zero]
  rw [List.take_of_length_le (by rw [Zv0]; exact Nat.le_refl _),ZcK fun v hv=>by
   unfold vec at hv
   obtain ⟨x,_,rfl⟩:=List.mem_map.1 hv
   rfl]
  have hp:(vec l.length fun x=>Zbe l x l.length).all V.plain = true:=by
   rw [List.all_eq_true]; intro v hv
   unfold vec at hv
   obtain ⟨x,_,rfl⟩:=List.mem_map.1 hv
   rfl
  simp only [hp,Zv0,Nat.zero_add,Nat.le_refl,decide_true,Zaj]
end Go.VM.VL
set_option linter.unusedSimpArgs false
set_option linter.unusedVariables false
namespace Go.VM.VL
open Go
variable {R:Type} (N:Nat) {fq:Fl}
def ZcB (l:List Nod) (x:Nat):Bool:=(at_ l x).kind == 2
def Zb9 (l:List Nod) (x:Nat):Nat → List Nat
 | 0=>[]
 | j + 1=>Zb9 l x j ++ (if ZcB l (kid l x j) then [kid l x j] else [])
def Zcx (l:List Nod) (x:Nat):List Nat:=Zb9 l x (at_ l x).es.length
def bfs (l:List Nod):Nat → List Nat
 | 0=>[0]
 | x + 1=>if x < (bfs l x).length then bfs l x ++ Zcx l (at_ (bfs l x) x) else bfs l x
def Zfe (l:List Nod) (i:Nat):Bool :=
 if (at_ l i).kind = 0 then true
 else if i = 0 then inR (Zbe l i l.length:Int) 0 0
 else if (at_ l i).kind = 2 then inR (Zbe l i l.length:Int) 1 1
 else inR (Zbe l i l.length:Int) 1 1152921504606846976
theorem ZyI {l:List Nod} (he:Zfg l) {x:Nat} (hx:x < l.length) (n:Nat):∀ j,j ≤ (at_ l x).es.length → (Zb9 l x j).count n ≤ (if ZcB l n then Zd0 (at_ l x).es n j else 0)
 | 0,_=>by simp [Zb9]
 | j + 1,hj=>by
  have ih:=ZyI he hx n j (by omega)
  have hk:=(he.kid hx (show j < (at_ l x).es.length by omega)).2
  have e:Zd0 (at_ l x).es n (j + 1) = Zd0 (at_ l x).es n j + ((at_ (at_ l x).es j).2 == (n:Int)).toNat:=rfl
  rw [Zb9,List.count_append,e,hk]
  by_cases hn:kid l x j = n
  ·subst hn
   rw [beq_self_eq_true]
   cases hd:ZcB l (kid l x j) with
   | true=>rw [hd] at ih; simp at ih ⊢; omega
   | false=>rw [hd] at ih; simp at ih ⊢; exact ih
  ·rw [beq_false_of_ne (by omega:((kid l x j:Nat):Int) ≠ (n:Int))]
   have:(if ZcB l (kid l x j) = true then [kid l x j] else []).count n = 0:=by
    split
    ·rw [List.count_singleton,beq_false_of_ne hn]; rfl
    ·rfl
   rw [this]
   simpa using ih
theorem ZxQ {l:List Nod} {x n:Nat}:∀ {j},n ∈ Zb9 l x j ↔ ZcB l n = true ∧ ∃ i,i < j ∧ n = kid l x i
 | 0=>by simp [Zb9]
 | j + 1=>by
  rw [Zb9,List.mem_append,ZxQ (j:=j)]
  constructor
  ·rintro (⟨h1,i,hi,rfl⟩ | h)
   ·exact ⟨h1,i,by omega,rfl⟩
   ·split at h
    ·rename_i hd
     obtain rfl:=List.mem_singleton.1 h
     exact ⟨hd,j,by omega,rfl⟩
    ·simp at h
  ·rintro ⟨h1,i,hi,rfl⟩
   rcases Nat.lt_or_ge i j with h2 | h2
   ·exact .inl ⟨h1,i,h2,rfl⟩
   ·obtain rfl:i = j:=by omega
    rw [if_pos h1]
    exact .inr (List.mem_singleton.2 rfl)
theorem Zzn {l:List Nod} {n:Nat} (h:ZcB l n = true):n < l.length:=by
 rcases Nat.lt_or_ge n l.length with h1 | h1
 ·exact h1
 ·unfold ZcB at_ at h
  rw [List.getD_eq_getElem?_getD,List.getElem?_eq_none h1] at h
  exact absurd h (by decide)
structure Linked (l:List Nod):Prop where
 ent:Zfg l
 pos:0 < l.length
 root:ZcB l 0 = true
 link:∀ i,i < l.length → Zfe l i = true
theorem Linked.le {l:List Nod} (h:Linked l) {n:Nat} (hn:ZcB l n = true):(if n = 0 then 1 else 0) + Zbe l n l.length ≤ 1:=by
 have h1:=h.link n (Zzn hn)
 unfold Zfe at h1
 have h2:(at_ l n).kind = 2:=beq_iff_eq.1 hn
 rw [h2] at h1
 by_cases h0:n = 0
 ·subst h0
  rw [if_neg (by decide),if_pos rfl,Zce] at h1
  rw [if_pos rfl]
  omega
 ·rw [if_neg (by decide),if_neg h0,if_pos rfl,Zce] at h1
  rw [if_neg h0]; omega
theorem ZlO (g:Nat → Nat):∀ s t:List Nat,ZpF g (s ++ t) = ZpF g s + ZpF g t
 | [],t=>by simp [ZpF]
 | a :: s,t=>by show g a + ZpF g (s ++ t) = g a + ZpF g s + ZpF g t; rw [ZlO g s t]; omega
theorem Dist.take {len:Nat} {s:List Nat} (h:Dist len s) (x:Nat):Dist len (s.take x):=by
 refine ⟨fun n=>?_,fun n hn=>h.lt n (List.mem_of_mem_take hn)⟩
 have e:(s.take x).count n + (s.drop x).count n = s.count n:=by rw [← List.count_append,List.take_append_drop]
 have:=h.one n
 omega
theorem ZEe {s:List Nat} {x:Nat} (h:x < s.length):s.take (x + 1) = s.take x ++ [at_ s x]:=by
 rw [List.take_succ_eq_append_getElem h,Zb2 h]
structure BfsOk (l:List Nod) (x:Nat):Prop where
 dist:Dist l.length (bfs l x)
 dir:∀ n ∈ bfs l x,ZcB l n = true ∧ Reach l n
 cnt:x ≤ (bfs l x).length → ∀ n,(bfs l x).count n = (if n = 0 then 1 else 0) + ZpF (fun j=>(Zcx l j).count n) ((bfs l x).take x)
 kids:∀ i,i < x → i < (bfs l x).length → ∀ n ∈ Zcx l (at_ (bfs l x) i),n ∈ bfs l x
 root:0 ∈ bfs l x
theorem Zrn {α:Type} [Inhabited α] (s t:List α) {i:Nat} (h:i < s.length):at_ (s ++ t) i = at_ s i:=by
 rw [Zb2 h,Zb2 (by rw [List.length_append]; omega),List.getElem_append_left h]
theorem Zgk {l:List Nod} (h:Linked l):∀ x,BfsOk l x
 | 0=>by
  refine ⟨⟨fun n=>?_,fun n hn=>?_⟩,fun n hn=>?_,fun _ n=>?_,fun i hi=>absurd hi (by omega),List.mem_singleton.2 rfl⟩
  ·rw [bfs,List.count_singleton]; split <;> omega
  ·rw [bfs] at hn; obtain rfl:=List.mem_singleton.1 hn; exact h.pos
  ·rw [bfs] at hn; obtain rfl:=List.mem_singleton.1 hn; exact ⟨h.root,Reach.root⟩
  ·rw [bfs,List.count_singleton]
   simp only [List.take_zero,ZpF]
   by_cases hn:n = 0
   ·subst hn; rfl
   ·rw [if_neg hn,beq_false_of_ne (Ne.symm hn)]; rfl
 | x + 1=>by
  have ih:=Zgk h x
  by_cases hx:x < (bfs l x).length
  ·have e:bfs l (x + 1) = bfs l x ++ Zcx l (at_ (bfs l x) x):=by rw [bfs,if_pos hx]
   have hm:at_ (bfs l x) x ∈ bfs l x:=Zgm hx
   have ha:=ih.dist.lt _ hm
   have hcnt:∀ n,(bfs l (x + 1)).count n = (if n = 0 then 1 else 0) + ZpF (fun j=>(Zcx l j).count n) ((bfs l x).take (x + 1)):=fun n=>by
    rw [e,List.count_append,ih.cnt (by omega) n,ZEe hx,ZlO]
    simp only [ZpF]; omega
   have hone:∀ n,(bfs l (x + 1)).count n ≤ 1:=fun n=>by
    rw [hcnt n]
    have h1:=(ih.dist.take (x + 1)).sum fun j=>(Zcx l j).count n
    have h2:Zbw (fun j=>(Zcx l j).count n) l.length ≤ if ZcB l n then Zbe l n l.length else 0:=by
     have:∀ m,m ≤ l.length → Zbw (fun j=>(Zcx l j).count n) m ≤ if ZcB l n then Zbe l n m else 0:=by
      intro m
      induction m with
      | zero=>intro _; exact Nat.zero_le _
      | succ m ihm =>
       intro hm2
       have i1:=ihm (by omega)
       have i2:=ZyI h.ent (show m < l.length by omega) n _ (Nat.le_refl _)
       show Zbw _ m + (Zcx l m).count n ≤ _
       unfold Zcx
       unfold Zcx at i1
       split
       ·rename_i hd
        rw [if_pos hd] at i1 i2
        show _ ≤ Zbe l n m + Zd0 (at_ l m).es n (at_ l m).es.length
        omega
       ·rename_i hd
        rw [if_neg hd] at i1 i2
        omega
     exact this _ (Nat.le_refl _)
    cases hd:ZcB l n with
    | true =>
     have h3:=h.le hd
     rw [hd,if_pos rfl] at h2
     omega
    | false =>
     rw [hd] at h2
     simp only [Bool.false_eq_true,if_false] at h2
     split <;> omega
   have hnew:∀ n ∈ bfs l (x + 1),ZcB l n = true ∧ Reach l n:=fun n hn=>by
    rw [e,List.mem_append] at hn
    rcases hn with hn | hn
    ·exact ih.dir n hn
    ·obtain ⟨h1,i,hi,rfl⟩:=ZxQ.1 hn
     exact ⟨h1,Reach.step (ih.dir _ hm).2 ha hi⟩
   refine ⟨⟨hone,fun n hn=>Zzn (hnew n hn).1⟩,hnew,fun _ n=>?_,fun i hi hil n hn=>?_,?_⟩
   ·rw [hcnt n,e,List.take_append_of_le_length (by omega)]
   ·rcases Nat.lt_or_ge i x with h1 | h1
    ·rw [e,Zrn _ _ (by omega)] at hn
     rw [e,List.mem_append]
     exact .inl (ih.kids i h1 (by omega) n hn)
    ·obtain rfl:i = x:=by omega
     rw [e,Zrn _ _ hx] at hn
     rw [e,List.mem_append]
     exact .inr hn
   ·rw [e,List.mem_append]; exact .inl ih.root
  ·have e:bfs l (x + 1) = bfs l x:=by rw [bfs,if_neg hx]
   exact ⟨by rw [e]; exact ih.dist,by rw [e]; exact ih.dir,fun h1=>by rw [e] at h1; omega,fun i hi hil n hn=>by
    rw [e] at hil hn ⊢
    exact ih.kids i (by omega) hil n hn,by rw [e]; exact ih.root⟩
theorem ZDG {l:List Nod} (h:Linked l):∃ X,X ≤ l.length ∧ (bfs l X).length ≤ X ∧ (∀ x,x < X → x < (bfs l x).length) ∧ bfs l l.length = bfs l X:=by
 have hlen:∀ x,(bfs l x).length ≤ l.length:=fun x=>(Zgk h x).dist.len
 have:∀ d x,x + d = l.length → (∀ y,y < x → y < (bfs l y).length) → ∃ X,X ≤ l.length ∧ (bfs l X).length ≤ X ∧ (∀ y,y < X → y < (bfs l y).length):=by
  intro d
  induction d with
  | zero=>intro x hx hy; exact ⟨x,by omega,by have:=hlen x; omega,hy⟩
  | succ d ih =>
   intro x hx hy
   by_cases hc:x < (bfs l x).length
   ·exact ih (x + 1) (by omega) fun y h2=>by
     rcases Nat.lt_or_ge y x with h3 | h3
     ·exact hy y h3
     ·obtain rfl:y = x:=by omega
      exact hc
   ·exact ⟨x,by omega,by omega,hy⟩
 obtain ⟨X,h1,h2,h3⟩:=this l.length 0 (by omega) fun y hy=>by omega
 refine ⟨X,h1,h2,h3,?_⟩
 have:∀ d,bfs l (X + d) = bfs l X:=by
  intro d
  induction d with
  | zero=>rfl
  | succ d ih =>
   rw [← Nat.add_assoc,bfs,ih,if_neg (by omega)]
 rw [← this (l.length - X),show X + (l.length - X) = l.length by omega]
theorem ZAE {l:List Nod} (h:Linked l) {a n:Nat} (ha:a ∈ bfs l l.length) (hn:n ∈ Zcx l a):n ∈ bfs l l.length:=by
 obtain ⟨X,h1,h2,h3,h4⟩:=ZDG h
 rw [h4] at ha ⊢
 obtain ⟨i,hi,rfl⟩:=List.getElem_of_mem ha
 rw [← Zb2 hi] at hn
 exact (Zgk h X).kids i (by omega) hi n hn
end Go.VM.VL
set_option linter.unusedSimpArgs false
set_option linter.unusedVariables false
namespace Go.VM.VL
open Go
variable {R:Type} (N:Nat) {fq:Fl}
def Zpz (l:List Nod) (room:Int):Bool :=
 inR (l.length:Int) 1 40 && inR room 0 1000 && ((at_ l 0).kind == 2) && (List.range' 0 l.length).all (fun i=>Zkp 0 l (at_ l i)) && !decide ((ZeA l l.length:Int) > room)
  && (List.range' 0 l.length).all (Zfe l) && (List.range' 0 l.length).all (fun i=>!ZcB l i || (bfs l l.length).contains i)
def ZeG (len:Nat) (s:List Nat):List V:=(List.range' 0 len).map fun x=>V.bool (s.contains x)
theorem ZJk (len:Nat) (s:List Nat):(ZeG len s).length = len:=by simp [ZeG]
theorem Zoi {len:Nat} (s:List Nat) {x:Nat} (h:x < len):nth (ZeG len s) x = some (.bool (s.contains x)):=by
 rw [ZeG,ZdX,Zal,List.getElem?_range' h]; simp
theorem ZG8 {len:Nat} (s:List Nat) {x:Nat} (h:x < len):Zav (ZeG len s) x (.bool true) = ZeG len (s ++ [x]):=by
 rw [Zbg]
 apply List.ext_getElem?
 intro j
 rw [List.getElem?_set,ZJk]
 unfold ZeG
 by_cases hj:j < len
 ·rw [List.getElem?_map,List.getElem?_map,List.getElem?_range' hj]
  by_cases hx:x = j
  ·subst hx; simp [h]
  ·rw [if_neg hx]
   simp only [Option.map_some,Nat.zero_add,Nat.one_mul]
   congr 2
   have:∀ t:List Nat,t.contains j = decide (j ∈ t):=fun t=>by
    rw [Bool.eq_iff_iff,List.contains_iff_mem,decide_eq_true_eq]
   rw [this,this]
   by_cases hm:j ∈ s
   ·simp [hm]
   ·simp [hm]; omega
 ·rw [if_neg (by omega),List.getElem?_eq_none (by simp; omega),List.getElem?_eq_none (by simp; omega)]
theorem Zlo (len:Nat) (s:List Nat) (n:Nat):(ZeG len s).map (trimV n) = ZeG len s:=by unfold ZeG; rw [List.map_map]; rfl
theorem Zns {l:List Nod} (h:Linked l) {x:Nat} (hx:x < (bfs l x).length) {n:Nat} (hn:n ∈ Zcx l (at_ (bfs l x) x)):n ∉ bfs l x:=by
 intro hm
 have h1:=(Zgk h (x + 1)).dist.one n
 rw [bfs,if_pos hx,List.count_append] at h1
 have h2:=List.count_pos_iff.2 hm
 have h3:=List.count_pos_iff.2 hn
 omega
theorem ZAT {l:List Nod} (hl:Small l) (h:Linked l) (hN:1048580 < N) {x:Nat} (hx:x < (bfs l x).length) (z:Int) (f g:Fl) (room:Int) (k0:List V → List V → Option R) :
  ZfW N l.length z (Zbv (at_ l (at_ (bfs l x) x)).es) f ((at_ l (at_ (bfs l x) x)).es.length:Int) (nodsV fq l) g room k0 N (Zca (bfs l x)) 0 (ZeG l.length ((bfs l x).take (x + 1))) =
   k0 (Zca (bfs l (x + 1))) (ZeG l.length ((bfs l x).take (x + 1))):=by
 have hll:=hl.len
 have hb:=Zgk h x
 have hb1:=(Zgk h (x + 1)).dist.len
 have e1:bfs l (x + 1) = bfs l x ++ Zcx l (at_ (bfs l x) x):=by rw [bfs,if_pos hx]
 rw [e1] at hb1
 have ha:=hb.dist.lt _ (Zgm hx)
 have hes:=hl.es _ ha
 have e0:Zca (bfs l x) = Zca (bfs l x ++ Zb9 l (at_ (bfs l x) x) 0):=by rw [Zb9,List.append_nil]
 conv=>lhs; rw [e0]
 refine ZbK (l:=fun n j=>ZfW N l.length z (Zbv (at_ l (at_ (bfs l x) x)).es) f ((at_ l (at_ (bfs l x) x)).es.length:Int) (nodsV fq l) g room k0 n (Zca (bfs l x ++ Zb9 l (at_ (bfs l x) x) j)) (j:Int) (ZeG l.length ((bfs l x).take (x + 1)))) (len:=(at_ l (at_ (bfs l x) x)).es.length) (k1:=k0 (Zca (bfs l (x + 1))) (ZeG l.length ((bfs l x).take (x + 1)))) ?_ ?_ (show (at_ l (at_ (bfs l x) x)).es.length < N by omega)
 ·intro n j hj
  obtain ⟨h1,h2⟩:=h.ent.kid ha hj
  simp only [ZfW,ZdS,Zbf hj,Int.natCast_nonneg,if_true,Int.toNat_natCast,ZbQ hj,Zag,Zcy,h2,Zbj h1,ZbD,Zlo,Nat.zero_add,Zoi _ h1]
  have hlt:((kid l (at_ (bfs l x) x) j:Nat):Int) < (l.length:Int):=by omega
  simp only [hlt,true_and,if_true]
  rw [Zaz (i:=j) (by omega),Zb9,show ((at_ l (kid l (at_ (bfs l x) x) j)).kind == 2) = ZcB l (kid l (at_ (bfs l x) x) j) from rfl]
  cases hd:ZcB l (kid l (at_ (bfs l x) x) j) with
  | false=>simp
  | true =>
   have hin:kid l (at_ (bfs l x) x) j ∈ Zcx l (at_ (bfs l x) x):=ZxQ.2 ⟨hd,j,hj,rfl⟩
   have hns:=Zns h hx hin
   have hc:((bfs l x).take (x + 1)).contains (kid l (at_ (bfs l x) x) j) = false:=by
    rw [Bool.eq_false_iff,ne_eq,List.contains_iff_mem]
    exact fun hm=>hns (List.mem_of_mem_take hm)
   have hcell:∀ (v:Bool) (K:V → List V → Option R),Zbl ((V.bool v).cells.drop 0) K = K (.bool v) []:=fun v K=>rfl
   simp only [hcell,ZlH,hc,Bool.not_false,if_true]
   have hlen:(bfs l x ++ Zb9 l (at_ (bfs l x) x) j).length ≤ 1048576:=by
    have:(Zb9 l (at_ (bfs l x) x) j).length ≤ (at_ l (at_ (bfs l x) x)).es.length:=by
     have:∀ m,(Zb9 l (at_ (bfs l x) x) m).length ≤ m:=by
      intro m
      induction m with
      | zero=>exact Nat.le_refl _
      | succ m ih =>
       rw [Zb9,List.length_append]
       split <;> simp <;> omega
     have:=this j
     omega
    rw [List.length_append] at hb1 ⊢
    have hbl:=hb.dist.len
    have hpre:(Zb9 l (at_ (bfs l x) x) j).length ≤ (Zcx l (at_ (bfs l x) x)).length:=by
     have:∀ m d,(Zb9 l (at_ (bfs l x) x) m).length ≤ (Zb9 l (at_ (bfs l x) x) (m + d)).length:=by
      intro m d
      induction d with
      | zero=>exact Nat.le_refl _
      | succ d ih =>
       rw [← Nat.add_assoc,Zb9,List.length_append]; omega
     have:=this j ((at_ l (at_ (bfs l x) x)).es.length - j)
     rwa [show j + ((at_ l (at_ (bfs l x) x)).es.length - j) = (at_ l (at_ (bfs l x) x)).es.length by omega] at this
    omega
   rw [Zd1,if_pos (by omega)]
   rw [show ([.int .i64 ((kid l (at_ (bfs l x) x) j:Nat):Int)]:List V) = Zca [kid l (at_ (bfs l x) x) j] from rfl,ZlC,List.append_assoc]
 ·intro n
  simp only [ZfW,ZdS,Int.lt_irrefl,decide_false,Zlo]
  rw [e1]; rfl
theorem ZBA {l:List Nod} (hl:Small l) (h:Linked l) (hN:1048580 < N) (f:Fl) (room:Int) (k0:List V → Option R) :
  ZfF N l.length (nodsV fq l) f room k0 N [.int .i64 0] 0 (List.replicate l.length (.bool false)) = k0 (ZeG l.length (bfs l l.length)):=by
 have hll:=hl.len
 obtain ⟨X,h1,h2,h3,h4⟩:=ZDG h
 have e0:List.replicate l.length (V.bool false) = ZeG l.length ((bfs l 0).take 0):=by
  unfold ZeG
  simp [List.map_const']
 rw [e0]
 refine ZbK (l:=fun n x=>ZfF N l.length (nodsV fq l) f room k0 n (Zca (bfs l x)) (x:Int) (ZeG l.length ((bfs l x).take x))) (len:=X) (k1:=k0 (ZeG l.length (bfs l l.length))) ?_ ?_ (show X < N by omega)
 ·intro n x hx
  have hxl:=h3 x hx
  have hm:at_ (bfs l x) x ∈ bfs l x:=Zgm hxl
  have ha:=(Zgk h x).dist.lt _ hm
  have hput:∀ b:Bool,ZaM (.bool b) 0 [.bool true] = some (.bool true):=fun b=>rfl
  have hlt:((at_ (bfs l x) x:Nat):Int) < (l.length:Int):=by omega
  simp only [ZfF,Zdo,Zd1,Zbf hxl,Int.natCast_nonneg,if_true,Int.toNat_natCast,ZoL hxl,Zag,Zfk,Nat.zero_add,Zoi _ ha,hput,hlt,true_and,Zbj ha,ZbD,ZG8 _ ha,Zbr]
  rw [← ZEe hxl,ZAT N hl h hN hxl,Zaz (i:=x) (by omega)]
  congr 2
  rw [bfs,if_pos hxl,List.take_append_of_le_length (by omega)]
 ·intro n
  simp only [ZfF,Zdo,Zd1]
  rw [decide_eq_false (by omega),h4,List.take_of_length_le h2]
theorem ZEu {l:List Nod} (h0:0 < l.length) (hk:((at_ l 0).kind == 2) = true) (hn:(List.range' 0 l.length).all (fun i=>Zkp 0 l (at_ l i)) = true) (hlk:(List.range' 0 l.length).all (Zfe l) = true):Linked l :=
 ⟨Zf9 (Int.le_refl 0) hn,h0,hk,fun i hi=>ZbA.1 hlk i hi⟩
theorem ZHR {l:List Nod} (hl:Small l) (hN:1048580 < N) (f:Fl) (room:Int) (k:Bool → Option R):ZJ1 N (nodsV fq l) f room k = k (Zpz l room):=by
 rw [Zyy]
 unfold ZqQ Zpz
 rw [Zya]
 unfold Zq9
 have hll:=hl.len
 simp only [ZAv,ZbP]
 cases h1:inR (l.length:Int) 1 40 with
 | false=>rfl
 | true =>
  obtain ⟨h2,h3⟩:=Zce.1 h1
  cases inR room 0 1000 with
  | false=>rfl
  | true =>
   simp only [Bool.not_true,Bool.true_and]
   rw [Zbj (show 0 < l.length by omega)]
   simp only [Zag,ZbD,bne]
   cases h4:((at_ l 0).kind == 2) with
   | false=>rfl
   | true =>
    simp only [Bool.not_true,Bool.true_and]
    refine (ZcF (l:=fun n i=>Zg6 N (nodsV fq l) _ (l.length:Int) (nodsV fq l) f room _ _ n (i:Int)) (len:=l.length) (p:=fun i=>Zkp 0 l (at_ l i)) (k0:=k false) (k1:=k (!decide ((ZeA l l.length:Int) > room) && (List.range' 0 l.length).all (Zfe l) && (List.range' 0 l.length).all (fun i=>!ZcB l i || (bfs l l.length).contains i))) ?_ ?_ (show l.length < N by omega)).trans ?_
    ·intro n i hi _
     simp only [Zg6,ZdR,Zbf hi,Int.natCast_nonneg,if_true,Int.toNat_natCast,Zbj hi,Zag,ZbD,ZJI N hll (hl.nod hi) hN]
     rw [Zaz (i:=i) (by omega)]
     cases Zkp 0 l (at_ l i) <;> rfl
    ·intro hall n
     have he:Zfg l:=Zf9 (Int.le_refl 0) (ZbA.2 hall)
     simp only [Zg6,ZdR,Int.lt_irrefl,decide_false,ZFJ N hl hN]
     cases decide ((ZeA l l.length:Int) > room) with
     | true=>rfl
     | false =>
      simp only [ZLs N hl he hN,Bool.not_false,Bool.true_and]
      refine (ZcF (l:=fun n i=>Zgw N (vec l.length fun x=>Zbe l x l.length) (nodsV fq l) _ (l.length:Int) (nodsV fq l) f room _ _ n (i:Int)) (len:=l.length) (p:=Zfe l) (k0:=k false) (k1:=k ((List.range' 0 l.length).all (fun i=>!ZcB l i || (bfs l l.length).contains i))) ?_ ?_ (show l.length < N by omega)).trans ?_
      ·intro n i hi _
       simp only [Zgw,Zdx,Zbf hi,Int.natCast_nonneg,if_true,Int.toNat_natCast,Zbj hi,Zag,ZbD,ZF1 _ hi,Zfk,ZAv,bne]
       rw [Zaz (i:=i) (by omega),show ((i:Int) == 0) = decide (i = 0) from Zqe (b:=0)]
       unfold Zfe
       by_cases hk:(at_ l i).kind = 0
       ·rw [if_pos hk,hk]
        cases decide (i = 0) <;> rfl
       ·rw [if_neg hk,beq_false_of_ne hk]
        by_cases h0:i = 0
        ·subst h0
         rw [if_pos rfl]
         show (match !inR (Zbe l 0 l.length:Int) 0 0 with | true=>k false | false=>_) = _
         cases inR (Zbe l 0 l.length:Int) 0 0 <;> rfl
        ·rw [if_neg h0,decide_eq_false h0]
         have hm:(if (1:Int) < (i:Int) then (1:Int) else (i:Int)) = 1:=by split <;> omega
         simp only [hm]
         by_cases hd:(at_ l i).kind = 2
         ·rw [if_pos hd,beq_iff_eq.2 hd]
          cases inR (Zbe l i l.length:Int) 1 1 <;> rfl
         ·rw [if_neg hd,beq_false_of_ne hd]
          cases inR (Zbe l i l.length:Int) 1 1152921504606846976 <;> rfl
      ·intro hlk n
       have hL:Linked l:=ZEu (by omega) h4 (ZbA.2 hall) (ZbA.2 hlk)
       simp only [Zgw,Zdx,Int.lt_irrefl,decide_false]
       rw [if_pos ⟨by omega,trivial,by omega⟩,Int.toNat_natCast,ZBA N hl hL hN]
       refine (ZcF (l:=fun n i=>Zg8 N l.length (nodsV fq l) _ (l.length:Int) (nodsV fq l) f room _ _ n (i:Int) (ZeG l.length (bfs l l.length))) (len:=l.length) (p:=fun i=>!ZcB l i || (bfs l l.length).contains i) (k0:=k false) (k1:=k true) ?_ ?_ (show l.length < N by omega)).trans ?_
       ·intro n i hi _
        have hcell:∀ (v:Bool) (K:V → List V → Option R),Zbl ((V.bool v).cells.drop 0) K = K (.bool v) []:=fun v K=>rfl
        have hlt:(i:Int) < (l.length:Int):=by omega
        simp only [Zg8,Zds,Zbf hi,Int.natCast_nonneg,if_true,Int.toNat_natCast,Zbj hi,Zag,ZbD,Nat.zero_add,Zoi _ hi,hcell,ZlH,hlt,true_and,Zlo]
        rw [Zaz (i:=i) (by omega),show ((at_ l i).kind == 2) = ZcB l i from rfl]
        cases ZcB l i <;> cases (bfs l l.length).contains i <;> rfl
       ·intro _ n
        simp only [Zg8,Zds,Int.lt_irrefl,decide_false]
       ·cases (List.range' 0 l.length).all (fun i=>!ZcB l i || (bfs l l.length).contains i) <;> rfl
      ·cases (List.range' 0 l.length).all (Zfe l) <;> rfl
    ·cases (List.range' 0 l.length).all (fun i=>Zkp 0 l (at_ l i)) <;> rfl
end Go.VM.VL
set_option linter.unusedSimpArgs false
set_option linter.unusedVariables false
namespace Go.VM.VL
open Go
variable {R:Type} (N:Nat) {fq:Fl}
theorem ZDR {lo:Int} {l:List Nod} {n:Nod} (h:Zkp lo l n = true) (he:0 < n.es.length):n.kind = 2:=by
 unfold Zkp at h
 split at h
 ·simp only [ZAx,Bool.and_eq_true,beq_iff_eq] at h; omega
 ·simp only [Bool.and_eq_true] at h
  have h2:=h.2
  unfold ZtY at h2
  split at h2
  ·simp only [Bool.and_eq_true,beq_iff_eq] at h2; omega
  ·split at h2
   ·rename_i h3; exact h3
   ·split at h2
    ·simp only [Bool.and_eq_true,beq_iff_eq] at h2; omega
    ·cases h2
theorem ZHv {l:List Nod} {es:List Ent} {j:Nat} (h:Zyw 1 l es j = true):Zyw 0 l es j = true:=by
 simp only [Zyw,Bool.and_eq_true,Zce] at h ⊢
 exact ⟨h.1,⟨by omega,h.2.1.2⟩,h.2.2⟩
theorem ZKX {l:List Nod} {es:List Ent} {j:Nat} (h:Zyw 0 l es j = true) (h0:(at_ es j).2 ≠ 0):Zyw 1 l es j = true:=by
 simp only [Zyw,Bool.and_eq_true,Zce] at h ⊢
 exact ⟨h.1,⟨by omega,h.2.1.2⟩,h.2.2⟩
theorem ZxX {a b:Int} {l:List Nod} {n:Nod} (h:Zkp a l n = true) (he:∀ j,j < n.es.length → Zyw a l n.es j = true → Zyw b l n.es j = true):Zkp b l n = true:=by
 unfold Zkp at h ⊢
 split at h
 ·rename_i h0; rw [if_pos h0]; exact h
 ·rename_i h0
  rw [if_neg h0]
  rw [Bool.and_eq_true] at h ⊢
  refine ⟨h.1,?_⟩
  have h2:=h.2
  unfold ZtY at h2 ⊢
  split at h2
  ·rename_i h3; rw [if_pos h3]; exact h2
  ·rename_i h3
   rw [if_neg h3]
   split at h2
   ·rename_i h4
    rw [if_pos h4]
    rw [Bool.and_eq_true] at h2 ⊢
    exact ⟨h2.1,ZbA.2 fun j hj=>he j hj (ZbA.1 h2.2 j hj)⟩
   ·rename_i h4
    rw [if_neg h4]; exact h2
theorem ZlE (es:List Ent) (x:Int):∀ {n},0 < Zd0 es x n ↔ ∃ j,j < n ∧ (at_ es j).2 = x
 | 0=>by simp [Zd0,Zbw]
 | n + 1=>by
  have ih:=ZlE es x (n:=n)
  have e:Zd0 es x (n + 1) = Zd0 es x n + ((at_ es n).2 == x).toNat:=rfl
  rw [e]
  constructor
  ·intro h
   by_cases h1:0 < Zd0 es x n
   ·obtain ⟨j,hj,h2⟩:=ih.1 h1
    exact ⟨j,by omega,h2⟩
   ·cases hb:((at_ es n).2 == x) with
    | true=>exact ⟨n,by omega,beq_iff_eq.1 hb⟩
    | false=>rw [hb] at h; simp at h; omega
  ·rintro ⟨j,hj,h2⟩
   rcases Nat.lt_or_ge j n with h3 | h3
   ·have:=ih.2 ⟨j,h3,h2⟩; omega
   ·obtain rfl:j = n:=by omega
    rw [beq_iff_eq.2 h2]; simp
theorem ZhK (l:List Nod) (x:Int):∀ {n},0 < Zbe l x n ↔ ∃ i,i < n ∧ ∃ j,j < (at_ l i).es.length ∧ (at_ (at_ l i).es j).2 = x
 | 0=>by simp [Zbe,Zbw]
 | n + 1=>by
  have ih:=ZhK l x (n:=n)
  have e:Zbe l x (n + 1) = Zbe l x n + Zd0 (at_ l n).es x (at_ l n).es.length:=rfl
  rw [e]
  constructor
  ·intro h
   by_cases h1:0 < Zbe l x n
   ·obtain ⟨i,hi,h2⟩:=ih.1 h1
    exact ⟨i,by omega,h2⟩
   ·exact ⟨n,by omega,(ZlE _ _).1 (by omega)⟩
  ·rintro ⟨i,hi,h2⟩
   rcases Nat.lt_or_ge i n with h3 | h3
   ·have:=ih.2 ⟨i,h3,h2⟩; omega
   ·obtain rfl:i = n:=by omega
    have:=(ZlE (at_ l i).es x).2 h2; omega
theorem ZP3 {l:List Nod} (he:Zfg l) (h0:0 < l.length) {i:Nat} (h:Reach l i):i < l.length:=by
 cases h with
 | root=>exact h0
 | step _ hx hj=>exact (he.kid hx hj).1
theorem ZBf {l:List Nod} (he:Zfg l) {i:Nat} (h:Reach l i) (h0:i ≠ 0):0 < Zbe l i l.length:=by
 cases h with
 | root=>exact absurd rfl h0
 | @step x j _ hx hj=>exact (ZhK l _).2 ⟨x,hx,j,hj,(he.kid hx hj).2⟩
theorem ZsQ {l:List Nod} (he:Zfg l) (h0:0 < l.length) (hN:l.length < N) {i:Nat}:Reach l i ↔ i ∈ Zmd l N 0 []:=by
 have hd:Dist l.length []:=⟨fun n=>by simp,fun n h=>by simp at h⟩
 obtain ⟨h1,h2,h3⟩:=Zyj he N 0 [] h0 hd (by simp; omega)
 constructor
 ·intro h
  induction h with
  | root=>exact h2
  | step _ hx hj ih=>exact h1.closed _ ih (by simp) _ hj
 ·intro h
  exact h3 (fun _ n hn=>by simp at hn) Reach.root i h
theorem ZMe {l:List Nod} (hl:Small l) (hN:1048580 < N) (room:Int):ZJr N l room = Zpz l room:=by
 have hll:=hl.len
 rw [Bool.eq_iff_iff]
 unfold ZJr Zpz
 simp only [Bool.and_eq_true,ZbA]
 constructor
 ·rintro ⟨⟨⟨⟨⟨h1,h2⟩,h3⟩,h4⟩,h5⟩,h6⟩
  have hpos:0 < l.length:=by have:=(Zce.1 h1).1; omega
  have h5':∀ i,i < l.length → Zkp 0 l (at_ l i) = true:=fun i hi=>ZxX (h5 i hi) fun j _ h=>ZHv h
  have he:Zfg l:=Zf9 (Int.le_refl 0) (ZbA.2 h5')
  have hmet:=fun {i}=>ZsQ N he hpos (by omega) (i:=i)
  have h6':∀ i,i < l.length → (i = 0 → Zbe l i l.length = 0) ∧ (0 < i → ZcB l i = true → Zbe l i l.length = 1) ∧ ((at_ l i).kind ≠ 0 → Reach l i):=by
   intro i hi
   have:=h6 i hi
   unfold ZeV at this
   simp only [Bool.and_eq_true,Bool.not_eq_true',Bool.and_eq_false_iff,decide_eq_false_iff_not,beq_eq_false_iff_ne,Bool.not_eq_false',beq_iff_eq] at this
   obtain ⟨⟨a1,a2⟩,a3⟩:=this
   refine ⟨fun h0=>?_,fun h0 hd=>?_,fun hk=>?_⟩
   ·rcases a1 with a1 | a1
    ·exact absurd h0 a1
    ·omega
   ·rcases a2 with (a2 | a2) | a2
    ·exact absurd h0 a2
    ·exact absurd (beq_iff_eq.1 hd) a2
    ·omega
   ·rcases a3 with a3 | a3
    ·exact absurd a3 hk
    ·exact hmet.2 (List.contains_iff_mem.1 a3)
  have hlk:∀ i,i < l.length → Zfe l i = true:=by
   intro i hi
   obtain ⟨a1,a2,a3⟩:=h6' i hi
   unfold Zfe
   split
   ·rfl
   ·rename_i hk
    split
    ·rename_i h0; rw [Zce]; have:=a1 h0; omega
    ·rename_i h0
     split
     ·rename_i hd; rw [Zce]; have:=a2 (by omega) (beq_iff_eq.2 hd); omega
     ·rw [Zce]
      have b1:=ZBf he (a3 hk) h0
      have b2:=Zjy hl i (Nat.le_refl l.length)
      omega
  have hL:Linked l:=⟨he,hpos,h4,hlk⟩
  refine ⟨⟨⟨⟨⟨⟨h1,h2⟩,h4⟩,h5'⟩,h3⟩,hlk⟩,fun i hi=>?_⟩
  cases hd:ZcB l i with
  | false=>rfl
  | true =>
   have hk:(at_ l i).kind ≠ 0:=by
    have:=beq_iff_eq.1 hd
    omega
   have hr:=(h6' i hi).2.2 hk
   have:∀ x,Reach l x → ZcB l x = true → x ∈ bfs l l.length:=by
    intro x hx
    induction hx with
    | root=>intro _; exact (Zgk hL _).root
    | @step y j hy hyl hj ih =>
     intro hd2
     have hyd:ZcB l y = true:=beq_iff_eq.2 (ZDR (h5' y hyl) (by omega))
     exact ZAE hL (ih hyd) (ZxQ.2 ⟨hd2,j,hj,rfl⟩)
   rw [Bool.not_true,Bool.false_or,List.contains_iff_mem]
   exact this i hr hd
 ·rintro ⟨⟨⟨⟨⟨⟨h1,h2⟩,h4⟩,h5⟩,h3⟩,hlk⟩,h7⟩
  have hpos:0 < l.length:=by have:=(Zce.1 h1).1; omega
  have he:Zfg l:=Zf9 (Int.le_refl 0) (ZbA.2 h5)
  have hL:Linked l:=⟨he,hpos,h4,hlk⟩
  have hmet:=fun {i}=>ZsQ N he hpos (by omega) (i:=i)
  have hroot:(at_ l 0).kind = 2:=beq_iff_eq.1 h4
  have hl0:Zbe l 0 l.length = 0:=by
   have:=hL.le (n:=0) h4
   rw [if_pos rfl] at this
   have e:Zbe l ((0:Nat):Int) l.length = Zbe l 0 l.length:=rfl
   omega
  have h5':∀ i,i < l.length → Zkp 1 l (at_ l i) = true:=fun i hi=>ZxX (h5 i hi) fun j hj h=>ZKX h fun h0=>by
   have:=(ZhK l 0).2 ⟨i,hi,j,hj,h0⟩
   omega
  refine ⟨⟨⟨⟨⟨h1,h2⟩,h3⟩,h4⟩,h5'⟩,fun i hi=>?_⟩
  have hdir:ZcB l i = true → Reach l i:=fun hd=>by
   have:=h7 i hi
   rw [hd,Bool.not_true,Bool.false_or,List.contains_iff_mem] at this
   exact ((Zgk hL _).dir i this).2
  have hreach:(at_ l i).kind ≠ 0 → Reach l i:=fun hk=>by
   cases hd:ZcB l i with
   | true=>exact hdir hd
   | false =>
    have h0:i ≠ 0:=fun h0=>by
     subst h0
     rw [show ZcB l 0 = true from h4] at hd; cases hd
    have hlki:=hlk i hi
    unfold Zfe at hlki
    rw [if_neg hk,if_neg h0,if_neg (fun h2=>by rw [show ZcB l i = true from beq_iff_eq.2 h2] at hd; cases hd),Zce] at hlki
    obtain ⟨x,hx,j,hj,hxj⟩:=(ZhK l i).1 (show 0 < Zbe l i l.length by omega)
    have hxd:ZcB l x = true:=beq_iff_eq.2 (ZDR (h5 x hx) (by omega))
    have hxb:=h7 x hx
    rw [hxd,Bool.not_true,Bool.false_or,List.contains_iff_mem] at hxb
    have hxr:=((Zgk hL _).dir x hxb).2
    have:i = kid l x j:=by unfold kid; omega
    rw [this]
    exact Reach.step hxr hx hj
  have hlki:=hlk i hi
  unfold ZeV
  unfold Zfe at hlki
  simp only [Bool.and_eq_true,Bool.not_eq_true',Bool.and_eq_false_iff,decide_eq_false_iff_not,beq_eq_false_iff_ne,Bool.not_eq_false',beq_iff_eq]
  refine ⟨⟨?_,?_⟩,?_⟩
  ·by_cases h0:i = 0
   ·subst h0
    have e:Zbe l ((0:Nat):Int) l.length = Zbe l 0 l.length:=rfl
    exact .inr (by omega)
   ·exact .inl h0
  ·by_cases h0:i = 0
   ·exact .inl (.inl (by omega))
   ·by_cases hd:(at_ l i).kind = 2
    ·rw [if_neg (by omega),if_neg h0,if_pos hd,Zce] at hlki
     exact .inr (by omega)
    ·exact .inl (.inr hd)
  ·by_cases hk:(at_ l i).kind = 0
   ·exact .inl hk
   ·exact .inr (List.contains_iff_mem.2 (hmet.1 (hreach hk)))
end Go.VM.VL
set_option linter.unusedSimpArgs false
set_option linter.unusedVariables false
namespace Go.VM.VL
open Go
variable {R:Type} (N:Nat) {fq:Fl}
def Zjr (cu cg mode uid gid:Int):Int :=
 if cu = uid then Int.fdiv mode (2 ^ (min (6:Int).toNat 64))
 else if cg = gid then Ztg (Int.fdiv mode (2 ^ (min (3:Int).toNat 64))) 7
 else Ztg mode 7
def Zz8 (cu cg mode uid gid want:Int):Bool:=decide (cu = 0) || (ZG7 want (Zjr cu cg mode uid gid) == 0)
theorem ZBt {cu cg mode uid gid:Int} (h:0 ≤ mode ∧ mode ≤ 511):0 ≤ Zjr cu cg mode uid gid ∧ Zjr cu cg mode uid gid < 8:=by
 obtain ⟨m,rfl⟩:=Int.eq_ofNat_of_zero_le h.1
 have hm:m ≤ 511:=by omega
 have f6:Int.fdiv (m:Int) (2 ^ (min (6:Int).toNat 64)) = ((m / 64:Nat):Int):=by
  show Int.fdiv (m:Int) ((64:Nat):Int) = _
  rw [Int.fdiv_eq_ediv_of_nonneg _ (by omega)]; rfl
 have f3:Int.fdiv (m:Int) (2 ^ (min (3:Int).toNat 64)) = ((m / 8:Nat):Int):=by
  show Int.fdiv (m:Int) ((8:Nat):Int) = _
  rw [Int.fdiv_eq_ediv_of_nonneg _ (by omega)]; rfl
 have b7:∀ n:Nat,n ≤ 511 → 0 ≤ Ztg (n:Int) 7 ∧ Ztg (n:Int) 7 < 8:=by
  intro n hn
  have:=ZHO (a:=n) (b:=7) (by omega)
  have h2:(n &&& 7 % 18446744073709551616) ≤ 7:=Nat.and_le_right
  have e:Ztg (n:Int) ((7:Nat):Int) = Ztg (n:Int) 7:=rfl
  rw [e] at this
  rw [this]
  omega
 unfold Zjr
 split
 ·rw [f6]; omega
 ·split
  ·rw [f3]; exact b7 _ (by omega)
  ·exact b7 m hm
theorem ZDO:∀ b w:Fin 8,(ZG7 (w.val:Int) (b.val:Int) == 0) = (Ztg (b.val:Int) (w.val:Int) == (w.val:Int)):=by decide +kernel
theorem ZLx {b w:Int} (hb:0 ≤ b ∧ b < 8) (hw:0 ≤ w ∧ w ≤ 7):(ZG7 w b == 0) = (Ztg b w == w):=by
 obtain ⟨m,rfl⟩:=Int.eq_ofNat_of_zero_le hb.1
 obtain ⟨n,rfl⟩:=Int.eq_ofNat_of_zero_le hw.1
 exact ZDO ⟨m,by omega⟩ ⟨n,by omega⟩
theorem Zmg (cu cg mode uid gid want:Int) (k:Bool → Option R):ZJj N cu cg mode uid gid want k = k (Zz8 cu cg mode uid gid want):=by
 rw [ZzG]
 unfold Zsq Zz8 Zjr
 by_cases h0:cu = 0
 ·simp [h0]
 ·rw [beq_false_of_ne h0]
  by_cases h1:cu = uid
  ·subst h1; simp [h0,ZG7,Ztg]
  ·rw [beq_false_of_ne h1]
   by_cases h2:cg = gid
   ·subst h2; simp [h0,h1,ZG7,Ztg]
   ·rw [beq_false_of_ne h2]
    simp [h0,h1,h2,ZG7,Ztg]
theorem ZmS {cu cg mode uid gid want:Int} (hm:0 ≤ mode ∧ mode ≤ 511) (hw:0 ≤ want ∧ want ≤ 7) (k:Bool → Option R):ZGY N cu cg mode uid gid want k = k (Zz8 cu cg mode uid gid want):=by
 rw [Zw5]
 unfold ZsJ Zz8
 rw [ZLx (ZBt hm) hw]
 unfold Zjr
 by_cases h0:cu = 0
 ·simp [h0]
 ·rw [beq_false_of_ne h0]
  by_cases h1:cu = uid
  ·subst h1; simp [h0,ZG7,Ztg]
  ·rw [beq_false_of_ne h1]
   by_cases h2:cg = gid
   ·subst h2; simp [h0,h1,ZG7,Ztg]
   ·rw [beq_false_of_ne h2]
    simp [h0,h1,h2,ZG7,Ztg]
structure Fine (l:List Nod):Prop where
 small:Small l
 pos:0 < l.length
 len:l.length ≤ 40
 ent:Zfg l
 mode:∀ i,i < l.length → 0 ≤ (at_ l i).mode ∧ (at_ l i).mode ≤ 511
 link:∀ i,i < l.length → (at_ l i).kind = 3 → ZgB (at_ l i).data = true
theorem ZMG {l:List Nod} (hl:Small l) {room:Int} (h:Zpz l room = true):Fine l:=by
 unfold Zpz at h
 simp only [Bool.and_eq_true,ZbA] at h
 obtain ⟨⟨⟨⟨⟨⟨h1,h2⟩,h4⟩,h5⟩,h3⟩,hlk⟩,h7⟩:=h
 have h1':=Zce.1 h1
 refine ⟨hl,by omega,by omega,Zf9 (Int.le_refl 0) (ZbA.2 h5),fun i hi=>?_,fun i hi hk=>?_⟩
 ·have:=h5 i hi
  unfold Zkp at this
  split at this
  ·simp only [ZAx,Bool.and_eq_true,beq_iff_eq] at this; omega
  ·simp only [Bool.and_eq_true,Zce] at this; omega
 ·have:=h5 i hi
  unfold Zkp ZtY at this
  rw [if_neg (by omega),if_neg (by omega),if_neg (by omega),if_pos hk] at this
  simp only [Bool.and_eq_true] at this
  exact this.2.1
def Zbo (es:List Ent) (w:ByteArray):Int:=match (List.range' 0 es.length).findSome? (fun j=>if (at_ es j).1.toList == w.toList then some (at_ es j).2 else none) with | some x=>x | none=>-1
theorem Zjf {l:List Nod} (he:Zfg l) {a:Nat} (ha:a < l.length) (w:ByteArray) (h:¬ Zbo (at_ l a).es w < 0):(Zbo (at_ l a).es w).toNat < l.length ∧ Zbo (at_ l a).es w = ((Zbo (at_ l a).es w).toNat:Nat):=by
 unfold Zbo at h ⊢
 cases hq:(List.range' 0 (at_ l a).es.length).findSome? (fun j=>if (at_ (at_ l a).es j).1.toList == w.toList then some (at_ (at_ l a).es j).2 else none) with
 | none=>rw [hq] at h; exact absurd (by decide) h
 | some x =>
  obtain ⟨j,hj,hx⟩:=List.exists_of_findSome?_eq_some hq
  rw [List.mem_range'] at hj
  obtain ⟨m,hm,rfl⟩:=hj
  split at hx
  ·obtain rfl:=Option.some.inj hx
   have:=he a ha (0 + 1 * m) (by omega)
   simp only
   omega
  ·cases hx
theorem ZOz {es:List Ent} (hes:es.length ≤ 1048576) (hN:1048580 < N) (f:Fl) (w:ByteArray) (k:Int → Option R):ZJD N (Zbv es) f w k = k (Zbo es w):=by
 rw [Zy7]
 unfold ZpV
 rw [Zbr]
 refine (Zb6 (β:=Int) (l:=fun n i=>Zgu N w (Zbv es) _ (es.length:Int) _ _ n (i:Int)) (len:=es.length) (q:=fun j=>if (at_ es j).1.toList == w.toList then some (at_ es j).2 else none) (kb:=k) (k1:=k (-1)) ?_ ?_ (show es.length < N by omega)).trans ?_
 ·intro n i hi _
  simp only [Zgu,Zdu,Zbf hi,Int.natCast_nonneg,if_true,Int.toNat_natCast,ZbQ hi,Zag,Zcy]
  rw [Zaz (i:=i) (by omega)]
  cases ((at_ es i).1.toList == w.toList) <;> rfl
 ·intro _ n
  simp only [Zgu,Zdu,Int.lt_irrefl,decide_false]
 ·unfold Zbo
  generalize (List.range' 0 es.length).findSome? _ = o
  cases o <;> rfl
theorem ZLk {l:List Nod} (hl:Small l) (hN:1048580 < N) {a:Nat} (ha:a < l.length) (f:Fl) (room:Int) (w:ByteArray) (k:Int → Option R):ZI7 N (nodsV fq l) f room (a:Int) w k = k (Zbo (at_ l a).es w):=by
 rw [Zzr]
 unfold ZrP
 have hes:=hl.es a ha
 rw [if_pos (by omega),Int.toNat_natCast,Zbj ha]
 simp only [Zag,ZbD,Zbr]
 refine (Zb6 (β:=Int) (l:=fun n i=>Zgo N w (Zbv (at_ l a).es) _ ((at_ l a).es.length:Int) (nodsV fq l) f room _ _ n (i:Int)) (len:=(at_ l a).es.length) (q:=fun j=>if (at_ (at_ l a).es j).1.toList == w.toList then some (at_ (at_ l a).es j).2 else none) (kb:=k) (k1:=k (-1)) ?_ ?_ (show (at_ l a).es.length < N by omega)).trans ?_
 ·intro n i hi _
  simp only [Zgo,Zdq,Zbf hi,Int.natCast_nonneg,if_true,Int.toNat_natCast,ZbQ hi,Zag,Zcy]
  rw [Zaz (i:=i) (by omega)]
  cases ((at_ (at_ l a).es i).1.toList == w.toList) <;> rfl
 ·intro _ n
  simp only [Zgo,Zdq,Int.lt_irrefl,decide_false]
 ·unfold Zbo
  generalize (List.range' 0 (at_ l a).es.length).findSome? _ = o
  cases o <;> rfl
def Zgv (es:List Ent) (x:Int):Option ByteArray:=(List.range' 0 es.length).findSome? (fun j=>if (at_ es j).2 == x then some (at_ es j).1 else none)
def Zfb (l:List Nod) (x:Int) (i:Nat):Option (Nat × ByteArray):=match Zgv (at_ l i).es x with | some w=>some (i,w) | none=>none
def Zek (l:List Nod) (x:Int):Nat × ByteArray:=match (List.range' 0 l.length).findSome? (Zfb l x) with | some p=>p | none=>(0,ByteArray.mk #[])
theorem ZDT {l:List Nod} (h0:0 < l.length) (x:Int):(Zek l x).1 < l.length:=by
 unfold Zek
 cases hq:(List.range' 0 l.length).findSome? (Zfb l x) with
 | none=>exact h0
 | some p =>
  obtain ⟨j,hj,hx⟩:=List.exists_of_findSome?_eq_some hq
  rw [List.mem_range'] at hj
  obtain ⟨m,hm,rfl⟩:=hj
  unfold Zfb at hx
  split at hx
  ·obtain rfl:=Option.some.inj hx
   show 0 + 1 * m < _
   omega
  ·cases hx
theorem ZJg (es:List Ent) (hes:es.length ≤ 1048576) (hN:1048580 < N) (x x_2:Int) (e_3:List V) (f_4:Fl) (x_5 x_6:Int) (f_8:Fl) (e_11:List V) (f_12:Fl) (x_13 x_14 x_15 x_16 x_17 x_18:Int) (w_19:ByteArray) (e_20:List V) (f_21:Fl) (a:Option R) (b:ByteArray → Option R) :
  ZfG N x x_2 e_3 f_4 x_5 x_6 (Zbv es) f_8 (es.length:Int) e_11 f_12 x_13 x_14 x_15 x_16 x_17 x_18 w_19 e_20 f_21 b (fun _=>a) N 0 = match Zgv es x with | some w=>b w | none=>a:=by
 refine (Zb6 (β:=ByteArray) (l:=fun n i=>ZfG N x x_2 e_3 f_4 x_5 x_6 (Zbv es) f_8 (es.length:Int) e_11 f_12 x_13 x_14 x_15 x_16 x_17 x_18 w_19 e_20 f_21 b (fun _=>a) n (i:Int)) (len:=es.length) (q:=fun j=>if (at_ es j).2 == x then some (at_ es j).1 else none) (kb:=b) (k1:=a) ?_ ?_ (show es.length < N by omega)).trans ?_
 ·intro n i hi _
  simp only [ZfG,ZdM,Zbf hi,Int.natCast_nonneg,if_true,Int.toNat_natCast,ZbQ hi,Zag,Zcy]
  rw [Zaz (i:=i) (by omega)]
  cases ((at_ es i).2 == x) <;> rfl
 ·intro _ n
  simp only [ZfG,ZdM,Int.lt_irrefl,decide_false]
 ·unfold Zgv
  generalize (List.range' 0 es.length).findSome? _ = o
  cases o <;> rfl
theorem ZBN (es:List Ent) (hes:es.length ≤ 1048576) (hN:1048580 < N) (x x_2:Int) (e_3:List V) (f_4:Fl) (x_5 x_6:Int) (f_8:Fl) (e_11:List V) (f_12:Fl) (x_13 x_14 x_15 x_16 x_17 x_18:Int) (w_19:ByteArray) (e_20:List V) (f_21:Fl) (a b:Option R) :
  ZfU N x x_2 e_3 f_4 x_5 x_6 (Zbv es) f_8 (es.length:Int) e_11 f_12 x_13 x_14 x_15 x_16 x_17 x_18 w_19 e_20 f_21 (fun _=>b) (fun _=>a) N 0 = match Zgv es x with | some _=>b | none=>a:=by
 refine (Zb6 (β:=ByteArray) (l:=fun n i=>ZfU N x x_2 e_3 f_4 x_5 x_6 (Zbv es) f_8 (es.length:Int) e_11 f_12 x_13 x_14 x_15 x_16 x_17 x_18 w_19 e_20 f_21 (fun _=>b) (fun _=>a) n (i:Int)) (len:=es.length) (q:=fun j=>if (at_ es j).2 == x then some (at_ es j).1 else none) (kb:=fun _=>b) (k1:=a) ?_ ?_ (show es.length < N by omega)).trans ?_
 ·intro n i hi _
  simp only [ZfU,Zdw,Zbf hi,Int.natCast_nonneg,if_true,Int.toNat_natCast,ZbQ hi,Zag,Zcy]
  rw [Zaz (i:=i) (by omega)]
  cases ((at_ es i).2 == x) <;> rfl
 ·intro _ n
  simp only [ZfU,Zdw,Int.lt_irrefl,decide_false]
 ·unfold Zgv
  generalize (List.range' 0 es.length).findSome? _ = o
  cases o <;> rfl
theorem ZKu {l:List Nod} (hl:Small l) (hN:1048580 < N) (f:Fl) (room x:Int) (k:Int → ByteArray → Option R):ZIR N (nodsV fq l) f room x k = k ((Zek l x).1:Nat) (Zek l x).2:=by
 rw [ZzM]
 unfold Zs8
 have hll:=hl.len
 rw [ZbP]
 refine (Zb6 (β:=Nat × ByteArray) (l:=fun n i=>Zg9 N x (nodsV fq l) _ (l.length:Int) (nodsV fq l) f room _ _ n (i:Int)) (len:=l.length) (q:=Zfb l x) (kb:=fun p=>k (p.1:Nat) p.2) (k1:=k 0 (ByteArray.mk #[])) ?_ ?_ (show l.length < N by omega)).trans ?_
 ·intro n i hi _
  simp only [Zg9,Zdg,Zbf hi,Int.natCast_nonneg,if_true,Int.toNat_natCast,Zbj hi,Zag,ZbD,Zbr]
  rw [ZJg N _ (hl.es i hi) hN,Zaz (i:=i) (by omega)]
  unfold Zfb
  cases Zgv (at_ l i).es x <;> rfl
 ·intro _ n
  simp only [Zg9,Zdg,Int.lt_irrefl,decide_false]
 ·unfold Zek
  cases (List.range' 0 l.length).findSome? (Zfb l x) <;> rfl
theorem ZCg {l:List Nod} (hl:Small l) (hN:1048580 < N) (f:Fl) (room x:Int) (k:Int → Option R):ZHS N (nodsV fq l) f room x k = k ((Zek l x).1:Nat):=by
 rw [Zy6]
 unfold ZqR
 have hll:=hl.len
 rw [ZbP]
 refine (Zb6 (β:=Nat × ByteArray) (l:=fun n i=>Zg0 N x (nodsV fq l) _ (l.length:Int) (nodsV fq l) f room _ _ n (i:Int)) (len:=l.length) (q:=Zfb l x) (kb:=fun p=>k (p.1:Nat)) (k1:=k 0) ?_ ?_ (show l.length < N by omega)).trans ?_
 ·intro n i hi _
  simp only [Zg0,Zdv,Zbf hi,Int.natCast_nonneg,if_true,Int.toNat_natCast,Zbj hi,Zag,ZbD,Zbr]
  rw [ZBN N _ (hl.es i hi) hN,Zaz (i:=i) (by omega)]
  unfold Zfb
  cases Zgv (at_ l i).es x <;> rfl
 ·intro _ n
  simp only [Zg0,Zdv,Int.lt_irrefl,decide_false]
 ·unfold Zek
  cases (List.range' 0 l.length).findSome? (Zfb l x) <;> rfl
end Go.VM.VL
set_option linter.unusedSimpArgs false
set_option linter.unusedVariables false
namespace Go.VM.VL
open Go
variable {R:Type} (N:Nat) {fq:Fl}
def Zg5 (w:ByteArray):Bool:=((at_ (bl w) 0).toNat:Int) == 47
def Zj1 (fol:Bool) (l:List Nod) (cu cg:Int) (p:ByteArray) (rest:List ByteArray) (a h:Nat):Int ⊕ (List ByteArray × Nat × Nat) :=
 if (at_ l a).kind ≠ 2 then .inl 3
 else if Zz8 cu cg (at_ l a).mode (at_ l a).uid (at_ l a).gid 1 = false then .inl 4
 else if ZCz p then .inr (rest,a,h)
 else if ZjZ p then .inr (rest,(Zek l a).1,h)
 else if Zbo (at_ l a).es p < 0 then .inl 2
 else if (at_ l (Zbo (at_ l a).es p).toNat).kind ≠ 3 then .inr (rest,(Zbo (at_ l a).es p).toNat,h)
 else if rest.length = 0 ∧ fol = false then .inr (rest,(Zbo (at_ l a).es p).toNat,h)
 else if h = 8 then .inl 5
 else .inr (ZbW (at_ l (Zbo (at_ l a).es p).toNat).data ++ rest,if Zg5 (at_ l (Zbo (at_ l a).es p).toNat).data then 0 else a,h + 1)
def ZcU (fol:Bool) (l:List Nod) (cu cg:Int):Nat → List ByteArray → Nat → Nat → Option (Int ⊕ Nat)
 | 0,_,_,_=>none
 | n + 1,[],a,h=>some (.inr a)
 | n + 1,p :: rest,a,h=>match Zj1 fol l cu cg p rest a h with
  | .inl c=>some (.inl c)
  | .inr (L,a',h')=>ZcU fol l cu cg n L a' h'
def far (L:List ByteArray) (h:Nat):Nat:=(8 - h) * 62 + L.length
theorem Zoc {fol:Bool} {l:List Nod} (hf:Fine l) {cu cg:Int} {p:ByteArray} {rest:List ByteArray} {a h:Nat} (ha:a < l.length) (hh:h ≤ 8) :
  match Zj1 fol l cu cg p rest a h with
  | .inl c=>c ≠ 0
  | .inr (L,a',h')=>a' < l.length ∧ h' ≤ 8 ∧ far L h' < far (p :: rest) h:=by
 unfold Zj1
 by_cases h1:(at_ l a).kind ≠ 2
 ·rw [if_pos h1]; exact (show (3:Int) ≠ 0 by decide)
 rw [if_neg h1]
 by_cases h2:Zz8 cu cg (at_ l a).mode (at_ l a).uid (at_ l a).gid 1 = false
 ·rw [if_pos h2]; exact (show (4:Int) ≠ 0 by decide)
 rw [if_neg h2]
 have hless:far rest h < far (p :: rest) h:=by unfold far; rw [List.length_cons]; omega
 cases ZCz p with
 | true=>rw [if_pos rfl]; exact ⟨ha,hh,hless⟩
 | false =>
 rw [if_neg (by simp)]
 cases ZjZ p with
 | true=>rw [if_pos rfl]; exact ⟨ZDT hf.pos _,hh,hless⟩
 | false =>
 rw [if_neg (by simp)]
 by_cases h3:Zbo (at_ l a).es p < 0
 ·rw [if_pos h3]; exact (show (2:Int) ≠ 0 by decide)
 rw [if_neg h3]
 obtain ⟨h4,h5⟩:=Zjf hf.ent ha p h3
 by_cases h6:(at_ l (Zbo (at_ l a).es p).toNat).kind ≠ 3
 ·rw [if_pos h6]; exact ⟨h4,hh,hless⟩
 rw [if_neg h6]
 by_cases h7:rest.length = 0 ∧ fol = false
 ·rw [if_pos h7]; exact ⟨h4,hh,hless⟩
 rw [if_neg h7]
 by_cases h8:h = 8
 ·rw [if_pos h8]; exact (show (5:Int) ≠ 0 by decide)
 rw [if_neg h8]
 have hp:=hf.link _ h4 (by omega)
 have hs:=ZcR hp
 have hl:=Zd5 (at_ l (Zbo (at_ l a).es p).toNat).data
 refine ⟨?_,by omega,?_⟩
 ·split
  ·exact hf.pos
  ·exact ha
 ·unfold far
  rw [List.length_append,List.length_cons]
  obtain ⟨d,hd⟩:∃ d,8 - h = d + 1:=⟨8 - h - 1,by omega⟩
  rw [hd,show 8 - (h + 1) = d by omega,Nat.succ_mul]
  omega
theorem ZzJ {fol:Bool} {l:List Nod} (hf:Fine l) {cu cg:Int}:∀ (n:Nat) (L:List ByteArray) (a h:Nat),a < l.length → h ≤ 8 → far L h < n → ∃ r,ZcU fol l cu cg n L a h = some r
 | 0,_,_,_,_,_,h=>by omega
 | n + 1,[],a,h,_,_,_=>⟨_,rfl⟩
 | n + 1,p :: rest,a,h,ha,hh,hn=>by
  have:=Zoc hf ha hh (fol:=fol) (cu:=cu) (cg:=cg) (p:=p) (rest:=rest)
  rw [ZcU]
  cases hs:Zj1 fol l cu cg p rest a h with
  | inl c=>exact ⟨_,rfl⟩
  | inr t =>
   obtain ⟨L,a',h'⟩:=t
   rw [hs] at this
   exact ZzJ hf n L a' h' this.1 this.2.1 (by have:=this.2.2; omega)
theorem ZG9 {g:Fl} (h:g.noOwn = .sh):g.noOwn.noOwn = .sh ∧ (∀ es,ZjY g es = true):=by
 cases g with
 | own e=>exact ⟨rfl,fun _=>rfl⟩
 | sh=>exact ⟨rfl,fun _=>rfl⟩
 | bor=>cases h
theorem ZmT (s:List ByteArray) (j:Nat):(ZaK s).drop j = ZaK (s.drop j):=by unfold ZaK; rw [List.map_drop]
theorem Zri (s t:List ByteArray):ZaK s ++ ZaK t = ZaK (s ++ t):=by unfold ZaK; rw [List.map_append]
theorem ZgY (s:List ByteArray):(ZaK s).map V.noOwn = ZaK s:=by unfold ZaK; rw [List.map_map]; rfl
theorem ZLU {l:List Nod} (hf:Fine l) {a:Nat} (ha:a < l.length) (f:Fl) (room cu cg:Int) (k:Bool → Option R) :
  ZDz N (nodsV fq l) f room cu cg (a:Int) 1 k = k (Zz8 cu cg (at_ l a).mode (at_ l a).uid (at_ l a).gid 1):=by
 rw [ZnZ]
 unfold Zmq
 rw [if_pos (by omega),Int.toNat_natCast,Zbj ha]
 simp only [Zag,ZbD,ZmS N (hf.mode a ha) (show (0:Int) ≤ 1 ∧ (1:Int) ≤ 7 by omega)]
theorem ZMy {l:List Nod} {a:Nat} (ha:a < l.length) (f:Fl) (room cu cg:Int) (k:Bool → Option R) :
  ZEf N (nodsV fq l) f room cu cg (a:Int) 1 k = k (Zz8 cu cg (at_ l a).mode (at_ l a).uid (at_ l a).gid 1):=by
 rw [ZoC]
 unfold Zmr
 rw [if_pos (by omega),Int.toNat_natCast,Zbj ha]
 simp only [Zag,ZbD,Zmg]
theorem ZDv {l:List Nod} {a:Nat} (ha:a < l.length) (f:Fl) (room:Int) (k:Bool → Option R):ZCk N (nodsV fq l) f room (a:Int) k = k ((at_ l a).kind == 2):=by
 rw [Zot]
 unfold ZmI
 rw [if_pos (by omega),Int.toNat_natCast,Zbj ha]
 simp only [Zag,ZbD]
theorem ZjL {w:ByteArray} (h:ZgB w = true) (k:Int → Option R):ZcV w 0 k = k ((at_ (bl w) 0).toNat:Int):=by
 have:=ZcR h
 rw [show (0:Int) = ((0:Nat):Int) from rfl,ZcH w (by rw [← Zb5]; omega)]
theorem Zz9 {l:List Nod} (hf:Fine l) (hN:1048580 < N) (fol:Bool) {p:ByteArray} {rest:List ByteArray} {a h:Nat} (ha:a < l.length) (hh:h ≤ 8) (hr:rest.length ≤ 1000) (f:Fl) {g:Fl} (hg:g.noOwn = .sh) (room cu cg:Int)
  (K:Int → List V → Fl → Int → Int → Int → Int → List V → Fl → Int → Option R) (ke:Int → Option R) (hK:∀ c,c ≠ 0 → ∀ a b c1 d e f g h i,K c a b c1 d e f g h i = ke c) :
  ∃ g':Fl,g'.noOwn = .sh ∧ ZCq N fol (nodsV fq l) f room cu cg (a:Int) (ZaK (p :: rest)) g (h:Int) K = match Zj1 fol l cu cg p rest a h with
   | .inl c=>ke c
   | .inr (L,a',h')=>K 0 (nodsV fq l) f room cu cg (a':Nat) (ZaK L) g' (h':Nat):=by
 rw [ZwQ]
 unfold Zry Zj1
 rw [if_pos (by omega),Int.toNat_natCast,Zbj ha]
 simp only [Zag,ZbD,ZLU N hf ha]
 obtain ⟨hg1,hg2⟩:=ZG9 hg
 have hsh:Fl.noOwn .sh = .sh:=rfl
 have e1:(((ZaK (p :: rest)).take (ZaK (p :: rest)).length).drop 1) = ZaK rest:=by rw [List.take_of_length_le (Nat.le_refl _),ZmT]; rfl
 rw [e1,show nth (ZaK (p :: rest)) 0 = some (.str p) from rfl]
 simp only [Zag,Zdh]
 rw [show (p.toList == (ByteArray.mk #[46]).toList) = ZCz p from rfl,show (p.toList == (ByteArray.mk #[46,46]).toList) = ZjZ p from rfl]
 have e2:(0:Int) ≤ 1 ∧ (1:Int) ≤ ((ZaK (p :: rest)).length:Int):=by rw [Zbi,List.length_cons]; omega
 simp only [if_pos e2]
 by_cases h1:(at_ l a).kind = 2
 case neg =>
  refine ⟨.sh,rfl,?_⟩
  rw [if_pos h1,bne_iff_ne.2 h1]
  exact hK 3 (by decide) _ _ _ _ _ _ _ _ _
 rw [if_neg (show ¬ (at_ l a).kind ≠ 2 from fun h=>h h1),h1]
 cases h2:Zz8 cu cg (at_ l a).mode (at_ l a).uid (at_ l a).gid 1 with
 | false =>
  refine ⟨.sh,rfl,?_⟩
  rw [if_pos (show false = false from rfl)]
  exact hK 4 (by decide) _ _ _ _ _ _ _ _ _
 | true =>
 rw [if_neg (show ¬ (true = false) by decide)]
 simp only [bne_self_eq_false,Bool.not_true]
 cases ZCz p with
 | true=>exact ⟨g.noOwn.noOwn,by rw [hg1]; rfl,rfl⟩
 | false =>
 rw [if_neg (show ¬ (false = true) by decide)]
 simp only
 cases ZjZ p with
 | true =>
  refine ⟨g.noOwn.noOwn,by rw [hg1]; rfl,?_⟩
  rw [if_pos (show true = true from rfl)]
  simp only
  rw [ZCg N hf.small hN]
 | false =>
 rw [if_neg (show ¬ (false = true) by decide)]
 simp only
 rw [ZOz N (hf.small.es a ha) hN]
 by_cases h3:Zbo (at_ l a).es p < 0
 ·refine ⟨.sh,rfl,?_⟩
  rw [if_pos h3,decide_eq_true h3]
  exact hK 2 (by decide) _ _ _ _ _ _ _ _ _
 rw [if_neg h3,decide_eq_false h3]
 obtain ⟨h4,h5⟩:=Zjf hf.ent ha p h3
 simp only
 rw [if_pos (by omega),Zbj h4]
 simp only [Zag,ZbD]
 by_cases h6:(at_ l (Zbo (at_ l a).es p).toNat).kind = 3
 case neg =>
  refine ⟨g.noOwn.noOwn,by rw [hg1]; rfl,?_⟩
  rw [if_pos h6,bne_iff_ne.2 h6]
  simp only
  rw [← h5]
 rw [if_neg (show ¬ (at_ l (Zbo (at_ l a).es p).toNat).kind ≠ 3 from fun h=>h h6),h6]
 have hp:=hf.link _ h4 h6
 have hs:=ZcR hp
 have hpl:=Zd5 (at_ l (Zbo (at_ l a).es p).toNat).data
 simp only [bne_self_eq_false,Zbi]
 have hlink:∀ ks:Fl,(match ((h:Int) == 8) with
      | true=>K 5 (nodsV fq l) f room cu cg (a:Int) (ZaK rest) g.noOwn.noOwn (h:Int)
      | false=>Zra N (at_ l (Zbo (at_ l a).es p).toNat).data fun e24=>Zaj (ZjY g.noOwn.noOwn.noOwn.noOwn (ZaK rest)) ((if (e24.length + rest.length) * 16 ≤ 140737488355328 then ZcV (at_ l (Zbo (at_ l a).es p).toNat).data 0 fun n25=>(match (n25 == 47) with
         | true=>K 0 (nodsV fq l) f room cu cg 0 (e24 ++ (ZaK rest).map V.noOwn) ks (IntKind.i64.wrap ((h:Int) + 1))
         | false=>K 0 (nodsV fq l) f room cu cg (a:Int) (e24 ++ (ZaK rest).map V.noOwn) ks (IntKind.i64.wrap ((h:Int) + 1))) else none))) =
    match (if h = 8 then (Sum.inl 5:Int ⊕ (List ByteArray × Nat × Nat)) else .inr (ZbW (at_ l (Zbo (at_ l a).es p).toNat).data ++ rest,if Zg5 (at_ l (Zbo (at_ l a).es p).toNat).data then 0 else a,h + 1)) with
   | .inl c=>ke c
   | .inr (L,a',h')=>K 0 (nodsV fq l) f room cu cg (a':Nat) (ZaK L) ks (h':Nat):=by
  intro ks
  by_cases h8:h = 8
  ·subst h8
   exact hK 5 (by decide) _ _ _ _ _ _ _ _ _
  ·rw [if_neg h8,beq_false_of_ne (by omega:(h:Int) ≠ 8)]
   simp only [Zlh N (show (at_ l (Zbo (at_ l a).es p).toNat).data.size ≤ 1048576 by omega) hN]
   rw [hg1,hsh,hsh,Zw7,if_pos (by rw [Zbi]; omega),ZjL hp,ZgY,Zri,Zaz (i:=h) (by omega)]
   unfold Zg5
   cases (((at_ (bl (at_ l (Zbo (at_ l a).es p).toNat).data) 0).toNat:Int) == 47) <;> rfl
 by_cases h7:rest.length = 0
 ·have hc0:((rest.length:Int) == 0) = true:=by rw [h7]; rfl
  rw [hc0]
  cases fol with
  | false =>
   refine ⟨g.noOwn.noOwn,by rw [hg1]; rfl,?_⟩
   rw [if_pos (show rest.length = 0 ∧ false = false from ⟨h7,rfl⟩)]
   simp only
   rw [← h5]
   rfl
  | true =>
   refine ⟨.own 9,rfl,?_⟩
   rw [if_neg (show ¬ (rest.length = 0 ∧ true = false) from fun hc=>by cases hc.2)]
   exact (hlink (.own 9))
 ·refine ⟨.own 9,rfl,?_⟩
  rw [if_neg (show ¬ (rest.length = 0 ∧ fol = false) from fun hc=>h7 hc.1),beq_false_of_ne (by omega:(rest.length:Int) ≠ 0)]
  exact (hlink (.own 9))
end Go.VM.VL
set_option linter.unusedSimpArgs false
set_option linter.unusedVariables false
namespace Go.VM.VL
open Go
variable {R:Type} (N:Nat) {fq:Fl}
def ZPY (ke:Int → Option R) (ka:Nat → Option R):Option (Int ⊕ Nat) → Option R
 | none=>none
 | some (.inl c)=>ke c
 | some (.inr a)=>ka a
theorem Ztd {l:List Nod} (hf:Fine l) (hN:1048580 < N) (b1 b2:Bool) (e_3:List V) (f_4:Fl) (x_5 x_6 x_7:Int) (f:Fl) (room cu cg:Int) (ke:Int → Option R) (ka:Int → Option R) :
  ∀ (n:Nat) (L:List ByteArray) (a h:Nat) (g:Fl),g.noOwn = .sh → a < l.length → h ≤ 8 → far L h ≤ 800 →
   Ze4 N b1 b2 e_3 f_4 x_5 x_6 x_7 (fun x44 _ _ _ _ _ _ _ _ _=>ke x44) (fun _ _ _ _ _ x59 _ _ _=>ka x59) n (nodsV fq l) f room cu cg (a:Int) (ZaK L) g (h:Int)
    = ZPY ke (fun a=>ka (a:Nat)) (ZcU (b1 || b2) l cu cg n L a h)
 | 0,L,a,h,g,_,_,_,_=>rfl
 | n + 1,[],a,h,g,_,_,_,_=>rfl
 | n + 1,p :: rest,a,h,g,hg,ha,hh,hfar=>by
  have hr:rest.length ≤ 1000:=by unfold far at hfar; rw [List.length_cons] at hfar; omega
  have hso:=Zoc hf ha hh (fol:=b1 || b2) (cu:=cu) (cg:=cg) (p:=p) (rest:=rest)
  obtain ⟨g',hg',hstep⟩:=Zz9 (R:=R) N hf hN (b1 || b2) (p:=p) (rest:=rest) ha hh hr f hg room cu cg
   (fun x24 e25 f26 x27 x28 x29 x30 e31 f32 x33=>(match (x24 != 0) with
    | true=>ke x24
    | false=>Ze4 N b1 b2 e_3 f_4 x_5 x_6 x_7 (fun x44 _ _ _ _ _ _ _ _ _=>ke x44) (fun _ _ _ _ _ x59 _ _ _=>ka x59) n e25 f26 x27 x28 x29 x30 e31 f32 x33)) ke
   (fun c hc a b c1 d e f g h i=>by rw [bne_iff_ne.2 hc])
  have hlhs:Ze4 N b1 b2 e_3 f_4 x_5 x_6 x_7 (fun x44 _ _ _ _ _ _ _ _ _=>ke x44) (fun _ _ _ _ _ x59 _ _ _=>ka x59) (n + 1) (nodsV fq l) f room cu cg (a:Int) (ZaK (p :: rest)) g (h:Int)
    = ZCq N (b1 || b2) (nodsV fq l) f room cu cg (a:Int) (ZaK (p :: rest)) g (h:Int) (fun x24 e25 f26 x27 x28 x29 x30 e31 f32 x33=>(match (x24 != 0) with
    | true=>ke x24
    | false=>Ze4 N b1 b2 e_3 f_4 x_5 x_6 x_7 (fun x44 _ _ _ _ _ _ _ _ _=>ke x44) (fun _ _ _ _ _ x59 _ _ _=>ka x59) n e25 f26 x27 x28 x29 x30 e31 f32 x33)):=by
   simp only [Ze4,Zel,Zbi,List.length_cons]
   rw [decide_eq_true (by omega)]
   cases b1 <;> rfl
  rw [hlhs,hstep,ZcU]
  cases hs:Zj1 (b1 || b2) l cu cg p rest a h with
  | inl c=>rfl
  | inr t =>
   obtain ⟨L',a',h'⟩:=t
   rw [hs] at hso
   exact Ztd hf hN b1 b2 e_3 f_4 x_5 x_6 x_7 f room cu cg ke ka n L' a' h' g' hg' hso.1 hso.2.1 (by have:=hso.2.2; omega)
theorem ZIr (hN:1048580 < N) {a b:List ByteArray} (ha:a.length ≤ 1048577) (hb:b.length ≤ 1048577) (f:Fl) (k:List V → Option R) :
  ZBk N [.list 1 (ZaK a) .sh,.list 1 (ZaK b) .sh] f k = k (ZaK (a ++ b)):=by
 rw [Zzb]
 unfold Zqq
 obtain ⟨M,hM⟩:∃ M,N = M + 3:=⟨N - 3,by omega⟩
 have w1:IntKind.i64.wrap (0 + (a.length:Int)) = a.length:=ZbH (by omega) (by omega) |>.trans (by omega)
 have w2:IntKind.i64.wrap ((a.length:Int) + (b.length:Int)) = ((a.length + b.length:Nat):Int):=ZbH (by omega) (by omega)
 have hl1:∀ (k0:Int → Option R),Zfs N [.list 1 (ZaK a) .sh,.list 1 (ZaK b) .sh] f [.list 1 (ZaK a) .sh,.list 1 (ZaK b) .sh] f.noOwn 2 k0 N 0 0 = k0 ((a.length + b.length:Nat):Int):=by
  intro k0
  refine ZbK (l:=fun n i=>Zfs N [.list 1 (ZaK a) .sh,.list 1 (ZaK b) .sh] f [.list 1 (ZaK a) .sh,.list 1 (ZaK b) .sh] f.noOwn 2 k0 n ((if i = 0 then 0 else if i = 1 then a.length else a.length + b.length:Nat):Int) (i:Int)) (len:=2) (k1:=k0 ((a.length + b.length:Nat):Int)) ?_ ?_ (show 2 < N by omega)
  ·intro n i hi
   rcases (show i = 0 ∨ i = 1 by omega) with rfl | rfl
   ·show (match decide (IntKind.i64.wrap (0 + ((ZaK a).length:Int)) < 0) with | true=>none | false=>Zfs N _ f _ _ 2 k0 n (IntKind.i64.wrap (0 + ((ZaK a).length:Int))) _) = _
    rw [Zbi,w1,decide_eq_false (by omega)]
    rfl
   ·show (match decide (IntKind.i64.wrap ((a.length:Int) + ((ZaK b).length:Int)) < 0) with | true=>none | false=>Zfs N _ f _ _ 2 k0 n (IntKind.i64.wrap ((a.length:Int) + ((ZaK b).length:Int))) _) = _
    rw [Zbi,w2,decide_eq_false (by omega)]
    rfl
  ·intro n
   rfl
 have hl2:∀ (k0:List V → Option R),Zfn N [.list 1 (ZaK a) .sh,.list 1 (ZaK b) .sh] f.noOwn 2 k0 N [] 0 = k0 (ZaK (a ++ b)):=by
  intro k0
  refine ZbK (l:=fun n i=>Zfn N [.list 1 (ZaK a) .sh,.list 1 (ZaK b) .sh] f.noOwn 2 k0 n (if i = 0 then [] else if i = 1 then ZaK a else ZaK (a ++ b)) (i:Int)) (len:=2) (k1:=k0 (ZaK (a ++ b))) ?_ ?_ (show 2 < N by omega)
  ·intro n i hi
   rcases (show i = 0 ∨ i = 1 by omega) with rfl | rfl
   ·show (if (0 + (ZaK a).length) * 16 ≤ 140737488355328 then Zfn N _ f.noOwn 2 k0 n ([] ++ (ZaK a).map V.noOwn) _ else none) = _
    rw [Zbi,if_pos (by omega),ZgY]
    rfl
   ·show (if ((ZaK a).length + (ZaK b).length) * 16 ≤ 140737488355328 then Zfn N _ f.noOwn 2 k0 n (ZaK a ++ (ZaK b).map V.noOwn) _ else none) = _
    rw [Zbi,Zbi,if_pos (by omega),ZgY,Zri]
    rfl
  ·intro n
   rfl
 refine (hl1 _).trans ?_
 rw [ZxA]
 unfold Zqh
 rw [if_pos ⟨by omega,by omega⟩]
 exact hl2 _
theorem Zvz {w:ByteArray} (hw:1 ≤ w.size ∧ w.size ≤ 60) (k:Bool → Option R):ZHY N w (ByteArray.mk #[47]) k = ZcV w (IntKind.i64.wrap ((w.size:Int) - 1)) fun n=>k (n == 47):=by
 rw [Zzu]
 unfold Zsd
 rw [Zyh]
 unfold ZqM
 rw [show (((ByteArray.mk #[47]).size:Nat):Int) = 1 from rfl,decide_eq_true (by omega),ZbH (by omega) (by omega),show (w.size:Int) - 1 = ((w.size - 1:Nat):Int) by omega]
 have hlt:w.size - 1 < (bl w).length:=by rw [← Zb5]; omega
 rw [ZcH w hlt]
 simp only
 rw [if_pos ⟨by omega,by omega⟩,Int.toNat_natCast]
 congr 1
 rw [ByteArray.toList_eq,ByteArray.toList_eq]
 show (bl (ByteArray.extract w (w.size - 1) w.size) == [47]) = _
 rw [Zmf,List.take_of_length_le (by rw [Zb5]; exact Nat.le_refl _),List.drop_eq_getElem_cons hlt,List.drop_eq_nil_of_le (by rw [← Zb5]; omega),Zb2 hlt]
 rw [show (47:Int) = ((47:UInt8).toNat:Int) from rfl,ZDB]
 by_cases h:(bl w)[w.size - 1] = 47
 ·rw [h]; rfl
 ·rw [decide_eq_false h]
  apply beq_false_of_ne
  intro h2
  exact h (List.cons.inj h2).1
theorem ZqS {l:List Nod} (hf:Fine l) (hN:1048580 < N) (b1 b2:Bool) (f:Fl) (room cu cg:Int) (ke:Int → Option R) (ka:Int → Option R) :
  ∀ (n:Nat) (L:List ByteArray) (a h:Nat),a < l.length → h ≤ 8 → far L h ≤ 800 →
   Ze9 N b1 b2 (nodsV fq l) f room cu cg (fun x54 _=>ke x54) ka n (ZaK L) (a:Int) (h:Int)
    = ZPY ke (fun a=>ka (a:Nat)) (ZcU (b1 || b2) l cu cg n L a h)
 | 0,L,a,h,_,_,_=>rfl
 | n + 1,[],a,h,_,_,_=>rfl
 | n + 1,p :: rest,a,h,ha,hh,hfar=>by
  have hr:rest.length ≤ 1000:=by unfold far at hfar; rw [List.length_cons] at hfar; omega
  have hso:=Zoc hf ha hh (fol:=b1 || b2) (cu:=cu) (cg:=cg) (p:=p) (rest:=rest)
  have ih:=fun (L':List ByteArray) (a' h':Nat) (hs:Zj1 (b1 || b2) l cu cg p rest a h = .inr (L',a',h'))=>(by
   rw [hs] at hso
   exact ZqS hf hN b1 b2 f room cu cg ke ka n L' a' h' hso.1 hso.2.1 (by have:=hso.2.2; omega) :
    Ze9 N b1 b2 (nodsV fq l) f room cu cg (fun x54 _=>ke x54) ka n (ZaK L') (a':Nat) (h':Nat) = ZPY ke (fun a=>ka (a:Nat)) (ZcU (b1 || b2) l cu cg n L' a' h'))
  have hgoal:Ze9 N b1 b2 (nodsV fq l) f room cu cg (fun x54 _=>ke x54) ka (n + 1) (ZaK (p :: rest)) (a:Int) (h:Int) = match Zj1 (b1 || b2) l cu cg p rest a h with
    | .inl c=>ke c
    | .inr (L',a',h')=>Ze9 N b1 b2 (nodsV fq l) f room cu cg (fun x54 _=>ke x54) ka n (ZaK L') (a':Nat) (h':Nat):=by
   simp only [Ze9,Zet]
   have e0:decide (((ZaK (p :: rest)).length:Int) > 0) = true:=decide_eq_true (by rw [Zbi,List.length_cons]; omega)
   have e1:(((ZaK (p :: rest)).take (ZaK (p :: rest)).length).drop 1) = ZaK rest:=by rw [List.take_of_length_le (Nat.le_refl _),ZmT]; rfl
   have e2:(0:Int) ≤ 1 ∧ (1:Int) ≤ ((ZaK (p :: rest)).length:Int):=by rw [Zbi,List.length_cons]; omega
   rw [e0,e1,show nth (ZaK (p :: rest)) 0 = some (.str p) from rfl]
   simp only [Zag,Zdh,if_pos e2,ZDv N ha,ZMy N ha]
   rw [show (p.toList == (ByteArray.mk #[46]).toList) = ZCz p from rfl,show (p.toList == (ByteArray.mk #[46,46]).toList) = ZjZ p from rfl]
   unfold Zj1
   by_cases h1:(at_ l a).kind = 2
   case neg=>rw [if_pos h1,beq_false_of_ne h1]; rfl
   rw [if_neg (show ¬ (at_ l a).kind ≠ 2 from fun h=>h h1),h1]
   cases h2:Zz8 cu cg (at_ l a).mode (at_ l a).uid (at_ l a).gid 1 with
   | false=>rfl
   | true =>
   rw [if_neg (show ¬ (true = false) by decide)]
   simp only [beq_self_eq_true,Bool.not_true]
   cases ZCz p with
   | true=>rfl
   | false =>
   rw [if_neg (show ¬ (false = true) by decide)]
   simp only
   cases ZjZ p with
   | true =>
    rw [if_pos (show true = true from rfl)]
    simp only
    rw [ZKu N hf.small hN]
   | false =>
   rw [if_neg (show ¬ (false = true) by decide)]
   simp only
   rw [ZLk N hf.small hN ha]
   by_cases h3:Zbo (at_ l a).es p < 0
   ·rw [if_pos h3,decide_eq_true h3]
   rw [if_neg h3,decide_eq_false h3]
   obtain ⟨h4,h5⟩:=Zjf hf.ent ha p h3
   simp only
   rw [if_pos (by omega),Zbj h4]
   simp only [Zag,ZbD]
   by_cases h6:(at_ l (Zbo (at_ l a).es p).toNat).kind = 3
   case neg =>
    rw [if_pos h6,beq_false_of_ne h6]
    simp only
    rw [← h5]
   rw [if_neg (show ¬ (at_ l (Zbo (at_ l a).es p).toNat).kind ≠ 3 from fun h=>h h6),h6]
   have hp:=hf.link _ h4 h6
   have hs:=ZcR hp
   have hpl:=Zd5 (at_ l (Zbo (at_ l a).es p).toNat).data
   simp only [beq_self_eq_true,Zbi,ZlZ N (show (at_ l (Zbo (at_ l a).es p).toNat).data.size ≤ 1048576 by omega) hN,ZIr N hN (show (ZbW (at_ l (Zbo (at_ l a).es p).toNat).data).length ≤ 1048577 by omega) (show rest.length ≤ 1048577 by omega),ZjL hp]
   rw [Zaz (i:=h) (by omega),show (((at_ (bl (at_ l (Zbo (at_ l a).es p).toNat).data) 0).toNat:Int) == 47) = Zg5 (at_ l (Zbo (at_ l a).es p).toNat).data from rfl]
   by_cases h8:h = 8
   ·subst h8
    by_cases h7:rest.length = 0
    ·rw [decide_eq_false (by omega)]
     cases b1 with
     | true=>rw [if_neg (show ¬ (rest.length = 0 ∧ (true || b2) = false) from fun hc=>by simp at hc)]; rfl
     | false =>
      cases b2 with
      | true=>rw [if_neg (show ¬ (rest.length = 0 ∧ (false || true) = false) from fun hc=>by simp at hc)]; rfl
      | false =>
       rw [if_pos (show rest.length = 0 ∧ (false || false) = false from ⟨h7,rfl⟩)]
       simp only
       rw [← h5]
    ·rw [decide_eq_true (by omega),if_neg (show ¬ (rest.length = 0 ∧ (b1 || b2) = false) from fun hc=>h7 hc.1)]; rfl
   ·rw [beq_false_of_ne (by omega:(h:Int) ≠ 8),if_neg h8]
    by_cases h7:rest.length = 0
    ·rw [decide_eq_false (by omega)]
     cases b1 with
     | true =>
      rw [if_neg (show ¬ (rest.length = 0 ∧ (true || b2) = false) from fun hc=>by simp at hc)]
      cases Zg5 (at_ l (Zbo (at_ l a).es p).toNat).data <;> rfl
     | false =>
      cases b2 with
      | true =>
       rw [if_neg (show ¬ (rest.length = 0 ∧ (false || true) = false) from fun hc=>by simp at hc)]
       cases Zg5 (at_ l (Zbo (at_ l a).es p).toNat).data <;> rfl
      | false =>
       rw [if_pos (show rest.length = 0 ∧ (false || false) = false from ⟨h7,rfl⟩)]
       simp only
       rw [← h5]
    ·rw [decide_eq_true (by omega),if_neg (show ¬ (rest.length = 0 ∧ (b1 || b2) = false) from fun hc=>h7 hc.1)]
     cases Zg5 (at_ l (Zbo (at_ l a).es p).toNat).data <;> rfl
  rw [hgoal,ZcU]
  cases hs:Zj1 (b1 || b2) l cu cg p rest a h with
  | inl c=>rfl
  | inr t =>
   obtain ⟨L',a',h'⟩:=t
   exact ih L' a' h' hs
end Go.VM.VL
set_option linter.unusedSimpArgs false
set_option linter.unusedVariables false
namespace Go.VM.VL
open Go
variable {R:Type} (N:Nat) {fq:Fl}
theorem ZlL {w:ByteArray} (h:ZgB w = true):far (ZbW w) 0 ≤ 800:=by
 have h1:=ZcR h
 have h2:=Zd5 w
 unfold far; omega
def Zlt (l:List Nod) (cu cg:Int) (w:ByteArray) (fol:Bool):Option (Int × Int) :=
 if Zfv w then
  match ZcU (fol || (((at_ (bl w) (w.size - 1)).toNat:Int) == 47)) l cu cg N (ZbW w) 0 0 with
  | none=>none
  | some (.inl c)=>some (0,c)
  | some (.inr a)=>some (if ((((at_ (bl w) (w.size - 1)).toNat:Int) == 47) && !((at_ l a).kind == 2)) then (0,3) else ((a:Nat),0))
 else some (0,1)
theorem ZsE {l:List Nod} (hf:Fine l) (hN:1048580 < N) (cu cg:Int) (w:ByteArray) (fol:Bool):∃ r,Zlt N l cu cg w fol = some r:=by
 unfold Zlt
 by_cases h:Zfv w = true
 ·rw [if_pos h]
  unfold Zfv at h
  rw [Bool.and_eq_true] at h
  obtain ⟨r,hr⟩:=ZzJ hf (fol:=fol || (((at_ (bl w) (w.size - 1)).toNat:Int) == 47)) (cu:=cu) (cg:=cg) N (ZbW w) 0 0 hf.pos (by omega) (by have:=ZlL h.1; omega)
  rw [hr]
  cases r <;> exact ⟨_,rfl⟩
 ·rw [if_neg h]; exact ⟨_,rfl⟩
theorem Zys {fol:Bool} {l:List Nod} (hf:Fine l) {cu cg:Int}:∀ (n:Nat) (L:List ByteArray) (a h b:Nat),a < l.length → h ≤ 8 → ZcU fol l cu cg n L a h = some (.inr b) → b < l.length
 | 0,_,_,_,_,_,_,h=>by cases h
 | n + 1,[],a,h,b,ha,_,hr=>by
  rw [ZcU] at hr
  obtain rfl:=Sum.inr.inj (Option.some.inj hr)
  exact ha
 | n + 1,p :: rest,a,h,b,ha,hh,hr=>by
  have:=Zoc hf ha hh (fol:=fol) (cu:=cu) (cg:=cg) (p:=p) (rest:=rest)
  rw [ZcU] at hr
  cases hs:Zj1 fol l cu cg p rest a h with
  | inl c=>rw [hs] at hr; cases hr
  | inr t =>
   obtain ⟨L,a',h'⟩:=t
   rw [hs] at this hr
   exact Zys hf n L a' h' b this.1 this.2.1 hr
theorem ZHQ {l:List Nod} (hf:Fine l) (hN:1048580 < N) {w:ByteArray} (hw:w.size ≤ 1048576) (f:Fl) (room cu cg:Int) (fol:Bool) {r:Int × Int} (hr:Zlt N l cu cg w fol = some r) (k:Int → Int → Option R) :
  ZIk N (nodsV fq l) f room cu cg w fol k = k r.1 r.2:=by
 rw [ZzA]
 unfold Zrc
 rw [ZGp N hw hN]
 unfold Zlt at hr
 by_cases h:Zfv w = true
 ·rw [if_pos h] at hr
  rw [h]
  unfold Zfv at h
  rw [Bool.and_eq_true] at h
  have hs:=ZcR h.1
  simp only [Bool.not_true]
  rw [ZbH (by omega) (by omega),show (w.size:Int) - 1 = ((w.size - 1:Nat):Int) by omega,ZcH w (by rw [← Zb5]; omega)]
  simp only [Zlh N hw hN]
  rw [show (0:Int) = ((0:Nat):Int) from rfl]
  refine (Ztd N hf hN fol (((at_ (bl w) (w.size - 1)).toNat:Int) == 47) (nodsV fq l) f room cu cg _ room cu cg (fun x44=>k 0 x44) _ N (ZbW w) 0 0 .sh rfl hf.pos (by omega) (ZlL h.1)).trans ?_
  cases hq:ZcU (fol || (((at_ (bl w) (w.size - 1)).toNat:Int) == 47)) l cu cg N (ZbW w) 0 0 with
  | none=>rw [hq] at hr; cases hr
  | some q =>
   rw [hq] at hr
   cases q with
   | inl c=>obtain rfl:=Option.some.inj hr; rfl
   | inr a =>
    obtain rfl:=Option.some.inj hr
    have ha:=Zys hf N _ _ _ _ hf.pos (by omega) hq
    show (match (((at_ (bl w) (w.size - 1)).toNat:Int) == 47) with
     | true=>(if 0 ≤ ((a:Nat):Int) then Zbt (nth (nodsV fq l) ((a:Nat):Int).toNat) fun e63=>ZaB e63 fun n64 n65 n66 n67 n68 w69 e70 f71=>(match (n64 != 2) with
      | true=>k 0 3
      | false=>k ((a:Nat):Int) 0) else none)
     | false=>k ((a:Nat):Int) 0) = _
    rw [if_pos (by omega),Int.toNat_natCast,Zbj ha]
    simp only [Zag,ZbD,bne]
    cases (((at_ (bl w) (w.size - 1)).toNat:Int) == 47) <;> cases ((at_ l a).kind == 2) <;> rfl
 ·rw [if_neg h] at hr
  obtain rfl:=Option.some.inj hr
  rw [Bool.eq_false_iff.2 h]
  rfl
theorem ZOk {l:List Nod} (hf:Fine l) (hN:1048580 < N) {w:ByteArray} (hw:w.size ≤ 1048576) (f:Fl) (room cu cg:Int) (fol:Bool) {r:Int × Int} (hr:Zlt N l cu cg w fol = some r) (k:Int → Int → Option R) :
  ZI1 N (nodsV fq l) f room cu cg w fol k = k r.1 r.2:=by
 rw [Zy4]
 unfold Zsa
 rw [ZFx N hw hN]
 unfold Zlt at hr
 by_cases h:Zfv w = true
 ·rw [if_pos h] at hr
  rw [h]
  unfold Zfv at h
  rw [Bool.and_eq_true] at h
  have hs:=ZcR h.1
  simp only [Bool.not_true]
  rw [Zvz N hs,ZbH (by omega) (by omega),show (w.size:Int) - 1 = ((w.size - 1:Nat):Int) by omega,ZcH w (by rw [← Zb5]; omega)]
  simp only [ZlZ N hw hN]
  rw [show (0:Int) = ((0:Nat):Int) from rfl]
  refine (ZqS N hf hN fol (((at_ (bl w) (w.size - 1)).toNat:Int) == 47) f room cu cg (fun x54=>k 0 x54) _ N (ZbW w) 0 0 hf.pos (by omega) (ZlL h.1)).trans ?_
  cases hq:ZcU (fol || (((at_ (bl w) (w.size - 1)).toNat:Int) == 47)) l cu cg N (ZbW w) 0 0 with
  | none=>rw [hq] at hr; cases hr
  | some q =>
   rw [hq] at hr
   cases q with
   | inl c=>obtain rfl:=Option.some.inj hr; rfl
   | inr a =>
    obtain rfl:=Option.some.inj hr
    have ha:=Zys hf N _ _ _ _ hf.pos (by omega) hq
    simp only [ZPY,ZDv N ha]
    cases (((at_ (bl w) (w.size - 1)).toNat:Int) == 47) <;> cases ((at_ l a).kind == 2) <;> rfl
 ·rw [if_neg h] at hr
  obtain rfl:=Option.some.inj hr
  rw [Bool.eq_false_iff.2 h]
  rfl
def Zh8 (l:List Nod) (room cu cg:Int):Bool:=Zpz l room && (inR cu 0 99 && inR cg 0 99)
theorem ZCI {l:List Nod} (hl:Small l) (hN:1048580 < N) (f:Fl) (room cu cg:Int) (k:Bool → Option R):ZIJ N (nodsV fq l) f room cu cg k = k (Zh8 l room cu cg):=by
 rw [Zw3]
 unfold Zp0 Zh8
 rw [ZIZ N hl hN,ZMe N hl hN,Zw4]
 unfold ZqD
 simp only [ZAQ]
 cases Zpz l room <;> cases inR cu 0 99 <;> rfl
theorem ZCF {l:List Nod} (hl:Small l) (hN:1048580 < N) (f:Fl) (room cu cg:Int) (k:Bool → Option R):ZJb N (nodsV fq l) f room cu cg k = k (Zh8 l room cu cg):=by
 rw [ZwW]
 unfold ZrD Zh8
 rw [ZHR N hl hN,Zx2]
 unfold ZpT
 rw [Zo6]
 unfold Zmo
 simp only [ZAv]
 cases Zpz l room <;> cases inR cu 0 99 <;> rfl
theorem Zjg {l:List Nod} (hl:Small l) {room cu cg:Int} (h:Zh8 l room cu cg = true):Fine l:=by
 unfold Zh8 at h
 rw [Bool.and_eq_true] at h
 exact ZMG hl h.1
end Go.VM.VL
set_option linter.unusedSimpArgs false
set_option linter.unusedVariables false
namespace Go.VM.VL
section
variable (N:Nat)
theorem Zx5 (n:Int):(strOfNums [n]).size = 1:=rfl
theorem ZPf (x:Nat):Int.tdiv (x:Int) 10 = ((x / 10:Nat):Int):=rfl
theorem Zz5:∀ (d n x:Nat) (w:ByteArray),x < 10 ^ d → d < n → d ≤ 18 → w.size + d ≤ 100 → ∃ w':ByteArray,w'.size ≤ w.size + d ∧ ∀ {R:Type} (k0:ByteArray → Option R),ZfM N k0 n (x:Int) w = k0 w':=by
 intro d
 induction d with
 | zero =>
  intro n x w hx hn _ _
  obtain ⟨n,rfl⟩:∃ m,n = m + 1:=⟨n - 1,by omega⟩
  obtain rfl:x = 0:=by simp at hx; exact hx
  exact ⟨w,by omega,fun k0=>by simp [ZfM,ZcI]⟩
 | succ d ih =>
  intro n x w hx hn hd hw
  obtain ⟨n,rfl⟩:∃ m,n = m + 1:=⟨n - 1,by omega⟩
  by_cases h0:x = 0
  ·subst h0
   exact ⟨w,by omega,fun k0=>by simp [ZfM,ZcI]⟩
  ·have hp:(10:Nat) ^ (d + 1) = 10 * 10 ^ d:=by rw [Nat.pow_succ]; omega
   have hx2:x / 10 < 10 ^ d:=by rw [Nat.div_lt_iff_lt_mul (by omega)]; omega
   have h18:(10:Nat) ^ (d + 1) ≤ 10 ^ 18:=Nat.pow_le_pow_right (by omega) hd
   have hs:∀ a:Int,(strOfNums [a] ++ w).size = 1 + w.size:=fun a=>by rw [ByteArray.size_append,Zx5]
   obtain ⟨w',h1,h2⟩:=ih n (x / 10) (strOfNums [IntKind.u8.wrap (IntKind.i64.wrap (48 + Int.tmod (x:Int) 10))] ++ w) hx2 (by omega) (by omega) (by rw [hs]; omega)
   rw [hs] at h1
   refine ⟨w',by omega,fun k0=>?_⟩
   simp only [ZfM,ZcI,ZL7]
   rw [decide_eq_true (by omega)]
   simp only
   rw [if_pos (by rw [Zx5]; omega),ZPf,ZbH (x:=((x / 10:Nat):Int)) (by omega) (by omega)]
   exact h2 k0
theorem ZlD (hN:100 < N) {x:Nat} (hx:x < 10 ^ 15):∃ w:ByteArray,∀ {R:Type} (k:ByteArray → Option R),Zq3 N (x:Int) k = k w:=by
 by_cases h0:x = 0
 ·subst h0
  exact ⟨ByteArray.mk #[109,48],fun k=>by rw [ZoI]; rfl⟩
 ·obtain ⟨w,h1,h2⟩:=Zz5 N 15 N x (ByteArray.mk #[]) hx (by omega) (by omega) (by show 0 + 15 ≤ 100; omega)
  refine ⟨ByteArray.mk #[109] ++ w,fun k=>?_⟩
  rw [ZoI]
  unfold ZrL
  rw [decide_eq_false (by omega)]
  simp only
  rw [h2,if_pos]
  have:(ByteArray.mk #[109]).size = 1:=rfl
  have:(ByteArray.mk #[]).size = 0:=rfl
  omega
noncomputable def ZH6 (x:Nat):ByteArray:=if h:100 < N ∧ x < 10 ^ 15 then Classical.choose (ZlD N h.1 h.2) else ByteArray.mk #[]
theorem Zf4 (hN:100 < N) {x:Nat} (hx:x < 10 ^ 15) {R:Type} (k:ByteArray → Option R):Zq3 N (x:Int) k = k (ZH6 N x):=by
 unfold ZH6
 rw [dif_pos ⟨hN,hx⟩]
 exact Classical.choose_spec (ZlD N hN hx) k
theorem Zcm {α:Type} (l:List α) (i:Nat) (v:α):(Zav l i v).length = l.length:=by rw [Zbg,List.length_set]
theorem ZgE {α:Type} (l:List α) (i:Nat) (v u:α):Zav (Zav l i v) i u = Zav l i u:=by rw [Zbg,Zbg,Zbg,List.set_set]
theorem Zpr {α:Type} [Inhabited α] {l:List α} {i j:Nat} {v:α} (h:i < l.length):at_ (Zav l i v) j = if i = j then v else at_ l j:=by
 unfold at_
 rw [Zbg,List.getD_eq_getElem?_getD,List.getD_eq_getElem?_getD,List.getElem?_set]
 by_cases hij:i = j
 ·subst hij; simp [h]
 ·simp [hij]
theorem ZAS (l:List ByteArray) (i:Nat) (w:ByteArray):Zav (ZaK l) i (.str w) = ZaK (Zav l i w):=ZhP V.str l i w
theorem ZBO (l:List Ent) (i:Nat) (e:Ent):Zav (Zbv l) i (ZDd e) = Zbv (Zav l i e):=ZhP ZDd l i e
theorem ZBx (l:List Nod) (i:Nat) (n:Nod):Zav (Zcu l) i (ZLQ n) = Zcu (Zav l i n):=ZhP ZLQ l i n
theorem ZRb (a v:V) (w:ByteArray):ZaM (.str w) 0 [v] = some v:=rfl
theorem ZLz (hN:100 < N) (x:Nat):∀ (d n i:Nat) (L:List ByteArray),i + d = L.length → d < n → x + L.length < 10 ^ 15 →
  ∃ L':List ByteArray,L'.length = L.length ∧ (∀ j,j < i → at_ L' j = at_ L j) ∧ (∀ j,i ≤ j → j < L.length → at_ L' j = ZH6 N (x + j)) ∧
   ∀ {R:Type} (k0:Int → List V → Option R),Zg1 N L.length k0 n ((x + i:Nat):Int) (i:Int) (ZaK L) = k0 ((x + L.length:Nat):Int) (ZaK L'):=by
 intro d
 induction d with
 | zero =>
  intro n i L hi hn hx
  obtain ⟨n,rfl⟩:∃ m,n = m + 1:=⟨n - 1,by omega⟩
  obtain rfl:i = L.length:=by omega
  refine ⟨L,rfl,fun _ _=>rfl,fun j h1 h2=>absurd h2 (by omega),fun k0=>?_⟩
  simp only [Zg1,ZdB,Int.lt_irrefl,decide_false]
 | succ d ih =>
  intro n i L hi hn hx
  obtain ⟨n,rfl⟩:∃ m,n = m + 1:=⟨n - 1,by omega⟩
  have hil:i < L.length:=by omega
  obtain ⟨L',h1,h2,h3,h4⟩:=ih n (i + 1) (Zav L i (ZH6 N (x + i))) (by rw [Zcm]; omega) (by omega) (by rw [Zcm]; omega)
  rw [Zcm] at h1 h3 h4
  refine ⟨L',h1,fun j hj=>?_,fun j hj hj2=>?_,fun k0=>?_⟩
  ·rw [h2 j (by omega),Zpr hil,if_neg (by omega)]
  ·by_cases hij:i = j
   ·subst hij; rw [h2 i (by omega),Zpr hil,if_pos rfl]
   ·exact h3 j (by omega) hj2
  ·simp only [Zg1,ZdB,Zbf hil]
   rw [Zf4 N hN (by omega),if_pos ⟨by omega,by omega⟩,Int.toNat_natCast,Nat.zero_add,ZcQ hil]
   simp only [ZRb (.dead)]
   rw [Zaz (i:=x + i) (by omega),Zaz (i:=i) (by omega),ZAS]
   exact h4 k0
theorem ZnT (hN:1048576 < N) (x:Nat) (L:List ByteArray) (hl:L.length ≤ 1048576) (hx:x + L.length < 10 ^ 15) :
  ∃ L':List ByteArray,L'.length = L.length ∧ (∀ j,j < L.length → at_ L' j = ZH6 N (x + j)) ∧
   ∀ {R:Type} (k:Int → List V → Option R),ZC8 N L.length (x:Int) (ZaK L) k = k ((x + L.length:Nat):Int) (ZaK L'):=by
 obtain ⟨L',h1,_,h3,h4⟩:=ZLz N (by omega) x L.length N 0 L (by omega) (by omega) hx
 refine ⟨L',h1,fun j hj=>h3 j (by omega) hj,fun k=>?_⟩
 rw [ZwT]
 unfold Zql
 refine (h4 _).trans ?_
 simp only [Zf2,Bool.and_true,Zaj]
theorem Zn9 (hN:1048576 < N) (x:Nat) (L:List ByteArray) (hl:L.length ≤ 1048576) (hx:x + L.length < 10 ^ 15) (hL:∀ j,j < L.length → at_ L j = ZH6 N (x + j)) (f:Fl) {R:Type} (k:Int → Option R) :
  ZCo N (ZaK L) f (x:Int) k = k ((x + L.length:Nat):Int):=by
 rw [ZyH]
 unfold Zrs
 refine ZbK (l:=fun n i=>Zg4 N (ZaK L) f (fun _=>k (-1)) (fun x=>k x) n ((x + i:Nat):Int) (i:Int)) (len:=L.length) (k1:=k ((x + L.length:Nat):Int)) ?_ ?_ (show L.length < N by omega)
 ·intro n i hi
  simp only [Zg4,Zdf,Zbi,Zbf hi,Int.natCast_nonneg,if_true,Int.toNat_natCast,ZcQ hi,Zag,Zdh]
  rw [Zf4 N (by omega) (by omega),hL i hi]
  simp only [beq_self_eq_true,Bool.not_true]
  rw [Zaz (i:=x + i) (by omega),Zaz (i:=i) (by omega)]
  rfl
 ·intro n
  simp only [Zg4,Zdf,Zbi,Int.lt_irrefl,decide_false]
theorem ZSL (a b v:V):ZaM (.agg [a,b]) 0 [v] = some (.agg [v,b]):=rfl
theorem ZSM (a b v:V):ZaM (.agg [a,b]) 1 [v] = some (.agg [a,v]):=rfl
theorem ZK4 (hN:100 < N) (x:Nat):∀ (d n i:Nat) (L:List Ent),i + d = L.length → d < n → x + 2 * L.length < 10 ^ 15 →
  ∃ L':List Ent,L'.length = L.length ∧
   ∀ {R:Type} (k0:Int → List V → Option R),ZfS N L.length k0 n ((x + 2 * i:Nat):Int) (i:Int) (Zbv L) = k0 ((x + 2 * L.length:Nat):Int) (Zbv L'):=by
 intro d
 induction d with
 | zero =>
  intro n i L hi hn hx
  obtain ⟨n,rfl⟩:∃ m,n = m + 1:=⟨n - 1,by omega⟩
  obtain rfl:i = L.length:=by omega
  refine ⟨L,rfl,fun k0=>?_⟩
  simp only [ZfS,ZdU,Int.lt_irrefl,decide_false]
 | succ d ih =>
  intro n i L hi hn hx
  obtain ⟨n,rfl⟩:∃ m,n = m + 1:=⟨n - 1,by omega⟩
  have hil:i < L.length:=by omega
  obtain ⟨L',h1,h4⟩:=ih n (i + 1) (Zav L i (ZH6 N (x + 2 * i),((x + 2 * i + 1:Nat):Int))) (by rw [Zcm]; omega) (by omega) (by rw [Zcm]; omega)
  rw [Zcm] at h1 h4
  refine ⟨L',h1,fun k0=>?_⟩
  have hil':i < (Zbv L).length:=by rw [Zbr]; exact hil
  simp only [ZfS,ZdU,Zbf hil]
  rw [Zf4 N hN (by omega),if_pos ⟨by omega,by omega⟩,Int.toNat_natCast,Nat.zero_add,ZbQ hil]
  simp only [ZDd,ZSL,ZfH hil',ZSM]
  rw [if_pos ⟨by omega,by omega⟩,Zaz (i:=x + 2 * i) (by omega),Zaz (i:=x + 2 * i + 1) (by omega),Zaz (i:=i) (by omega),ZgE]
  exact (congrArg (ZfS N L.length k0 n _ _) (ZBO L i (ZH6 N (x + 2 * i),((x + 2 * i + 1:Nat):Int)))).trans (h4 k0)
theorem ZrN (hN:1048576 < N) (x:Nat) (L:List Ent) (hl:L.length ≤ 1048576) (hx:x + 2 * L.length < 10 ^ 15) :
  ∃ L':List Ent,L'.length = L.length ∧
   ∀ {R:Type} (k:Int → List V → Option R),ZJq N L.length (x:Int) (Zbv L) k = k ((x + 2 * L.length:Nat):Int) (Zbv L'):=by
 obtain ⟨L',h1,h4⟩:=ZK4 N (by omega) x L.length N 0 L (by omega) (by omega) hx
 refine ⟨L',h1,fun k=>?_⟩
 rw [ZxU]
 unfold Zqu
 refine (h4 _).trans ?_
 simp only [ZmE,Bool.and_true,Zaj]
section
variable (a b c d e f g v:V)
theorem ZSQ:ZaM (.agg [a,b,c,d,e,f,g]) 0 [v] = some (.agg [v,b,c,d,e,f,g]):=rfl
theorem ZSJ:ZaM (.agg [a,b,c,d,e,f,g]) 1 [v] = some (.agg [a,v,c,d,e,f,g]):=rfl
theorem ZSO:ZaM (.agg [a,b,c,d,e,f,g]) 2 [v] = some (.agg [a,b,v,d,e,f,g]):=rfl
theorem ZSP:ZaM (.agg [a,b,c,d,e,f,g]) 3 [v] = some (.agg [a,b,c,v,e,f,g]):=rfl
theorem ZSR:ZaM (.agg [a,b,c,d,e,f,g]) 4 [v] = some (.agg [a,b,c,d,v,f,g]):=rfl
theorem ZSK:ZaM (.agg [a,b,c,d,e,f,g]) 5 [v] = some (.agg [a,b,c,d,e,v,g]):=rfl
theorem ZSG:ZaM (.agg [a,b,c,d,e,f,g]) 6 [v] = some (.agg [a,b,c,d,e,f,v]):=rfl
theorem ZKC {R:Type} (K:V → List V → Option R):Zbl ((V.agg [a,b,c,d,e,f,g]).cells.drop 6) K = K g []:=rfl
end
theorem ZIX {R:Type} (es:List V) (K:List V → Option R):Zsu uE 2 (.uni uE 2 es) K = K es:=rfl
theorem ZEL (n:Nat):Zjd 1 n (.arr 1 0 0 n) = true:=by simp [Zjd]
theorem ZLi (hN:1048576 < N):∀ (d n i x:Nat) (L:List Nod),L.length ≤ 1048576 → i + d = L.length → d < n → d ≤ 1048576 → x + d * 2097160 < 10 ^ 15 → (∀ j,i ≤ j → j < L.length → (at_ L j).es.length ≤ 1048576) →
  ∃ (L':List Nod) (y:Nat),L'.length = L.length ∧ y < 10 ^ 15 ∧
   ∀ {R:Type} (k0:Int → List V → Option R),ZfK N L.length k0 n (x:Int) (i:Int) (Zcu L) = k0 (y:Int) (Zcu L'):=by
 intro d
 induction d with
 | zero =>
  intro n i x L hll hi hn hd hx hb
  obtain ⟨n,rfl⟩:∃ m,n = m + 1:=⟨n - 1,by omega⟩
  obtain rfl:i = L.length:=by omega
  refine ⟨L,x,rfl,by omega,fun k0=>?_⟩
  simp only [ZfK,Zdd,Int.lt_irrefl,decide_false,ZlG]
 | succ d ih =>
  intro n i x L hll hi hn hd hx hb
  obtain ⟨n,rfl⟩:∃ m,n = m + 1:=⟨n - 1,by omega⟩
  have hil:i < L.length:=by omega
  have hbi:=hb i (by omega) hil
  obtain ⟨es',e1,e2⟩:=ZrN N hN (x + 6) (at_ L i).es hbi (by omega)
  let nd:Nod:=⟨(x:Int),((x + 1:Nat):Int),((x + 2:Nat):Int),((x + 3:Nat):Int),((x + 4:Nat):Int),ZH6 N (x + 5),es'⟩
  obtain ⟨L',y,h1,hy,h4⟩:=ih n (i + 1) (x + 6 + 2 * (at_ L i).es.length) (Zav L i nd) (by rw [Zcm]; exact hll) (by rw [Zcm]; omega) (by omega) (by omega) (by omega) (fun j hj hj2=>by
   rw [Zpr hil,if_neg (by omega)]
   exact hb j (by omega) (by rwa [Zcm] at hj2))
  rw [Zcm] at h1 h4
  refine ⟨L',y,h1,hy,fun k0=>?_⟩
  have hil':i < (Zcu L).length:=by rw [Zhr]; exact hil
  have hc:((0:Int) ≤ (i:Int) ∧ (i:Int) < (L.length:Int)) = True:=eq_true ⟨by omega,by omega⟩
  simp only [ZfK,Zdd,Zbf hil,hc,if_true,Int.toNat_natCast,Nat.zero_add,Zlw hil,ZLQ,ZSQ,ZSJ,ZSO,ZSP,ZSR,ZSK,ZSG,ZfH,ZgE,hil',ZKC,ZIX,
   Zaz (i:=x) (by omega),Zaz (i:=x + 1) (by omega),Zaz (i:=x + 1 + 1) (by omega),Zaz (i:=x + 1 + 1 + 1) (by omega),Zaz (i:=x + 1 + 1 + 1 + 1) (by omega),Zaz (i:=x + 1 + 1 + 1 + 1 + 1) (by omega),
   Zf4 N (show 100 < N by omega) (show x + 1 + 1 + 1 + 1 + 1 < 10 ^ 15 by omega),Zbr,ZmE,Bool.and_true,Zaj,Zaz (i:=i) (show i < 9223372036854775807 by omega)]
  have e3:(x + 1 + 1 + 1 + 1 + 1 + 1:Nat) = x + 6:=rfl
  rw [e3,e2]
  simp only [ZfH,ZgE,hil',ZKC,ZEL,Zbr,e1,Nat.le_refl,decide_true,Zhj (Zbv es') ((Zbr es').trans e1),Zrl,ZSG]
  have e4:(Zav (Zcu L) i (ZLQ nd)).map (trimV 1) = Zcu (Zav L i nd):=by rw [ZBx,ZlG]
  exact (congrArg (ZfK N L.length k0 n _ _) e4).trans (h4 k0)
theorem ZIW (hN:1048576 < N) (x:Nat) (L:List Nod) (hl:Small L) (hx:x + 1048576 * 2097160 < 10 ^ 15) (room:Int) :
  ∃ (L':List Nod) (y:Nat),L'.length = L.length ∧ y < 10 ^ 15 ∧
   ∀ {R:Type} (k:Int → List V → Option R),ZEs N L.length room (x:Int) (Zcu L) k = k (y:Int) (Zcu L'):=by
 have:=hl.len
 have hm:L.length * 2097160 ≤ 1048576 * 2097160:=Nat.mul_le_mul_right _ this
 obtain ⟨L',y,h1,h2,h4⟩:=ZLi N hN L.length N 0 x L this (by omega) (by omega) this (Nat.lt_of_le_of_lt (Nat.add_le_add_left hm x) hx) (fun j _ hj=>hl.es j hj)
 refine ⟨L',y,h1,h2,fun k=>?_⟩
 rw [Zw0]
 unfold ZsI
 rw [Zxk]
 unfold ZqA
 simp only [Zji,Bool.and_true,Zaj]
 refine (h4 _).trans ?_
 simp only [Zji,Bool.and_true,Zaj]
end
end Go.VM.VL
set_option linter.unusedSimpArgs false
set_option linter.unusedVariables false
namespace Go.VM.VL
open Go
variable {R:Type} (N:Nat) {fq:Fl}
theorem Zig {l:List Nod} (hf:Fine l) {cu cg:Int} {w:ByteArray} {fol:Bool} {r:Int × Int} (hr:Zlt N l cu cg w fol = some r):r.1 = ((r.1.toNat:Nat):Int) ∧ r.1.toNat < l.length:=by
 have hp:=hf.pos
 unfold Zlt at hr
 split at hr
 ·split at hr
  ·cases hr
  ·obtain rfl:=Option.some.inj hr
   exact ⟨rfl,hp⟩
  ·rename_i a hq
   obtain rfl:=Option.some.inj hr
   have ha:=Zys hf N _ _ _ _ hf.pos (by omega) hq
   split
   ·exact ⟨rfl,hp⟩
   ·exact ⟨rfl,ha⟩
 ·obtain rfl:=Option.some.inj hr
  exact ⟨rfl,hp⟩
theorem Zun {l:List ByteArray} (hl:l.length ≤ 1048576) (hN:1048576 < N) (f g:Fl) (k:Bool → Option R):ZzZ N (ZaK l) f (ZaK l) g k = k true:=by
 rw [ZyW]
 unfold ZrY
 simp only [bne_self_eq_false]
 refine ZbK (l:=fun n i=>ZgH N (ZaK l) f (ZaK l) g (fun _=>k false) (fun _=>k true) n (i:Int)) (len:=l.length) (k1:=k true) ?_ ?_ (show l.length < N by omega)
 ·intro n i hi
  simp only [ZgH,ZdF,Zbi,Zbf hi,Int.natCast_nonneg,if_true,Int.toNat_natCast,ZcQ hi,Zag,Zdh,bne_self_eq_false,beq_self_eq_true,Bool.not_true]
  rw [Zaz (i:=i) (by omega)]
 ·intro n
  simp only [ZgH,ZdF,Zbi,Int.lt_irrefl,decide_false]
def Zg3 (l:List Nod) (r:Int × Int):Int × Int :=
 if r.2 == 0 then if (at_ l r.1.toNat).kind == 2 then r else (0,3) else r
theorem Zwq {l:List Nod} (hf:Fine l) {r:Int × Int} (hr:r.1 = ((r.1.toNat:Nat):Int) ∧ r.1.toNat < l.length):(Zg3 l r).1 = (((Zg3 l r).1.toNat:Nat):Int) ∧ (Zg3 l r).1.toNat < l.length:=by
 have hp:=hf.pos
 unfold Zg3
 split
 ·split
  ·exact hr
  ·exact ⟨rfl,hp⟩
 ·exact hr
theorem ZMa {l:List Nod} (hf:Fine l) (hN:1048580 < N) {w:ByteArray} (hw:w.size ≤ 1048576) (f:Fl) (room cu cg:Int) {r:Int × Int} (hr:Zlt N l cu cg w true = some r) (k:Int → Int → Option R) :
  ZJw N (nodsV fq l) f room cu cg w k = k (Zg3 l r).1 (Zg3 l r).2:=by
 rw [ZxV]
 unfold ZsP Zg3
 obtain ⟨h1,h2⟩:=Zig N hf hr
 rw [ZHQ N hf hN hw f.noOwn.noOwn room cu cg true hr,if_pos (by omega),Zbj h2]
 simp only [Zag,ZbD,bne]
 cases (r.2 == 0) <;> cases ((at_ l r.1.toNat).kind == 2) <;> rfl
theorem Zu2 {l:List Nod} (hf:Fine l) (hN:1048580 < N) {w:ByteArray} (hw:w.size ≤ 1048576) (f:Fl) (room cu cg:Int) {r:Int × Int} (hr:Zlt N l cu cg w true = some r) (k:Int → Int → Option R) :
  ZI6 N (nodsV fq l) f room cu cg w k = k (Zg3 l r).1 (Zg3 l r).2:=by
 rw [Zzl]
 unfold ZsC Zg3
 obtain ⟨h1,h2⟩:=Zig N hf hr
 rw [ZOk N hf hN hw f.noOwn.noOwn room cu cg true hr,Zot]
 unfold ZmI
 rw [if_pos (by omega),Zbj h2]
 simp only [Zag,ZbD]
 cases (r.2 == 0) <;> cases ((at_ l r.1.toNat).kind == 2) <;> rfl
def ZdJ (l:List Ent) (i:Nat):List ByteArray:=(l.take i).map (·.1)
theorem Zf0 {l:List Ent} {i:Nat} (h:i ≤ l.length):(ZaK (ZdJ l i)).length = i:=by simp [ZaK,ZdJ]; omega
theorem Zlk {l:List Ent} {i:Nat} (h:i < l.length):ZaK (ZdJ l i) ++ ([.str (at_ l i).1]:List V) = ZaK (ZdJ l (i + 1)):=by
 unfold ZaK ZdJ
 rw [List.take_succ_eq_append_getElem h,Zb2 h,List.map_append,List.map_append]
 rfl
theorem ZAD {l:List Ent} (hl:l.length ≤ 1048576) (hN:1048576 < N) (f:Fl) (e:List V) (g:Fl) (x y z:Int) (k0:List V → Option R) :
  ZeX N (Zbv l) f (l.length:Int) e g x y z k0 N [] 0 = k0 (ZaK (ZdJ l l.length)):=by
 refine ZbK (l:=fun n i=>ZeX N (Zbv l) f (l.length:Int) e g x y z k0 n (ZaK (ZdJ l i)) (i:Int)) (len:=l.length) (k1:=k0 (ZaK (ZdJ l l.length))) ?_ ?_ (show l.length < N by omega)
 ·intro n i hi
  simp only [ZeX,ZdG,Zbf hi,Int.natCast_nonneg,if_true,Int.toNat_natCast,ZbQ hi,Zag,Zcy,Zlk hi]
  rw [if_pos (by rw [Zf0 (by omega)]; omega),Zaz (i:=i) (by omega)]
 ·intro n
  simp only [ZeX,ZdG,Int.lt_irrefl,decide_false]
theorem ZAq {l:List Ent} (hl:l.length ≤ 1048576) (hN:1048576 < N) (f:Fl) (e:List V) (g:Fl) (x y z:Int) (k0:Nat → List V → Option R) :
  ZfT N (Zbv l) f (l.length:Int) e g x y z k0 N 0 0 [] = k0 l.length (ZaK (ZdJ l l.length)):=by
 refine ZbK (l:=fun n i=>ZfT N (Zbv l) f (l.length:Int) e g x y z k0 n i (i:Int) (ZaK (ZdJ l i))) (len:=l.length) (k1:=k0 l.length (ZaK (ZdJ l l.length))) ?_ ?_ (show l.length < N by omega)
 ·intro n i hi
  have ht:(ZaK (ZdJ l i)).take i = ZaK (ZdJ l i):=List.take_of_length_le (by rw [Zf0 (by omega)]; exact Nat.le_refl _)
  simp only [ZfT,ZdQ,Zbf hi,Int.natCast_nonneg,if_true,Int.toNat_natCast,ZbQ hi,Zag,Zcy,ht,Zlk hi,Zqf,Zf2,Bool.and_true,Zaj]
  rw [if_pos (by rw [Zf0 (by omega)]; exact Nat.le_refl _),if_pos ⟨trivial,(Zf0 (by omega)).symm,by omega,by omega⟩,Zaz (i:=i) (by omega)]
 ·intro n
  simp only [ZfT,ZdQ,Int.lt_irrefl,decide_false,Zqf,Zf2,Bool.and_true,Zaj]
def ZfJ (l:List Nod) (room cu cg:Int) (w:ByteArray):List ByteArray × Int × Bool :=
 if Zh8 l room cu cg then match Zlt N l cu cg w true with
  | some r=>if (Zg3 l r).2 == 0 then
    if Zz8 cu cg (at_ l (Zg3 l r).1.toNat).mode (at_ l (Zg3 l r).1.toNat).uid (at_ l (Zg3 l r).1.toNat).gid 4 then (ZdJ (at_ l (Zg3 l r).1.toNat).es (at_ l (Zg3 l r).1.toNat).es.length,0,true) else ([],4,true)
   else ([],(Zg3 l r).2,true)
  | none=>([],0,true)
 else ([],0,false)
theorem ZDq {l:List Nod} (hl:Small l) (room cu cg:Int) (w:ByteArray):(ZfJ N l room cu cg w).1.length ≤ 1048576:=by
 unfold ZfJ
 split
 ·rename_i h
  split
  ·rename_i r hr
   have hf:=Zjg hl h
   obtain ⟨h1,h2⟩:=Zwq hf (Zig N hf hr)
   split
   ·split
    ·have:=hl.es _ h2
     simp [ZdJ]; omega
    ·simp
   ·simp
  ·simp
 ·simp
theorem ZRk {l:List Nod} (hl:Small l) (hN:1048580 < N) {w:ByteArray} (hw:w.size ≤ 1048576) (f:Fl) (room cu cg:Int) (k:List V → Int → Bool → Option R) :
  ZHJ N (nodsV fq l) f room cu cg w k = k (ZaK (ZfJ N l room cu cg w).1) (ZfJ N l room cu cg w).2.1 (ZfJ N l room cu cg w).2.2:=by
 rw [ZyM]
 unfold Zp3 ZfJ
 rw [ZCI N hl hN]
 cases h:Zh8 l room cu cg with
 | false=>rfl
 | true =>
  have hf:=Zjg hl h
  obtain ⟨r,hr⟩:=ZsE N hf hN cu cg w true
  obtain ⟨h1,h2⟩:=Zwq hf (Zig N hf hr)
  simp only [Bool.not_true,if_true]
  rw [ZMa N hf hN hw f.noOwn.noOwn room cu cg hr,hr]
  simp only
  rw [ZnZ]
  unfold Zmq
  rw [if_pos (by omega),Zbj h2]
  simp only [Zag,ZbD,ZmS N (hf.mode _ h2) (show (0:Int) ≤ 4 ∧ (4:Int) ≤ 7 by omega),bne,Zbr,ZAD N (hl.es _ h2) (show 1048576 < N by omega)]
  rw [if_pos (show (0:Int) ≤ (Zg3 l r).1 by omega)]
  cases ((Zg3 l r).2 == 0) <;> cases Zz8 cu cg (at_ l (Zg3 l r).1.toNat).mode (at_ l (Zg3 l r).1.toNat).uid (at_ l (Zg3 l r).1.toNat).gid 4 <;> rfl
theorem ZRI {l:List Nod} (hl:Small l) (hN:1048580 < N) {w:ByteArray} (hw:w.size ≤ 1048576) (f:Fl) (room cu cg:Int) (k:Nat → Int → Bool → List V → Option R) :
  ZEG N (nodsV fq l) f room cu cg w k = k (ZfJ N l room cu cg w).1.length (ZfJ N l room cu cg w).2.1 (ZfJ N l room cu cg w).2.2 (ZaK (ZfJ N l room cu cg w).1):=by
 rw [ZxO]
 unfold ZqF ZfJ
 rw [ZCF N hl hN]
 cases h:Zh8 l room cu cg with
 | false=>rfl
 | true =>
  have hf:=Zjg hl h
  obtain ⟨r,hr⟩:=ZsE N hf hN cu cg w true
  obtain ⟨h1,h2⟩:=Zwq hf (Zig N hf hr)
  simp only [Bool.not_true,if_true]
  rw [Zu2 N hf hN hw f.noOwn.noOwn room cu cg hr,hr]
  simp only
  rw [ZoC]
  unfold Zmr
  rw [if_pos (show (0:Int) ≤ (Zg3 l r).1 by omega),if_pos (show (0:Int) ≤ (Zg3 l r).1 by omega),Zbj h2]
  have hnl:(ZdJ (at_ l (Zg3 l r).1.toNat).es (at_ l (Zg3 l r).1.toNat).es.length).length = (at_ l (Zg3 l r).1.toNat).es.length:=by simp [ZdJ]
  simp only [Zag,ZbD,Zmg,bne,Zbr,ZAq N (hl.es _ h2) (show 1048576 < N by omega),ZF7,Bool.and_true,Zaj]
  cases ((Zg3 l r).2 == 0) <;> cases Zz8 cu cg (at_ l (Zg3 l r).1.toNat).mode (at_ l (Zg3 l r).1.toNat).uid (at_ l (Zg3 l r).1.toNat).gid 4 <;> simp [hnl] <;> rfl
theorem ZRo (a:List V) (fl:Fl) (n:Int) (b:Bool) (K:List V → Fl → Int → Bool → Option R):(ZE7 (.tuple [.list 1 a fl,.int .i64 n,.bool b]) fun l48=>Zbl l48 fun v49 l50=>ZaX 1 v49 fun e51 f52=>Zbl l50 fun v53 l54=>asInt .i64 v53 fun n55=>Zbl l54 fun v56 l57=>asBool v56 fun b58=>ZiW l57 (K e51 f52 n55 b58)) = K a fl n b:=rfl
theorem law_FnExactListDir {l:List Nod} (hl:FsOk l) (f:Fl) (room cu cg:Int) (w:ByteArray) (hw:w.size ≤ 9223372036854775807) (k:Bool → Option R) :
  ZlS 1048600 (nodsV fq l) f room cu cg w k = k true:=by
 unfold ZlS ZET
 by_cases h:(w.size:Int) > 1048576
 ·rw [decide_eq_true h]
 rw [decide_eq_false h]
 simp only
 rw [ZOG 1048600 hl (by omega) _ _ _ (by omega) (by omega)]
 by_cases h2:(ZKN l:Int) ≤ 1048576
 ·have hs:=Small.of (l:=l) (by omega)
  have hN:1048580 < 1048600:=by omega
  have hN1:1048576 < 1048600:=by omega
  rw [ZjE h2,decide_eq_false (by omega)]
  have hnl:=ZDq 1048600 hs room cu cg w
  obtain ⟨L',y,m1,m2,m3⟩:=ZIW 1048600 hN1 1 l hs (by decide) room
  obtain ⟨S',s1,s2,s3⟩:=ZnT 1048600 hN1 1 (ZfJ 1048600 l room cu cg w).1 hnl (by omega)
  have m3':∀ {R:Type} (k:Int → List V → Option R),ZEs 1048600 l.length room 1 (Zcu l) k = k (y:Int) (Zcu L'):=m3
  have s3':∀ {R:Type} (k:Int → List V → Option R),ZC8 1048600 (ZfJ 1048600 l room cu cg w).1.length 1 (ZaK (ZfJ 1048600 l room cu cg w).1) k = k ((1 + (ZfJ 1048600 l room cu cg w).1.length:Nat):Int) (ZaK S'):=s3
  have hh:∀ (f:Fl) {R:Type} (k:Int → Option R),ZCo 1048600 (ZaK S') f 1 k = k ((1 + (ZfJ 1048600 l room cu cg w).1.length:Nat):Int):=fun f R k=>by
   have:=Zn9 1048600 hN1 1 S' (by omega) (by omega) (by rw [s1]; exact s2) f k
   rw [s1] at this
   exact this
  have y0:decide ((y:Int) < 0) = false:=decide_eq_false (by omega)
  have z0:decide (((1 + (ZfJ 1048600 l room cu cg w).1.length:Nat):Int) < 0) = false:=decide_eq_false (by omega)
  simp only [ZOu 1048600 hs hN1,ZI3,ZCL,ZEc,ZFX,ZDJ,ZFT,ZsY,Zhj _ (ZbP l),Zhj _ (Zbi _),Zhj _ ((Zbi S').trans s1),ZGk,ZEv,ZKa,ZbP,Zbi,s1,ZBv,ZmP,Zji,Zf2,Bool.and_true,Nat.zero_add,Nat.le_refl,decide_true,Zaj,
   ZRk 1048600 hs hN (show w.size ≤ 1048576 by omega),ZRI 1048600 hs hN (show w.size ≤ 1048576 by omega),ZO2 1048600 hs hN1,Zun 1048600 hnl hN1,m3',s3',hh,y0,z0,ZRo,bne_self_eq_false,beq_self_eq_true,Bool.not_true]
 ·rw [Zfd h2]
  rfl
end Go.VM.VL
set_option linter.unusedSimpArgs false
set_option linter.unusedVariables false
namespace Go.VM.VL
open Go
def ZdN (fs:Array Field) (ts:List (TypeId × Nat)):Prop:=fs.toList.map (fun f=>(f.type,f.offset)) = ts
theorem ZiZ {P:Program} {n:Nat} {fs:Array Field} {ts:List (TypeId × Nat)} {ds:List V} (hfs:ZdN fs ts) (h2:∀ f ∈ fs.toList,Zfm P n f.type ((ds.drop f.offset).take (P.cellsOf f.type))) :
  ∀ p ∈ ts,Zfm P n p.1 ((ds.drop p.2).take (P.cellsOf p.1)):=by
 intro p hp
 rw [← hfs] at hp
 obtain ⟨f,hf,rfl⟩:=List.mem_map.1 hp
 exact h2 f hf
theorem ZcN {P:Program} {n:Nat} {ds:List V} {t:TypeId} {o:Nat} (u:P.underlying t = some (.int .i64)) (c:P.cellsOf t = 1) (ho:o < ds.length) (h:Zfm P (n + 1) t ((ds.drop o).take (P.cellsOf t))):∃ z,nth ds o = some (.int .i64 z):=by
 obtain ⟨z,hz,_⟩:=ZIo u h
 rw [c,List.drop_eq_getElem_cons ho] at hz
 have hz':[ds[o]] = [V.int .i64 z]:=hz
 exact ⟨z,by rw [Ze6 ho,(List.cons.inj hz').1]⟩
theorem Zs2 {P:Program} {n:Nat} {ds:List V} {t:TypeId} {o:Nat} (u:P.underlying t = some .string) (c:P.cellsOf t = 1) (ho:o < ds.length) (h:Zfm P (n + 1) t ((ds.drop o).take (P.cellsOf t))):∃ s,nth ds o = some (.str s) ∧ s.size ≤ maxLen:=by
 obtain ⟨s,hz,hs⟩:=ZlF u h
 rw [c,List.drop_eq_getElem_cons ho] at hz
 have hz':[ds[o]] = [V.str s]:=hz
 exact ⟨s,by rw [Ze6 ho,(List.cons.inj hz').1],hs⟩
theorem Zru {P:Program} {n:Nat} {ds:List V} {t:TypeId} {o:Nat} (c:P.cellsOf t = 1) (ho:o < ds.length) (h:Zfm P n t ((ds.drop o).take (P.cellsOf t))):Zfm P n t [ds[o]]:=by
 rw [c,List.drop_eq_getElem_cons ho] at h
 exact h
theorem ZOI {P:Program} {n tS tI:Nat} {fs:Array Field} {ds:List V} (hl:ds.length = 2) (hfs:ZdN fs [(tS,0),(tI,1)]) (uS:P.underlying tS = some .string) (uI:P.underlying tI = some (.int .i64)) (cS:P.cellsOf tS = 1) (cI:P.cellsOf tI = 1)
  (h2:∀ f ∈ fs.toList,Zfm P (n + 1) f.type ((ds.drop f.offset).take (P.cellsOf f.type))):∃ e:Ent,V.agg ds = ZDd e ∧ e.1.size ≤ maxLen:=by
 have h3:=ZiZ hfs h2
 obtain ⟨s,hs,hz⟩:=Zs2 (o:=0) uS cS (by omega) (h3 (tS,0) (by simp))
 obtain ⟨z,hi⟩:=ZcN (o:=1) uI cI (by omega) (h3 (tI,1) (by simp))
 match ds,hl with
 | [x,y],_ =>
  obtain rfl:=Option.some.inj hs
  obtain rfl:=Option.some.inj hi
  exact ⟨(s,z),rfl,hz⟩
theorem ZOS {P:Program} {n tS tI tE tL:Nat} {fs fe:Array Field} {ds:List V} (hl:ds.length = 7) (hfs:ZdN fs [(tI,0),(tI,1),(tI,2),(tI,3),(tI,4),(tS,5),(tL,6)]) (hfe:ZdN fe [(tS,0),(tI,1)])
  (uS:P.underlying tS = some .string) (uI:P.underlying tI = some (.int .i64)) (uL:P.underlying tL = some (.slice tE)) (uE:P.underlying tE = some (.struct fe)) (cS:P.cellsOf tS = 1) (cI:P.cellsOf tI = 1) (cL:P.cellsOf tL = 1) (cE:P.cellsOf tE = 2)
  (h2:∀ f ∈ fs.toList,Zfm P (n + 3) f.type ((ds.drop f.offset).take (P.cellsOf f.type))):∃ a:Nod,V.agg ds = ZLf .sh a ∧ (a.data.size ≤ maxLen ∧ a.es.length ≤ maxLen ∧ ∀ e ∈ a.es,e.1.size ≤ maxLen):=by
 have h3:=ZiZ hfs h2
 obtain ⟨z0,i0⟩:=ZcN (o:=0) uI cI (by omega) (h3 (tI,0) (by simp))
 obtain ⟨z1,i1⟩:=ZcN (o:=1) uI cI (by omega) (h3 (tI,1) (by simp))
 obtain ⟨z2,i2⟩:=ZcN (o:=2) uI cI (by omega) (h3 (tI,2) (by simp))
 obtain ⟨z3,i3⟩:=ZcN (o:=3) uI cI (by omega) (h3 (tI,3) (by simp))
 obtain ⟨z4,i4⟩:=ZcN (o:=4) uI cI (by omega) (h3 (tI,4) (by simp))
 obtain ⟨s,hs,hz⟩:=Zs2 (o:=5) uS cS (by omega) (h3 (tS,5) (by simp))
 have hL:=Zru cL (show 6 < ds.length by omega) (h3 (tL,6) (by simp))
 obtain ⟨l,he,hel,hq⟩:=ZjT (f:=ZDd) (q:=fun e:Ent=>e.1.size ≤ maxLen) uL uE (fun ds h1 h2=>ZOI (n:=n) (h1.trans cE) hfe uS uI cS cI h2) hL
 obtain ⟨x0,x1,x2,x3,x4,x5,x6,rfl⟩:∃ x0 x1 x2 x3 x4 x5 x6,ds = [x0,x1,x2,x3,x4,x5,x6]:=by
  clear hL he h3 h2 i0 i1 i2 i3 i4 hs
  match ds,hl with
  | [x0,x1,x2,x3,x4,x5,x6],_=>exact ⟨x0,x1,x2,x3,x4,x5,x6,rfl⟩
 obtain rfl:=Option.some.inj i0
 obtain rfl:=Option.some.inj i1
 obtain rfl:=Option.some.inj i2
 obtain rfl:=Option.some.inj i3
 obtain rfl:=Option.some.inj i4
 obtain rfl:=Option.some.inj hs
 have he':x6 = .list (P.cellsOf tE) (l.map ZDd) .sh:=he
 rw [cE] at he'
 subst he'
 exact ⟨⟨z0,z1,z2,z3,z4,s,l⟩,rfl,hz,hel,hq⟩
theorem fs_of {P:Program} {n tS tI tE tL tN tM:Nat} {ff fs fe:Array Field} {ds:List V} (hl:ds.length = 2) (hff:ZdN ff [(tM,0),(tI,1)]) (hfs:ZdN fs [(tI,0),(tI,1),(tI,2),(tI,3),(tI,4),(tS,5),(tL,6)]) (hfe:ZdN fe [(tS,0),(tI,1)])
  (uM:P.underlying tM = some (.slice tN)) (uN:P.underlying tN = some (.struct fs)) (uS:P.underlying tS = some .string) (uI:P.underlying tI = some (.int .i64)) (uL:P.underlying tL = some (.slice tE)) (uE:P.underlying tE = some (.struct fe))
  (cM:P.cellsOf tM = 1) (cN:P.cellsOf tN = 7) (cS:P.cellsOf tS = 1) (cI:P.cellsOf tI = 1) (cL:P.cellsOf tL = 1) (cE:P.cellsOf tE = 2)
  (h2:∀ f ∈ ff.toList,Zfm P (n + 5) f.type ((ds.drop f.offset).take (P.cellsOf f.type))):∃ (l:List Nod) (room:Int),ds = [.list 7 (nodsV .sh l) .sh,.int .i64 room] ∧ FsOk l:=by
 have h3:=ZiZ hff h2
 obtain ⟨z,hi⟩:=ZcN (o:=1) uI cI (by omega) (h3 (tI,1) (by simp))
 have hL:=Zru cM (show 0 < ds.length by omega) (h3 (tM,0) (by simp))
 obtain ⟨l,he,hel,hq⟩:=ZjT (f:=ZLf .sh) (q:=fun a:Nod=>a.data.size ≤ maxLen ∧ a.es.length ≤ maxLen ∧ ∀ e ∈ a.es,e.1.size ≤ maxLen) uM uN (fun ds h1 h2=>ZOS (n:=n) (h1.trans cN) hfs hfe uS uI uL uE cS cI cL cE h2) hL
 obtain ⟨x,y,rfl⟩:∃ x y,ds = [x,y]:=by
  clear hL he h3 h2 hi
  match ds,hl with
  | [x,y],_=>exact ⟨x,y,rfl⟩
 ·obtain rfl:=Option.some.inj hi
  have he':x = .list (P.cellsOf tN) (l.map (ZLf .sh)) .sh:=he
  rw [cN] at he'
  subst he'
  exact ⟨l,z,rfl,hel,fun i hi=>by
   have:=hq _ (Zgm hi)
   exact ⟨this.1,this.2.1,fun j hj=>this.2.2 _ (Zgm hj)⟩⟩
theorem cred_of {P:Program} {n tI:Nat} {ff:Array Field} {ds:List V} (hl:ds.length = 2) (hff:ZdN ff [(tI,0),(tI,1)]) (uI:P.underlying tI = some (.int .i64)) (cI:P.cellsOf tI = 1)
  (h2:∀ f ∈ ff.toList,Zfm P (n + 1) f.type ((ds.drop f.offset).take (P.cellsOf f.type))):∃ a b:Int,ds = [.int .i64 a,.int .i64 b]:=by
 have h3:=ZiZ hff h2
 obtain ⟨z0,i0⟩:=ZcN (o:=0) uI cI (by omega) (h3 (tI,0) (by simp))
 obtain ⟨z1,i1⟩:=ZcN (o:=1) uI cI (by omega) (h3 (tI,1) (by simp))
 match ds,hl with
 | [x,y],_ =>
  obtain rfl:=Option.some.inj i0
  obtain rfl:=Option.some.inj i1
  exact ⟨z0,z1,rfl⟩
end Go.VM.VL
